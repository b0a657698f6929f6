/- wots.walk, Public, Sign, Recover, Verify. Conditions: the seed has at most a thousand bytes, the constants lie in their variable. -/
import Derived.Test.YthhlfcbkggahmaaDoorWClo
import Derived.Test.YthhlfcbkggahmaaDoorWEach
import Derived.Test.YthhlfcbkggahmaaDoorWKey
import Derived.Shelf.Abstract
namespace Go.Proofs.YthhlfcbkggahmaaDoor
open Go.RowKit
def okSeed (seed : List UInt8) (idx : Int) : Bool := decide (1 ≤ seed.length) && decide (seed.length ≤ 64) && decide (0 ≤ idx) && decide (idx ≤ 1023)
theorem okSeed_iff (seed : List UInt8) (idx : Int) : okSeed seed idx = true ↔ 1 ≤ seed.length ∧ seed.length ≤ 64 ∧ 0 ≤ idx ∧ idx ≤ 1023 := by
  unfold okSeed; simp [and_assoc]
theorem enters_walk1 : ∀ (args : Array Value) (w : World), (callFunc 40 args).run Tryd.prog w = .ok (.enter 40 args) w := enters_of Tryd.func40 (by kernel_rfl) rfl
theorem enters_rec1 : ∀ (args : Array Value) (w : World), (callFunc 36 args).run Tryd.prog w = .ok (.enter 36 args) w := enters_of Tryd.func36 (by kernel_rfl) rfl
set_option maxRecDepth 10000 in
set_option maxHeartbeats 2000000 in
theorem walk_bad (seed : List UInt8) (v : Value) (idx : Int) (ns : List Nat) (w : World) (hv : Bytes w v seed (fun _ => True)) (hbad : okSeed seed idx = false) :
    Calls Tryd.prog 29 #[v, .int .i64 idx, .agg (cellsN ns)] w fun e w' => e = .returned (.tuple #[.slice none 0 0, .int .i64 1]) ∧ Below w.heap.size w w' := by
  obtain ⟨av, kv, rfl⟩ : ∃ a c, v = .slice a seed.length c := by obtain ⟨a, c, h, _⟩ := hv; exact ⟨a, c, h⟩
  clear hv
  have hb0 : ∀ x : Value, Below w.heap.size w ((w.alloc (.cells #[x] 29)).alloc (.cells (cellsN ns) 48)) := fun x => ((Below.refl _ _).alloc (Nat.le_refl _) _).alloc (by simp) _
  have hc : seed.length = 0 ∨ 64 < seed.length ∨ idx < 0 ∨ 1023 < idx := by
    by_cases h1 : 1 ≤ seed.length
    · by_cases h2 : seed.length ≤ 64
      · by_cases h3 : 0 ≤ idx
        · by_cases h4 : idx ≤ 1023
          · rw [(okSeed_iff seed idx).2 ⟨h1, h2, h3, h4⟩] at hbad; cases hbad
          · exact .inr (.inr (.inr (by omega)))
        · exact .inr (.inr (.inl (by omega)))
      · exact .inr (.inl (by omega))
    · exact .inl (by omega)
  clear hbad
  generalize seed.length = n at *
  go_enter Tryd.func29, Tryd.ntmps29
  go_wp2
  all_goals first | (exfalso; omega) | (go_ret2; exact ⟨rfl, hb0 _⟩)
set_option maxRecDepth 10000 in
set_option maxHeartbeats 2000000 in
theorem walk_good (seed : List UInt8) (v : Value) (idx : Nat) (ns : List Nat) (n : Nat → Nat) (w : World) (hv : Bytes w v seed (fun _ => True)) (h1 : 1 ≤ seed.length) (h2 : seed.length ≤ 64) (h4 : idx ≤ 1023) (hns : ns.length = 18) (hn : ∀ i, i < 18 → ns.getD i 0 = n i) (hnx : ∀ i, i < 18 → n i ≤ 15) (hK : KFact w) :
    Calls Tryd.prog 29 #[v, .int .i64 (idx : Int), .agg (cellsN ns)] w fun e w' => ∃ r, e = .returned (.tuple #[r, .int .i64 0]) ∧ Digs w' r (walkOf seed idx n) ∧ Below w.heap.size w w' := by
  have hkl := hK.lt
  have hw1 : IntKind.u64.wrap (idx : Int) = (idx : Int) := IntWalk.u64_in _ (by omega)
  obtain ⟨av, kv, rfl⟩ : ∃ a c, v = .slice a seed.length c := by obtain ⟨a, c, h, _⟩ := hv; exact ⟨a, c, h⟩
  obtain ⟨x, ex⟩ : ∃ x : Value, .slice av seed.length kv = x := ⟨_, rfl⟩
  have hb0 : Below w.heap.size w ((w.alloc (.cells #[.slice av seed.length kv] 29)).alloc (.cells (cellsN ns) 48)) := ((Below.refl _ _).alloc (Nat.le_refl _) _).alloc (by simp) _
  have hs0 : Row ((w.alloc (.cells #[.slice av seed.length kv] 29)).alloc (.cells (cellsN ns) 48)) w.heap.size 29 #[.slice av seed.length kv] := (Row.new w _ _).alloc _
  have hn0 : Row ((w.alloc (.cells #[.slice av seed.length kv] 29)).alloc (.cells (cellsN ns) 48)) (w.heap.size + 1) 48 (cellsN ns) := by
    have h := Row.new (w.alloc (.cells #[.slice av seed.length kv] 29)) (cellsN ns) 48
    rwa [show (w.alloc (.cells #[.slice av seed.length kv] 29)).heap.size = w.heap.size + 1 by simp] at h
  have HNS := Lib.hid hns
  have HN := Lib.hid hn
  have HNX := Lib.hid hnx
  have hll := leb_len idx
  clear hns hn hnx
  have hnil : ∀ w : World, Bytes w (.slice none 0 0) [] (fun _ => True) := fun w => ⟨none, 0, rfl, Nat.le_refl _, by decide, .inl ⟨rfl, fun _ => rfl⟩⟩
  obtain ⟨l, el⟩ : ∃ l, seed.length = l := ⟨_, rfl⟩
  have HEL := Lib.hid el
  rw [el] at h1 h2 hb0 hs0 hn0 hv ⊢
  clear el ex
  have f1 : ((l : Int) == 0) = false := by simp; omega
  have f2 : ¬ (64 < (l : Int)) := by omega
  have f3 : ¬ ((idx : Int) < 0) := by omega
  have f4 : ¬ (1023 < (idx : Int)) := by omega
  go_enter Tryd.func29, Tryd.ntmps29
  go_wp2_with fail
  refine (uint_any [] _ idx _ _ (hnil _) (by decide) (by omega)).mono ?_
  rintro e w1 ⟨v1, rfl, ho1, hb1⟩
  rw [List.nil_append] at ho1
  have hB1 := hb0.trans (hb1.mono hb0.size)
  have hs1 := hs0.below hb1 hs0.lt
  have hn1 := hn0.below hb1 hn0.lt
  have hp1 := ho1.bytes (fun _ => True) fun _ _ => trivial
  obtain ⟨ap, kp, rfl⟩ : ∃ a c, v1 = .slice a (leb idx).length c := by obtain ⟨a, c, h, _⟩ := hp1; exact ⟨a, c, h⟩
  have hb2 : Below w1.heap.size w1 (w1.alloc (.cells #[.slice ap (leb idx).length kp] 29)) := (Below.refl _ _).alloc (Nat.le_refl _) _
  have hB2 := hB1.trans (hb2.mono hB1.size)
  have hs2 := hs1.below hb2 hs1.lt
  have hn2 := hn1.below hb2 hn1.lt
  have hp2 : Row (w1.alloc (.cells #[.slice ap (leb idx).length kp] 29)) w1.heap.size 29 #[.slice ap (leb idx).length kp] := Row.new w1 _ _
  have hpp2 := (hp1.later hb2).imp (ok' := fun _ => True) fun _ _ => trivial
  have hvv2 := (hv.later hB2).imp (ok' := fun _ => True) fun _ _ => trivial
  have hK2 := hK.below hB2 hkl
  have hkl2 := hK2.lt
  clear ho1 hb0 hs0 hn0 hb1 hB1 hs1 hn1 hp1 hb2 hv
  go_wp2_with fail
  obtain ⟨w2, ew2⟩ : ∃ w2, w1.alloc (.cells #[.slice ap (leb idx).length kp] 29) = w2 := ⟨_, rfl⟩
  rw [ew2] at hB2 hs2 hn2 hp2 hpp2 hvv2 hK2 hkl2 ⊢
  refine (weach_any 40 _ (fun i => chainOf (startOf seed idx i) (n i)) w2 enters_walk1 (fun i _ => chainOf_len _ (startOf_len _ _ _) _) (fun i w' hi hb => ?_)).mono ?_
  · have h := walk1_any i (leb idx) seed (.slice ap (leb idx).length kp) (.slice av l kv) w1.heap.size w.heap.size (w.heap.size + 1) ns (n i) w' hi (by omega) (by rw [HEL.out]; omega) ((hpp2.later hb).imp fun _ _ => trivial) ((hvv2.later hb).imp fun _ _ => trivial)
      ((hp2.below hb hp2.lt).cell 0) ((hs2.below hb hs2.lt).cell 0) (hn2.below hb hn2.lt) HNS.out (HN.out i hi) (HNX.out i hi) (hK2.below hb hkl2)
    exact h
  · rintro e w3 ⟨r, rfl, hr, hb3⟩
    have hB3 := hB2.trans (hb3.mono hB2.size)
    go_wp2
    go_ret2
    exact ⟨r, rfl, hr, hB3⟩
/-! ### the values of Public, Sign, Recover -/
def zeroD : List UInt8 := List.replicate 32 0
def errR (seed : List UInt8) (idx : Int) : Nat := if okSeed seed idx = true then 0 else 1
def pubR (seed : List UInt8) (idx : Int) : List UInt8 := if okSeed seed idx = true then pubOf seed idx.toNat else zeroD
def walkR (seed : List UInt8) (idx : Int) (n : Nat → Nat) : List (List UInt8) := if okSeed seed idx = true then walkOf seed idx.toNat n else []
def signR (seed : List UInt8) (idx : Int) (d : List UInt8) : List (List UInt8) := walkR seed idx (nib d)
def errS (sig : List (List UInt8)) : Nat := if sig.length = 18 then 0 else 1
def recR (d : List UInt8) (sig : List (List UInt8)) : List UInt8 := if sig.length = 18 then recOf d sig else zeroD
theorem pubR_len (seed : List UInt8) (idx : Int) : (pubR seed idx).length = 32 := by
  unfold pubR; split
  · exact keyOf_len _
  · rfl
theorem recR_len (d : List UInt8) (sig : List (List UInt8)) : (recR d sig).length = 32 := by
  unfold recR; split
  · exact keyOf_len _
  · rfl
theorem walkR_32 (seed : List UInt8) (idx : Int) (n : Nat → Nat) : all32 (walkR seed idx n) := by
  unfold walkR; split
  · exact walkOf_32 _ _ _
  · intro x hx; cases hx
theorem walkR_len (seed : List UInt8) (idx : Int) (n : Nat → Nat) : (walkR seed idx n).length ≤ 18 := by
  unfold walkR; split
  · exact Nat.le_of_eq (walkOf_len _ _ _)
  · simp
theorem walk_any (seed : List UInt8) (v : Value) (idx : Int) (ns : List Nat) (n : Nat → Nat) (w : World) (hv : Bytes w v seed (fun _ => True)) (hns : ns.length = 18) (hn : ∀ i, i < 18 → ns.getD i 0 = n i) (hnx : ∀ i, i < 18 → n i ≤ 15) (hK : KFact w) :
    Calls Tryd.prog 29 #[v, .int .i64 idx, .agg (cellsN ns)] w fun e w' => ∃ r, e = .returned (.tuple #[r, .int .i64 (errR seed idx : Nat)]) ∧ Digs w' r (walkR seed idx n) ∧ Below w.heap.size w w' := by
  cases hc : okSeed seed idx with
  | true =>
    obtain ⟨h1, h2, h3, h4⟩ := (okSeed_iff seed idx).1 hc
    have e : idx = (idx.toNat : Int) := by omega
    have h := walk_good seed v idx.toNat ns n w hv h1 h2 (by omega) hns hn hnx hK
    rw [← e] at h
    refine h.mono ?_
    rintro e w' ⟨r, rfl, hr, hb⟩
    refine ⟨r, ?_, ?_, hb⟩
    · unfold errR; rw [if_pos hc]; rfl
    · unfold walkR; rw [if_pos hc]; exact hr
  | false =>
    refine (walk_bad seed v idx ns w hv hc).mono ?_
    rintro e w' ⟨rfl, hb⟩
    refine ⟨.slice none 0 0, ?_, ?_, hb⟩
    · unfold errR; rw [if_neg (by rw [hc]; decide)]; rfl
    · unfold walkR; rw [if_neg (by rw [hc]; decide)]; exact Digs.nil _
theorem results_cell_row_tmp {P : Program} {fn : Func} {p u : Tmp} {ty : TypeId} (h : fn.results = #[.cell p ty, .tmp u]) (tmps : Array Value) (w : World) (g : Nat) (t : TypeId) (cs : Array Value) (fr : Nat × Nat) (d : TypeDesc)
    (hp : tmps.getD p undef = .pointer (some ⟨g, 0, none⟩)) (hg : w.heap[g]? = some (.cells cs t fr))
    (hu : P.underlying ty = some d) (hd : (match d with | .struct _ | .array _ _ => true | _ => false) = true) (hi : (P.info? ty).map (·.size) = some cs.size) :
    (results fn tmps).run P w = .ok (.tuple #[.agg cs, tmps.getD u undef]) w := by
  have hp' : tmps[p]?.getD undef = .pointer (some ⟨g, 0, none⟩) := by simpa using hp
  simp [results, h, hp', asAddr, run_loadVar_row w g t ty cs fr d hg hu hd hi]
set_option maxHeartbeats 1000000 in
theorem sign_any (seed d : List UInt8) (v : Value) (idx : Int) (w : World) (hv : Bytes w v seed (fun _ => True)) (hd : d.length = 32) (hK : KFact w) :
    Calls Tryd.prog 17 #[v, .int .i64 idx, .agg (cellsB d)] w fun e w' => ∃ r, e = .returned (.tuple #[r, .int .i64 (errR seed idx : Nat)]) ∧ Digs w' r (signR seed idx d) ∧ Below w.heap.size w w' := by
  have hkl := hK.lt
  have hb0 : Below w.heap.size w (w.alloc (.cells (cellsB d) 23)) := (Below.refl _ _).alloc (Nat.le_refl _) _
  have hd0 : Row (w.alloc (.cells (cellsB d) 23)) w.heap.size 23 (cellsB d) := Row.new w _ _
  have HD := Lib.hid hd
  have HSD := Lib.hid (Tryd.sizeD_of d hd)
  clear hd
  obtain ⟨av, kv, rfl⟩ : ∃ a c, v = .slice a seed.length c := by obtain ⟨a, c, h, _⟩ := hv; exact ⟨a, c, h⟩
  go_enter Tryd.func17, Tryd.ntmps17
  go_wp2_with (refine wpList_load_row rfl 23 (.tmp 5) rfl w.heap.size rfl 23 (cellsB d) (0, 0) _ hd0 Tryd.underD rfl HSD.out ?_)
  refine (lengths_any d _ HD.out).mono ?_
  rintro e w1 ⟨rfl, hb1⟩
  have hB1 := hb0.trans (hb1.mono hb0.size)
  have hv1 := (hv.later hB1).imp (ok' := fun _ => True) fun _ _ => trivial
  have hK1 := hK.below hB1 hkl
  clear hb0 hd0 hb1 hv
  go_wp2_with fail
  refine (walk_any seed _ idx (nibs d) (nib d) w1 hv1 (nibs_len d) (fun i hi => by rw [List.getD_eq_getElem?_getD, nibs_get d i hi]; rfl) (fun i _ => nib_le d i) hK1).mono ?_
  rintro e w2 ⟨r, rfl, hr, hb2⟩
  have hB2 := hB1.trans (hb2.mono hB1.size)
  go_wp2
  go_ret2
  exact ⟨r, rfl, hr, hB2⟩
end Go.Proofs.YthhlfcbkggahmaaDoor

/- Merged: Wots signs and recovers as the plain functions say, and so does its reference. No conditions of its own beyond those that each law states. -/
import Derived.Test.YteogcilnpkaplaaDoorM6
import Derived.Shelf.Abstract
import Derived.Test.YteogcilnpkaplaaDoorM4
import Derived.Test.YteogcilnpkaplaaDoorM5
namespace Go.Proofs.YteogcilnpkaplaaDoor
open Go.RowKit
def okSeed (seed : List UInt8) (idx : Int) : Bool := decide (1 ≤ seed.length) && decide (seed.length ≤ 64) && decide (0 ≤ idx) && decide (idx ≤ 1023)
theorem okSeed_iff (seed : List UInt8) (idx : Int) : okSeed seed idx = true ↔ 1 ≤ seed.length ∧ seed.length ≤ 64 ∧ 0 ≤ idx ∧ idx ≤ 1023 := by
  unfold okSeed; simp [and_assoc]
theorem enters_walk1 : ∀ (args : Array Value) (w : World), (callFunc 63 args).run Tryd.prog w = .ok (.enter 63 args) w := enters_of Tryd.func63 (by kernel_rfl) rfl
theorem enters_rec1 : ∀ (args : Array Value) (w : World), (callFunc 41 args).run Tryd.prog w = .ok (.enter 41 args) w := enters_of Tryd.func41 (by kernel_rfl) rfl
set_option maxRecDepth 10000 in
set_option maxHeartbeats 2000000 in
theorem walk_bad (seed : List UInt8) (v : Value) (idx : Int) (ns : List Nat) (w : World) (hv : Bytes w v seed (fun _ => True)) (hbad : okSeed seed idx = false) :
    Calls Tryd.prog 45 #[v, .int .i64 idx, .agg (cellsN ns)] w fun e w' => e = .returned (.tuple #[.slice none 0 0, .int .i64 1]) ∧ Below w.heap.size w w' := by
  obtain ⟨av, kv, rfl⟩ : ∃ a c, v = .slice a seed.length c := by obtain ⟨a, c, h, _⟩ := hv; exact ⟨a, c, h⟩
  clear hv
  have hb0 : ∀ x : Value, Below w.heap.size w ((w.alloc (.cells #[x] 22)).alloc (.cells (cellsN ns) 61)) := fun x => ((Below.refl _ _).alloc (Nat.le_refl _) _).alloc (by simp) _
  have hc : seed.length = 0 ∨ 64 < seed.length ∨ idx < 0 ∨ 1023 < idx := by
    by_cases h1 : 1 ≤ seed.length
    · by_cases h2 : seed.length ≤ 64
      · by_cases h3 : 0 ≤ idx
        · by_cases h4 : idx ≤ 1023
          · rw [(okSeed_iff seed idx).2 ⟨h1, h2, h3, h4⟩] at hbad; cases hbad
          · exact .inr (.inr (.inr (by omega)))
        · exact .inr (.inr (.inl (by omega)))
      · exact .inr (.inl (by omega))
    · exact .inl (by omega)
  clear hbad
  generalize seed.length = n at *
  go_enter Tryd.func45, Tryd.ntmps45
  go_wp2
  all_goals first | (exfalso; omega) | (go_ret2; exact ⟨rfl, hb0 _⟩)
set_option maxRecDepth 10000 in
set_option maxHeartbeats 2000000 in
theorem walk_good (seed : List UInt8) (v : Value) (idx : Nat) (ns : List Nat) (n : Nat → Nat) (w : World) (hv : Bytes w v seed (fun _ => True)) (h1 : 1 ≤ seed.length) (h2 : seed.length ≤ 64) (h4 : idx ≤ 1023) (hns : ns.length = 18) (hn : ∀ i, i < 18 → ns.getD i 0 = n i) (hnx : ∀ i, i < 18 → n i ≤ 15) (hK : KFact w) :
    Calls Tryd.prog 45 #[v, .int .i64 (idx : Int), .agg (cellsN ns)] w fun e w' => ∃ r, e = .returned (.tuple #[r, .int .i64 0]) ∧ Digs w' r (walkOf seed idx n) ∧ Below w.heap.size w w' := by
  have hkl := hK.lt
  have hw1 : IntKind.u64.wrap (idx : Int) = (idx : Int) := IntWalk.u64_in _ (by omega)
  obtain ⟨av, kv, rfl⟩ : ∃ a c, v = .slice a seed.length c := by obtain ⟨a, c, h, _⟩ := hv; exact ⟨a, c, h⟩
  obtain ⟨x, ex⟩ : ∃ x : Value, .slice av seed.length kv = x := ⟨_, rfl⟩
  have hb0 : Below w.heap.size w ((w.alloc (.cells #[.slice av seed.length kv] 22)).alloc (.cells (cellsN ns) 61)) := ((Below.refl _ _).alloc (Nat.le_refl _) _).alloc (by simp) _
  have hs0 : Row ((w.alloc (.cells #[.slice av seed.length kv] 22)).alloc (.cells (cellsN ns) 61)) w.heap.size 22 #[.slice av seed.length kv] := (Row.new w _ _).alloc _
  have hn0 : Row ((w.alloc (.cells #[.slice av seed.length kv] 22)).alloc (.cells (cellsN ns) 61)) (w.heap.size + 1) 61 (cellsN ns) := by
    have h := Row.new (w.alloc (.cells #[.slice av seed.length kv] 22)) (cellsN ns) 61
    rwa [show (w.alloc (.cells #[.slice av seed.length kv] 22)).heap.size = w.heap.size + 1 by simp] at h
  have HNS := Lib.hid hns
  have HN := Lib.hid hn
  have HNX := Lib.hid hnx
  have hll := leb_len idx
  clear hns hn hnx
  have hnil : ∀ w : World, Bytes w (.slice none 0 0) [] (fun _ => True) := fun w => ⟨none, 0, rfl, Nat.le_refl _, by decide, .inl ⟨rfl, fun _ => rfl⟩⟩
  obtain ⟨l, el⟩ : ∃ l, seed.length = l := ⟨_, rfl⟩
  have HEL := Lib.hid el
  rw [el] at h1 h2 hb0 hs0 hn0 hv ⊢
  clear el ex
  have f1 : ((l : Int) == 0) = false := by simp; omega
  have f2 : ¬ (64 < (l : Int)) := by omega
  have f3 : ¬ ((idx : Int) < 0) := by omega
  have f4 : ¬ (1023 < (idx : Int)) := by omega
  go_enter Tryd.func45, Tryd.ntmps45
  go_wp2_with fail
  refine (uint_any [] _ idx _ _ (hnil _) (by decide) (by omega)).mono ?_
  rintro e w1 ⟨v1, rfl, ho1, hb1⟩
  rw [List.nil_append] at ho1
  have hB1 := hb0.trans (hb1.mono hb0.size)
  have hs1 := hs0.below hb1 hs0.lt
  have hn1 := hn0.below hb1 hn0.lt
  have hp1 := ho1.bytes (fun _ => True) fun _ _ => trivial
  obtain ⟨ap, kp, rfl⟩ : ∃ a c, v1 = .slice a (leb idx).length c := by obtain ⟨a, c, h, _⟩ := hp1; exact ⟨a, c, h⟩
  have hb2 : Below w1.heap.size w1 (w1.alloc (.cells #[.slice ap (leb idx).length kp] 22)) := (Below.refl _ _).alloc (Nat.le_refl _) _
  have hB2 := hB1.trans (hb2.mono hB1.size)
  have hs2 := hs1.below hb2 hs1.lt
  have hn2 := hn1.below hb2 hn1.lt
  have hp2 : Row (w1.alloc (.cells #[.slice ap (leb idx).length kp] 22)) w1.heap.size 22 #[.slice ap (leb idx).length kp] := Row.new w1 _ _
  have hpp2 := (hp1.later hb2).imp (ok' := fun _ => True) fun _ _ => trivial
  have hvv2 := (hv.later hB2).imp (ok' := fun _ => True) fun _ _ => trivial
  have hK2 := hK.below hB2 hkl
  have hkl2 := hK2.lt
  clear ho1 hb0 hs0 hn0 hb1 hB1 hs1 hn1 hp1 hb2 hv
  go_wp2_with fail
  obtain ⟨w2, ew2⟩ : ∃ w2, w1.alloc (.cells #[.slice ap (leb idx).length kp] 22) = w2 := ⟨_, rfl⟩
  rw [ew2] at hB2 hs2 hn2 hp2 hpp2 hvv2 hK2 hkl2 ⊢
  refine (weach_any 63 _ (fun i => chainOf (startOf seed idx i) (n i)) w2 enters_walk1 (fun i _ => chainOf_len _ (startOf_len _ _ _) _) (fun i w' hi hb => ?_)).mono ?_
  · have h := walk1_any i (leb idx) seed (.slice ap (leb idx).length kp) (.slice av l kv) w1.heap.size w.heap.size (w.heap.size + 1) ns (n i) w' hi (by omega) (by rw [HEL.out]; omega) ((hpp2.later hb).imp fun _ _ => trivial) ((hvv2.later hb).imp fun _ _ => trivial)
      ((hp2.below hb hp2.lt).cell 0) ((hs2.below hb hs2.lt).cell 0) (hn2.below hb hn2.lt) HNS.out (HN.out i hi) (HNX.out i hi) (hK2.below hb hkl2)
    exact h
  · rintro e w3 ⟨r, rfl, hr, hb3⟩
    have hB3 := hB2.trans (hb3.mono hB2.size)
    go_wp2
    go_ret2
    exact ⟨r, rfl, hr, hB3⟩
/-! ### the values of Public, Sign, Recover -/
def zeroD : List UInt8 := List.replicate 32 0
def errR (seed : List UInt8) (idx : Int) : Nat := if okSeed seed idx = true then 0 else 1
def pubR (seed : List UInt8) (idx : Int) : List UInt8 := if okSeed seed idx = true then pubOf seed idx.toNat else zeroD
def walkR (seed : List UInt8) (idx : Int) (n : Nat → Nat) : List (List UInt8) := if okSeed seed idx = true then walkOf seed idx.toNat n else []
def signR (seed : List UInt8) (idx : Int) (d : List UInt8) : List (List UInt8) := walkR seed idx (nib d)
def errS (sig : List (List UInt8)) : Nat := if sig.length = 18 then 0 else 1
def recR (d : List UInt8) (sig : List (List UInt8)) : List UInt8 := if sig.length = 18 then recOf d sig else zeroD
theorem pubR_len (seed : List UInt8) (idx : Int) : (pubR seed idx).length = 32 := by
  unfold pubR; split
  · exact keyOf_len _
  · rfl
theorem recR_len (d : List UInt8) (sig : List (List UInt8)) : (recR d sig).length = 32 := by
  unfold recR; split
  · exact keyOf_len _
  · rfl
theorem walkR_32 (seed : List UInt8) (idx : Int) (n : Nat → Nat) : all32 (walkR seed idx n) := by
  unfold walkR; split
  · exact walkOf_32 _ _ _
  · intro x hx; cases hx
theorem walkR_len (seed : List UInt8) (idx : Int) (n : Nat → Nat) : (walkR seed idx n).length ≤ 18 := by
  unfold walkR; split
  · exact Nat.le_of_eq (walkOf_len _ _ _)
  · simp
theorem walk_any (seed : List UInt8) (v : Value) (idx : Int) (ns : List Nat) (n : Nat → Nat) (w : World) (hv : Bytes w v seed (fun _ => True)) (hns : ns.length = 18) (hn : ∀ i, i < 18 → ns.getD i 0 = n i) (hnx : ∀ i, i < 18 → n i ≤ 15) (hK : KFact w) :
    Calls Tryd.prog 45 #[v, .int .i64 idx, .agg (cellsN ns)] w fun e w' => ∃ r, e = .returned (.tuple #[r, .int .i64 (errR seed idx : Nat)]) ∧ Digs w' r (walkR seed idx n) ∧ Below w.heap.size w w' := by
  cases hc : okSeed seed idx with
  | true =>
    obtain ⟨h1, h2, h3, h4⟩ := (okSeed_iff seed idx).1 hc
    have e : idx = (idx.toNat : Int) := by omega
    have h := walk_good seed v idx.toNat ns n w hv h1 h2 (by omega) hns hn hnx hK
    rw [← e] at h
    refine h.mono ?_
    rintro e w' ⟨r, rfl, hr, hb⟩
    refine ⟨r, ?_, ?_, hb⟩
    · unfold errR; rw [if_pos hc]; rfl
    · unfold walkR; rw [if_pos hc]; exact hr
  | false =>
    refine (walk_bad seed v idx ns w hv hc).mono ?_
    rintro e w' ⟨rfl, hb⟩
    refine ⟨.slice none 0 0, ?_, ?_, hb⟩
    · unfold errR; rw [if_neg (by rw [hc]; decide)]; rfl
    · unfold walkR; rw [if_neg (by rw [hc]; decide)]; exact Digs.nil _
theorem results_cell_row_tmp {P : Program} {fn : Func} {p u : Tmp} {ty : TypeId} (h : fn.results = #[.cell p ty, .tmp u]) (tmps : Array Value) (w : World) (g : Nat) (t : TypeId) (cs : Array Value) (fr : Nat × Nat) (d : TypeDesc)
    (hp : tmps.getD p undef = .pointer (some ⟨g, 0, none⟩)) (hg : w.heap[g]? = some (.cells cs t fr))
    (hu : P.underlying ty = some d) (hd : (match d with | .struct _ | .array _ _ => true | _ => false) = true) (hi : (P.info? ty).map (·.size) = some cs.size) :
    (results fn tmps).run P w = .ok (.tuple #[.agg cs, tmps.getD u undef]) w := by
  have hp' : tmps[p]?.getD undef = .pointer (some ⟨g, 0, none⟩) := by simpa using hp
  simp [results, h, hp', asAddr, run_loadVar_row w g t ty cs fr d hg hu hd hi]
set_option maxHeartbeats 1000000 in
theorem sign_any (seed d : List UInt8) (v : Value) (idx : Int) (w : World) (hv : Bytes w v seed (fun _ => True)) (hd : d.length = 32) (hK : KFact w) :
    Calls Tryd.prog 34 #[v, .int .i64 idx, .agg (cellsB d)] w fun e w' => ∃ r, e = .returned (.tuple #[r, .int .i64 (errR seed idx : Nat)]) ∧ Digs w' r (signR seed idx d) ∧ Below w.heap.size w w' := by
  have hkl := hK.lt
  have hb0 : Below w.heap.size w (w.alloc (.cells (cellsB d) 25)) := (Below.refl _ _).alloc (Nat.le_refl _) _
  have hd0 : Row (w.alloc (.cells (cellsB d) 25)) w.heap.size 25 (cellsB d) := Row.new w _ _
  have HD := Lib.hid hd
  have HSD := Lib.hid (Tryd.sizeD_of d hd)
  clear hd
  obtain ⟨av, kv, rfl⟩ : ∃ a c, v = .slice a seed.length c := by obtain ⟨a, c, h, _⟩ := hv; exact ⟨a, c, h⟩
  go_enter Tryd.func34, Tryd.ntmps34
  go_wp2_with (refine wpList_load_row rfl 25 (.tmp 5) rfl w.heap.size rfl 25 (cellsB d) (0, 0) _ hd0 Tryd.underD rfl HSD.out ?_)
  refine (lengths_any d _ HD.out).mono ?_
  rintro e w1 ⟨rfl, hb1⟩
  have hB1 := hb0.trans (hb1.mono hb0.size)
  have hv1 := (hv.later hB1).imp (ok' := fun _ => True) fun _ _ => trivial
  have hK1 := hK.below hB1 hkl
  clear hb0 hd0 hb1 hv
  go_wp2_with fail
  refine (walk_any seed _ idx (nibs d) (nib d) w1 hv1 (nibs_len d) (fun i hi => by rw [List.getD_eq_getElem?_getD, nibs_get d i hi]; rfl) (fun i _ => nib_le d i) hK1).mono ?_
  rintro e w2 ⟨r, rfl, hr, hb2⟩
  have hB2 := hB1.trans (hb2.mono hB1.size)
  go_wp2
  go_ret2
  exact ⟨r, rfl, hr, hB2⟩
end Go.Proofs.YteogcilnpkaplaaDoor

namespace Go.Proofs.YteogcilnpkaplaaDoor
open Go.RowKit
def r15 (i : Nat) : List Nat := List.replicate i 15 ++ List.replicate (18 - i) 0
theorem r15_len (i : Nat) (h : i ≤ 18) : (r15 i).length = 18 := by unfold r15; simp; omega
theorem r15_set (i : Nat) (h : i < 18) : (r15 i).set i 15 = r15 (i + 1) := by
  unfold r15
  rw [List.set_append_right _ _ (by simp)]
  simp only [List.length_replicate, Nat.sub_self]
  rw [show 18 - i = (18 - (i + 1)) + 1 by omega, List.replicate_succ, List.set_cons_zero, List.replicate_succ', List.append_assoc]
  rfl
theorem r15_all (i : Nat) (hi : i < 18) : (r15 18).getD i 0 = 15 := by
  unfold r15
  rw [List.getD_eq_getElem?_getD, List.getElem?_append_left (by simpa using hi), List.getElem?_replicate, if_pos hi]; rfl
theorem errR_ok {seed : List UInt8} {idx : Int} (h : okSeed seed idx = true) : errR seed idx = 0 := by unfold errR; rw [if_pos h]
theorem errR_bad {seed : List UInt8} {idx : Int} (h : okSeed seed idx = false) : errR seed idx = 1 := by unfold errR; rw [if_neg (by rw [h]; decide)]
set_option maxRecDepth 10000 in
set_option maxHeartbeats 2000000 in
theorem public_any (seed : List UInt8) (v : Value) (idx : Int) (w : World) (hv : Bytes w v seed (fun _ => True)) (hK : KFact w) :
    Calls Tryd.prog 19 #[v, .int .i64 idx] w fun e w' => e = .returned (.tuple #[.agg (cellsB (pubR seed idx)), .int .i64 (errR seed idx : Nat)]) ∧ Below w.heap.size w w' := by
  have hkl := hK.lt
  obtain ⟨av, kv, rfl⟩ : ∃ a c, v = .slice a seed.length c := by obtain ⟨a, c, h, _⟩ := hv; exact ⟨a, c, h⟩
  have hb0 : Below w.heap.size w ((w.alloc (.cells (cellsB (List.replicate 32 0)) 25)).alloc (.cells (cellsN (r15 0)) 61)) := ((Below.refl _ _).alloc (Nat.le_refl _) _).alloc (by simp) _
  have hD0 : Row ((w.alloc (.cells (cellsB (List.replicate 32 0)) 25)).alloc (.cells (cellsN (r15 0)) 61)) w.heap.size 25 (cellsB (List.replicate 32 0)) := (Row.new w _ _).alloc _
  have hn0 : Row ((w.alloc (.cells (cellsB (List.replicate 32 0)) 25)).alloc (.cells (cellsN (r15 0)) 61)) (w.heap.size + 1) 61 (cellsN (r15 0)) := by
    have h := Row.new (w.alloc (.cells (cellsB (List.replicate 32 0)) 25)) (cellsN (r15 0)) 61
    rwa [show (w.alloc (.cells (cellsB (List.replicate 32 0)) 25)).heap.size = w.heap.size + 1 by simp] at h
  go_enter Tryd.func19, Tryd.ntmps19
  go_wp2
  go_loopw [10] (fun t wr => ∃ i : Nat, i ≤ 18 ∧ t = .int .i64 (i : Int) ∧ Below w.heap.size w wr ∧ Row wr w.heap.size 25 (cellsB (List.replicate 32 0)) ∧ Row wr (w.heap.size + 1) 61 (cellsN (r15 i))) (fun t _ => 18 - (intOf t).toNat)
  case atStart => exact ⟨0, by omega, rfl, hb0, hD0, hn0⟩
  case round =>
    clear hb0 hD0 hn0
    obtain ⟨i, hi, rfl, hb, hD, hn⟩ := hrel
    by_cases hlt : i < 18
    · have f2 := hn.free i
      have c2 := hn.num i (by rw [r15_len i hi]; exact hlt)
      have hset := hn.setN i 15
      rw [r15_set i hlt] at hset
      go_wp2
      go_roundw
      case rel => exact ⟨i + 1, by omega, by go_num, hb.setCell (by simp) _, hD.other _ _ (by simp), hset⟩
      case measure => simp [intOf]; omega
    · obtain rfl : i = 18 := by omega
      have HSN := Lib.hid (Tryd.size18_of (r15 18) (r15_len 18 (by decide)))
      have hv1 := (hv.later hb).imp (ok' := fun _ => True) fun _ _ => trivial
      have hK1 := hK.below hb hkl
      clear hv
      go_wp2_with (refine wpList_load_row rfl 61 (.tmp 6) rfl (w.heap.size + 1) rfl 61 (cellsN (r15 18)) (0, 0) _ hn Tryd.under18 rfl HSN.out ?_)
      refine (walk_any seed _ idx (r15 18) (fun _ => 15) wr hv1 (r15_len 18 (by decide)) (fun i hi => r15_all i hi) (fun _ _ => Nat.le_refl _) hK1).mono ?_
      rintro e w2 ⟨r, rfl, hr, hb2⟩
      have hB2 := hb.trans (hb2.mono hb.size)
      have hD2 := hD.below hb2 hD.lt
      have hK2 := hK1.below hb2 hK1.lt
      clear hb hn hD hb2 hv1 hK1
      cases hc : okSeed seed idx with
      | true =>
        have hp : pubR seed idx = keyOf (walkR seed idx fun _ => 15) := by unfold pubR walkR; rw [if_pos hc, if_pos hc]; rfl
        have HE := Lib.hid (errR_ok hc)
        rw [errR_ok hc]
        obtain ⟨xs, hxs⟩ : ∃ xs, walkR seed idx (fun _ => 15) = xs := ⟨_, rfl⟩
        have h32 : all32 xs := by rw [← hxs]; exact walkR_32 _ _ _
        have hxl : xs.length ≤ 18 := by rw [← hxs]; exact walkR_len _ _ _
        rw [hxs] at hr hp
        have HP := Lib.hid hp
        clear hxs hp hc
        go_wp2_with fail
        refine (key_any xs r w2 hr h32 (by omega) hK2).mono ?_
        rintro e w3 ⟨rfl, hb3⟩
        have hB3 := hB2.trans (hb3.mono hB2.size)
        have hD3 := hD2.below hb3 hD2.lt
        have HSZ := Lib.hid (Tryd.sizeD_of _ (keyOf_len xs))
        have HCS : Hid ((cellsB (keyOf xs)).size = (cellsB (List.replicate 32 0)).size) := Lib.hid (by rw [cellsB_size, keyOf_len]; rfl)
        clear hB2 hD2 hb3 hr
        go_wp2_with (refine wpList_store_row rfl 25 (.tmp 4) (.tmp 28) rfl w.heap.size rfl (cellsB (keyOf xs)) _ 25 rfl hD3 HCS.out HSZ.out (cellsB_one _) ?_; intro w9 hg9 hr9 hz9)
        refine bodyPost_ret (results_cell_row_tmp rfl _ _ w.heap.size 25 (cellsB (keyOf xs)) (0, 0) _ rfl hr9 Tryd.underD rfl HSZ.out) rfl ⟨by rw [HP.out, HE.out]; rfl, ?_⟩
        exact hB3.grown hg9 hB3.size (fun k hk => by cases hk; exact Nat.le_refl _)
      | false =>
        have hp : pubR seed idx = zeroD := by unfold pubR; rw [if_neg (by rw [hc]; decide)]
        have HE := Lib.hid (errR_bad hc)
        have HP := Lib.hid hp
        rw [errR_bad hc]
        clear hp hc
        have HSZ := Lib.hid (Tryd.sizeD_of zeroD rfl)
        have HCS : Hid ((cellsB zeroD).size = (cellsB (List.replicate 32 0)).size) := rfl
        go_wp2_with (refine wpList_store_row rfl 25 (.tmp 4) (.tmp 25) rfl w.heap.size rfl (cellsB zeroD) _ 25 rfl hD2 HCS.out HSZ.out (cellsB_one _) ?_; intro w9 hg9 hr9 hz9)
        refine bodyPost_ret (results_cell_row_tmp rfl _ _ w.heap.size 25 (cellsB zeroD) (0, 0) _ rfl hr9 Tryd.underD rfl HSZ.out) rfl ⟨by rw [HP.out, HE.out]; rfl, ?_⟩
        exact hB2.grown hg9 hB2.size (fun k hk => by cases hk; exact Nat.le_refl _)
theorem errS_ok {sig : List (List UInt8)} (h : sig.length = 18) : errS sig = 0 := by unfold errS; rw [if_pos h]
theorem errS_bad {sig : List (List UInt8)} (h : ¬ sig.length = 18) : errS sig = 1 := by unfold errS; rw [if_neg h]
set_option maxRecDepth 10000 in
set_option maxHeartbeats 2000000 in
theorem recover_any (d : List UInt8) (sig : List (List UInt8)) (v : Value) (w : World) (hd : d.length = 32) (hv : Digs w v sig) (h32 : all32 sig) (hK : KFact w) :
    Calls Tryd.prog 17 #[.agg (cellsB d), v] w fun e w' => e = .returned (.tuple #[.agg (cellsB (recR d sig)), .int .i64 (errS sig : Nat)]) ∧ Below w.heap.size w w' := by
  have hkl := hK.lt
  obtain ⟨av, kv, rfl⟩ := hv.form
  have HD := Lib.hid hd
  have HSD := Lib.hid (Tryd.sizeD_of d hd)
  clear hd
  have e1 : (w.alloc (.cells (cellsB d) 25)).heap.size = w.heap.size + 1 := by simp
  have e2 : ∀ o, ((w.alloc (.cells (cellsB d) 25)).alloc o).heap.size = w.heap.size + 1 + 1 := by simp
  have hb0 : Below w.heap.size w (((w.alloc (.cells (cellsB d) 25)).alloc (.cells #[.slice av sig.length kv] 29)).alloc (.cells (cellsB (List.replicate 32 0)) 25)) := (((Below.refl _ _).alloc (Nat.le_refl _) _).alloc (by omega) _).alloc (by rw [e2]; omega) _
  have hd0 : Row (((w.alloc (.cells (cellsB d) 25)).alloc (.cells #[.slice av sig.length kv] 29)).alloc (.cells (cellsB (List.replicate 32 0)) 25)) w.heap.size 25 (cellsB d) := ((Row.new w _ _).alloc _).alloc _
  have hs0 : Row (((w.alloc (.cells (cellsB d) 25)).alloc (.cells #[.slice av sig.length kv] 29)).alloc (.cells (cellsB (List.replicate 32 0)) 25)) (w.heap.size + 1) 29 #[.slice av sig.length kv] := by
    have h := (Row.new (w.alloc (.cells (cellsB d) 25)) #[.slice av sig.length kv] 29).alloc (.cells (cellsB (List.replicate 32 0)) 25)
    rwa [e1] at h
  have hD0 : Row (((w.alloc (.cells (cellsB d) 25)).alloc (.cells #[.slice av sig.length kv] 29)).alloc (.cells (cellsB (List.replicate 32 0)) 25)) (w.heap.size + 1 + 1) 25 (cellsB (List.replicate 32 0)) := by
    have h := Row.new ((w.alloc (.cells (cellsB d) 25)).alloc (.cells #[.slice av sig.length kv] 29)) (cellsB (List.replicate 32 0)) 25
    rwa [e2] at h
  clear e1 e2
  by_cases hl : sig.length = 18
  · have HE := Lib.hid (errS_ok hl)
    have HP : Hid (recR d sig = keyOf (endsOf d sig)) := by show _ = _; unfold recR; rw [if_pos hl]; rfl
    rw [hl] at hv hb0 hd0 hs0 hD0 ⊢
    have HL := Lib.hid hl
    have HKL := Lib.hid (keyOf_len (endsOf d sig))
    clear hl
    go_enter Tryd.func17, Tryd.ntmps17
    go_wp2_with (refine wpList_load_row rfl 25 (.tmp 2) rfl w.heap.size rfl 25 (cellsB d) (0, 0) _ hd0 Tryd.underD rfl HSD.out ?_)
    refine (lengths_any d _ HD.out).mono ?_
    rintro e w1 ⟨rfl, hb1⟩
    have hB1 := hb0.trans (hb1.mono hb0.size)
    have hs1 := hs0.below hb1 hs0.lt
    have hD1 := hD0.below hb1 hD0.lt
    clear hb0 hd0 hs0 hD0 hb1
    have HSN := Lib.hid (Tryd.size18_of (nibs d) (nibs_len d))
    have HZ : Hid ((cellsN (nibs d)).size = (cellsN (List.replicate 18 0)).size) := Lib.hid (by rw [cellsN_size, nibs_len]; rfl)
    go_wp2_with (refine wpList_store_row rfl 61 (.tmp 6) (.tmp 12) rfl w1.heap.size rfl (cellsN (nibs d)) (cellsN (List.replicate 18 0)) 61 rfl (Row.new w1 _ _) HZ.out HSN.out (cellsN_one _) ?_; intro w2 hg2 hr2 hz2)
    have hb2 : Below w1.heap.size w1 w2 := ((Below.refl _ _).alloc (Nat.le_refl _) _).grown hg2 (by simp) (fun k hk => by cases hk; exact Nat.le_refl _)
    have hB2 := hB1.trans (hb2.mono hB1.size)
    have hs2 := hs1.below hb2 hs1.lt
    have hD2 := hD1.below hb2 hD1.lt
    have hv2 := hv.later hB2
    have hK2 := hK.below hB2 hkl
    have hkl2 := hK2.lt
    clear hs1 hD1 hg2 hv hz2
    refine (weach_any 41 _ (fun i => chainOf (sig.getD i []) (15 - nib d i)) w2 enters_rec1 (fun i hi => chainOf_len _ (all32_getD h32 i (by rw [HL.out]; exact hi)) _) (fun i w' hi hb => ?_)).mono ?_
    · exact rec1_any i sig (.slice av 18 kv) (w.heap.size + 1) w1.heap.size (nibs d) (nib d i) w' hi h32 HL.out (hv2.later hb) ((hs2.below hb hs2.lt).cell 0) (hr2.below hb hr2.lt) (nibs_len d) (by rw [List.getD_eq_getElem?_getD, nibs_get d i hi]; rfl) (nib_le d i) (hK2.below hb hkl2)
    · rintro e w3 ⟨r, rfl, hr, hb3⟩
      have hB3 := hB2.trans (hb3.mono hB2.size)
      have hD3 := hD2.below hb3 hD2.lt
      have hK3 := hK2.below hb3 hkl2
      have hr' : Digs w3 r (endsOf d sig) := hr
      clear hr hB2 hs2 hD2 hv2 hK2 hb3
      have h32e := endsOf_32 d sig h32 HL.out
      have hle := endsOf_len d sig
      generalize endsOf d sig = xs at *
      go_wp2_with fail
      refine (key_any xs r w3 hr' h32e (by omega) hK3).mono ?_
      rintro e w4 ⟨rfl, hb4⟩
      have hB4 := hB3.trans (hb4.mono hB3.size)
      have hD4 := hD3.below hb4 hD3.lt
      have HSZ := Lib.hid (Tryd.sizeD_of _ (keyOf_len xs))
      have HCS : Hid ((cellsB (keyOf xs)).size = (cellsB (List.replicate 32 0)).size) := Lib.hid (by rw [cellsB_size, keyOf_len]; rfl)
      clear hB3 hD3 hb4 hr' hK3
      go_wp2_with (refine wpList_store_row rfl 25 (.tmp 4) (.tmp 15) rfl (w.heap.size + 1 + 1) rfl (cellsB (keyOf xs)) _ 25 rfl hD4 HCS.out HSZ.out (cellsB_one _) ?_; intro w9 hg9 hr9 hz9)
      refine bodyPost_ret (results_cell_row_tmp rfl _ _ (w.heap.size + 1 + 1) 25 (cellsB (keyOf xs)) (0, 0) _ rfl hr9 Tryd.underD rfl HSZ.out) rfl ⟨by rw [HP.out, HE.out]; rfl, ?_⟩
      exact hB4.grown hg9 hB4.size (fun k hk => by cases hk; omega)
  · have HE := Lib.hid (errS_bad hl)
    have HP : Hid (recR d sig = zeroD) := by show _ = _; unfold recR; rw [if_neg hl]
    have HSZ := Lib.hid (Tryd.sizeD_of zeroD rfl)
    have HCS : Hid ((cellsB zeroD).size = (cellsB (List.replicate 32 0)).size) := rfl
    have hl2 : ¬ (sig.length : Int) = 18 := by omega
    clear hv
    generalize sig.length = n at *
    go_enter Tryd.func17, Tryd.ntmps17
    go_wp2_with (refine wpList_store_row rfl 25 (.tmp 4) (.tmp 10) rfl (w.heap.size + 1 + 1) rfl (cellsB zeroD) _ 25 rfl hD0 HCS.out HSZ.out (cellsB_one _) ?_; intro w9 hg9 hr9 hz9)
    refine bodyPost_ret (results_cell_row_tmp rfl _ _ (w.heap.size + 1 + 1) 25 (cellsB zeroD) (0, 0) _ rfl hr9 Tryd.underD rfl HSZ.out) rfl ⟨by rw [HP.out, HE.out]; rfl, ?_⟩
    exact hb0.grown hg9 hb0.size (fun k hk => by cases hk; omega)
end Go.Proofs.YteogcilnpkaplaaDoor

namespace Go.Proofs.YteogcilnpkaplaaDoor
open Go.RowKit
set_option maxHeartbeats 1000000 in
theorem rvalid_any (seed : List UInt8) (v : Value) (idx : Int) (w : World) (hv : Bytes w v seed (fun _ => True)) :
    Calls Tryd.prog 52 #[v, .int .i64 idx] w fun e w' => e = .returned (.bool (okSeed seed idx)) ∧ w' = w := by
  obtain ⟨av, kv, rfl⟩ : ∃ a c, v = .slice a seed.length c := by obtain ⟨a, c, h, _⟩ := hv; exact ⟨a, c, h⟩
  have hok : okSeed seed idx = (decide (1 ≤ (seed.length : Int)) && decide ((seed.length : Int) ≤ 64) && decide (0 ≤ idx) && decide (idx ≤ 1023)) := by
    unfold okSeed
    congr 3
    · exact decide_eq_decide.2 (by omega)
    · exact decide_eq_decide.2 (by omega)
  have HOK := Lib.hid hok
  clear hv hok
  generalize okSeed seed idx = r at *
  by_cases h1 : 1 ≤ (seed.length : Int)
  · by_cases h2 : (seed.length : Int) ≤ 64
    · by_cases h3 : 0 ≤ idx
      · by_cases h4 : idx ≤ 1023
        · rw [decide_eq_true h1, decide_eq_true h2, decide_eq_true h3, decide_eq_true h4] at HOK
          go_enter Tryd.func52, Tryd.ntmps52
          go_wp2
          go_ret
          exact ⟨by rw [HOK.out]; rfl, rfl⟩
        · rw [decide_eq_true h1, decide_eq_true h2, decide_eq_true h3, decide_eq_false h4] at HOK
          go_enter Tryd.func52, Tryd.ntmps52
          go_wp2
          go_ret
          exact ⟨by rw [HOK.out]; rfl, rfl⟩
      · rw [decide_eq_true h1, decide_eq_true h2, decide_eq_false h3] at HOK
        go_enter Tryd.func52, Tryd.ntmps52
        go_wp2
        go_ret
        exact ⟨by rw [HOK.out]; rfl, rfl⟩
    · rw [decide_eq_true h1, decide_eq_false h2] at HOK
      go_enter Tryd.func52, Tryd.ntmps52
      go_wp2
      go_ret
      exact ⟨by rw [HOK.out]; rfl, rfl⟩
  · rw [decide_eq_false h1] at HOK
    go_enter Tryd.func52, Tryd.ntmps52
    go_wp2
    go_ret
    exact ⟨by rw [HOK.out]; rfl, rfl⟩
def tabN (f : Nat → List UInt8) (i : Nat) : List (List UInt8) := (List.range i).map f
theorem tabN_succ (f : Nat → List UInt8) (i : Nat) : tabN f (i + 1) = tabN f i ++ [f i] := by unfold tabN; rw [List.range_succ]; simp
theorem tabN_len (f : Nat → List UInt8) (i : Nat) : (tabN f i).length = i := by simp [tabN]
set_option maxRecDepth 10000 in
set_option maxHeartbeats 2000000 in
theorem rpublic_any (seed : List UInt8) (v : Value) (idx : Int) (w : World) (hv : Bytes w v seed (fun _ => True)) (hK : RKFact w) (hI : RIFact w) :
    Calls Tryd.prog 51 #[v, .int .i64 idx] w fun e w' => e = .returned (.tuple #[.agg (cellsB (pubR seed idx)), .int .i64 (errR seed idx : Nat)]) ∧ Below w.heap.size w w' := by
  have hkl := hK.lt
  have hil := hI.lt
  obtain ⟨av, kv, rfl⟩ : ∃ a c, v = .slice a seed.length c := by obtain ⟨a, c, h, _⟩ := hv; exact ⟨a, c, h⟩
  have hb0 : Below w.heap.size w (w.alloc (.cells (cellsB (List.replicate 32 0)) 25)) := (Below.refl _ _).alloc (Nat.le_refl _) _
  have hD0 : Row (w.alloc (.cells (cellsB (List.replicate 32 0)) 25)) w.heap.size 25 (cellsB (List.replicate 32 0)) := Row.new w _ _
  have hz0 : w.heap.size + 1 ≤ (w.alloc (.cells (cellsB (List.replicate 32 0)) 25)).heap.size := by simp
  have hv0 := (hv.later hb0).imp (ok' := fun _ => True) fun _ _ => trivial
  go_enter Tryd.func51, Tryd.ntmps51
  go_wp2_with fail
  refine (rvalid_any seed _ idx _ hv0).mono ?_
  rintro e w1 ⟨rfl, rfl⟩
  cases hc : okSeed seed idx with
  | false =>
    have HE := Lib.hid (errR_bad hc)
    have HP : Hid (pubR seed idx = zeroD) := by show _ = _; unfold pubR; rw [if_neg (by rw [hc]; decide)]
    have HSZ := Lib.hid (Tryd.sizeD_of zeroD rfl)
    have HCS : Hid ((cellsB zeroD).size = (cellsB (List.replicate 32 0)).size) := rfl
    clear hc
    go_wp2_with (refine wpList_store_row rfl 25 (.tmp 4) (.tmp 12) rfl w.heap.size rfl (cellsB zeroD) _ 25 rfl hD0 HCS.out HSZ.out (cellsB_one _) ?_; intro w9 hg9 hr9 hz9)
    refine bodyPost_ret (results_cell_row_tmp rfl _ _ w.heap.size 25 (cellsB zeroD) (0, 0) _ rfl hr9 Tryd.underD rfl HSZ.out) rfl ⟨by rw [HP.out, HE.out]; rfl, ?_⟩
    exact hb0.grown hg9 hb0.size (fun k hk => by cases hk; exact Nat.le_refl _)
  | true =>
    have HE := Lib.hid (errR_ok hc)
    have HP : Hid (pubR seed idx = pubOf seed idx.toNat) := by show _ = _; unfold pubR; rw [if_pos hc]
    obtain ⟨h1, h2, h3, h4⟩ := (okSeed_iff seed idx).1 hc
    clear hc
    obtain ⟨n, en⟩ : ∃ n, idx.toNat = n := ⟨_, rfl⟩
    obtain rfl : idx = (n : Int) := by omega
    have hn : n ≤ 1023 := by omega
    rw [en] at HP
    have HF : Hid (pubOf seed n = keyOf (tabN (fun i => chainOf (startOf seed n i) 15) 18)) := rfl
    have HL1 : Hid (∀ i, (chainOf (startOf seed n i) 15).length = 32) := fun i => chainOf_len _ (startOf_len _ _ _) _
    have HST : Hid (∀ i, tabN (fun i => chainOf (startOf seed n i) 15) (i + 1) = tabN (fun i => chainOf (startOf seed n i) 15) i ++ [chainOf (startOf seed n i) 15]) := fun i => tabN_succ _ i
    have HTL : Hid (∀ i, (tabN (fun i => chainOf (startOf seed n i) 15) i).length = i) := fun i => tabN_len _ i
    have HT32 : Hid (all32 (tabN (fun i => chainOf (startOf seed n i) 15) 18)) := all32_range fun i _ => chainOf_len _ (startOf_len _ _ _) _
    generalize tabN (fun i => chainOf (startOf seed n i) 15) = xs at *
    clear en h3 h4
    go_wp2
    go_loopw [7, 6] (fun t r wr => ∃ i : Nat, i ≤ 18 ∧ t = .int .i64 (i : Int) ∧ OwnD wr (w.heap.size + 1) r (xs i) ∧ Below w.heap.size w wr ∧ w.heap.size + 1 ≤ wr.heap.size ∧ Row wr w.heap.size 25 (cellsB (List.replicate 32 0))) (fun t _ _ => 18 - (intOf t).toNat)
    case atStart =>
      have h0 : xs 0 = [] := List.eq_nil_of_length_eq_zero (HTL.out 0)
      exact ⟨0, by omega, rfl, by rw [h0]; exact OwnD.nil _ _, hb0, hz0, hD0⟩
    case round =>
      clear hb0 hD0 hz0 hv0
      obtain ⟨i, hi, rfl, ho, hb, hz, hD⟩ := hrel
      by_cases hlt : i < 18
      · have hvr := (hv.later hb).imp (ok' := fun _ => True) fun _ _ => trivial
        go_wp2_with fail
        refine (rstart_any seed _ n i wr hvr (by omega) hn hlt (hK.below hb hkl) (hI.below hb hil)).mono ?_
        rintro e w2 ⟨rfl, hb2⟩
        have hB2 := hb.trans (hb2.mono hb.size)
        have ho2 := ho.below hb2
        have hD2 := hD.below hb2 hD.lt
        have hz2 := Nat.le_trans hz hb2.size
        clear ho hD hvr hb2
        go_wp2_with fail
        refine (rchain_any (startOf seed n i) 15 w2 (startOf_len _ _ _) (by decide) (by decide) (hK.below hB2 hkl) (hI.below hB2 hil)).mono ?_
        rintro e w3 ⟨rfl, hb3⟩
        have hB3 := hB2.trans (hb3.mono hB2.size)
        have ho3 := ho2.below hb3
        have hD3 := hD2.below hb3 hD2.lt
        have hz3 := Nat.le_trans hz2 hb3.size
        have HY : Hid (xs (i + 1) = xs i ++ [chainOf (startOf seed n i) (15 : Int).toNat]) := HST.out i
        have hyl : (chainOf (startOf seed n i) (15 : Int).toNat).length = 32 := HL1.out i
        generalize chainOf (startOf seed n i) (15 : Int).toNat = y at *
        have HYL := Lib.hid hyl
        clear ho2 hD2 hb3 hyl
        go_wp2_with (first | (refine wpList_build_dig rfl (.tmp 22) rfl y rfl HYL.out ?_; intro w4 hr4 hb4 hz4; have ho4 := ho3.below hb4; have hD4 := hD3.below hb4 hD3.lt; have hB4 := hB3.trans (hb4.mono hB3.size)) | (at_builtin; refine wpList_append_dig rfl (.tmp 17) (.tmp 23) rfl (w.heap.size + 1) _ (xs i) y w3.heap.size 25 rfl ho4 rfl hr4 HYL.out (by rw [HTL.out]; omega) (by omega) ?_; intro v6 w6 ho6 hg6))
        have hB6 := hB4.grown hg6 hB4.size (fun k hk => by have := ho4.ownBlock k hk; omega)
        have hD6 := hD4.grown hg6 (fun e => by have := ho4.ownBlock _ e.symm; omega)
        have hz6 : w.heap.size + 1 ≤ w6.heap.size := by have := hg6.size; omega
        rw [← HY.out] at ho6
        go_roundw
        case rel => exact ⟨i + 1, by omega, by go_num, ho6, hB6, hz6, hD6⟩
        case measure => simp [intOf]; omega
      · obtain rfl : i = 18 := by omega
        have hxl := HTL.out 18
        have hdg := ho.digs
        clear ho
        obtain ⟨ys, hys⟩ : ∃ ys, xs 18 = ys := ⟨_, rfl⟩
        rw [hys] at hdg hxl HT32 HF
        go_wp2_with fail
        refine (rkey_any ys _ wr hdg HT32.out (by omega) (hK.below hb hkl) (hI.below hb hil)).mono ?_
        rintro e w3 ⟨rfl, hb3⟩
        have hB3 := hb.trans (hb3.mono hb.size)
        have hD3 := hD.below hb3 hD.lt
        have HSZ := Lib.hid (Tryd.sizeD_of _ (keyOf_len ys))
        have HCS : Hid ((cellsB (keyOf ys)).size = (cellsB (List.replicate 32 0)).size) := Lib.hid (by rw [cellsB_size, keyOf_len]; rfl)
        clear hb hD hb3 hdg hxl hys
        go_wp2_with (refine wpList_store_row rfl 25 (.tmp 4) (.tmp 26) rfl w.heap.size rfl (cellsB (keyOf ys)) _ 25 rfl hD3 HCS.out HSZ.out (cellsB_one _) ?_; intro w9 hg9 hr9 hz9)
        refine bodyPost_ret (results_cell_row_tmp rfl _ _ w.heap.size 25 (cellsB (keyOf ys)) (0, 0) _ rfl hr9 Tryd.underD rfl HSZ.out) rfl ⟨by rw [HP.out, HF.out, HE.out]; rfl, ?_⟩
        exact hB3.grown hg9 hB3.size (fun k hk => by cases hk; exact Nat.le_refl _)
end Go.Proofs.YteogcilnpkaplaaDoor

namespace Go.Proofs.YteogcilnpkaplaaDoor
open Go.RowKit
theorem range_below' {w w' : World} {b o : Nat} {cs : List Value} (h : w.rangeAt b o cs) (hb : Below w.heap.size w w') : w'.rangeAt b o cs := fun j v hv => (hb.cell (p := ⟨b, o + j, none⟩) (block_lt_of_cell (h j v hv))).trans (h j v hv)
def Asrt.one {B : Nat} (y : List UInt8) : Asrt B := ⟨fun v w => ∃ g, v = .slice (some ⟨g, 0, none⟩) 1 1 ∧ Row w g 25 (cellsB y), fun _ _ _ h hg => by
  obtain ⟨g, hv, hr⟩ := h; exact ⟨g, hv, hg.kept _ _ hr⟩⟩
set_option maxRecDepth 10000 in
set_option maxHeartbeats 4000000 in
theorem rsign_any (seed d : List UInt8) (v : Value) (idx : Int) (w : World) (hv : Bytes w v seed (fun _ => True)) (hd : d.length = 32) (hK : RKFact w) (hI : RIFact w) :
    Calls Tryd.prog 36 #[v, .int .i64 idx, .agg (cellsB d)] w fun e w' => ∃ r, e = .returned (.tuple #[r, .int .i64 (errR seed idx : Nat)]) ∧ Digs w' r (signR seed idx d) ∧ Below w.heap.size w w' := by
  have hkl := hK.lt
  have hil := hI.lt
  obtain ⟨av, kv, rfl⟩ : ∃ a c, v = .slice a seed.length c := by obtain ⟨a, c, h, _⟩ := hv; exact ⟨a, c, h⟩
  have hb0 : Below w.heap.size w (w.alloc (.cells (cellsB d) 25)) := (Below.refl _ _).alloc (Nat.le_refl _) _
  have hd0 : Row (w.alloc (.cells (cellsB d) 25)) w.heap.size 25 (cellsB d) := Row.new w _ _
  have hv0 := (hv.later hb0).imp (ok' := fun _ => True) fun _ _ => trivial
  have HD := Lib.hid hd
  have HSD := Lib.hid (Tryd.sizeD_of d hd)
  clear hd
  go_enter Tryd.func36, Tryd.ntmps36
  go_wp2_with fail
  refine (rvalid_any seed _ idx _ hv0).mono ?_
  rintro e w1 ⟨rfl, rfl⟩
  cases hc : okSeed seed idx with
  | false =>
    have HE := Lib.hid (errR_bad hc)
    have HP : Hid (signR seed idx d = []) := by show _ = _; unfold signR walkR; rw [if_neg (by rw [hc]; decide)]
    clear hc
    go_wp2
    go_ret2
    exact ⟨.slice none 0 0, by rw [HE.out]; rfl, by rw [HP.out]; exact Digs.nil _, hb0⟩
  | true =>
    have HE := Lib.hid (errR_ok hc)
    have HP : Hid (signR seed idx d = walkOf seed idx.toNat (nib d)) := by show _ = _; unfold signR walkR; rw [if_pos hc]
    obtain ⟨h1, h2, h3, h4⟩ := (okSeed_iff seed idx).1 hc
    clear hc
    obtain ⟨n, en⟩ : ∃ n, idx.toNat = n := ⟨_, rfl⟩
    obtain rfl : idx = (n : Int) := by omega
    have hn : n ≤ 1023 := by omega
    rw [en] at HP
    have HF : Hid (walkOf seed n (nib d) = tabN (fun i => chainOf (startOf seed n i) (nib d i)) 18) := rfl
    have HL1 : Hid (∀ i k, (chainOf (startOf seed n i) k).length = 32) := fun i k => chainOf_len _ (startOf_len _ _ _) _
    have HST : Hid (∀ i, tabN (fun i => chainOf (startOf seed n i) (nib d i)) (i + 1) = tabN (fun i => chainOf (startOf seed n i) (nib d i)) i ++ [chainOf (startOf seed n i) (nib d i)]) := fun i => tabN_succ _ i
    have HTL : Hid (∀ i, (tabN (fun i => chainOf (startOf seed n i) (nib d i)) i).length = i) := fun i => tabN_len _ i
    generalize tabN (fun i => chainOf (startOf seed n i) (nib d i)) = xs at *
    clear en h3 h4
    go_wp2_with (refine wpList_load_row rfl 25 (.tmp 5) rfl w.heap.size rfl 25 (cellsB d) (0, 0) _ hd0 Tryd.underD rfl HSD.out ?_)
    refine (rnibbles_any d _ HD.out).mono ?_
    rintro e w2 ⟨u, rfl, hu2, hb2⟩
    have hB2 := hb0.trans (hb2.mono hb0.size)
    clear hb0 hd0 hv0 hb2
    have HNL := Lib.hid (nibs_len d)
    have HNG := Lib.hid (nibs_get d)
    have HNX := Lib.hid (nib_le d)
    obtain ⟨au, ku, eu⟩ : ∃ a c, u = .slice a 18 c := by obtain ⟨a, c, h, _⟩ := hu2; rw [nibs_len] at h; exact ⟨a, c, h⟩
    subst eu
    obtain ⟨ub, uo, rfl, -, hku1, hku2, hat⟩ := hu2.at (by decide)
    clear hu2
    generalize nibs d = ns at *
    go_wp2
    go_loopw [10, 9] (fun t r wr => ∃ i : Nat, i ≤ 18 ∧ t = .int .i64 (i : Int) ∧ OwnD wr w2.heap.size r (xs i) ∧ Below w2.heap.size w2 wr) (fun t _ _ => 18 - (intOf t).toNat)
    case atStart =>
      have h0 : xs 0 = [] := List.eq_nil_of_length_eq_zero (HTL.out 0)
      exact ⟨0, by omega, rfl, by rw [h0]; exact OwnD.nil _ _, Below.refl _ _⟩
    case round =>
      obtain ⟨i, hi, rfl, ho, hb⟩ := hrel
      by_cases hlt : i < 18
      · have hBr := hB2.trans (hb.mono hB2.size)
        have hvr := (hv.later hBr).imp (ok' := fun _ => True) fun _ _ => trivial
        have hcn : wr.cell? ⟨ub, uo + i, none⟩ = some (.int .i64 (nib d i : Nat)) := by
          have h := hat i (by rw [HNL.out]; exact hlt)
          rw [List.getD_eq_getElem?_getD, HNG.out i hlt] at h
          exact (hb.cell (p := ⟨ub, uo + i, none⟩) (block_lt_of_cell h)).trans h
        have hKr := hK.below hBr hkl
        have hIr := hI.below hBr hil
        have hi1 : (i : Int) < 18 := by omega
        have hxb := HNX.out i
        have HY : Hid (xs (i + 1) = xs i ++ [chainOf (startOf seed n i) (nib d i)]) := HST.out i
        obtain ⟨x, hx⟩ : ∃ x, nib d i = x := ⟨_, rfl⟩
        rw [hx] at hcn hxb HY
        have hyl := HL1.out i x
        obtain ⟨y, hy⟩ : ∃ y, chainOf (startOf seed n i) x = y := ⟨_, rfl⟩
        rw [hy] at HY hyl
        have HYL := Lib.hid hyl
        have HYE := Lib.hid hy
        clear hyl hx hy
        go_wp2
        obtain ⟨B, eB⟩ : ∃ B, wr.heap.size = B := ⟨_, rfl⟩
        have hklr := hKr.lt
        have hilr := hIr.lt
        refine wp_gen fun a0 ha0 => ?_
        have i0 : a0.eval (.tmp 0) = .slice av seed.length kv := by rw [ha0]; rfl
        have i1 : a0.eval (.tmp 1) = .int .i64 (n : Int) := by rw [ha0]; rfl
        have i8 : a0.eval (.tmp 8) = .slice (some ⟨ub, uo, none⟩) 18 ku := by rw [ha0]; rfl
        have i9 : a0.eval (.tmp 9) = u9 := by rw [ha0]; rfl
        have i10 : a0.eval (.tmp 10) = .int .i64 (i : Int) := by rw [ha0]; rfl
        have hsz : a0.tmps.size = 34 := by rw [ha0]; rfl
        refine wp_region_inv_tail (B := B) 11 [some 21, some 22, some 23, some 24, some 25, some 26, some 27, some 28, some 29, some 30, some 31, some 32, some 9] [Asrt.eq (u9), Asrt.eq (.slice av seed.length kv), Asrt.eq (.int .i64 (n : Int)), Asrt.eq (.int .i64 (i : Int)), Asrt.eq (.agg (cellsB (startOf seed n i))), Asrt.eq (.slice (some ⟨ub, uo, none⟩) 18 ku), Asrt.eq (.int .i64 (i : Int)), Asrt.eq (.pointer (some ⟨ub, uo + i, none⟩)), Asrt.eq (.int .i64 (x : Int)), Asrt.eq (.agg (cellsB (y))), Asrt.one y] rfl (by as_aux_lemma => kernel_rfl) (by rw [hsz]; as_aux_lemma => kernel_rfl) (by as_aux_lemma => kernel_rfl) (by as_aux_lemma => kernel_rfl) (by as_aux_lemma => kernel_rfl) (by decide) (by as_aux_lemma => kernel_rfl) (by omega) ⟨?_, ?_, ?_, ?_, ?_, ?_, ?_, ?_, ?_, ?_, ?_, trivial⟩ ?_
        · as_aux_lemma =>
            intro ev w1 hg hin hc hgl hfn hd
            have hB := hg.top
            have g9 : ev (.tmp 9) = u9 := (hin 9 (by kernel_rfl)).trans i9
            clear hin hd
            refine step_on (guard_none rfl) fun K hK => ?_
            unfold YieldsG
            go_simp
            exact hK _ _ rfl (Grow.refl hB)
        · as_aux_lemma =>
            intro ev w1 hg hin hc hgl hfn hd
            have hB := hg.top
            have g0 : ev (.tmp 0) = .slice av seed.length kv := (hin 0 (by kernel_rfl)).trans i0
            clear hin hd
            refine step_on (guard_none rfl) fun K hK => ?_
            unfold YieldsG
            go_simp
            exact hK _ _ rfl (Grow.refl hB)
        · as_aux_lemma =>
            intro ev w1 hg hin hc hgl hfn hd
            have hB := hg.top
            have g1 : ev (.tmp 1) = .int .i64 (n : Int) := (hin 1 (by kernel_rfl)).trans i1
            clear hin hd
            refine step_on (guard_none rfl) fun K hK => ?_
            unfold YieldsG
            go_simp
            exact hK _ _ rfl (Grow.refl hB)
        · as_aux_lemma =>
            intro ev w1 hg hin hc hgl hfn hd
            have hB := hg.top
            have g10 : ev (.tmp 10) = .int .i64 (i : Int) := (hin 10 (by kernel_rfl)).trans i10
            clear hin hd
            refine step_on (guard_none rfl) fun K hK => ?_
            unfold YieldsG
            go_simp
            exact hK _ _ rfl (Grow.refl hB)
        · as_aux_lemma =>
            intro ev w1 hg hin hc hgl hfn hd
            have hB := hg.top
            have f22 : (ev (.tmp 22)) = .slice av seed.length kv := hd.1 rfl _ rfl
            have f23 : (ev (.tmp 23)) = .int .i64 (n : Int) := hd.2.1 rfl _ rfl
            have f24 : (ev (.tmp 24)) = .int .i64 (i : Int) := hd.2.2.1 rfl _ rfl
            clear hin hd
            refine step_on (guard_none rfl) fun K hK => ?_
            unfold YieldsG
            go_simp
            refine (rstart_any seed _ n i w1 ((Asrt.bytes (B := B) seed).st _ _ _ hvr hg) (by omega) hn hlt (hKr.below hg.bl (by omega)) (hIr.below hg.bl (by omega))).mono ?_
            rintro e w2 ⟨rfl, hb⟩
            exact ⟨_, rfl, hK _ _ rfl (Grow.of hB hb)⟩
        · as_aux_lemma =>
            intro ev w1 hg hin hc hgl hfn hd
            have hB := hg.top
            have g8 : ev (.tmp 8) = .slice (some ⟨ub, uo, none⟩) 18 ku := (hin 8 (by kernel_rfl)).trans i8
            clear hin hd
            refine step_on (guard_none rfl) fun K hK => ?_
            unfold YieldsG
            go_simp
            exact hK _ _ rfl (Grow.refl hB)
        · as_aux_lemma =>
            intro ev w1 hg hin hc hgl hfn hd
            have hB := hg.top
            have g10 : ev (.tmp 10) = .int .i64 (i : Int) := (hin 10 (by kernel_rfl)).trans i10
            clear hin hd
            refine step_on (guard_none rfl) fun K hK => ?_
            unfold YieldsG
            go_simp
            exact hK _ _ rfl (Grow.refl hB)
        · as_aux_lemma =>
            intro ev w1 hg hin hc hgl hfn hd
            have hB := hg.top
            have f26 : (ev (.tmp 26)) = .slice (some ⟨ub, uo, none⟩) 18 ku := hd.1 rfl _ rfl
            have f27 : (ev (.tmp 27)) = .int .i64 (i : Int) := hd.2.1 rfl _ rfl
            clear hin hd
            refine step_on (guard_none rfl) fun K hK => ?_
            unfold YieldsG
            go_simp
            exact hK _ _ rfl (Grow.refl hB)
        · as_aux_lemma =>
            intro ev w1 hg hin hc hgl hfn hd
            have hB := hg.top
            have f28 : (ev (.tmp 28)) = .pointer (some ⟨ub, uo + i, none⟩) := hd.1 rfl _ rfl
            clear hin hd
            refine step_on (guard_none rfl) fun K hK => ?_
            have hc1 := hg.cell hcn
            unfold YieldsG
            go_simp
            exact hK _ _ rfl (Grow.refl hB)
        · as_aux_lemma =>
            intro ev w1 hg hin hc hgl hfn hd
            have hB := hg.top
            have f25 : (ev (.tmp 25)) = .agg (cellsB (startOf seed n i)) := hd.1 rfl _ rfl
            have f29 : (ev (.tmp 29)) = .int .i64 (x : Int) := hd.2.1 rfl _ rfl
            clear hin hd
            refine step_on (guard_none rfl) fun K hK => ?_
            unfold YieldsG
            go_simp
            refine (rchain_any (startOf seed n i) (x : Int) w1 (startOf_len _ _ _) (by omega) (by omega) (hKr.below hg.bl (by omega)) (hIr.below hg.bl (by omega))).mono ?_
            rintro e w2 ⟨rfl, hb⟩
            exact ⟨_, rfl, hK _ _ (by show Value.agg _ = _; rw [Int.toNat_natCast, HYE.out]) (Grow.of hB hb)⟩
        · as_aux_lemma =>
            intro ev w1 hg hin hc hgl hfn hd
            have hB := hg.top
            have f30 : (ev (.tmp 30)) = .agg (cellsB (y)) := hd.1 rfl _ rfl
            clear hin hd
            refine step_on (guard_none rfl) fun K hK => ?_
            unfold YieldsG execOp
            simp only [List.map_toArray, List.map_cons, List.map_nil, f30, Sem.run_bind, run_build_dig w1 y HYL.out, Result.andThen_ok]
            exact hK _ _ ⟨_, rfl, Row.new _ _ _⟩ (Grow.of hB ((Below.refl _ _).alloc (Nat.le_refl _) _))
        intro v w6 hg hall
        have hf0 : (v 0) = u9 := hall.1 (by simp)
        have hf1 : (v 1) = .slice av seed.length kv := hall.2.1 (by simp)
        have hf2 : (v 2) = .int .i64 (n : Int) := hall.2.2.1 (by simp)
        have hf3 : (v 3) = .int .i64 (i : Int) := hall.2.2.2.1 (by simp)
        have hf4 : (v 4) = .agg (cellsB (startOf seed n i)) := hall.2.2.2.2.1 (by simp)
        have hf5 : (v 5) = .slice (some ⟨ub, uo, none⟩) 18 ku := hall.2.2.2.2.2.1 (by simp)
        have hf6 : (v 6) = .int .i64 (i : Int) := hall.2.2.2.2.2.2.1 (by simp)
        have hf7 : (v 7) = .pointer (some ⟨ub, uo + i, none⟩) := hall.2.2.2.2.2.2.2.1 (by simp)
        have hf8 : (v 8) = .int .i64 (x : Int) := hall.2.2.2.2.2.2.2.2.1 (by simp)
        have hf9 : (v 9) = .agg (cellsB (y)) := hall.2.2.2.2.2.2.2.2.2.1 (by simp)
        have hf10 : ∃ g, (v 10) = .slice (some ⟨g, 0, none⟩) 1 1 ∧ Row w6 g 25 (cellsB y) := hall.2.2.2.2.2.2.2.2.2.2.1 (by simp)
        clear hall i0 i1 i8 i9 i10 hsz
        rw [ha0]
        clear ha0
        simp only [List.take_succ_cons, List.take_zero, List.drop_succ_cons, List.drop_zero, putAll, Act.put, List.setIfInBounds_toArray, List.set_cons_zero, List.set_cons_succ, Nat.zero_add, Nat.reduceAdd]
        rw [hf0, hf1, hf2, hf3, hf4, hf5, hf6, hf7, hf8, hf9]
        generalize v 10 = x10 at *
        clear hf0 hf1 hf2 hf3 hf4 hf5 hf6 hf7 hf8 hf9
        obtain ⟨gy, hgy, hry⟩ := hf10
        subst hgy
        have ho6 := ho.below hg.below
        have hb6 := hb.trans (hg.below.mono hb.size)
        have hz6 := hb6.size
        clear hg hvr hcn hKr hIr ho hBr
        go_wp2_with (at_builtin; refine wpList_append_dig rfl (.tmp 21) (.tmp 31) rfl w2.heap.size _ (xs i) y gy 25 rfl ho6 rfl hry HYL.out (by rw [HTL.out]; omega) (by omega) ?_; intro v7 w7 ho7 hg7)
        rw [← HY.out] at ho7
        go_roundw
        case rel => exact ⟨i + 1, by omega, by go_num, ho7, hb6.grown hg7 hb6.size (fun k hk => ho6.ownBlock k hk)⟩
        case measure => simp [intOf]; omega
      · obtain rfl : i = 18 := by omega
        have hdg := ho.digs
        have hB3 := hB2.trans (hb.mono hB2.size)
        go_wp2
        go_ret2
        exact ⟨_, by rw [HE.out]; rfl, by rw [HP.out, HF.out]; exact hdg, hB3⟩
set_option maxRecDepth 10000 in
set_option maxHeartbeats 4000000 in
theorem rrecover_any (d : List UInt8) (sig : List (List UInt8)) (v : Value) (w : World) (hd : d.length = 32) (hv : Digs w v sig) (h32 : all32 sig) (hK : RKFact w) (hI : RIFact w) :
    Calls Tryd.prog 49 #[.agg (cellsB d), v] w fun e w' => e = .returned (.tuple #[.agg (cellsB (recR d sig)), .int .i64 (errS sig : Nat)]) ∧ Below w.heap.size w w' := by
  have hkl := hK.lt
  have hil := hI.lt
  obtain ⟨av, kv, rfl⟩ := hv.form
  have HD := Lib.hid hd
  have HSD := Lib.hid (Tryd.sizeD_of d hd)
  clear hd
  have hb0 : Below w.heap.size w ((w.alloc (.cells (cellsB d) 25)).alloc (.cells (cellsB (List.replicate 32 0)) 25)) := ((Below.refl _ _).alloc (Nat.le_refl _) _).alloc (by simp) _
  have hd0 : Row ((w.alloc (.cells (cellsB d) 25)).alloc (.cells (cellsB (List.replicate 32 0)) 25)) w.heap.size 25 (cellsB d) := (Row.new w _ _).alloc _
  have hD0 : Row ((w.alloc (.cells (cellsB d) 25)).alloc (.cells (cellsB (List.replicate 32 0)) 25)) (w.heap.size + 1) 25 (cellsB (List.replicate 32 0)) := by
    have h := Row.new (w.alloc (.cells (cellsB d) 25)) (cellsB (List.replicate 32 0)) 25
    rwa [show (w.alloc (.cells (cellsB d) 25)).heap.size = w.heap.size + 1 by simp] at h
  have hz0 : w.heap.size + 1 < ((w.alloc (.cells (cellsB d) 25)).alloc (.cells (cellsB (List.replicate 32 0)) 25)).heap.size := by simp
  by_cases hl : sig.length = 18
  · have HE := Lib.hid (errS_ok hl)
    have HP : Hid (recR d sig = keyOf (endsOf d sig)) := by show _ = _; unfold recR; rw [if_pos hl]; rfl
    have HL := Lib.hid hl
    have H32 := Lib.hid h32
    rw [hl] at hv ⊢
    clear hl h32
    have HF : Hid (endsOf d sig = tabN (fun i => chainOf (sig.getD i []) (15 - nib d i)) 18) := rfl
    have HST : Hid (∀ i, tabN (fun i => chainOf (sig.getD i []) (15 - nib d i)) (i + 1) = tabN (fun i => chainOf (sig.getD i []) (15 - nib d i)) i ++ [chainOf (sig.getD i []) (15 - nib d i)]) := fun i => tabN_succ _ i
    have HTL : Hid (∀ i, (tabN (fun i => chainOf (sig.getD i []) (15 - nib d i)) i).length = i) := fun i => tabN_len _ i
    have HT32 : Hid (all32 (tabN (fun i => chainOf (sig.getD i []) (15 - nib d i)) 18)) := all32_range fun i hi => chainOf_len _ (all32_getD H32.out i (by rw [HL.out]; exact hi)) _
    generalize tabN (fun i => chainOf (sig.getD i []) (15 - nib d i)) = xs at *
    go_enter Tryd.func49, Tryd.ntmps49
    go_wp2_with (refine wpList_load_row rfl 25 (.tmp 2) rfl w.heap.size rfl 25 (cellsB d) (0, 0) _ hd0 Tryd.underD rfl HSD.out ?_)
    refine (rnibbles_any d _ HD.out).mono ?_
    rintro e w2 ⟨u, rfl, hu2, hb2⟩
    have hB2 := hb0.trans (hb2.mono hb0.size)
    have hD2 := hD0.below hb2 hD0.lt
    have hz2 := Nat.lt_of_lt_of_le hz0 hb2.size
    have hv2 := hv.later hB2
    clear hb0 hd0 hD0 hb2 hz0 hv
    have HNL := Lib.hid (nibs_len d)
    have HNG := Lib.hid (nibs_get d)
    have HNX := Lib.hid (nib_le d)
    obtain ⟨au, ku, eu⟩ : ∃ a c, u = .slice a 18 c := by obtain ⟨a, c, h, _⟩ := hu2; rw [nibs_len] at h; exact ⟨a, c, h⟩
    subst eu
    obtain ⟨ub, uo, rfl, -, hku1, hku2, hat⟩ := hu2.at (by decide)
    obtain ⟨sb, so, rfl, -, hks1, hks2, hat2⟩ := hv2.at (by decide)
    clear hu2 hv2
    generalize nibs d = ns at *
    go_wp2
    go_loopw [8, 7] (fun t r wr => ∃ i : Nat, i ≤ 18 ∧ t = .int .i64 (i : Int) ∧ OwnD wr w2.heap.size r (xs i) ∧ Below w2.heap.size w2 wr) (fun t _ _ => 18 - (intOf t).toNat)
    case atStart =>
      have h0 : xs 0 = [] := List.eq_nil_of_length_eq_zero (HTL.out 0)
      exact ⟨0, by omega, rfl, by rw [h0]; exact OwnD.nil _ _, Below.refl _ _⟩
    case round =>
      obtain ⟨i, hi, rfl, ho, hb⟩ := hrel
      have hBr := hB2.trans (hb.mono hB2.size)
      have hKr := hK.below hBr hkl
      have hIr := hI.below hBr hil
      by_cases hlt : i < 18
      · have hcn : wr.cell? ⟨ub, uo + i, none⟩ = some (.int .i64 (nib d i : Nat)) := by
          have h := hat i (by rw [HNL.out]; exact hlt)
          rw [List.getD_eq_getElem?_getD, HNG.out i hlt] at h
          exact (hb.cell (p := ⟨ub, uo + i, none⟩) (block_lt_of_cell h)).trans h
        have hce : wr.rangeAt sb (so + i * 32) ((sig.getD i []).map B8) := range_below' (hat2.elem H32.out i (by rw [HL.out]; exact hlt)) hb
        have hel := all32_getD H32.out i (by rw [HL.out]; exact hlt)
        have hi1 : (i : Int) < 18 := by omega
        have hxb := HNX.out i
        have HY : Hid (xs (i + 1) = xs i ++ [chainOf (sig.getD i []) (15 - nib d i)]) := HST.out i
        obtain ⟨x, hx⟩ : ∃ x, nib d i = x := ⟨_, rfl⟩
        obtain ⟨z, hz⟩ : ∃ z, sig.getD i [] = z := ⟨_, rfl⟩
        rw [hx] at hcn hxb HY
        rw [hz] at hce hel HY
        have hyl := chainOf_len z hel (15 - x)
        obtain ⟨y, hy⟩ : ∃ y, chainOf z (15 - x) = y := ⟨_, rfl⟩
        rw [hy] at HY hyl
        have HYL := Lib.hid hyl
        have HYE := Lib.hid hy
        have HEL := Lib.hid hel
        have hw15 : IntKind.i64.wrap (15 - (x : Int)) = 15 - (x : Int) := IntWalk.i64_in _ (by omega)
        have HX15 : Hid ((15 : Int) - (x : Int) = ((15 - x : Nat) : Int)) := Lib.hid (by omega)
        clear hyl hx hy hz hel
        go_wp2
        obtain ⟨B, eB⟩ : ∃ B, wr.heap.size = B := ⟨_, rfl⟩
        have hklr := hKr.lt
        have hilr := hIr.lt
        refine wp_gen fun a0 ha0 => ?_
        have i1 : a0.eval (.tmp 1) = .slice (some ⟨sb, so, none⟩) 18 kv := by rw [ha0]; rfl
        have i6 : a0.eval (.tmp 6) = .slice (some ⟨ub, uo, none⟩) 18 ku := by rw [ha0]; rfl
        have i7 : a0.eval (.tmp 7) = u7 := by rw [ha0]; rfl
        have i8 : a0.eval (.tmp 8) = .int .i64 (i : Int) := by rw [ha0]; rfl
        have hsz : a0.tmps.size = 34 := by rw [ha0]; rfl
        refine wp_region_inv_tail (B := B) 12 [some 19, some 20, some 21, some 22, some 23, some 24, some 25, some 26, some 27, some 28, some 29, some 30, some 31, some 7] [Asrt.eq (u7), Asrt.eq (.slice (some ⟨sb, so, none⟩) 18 kv), Asrt.eq (.int .i64 (i : Int)), Asrt.eq (.pointer (some ⟨sb, so + i * 32, none⟩)), Asrt.eq (.agg (cellsB (z))), Asrt.eq (.slice (some ⟨ub, uo, none⟩) 18 ku), Asrt.eq (.int .i64 (i : Int)), Asrt.eq (.pointer (some ⟨ub, uo + i, none⟩)), Asrt.eq (.int .i64 (x : Int)), Asrt.eq (.int .i64 (15 - (x : Int))), Asrt.eq (.agg (cellsB (y))), Asrt.one y] rfl (by as_aux_lemma => kernel_rfl) (by rw [hsz]; as_aux_lemma => kernel_rfl) (by as_aux_lemma => kernel_rfl) (by as_aux_lemma => kernel_rfl) (by as_aux_lemma => kernel_rfl) (by decide) (by as_aux_lemma => kernel_rfl) (by omega) ⟨?_, ?_, ?_, ?_, ?_, ?_, ?_, ?_, ?_, ?_, ?_, ?_, trivial⟩ ?_
        · as_aux_lemma =>
            intro ev w1 hg hin hc hgl hfn hd
            have hB := hg.top
            have g7 : ev (.tmp 7) = u7 := (hin 7 (by kernel_rfl)).trans i7
            clear hin hd
            refine step_on (guard_none rfl) fun K hK => ?_
            unfold YieldsG
            go_simp
            exact hK _ _ rfl (Grow.refl hB)
        · as_aux_lemma =>
            intro ev w1 hg hin hc hgl hfn hd
            have hB := hg.top
            have g1 : ev (.tmp 1) = .slice (some ⟨sb, so, none⟩) 18 kv := (hin 1 (by kernel_rfl)).trans i1
            clear hin hd
            refine step_on (guard_none rfl) fun K hK => ?_
            unfold YieldsG
            go_simp
            exact hK _ _ rfl (Grow.refl hB)
        · as_aux_lemma =>
            intro ev w1 hg hin hc hgl hfn hd
            have hB := hg.top
            have g8 : ev (.tmp 8) = .int .i64 (i : Int) := (hin 8 (by kernel_rfl)).trans i8
            clear hin hd
            refine step_on (guard_none rfl) fun K hK => ?_
            unfold YieldsG
            go_simp
            exact hK _ _ rfl (Grow.refl hB)
        · as_aux_lemma =>
            intro ev w1 hg hin hc hgl hfn hd
            have hB := hg.top
            have f20 : (ev (.tmp 20)) = .slice (some ⟨sb, so, none⟩) 18 kv := hd.1 rfl _ rfl
            have f21 : (ev (.tmp 21)) = .int .i64 (i : Int) := hd.2.1 rfl _ rfl
            clear hin hd
            refine step_on (guard_none rfl) fun K hK => ?_
            unfold YieldsG
            go_simp
            exact hK _ _ rfl (Grow.refl hB)
        · as_aux_lemma =>
            intro ev w1 hg hin hc hgl hfn hd
            have hB := hg.top
            have f22 : (ev (.tmp 22)) = .pointer (some ⟨sb, so + i * 32, none⟩) := hd.1 rfl _ rfl
            clear hin hd
            refine step_on (guard_none rfl) fun K hK => ?_
            refine yg_load_mid 25 (.tmp 22) rfl sb (so + i * 32) f22 (z.map B8) _ (range_below' hce (by rw [eB]; exact hg.bl)) Tryd.underD rfl (by rw [List.length_map, HEL.out]; exact Tryd.sizeD) ?_
            exact hK _ _ rfl (Grow.refl hB)
        · as_aux_lemma =>
            intro ev w1 hg hin hc hgl hfn hd
            have hB := hg.top
            have g6 : ev (.tmp 6) = .slice (some ⟨ub, uo, none⟩) 18 ku := (hin 6 (by kernel_rfl)).trans i6
            clear hin hd
            refine step_on (guard_none rfl) fun K hK => ?_
            unfold YieldsG
            go_simp
            exact hK _ _ rfl (Grow.refl hB)
        · as_aux_lemma =>
            intro ev w1 hg hin hc hgl hfn hd
            have hB := hg.top
            have g8 : ev (.tmp 8) = .int .i64 (i : Int) := (hin 8 (by kernel_rfl)).trans i8
            clear hin hd
            refine step_on (guard_none rfl) fun K hK => ?_
            unfold YieldsG
            go_simp
            exact hK _ _ rfl (Grow.refl hB)
        · as_aux_lemma =>
            intro ev w1 hg hin hc hgl hfn hd
            have hB := hg.top
            have f24 : (ev (.tmp 24)) = .slice (some ⟨ub, uo, none⟩) 18 ku := hd.1 rfl _ rfl
            have f25 : (ev (.tmp 25)) = .int .i64 (i : Int) := hd.2.1 rfl _ rfl
            clear hin hd
            refine step_on (guard_none rfl) fun K hK => ?_
            unfold YieldsG
            go_simp
            exact hK _ _ rfl (Grow.refl hB)
        · as_aux_lemma =>
            intro ev w1 hg hin hc hgl hfn hd
            have hB := hg.top
            have f26 : (ev (.tmp 26)) = .pointer (some ⟨ub, uo + i, none⟩) := hd.1 rfl _ rfl
            clear hin hd
            refine step_on (guard_none rfl) fun K hK => ?_
            have hc1 := hg.cell hcn
            unfold YieldsG
            go_simp
            exact hK _ _ rfl (Grow.refl hB)
        · as_aux_lemma =>
            intro ev w1 hg hin hc hgl hfn hd
            have hB := hg.top
            have f27 : (ev (.tmp 27)) = .int .i64 (x : Int) := hd.1 rfl _ rfl
            clear hin hd
            refine step_on (guard_none rfl) fun K hK => ?_
            unfold YieldsG
            go_simp
            exact hK _ _ rfl (Grow.refl hB)
        · as_aux_lemma =>
            intro ev w1 hg hin hc hgl hfn hd
            have hB := hg.top
            have f23 : (ev (.tmp 23)) = .agg (cellsB (z)) := hd.1 rfl _ rfl
            have f28 : (ev (.tmp 28)) = .int .i64 (15 - (x : Int)) := hd.2.1 rfl _ rfl
            clear hin hd
            refine step_on (guard_none rfl) fun K hK => ?_
            rw [HX15.out] at f28
            unfold YieldsG
            go_simp
            refine (rchain_any z ((15 - x : Nat) : Int) w1 HEL.out (by omega) (by omega) (hKr.below hg.bl (by omega)) (hIr.below hg.bl (by omega))).mono ?_
            rintro e w2 ⟨rfl, hb⟩
            exact ⟨_, rfl, hK _ _ (by show Value.agg _ = _; rw [Int.toNat_natCast, HYE.out]) (Grow.of hB hb)⟩
        · as_aux_lemma =>
            intro ev w1 hg hin hc hgl hfn hd
            have hB := hg.top
            have f29 : (ev (.tmp 29)) = .agg (cellsB (y)) := hd.1 rfl _ rfl
            clear hin hd
            refine step_on (guard_none rfl) fun K hK => ?_
            unfold YieldsG execOp
            simp only [List.map_toArray, List.map_cons, List.map_nil, f29, Sem.run_bind, run_build_dig w1 y HYL.out, Result.andThen_ok]
            exact hK _ _ ⟨_, rfl, Row.new _ _ _⟩ (Grow.of hB ((Below.refl _ _).alloc (Nat.le_refl _) _))
        intro v w6 hg hall
        have hf0 : (v 0) = u7 := hall.1 (by simp)
        have hf1 : (v 1) = .slice (some ⟨sb, so, none⟩) 18 kv := hall.2.1 (by simp)
        have hf2 : (v 2) = .int .i64 (i : Int) := hall.2.2.1 (by simp)
        have hf3 : (v 3) = .pointer (some ⟨sb, so + i * 32, none⟩) := hall.2.2.2.1 (by simp)
        have hf4 : (v 4) = .agg (cellsB (z)) := hall.2.2.2.2.1 (by simp)
        have hf5 : (v 5) = .slice (some ⟨ub, uo, none⟩) 18 ku := hall.2.2.2.2.2.1 (by simp)
        have hf6 : (v 6) = .int .i64 (i : Int) := hall.2.2.2.2.2.2.1 (by simp)
        have hf7 : (v 7) = .pointer (some ⟨ub, uo + i, none⟩) := hall.2.2.2.2.2.2.2.1 (by simp)
        have hf8 : (v 8) = .int .i64 (x : Int) := hall.2.2.2.2.2.2.2.2.1 (by simp)
        have hf9 : (v 9) = .int .i64 (15 - (x : Int)) := hall.2.2.2.2.2.2.2.2.2.1 (by simp)
        have hf10 : (v 10) = .agg (cellsB (y)) := hall.2.2.2.2.2.2.2.2.2.2.1 (by simp)
        have hf11 : ∃ g, (v 11) = .slice (some ⟨g, 0, none⟩) 1 1 ∧ Row w6 g 25 (cellsB y) := hall.2.2.2.2.2.2.2.2.2.2.2.1 (by simp)
        clear hall i1 i6 i7 i8 hsz
        rw [ha0]
        clear ha0
        simp only [List.take_succ_cons, List.take_zero, List.drop_succ_cons, List.drop_zero, putAll, Act.put, List.setIfInBounds_toArray, List.set_cons_zero, List.set_cons_succ, Nat.zero_add, Nat.reduceAdd]
        rw [hf0, hf1, hf2, hf3, hf4, hf5, hf6, hf7, hf8, hf9, hf10]
        generalize v 11 = x11 at *
        clear hf0 hf1 hf2 hf3 hf4 hf5 hf6 hf7 hf8 hf9 hf10
        obtain ⟨gy, hgy, hry⟩ := hf11
        subst hgy
        have ho6 := ho.below hg.below
        have hb6 := hb.trans (hg.below.mono hb.size)
        have hz6 := hb6.size
        clear hg hcn hce hKr hIr ho hBr
        go_wp2_with (at_builtin; refine wpList_append_dig rfl (.tmp 19) (.tmp 30) rfl w2.heap.size _ (xs i) y gy 25 rfl ho6 rfl hry HYL.out (by rw [HTL.out]; omega) (by omega) ?_; intro v7 w7 ho7 hg7)
        rw [← HY.out] at ho7
        go_roundw
        case rel => exact ⟨i + 1, by omega, by go_num, ho7, hb6.grown hg7 hb6.size (fun k hk => ho6.ownBlock k hk)⟩
        case measure => simp [intOf]; omega
      · obtain rfl : i = 18 := by omega
        have hxl := HTL.out 18
        have hdg := ho.digs
        have hDr := hD2.below hb hD2.lt
        clear ho hb
        rw [HF.out] at HP
        obtain ⟨ys, hys⟩ : ∃ ys, xs 18 = ys := ⟨_, rfl⟩
        rw [hys] at hdg hxl HT32 HP
        go_wp2_with fail
        refine (rkey_any ys _ wr hdg HT32.out (by omega) hKr hIr).mono ?_
        rintro e w3 ⟨rfl, hb3⟩
        have hB3 := hBr.trans (hb3.mono hBr.size)
        have hD3 := hDr.below hb3 hDr.lt
        have HSZ := Lib.hid (Tryd.sizeD_of _ (keyOf_len ys))
        have HCS : Hid ((cellsB (keyOf ys)).size = (cellsB (List.replicate 32 0)).size) := Lib.hid (by rw [cellsB_size, keyOf_len]; rfl)
        clear hBr hDr hb3 hdg hxl hys
        go_wp2_with (refine wpList_store_row rfl 25 (.tmp 4) (.tmp 33) rfl (w.heap.size + 1) rfl (cellsB (keyOf ys)) _ 25 rfl hD3 HCS.out HSZ.out (cellsB_one _) ?_; intro w9 hg9 hr9 hz9)
        refine bodyPost_ret (results_cell_row_tmp rfl _ _ (w.heap.size + 1) 25 (cellsB (keyOf ys)) (0, 0) _ rfl hr9 Tryd.underD rfl HSZ.out) rfl ⟨by rw [HP.out, HE.out]; rfl, ?_⟩
        exact hB3.grown hg9 hB3.size (fun k hk => by cases hk; omega)
  · have HE := Lib.hid (errS_bad hl)
    have HP : Hid (recR d sig = zeroD) := by show _ = _; unfold recR; rw [if_neg hl]
    have HSZ := Lib.hid (Tryd.sizeD_of zeroD rfl)
    have HCS : Hid ((cellsB zeroD).size = (cellsB (List.replicate 32 0)).size) := rfl
    have hl2 : ¬ (sig.length : Int) = 18 := by omega
    clear hv
    generalize sig.length = n at *
    go_enter Tryd.func49, Tryd.ntmps49
    go_wp2_with (refine wpList_store_row rfl 25 (.tmp 4) (.tmp 12) rfl (w.heap.size + 1) rfl (cellsB zeroD) _ 25 rfl hD0 HCS.out HSZ.out (cellsB_one _) ?_; intro w9 hg9 hr9 hz9)
    refine bodyPost_ret (results_cell_row_tmp rfl _ _ (w.heap.size + 1) 25 (cellsB zeroD) (0, 0) _ rfl hr9 Tryd.underD rfl HSZ.out) rfl ⟨by rw [HP.out, HE.out]; rfl, ?_⟩
    exact hb0.grown hg9 hb0.size (fun k hk => by cases hk; omega)
end Go.Proofs.YteogcilnpkaplaaDoor

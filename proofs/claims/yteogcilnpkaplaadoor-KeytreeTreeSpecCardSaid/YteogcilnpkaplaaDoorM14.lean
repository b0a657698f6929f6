/- Merged: Root, Sign and Verify of the hash tree return what the plain functions say. No conditions of its own beyond those that each law states. -/
import Derived.Test.YteogcilnpkaplaaDoorM12
import Derived.Test.YteogcilnpkaplaaDoorM8
import Derived.Test.YteogcilnpkaplaaDoorM4
namespace Go.Proofs.YteogcilnpkaplaaDoor
open Go.RowKit
def rootK (seed : List UInt8) : Dg := if okLen seed = true then merkle 2 (leavesOf seed) else List.replicate 32 0
theorem rootK_len (seed : List UInt8) : (rootK seed).length = 32 := by
  unfold rootK
  split
  · exact merkle_len32 (k := 2) (leavesOf_len seed) (leavesOf_32 seed)
  · exact List.length_replicate
theorem errL_01 (seed : List UInt8) : errL seed = 0 ∨ errL seed = 1 := by unfold errL; split <;> simp
/-- A row of digests is a slice of digests. -/
theorem rowDigs {w : World} {g : Nat} {t : TypeId} {l : List Dg} (h : Row w g t (cellsB l.flatten)) (n : Nat) (hn : n = l.length) (h1 : l.length ≤ 9223372036854775807) : Digs w (.slice (some ⟨g, 0, none⟩) n n) l := by
  subst hn
  exact ⟨_, _, rfl, Nat.le_refl _, h1, .inr ⟨g, 0, rfl, fun i hi => by rw [Nat.zero_add]; exact h.byte i hi⟩⟩
set_option maxRecDepth 10000 in
set_option maxHeartbeats 4000000 in
/-- One round of Root's loop. -/
theorem troot_round (L p0 sb so cap : Nat) (xs : List Dg) (x0 : Dg) (W : World) (R : World → Prop) (t0 t1 t3 t4 t6 t7 t8 t9 t10 t11 t12 t13 t14 t15 t16 t17 t18 t19 t20 t21 t22 : Value) (hP : Row W p0 25 (cellsB x0)) (hx0 : x0.length = 32)
    (hat : BytesAt W sb so xs.flatten) (h32 : all32 xs) (hpos : 0 < xs.length) (hQ : ∀ W', Row W' p0 25 (cellsB (xs.getD 0 [])) → W.grownBy W' (some p0) → R W') :
    (subCode (bodyOf Tryd.f12) [1, 1, 1, 0, 1, 0, 1]).wpIn (RF (some L)) 0 Tryd.prog (rowPost R) { tmps := #[t0, t1, .pointer (some ⟨p0, 0, none⟩), t3, t4, .slice (some ⟨sb, so, none⟩) xs.length cap, t6, t7, t8, t9, t10, t11, t12, t13, t14, t15, t16, t17, t18, t19, t20, t21, t22], defers := [] } W := by
  show Code.wpIn _ _ _ (Code.block 1 _) _ _ _
  have hout1 : ¬ LetsOut (Exit.inBlock 1 (rowPost R)) := fun ⟨_, _, h⟩ => h
  refine wpIn_block ?_
  refine regionIn_list rfl hout1 ?_
  have hce := hat.elem h32 0 hpos
  rw [Nat.zero_mul, Nat.add_zero] at hce
  have hyl := all32_getD h32 0 hpos
  generalize xs.getD 0 [] = y at *
  have HY := Lib.hid hyl
  have HSY := Lib.hid (Tryd.sizeD_of y hyl)
  have HCY : Hid ((cellsB y).size = (cellsB x0).size) := Lib.hid (by rw [cellsB_size, cellsB_size, hyl, hx0])
  have HQ := Lib.hid hQ
  clear hQ hat h32 hyl hx0
  go_wp2_with (first | (refine wpList_index0 rfl (.tmp 18) rfl sb so xs.length cap rfl hpos ?_) | (refine wpList_load_dig rfl (.tmp 19) rfl sb so rfl y HY.out hce ?_) | (refine wpList_store_row rfl 25 (.tmp 2) (.tmp 20) rfl p0 rfl (cellsB y) (cellsB x0) 25 rfl hP HCY.out HSY.out (cellsB_one _) ?_; intro w2 hg2 hr2 hz2))
  exact HQ.out _ hr2 hg2
set_option maxRecDepth 10000 in
set_option maxHeartbeats 4000000 in
theorem kroot_ok (seed : List UInt8) (v : Value) (w : World) (hv : Bytes w v seed (fun _ => True)) (hK : KFact w) (hok : okLen seed = true) :
    Calls Tryd.prog 12 #[v] w fun e w' => e = .returned (.tuple #[.agg (cellsB (merkle 2 (leavesOf seed))), .int .i64 ((0 : Nat) : Int)]) ∧ Below w.heap.size w w' := by
  have hkl := hK.lt
  have HE : Hid (errL seed = 0) := Lib.hid (by unfold errL; rw [if_pos hok])
  have HL : Hid (leavesR seed = (leavesOf seed).flatten) := Lib.hid (by unfold leavesR; rw [if_pos hok])
  have hll := leavesOf_len seed
  have hl32 := leavesOf_32 seed
  generalize leavesOf seed = l at *
  have hfl : l.flatten.length = 128 := by rw [flat_len l hl32, hll]
  have HLL := Lib.hid hll
  have H32 := Lib.hid hl32
  have HS4 := Lib.hid (Tryd.size4_of l.flatten hfl)
  have HC4 : Hid ((cellsB l.flatten).size = (cellsB (List.replicate 128 0)).size) := Lib.hid (by rw [cellsB_size, hfl]; rfl)
  have HS0 := Lib.hid (Tryd.sizeD_of (List.replicate 32 0) List.length_replicate)
  obtain ⟨av, kv, rfl⟩ : ∃ a c, v = .slice a seed.length c := by obtain ⟨a, c, h, _⟩ := hv; exact ⟨a, c, h⟩
  have hb0 : Below w.heap.size w (w.alloc (.cells (cellsB (List.replicate 32 0)) 25)) := (Below.refl _ _).alloc (Nat.le_refl _) _
  have hD0 : Row (w.alloc (.cells (cellsB (List.replicate 32 0)) 25)) w.heap.size 25 (cellsB (List.replicate 32 0)) := Row.new w _ _
  have hv0 := (hv.later hb0).imp (ok' := fun _ => True) fun _ _ => trivial
  clear hok hll hl32 hfl hv
  refine callsIn_wide.1 (callsIn_of_wp_marks (F := Fence.wide) (n := 0) Tryd.func12 rfl trivial (wpIn_wide.2 ?_))
  simp only [Tryd.ntmps12, List.size_toArray, List.length_cons, List.length_nil, Nat.reduceAdd, Nat.reduceSub, Array.replicate_succ, Array.replicate_zero, List.push_toArray, List.append_toArray, List.nil_append, List.cons_append]
  generalize hRF : Code.rangeFunc _ _ _ _ = RF0
  have HRF := Lib.hid hRF
  generalize hR7 : Code.region 7 _ _ = R7
  have HR7 := Lib.hid hR7
  clear hRF hR7
  go_wp2_with fail
  refine (leaves_any seed _ _ hv0 (hK.below hb0 hkl)).mono ?_
  rintro e w1 ⟨rfl, hb1⟩
  rw [HE.out, HL.out]
  have hB1 := hb0.trans (hb1.mono hb0.size)
  have hD1 := hD0.below hb1 hD0.lt
  have hl1 := hD1.lt
  clear hb0 hD0 hb1 hv0
  go_wp2_with (first | (refine wpList_store_row rfl 51 (.tmp 4) (.tmp 9) rfl w1.heap.size rfl (cellsB l.flatten) (cellsB (List.replicate 128 0)) 51 rfl (Row.new w1 _ _) HC4.out HS4.out (cellsB_one _) ?_; intro w2 hg2 hr2 hz2; clear hz2; have hb2 : Below w1.heap.size w1 w2 := ((Below.refl _ _).alloc (Nat.le_refl _) _).grown hg2 (by simp) (fun k hk => by cases hk; exact Nat.le_refl _); clear hg2; have hD2 := hD1.below hb2 hl1; have hB2 := hB1.trans (hb2.mono hB1.size); clear hb2))
  have hl2 := hr2.lt
  refine (rows_any _ _ _ w2).mono ?_
  rintro e w3 ⟨rfl, rfl⟩
  have hb3 : Below w2.heap.size w2 (w2.alloc (.cells #[.slice (some ⟨w1.heap.size, 0, none⟩) 4 4] 29)) := (Below.refl _ _).alloc (Nat.le_refl _) _
  have hbx : Row (w2.alloc (.cells #[.slice (some ⟨w1.heap.size, 0, none⟩) 4 4] 29)) w2.heap.size 29 #[.slice (some ⟨w1.heap.size, 0, none⟩) 4 4] := Row.new w2 _ _
  have hz3 : (w2.alloc (.cells #[.slice (some ⟨w1.heap.size, 0, none⟩) 4 4] 29)).heap.size = w2.heap.size + 1 := by simp
  go_wp2
  rw [← HRF.out]
  clear HRF
  obtain ⟨w3, ew3⟩ : ∃ w3, w2.alloc (.cells #[.slice (some ⟨w1.heap.size, 0, none⟩) 4 4] 29) = w3 := ⟨_, rfl⟩
  rw [ew3] at hb3 hbx hz3
  change Code.wp _ _ _ _ (w2.alloc (.cells #[.slice (some ⟨w1.heap.size, 0, none⟩) 4 4] 29))
  rw [ew3]
  clear ew3
  have hD3 := hD2.below hb3 hD2.lt
  have hA3 := hr2.below hb3 hl2
  have hB3 := hB2.trans (hb3.mono hB2.size)
  have hs2 := hB2.size
  have hlw := hD3.lt
  have hK3 := hK.below hB3 hkl
  clear hD1 hD2 hB1 hB2 hb3 hr2
  refine (wpIn_wide (n := 0)).1 ?_
  refine wpIn_range_rows w2.heap.size (fun b => b = w.heap.size) 2 l (.slice (some ⟨w1.heap.size, 0, none⟩) 4 4)
    (fun pre m W => ∃ x : Dg, Row W w.heap.size 25 (cellsB x) ∧ x.length = 32 ∧ (0 < pre.length → x = (upN (pre.length - 1) l).getD 0 []) ∧ Below w.heap.size w W ∧ w3.heap.size + 2 ≤ m)
    ?_ rfl HLL.out (by decide) H32.out (rowDigs hA3 4 HLL.out.symm (by rw [HLL.out]; decide)) hbx hK3 (by omega) (by omega) (by omega) (fun k hk => by subst hk; exact hlw) (fun b o n c e h => by
      obtain ⟨e1, -, -⟩ := Value.slice.inj e
      cases e1; omega) ?_ ?_ ?_ ?_ ?_
  case refine_4 =>
    intro x W K hKK
    refine regionIn_list rfl (fun ⟨_, _, h⟩ => h) ?_
    go_wp2
    exact hKK
  · rintro pre m A A' r ⟨x, h1, h2, h3, h4, h5⟩ hm hg hr
    have hr' : r = w2.heap.size ∨ r = w3.heap.size + 1 := hr
    exact ⟨x, h1.grown hg (fun e => by have := Option.some.inj e; omega), h2, h3, h4.grown hg h4.size (fun k hk => by have := Option.some.inj hk; omega), h5⟩
  · intro o o'
    exact ⟨_, (hD3.alloc o).alloc o', List.length_replicate, fun h => absurd h (by decide), (hB3.alloc hB3.size _).alloc (by simp; omega) _, by omega⟩
  · rintro pre m v' xs rest W1 hrows ⟨x, h1, h2, h3, h4, h5⟩ hbm hm hbx' hd h32' hpos hap hK1
    obtain ⟨rfl, hj⟩ := rowsK_at pre 2 l xs rest hrows
    obtain ⟨av', cap', rfl, hc1, hc2, ⟨h0, _⟩ | ⟨b, off, rfl, hat⟩⟩ := hd
    · rw [h0] at hpos; simp at hpos
    refine troot_round (w3.heap.size + 1) w.heap.size b off cap' (upN pre.length l) x W1 _ _ _ _ _ _ _ _ _ _ _ _ _ _ _ _ _ _ _ _ _ _ h1 h2 hat h32' hpos ?_
    intro W' g1 g2
    refine ⟨⟨_, g1, all32_getD h32' 0 hpos, fun _ => by rw [List.length_append, List.length_cons, List.length_nil, Nat.add_sub_cancel], h4.grown g2 h4.size (fun k hk => by cases hk; exact Nat.le_refl _), ?_⟩, Kept.of_grown g2 (.inl rfl)⟩
    have := g2.size
    omega
  · rintro m W hm ⟨x, h1, h2, h3, h4, h5⟩ hD
    have hx : x = merkle 2 l := by
      rw [h3 (by rw [rowsK_len]; decide), rowsK_len]
      have := upN_get 2 l 0 (by rw [HLL.out]; decide)
      rw [this, Nat.zero_mul, List.drop_zero, List.take_of_length_le (by rw [HLL.out]; decide)]
    have HX := Lib.hid h2
    have HSX := Lib.hid (Tryd.sizeD_of x h2)
    have HXM := Lib.hid hx
    have hds := h4.size
    have HZ3 := Lib.hid hz3
    clear h3 h2 hx hA3 hB3 hbx hK3 hD3 hK hz3
    go_wp2
    rw [← HR7.out]
    clear HR7
    go_wp2_with (first | (refine wpList_load_row rfl 25 (.tmp 2) rfl w.heap.size rfl 25 (cellsB x) (0, 0) _ h1 Tryd.underD rfl HSX.out ?_) | (refine wpList_store_row rfl 25 (.tmp 2) (.tmp 21) rfl w.heap.size rfl (cellsB x) (cellsB x) 25 rfl h1 rfl HSX.out (cellsB_one _) ?_; intro w4 hg4 hr4 hz4))
    have hz3 := HZ3.out
    have hD4 := (hg4.block w3.heap.size (by omega) (fun e => by have := Option.some.inj e; omega)).trans hD
    have hgp := grown_putObj w4 w3.heap.size (.deferred none)
    refine ⟨by simp, .inl ⟨_, _, rfl, run_takeDeferred hD4, ?_⟩⟩
    have hr5 := hr4.grown hgp (fun e => by have := Option.some.inj e; omega)
    have hB4 := h4.grown hg4 h4.size (fun k hk => by cases hk; exact Nat.le_refl _)
    exact ⟨_, results_cell_row_tmp rfl _ _ w.heap.size 25 (cellsB x) (0, 0) _ rfl hr5 Tryd.underD rfl HSX.out, (by rw [HXM.out]; rfl), hB4.grown hgp hB4.size (fun k hk => by have := Option.some.inj hk; omega)⟩
set_option maxRecDepth 10000 in
set_option maxHeartbeats 4000000 in
theorem kroot_bad (seed : List UInt8) (v : Value) (w : World) (hv : Bytes w v seed (fun _ => True)) (hK : KFact w) (hok : okLen seed = false) :
    Calls Tryd.prog 12 #[v] w fun e w' => e = .returned (.tuple #[.agg (cellsB (List.replicate 32 0)), .int .i64 ((1 : Nat) : Int)]) ∧ Below w.heap.size w w' := by
  have hkl := hK.lt
  have HE : Hid (errL seed = 1) := Lib.hid (by unfold errL; rw [hok]; rfl)
  have HL : Hid (leavesR seed = List.replicate 128 0) := Lib.hid (by unfold leavesR; rw [hok]; rfl)
  have HS0 := Lib.hid (Tryd.sizeD_of (List.replicate 32 0) List.length_replicate)
  have HS4 := Lib.hid (Tryd.size4_of (List.replicate 128 0) List.length_replicate)
  obtain ⟨av, kv, rfl⟩ : ∃ a c, v = .slice a seed.length c := by obtain ⟨a, c, h, _⟩ := hv; exact ⟨a, c, h⟩
  have hb0 : Below w.heap.size w (w.alloc (.cells (cellsB (List.replicate 32 0)) 25)) := (Below.refl _ _).alloc (Nat.le_refl _) _
  have hD0 : Row (w.alloc (.cells (cellsB (List.replicate 32 0)) 25)) w.heap.size 25 (cellsB (List.replicate 32 0)) := Row.new w _ _
  have hv0 := (hv.later hb0).imp (ok' := fun _ => True) fun _ _ => trivial
  clear hok hv
  refine callsIn_wide.1 (callsIn_of_wp_marks (F := Fence.wide) (n := 0) Tryd.func12 rfl trivial (wpIn_wide.2 ?_))
  simp only [Tryd.ntmps12, List.size_toArray, List.length_cons, List.length_nil, Nat.reduceAdd, Nat.reduceSub, Array.replicate_succ, Array.replicate_zero, List.push_toArray, List.append_toArray, List.nil_append, List.cons_append]
  go_wp2_with fail
  refine (leaves_any seed _ _ hv0 (hK.below hb0 hkl)).mono ?_
  rintro e w1 ⟨rfl, hb1⟩
  rw [HE.out, HL.out]
  have hB1 := hb0.trans (hb1.mono hb0.size)
  have hD1 := hD0.below hb1 hD0.lt
  have hl1 := hD1.lt
  clear hb0 hD0 hb1 hv0
  go_wp2_with (first | (refine wpList_store_row rfl 51 (.tmp 4) (.tmp 9) rfl w1.heap.size rfl (cellsB (List.replicate 128 0)) (cellsB (List.replicate 128 0)) 51 rfl (Row.new w1 _ _) rfl HS4.out (cellsB_one _) ?_; intro w2 hg2 hr2 hz2; clear hz2; have hb2 : Below w1.heap.size w1 w2 := ((Below.refl _ _).alloc (Nat.le_refl _) _).grown hg2 (by simp) (fun k hk => by cases hk; exact Nat.le_refl _); clear hg2; have hD2 := hD1.below hb2 hl1; have hB2 := hB1.trans (hb2.mono hB1.size); clear hb2 hr2 hD1 hB1) | (refine wpList_load_row rfl 25 (.tmp 2) rfl w.heap.size rfl 25 (cellsB (List.replicate 32 0)) (0, 0) _ hD2 Tryd.underD rfl HS0.out ?_) | (refine wpList_store_row rfl 25 (.tmp 2) (.tmp 13) rfl w.heap.size rfl (cellsB (List.replicate 32 0)) (cellsB (List.replicate 32 0)) 25 rfl hD2 rfl HS0.out (cellsB_one _) ?_; intro w4 hg4 hr4 hz4))
  exact ⟨_, results_cell_row_tmp rfl _ _ w.heap.size 25 (cellsB (List.replicate 32 0)) (0, 0) _ rfl hr4 Tryd.underD rfl HS0.out, rfl, hB2.grown hg4 hB2.size (fun k hk => by cases hk; exact Nat.le_refl _)⟩
theorem kroot_any (seed : List UInt8) (v : Value) (w : World) (hv : Bytes w v seed (fun _ => True)) (hK : KFact w) :
    Calls Tryd.prog 12 #[v] w fun e w' => e = .returned (.tuple #[.agg (cellsB (rootK seed)), .int .i64 (errL seed : Nat)]) ∧ Below w.heap.size w w' := by
  unfold rootK errL
  cases hok : okLen seed with
  | false => exact kroot_bad seed v w hv hK hok
  | true => exact kroot_ok seed v w hv hK hok
end Go.Proofs.YteogcilnpkaplaaDoor

namespace Go.Proofs.YteogcilnpkaplaaDoor
open Go.RowKit
theorem Tryd.underG : ∃ fs, Tryd.prog.underlying 31 = some (.struct fs) := by
  have h : (Tryd.prog.underlying 31).map (fun d => match d with | .struct _ => true | _ => false) = some true := by kernel_rfl
  cases hu : Tryd.prog.underlying 31 with
  | none => rw [hu] at h; cases h
  | some d =>
    rw [hu] at h
    cases d with
    | struct fs => exact ⟨fs, rfl⟩
    | _ => cases h
theorem Tryd.sizeG : (Tryd.prog.info? 31).map (·.size) = some 3 := by kernel_rfl
/-- A signature's cells. -/
def sigC (i : Int) (cv pv : Value) : Array Value := #[.int .i64 i, cv, pv]
theorem sigC_size (i : Int) (cv pv : Value) : (Tryd.prog.info? 31).map (·.size) = some (sigC i cv pv).size := Tryd.sizeG
theorem sigC_one (i : Int) (a b : Option Addr) (n c m d : Nat) : ∀ v ∈ (sigC i (.slice a n c) (.slice b m d)).toList, v.oneCell' = true := by
  intro v hv
  simp only [sigC, List.mem_cons, List.not_mem_nil, or_false] at hv
  rcases hv with rfl | rfl | rfl <;> rfl
/-- A store into a signature's box leaves the digests where they are. -/
theorem digs_sig {w w' : World} {g : Nat} {v : Value} {xs : List Dg} {t : TypeId} {i : Int} {a b : Option Addr} {n c m d : Nat} (h : Digs w v xs) (hr : Row w g t (sigC i (.slice a n c) (.slice b m d))) (hg : w.grownBy w' (some g)) : Digs w' v xs := by
  obtain ⟨ad, cap, rfl, hc0, hc1, ha | ⟨bb, off, rfl, hat⟩⟩ := h
  · exact ⟨_, _, rfl, hc0, hc1, .inl ha⟩
  · refine ⟨_, _, rfl, hc0, hc1, .inr ⟨bb, off, rfl, fun k hk => ?_⟩⟩
    have hcell := hat k hk
    have hne : bb ≠ g := by
      intro e
      subst e
      have h1 := hr.cell (off + k)
      rw [hcell] at h1
      have h2 := List.mem_of_getElem? (l := (sigC i (.slice a n c) (.slice b m d)).toList) (i := off + k) (by rw [Array.getElem?_toList]; exact h1.symm)
      simp only [sigC, List.mem_cons, List.not_mem_nil, or_false] at h2
      rcases h2 with h2 | h2 | h2 <;> cases h2
    exact (World.cell?_of_block (w := w) (a := ⟨bb, off + k, none⟩) (hg.block bb (block_lt_of_cell hcell) (fun e => hne (Option.some.inj e)))).trans hcell
def okSign (seed : List UInt8) (idx : Int) : Bool := decide (0 ≤ idx) && decide (idx < 4) && okLen seed
def errG (seed : List UInt8) (idx : Int) : Nat := if okSign seed idx = true then 0 else 1
def idxG (seed : List UInt8) (idx : Int) : Int := if okSign seed idx = true then idx else 0
def chainsG (seed msg : List UInt8) (idx : Int) : List Dg := if okSign seed idx = true then signR seed idx (msgOf msg) else []
def pathG (seed : List UInt8) (idx : Int) : List Dg := if okSign seed idx = true then pathR (leavesOf seed) idx else []
theorem okSign_iff (seed : List UInt8) (idx : Int) : okSign seed idx = true ↔ 0 ≤ idx ∧ idx < 4 ∧ okLen seed = true := by unfold okSign; simp [and_assoc]
def SigRet (seed msg : List UInt8) (idx : Int) (w : World) (e : Ending) (w' : World) : Prop :=
  ∃ cv pv, e = .returned (.tuple #[.agg (sigC (idxG seed idx) cv pv), .int .i64 (errG seed idx : Nat)]) ∧ Digs w' cv (chainsG seed msg idx) ∧ Digs w' pv (pathG seed idx) ∧ Below w.heap.size w w'
set_option maxRecDepth 10000 in
set_option maxHeartbeats 4000000 in
theorem ksign_idx (seed msg : List UInt8) (v mv : Value) (idx : Int) (w : World) (h : idx < 0 ∨ 4 ≤ idx) :
    Calls Tryd.prog 14 #[v, .int .i64 idx, mv] w (SigRet seed msg idx w) := by
  have hno : okSign seed idx = false := by
    cases hok : okSign seed idx with
    | false => rfl
    | true => obtain ⟨h1, h2, -⟩ := (okSign_iff _ _).1 hok; omega
  have e1 : idxG seed idx = 0 := by unfold idxG; rw [hno]; rfl
  have e2 : errG seed idx = 1 := by unfold errG; rw [hno]; rfl
  have e3 : chainsG seed msg idx = [] := by unfold chainsG; rw [hno]; rfl
  have e4 : pathG seed idx = [] := by unfold pathG; rw [hno]; rfl
  unfold SigRet
  rw [e1, e2, e3, e4]
  clear e1 e2 e3 e4 hno
  obtain ⟨fs, hu⟩ := Tryd.underG
  have HU := Lib.hid hu
  clear hu
  have hb0 : Below w.heap.size w (w.alloc (.cells (sigC 0 (.slice none 0 0) (.slice none 0 0)) 31)) := (Below.refl _ _).alloc (Nat.le_refl _) _
  have hD0 : Row (w.alloc (.cells (sigC 0 (.slice none 0 0) (.slice none 0 0)) 31)) w.heap.size 31 (sigC 0 (.slice none 0 0) (.slice none 0 0)) := Row.new w _ _
  by_cases h0 : idx < 0
  · have hd0 : decide (idx < 0) = true := decide_eq_true h0
    clear h
    go_enter Tryd.func14, Tryd.ntmps14
    go_wp2_with (first | (refine wpList_load_row rfl 31 (.tmp 6) rfl w.heap.size rfl 31 (sigC 0 (.slice none 0 0) (.slice none 0 0)) (0, 0) _ hD0 HU.out rfl (sigC_size _ _ _) ?_) | (refine wpList_store_row rfl 31 (.tmp 6) (.tmp 17) rfl w.heap.size rfl (sigC 0 (.slice none 0 0) (.slice none 0 0)) (sigC 0 (.slice none 0 0) (.slice none 0 0)) 31 rfl hD0 rfl (sigC_size _ _ _) (sigC_one _ _ _ _ _ _ _) ?_; intro w2 hg2 hr2 hz2))
    refine bodyPost_ret (results_cell_row_tmp rfl _ _ w.heap.size 31 (sigC 0 (.slice none 0 0) (.slice none 0 0)) (0, 0) _ rfl hr2 HU.out rfl (sigC_size _ _ _)) rfl ?_
    exact ⟨_, _, rfl, Digs.nil _, Digs.nil _, hb0.grown hg2 hb0.size (fun k hk => by cases hk; exact Nat.le_refl _)⟩
  · have h4 : (4 : Int) ≤ idx := by omega
    have hd0 : decide (idx < 0) = false := decide_eq_false h0
    have hd4 : decide ((4 : Int) ≤ idx) = true := decide_eq_true h4
    clear h
    go_enter Tryd.func14, Tryd.ntmps14
    go_wp2_with (first | (refine wpList_load_row rfl 31 (.tmp 6) rfl w.heap.size rfl 31 (sigC 0 (.slice none 0 0) (.slice none 0 0)) (0, 0) _ hD0 HU.out rfl (sigC_size _ _ _) ?_) | (refine wpList_store_row rfl 31 (.tmp 6) (.tmp 17) rfl w.heap.size rfl (sigC 0 (.slice none 0 0) (.slice none 0 0)) (sigC 0 (.slice none 0 0) (.slice none 0 0)) 31 rfl hD0 rfl (sigC_size _ _ _) (sigC_one _ _ _ _ _ _ _) ?_; intro w2 hg2 hr2 hz2))
    refine bodyPost_ret (results_cell_row_tmp rfl _ _ w.heap.size 31 (sigC 0 (.slice none 0 0) (.slice none 0 0)) (0, 0) _ rfl hr2 HU.out rfl (sigC_size _ _ _)) rfl ?_
    exact ⟨_, _, rfl, Digs.nil _, Digs.nil _, hb0.grown hg2 hb0.size (fun k hk => by cases hk; exact Nat.le_refl _)⟩
set_option maxRecDepth 10000 in
set_option maxHeartbeats 4000000 in
theorem ksign_len (seed msg : List UInt8) (v : Value) (mv : Value) (idx : Int) (w : World) (hv : Bytes w v seed (fun _ => True)) (hK : KFact w) (h0 : 0 ≤ idx) (h4 : idx < 4) (hok : okLen seed = false) :
    Calls Tryd.prog 14 #[v, .int .i64 idx, mv] w (SigRet seed msg idx w) := by
  have hno : okSign seed idx = false := by unfold okSign; rw [hok, Bool.and_false]
  have e1 : idxG seed idx = 0 := by unfold idxG; rw [hno]; rfl
  have e2 : errG seed idx = 1 := by unfold errG; rw [hno]; rfl
  have e3 : chainsG seed msg idx = [] := by unfold chainsG; rw [hno]; rfl
  have e4 : pathG seed idx = [] := by unfold pathG; rw [hno]; rfl
  unfold SigRet
  rw [e1, e2, e3, e4]
  have hkl := hK.lt
  have HE : Hid (errL seed = 1) := Lib.hid (by unfold errL; rw [hok]; rfl)
  have HL : Hid (leavesR seed = List.replicate 128 0) := Lib.hid (by unfold leavesR; rw [hok]; rfl)
  have HS4 := Lib.hid (Tryd.size4_of (List.replicate 128 0) List.length_replicate)
  clear e1 e2 e3 e4 hno hok
  obtain ⟨fs, hu⟩ := Tryd.underG
  have HU := Lib.hid hu
  obtain ⟨av, kv, rfl⟩ : ∃ a c, v = .slice a seed.length c := by obtain ⟨a, c, h, _⟩ := hv; exact ⟨a, c, h⟩
  have hb0 : Below w.heap.size w (w.alloc (.cells (sigC 0 (.slice none 0 0) (.slice none 0 0)) 31)) := (Below.refl _ _).alloc (Nat.le_refl _) _
  have hD0 : Row (w.alloc (.cells (sigC 0 (.slice none 0 0) (.slice none 0 0)) 31)) w.heap.size 31 (sigC 0 (.slice none 0 0) (.slice none 0 0)) := Row.new w _ _
  have hv0 := (hv.later hb0).imp (ok' := fun _ => True) fun _ _ => trivial
  have h0' : ¬ idx < 0 := by omega
  have h4' : ¬ (4 : Int) ≤ idx := by omega
  have hd0 : decide (idx < 0) = false := decide_eq_false h0'
  have hd4 : decide ((4 : Int) ≤ idx) = false := decide_eq_false h4'
  clear hu hv h0 h4
  go_enter Tryd.func14, Tryd.ntmps14
  go_wp2_with fail
  refine (leaves_any seed _ _ hv0 (hK.below hb0 hkl)).mono ?_
  rintro e w1 ⟨rfl, hb1⟩
  rw [HE.out, HL.out]
  have hB1 := hb0.trans (hb1.mono hb0.size)
  have hD1 := hD0.below hb1 hD0.lt
  have hl1 := hD1.lt
  clear hb0 hD0 hb1 hv0
  go_wp2_with (first | (refine wpList_store_row rfl 51 (.tmp 8) (.tmp 21) rfl w1.heap.size rfl (cellsB (List.replicate 128 0)) (cellsB (List.replicate 128 0)) 51 rfl (Row.new w1 _ _) rfl HS4.out (cellsB_one _) ?_; intro w2 hg2 hr2 hz2; clear hz2; have hb2 : Below w1.heap.size w1 w2 := ((Below.refl _ _).alloc (Nat.le_refl _) _).grown hg2 (by simp) (fun k hk => by cases hk; exact Nat.le_refl _); clear hg2; have hD2 := hD1.below hb2 hl1; have hB2 := hB1.trans (hb2.mono hB1.size); clear hb2 hr2 hD1 hB1) | (refine wpList_load_row rfl 31 (.tmp 6) rfl w.heap.size rfl 31 (sigC 0 (.slice none 0 0) (.slice none 0 0)) (0, 0) _ hD2 HU.out rfl (sigC_size _ _ _) ?_) | (refine wpList_store_row rfl 31 (.tmp 6) (.tmp 25) rfl w.heap.size rfl (sigC 0 (.slice none 0 0) (.slice none 0 0)) (sigC 0 (.slice none 0 0) (.slice none 0 0)) 31 rfl hD2 rfl (sigC_size _ _ _) (sigC_one _ _ _ _ _ _ _) ?_; intro w4 hg4 hr4 hz4))
  refine bodyPost_ret (results_cell_row_tmp rfl _ _ w.heap.size 31 (sigC 0 (.slice none 0 0) (.slice none 0 0)) (0, 0) _ rfl hr4 HU.out rfl (sigC_size _ _ _)) rfl ?_
  exact ⟨_, _, rfl, Digs.nil _, Digs.nil _, hB2.grown hg4 hB2.size (fun k hk => by cases hk; exact Nat.le_refl _)⟩
end Go.Proofs.YteogcilnpkaplaaDoor

namespace Go.Proofs.YteogcilnpkaplaaDoor
open Go.RowKit
set_option maxRecDepth 10000 in
set_option maxHeartbeats 4000000 in
theorem ksign_ok (seed msg : List UInt8) (v : Value) (mv : Value) (idx : Int) (w : World) (hv : Bytes w v seed (fun _ => True)) (hm : Bytes w mv msg (fun _ => True)) (hml : msg.length ≤ 1000000) (hK : KFact w) (hok : okSign seed idx = true) :
    Calls Tryd.prog 14 #[v, .int .i64 idx, mv] w (SigRet seed msg idx w) := by
  obtain ⟨h0, h4, hl⟩ := (okSign_iff _ _).1 hok
  have e1 : idxG seed idx = idx := by unfold idxG; rw [hok]; rfl
  have e2 : errG seed idx = 0 := by unfold errG; rw [hok]; rfl
  have e3 : chainsG seed msg idx = signR seed idx (msgOf msg) := by unfold chainsG; rw [hok]; rfl
  have e4 : pathG seed idx = pathR (leavesOf seed) idx := by unfold pathG; rw [hok]; rfl
  unfold SigRet
  rw [e1, e2, e3, e4]
  have hkl := hK.lt
  have HE : Hid (errL seed = 0) := Lib.hid (by unfold errL; rw [hl]; rfl)
  have HL : Hid (leavesR seed = (leavesOf seed).flatten) := Lib.hid (by unfold leavesR; rw [hl]; rfl)
  have HER : Hid (errR seed idx = 0) := Lib.hid (errR_ok (by
    obtain ⟨i, rfl⟩ := Int.eq_ofNat_of_zero_le h0
    rw [okSeed_small (by omega)]; exact hl))
  have HEP : Hid (errP (leavesOf seed).length idx = 0) := Lib.hid (by unfold errP; rw [leavesOf_len, if_pos ((okPath_iff _ _).2 ⟨rfl, h0, by omega⟩)])
  have hll := leavesOf_len seed
  have hl32 := leavesOf_32 seed
  generalize leavesOf seed = l at *
  have hfl : l.flatten.length = 128 := by rw [flat_len l hl32, hll]
  have HLL := Lib.hid hll
  have H32 := Lib.hid hl32
  have HS4 := Lib.hid (Tryd.size4_of l.flatten hfl)
  have HC4 : Hid ((cellsB l.flatten).size = (cellsB (List.replicate 128 0)).size) := Lib.hid (by rw [cellsB_size, hfl]; rfl)
  have HML := Lib.hid hml
  have hmo : (msgOf msg).length = 32 := taggedOf_len _ _
  obtain ⟨mo, hmx⟩ : ∃ mo, msgOf msg = mo := ⟨_, rfl⟩
  rw [hmx] at hmo ⊢
  have HMX := Lib.hid hmx
  clear hmx
  clear e1 e2 e3 e4 hok hll hl32 hfl hml hl
  obtain ⟨fs, hu⟩ := Tryd.underG
  have HU := Lib.hid hu
  have HMO := Lib.hid hmo
  obtain ⟨av, kv, rfl⟩ : ∃ a c, v = .slice a seed.length c := by obtain ⟨a, c, h, _⟩ := hv; exact ⟨a, c, h⟩
  obtain ⟨am, km, rfl⟩ : ∃ a c, mv = .slice a msg.length c := by obtain ⟨a, c, h, _⟩ := hm; exact ⟨a, c, h⟩
  have hb0 : Below w.heap.size w (w.alloc (.cells (sigC 0 (.slice none 0 0) (.slice none 0 0)) 31)) := (Below.refl _ _).alloc (Nat.le_refl _) _
  have hD0 : Row (w.alloc (.cells (sigC 0 (.slice none 0 0) (.slice none 0 0)) 31)) w.heap.size 31 (sigC 0 (.slice none 0 0) (.slice none 0 0)) := Row.new w _ _
  have hv0 := (hv.later hb0).imp (ok' := fun _ => True) fun _ _ => trivial
  have h0' : ¬ idx < 0 := by omega
  have h4' : ¬ (4 : Int) ≤ idx := by omega
  have hd0 : decide (idx < 0) = false := decide_eq_false h0'
  have hd4 : decide ((4 : Int) ≤ idx) = false := decide_eq_false h4'
  clear hu hmo h0 h4
  go_enter Tryd.func14, Tryd.ntmps14
  go_wp2_with fail
  refine (leaves_any seed _ _ hv0 (hK.below hb0 hkl)).mono ?_
  rintro e w1 ⟨rfl, hb1⟩
  rw [HE.out, HL.out]
  have hB1 := hb0.trans (hb1.mono hb0.size)
  have hD1 := hD0.below hb1 hD0.lt
  have hl1 := hD1.lt
  clear hb0 hD0 hb1 hv0
  go_wp2_with (first | (refine wpList_store_row rfl 51 (.tmp 8) (.tmp 21) rfl w1.heap.size rfl (cellsB l.flatten) (cellsB (List.replicate 128 0)) 51 rfl (Row.new w1 _ _) HC4.out HS4.out (cellsB_one _) ?_; intro w2 hg2 hr2 hz2; clear hz2; have hb2 : Below w1.heap.size w1 w2 := ((Below.refl _ _).alloc (Nat.le_refl _) _).grown hg2 (by simp) (fun k hk => by cases hk; exact Nat.le_refl _); clear hg2; have hD2 := hD1.below hb2 hl1; have hB2 := hB1.trans (hb2.mono hB1.size); clear hb2 hD1 hB1))
  have hm2 := (hm.later hB2).imp (ok' := fun _ => True) fun _ _ => trivial
  refine (digest_any msg _ w2 hm2 HML.out (hK.below hB2 hkl)).mono ?_
  rintro e w3 ⟨rfl, hb3⟩
  rw [HMX.out]
  have hB3 := hB2.trans (hb3.mono hB2.size)
  have hD3 := hD2.below hb3 hD2.lt
  have hr3 := hr2.below hb3 hr2.lt
  have hv3 := (hv.later hB3).imp (ok' := fun _ => True) fun _ _ => trivial
  clear hb3 hB2 hD2 hr2 hm2
  go_wp2_with fail
  refine (sign_any seed mo _ idx w3 hv3 HMO.out (hK.below hB3 hkl)).mono ?_
  rintro e w4 ⟨cv, rfl, hcv, hb4⟩
  rw [HER.out]
  have hB4 := hB3.trans (hb4.mono hB3.size)
  have hD4 := hD3.below hb4 hD3.lt
  have hr4 := hr3.below hb4 hr3.lt
  clear hb4 hB3 hD3 hr3 hv3
  obtain ⟨ac, kc, rfl⟩ := hcv.form
  go_wp2_with fail
  refine (path_any l _ idx w4 (rowDigs hr4 4 HLL.out.symm (by rw [HLL.out]; decide)) H32.out (hK.below hB4 hkl)).mono ?_
  rintro e w5 ⟨pv, rfl, hpv, hb5⟩
  rw [HEP.out]
  have hB5 := hB4.trans (hb5.mono hB4.size)
  have hD5 := hD4.below hb5 hD4.lt
  have hcv5 := hcv.later hb5
  obtain ⟨ap, kp, rfl⟩ := hpv.form
  clear hb5 hB4 hD4 hr4 hcv
  go_wp2_with (first | (refine wpList_store_row rfl 31 (.tmp 6) (.tmp 52) rfl w.heap.size rfl (sigC idx (.slice ac _ kc) (.slice ap _ kp)) (sigC 0 (.slice none 0 0) (.slice none 0 0)) 31 rfl hD5 rfl (sigC_size _ _ _) (sigC_one _ _ _ _ _ _ _) ?_; intro w6 hg6 hr6 hz6))
  refine bodyPost_ret (results_cell_row_tmp rfl _ _ w.heap.size 31 (sigC idx (.slice ac _ kc) (.slice ap _ kp)) (0, 0) _ rfl hr6 HU.out rfl (sigC_size _ _ _)) rfl ?_
  exact ⟨_, _, rfl, digs_sig hcv5 hD5 hg6, digs_sig hpv hD5 hg6, hB5.grown hg6 hB5.size (fun k hk => by cases hk; exact Nat.le_refl _)⟩
theorem ksign_any (seed msg : List UInt8) (v : Value) (mv : Value) (idx : Int) (w : World) (hv : Bytes w v seed (fun _ => True)) (hm : Bytes w mv msg (fun _ => True)) (hml : msg.length ≤ 1000000) (hK : KFact w) :
    Calls Tryd.prog 14 #[v, .int .i64 idx, mv] w (SigRet seed msg idx w) := by
  cases hok : okSign seed idx with
  | true => exact ksign_ok seed msg v mv idx w hv hm hml hK hok
  | false =>
    by_cases h0 : idx < 0
    · exact ksign_idx seed msg v mv idx w (.inl h0)
    · by_cases h4 : 4 ≤ idx
      · exact ksign_idx seed msg v mv idx w (.inr h4)
      · cases hl : okLen seed with
        | false => exact ksign_len seed msg v mv idx w hv hK (by omega) (by omega) hl
        | true => rw [(okSign_iff _ _).2 ⟨by omega, by omega, hl⟩] at hok; cases hok
end Go.Proofs.YteogcilnpkaplaaDoor

namespace Go.Proofs.YteogcilnpkaplaaDoor
open Go.RowKit
def shapeB (i : Int) (cs ps : List Dg) : Bool := decide (0 ≤ i) && decide (i < 4) && decide (cs.length = 18) && decide (ps.length = 2)
theorem shapeB_iff (i : Int) (cs ps : List Dg) : shapeB i cs ps = true ↔ 0 ≤ i ∧ i < 4 ∧ cs.length = 18 ∧ ps.length = 2 := by unfold shapeB; simp [and_assoc]
def verK (root : Dg) (msg : List UInt8) (i : Int) (cs ps : List Dg) : Bool := shapeB i cs ps && decide (climbR (recR (msgOf msg) cs) i ps = root)
theorem errC_shape {i : Int} {cs ps : List Dg} (h : shapeB i cs ps = true) : errC i ps.length = 0 := by
  obtain ⟨h1, h2, -, h4⟩ := (shapeB_iff _ _ _).1 h
  unfold errC
  rw [h4, if_pos ((okClimb_iff _ _).2 ⟨by omega, h1, by omega⟩)]
theorem errS_shape {i : Int} {cs ps : List Dg} (h : shapeB i cs ps = true) : errS cs = 0 := errS_ok ((shapeB_iff _ _ _).1 h).2.2.1
set_option maxRecDepth 100000 in
set_option maxHeartbeats 4000000 in
theorem kv_neg (root : Dg) (msg : List UInt8) (mv : Value) (i : Int) (cv pv : Value) (cs ps : List Dg) (w : World) (hr : root.length = 32) (hm : Bytes w mv msg (fun _ => True)) (hml : msg.length ≤ 1000000) (hc : Digs w cv cs) (h32c : all32 cs) (hp : Digs w pv ps) (h32p : all32 ps) (hK : KFact w) (h : i < 0) :
    Calls Tryd.prog 20 #[.agg (cellsB root), mv, .agg (sigC i cv pv)] w fun e w' => e = .returned (.bool false) ∧ Below w.heap.size w w' := by
  have hkl := hK.lt
  have HRT := Lib.hid hr
  have HSR := Lib.hid (Tryd.sizeD_of root hr)
  have HML := Lib.hid hml
  have H32C := Lib.hid h32c
  have H32P := Lib.hid h32p
  obtain ⟨ac, kc, rfl⟩ := hc.form
  obtain ⟨ap, kp, rfl⟩ := hp.form
  obtain ⟨am, km, rfl⟩ : ∃ a c, mv = .slice a msg.length c := by obtain ⟨a, c, h, _⟩ := hm; exact ⟨a, c, h⟩
  have hb0 : Below w.heap.size w ((w.alloc (.cells (cellsB root) 25)).alloc (.cells (sigC i (.slice ac cs.length kc) (.slice ap ps.length kp)) 31)) := ((Below.refl _ _).alloc (Nat.le_refl _) _).alloc (by simp) _
  have hr0 : Row ((w.alloc (.cells (cellsB root) 25)).alloc (.cells (sigC i (.slice ac cs.length kc) (.slice ap ps.length kp)) 31)) w.heap.size 25 (cellsB root) := (Row.new w _ _).alloc _
  have hs0 : Row ((w.alloc (.cells (cellsB root) 25)).alloc (.cells (sigC i (.slice ac cs.length kc) (.slice ap ps.length kp)) 31)) (w.heap.size + 1) 31 (sigC i (.slice ac cs.length kc) (.slice ap ps.length kp)) := by
    have h := Row.new (w.alloc (.cells (cellsB root) 25)) (sigC i (.slice ac cs.length kc) (.slice ap ps.length kp)) 31
    rwa [show (w.alloc (.cells (cellsB root) 25)).heap.size = w.heap.size + 1 by simp] at h
  have hf0 : ((w.alloc (.cells (cellsB root) 25)).alloc (.cells (sigC i (.slice ac cs.length kc) (.slice ap ps.length kp)) 31)).cell? ⟨w.heap.size + 1, 0, none⟩ = some (.int .i64 i) := hs0.cell 0
  have hf1 : ((w.alloc (.cells (cellsB root) 25)).alloc (.cells (sigC i (.slice ac cs.length kc) (.slice ap ps.length kp)) 31)).cell? ⟨w.heap.size + 1, 1, none⟩ = some (.slice ac cs.length kc) := hs0.cell 1
  have hf2 : ((w.alloc (.cells (cellsB root) 25)).alloc (.cells (sigC i (.slice ac cs.length kc) (.slice ap ps.length kp)) 31)).cell? ⟨w.heap.size + 1, 2, none⟩ = some (.slice ap ps.length kp) := hs0.cell 2
  clear hr hml h32c h32p
  have hd0 : decide (i < 0) = true := decide_eq_true h
  go_enter Tryd.func20, Tryd.ntmps20
  go_wp2
  go_ret
  exact ⟨rfl, hb0⟩
set_option maxRecDepth 100000 in
set_option maxHeartbeats 4000000 in
theorem kv_four (root : Dg) (msg : List UInt8) (mv : Value) (i : Int) (cv pv : Value) (cs ps : List Dg) (w : World) (hr : root.length = 32) (hm : Bytes w mv msg (fun _ => True)) (hml : msg.length ≤ 1000000) (hc : Digs w cv cs) (h32c : all32 cs) (hp : Digs w pv ps) (h32p : all32 ps) (hK : KFact w) (h0 : ¬ i < 0) (h : 4 ≤ i) :
    Calls Tryd.prog 20 #[.agg (cellsB root), mv, .agg (sigC i cv pv)] w fun e w' => e = .returned (.bool false) ∧ Below w.heap.size w w' := by
  have hkl := hK.lt
  have HRT := Lib.hid hr
  have HSR := Lib.hid (Tryd.sizeD_of root hr)
  have HML := Lib.hid hml
  have H32C := Lib.hid h32c
  have H32P := Lib.hid h32p
  obtain ⟨ac, kc, rfl⟩ := hc.form
  obtain ⟨ap, kp, rfl⟩ := hp.form
  obtain ⟨am, km, rfl⟩ : ∃ a c, mv = .slice a msg.length c := by obtain ⟨a, c, h, _⟩ := hm; exact ⟨a, c, h⟩
  have hb0 : Below w.heap.size w ((w.alloc (.cells (cellsB root) 25)).alloc (.cells (sigC i (.slice ac cs.length kc) (.slice ap ps.length kp)) 31)) := ((Below.refl _ _).alloc (Nat.le_refl _) _).alloc (by simp) _
  have hr0 : Row ((w.alloc (.cells (cellsB root) 25)).alloc (.cells (sigC i (.slice ac cs.length kc) (.slice ap ps.length kp)) 31)) w.heap.size 25 (cellsB root) := (Row.new w _ _).alloc _
  have hs0 : Row ((w.alloc (.cells (cellsB root) 25)).alloc (.cells (sigC i (.slice ac cs.length kc) (.slice ap ps.length kp)) 31)) (w.heap.size + 1) 31 (sigC i (.slice ac cs.length kc) (.slice ap ps.length kp)) := by
    have h := Row.new (w.alloc (.cells (cellsB root) 25)) (sigC i (.slice ac cs.length kc) (.slice ap ps.length kp)) 31
    rwa [show (w.alloc (.cells (cellsB root) 25)).heap.size = w.heap.size + 1 by simp] at h
  have hf0 : ((w.alloc (.cells (cellsB root) 25)).alloc (.cells (sigC i (.slice ac cs.length kc) (.slice ap ps.length kp)) 31)).cell? ⟨w.heap.size + 1, 0, none⟩ = some (.int .i64 i) := hs0.cell 0
  have hf1 : ((w.alloc (.cells (cellsB root) 25)).alloc (.cells (sigC i (.slice ac cs.length kc) (.slice ap ps.length kp)) 31)).cell? ⟨w.heap.size + 1, 1, none⟩ = some (.slice ac cs.length kc) := hs0.cell 1
  have hf2 : ((w.alloc (.cells (cellsB root) 25)).alloc (.cells (sigC i (.slice ac cs.length kc) (.slice ap ps.length kp)) 31)).cell? ⟨w.heap.size + 1, 2, none⟩ = some (.slice ap ps.length kp) := hs0.cell 2
  clear hr hml h32c h32p
  have hd0 : decide (i < 0) = false := decide_eq_false h0
  have hd1 : decide ((4 : Int) ≤ i) = true := decide_eq_true h
  go_enter Tryd.func20, Tryd.ntmps20
  go_wp2
  go_ret
  exact ⟨rfl, hb0⟩
set_option maxRecDepth 100000 in
set_option maxHeartbeats 4000000 in
theorem kv_chains (root : Dg) (msg : List UInt8) (mv : Value) (i : Int) (cv pv : Value) (cs ps : List Dg) (w : World) (hr : root.length = 32) (hm : Bytes w mv msg (fun _ => True)) (hml : msg.length ≤ 1000000) (hc : Digs w cv cs) (h32c : all32 cs) (hp : Digs w pv ps) (h32p : all32 ps) (hK : KFact w) (h0 : ¬ i < 0) (h4 : ¬ 4 ≤ i) (h : ¬ cs.length = 18) :
    Calls Tryd.prog 20 #[.agg (cellsB root), mv, .agg (sigC i cv pv)] w fun e w' => e = .returned (.bool false) ∧ Below w.heap.size w w' := by
  have hkl := hK.lt
  have HRT := Lib.hid hr
  have HSR := Lib.hid (Tryd.sizeD_of root hr)
  have HML := Lib.hid hml
  have H32C := Lib.hid h32c
  have H32P := Lib.hid h32p
  obtain ⟨ac, kc, rfl⟩ := hc.form
  obtain ⟨ap, kp, rfl⟩ := hp.form
  obtain ⟨am, km, rfl⟩ : ∃ a c, mv = .slice a msg.length c := by obtain ⟨a, c, h, _⟩ := hm; exact ⟨a, c, h⟩
  have hb0 : Below w.heap.size w ((w.alloc (.cells (cellsB root) 25)).alloc (.cells (sigC i (.slice ac cs.length kc) (.slice ap ps.length kp)) 31)) := ((Below.refl _ _).alloc (Nat.le_refl _) _).alloc (by simp) _
  have hr0 : Row ((w.alloc (.cells (cellsB root) 25)).alloc (.cells (sigC i (.slice ac cs.length kc) (.slice ap ps.length kp)) 31)) w.heap.size 25 (cellsB root) := (Row.new w _ _).alloc _
  have hs0 : Row ((w.alloc (.cells (cellsB root) 25)).alloc (.cells (sigC i (.slice ac cs.length kc) (.slice ap ps.length kp)) 31)) (w.heap.size + 1) 31 (sigC i (.slice ac cs.length kc) (.slice ap ps.length kp)) := by
    have h := Row.new (w.alloc (.cells (cellsB root) 25)) (sigC i (.slice ac cs.length kc) (.slice ap ps.length kp)) 31
    rwa [show (w.alloc (.cells (cellsB root) 25)).heap.size = w.heap.size + 1 by simp] at h
  have hf0 : ((w.alloc (.cells (cellsB root) 25)).alloc (.cells (sigC i (.slice ac cs.length kc) (.slice ap ps.length kp)) 31)).cell? ⟨w.heap.size + 1, 0, none⟩ = some (.int .i64 i) := hs0.cell 0
  have hf1 : ((w.alloc (.cells (cellsB root) 25)).alloc (.cells (sigC i (.slice ac cs.length kc) (.slice ap ps.length kp)) 31)).cell? ⟨w.heap.size + 1, 1, none⟩ = some (.slice ac cs.length kc) := hs0.cell 1
  have hf2 : ((w.alloc (.cells (cellsB root) 25)).alloc (.cells (sigC i (.slice ac cs.length kc) (.slice ap ps.length kp)) 31)).cell? ⟨w.heap.size + 1, 2, none⟩ = some (.slice ap ps.length kp) := hs0.cell 2
  clear hr hml h32c h32p
  have hd0 : decide (i < 0) = false := decide_eq_false h0
  have hd1 : decide ((4 : Int) ≤ i) = false := decide_eq_false h4
  have hd2 : ¬ (cs.length : Int) = 18 := by omega
  have hd3 : ((cs.length : Int) == 18) = false := by simpa using hd2
  go_enter Tryd.func20, Tryd.ntmps20
  go_wp2
  go_ret
  exact ⟨rfl, hb0⟩
set_option maxRecDepth 100000 in
set_option maxHeartbeats 4000000 in
theorem kv_path (root : Dg) (msg : List UInt8) (mv : Value) (i : Int) (cv pv : Value) (cs ps : List Dg) (w : World) (hr : root.length = 32) (hm : Bytes w mv msg (fun _ => True)) (hml : msg.length ≤ 1000000) (hc : Digs w cv cs) (h32c : all32 cs) (hp : Digs w pv ps) (h32p : all32 ps) (hK : KFact w) (h0 : ¬ i < 0) (h4 : ¬ 4 ≤ i) (hcs : cs.length = 18) (h : ¬ ps.length = 2) :
    Calls Tryd.prog 20 #[.agg (cellsB root), mv, .agg (sigC i cv pv)] w fun e w' => e = .returned (.bool false) ∧ Below w.heap.size w w' := by
  have hkl := hK.lt
  have HRT := Lib.hid hr
  have HSR := Lib.hid (Tryd.sizeD_of root hr)
  have HML := Lib.hid hml
  have H32C := Lib.hid h32c
  have H32P := Lib.hid h32p
  obtain ⟨ac, kc, rfl⟩ := hc.form
  obtain ⟨ap, kp, rfl⟩ := hp.form
  obtain ⟨am, km, rfl⟩ : ∃ a c, mv = .slice a msg.length c := by obtain ⟨a, c, h, _⟩ := hm; exact ⟨a, c, h⟩
  have hb0 : Below w.heap.size w ((w.alloc (.cells (cellsB root) 25)).alloc (.cells (sigC i (.slice ac cs.length kc) (.slice ap ps.length kp)) 31)) := ((Below.refl _ _).alloc (Nat.le_refl _) _).alloc (by simp) _
  have hr0 : Row ((w.alloc (.cells (cellsB root) 25)).alloc (.cells (sigC i (.slice ac cs.length kc) (.slice ap ps.length kp)) 31)) w.heap.size 25 (cellsB root) := (Row.new w _ _).alloc _
  have hs0 : Row ((w.alloc (.cells (cellsB root) 25)).alloc (.cells (sigC i (.slice ac cs.length kc) (.slice ap ps.length kp)) 31)) (w.heap.size + 1) 31 (sigC i (.slice ac cs.length kc) (.slice ap ps.length kp)) := by
    have h := Row.new (w.alloc (.cells (cellsB root) 25)) (sigC i (.slice ac cs.length kc) (.slice ap ps.length kp)) 31
    rwa [show (w.alloc (.cells (cellsB root) 25)).heap.size = w.heap.size + 1 by simp] at h
  have hf0 : ((w.alloc (.cells (cellsB root) 25)).alloc (.cells (sigC i (.slice ac cs.length kc) (.slice ap ps.length kp)) 31)).cell? ⟨w.heap.size + 1, 0, none⟩ = some (.int .i64 i) := hs0.cell 0
  have hf1 : ((w.alloc (.cells (cellsB root) 25)).alloc (.cells (sigC i (.slice ac cs.length kc) (.slice ap ps.length kp)) 31)).cell? ⟨w.heap.size + 1, 1, none⟩ = some (.slice ac cs.length kc) := hs0.cell 1
  have hf2 : ((w.alloc (.cells (cellsB root) 25)).alloc (.cells (sigC i (.slice ac cs.length kc) (.slice ap ps.length kp)) 31)).cell? ⟨w.heap.size + 1, 2, none⟩ = some (.slice ap ps.length kp) := hs0.cell 2
  clear hr hml h32c h32p
  have hd0 : decide (i < 0) = false := decide_eq_false h0
  have hd1 : decide ((4 : Int) ≤ i) = false := decide_eq_false h4
  rw [hcs] at hb0 hf0 hf1 hf2 ⊢
  have hd4 : ¬ (ps.length : Int) = 2 := by omega
  have hd5 : ((ps.length : Int) == 2) = false := by simpa using hd4
  go_enter Tryd.func20, Tryd.ntmps20
  go_wp2
  go_ret
  exact ⟨rfl, hb0⟩
set_option maxRecDepth 100000 in
set_option maxHeartbeats 4000000 in
theorem kv_ok (root : Dg) (msg : List UInt8) (mv : Value) (i : Int) (cv pv : Value) (cs ps : List Dg) (w : World) (hr : root.length = 32) (hm : Bytes w mv msg (fun _ => True)) (hml : msg.length ≤ 1000000) (hc : Digs w cv cs) (h32c : all32 cs) (hp : Digs w pv ps) (h32p : all32 ps) (hK : KFact w) (hsh : shapeB i cs ps = true) :
    Calls Tryd.prog 20 #[.agg (cellsB root), mv, .agg (sigC i cv pv)] w fun e w' => e = .returned (.bool (decide (climbR (recR (msgOf msg) cs) i ps = root))) ∧ Below w.heap.size w w' := by
  have hkl := hK.lt
  have HRT := Lib.hid hr
  have HSR := Lib.hid (Tryd.sizeD_of root hr)
  have HML := Lib.hid hml
  have H32C := Lib.hid h32c
  have H32P := Lib.hid h32p
  obtain ⟨ac, kc, rfl⟩ := hc.form
  obtain ⟨ap, kp, rfl⟩ := hp.form
  obtain ⟨am, km, rfl⟩ : ∃ a c, mv = .slice a msg.length c := by obtain ⟨a, c, h, _⟩ := hm; exact ⟨a, c, h⟩
  have hb0 : Below w.heap.size w ((w.alloc (.cells (cellsB root) 25)).alloc (.cells (sigC i (.slice ac cs.length kc) (.slice ap ps.length kp)) 31)) := ((Below.refl _ _).alloc (Nat.le_refl _) _).alloc (by simp) _
  have hr0 : Row ((w.alloc (.cells (cellsB root) 25)).alloc (.cells (sigC i (.slice ac cs.length kc) (.slice ap ps.length kp)) 31)) w.heap.size 25 (cellsB root) := (Row.new w _ _).alloc _
  have hs0 : Row ((w.alloc (.cells (cellsB root) 25)).alloc (.cells (sigC i (.slice ac cs.length kc) (.slice ap ps.length kp)) 31)) (w.heap.size + 1) 31 (sigC i (.slice ac cs.length kc) (.slice ap ps.length kp)) := by
    have h := Row.new (w.alloc (.cells (cellsB root) 25)) (sigC i (.slice ac cs.length kc) (.slice ap ps.length kp)) 31
    rwa [show (w.alloc (.cells (cellsB root) 25)).heap.size = w.heap.size + 1 by simp] at h
  have hf0 : ((w.alloc (.cells (cellsB root) 25)).alloc (.cells (sigC i (.slice ac cs.length kc) (.slice ap ps.length kp)) 31)).cell? ⟨w.heap.size + 1, 0, none⟩ = some (.int .i64 i) := hs0.cell 0
  have hf1 : ((w.alloc (.cells (cellsB root) 25)).alloc (.cells (sigC i (.slice ac cs.length kc) (.slice ap ps.length kp)) 31)).cell? ⟨w.heap.size + 1, 1, none⟩ = some (.slice ac cs.length kc) := hs0.cell 1
  have hf2 : ((w.alloc (.cells (cellsB root) 25)).alloc (.cells (sigC i (.slice ac cs.length kc) (.slice ap ps.length kp)) 31)).cell? ⟨w.heap.size + 1, 2, none⟩ = some (.slice ap ps.length kp) := hs0.cell 2
  clear hr hml h32c h32p
  obtain ⟨h0, h4, hcs, hps⟩ := (shapeB_iff _ _ _).1 hsh
  have hd0 : decide (i < 0) = false := decide_eq_false (by omega)
  have hd1 : decide ((4 : Int) ≤ i) = false := decide_eq_false (by omega)
  have HES := Lib.hid (errS_shape hsh)
  have HEC := Lib.hid (errC_shape hsh)
  have hmo : (msgOf msg).length = 32 := taggedOf_len _ _
  obtain ⟨mo, hmo'⟩ : ∃ mo, msgOf msg = mo := ⟨_, rfl⟩
  rw [hmo'] at hmo ⊢
  have HMO := Lib.hid hmo
  have HMX := Lib.hid hmo'
  obtain ⟨x, hx⟩ : ∃ x, recR mo cs = x := ⟨_, rfl⟩
  have hxl : x.length = 32 := by rw [← hx]; exact recR_len _ _
  rw [hx]
  have HXE := Lib.hid hx
  have HX := Lib.hid hxl
  have HSX := Lib.hid (Tryd.sizeD_of x hxl)
  have HCX : Hid ((cellsB x).size = (cellsB (List.replicate 32 0)).size) := Lib.hid (by rw [cellsB_size, hxl]; rfl)
  obtain ⟨y, hy⟩ : ∃ y, climbR x i ps = y := ⟨_, rfl⟩
  have hyl : y.length = 32 := by rw [← hy]; exact climbR_len _ _ _ hxl
  rw [hy]
  have HYE := Lib.hid hy
  have HY := Lib.hid hyl
  have HSY := Lib.hid (Tryd.sizeD_of y hyl)
  have HCY : Hid ((cellsB y).size = (cellsB (List.replicate 32 0)).size) := Lib.hid (by rw [cellsB_size, hyl]; rfl)
  have HCS := Lib.hid hcs
  have HPS := Lib.hid hps
  rw [hcs] at hb0 hr0 hs0 hf0 hf1 hf2 hc ⊢
  rw [hps] at hb0 hr0 hs0 hf0 hf1 hf2 hp ⊢
  have hc0 := hc.later hb0
  have hp0 := hp.later hb0
  have hm0 := (hm.later hb0).imp (ok' := fun _ => True) fun _ _ => trivial
  have hK0 := hK.below hb0 hkl
  have hqe := fun w => eqlB y root HY.out HRT.out w
  generalize hbb : decide (y = root) = bb at *
  clear hmo hmo' hx hxl hy hyl hcs hps h0 h4 hsh hc hm hbb
  go_enter Tryd.func20, Tryd.ntmps20
  generalize hR3 : Code.region 3 _ _ = R3
  have HR3 := Lib.hid hR3
  clear hR3
  go_wp2
  obtain ⟨w0, ew0⟩ : ∃ w0, ((w.alloc (.cells (cellsB root) 25)).alloc (.cells (sigC i (.slice ac 18 kc) (.slice ap 2 kp)) 31)) = w0 := ⟨_, rfl⟩
  rw [ew0] at hb0 hr0 hs0 hf0 hf1 hf2 hc0 hp0 hm0 hK0
  change Code.wp _ _ _ _ ((w.alloc (.cells (cellsB root) 25)).alloc (.cells (sigC i (.slice ac 18 kc) (.slice ap 2 kp)) 31))
  rw [ew0]
  clear ew0
  rw [← HR3.out]
  clear HR3
  have hkl0 := hK0.lt
  have hlr := hr0.lt
  have hls := hs0.lt
  obtain ⟨B, eB⟩ : ∃ B, w0.heap.size = B := ⟨_, rfl⟩
  refine wp_gen fun a0 ha0 => ?_
  have i1 : a0.eval (.tmp 1) = .slice am msg.length km := by rw [ha0]; rfl
  have i5 : a0.eval (.tmp 5) = .pointer (some ⟨w.heap.size + 1, 0, none⟩) := by rw [ha0]; rfl
  have hsz : a0.tmps.size = 56 := by rw [ha0]; rfl
  refine wp_region_inv_late (B := B) 9 [some 31, some 32, some 33, some 34, some 35, some 30, some 36, some 37, some 7, none, some 8] [Asrt.eq (.slice am msg.length km), Asrt.eq (.agg (cellsB (mo))), Asrt.eq (.pointer (some ⟨w.heap.size + 1, 1, none⟩)), Asrt.eq (.slice ac 18 kc), Asrt.eq (.tuple #[.agg (cellsB x), .int .i64 0]), Asrt.eq (.tuple #[.agg (cellsB x), .int .i64 0]), Asrt.eq (.agg (cellsB (x))), Asrt.eq (.int .i64 0), Asrt.box] [(7, .int .i64 0)] rfl (by as_aux_lemma => kernel_rfl) (by rw [hsz]; as_aux_lemma => kernel_rfl) (by as_aux_lemma => kernel_rfl) (by as_aux_lemma => kernel_rfl) (by decide) ⟨rfl, trivial⟩ (by omega) ⟨?_, ?_, ?_, ?_, ?_, ?_, ?_, ?_, ?_, trivial⟩ ?_
  · as_aux_lemma =>
      intro ev w1 hg hin hc hgl hfn hd
      have hB := hg.top
      have g1 : ev (.tmp 1) = .slice am msg.length km := (hin 1 (by kernel_rfl)).trans i1
      clear hin hd
      refine step_on (guard_none rfl) fun K hK => ?_
      unfold YieldsG
      go_simp
      exact hK _ _ rfl (Grow.refl hB)
  · as_aux_lemma =>
      intro ev w1 hg hin hc hgl hfn hd
      have hB := hg.top
      have f31 : (ev (.tmp 31)) = .slice am msg.length km := hd.1 rfl _ rfl
      clear hin hd
      refine step_on (guard_none rfl) fun K hK => ?_
      unfold YieldsG
      go_simp
      refine (digest_any msg _ w1 ((hm0.later (by rw [eB]; exact hg.bl)).imp fun _ _ => trivial) HML.out (hK0.below hg.bl (by omega))).mono ?_
      rintro e w2 ⟨rfl, hb⟩
      exact ⟨_, rfl, hK _ _ (by show _ = _; rw [HMX.out]) (Grow.of hB hb)⟩
  · as_aux_lemma =>
      intro ev w1 hg hin hc hgl hfn hd
      have hB := hg.top
      have g5 : ev (.tmp 5) = .pointer (some ⟨w.heap.size + 1, 0, none⟩) := (hin 5 (by kernel_rfl)).trans i5
      clear hin hd
      refine step_on (guard_none rfl) fun K hK => ?_
      unfold YieldsG
      go_simp
      exact hK _ _ rfl (Grow.refl hB)
  · as_aux_lemma =>
      intro ev w1 hg hin hc hgl hfn hd
      have hB := hg.top
      have f33 : (ev (.tmp 33)) = .pointer (some ⟨w.heap.size + 1, 1, none⟩) := hd.1 rfl _ rfl
      clear hin hd
      refine step_on (guard_none rfl) fun K hK => ?_
      have hc1 := hg.cell hf1
      unfold YieldsG
      go_simp
      exact hK _ _ rfl (Grow.refl hB)
  · as_aux_lemma =>
      intro ev w1 hg hin hc hgl hfn hd
      have hB := hg.top
      have f32 : (ev (.tmp 32)) = .agg (cellsB (mo)) := hd.1 rfl _ rfl
      have f34 : (ev (.tmp 34)) = .slice ac 18 kc := hd.2.1 rfl _ rfl
      clear hin hd
      refine step_on (guard_none rfl) fun K hK => ?_
      unfold YieldsG
      go_simp
      refine (recover_any mo cs _ w1 HMO.out (hc0.later (by rw [eB]; exact hg.bl)) H32C.out (hK0.below hg.bl (by omega))).mono ?_
      rintro e w2 ⟨rfl, hb⟩
      exact ⟨_, rfl, hK _ _ (by show _ = _; rw [HXE.out, HES.out]; rfl) (Grow.of hB hb)⟩
  · as_aux_lemma =>
      intro ev w1 hg hin hc hgl hfn hd
      have hB := hg.top
      have f35 : (ev (.tmp 35)) = .tuple #[.agg (cellsB x), .int .i64 0] := hd.1 rfl _ rfl
      clear hin hd
      refine step_on (guard_none rfl) fun K hK => ?_
      unfold YieldsG
      go_simp
      exact hK _ _ rfl (Grow.refl hB)
  · as_aux_lemma =>
      intro ev w1 hg hin hc hgl hfn hd
      have hB := hg.top
      have f30 : (ev (.tmp 30)) = .tuple #[.agg (cellsB x), .int .i64 0] := hd.1 rfl _ rfl
      clear hin hd
      refine step_on (guard_none rfl) fun K hK => ?_
      unfold YieldsG
      go_simp
      exact hK _ _ rfl (Grow.refl hB)
  · as_aux_lemma =>
      intro ev w1 hg hin hc hgl hfn hd
      have hB := hg.top
      have f30 : (ev (.tmp 30)) = .tuple #[.agg (cellsB x), .int .i64 0] := hd.1 rfl _ rfl
      clear hin hd
      refine step_on (guard_none rfl) fun K hK => ?_
      unfold YieldsG
      go_simp
      exact hK _ _ rfl (Grow.refl hB)
  · as_aux_lemma =>
      intro ev w1 hg hin hc hgl hfn hd
      have hB := hg.top
      clear hin hd
      refine step_on (guard_none rfl) fun K hK => ?_
      unfold YieldsG
      go_simp
      exact hK _ _ ⟨_, rfl, hB, Row.new _ _ _⟩ (Grow.of hB ((Below.refl _ _).alloc (Nat.le_refl _) _))
  intro v w1 hg hall
  have hf0 : (v 0) = .slice am msg.length km := hall.1 (by simp)
  have hf1 : (v 1) = .agg (cellsB (mo)) := hall.2.1 (by simp)
  have hf2 : (v 2) = .pointer (some ⟨w.heap.size + 1, 1, none⟩) := hall.2.2.1 (by simp)
  have hf3 : (v 3) = .slice ac 18 kc := hall.2.2.2.1 (by simp)
  have hf4 : (v 4) = .tuple #[.agg (cellsB x), .int .i64 0] := hall.2.2.2.2.1 (by simp)
  have hf5 : (v 5) = .tuple #[.agg (cellsB x), .int .i64 0] := hall.2.2.2.2.2.1 (by simp)
  have hf6 : (v 6) = .agg (cellsB (x)) := hall.2.2.2.2.2.2.1 (by simp)
  have hf7 : (v 7) = .int .i64 0 := hall.2.2.2.2.2.2.2.1 (by simp)
  have hf8 : ∃ g, (v 8) = .pointer (some ⟨g, 0, none⟩) ∧ B ≤ g ∧ Row w1 g 25 (cellsB (List.replicate 32 0)) := hall.2.2.2.2.2.2.2.2.1 (by simp)
  clear hall i1 i5 hsz
  rw [ha0]
  clear ha0
  simp only [List.take_succ_cons, List.take_zero, List.drop_succ_cons, List.drop_zero, putAll, Act.put, List.setIfInBounds_toArray, List.set_cons_zero, List.set_cons_succ, Nat.zero_add, Nat.reduceAdd]
  rw [hf0, hf1, hf2, hf3, hf4, hf5, hf6, hf7]
  generalize v 8 = x8 at *
  clear hf0 hf1 hf2 hf3 hf4 hf5 hf6 hf7
  obtain ⟨g7, hg7, hgB7, hgr7⟩ := hf8
  subst hg7
  have hB1 := hb0.trans (hg.below.mono hb0.size)
  have hr1 := hr0.below hg.below hlr
  have hs1 := hs0.below hg.below hls
  have hp1 := hp0.later hg.below
  have hzz := hb0.size
  clear hg hr0 hs0 hf0 hf1 hf2 hc0 hp0 hm0 hK0
  refine ⟨fun _ => True, ⟨fun o ho w _ => by cases ho; rfl, trivial⟩, ?_⟩
  refine wpListI_cons trivial ?_
  refine wpList_store_row rfl 25 (.tmp 7) (.tmp 36) rfl g7 rfl (cellsB x) _ 25 rfl hgr7 HCX.out HSX.out (cellsB_one _) ?_
  intro w2 hg2 hx2 hz2
  have hr2 := hr1.grown hg2 (fun e => by have := Option.some.inj e; omega)
  have hs2 := hs1.grown hg2 (fun e => by have := Option.some.inj e; omega)
  have hB2 := hB1.grown hg2 hB1.size (fun k hk => by cases hk; omega)
  have hp2 : Digs w2 (.slice ap 2 kp) ps := hp.later hB2
  have hf0 : w2.cell? ⟨w.heap.size + 1, 0, none⟩ = some (.int .i64 i) := hs2.cell 0
  have hf2 : w2.cell? ⟨w.heap.size + 1, 2, none⟩ = some (.slice ap 2 kp) := hs2.cell 2
  clear hg2 hr1 hs1 hB1 hp1 hgr7 hgB7 eB hz2
  refine lateQ_intro (wpListI_cons trivial ?_)
  go_wp2
  refine ⟨rfl, wpListI_nil trivial ?_⟩
  have hl7 := hx2.lt
  go_wp2_with (first | (refine wpList_load_row rfl 25 (.tmp 7) rfl g7 rfl 25 (cellsB x) (0, 0) _ hx2 Tryd.underD rfl HSX.out ?_))
  refine (climb_any x i ps _ w2 HX.out hp2 H32P.out (hK.below hB2 hkl)).mono ?_
  rintro e w3 ⟨rfl, hb3⟩
  rw [HYE.out, HEC.out]
  have hB3 := hB2.trans (hb3.mono hB2.size)
  have hr3 := hr2.below hb3 hr2.lt
  have hl3 := hr3.lt
  clear hb3 hB2 hr2 hs2 hx2 hf0 hf2 hp2
  go_wp2_with (first | (refine wpList_store_row rfl 25 (.tmp 9) (.tmp 47) rfl w3.heap.size rfl (cellsB y) (cellsB (List.replicate 32 0)) 25 rfl (Row.new w3 _ _) HCY.out HSY.out (cellsB_one _) ?_; intro w4 hg4 hr4 hz4; clear hz4; have hb4 := box_below hg4; clear hg4; have hr5 := hr3.below hb4 hl3; have hB4 := hB3.trans (hb4.mono hB3.size); clear hb4 hB3 hr3; have hqe4 := hqe w4) | (refine wpList_load_on 25 (.tmp 9) rfl rfl w3.heap.size rfl 25 (cellsB y) (0, 0) _ hr4 Tryd.underD rfl HSY.out ?_) | (refine wpList_load_on 25 (.tmp 3) rfl rfl w.heap.size rfl 25 (cellsB root) (0, 0) _ hr5 Tryd.underD rfl HSR.out ?_))
  go_ret
  exact ⟨rfl, hB4⟩
theorem kverify_any (root : Dg) (msg : List UInt8) (mv : Value) (i : Int) (cv pv : Value) (cs ps : List Dg) (w : World) (hr : root.length = 32) (hm : Bytes w mv msg (fun _ => True)) (hml : msg.length ≤ 1000000) (hc : Digs w cv cs) (h32c : all32 cs) (hp : Digs w pv ps) (h32p : all32 ps) (hK : KFact w) :
    Calls Tryd.prog 20 #[.agg (cellsB root), mv, .agg (sigC i cv pv)] w fun e w' => e = .returned (.bool (verK root msg i cs ps)) ∧ Below w.heap.size w w' := by
  unfold verK
  cases hsh : shapeB i cs ps with
  | true => rw [Bool.true_and]; exact kv_ok root msg mv i cv pv cs ps w hr hm hml hc h32c hp h32p hK hsh
  | false =>
    rw [Bool.false_and]
    by_cases h0 : i < 0
    · exact kv_neg root msg mv i cv pv cs ps w hr hm hml hc h32c hp h32p hK h0
    · by_cases h4 : 4 ≤ i
      · exact kv_four root msg mv i cv pv cs ps w hr hm hml hc h32c hp h32p hK h0 h4
      · by_cases hcs : cs.length = 18
        · by_cases hps : ps.length = 2
          · rw [(shapeB_iff _ _ _).2 ⟨by omega, by omega, hcs, hps⟩] at hsh; cases hsh
          · exact kv_path root msg mv i cv pv cs ps w hr hm hml hc h32c hp h32p hK h0 h4 hcs hps
        · exact kv_chains root msg mv i cv pv cs ps w hr hm hml hc h32c hp h32p hK h0 h4 hcs
end Go.Proofs.YteogcilnpkaplaaDoor

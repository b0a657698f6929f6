/- crossbarlaw04.WotsNibblesIncomparable returns true. Conditions: the digests have 32 bytes, the tables lie in their variables. -/
import Derived.Test.YthhlfcbkggahmaaDoorWAsrt
namespace Go.Proofs.YthhlfcbkggahmaaDoor
open Go.RowKit
def covB (a b : List UInt8) (i : Nat) : Bool := (List.range i).all fun j => decide (nib b j ≤ nib a j)
theorem covB_succ (a b : List UInt8) (i : Nat) : covB a b (i + 1) = (covB a b i && decide (nib b i ≤ nib a i)) := by unfold covB; rw [List.range_succ, List.all_append]; simp
theorem covB_all {a b : List UInt8} (ha : a.length = 32) (hb : b.length = 32) : covB a b 18 = (a.take 8 == b.take 8) := by
  rw [Bool.eq_iff_iff, beq_iff_eq, ← covers_iff ha hb]
  unfold covB
  rw [List.all_eq_true]
  exact ⟨fun h i hi => of_decide_eq_true (h i (List.mem_range.2 hi)), fun h i hi => decide_eq_true (h i (List.mem_range.1 hi))⟩
theorem nibs_beq {a b : List UInt8} (ha : a.length = 32) (hb : b.length = 32) : decide (nibs a = nibs b) = (a.take 8 == b.take 8) := by
  rw [Bool.eq_iff_iff, beq_iff_eq, ← nibs_iff ha hb, decide_eq_true_iff]
theorem getElem_by8 {l : List UInt8} (j : Nat) (hj : j < l.length) : by8 l j = (l[j].toNat : Int) := by
  unfold by8 Y
  rw [List.getD_eq_getElem?_getD, List.getElem?_eq_getElem hj]; rfl
theorem take_cells {w : World} {n : Nat} {t : TypeId} {l : List UInt8} (h : Row w n t (cellsB l)) (k : Nat) (j : Nat) (hj : j < (l.take k).length) : w.cell? ((⟨n, 0, none⟩ : Addr).add j) = some (.int .u8 ((l.take k)[j].toNat : Int)) := by
  have hl : j < l.length := by rw [List.length_take] at hj; omega
  have hadd : (⟨n, 0, none⟩ : Addr).add j = ⟨n, j, none⟩ := by unfold Addr.add; split <;> simp_all
  rw [hadd, h.byte j hl, getElem_by8 j hl, List.getElem_take]
set_option maxRecDepth 100000 in
set_option maxHeartbeats 4000000 in
theorem nibblesIncomparable_any (a b : List UInt8) (w : World) (ha : a.length = 32) (hb : b.length = 32) (hK : KFact w) :
    Calls Tryd.prog 7 #[.agg (cellsB a), .agg (cellsB b)] w fun e w' => e = .returned (.bool true) ∧ Below w.heap.size w w' := by
  have hkl := hK.lt
  have HA := Lib.hid ha
  have HB := Lib.hid hb
  have HSA := Lib.hid (Tryd.sizeD_of a ha)
  have HSB := Lib.hid (Tryd.sizeD_of b hb)
  clear ha hb
  have hb0 : Below w.heap.size w ((w.alloc (.cells (cellsB a) 23)).alloc (.cells (cellsB b) 23)) := ((Below.refl _ _).alloc (Nat.le_refl _) _).alloc (by simp) _
  have ha0 : Row ((w.alloc (.cells (cellsB a) 23)).alloc (.cells (cellsB b) 23)) w.heap.size 23 (cellsB a) := (Row.new w _ _).alloc _
  have hd0 : Row ((w.alloc (.cells (cellsB a) 23)).alloc (.cells (cellsB b) 23)) (w.heap.size + 1) 23 (cellsB b) := by
    have h := Row.new (w.alloc (.cells (cellsB a) 23)) (cellsB b) 23
    rwa [show (w.alloc (.cells (cellsB a) 23)).heap.size = w.heap.size + 1 by simp] at h
  go_enter Tryd.func7, Tryd.ntmps7
  go_wp2_with fail
  refine (sane_any _ (hK.below hb0 hkl)).mono ?_
  rintro e w1 ⟨rfl, hb1⟩
  have hB1 := hb0.trans (hb1.mono hb0.size)
  have ha1 := ha0.below hb1 ha0.lt
  have hd1 := hd0.below hb1 hd0.lt
  clear hb0 ha0 hd0 hb1
  go_wp2_with (refine wpList_load_row rfl 23 (.tmp 2) rfl w.heap.size rfl 23 (cellsB a) (0, 0) _ ha1 Tryd.underD rfl HSA.out ?_)
  refine (nibbles_any a w1 HA.out).mono ?_
  rintro e w2 ⟨u1, rfl, hu1, hb2⟩
  obtain ⟨m1, o1, k1, rfl, hk11, hk12, hbl1, hc1⟩ := hu1.cells (nibs_len _)
  have hB2 := hB1.trans (hb2.mono hB1.size)
  have ha2 := ha1.below hb2 ha1.lt
  have hd2 := hd1.below hb2 hd1.lt
  clear hb2 ha1 hd1
  go_wp2_with (refine wpList_load_row rfl 23 (.tmp 3) rfl (w.heap.size + 1) rfl 23 (cellsB b) (0, 0) _ hd2 Tryd.underD rfl HSB.out ?_)
  refine (nibbles_any b w2 HB.out).mono ?_
  rintro e w0 ⟨u2, rfl, hu2, hb3⟩
  obtain ⟨m2, o2, k2, rfl, hk21, hk22, hbl2, hc2⟩ := hu2.cells (nibs_len _)
  have hbl0 := hB2.trans (hb3.mono hB2.size)
  have ha3 := ha2.below hb3 ha2.lt
  have hd3 := hd2.below hb3 hd2.lt
  have hu13 := hu1.later hb3
  have hc13 : ∀ i, i < 18 → w0.cell? ⟨m1, o1 + i, none⟩ = some (.int .i64 (nib a i : Nat)) := fun i hi => by
    have h := (hb3.cell (p := ⟨m1, o1 + i, none⟩) hbl1).trans (hc1 i hi)
    rwa [List.getD_eq_getElem?_getD, nibs_get a i hi] at h
  have hc23 : ∀ i, i < 18 → w0.cell? ⟨m2, o2 + i, none⟩ = some (.int .i64 (nib b i : Nat)) := fun i hi => by
    have h := hc2 i hi
    rwa [List.getD_eq_getElem?_getD, nibs_get b i hi] at h
  have HC1 := Lib.hid hc13
  have HC2 := Lib.hid hc23
  have HCA := Lib.hid (covB_all HA.out HB.out)
  have HNB := Lib.hid (nibs_beq HA.out HB.out)
  have HCS := Lib.hid (covB_succ a b)
  clear hb3 ha2 hd2 hu1 hc1 hc2 hc13 hc23 hB2 hB1 hbl1
  generalize hcv : covB a b = cv at *
  have hcv0 : cv 0 = true := by rw [← hcv]; rfl
  clear hcv
  go_wp2
  go_loopw [8, 7] (fun t c wr => ∃ (i : Nat) (cb : Bool), i ≤ 18 ∧ t = .int .i64 (i : Int) ∧ c = .bool cb ∧ Hid (cv i = cb) ∧ Below w0.heap.size w0 wr) (fun t _ _ => 18 - (intOf t).toNat)
  case atStart => exact ⟨0, true, by omega, rfl, rfl, hcv0, Below.refl _ _⟩
  case round =>
    clear hcv0
    obtain ⟨i, cb, hi, rfl, rfl, hcb, hbr⟩ := hrel
    by_cases hlt : i < 18
    · have c1 : wr.cell? ⟨m1, o1 + i, none⟩ = some (.int .i64 (nib a i : Nat)) := (hbr.cell (p := ⟨m1, o1 + i, none⟩) (block_lt_of_cell (HC1.out i hlt))).trans (HC1.out i hlt)
      have c2 : wr.cell? ⟨m2, o2 + i, none⟩ = some (.int .i64 (nib b i : Nat)) := (hbr.cell (p := ⟨m2, o2 + i, none⟩) (block_lt_of_cell (HC2.out i hlt))).trans (HC2.out i hlt)
      have x15 := nib_le a i
      have y15 := nib_le b i
      have HN : Hid (cv (i + 1) = (cb && decide (nib b i ≤ nib a i))) := by
        show _ = _
        rw [HCS.out, hcb.out]
      obtain ⟨x, hx⟩ : ∃ x, nib a i = x := ⟨_, rfl⟩
      obtain ⟨y, hy⟩ : ∃ y, nib b i = y := ⟨_, rfl⟩
      rw [hx] at c1 x15 HN
      rw [hy] at c2 y15 HN
      clear hx hy hcb
      have hi1 : (i : Int) < 18 := by omega
      obtain ⟨bb, hbb⟩ : ∃ bb, decide (y ≤ x) = bb := ⟨_, rfl⟩
      rw [hbb] at HN
      cases cb with
      | true =>
        go_wp2
        obtain ⟨B, eB⟩ : ∃ B, wr.heap.size = B := ⟨_, rfl⟩
        refine wp_gen fun a0 ha0 => ?_
        have i5 : a0.eval (.tmp 5) = .slice (some ⟨m1, o1, none⟩) 18 k1 := by rw [ha0]; rfl
        have i6 : a0.eval (.tmp 6) = .slice (some ⟨m2, o2, none⟩) 18 k2 := by rw [ha0]; rfl
        have i8 : a0.eval (.tmp 8) = .int .i64 (i : Int) := by rw [ha0]; rfl
        have i7 : a0.eval (.tmp 7) = .bool true := by rw [ha0]; rfl
        have hsz : a0.tmps.size = 81 := by rw [ha0]; rfl
        refine wp_region_inv_tail (B := B) 12 [some 54, some 55, some 56, some 57, some 58, some 59, some 60, some 61, some 62, some 63, some 64, some 65, some 7] [Asrt.eq (.bool true), Asrt.eq (.bool true), Asrt.eq (.slice (some ⟨m1, o1, none⟩) 18 k1), Asrt.eq (.int .i64 (i : Int)), Asrt.eq (.pointer (some ⟨m1, o1 + i, none⟩)), Asrt.eq (.int .i64 (x : Int)), Asrt.eq (.slice (some ⟨m2, o2, none⟩) 18 k2), Asrt.eq (.int .i64 (i : Int)), Asrt.eq (.pointer (some ⟨m2, o2 + i, none⟩)), Asrt.eq (.int .i64 (y : Int)), Asrt.eq (.bool bb), Asrt.eq (.bool bb)] rfl (by as_aux_lemma => kernel_rfl) (by rw [hsz]; as_aux_lemma => kernel_rfl) (by as_aux_lemma => kernel_rfl) (by as_aux_lemma => kernel_rfl) (by as_aux_lemma => kernel_rfl) (by decide) (by as_aux_lemma => kernel_rfl) (by omega) ⟨?_, ?_, ?_, ?_, ?_, ?_, ?_, ?_, ?_, ?_, ?_, ?_, trivial⟩ ?_
        · as_aux_lemma =>
            intro ev w1 hg hin hc hgl hfn hd
            have hB := hg.top
            have g7 : ev (.tmp 7) = .bool true := (hin 7 (by kernel_rfl)).trans i7
            clear hin hd
            refine step_on (guard_none rfl) fun K hK => ?_
            unfold YieldsG
            go_simp
            exact hK _ _ rfl (Grow.refl hB)
        · as_aux_lemma =>
            intro ev w1 hg hin hc hgl hfn hd
            have hB := hg.top
            have f54 : (ev (.tmp 54)) = .bool true := hd.1 rfl _ rfl
            clear hin hd
            refine step_on (guard_none rfl) fun K hK => ?_
            unfold YieldsG
            go_simp
            exact hK _ _ rfl (Grow.refl hB)
        · as_aux_lemma =>
            intro ev w1 hg hin hc hgl hfn hd
            have hB := hg.top
            have f55 : (ev (.tmp 55)) = .bool true := hd.1 rfl _ rfl
            have g5 : ev (.tmp 5) = .slice (some ⟨m1, o1, none⟩) 18 k1 := (hin 5 (by kernel_rfl)).trans i5
            clear hin hd
            refine step_on (guard_some rfl rfl f55) fun K hK => ?_
            unfold YieldsG
            go_simp
            exact hK _ _ rfl (Grow.refl hB)
        · as_aux_lemma =>
            intro ev w1 hg hin hc hgl hfn hd
            have hB := hg.top
            have f55 : (ev (.tmp 55)) = .bool true := hd.1 rfl _ rfl
            have g8 : ev (.tmp 8) = .int .i64 (i : Int) := (hin 8 (by kernel_rfl)).trans i8
            clear hin hd
            refine step_on (guard_some rfl rfl f55) fun K hK => ?_
            unfold YieldsG
            go_simp
            exact hK _ _ rfl (Grow.refl hB)
        · as_aux_lemma =>
            intro ev w1 hg hin hc hgl hfn hd
            have hB := hg.top
            have f56 : (ev (.tmp 56)) = .slice (some ⟨m1, o1, none⟩) 18 k1 := hd.1 rfl _ rfl
            have f57 : (ev (.tmp 57)) = .int .i64 (i : Int) := hd.2.1 rfl _ rfl
            have f55 : (ev (.tmp 55)) = .bool true := hd.2.2.1 rfl _ rfl
            clear hin hd
            refine step_on (guard_some rfl rfl f55) fun K hK => ?_
            unfold YieldsG
            go_simp
            exact hK _ _ rfl (Grow.refl hB)
        · as_aux_lemma =>
            intro ev w1 hg hin hc hgl hfn hd
            have hB := hg.top
            have f58 : (ev (.tmp 58)) = .pointer (some ⟨m1, o1 + i, none⟩) := hd.1 rfl _ rfl
            have f55 : (ev (.tmp 55)) = .bool true := hd.2.1 rfl _ rfl
            clear hin hd
            refine step_on (guard_some rfl rfl f55) fun K hK => ?_
            have hc1 := hg.cell c1
            unfold YieldsG
            go_simp
            exact hK _ _ rfl (Grow.refl hB)
        · as_aux_lemma =>
            intro ev w1 hg hin hc hgl hfn hd
            have hB := hg.top
            have f55 : (ev (.tmp 55)) = .bool true := hd.1 rfl _ rfl
            have g6 : ev (.tmp 6) = .slice (some ⟨m2, o2, none⟩) 18 k2 := (hin 6 (by kernel_rfl)).trans i6
            clear hin hd
            refine step_on (guard_some rfl rfl f55) fun K hK => ?_
            unfold YieldsG
            go_simp
            exact hK _ _ rfl (Grow.refl hB)
        · as_aux_lemma =>
            intro ev w1 hg hin hc hgl hfn hd
            have hB := hg.top
            have f55 : (ev (.tmp 55)) = .bool true := hd.1 rfl _ rfl
            have g8 : ev (.tmp 8) = .int .i64 (i : Int) := (hin 8 (by kernel_rfl)).trans i8
            clear hin hd
            refine step_on (guard_some rfl rfl f55) fun K hK => ?_
            unfold YieldsG
            go_simp
            exact hK _ _ rfl (Grow.refl hB)
        · as_aux_lemma =>
            intro ev w1 hg hin hc hgl hfn hd
            have hB := hg.top
            have f60 : (ev (.tmp 60)) = .slice (some ⟨m2, o2, none⟩) 18 k2 := hd.1 rfl _ rfl
            have f61 : (ev (.tmp 61)) = .int .i64 (i : Int) := hd.2.1 rfl _ rfl
            have f55 : (ev (.tmp 55)) = .bool true := hd.2.2.1 rfl _ rfl
            clear hin hd
            refine step_on (guard_some rfl rfl f55) fun K hK => ?_
            unfold YieldsG
            go_simp
            exact hK _ _ rfl (Grow.refl hB)
        · as_aux_lemma =>
            intro ev w1 hg hin hc hgl hfn hd
            have hB := hg.top
            have f62 : (ev (.tmp 62)) = .pointer (some ⟨m2, o2 + i, none⟩) := hd.1 rfl _ rfl
            have f55 : (ev (.tmp 55)) = .bool true := hd.2.1 rfl _ rfl
            clear hin hd
            refine step_on (guard_some rfl rfl f55) fun K hK => ?_
            have hc1 := hg.cell c2
            unfold YieldsG
            go_simp
            exact hK _ _ rfl (Grow.refl hB)
        · as_aux_lemma =>
            intro ev w1 hg hin hc hgl hfn hd
            have hB := hg.top
            have f59 : (ev (.tmp 59)) = .int .i64 (x : Int) := hd.1 rfl _ rfl
            have f63 : (ev (.tmp 63)) = .int .i64 (y : Int) := hd.2.1 rfl _ rfl
            have f55 : (ev (.tmp 55)) = .bool true := hd.2.2.1 rfl _ rfl
            clear hin hd
            refine step_on (guard_some rfl rfl f55) fun K hK => ?_
            unfold YieldsG
            go_simp
            first | exact hK _ _ rfl (Grow.refl hB) | (rw [hbb]; exact hK _ _ rfl (Grow.refl hB))
        · as_aux_lemma =>
            intro ev w1 hg hin hc hgl hfn hd
            have hB := hg.top
            have f55 : (ev (.tmp 55)) = .bool true := hd.1 rfl _ rfl
            have f64 : (ev (.tmp 64)) = .bool bb := hd.2.1 rfl _ rfl
            clear hin hd
            refine step_on (guard_none rfl) fun K hK => ?_
            unfold YieldsG
            go_simp
            exact hK _ _ rfl (Grow.refl hB)
        intro v w6 hg hall
        have hf0 : (v 0) = .bool true := hall.1 (by simp)
        have hf1 : (v 1) = .bool true := hall.2.1 (by simp)
        have hf2 : (v 2) = .slice (some ⟨m1, o1, none⟩) 18 k1 := hall.2.2.1 (by simp)
        have hf3 : (v 3) = .int .i64 (i : Int) := hall.2.2.2.1 (by simp)
        have hf4 : (v 4) = .pointer (some ⟨m1, o1 + i, none⟩) := hall.2.2.2.2.1 (by simp)
        have hf5 : (v 5) = .int .i64 (x : Int) := hall.2.2.2.2.2.1 (by simp)
        have hf6 : (v 6) = .slice (some ⟨m2, o2, none⟩) 18 k2 := hall.2.2.2.2.2.2.1 (by simp)
        have hf7 : (v 7) = .int .i64 (i : Int) := hall.2.2.2.2.2.2.2.1 (by simp)
        have hf8 : (v 8) = .pointer (some ⟨m2, o2 + i, none⟩) := hall.2.2.2.2.2.2.2.2.1 (by simp)
        have hf9 : (v 9) = .int .i64 (y : Int) := hall.2.2.2.2.2.2.2.2.2.1 (by simp)
        have hf10 : (v 10) = .bool bb := hall.2.2.2.2.2.2.2.2.2.2.1 (by simp)
        have hf11 : (v 11) = .bool bb := hall.2.2.2.2.2.2.2.2.2.2.2.1 (by simp)
        clear hall i5 i6 i8 i7 hsz
        rw [ha0]
        clear ha0
        simp only [List.take_succ_cons, List.take_zero, List.drop_succ_cons, List.drop_zero, putAll, Act.put, List.setIfInBounds_toArray, List.set_cons_zero, List.set_cons_succ, Nat.zero_add, Nat.reduceAdd]
        rw [hf0, hf1, hf2, hf3, hf4, hf5, hf6, hf7, hf8, hf9, hf10, hf11]
        clear hf0 hf1 hf2 hf3 hf4 hf5 hf6 hf7 hf8 hf9 hf10 hf11
        have hb6 := hbr.trans (hg.below.mono hbr.size)
        clear hg
        go_wp2
        go_roundw
        case rel => exact ⟨i + 1, _, by omega, by go_num, rfl, HN, hb6⟩
        case measure => simp [intOf]; omega
      | false =>
        go_wp2
        obtain ⟨B, eB⟩ : ∃ B, wr.heap.size = B := ⟨_, rfl⟩
        refine wp_gen fun a0 ha0 => ?_
        have i5 : a0.eval (.tmp 5) = .slice (some ⟨m1, o1, none⟩) 18 k1 := by rw [ha0]; rfl
        have i6 : a0.eval (.tmp 6) = .slice (some ⟨m2, o2, none⟩) 18 k2 := by rw [ha0]; rfl
        have i8 : a0.eval (.tmp 8) = .int .i64 (i : Int) := by rw [ha0]; rfl
        have i7 : a0.eval (.tmp 7) = .bool false := by rw [ha0]; rfl
        have hsz : a0.tmps.size = 81 := by rw [ha0]; rfl
        refine wp_region_inv_tail (B := B) 12 [some 54, some 55, some 56, some 57, some 58, some 59, some 60, some 61, some 62, some 63, some 64, some 65, some 7] [Asrt.eq (.bool false), Asrt.eq (.bool false), Asrt.any, Asrt.any, Asrt.any, Asrt.any, Asrt.any, Asrt.any, Asrt.any, Asrt.any, Asrt.any, Asrt.eq (.bool false)] rfl (by as_aux_lemma => kernel_rfl) (by rw [hsz]; as_aux_lemma => kernel_rfl) (by as_aux_lemma => kernel_rfl) (by as_aux_lemma => kernel_rfl) (by as_aux_lemma => kernel_rfl) (by decide) (by as_aux_lemma => kernel_rfl) (by omega) ⟨?_, ?_, ?_, ?_, ?_, ?_, ?_, ?_, ?_, ?_, ?_, ?_, trivial⟩ ?_
        · as_aux_lemma =>
            intro ev w1 hg hin hc hgl hfn hd
            have hB := hg.top
            have g7 : ev (.tmp 7) = .bool false := (hin 7 (by kernel_rfl)).trans i7
            clear hin hd
            refine step_on (guard_none rfl) fun K hK => ?_
            unfold YieldsG
            go_simp
            exact hK _ _ rfl (Grow.refl hB)
        · as_aux_lemma =>
            intro ev w1 hg hin hc hgl hfn hd
            have hB := hg.top
            have f54 : (ev (.tmp 54)) = .bool false := hd.1 rfl _ rfl
            clear hin hd
            refine step_on (guard_none rfl) fun K hK => ?_
            unfold YieldsG
            go_simp
            exact hK _ _ rfl (Grow.refl hB)
        · as_aux_lemma =>
            intro ev w1 hg hin hc hgl hfn hd
            have hB := hg.top
            have f55 : (ev (.tmp 55)) = .bool false := hd.1 rfl _ rfl
            have g5 : ev (.tmp 5) = .slice (some ⟨m1, o1, none⟩) 18 k1 := (hin 5 (by kernel_rfl)).trans i5
            clear hin hd
            exact step_off (guard_off rfl rfl f55 (by decide)) trivial
        · as_aux_lemma =>
            intro ev w1 hg hin hc hgl hfn hd
            have hB := hg.top
            have f55 : (ev (.tmp 55)) = .bool false := hd.1 rfl _ rfl
            have g8 : ev (.tmp 8) = .int .i64 (i : Int) := (hin 8 (by kernel_rfl)).trans i8
            clear hin hd
            exact step_off (guard_off rfl rfl f55 (by decide)) trivial
        · as_aux_lemma =>
            intro ev w1 hg hin hc hgl hfn hd
            have hB := hg.top
            have f55 : (ev (.tmp 55)) = .bool false := hd.2.2.1 rfl _ rfl
            clear hin hd
            exact step_off (guard_off rfl rfl f55 (by decide)) trivial
        · as_aux_lemma =>
            intro ev w1 hg hin hc hgl hfn hd
            have hB := hg.top
            have f55 : (ev (.tmp 55)) = .bool false := hd.2.1 rfl _ rfl
            clear hin hd
            exact step_off (guard_off rfl rfl f55 (by decide)) trivial
        · as_aux_lemma =>
            intro ev w1 hg hin hc hgl hfn hd
            have hB := hg.top
            have f55 : (ev (.tmp 55)) = .bool false := hd.1 rfl _ rfl
            have g6 : ev (.tmp 6) = .slice (some ⟨m2, o2, none⟩) 18 k2 := (hin 6 (by kernel_rfl)).trans i6
            clear hin hd
            exact step_off (guard_off rfl rfl f55 (by decide)) trivial
        · as_aux_lemma =>
            intro ev w1 hg hin hc hgl hfn hd
            have hB := hg.top
            have f55 : (ev (.tmp 55)) = .bool false := hd.1 rfl _ rfl
            have g8 : ev (.tmp 8) = .int .i64 (i : Int) := (hin 8 (by kernel_rfl)).trans i8
            clear hin hd
            exact step_off (guard_off rfl rfl f55 (by decide)) trivial
        · as_aux_lemma =>
            intro ev w1 hg hin hc hgl hfn hd
            have hB := hg.top
            have f55 : (ev (.tmp 55)) = .bool false := hd.2.2.1 rfl _ rfl
            clear hin hd
            exact step_off (guard_off rfl rfl f55 (by decide)) trivial
        · as_aux_lemma =>
            intro ev w1 hg hin hc hgl hfn hd
            have hB := hg.top
            have f55 : (ev (.tmp 55)) = .bool false := hd.2.1 rfl _ rfl
            clear hin hd
            exact step_off (guard_off rfl rfl f55 (by decide)) trivial
        · as_aux_lemma =>
            intro ev w1 hg hin hc hgl hfn hd
            have hB := hg.top
            have f55 : (ev (.tmp 55)) = .bool false := hd.2.2.1 rfl _ rfl
            clear hin hd
            exact step_off (guard_off rfl rfl f55 (by decide)) trivial
        · as_aux_lemma =>
            intro ev w1 hg hin hc hgl hfn hd
            have hB := hg.top
            have f55 : (ev (.tmp 55)) = .bool false := hd.1 rfl _ rfl
            clear hin hd
            refine step_on (guard_none rfl) fun K hK => ?_
            unfold YieldsG
            go_simp
            exact hK _ _ rfl (Grow.refl hB)
        intro v w6 hg hall
        have hf0 : (v 0) = .bool false := hall.1 (by simp)
        have hf1 : (v 1) = .bool false := hall.2.1 (by simp)
        have hf11 : (v 11) = .bool false := hall.2.2.2.2.2.2.2.2.2.2.2.1 (by simp)
        clear hall i5 i6 i8 i7 hsz
        rw [ha0]
        clear ha0
        simp only [List.take_succ_cons, List.take_zero, List.drop_succ_cons, List.drop_zero, putAll, Act.put, List.setIfInBounds_toArray, List.set_cons_zero, List.set_cons_succ, Nat.zero_add, Nat.reduceAdd]
        rw [hf0, hf1, hf11]
        generalize v 2 = x2 at *
        generalize v 3 = x3 at *
        generalize v 4 = x4 at *
        generalize v 5 = x5 at *
        generalize v 6 = x6 at *
        generalize v 7 = x7 at *
        generalize v 8 = x8 at *
        generalize v 9 = x9 at *
        generalize v 10 = x10 at *
        clear hf0 hf1 hf11
        have hb6 := hbr.trans (hg.below.mono hbr.size)
        clear hg
        go_wp2
        go_roundw
        case rel => exact ⟨i + 1, _, by omega, by go_num, rfl, HN, hb6⟩
        case measure => simp [intOf]; omega
    · obtain rfl : i = 18 := by omega
      rw [HCA.out] at hcb
      have har := ha3.below hbr ha3.lt
      have hdr := hd3.below hbr hd3.lt
      have hu1r := hu13.later hbr
      have hu2r := hu2.later hbr
      have hBr := hbl0.trans (hbr.mono hbl0.size)
      have hla : (a.take 8).length = 8 := by rw [List.length_take, HA.out]; rfl
      have hlb : (b.take 8).length = 8 := by rw [List.length_take, HB.out]; rfl
      have hca := take_cells har 8
      have hcb2 := take_cells hdr 8
      have hblk := hu1r
      have HNB2 := HNB
      obtain ⟨p2, e2⟩ : ∃ p, w.heap.size = p := ⟨_, rfl⟩
      obtain ⟨p3, e3⟩ : ∃ p, p2 + 1 = p := ⟨_, rfl⟩
      rw [e2] at har hca ⊢
      rw [e2, e3] at hdr hcb2
      rw [e3]
      have hal : Tryd.prog.arrayLen 23 = 32 := by kernel_rfl
      go_wp2
      have hlt2 := har.lt
      have hlt3 := hdr.lt
      obtain ⟨B, eB⟩ : ∃ B, wr.heap.size = B := ⟨_, rfl⟩
      refine wp_gen fun a0 ha0 => ?_
      have i2 : a0.eval (.tmp 2) = .pointer (some ⟨p2, 0, none⟩) := by rw [ha0]; rfl
      have i3 : a0.eval (.tmp 3) = .pointer (some ⟨p3, 0, none⟩) := by rw [ha0]; rfl
      have hsz : a0.tmps.size = 81 := by rw [ha0]; rfl
      refine wp_region_inv_tail (B := B) 5 [some 66, some 67, some 68, some 69, some 70, some 9] [Asrt.eq (.slice (some ⟨p2, 0, none⟩) 8 32), Asrt.eq (.string ⟨(a.take 8).toArray⟩), Asrt.eq (.slice (some ⟨p3, 0, none⟩) 8 32), Asrt.eq (.string ⟨(b.take 8).toArray⟩), Asrt.eq (.bool (a.take 8 == b.take 8))] rfl (by as_aux_lemma => kernel_rfl) (by rw [hsz]; as_aux_lemma => kernel_rfl) (by as_aux_lemma => kernel_rfl) (by as_aux_lemma => kernel_rfl) (by as_aux_lemma => kernel_rfl) (by decide) (by as_aux_lemma => kernel_rfl) (by omega) ⟨?_, ?_, ?_, ?_, ?_, trivial⟩ ?_
      · as_aux_lemma =>
          intro ev w1 hg hin hc hgl hfn hd
          have hB := hg.top
          have g2 : ev (.tmp 2) = .pointer (some ⟨p2, 0, none⟩) := (hin 2 (by kernel_rfl)).trans i2
          clear hin hd
          refine step_on (guard_none rfl) fun K hK => ?_
          unfold YieldsG
          go_simp
          exact hK _ _ rfl (Grow.refl hB)
      · as_aux_lemma =>
          intro ev w1 hg hin hc hgl hfn hd
          have hB := hg.top
          have f66 : (ev (.tmp 66)) = .slice (some ⟨p2, 0, none⟩) 8 32 := hd.1 rfl _ rfl
          clear hin hd
          refine step_on (guard_none rfl) fun K hK => ?_
          unfold YieldsG execOp
          have hcv := run_convert_bytes_back (P := Tryd.prog) w1 29 9 5 ⟨p2, 0, none⟩ 32 (a.take 8) Tryd.underB Tryd.underU8 Tryd.underStr (fun j hj => take_cells (har.below hg.bl (by omega)) 8 j hj)
          rw [hla] at hcv
          simp only [f66, hcv, Sem.run_bind, Result.andThen_ok]
          exact hK _ _ rfl (Grow.refl hB)
      · as_aux_lemma =>
          intro ev w1 hg hin hc hgl hfn hd
          have hB := hg.top
          have g3 : ev (.tmp 3) = .pointer (some ⟨p3, 0, none⟩) := (hin 3 (by kernel_rfl)).trans i3
          clear hin hd
          refine step_on (guard_none rfl) fun K hK => ?_
          unfold YieldsG
          go_simp
          exact hK _ _ rfl (Grow.refl hB)
      · as_aux_lemma =>
          intro ev w1 hg hin hc hgl hfn hd
          have hB := hg.top
          have f68 : (ev (.tmp 68)) = .slice (some ⟨p3, 0, none⟩) 8 32 := hd.1 rfl _ rfl
          clear hin hd
          refine step_on (guard_none rfl) fun K hK => ?_
          unfold YieldsG execOp
          have hcv := run_convert_bytes_back (P := Tryd.prog) w1 29 9 5 ⟨p3, 0, none⟩ 32 (b.take 8) Tryd.underB Tryd.underU8 Tryd.underStr (fun j hj => take_cells (hdr.below hg.bl (by omega)) 8 j hj)
          rw [hlb] at hcv
          simp only [f68, hcv, Sem.run_bind, Result.andThen_ok]
          exact hK _ _ rfl (Grow.refl hB)
      · as_aux_lemma =>
          intro ev w1 hg hin hc hgl hfn hd
          have hB := hg.top
          have f67 : (ev (.tmp 67)) = .string ⟨(a.take 8).toArray⟩ := hd.1 rfl _ rfl
          have f69 : (ev (.tmp 69)) = .string ⟨(b.take 8).toArray⟩ := hd.2.1 rfl _ rfl
          clear hin hd
          refine step_on (guard_none rfl) fun K hK => ?_
          unfold YieldsG execOp
          simp only [f67, f69, binOp_string_eql, Sem.run_bind, Sem.run_pure, Result.andThen_ok, ByteArray.toList_mk]
          exact hK _ _ rfl (Grow.refl hB)
      intro v w6 hg hall
      have hf0 : (v 0) = .slice (some ⟨p2, 0, none⟩) 8 32 := hall.1 (by simp)
      have hf1 : (v 1) = .string ⟨(a.take 8).toArray⟩ := hall.2.1 (by simp)
      have hf2 : (v 2) = .slice (some ⟨p3, 0, none⟩) 8 32 := hall.2.2.1 (by simp)
      have hf3 : (v 3) = .string ⟨(b.take 8).toArray⟩ := hall.2.2.2.1 (by simp)
      have hf4 : (v 4) = .bool (a.take 8 == b.take 8) := hall.2.2.2.2.1 (by simp)
      clear hall i2 i3 hsz
      rw [ha0]
      clear ha0
      simp only [List.take_succ_cons, List.take_zero, List.drop_succ_cons, List.drop_zero, putAll, Act.put, List.setIfInBounds_toArray, List.set_cons_zero, List.set_cons_succ, Nat.zero_add, Nat.reduceAdd]
      rw [hf0, hf1, hf2, hf3, hf4]
      clear hf0 hf1 hf2 hf3 hf4
      have hB6 := hBr.trans (hg.below.mono hBr.size)
      have hu16 := hu1r.later hg.below
      have hu26 := hu2r.later hg.below
      clear hg
      obtain ⟨sm, hsm⟩ : ∃ sm, (a.take 8 == b.take 8) = sm := ⟨_, rfl⟩
      rw [hsm] at hcb HNB2 ⊢
      have hcb' := hcb.out
      subst hcb'
      clear hcb hsm
      cases sm with
      | true =>
        go_wp2_with fail
        refine (ints_any (nibs a) (nibs b) _ _ w6 hu16 hu26 (by rw [nibs_len]; decide) (by rw [nibs_len]; decide)).mono ?_
        rintro e w7 ⟨rfl, hb7⟩
        rw [HNB2.out]
        have hB7 := hB6.trans (hb7.mono hB6.size)
        go_wp2
        go_ret
        exact ⟨rfl, hB7⟩
      | false =>
        go_wp2_with fail
        refine (ints_any (nibs a) (nibs b) _ _ w6 hu16 hu26 (by rw [nibs_len]; decide) (by rw [nibs_len]; decide)).mono ?_
        rintro e w7 ⟨rfl, hb7⟩
        rw [HNB2.out]
        have hB7 := hB6.trans (hb7.mono hB6.size)
        go_wp2
        go_ret
        exact ⟨rfl, hB7⟩
end Go.Proofs.YthhlfcbkggahmaaDoor

/- crossbarlaw04.WotsMatchesNibbles returns true. Conditions: the digests have 32 bytes, the tables lie in their variables. -/
import Derived.Test.YthhlfcbkggahmaaDoorWAsrt
namespace Go.Proofs.YthhlfcbkggahmaaDoor
open Go.RowKit
set_option maxRecDepth 100000 in
set_option maxHeartbeats 4000000 in
theorem matchesNibbles_any (d : List UInt8) (w : World) (hd : d.length = 32) (hK : KFact w) :
    Calls Tryd.prog 3 #[.agg (cellsB d)] w fun e w' => e = .returned (.bool true) ∧ Below w.heap.size w w' := by
  have hkl := hK.lt
  have HD := Lib.hid hd
  clear hd
  have hb0 : Below w.heap.size w (w.alloc (.cells (cellsB d) 23)) := (Below.refl _ _).alloc (Nat.le_refl _) _
  have hd0 : Row (w.alloc (.cells (cellsB d) 23)) w.heap.size 23 (cellsB d) := Row.new w _ _
  go_enter Tryd.func3, Tryd.ntmps3
  generalize hRR : Code.region 3 _ _ = RR
  go_wp2_with fail
  refine (sane_any _ (hK.below hb0 hkl)).mono ?_
  rintro e w0 ⟨rfl, hb1⟩
  have hbl' := hb0.trans (hb1.mono hb0.size)
  have hd1 := hd0.below hb1 hd0.lt
  clear hb0 hd0 hb1
  go_wp2
  rw [← hRR]
  clear hRR
  have hltn := hd1.lt
  obtain ⟨n, en⟩ : ∃ n, w.heap.size = n := ⟨_, rfl⟩
  have hblw := hbl'
  rw [en] at hd1 hltn
  obtain ⟨B, eB⟩ : ∃ B, w0.heap.size = B := ⟨_, rfl⟩
  refine wp_gen fun a0 ha0 => ?_
  have i1 : a0.eval (.tmp 1) = .pointer (some ⟨n, 0, none⟩) := by rw [ha0, ← en]; rfl
  have hsz : a0.tmps.size = 10 := by rw [ha0]; rfl
  have hdf0 : a0.defers = [] := by rw [ha0]
  clear ha0
  refine wp_region_inv (B := B) [some 5, some 6, some 7, some 8, some 9, some 2] [Asrt.eq (.agg (cellsB (d))), Asrt.nums (nibs d), Asrt.eq (.agg (cellsB (d))), Asrt.nums (nibs d), Asrt.eq (.bool true), Asrt.eq (.bool true)] rfl (by as_aux_lemma => kernel_rfl) (by rw [hsz]; as_aux_lemma => kernel_rfl) (by as_aux_lemma => kernel_rfl) (by omega) ⟨?_, ?_, ?_, ?_, ?_, ?_, trivial⟩ ?_
  · as_aux_lemma =>
      intro ev w1 hg hin hc hgl hfn hd
      have hB := hg.top
      have g1 : ev (.tmp 1) = .pointer (some ⟨n, 0, none⟩) := (hin 1 (by kernel_rfl)).trans i1
      clear hin hd
      refine step_on (guard_none rfl) fun K hK => ?_
      refine yg_load_row 23 (.tmp 1) rfl n g1 23 (cellsB d) (0, 0) _ (hd1.below hg.bl (by omega)) Tryd.underD rfl (Tryd.sizeD_of _ HD.out) ?_
      exact hK _ _ rfl (Grow.refl hB)
  · as_aux_lemma =>
      intro ev w1 hg hin hc hgl hfn hd
      have hB := hg.top
      have f5 : (ev (.tmp 5)) = .agg (cellsB (d)) := hd.1 rfl _ rfl
      clear hin hd
      refine step_on (guard_none rfl) fun K hK => ?_
      unfold YieldsG
      go_simp
      refine (nibbles_any d w1 HD.out).mono ?_
      rintro e w2 ⟨u, rfl, hu, hb⟩
      exact ⟨_, rfl, hK _ _ hu (Grow.of hB hb)⟩
  · as_aux_lemma =>
      intro ev w1 hg hin hc hgl hfn hd
      have hB := hg.top
      have g1 : ev (.tmp 1) = .pointer (some ⟨n, 0, none⟩) := (hin 1 (by kernel_rfl)).trans i1
      clear hin hd
      refine step_on (guard_none rfl) fun K hK => ?_
      refine yg_load_row 23 (.tmp 1) rfl n g1 23 (cellsB d) (0, 0) _ (hd1.below hg.bl (by omega)) Tryd.underD rfl (Tryd.sizeD_of _ HD.out) ?_
      exact hK _ _ rfl (Grow.refl hB)
  · as_aux_lemma =>
      intro ev w1 hg hin hc hgl hfn hd
      have hB := hg.top
      have f7 : (ev (.tmp 7)) = .agg (cellsB (d)) := hd.1 rfl _ rfl
      clear hin hd
      refine step_on (guard_none rfl) fun K hK => ?_
      unfold YieldsG
      go_simp
      refine (rnibbles_any d w1 HD.out).mono ?_
      rintro e w2 ⟨u, rfl, hu, hb⟩
      exact ⟨_, rfl, hK _ _ hu (Grow.of hB hb)⟩
  · as_aux_lemma =>
      intro ev w1 hg hin hc hgl hfn hd
      have hB := hg.top
      have f6 : Nums w1 (ev (.tmp 6)) (nibs d) := hd.1 rfl _ rfl
      have f8 : Nums w1 (ev (.tmp 8)) (nibs d) := hd.2.1 rfl _ rfl
      clear hin hd
      refine step_on (guard_none rfl) fun K hK => ?_
      unfold YieldsG
      go_simp
      refine (ints_any (nibs d) (nibs d) _ _ w1 f6 f8 (by rw [nibs_len]; decide) (by rw [nibs_len]; decide)).mono ?_
      rintro e w2 ⟨rfl, hb⟩
      exact ⟨_, rfl, hK _ _ (by rw [decide_eq_true rfl]; rfl) (Grow.of hB hb)⟩
  · as_aux_lemma =>
      intro ev w1 hg hin hc hgl hfn hd
      have hB := hg.top
      have f9 : (ev (.tmp 9)) = .bool true := hd.1 rfl _ rfl
      clear hin hd
      refine step_on (guard_none rfl) fun K hK => ?_
      unfold YieldsG
      go_simp
      exact hK _ _ rfl (Grow.refl hB)
  · intro v w2 hg hall
    have hr : v 5 = .bool true := hall.2.2.2.2.2.1 (by simp)
    generalize hput : putAll _ v 0 _ = af
    have h0 : af.tmps.getD 2 undef = v 5 := by rw [← hput]; exact putAll_at (by rw [hsz]; as_aux_lemma => kernel_rfl) rfl rfl
    have hdf : af.defers = [] := by rw [← hput, putAll_defers]; exact hdf0
    clear hput hall
    go_wp2
    refine bodyPost_ret (results_tmp rfl _ _ _) hdf ⟨?_, hbl'.trans (hg.bl.mono (by rw [← eB]; exact hbl'.size))⟩
    rw [h0, hr]
end Go.Proofs.YthhlfcbkggahmaaDoor

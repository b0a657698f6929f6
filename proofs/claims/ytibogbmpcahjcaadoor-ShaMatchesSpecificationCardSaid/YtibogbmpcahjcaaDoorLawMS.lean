/- crossbarlaw03.ShaMatchesSpecification returns true. Conditions: the tables lie in their variables. -/
import Derived.Test.YtibogbmpcahjcaaDoorLawCC
import Derived.Test.YtibogbmpcahjcaaDoorRefSum
namespace Go.Proofs.YtibogbmpcahjcaaDoor
open Go.RowKit
set_option maxRecDepth 100000 in
set_option maxHeartbeats 2000000 in
theorem ms_big (v : Value) (b : List UInt8) (w : World) (hv : Bytes w v b (fun _ => True)) (hR : RKFact w) (hI : RIFact w) (hK : KFact w) (hc : 1000 < b.length) :
    Calls Tryd.prog 3 #[v] w fun e w' => e = .returned (.bool true) ∧ Below w.heap.size w w' := by
  have hltw := hK.lt
  have hltr := hR.lt
  have hlti := hI.lt
  obtain ⟨av, cv, rfl⟩ : ∃ a c, v = .slice a b.length c := by obtain ⟨a, c, h, _⟩ := hv; exact ⟨a, c, h⟩
  go_enter Tryd.func3, Tryd.ntmps3
  generalize hRR : Code.region 5 _ _ = RR
  go_wp2_with fail
  refine (sane_any _ hK).mono ?_
  rintro e w0 ⟨rfl, hbl'⟩
  go_wp2
  go_ret
  exact ⟨rfl, hbl'⟩
set_option maxRecDepth 100000 in
set_option maxHeartbeats 2000000 in
theorem ms_main (v : Value) (b : List UInt8) (w : World) (hv : Bytes w v b (fun _ => True)) (hR : RKFact w) (hI : RIFact w) (hK : KFact w) (hc : ¬ 1000 < b.length) :
    Calls Tryd.prog 3 #[v] w fun e w' => e = .returned (.bool true) ∧ Below w.heap.size w w' := by
  have hltw := hK.lt
  have hltr := hR.lt
  have hlti := hI.lt
  obtain ⟨av, cv, rfl⟩ : ∃ a c, v = .slice a b.length c := by obtain ⟨a, c, h, _⟩ := hv; exact ⟨a, c, h⟩
  go_enter Tryd.func3, Tryd.ntmps3
  generalize hRR : Code.region 5 _ _ = RR
  go_wp2_with fail
  refine (sane_any _ hK).mono ?_
  rintro e w0 ⟨rfl, hbl'⟩
  have hb2 : Bytes w0 (.slice av b.length cv) b (fun _ => True) := (hv.later hbl').imp fun _ _ => trivial
  have hK0 : KFact w0 := hK.below hbl' hltw
  have hR0 : RKFact w0 := hR.below hbl' hltr
  have hI0 : RIFact w0 := hI.below hbl' hlti
  have hltk : 1 < w0.heap.size := hK0.lt
  have hltrk : 2 < w0.heap.size := hR0.lt
  have hltri : 0 < w0.heap.size := hI0.lt
  clear hK hR hI hltw hltr hlti hv
  go_wp2
  rw [← hRR]
  clear hRR
  have hblw := hbl'
  obtain ⟨B, eB⟩ : ∃ B, w0.heap.size = B := ⟨_, rfl⟩
  rw [eB] at hltk hltrk hltri
  refine wp_gen fun a0 ha0 => ?_
  have i0 : a0.eval (.tmp 0) = .slice av b.length cv := by rw [ha0]; rfl
  have hsz : a0.tmps.size = 13 := by rw [ha0]; rfl
  have hdf0 : a0.defers = [] := by rw [ha0]
  clear ha0
  refine wp_region_inv_text (B := B) [some 8, some 9, some 10, some 11, some 12, some 2] [Asrt.eq (.slice av b.length cv), Asrt.eq (.agg (cellsB (sumOf b))), Asrt.eq (.slice av b.length cv), Asrt.eq (.agg (cellsB (sumOf b))), Asrt.eq (.bool true), Asrt.eq (.bool true)] rfl (by rw [hsz]; as_aux_lemma => kernel_rfl) (by as_aux_lemma => kernel_rfl) (by omega) ⟨?_, ?_, ?_, ?_, ?_, ?_, trivial⟩ ?_
  · as_aux_lemma =>
      intro ev w1 hg hin hc hgl hfn hd
      have hB := hg.top
      have g0 : ev (.tmp 0) = .slice av b.length cv := (hin 0 (by kernel_rfl)).trans i0
      clear hin hd
      refine step_on (guard_none rfl) fun K hK => ?_
      unfold YieldsG
      go_simp
      exact hK _ _ rfl (Grow.refl hB)
  · as_aux_lemma =>
      intro ev w1 hg hin hc hgl hfn hd
      have hB := hg.top
      have f8 : (ev (.tmp 8)) = .slice av b.length cv := hd.1 rfl _ rfl
      clear hin hd
      refine step_on (guard_none rfl) fun K hK => ?_
      unfold YieldsG
      go_simp
      refine (sum_any b _ _ w1 ((Asrt.bytes (B := B) b).st _ _ _ hb2 hg) (hK0.below hg.bl hltk) (by omega)).mono ?_
      rintro e w2 ⟨rfl, hb⟩
      exact ⟨_, rfl, hK _ _ rfl (Grow.of hB hb)⟩
  · as_aux_lemma =>
      intro ev w1 hg hin hc hgl hfn hd
      have hB := hg.top
      have g0 : ev (.tmp 0) = .slice av b.length cv := (hin 0 (by kernel_rfl)).trans i0
      clear hin hd
      refine step_on (guard_none rfl) fun K hK => ?_
      unfold YieldsG
      go_simp
      exact hK _ _ rfl (Grow.refl hB)
  · as_aux_lemma =>
      intro ev w1 hg hin hc hgl hfn hd
      have hB := hg.top
      have f10 : (ev (.tmp 10)) = .slice av b.length cv := hd.1 rfl _ rfl
      clear hin hd
      refine step_on (guard_none rfl) fun K hK => ?_
      unfold YieldsG
      go_simp
      refine (rsum_any b _ _ w1 ((Asrt.bytes (B := B) b).st _ _ _ hb2 hg) (hR0.below hg.bl hltrk) (hI0.below hg.bl hltri) (by omega)).mono ?_
      rintro e w2 ⟨rfl, hb⟩
      exact ⟨_, rfl, hK _ _ rfl (Grow.of hB hb)⟩
  · as_aux_lemma =>
      intro ev w1 hg hin hc hgl hfn hd
      have hB := hg.top
      have f9 : (ev (.tmp 9)) = .agg (cellsB (sumOf b)) := hd.1 rfl _ rfl
      have f11 : (ev (.tmp 11)) = .agg (cellsB (sumOf b)) := hd.2.1 rfl _ rfl
      clear hin hd
      refine step_on (guard_none rfl) fun K hK => ?_
      have hq := eqlT (sumOf b) (sumOf b) (sumOf_len _) rfl
      unfold YieldsG
      go_simp
      exact hK _ _ rfl (Grow.refl hB)
  · as_aux_lemma =>
      intro ev w1 hg hin hc hgl hfn hd
      have hB := hg.top
      have f12 : (ev (.tmp 12)) = .bool true := hd.1 rfl _ rfl
      clear hin hd
      refine step_on (guard_none rfl) fun K hK => ?_
      unfold YieldsG
      go_simp
      exact hK _ _ rfl (Grow.refl hB)
  · intro v w2 hg hall
    have hr : v 5 = .bool true := hall.2.2.2.2.2.1 (by simp)
    generalize hput : putAll _ v 0 _ = af
    have h0 : af.tmps.getD 2 undef = v 5 := by rw [← hput]; exact putAll_at (by rw [hsz]; as_aux_lemma => kernel_rfl) rfl rfl
    have hdf : af.defers = [] := by rw [← hput, putAll_defers]; exact hdf0
    clear hput hall
    go_wp2
    refine bodyPost_ret (results_tmp rfl _ _ _) hdf ⟨?_, hbl'.trans (hg.bl.mono (by rw [← eB]; exact hbl'.size))⟩
    rw [h0, hr]
theorem matches_any (v : Value) (b : List UInt8) (w : World) (hv : Bytes w v b (fun _ => True)) (_hl : b.length ≤ maxLen) (hR : RKFact w) (hI : RIFact w) (hK : KFact w) :
    Calls Tryd.prog 3 #[v] w fun e w' => e = .returned (.bool true) ∧ Below w.heap.size w w' := by
  by_cases h1 : 1000 < b.length
  · exact ms_big v b w hv hR hI hK h1
  exact ms_main v b w hv hR hI hK h1
end Go.Proofs.YtibogbmpcahjcaaDoor

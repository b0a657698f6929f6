/- crossbarlaw03.ShaLengthExtension returns true. Conditions: the tables lie in their variables. -/
import Derived.Test.YtibogbmpcahjcaaDoorLawCC
import Derived.Test.YtibogbmpcahjcaaDoorRefResume
namespace Go.Proofs.YtibogbmpcahjcaaDoor
open Go.RowKit
def extMsg (b more : List UInt8) : List UInt8 := b ++ padding b.length ++ more
set_option maxRecDepth 100000 in
set_option maxHeartbeats 4000000 in
theorem le_big1 (v u : Value) (b more : List UInt8) (w : World) (hv : Bytes w v b (fun _ => True)) (hu : Bytes w u more (fun _ => True)) (hR : RKFact w) (hK : KFact w) (hc : 600 < b.length) :
    Calls Tryd.prog 4 #[v, u] w fun e w' => e = .returned (.bool true) ∧ Below w.heap.size w w' := by
  have hltw := hK.lt
  have hltr := hR.lt
  obtain ⟨av, cv, rfl⟩ : ∃ a c, v = .slice a b.length c := by obtain ⟨a, c, h, _⟩ := hv; exact ⟨a, c, h⟩
  obtain ⟨au, cu, rfl⟩ : ∃ a c, u = .slice a more.length c := by obtain ⟨a, c, h, _⟩ := hu; exact ⟨a, c, h⟩
  go_enter Tryd.func4, Tryd.ntmps4
  generalize hRR : Code.region 8 _ _ = RR
  go_wp2_with fail
  refine (sane_any _ hK).mono ?_
  rintro e w0 ⟨rfl, hb0⟩
  go_wp2
  go_ret
  exact ⟨rfl, hb0⟩
set_option maxRecDepth 100000 in
set_option maxHeartbeats 4000000 in
theorem le_big2 (v u : Value) (b more : List UInt8) (w : World) (hv : Bytes w v b (fun _ => True)) (hu : Bytes w u more (fun _ => True)) (hR : RKFact w) (hK : KFact w) (hc0 : ¬ 600 < b.length) (hc : 600 < more.length) :
    Calls Tryd.prog 4 #[v, u] w fun e w' => e = .returned (.bool true) ∧ Below w.heap.size w w' := by
  have hltw := hK.lt
  have hltr := hR.lt
  obtain ⟨av, cv, rfl⟩ : ∃ a c, v = .slice a b.length c := by obtain ⟨a, c, h, _⟩ := hv; exact ⟨a, c, h⟩
  obtain ⟨au, cu, rfl⟩ : ∃ a c, u = .slice a more.length c := by obtain ⟨a, c, h, _⟩ := hu; exact ⟨a, c, h⟩
  go_enter Tryd.func4, Tryd.ntmps4
  generalize hRR : Code.region 8 _ _ = RR
  go_wp2_with fail
  refine (sane_any _ hK).mono ?_
  rintro e w0 ⟨rfl, hb0⟩
  go_wp2
  go_ret
  exact ⟨rfl, hb0⟩
set_option maxRecDepth 100000 in
set_option maxHeartbeats 4000000 in
theorem le_main (v u : Value) (b more : List UInt8) (w : World) (hv : Bytes w v b (fun _ => True)) (hu : Bytes w u more (fun _ => True)) (hR : RKFact w) (hK : KFact w) (hc0 : ¬ 600 < b.length) (hc : ¬ 600 < more.length) :
    Calls Tryd.prog 4 #[v, u] w fun e w' => e = .returned (.bool true) ∧ Below w.heap.size w w' := by
  have hltw := hK.lt
  have hltr := hR.lt
  obtain ⟨av, cv, rfl⟩ : ∃ a c, v = .slice a b.length c := by obtain ⟨a, c, h, _⟩ := hv; exact ⟨a, c, h⟩
  obtain ⟨au, cu, rfl⟩ : ∃ a c, u = .slice a more.length c := by obtain ⟨a, c, h, _⟩ := hu; exact ⟨a, c, h⟩
  go_enter Tryd.func4, Tryd.ntmps4
  generalize hRR : Code.region 8 _ _ = RR
  go_wp2_with fail
  refine (sane_any _ hK).mono ?_
  rintro e w0 ⟨rfl, hb0⟩
  have hv0 : Bytes w0 (.slice av b.length cv) b (fun _ => True) := (hv.later hb0).imp fun _ _ => trivial
  have hu0 : Bytes w0 (.slice au more.length cu) more (fun _ => True) := (hu.later hb0).imp fun _ _ => trivial
  have ho0 := OwnB.fresh w0 [] (by decide)
  have hs0 : Bytes (w0.alloc (.cells (cellsB []) 5)) (.slice av b.length cv) b (fun _ => True) := (hv0.later ((Below.refl _ _).alloc (Nat.le_refl _) _)).imp fun _ _ => trivial
  go_wp2_with (at_builtin; refine wpList_append_bytes rfl (.tmp 16) (.tmp 17) rfl w0.heap.size _ _ [] b _ rfl ho0 rfl hs0 (by simp; omega) (by simp) ?_; intro v3 w3 o3 g3)
  have hb3 : Below w0.heap.size w0 w3 := ((Below.refl _ _).alloc (Nat.le_refl _) _).grown g3 (by simp) (fun k hk => ho0.ownBlock k hk)
  clear ho0 hs0 g3
  have hpl := padding_len_le b.length
  refine (pad_any b.length w3 (by omega)).mono ?_
  rintro e w4 ⟨v4, rfl, o4, hb4⟩
  have o3' := o3.belowB hb4
  have hs4 : Bytes w4 v4 (padding b.length) (fun _ => True) := o4.bytes _ fun _ _ => trivial
  have hB4 : Below w0.heap.size w0 w4 := hb3.trans (hb4.mono hb3.size)
  clear o3 o4 hb3 hb4
  go_wp2_with (at_builtin; first | (refine wpList_append_bytes rfl (.tmp 19) (.tmp 22) rfl w0.heap.size _ _ ([] ++ b) (padding b.length) _ rfl o3' rfl hs4 (by simp; omega) hB4.size ?_; intro v5 w5 o5 g5; have hB5 : Below w0.heap.size w0 w5 := hB4.grown g5 hB4.size (fun k hk => o3'.ownBlock k hk); have hu5 : Bytes w5 (.slice au more.length cu) more (fun _ => True) := (hu0.later hB5).imp fun _ _ => trivial; clear g5 o3' hs4 hB4) | (refine wpList_append_bytes rfl (.tmp 24) (.tmp 25) rfl w0.heap.size _ _ ([] ++ b ++ padding b.length) more _ rfl o5 rfl hu5 (by simp; omega) hB5.size ?_; intro v6 w6 o6 g6))
  have hB6 : Below w0.heap.size w0 w6 := hB5.grown g6 hB5.size (fun k hk => o5.ownBlock k hk)
  have hall : Bytes w6 v6 (extMsg b more) (fun _ => True) := o6.bytes _ fun _ _ => trivial
  have hml : (extMsg b more).length ≤ 35184372088832 := by unfold extMsg; rw [List.length_append, List.length_append]; omega
  have hbl' : Below w.heap.size w w6 := hb0.trans (hB6.mono hb0.size)
  have hb2 : Bytes w6 (.slice av b.length cv) b (fun _ => True) := (hv0.later hB6).imp fun _ _ => trivial
  have hu2 : Bytes w6 (.slice au more.length cu) more (fun _ => True) := (hu0.later hB6).imp fun _ _ => trivial
  have hK0 : KFact w6 := hK.below hbl' hltw
  have hR0 : RKFact w6 := hR.below hbl' hltr
  have hltk : 1 < w6.heap.size := hK0.lt
  have hltrk : 2 < w6.heap.size := hR0.lt
  have hext : Hid (sumOf (extMsg b more) = resumeOf (sumOf b) b.length more) := sum_extends b more
  clear hK hR hltw hltr hv hu hv0 hu0 g6 o5 o6 hu5 hB5 hB6 hb0
  rw [← hRR]
  clear hRR
  have hblw := hbl'
  obtain ⟨B, eB⟩ : ∃ B, w6.heap.size = B := ⟨_, rfl⟩
  rw [eB] at hltk hltrk
  refine wp_gen fun a0 ha0 => ?_
  have i0 : a0.eval (.tmp 0) = .slice av b.length cv := by rw [ha0]; rfl
  have i1 : a0.eval (.tmp 1) = .slice au more.length cu := by rw [ha0]; rfl
  have i5 : a0.eval (.tmp 5) = v6 := by rw [ha0]; rfl
  have hsz : a0.tmps.size = 36 := by rw [ha0]; rfl
  have hdf0 : a0.defers = [] := by rw [ha0]
  clear ha0
  refine wp_region_inv_text (B := B) [some 27, some 28, some 29, some 30, some 31, some 32, some 33, some 34, some 35, some 4] [Asrt.eq (v6), Asrt.eq (.agg (cellsB (sumOf (extMsg b more)))), Asrt.eq (.slice av b.length cv), Asrt.eq (.agg (cellsB (sumOf b))), Asrt.eq (.slice av b.length cv), Asrt.eq (.int .i64 (b.length : Int)), Asrt.eq (.slice au more.length cu), Asrt.eq (.agg (cellsB (resumeOf (sumOf b) b.length more))), Asrt.eq (.bool true), Asrt.eq (.bool true)] rfl (by rw [hsz]; as_aux_lemma => kernel_rfl) (by as_aux_lemma => kernel_rfl) (by omega) ⟨?_, ?_, ?_, ?_, ?_, ?_, ?_, ?_, ?_, ?_, trivial⟩ ?_
  · as_aux_lemma =>
      intro ev w1 hg hin hc hgl hfn hd
      have hB := hg.top
      have g5 : ev (.tmp 5) = v6 := (hin 5 (by kernel_rfl)).trans i5
      clear hin hd
      refine step_on (guard_none rfl) fun K hK => ?_
      unfold YieldsG
      go_simp
      exact hK _ _ rfl (Grow.refl hB)
  · as_aux_lemma =>
      intro ev w1 hg hin hc hgl hfn hd
      have hB := hg.top
      have f27 : (ev (.tmp 27)) = v6 := hd.1 rfl _ rfl
      clear hin hd
      refine step_on (guard_none rfl) fun K hK => ?_
      unfold YieldsG
      go_simp
      refine (sum_any (extMsg b more) v6 _ w1 ((Asrt.bytes (B := B) _).st _ _ _ hall hg) (hK0.below hg.bl hltk) hml).mono ?_
      rintro e w2 ⟨rfl, hb⟩
      exact ⟨_, rfl, hK _ _ rfl (Grow.of hB hb)⟩
  · as_aux_lemma =>
      intro ev w1 hg hin hc hgl hfn hd
      have hB := hg.top
      have g0 : ev (.tmp 0) = .slice av b.length cv := (hin 0 (by kernel_rfl)).trans i0
      clear hin hd
      refine step_on (guard_none rfl) fun K hK => ?_
      unfold YieldsG
      go_simp
      exact hK _ _ rfl (Grow.refl hB)
  · as_aux_lemma =>
      intro ev w1 hg hin hc hgl hfn hd
      have hB := hg.top
      have f29 : (ev (.tmp 29)) = .slice av b.length cv := hd.1 rfl _ rfl
      clear hin hd
      refine step_on (guard_none rfl) fun K hK => ?_
      unfold YieldsG
      go_simp
      refine (sum_any b _ _ w1 ((Asrt.bytes (B := B) b).st _ _ _ hb2 hg) (hK0.below hg.bl hltk) (by omega)).mono ?_
      rintro e w2 ⟨rfl, hb⟩
      exact ⟨_, rfl, hK _ _ rfl (Grow.of hB hb)⟩
  · as_aux_lemma =>
      intro ev w1 hg hin hc hgl hfn hd
      have hB := hg.top
      have g0 : ev (.tmp 0) = .slice av b.length cv := (hin 0 (by kernel_rfl)).trans i0
      clear hin hd
      refine step_on (guard_none rfl) fun K hK => ?_
      unfold YieldsG
      go_simp
      exact hK _ _ rfl (Grow.refl hB)
  · as_aux_lemma =>
      intro ev w1 hg hin hc hgl hfn hd
      have hB := hg.top
      have f31 : (ev (.tmp 31)) = .slice av b.length cv := hd.1 rfl _ rfl
      clear hin hd
      refine step_on (guard_none rfl) fun K hK => ?_
      unfold YieldsG
      go_simp
      exact hK _ _ rfl (Grow.refl hB)
  · as_aux_lemma =>
      intro ev w1 hg hin hc hgl hfn hd
      have hB := hg.top
      have g1 : ev (.tmp 1) = .slice au more.length cu := (hin 1 (by kernel_rfl)).trans i1
      clear hin hd
      refine step_on (guard_none rfl) fun K hK => ?_
      unfold YieldsG
      go_simp
      exact hK _ _ rfl (Grow.refl hB)
  · as_aux_lemma =>
      intro ev w1 hg hin hc hgl hfn hd
      have hB := hg.top
      have f30 : (ev (.tmp 30)) = .agg (cellsB (sumOf b)) := hd.1 rfl _ rfl
      have f32 : (ev (.tmp 32)) = .int .i64 (b.length : Int) := hd.2.1 rfl _ rfl
      have f33 : (ev (.tmp 33)) = .slice au more.length cu := hd.2.2.1 rfl _ rfl
      clear hin hd
      refine step_on (guard_none rfl) fun K hK => ?_
      unfold YieldsG
      go_simp
      refine (resume_any (sumOf b) b.length _ more _ w1 (sumOf_len _) (by omega) ((Asrt.bytes (B := B) more).st _ _ _ hu2 hg) (by omega) (hR0.below hg.bl hltrk)).mono ?_
      rintro e w2 ⟨rfl, hb⟩
      exact ⟨_, rfl, hK _ _ rfl (Grow.of hB hb)⟩
  · as_aux_lemma =>
      intro ev w1 hg hin hc hgl hfn hd
      have hB := hg.top
      have f28 : (ev (.tmp 28)) = .agg (cellsB (sumOf (extMsg b more))) := hd.1 rfl _ rfl
      have f34 : (ev (.tmp 34)) = .agg (cellsB (resumeOf (sumOf b) b.length more)) := hd.2.1 rfl _ rfl
      clear hin hd
      refine step_on (guard_none rfl) fun K hK => ?_
      have hq := eqlT (sumOf (extMsg b more)) (resumeOf (sumOf b) b.length more) (sumOf_len _) hext.out
      unfold YieldsG
      go_simp
      exact hK _ _ rfl (Grow.refl hB)
  · as_aux_lemma =>
      intro ev w1 hg hin hc hgl hfn hd
      have hB := hg.top
      have f35 : (ev (.tmp 35)) = .bool true := hd.1 rfl _ rfl
      clear hin hd
      refine step_on (guard_none rfl) fun K hK => ?_
      unfold YieldsG
      go_simp
      exact hK _ _ rfl (Grow.refl hB)
  · intro v w2 hg hall
    have hr : v 9 = .bool true := hall.2.2.2.2.2.2.2.2.2.1 (by simp)
    generalize hput : putAll _ v 0 _ = af
    have h0 : af.tmps.getD 4 undef = v 9 := by rw [← hput]; exact putAll_at (by rw [hsz]; as_aux_lemma => kernel_rfl) rfl rfl
    have hdf : af.defers = [] := by rw [← hput, putAll_defers]; exact hdf0
    clear hput hall
    go_wp2
    refine bodyPost_ret (results_tmp rfl _ _ _) hdf ⟨?_, hbl'.trans (hg.bl.mono (by rw [← eB]; exact hbl'.size))⟩
    rw [h0, hr]
theorem lengthExt_any (v : Value) (b : List UInt8) (u : Value) (more : List UInt8) (w : World) (hv : Bytes w v b (fun _ => True)) (_hl : b.length ≤ maxLen) (hu : Bytes w u more (fun _ => True)) (_hl2 : more.length ≤ maxLen) (hR : RKFact w) (hK : KFact w) :
    Calls Tryd.prog 4 #[v, u] w fun e w' => e = .returned (.bool true) ∧ Below w.heap.size w w' := by
  by_cases h1 : 600 < b.length
  · exact le_big1 v u b more w hv hu hR hK h1
  by_cases h2 : 600 < more.length
  · exact le_big2 v u b more w hv hu hR hK h1 h2
  exact le_main v u b more w hv hu hR hK h1 h2
end Go.Proofs.YtibogbmpcahjcaaDoor

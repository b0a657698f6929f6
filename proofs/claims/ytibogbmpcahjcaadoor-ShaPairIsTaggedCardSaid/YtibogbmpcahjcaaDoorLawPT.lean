/- crossbarlaw03.ShaPairIsTagged returns true. Conditions: the digests have 32 bytes, the constants lie in their variable. -/
import Derived.Test.YtibogbmpcahjcaaDoorLawCC
namespace Go.Proofs.YtibogbmpcahjcaaDoor
open Go.RowKit
def pairMsg (a b : List UInt8) : List UInt8 := [4, 112, 97, 105, 114] ++ (a ++ b)
theorem OwnB.fresh (w : World) (l : List UInt8) (hl : l.length ≤ 1000) : OwnB (w.alloc (.cells (cellsB l) 5)) w.heap.size (.slice (some ⟨w.heap.size, 0, none⟩) l.length l.length) l :=
  ⟨by simp, .inr ⟨w.heap.size, l.length, cellsB l, rfl, Nat.le_refl _, heap_alloc_new w _, Nat.le_refl _, by unfold maxLen; omega, by simp [cellsB], by rw [List.take_of_length_le (by simp [cellsB])]; rfl⟩⟩
set_option maxRecDepth 100000 in
set_option maxHeartbeats 2000000 in
theorem pairIsTagged_any (a b : List UInt8) (w : World) (ha : a.length = 32) (hb : b.length = 32) (hK : KFact w) :
    Calls Tryd.prog 10 #[.agg (cellsB a), .agg (cellsB b)] w fun e w' => e = .returned (.bool true) ∧ Below w.heap.size w w' := by
  have HA := Lib.hid ha
  have HB := Lib.hid hb
  clear ha hb
  have hltw := hK.lt
  have hba : Below w.heap.size w ((w.alloc (.cells (cellsB a) 25)).alloc (.cells (cellsB b) 25)) := ((Below.refl _ _).alloc (Nat.le_refl _) _).alloc (by simp) _
  have hra : Row ((w.alloc (.cells (cellsB a) 25)).alloc (.cells (cellsB b) 25)) w.heap.size 25 (cellsB a) := (Row.new w _ _).alloc _
  have hrb : Row ((w.alloc (.cells (cellsB a) 25)).alloc (.cells (cellsB b) 25)) (w.heap.size + 1) 25 (cellsB b) := by
    have h := Row.new (w.alloc (.cells (cellsB a) 25)) (cellsB b) 25
    rwa [show (w.alloc (.cells (cellsB a) 25)).heap.size = w.heap.size + 1 by simp] at h
  go_enter Tryd.func10, Tryd.ntmps10
  generalize hR7 : Code.region 7 _ _ = R7
  go_wp2_with fail
  refine (sane_any _ (hK.below hba hltw)).mono ?_
  rintro e w0 ⟨rfl, hb0⟩
  have hbl0 : Below w.heap.size w w0 := hba.trans (hb0.mono hba.size)
  have hA0 : Row w0 w.heap.size 25 (cellsB a) := hra.below hb0 hra.lt
  have hB0 : Row w0 (w.heap.size + 1) 25 (cellsB b) := hrb.below hb0 hrb.lt
  clear hba hra hrb hb0
  have hlA := hA0.lt
  have hlB := hB0.lt
  have hown0 := OwnB.fresh w0 [] (by decide)
  have hs0 : Bytes (w0.alloc (.cells (cellsB []) 5)) (.slice (some ⟨w.heap.size, 0, none⟩) 32 32) a (fun _ => True) := (hA0.alloc _).bytes HA.out
  go_wp2_with (at_builtin; first | (refine wpList_append_bytes rfl (.tmp 9) (.tmp 10) rfl w0.heap.size _ _ [] a _ rfl hown0 rfl hs0 (by rw [HA.out]; decide) (by simp) ?_; intro v1 w1 o1 g1; have hbl1 : Below w0.heap.size w0 w1 := ((Below.refl _ _).alloc (Nat.le_refl _) _).grown g1 (by simp) (fun k hk => hown0.ownBlock k hk); have hA1 := hA0.below hbl1 hlA; have hB1 := hB0.below hbl1 hlB; have hs1 : Bytes w1 (.slice (some ⟨w.heap.size + 1, 0, none⟩) 32 32) b (fun _ => True) := hB1.bytes HB.out; clear hown0 hs0 g1) | (refine wpList_append_bytes rfl (.tmp 12) (.tmp 13) rfl w0.heap.size _ _ ([] ++ a) b _ rfl o1 rfl hs1 (by rw [List.length_append, HA.out, HB.out]; decide) hbl1.size ?_; intro v2 w2 o2 g2; have hbl2 : Below w0.heap.size w0 w2 := hbl1.grown g2 hbl1.size (fun k hk => o1.ownBlock k hk); have hA2 := hA0.below hbl2 hlA; have hB2 := hB0.below hbl2 hlB; have hall2 : Bytes w2 v2 (a ++ b) (fun _ => True) := o2.bytes _ fun _ _ => trivial; clear hs1 g2 o1 o2 hA1 hB1 hbl1; have hown3 := OwnB.fresh w2 [4, 112, 97, 105, 114] (by decide); have hs3 : Bytes (w2.alloc (.cells (cellsB [4, 112, 97, 105, 114]) 5)) v2 (a ++ b) (fun _ => True) := (hall2.later ((Below.refl _ _).alloc (Nat.le_refl _) _)).imp fun _ _ => trivial) | (refine wpList_append_bytes rfl (.tmp 16) (.tmp 17) rfl w2.heap.size _ _ [4, 112, 97, 105, 114] (a ++ b) _ rfl hown3 rfl hs3 (by rw [List.length_append, HA.out, HB.out]; decide) (by simp) ?_; intro v3 w3 o3 g3))
  have hbl3 : Below w2.heap.size w2 w3 := ((Below.refl _ _).alloc (Nat.le_refl _) _).grown g3 (by simp) (fun k hk => hown3.ownBlock k hk)
  have hA := hA2.below hbl3 hA2.lt
  have hB' := hB2.below hbl3 hB2.lt
  have hall : Bytes w3 v2 (a ++ b) (fun _ => True) := (hall2.later hbl3).imp fun _ _ => trivial
  have hx : Bytes w3 v3 (pairMsg a b) (fun _ => True) := o3.bytes _ fun _ _ => trivial
  have hbl' : Below w.heap.size w w3 := (hbl0.trans (hbl2.mono hbl0.size)).trans (hbl3.mono (Nat.le_trans hbl0.size hbl2.size))
  have hK0 : KFact w3 := hK.below hbl' hltw
  have hltk : 1 < w3.heap.size := hK0.lt
  have hltn1 := hA.lt
  have hltn2 := hB'.lt
  clear hown3 hs3 g3 o3 hall2 hA2 hB2 hbl2 hbl3 hA0 hB0 hlA hlB hbl0 hK hltw
  rw [← hR7]
  clear hR7
  have hblw := hbl'
  obtain ⟨n2, e2⟩ : ∃ n2, w.heap.size + 1 = n2 := ⟨_, rfl⟩
  rw [e2] at hB' hltn2
  rw [e2]
  clear e2
  obtain ⟨n1, e1⟩ : ∃ n1, w.heap.size = n1 := ⟨_, rfl⟩
  rw [e1] at hA hltn1
  rw [e1]
  obtain ⟨B, eB⟩ : ∃ B, w3.heap.size = B := ⟨_, rfl⟩
  rw [eB] at hltk hltn1 hltn2
  refine wp_gen fun a0 ha0 => ?_
  have i2 : a0.eval (.tmp 2) = .pointer (some ⟨n1, 0, none⟩) := by rw [ha0]; rfl
  have i3 : a0.eval (.tmp 3) = .pointer (some ⟨n2, 0, none⟩) := by rw [ha0]; rfl
  have i5 : a0.eval (.tmp 5) = v2 := by rw [ha0]; rfl
  have i6 : a0.eval (.tmp 6) = v3 := by rw [ha0]; rfl
  have hsz : a0.tmps.size = 33 := by rw [ha0]; rfl
  have hdf0 : a0.defers = [] := by rw [ha0]
  clear ha0
  refine wp_region_inv_text (B := B) [some 19, some 20, some 21, some 22, some 23, some 24, some 25, some 26, some 27, some 28, some 29, some 30, some 31, some 32, some 4] [Asrt.eq (.agg (cellsB (a))), Asrt.eq (.agg (cellsB (b))), Asrt.eq (.agg (cellsB (pairOf a b))), Asrt.eq (v2), Asrt.eq (.agg (cellsB (taggedOf [112, 97, 105, 114] (a ++ b)))), Asrt.eq (.bool true), Asrt.eq (.bool true), Asrt.eq (.agg (cellsB (a))), Asrt.eq (.agg (cellsB (b))), Asrt.eq (.agg (cellsB (pairOf a b))), Asrt.eq (v3), Asrt.eq (.agg (cellsB (sumOf (pairMsg a b)))), Asrt.eq (.bool true), Asrt.eq (.bool true), Asrt.eq (.bool true)] rfl (by rw [hsz]; as_aux_lemma => kernel_rfl) (by as_aux_lemma => kernel_rfl) (by omega) ⟨?_, ?_, ?_, ?_, ?_, ?_, ?_, ?_, ?_, ?_, ?_, ?_, ?_, ?_, ?_, trivial⟩ ?_
  · as_aux_lemma =>
      intro ev w1 hg hin hc hgl hfn hd
      have hB := hg.top
      have g2 : ev (.tmp 2) = .pointer (some ⟨n1, 0, none⟩) := (hin 2 (by kernel_rfl)).trans i2
      clear hin hd
      refine step_on (guard_none rfl) fun K hK => ?_
      refine yg_load_row 25 (.tmp 2) rfl n1 g2 25 (cellsB a) (0, 0) _ (hA.below hg.bl hltn1) Tryd.underD rfl (Tryd.sizeD_of _ HA.out) ?_
      exact hK _ _ rfl (Grow.refl hB)
  · as_aux_lemma =>
      intro ev w1 hg hin hc hgl hfn hd
      have hB := hg.top
      have g3 : ev (.tmp 3) = .pointer (some ⟨n2, 0, none⟩) := (hin 3 (by kernel_rfl)).trans i3
      clear hin hd
      refine step_on (guard_none rfl) fun K hK => ?_
      refine yg_load_row 25 (.tmp 3) rfl n2 g3 25 (cellsB b) (0, 0) _ (hB'.below hg.bl hltn2) Tryd.underD rfl (Tryd.sizeD_of _ HB.out) ?_
      exact hK _ _ rfl (Grow.refl hB)
  · as_aux_lemma =>
      intro ev w1 hg hin hc hgl hfn hd
      have hB := hg.top
      have f19 : (ev (.tmp 19)) = .agg (cellsB (a)) := hd.1 rfl _ rfl
      have f20 : (ev (.tmp 20)) = .agg (cellsB (b)) := hd.2.1 rfl _ rfl
      clear hin hd
      refine step_on (guard_none rfl) fun K hK => ?_
      unfold YieldsG
      go_simp
      refine (pair_any a b w1 HA.out HB.out (hK0.below hg.bl hltk)).mono ?_
      rintro e w2 ⟨rfl, hb⟩
      exact ⟨_, rfl, hK _ _ rfl (Grow.of hB hb)⟩
  · as_aux_lemma =>
      intro ev w1 hg hin hc hgl hfn hd
      have hB := hg.top
      have g5 : ev (.tmp 5) = v2 := (hin 5 (by kernel_rfl)).trans i5
      clear hin hd
      refine step_on (guard_none rfl) fun K hK => ?_
      unfold YieldsG
      go_simp
      exact hK _ _ rfl (Grow.refl hB)
  · as_aux_lemma =>
      intro ev w1 hg hin hc hgl hfn hd
      have hB := hg.top
      have f22 : (ev (.tmp 22)) = v2 := hd.1 rfl _ rfl
      clear hin hd
      refine step_on (guard_none rfl) fun K hK => ?_
      unfold YieldsG
      go_simp
      refine (tagged_any _ v2 (a ++ b) _ w1 (by decide) ((Asrt.bytes (B := B) (a ++ b)).st _ _ _ hall hg) (hK0.below hg.bl hltk) (by rw [List.length_append, HA.out, HB.out]; decide)).mono ?_
      rintro e w2 ⟨rfl, hb⟩
      exact ⟨_, rfl, hK _ _ rfl (Grow.of hB hb)⟩
  · as_aux_lemma =>
      intro ev w1 hg hin hc hgl hfn hd
      have hB := hg.top
      have f21 : (ev (.tmp 21)) = .agg (cellsB (pairOf a b)) := hd.1 rfl _ rfl
      have f23 : (ev (.tmp 23)) = .agg (cellsB (taggedOf [112, 97, 105, 114] (a ++ b))) := hd.2.1 rfl _ rfl
      clear hin hd
      refine step_on (guard_none rfl) fun K hK => ?_
      have hq := eqlT (pairOf a b) (taggedOf [112, 97, 105, 114] (a ++ b)) (pairOf_len _ _) rfl
      unfold YieldsG
      go_simp
      exact hK _ _ rfl (Grow.refl hB)
  · as_aux_lemma =>
      intro ev w1 hg hin hc hgl hfn hd
      have hB := hg.top
      have f24 : (ev (.tmp 24)) = .bool true := hd.1 rfl _ rfl
      clear hin hd
      refine step_on (guard_none rfl) fun K hK => ?_
      unfold YieldsG
      go_simp
      exact hK _ _ rfl (Grow.refl hB)
  · as_aux_lemma =>
      intro ev w1 hg hin hc hgl hfn hd
      have hB := hg.top
      have f25 : (ev (.tmp 25)) = .bool true := hd.1 rfl _ rfl
      have g2 : ev (.tmp 2) = .pointer (some ⟨n1, 0, none⟩) := (hin 2 (by kernel_rfl)).trans i2
      clear hin hd
      refine step_on (guard_some rfl rfl f25) fun K hK => ?_
      refine yg_load_row 25 (.tmp 2) rfl n1 g2 25 (cellsB a) (0, 0) _ (hA.below hg.bl hltn1) Tryd.underD rfl (Tryd.sizeD_of _ HA.out) ?_
      exact hK _ _ rfl (Grow.refl hB)
  · as_aux_lemma =>
      intro ev w1 hg hin hc hgl hfn hd
      have hB := hg.top
      have f25 : (ev (.tmp 25)) = .bool true := hd.1 rfl _ rfl
      have g3 : ev (.tmp 3) = .pointer (some ⟨n2, 0, none⟩) := (hin 3 (by kernel_rfl)).trans i3
      clear hin hd
      refine step_on (guard_some rfl rfl f25) fun K hK => ?_
      refine yg_load_row 25 (.tmp 3) rfl n2 g3 25 (cellsB b) (0, 0) _ (hB'.below hg.bl hltn2) Tryd.underD rfl (Tryd.sizeD_of _ HB.out) ?_
      exact hK _ _ rfl (Grow.refl hB)
  · as_aux_lemma =>
      intro ev w1 hg hin hc hgl hfn hd
      have hB := hg.top
      have f26 : (ev (.tmp 26)) = .agg (cellsB (a)) := hd.1 rfl _ rfl
      have f27 : (ev (.tmp 27)) = .agg (cellsB (b)) := hd.2.1 rfl _ rfl
      have f25 : (ev (.tmp 25)) = .bool true := hd.2.2.1 rfl _ rfl
      clear hin hd
      refine step_on (guard_some rfl rfl f25) fun K hK => ?_
      unfold YieldsG
      go_simp
      refine (pair_any a b w1 HA.out HB.out (hK0.below hg.bl hltk)).mono ?_
      rintro e w2 ⟨rfl, hb⟩
      exact ⟨_, rfl, hK _ _ rfl (Grow.of hB hb)⟩
  · as_aux_lemma =>
      intro ev w1 hg hin hc hgl hfn hd
      have hB := hg.top
      have f25 : (ev (.tmp 25)) = .bool true := hd.1 rfl _ rfl
      have g6 : ev (.tmp 6) = v3 := (hin 6 (by kernel_rfl)).trans i6
      clear hin hd
      refine step_on (guard_some rfl rfl f25) fun K hK => ?_
      unfold YieldsG
      go_simp
      exact hK _ _ rfl (Grow.refl hB)
  · as_aux_lemma =>
      intro ev w1 hg hin hc hgl hfn hd
      have hB := hg.top
      have f29 : (ev (.tmp 29)) = v3 := hd.1 rfl _ rfl
      have f25 : (ev (.tmp 25)) = .bool true := hd.2.2.1 rfl _ rfl
      clear hin hd
      refine step_on (guard_some rfl rfl f25) fun K hK => ?_
      unfold YieldsG
      go_simp
      refine (sum_any (pairMsg a b) v3 _ w1 ((Asrt.bytes (B := B) _).st _ _ _ hx hg) (hK0.below hg.bl hltk) (by unfold pairMsg; rw [List.length_append, List.length_append, HA.out, HB.out]; decide)).mono ?_
      rintro e w2 ⟨rfl, hb⟩
      exact ⟨_, rfl, hK _ _ rfl (Grow.of hB hb)⟩
  · as_aux_lemma =>
      intro ev w1 hg hin hc hgl hfn hd
      have hB := hg.top
      have f28 : (ev (.tmp 28)) = .agg (cellsB (pairOf a b)) := hd.1 rfl _ rfl
      have f30 : (ev (.tmp 30)) = .agg (cellsB (sumOf (pairMsg a b))) := hd.2.1 rfl _ rfl
      have f25 : (ev (.tmp 25)) = .bool true := hd.2.2.1 rfl _ rfl
      clear hin hd
      refine step_on (guard_some rfl rfl f25) fun K hK => ?_
      have hq := eqlT (pairOf a b) (sumOf (pairMsg a b)) (pairOf_len _ _) rfl
      unfold YieldsG
      go_simp
      exact hK _ _ rfl (Grow.refl hB)
  · as_aux_lemma =>
      intro ev w1 hg hin hc hgl hfn hd
      have hB := hg.top
      have f25 : (ev (.tmp 25)) = .bool true := hd.1 rfl _ rfl
      have f31 : (ev (.tmp 31)) = .bool true := hd.2.1 rfl _ rfl
      clear hin hd
      refine step_on (guard_none rfl) fun K hK => ?_
      unfold YieldsG
      go_simp
      exact hK _ _ rfl (Grow.refl hB)
  · as_aux_lemma =>
      intro ev w1 hg hin hc hgl hfn hd
      have hB := hg.top
      have f32 : (ev (.tmp 32)) = .bool true := hd.1 rfl _ rfl
      clear hin hd
      refine step_on (guard_none rfl) fun K hK => ?_
      unfold YieldsG
      go_simp
      exact hK _ _ rfl (Grow.refl hB)
  · intro v w2 hg hall
    have hr : v 14 = .bool true := hall.2.2.2.2.2.2.2.2.2.2.2.2.2.2.1 (by simp)
    generalize hput : putAll _ v 0 _ = af
    have h0 : af.tmps.getD 4 undef = v 14 := by rw [← hput]; exact putAll_at (by rw [hsz]; as_aux_lemma => kernel_rfl) rfl rfl
    have hdf : af.defers = [] := by rw [← hput, putAll_defers]; exact hdf0
    clear hput hall
    go_wp2
    refine bodyPost_ret (results_tmp rfl _ _ _) hdf ⟨?_, hbl'.trans (hg.bl.mono (by rw [← eB]; exact hbl'.size))⟩
    rw [h0, hr]
end Go.Proofs.YtibogbmpcahjcaaDoor

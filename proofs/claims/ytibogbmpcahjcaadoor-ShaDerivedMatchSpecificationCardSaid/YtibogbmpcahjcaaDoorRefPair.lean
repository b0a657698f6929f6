/- crossbarref03.Pair returns what the plain definition says. Conditions: the digests have 32 bytes, the tables lie in their variables. -/
import Derived.Test.YtibogbmpcahjcaaDoorRefTag
import Derived.Test.YtibogbmpcahjcaaDoorChain
namespace Go.Proofs.YtibogbmpcahjcaaDoor
open Go.RowKit
set_option maxHeartbeats 1000000 in
theorem rpair_any (a b : List UInt8) (w : World) (ha : a.length = 32) (hb : b.length = 32) (hK : RKFact w) (hI : RIFact w) :
    Calls Tryd.prog 20 #[.agg (cellsB a), .agg (cellsB b)] w fun e w' => e = .returned (.agg (cellsB (pairOf a b))) ∧ Below w.heap.size w w' := by
  have HA := Lib.hid ha
  have HB := Lib.hid hb
  clear ha hb
  have hkl := hK.lt
  have hil := hI.lt
  have hex : ∃ w2 : World, w2 = (((w.alloc (.cells (cellsB a) 25)).alloc (.cells (cellsB b) 25)).alloc (.cells (cellsB (List.replicate 32 0)) 25)) ∧ Row w2 w.heap.size 25 (cellsB a) ∧ Row w2 (w.heap.size + 1) 25 (cellsB b) ∧ Row w2 (w.heap.size + 1 + 1) 25 (cellsB (List.replicate 32 0)) ∧ Below w.heap.size w w2 ∧ w2.heap.size = w.heap.size + 1 + 1 + 1 := by
    have e1 : (w.alloc (.cells (cellsB a) 25)).heap.size = w.heap.size + 1 := by simp
    have e2 : ((w.alloc (.cells (cellsB a) 25)).alloc (.cells (cellsB b) 25)).heap.size = w.heap.size + 1 + 1 := by simp
    refine ⟨_, rfl, ((Row.new w _ _).alloc _).alloc _, ?_, ?_, (((Below.refl _ _).alloc (Nat.le_refl _) _).alloc (by simp) _).alloc (by simp; omega) _, by simp⟩
    · have h := (Row.new (w.alloc (.cells (cellsB a) 25)) (cellsB b) 25).alloc (.cells (cellsB (List.replicate 32 0)) 25)
      rw [e1] at h; exact h
    · have h := Row.new ((w.alloc (.cells (cellsB a) 25)).alloc (.cells (cellsB b) 25)) (cellsB (List.replicate 32 0)) 25
      rw [e2] at h; exact h
  obtain ⟨w2, ew2, hA2, hB2, hD2, hbl2, hz2⟩ := hex
  have ho0 : OwnB (w2.alloc (.cells (cellsB []) 5)) (w.heap.size + 1 + 1 + 1) (.slice (some ⟨w.heap.size + 1 + 1 + 1, 0, none⟩) 0 0) [] := by
    have h := OwnB.fresh w2 [] (by decide)
    rwa [hz2] at h
  have hb0 : Below w.heap.size w (w2.alloc (.cells (cellsB []) 5)) := hbl2.alloc hbl2.size _
  have hA0 := hA2.alloc (.cells (cellsB []) 5)
  have hB0 := hB2.alloc (.cells (cellsB []) 5)
  have hD0 := hD2.alloc (.cells (cellsB []) 5)
  have hs0 : Bytes (w2.alloc (.cells (cellsB []) 5)) (.slice (some ⟨w.heap.size, 0, none⟩) 32 32) a (fun _ => True) := hA0.bytes HA.out
  have hz0 : w.heap.size + 1 + 1 + 1 ≤ (w2.alloc (.cells (cellsB []) 5)).heap.size := by simp; omega
  subst ew2
  clear hA2 hB2 hD2 hbl2 hz2
  go_enter Tryd.func20, Tryd.ntmps20
  go_wp2_with (at_builtin; first | (refine wpList_append_bytes rfl (.tmp 6) (.tmp 7) rfl (w.heap.size + 1 + 1 + 1) _ _ [] a _ rfl ho0 rfl hs0 (by rw [HA.out]; decide) hz0 ?_; intro v1 w1 o1 g1; have hC1 : Below w.heap.size w w1 := hb0.grown g1 hb0.size (fun k hk => by have := ho0.ownBlock k hk; omega); have hB1 := hB0.grown g1 (fun e => by have := ho0.ownBlock _ e.symm; omega); have hD1 := hD0.grown g1 (fun e => by have := ho0.ownBlock _ e.symm; omega); have hz1 : w.heap.size + 1 + 1 + 1 ≤ w1.heap.size := Nat.le_trans hz0 g1.size; have hs1 : Bytes w1 (.slice (some ⟨w.heap.size + 1, 0, none⟩) 32 32) b (fun _ => True) := hB1.bytes HB.out; clear ho0 hb0 hA0 hB0 hD0 hs0 hz0 g1) | (refine wpList_append_bytes rfl (.tmp 9) (.tmp 10) rfl (w.heap.size + 1 + 1 + 1) _ _ ([] ++ a) b _ rfl o1 rfl hs1 (by rw [List.length_append, HA.out, HB.out]; decide) hz1 ?_; intro v3 w3 o3 g3))
  have hC3 := hC1.grown g3 hC1.size (fun k hk => by have := o1.ownBlock k hk; omega)
  have hD3 := hD1.grown g3 (fun e => by have := o1.ownBlock _ e.symm; omega)
  have hs3 : Bytes w3 v3 (a ++ b) (fun _ => True) := o3.bytes _ fun _ _ => trivial
  clear g3 o1 o3 hs1 hC1 hD1 hB1
  refine (rtagged_any _ v3 (a ++ b) _ w3 (by decide) hs3 (hK.below hC3 hkl) (hI.below hC3 hil) (by rw [List.length_append, HA.out, HB.out]; decide)).mono ?_
  rintro e w5 ⟨rfl, hb5⟩
  have hp : Hid (taggedOf (ByteArray.mk #[112, 97, 105, 114]).data.toList (a ++ b) = pairOf a b) := rfl
  rw [hp.out]
  have hB5 := hC3.trans (hb5.mono hC3.size)
  have hD5 := hD3.below hb5 hD3.lt
  have HSZ := Lib.hid (Tryd.sizeD_of _ (pairOf_len a b))
  have HCD : Hid ((cellsB (pairOf a b)).size = (cellsB (List.replicate 32 0)).size) := Lib.hid (by rw [cellsB_size, pairOf_len]; rfl)
  clear hC3 hD3 hb5 hs3
  go_wp2_with (refine wpList_store_row rfl 25 (.tmp 4) (.tmp 13) rfl (w.heap.size + 1 + 1) rfl (cellsB (pairOf a b)) _ 25 rfl hD5 HCD.out HSZ.out (cellsB_one _) ?_; intro w9 hg9 hr9 hz9)
  refine bodyPost_ret (v := .agg (cellsB (pairOf a b))) (results_cell_row rfl _ _ (w.heap.size + 1 + 1) 25 _ (0, 0) _ rfl hr9 Tryd.underD rfl HSZ.out) rfl ⟨rfl, ?_⟩
  exact hB5.grown hg9 hB5.size (fun k hk => by cases hk; omega)
end Go.Proofs.YtibogbmpcahjcaaDoor

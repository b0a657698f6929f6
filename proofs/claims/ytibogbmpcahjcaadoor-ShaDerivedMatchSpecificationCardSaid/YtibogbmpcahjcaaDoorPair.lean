/- sha256.Pair returns what the plain definition says. Conditions: the digests have 32 bytes, the constants lie in their variable. -/
import Derived.Test.YtibogbmpcahjcaaDoorChain
namespace Go.Proofs.YtibogbmpcahjcaaDoor
open Go.RowKit
set_option maxHeartbeats 1000000 in
theorem pair_any (a b : List UInt8) (w : World) (ha : a.length = 32) (hb : b.length = 32) (hK : KFact w) :
    Calls Tryd.prog 19 #[.agg (cellsB a), .agg (cellsB b)] w fun e w' => e = .returned (.agg (cellsB (pairOf a b))) ∧ Below w.heap.size w w' := by
  have HA := Lib.hid ha
  have HB := Lib.hid hb
  clear ha hb
  go_enter Tryd.func19, Tryd.ntmps19
  go_wp2
  refine wp_region_still_tail 2 (by kernel_rfl) (by kernel_rfl) ?_
  simp only [List.take_succ_cons, List.take_zero, List.drop_succ_cons, List.drop_zero]
  have hex : ∃ w2 : World, w2 = (((w.alloc (.cells (cellsB a) 25)).alloc (.cells (cellsB b) 25)).alloc (.cells (cellsB (List.replicate 32 0)) 25)).drew ∧ Row w2 w.heap.size 25 (cellsB a) ∧ Row w2 (w.heap.size + 1) 25 (cellsB b) ∧ Row w2 (w.heap.size + 1 + 1) 25 (cellsB (List.replicate 32 0)) ∧ Below w.heap.size w w2 := by
    have e1 : (w.alloc (.cells (cellsB a) 25)).heap.size = w.heap.size + 1 := by simp
    have e2 : ((w.alloc (.cells (cellsB a) 25)).alloc (.cells (cellsB b) 25)).heap.size = w.heap.size + 1 + 1 := by simp
    refine ⟨_, rfl, ((Row.new w _ _).alloc _).alloc _, ?_, ?_, ((((Below.refl _ _).alloc (Nat.le_refl _) _).alloc (by simp) _).alloc (by simp; omega) _).drew⟩
    · have h := (Row.new (w.alloc (.cells (cellsB a) 25)) (cellsB b) 25).alloc (.cells (cellsB (List.replicate 32 0)) 25)
      rw [e1] at h; exact h
    · have h := Row.new ((w.alloc (.cells (cellsB a) 25)).alloc (.cells (cellsB b) 25)) (cellsB (List.replicate 32 0)) 25
      rw [e2] at h; exact h
  obtain ⟨w2, ew2, hA2, hB2, hD2, hbl2⟩ := hex
  change wpStill _ _ ((((w.alloc (.cells (cellsB a) 25)).alloc (.cells (cellsB b) 25)).alloc (.cells (cellsB (List.replicate 32 0)) 25)).drew) (fun a' => wpList _ _ _ _ a' ((((w.alloc (.cells (cellsB a) 25)).alloc (.cells (cellsB b) 25)).alloc (.cells (cellsB (List.replicate 32 0)) 25)).drew)) _ _
  rw [← ew2]
  clear ew2
  repeat still_step
  refine wpStill_nil ?_
  go_wp2_with fail
  have hbl3 : Below w2.heap.size w2 (w2.alloc (.cells #[.slice (some ⟨w.heap.size, 0, none⟩) 32 32, .slice (some ⟨w.heap.size + 1, 0, none⟩) 32 32] 22)) := (Below.refl _ _).alloc (Nat.le_refl _) _
  have hps : ∀ p ∈ [(Value.slice (some ⟨w.heap.size, 0, none⟩) 32 32, a), (Value.slice (some ⟨w.heap.size + 1, 0, none⟩) 32 32, b)], Bytes (w2.alloc (.cells #[.slice (some ⟨w.heap.size, 0, none⟩) 32 32, .slice (some ⟨w.heap.size + 1, 0, none⟩) 32 32] 22)) p.1 p.2 (fun _ => True) := by
    intro p hp
    simp only [List.mem_cons, List.not_mem_nil, or_false] at hp
    rcases hp with rfl | rfl
    · exact ((hA2.bytes HA.out).later hbl3).imp fun _ _ => trivial
    · exact ((hB2.bytes HB.out).later hbl3).imp fun _ _ => trivial
  refine (concat_any [(Value.slice (some ⟨w.heap.size, 0, none⟩) 32 32, a), (Value.slice (some ⟨w.heap.size + 1, 0, none⟩) 32 32, b)] _ 2 _ rfl (by omega) (Row.new w2 _ _) hps (by simp [sumLen, HA.out, HB.out])).mono ?_
  rintro e w4 ⟨v4, rfl, ho4, hb4⟩
  have hB4 := (hbl2.trans (hbl3.mono hbl2.size)).trans (hb4.mono (by have := hbl2.size; simp; omega))
  have hD4 := (hD2.below hbl3 hD2.lt).below hb4 (by have := hD2.lt; simp; omega)
  have hv4 := ho4.bytes (fun _ => True) (fun _ _ => trivial)
  have hfl : flatB [(Value.slice (some ⟨w.heap.size, 0, none⟩) 32 32, a), (Value.slice (some ⟨w.heap.size + 1, 0, none⟩) 32 32, b)] = a ++ b := by simp [flatB]
  rw [hfl] at hv4
  have hll : (a ++ b).length ≤ 17592186044416 := by rw [List.length_append, HA.out, HB.out]; omega
  clear hfl ho4 hb4 hps hbl3 hA2 hB2 hbl2 hD2
  go_wp2_with fail
  refine (tagged_any _ v4 (a ++ b) _ w4 (by decide) hv4 (hK.below hB4 hK.lt) hll).mono ?_
  rintro e w5 ⟨rfl, hb5⟩
  have hD5 := hD4.below hb5 hD4.lt
  have hB5 := hB4.trans (hb5.mono hB4.size)
  have hp : Hid (taggedOf (ByteArray.mk #[112, 97, 105, 114]).data.toList (a ++ b) = pairOf a b) := rfl
  rw [hp.out]
  have hcs := cellsB_size (pairOf a b)
  rw [pairOf_len] at hcs
  have HCS := Lib.hid hcs
  have HSZ := Lib.hid (Tryd.sizeD_of _ (pairOf_len a b))
  clear hcs hD4 hB4 hb5 hv4 hll
  go_wp2_with (refine wpList_store_row rfl 25 (.tmp 4) (.tmp 9) rfl (w.heap.size + 1 + 1) rfl (cellsB (pairOf a b)) _ 25 rfl hD5 HCS.out HSZ.out (cellsB_one _) ?_; intro w6 hg6 hr6 hz6)
  refine bodyPost_ret (v := .agg (cellsB (pairOf a b))) (results_cell_row rfl _ _ (w.heap.size + 1 + 1) 25 _ (0, 0) _ rfl hr6 Tryd.underD rfl HSZ.out) rfl ⟨rfl, ?_⟩
  exact hB5.grown hg6 hB5.size (fun k hk => by cases hk; omega)
end Go.Proofs.YtibogbmpcahjcaaDoor

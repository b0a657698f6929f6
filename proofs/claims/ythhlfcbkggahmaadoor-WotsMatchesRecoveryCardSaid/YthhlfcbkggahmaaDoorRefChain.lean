/- crossbarref03.Chain returns what the plain definition says. Conditions: the digest has 32 bytes, the tables lie in their variables. -/
import Derived.Test.YthhlfcbkggahmaaDoorRefTag
import Derived.Test.YthhlfcbkggahmaaDoorChain
namespace Go.Proofs.YthhlfcbkggahmaaDoor
open Go.RowKit
set_option maxHeartbeats 1000000 in
theorem rchain_any (x : List UInt8) (n : Int) (w : World) (hx : x.length = 32) (h0 : -9223372036854775808 ≤ n) (h1 : n ≤ 9223372036854775807) (hK : RKFact w) (hI : RIFact w) :
    Calls Tryd.prog 32 #[.agg (cellsB x), .int .i64 n] w fun e w' => e = .returned (.agg (cellsB (chainOf x n.toNat))) ∧ Below w.heap.size w w' := by
  have HX := Lib.hid hx
  clear hx
  have hkl := hK.lt
  have hil := hI.lt
  have hA1 := (Row.new w (cellsB x) 23).alloc (.cells (cellsB (List.replicate 32 0)) 23)
  have hD1 : Row ((w.alloc (.cells (cellsB x) 23)).alloc (.cells (cellsB (List.replicate 32 0)) 23)) (w.heap.size + 1) 23 (cellsB (List.replicate 32 0)) := by
    have h := Row.new (w.alloc (.cells (cellsB x) 23)) (cellsB (List.replicate 32 0)) 23
    rwa [show (w.alloc (.cells (cellsB x) 23)).heap.size = w.heap.size + 1 by simp] at h
  have hbl1 : Below w.heap.size w ((w.alloc (.cells (cellsB x) 23)).alloc (.cells (cellsB (List.replicate 32 0)) 23)) := ((Below.refl _ _).alloc (Nat.le_refl _) _).alloc (by simp) _
  go_enter Tryd.func32, Tryd.ntmps32
  go_wp2
  go_loopw [5] (fun t wr => ∃ k : Nat, k ≤ n.toNat ∧ t = .int .i64 (k : Int) ∧ Row wr w.heap.size 23 (cellsB (chainOf x k)) ∧ Row wr (w.heap.size + 1) 23 (cellsB (List.replicate 32 0)) ∧ Below w.heap.size w wr) (fun t _ => n.toNat - (intOf t).toNat)
  case atStart => exact ⟨0, by omega, rfl, hA1, hD1, hbl1⟩
  case round =>
    clear hA1 hD1 hbl1
    obtain ⟨k, hk, rfl, hA, hD, hb⟩ := hrel
    by_cases hlt : (k : Int) < n
    · have hlen := chainOf_len x HX.out k
      have hv := hA.bytes hlen
      have hKr := hK.below hb hkl
      have hIr := hI.below hb hil
      have HLN := Lib.hid hlen
      clear hlen
      go_wp2_with fail
      refine (rtagged_any _ _ (chainOf x k) _ wr (by decide) hv hKr hIr (by rw [HLN.out]; omega)).mono ?_
      rintro e w5 ⟨rfl, hb5⟩
      have hA5 := hA.below hb5 hA.lt
      have hD5 := hD.below hb5 hD.lt
      have hB5 := hb.trans (hb5.mono hb.size)
      have hp : Hid (taggedOf (ByteArray.mk #[115, 116, 101, 112]).data.toList (chainOf x k) = chainOf x (k + 1)) := rfl
      rw [hp.out]
      have hcs : (cellsB (chainOf x (k + 1))).size = (cellsB (chainOf x k)).size := by rw [cellsB_size, cellsB_size, chainOf_len x HX.out, HLN.out]
      have HCS := Lib.hid hcs
      have HSZ := Lib.hid (Tryd.sizeD_of _ (chainOf_len x HX.out (k + 1)))
      clear hcs hA hD hb hb5 hv hKr hIr
      go_wp2_with (refine wpList_store_row rfl 23 (.tmp 2) (.tmp 12) rfl w.heap.size rfl (cellsB (chainOf x (k + 1))) _ 23 rfl hA5 HCS.out HSZ.out (cellsB_one _) ?_; intro w6 hg6 hr6 hz6)
      go_roundw
      case rel => exact ⟨k + 1, by omega, by go_num, hr6, hD5.grown hg6 (fun e => absurd (Option.some.inj e) (by omega)), hB5.grown hg6 hB5.size (fun k hk => by cases hk; exact Nat.le_refl _)⟩
      case measure => simp [intOf]; omega
    · obtain rfl : k = n.toNat := by omega
      have hcs : (cellsB (chainOf x n.toNat)).size = (cellsB (List.replicate 32 0)).size := by rw [cellsB_size, cellsB_size, chainOf_len x HX.out]; rfl
      have HCS := Lib.hid hcs
      have HSZ := Lib.hid (Tryd.sizeD_of _ (chainOf_len x HX.out n.toNat))
      clear hcs
      go_wp2_with (first | (refine wpList_load_row rfl 23 (.tmp 2) rfl w.heap.size rfl 23 (cellsB (chainOf x n.toNat)) (0, 0) _ hA Tryd.underD rfl HSZ.out ?_) | (refine wpList_store_row rfl 23 (.tmp 4) (.tmp 13) rfl (w.heap.size + 1) rfl (cellsB (chainOf x n.toNat)) _ 23 rfl hD HCS.out HSZ.out (cellsB_one _) ?_; intro w9 hg9 hr9 hz9))
      refine bodyPost_ret (v := .agg (cellsB (chainOf x n.toNat))) (results_cell_row rfl _ _ (w.heap.size + 1) 23 _ (0, 0) _ rfl hr9 Tryd.underD rfl HSZ.out) rfl ⟨rfl, ?_⟩
      exact hb.grown hg9 hb.size (fun k hk => by cases hk; omega)
end Go.Proofs.YthhlfcbkggahmaaDoor

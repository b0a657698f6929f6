/- sha256.Chain returns what the plain definition says. Conditions: the digests have 32 bytes, the constants lie in their variable. -/
import Derived.Test.YthhlfcbkggahmaaDoorTagged
import Derived.StillTailTactics
namespace Go.Proofs.YthhlfcbkggahmaaDoor
open Go.RowKit
theorem Row.bytes {w : World} {b : Nat} {t : TypeId} {l : List UInt8} (h : Row w b t (cellsB l)) (hl : l.length = 32) : Bytes w (.slice (some ⟨b, 0, none⟩) 32 32) l (fun _ => True) :=
  ⟨_, 32, by rw [hl], by rw [hl]; omega, by decide, .inr ⟨b, 0, rfl, trivial, fun i hi => by rw [Nat.zero_add]; exact h.byte i hi⟩⟩
theorem chainOf_len (x : List UInt8) (hx : x.length = 32) (n : Nat) : (chainOf x n).length = 32 := by
  cases n with
  | zero => exact hx
  | succ n => exact taggedOf_len _ _
set_option maxHeartbeats 1000000 in
theorem chain_pos (x : List UInt8) (N : Nat) (w : World) (hx : x.length = 32) (h0 : 0 < N) (h1 : N ≤ 9223372036854775807) (hK : KFact w) :
    Calls Tryd.prog 24 #[.agg (cellsB x), .int .i64 (N : Int)] w fun e w' => e = .returned (.agg (cellsB (chainOf x N))) ∧ Below w.heap.size w w' := by
  have HX := Lib.hid hx
  clear hx
  have hA1 := (Row.new w (cellsB x) 23).alloc (.cells (cellsB (List.replicate 32 0)) 23)
  have hD1 : Row ((w.alloc (.cells (cellsB x) 23)).alloc (.cells (cellsB (List.replicate 32 0)) 23)) (w.heap.size + 1) 23 (cellsB (List.replicate 32 0)) := by
    have h := Row.new (w.alloc (.cells (cellsB x) 23)) (cellsB (List.replicate 32 0)) 23
    rwa [show (w.alloc (.cells (cellsB x) 23)).heap.size = w.heap.size + 1 by simp] at h
  have hbl1 : Below w.heap.size w ((w.alloc (.cells (cellsB x) 23)).alloc (.cells (cellsB (List.replicate 32 0)) 23)) := ((Below.refl _ _).alloc (Nat.le_refl _) _).alloc (by simp) _
  have hKlt := hK.lt
  go_enter Tryd.func24, Tryd.ntmps24
  go_wp2
  go_loopw [7] (fun t wr => ∃ k : Nat, k ≤ N ∧ t = .int .i64 (k : Int) ∧ Row wr w.heap.size 23 (cellsB (chainOf x k)) ∧ Row wr (w.heap.size + 1) 23 (cellsB (List.replicate 32 0)) ∧ Below w.heap.size w wr) (fun t _ => N - (intOf t).toNat)
  case atStart => exact ⟨0, by omega, rfl, hA1, hD1, hbl1⟩
  case round =>
    clear hA1 hD1 hbl1
    obtain ⟨k, hk, rfl, hA, hD, hb⟩ := hrel
    by_cases hlt : k < N
    · have hlen := chainOf_len x HX.out k
      have hv := hA.bytes hlen
      have hKr := hK.below hb hKlt
      have HLN := Lib.hid hlen
      clear hlen
      go_wp2_with fail
      refine (tagged_any _ _ (chainOf x k) _ wr (by decide) hv hKr (by rw [HLN.out]; omega)).mono ?_
      rintro e w5 ⟨rfl, hb5⟩
      have hA5 := hA.below hb5 hA.lt
      have hD5 := hD.below hb5 hD.lt
      have hB5 := hb.trans (hb5.mono hb.size)
      have hp : Hid (taggedOf (ByteArray.mk #[115, 116, 101, 112]).data.toList (chainOf x k) = chainOf x (k + 1)) := rfl
      rw [hp.out]
      have hcs : (cellsB (chainOf x (k + 1))).size = (cellsB (chainOf x k)).size := by rw [cellsB_size, cellsB_size, chainOf_len x HX.out, HLN.out]
      have HCS := Lib.hid hcs
      have HSZ := Lib.hid (Tryd.sizeD_of _ (chainOf_len x HX.out (k + 1)))
      clear hcs hA hD hb hb5 hv hKr
      go_wp2_with (refine wpList_store_row rfl 23 (.tmp 2) (.tmp 10) rfl w.heap.size rfl (cellsB (chainOf x (k + 1))) _ 23 rfl hA5 HCS.out HSZ.out (cellsB_one _) ?_; intro w6 hg6 hr6 hz6)
      go_roundw
      case rel => exact ⟨k + 1, by omega, by go_num, hr6, hD5.grown hg6 (fun e => absurd (Option.some.inj e) (by omega)), hB5.grown hg6 hB5.size (fun k hk => by cases hk; exact Nat.le_refl _)⟩
      case measure => simp [intOf]; omega
    · obtain rfl : N = k := by omega
      have hcs : (cellsB (chainOf x N)).size = (cellsB (List.replicate 32 0)).size := by rw [cellsB_size, cellsB_size, chainOf_len x HX.out]; rfl
      have HCS := Lib.hid hcs
      have HSZ := Lib.hid (Tryd.sizeD_of _ (chainOf_len x HX.out N))
      clear hcs
      go_wp2_with (first | (refine wpList_load_row rfl 23 (.tmp 2) rfl w.heap.size rfl 23 (cellsB (chainOf x N)) (0, 0) _ hA Tryd.underD rfl HSZ.out ?_) | (refine wpList_store_row rfl 23 (.tmp 4) (.tmp 12) rfl (w.heap.size + 1) rfl (cellsB (chainOf x N)) _ 23 rfl hD HCS.out HSZ.out (cellsB_one _) ?_; intro w9 hg9 hr9 hz9))
      refine bodyPost_ret (v := .agg (cellsB (chainOf x N))) (results_cell_row rfl _ _ (w.heap.size + 1) 23 _ (0, 0) _ rfl hr9 Tryd.underD rfl HSZ.out) rfl ⟨rfl, ?_⟩
      exact hb.grown hg9 hb.size (fun k hk => by cases hk; omega)
set_option maxHeartbeats 1000000 in
theorem chain_neg (x : List UInt8) (n : Int) (w : World) (hx : x.length = 32) (h0 : n < 0) (_h1 : -9223372036854775808 ≤ n) (hK : KFact w) :
    Calls Tryd.prog 24 #[.agg (cellsB x), .int .i64 n] w fun e w' => e = .returned (.agg (cellsB (chainOf x 0))) ∧ Below w.heap.size w w' := by
  have HX := Lib.hid hx
  clear hx
  have hA1 := (Row.new w (cellsB x) 23).alloc (.cells (cellsB (List.replicate 32 0)) 23)
  have hD1 : Row ((w.alloc (.cells (cellsB x) 23)).alloc (.cells (cellsB (List.replicate 32 0)) 23)) (w.heap.size + 1) 23 (cellsB (List.replicate 32 0)) := by
    have h := Row.new (w.alloc (.cells (cellsB x) 23)) (cellsB (List.replicate 32 0)) 23
    rwa [show (w.alloc (.cells (cellsB x) 23)).heap.size = w.heap.size + 1 by simp] at h
  have hbl1 : Below w.heap.size w ((w.alloc (.cells (cellsB x) 23)).alloc (.cells (cellsB (List.replicate 32 0)) 23)) := ((Below.refl _ _).alloc (Nat.le_refl _) _).alloc (by simp) _
  have hKlt := hK.lt
  go_enter Tryd.func24, Tryd.ntmps24
  go_wp2
  go_loopw [7] (fun t wr => ∃ k : Nat, k ≤ 0 ∧ t = .int .i64 (k : Int) ∧ Row wr w.heap.size 23 (cellsB (chainOf x k)) ∧ Row wr (w.heap.size + 1) 23 (cellsB (List.replicate 32 0)) ∧ Below w.heap.size w wr) (fun t _ => 0 - (intOf t).toNat)
  case atStart => exact ⟨0, by omega, rfl, hA1, hD1, hbl1⟩
  case round =>
    clear hA1 hD1 hbl1
    obtain ⟨k, hk, rfl, hA, hD, hb⟩ := hrel
    by_cases hlt : k < 0
    · exact absurd hlt (Nat.not_lt_zero k)
    · obtain rfl : 0 = k := by omega
      have hcs : (cellsB (chainOf x 0)).size = (cellsB (List.replicate 32 0)).size := by rw [cellsB_size, cellsB_size, chainOf_len x HX.out]; rfl
      have HCS := Lib.hid hcs
      have HSZ := Lib.hid (Tryd.sizeD_of _ (chainOf_len x HX.out 0))
      clear hcs
      go_wp2_with (first | (refine wpList_load_row rfl 23 (.tmp 2) rfl w.heap.size rfl 23 (cellsB (chainOf x 0)) (0, 0) _ hA Tryd.underD rfl HSZ.out ?_) | (refine wpList_store_row rfl 23 (.tmp 4) (.tmp 12) rfl (w.heap.size + 1) rfl (cellsB (chainOf x 0)) _ 23 rfl hD HCS.out HSZ.out (cellsB_one _) ?_; intro w9 hg9 hr9 hz9))
      refine bodyPost_ret (v := .agg (cellsB (chainOf x 0))) (results_cell_row rfl _ _ (w.heap.size + 1) 23 _ (0, 0) _ rfl hr9 Tryd.underD rfl HSZ.out) rfl ⟨rfl, ?_⟩
      exact hb.grown hg9 hb.size (fun k hk => by cases hk; omega)
set_option maxHeartbeats 1000000 in
theorem chain_zero (x : List UInt8) (w : World) (hx : x.length = 32) (hK : KFact w) :
    Calls Tryd.prog 24 #[.agg (cellsB x), .int .i64 0] w fun e w' => e = .returned (.agg (cellsB (chainOf x 0))) ∧ Below w.heap.size w w' := by
  have HX := Lib.hid hx
  clear hx
  have hA1 := (Row.new w (cellsB x) 23).alloc (.cells (cellsB (List.replicate 32 0)) 23)
  have hD1 : Row ((w.alloc (.cells (cellsB x) 23)).alloc (.cells (cellsB (List.replicate 32 0)) 23)) (w.heap.size + 1) 23 (cellsB (List.replicate 32 0)) := by
    have h := Row.new (w.alloc (.cells (cellsB x) 23)) (cellsB (List.replicate 32 0)) 23
    rwa [show (w.alloc (.cells (cellsB x) 23)).heap.size = w.heap.size + 1 by simp] at h
  have hbl1 : Below w.heap.size w ((w.alloc (.cells (cellsB x) 23)).alloc (.cells (cellsB (List.replicate 32 0)) 23)) := ((Below.refl _ _).alloc (Nat.le_refl _) _).alloc (by simp) _
  have hKlt := hK.lt
  go_enter Tryd.func24, Tryd.ntmps24
  go_wp2
  go_loopw [7] (fun t wr => ∃ k : Nat, k ≤ 0 ∧ t = .int .i64 (k : Int) ∧ Row wr w.heap.size 23 (cellsB (chainOf x k)) ∧ Row wr (w.heap.size + 1) 23 (cellsB (List.replicate 32 0)) ∧ Below w.heap.size w wr) (fun t _ => 0 - (intOf t).toNat)
  case atStart => exact ⟨0, by omega, rfl, hA1, hD1, hbl1⟩
  case round =>
    clear hA1 hD1 hbl1
    obtain ⟨k, hk, rfl, hA, hD, hb⟩ := hrel
    by_cases hlt : k < 0
    · exact absurd hlt (Nat.not_lt_zero k)
    · obtain rfl : 0 = k := by omega
      have hcs : (cellsB (chainOf x 0)).size = (cellsB (List.replicate 32 0)).size := by rw [cellsB_size, cellsB_size, chainOf_len x HX.out]; rfl
      have HCS := Lib.hid hcs
      have HSZ := Lib.hid (Tryd.sizeD_of _ (chainOf_len x HX.out 0))
      clear hcs
      go_wp2_with (first | (refine wpList_load_row rfl 23 (.tmp 2) rfl w.heap.size rfl 23 (cellsB (chainOf x 0)) (0, 0) _ hA Tryd.underD rfl HSZ.out ?_) | (refine wpList_store_row rfl 23 (.tmp 4) (.tmp 12) rfl (w.heap.size + 1) rfl (cellsB (chainOf x 0)) _ 23 rfl hD HCS.out HSZ.out (cellsB_one _) ?_; intro w9 hg9 hr9 hz9))
      refine bodyPost_ret (v := .agg (cellsB (chainOf x 0))) (results_cell_row rfl _ _ (w.heap.size + 1) 23 _ (0, 0) _ rfl hr9 Tryd.underD rfl HSZ.out) rfl ⟨rfl, ?_⟩
      exact hb.grown hg9 hb.size (fun k hk => by cases hk; omega)
/-- sha256.Chain. -/
theorem chain_any (x : List UInt8) (n : Int) (w : World) (hx : x.length = 32) (h0 : -9223372036854775808 ≤ n) (h1 : n ≤ 9223372036854775807) (hK : KFact w) :
    Calls Tryd.prog 24 #[.agg (cellsB x), .int .i64 n] w fun e w' => e = .returned (.agg (cellsB (chainOf x n.toNat))) ∧ Below w.heap.size w w' := by
  by_cases h : n ≤ 0
  · have e : n.toNat = 0 := by omega
    rw [e]
    by_cases hz : n = 0
    · subst hz; exact chain_zero x w hx hK
    · exact chain_neg x n w hx (by omega) h0 hK
  · have e : n = (n.toNat : Int) := by omega
    have := chain_pos x n.toNat w hx (by omega) (by omega) hK
    rwa [← e] at this
end Go.Proofs.YthhlfcbkggahmaaDoor

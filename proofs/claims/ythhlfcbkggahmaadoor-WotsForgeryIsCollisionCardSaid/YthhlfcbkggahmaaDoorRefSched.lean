/- crossbarref03.schedule: the 64 words of a block. Conditions: the block has 64 bytes. -/
import Derived.Test.YthhlfcbkggahmaaDoorRefWord
import Derived.Test.YthhlfcbkggahmaaDoorRefRor
import Derived.Test.YthhlfcbkggahmaaDoorBlock
import Derived.Test.YthhlfcbkggahmaaDoorChain
namespace Go.Proofs.YthhlfcbkggahmaaDoor
open Go.RowKit
attribute [local go_sem] wrapV_add addV bitsV_xor bitsV_and bitsV_or shrV_3 shrV_10
theorem Tryd.under64 : Tryd.prog.underlying 71 = some (.array 64 61) := by kernel_rfl
theorem Tryd.size64 : (Tryd.prog.info? 71).map (·.size) = some 64 := by kernel_rfl
theorem next_alt (a b c d : W32) : sg1 a + b + sg0 c + d = d + b + sg0 c + sg1 a := by ac_rfl
set_option maxRecDepth 100000 in
set_option maxHeartbeats 1000000 in
theorem schedule_any (blk : List UInt8) (b off cap : Nat) (w : World) (hl : blk.length = 64) (hcap : 64 ≤ cap) (hcm : cap ≤ 9223372036854775807) (hc : BytesAt w b off blk) :
    Calls Tryd.prog 56 #[.slice (some ⟨b, off, none⟩) 64 cap] w
      fun e w' => e = .returned (.agg (cellsU (wFull blk))) ∧ Below w.heap.size w w' := by
  have HL := Lib.hid hl
  have hl64 : 64 ≤ blk.length := by omega
  clear hl
  have hbl : b < w.heap.size := block_lt_of_cell (hc 0 (by omega))
  have hnew : Row ((w.alloc (.cells (cellsU (List.replicate 64 0)) 71)).alloc (.cells (cellsU (List.replicate 64 0)) 71)) (w.heap.size + 1) 71 (cellsU (wRow blk 0)) := by
    have h := Row.new (w.alloc (.cells (cellsU (List.replicate 64 0)) 71)) (cellsU (wRow blk 0)) 71
    rwa [show (w.alloc (.cells (cellsU (List.replicate 64 0)) 71)).heap.size = w.heap.size + 1 by simp] at h
  have hres : Row ((w.alloc (.cells (cellsU (List.replicate 64 0)) 71)).alloc (.cells (cellsU (List.replicate 64 0)) 71)) w.heap.size 71 (cellsU (List.replicate 64 0)) := (Row.new w _ _).alloc _
  have hb2 : Below w.heap.size w ((w.alloc (.cells (cellsU (List.replicate 64 0)) 71)).alloc (.cells (cellsU (List.replicate 64 0)) 71)) := ((Below.refl _ _).alloc (Nat.le_refl _) _).alloc (by simp) _
  go_enter Tryd.func56, Tryd.ntmps56
  go_wp2
  go_loopw [4] (fun t wr => ∃ k : Nat, k ≤ 16 ∧ t = .int .i64 (k : Int) ∧ Below w.heap.size w wr ∧ Row wr w.heap.size 71 (cellsU (List.replicate 64 0)) ∧ Row wr (w.heap.size + 1) 71 (cellsU (wRow blk k))) (fun t _ => 16 - (intOf t).toNat)
  case atStart => exact ⟨0, by omega, rfl, hb2, hres, hnew⟩
  case round =>
    clear hb2 hres hnew
    obtain ⟨k, hk, rfl, hB, hres, hrow⟩ := hrel
    have hcr : BytesAt wr b off blk := fun i hi => (hB.cell (p := ⟨b, off + i, none⟩) hbl).trans (hc i hi)
    by_cases hlt : k < 16
    · have hcell := hrow.word k (by rw [wRow_len _ _ (by omega)]; omega)
      have hfree := hrow.free k
      have hc4 : ∀ j, j < 4 → wr.cell? ⟨b, off + 4 * k + j, none⟩ = some (.int .u8 (by8 blk (4 * k + j))) := fun j hj => by
        rw [Nat.add_assoc]; exact hcr _ (by omega)
      go_wp2_with (go_at_call 58; refine (rword_any blk b (off + 4 * k) (64 - 4 * k) (cap - 4 * k) k _ (by omega) (by omega) (by omega) hc4).mono ?_; rintro e w' ⟨rfl, m, rfl⟩)
      have hB2 : Below w.heap.size w (wr.drewN m) := Below.of_drewN hB m
      have hres2 : Row (wr.drewN m) w.heap.size 71 (cellsU (List.replicate 64 0)) := hres
      have hset : Row ((wr.drewN m).setCell ⟨w.heap.size + 1, k, none⟩ (.int .u32 (V (wordAt blk k)))) (w.heap.size + 1) 71 (cellsU (wRow blk (k + 1))) := by
        have h := (show Row (wr.drewN m) (w.heap.size + 1) 71 (cellsU (wRow blk k)) from hrow).setU k (wordAt blk k)
        rwa [wRow_set _ _ (by omega) _ (by rw [if_pos hlt])] at h
      go_roundw
      case rel => exact ⟨k + 1, by omega, by go_num, hB2.setCell (by simp) _, hres2.other _ _ (by simp), hset⟩
      case measure => simp [intOf]; omega
    · obtain rfl : k = 16 := by omega
      clear hcr
      obtain ⟨wc, ewc⟩ : ∃ wc : World, wr = wc := ⟨_, rfl⟩
      rw [ewc] at hB hres hrow ⊢
      clear ewc
      go_wp2
      go_loopw [5] (fun t wr => ∃ k : Nat, 16 ≤ k ∧ k ≤ 64 ∧ t = .int .i64 (k : Int) ∧ Below w.heap.size w wr ∧ Row wr w.heap.size 71 (cellsU (List.replicate 64 0)) ∧ Row wr (w.heap.size + 1) 71 (cellsU (wRow blk k))) (fun t _ => 64 - (intOf t).toNat)
      case atStart => exact ⟨16, by omega, by omega, rfl, hB, hres, hrow⟩
      case round =>
        clear hB hres hrow
        obtain ⟨k, h16, hk, rfl, hB, hres, hrow⟩ := hrel
        by_cases hlt : k < 64
        · have hlen := wRow_len blk k hk
          have c15 := hrow.word (k - 15) (by omega)
          have c2 := hrow.word (k - 2) (by omega)
          have c16 := hrow.word (k - 16) (by omega)
          have c7 := hrow.word (k - 7) (by omega)
          rw [wRow_get _ _ _ (by omega)] at c15 c2 c16 c7
          clear hlen
          obtain ⟨p15, e15⟩ : ∃ x, (wSched blk k).getD (k - 15) 0 = x := ⟨_, rfl⟩
          obtain ⟨p2, e2⟩ : ∃ x, (wSched blk k).getD (k - 2) 0 = x := ⟨_, rfl⟩
          obtain ⟨p16, e16⟩ : ∃ x, (wSched blk k).getD (k - 16) 0 = x := ⟨_, rfl⟩
          obtain ⟨p7, e7⟩ : ∃ x, (wSched blk k).getD (k - 7) 0 = x := ⟨_, rfl⟩
          rw [e15] at c15; rw [e2] at c2; rw [e16] at c16; rw [e7] at c7
          have E15 := Lib.hid e15; have E2 := Lib.hid e2; have E16 := Lib.hid e16; have E7 := Lib.hid e7
          clear e15 e2 e16 e7
          have B15 := V_bd p15
          have B2 := V_bd p2
          go_wp2
          go_quiet (fail)
          go_wp2_with (go_at_call 57; refine (rotr_int _ _ (by decide) (by decide) _).mono ?_; rintro e w' ⟨rfl, rfl⟩)
          refine wp_region_still_tail 15 (by kernel_rfl) (by kernel_rfl) ?_
          simp only [List.take_succ_cons, List.take_zero, List.drop_succ_cons, List.drop_zero]
          change wpStill _ _ (wr.drewN nq).drew (fun a' => wpList _ _ _ _ a' (wr.drewN nq).drew) _ _
          have hB2 : Below w.heap.size w (wr.drewN nq).drew := ⟨hB.os, hB.tape, hB.output, hB.size, hB.block⟩
          have hres2 : Row (wr.drewN nq).drew w.heap.size 71 (cellsU (List.replicate 64 0)) := hres
          have hrow2 : Row (wr.drewN nq).drew (w.heap.size + 1) 71 (cellsU (wRow blk k)) := hrow
          have d16 : (wr.drewN nq).drew.cell? ⟨w.heap.size + 1, k - 16, none⟩ = some (.int .u32 (V p16)) := c16
          have d7 : (wr.drewN nq).drew.cell? ⟨w.heap.size + 1, k - 7, none⟩ = some (.int .u32 (V p7)) := c7
          have d0 := hrow2.word k (by rw [wRow_len _ _ hk]; exact hlt)
          have hfree2 := hrow2.free k
          clear c15 c2 c16 c7 hrow hB hres
          generalize (wr.drewN nq).drew = w2 at *
          have i16 : IntKind.i64.wrap ((k : Int) - 16) = (k : Int) - 16 := IntWalk.i64_in _ (by omega)
          have i7 : IntKind.i64.wrap ((k : Int) - 7) = (k : Int) - 7 := IntWalk.i64_in _ (by omega)
          have j16 : ((k : Int) - 16).toNat = k - 16 := by omega
          have j7 : ((k : Int) - 7).toNat = k - 7 := by omega
          have l16 : (16 : Int) ≤ k := by omega
          have l7 : (7 : Int) ≤ k := by omega
          have m16 : (k : Int) - 16 < 64 := by omega
          have m7 : (k : Int) - 7 < 64 := by omega
          have m0 : (k : Int) < 64 := by omega
          repeat still_step
          refine wpStill_nil ?_
          clear i16 i7 j16 j7 l16 l7 m16 m7 m0
          go_wp2
          have hset := hrow2.setU k ((rorW p2 17 ^^^ rorW p2 19 ^^^ (p2 >>> 10)) + p7 + (rorW p15 7 ^^^ rorW p15 18 ^^^ (p15 >>> 3)) + p16)
          rw [wRow_set _ _ hlt _ (by rw [if_neg (by omega), wNext, E15.out, E2.out, E16.out, E7.out]; exact next_alt _ _ _ _)] at hset
          go_roundw
          case rel =>
            (repeat apply Exists.intro)
            refine ⟨?_, rfl⟩
            exact ⟨k + 1, by omega, by omega, by go_num, hB2.setCell (by simp) _, hres2.other _ _ (by simp), hset⟩
          case measure => simp [intOf]; omega
        · obtain rfl : k = 64 := by omega
          rw [wRow_full _ _ rfl] at hrow
          obtain ⟨wc, ewc⟩ : ∃ wc : World, wr = wc := ⟨_, rfl⟩
          rw [ewc] at hB hres hrow ⊢
          clear ewc
          have hcs : (cellsU (wFull blk)).size = (cellsU (List.replicate 64 0)).size := by rw [cellsU_size, cellsU_size, wFull_len, List.length_replicate]
          have HCS := Lib.hid hcs
          have hsz : (Tryd.prog.info? 71).map (·.size) = some (cellsU (wFull blk)).size := by rw [Tryd.size64, cellsU_size, wFull_len]
          have HSZ := Lib.hid hsz
          clear hcs hsz
          go_wp2_with (first | (refine wpList_load_row rfl 71 (.tmp 3) rfl (w.heap.size + 1) rfl 71 (cellsU (wFull blk)) (0, 0) _ hrow Tryd.under64 rfl HSZ.out ?_) | (refine wpList_store_row rfl 71 (.tmp 2) (.tmp 64) rfl w.heap.size rfl (cellsU (wFull blk)) _ 71 rfl hres HCS.out HSZ.out (cellsU_one _) ?_; intro w9 hg9 hr9 hz9))
          refine bodyPost_ret (v := .agg (cellsU (wFull blk))) (results_cell_row rfl _ _ w.heap.size 71 _ (0, 0) _ rfl hr9 Tryd.under64 rfl HSZ.out) rfl ⟨rfl, ?_⟩
          exact hB.grown hg9 hB.size (fun k hk => by cases hk; omega)
end Go.Proofs.YthhlfcbkggahmaaDoor

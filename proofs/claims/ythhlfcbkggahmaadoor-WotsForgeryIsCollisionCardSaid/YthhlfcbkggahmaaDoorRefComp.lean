/- crossbarref03.Compress: the compression function. Conditions: the block has 64 bytes, the constants lie in their variable. -/
import Derived.Test.YthhlfcbkggahmaaDoorRefSched
namespace Go.Proofs.YthhlfcbkggahmaaDoor
open Go.RowKit
theorem bitsV_notm (x : W32) : bits .xor .u32 IntKind.u32.max (V x) = V (~~~x) := bitsV_not x
attribute [local go_sem] wrapV_add addV bitsV_xor bitsV_and bitsV_or bitsV_notm shrV_3 shrV_10
theorem Tryd.under8 : Tryd.prog.underlying 62 = some (.array 8 61) := by kernel_rfl
theorem Tryd.size8 : (Tryd.prog.info? 62).map (·.size) = some 8 := by kernel_rfl
theorem St.list_len (s : St) : s.list.length = 8 := rfl
theorem Tryd.sizeSt (s : St) : (Tryd.prog.info? 62).map (·.size) = some (cellsU s.list).size := Tryd.size8
/-- The constants lie in the reference's variable. -/
def RKFact (w : World) : Prop := ∀ t, t < 64 → w.cell? ⟨2, t, none⟩ = some (.int .u32 (V (kW t)))
theorem RKFact.lt {w : World} (h : RKFact w) : 2 < w.heap.size := block_lt_of_cell (h 0 (by omega))
theorem RKFact.below {w w' : World} (h : RKFact w) {n : Nat} (hb : Below n w w') (hn : 2 < n) : RKFact w' := fun t ht => (hb.cell (p := ⟨2, t, none⟩) hn).trans (h t ht)
set_option maxRecDepth 100000 in
set_option maxHeartbeats 1000000 in
theorem rcompress_any (s : St) (blk : List UInt8) (b off cap : Nat) (w : World) (hl : blk.length = 64) (hcap : 64 ≤ cap) (hcm : cap ≤ 9223372036854775807) (hc : BytesAt w b off blk) (hK : RKFact w) :
    Calls Tryd.prog 55 #[.agg (cellsU s.list), .slice (some ⟨b, off, none⟩) 64 cap] w
      fun e w' => e = .returned (.agg (cellsU (compress s blk).list)) ∧ Below w.heap.size w w' := by
  have HL := Lib.hid hl
  have hl0 : 0 < blk.length := by omega
  clear hl
  have hbl : b < w.heap.size := block_lt_of_cell (hc 0 hl0)
  have hklt := hK.lt
  have hb2 : Below w.heap.size w ((w.alloc (.cells (cellsU s.list) 62)).alloc (.cells (cellsU (List.replicate 8 0)) 62)) := ((Below.refl _ _).alloc (Nat.le_refl _) _).alloc (by simp) _
  have hs2 : Row ((w.alloc (.cells (cellsU s.list) 62)).alloc (.cells (cellsU (List.replicate 8 0)) 62)) w.heap.size 62 (cellsU s.list) := (Row.new w _ _).alloc _
  have hr2 : Row ((w.alloc (.cells (cellsU s.list) 62)).alloc (.cells (cellsU (List.replicate 8 0)) 62)) (w.heap.size + 1) 62 (cellsU (List.replicate 8 0)) := by
    have h := Row.new (w.alloc (.cells (cellsU s.list) 62)) (cellsU (List.replicate 8 0)) 62
    rwa [show (w.alloc (.cells (cellsU s.list) 62)).heap.size = w.heap.size + 1 by simp] at h
  have hc2 : BytesAt ((w.alloc (.cells (cellsU s.list) 62)).alloc (.cells (cellsU (List.replicate 8 0)) 62)) b off blk := fun i hi => (hb2.cell (p := ⟨b, off + i, none⟩) hbl).trans (hc i hi)
  have HZS := Lib.hid (Tryd.sizeSt s)
  have HZW : Hid ((Tryd.prog.info? 71).map (·.size) = some (cellsU (wFull blk)).size) := Lib.hid (by rw [Tryd.size64, cellsU_size, wFull_len])
  have HCW : Hid ((cellsU (wFull blk)).size = (cellsU (List.replicate 64 0)).size) := Lib.hid (by rw [cellsU_size, cellsU_size, wFull_len, List.length_replicate])
  have HC8 : Hid ((cellsU s.list).size = (cellsU (List.replicate 8 0)).size) := Lib.hid rfl
  go_enter Tryd.func55, Tryd.ntmps55
  go_wp2_with fail
  refine (schedule_any blk b off cap _ HL.out hcap hcm hc2).mono ?_
  rintro e w3 ⟨rfl, hb3⟩
  have hB3 : Below w.heap.size w w3 := hb2.trans (hb3.mono hb2.size)
  have hs3 := hs2.below hb3 hs2.lt
  have hr3 := hr2.below hb3 hr2.lt
  clear hb2 hs2 hr2 hc2 hb3
  have hlt3 := hr3.lt
  go_wp2_with (first | (refine wpList_store_row rfl 71 (.tmp 5) (.tmp 24) rfl w3.heap.size rfl (cellsU (wFull blk)) (cellsU (List.replicate 64 0)) 71 rfl (Row.new w3 _ _) HCW.out HZW.out (cellsU_one _) ?_; intro w4 hg4 hw4 hz4; have hB4 : Below w.heap.size w w4 := (hB3.alloc hB3.size _).grown hg4 (by have := hB3.size; simp; omega) (fun k hk => by cases hk; exact hB3.size); have hs4 := (hs3.alloc (.cells (cellsU (List.replicate 64 0)) 71)).grown hg4 (fun e => by have := Option.some.inj e; omega); have hr4 := (hr3.alloc (.cells (cellsU (List.replicate 64 0)) 71)).grown hg4 (fun e => by have := Option.some.inj e; omega); clear hs3 hr3 hg4 hz4) | (refine wpList_load_row rfl 62 (.tmp 2) rfl w.heap.size rfl 62 (cellsU s.list) (0, 0) _ hs4 Tryd.under8 rfl HZS.out ?_) | (refine wpList_store_row rfl 62 (.tmp 6) (.tmp 25) rfl w4.heap.size rfl (cellsU s.list) (cellsU (List.replicate 8 0)) 62 rfl (Row.new w4 _ _) HC8.out HZS.out (cellsU_one _) ?_; intro w5 hg5 hv5 hz5))
  have hB5 : Below w.heap.size w w5 := (hB4.alloc hB4.size _).grown hg5 (by have := hB4.size; simp; omega) (fun k hk => by cases hk; exact hB4.size)
  have hltw4 := hw4.lt
  have hlts4 := hs4.lt
  have hltr4 := hr4.lt
  have hW5 := (hw4.alloc (.cells (cellsU (List.replicate 8 0)) 62)).grown hg5 (fun e => by have := Option.some.inj e; omega)
  have hS5 := (hs4.alloc (.cells (cellsU (List.replicate 8 0)) 62)).grown hg5 (fun e => by have := Option.some.inj e; omega)
  have hR5 := (hr4.alloc (.cells (cellsU (List.replicate 8 0)) 62)).grown hg5 (fun e => by have := Option.some.inj e; omega)
  obtain ⟨n5, e5⟩ : ∃ n5, w3.heap.size = n5 := ⟨_, rfl⟩
  obtain ⟨n6, e6⟩ : ∃ n6, w4.heap.size = n6 := ⟨_, rfl⟩
  rw [e5] at hltw4 hlt3 hW5
  rw [e6] at hltw4 hlts4 hltr4 hv5
  rw [e5, e6]
  clear e5 e6 hg5 hw4 hs4 hr4 hB4 hB3 hz5
  go_loopw [7] (fun t wr => ∃ k : Nat, k ≤ 64 ∧ t = .int .i64 (k : Int) ∧ Below w.heap.size w wr ∧ Row wr w.heap.size 62 (cellsU s.list) ∧ Row wr (w.heap.size + 1) 62 (cellsU (List.replicate 8 0)) ∧ Row wr n5 71 (cellsU (wFull blk)) ∧ Row wr n6 62 (cellsU (rnds (wFull blk) s k).list)) (fun t _ => 64 - (intOf t).toNat)
  case atStart => exact ⟨0, by omega, rfl, hB5, hS5, hR5, hW5, hv5⟩
  case round =>
    clear hB5 hS5 hR5 hW5 hv5
    obtain ⟨k, hk, rfl, hB, hs, hr, hrow, hv⟩ := hrel
    by_cases hlt : k < 64
    · obtain ⟨r, er⟩ : ∃ r, rnds (wFull blk) s k = r := ⟨_, rfl⟩
      rw [er] at hv
      have ER := Lib.hid er
      clear er
      have q0 : wr.cell? ⟨n6, 0, none⟩ = some (.int .u32 (V r.a)) := hv.cell 0
      have q1 : wr.cell? ⟨n6, 1, none⟩ = some (.int .u32 (V r.b)) := hv.cell 1
      have q2 : wr.cell? ⟨n6, 2, none⟩ = some (.int .u32 (V r.c)) := hv.cell 2
      have q3 : wr.cell? ⟨n6, 3, none⟩ = some (.int .u32 (V r.d)) := hv.cell 3
      have q4 : wr.cell? ⟨n6, 4, none⟩ = some (.int .u32 (V r.e)) := hv.cell 4
      have q5 : wr.cell? ⟨n6, 5, none⟩ = some (.int .u32 (V r.f)) := hv.cell 5
      have q6 : wr.cell? ⟨n6, 6, none⟩ = some (.int .u32 (V r.g)) := hv.cell 6
      have q7 : wr.cell? ⟨n6, 7, none⟩ = some (.int .u32 (V r.h)) := hv.cell 7
      have cw := hrow.word k (by rw [wFull_len]; exact hlt)
      unfold wd at cw
      have ck : wr.cell? ⟨2, k, none⟩ = some (.int .u32 (V (kW k))) := (hB.cell (p := ⟨2, k, none⟩) hK.lt).trans (hK k hlt)
      obtain ⟨pw, ew⟩ : ∃ x, (wFull blk).getD k 0 = x := ⟨_, rfl⟩
      obtain ⟨pk, ek⟩ : ∃ x, kW k = x := ⟨_, rfl⟩
      rw [ew] at cw; rw [ek] at ck
      have EW := Lib.hid ew
      have EK := Lib.hid ek
      clear ew ek hc hK
      have Ba := V_bd r.a
      have Be := V_bd r.e
      go_wp2
      go_quiet (fail)
      go_wp2_with (go_at_call 57; refine (rotr_int _ _ (by decide) (by decide) _).mono ?_; rintro e w' ⟨rfl, rfl⟩)
      have hB2 : Below w.heap.size w (wr.drewN nq) := Below.of_drewN hB nq
      have hs2 : Row (wr.drewN nq) w.heap.size 62 (cellsU s.list) := hs
      have hr2 : Row (wr.drewN nq) (w.heap.size + 1) 62 (cellsU (List.replicate 8 0)) := hr
      have hrow2 : Row (wr.drewN nq) n5 71 (cellsU (wFull blk)) := hrow
      have hv2 : Row (wr.drewN nq) n6 62 (cellsU r.list) := hv
      have cw2 : (wr.drewN nq).cell? ⟨n5, k, none⟩ = some (.int .u32 (V pw)) := cw
      have ck2 : (wr.drewN nq).cell? ⟨2, k, none⟩ = some (.int .u32 (V pk)) := ck
      clear hB hs hr hrow hv cw ck q0 q1 q2 q3 q4 q5 q6 q7
      generalize wr.drewN nq = w2 at *
      have HCR : Hid ((cellsU (rnd r pk pw).list).size = (cellsU r.list).size) := Lib.hid rfl
      have HZR := Lib.hid (Tryd.sizeSt (rnd r pk pw))
      go_quiet (fail)
      go_wp2_with (first | (go_at_call 57; refine (rotr_int _ _ (by decide) (by decide) _).mono ?_; rintro e w' ⟨rfl, rfl⟩) | (refine wpList_store_row rfl 62 (.tmp 6) (.tmp 109) rfl n6 rfl (cellsU (rnd r pk pw).list) (cellsU r.list) 62 rfl hv2 HCR.out HZR.out (cellsU_one _) ?_; intro w6 hg6 hv6 hz6))
      have hB3 : Below w.heap.size w (w2.drewN nq) := Below.of_drewN hB2 nq
      have hs3 : Row (w2.drewN nq) w.heap.size 62 (cellsU s.list) := hs2
      have hr3 : Row (w2.drewN nq) (w.heap.size + 1) 62 (cellsU (List.replicate 8 0)) := hr2
      have hrow3 : Row (w2.drewN nq) n5 71 (cellsU (wFull blk)) := hrow2
      go_roundw
      case rel =>
        refine ⟨k + 1, by omega, by go_num, hB3.grown hg6 hB3.size (fun k hk => by cases hk; omega), hs3.grown hg6 (fun e => by have := Option.some.inj e; omega), hr3.grown hg6 (fun e => by have := Option.some.inj e; omega), hrow3.grown hg6 (fun e => by have := Option.some.inj e; omega), ?_⟩
        rw [rnds, ER.out, EK.out, EW.out]; exact hv6
      case measure => simp [intOf]; omega
    · obtain rfl : k = 64 := by omega
      obtain ⟨v, ev⟩ : ∃ v, rnds (wFull blk) s 64 = v := ⟨_, rfl⟩
      rw [ev] at hv
      have EV : Hid (compress s blk = s.add v) := by unfold compress; rw [← ev]; unfold wFull; rfl
      clear ev hrow hc hK
      obtain ⟨wb, ewb⟩ : ∃ wb : World, wr = wb := ⟨_, rfl⟩
      rw [ewb] at hB hs hr hv ⊢
      clear ewb
      go_wp2
      go_loopw [22] (fun t wr => ∃ k : Nat, k ≤ 8 ∧ t = .int .i64 (k : Int) ∧ Below w.heap.size w wr ∧ Row wr w.heap.size 62 (cellsU (addTo s v k)) ∧ Row wr (w.heap.size + 1) 62 (cellsU (List.replicate 8 0)) ∧ Row wr n6 62 (cellsU v.list)) (fun t _ => 8 - (intOf t).toNat)
      case atStart => exact ⟨0, by omega, rfl, hB, hs, hr, hv⟩
      case round =>
        clear hB hs hr hv
        obtain ⟨k, hk, rfl, hB, hs, hr, hv⟩ := hrel
        by_cases hlt8 : k < 8
        · have c1 := hs.word k (by rw [addTo_len _ _ _ hlt8]; exact hlt8)
          rw [addTo_get _ _ _ hlt8] at c1
          have c2 := hv.word k hlt8
          unfold wd at c2
          have f1 := hs.free k
          have hset := addTo_set s v k hlt8
          obtain ⟨x1, e1⟩ : ∃ x, s.list.getD k 0 = x := ⟨_, rfl⟩
          obtain ⟨x2, e2⟩ : ∃ x, v.list.getD k 0 = x := ⟨_, rfl⟩
          rw [e1] at c1 hset; rw [e2] at c2 hset
          have HS := Lib.hid hset
          clear hset e1 e2
          go_wp2
          refine wp_region_still_tail 9 (by kernel_rfl) (by kernel_rfl) ?_
          simp only [List.take_succ_cons, List.take_zero, List.drop_succ_cons, List.drop_zero]
          change wpStill _ _ wr.drew (fun a' => wpList _ _ _ _ a' wr.drew) _ _
          have hB2 : Below w.heap.size w wr.drew := ⟨hB.os, hB.tape, hB.output, hB.size, hB.block⟩
          have hs2 : Row wr.drew w.heap.size 62 (cellsU (addTo s v k)) := hs
          have hr2 : Row wr.drew (w.heap.size + 1) 62 (cellsU (List.replicate 8 0)) := hr
          have hv2 : Row wr.drew n6 62 (cellsU v.list) := hv
          have d1 : wr.drew.cell? ⟨w.heap.size, k, none⟩ = some (.int .u32 (V x1)) := c1
          have d2 : wr.drew.cell? ⟨n6, k, none⟩ = some (.int .u32 (V x2)) := c2
          have d3 : wr.drew.frozen? ⟨w.heap.size, k, none⟩ = false := f1
          clear c1 c2 f1 hB hs hr hv
          generalize wr.drew = w2 at *
          have l8 : (k : Int) < 8 := by omega
          repeat still_step
          refine wpStill_nil ?_
          clear l8
          go_wp2
          go_roundw
          case rel =>
            (repeat apply Exists.intro)
            refine ⟨?_, rfl⟩
            exact ⟨k + 1, by omega, by go_num, hB2.setCell (Nat.le_refl _) _, by have := hs2.setU k (x1 + x2); rwa [HS.out] at this, hr2.other _ _ (by simp), hv2.other _ _ (by simp; omega)⟩
          case measure => simp [intOf]; omega
        · obtain rfl : k = 8 := by omega
          have hs8 : Row wr w.heap.size 62 (cellsU (compress s blk).list) := by rw [EV.out]; exact hs
          obtain ⟨z, ez⟩ : ∃ z, compress s blk = z := ⟨_, rfl⟩
          rw [ez] at hs8
          have EZ := Lib.hid ez
          clear ez EV hs
          have HCZ : Hid ((cellsU z.list).size = (cellsU (List.replicate 8 0)).size) := Lib.hid rfl
          have HZZ := Lib.hid (Tryd.sizeSt z)
          go_wp2_with (first | (refine wpList_load_row rfl 62 (.tmp 2) rfl w.heap.size rfl 62 (cellsU z.list) (0, 0) _ hs8 Tryd.under8 rfl HZZ.out ?_) | (refine wpList_store_row rfl 62 (.tmp 4) (.tmp 123) rfl (w.heap.size + 1) rfl (cellsU z.list) _ 62 rfl hr HCZ.out HZZ.out (cellsU_one _) ?_; intro w9 hg9 hr9 hz9))
          refine bodyPost_ret (v := .agg (cellsU z.list)) (results_cell_row rfl _ _ (w.heap.size + 1) 62 _ (0, 0) _ rfl hr9 Tryd.under8 rfl HZZ.out) rfl ⟨by rw [EZ.out], ?_⟩
          exact hB.grown hg9 hB.size (fun k hk => by cases hk; omega)
end Go.Proofs.YthhlfcbkggahmaaDoor

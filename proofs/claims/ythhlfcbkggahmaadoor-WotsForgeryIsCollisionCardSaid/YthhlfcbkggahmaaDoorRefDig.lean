/- crossbarref03.Digest and crossbarref03.blocks. Conditions: the constants lie in their variable. -/
import Derived.Test.YthhlfcbkggahmaaDoorRefComp
import Derived.Test.YthhlfcbkggahmaaDoorRefPad
namespace Go.Proofs.YthhlfcbkggahmaaDoor
open Go.RowKit
set_option maxHeartbeats 1000000 in
theorem rdigest_any (s : St) (w : World) :
    Calls Tryd.prog 52 #[.agg (cellsU s.list)] w fun e w' => e = .returned (.agg (cellsB (digestOf s))) ∧ Below w.heap.size w w' := by
  have hs1 : Row (((w.alloc (.cells (cellsU s.list) 62)).alloc (.cells (cellsB (List.replicate 32 0)) 23)).alloc (.cells (cellsB (List.replicate 32 0)) 23)) w.heap.size 62 (cellsU s.list) := ((Row.new w _ _).alloc _).alloc _
  have hr1 : Row (((w.alloc (.cells (cellsU s.list) 62)).alloc (.cells (cellsB (List.replicate 32 0)) 23)).alloc (.cells (cellsB (List.replicate 32 0)) 23)) (w.heap.size + 1) 23 (cellsB (List.replicate 32 0)) := by
    have h := (Row.new (w.alloc (.cells (cellsU s.list) 62)) (cellsB (List.replicate 32 0)) 23).alloc (.cells (cellsB (List.replicate 32 0)) 23)
    rwa [show (w.alloc (.cells (cellsU s.list) 62)).heap.size = w.heap.size + 1 by simp] at h
  have hd1 : Row (((w.alloc (.cells (cellsU s.list) 62)).alloc (.cells (cellsB (List.replicate 32 0)) 23)).alloc (.cells (cellsB (List.replicate 32 0)) 23)) (w.heap.size + 1 + 1) 23 (cellsB (dRow s 0)) := by
    have h := Row.new ((w.alloc (.cells (cellsU s.list) 62)).alloc (.cells (cellsB (List.replicate 32 0)) 23)) (cellsB (dRow s 0)) 23
    rwa [show ((w.alloc (.cells (cellsU s.list) 62)).alloc (.cells (cellsB (List.replicate 32 0)) 23)).heap.size = w.heap.size + 1 + 1 by simp] at h
  have hb1 : Below w.heap.size w (((w.alloc (.cells (cellsU s.list) 62)).alloc (.cells (cellsB (List.replicate 32 0)) 23)).alloc (.cells (cellsB (List.replicate 32 0)) 23)) := (((Below.refl _ _).alloc (Nat.le_refl _) _).alloc (by simp) _).alloc (by simp; omega) _
  go_enter Tryd.func52, Tryd.ntmps52
  go_wp2
  go_loopw [4] (fun t wr => ∃ i : Nat, i ≤ 32 ∧ t = .int .i64 (i : Int) ∧ Below w.heap.size w wr ∧ Row wr w.heap.size 62 (cellsU s.list) ∧ Row wr (w.heap.size + 1) 23 (cellsB (List.replicate 32 0)) ∧ Row wr (w.heap.size + 1 + 1) 23 (cellsB (dRow s i))) (fun t _ => 32 - (intOf t).toNat)
  case atStart => exact ⟨0, by omega, rfl, hb1, hs1, hr1, hd1⟩
  case round =>
    clear hb1 hs1 hr1 hd1
    obtain ⟨i, hi, rfl, hb, hs, hr, hd⟩ := hrel
    by_cases hlt32 : i < 32
    · have c1 := hs.word (i / 4) (show i / 4 < 8 by omega)
      have c2 := hd.byte i (by rw [dRow_len _ _ hi]; exact hlt32)
      have f2 := hd.free i
      have hE := dByte_eq s i hlt32
      have hwd := wd_bd s.list (i / 4)
      go_wp2
      have hset := hd.setB i ((digestOf s).getD i 0)
      rw [dRow_set _ _ hlt32] at hset
      go_roundw
      case rel => exact ⟨i + 1, by omega, by go_num, hb.setCell (by simp; omega) _, hs.other _ _ (by simp; omega), hr.other _ _ (by simp), by simpa using hset⟩
      case measure => simp [intOf]; omega
    · rw [dRow_all _ _ (show i = 32 by omega)] at hd
      have hdl : (cellsB (digestOf s)).size = 32 := cellsB_size _
      have hszd := Tryd.sizeD
      rw [← hdl] at hszd
      have HSZ := Lib.hid hszd
      have HCD : Hid ((cellsB (digestOf s)).size = (cellsB (List.replicate 32 0)).size) := Lib.hid hdl
      clear hszd hdl
      go_wp2_with (first | (refine wpList_load_row rfl 23 (.tmp 3) rfl (w.heap.size + 1 + 1) rfl 23 (cellsB (digestOf s)) (0, 0) _ hd Tryd.underD rfl HSZ.out ?_) | (refine wpList_store_row rfl 23 (.tmp 2) (.tmp 22) rfl (w.heap.size + 1) rfl (cellsB (digestOf s)) _ 23 rfl hr HCD.out HSZ.out (cellsB_one _) ?_; intro w9 hg9 hr9 hz9))
      refine bodyPost_ret (v := .agg (cellsB (digestOf s))) (results_cell_row rfl _ _ (w.heap.size + 1) 23 (cellsB (digestOf s)) (0, 0) _ rfl hr9 Tryd.underD rfl HSZ.out) rfl ⟨rfl, ?_⟩
      exact hb.grown hg9 hb.size (fun k hk => by cases hk; omega)
theorem cellsSt_size (s : St) : (cellsU s.list).size = 8 := by rw [cellsU_size]; rfl
theorem still_load_row {P : Program} {ops : Array Oper} {w : World} {Q : Act → Prop} {a : Act} {o : Oper} {rest : List Oper} (hgd : o.guard = none) (ty : TypeId) (x : Operand) (ho : o.op = .load ty x) (g : Nat)
    (hx : a.eval x = .pointer (some ⟨g, 0, none⟩)) (t : TypeId) (cs : Array Value) (fr : Nat × Nat) (d : TypeDesc) (hg : w.heap[g]? = some (.cells cs t fr)) (hu : P.underlying ty = some d)
    (hd : (match d with | .struct _ | .array _ _ => true | _ => false) = true) (hi : (P.info? ty).map (·.size) = some cs.size) (h : wpStill P ops w Q rest (a.put o.dst (.agg cs))) : wpStill P ops w Q (o :: rest) a := by
  unfold wpStill
  have hw : Region.wanted o (yielded ops a.tmps) = true := by unfold Region.wanted; rw [hgd]
  rw [if_pos hw]
  unfold Oper.still execOp
  simp only [ho, hx, Instr.loadAt, Instr.sureAddr, Sem.run_bind, Sem.run_pure, Result.andThen_ok, run_loadVar_row w g t ty cs fr d hg hu hd hi]
  rw [Oper.stillUpon_value]
  exact h
set_option maxHeartbeats 1000000 in
theorem rblocks_any (s : St) (l : List UInt8) (v : Value) (w : World) (hv : Bytes w v l (fun _ => True)) (hK : RKFact w) (hl : l.length ≤ 35184372088832) :
    Calls Tryd.prog 53 #[.agg (cellsU s.list), v] w fun e w' => e = .returned (.agg (cellsU (blocks (l.length / 64) s l).list)) ∧ Below w.heap.size w w' := by
  have hkl := hK.lt
  obtain ⟨av, cv, rfl⟩ : ∃ a c, v = .slice a l.length c := by obtain ⟨a, c, h, _⟩ := hv; exact ⟨a, c, h⟩
  have hs1 : Row ((w.alloc (.cells (cellsU s.list) 62)).alloc (.cells (cellsU (List.replicate 8 0)) 62)) w.heap.size 62 (cellsU (blocks 0 s l).list) := (Row.new w _ _).alloc _
  have hr1 : Row ((w.alloc (.cells (cellsU s.list) 62)).alloc (.cells (cellsU (List.replicate 8 0)) 62)) (w.heap.size + 1) 62 (cellsU (List.replicate 8 0)) := by
    have h := Row.new (w.alloc (.cells (cellsU s.list) 62)) (cellsU (List.replicate 8 0)) 62
    rwa [show (w.alloc (.cells (cellsU s.list) 62)).heap.size = w.heap.size + 1 by simp] at h
  have hb1 : Below w.heap.size w ((w.alloc (.cells (cellsU s.list) 62)).alloc (.cells (cellsU (List.replicate 8 0)) 62)) := ((Below.refl _ _).alloc (Nat.le_refl _) _).alloc (by simp) _
  go_enter Tryd.func53, Tryd.ntmps53
  go_wp2
  go_loopw [5] (fun t wr => ∃ i : Nat, i ≤ l.length / 64 ∧ t = .int .i64 (64 * i : Int) ∧ Below w.heap.size w wr ∧ Row wr w.heap.size 62 (cellsU (blocks i s l).list) ∧ Row wr (w.heap.size + 1) 62 (cellsU (List.replicate 8 0))) (fun t _ => l.length - (intOf t).toNat)
  case atStart => exact ⟨0, by omega, rfl, hb1, hs1, hr1⟩
  case round =>
    clear hb1 hs1 hr1
    obtain ⟨i, hi, rfl, hb, hs, hr⟩ := hrel
    by_cases hlt : 64 * i + 64 ≤ l.length
    · obtain ⟨b, off, rfl, hat⟩ : ∃ b off, av = some ⟨b, off, none⟩ ∧ BytesAt w b off l := by
        obtain ⟨a, c, he, _, _, ⟨rfl, _⟩ | ⟨b, off, rfl, _, hat⟩⟩ := hv
        · simp at hlt
        · exact ⟨b, off, (Value.slice.inj he).1, hat⟩
      have hcc : l.length ≤ cv ∧ cv ≤ 9223372036854775807 := by
        obtain ⟨a, c, he, h1, h2, _⟩ := hv
        obtain ⟨_, _, rfl⟩ := Value.slice.inj he
        exact ⟨h1, h2⟩
      have hbl : b < w.heap.size := block_lt_of_cell (hat 0 (by omega))
      have hat2 : BytesAt wr b (off + 64 * i) ((l.drop (64 * i)).take 64) := fun j hj => by
        have hj2 : j < 64 := by rw [List.length_take] at hj; omega
        have h := (hb.cell (p := ⟨b, off + (64 * i + j), none⟩) hbl).trans (hat (64 * i + j) (by omega))
        rw [Nat.add_assoc, h]
        unfold by8
        rw [List.getD_eq_getElem?_getD, List.getD_eq_getElem?_getD, List.getElem?_take, if_pos hj2, List.getElem?_drop]
      have hbkl : ((l.drop (64 * i)).take 64).length = 64 := by rw [List.length_take, List.length_drop]; omega
      have HBL := Lib.hid hbkl
      clear hv hat hbkl
      obtain ⟨hc1, hc2⟩ := hcc
      have hKr := hK.below hb hkl
      go_wp2
      refine wp_region_still_tail 6 (by kernel_rfl) (by kernel_rfl) ?_
      simp only [List.take_succ_cons, List.take_zero, List.drop_succ_cons, List.drop_zero]
      change wpStill _ _ wr.drew (fun a' => wpList _ _ _ _ a' wr.drew) _ _
      have hb2 : Below w.heap.size w wr.drew := ⟨hb.os, hb.tape, hb.output, hb.size, hb.block⟩
      have hs2 : Row wr.drew w.heap.size 62 (cellsU (blocks i s l).list) := hs
      have hr2 : Row wr.drew (w.heap.size + 1) 62 (cellsU (List.replicate 8 0)) := hr
      have hat3 : BytesAt wr.drew b (off + 64 * i) ((l.drop (64 * i)).take 64) := hat2
      have hK3 : RKFact wr.drew := hKr
      clear hb hs hr hat2 hKr
      generalize wr.drew = w2 at *
      have l1 : (64 : Int) * i + 64 ≤ cv := by omega
      have l2 : (64 : Int) * i ≤ 64 * i + 64 := by omega
      have iw : IntKind.i64.wrap ((64 : Int) * i + 64) = (64 : Int) * i + 64 := IntWalk.i64_in _ (by omega)
      have t1 : ((64 : Int) * i).toNat = 64 * i := by omega
      have t2 : ((64 : Int) * i + 64).toNat = 64 * i + 64 := by omega
      have p1 : (0 : Int) ≤ 64 * i := by omega
      have p2 : (0 : Int) ≤ 64 * i + 64 := by omega
      have ne1 : ¬ cv = 64 * i := by omega
      have HZ := Lib.hid (Tryd.sizeSt (blocks i s l))
      refine still_load_row rfl 62 (.tmp 2) rfl w.heap.size rfl 62 (cellsU (blocks i s l).list) (0, 0) _ hs2 Tryd.under8 rfl HZ.out ?_
      repeat still_step
      refine wpStill_nil ?_
      clear iw t1 t2 p1 p2 ne1 l1 l2 HZ
      go_wp2_with fail
      refine (rcompress_any (blocks i s l) ((l.drop (64 * i)).take 64) b (off + 64 * i) (cv - 64 * i) w2 HBL.out (by omega) (by omega) hat3 hK3).mono ?_
      rintro e w5 ⟨rfl, hb5⟩
      have hB5 := hb2.trans (hb5.mono hb2.size)
      have hs5 := hs2.below hb5 hs2.lt
      have hr5 := hr2.below hb5 hr2.lt
      rw [← blocks_succ]
      have HCB : Hid ((cellsU (blocks (i + 1) s l).list).size = (cellsU (blocks i s l).list).size) := Lib.hid ((cellsSt_size _).trans (cellsSt_size _).symm)
      have HZB := Lib.hid (Tryd.sizeSt (blocks (i + 1) s l))
      clear hb2 hs2 hr2 hat3 hK3 hb5
      go_wp2_with (refine wpList_store_row rfl 62 (.tmp 2) (.tmp 19) rfl w.heap.size rfl (cellsU (blocks (i + 1) s l).list) (cellsU (blocks i s l).list) 62 rfl hs5 HCB.out HZB.out (cellsU_one _) ?_; intro w6 hg6 hr6 hz6)
      go_roundw
      case rel =>
        exact ⟨i + 1, by omega, (by refine congrArg (Value.int .i64) ?_; omega), hB5.grown hg6 hB5.size (fun k hk => by cases hk; exact Nat.le_refl _), hr6, hr5.grown hg6 (fun e => by have := Option.some.inj e; omega)⟩
      case measure => simp [intOf]; omega
    · obtain rfl : i = l.length / 64 := by omega
      obtain ⟨z, ez⟩ : ∃ z, blocks (l.length / 64) s l = z := ⟨_, rfl⟩
      rw [ez] at hs
      have EZ := Lib.hid ez
      clear ez hv
      have HCZ : Hid ((cellsU z.list).size = (cellsU (List.replicate 8 0)).size) := Lib.hid rfl
      have HZZ := Lib.hid (Tryd.sizeSt z)
      go_wp2_with (first | (refine wpList_load_row rfl 62 (.tmp 2) rfl w.heap.size rfl 62 (cellsU z.list) (0, 0) _ hs Tryd.under8 rfl HZZ.out ?_) | (refine wpList_store_row rfl 62 (.tmp 4) (.tmp 20) rfl (w.heap.size + 1) rfl (cellsU z.list) _ 62 rfl hr HCZ.out HZZ.out (cellsU_one _) ?_; intro w9 hg9 hr9 hz9))
      refine bodyPost_ret (v := .agg (cellsU z.list)) (results_cell_row rfl _ _ (w.heap.size + 1) 62 _ (0, 0) _ rfl hr9 Tryd.under8 rfl HZZ.out) rfl ⟨by rw [EZ.out], ?_⟩
      exact hb.grown hg9 hb.size (fun k hk => by cases hk; omega)
end Go.Proofs.YthhlfcbkggahmaaDoor

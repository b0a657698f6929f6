/- Merged: a block of SHA-256 is worked as the plain function says; bytes are cloned, converted and appended. No conditions of its own beyond those that each law states. -/
import Derived.Test.YteogcilnpkaplaaDoorM1
import Derived.Test.YteogcilnpkaplaaDoorProg
import Derived.StillTailTactics
import Derived.BigQuiet
import Derived.Laws.AppendOwnNone
import Derived.Lib.AppendStr
namespace Go.Proofs.YteogcilnpkaplaaDoor
open Go.RowKit
attribute [local go_sem] wrapV_add addV bitsV_xor bitsV_and bitsV_or shrV_3 shrV_10
def wRow (blk : List UInt8) (k : Nat) : List W32 := wSched blk k ++ List.replicate (64 - k) 0
theorem wSched_len (blk : List UInt8) (k : Nat) : (wSched blk k).length = k := by
  induction k with
  | zero => rfl
  | succ k ih => simp only [wSched, List.length_append, ih, List.length_cons, List.length_nil]
theorem wRow_len (blk : List UInt8) (k : Nat) (h : k ≤ 64) : (wRow blk k).length = 64 := by
  unfold wRow; rw [List.length_append, wSched_len, List.length_replicate]; omega
theorem wRow_get (blk : List UInt8) (k j : Nat) (h : j < k) : wd (wRow blk k) j = V ((wSched blk k).getD j 0) := by
  unfold wRow wd
  have := wSched_len blk k
  rw [List.getD_eq_getElem?_getD, List.getD_eq_getElem?_getD, List.getElem?_append_left (by omega)]
theorem wRow_set (blk : List UInt8) (k : Nat) (h : k < 64) (x : W32) (hx : x = if k < 16 then wordAt blk k else wNext (wSched blk k) k) : (wRow blk k).set k x = wRow blk (k + 1) := by
  subst hx
  unfold wRow
  have hl := wSched_len blk k
  rw [List.set_append_right _ _ (by omega)]
  rw [hl, Nat.sub_self, show 64 - k = (64 - (k + 1)) + 1 by omega, List.replicate_succ, List.set_cons_zero]
  simp [wSched]
/-- The whole schedule, behind a name. -/
@[irreducible] def wFull (blk : List UInt8) : List W32 := wSched blk 64
theorem wFull_len (blk : List UInt8) : (wFull blk).length = 64 := by unfold wFull; exact wSched_len blk 64
theorem wRow_full (blk : List UInt8) (k : Nat) (h : k = 64) : wRow blk k = wFull blk := by
  subst h; simp [wRow, wFull]
/-- The first k words of the state added to. -/
def addTo (s v : St) (k : Nat) : List W32 := (List.zipWith (· + ·) s.list v.list).take k ++ s.list.drop k
theorem addTo_len (s v : St) (k : Nat) (h : k < 8) : (addTo s v k).length = 8 := by
  match k, h with
  | 0, _ => rfl | 1, _ => rfl | 2, _ => rfl | 3, _ => rfl | 4, _ => rfl | 5, _ => rfl | 6, _ => rfl | 7, _ => rfl
theorem addTo_get (s v : St) (k : Nat) (h : k < 8) : wd (addTo s v k) k = V (s.list.getD k 0) := by
  match k, h with
  | 0, _ => rfl | 1, _ => rfl | 2, _ => rfl | 3, _ => rfl | 4, _ => rfl | 5, _ => rfl | 6, _ => rfl | 7, _ => rfl
theorem addTo_set (s v : St) (k : Nat) (h : k < 8) : (addTo s v k).set k (s.list.getD k 0 + v.list.getD k 0) = addTo s v (k + 1) := by
  match k, h with
  | 0, _ => rfl | 1, _ => rfl | 2, _ => rfl | 3, _ => rfl | 4, _ => rfl | 5, _ => rfl | 6, _ => rfl | 7, _ => rfl
/-- The constants lie in their variable. -/
def KFact (w : World) : Prop := ∀ t, t < 64 → w.cell? ⟨1, t, none⟩ = some (.int .u32 (V (kW t)))
theorem KFact.lt {w : World} (h : KFact w) : 1 < w.heap.size := block_lt_of_cell (h 0 (by omega))
theorem KFact.below {w w' : World} (h : KFact w) {n : Nat} (hb : Below n w w') (hn : 1 < n) : KFact w' := fun t ht => (hb.cell (p := ⟨1, t, none⟩) hn).trans (h t ht)
set_option maxRecDepth 100000 in
set_option maxHeartbeats 1000000 in
theorem block_any (s : St) (blk : List UInt8) (bs b off cap : Nat) (w : World) (hl : blk.length = 64) (hcap : 64 ≤ cap) (hcm : cap ≤ 9223372036854775807)
    (hs : Row w bs 77 (cellsU s.list)) (hc : BytesAt w b off blk) (hK : KFact w) :
    Calls Tryd.prog 58 #[.pointer (some ⟨bs, 0, none⟩), .slice (some ⟨b, off, none⟩) 64 cap] w
      fun e w' => e = .returned (.tuple #[]) ∧ w.grownBy w' (some bs) ∧ Row w' bs 77 (cellsU (compress s blk).list) := by
  have HL := Lib.hid hl
  have hl64 : 64 ≤ blk.length := by omega
  clear hl
  have hbl : b < w.heap.size := block_lt_of_cell (hc 0 (by omega))
  have hnew := Row.new w (cellsU (wRow blk 0)) 90
  have hz : cellsU (wRow blk 0) = cellsU (List.replicate 64 0) := rfl
  go_enter Tryd.func58, Tryd.ntmps58
  go_wp2
  go_loopw [15] (fun t wr => ∃ k : Nat, k ≤ 64 ∧ t = .int .i64 (k : Int) ∧ Below w.heap.size w wr ∧ w.heap.size < wr.heap.size ∧ Row wr w.heap.size 90 (cellsU (wRow blk k))) (fun t _ => 64 - (intOf t).toNat)
  case atStart => exact ⟨0, by omega, rfl, (Below.refl _ _).alloc (Nat.le_refl _) _, by simp, hnew⟩
  case round =>
    obtain ⟨k, hk, rfl, hB, hsz, hrow⟩ := hrel
    have hcr : BytesAt wr b off blk := fun i hi => (hB.cell (p := ⟨b, off + i, none⟩) hbl).trans (hc i hi)
    by_cases hlt : k < 64
    · by_cases h16 : k < 16
      · have hcell := hrow.word k (by rw [wRow_len _ _ hk]; exact hlt)
        have hfree := hrow.free k
        have hset := fun x => hrow.setU k x
        clear hnew hz
        go_wp2_with (go_at_call 69; refine (word_any blk b off 64 cap k _ (by omega) hl64 hcap hcm hcr).mono ?_; rintro e w' ⟨rfl, rfl⟩)
        go_roundw
        case rel => exact ⟨k + 1, by omega, by go_num, hB.setCell (Nat.le_refl _) _, by simpa [World.setCell] using hsz, by have := hset (wordAt blk k); rwa [wRow_set _ _ hlt _ (by rw [if_pos h16])] at this⟩
        case measure => simp [intOf]; omega
      · have hlen := wRow_len blk k hk
        have c15 := hrow.word (k - 15) (by omega)
        have c2 := hrow.word (k - 2) (by omega)
        have c16 := hrow.word (k - 16) (by omega)
        have c7 := hrow.word (k - 7) (by omega)
        have c0 := hrow.word k (by omega)
        have hfree := hrow.free k
        rw [wRow_get _ _ _ (by omega)] at c15 c2 c16 c7
        have h16' : 16 ≤ k := by omega
        clear hnew hz hlen hcr
        obtain ⟨p15, e15⟩ : ∃ x, (wSched blk k).getD (k - 15) 0 = x := ⟨_, rfl⟩
        obtain ⟨p2, e2⟩ : ∃ x, (wSched blk k).getD (k - 2) 0 = x := ⟨_, rfl⟩
        obtain ⟨p16, e16⟩ : ∃ x, (wSched blk k).getD (k - 16) 0 = x := ⟨_, rfl⟩
        obtain ⟨p7, e7⟩ : ∃ x, (wSched blk k).getD (k - 7) 0 = x := ⟨_, rfl⟩
        rw [e15] at c15; rw [e2] at c2; rw [e16] at c16; rw [e7] at c7
        have E15 := Lib.hid e15; have E2 := Lib.hid e2; have E16 := Lib.hid e16; have E7 := Lib.hid e7
        clear e15 e2 e16 e7
        go_wp2
        go_quiet (fail)
        go_wp2
        refine wp_region_still_tail 29 (by kernel_rfl) (by kernel_rfl) ?_
        simp only [List.take_succ_cons, List.take_zero, List.drop_succ_cons, List.drop_zero]
        change wpStill _ _ (wr.drewN nq).drew (fun a' => wpList _ _ _ _ a' (wr.drewN nq).drew) _ _
        have hB2 : Below w.heap.size w (wr.drewN nq).drew := ⟨hB.os, hB.tape, hB.output, hB.size, hB.block⟩
        have hsz2 : w.heap.size < (wr.drewN nq).drew.heap.size := hsz
        have hrow2 : Row (wr.drewN nq).drew w.heap.size 90 (cellsU (wRow blk k)) := hrow
        have d16 : (wr.drewN nq).drew.cell? ⟨w.heap.size, k - 16, none⟩ = some (.int .u32 (V p16)) := c16
        have d7 : (wr.drewN nq).drew.cell? ⟨w.heap.size, k - 7, none⟩ = some (.int .u32 (V p7)) := c7
        have d0 := hrow2.word k (by rw [wRow_len _ _ hk]; exact hlt)
        have hfree2 := hrow2.free k
        clear c15 c2 c16 c7 c0 hfree hrow hB hsz
        generalize (wr.drewN nq).drew = w2 at *
        have i16 : IntKind.i64.wrap ((k : Int) - 16) = (k : Int) - 16 := IntWalk.i64_in _ (by omega)
        have i7 : IntKind.i64.wrap ((k : Int) - 7) = (k : Int) - 7 := IntWalk.i64_in _ (by omega)
        have j16 : ((k : Int) - 16).toNat = k - 16 := by omega
        have j7 : ((k : Int) - 7).toNat = k - 7 := by omega
        have l16 : (16 : Int) ≤ k := by omega
        have l7 : (7 : Int) ≤ k := by omega
        have m16 : (k : Int) - 16 < 64 := by omega
        have m7 : (k : Int) - 7 < 64 := by omega
        have B15 := V_bd p15
        have B2 := V_bd p2
        repeat still_step
        still_call (ror_still p15 7 (by omega) (by omega) _)
        repeat still_step
        still_call (ror_still p15 18 (by omega) (by omega) _)
        repeat still_step
        still_call (ror_still p2 17 (by omega) (by omega) _)
        repeat still_step
        still_call (ror_still p2 19 (by omega) (by omega) _)
        repeat still_step
        refine wpStill_nil ?_
        clear i16 i7 j16 j7 l16 l7 m16 m7
        go_wp2
        have hset := hrow2.setU k (p16 + p7 + (rorW p15 7 ^^^ rorW p15 18 ^^^ p15 >>> 3) + (rorW p2 17 ^^^ rorW p2 19 ^^^ p2 >>> 10))
        rw [wRow_set _ _ hlt _ (by rw [if_neg h16, wNext, E15.out, E2.out, E16.out, E7.out]; rfl)] at hset
        go_roundw
        case rel => exact ⟨k + 1, by omega, by go_num, hB2.setCell (Nat.le_refl _) _, by simpa [World.setCell] using hsz2, hset⟩
        case measure => simp [intOf]; omega
    · obtain rfl : k = 64 := by omega
      rw [wRow_full _ _ rfl] at hrow
      have hsr := hs.below hB hs.lt
      have q0 : wr.cell? ⟨bs, 0, none⟩ = some (.int .u32 (V s.a)) := hsr.cell 0
      have q1 : wr.cell? ⟨bs, 1, none⟩ = some (.int .u32 (V s.b)) := hsr.cell 1
      have q2 : wr.cell? ⟨bs, 2, none⟩ = some (.int .u32 (V s.c)) := hsr.cell 2
      have q3 : wr.cell? ⟨bs, 3, none⟩ = some (.int .u32 (V s.d)) := hsr.cell 3
      have q4 : wr.cell? ⟨bs, 4, none⟩ = some (.int .u32 (V s.e)) := hsr.cell 4
      have q5 : wr.cell? ⟨bs, 5, none⟩ = some (.int .u32 (V s.f)) := hsr.cell 5
      have q6 : wr.cell? ⟨bs, 6, none⟩ = some (.int .u32 (V s.g)) := hsr.cell 6
      have q7 : wr.cell? ⟨bs, 7, none⟩ = some (.int .u32 (V s.h)) := hsr.cell 7
      obtain ⟨wa, ewa⟩ : ∃ wa : World, wr = wa := ⟨_, rfl⟩
      rw [ewa] at hB hsz hrow hsr q0 q1 q2 q3 q4 q5 q6 q7 ⊢
      clear hcr hnew hz ewa
      have hBv : Below w.heap.size w (wa.alloc (.cells (cellsU s.list) 77)) := hB.alloc hB.size _
      have hsv : wa.heap.size < (wa.alloc (.cells (cellsU s.list) 77)).heap.size := by simp
      have hrv := hrow.alloc (.cells (cellsU s.list) 77)
      have hvv := Row.new wa (cellsU s.list) 77
      go_wp2
      go_loopw [66] (fun t wr => ∃ k : Nat, k ≤ 64 ∧ t = .int .i64 (k : Int) ∧ Below w.heap.size w wr ∧ wa.heap.size < wr.heap.size ∧ Row wr w.heap.size 90 (cellsU (wFull blk)) ∧ Row wr wa.heap.size 77 (cellsU (rnds (wFull blk) s k).list)) (fun t _ => 64 - (intOf t).toNat)
      case atStart => exact ⟨0, by omega, rfl, hBv, hsv, hrv, hvv⟩
      case round =>
        clear hBv hsv hrv hvv q0 q1 q2 q3 q4 q5 q6 q7 hsr hrow
        obtain ⟨k, hk, rfl, hB', hsz', hrow, hv⟩ := hrel
        by_cases hlt' : k < 64
        · obtain ⟨r, er⟩ : ∃ r, rnds (wFull blk) s k = r := ⟨_, rfl⟩
          rw [er] at hv
          have ER := Lib.hid er
          clear er
          have q0 : wr.cell? ⟨wa.heap.size, 0, none⟩ = some (.int .u32 (V r.a)) := hv.cell 0
          have q1 : wr.cell? ⟨wa.heap.size, 1, none⟩ = some (.int .u32 (V r.b)) := hv.cell 1
          have q2 : wr.cell? ⟨wa.heap.size, 2, none⟩ = some (.int .u32 (V r.c)) := hv.cell 2
          have q3 : wr.cell? ⟨wa.heap.size, 3, none⟩ = some (.int .u32 (V r.d)) := hv.cell 3
          have q4 : wr.cell? ⟨wa.heap.size, 4, none⟩ = some (.int .u32 (V r.e)) := hv.cell 4
          have q5 : wr.cell? ⟨wa.heap.size, 5, none⟩ = some (.int .u32 (V r.f)) := hv.cell 5
          have q6 : wr.cell? ⟨wa.heap.size, 6, none⟩ = some (.int .u32 (V r.g)) := hv.cell 6
          have q7 : wr.cell? ⟨wa.heap.size, 7, none⟩ = some (.int .u32 (V r.h)) := hv.cell 7
          have cw := hrow.word k (by rw [wFull_len]; exact hlt')
          unfold wd at cw
          have ck : wr.cell? ⟨1, k, none⟩ = some (.int .u32 (V (kW k))) := (hB'.cell (p := ⟨1, k, none⟩) hK.lt).trans (hK k hlt')
          have f0 := hv.free 0
          have f1 := hv.free 1
          have f2 := hv.free 2
          have f3 := hv.free 3
          have f4 := hv.free 4
          have f5 := hv.free 5
          have f6 := hv.free 6
          have f7 := hv.free 7
          obtain ⟨pw, ew⟩ : ∃ x, (wFull blk).getD k 0 = x := ⟨_, rfl⟩
          obtain ⟨pk, ek⟩ : ∃ x, kW k = x := ⟨_, rfl⟩
          rw [ew] at cw; rw [ek] at ck
          have EW := Lib.hid ew
          have EK := Lib.hid ek
          have hsA : w.heap.size < wa.heap.size := hsz
          clear ew ek hs hc hK
          go_wp2
          go_quiet (fail)
          go_wp2
          refine wp_region_quiet_lit (by kernel_rfl) (by kernel_rfl) ?_
          repeat (go_big_quiet_step (fail))
          go_big_quiet_step (exact quiet_add_same (ror6 _ _))
          repeat (go_big_quiet_step (fail))
          go_big_quiet_step (exact quiet_add_same (ror11 _ _))
          repeat (go_big_quiet_step (fail))
          go_big_quiet_step (exact quiet_add_same (ror25 _ _))
          repeat (go_big_quiet_step (fail))
          refine wpQuiet_nil ?_
          intro _ hw'
          obtain ⟨nq, hw''⟩ := hw'
          subst hw''
          go_wp2
          refine wp_region_quiet_lit (by kernel_rfl) (by kernel_rfl) ?_
          repeat (go_big_quiet_step (fail))
          go_big_quiet_step (exact quiet_add_same (ror2 _ _))
          repeat (go_big_quiet_step (fail))
          go_big_quiet_step (exact quiet_add_same (ror13 _ _))
          repeat (go_big_quiet_step (fail))
          go_big_quiet_step (exact quiet_add_same (ror22 _ _))
          repeat (go_big_quiet_step (fail))
          refine wpQuiet_nil ?_
          intro _ hw'
          obtain ⟨nq, hw''⟩ := hw'
          subst hw''
          go_wp2
          have HB := fun n => Below.of_drewN hB' n
          have HV : ∀ n, Row (wr.drewN n) wa.heap.size 77 (cellsU r.list) := fun _ => hv
          have HR : ∀ n, Row (wr.drewN n) w.heap.size 90 (cellsU (wFull blk)) := fun _ => hrow
          have HZ : ∀ n, wa.heap.size < (wr.drewN n).heap.size := fun _ => hsz'
          rw [ch_alt, maj_alt]
          generalize hw' : World.setCell _ _ (Value.int IntKind.u32 (V r.g)) = w'
          obtain ⟨k1, k2, k3, k4⟩ := eight_sets (l := r.list) rfl (HB _) (Nat.le_of_lt hsA) (HV _) _ _ _ _ _ _ _ _ _ hw'.symm
          go_roundw
          case rel =>
            refine ⟨k + 1, by omega, by go_num, k1, by rw [k2]; exact HZ _, k4 _ _ _ (by omega) (HR _), ?_⟩
            rw [rnds, ER.out, EK.out, EW.out]; exact k3
          case measure => simp [intOf]; omega
        · obtain rfl : k = 64 := by omega
          obtain ⟨v, ev⟩ : ∃ v, rnds (wFull blk) s 64 = v := ⟨_, rfl⟩
          rw [ev] at hv
          have EV : Hid (compress s blk = s.add v) := by unfold compress; rw [← ev]; unfold wFull; rfl
          clear ev hrow
          have hbs : bs < w.heap.size := hs.lt
          have hne : wa.heap.size ≠ bs := by omega
          have hbs0 := hs.below hB' hbs
          have hG := grown_of_below hB' (some bs)
          obtain ⟨wb, ewb⟩ : ∃ wb : World, wr = wb := ⟨_, rfl⟩
          rw [ewb] at hG hv hbs0 ⊢
          clear ewb hB' hsz' hs hc hK hB
          go_wp2
          go_loopw [143] (fun t wr => ∃ k : Nat, k ≤ 8 ∧ t = .int .i64 (k : Int) ∧ w.grownBy wr (some bs) ∧ Row wr bs 77 (cellsU (addTo s v k)) ∧ Row wr wa.heap.size 77 (cellsU v.list)) (fun t _ => 8 - (intOf t).toNat)
          case atStart => exact ⟨0, by omega, rfl, hG, hbs0, hv⟩
          case round =>
            clear hG hv hbs0
            obtain ⟨k, hk, rfl, hG, hs', hv⟩ := hrel
            by_cases hlt8 : k < 8
            · have c1 := hs'.word k (by rw [addTo_len _ _ _ hlt8]; exact hlt8)
              rw [addTo_get _ _ _ hlt8] at c1
              have c2 := hv.word k hlt8
              unfold wd at c2
              have f1 := hs'.free k
              have hset := addTo_set s v k hlt8
              obtain ⟨x1, e1⟩ : ∃ x, s.list.getD k 0 = x := ⟨_, rfl⟩
              obtain ⟨x2, e2⟩ : ∃ x, v.list.getD k 0 = x := ⟨_, rfl⟩
              rw [e1] at c1 hset; rw [e2] at c2 hset
              have HS := Lib.hid hset
              clear hset e1 e2
              go_wp2
              refine wp_region_still_tail 11 (by kernel_rfl) (by kernel_rfl) ?_
              simp only [List.take_succ_cons, List.take_zero, List.drop_succ_cons, List.drop_zero]
              change wpStill _ _ wr.drew (fun a' => wpList _ _ _ _ a' wr.drew) _ _
              have hG2 : w.grownBy wr.drew (some bs) := ⟨hG.os, hG.tape, hG.output, hG.size, hG.block⟩
              have hs2 : Row wr.drew bs 77 (cellsU (addTo s v k)) := hs'
              have hv2 : Row wr.drew wa.heap.size 77 (cellsU v.list) := hv
              have d1 : wr.drew.cell? ⟨bs, k, none⟩ = some (.int .u32 (V x1)) := c1
              have d2 : wr.drew.cell? ⟨wa.heap.size, k, none⟩ = some (.int .u32 (V x2)) := c2
              have d3 : wr.drew.frozen? ⟨bs, k, none⟩ = false := f1
              clear c1 c2 f1 hG hs' hv
              generalize wr.drew = w2 at *
              have l8 : (k : Int) < 8 := by omega
              repeat still_step
              refine wpStill_nil ?_
              clear l8
              go_wp2
              go_roundw
              case rel =>
                (repeat apply Exists.intro)
                refine ⟨?_, rfl⟩
                exact ⟨k + 1, by omega, by go_num, grown_setCell hG2 _ _, by have := hs2.setU k (x1 + x2); rwa [HS.out] at this, hv2.other _ _ hne⟩
              case measure => simp [intOf]; omega
            · obtain rfl : k = 8 := by omega
              go_wp2
              go_end0
              refine ⟨rfl, hG, ?_⟩
              rw [EV.out]; exact hs'
end Go.Proofs.YteogcilnpkaplaaDoor

namespace Go.Proofs.YteogcilnpkaplaaDoor
open Go.RowKit
/-- A slice value that reads as these bytes, which lie in no block that is shut out. -/
def Bytes (w : World) (v : Value) (l : List UInt8) (ok : Nat → Prop) : Prop :=
  ∃ a cap, v = .slice a l.length cap ∧ l.length ≤ cap ∧ cap ≤ 9223372036854775807 ∧ ((l = [] ∧ (a = none → cap = 0)) ∨ ∃ b off, a = some ⟨b, off, none⟩ ∧ ok b ∧ BytesAt w b off l)
def lenOf : Value → Nat | .slice _ n _ => n | _ => 0
theorem grown_bytesAt {w w' : World} {bs b off : Nat} {l : List UInt8} (h : BytesAt w b off l) (hg : w.grownBy w' (some bs)) (hne : b ≠ bs) : BytesAt w' b off l := fun i hi => by
  have hb : b < w.heap.size := block_lt_of_cell (h i hi)
  rw [World.cell?_of_block (w := w) (hg.block b hb (fun e => hne (Option.some.inj e)))]; exact h i hi
theorem grown_KFact {w w' : World} {bs : Nat} (h : KFact w) (hg : w.grownBy w' (some bs)) (hne : 1 ≠ bs) : KFact w' := fun t ht => by
  rw [World.cell?_of_block (w := w) (hg.block 1 h.lt (fun e => hne (Option.some.inj e)))]; exact h t ht
theorem grown_trans {w w1 w2 : World} {r : Option Nat} (h : w.grownBy w1 r) (k : w1.grownBy w2 r) : w.grownBy w2 r :=
  ⟨k.os.trans h.os, k.tape.trans h.tape, k.output.trans h.output, Nat.le_trans h.size k.size, fun i hi hne => (k.block i (Nat.lt_of_lt_of_le hi h.size) hne).trans (h.block i hi hne)⟩
theorem grown_refl (w : World) (r : Option Nat) : w.grownBy w r := ⟨rfl, rfl, rfl, Nat.le_refl _, fun _ _ _ => rfl⟩
theorem BytesAt.take {w : World} {b off : Nat} {l : List UInt8} (h : BytesAt w b off l) (n : Nat) : BytesAt w b off (l.take n) := fun i hi => by
  rw [List.length_take] at hi
  rw [h i (by omega)]; unfold by8
  rw [List.getD_eq_getElem?_getD, List.getD_eq_getElem?_getD, List.getElem?_take, if_pos (by omega)]
theorem BytesAt.drop {w : World} {b off : Nat} {l : List UInt8} (h : BytesAt w b off l) (n : Nat) : BytesAt w b (off + n) (l.drop n) := fun i hi => by
  rw [List.length_drop] at hi
  rw [Nat.add_assoc, h (n + i) (by omega)]; unfold by8
  rw [List.getD_eq_getElem?_getD, List.getD_eq_getElem?_getD, List.getElem?_drop]
theorem blocks_succ (n : Nat) (s : St) (b : List UInt8) : blocks (n + 1) s b = compress (blocks n s b) ((b.drop (64 * n)).take 64) := by
  induction n generalizing s b with
  | zero => simp [blocks]
  | succ n ih =>
    rw [blocks, ih, List.drop_drop, ← blocks]
    rw [show 64 + 64 * n = 64 * (n + 1) by omega]
set_option maxHeartbeats 400000 in
theorem each_any (s : St) (l : List UInt8) (v : Value) (bs : Nat) (w : World) (hv : Bytes w v l (· ≠ bs)) (hs : Row w bs 77 (cellsU s.list)) (hK : KFact w) (hk : 1 ≠ bs) :
    Calls Tryd.prog 60 #[v, .func (.func 58) #[.pointer (some ⟨bs, 0, none⟩)] #[]] w
      fun e w' => ∃ v', e = .returned v' ∧ Bytes w' v' (l.drop (64 * (l.length / 64))) (· ≠ bs) ∧ w.grownBy w' (some bs) ∧ Row w' bs 77 (cellsU (blocks (l.length / 64) s l).list) := by
  obtain ⟨a0, cap0, rfl, hc0, hc1, ha⟩ := hv
  go_enter Tryd.func60, Tryd.ntmps60
  go_wp2
  go_loopw [0] (fun v wr => ∃ m : Nat, 64 * m ≤ l.length ∧ Bytes wr v (l.drop (64 * m)) (· ≠ bs) ∧ w.grownBy wr (some bs) ∧ Row wr bs 77 (cellsU (blocks m s l).list)) (fun v _ => lenOf v)
  case atStart => exact ⟨0, by omega, ⟨_, _, rfl, hc0, hc1, ha⟩, grown_refl _ _, hs⟩
  case round =>
    clear ha hc0 hc1
    obtain ⟨m, hm, ⟨a, cap, rfl, hc0, hc1, ha⟩, hG, hs'⟩ := hrel
    have hlen : (l.drop (64 * m)).length = l.length - 64 * m := List.length_drop
    by_cases hlt : 64 ≤ (l.drop (64 * m)).length
    · rcases ha with ⟨ha, _⟩ | ⟨b, off, rfl, hne, hb⟩
      · rw [ha] at hlt; simp at hlt
      · obtain ⟨n, hn⟩ : ∃ n, (l.drop (64 * m)).length = n := ⟨_, rfl⟩
        rw [hn] at hlt hc0 ⊢
        have HN := Lib.hid hn
        have HL := Lib.hid hlen
        clear hn hlen
        have hKr := grown_KFact hK hG hk
        have hblk := hb.take 64
        have hblen : ((l.drop (64 * m)).take 64).length = 64 := by rw [List.length_take]; have := HN.out; omega
        have hdd : (l.drop (64 * m)).drop 64 = l.drop (64 * (m + 1)) := by rw [List.drop_drop, show 64 * m + 64 = 64 * (m + 1) by omega]
        have hdl : (l.drop (64 * (m + 1))).length = n - 64 := by rw [← hdd, List.length_drop, HN.out]
        have hm1 : 64 * (m + 1) ≤ l.length := by have := HN.out; have := HL.out; omega
        have HD := Lib.hid hdl
        have HDD := Lib.hid hdd
        have HB := Lib.hid hblen
        have HS := Lib.hid (blocks_succ m s l)
        clear hdl hdd hblen
        by_cases hcp : cap = 64
        · subst hcp
          obtain rfl : n = 64 := by omega
          go_wp2_with fail
          refine (block_any (blocks m s l) _ bs b off 64 _ HB.out (by omega) hc1 hs' hblk hKr).mono ?_
          rintro e w1 ⟨rfl, hg1, hs1⟩
          go_wp2
          go_roundw
          case rel =>
            refine ⟨m + 1, hm1, ⟨_, _, by rw [HD.out], by rw [HD.out]; omega, by omega, .inl ⟨List.eq_nil_of_length_eq_zero (by rw [HD.out]), fun h => by cases h⟩⟩, grown_trans hG hg1, by rw [HS.out]; exact hs1⟩
          case measure => simp [lenOf]
        · go_wp2_with fail
          refine (block_any (blocks m s l) _ bs b off cap _ HB.out (by omega) hc1 hs' hblk hKr).mono ?_
          rintro e w1 ⟨rfl, hg1, hs1⟩
          go_wp2
          go_roundw
          case rel =>
            refine ⟨m + 1, hm1, ⟨_, _, by rw [HD.out], by rw [HD.out]; omega, by omega, .inr ⟨b, off + 64, rfl, hne, ?_⟩⟩, grown_trans hG hg1, by rw [HS.out]; exact hs1⟩
            rw [← HDD.out]; exact grown_bytesAt (hb.drop 64) hg1 hne
          case measure => simp [lenOf]; omega
    · obtain ⟨n, hn⟩ : ∃ n, (l.drop (64 * m)).length = n := ⟨_, rfl⟩
      have HE : Hid (m = l.length / 64) := by show m = _; omega
      rw [hn] at hlt hc0 ⊢
      have HN := Lib.hid hn
      clear hn hlen
      go_wp2
      go_ret
      refine ⟨_, rfl, ?_, hG, ?_⟩
      · rw [← HE.out]; exact ⟨a, cap, by rw [HN.out]; rfl, by rw [HN.out]; exact hc0, hc1, ha⟩
      · rw [← HE.out]; exact hs'
end Go.Proofs.YteogcilnpkaplaaDoor

namespace Go.Proofs.YteogcilnpkaplaaDoor
open Go.RowKit
theorem Tryd.underB : Tryd.prog.underlying 22 = some (.slice 5) := by kernel_rfl
theorem Tryd.infoB : (Tryd.prog.info? 5).map (fun i => (i.zero, i.size, i.bytes)) = some (some (.int .u8 0), 1, 1) := by kernel_rfl
/-- A slice of the call's own that holds these bytes. -/
def OwnB (w : World) (base : Nat) (v : Value) (xs : List UInt8) : Prop := w.ownsRow base 5 1 v xs.length (xs.map B8)
theorem OwnB.bytes {w : World} {base : Nat} {v : Value} {xs : List UInt8} (h : OwnB w base v xs) (ok : Nat → Prop) (hok : ∀ b, base ≤ b → ok b) : Bytes w v xs ok := by
  obtain ⟨_, ⟨rfl, hn⟩ | ⟨g, cap, cur, rfl, hg, hh, hn, hc, hsz, htk⟩⟩ := h
  · have : xs = [] := List.eq_nil_of_length_eq_zero hn
    subst this
    exact ⟨none, 0, rfl, Nat.le_refl _, by decide, .inl ⟨rfl, fun _ => rfl⟩⟩
  · refine ⟨some ⟨g, 0, none⟩, cap, rfl, hn, by unfold maxLen at hc; exact hc, .inr ⟨g, 0, rfl, hok g hg, fun i hi => ?_⟩⟩
    rw [Nat.zero_add, cell_of_row w g i cur _ _ hh]
    have h1 : cur.toList[i]? = (xs.map B8)[i]? := by
      rw [← htk, List.getElem?_take, if_pos (by omega)]
    rw [← Array.getElem?_toList, h1]
    simp [hi, by8, B8]
theorem OwnB.nil (w : World) (base : Nat) : OwnB w base (.slice none 0 0) [] := World.ownsRow_nil w base _ _
theorem OwnB.below {w w' : World} {base : Nat} {v : Value} {xs : List UInt8} (h : OwnB w base v xs) (hb : ∀ b, base ≤ b → b < w.heap.size → w'.heap[b]? = w.heap[b]?) : OwnB w' base v xs := by
  obtain ⟨h1, h2 | ⟨g, cap, cur, rfl, hg, hh, r⟩⟩ := h
  · exact ⟨h1, .inl h2⟩
  · exact ⟨h1, .inr ⟨g, cap, cur, rfl, hg, (hb g hg (Array.getElem?_eq_some_iff.1 hh).1).trans hh, r⟩⟩
theorem OwnB.ownBlock {w : World} {base : Nat} {v : Value} {xs : List UInt8} (h : OwnB w base v xs) (k : Nat) (hk : v.ownBlock = some k) : base ≤ k := by
  obtain ⟨_, ⟨rfl, _⟩ | ⟨g, cap, cur, rfl, hg, _⟩⟩ := h
  · cases hk
  · cases hk; exact hg
theorem OwnB.alloc {w : World} {base : Nat} {v : Value} {xs : List UInt8} (h : OwnB w base v xs) (o : Obj) : OwnB (w.alloc o) base v xs :=
  h.below fun b _ hb => Below.heap_alloc w o b hb
theorem OwnB.form {w : World} {base : Nat} {v : Value} {xs : List UInt8} (h : OwnB w base v xs) (hx : 0 < xs.length) : ∃ g cap, v = .slice (some ⟨g, 0, none⟩) xs.length cap ∧ base ≤ g := by
  obtain ⟨_, ⟨_, hn⟩ | ⟨g, cap, cur, rfl, hg, _⟩⟩ := h
  · omega
  · exact ⟨g, cap, rfl, hg⟩
theorem one_byte (w : World) (x : UInt8) (c : Int) (hc : c = Y x) : Bytes (w.alloc (.cells #[.int .u8 c] 5)) (.slice (some ⟨w.heap.size, 0, none⟩) 1 1) [x] (fun _ => True) := by
  subst hc
  exact ⟨_, _, rfl, Nat.le_refl _, by decide, .inr ⟨w.heap.size, 0, rfl, trivial, fun i hi => by
    have : i = 0 := by simpa using hi
    subst this
    exact (Row.new w (cellsB [x]) 5).byte 0 (by simp)⟩⟩
theorem wpList_append_bytes {w : World} {ops : Array Oper} {rest : List Oper} {o : Oper} {a : Act} {Q : Exit → Act → World → Prop} (hgd : o.guard = none) (s x : Operand)
    (ho : o.op = .call { callee := .builtin .append, args := #[s, x], argTypes := #[22, 22] })
    (base : Nat) (v u : Value) (xs ys : List UInt8) (ok : Nat → Prop) (hs : a.eval s = v) (hown : OwnB w base v xs) (hx : a.eval x = u) (hsrc : Bytes w u ys ok)
    (hlen : xs.length + ys.length ≤ 70368744177664) (hbase : base ≤ w.heap.size)
    (h : ∀ v' w', OwnB w' base v' (xs ++ ys) → w.grownBy w' v.ownBlock → wpList Tryd.prog ops Q rest (a.put o.dst v') w') : wpList Tryd.prog ops Q (o :: rest) a w := by
  obtain ⟨i0, hi, hz0, hz1, hz2⟩ := info_parts Tryd.infoB
  obtain ⟨ad, cap, rfl, hc0, hc1, ha⟩ := hsrc
  cases ad with
  | none =>
    rcases ha with ⟨rfl, hcap⟩ | ⟨b, off, hb, _⟩
    · obtain rfl := hcap rfl
      exact wpList_append_own_none hgd s x 22 ho base 5 i0 1 Tryd.underB hi v xs.length (xs.map B8) hs hown hx (h v w (by rw [List.append_nil]; exact hown) (grown_refl _ _))
    · cases hb
  | some ad =>
    refine wpList_append_own w hgd s x 22 ho base 5 i0 (.int .u8 0) 1 1 Tryd.underB hi hz0 hz1 hz2 rfl (by decide) v xs.length (xs.map B8) hs hown ad ys.length cap (ys.map B8) hx (by simp) ?_ ?_ ?_ ?_ hbase ?_
    · intro j z hz
      rcases ha with ⟨rfl, _⟩ | ⟨b, off, hb, _, hat⟩
      · simp at hz
      · cases hb
        have hj : j < ys.length := by
          rcases Nat.lt_or_ge j ys.length with h' | h'
          · exact h'
          · rw [List.getElem?_eq_none (by simpa using h')] at hz; cases hz
        have hadd : (⟨b, off, none⟩ : Addr).add j = ⟨b, off + j, none⟩ := by unfold Addr.add; split <;> simp_all
        rw [hadd, hat j hj]
        rw [← hz]; simp [hj, by8, B8]
    · intro z hz
      obtain ⟨y, _, rfl⟩ := List.mem_map.1 hz
      rfl
    · unfold maxLen; omega
    · omega
    · intro v' w' h1 h2 _
      exact h v' w' (by unfold OwnB; rw [List.length_append, List.map_append]; exact h1) h2
set_option maxHeartbeats 400000 in
theorem clone_any (l : List UInt8) (v : Value) (ok : Nat → Prop) (w : World) (hv : Bytes w v l ok) (hl : l.length ≤ 70368744177664) :
    Calls Tryd.prog 59 #[v] w fun e w' => ∃ v', e = .returned v' ∧ OwnB w' w.heap.size v' l ∧ Below w.heap.size w w' := by
  obtain ⟨ad, cap, rfl, hc0, hc1, ha⟩ := hv
  have hnil := fun (a : Option Addr) (n c : Nat) (w : World) => Lib.run_eql_slice_nil (P := Tryd.prog) w 22 5 a n c 0 0 Tryd.underB
  cases ad with
  | none =>
    rcases ha with ⟨rfl, hcap⟩ | ⟨b, off, hb, _⟩
    · obtain rfl := hcap rfl
      go_enter Tryd.func59, Tryd.ntmps59
      go_wp2
      go_ret
      exact ⟨_, rfl, OwnB.nil _ _, Below.refl _ _⟩
    · cases hb
  | some ad =>
    have hsrc : ∀ o : Obj, Bytes (w.alloc o) (.slice (some ad) l.length cap) l ok := fun o => ⟨_, _, rfl, hc0, hc1, by
      rcases ha with ⟨rfl, _⟩ | ⟨b, off, hb, hok, hat⟩
      · exact .inl ⟨rfl, fun h => by cases h⟩
      · exact .inr ⟨b, off, hb, hok, fun i hi => by
          have h := hat i hi
          rw [World.cell?_alloc_lt w o ⟨b, off + i, none⟩ (block_lt_of_cell h)]; exact h⟩⟩
    have hown : OwnB (w.alloc (.cells #[] 5)) w.heap.size (.slice (some ⟨w.heap.size, 0, none⟩) 0 0) [] :=
      ⟨rfl, .inr ⟨w.heap.size, 0, #[], rfl, Nat.le_refl _, heap_alloc_new w _, Nat.le_refl _, by decide, rfl, rfl⟩⟩
    go_enter Tryd.func59, Tryd.ntmps59
    go_wp2_with (at_builtin; refine wpList_append_bytes rfl (.tmp 5) (.tmp 6) rfl w.heap.size _ _ [] l ok rfl hown rfl (hsrc _) (by simp; omega) (by simp) ?_; intro v' w1 h1 h2)
    go_ret
    refine ⟨_, rfl, h1, ((Below.refl _ _).alloc (Nat.le_refl _) _).grown h2 (by simp) (fun k hk => ?_)⟩
    exact hown.ownBlock k hk
end Go.Proofs.YteogcilnpkaplaaDoor

namespace Go.Proofs.YteogcilnpkaplaaDoor
open Go.RowKit
theorem strCells_eq (s : ByteArray) : Lib.strCells s = s.data.toList.map B8 := rfl
theorem OwnB.fresh (w : World) (l : List UInt8) (hl : l.length ≤ 1000) : OwnB (w.alloc (.cells (cellsB l) 5)) w.heap.size (.slice (some ⟨w.heap.size, 0, none⟩) l.length l.length) l :=
  ⟨by simp, .inr ⟨w.heap.size, l.length, cellsB l, rfl, Nat.le_refl _, heap_alloc_new w _, Nat.le_refl _, by unfold maxLen; omega, by simp [cellsB], by rw [List.take_of_length_le (by simp [cellsB])]; rfl⟩⟩
theorem wpList_append_str {w : World} {ops : Array Oper} {rest : List Oper} {o : Oper} {a : Act} {Q : Exit → Act → World → Prop} (hgd : o.guard = none) (sl x : Operand)
    (ho : o.op = .call { callee := .builtin .append, args := #[sl, x], argTypes := #[22, 9] })
    (base : Nat) (v : Value) (xs : List UInt8) (s : ByteArray) (hs : a.eval sl = v) (hown : OwnB w base v xs) (hx : a.eval x = .string s)
    (hlen : xs.length + s.size ≤ 70368744177664) (hbase : base ≤ w.heap.size)
    (h : ∀ v' w', OwnB w' base v' (xs ++ s.data.toList) → w.grownBy w' v.ownBlock → wpList Tryd.prog ops Q rest (a.put o.dst v') w') : wpList Tryd.prog ops Q (o :: rest) a w := by
  obtain ⟨i0, hi, hz0, hz1, hz2⟩ := info_parts Tryd.infoB
  refine Lib.wpList_append_own_string w hgd sl x 22 9 ho base 5 i0 Tryd.underB (by kernel_rfl) hi hz0 hz1 hz2 v xs.length (xs.map B8) hs hown s hx (by unfold maxLen; omega) (by omega) hbase ?_
  intro v' w' h1 h2 _
  refine h v' w' ?_ h2
  unfold OwnB
  rw [List.length_append, List.map_append, ← strCells_eq]
  exact h1
end Go.Proofs.YteogcilnpkaplaaDoor

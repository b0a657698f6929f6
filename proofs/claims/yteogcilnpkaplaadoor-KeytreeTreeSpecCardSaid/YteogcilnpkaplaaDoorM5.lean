/- Merged: the reference of SHA-256 returns what the plain functions say. No conditions of its own beyond those that each law states. -/
import Derived.Test.YteogcilnpkaplaaDoorM1
import Derived.Test.YteogcilnpkaplaaDoorM2
import Derived.BigQuiet
import Derived.Test.YteogcilnpkaplaaDoorProg
import Derived.Test.YteogcilnpkaplaaDoorM3
namespace Go.Proofs.YteogcilnpkaplaaDoor
open Go.RowKit
theorem or_shift (X c : Int) (i : Nat) (h0 : 0 ≤ X) (h1 : X * 2 ^ i < 4294967296) (h2 : 0 ≤ c) (h3 : c < 2 ^ i) (hi : i ≤ 32) : bits .or .u32 (X * 2 ^ i) c = X * 2 ^ i + c := by
  obtain ⟨x, rfl⟩ := Int.eq_ofNat_of_zero_le h0
  obtain ⟨d, rfl⟩ := Int.eq_ofNat_of_zero_le h2
  have e : (x : Int) * 2 ^ i = ((x * 2 ^ i : Nat) : Int) := by simp
  rw [e] at h1
  have hx : x * 2 ^ i < 2 ^ 32 := by have : (4294967296 : Int) = ((2 ^ 32 : Nat) : Int) := rfl; rw [this] at h1; exact Int.ofNat_lt.1 h1
  have hdi : d < 2 ^ i := by have e2 : (2 : Int) ^ i = ((2 ^ i : Nat) : Int) := by simp
                             rw [e2] at h3; exact Int.ofNat_lt.1 h3
  have hd : d < 2 ^ 32 := Nat.lt_of_lt_of_le hdi (Nat.pow_le_pow_right (by decide) hi)
  rw [e]
  have e1 : ((x * 2 ^ i : Nat) : Int) = V (BitVec.ofNat 32 (x * 2 ^ i)) := by unfold V; rw [BitVec.toNat_ofNat, Nat.mod_eq_of_lt hx]
  have e2 : ((d : Nat) : Int) = V (BitVec.ofNat 32 d) := by unfold V; rw [BitVec.toNat_ofNat, Nat.mod_eq_of_lt hd]
  rw [e1, e2, bitsV_or]
  unfold V
  rw [BitVec.toNat_or, BitVec.toNat_ofNat, BitVec.toNat_ofNat, Nat.mod_eq_of_lt hx, Nat.mod_eq_of_lt hd]
  have := Nat.shiftLeft_add_eq_or_of_lt hdi x
  rw [Nat.shiftLeft_eq] at this
  rw [← this, Int.natCast_add]
theorem word_or (l : List UInt8) (i : Nat) : bits .or .u32 (bits .or .u32 (bits .or .u32 (by8 l (4 * i) * 16777216) (by8 l (4 * i + 1) * 65536)) (by8 l (4 * i + 2) * 256)) (by8 l (4 * i + 3)) = V (wordAt l i) := by
  have b0 := by8_bd l (4 * i)
  have b1 := by8_bd l (4 * i + 1)
  have b2 := by8_bd l (4 * i + 2)
  have b3 := by8_bd l (4 * i + 3)
  rw [← wpart_four]
  simp only [wpart, Nat.add_zero]
  generalize by8 l (4 * i) = a at *
  generalize by8 l (4 * i + 1) = b at *
  generalize by8 l (4 * i + 2) = c at *
  generalize by8 l (4 * i + 3) = d at *
  have s1 : bits .or .u32 (a * 16777216) (b * 65536) = (a * 256 + b) * 65536 := (or_shift a (b * 65536) 24 b0.1 (by omega) (by omega) (by omega) (by decide)).trans (by omega)
  have s2 : bits .or .u32 ((a * 256 + b) * 65536) (c * 256) = ((a * 256 + b) * 256 + c) * 256 := (or_shift (a * 256 + b) (c * 256) 16 (by omega) (by omega) (by omega) (by omega) (by decide)).trans (by omega)
  have s3 : bits .or .u32 (((a * 256 + b) * 256 + c) * 256) d = ((a * 256 + b) * 256 + c) * 256 + d := or_shift ((a * 256 + b) * 256 + c) d 8 (by omega) (by omega) (by omega) (by omega) (by decide)
  rw [s1, s2, s3]; omega
set_option maxHeartbeats 400000 in
theorem rword_any (l : List UInt8) (b off n cap i : Nat) (w : World) (hl : 4 ≤ n) (_hcap : n ≤ cap) (_hcm : cap ≤ 9223372036854775807)
    (hc : ∀ j, j < 4 → w.cell? ⟨b, off + j, none⟩ = some (.int .u8 (by8 l (4 * i + j)))) : Calls Tryd.prog 75 #[.slice (some ⟨b, off, none⟩) n cap] w
      fun e w' => e = .returned (.int .u32 (V (wordAt l i))) ∧ ∃ m, w' = w.drewN m := by
  have h0 : w.cell? ⟨b, off, none⟩ = some (.int .u8 (by8 l (4 * i))) := hc 0 (by omega)
  have h1 := hc 1 (by omega)
  have h2 := hc 2 (by omega)
  have h3 := hc 3 (by omega)
  have b0 := by8_bd l (4 * i)
  have b1 := by8_bd l (4 * i + 1)
  have b2 := by8_bd l (4 * i + 2)
  have b3 := by8_bd l (4 * i + 3)
  have hw := Lib.hid (word_or l i)
  clear hc
  go_enter Tryd.func75, Tryd.ntmps75
  go_wp2
  go_quiet (fail)
  go_wp2
  go_ret
  exact ⟨ret_int hw.out, nq, rfl⟩
end Go.Proofs.YteogcilnpkaplaaDoor

namespace Go.Proofs.YteogcilnpkaplaaDoor
open Go.RowKit
set_option maxHeartbeats 400000 in
theorem rotr_still (x : W32) (n : Nat) (h1 : 1 ≤ n) (h2 : n ≤ 31) (w : World) :
    Calls Tryd.prog 74 #[.int .u32 (V x), .int .u64 (n : Int)] w fun e w' => e = .returned (.int .u32 (V (rorW x n))) ∧ w' = w := by
  have hv := V_bd x
  have hr : bits .or .u32 (V x / 2 ^ n) (V x * 2 ^ (32 - n) % 4294967296) = V (rorW x n) := by rw [shlV, shrV, bitsV_or]; rfl
  go_enter Tryd.func74, Tryd.ntmps74
  go_wp2
  go_ret
  exact ⟨rfl, rfl⟩
theorem rotr_int (x : W32) (n : Int) (h1 : 1 ≤ n) (h2 : n ≤ 31) (w : World) :
    Calls Tryd.prog 74 #[.int .u32 (V x), .int .u64 n] w fun e w' => e = .returned (.int .u32 (V (rorW x n.toNat))) ∧ w' = w := by
  have h := rotr_still x n.toNat (by omega) (by omega) w
  rwa [show ((n.toNat : Nat) : Int) = n by omega] at h
end Go.Proofs.YteogcilnpkaplaaDoor

namespace Go.Proofs.YteogcilnpkaplaaDoor
open Go.RowKit
attribute [local go_sem] wrapV_add addV bitsV_xor bitsV_and bitsV_or shrV_3 shrV_10
theorem Tryd.under64 : Tryd.prog.underlying 90 = some (.array 64 75) := by kernel_rfl
theorem Tryd.size64 : (Tryd.prog.info? 90).map (·.size) = some 64 := by kernel_rfl
theorem next_alt (a b c d : W32) : sg1 a + b + sg0 c + d = d + b + sg0 c + sg1 a := by ac_rfl
set_option maxRecDepth 100000 in
set_option maxHeartbeats 1000000 in
theorem schedule_any (blk : List UInt8) (b off cap : Nat) (w : World) (hl : blk.length = 64) (hcap : 64 ≤ cap) (hcm : cap ≤ 9223372036854775807) (hc : BytesAt w b off blk) :
    Calls Tryd.prog 73 #[.slice (some ⟨b, off, none⟩) 64 cap] w
      fun e w' => e = .returned (.agg (cellsU (wFull blk))) ∧ Below w.heap.size w w' := by
  have HL := Lib.hid hl
  have hl64 : 64 ≤ blk.length := by omega
  clear hl
  have hbl : b < w.heap.size := block_lt_of_cell (hc 0 (by omega))
  have hnew : Row ((w.alloc (.cells (cellsU (List.replicate 64 0)) 90)).alloc (.cells (cellsU (List.replicate 64 0)) 90)) (w.heap.size + 1) 90 (cellsU (wRow blk 0)) := by
    have h := Row.new (w.alloc (.cells (cellsU (List.replicate 64 0)) 90)) (cellsU (wRow blk 0)) 90
    rwa [show (w.alloc (.cells (cellsU (List.replicate 64 0)) 90)).heap.size = w.heap.size + 1 by simp] at h
  have hres : Row ((w.alloc (.cells (cellsU (List.replicate 64 0)) 90)).alloc (.cells (cellsU (List.replicate 64 0)) 90)) w.heap.size 90 (cellsU (List.replicate 64 0)) := (Row.new w _ _).alloc _
  have hb2 : Below w.heap.size w ((w.alloc (.cells (cellsU (List.replicate 64 0)) 90)).alloc (.cells (cellsU (List.replicate 64 0)) 90)) := ((Below.refl _ _).alloc (Nat.le_refl _) _).alloc (by simp) _
  go_enter Tryd.func73, Tryd.ntmps73
  go_wp2
  go_loopw [4] (fun t wr => ∃ k : Nat, k ≤ 16 ∧ t = .int .i64 (k : Int) ∧ Below w.heap.size w wr ∧ Row wr w.heap.size 90 (cellsU (List.replicate 64 0)) ∧ Row wr (w.heap.size + 1) 90 (cellsU (wRow blk k))) (fun t _ => 16 - (intOf t).toNat)
  case atStart => exact ⟨0, by omega, rfl, hb2, hres, hnew⟩
  case round =>
    clear hb2 hres hnew
    obtain ⟨k, hk, rfl, hB, hres, hrow⟩ := hrel
    have hcr : BytesAt wr b off blk := fun i hi => (hB.cell (p := ⟨b, off + i, none⟩) hbl).trans (hc i hi)
    by_cases hlt : k < 16
    · have hcell := hrow.word k (by rw [wRow_len _ _ (by omega)]; omega)
      have hfree := hrow.free k
      have hc4 : ∀ j, j < 4 → wr.cell? ⟨b, off + 4 * k + j, none⟩ = some (.int .u8 (by8 blk (4 * k + j))) := fun j hj => by
        rw [Nat.add_assoc]; exact hcr _ (by omega)
      go_wp2_with (go_at_call 75; refine (rword_any blk b (off + 4 * k) (64 - 4 * k) (cap - 4 * k) k _ (by omega) (by omega) (by omega) hc4).mono ?_; rintro e w' ⟨rfl, m, rfl⟩)
      have hB2 : Below w.heap.size w (wr.drewN m) := Below.of_drewN hB m
      have hres2 : Row (wr.drewN m) w.heap.size 90 (cellsU (List.replicate 64 0)) := hres
      have hset : Row ((wr.drewN m).setCell ⟨w.heap.size + 1, k, none⟩ (.int .u32 (V (wordAt blk k)))) (w.heap.size + 1) 90 (cellsU (wRow blk (k + 1))) := by
        have h := (show Row (wr.drewN m) (w.heap.size + 1) 90 (cellsU (wRow blk k)) from hrow).setU k (wordAt blk k)
        rwa [wRow_set _ _ (by omega) _ (by rw [if_pos hlt])] at h
      go_roundw
      case rel => exact ⟨k + 1, by omega, by go_num, hB2.setCell (by simp) _, hres2.other _ _ (by simp), hset⟩
      case measure => simp [intOf]; omega
    · obtain rfl : k = 16 := by omega
      clear hcr
      obtain ⟨wc, ewc⟩ : ∃ wc : World, wr = wc := ⟨_, rfl⟩
      rw [ewc] at hB hres hrow ⊢
      clear ewc
      go_wp2
      go_loopw [5] (fun t wr => ∃ k : Nat, 16 ≤ k ∧ k ≤ 64 ∧ t = .int .i64 (k : Int) ∧ Below w.heap.size w wr ∧ Row wr w.heap.size 90 (cellsU (List.replicate 64 0)) ∧ Row wr (w.heap.size + 1) 90 (cellsU (wRow blk k))) (fun t _ => 64 - (intOf t).toNat)
      case atStart => exact ⟨16, by omega, by omega, rfl, hB, hres, hrow⟩
      case round =>
        clear hB hres hrow
        obtain ⟨k, h16, hk, rfl, hB, hres, hrow⟩ := hrel
        by_cases hlt : k < 64
        · have hlen := wRow_len blk k hk
          have c15 := hrow.word (k - 15) (by omega)
          have c2 := hrow.word (k - 2) (by omega)
          have c16 := hrow.word (k - 16) (by omega)
          have c7 := hrow.word (k - 7) (by omega)
          rw [wRow_get _ _ _ (by omega)] at c15 c2 c16 c7
          clear hlen
          obtain ⟨p15, e15⟩ : ∃ x, (wSched blk k).getD (k - 15) 0 = x := ⟨_, rfl⟩
          obtain ⟨p2, e2⟩ : ∃ x, (wSched blk k).getD (k - 2) 0 = x := ⟨_, rfl⟩
          obtain ⟨p16, e16⟩ : ∃ x, (wSched blk k).getD (k - 16) 0 = x := ⟨_, rfl⟩
          obtain ⟨p7, e7⟩ : ∃ x, (wSched blk k).getD (k - 7) 0 = x := ⟨_, rfl⟩
          rw [e15] at c15; rw [e2] at c2; rw [e16] at c16; rw [e7] at c7
          have E15 := Lib.hid e15; have E2 := Lib.hid e2; have E16 := Lib.hid e16; have E7 := Lib.hid e7
          clear e15 e2 e16 e7
          have B15 := V_bd p15
          have B2 := V_bd p2
          go_wp2
          go_quiet (fail)
          go_wp2_with (go_at_call 74; refine (rotr_int _ _ (by decide) (by decide) _).mono ?_; rintro e w' ⟨rfl, rfl⟩)
          refine wp_region_still_tail 15 (by kernel_rfl) (by kernel_rfl) ?_
          simp only [List.take_succ_cons, List.take_zero, List.drop_succ_cons, List.drop_zero]
          change wpStill _ _ (wr.drewN nq).drew (fun a' => wpList _ _ _ _ a' (wr.drewN nq).drew) _ _
          have hB2 : Below w.heap.size w (wr.drewN nq).drew := ⟨hB.os, hB.tape, hB.output, hB.size, hB.block⟩
          have hres2 : Row (wr.drewN nq).drew w.heap.size 90 (cellsU (List.replicate 64 0)) := hres
          have hrow2 : Row (wr.drewN nq).drew (w.heap.size + 1) 90 (cellsU (wRow blk k)) := hrow
          have d16 : (wr.drewN nq).drew.cell? ⟨w.heap.size + 1, k - 16, none⟩ = some (.int .u32 (V p16)) := c16
          have d7 : (wr.drewN nq).drew.cell? ⟨w.heap.size + 1, k - 7, none⟩ = some (.int .u32 (V p7)) := c7
          have d0 := hrow2.word k (by rw [wRow_len _ _ hk]; exact hlt)
          have hfree2 := hrow2.free k
          clear c15 c2 c16 c7 hrow hB hres
          generalize (wr.drewN nq).drew = w2 at *
          have i16 : IntKind.i64.wrap ((k : Int) - 16) = (k : Int) - 16 := IntWalk.i64_in _ (by omega)
          have i7 : IntKind.i64.wrap ((k : Int) - 7) = (k : Int) - 7 := IntWalk.i64_in _ (by omega)
          have j16 : ((k : Int) - 16).toNat = k - 16 := by omega
          have j7 : ((k : Int) - 7).toNat = k - 7 := by omega
          have l16 : (16 : Int) ≤ k := by omega
          have l7 : (7 : Int) ≤ k := by omega
          have m16 : (k : Int) - 16 < 64 := by omega
          have m7 : (k : Int) - 7 < 64 := by omega
          have m0 : (k : Int) < 64 := by omega
          repeat still_step
          refine wpStill_nil ?_
          clear i16 i7 j16 j7 l16 l7 m16 m7 m0
          go_wp2
          have hset := hrow2.setU k ((rorW p2 17 ^^^ rorW p2 19 ^^^ (p2 >>> 10)) + p7 + (rorW p15 7 ^^^ rorW p15 18 ^^^ (p15 >>> 3)) + p16)
          rw [wRow_set _ _ hlt _ (by rw [if_neg (by omega), wNext, E15.out, E2.out, E16.out, E7.out]; exact next_alt _ _ _ _)] at hset
          go_roundw
          case rel =>
            (repeat apply Exists.intro)
            refine ⟨?_, rfl⟩
            exact ⟨k + 1, by omega, by omega, by go_num, hB2.setCell (by simp) _, hres2.other _ _ (by simp), hset⟩
          case measure => simp [intOf]; omega
        · obtain rfl : k = 64 := by omega
          rw [wRow_full _ _ rfl] at hrow
          obtain ⟨wc, ewc⟩ : ∃ wc : World, wr = wc := ⟨_, rfl⟩
          rw [ewc] at hB hres hrow ⊢
          clear ewc
          have hcs : (cellsU (wFull blk)).size = (cellsU (List.replicate 64 0)).size := by rw [cellsU_size, cellsU_size, wFull_len, List.length_replicate]
          have HCS := Lib.hid hcs
          have hsz : (Tryd.prog.info? 90).map (·.size) = some (cellsU (wFull blk)).size := by rw [Tryd.size64, cellsU_size, wFull_len]
          have HSZ := Lib.hid hsz
          clear hcs hsz
          go_wp2_with (first | (refine wpList_load_row rfl 90 (.tmp 3) rfl (w.heap.size + 1) rfl 90 (cellsU (wFull blk)) (0, 0) _ hrow Tryd.under64 rfl HSZ.out ?_) | (refine wpList_store_row rfl 90 (.tmp 2) (.tmp 64) rfl w.heap.size rfl (cellsU (wFull blk)) _ 90 rfl hres HCS.out HSZ.out (cellsU_one _) ?_; intro w9 hg9 hr9 hz9))
          refine bodyPost_ret (v := .agg (cellsU (wFull blk))) (results_cell_row rfl _ _ w.heap.size 90 _ (0, 0) _ rfl hr9 Tryd.under64 rfl HSZ.out) rfl ⟨rfl, ?_⟩
          exact hB.grown hg9 hB.size (fun k hk => by cases hk; omega)
end Go.Proofs.YteogcilnpkaplaaDoor

namespace Go.Proofs.YteogcilnpkaplaaDoor
open Go.RowKit
theorem bitsV_notm (x : W32) : bits .xor .u32 IntKind.u32.max (V x) = V (~~~x) := bitsV_not x
attribute [local go_sem] wrapV_add addV bitsV_xor bitsV_and bitsV_or bitsV_notm shrV_3 shrV_10
theorem Tryd.under8 : Tryd.prog.underlying 76 = some (.array 8 75) := by kernel_rfl
theorem Tryd.size8 : (Tryd.prog.info? 76).map (·.size) = some 8 := by kernel_rfl
theorem St.list_len (s : St) : s.list.length = 8 := rfl
theorem Tryd.sizeSt (s : St) : (Tryd.prog.info? 76).map (·.size) = some (cellsU s.list).size := Tryd.size8
/-- The constants lie in the reference's variable. -/
def RKFact (w : World) : Prop := ∀ t, t < 64 → w.cell? ⟨2, t, none⟩ = some (.int .u32 (V (kW t)))
theorem RKFact.lt {w : World} (h : RKFact w) : 2 < w.heap.size := block_lt_of_cell (h 0 (by omega))
theorem RKFact.below {w w' : World} (h : RKFact w) {n : Nat} (hb : Below n w w') (hn : 2 < n) : RKFact w' := fun t ht => (hb.cell (p := ⟨2, t, none⟩) hn).trans (h t ht)
set_option maxRecDepth 100000 in
set_option maxHeartbeats 1000000 in
theorem rcompress_any (s : St) (blk : List UInt8) (b off cap : Nat) (w : World) (hl : blk.length = 64) (hcap : 64 ≤ cap) (hcm : cap ≤ 9223372036854775807) (hc : BytesAt w b off blk) (hK : RKFact w) :
    Calls Tryd.prog 71 #[.agg (cellsU s.list), .slice (some ⟨b, off, none⟩) 64 cap] w
      fun e w' => e = .returned (.agg (cellsU (compress s blk).list)) ∧ Below w.heap.size w w' := by
  have HL := Lib.hid hl
  have hl0 : 0 < blk.length := by omega
  clear hl
  have hbl : b < w.heap.size := block_lt_of_cell (hc 0 hl0)
  have hklt := hK.lt
  have hb2 : Below w.heap.size w ((w.alloc (.cells (cellsU s.list) 76)).alloc (.cells (cellsU (List.replicate 8 0)) 76)) := ((Below.refl _ _).alloc (Nat.le_refl _) _).alloc (by simp) _
  have hs2 : Row ((w.alloc (.cells (cellsU s.list) 76)).alloc (.cells (cellsU (List.replicate 8 0)) 76)) w.heap.size 76 (cellsU s.list) := (Row.new w _ _).alloc _
  have hr2 : Row ((w.alloc (.cells (cellsU s.list) 76)).alloc (.cells (cellsU (List.replicate 8 0)) 76)) (w.heap.size + 1) 76 (cellsU (List.replicate 8 0)) := by
    have h := Row.new (w.alloc (.cells (cellsU s.list) 76)) (cellsU (List.replicate 8 0)) 76
    rwa [show (w.alloc (.cells (cellsU s.list) 76)).heap.size = w.heap.size + 1 by simp] at h
  have hc2 : BytesAt ((w.alloc (.cells (cellsU s.list) 76)).alloc (.cells (cellsU (List.replicate 8 0)) 76)) b off blk := fun i hi => (hb2.cell (p := ⟨b, off + i, none⟩) hbl).trans (hc i hi)
  have HZS := Lib.hid (Tryd.sizeSt s)
  have HZW : Hid ((Tryd.prog.info? 90).map (·.size) = some (cellsU (wFull blk)).size) := Lib.hid (by rw [Tryd.size64, cellsU_size, wFull_len])
  have HCW : Hid ((cellsU (wFull blk)).size = (cellsU (List.replicate 64 0)).size) := Lib.hid (by rw [cellsU_size, cellsU_size, wFull_len, List.length_replicate])
  have HC8 : Hid ((cellsU s.list).size = (cellsU (List.replicate 8 0)).size) := Lib.hid rfl
  go_enter Tryd.func71, Tryd.ntmps71
  go_wp2_with fail
  refine (schedule_any blk b off cap _ HL.out hcap hcm hc2).mono ?_
  rintro e w3 ⟨rfl, hb3⟩
  have hB3 : Below w.heap.size w w3 := hb2.trans (hb3.mono hb2.size)
  have hs3 := hs2.below hb3 hs2.lt
  have hr3 := hr2.below hb3 hr2.lt
  clear hb2 hs2 hr2 hc2 hb3
  have hlt3 := hr3.lt
  go_wp2_with (first | (refine wpList_store_row rfl 90 (.tmp 5) (.tmp 24) rfl w3.heap.size rfl (cellsU (wFull blk)) (cellsU (List.replicate 64 0)) 90 rfl (Row.new w3 _ _) HCW.out HZW.out (cellsU_one _) ?_; intro w4 hg4 hw4 hz4; have hB4 : Below w.heap.size w w4 := (hB3.alloc hB3.size _).grown hg4 (by have := hB3.size; simp; omega) (fun k hk => by cases hk; exact hB3.size); have hs4 := (hs3.alloc (.cells (cellsU (List.replicate 64 0)) 90)).grown hg4 (fun e => by have := Option.some.inj e; omega); have hr4 := (hr3.alloc (.cells (cellsU (List.replicate 64 0)) 90)).grown hg4 (fun e => by have := Option.some.inj e; omega); clear hs3 hr3 hg4 hz4) | (refine wpList_load_row rfl 76 (.tmp 2) rfl w.heap.size rfl 76 (cellsU s.list) (0, 0) _ hs4 Tryd.under8 rfl HZS.out ?_) | (refine wpList_store_row rfl 76 (.tmp 6) (.tmp 25) rfl w4.heap.size rfl (cellsU s.list) (cellsU (List.replicate 8 0)) 76 rfl (Row.new w4 _ _) HC8.out HZS.out (cellsU_one _) ?_; intro w5 hg5 hv5 hz5))
  have hB5 : Below w.heap.size w w5 := (hB4.alloc hB4.size _).grown hg5 (by have := hB4.size; simp; omega) (fun k hk => by cases hk; exact hB4.size)
  have hltw4 := hw4.lt
  have hlts4 := hs4.lt
  have hltr4 := hr4.lt
  have hW5 := (hw4.alloc (.cells (cellsU (List.replicate 8 0)) 76)).grown hg5 (fun e => by have := Option.some.inj e; omega)
  have hS5 := (hs4.alloc (.cells (cellsU (List.replicate 8 0)) 76)).grown hg5 (fun e => by have := Option.some.inj e; omega)
  have hR5 := (hr4.alloc (.cells (cellsU (List.replicate 8 0)) 76)).grown hg5 (fun e => by have := Option.some.inj e; omega)
  obtain ⟨n5, e5⟩ : ∃ n5, w3.heap.size = n5 := ⟨_, rfl⟩
  obtain ⟨n6, e6⟩ : ∃ n6, w4.heap.size = n6 := ⟨_, rfl⟩
  rw [e5] at hltw4 hlt3 hW5
  rw [e6] at hltw4 hlts4 hltr4 hv5
  rw [e5, e6]
  clear e5 e6 hg5 hw4 hs4 hr4 hB4 hB3 hz5
  go_loopw [7] (fun t wr => ∃ k : Nat, k ≤ 64 ∧ t = .int .i64 (k : Int) ∧ Below w.heap.size w wr ∧ Row wr w.heap.size 76 (cellsU s.list) ∧ Row wr (w.heap.size + 1) 76 (cellsU (List.replicate 8 0)) ∧ Row wr n5 90 (cellsU (wFull blk)) ∧ Row wr n6 76 (cellsU (rnds (wFull blk) s k).list)) (fun t _ => 64 - (intOf t).toNat)
  case atStart => exact ⟨0, by omega, rfl, hB5, hS5, hR5, hW5, hv5⟩
  case round =>
    clear hB5 hS5 hR5 hW5 hv5
    obtain ⟨k, hk, rfl, hB, hs, hr, hrow, hv⟩ := hrel
    by_cases hlt : k < 64
    · obtain ⟨r, er⟩ : ∃ r, rnds (wFull blk) s k = r := ⟨_, rfl⟩
      rw [er] at hv
      have ER := Lib.hid er
      clear er
      have q0 : wr.cell? ⟨n6, 0, none⟩ = some (.int .u32 (V r.a)) := hv.cell 0
      have q1 : wr.cell? ⟨n6, 1, none⟩ = some (.int .u32 (V r.b)) := hv.cell 1
      have q2 : wr.cell? ⟨n6, 2, none⟩ = some (.int .u32 (V r.c)) := hv.cell 2
      have q3 : wr.cell? ⟨n6, 3, none⟩ = some (.int .u32 (V r.d)) := hv.cell 3
      have q4 : wr.cell? ⟨n6, 4, none⟩ = some (.int .u32 (V r.e)) := hv.cell 4
      have q5 : wr.cell? ⟨n6, 5, none⟩ = some (.int .u32 (V r.f)) := hv.cell 5
      have q6 : wr.cell? ⟨n6, 6, none⟩ = some (.int .u32 (V r.g)) := hv.cell 6
      have q7 : wr.cell? ⟨n6, 7, none⟩ = some (.int .u32 (V r.h)) := hv.cell 7
      have cw := hrow.word k (by rw [wFull_len]; exact hlt)
      unfold wd at cw
      have ck : wr.cell? ⟨2, k, none⟩ = some (.int .u32 (V (kW k))) := (hB.cell (p := ⟨2, k, none⟩) hK.lt).trans (hK k hlt)
      obtain ⟨pw, ew⟩ : ∃ x, (wFull blk).getD k 0 = x := ⟨_, rfl⟩
      obtain ⟨pk, ek⟩ : ∃ x, kW k = x := ⟨_, rfl⟩
      rw [ew] at cw; rw [ek] at ck
      have EW := Lib.hid ew
      have EK := Lib.hid ek
      clear ew ek hc hK
      have Ba := V_bd r.a
      have Be := V_bd r.e
      go_wp2
      go_quiet (fail)
      go_wp2_with (go_at_call 74; refine (rotr_int _ _ (by decide) (by decide) _).mono ?_; rintro e w' ⟨rfl, rfl⟩)
      have hB2 : Below w.heap.size w (wr.drewN nq) := Below.of_drewN hB nq
      have hs2 : Row (wr.drewN nq) w.heap.size 76 (cellsU s.list) := hs
      have hr2 : Row (wr.drewN nq) (w.heap.size + 1) 76 (cellsU (List.replicate 8 0)) := hr
      have hrow2 : Row (wr.drewN nq) n5 90 (cellsU (wFull blk)) := hrow
      have hv2 : Row (wr.drewN nq) n6 76 (cellsU r.list) := hv
      have cw2 : (wr.drewN nq).cell? ⟨n5, k, none⟩ = some (.int .u32 (V pw)) := cw
      have ck2 : (wr.drewN nq).cell? ⟨2, k, none⟩ = some (.int .u32 (V pk)) := ck
      clear hB hs hr hrow hv cw ck q0 q1 q2 q3 q4 q5 q6 q7
      generalize wr.drewN nq = w2 at *
      have HCR : Hid ((cellsU (rnd r pk pw).list).size = (cellsU r.list).size) := Lib.hid rfl
      have HZR := Lib.hid (Tryd.sizeSt (rnd r pk pw))
      go_quiet (fail)
      go_wp2_with (first | (go_at_call 74; refine (rotr_int _ _ (by decide) (by decide) _).mono ?_; rintro e w' ⟨rfl, rfl⟩) | (refine wpList_store_row rfl 76 (.tmp 6) (.tmp 109) rfl n6 rfl (cellsU (rnd r pk pw).list) (cellsU r.list) 76 rfl hv2 HCR.out HZR.out (cellsU_one _) ?_; intro w6 hg6 hv6 hz6))
      have hB3 : Below w.heap.size w (w2.drewN nq) := Below.of_drewN hB2 nq
      have hs3 : Row (w2.drewN nq) w.heap.size 76 (cellsU s.list) := hs2
      have hr3 : Row (w2.drewN nq) (w.heap.size + 1) 76 (cellsU (List.replicate 8 0)) := hr2
      have hrow3 : Row (w2.drewN nq) n5 90 (cellsU (wFull blk)) := hrow2
      go_roundw
      case rel =>
        refine ⟨k + 1, by omega, by go_num, hB3.grown hg6 hB3.size (fun k hk => by cases hk; omega), hs3.grown hg6 (fun e => by have := Option.some.inj e; omega), hr3.grown hg6 (fun e => by have := Option.some.inj e; omega), hrow3.grown hg6 (fun e => by have := Option.some.inj e; omega), ?_⟩
        rw [rnds, ER.out, EK.out, EW.out]; exact hv6
      case measure => simp [intOf]; omega
    · obtain rfl : k = 64 := by omega
      obtain ⟨v, ev⟩ : ∃ v, rnds (wFull blk) s 64 = v := ⟨_, rfl⟩
      rw [ev] at hv
      have EV : Hid (compress s blk = s.add v) := by unfold compress; rw [← ev]; unfold wFull; rfl
      clear ev hrow hc hK
      obtain ⟨wb, ewb⟩ : ∃ wb : World, wr = wb := ⟨_, rfl⟩
      rw [ewb] at hB hs hr hv ⊢
      clear ewb
      go_wp2
      go_loopw [22] (fun t wr => ∃ k : Nat, k ≤ 8 ∧ t = .int .i64 (k : Int) ∧ Below w.heap.size w wr ∧ Row wr w.heap.size 76 (cellsU (addTo s v k)) ∧ Row wr (w.heap.size + 1) 76 (cellsU (List.replicate 8 0)) ∧ Row wr n6 76 (cellsU v.list)) (fun t _ => 8 - (intOf t).toNat)
      case atStart => exact ⟨0, by omega, rfl, hB, hs, hr, hv⟩
      case round =>
        clear hB hs hr hv
        obtain ⟨k, hk, rfl, hB, hs, hr, hv⟩ := hrel
        by_cases hlt8 : k < 8
        · have c1 := hs.word k (by rw [addTo_len _ _ _ hlt8]; exact hlt8)
          rw [addTo_get _ _ _ hlt8] at c1
          have c2 := hv.word k hlt8
          unfold wd at c2
          have f1 := hs.free k
          have hset := addTo_set s v k hlt8
          obtain ⟨x1, e1⟩ : ∃ x, s.list.getD k 0 = x := ⟨_, rfl⟩
          obtain ⟨x2, e2⟩ : ∃ x, v.list.getD k 0 = x := ⟨_, rfl⟩
          rw [e1] at c1 hset; rw [e2] at c2 hset
          have HS := Lib.hid hset
          clear hset e1 e2
          go_wp2
          refine wp_region_still_tail 9 (by kernel_rfl) (by kernel_rfl) ?_
          simp only [List.take_succ_cons, List.take_zero, List.drop_succ_cons, List.drop_zero]
          change wpStill _ _ wr.drew (fun a' => wpList _ _ _ _ a' wr.drew) _ _
          have hB2 : Below w.heap.size w wr.drew := ⟨hB.os, hB.tape, hB.output, hB.size, hB.block⟩
          have hs2 : Row wr.drew w.heap.size 76 (cellsU (addTo s v k)) := hs
          have hr2 : Row wr.drew (w.heap.size + 1) 76 (cellsU (List.replicate 8 0)) := hr
          have hv2 : Row wr.drew n6 76 (cellsU v.list) := hv
          have d1 : wr.drew.cell? ⟨w.heap.size, k, none⟩ = some (.int .u32 (V x1)) := c1
          have d2 : wr.drew.cell? ⟨n6, k, none⟩ = some (.int .u32 (V x2)) := c2
          have d3 : wr.drew.frozen? ⟨w.heap.size, k, none⟩ = false := f1
          clear c1 c2 f1 hB hs hr hv
          generalize wr.drew = w2 at *
          have l8 : (k : Int) < 8 := by omega
          repeat still_step
          refine wpStill_nil ?_
          clear l8
          go_wp2
          go_roundw
          case rel =>
            (repeat apply Exists.intro)
            refine ⟨?_, rfl⟩
            exact ⟨k + 1, by omega, by go_num, hB2.setCell (Nat.le_refl _) _, by have := hs2.setU k (x1 + x2); rwa [HS.out] at this, hr2.other _ _ (by simp), hv2.other _ _ (by simp; omega)⟩
          case measure => simp [intOf]; omega
        · obtain rfl : k = 8 := by omega
          have hs8 : Row wr w.heap.size 76 (cellsU (compress s blk).list) := by rw [EV.out]; exact hs
          obtain ⟨z, ez⟩ : ∃ z, compress s blk = z := ⟨_, rfl⟩
          rw [ez] at hs8
          have EZ := Lib.hid ez
          clear ez EV hs
          have HCZ : Hid ((cellsU z.list).size = (cellsU (List.replicate 8 0)).size) := Lib.hid rfl
          have HZZ := Lib.hid (Tryd.sizeSt z)
          go_wp2_with (first | (refine wpList_load_row rfl 76 (.tmp 2) rfl w.heap.size rfl 76 (cellsU z.list) (0, 0) _ hs8 Tryd.under8 rfl HZZ.out ?_) | (refine wpList_store_row rfl 76 (.tmp 4) (.tmp 123) rfl (w.heap.size + 1) rfl (cellsU z.list) _ 76 rfl hr HCZ.out HZZ.out (cellsU_one _) ?_; intro w9 hg9 hr9 hz9))
          refine bodyPost_ret (v := .agg (cellsU z.list)) (results_cell_row rfl _ _ (w.heap.size + 1) 76 _ (0, 0) _ rfl hr9 Tryd.under8 rfl HZZ.out) rfl ⟨by rw [EZ.out], ?_⟩
          exact hB.grown hg9 hB.size (fun k hk => by cases hk; omega)
end Go.Proofs.YteogcilnpkaplaaDoor

namespace Go.Proofs.YteogcilnpkaplaaDoor
open Go.RowKit
set_option maxHeartbeats 1000000 in
theorem pad_any (n : Nat) (w : World) (hl : n ≤ 35184372088832) :
    Calls Tryd.prog 66 #[.int .i64 (n : Int)] w fun e w' => ∃ v', e = .returned v' ∧ OwnB w' w.heap.size v' (padding n) ∧ Below w.heap.size w w' := by
  have ho1 := OwnB.fresh w [128] (by decide)
  have hb1 : Below w.heap.size w (w.alloc (.cells (cellsB [128]) 5)) := (Below.refl _ _).alloc (Nat.le_refl _) _
  have hpz : padZeros n ≤ 63 := by unfold padZeros; omega
  go_enter Tryd.func66, Tryd.ntmps66
  go_wp2
  go_loopw [3] (fun v wr => ∃ z g c m : Nat, Hid (m = 1 + z) ∧ z ≤ padZeros n ∧ v = .slice (some ⟨g, 0, none⟩) m c ∧ OwnB wr w.heap.size v ([128] ++ List.replicate z 0) ∧ Below w.heap.size w wr) (fun v _ => 200 - lenOf v)
  case atStart => exact ⟨0, w.heap.size, 1, 1, rfl, by omega, rfl, ho1, hb1⟩
  case round =>
    clear ho1 hb1
    obtain ⟨z, g, c, m, hm, hz, rfl, ho, hb⟩ := hrel
    have hm2 : m ≤ 64 := by have := hm.out; omega
    by_cases hlt : z < padZeros n
    · have ht : ¬ ((n : Int) + (m : Int)) % 64 = 56 := by have := hm.out; unfold padZeros at hlt; omega
      go_wp2_with (at_builtin; refine wpList_append_bytes rfl (.tmp 13) (.tmp 14) rfl w.heap.size _ _ ([128] ++ List.replicate z 0) [0] (fun _ => True) rfl (ho.alloc _) rfl (one_byte _ 0 _ rfl) (by simp; omega) (by have := hb.size; simp; omega) ?_; intro v6 w6 ho6 hg6)
      have hb6 : Below w.heap.size w w6 := (hb.alloc hb.size _).grown hg6 (by have := hb.size; simp; omega) (fun k hk => ho.ownBlock k hk)
      rw [List.append_assoc _ _ [0], show List.replicate z (0 : UInt8) ++ [0] = List.replicate (z + 1) 0 by rw [List.replicate_succ']] at ho6
      obtain ⟨g6, c6, ev6, _⟩ := ho6.form (by simp)
      obtain ⟨n6, en6⟩ : ∃ x, ([128] ++ List.replicate (z + 1) (0 : UInt8)).length = x := ⟨_, rfl⟩
      rw [en6] at ev6
      subst ev6
      have hn6 : Hid (n6 = 1 + (z + 1)) := by
        show n6 = _
        simp only [List.length_append, List.length_cons, List.length_nil, List.length_replicate] at en6
        omega
      go_roundw
      case rel => exact ⟨z + 1, g6, c6, n6, hn6, by omega, rfl, ho6, hb6⟩
      case measure => have := hm.out; have := hn6.out; simp only [lenOf]; omega
    · have hze : z = padZeros n := by omega
      have ht : ((n : Int) + (m : Int)) % 64 = 56 := by have := hm.out; unfold padZeros at hze; omega
      obtain ⟨t0, et0⟩ : ∃ t0, [128] ++ List.replicate z (0 : UInt8) = t0 := ⟨_, rfl⟩
      have ht0 : Hid (t0 = [128] ++ List.replicate (padZeros n) 0) := by show t0 = _; rw [← et0, hze]
      rw [et0] at ho
      have hnn : Hid (m = t0.length) := by show m = _; rw [hm.out, ← et0]; simp; omega
      clear et0 hze
      go_wp2
      clear ht
      go_loopw [5, 3] (fun t v wr => ∃ i g c m : Nat, i ≤ 8 ∧ t = .int .i64 (7 - (i : Int)) ∧ Hid (m = t0.length + i) ∧ v = .slice (some ⟨g, 0, none⟩) m c ∧ OwnB wr w.heap.size v (t0 ++ (lenBytes n).take i) ∧ Below w.heap.size w wr) (fun t _ _ => (intOf t + 1).toNat)
      case atStart => exact ⟨0, g, c, m, by omega, rfl, hnn, rfl, by simpa using ho, hb⟩
      case round =>
        clear ho hb
        obtain ⟨i, g', c', m', hi, rfl, hn', rfl, ho, hb⟩ := hrel
        have hm2' : m' ≤ 200 := by have := hn'.out; have := hnn.out; omega
        have htl : t0.length ≤ 64 := by have := hnn.out; omega
        by_cases hlt8 : i < 8
        · obtain ⟨k, hk⟩ : ∃ k : Nat, i + k = 7 := ⟨7 - i, by omega⟩
          have ek : (7 : Int) - (i : Int) = (k : Int) := by omega
          rw [ek]
          have hE : (n : Int) * 8 / 2 ^ (8 * k) % 256 = Y (lenB n i) := by
            have h := lenB_eq n i hl
            rwa [show 56 - 8 * i = 8 * k by omega] at h
          have hk7 : k ≤ 7 := by omega
          have HK := Lib.hid hk
          have HEK := Lib.hid ek
          clear hk ek
          go_wp2_with (at_builtin; refine wpList_append_bytes rfl (.tmp 23) (.tmp 30) rfl w.heap.size _ _ (t0 ++ (lenBytes n).take i) [lenB n i] (fun _ => True) rfl (ho.alloc _) rfl (one_byte _ _ _ rfl) (by simp [lenBytes]; omega) (by have := hb.size; simp; omega) ?_; intro v6 w6 ho6 hg6)
          have hb6 : Below w.heap.size w w6 := (hb.alloc hb.size _).grown hg6 (by have := hb.size; simp; omega) (fun k hk => ho.ownBlock k hk)
          rw [List.append_assoc, ← lenBytes_take _ _ hlt8] at ho6
          obtain ⟨g6, c6, ev6, _⟩ := ho6.form (by rw [lenBytes_take _ _ hlt8]; simp; omega)
          obtain ⟨n6, en6⟩ : ∃ x, (t0 ++ (lenBytes n).take (i + 1)).length = x := ⟨_, rfl⟩
          rw [en6] at ev6
          subst ev6
          have hn6 : Hid (n6 = t0.length + (i + 1)) := by
            show n6 = _
            rw [← en6, List.length_append, List.length_take, show (lenBytes n).length = 8 from rfl]; omega
          go_roundw
          case rel => exact ⟨i + 1, g6, c6, n6, by omega, (by have := HK.out; refine congrArg (Value.int .i64) ?_; omega), hn6, rfl, ho6, hb6⟩
          case measure => simp only [intOf]; omega
        · obtain rfl : i = 8 := by omega
          rw [lenBytes_all _ _ rfl] at ho
          have hp : t0 ++ lenBytes n = padding n := by rw [ht0.out]; unfold padding; rfl
          rw [hp] at ho
          clear hp
          go_wp2
          go_ret
          exact ⟨_, rfl, ho, hb⟩
end Go.Proofs.YteogcilnpkaplaaDoor

namespace Go.Proofs.YteogcilnpkaplaaDoor
open Go.RowKit
set_option maxHeartbeats 1000000 in
theorem rdigest_any (s : St) (w : World) :
    Calls Tryd.prog 67 #[.agg (cellsU s.list)] w fun e w' => e = .returned (.agg (cellsB (digestOf s))) ∧ Below w.heap.size w w' := by
  have hs1 : Row (((w.alloc (.cells (cellsU s.list) 76)).alloc (.cells (cellsB (List.replicate 32 0)) 25)).alloc (.cells (cellsB (List.replicate 32 0)) 25)) w.heap.size 76 (cellsU s.list) := ((Row.new w _ _).alloc _).alloc _
  have hr1 : Row (((w.alloc (.cells (cellsU s.list) 76)).alloc (.cells (cellsB (List.replicate 32 0)) 25)).alloc (.cells (cellsB (List.replicate 32 0)) 25)) (w.heap.size + 1) 25 (cellsB (List.replicate 32 0)) := by
    have h := (Row.new (w.alloc (.cells (cellsU s.list) 76)) (cellsB (List.replicate 32 0)) 25).alloc (.cells (cellsB (List.replicate 32 0)) 25)
    rwa [show (w.alloc (.cells (cellsU s.list) 76)).heap.size = w.heap.size + 1 by simp] at h
  have hd1 : Row (((w.alloc (.cells (cellsU s.list) 76)).alloc (.cells (cellsB (List.replicate 32 0)) 25)).alloc (.cells (cellsB (List.replicate 32 0)) 25)) (w.heap.size + 1 + 1) 25 (cellsB (dRow s 0)) := by
    have h := Row.new ((w.alloc (.cells (cellsU s.list) 76)).alloc (.cells (cellsB (List.replicate 32 0)) 25)) (cellsB (dRow s 0)) 25
    rwa [show ((w.alloc (.cells (cellsU s.list) 76)).alloc (.cells (cellsB (List.replicate 32 0)) 25)).heap.size = w.heap.size + 1 + 1 by simp] at h
  have hb1 : Below w.heap.size w (((w.alloc (.cells (cellsU s.list) 76)).alloc (.cells (cellsB (List.replicate 32 0)) 25)).alloc (.cells (cellsB (List.replicate 32 0)) 25)) := (((Below.refl _ _).alloc (Nat.le_refl _) _).alloc (by simp) _).alloc (by simp; omega) _
  go_enter Tryd.func67, Tryd.ntmps67
  go_wp2
  go_loopw [4] (fun t wr => ∃ i : Nat, i ≤ 32 ∧ t = .int .i64 (i : Int) ∧ Below w.heap.size w wr ∧ Row wr w.heap.size 76 (cellsU s.list) ∧ Row wr (w.heap.size + 1) 25 (cellsB (List.replicate 32 0)) ∧ Row wr (w.heap.size + 1 + 1) 25 (cellsB (dRow s i))) (fun t _ => 32 - (intOf t).toNat)
  case atStart => exact ⟨0, by omega, rfl, hb1, hs1, hr1, hd1⟩
  case round =>
    clear hb1 hs1 hr1 hd1
    obtain ⟨i, hi, rfl, hb, hs, hr, hd⟩ := hrel
    by_cases hlt32 : i < 32
    · have c1 := hs.word (i / 4) (show i / 4 < 8 by omega)
      have c2 := hd.byte i (by rw [dRow_len _ _ hi]; exact hlt32)
      have f2 := hd.free i
      have hE := dByte_eq s i hlt32
      have hwd := wd_bd s.list (i / 4)
      go_wp2
      have hset := hd.setB i ((digestOf s).getD i 0)
      rw [dRow_set _ _ hlt32] at hset
      go_roundw
      case rel => exact ⟨i + 1, by omega, by go_num, hb.setCell (by simp; omega) _, hs.other _ _ (by simp; omega), hr.other _ _ (by simp), by simpa using hset⟩
      case measure => simp [intOf]; omega
    · rw [dRow_all _ _ (show i = 32 by omega)] at hd
      have hdl : (cellsB (digestOf s)).size = 32 := cellsB_size _
      have hszd := Tryd.sizeD
      rw [← hdl] at hszd
      have HSZ := Lib.hid hszd
      have HCD : Hid ((cellsB (digestOf s)).size = (cellsB (List.replicate 32 0)).size) := Lib.hid hdl
      clear hszd hdl
      go_wp2_with (first | (refine wpList_load_row rfl 25 (.tmp 3) rfl (w.heap.size + 1 + 1) rfl 25 (cellsB (digestOf s)) (0, 0) _ hd Tryd.underD rfl HSZ.out ?_) | (refine wpList_store_row rfl 25 (.tmp 2) (.tmp 22) rfl (w.heap.size + 1) rfl (cellsB (digestOf s)) _ 25 rfl hr HCD.out HSZ.out (cellsB_one _) ?_; intro w9 hg9 hr9 hz9))
      refine bodyPost_ret (v := .agg (cellsB (digestOf s))) (results_cell_row rfl _ _ (w.heap.size + 1) 25 (cellsB (digestOf s)) (0, 0) _ rfl hr9 Tryd.underD rfl HSZ.out) rfl ⟨rfl, ?_⟩
      exact hb.grown hg9 hb.size (fun k hk => by cases hk; omega)
theorem cellsSt_size (s : St) : (cellsU s.list).size = 8 := by rw [cellsU_size]; rfl
theorem still_load_row {P : Program} {ops : Array Oper} {w : World} {Q : Act → Prop} {a : Act} {o : Oper} {rest : List Oper} (hgd : o.guard = none) (ty : TypeId) (x : Operand) (ho : o.op = .load ty x) (g : Nat)
    (hx : a.eval x = .pointer (some ⟨g, 0, none⟩)) (t : TypeId) (cs : Array Value) (fr : Nat × Nat) (d : TypeDesc) (hg : w.heap[g]? = some (.cells cs t fr)) (hu : P.underlying ty = some d)
    (hd : (match d with | .struct _ | .array _ _ => true | _ => false) = true) (hi : (P.info? ty).map (·.size) = some cs.size) (h : wpStill P ops w Q rest (a.put o.dst (.agg cs))) : wpStill P ops w Q (o :: rest) a := by
  unfold wpStill
  have hw : Region.wanted o (yielded ops a.tmps) = true := by unfold Region.wanted; rw [hgd]
  rw [if_pos hw]
  unfold Oper.still execOp
  simp only [ho, hx, Instr.loadAt, Instr.sureAddr, Sem.run_bind, Sem.run_pure, Result.andThen_ok, run_loadVar_row w g t ty cs fr d hg hu hd hi]
  rw [Oper.stillUpon_value]
  exact h
set_option maxHeartbeats 1000000 in
theorem rblocks_any (s : St) (l : List UInt8) (v : Value) (w : World) (hv : Bytes w v l (fun _ => True)) (hK : RKFact w) (hl : l.length ≤ 35184372088832) :
    Calls Tryd.prog 68 #[.agg (cellsU s.list), v] w fun e w' => e = .returned (.agg (cellsU (blocks (l.length / 64) s l).list)) ∧ Below w.heap.size w w' := by
  have hkl := hK.lt
  obtain ⟨av, cv, rfl⟩ : ∃ a c, v = .slice a l.length c := by obtain ⟨a, c, h, _⟩ := hv; exact ⟨a, c, h⟩
  have hs1 : Row ((w.alloc (.cells (cellsU s.list) 76)).alloc (.cells (cellsU (List.replicate 8 0)) 76)) w.heap.size 76 (cellsU (blocks 0 s l).list) := (Row.new w _ _).alloc _
  have hr1 : Row ((w.alloc (.cells (cellsU s.list) 76)).alloc (.cells (cellsU (List.replicate 8 0)) 76)) (w.heap.size + 1) 76 (cellsU (List.replicate 8 0)) := by
    have h := Row.new (w.alloc (.cells (cellsU s.list) 76)) (cellsU (List.replicate 8 0)) 76
    rwa [show (w.alloc (.cells (cellsU s.list) 76)).heap.size = w.heap.size + 1 by simp] at h
  have hb1 : Below w.heap.size w ((w.alloc (.cells (cellsU s.list) 76)).alloc (.cells (cellsU (List.replicate 8 0)) 76)) := ((Below.refl _ _).alloc (Nat.le_refl _) _).alloc (by simp) _
  go_enter Tryd.func68, Tryd.ntmps68
  go_wp2
  go_loopw [5] (fun t wr => ∃ i : Nat, i ≤ l.length / 64 ∧ t = .int .i64 (64 * i : Int) ∧ Below w.heap.size w wr ∧ Row wr w.heap.size 76 (cellsU (blocks i s l).list) ∧ Row wr (w.heap.size + 1) 76 (cellsU (List.replicate 8 0))) (fun t _ => l.length - (intOf t).toNat)
  case atStart => exact ⟨0, by omega, rfl, hb1, hs1, hr1⟩
  case round =>
    clear hb1 hs1 hr1
    obtain ⟨i, hi, rfl, hb, hs, hr⟩ := hrel
    by_cases hlt : 64 * i + 64 ≤ l.length
    · obtain ⟨b, off, rfl, hat⟩ : ∃ b off, av = some ⟨b, off, none⟩ ∧ BytesAt w b off l := by
        obtain ⟨a, c, he, _, _, ⟨rfl, _⟩ | ⟨b, off, rfl, _, hat⟩⟩ := hv
        · simp at hlt
        · exact ⟨b, off, (Value.slice.inj he).1, hat⟩
      have hcc : l.length ≤ cv ∧ cv ≤ 9223372036854775807 := by
        obtain ⟨a, c, he, h1, h2, _⟩ := hv
        obtain ⟨_, _, rfl⟩ := Value.slice.inj he
        exact ⟨h1, h2⟩
      have hbl : b < w.heap.size := block_lt_of_cell (hat 0 (by omega))
      have hat2 : BytesAt wr b (off + 64 * i) ((l.drop (64 * i)).take 64) := fun j hj => by
        have hj2 : j < 64 := by rw [List.length_take] at hj; omega
        have h := (hb.cell (p := ⟨b, off + (64 * i + j), none⟩) hbl).trans (hat (64 * i + j) (by omega))
        rw [Nat.add_assoc, h]
        unfold by8
        rw [List.getD_eq_getElem?_getD, List.getD_eq_getElem?_getD, List.getElem?_take, if_pos hj2, List.getElem?_drop]
      have hbkl : ((l.drop (64 * i)).take 64).length = 64 := by rw [List.length_take, List.length_drop]; omega
      have HBL := Lib.hid hbkl
      clear hv hat hbkl
      obtain ⟨hc1, hc2⟩ := hcc
      have hKr := hK.below hb hkl
      go_wp2
      refine wp_region_still_tail 6 (by kernel_rfl) (by kernel_rfl) ?_
      simp only [List.take_succ_cons, List.take_zero, List.drop_succ_cons, List.drop_zero]
      change wpStill _ _ wr.drew (fun a' => wpList _ _ _ _ a' wr.drew) _ _
      have hb2 : Below w.heap.size w wr.drew := ⟨hb.os, hb.tape, hb.output, hb.size, hb.block⟩
      have hs2 : Row wr.drew w.heap.size 76 (cellsU (blocks i s l).list) := hs
      have hr2 : Row wr.drew (w.heap.size + 1) 76 (cellsU (List.replicate 8 0)) := hr
      have hat3 : BytesAt wr.drew b (off + 64 * i) ((l.drop (64 * i)).take 64) := hat2
      have hK3 : RKFact wr.drew := hKr
      clear hb hs hr hat2 hKr
      generalize wr.drew = w2 at *
      have l1 : (64 : Int) * i + 64 ≤ cv := by omega
      have l2 : (64 : Int) * i ≤ 64 * i + 64 := by omega
      have iw : IntKind.i64.wrap ((64 : Int) * i + 64) = (64 : Int) * i + 64 := IntWalk.i64_in _ (by omega)
      have t1 : ((64 : Int) * i).toNat = 64 * i := by omega
      have t2 : ((64 : Int) * i + 64).toNat = 64 * i + 64 := by omega
      have p1 : (0 : Int) ≤ 64 * i := by omega
      have p2 : (0 : Int) ≤ 64 * i + 64 := by omega
      have ne1 : ¬ cv = 64 * i := by omega
      have HZ := Lib.hid (Tryd.sizeSt (blocks i s l))
      refine still_load_row rfl 76 (.tmp 2) rfl w.heap.size rfl 76 (cellsU (blocks i s l).list) (0, 0) _ hs2 Tryd.under8 rfl HZ.out ?_
      repeat still_step
      refine wpStill_nil ?_
      clear iw t1 t2 p1 p2 ne1 l1 l2 HZ
      go_wp2_with fail
      refine (rcompress_any (blocks i s l) ((l.drop (64 * i)).take 64) b (off + 64 * i) (cv - 64 * i) w2 HBL.out (by omega) (by omega) hat3 hK3).mono ?_
      rintro e w5 ⟨rfl, hb5⟩
      have hB5 := hb2.trans (hb5.mono hb2.size)
      have hs5 := hs2.below hb5 hs2.lt
      have hr5 := hr2.below hb5 hr2.lt
      rw [← blocks_succ]
      have HCB : Hid ((cellsU (blocks (i + 1) s l).list).size = (cellsU (blocks i s l).list).size) := Lib.hid ((cellsSt_size _).trans (cellsSt_size _).symm)
      have HZB := Lib.hid (Tryd.sizeSt (blocks (i + 1) s l))
      clear hb2 hs2 hr2 hat3 hK3 hb5
      go_wp2_with (refine wpList_store_row rfl 76 (.tmp 2) (.tmp 19) rfl w.heap.size rfl (cellsU (blocks (i + 1) s l).list) (cellsU (blocks i s l).list) 76 rfl hs5 HCB.out HZB.out (cellsU_one _) ?_; intro w6 hg6 hr6 hz6)
      go_roundw
      case rel =>
        exact ⟨i + 1, by omega, (by refine congrArg (Value.int .i64) ?_; omega), hB5.grown hg6 hB5.size (fun k hk => by cases hk; exact Nat.le_refl _), hr6, hr5.grown hg6 (fun e => by have := Option.some.inj e; omega)⟩
      case measure => simp [intOf]; omega
    · obtain rfl : i = l.length / 64 := by omega
      obtain ⟨z, ez⟩ : ∃ z, blocks (l.length / 64) s l = z := ⟨_, rfl⟩
      rw [ez] at hs
      have EZ := Lib.hid ez
      clear ez hv
      have HCZ : Hid ((cellsU z.list).size = (cellsU (List.replicate 8 0)).size) := Lib.hid rfl
      have HZZ := Lib.hid (Tryd.sizeSt z)
      go_wp2_with (first | (refine wpList_load_row rfl 76 (.tmp 2) rfl w.heap.size rfl 76 (cellsU z.list) (0, 0) _ hs Tryd.under8 rfl HZZ.out ?_) | (refine wpList_store_row rfl 76 (.tmp 4) (.tmp 20) rfl (w.heap.size + 1) rfl (cellsU z.list) _ 76 rfl hr HCZ.out HZZ.out (cellsU_one _) ?_; intro w9 hg9 hr9 hz9))
      refine bodyPost_ret (v := .agg (cellsU z.list)) (results_cell_row rfl _ _ (w.heap.size + 1) 76 _ (0, 0) _ rfl hr9 Tryd.under8 rfl HZZ.out) rfl ⟨by rw [EZ.out], ?_⟩
      exact hb.grown hg9 hb.size (fun k hk => by cases hk; omega)
end Go.Proofs.YteogcilnpkaplaaDoor

namespace Go.Proofs.YteogcilnpkaplaaDoor
open Go.RowKit
/-- The first state lies in the reference's variable. -/
def RIFact (w : World) : Prop := ∃ t, Row w 0 t (cellsU St.init.list)
theorem RIFact.lt {w : World} (h : RIFact w) : 0 < w.heap.size := by obtain ⟨t, h⟩ := h; exact h.lt
theorem RIFact.below {w w' : World} (h : RIFact w) {n : Nat} (hb : Below n w w') (hn : 0 < n) : RIFact w' := by obtain ⟨t, h⟩ := h; exact ⟨t, h.below hb hn⟩
theorem lenBytes_len (n : Nat) : (lenBytes n).length = 8 := by simp [lenBytes]
theorem padding_len_le (n : Nat) : (padding n).length ≤ 72 := by
  unfold padding padZeros
  rw [List.length_append, List.length_append, lenBytes_len, List.length_replicate]
  simp; omega
theorem OwnB.belowB {w w' : World} {base : Nat} {v : Value} {xs : List UInt8} (h : OwnB w base v xs) (hb : Below w.heap.size w w') : OwnB w' base v xs := h.below fun b _ hlt => hb.block b hlt
set_option maxHeartbeats 1000000 in
theorem rsum_any (l : List UInt8) (v : Value) (ok : Nat → Prop) (w : World) (hv : Bytes w v l ok) (hK : RKFact w) (hI : RIFact w) (hl : l.length ≤ 17592186044416) :
    Calls Tryd.prog 56 #[v] w fun e w' => e = .returned (.agg (cellsB (sumOf l))) ∧ Below w.heap.size w w' := by
  have hkl := hK.lt
  have hil := hI.lt
  have hpl := padding_len_le l.length
  obtain ⟨av, cv, rfl⟩ : ∃ a c, v = .slice a l.length c := by obtain ⟨a, c, h, _⟩ := hv; exact ⟨a, c, h⟩
  have hb1 : Below w.heap.size w (w.alloc (.cells (cellsB (List.replicate 32 0)) 25)) := (Below.refl _ _).alloc (Nat.le_refl _) _
  have hD1 : Row (w.alloc (.cells (cellsB (List.replicate 32 0)) 25)) w.heap.size 25 (cellsB (List.replicate 32 0)) := Row.new w _ _
  have hsz1 : (w.alloc (.cells (cellsB (List.replicate 32 0)) 25)).heap.size = w.heap.size + 1 := by simp
  have ho0 : OwnB ((w.alloc (.cells (cellsB (List.replicate 32 0)) 25)).alloc (.cells (cellsB []) 5)) (w.heap.size + 1) (.slice (some ⟨w.heap.size + 1, 0, none⟩) 0 0) [] := by
    have h := OwnB.fresh (w.alloc (.cells (cellsB (List.replicate 32 0)) 25)) [] (by decide)
    rwa [hsz1] at h
  have hb0 : Below w.heap.size w ((w.alloc (.cells (cellsB (List.replicate 32 0)) 25)).alloc (.cells (cellsB []) 5)) := hb1.alloc hb1.size _
  have hD0 := hD1.alloc (.cells (cellsB []) 5)
  have hs0 : Bytes ((w.alloc (.cells (cellsB (List.replicate 32 0)) 25)).alloc (.cells (cellsB []) 5)) (.slice av l.length cv) l (fun _ => True) := (hv.later hb0).imp fun _ _ => trivial
  clear hb1 hD1 hsz1 hv
  go_enter Tryd.func56, Tryd.ntmps56
  go_wp2_with (at_builtin; refine wpList_append_bytes rfl (.tmp 4) (.tmp 5) rfl (w.heap.size + 1) _ _ [] l _ rfl ho0 rfl hs0 (by simp; omega) (by simp) ?_; intro v1 w1 o1 g1)
  have hB1 : Below w.heap.size w w1 := hb0.grown g1 hb0.size (fun k hk => by have := ho0.ownBlock k hk; omega)
  have hD1 := hD0.grown g1 (fun e => by have := ho0.ownBlock _ e.symm; omega)
  have hz1 : w.heap.size + 1 ≤ w1.heap.size := by have := g1.size; simp at this; omega
  clear ho0 hb0 hD0 hs0 g1
  refine (pad_any l.length w1 (by omega)).mono ?_
  rintro e w2 ⟨v2, rfl, o2, hb2⟩
  have hB2 := hB1.trans (hb2.mono hB1.size)
  have hD2 := hD1.below hb2 hD1.lt
  have o1' := o1.belowB hb2
  have hs2 : Bytes w2 v2 (padding l.length) (fun _ => True) := o2.bytes _ fun _ _ => trivial
  have hz2 : w.heap.size + 1 ≤ w2.heap.size := Nat.le_trans hz1 hb2.size
  obtain ⟨ti, hIr⟩ := hI
  clear hB1 hD1 o1 hb2 hz1
  go_wp2_with (first | (at_builtin; refine wpList_append_bytes rfl (.tmp 7) (.tmp 10) rfl (w.heap.size + 1) _ _ ([] ++ l) (padding l.length) _ rfl o1' rfl hs2 (by simp; omega) hz2 ?_; intro v3 w3 o3 g3; have hI3 := hIr.below (hB2.grown g3 hB2.size (fun k hk => by have := o1'.ownBlock k hk; omega)) hil) | (refine wpList_load_row rfl 76 (.global 0) rfl 0 rfl ti (cellsU St.init.list) (0, 0) _ hI3 Tryd.under8 rfl (Tryd.sizeSt _) ?_))
  have hB3 := hB2.grown g3 hB2.size (fun k hk => by have := o1'.ownBlock k hk; omega)
  have hD3 := hD2.grown g3 (fun e => by have := o1'.ownBlock _ e.symm; omega)
  have hs3 : Bytes w3 v3 (padded l) (fun _ => True) := o3.bytes _ fun _ _ => trivial
  have hpd : (padded l).length ≤ 35184372088832 := by unfold padded; rw [List.length_append]; omega
  clear g3 o1' hs2 hB2 hD2 o3 hI3 hIr
  refine (rblocks_any St.init (padded l) v3 w3 hs3 (hK.below hB3 hkl) hpd).mono ?_
  rintro e w4 ⟨rfl, hb4⟩
  have hB4 := hB3.trans (hb4.mono hB3.size)
  have hD4 := hD3.below hb4 hD3.lt
  clear hs3 hB3 hD3 hb4 hpd
  go_wp2_with fail
  refine (rdigest_any _ w4).mono ?_
  rintro e w5 ⟨rfl, hb5⟩
  have hB5 := hB4.trans (hb5.mono hB4.size)
  have hD5 := hD4.below hb5 hD4.lt
  obtain ⟨z, ez⟩ : ∃ z, digestOf (blocks ((padded l).length / 64) St.init (padded l)) = z := ⟨_, rfl⟩
  have hzl : z.length = 32 := by rw [← ez]; exact digestOf_len _
  rw [ez]
  have EZ : Hid (sumOf l = z) := Lib.hid ez
  have HCD : Hid ((cellsB z).size = (cellsB (List.replicate 32 0)).size) := Lib.hid (by rw [cellsB_size, hzl]; rfl)
  have HSZ := Lib.hid (Tryd.sizeD_of _ hzl)
  clear ez hzl hB4 hD4 hb5
  go_wp2_with (refine wpList_store_row rfl 25 (.tmp 2) (.tmp 15) rfl w.heap.size rfl (cellsB z) _ 25 rfl hD5 HCD.out HSZ.out (cellsB_one _) ?_; intro w9 hg9 hr9 hz9)
  refine bodyPost_ret (v := .agg (cellsB z)) (results_cell_row rfl _ _ w.heap.size 25 (cellsB z) (0, 0) _ rfl hr9 Tryd.underD rfl HSZ.out) rfl ⟨by rw [EZ.out], ?_⟩
  exact hB5.grown hg9 hB5.size (fun k hk => by cases hk; exact Nat.le_refl _)
end Go.Proofs.YteogcilnpkaplaaDoor

namespace Go.Proofs.YteogcilnpkaplaaDoor
open Go.RowKit
theorem tagged_msg (s t : ByteArray) (b : List UInt8) (htk : s.data.toList.take 255 = t.data.toList) : sumOf ([UInt8.ofNat t.size] ++ t.data.toList ++ b) = taggedOf s.data.toList b := by
  have hl : t.data.toList.length = t.size := rfl
  unfold taggedOf
  rw [htk]
  show _ = sumOf ([UInt8.ofNat t.data.toList.length] ++ t.data.toList ++ b)
  rw [hl]
set_option maxHeartbeats 1000000 in
theorem rtagged_any (s : ByteArray) (v : Value) (b : List UInt8) (ok : Nat → Prop) (w : World) (hs : s.size ≤ 9223372036854775807) (hv : Bytes w v b ok) (hK : RKFact w) (hI : RIFact w) (hl : b.length ≤ 8796093022208) :
    Calls Tryd.prog 37 #[.string s, v] w fun e w' => e = .returned (.agg (cellsB (taggedOf s.data.toList b))) ∧ Below w.heap.size w w' := by
  have hkl := hK.lt
  have hil := hI.lt
  obtain ⟨av, cv, rfl⟩ : ∃ a c, v = .slice a b.length c := by obtain ⟨a, c, h, _⟩ := hv; exact ⟨a, c, h⟩
  have hcase : ∃ t : ByteArray, t.size ≤ 255 ∧ s.data.toList.take 255 = t.data.toList ∧ ((s.size ≤ 255 ∧ s = t) ∨ (¬ s.size ≤ 255 ∧ s.extract 0 255 = t)) := by
    by_cases h : s.size ≤ 255
    · exact ⟨s, h, List.take_of_length_le h, .inl ⟨h, rfl⟩⟩
    · refine ⟨s.extract 0 255, by rw [ByteArray.size_extract]; omega, ?_, .inr ⟨h, rfl⟩⟩
      rw [ByteArray.data_extract, Array.toList_extract]; simp [List.extract]
  obtain ⟨t, h255, htk, hcase⟩ := hcase
  have HM := Lib.hid (tagged_msg s t b htk)
  have hlen : (t.size : Int) = Y (UInt8.ofNat t.size) := by
    unfold Y; rw [UInt8.toNat_ofNat', Nat.mod_eq_of_lt (by omega)]
  have hb1 : Below w.heap.size w (w.alloc (.cells (cellsB (List.replicate 32 0)) 25)) := (Below.refl _ _).alloc (Nat.le_refl _) _
  have hD1 : Row (w.alloc (.cells (cellsB (List.replicate 32 0)) 25)) w.heap.size 25 (cellsB (List.replicate 32 0)) := Row.new w _ _
  have hsz1 : (w.alloc (.cells (cellsB (List.replicate 32 0)) 25)).heap.size = w.heap.size + 1 := by simp
  have ho0 : OwnB ((w.alloc (.cells (cellsB (List.replicate 32 0)) 25)).alloc (.cells #[.int .u8 (t.size : Int)] 5)) (w.heap.size + 1) (.slice (some ⟨w.heap.size + 1, 0, none⟩) 1 1) [UInt8.ofNat t.size] := by
    have h := OwnB.fresh (w.alloc (.cells (cellsB (List.replicate 32 0)) 25)) [UInt8.ofNat t.size] (by simp)
    have e : cellsB [UInt8.ofNat t.size] = #[.int .u8 (t.size : Int)] := by rw [hlen]; rfl
    rw [hsz1, e] at h
    exact h
  have hb0 : Below w.heap.size w ((w.alloc (.cells (cellsB (List.replicate 32 0)) 25)).alloc (.cells #[.int .u8 (t.size : Int)] 5)) := hb1.alloc hb1.size _
  have hD0 := hD1.alloc (.cells #[.int .u8 (t.size : Int)] 5)
  clear hb1 hD1 hsz1 hlen htk
  rcases hcase with ⟨hc, rfl⟩ | ⟨hc, et⟩
  · obtain ⟨t, rfl⟩ : ∃ t, t = s := ⟨s, rfl⟩
    go_enter Tryd.func37, Tryd.ntmps37
    go_wp2_with (at_builtin; first | (refine wpList_append_str rfl (.tmp 15) (.tmp 16) rfl (w.heap.size + 1) _ [UInt8.ofNat t.size] t rfl ho0 rfl (by simp; omega) (by simp) ?_; intro v1 w1 o1 g1; have hB1 : Below w.heap.size w w1 := hb0.grown g1 hb0.size (fun k hk => by have := ho0.ownBlock k hk; omega); have hD1 := hD0.grown g1 (fun e => by have := ho0.ownBlock _ e.symm; omega); have hz1 : w.heap.size + 1 ≤ w1.heap.size := (by have := g1.size; simp at this; omega); have hs1 : Bytes w1 (.slice av b.length cv) b (fun _ => True) := (hv.later hB1).imp fun _ _ => trivial; clear ho0 hb0 hD0 g1) | (refine wpList_append_bytes rfl (.tmp 18) (.tmp 19) rfl (w.heap.size + 1) _ _ ([UInt8.ofNat t.size] ++ t.data.toList) b _ rfl o1 rfl hs1 (by rw [List.length_append]; have hl : t.data.toList.length = t.size := rfl; simp; omega) hz1 ?_; intro v3 w3 o3 g3))
    have hB3 := hB1.grown g3 hB1.size (fun k hk => by have := o1.ownBlock k hk; omega)
    have hD3 := hD1.grown g3 (fun e => by have := o1.ownBlock _ e.symm; omega)
    have hs3 : Bytes w3 v3 ([UInt8.ofNat t.size] ++ t.data.toList ++ b) (fun _ => True) := o3.bytes _ fun _ _ => trivial
    have hml : ([UInt8.ofNat t.size] ++ t.data.toList ++ b).length ≤ 17592186044416 := by
      have hl : t.data.toList.length = t.size := rfl
      rw [List.length_append, List.length_append, hl]; simp; omega
    clear g3 o1 o3 hs1 hB1 hD1 hv
    refine (rsum_any _ v3 _ w3 hs3 (hK.below hB3 hkl) (hI.below hB3 hil) hml).mono ?_
    rintro e w5 ⟨rfl, hb5⟩
    rw [HM.out]
    have hB5 := hB3.trans (hb5.mono hB3.size)
    have hD5 := hD3.below hb5 hD3.lt
    have HSZ := Lib.hid (Tryd.sizeD_of _ (taggedOf_len t.data.toList b))
    have HCD : Hid ((cellsB (taggedOf t.data.toList b)).size = (cellsB (List.replicate 32 0)).size) := Lib.hid (by rw [cellsB_size, taggedOf_len]; rfl)
    clear hB3 hD3 hb5 hs3 hml
    go_wp2_with (refine wpList_store_row rfl 25 (.tmp 4) (.tmp 22) rfl w.heap.size rfl (cellsB (taggedOf t.data.toList b)) _ 25 rfl hD5 HCD.out HSZ.out (cellsB_one _) ?_; intro w9 hg9 hr9 hz9)
    refine bodyPost_ret (v := .agg (cellsB (taggedOf t.data.toList b))) (results_cell_row rfl _ _ w.heap.size 25 _ (0, 0) _ rfl hr9 Tryd.underD rfl HSZ.out) rfl ⟨rfl, ?_⟩
    exact hB5.grown hg9 hB5.size (fun k hk => by cases hk; exact Nat.le_refl _)
  · have hc2 : 255 < s.size := by omega
    go_enter Tryd.func37, Tryd.ntmps37
    go_wp2_with (at_builtin; first | (refine wpList_append_str rfl (.tmp 15) (.tmp 16) rfl (w.heap.size + 1) _ [UInt8.ofNat t.size] t rfl ho0 rfl (by simp; omega) (by simp) ?_; intro v1 w1 o1 g1; have hB1 : Below w.heap.size w w1 := hb0.grown g1 hb0.size (fun k hk => by have := ho0.ownBlock k hk; omega); have hD1 := hD0.grown g1 (fun e => by have := ho0.ownBlock _ e.symm; omega); have hz1 : w.heap.size + 1 ≤ w1.heap.size := (by have := g1.size; simp at this; omega); have hs1 : Bytes w1 (.slice av b.length cv) b (fun _ => True) := (hv.later hB1).imp fun _ _ => trivial; clear ho0 hb0 hD0 g1) | (refine wpList_append_bytes rfl (.tmp 18) (.tmp 19) rfl (w.heap.size + 1) _ _ ([UInt8.ofNat t.size] ++ t.data.toList) b _ rfl o1 rfl hs1 (by rw [List.length_append]; have hl : t.data.toList.length = t.size := rfl; simp; omega) hz1 ?_; intro v3 w3 o3 g3))
    have hB3 := hB1.grown g3 hB1.size (fun k hk => by have := o1.ownBlock k hk; omega)
    have hD3 := hD1.grown g3 (fun e => by have := o1.ownBlock _ e.symm; omega)
    have hs3 : Bytes w3 v3 ([UInt8.ofNat t.size] ++ t.data.toList ++ b) (fun _ => True) := o3.bytes _ fun _ _ => trivial
    have hml : ([UInt8.ofNat t.size] ++ t.data.toList ++ b).length ≤ 17592186044416 := by
      have hl : t.data.toList.length = t.size := rfl
      rw [List.length_append, List.length_append, hl]; simp; omega
    clear g3 o1 o3 hs1 hB1 hD1 hv
    refine (rsum_any _ v3 _ w3 hs3 (hK.below hB3 hkl) (hI.below hB3 hil) hml).mono ?_
    rintro e w5 ⟨rfl, hb5⟩
    rw [HM.out]
    have hB5 := hB3.trans (hb5.mono hB3.size)
    have hD5 := hD3.below hb5 hD3.lt
    have HSZ := Lib.hid (Tryd.sizeD_of _ (taggedOf_len s.data.toList b))
    have HCD : Hid ((cellsB (taggedOf s.data.toList b)).size = (cellsB (List.replicate 32 0)).size) := Lib.hid (by rw [cellsB_size, taggedOf_len]; rfl)
    clear hB3 hD3 hb5 hs3 hml
    go_wp2_with (refine wpList_store_row rfl 25 (.tmp 4) (.tmp 22) rfl w.heap.size rfl (cellsB (taggedOf s.data.toList b)) _ 25 rfl hD5 HCD.out HSZ.out (cellsB_one _) ?_; intro w9 hg9 hr9 hz9)
    refine bodyPost_ret (v := .agg (cellsB (taggedOf s.data.toList b))) (results_cell_row rfl _ _ w.heap.size 25 _ (0, 0) _ rfl hr9 Tryd.underD rfl HSZ.out) rfl ⟨rfl, ?_⟩
    exact hB5.grown hg9 hB5.size (fun k hk => by cases hk; exact Nat.le_refl _)
end Go.Proofs.YteogcilnpkaplaaDoor

namespace Go.Proofs.YteogcilnpkaplaaDoor
open Go.RowKit
set_option maxHeartbeats 1000000 in
theorem rchain_any (x : List UInt8) (n : Int) (w : World) (hx : x.length = 32) (h0 : -9223372036854775808 ≤ n) (h1 : n ≤ 9223372036854775807) (hK : RKFact w) (hI : RIFact w) :
    Calls Tryd.prog 54 #[.agg (cellsB x), .int .i64 n] w fun e w' => e = .returned (.agg (cellsB (chainOf x n.toNat))) ∧ Below w.heap.size w w' := by
  have HX := Lib.hid hx
  clear hx
  have hkl := hK.lt
  have hil := hI.lt
  have hA1 := (Row.new w (cellsB x) 25).alloc (.cells (cellsB (List.replicate 32 0)) 25)
  have hD1 : Row ((w.alloc (.cells (cellsB x) 25)).alloc (.cells (cellsB (List.replicate 32 0)) 25)) (w.heap.size + 1) 25 (cellsB (List.replicate 32 0)) := by
    have h := Row.new (w.alloc (.cells (cellsB x) 25)) (cellsB (List.replicate 32 0)) 25
    rwa [show (w.alloc (.cells (cellsB x) 25)).heap.size = w.heap.size + 1 by simp] at h
  have hbl1 : Below w.heap.size w ((w.alloc (.cells (cellsB x) 25)).alloc (.cells (cellsB (List.replicate 32 0)) 25)) := ((Below.refl _ _).alloc (Nat.le_refl _) _).alloc (by simp) _
  go_enter Tryd.func54, Tryd.ntmps54
  go_wp2
  go_loopw [5] (fun t wr => ∃ k : Nat, k ≤ n.toNat ∧ t = .int .i64 (k : Int) ∧ Row wr w.heap.size 25 (cellsB (chainOf x k)) ∧ Row wr (w.heap.size + 1) 25 (cellsB (List.replicate 32 0)) ∧ Below w.heap.size w wr) (fun t _ => n.toNat - (intOf t).toNat)
  case atStart => exact ⟨0, by omega, rfl, hA1, hD1, hbl1⟩
  case round =>
    clear hA1 hD1 hbl1
    obtain ⟨k, hk, rfl, hA, hD, hb⟩ := hrel
    by_cases hlt : (k : Int) < n
    · have hlen := chainOf_len x HX.out k
      have hv := hA.bytes hlen
      have hKr := hK.below hb hkl
      have hIr := hI.below hb hil
      have HLN := Lib.hid hlen
      clear hlen
      go_wp2_with fail
      refine (rtagged_any _ _ (chainOf x k) _ wr (by decide) hv hKr hIr (by rw [HLN.out]; omega)).mono ?_
      rintro e w5 ⟨rfl, hb5⟩
      have hA5 := hA.below hb5 hA.lt
      have hD5 := hD.below hb5 hD.lt
      have hB5 := hb.trans (hb5.mono hb.size)
      have hp : Hid (taggedOf (ByteArray.mk #[115, 116, 101, 112]).data.toList (chainOf x k) = chainOf x (k + 1)) := rfl
      rw [hp.out]
      have hcs : (cellsB (chainOf x (k + 1))).size = (cellsB (chainOf x k)).size := by rw [cellsB_size, cellsB_size, chainOf_len x HX.out, HLN.out]
      have HCS := Lib.hid hcs
      have HSZ := Lib.hid (Tryd.sizeD_of _ (chainOf_len x HX.out (k + 1)))
      clear hcs hA hD hb hb5 hv hKr hIr
      go_wp2_with (refine wpList_store_row rfl 25 (.tmp 2) (.tmp 12) rfl w.heap.size rfl (cellsB (chainOf x (k + 1))) _ 25 rfl hA5 HCS.out HSZ.out (cellsB_one _) ?_; intro w6 hg6 hr6 hz6)
      go_roundw
      case rel => exact ⟨k + 1, by omega, by go_num, hr6, hD5.grown hg6 (fun e => absurd (Option.some.inj e) (by omega)), hB5.grown hg6 hB5.size (fun k hk => by cases hk; exact Nat.le_refl _)⟩
      case measure => simp [intOf]; omega
    · obtain rfl : k = n.toNat := by omega
      have hcs : (cellsB (chainOf x n.toNat)).size = (cellsB (List.replicate 32 0)).size := by rw [cellsB_size, cellsB_size, chainOf_len x HX.out]; rfl
      have HCS := Lib.hid hcs
      have HSZ := Lib.hid (Tryd.sizeD_of _ (chainOf_len x HX.out n.toNat))
      clear hcs
      go_wp2_with (first | (refine wpList_load_row rfl 25 (.tmp 2) rfl w.heap.size rfl 25 (cellsB (chainOf x n.toNat)) (0, 0) _ hA Tryd.underD rfl HSZ.out ?_) | (refine wpList_store_row rfl 25 (.tmp 4) (.tmp 13) rfl (w.heap.size + 1) rfl (cellsB (chainOf x n.toNat)) _ 25 rfl hD HCS.out HSZ.out (cellsB_one _) ?_; intro w9 hg9 hr9 hz9))
      refine bodyPost_ret (v := .agg (cellsB (chainOf x n.toNat))) (results_cell_row rfl _ _ (w.heap.size + 1) 25 _ (0, 0) _ rfl hr9 Tryd.underD rfl HSZ.out) rfl ⟨rfl, ?_⟩
      exact hb.grown hg9 hb.size (fun k hk => by cases hk; omega)
end Go.Proofs.YteogcilnpkaplaaDoor

namespace Go.Proofs.YteogcilnpkaplaaDoor
open Go.RowKit
set_option maxHeartbeats 1000000 in
theorem rpair_any (a b : List UInt8) (w : World) (ha : a.length = 32) (hb : b.length = 32) (hK : RKFact w) (hI : RIFact w) :
    Calls Tryd.prog 48 #[.agg (cellsB a), .agg (cellsB b)] w fun e w' => e = .returned (.agg (cellsB (pairOf a b))) ∧ Below w.heap.size w w' := by
  have HA := Lib.hid ha
  have HB := Lib.hid hb
  clear ha hb
  have hkl := hK.lt
  have hil := hI.lt
  have hex : ∃ w2 : World, w2 = (((w.alloc (.cells (cellsB a) 25)).alloc (.cells (cellsB b) 25)).alloc (.cells (cellsB (List.replicate 32 0)) 25)) ∧ Row w2 w.heap.size 25 (cellsB a) ∧ Row w2 (w.heap.size + 1) 25 (cellsB b) ∧ Row w2 (w.heap.size + 1 + 1) 25 (cellsB (List.replicate 32 0)) ∧ Below w.heap.size w w2 ∧ w2.heap.size = w.heap.size + 1 + 1 + 1 := by
    have e1 : (w.alloc (.cells (cellsB a) 25)).heap.size = w.heap.size + 1 := by simp
    have e2 : ((w.alloc (.cells (cellsB a) 25)).alloc (.cells (cellsB b) 25)).heap.size = w.heap.size + 1 + 1 := by simp
    refine ⟨_, rfl, ((Row.new w _ _).alloc _).alloc _, ?_, ?_, (((Below.refl _ _).alloc (Nat.le_refl _) _).alloc (by simp) _).alloc (by simp; omega) _, by simp⟩
    · have h := (Row.new (w.alloc (.cells (cellsB a) 25)) (cellsB b) 25).alloc (.cells (cellsB (List.replicate 32 0)) 25)
      rw [e1] at h; exact h
    · have h := Row.new ((w.alloc (.cells (cellsB a) 25)).alloc (.cells (cellsB b) 25)) (cellsB (List.replicate 32 0)) 25
      rw [e2] at h; exact h
  obtain ⟨w2, ew2, hA2, hB2, hD2, hbl2, hz2⟩ := hex
  have ho0 : OwnB (w2.alloc (.cells (cellsB []) 5)) (w.heap.size + 1 + 1 + 1) (.slice (some ⟨w.heap.size + 1 + 1 + 1, 0, none⟩) 0 0) [] := by
    have h := OwnB.fresh w2 [] (by decide)
    rwa [hz2] at h
  have hb0 : Below w.heap.size w (w2.alloc (.cells (cellsB []) 5)) := hbl2.alloc hbl2.size _
  have hA0 := hA2.alloc (.cells (cellsB []) 5)
  have hB0 := hB2.alloc (.cells (cellsB []) 5)
  have hD0 := hD2.alloc (.cells (cellsB []) 5)
  have hs0 : Bytes (w2.alloc (.cells (cellsB []) 5)) (.slice (some ⟨w.heap.size, 0, none⟩) 32 32) a (fun _ => True) := hA0.bytes HA.out
  have hz0 : w.heap.size + 1 + 1 + 1 ≤ (w2.alloc (.cells (cellsB []) 5)).heap.size := by simp; omega
  subst ew2
  clear hA2 hB2 hD2 hbl2 hz2
  go_enter Tryd.func48, Tryd.ntmps48
  go_wp2_with (at_builtin; first | (refine wpList_append_bytes rfl (.tmp 6) (.tmp 7) rfl (w.heap.size + 1 + 1 + 1) _ _ [] a _ rfl ho0 rfl hs0 (by rw [HA.out]; decide) hz0 ?_; intro v1 w1 o1 g1; have hC1 : Below w.heap.size w w1 := hb0.grown g1 hb0.size (fun k hk => by have := ho0.ownBlock k hk; omega); have hB1 := hB0.grown g1 (fun e => by have := ho0.ownBlock _ e.symm; omega); have hD1 := hD0.grown g1 (fun e => by have := ho0.ownBlock _ e.symm; omega); have hz1 : w.heap.size + 1 + 1 + 1 ≤ w1.heap.size := Nat.le_trans hz0 g1.size; have hs1 : Bytes w1 (.slice (some ⟨w.heap.size + 1, 0, none⟩) 32 32) b (fun _ => True) := hB1.bytes HB.out; clear ho0 hb0 hA0 hB0 hD0 hs0 hz0 g1) | (refine wpList_append_bytes rfl (.tmp 9) (.tmp 10) rfl (w.heap.size + 1 + 1 + 1) _ _ ([] ++ a) b _ rfl o1 rfl hs1 (by rw [List.length_append, HA.out, HB.out]; decide) hz1 ?_; intro v3 w3 o3 g3))
  have hC3 := hC1.grown g3 hC1.size (fun k hk => by have := o1.ownBlock k hk; omega)
  have hD3 := hD1.grown g3 (fun e => by have := o1.ownBlock _ e.symm; omega)
  have hs3 : Bytes w3 v3 (a ++ b) (fun _ => True) := o3.bytes _ fun _ _ => trivial
  clear g3 o1 o3 hs1 hC1 hD1 hB1
  refine (rtagged_any _ v3 (a ++ b) _ w3 (by decide) hs3 (hK.below hC3 hkl) (hI.below hC3 hil) (by rw [List.length_append, HA.out, HB.out]; decide)).mono ?_
  rintro e w5 ⟨rfl, hb5⟩
  have hp : Hid (taggedOf (ByteArray.mk #[112, 97, 105, 114]).data.toList (a ++ b) = pairOf a b) := rfl
  rw [hp.out]
  have hB5 := hC3.trans (hb5.mono hC3.size)
  have hD5 := hD3.below hb5 hD3.lt
  have HSZ := Lib.hid (Tryd.sizeD_of _ (pairOf_len a b))
  have HCD : Hid ((cellsB (pairOf a b)).size = (cellsB (List.replicate 32 0)).size) := Lib.hid (by rw [cellsB_size, pairOf_len]; rfl)
  clear hC3 hD3 hb5 hs3
  go_wp2_with (refine wpList_store_row rfl 25 (.tmp 4) (.tmp 13) rfl (w.heap.size + 1 + 1) rfl (cellsB (pairOf a b)) _ 25 rfl hD5 HCD.out HSZ.out (cellsB_one _) ?_; intro w9 hg9 hr9 hz9)
  refine bodyPost_ret (v := .agg (cellsB (pairOf a b))) (results_cell_row rfl _ _ (w.heap.size + 1 + 1) 25 _ (0, 0) _ rfl hr9 Tryd.underD rfl HSZ.out) rfl ⟨rfl, ?_⟩
  exact hB5.grown hg9 hB5.size (fun k hk => by cases hk; omega)
end Go.Proofs.YteogcilnpkaplaaDoor

/- wots.lengths and wots.Nibbles. Conditions: the digest has 32 bytes. -/
import Derived.Test.YthhlfcbkggahmaaDoorWMem
namespace Go.Proofs.YthhlfcbkggahmaaDoor
open Go.RowKit
theorem Tryd.under18 : Tryd.prog.underlying 48 = some (.array 18 3) := by kernel_rfl
theorem Tryd.size18 : (Tryd.prog.info? 48).map (·.size) = some 18 := by kernel_rfl
theorem Tryd.size18_of (l : List Nat) (h : l.length = 18) : (Tryd.prog.info? 48).map (·.size) = some (cellsN l).size := by rw [cellsN_size, h]; exact Tryd.size18
/-- The row of lengths behind i rounds. -/
def nRow (d : List UInt8) (i : Nat) : List Nat := (List.range i).map (dig d) ++ List.replicate (18 - i) 0
theorem nRow_len (d : List UInt8) (i : Nat) (h : i ≤ 18) : (nRow d i).length = 18 := by unfold nRow; simp; omega
theorem nRow_set (d : List UInt8) (i : Nat) (h : i < 18) : (nRow d i).set i (dig d i) = nRow d (i + 1) := by
  unfold nRow
  rw [List.set_append_right _ _ (by simp)]
  simp only [List.length_map, List.length_range, Nat.sub_self]
  rw [show 18 - i = (18 - (i + 1)) + 1 by omega, List.replicate_succ, List.set_cons_zero, List.range_succ, List.map_append, List.append_assoc]
  rfl
theorem nRow_get (d : List UInt8) (i : Nat) (_h : i < 18) : (nRow d (i + 1)).getD i 0 = dig d i := by
  unfold nRow
  rw [List.getD_eq_getElem?_getD, List.getElem?_append_left (by simp), List.getElem?_map, List.getElem?_range (by omega)]; rfl
theorem nRow_all (d : List UInt8) : ((nRow d 16).set 16 (digSum d 16 / 16)).set 17 (digSum d 16 % 16) = nibs d := by
  have e : nibs d = (List.range 16).map (nib d) ++ [nib d 16, nib d 17] := by
    unfold nibs
    rw [show 18 = 16 + 1 + 1 from rfl, List.range_succ, List.range_succ]; simp
  have e2 : (List.range 16).map (nib d) = (List.range 16).map (dig d) := by
    refine List.map_congr_left fun i hi => ?_
    unfold nib; rw [if_pos (List.mem_range.1 hi)]
  rw [e, e2]
  unfold nRow
  rw [List.set_append_right _ _ (by simp), List.set_append_right _ _ (by simp)]
  simp only [List.length_map, List.length_range]
  rfl
theorem dig_odd (d : List UInt8) (i : Nat) (h : i % 2 = 1) : bits .and .u8 (by8 d (i / 2)) 15 = (dig d i : Nat) := by
  have hall : (List.range 256).all (fun x => bits .and .u8 (x : Int) 15 == ((x % 16 : Nat) : Int)) = true := by kernel_rfl
  have hlt := (d.getD (i / 2) 0).toNat_lt
  have := List.all_eq_true.1 hall (d.getD (i / 2) 0).toNat (List.mem_range.2 (by omega))
  unfold dig by8 Y
  rw [if_neg (by omega)]
  simpa using this
theorem dig_even (d : List UInt8) (i : Nat) (h : ¬ i % 2 = 1) : by8 d (i / 2) / 16 = (dig d i : Nat) := by
  unfold dig by8 Y
  rw [if_pos (by omega)]; omega
theorem and15 (x : Nat) (h : x ≤ 240) : bits .and .i64 (x : Int) 15 = ((x % 16 : Nat) : Int) := by
  have hall : (List.range 241).all (fun x => bits .and .i64 (x : Int) 15 == ((x % 16 : Nat) : Int)) = true := by kernel_rfl
  simpa using List.all_eq_true.1 hall x (List.mem_range.2 (by omega))
set_option maxRecDepth 10000 in
set_option maxHeartbeats 1000000 in
theorem lengths_any (d : List UInt8) (w : World) (hd : d.length = 32) :
    Calls Tryd.prog 28 #[.agg (cellsB d)] w fun e w' => e = .returned (.agg (cellsN (nibs d))) ∧ Below w.heap.size w w' := by
  have HD := Lib.hid hd
  clear hd
  have hd1 : Row ((w.alloc (.cells (cellsB d) 23)).alloc (.cells (cellsN (nRow d 0)) 48)) w.heap.size 23 (cellsB d) := (Row.new w _ _).alloc _
  have hn1 : Row ((w.alloc (.cells (cellsB d) 23)).alloc (.cells (cellsN (nRow d 0)) 48)) (w.heap.size + 1) 48 (cellsN (nRow d 0)) := by
    have h := Row.new (w.alloc (.cells (cellsB d) 23)) (cellsN (nRow d 0)) 48
    rwa [show (w.alloc (.cells (cellsB d) 23)).heap.size = w.heap.size + 1 by simp] at h
  have hb1 : Below w.heap.size w ((w.alloc (.cells (cellsB d) 23)).alloc (.cells (cellsN (nRow d 0)) 48)) := ((Below.refl _ _).alloc (Nat.le_refl _) _).alloc (by simp) _
  go_enter Tryd.func28, Tryd.ntmps28
  go_wp2
  go_loopw [6, 3] (fun t s wr => ∃ i : Nat, i ≤ 16 ∧ t = .int .i64 (i : Int) ∧ s = .int .i64 (digSum d i : Nat) ∧ Below w.heap.size w wr ∧ Row wr w.heap.size 23 (cellsB d) ∧ Row wr (w.heap.size + 1) 48 (cellsN (nRow d i))) (fun t _ _ => 16 - (intOf t).toNat)
  case atStart => exact ⟨0, by omega, rfl, rfl, hb1, hd1, hn1⟩
  case round =>
    clear hb1 hd1 hn1
    obtain ⟨i, hi, rfl, rfl, hb, hdr, hn⟩ := hrel
    have hsl := digSum_le d i
    by_cases hlt : i < 16
    · have c1 := hdr.byte (i / 2) (by rw [HD.out]; omega)
      have hbd := by8_bd d (i / 2)
      have f2 := hn.free i
      have c2 := hn.num i (by rw [nRow_len d i (by omega)]; omega)
      have hdl := dig_le d i
      have hset := hn.setN i (dig d i)
      rw [nRow_set d i (by omega)] at hset
      have c3 := hset.num i (by rw [nRow_len d (i + 1) (by omega)]; omega)
      rw [nRow_get d i (by omega)] at c3
      have hsum : (digSum d (i + 1) : Int) = digSum d i + (15 - dig d i) := by rw [digSum]; omega
      have HS := Lib.hid hsum
      clear hsum
      by_cases hodd : i % 2 = 1
      · have hv := dig_odd d i hodd
        have hr : (i : Int) % 2 = 1 := by omega
        go_wp2
        go_roundw
        case rel => exact ⟨i + 1, by omega, by go_num, (by have := HS.out; go_num), hb.setCell (by simp) _, hdr.other _ _ (by simp), hset⟩
        case measure => simp [intOf]; omega
      · have hv := dig_even d i hodd
        have hr : (i : Int) % 2 = 0 := by omega
        go_wp2
        go_roundw
        case rel => exact ⟨i + 1, by omega, by go_num, (by have := HS.out; go_num), hb.setCell (by simp) _, hdr.other _ _ (by simp), hset⟩
        case measure => simp [intOf]; omega
    · obtain rfl : i = 16 := by omega
      have f16 := hn.free 16
      have c16 := hn.num 16 (by rw [nRow_len d 16 (by omega)]; omega)
      have hs1 := hn.setN 16 (digSum d 16 / 16)
      have c17 := hs1.num 17 (by rw [List.length_set, nRow_len d 16 (by omega)]; omega)
      have f17 := hs1.free 17
      have hset := hs1.setN 17 (digSum d 16 % 16)
      rw [nRow_all] at hset
      have e1 : ((digSum d 16 / 16 : Nat) : Int) = (digSum d 16 : Int) / 16 := by omega
      have e2 : ((digSum d 16 % 16 : Nat) : Int) = (digSum d 16 : Int) % 16 := by omega
      rw [e1] at hs1 c17 f17 hset
      rw [e2] at hset
      have h2 := and15 (digSum d 16) (by omega)
      rw [e2] at h2
      clear e1 e2
      have hb2 : Below w.heap.size w ((wr.setCell ⟨w.heap.size + 1, 16, none⟩ (.int .i64 ((digSum d 16 : Int) / 16))).setCell ⟨w.heap.size + 1, 17, none⟩ (.int .i64 ((digSum d 16 : Int) % 16))) := (hb.setCell (by simp) _).setCell (by simp) _
      have HSZ := Lib.hid (Tryd.size18_of (nibs d) (nibs_len d))
      go_wp2_with (first | (refine wpList_load_row rfl 48 (.tmp 2) rfl (w.heap.size + 1) rfl 48 (cellsN (nibs d)) (0, 0) _ hset Tryd.under18 rfl HSZ.out ?_) | (refine wpList_store_row rfl 48 (.tmp 2) (.tmp 39) rfl (w.heap.size + 1) rfl (cellsN (nibs d)) _ 48 rfl hset rfl HSZ.out (cellsN_one _) ?_; intro w9 hg9 hr9 hz9))
      refine bodyPost_ret (v := .agg (cellsN (nibs d))) (results_cell_row rfl _ _ (w.heap.size + 1) 48 (cellsN (nibs d)) (0, 0) _ rfl hr9 Tryd.under18 rfl HSZ.out) rfl ⟨rfl, ?_⟩
      exact hb2.grown hg9 hb2.size (fun k hk => by cases hk; omega)
end Go.Proofs.YthhlfcbkggahmaaDoor

/- crossbarref04.Nibbles. Conditions: the digest has 32 bytes. -/
import Derived.Test.YthhlfcbkggahmaaDoorWLen
namespace Go.Proofs.YthhlfcbkggahmaaDoor
open Go.RowKit
def dgs (d : List UInt8) (n : Nat) : List Nat := (List.range n).map (dig d)
theorem dgs_succ (d : List UInt8) (n : Nat) : dgs d (n + 1) = dgs d n ++ [dig d n] := by unfold dgs; rw [List.range_succ]; simp
theorem dgs_len (d : List UInt8) (n : Nat) : (dgs d n).length = n := by simp [dgs]
theorem dgs_all (d : List UInt8) : dgs d 16 ++ [digSum d 16 / 16] ++ [digSum d 16 % 16] = nibs d := by
  have e : nibs d = (List.range 16).map (nib d) ++ [nib d 16] ++ [nib d 17] := by
    unfold nibs
    rw [show 18 = 16 + 1 + 1 from rfl, List.range_succ, List.range_succ]; simp
  have e2 : (List.range 16).map (nib d) = dgs d 16 := by
    refine List.map_congr_left fun i hi => ?_
    unfold nib; rw [if_pos (List.mem_range.1 hi)]
  rw [e, e2]; rfl
theorem dig_hi (d : List UInt8) (i : Nat) : by8 d i / 16 = (dig d (2 * i) : Nat) := by
  unfold dig by8 Y
  rw [if_pos (by omega), show 2 * i / 2 = i by omega]; omega
theorem dig_lo (d : List UInt8) (i : Nat) : by8 d i % 16 = (dig d (2 * i + 1) : Nat) := by
  unfold dig by8 Y
  rw [if_neg (by omega), show (2 * i + 1) / 2 = i by omega]; omega
theorem digSum_two (d : List UInt8) (i : Nat) : digSum d (2 * (i + 1)) = digSum d (2 * i) + (15 - dig d (2 * i)) + (15 - dig d (2 * i + 1)) := by
  rw [show 2 * (i + 1) = 2 * i + 1 + 1 by omega, digSum, digSum]
theorem dgs_two (d : List UInt8) (i : Nat) : dgs d (2 * (i + 1)) = dgs d (2 * i) ++ [dig d (2 * i)] ++ [dig d (2 * i + 1)] := by
  rw [show 2 * (i + 1) = 2 * i + 1 + 1 by omega, dgs_succ, dgs_succ]
theorem new_num (w : World) (n : Nat) : (w.alloc (.cells #[.int .i64 (n : Int)] 3)).cell? ⟨w.heap.size, 0, none⟩ = some (.int .i64 (n : Int)) := (Row.new w #[.int .i64 (n : Int)] 3).cell 0
set_option maxRecDepth 10000 in
set_option maxHeartbeats 2000000 in
theorem rnibbles_any (d : List UInt8) (w : World) (hd : d.length = 32) :
    Calls Tryd.prog 14 #[.agg (cellsB d)] w fun e w' => ∃ v, e = .returned v ∧ Nums w' v (nibs d) ∧ Below w.heap.size w w' := by
  have HD := Lib.hid hd
  clear hd
  have hd1 : Row (w.alloc (.cells (cellsB d) 23)) w.heap.size 23 (cellsB d) := Row.new w _ _
  have hb1 : Below w.heap.size w (w.alloc (.cells (cellsB d) 23)) := (Below.refl _ _).alloc (Nat.le_refl _) _
  go_enter Tryd.func14, Tryd.ntmps14
  go_wp2
  go_loopw [5, 3, 4] (fun t v s wr => ∃ i : Nat, i ≤ 8 ∧ t = .int .i64 (i : Int) ∧ s = .int .i64 (digSum d (2 * i) : Nat) ∧ OwnN wr (w.heap.size + 1) v (dgs d (2 * i)) ∧ Below w.heap.size w wr ∧ w.heap.size + 1 ≤ wr.heap.size ∧ Row wr w.heap.size 23 (cellsB d)) (fun t _ _ _ => 8 - (intOf t).toNat)
  case atStart => exact ⟨0, by omega, rfl, rfl, OwnN.nil _ _, hb1, by simp, hd1⟩
  case round =>
    clear hb1 hd1
    obtain ⟨i, hi, rfl, rfl, ho, hb, hz, hdr⟩ := hrel
    have hsl := digSum_le d (2 * i)
    by_cases hlt : i < 8
    · have c1 := hdr.byte i (by rw [HD.out]; omega)
      have hbd := by8_bd d i
      have hv1 := dig_hi d i
      have hv2 := dig_lo d i
      have hl1 := dig_le d (2 * i)
      have hl2 := dig_le d (2 * i + 1)
      have HS := Lib.hid (digSum_two d i)
      go_wp2_with (at_builtin; first | (refine wpList_append_num rfl (.tmp 22) (.tmp 24) rfl (w.heap.size + 1) _ (dgs d (2 * i)) (dig d (2 * i)) _ rfl (ho.alloc _) rfl (new_num _ _) (by rw [dgs_len]; omega) (by simp; omega) ?_; intro v6 w6 ho6 hg6; have hb6 : Below w.heap.size w w6 := (hb.alloc hb.size _).grown hg6 (by simp; omega) (fun k hk => (by have := ho.ownBlock k hk; omega)); have hd6 := (hdr.alloc (.cells #[.int .i64 (dig d (2 * i) : Nat)] 3)).grown hg6 (fun e => by have := ho.ownBlock _ e.symm; omega); have hz6 : w.heap.size + 1 ≤ w6.heap.size := (by have := hg6.size; simp at this; omega); clear hg6) | (refine wpList_append_num rfl (.tmp 26) (.tmp 28) rfl (w.heap.size + 1) _ (dgs d (2 * i) ++ [dig d (2 * i)]) (dig d (2 * i + 1)) _ rfl (ho6.alloc _) rfl (new_num _ _) (by rw [List.length_append, dgs_len]; simp; omega) (by simp; omega) ?_; intro v7 w7 ho7 hg7))
      have hb7 : Below w.heap.size w w7 := (hb6.alloc hb6.size _).grown hg7 (by simp; omega) (fun k hk => by have := ho6.ownBlock k hk; omega)
      have hd7 := (hd6.alloc (.cells #[.int .i64 (dig d (2 * i + 1) : Nat)] 3)).grown hg7 (fun e => by have := ho6.ownBlock _ e.symm; omega)
      have hz7 : w.heap.size + 1 ≤ w7.heap.size := by have := hg7.size; simp at this; omega
      rw [← dgs_two] at ho7
      go_roundw
      case rel => exact ⟨i + 1, by omega, by go_num, (by have := HS.out; go_num), ho7, hb7, hz7, hd7⟩
      case measure => simp [intOf]; omega
    · obtain rfl : i = 8 := by omega
      have HA := Lib.hid (dgs_all d)
      have hs2 := digSum_le d 16
      obtain ⟨q, hq⟩ : ∃ q, digSum d 16 / 16 = q := ⟨_, rfl⟩
      obtain ⟨r, hr⟩ : ∃ r, digSum d 16 % 16 = r := ⟨_, rfl⟩
      rw [hq, hr] at HA
      have hq1 : (digSum d 16 : Int) / 16 = (q : Int) := by omega
      have hr1 : (digSum d 16 : Int) % 16 = (r : Int) := by omega
      have hq2 : q ≤ 15 := by omega
      have hr2 : r ≤ 15 := by omega
      clear hq hr
      go_wp2_with (at_builtin; first | (refine wpList_append_num rfl (.tmp 37) (.tmp 40) rfl (w.heap.size + 1) _ (dgs d (2 * 8)) q _ rfl (ho.alloc _) rfl (new_num _ _) (by rw [dgs_len]; omega) (by simp; omega) ?_; intro v6 w6 ho6 hg6; have hb6 : Below w.heap.size w w6 := (hb.alloc hb.size _).grown hg6 (by simp; omega) (fun k hk => (by have := ho.ownBlock k hk; omega)); have hz6 : w.heap.size + 1 ≤ w6.heap.size := (by have := hg6.size; simp at this; omega); clear hg6) | (refine wpList_append_num rfl (.tmp 42) (.tmp 45) rfl (w.heap.size + 1) _ (dgs d (2 * 8) ++ [q]) r _ rfl (ho6.alloc _) rfl (new_num _ _) (by rw [List.length_append, dgs_len]; simp) (by simp; omega) ?_; intro v7 w7 ho7 hg7))
      have hb7 : Below w.heap.size w w7 := (hb6.alloc hb6.size _).grown hg7 (by simp; omega) (fun k hk => by have := ho6.ownBlock k hk; omega)
      have hn7 := ho7.nums
      rw [HA.out] at hn7
      go_ret
      exact ⟨_, rfl, hn7, hb7⟩
end Go.Proofs.YthhlfcbkggahmaaDoor

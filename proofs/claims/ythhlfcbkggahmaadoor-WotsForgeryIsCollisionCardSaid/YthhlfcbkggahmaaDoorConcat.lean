/- slices.Grow from nil and slices.Concat over slices of bytes. Conditions: the lengths together stay below 2^45. -/
import Derived.Test.YthhlfcbkggahmaaDoorSum
import Derived.Lib.AppendZeros
namespace Go.Proofs.YthhlfcbkggahmaaDoor
open Go.RowKit
theorem Tryd.underI : Tryd.prog.underlying 3 = some (.int .i64) := by kernel_rfl
set_option maxHeartbeats 400000 in
theorem grow_any (n : Nat) (w : World) (hn : n ≤ 70368744177664) :
    Calls Tryd.prog 47 #[.slice none 0 0, .int .i64 (n : Int)] w fun e w' => ∃ v', e = .returned v' ∧ OwnB w' w.heap.size v' [] ∧ Below w.heap.size w w' := by
  by_cases h0 : 0 < n
  · obtain ⟨i0, hi, hz0, hz1, hz2⟩ := info_parts Tryd.infoB
    have hrun := fun w => Lib.run_append_nil_zeros (P := Tryd.prog) w 29 3 29 5 i0 (.int .u8 0) .i64 .i64 Tryd.underB Tryd.underI hi hz0 n h0 (by omega) (by omega) (by rw [hz2]; omega)
    go_enter Tryd.func47, Tryd.ntmps47
    go_wp2_with (refine Lib.wpList_append_run _ rfl (.tmp 20) (.tmp 21) 29 3 rfl _ _ rfl rfl _ _ (hrun _) ?_)
    go_ret
    refine ⟨_, rfl, ⟨rfl, .inr ⟨w.heap.size, grownCap w n 0 5, _, rfl, Nat.le_refl _, heap_alloc_new w _, Nat.zero_le _, grownCap_le_maxLen w n 0 _ (by unfold maxLen; omega), ?_, rfl⟩⟩, ((Below.refl _ _).alloc (Nat.le_refl _) _).drew⟩
    have hge := grownCap_ge w n 0 5
    rw [Array.size_append, size_zeroCells, size_zeroCells]
    simp; omega
  · obtain rfl : n = 0 := by omega
    go_enter Tryd.func47, Tryd.ntmps47
    go_wp2
    go_ret
    exact ⟨_, rfl, OwnB.nil _ _, Below.refl _ _⟩
def sumLen (ps : List (Value × List UInt8)) : Nat := (ps.map fun p => p.2.length).sum
def flatB (ps : List (Value × List UInt8)) : List UInt8 := ps.flatMap fun p => p.2
theorem flatB_len (ps : List (Value × List UInt8)) : (flatB ps).length = sumLen ps := by
  induction ps with
  | nil => rfl
  | cons p ps ih => simp only [flatB, sumLen, List.flatMap_cons, List.length_append, List.map_cons, List.sum_cons] at *; omega
theorem take_one {α : Type} (l : List α) (k : Nat) (p : α) (h : l[k]? = some p) : l.take (k + 1) = l.take k ++ [p] := by
  rw [List.take_add_one, h]; rfl
theorem sumLen_snoc (l : List (Value × List UInt8)) (p : Value × List UInt8) : sumLen (l ++ [p]) = sumLen l + p.2.length := by
  unfold sumLen; simp
theorem flatB_snoc (l : List (Value × List UInt8)) (p : Value × List UInt8) : flatB (l ++ [p]) = flatB l ++ p.2 := by
  unfold flatB; simp
theorem sumLen_take (l : List (Value × List UInt8)) (k : Nat) : sumLen (l.take k) ≤ sumLen l := by
  have h := congrArg sumLen (List.take_append_drop k l)
  have : sumLen (l.take k ++ l.drop k) = sumLen (l.take k) + sumLen (l.drop k) := by unfold sumLen; rw [List.map_append, List.sum_append]
  omega
set_option maxHeartbeats 1000000 in
theorem concat_any (ps : List (Value × List UInt8)) (bp m : Nat) (w : World) (hm : m = ps.length) (hm1 : m ≤ 1000) (hrow : Row w bp 29 (ps.map (·.1)).toArray) (hall : ∀ p ∈ ps, Bytes w p.1 p.2 (fun _ => True)) (hlen : sumLen ps ≤ 35184372088832) :
    Calls Tryd.prog 38 #[.slice (some ⟨bp, 0, none⟩) m m] w fun e w' => ∃ v', e = .returned v' ∧ OwnB w' w.heap.size v' (flatB ps) ∧ Below w.heap.size w w' := by
  have HM := Lib.hid hm
  clear hm
  have hget : ∀ k, k < m → ∃ p a c, ps[k]? = some p ∧ p ∈ ps ∧ w.cell? ⟨bp, k, none⟩ = some (.slice a p.2.length c) ∧ p.1 = .slice a p.2.length c := fun k hk => by
    have hk' : k < ps.length := by rw [← HM.out]; exact hk
    have hmem : ps[k] ∈ ps := List.getElem_mem hk'
    obtain ⟨a, c, e, _⟩ := hall _ hmem
    refine ⟨ps[k], a, c, List.getElem?_eq_getElem hk', hmem, ?_, e⟩
    rw [hrow.cell k, ← e]; simp [hk']
  go_enter Tryd.func38, Tryd.ntmps38
  go_wp2
  go_loop [3, 5, 11] (fun z _ t => ∃ k x : Nat, k ≤ m ∧ t = .int .i64 (k : Int) ∧ Hid (x = sumLen (ps.take k)) ∧ z = .int .i64 (x : Int)) (fun _ _ t => m - (intOf t).toNat)
  case atStart => exact ⟨0, 0, by omega, rfl, rfl, rfl⟩
  case round =>
    obtain ⟨k, x, hk, rfl, hx, rfl⟩ := hrel
    have hxb : x ≤ 35184372088832 := by have := hx.out; have := sumLen_take ps k; omega
    by_cases hlt : k < m
    · obtain ⟨p, a, c, hp, hpm, hcell, _⟩ := hget k hlt
      have HP := Lib.hid hp
      have hx2 : Hid (x + p.2.length = sumLen (ps.take (k + 1))) := by show _ = _; rw [take_one _ _ _ hp, sumLen_snoc, hx.out]
      have hxb2 : x + p.2.length ≤ 35184372088832 := by have := hx2.out; have := sumLen_take ps (k + 1); omega
      clear hp hpm
      go_wp2
      go_round
      case rel => exact ⟨k + 1, x + p.2.length, by omega, by go_num, hx2, by go_num⟩
      case measure => simp [intOf]; omega
    · have hkm : k = ps.length := by have := HM.out; omega
      clear hx
      go_wp2_with fail
      refine (grow_any x w (by omega)).mono ?_
      rintro e w1 ⟨v1, rfl, ho1, hb1⟩
      go_wp2
      go_loopw [6, 8, 27] (fun v _ t wr => ∃ k : Nat, k ≤ m ∧ t = .int .i64 (k : Int) ∧ OwnB wr w.heap.size v (flatB (ps.take k)) ∧ Below w.heap.size w wr) (fun _ _ t _ => m - (intOf t).toNat)
      case atStart => exact ⟨0, by omega, rfl, ho1, hb1⟩
      case round =>
        clear ho1 hb1 hkm hlt hxb hk
        obtain ⟨j, hj, rfl, ho, hb⟩ := hrel
        by_cases hlt : j < m
        · obtain ⟨p, a, c, hp, hpm, hcell, hpe⟩ := hget j hlt
          have hcell' : wr.cell? ⟨bp, j, none⟩ = some (.slice a p.2.length c) := (hb.cell (p := ⟨bp, j, none⟩) hrow.lt).trans hcell
          have hsrc := (hall p hpm).later hb
          rw [hpe] at hsrc
          have hF : Hid (flatB (ps.take (j + 1)) = flatB (ps.take j) ++ p.2) := by show _ = _; rw [take_one _ _ _ hp, flatB_snoc]
          have hl2 : (flatB (ps.take j)).length + p.2.length ≤ 70368744177664 := by
            rw [flatB_len, ← sumLen_snoc, ← take_one _ _ _ hp]; have := sumLen_take ps (j + 1); omega
          have HL2 := Lib.hid hl2
          clear hp hpm hpe hcell hl2
          go_wp2_with (at_builtin; refine wpList_append_bytes rfl (.tmp 31) (.tmp 32) rfl w.heap.size _ _ (flatB (ps.take j)) p.2 _ rfl ho rfl hsrc HL2.out hb.size ?_; intro v6 w6 ho6 hg6)
          rw [← hF.out] at ho6
          go_roundw
          case rel => exact ⟨j + 1, by omega, by go_num, ho6, hb.grown hg6 hb.size (fun k hk => ho.ownBlock k hk)⟩
          case measure => simp [intOf]; omega
        · have hjm : Hid (ps.take j = ps) := by show _ = _; exact List.take_of_length_le (by have := HM.out; omega)
          go_wp2
          go_ret
          exact ⟨_, rfl, by rw [hjm.out] at ho; exact ho, hb⟩
end Go.Proofs.YthhlfcbkggahmaaDoor

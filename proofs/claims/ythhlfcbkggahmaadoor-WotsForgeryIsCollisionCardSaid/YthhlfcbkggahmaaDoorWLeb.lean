/- varint.AppendUint and crossbarref01.AppendUint at small numbers. Conditions: the number is below 16384, the bytes ahead of it are fewer than a million. -/
import Derived.Test.YthhlfcbkggahmaaDoorWMem
import Derived.Test.YthhlfcbkggahmaaDoorRefSum
namespace Go.Proofs.YthhlfcbkggahmaaDoor
open Go.RowKit
theorem or128 (x : Nat) (h : x < 256) : bits .or .u8 (x : Int) 128 = ((x % 128 + 128 : Nat) : Int) := by
  have hall : (List.range 256).all (fun x => bits .or .u8 (x : Int) 128 == ((x % 128 + 128 : Nat) : Int)) = true := by kernel_rfl
  simpa using List.all_eq_true.1 hall x (List.mem_range.2 h)
theorem leb_small {m : Nat} (h : m < 128) : leb m = [UInt8.ofNat m] := by unfold leb; rw [if_pos h]
theorem leb_step {m : Nat} (h : ¬ m < 128) (h2 : m ≤ 16383) : leb m = [lebHi m] ++ leb (m / 128) := by
  rw [leb_small (show m / 128 < 128 by omega)]; unfold leb; rw [if_neg h]; rfl
theorem leb_len (m : Nat) : (leb m).length ≤ 2 := by unfold leb; split <;> simp
theorem Y_ofNat {n : Nat} (h : n < 256) : Y (UInt8.ofNat n) = (n : Int) := by
  unfold Y; rw [UInt8.toNat_ofNat', Nat.mod_eq_of_lt (by omega)]
set_option maxRecDepth 10000 in
set_option maxHeartbeats 1000000 in
theorem uint_any (b : List UInt8) (v : Value) (n : Nat) (ok : Nat → Prop) (w : World) (hv : Bytes w v b ok) (hb : b.length ≤ 1000000) (hn : n ≤ 16383) :
    Calls Tryd.prog 39 #[v, .int .u64 (n : Int)] w fun e w' => ∃ v', e = .returned v' ∧ OwnB w' w.heap.size v' (b ++ leb n) ∧ Below w.heap.size w w' := by
  go_enter Tryd.func39, Tryd.ntmps39
  go_wp2_with fail
  refine (clone_any b v ok w hv (by omega)).mono ?_
  rintro e w1 ⟨v1, rfl, ho1, hb1⟩
  go_wp2
  go_loopw [5, 1] (fun x t wr => ∃ (xs : List UInt8) (m : Nat), t = .int .u64 (m : Int) ∧ m ≤ 16383 ∧ Hid (xs ++ leb m = b ++ leb n) ∧ OwnB wr w.heap.size x xs ∧ Below w.heap.size w wr) (fun _ t _ => (intOf t).toNat)
  case atStart => exact ⟨b, n, rfl, hn, rfl, ho1, hb1⟩
  case round =>
    clear ho1 hb1
    obtain ⟨xs, m, rfl, hm, he, ho, hbl⟩ := hrel
    have hxl : xs.length ≤ 1000002 := by
      have h := congrArg List.length he.out
      rw [List.length_append, List.length_append] at h
      have := leb_len n
      omega
    by_cases hlt : m < 128
    · have hy : (m : Int) = Y (UInt8.ofNat m) := (Y_ofNat (by omega)).symm
      have hy2 : (m : Int) % 256 = Y (UInt8.ofNat m) := by rw [← hy]; omega
      go_wp2_with (at_builtin; refine wpList_append_bytes rfl (.tmp 18) (.tmp 21) rfl w.heap.size _ _ xs [UInt8.ofNat m] (fun _ => True) rfl (ho.alloc _) rfl (one_byte _ _ _ (by first | exact hy | exact hy2)) (by simp; omega) (by have := hbl.size; simp; omega) ?_; intro v6 w6 ho6 hg6)
      go_ret
      refine ⟨_, rfl, ?_, (hbl.alloc hbl.size _).grown hg6 (by have := hbl.size; simp; omega) (fun k hk => ho.ownBlock k hk)⟩
      rw [← leb_small hlt, he.out] at ho6
      exact ho6
    · have hy : bits .or .u8 ((m : Int) % 256) 128 = Y (lebHi m) := by
        unfold lebHi
        rw [show (m : Int) % 256 = ((m % 256 : Nat) : Int) by omega, or128 _ (by omega), Y_ofNat (by omega)]; omega
      go_wp2_with (at_builtin; refine wpList_append_bytes rfl (.tmp 10) (.tmp 14) rfl w.heap.size _ _ xs [lebHi m] (fun _ => True) rfl (ho.alloc _) rfl (one_byte _ _ _ (by first | exact hy | rfl)) (by simp; omega) (by have := hbl.size; simp; omega) ?_; intro v6 w6 ho6 hg6)
      have hb6 : Below w.heap.size w w6 := (hbl.alloc hbl.size _).grown hg6 (by have := hbl.size; simp; omega) (fun k hk => ho.ownBlock k hk)
      go_roundw
      case rel => exact ⟨_, m / 128, by go_num, by omega, by rw [List.append_assoc, ← leb_step hlt hm]; exact he, ho6, hb6⟩
      case measure => simp [intOf]; omega
set_option maxRecDepth 10000 in
set_option maxHeartbeats 1000000 in
theorem ruint_any (b : List UInt8) (v : Value) (n : Nat) (ok : Nat → Prop) (w : World) (hv : Bytes w v b ok) (hb : b.length ≤ 1000000) (hn : n ≤ 16383) :
    Calls Tryd.prog 42 #[v, .int .u64 (n : Int)] w fun e w' => ∃ v', e = .returned v' ∧ OwnB w' w.heap.size v' (b ++ leb n) ∧ Below w.heap.size w w' := by
  have ho0 := OwnB.fresh w [] (by decide)
  have hs0 : Bytes (w.alloc (.cells (cellsB []) 5)) v b (fun _ => True) := (hv.later ((Below.refl _ _).alloc (Nat.le_refl _) _)).imp fun _ _ => trivial
  go_enter Tryd.func42, Tryd.ntmps42
  go_wp2_with (at_builtin; refine wpList_append_bytes rfl (.tmp 6) (.tmp 7) rfl w.heap.size _ _ [] b _ rfl ho0 rfl hs0 (by simp; omega) (by simp) ?_; intro v1 w1 ho1 g1)
  have hb1 : Below w.heap.size w w1 := ((Below.refl _ _).alloc (Nat.le_refl _) _).grown g1 (by simp) (fun k hk => ho0.ownBlock k hk)
  rw [List.nil_append] at ho1
  clear ho0 hs0 g1
  go_loopw [5, 1] (fun x t wr => ∃ (xs : List UInt8) (m : Nat), t = .int .u64 (m : Int) ∧ m ≤ 16383 ∧ Hid (xs ++ leb m = b ++ leb n) ∧ OwnB wr w.heap.size x xs ∧ Below w.heap.size w wr) (fun _ t _ => (intOf t).toNat)
  case atStart => exact ⟨b, n, rfl, hn, rfl, ho1, hb1⟩
  case round =>
    clear ho1 hb1
    obtain ⟨xs, m, rfl, hm, he, ho, hbl⟩ := hrel
    have hxl : xs.length ≤ 1000002 := by
      have h := congrArg List.length he.out
      rw [List.length_append, List.length_append] at h
      have := leb_len n
      omega
    by_cases hlt : m < 128
    · have hy : (m : Int) = Y (UInt8.ofNat m) := (Y_ofNat (by omega)).symm
      have hy2 : (m : Int) % 256 = Y (UInt8.ofNat m) := by rw [← hy]; omega
      go_wp2_with (at_builtin; refine wpList_append_bytes rfl (.tmp 20) (.tmp 23) rfl w.heap.size _ _ xs [UInt8.ofNat m] (fun _ => True) rfl (ho.alloc _) rfl (one_byte _ _ _ (by first | exact hy | exact hy2)) (by simp; omega) (by have := hbl.size; simp; omega) ?_; intro v6 w6 ho6 hg6)
      go_ret
      refine ⟨_, rfl, ?_, (hbl.alloc hbl.size _).grown hg6 (by have := hbl.size; simp; omega) (fun k hk => ho.ownBlock k hk)⟩
      rw [← leb_small hlt, he.out] at ho6
      exact ho6
    · have hy : (m : Int) % 128 + 128 = Y (lebHi m) := by
        unfold lebHi
        rw [Y_ofNat (by omega)]; omega
      go_wp2_with (at_builtin; refine wpList_append_bytes rfl (.tmp 11) (.tmp 16) rfl w.heap.size _ _ xs [lebHi m] (fun _ => True) rfl (ho.alloc _) rfl (one_byte _ _ _ (by first | exact hy | rfl)) (by simp; omega) (by have := hbl.size; simp; omega) ?_; intro v6 w6 ho6 hg6)
      have hb6 : Below w.heap.size w w6 := (hbl.alloc hbl.size _).grown hg6 (by have := hbl.size; simp; omega) (fun k hk => ho.ownBlock k hk)
      go_roundw
      case rel => exact ⟨_, m / 128, by go_num, by omega, by rw [List.append_assoc, ← leb_step hlt hm]; exact he, ho6, hb6⟩
      case measure => simp [intOf]; omega
end Go.Proofs.YthhlfcbkggahmaaDoor

/- sha256.word: the big-endian word with index i of a slice that holds it. -/
import Derived.Test.YthhlfcbkggahmaaDoorMem1
import Derived.Test.YthhlfcbkggahmaaDoorProg
namespace Go.Proofs.YthhlfcbkggahmaaDoor
open Go.RowKit
def wpart (l : List UInt8) (i : Nat) : Nat → Int
  | 0 => 0
  | k + 1 => wpart l i k * 256 + by8 l (4 * i + k)
theorem wpart_bd (l : List UInt8) (i k : Nat) (hk : k < 4) : 0 ≤ wpart l i k ∧ wpart l i k < 16777216 := by
  have h0 := by8_bd l (4 * i + 0)
  have h1 := by8_bd l (4 * i + 1)
  have h2 := by8_bd l (4 * i + 2)
  match k, hk with
  | 0, _ => simp [wpart]
  | 1, _ => simp only [wpart]; omega
  | 2, _ => simp only [wpart]; omega
  | 3, _ => simp only [wpart]; omega
theorem or_byte (X c : Int) (h0 : 0 ≤ X) (h1 : X < 16777216) (h2 : 0 ≤ c) (h3 : c ≤ 255) : bits .or .u32 (X * 256) c = X * 256 + c := by
  obtain ⟨x, rfl⟩ := Int.eq_ofNat_of_zero_le h0
  obtain ⟨d, rfl⟩ := Int.eq_ofNat_of_zero_le h2
  have e : (x : Int) * 256 = ((x * 256 : Nat) : Int) := by omega
  have hx' : x * 256 < 4294967296 := by omega
  have hx : x * 256 < 2 ^ 32 := hx'
  have hd : d < 2 ^ 32 := Nat.lt_of_le_of_lt (show d ≤ 255 by omega) (by decide)
  have hd8 : d < 2 ^ 8 := Nat.lt_of_le_of_lt (show d ≤ 255 by omega) (by decide)
  rw [e]
  have e1 : ((x * 256 : Nat) : Int) = V (BitVec.ofNat 32 (x * 256)) := by unfold V; rw [BitVec.toNat_ofNat, Nat.mod_eq_of_lt hx]
  have e2 : ((d : Nat) : Int) = V (BitVec.ofNat 32 d) := by unfold V; rw [BitVec.toNat_ofNat, Nat.mod_eq_of_lt hd]
  rw [e1, e2, bitsV_or]
  unfold V
  rw [BitVec.toNat_or, BitVec.toNat_ofNat, BitVec.toNat_ofNat, Nat.mod_eq_of_lt hx, Nat.mod_eq_of_lt hd]
  have := Nat.shiftLeft_add_eq_or_of_lt hd8 x
  rw [Nat.shiftLeft_eq] at this
  have e3 : x * 256 = x * 2 ^ 8 := rfl
  rw [e3, ← this, Int.natCast_add]
theorem wpart_four (l : List UInt8) (i : Nat) : wpart l i 4 = V (wordAt l i) := by
  unfold wordAt wordOf V
  have h0 := (l.getD (4 * i) 0).toNat_lt
  have h1 := (l.getD (4 * i + 1) 0).toNat_lt
  have h2 := (l.getD (4 * i + 2) 0).toNat_lt
  have h3 := (l.getD (4 * i + 3) 0).toNat_lt
  rw [BitVec.toNat_ofNat, Nat.mod_eq_of_lt (by omega)]
  simp only [wpart, by8, Y, Nat.add_zero]
  omega
set_option maxHeartbeats 400000 in
/-- sha256.word: the big-endian word with index i. -/
theorem word_any (l : List UInt8) (b off n cap i : Nat) (w : World) (hl : 4 * i + 4 ≤ n) (hn : n ≤ l.length) (hcap : n ≤ cap) (hcm : cap ≤ 9223372036854775807)
    (hc : BytesAt w b off l) : Calls Tryd.prog 49 #[.slice (some ⟨b, off, none⟩) n cap, .int .i64 (i : Int)] w
      fun e w' => e = .returned (.int .u32 (V (wordAt l i))) ∧ w = w' := by
  have hcj : ∀ j, j < 4 → w.cell? ⟨b, off + 4 * i + j, none⟩ = some (.int .u8 (by8 l (4 * i + j))) := fun j hj => by
    rw [Nat.add_assoc]; exact hc _ (by omega)
  clear hc
  go_enter Tryd.func49, Tryd.ntmps49
  go_wp2
  go_loop [4, 6, 15] (fun x _ t => ∃ k : Nat, k ≤ 4 ∧ t = .int .i64 (k : Int) ∧ x = .int .u32 (wpart l i k)) (fun _ _ t => 4 - (intOf t).toNat)
  case atStart => exact ⟨0, by omega, rfl, rfl⟩
  case round =>
    obtain ⟨k, hk, rfl, rfl⟩ := hrel
    by_cases hlt : k < 4
    · have hcell := hcj k hlt
      have hb := by8_bd l (4 * i + k)
      have hw := wpart_bd l i k hlt
      have ho := or_byte _ _ hw.1 hw.2 hb.1 hb.2
      go_wp2
      go_round
      case rel => exact ⟨k + 1, by omega, by go_num, by rw [wpart]⟩
      case measure => simp [intOf]; omega
    · obtain rfl : k = 4 := by omega
      have H := Lib.hid (wpart_four l i)
      go_wp2
      go_ret
      exact ⟨ret_int H.out, rfl⟩
end Go.Proofs.YthhlfcbkggahmaaDoor

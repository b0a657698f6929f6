/- crossbarref03.word: the big-endian word of a slice's first four bytes. -/
import Derived.Test.YthhlfcbkggahmaaDoorWord
import Derived.Test.YthhlfcbkggahmaaDoorEach
import Derived.BigQuiet
namespace Go.Proofs.YthhlfcbkggahmaaDoor
open Go.RowKit
theorem or_shift (X c : Int) (i : Nat) (h0 : 0 ≤ X) (h1 : X * 2 ^ i < 4294967296) (h2 : 0 ≤ c) (h3 : c < 2 ^ i) (hi : i ≤ 32) : bits .or .u32 (X * 2 ^ i) c = X * 2 ^ i + c := by
  obtain ⟨x, rfl⟩ := Int.eq_ofNat_of_zero_le h0
  obtain ⟨d, rfl⟩ := Int.eq_ofNat_of_zero_le h2
  have e : (x : Int) * 2 ^ i = ((x * 2 ^ i : Nat) : Int) := by simp
  rw [e] at h1
  have hx : x * 2 ^ i < 2 ^ 32 := by have : (4294967296 : Int) = ((2 ^ 32 : Nat) : Int) := rfl; rw [this] at h1; exact Int.ofNat_lt.1 h1
  have hdi : d < 2 ^ i := by have e2 : (2 : Int) ^ i = ((2 ^ i : Nat) : Int) := by simp
                             rw [e2] at h3; exact Int.ofNat_lt.1 h3
  have hd : d < 2 ^ 32 := Nat.lt_of_lt_of_le hdi (Nat.pow_le_pow_right (by decide) hi)
  rw [e]
  have e1 : ((x * 2 ^ i : Nat) : Int) = V (BitVec.ofNat 32 (x * 2 ^ i)) := by unfold V; rw [BitVec.toNat_ofNat, Nat.mod_eq_of_lt hx]
  have e2 : ((d : Nat) : Int) = V (BitVec.ofNat 32 d) := by unfold V; rw [BitVec.toNat_ofNat, Nat.mod_eq_of_lt hd]
  rw [e1, e2, bitsV_or]
  unfold V
  rw [BitVec.toNat_or, BitVec.toNat_ofNat, BitVec.toNat_ofNat, Nat.mod_eq_of_lt hx, Nat.mod_eq_of_lt hd]
  have := Nat.shiftLeft_add_eq_or_of_lt hdi x
  rw [Nat.shiftLeft_eq] at this
  rw [← this, Int.natCast_add]
theorem word_or (l : List UInt8) (i : Nat) : bits .or .u32 (bits .or .u32 (bits .or .u32 (by8 l (4 * i) * 16777216) (by8 l (4 * i + 1) * 65536)) (by8 l (4 * i + 2) * 256)) (by8 l (4 * i + 3)) = V (wordAt l i) := by
  have b0 := by8_bd l (4 * i)
  have b1 := by8_bd l (4 * i + 1)
  have b2 := by8_bd l (4 * i + 2)
  have b3 := by8_bd l (4 * i + 3)
  rw [← wpart_four]
  simp only [wpart, Nat.add_zero]
  generalize by8 l (4 * i) = a at *
  generalize by8 l (4 * i + 1) = b at *
  generalize by8 l (4 * i + 2) = c at *
  generalize by8 l (4 * i + 3) = d at *
  have s1 : bits .or .u32 (a * 16777216) (b * 65536) = (a * 256 + b) * 65536 := (or_shift a (b * 65536) 24 b0.1 (by omega) (by omega) (by omega) (by decide)).trans (by omega)
  have s2 : bits .or .u32 ((a * 256 + b) * 65536) (c * 256) = ((a * 256 + b) * 256 + c) * 256 := (or_shift (a * 256 + b) (c * 256) 16 (by omega) (by omega) (by omega) (by omega) (by decide)).trans (by omega)
  have s3 : bits .or .u32 (((a * 256 + b) * 256 + c) * 256) d = ((a * 256 + b) * 256 + c) * 256 + d := or_shift ((a * 256 + b) * 256 + c) d 8 (by omega) (by omega) (by omega) (by omega) (by decide)
  rw [s1, s2, s3]; omega
set_option maxHeartbeats 400000 in
theorem rword_any (l : List UInt8) (b off n cap i : Nat) (w : World) (hl : 4 ≤ n) (_hcap : n ≤ cap) (_hcm : cap ≤ 9223372036854775807)
    (hc : ∀ j, j < 4 → w.cell? ⟨b, off + j, none⟩ = some (.int .u8 (by8 l (4 * i + j)))) : Calls Tryd.prog 58 #[.slice (some ⟨b, off, none⟩) n cap] w
      fun e w' => e = .returned (.int .u32 (V (wordAt l i))) ∧ ∃ m, w' = w.drewN m := by
  have h0 : w.cell? ⟨b, off, none⟩ = some (.int .u8 (by8 l (4 * i))) := hc 0 (by omega)
  have h1 := hc 1 (by omega)
  have h2 := hc 2 (by omega)
  have h3 := hc 3 (by omega)
  have b0 := by8_bd l (4 * i)
  have b1 := by8_bd l (4 * i + 1)
  have b2 := by8_bd l (4 * i + 2)
  have b3 := by8_bd l (4 * i + 3)
  have hw := Lib.hid (word_or l i)
  clear hc
  go_enter Tryd.func58, Tryd.ntmps58
  go_wp2
  go_quiet (fail)
  go_wp2
  go_ret
  exact ⟨ret_int hw.out, nq, rfl⟩
end Go.Proofs.YthhlfcbkggahmaaDoor

/- The forms in which the walks speak of 32-bit words and bytes, and what the model's arithmetic makes of them. No conditions. -/
import Derived.Test.YthhlfcbkggahmaaDoorPure1
import Derived.WalkKit
import Derived.WalkSpells
import Derived.WalkLawsBesides
import Derived.Lib.Hide
namespace Go.Proofs.YthhlfcbkggahmaaDoor
open Go.RowKit

theorem ret_int {k : IntKind} {a b : Int} (h : a = b) : Ending.returned (.int k a) = .returned (.int k b) := by rw [h]
/-- The number of a word; of a byte. -/
def V (x : W32) : Int := (x.toNat : Int)
def Y (x : UInt8) : Int := (x.toNat : Int)
/-- Byte i of a list, word i of a list, as numbers. -/
def by8 (l : List UInt8) (i : Nat) : Int := Y (l.getD i 0)
def wd (l : List W32) (i : Nat) : Int := V (l.getD i 0)
theorem V_bd (x : W32) : 0 ≤ V x ∧ V x ≤ 4294967295 := by
  unfold V; have := x.isLt; omega
theorem Y_bd (x : UInt8) : 0 ≤ Y x ∧ Y x ≤ 255 := by
  unfold Y; have := x.toNat_lt; omega
theorem by8_bd (l : List UInt8) (i : Nat) : 0 ≤ by8 l i ∧ by8 l i ≤ 255 := Y_bd _
theorem wd_bd (l : List W32) (i : Nat) : 0 ≤ wd l i ∧ wd l i ≤ 4294967295 := V_bd _

theorem wrap_u32_of (n : Nat) : IntKind.u32.wrap (n : Int) = ((BitVec.ofNat 32 n).toNat : Int) := by
  simp [IntKind.wrap, IntKind.bits, IntKind.signed, BitVec.toNat_ofNat]
theorem wrapV_add (x y : W32) : IntKind.u32.wrap (V x + V y) = V (x + y) := by
  unfold V
  rw [show ((x.toNat : Int) + (y.toNat : Int)) = ((x.toNat + y.toNat : Nat) : Int) by omega, wrap_u32_of]
  rw [BitVec.ofNat_add]; simp
theorem addV (x y : W32) : (V x + V y) % 4294967296 = V (x + y) := by
  unfold V; rw [BitVec.toNat_add]; omega
theorem addV3 (x y z : W32) : (V x + V y + V z) % 4294967296 = V (x + y + z) := by
  unfold V; rw [BitVec.toNat_add, BitVec.toNat_add]; omega
theorem ofInt_toNat32 (x : W32) : BitVec.ofInt 32 (x.toNat : Int) = x := by
  simp
theorem bitsV_xor (x y : W32) : bits .xor .u32 (V x) (V y) = V (x ^^^ y) := by
  show IntKind.u32.wrap ((BitVec.ofInt 32 (x.toNat : Int) ^^^ BitVec.ofInt 32 (y.toNat : Int)).toNat : Int) = _
  rw [ofInt_toNat32, ofInt_toNat32, wrap_u32_of]; simp [V]
theorem bitsV_and (x y : W32) : bits .and .u32 (V x) (V y) = V (x &&& y) := by
  show IntKind.u32.wrap ((BitVec.ofInt 32 (x.toNat : Int) &&& BitVec.ofInt 32 (y.toNat : Int)).toNat : Int) = _
  rw [ofInt_toNat32, ofInt_toNat32, wrap_u32_of]; simp [V]
theorem bitsV_or (x y : W32) : bits .or .u32 (V x) (V y) = V (x ||| y) := by
  show IntKind.u32.wrap ((BitVec.ofInt 32 (x.toNat : Int) ||| BitVec.ofInt 32 (y.toNat : Int)).toNat : Int) = _
  rw [ofInt_toNat32, ofInt_toNat32, wrap_u32_of]; simp [V]
theorem bitsV_not (x : W32) : bits .xor .u32 4294967295 (V x) = V (~~~x) := by
  have h : (4294967295 : Int) = V (BitVec.allOnes 32) := rfl
  rw [h, bitsV_xor, BitVec.allOnes_xor]
theorem shrV (x : W32) (n : Nat) : V x / 2 ^ n = V (x >>> n) := by
  unfold V; rw [BitVec.toNat_ushiftRight, Nat.shiftRight_eq_div_pow]; simp
theorem shrV_3 (x : W32) : V x / (8 : Int) = V (x >>> 3) := (show V x / (8 : Int) = V x / 2 ^ 3 from rfl).trans (shrV x 3)
theorem shrV_10 (x : W32) : V x / (1024 : Int) = V (x >>> 10) := (show V x / (1024 : Int) = V x / 2 ^ 10 from rfl).trans (shrV x 10)
theorem shlV (x : W32) (n : Nat) : V x * 2 ^ n % 4294967296 = V (x <<< n) := by
  unfold V; rw [BitVec.toNat_shiftLeft, Nat.shiftLeft_eq]; simp
end Go.Proofs.YthhlfcbkggahmaaDoor

/- sha256.ror, and math/bits.RotateLeft32 within it: the rotation by 1 to 31 places. -/
import Derived.Test.YthhlfcbkggahmaaDoorMem1
import Derived.Test.YthhlfcbkggahmaaDoorProg
namespace Go.Proofs.YthhlfcbkggahmaaDoor
open Go.RowKit
theorem neg_and31 (n : Nat) (h1 : 1 ≤ n) (h2 : n ≤ 31) : bits .and .u64 (IntKind.u64.wrap (-(n : Int))) 31 = ((32 - n : Nat) : Int) := by
  have H : ∀ k : Fin 32, 1 ≤ k.val → bits .and .u64 (IntKind.u64.wrap (-(k.val : Int))) 31 = ((32 - k.val : Nat) : Int) := by decide
  exact H ⟨n, by omega⟩ h1
theorem rot_val (x : W32) (n : Nat) (h2 : n ≤ 31) : bits .or .u32 (V x * 2 ^ (32 - n) % 4294967296) (V x / 2 ^ (32 - (32 - n))) = V (rorW x n) := by
  rw [shlV, shrV, bitsV_or, BitVec.or_comm, show 32 - (32 - n) = n by omega]; rfl
set_option maxHeartbeats 400000 in
theorem ror_still (x : W32) (n : Nat) (h1 : 1 ≤ n) (h2 : n ≤ 31) (w : World) :
    Calls Tryd.prog 50 #[.int .u32 (V x), .int .i64 (n : Int)] w fun e w' => e = .returned (.int .u32 (V (rorW x n))) ∧ w' = w := by
  have hs := neg_and31 n h1 h2
  have hr := rot_val x n h2
  have hv := V_bd x
  go_enter Tryd.func50, Tryd.ntmps50
  go_wp2
  go_ret
  exact ⟨rfl, rfl⟩
theorem ror2 (x : W32) (w : World) : Calls Tryd.prog 50 #[.int .u32 (V x), .int .i64 2] w fun e w' => e = .returned (.int .u32 (V (rorW x 2))) ∧ w' = w := ror_still x 2 (by omega) (by omega) w
theorem ror6 (x : W32) (w : World) : Calls Tryd.prog 50 #[.int .u32 (V x), .int .i64 6] w fun e w' => e = .returned (.int .u32 (V (rorW x 6))) ∧ w' = w := ror_still x 6 (by omega) (by omega) w
theorem ror7 (x : W32) (w : World) : Calls Tryd.prog 50 #[.int .u32 (V x), .int .i64 7] w fun e w' => e = .returned (.int .u32 (V (rorW x 7))) ∧ w' = w := ror_still x 7 (by omega) (by omega) w
theorem ror11 (x : W32) (w : World) : Calls Tryd.prog 50 #[.int .u32 (V x), .int .i64 11] w fun e w' => e = .returned (.int .u32 (V (rorW x 11))) ∧ w' = w := ror_still x 11 (by omega) (by omega) w
theorem ror13 (x : W32) (w : World) : Calls Tryd.prog 50 #[.int .u32 (V x), .int .i64 13] w fun e w' => e = .returned (.int .u32 (V (rorW x 13))) ∧ w' = w := ror_still x 13 (by omega) (by omega) w
theorem ror17 (x : W32) (w : World) : Calls Tryd.prog 50 #[.int .u32 (V x), .int .i64 17] w fun e w' => e = .returned (.int .u32 (V (rorW x 17))) ∧ w' = w := ror_still x 17 (by omega) (by omega) w
theorem ror18 (x : W32) (w : World) : Calls Tryd.prog 50 #[.int .u32 (V x), .int .i64 18] w fun e w' => e = .returned (.int .u32 (V (rorW x 18))) ∧ w' = w := ror_still x 18 (by omega) (by omega) w
theorem ror19 (x : W32) (w : World) : Calls Tryd.prog 50 #[.int .u32 (V x), .int .i64 19] w fun e w' => e = .returned (.int .u32 (V (rorW x 19))) ∧ w' = w := ror_still x 19 (by omega) (by omega) w
theorem ror22 (x : W32) (w : World) : Calls Tryd.prog 50 #[.int .u32 (V x), .int .i64 22] w fun e w' => e = .returned (.int .u32 (V (rorW x 22))) ∧ w' = w := ror_still x 22 (by omega) (by omega) w
theorem ror25 (x : W32) (w : World) : Calls Tryd.prog 50 #[.int .u32 (V x), .int .i64 25] w fun e w' => e = .returned (.int .u32 (V (rorW x 25))) ∧ w' = w := ror_still x 25 (by omega) (by omega) w
end Go.Proofs.YthhlfcbkggahmaaDoor

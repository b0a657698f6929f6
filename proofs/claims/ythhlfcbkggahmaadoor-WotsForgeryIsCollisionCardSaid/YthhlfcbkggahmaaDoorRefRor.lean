/- crossbarref03.rotr: the rotation by 1 to 31 places. -/
import Derived.Test.YthhlfcbkggahmaaDoorMem1
import Derived.Test.YthhlfcbkggahmaaDoorProg
namespace Go.Proofs.YthhlfcbkggahmaaDoor
open Go.RowKit
set_option maxHeartbeats 400000 in
theorem rotr_still (x : W32) (n : Nat) (h1 : 1 ≤ n) (h2 : n ≤ 31) (w : World) :
    Calls Tryd.prog 57 #[.int .u32 (V x), .int .u64 (n : Int)] w fun e w' => e = .returned (.int .u32 (V (rorW x n))) ∧ w' = w := by
  have hv := V_bd x
  have hr : bits .or .u32 (V x / 2 ^ n) (V x * 2 ^ (32 - n) % 4294967296) = V (rorW x n) := by rw [shlV, shrV, bitsV_or]; rfl
  go_enter Tryd.func57, Tryd.ntmps57
  go_wp2
  go_ret
  exact ⟨rfl, rfl⟩
theorem rotr_int (x : W32) (n : Int) (h1 : 1 ≤ n) (h2 : n ≤ 31) (w : World) :
    Calls Tryd.prog 57 #[.int .u32 (V x), .int .u64 n] w fun e w' => e = .returned (.int .u32 (V (rorW x n.toNat))) ∧ w' = w := by
  have h := rotr_still x n.toNat (by omega) (by omega) w
  rwa [show ((n.toNat : Nat) : Int) = n by omega] at h
end Go.Proofs.YthhlfcbkggahmaaDoor

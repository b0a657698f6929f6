/- What the law walks say of lists, for good; the law walks' common steps. No conditions. -/
import Derived.Test.YthhlfcbkggahmaaDoorSane04
import Derived.Test.YthhlfcbkggahmaaDoorWCmp
import Derived.Test.YthhlfcbkggahmaaDoorWNibR
namespace Go.Proofs.YthhlfcbkggahmaaDoor
open Go.RowKit
def Asrt.nums {B : Nat} (l : List Nat) : Asrt B := ⟨fun v w => Nums w v l, fun _ _ _ h hg => h.later hg.below⟩
def Asrt.digs {B : Nat} (l : List (List UInt8)) : Asrt B := ⟨fun v w => Digs w v l, fun _ _ _ h hg => h.later hg.below⟩
theorem errR_01 (seed : List UInt8) (idx : Int) : errR seed idx = 0 ∨ errR seed idx = 1 := by unfold errR; split <;> simp
theorem errS_01 (sig : List (List UInt8)) : errS sig = 0 ∨ errS sig = 1 := by unfold errS; split <;> simp
/-- A digest is put into a fresh box. -/
theorem box_below {w w2 : World} {cs : Array Value} {t : TypeId} (h : (w.alloc (.cells cs t)).grownBy w2 (some w.heap.size)) : Below w.heap.size w w2 := ((Below.refl _ _).alloc (Nat.le_refl _) _).grown h (by simp) (fun k hk => by cases hk; exact Nat.le_refl _)
end Go.Proofs.YthhlfcbkggahmaaDoor

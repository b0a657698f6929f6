/- Appending a string's bytes to a slice of the call's own. Conditions: the lengths together stay below 2^46. -/
import Derived.Test.YthhlfcbkggahmaaDoorApp
import Derived.Lib.AppendStr
namespace Go.Proofs.YthhlfcbkggahmaaDoor
open Go.RowKit
theorem strCells_eq (s : ByteArray) : Lib.strCells s = s.data.toList.map B8 := rfl
theorem OwnB.fresh (w : World) (l : List UInt8) (hl : l.length ≤ 1000) : OwnB (w.alloc (.cells (cellsB l) 5)) w.heap.size (.slice (some ⟨w.heap.size, 0, none⟩) l.length l.length) l :=
  ⟨by simp, .inr ⟨w.heap.size, l.length, cellsB l, rfl, Nat.le_refl _, heap_alloc_new w _, Nat.le_refl _, by unfold maxLen; omega, by simp [cellsB], by rw [List.take_of_length_le (by simp [cellsB])]; rfl⟩⟩
theorem wpList_append_str {w : World} {ops : Array Oper} {rest : List Oper} {o : Oper} {a : Act} {Q : Exit → Act → World → Prop} (hgd : o.guard = none) (sl x : Operand)
    (ho : o.op = .call { callee := .builtin .append, args := #[sl, x], argTypes := #[29, 9] })
    (base : Nat) (v : Value) (xs : List UInt8) (s : ByteArray) (hs : a.eval sl = v) (hown : OwnB w base v xs) (hx : a.eval x = .string s)
    (hlen : xs.length + s.size ≤ 70368744177664) (hbase : base ≤ w.heap.size)
    (h : ∀ v' w', OwnB w' base v' (xs ++ s.data.toList) → w.grownBy w' v.ownBlock → wpList Tryd.prog ops Q rest (a.put o.dst v') w') : wpList Tryd.prog ops Q (o :: rest) a w := by
  obtain ⟨i0, hi, hz0, hz1, hz2⟩ := info_parts Tryd.infoB
  refine Lib.wpList_append_own_string w hgd sl x 29 9 ho base 5 i0 Tryd.underB (by kernel_rfl) hi hz0 hz1 hz2 v xs.length (xs.map B8) hs hown s hx (by unfold maxLen; omega) (by omega) hbase ?_
  intro v' w' h1 h2 _
  refine h v' w' ?_ h2
  unfold OwnB
  rw [List.length_append, List.map_append, ← strCells_eq]
  exact h1
end Go.Proofs.YthhlfcbkggahmaaDoor

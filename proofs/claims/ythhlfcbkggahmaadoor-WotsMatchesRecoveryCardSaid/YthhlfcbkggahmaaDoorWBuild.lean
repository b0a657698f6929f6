/- A slice of one digest is built. Conditions: the digest has 32 bytes. -/
import Derived.Test.YthhlfcbkggahmaaDoorWEach
namespace Go.Proofs.YthhlfcbkggahmaaDoor
open Go.RowKit
theorem fold_set : ∀ (l : List Value) (k : Nat) (base : List Value), k + l.length ≤ base.length →
    (l.zipIdx k).foldl (fun (cs : Array Value) x => cs.setIfInBounds x.2 x.1) base.toArray = (base.take k ++ l ++ base.drop (k + l.length)).toArray
  | [], k, base, _ => by simp
  | v :: l, k, base, h => by
    rw [List.length_cons] at h
    rw [List.zipIdx_cons, List.foldl_cons, List.setIfInBounds_toArray, fold_set l (k + 1) (base.set k v) (by rw [List.length_set]; omega)]
    congr 1
    rw [List.take_add_one, List.getElem?_set_self (by omega), List.take_set_of_le (by omega), List.drop_set_of_lt (by omega), List.length_cons]
    simp only [Option.toList, List.append_assoc, List.cons_append, List.nil_append]
    rw [show k + 1 + l.length = k + (l.length + 1) by omega]
theorem run_build_dig (w : World) (y : List UInt8) (hy : y.length = 32) :
    (Instr.buildSlice 33 1 #[(0, .agg (cellsB y))]).run Tryd.prog w = .ok (.slice (some ⟨w.heap.size, 0, none⟩) 1 1) (w.alloc (.cells (cellsB y) 23)) := by
  obtain ⟨i0, hi, hz0, hz1, hz2⟩ := info_parts Tryd.infoD
  have hsz : (cellsB y).size = 32 := by rw [cellsB_size, hy]
  have hm := madeD 32
  have hfill : Instr.fill (fun i => some (i * 32, 32)) (cellsB (List.replicate 32 0)) [(0, .agg (cellsB y))] = some (cellsB y) := by
    have hf := fold_set (y.map B8) 0 ((List.replicate 32 (0 : UInt8)).map B8) (by simp [hy])
    have hzs : (cellsB (List.replicate 32 0)).size = 32 := by rw [cellsB_size]; rfl
    simp only [Instr.fill, Value.cells, hsz, hzs]
    have e : (cellsB y).zipIdx.foldl (fun (cs : Array Value) (x : Value × Nat) => cs.setIfInBounds (0 * 32 + x.2) x.1) (cellsB (List.replicate 32 0)) = cellsB y := by
      have hz : (cellsB y).zipIdx = ((y.map B8).zipIdx 0).toArray := by simp [cellsB]
      rw [hz]
      simp only [Nat.zero_mul, Nat.zero_add, List.foldl_toArray']
      refine hf.trans ?_
      simp [cellsB, hy]
    rw [if_neg (by decide), e]
  generalize (Value.agg (cellsB (List.replicate 32 0))) = z at *
  generalize cellsB (List.replicate 32 0) = c0 at *
  unfold madeCells at hm
  generalize cellsB y = cy at *
  simp [Instr.buildSlice, Sem.run_bind, run_underlying Tryd.underDs, sizeOf, typeInfo, hi, hz1, zeroValue, hz0, hm, hfill, newRow]
theorem wpList_build_dig {w : World} {ops : Array Oper} {rest : List Oper} {o : Oper} {a : Act} {Q : Exit → Act → World → Prop} (hgd : o.guard = none) (x : Operand) (ho : o.op = .buildSlice 33 1 #[(0, x)])
    (y : List UInt8) (hx : a.eval x = .agg (cellsB y)) (hy : y.length = 32)
    (h : ∀ w', Row w' w.heap.size 23 (cellsB y) → Below w.heap.size w w' → w'.heap.size = w.heap.size + 1 → wpList Tryd.prog ops Q rest (a.put o.dst (.slice (some ⟨w.heap.size, 0, none⟩) 1 1)) w') : wpList Tryd.prog ops Q (o :: rest) a w := by
  refine wpList_plain hgd fun K hK => ?_
  unfold Oper.wp execOp
  simp only [ho, List.map_toArray, List.map_cons, List.map_nil, hx, Sem.run_bind, run_build_dig w y hy, Result.andThen_ok]
  exact hK _ _ (h _ (Row.new w _ _) ((Below.refl _ _).alloc (Nat.le_refl _) _) (by simp))
end Go.Proofs.YthhlfcbkggahmaaDoor

/- How rows of 32-bit words and of bytes lie in memory, and what stores do to them. No conditions. -/
import Derived.Test.YthhlfcbkggahmaaDoorSem1
import Derived.BigQuiet
import Derived.Laws.CopyRow
namespace Go.Proofs.YthhlfcbkggahmaaDoor
open Go.RowKit

def U (x : W32) : Value := .int .u32 (V x)
def B8 (x : UInt8) : Value := .int .u8 (Y x)
/-- The cells of a row of words; of bytes. -/
def cellsU (l : List W32) : Array Value := (l.map U).toArray
def cellsB (l : List UInt8) : Array Value := (l.map B8).toArray
theorem cellsU_size (l : List W32) : (cellsU l).size = l.length := by simp [cellsU]
theorem cellsB_size (l : List UInt8) : (cellsB l).size = l.length := by simp [cellsB]
theorem cellsU_get (l : List W32) (i : Nat) (h : i < l.length) : (cellsU l)[i]? = some (.int .u32 (wd l i)) := by
  simp [cellsU, h, wd, U]
theorem cellsB_get (l : List UInt8) (i : Nat) (h : i < l.length) : (cellsB l)[i]? = some (.int .u8 (by8 l i)) := by
  simp [cellsB, h, by8, B8]
theorem cellsU_set (l : List W32) (i : Nat) (x : W32) : (cellsU l).setIfInBounds i (U x) = cellsU (l.set i x) := by
  simp [cellsU, List.map_set]
theorem cellsB_set (l : List UInt8) (i : Nat) (x : UInt8) : (cellsB l).setIfInBounds i (B8 x) = cellsB (l.set i x) := by
  simp [cellsB, List.map_set]

/-- Block b of the world holds just these cells. -/
def Row (w : World) (b : Nat) (t : TypeId) (cs : Array Value) : Prop := w.heap[b]? = some (.cells cs t (0, 0))
theorem Row.lt {w : World} {b : Nat} {t : TypeId} {cs : Array Value} (h : Row w b t cs) : b < w.heap.size := (Array.getElem?_eq_some_iff.1 h).1
theorem Row.cell {w : World} {b : Nat} {t : TypeId} {cs : Array Value} (h : Row w b t cs) (i : Nat) : w.cell? ⟨b, i, none⟩ = cs[i]? := cell_of_row w b i cs t (0, 0) h
theorem Row.free {w : World} {b : Nat} {t : TypeId} {cs : Array Value} (h : Row w b t cs) (i : Nat) : w.frozen? ⟨b, i, none⟩ = false := frozen_of_row w b i cs t h
theorem Row.set {w : World} {b : Nat} {t : TypeId} {cs : Array Value} (h : Row w b t cs) (i : Nat) (v : Value) : Row (w.setCell ⟨b, i, none⟩ v) b t (cs.setIfInBounds i v) :=
  heap_setCell_same w b i cs t v h
theorem Row.other {w : World} {b : Nat} {t : TypeId} {cs : Array Value} (h : Row w b t cs) (a : Addr) (v : Value) (hne : b ≠ a.block) : Row (w.setCell a v) b t cs :=
  (heap_setCell_other w a b v hne).trans h
theorem Row.alloc {w : World} {b : Nat} {t : TypeId} {cs : Array Value} (h : Row w b t cs) (o : Obj) : Row (w.alloc o) b t cs :=
  (Below.heap_alloc w o b h.lt).trans h
theorem Row.new (w : World) (cs : Array Value) (t : TypeId) : Row (w.alloc (.cells cs t)) w.heap.size t cs := heap_alloc_new w _
theorem Row.below {w w' : World} {b n : Nat} {t : TypeId} {cs : Array Value} (h : Row w b t cs) (hb : Below n w w') (hlt : b < n) : Row w' b t cs := (hb.block b hlt).trans h
theorem Row.word {w : World} {b : Nat} {t : TypeId} {l : List W32} (h : Row w b t (cellsU l)) (i : Nat) (hi : i < l.length) :
    w.cell? ⟨b, i, none⟩ = some (.int .u32 (wd l i)) := (h.cell i).trans (cellsU_get l i hi)
theorem Row.byte {w : World} {b : Nat} {t : TypeId} {l : List UInt8} (h : Row w b t (cellsB l)) (i : Nat) (hi : i < l.length) :
    w.cell? ⟨b, i, none⟩ = some (.int .u8 (by8 l i)) := (h.cell i).trans (cellsB_get l i hi)
theorem Row.setU {w : World} {b : Nat} {t : TypeId} {l : List W32} (h : Row w b t (cellsU l)) (i : Nat) (x : W32) :
    Row (w.setCell ⟨b, i, none⟩ (.int .u32 (V x))) b t (cellsU (l.set i x)) := by
  have := h.set i (U x); rwa [cellsU_set] at this
theorem Row.setB {w : World} {b : Nat} {t : TypeId} {l : List UInt8} (h : Row w b t (cellsB l)) (i : Nat) (x : UInt8) :
    Row (w.setCell ⟨b, i, none⟩ (.int .u8 (Y x))) b t (cellsB (l.set i x)) := by
  have := h.set i (B8 x); rwa [cellsB_set] at this
/-- The bytes from a place on. -/
def BytesAt (w : World) (b off : Nat) (l : List UInt8) : Prop := ∀ i, i < l.length → w.cell? ⟨b, off + i, none⟩ = some (.int .u8 (by8 l i))
/-- The same below and behind draws. -/
theorem Below.of_drewN {B : Nat} {a w : World} (h : Below B a w) (n : Nat) : Below B a (w.drewN n) := ⟨h.os, h.tape, h.output, h.size, h.block⟩
theorem grown_setCell {w w' : World} {b : Nat} (h : w.grownBy w' (some b)) (i : Nat) (v : Value) : w.grownBy (w'.setCell ⟨b, i, none⟩ v) (some b) :=
  ⟨h.os, h.tape, h.output, by have := h.size; simpa [World.setCell] using this, fun k hk hne => (heap_setCell_other _ ⟨b, i, none⟩ k v (fun e => hne (by rw [e]))).trans (h.block k hk hne)⟩
theorem grown_of_below {w w' : World} (h : Below w.heap.size w w') (r : Option Nat) : w.grownBy w' r := ⟨h.os, h.tape, h.output, h.size, fun k hk _ => h.block k hk⟩
theorem grown_drewN {w w' : World} {r : Option Nat} (h : w.grownBy w' r) (n : Nat) : w.grownBy (w'.drewN n) r := ⟨h.os, h.tape, h.output, h.size, h.block⟩
/-- Eight stores into one row of eight words. -/
theorem eight_sets {B b : Nat} {w0 w : World} {t : TypeId} {l : List W32} (hl : l.length = 8) (hB : Below B w0 w) (hb : B ≤ b) (h : Row w b t (cellsU l)) (x0 x1 x2 x3 x4 x5 x6 x7 : W32) (w' : World)
    (e : w' = (((((((w.setCell ⟨b, 0, none⟩ (.int .u32 (V x0))).setCell ⟨b, 1, none⟩ (.int .u32 (V x1))).setCell ⟨b, 2, none⟩ (.int .u32 (V x2))).setCell ⟨b, 3, none⟩ (.int .u32 (V x3))).setCell ⟨b, 4, none⟩ (.int .u32 (V x4))).setCell ⟨b, 5, none⟩ (.int .u32 (V x5))).setCell ⟨b, 6, none⟩ (.int .u32 (V x6))).setCell ⟨b, 7, none⟩ (.int .u32 (V x7))) :
    Below B w0 w' ∧ w'.heap.size = w.heap.size ∧ Row w' b t (cellsU [x0, x1, x2, x3, x4, x5, x6, x7]) ∧ ∀ c u cs, c ≠ b → Row w c u cs → Row w' c u cs := by
  subst e
  match l, hl with
  | [y0, y1, y2, y3, y4, y5, y6, y7], _ =>
    refine ⟨(((((((hB.setCell hb _).setCell hb _).setCell hb _).setCell hb _).setCell hb _).setCell hb _).setCell hb _).setCell hb _, by simp [World.setCell],
      (((((((h.setU 0 x0).setU 1 x1).setU 2 x2).setU 3 x3).setU 4 x4).setU 5 x5).setU 6 x6).setU 7 x7, fun c u cs hc hr => ?_⟩
    exact (((((((hr.other _ _ hc).other _ _ hc).other _ _ hc).other _ _ hc).other _ _ hc).other _ _ hc).other _ _ hc).other _ _ hc
theorem Row.grown {w w' : World} {b : Nat} {t : TypeId} {cs : Array Value} {r : Option Nat} (h : Row w b t cs) (hg : w.grownBy w' r) (hne : some b ≠ r) : Row w' b t cs :=
  (hg.block b h.lt hne).trans h
theorem run_storeCells_row {P : Program} (w : World) (g : Nat) (t : TypeId) (old cs : Array Value) (h : Row w g t old) (hs : cs.size = old.size) (hone : ∀ v ∈ cs.toList, v.oneCell' = true) :
    (storeCells ⟨g, 0, none⟩ cs.toList).run P w = .ok () (w.setRow g cs) := by
  have := run_storeCells_at (P := P) g 0 t cs.toList 0 old w h (by simp [hs]) hone
  rw [this]
  congr 2
  simp only [hs, Nat.zero_add, List.take_zero, List.nil_append, Array.length_toList]
  rw [List.drop_eq_nil_of_le (by simp), List.append_nil]
theorem grown_setRow (w : World) (g : Nat) (cs : Array Value) : w.grownBy (w.setRow g cs) (some g) :=
  ⟨rfl, rfl, rfl, by simp [World.setRow], fun k _ hne => setRow_other w g k cs (fun e => hne (by rw [e]))⟩
/-- A whole array is stored into a row. -/
theorem wpList_store_row {P : Program} {w : World} {ops : Array Oper} {rest : List Oper} {o : Oper} {a : Act} {Q : Exit → Act → World → Prop} (hgd : o.guard = none) (ty : TypeId) (x y : Operand)
    (ho : o.op = .store ty x y) (g : Nat) (hx : a.eval x = .pointer (some ⟨g, 0, none⟩)) (cs old : Array Value) (t : TypeId) (hy : a.eval y = .agg cs) (hrow : Row w g t old)
    (hs : cs.size = old.size) (hi : (P.info? ty).map (·.size) = some cs.size) (hone : ∀ v ∈ cs.toList, v.oneCell' = true)
    (h : ∀ w', w.grownBy w' (some g) → Row w' g t cs → w'.heap.size = w.heap.size → wpList P ops Q rest (a.put o.dst undef) w') : wpList P ops Q (o :: rest) a w := by
  refine wpList_plain hgd fun K hK => ?_
  have hq : (storeVar ty ⟨g, 0, none⟩ (.agg cs)).run P w = .ok () (w.setRow g cs) := by
    cases hp : P.info? ty with
    | none => simp [hp] at hi
    | some i =>
      have hsz : i.size = cs.size := by simpa [hp] using hi
      simp [storeVar, Sem.run_bind, sizeOf, typeInfo, hp, hsz, Value.cells, run_storeCells_row w g t old cs hrow hs hone]
  unfold Oper.wp execOp
  simp only [ho, hx, hy, Instr.storeAt, Instr.sureAddr, Sem.run_bind, Sem.run_pure, Result.andThen_ok, hq]
  exact hK _ _ (h _ (grown_setRow w g cs) (setRow_heap w g old cs t (0, 0) hrow) (by simp [World.setRow]))
/-- An operation whose value is reckoned outright. -/
theorem wpList_value {P : Program} {w : World} {ops : Array Oper} {rest : List Oper} {o : Oper} {a : Act} {Q : Exit → Act → World → Prop} (hgd : o.guard = none) (v : Value) (hr : (execOp a.eval o).run P w = .ok (.value v) w)
    (h : wpList P ops Q rest (a.put o.dst v) w) : wpList P ops Q (o :: rest) a w := by
  refine wpList_plain hgd fun K hK => ?_
  unfold Oper.wp
  rw [hr]
  exact hK _ _ h
theorem cellsU_one (l : List W32) : ∀ v ∈ (cellsU l).toList, v.oneCell' = true := fun v hv => by
  obtain ⟨x, _, rfl⟩ := List.mem_map.1 (by simpa [cellsU] using hv : v ∈ l.map U); rfl
theorem cellsB_one (l : List UInt8) : ∀ v ∈ (cellsB l).toList, v.oneCell' = true := fun v hv => by
  obtain ⟨x, _, rfl⟩ := List.mem_map.1 (by simpa [cellsB] using hv : v ∈ l.map B8); rfl
/-- A quiet call in a region behind another quiet region. -/
theorem quiet_add_same {P : Program} {f : FuncId} {args : Array Value} {w : World} {a n : Nat} {v : Value}
    (h : Calls P f args (w.drewN (a + n)) fun e w' => e = .returned v ∧ w' = w.drewN (a + n)) :
    Calls P f args (w.drewN (a + n)) fun e w'' => e = .returned v ∧ ∃ m, w'' = w.drewN (a + m) :=
  h.mono fun _ _ ⟨he, hm⟩ => ⟨he, n, hm⟩
end Go.Proofs.YthhlfcbkggahmaaDoor

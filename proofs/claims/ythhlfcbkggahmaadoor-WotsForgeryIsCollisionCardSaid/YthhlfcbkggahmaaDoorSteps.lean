/- Single steps of a region whose order is open (Inv): how a guard is read, how a step's goal is opened; what is said of bytes that grow no more. No conditions. -/
import Derived.Test.YthhlfcbkggahmaaDoorEq
namespace Go.Proofs.YthhlfcbkggahmaaDoor
open Go.RowKit
section
variable {P : Program} {B : Nat}
theorem guard_none {ds : List (Option Tmp)} {ev : Operand → Value} {o : Oper} (h : o.guard = none) : guardOn ds ev o = true := by
  unfold guardOn; rw [h]
theorem guard_some {ds : List (Option Tmp)} {ev : Operand → Value} {o : Oper} {j : Nat} {want : Bool} {d : Tmp} (h : o.guard = some (j, want)) (hj : (ds[j]?).join = some d) (hf : ev (.tmp d) = .bool want) : guardOn ds ev o = true := by
  unfold guardOn; simp only [h, hj, hf, beq_self_eq_true]
theorem guard_off {ds : List (Option Tmp)} {ev : Operand → Value} {o : Oper} {j : Nat} {want got : Bool} {d : Tmp} (h : o.guard = some (j, want)) (hj : (ds[j]?).join = some d) (hf : ev (.tmp d) = .bool got) (hne : got ≠ want) : guardOn ds ev o = false := by
  unfold guardOn; simp only [h, hj, hf]; simpa using hne
theorem step_on {ds : List (Option Tmp)} {o : Oper} {ev : Operand → Value} {w : World} {A : Value → World → Prop} (hgd : guardOn ds ev o = true)
    (h : ∀ K : Value → World → Prop, (∀ v w', A v w' → Grow B w w' → K v w') → YieldsG P o ev w K) : if guardOn ds ev o = true then YieldsG P o ev w (fun v w' => A v w' ∧ Grow B w w') else A undef w := by
  rw [if_pos hgd]; exact h _ fun v w' h1 h2 => ⟨h1, h2⟩
theorem step_off {ds : List (Option Tmp)} {o : Oper} {ev : Operand → Value} {w : World} {A : Value → World → Prop} {K : Prop} (hgd : guardOn ds ev o = false) (h : A undef w) : if guardOn ds ev o = true then K else A undef w := by
  rw [hgd]; exact h
/-- A whole array is loaded. -/
theorem yg_load_row {o : Oper} {ev : Operand → Value} {w : World} {K : Value → World → Prop} (ty : TypeId) (x : Operand) (ho : o.op = .load ty x) (g : Nat) (hx : ev x = .pointer (some ⟨g, 0, none⟩)) (t : TypeId) (cs : Array Value) (fr : Nat × Nat) (d : TypeDesc)
    (hg : w.heap[g]? = some (.cells cs t fr)) (hu : P.underlying ty = some d) (hd : (match d with | .struct _ | .array _ _ => true | _ => false) = true) (hi : (P.info? ty).map (·.size) = some cs.size) (hK : K (.agg cs) w) : YieldsG P o ev w K := by
  unfold YieldsG execOp
  simp only [ho, hx, Instr.loadAt, Instr.sureAddr, Sem.run_bind, Sem.run_pure, Result.andThen_ok, run_loadVar_row w g t ty cs fr d hg hu hd hi]
  exact hK
end
/-- A slice that is a row of these bytes, made since B. -/
def Asrt.row {B : Nat} (l : List UInt8) : Asrt B :=
  ⟨fun v w => ∃ (n : Nat) (f : Nat × Nat), v = .slice (some ⟨n, 0, none⟩) l.length l.length ∧ B ≤ n ∧ w.heap[n]? = some (.cells (cellsB l) 5 f), fun v w w' h hg => by
    obtain ⟨n, f, hv, hn, hh⟩ := h
    exact ⟨n, f, hv, hn, hg.kept _ _ hh⟩⟩
theorem Asrt.row_bytes {B : Nat} {l : List UInt8} {v : Value} {w : World} (h : (Asrt.row (B := B) l).p v w) (hl : l.length ≤ 9223372036854775807) : Bytes w v l (fun _ => True) := by
  obtain ⟨n, f, rfl, _, hh⟩ := h
  exact ⟨_, _, rfl, Nat.le_refl _, hl, .inr ⟨n, 0, rfl, trivial, fun i hi => by rw [Nat.zero_add, cell_of_row w n i _ _ _ hh, cellsB_get l i hi]⟩⟩
/-- A slice that reads as these bytes. -/
def Asrt.bytes {B : Nat} (l : List UInt8) : Asrt B :=
  ⟨fun v w => Bytes w v l (fun _ => True), fun v w w' h hg => by
    obtain ⟨a, cap, hv, hc0, hc1, ha | ⟨b, off, rfl, hok, hat⟩⟩ := h
    · exact ⟨a, cap, hv, hc0, hc1, .inl ha⟩
    · exact ⟨_, cap, hv, hc0, hc1, .inr ⟨b, off, rfl, hok, fun i hi => hg.cell (hat i hi)⟩⟩⟩
/-- A digest of these bytes. -/
def D (l : List UInt8) : Value := .agg (cellsB l)
theorem wp_gen {P : Program} {c : Code} {Q : Exit → Act → World → Prop} {a : Act} {w : World} (h : ∀ a0, a0 = a → c.wp P Q a0 w) : c.wp P Q a w := h a rfl
theorem eqlT (x y : List UInt8) (hx : x.length = 32) (hxy : x = y) (w : World) : (binOp .eql 23 (.agg (cellsB x)) (.agg (cellsB y))).run Tryd.prog w = .ok (.bool true) w := by
  subst hxy; rw [eql_digest x x hx hx, decide_eq_true rfl]
theorem eqlB (x y : List UInt8) (hx : x.length = 32) (hy : y.length = 32) (w : World) : (binOp .eql 23 (.agg (cellsB x)) (.agg (cellsB y))).run Tryd.prog w = .ok (.bool (decide (x = y))) w := eql_digest x y hx hy w
theorem nil_bytes (w : World) : Bytes w (.slice none 0 0) [] (fun _ => True) := ⟨none, 0, rfl, Nat.le_refl _, by decide, .inl ⟨rfl, fun _ => rfl⟩⟩
end Go.Proofs.YthhlfcbkggahmaaDoor

/- Single steps of a region whose order is open (Inv): how a guard is read, how a step's goal is opened; what is said of bytes that grow no more. No conditions. -/
import Derived.Test.YtibogbmpcahjcaaDoorEq
namespace Go.Proofs.YtibogbmpcahjcaaDoor
open Go.RowKit
section
variable {P : Program} {B : Nat}
theorem guard_none {ds : List (Option Tmp)} {ev : Operand → Value} {o : Oper} (h : o.guard = none) : guardOn ds ev o = true := by
  unfold guardOn; rw [h]
theorem guard_some {ds : List (Option Tmp)} {ev : Operand → Value} {o : Oper} {j : Nat} {want : Bool} {d : Tmp} (h : o.guard = some (j, want)) (hj : (ds[j]?).join = some d) (hf : ev (.tmp d) = .bool want) : guardOn ds ev o = true := by
  unfold guardOn; simp only [h, hj, hf, beq_self_eq_true]
theorem guard_off {ds : List (Option Tmp)} {ev : Operand → Value} {o : Oper} {j : Nat} {want got : Bool} {d : Tmp} (h : o.guard = some (j, want)) (hj : (ds[j]?).join = some d) (hf : ev (.tmp d) = .bool got) (hne : got ≠ want) : guardOn ds ev o = false := by
  unfold guardOn; simp only [h, hj, hf]; simpa using hne
theorem step_on {ds : List (Option Tmp)} {o : Oper} {ev : Operand → Value} {w : World} {A : Value → World → Prop} (hgd : guardOn ds ev o = true)
    (h : ∀ K : Value → World → Prop, (∀ v w', A v w' → Grow B w w' → K v w') → YieldsG P o ev w K) : if guardOn ds ev o = true then YieldsG P o ev w (fun v w' => A v w' ∧ Grow B w w') else A undef w := by
  rw [if_pos hgd]; exact h _ fun v w' h1 h2 => ⟨h1, h2⟩
theorem step_off {ds : List (Option Tmp)} {o : Oper} {ev : Operand → Value} {w : World} {A : Value → World → Prop} {K : Prop} (hgd : guardOn ds ev o = false) (h : A undef w) : if guardOn ds ev o = true then K else A undef w := by
  rw [hgd]; exact h
/-- A whole array is loaded. -/
theorem yg_load_row {o : Oper} {ev : Operand → Value} {w : World} {K : Value → World → Prop} (ty : TypeId) (x : Operand) (ho : o.op = .load ty x) (g : Nat) (hx : ev x = .pointer (some ⟨g, 0, none⟩)) (t : TypeId) (cs : Array Value) (fr : Nat × Nat) (d : TypeDesc)
    (hg : w.heap[g]? = some (.cells cs t fr)) (hu : P.underlying ty = some d) (hd : (match d with | .struct _ | .array _ _ => true | _ => false) = true) (hi : (P.info? ty).map (·.size) = some cs.size) (hK : K (.agg cs) w) : YieldsG P o ev w K := by
  unfold YieldsG execOp
  simp only [ho, hx, Instr.loadAt, Instr.sureAddr, Sem.run_bind, Sem.run_pure, Result.andThen_ok, run_loadVar_row w g t ty cs fr d hg hu hd hi]
  exact hK
end
/-- A slice that is a row of these bytes, made since B. -/
def Asrt.row {B : Nat} (l : List UInt8) : Asrt B :=
  ⟨fun v w => ∃ (n : Nat) (f : Nat × Nat), v = .slice (some ⟨n, 0, none⟩) l.length l.length ∧ B ≤ n ∧ w.heap[n]? = some (.cells (cellsB l) 5 f), fun v w w' h hg => by
    obtain ⟨n, f, hv, hn, hh⟩ := h
    obtain ⟨f', h'⟩ := hg.cells _ _ _ _ hh
    exact ⟨n, f', hv, hn, h'⟩⟩
theorem Asrt.row_bytes {B : Nat} {l : List UInt8} {v : Value} {w : World} (h : (Asrt.row (B := B) l).p v w) (hl : l.length ≤ 9223372036854775807) : Bytes w v l (fun _ => True) := by
  obtain ⟨n, f, rfl, _, hh⟩ := h
  exact ⟨_, _, rfl, Nat.le_refl _, hl, .inr ⟨n, 0, rfl, trivial, fun i hi => by rw [Nat.zero_add, cell_of_row w n i _ _ _ hh, cellsB_get l i hi]⟩⟩
/-- A slice that reads as these bytes. -/
def Asrt.bytes {B : Nat} (l : List UInt8) : Asrt B :=
  ⟨fun v w => Bytes w v l (fun _ => True), fun v w w' h hg => by
    obtain ⟨a, cap, hv, hc0, hc1, ha | ⟨b, off, rfl, hok, hat⟩⟩ := h
    · exact ⟨a, cap, hv, hc0, hc1, .inl ha⟩
    · exact ⟨_, cap, hv, hc0, hc1, .inr ⟨b, off, rfl, hok, fun i hi => hg.cell (hat i hi)⟩⟩⟩
/-- A digest of these bytes. -/
def D (l : List UInt8) : Value := .agg (cellsB l)
/-- The mark that a conversion of a constant string to bytes lays. -/
theorem grow_mark {B : Nat} {w : World} {n k : Nat} {c : Array Value} {t : TypeId} {f : Nat × Nat} (hB : B ≤ w.heap.size) (hn : B ≤ n) (h : w.heap[n]? = some (.cells c t f)) : Grow B w (w.freeze ⟨n, k, none⟩ 1) := by
  refine ⟨hB, ⟨rfl, rfl, rfl, by simp [World.freeze], fun j hj => ?_⟩, fun j c' t' f' hj => ?_⟩
  · simp only [World.freeze, if_neg (show ¬ (1 = 0) by decide), Array.getElem?_modify]; rw [if_neg (by omega)]
  · simp only [World.freeze, if_neg (show ¬ (1 = 0) by decide), Array.getElem?_modify]
    by_cases hjn : n = j
    · subst hjn; rw [h] at hj; cases hj; rw [if_pos rfl, h]; exact ⟨_, rfl⟩
    · rw [if_neg hjn]; exact ⟨f', hj⟩
end Go.Proofs.YtibogbmpcahjcaaDoor

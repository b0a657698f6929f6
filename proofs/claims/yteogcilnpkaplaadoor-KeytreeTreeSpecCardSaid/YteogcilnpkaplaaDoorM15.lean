/- Merged: a signature among a row's arguments, opened. No conditions of its own beyond those that each law states. -/
import Derived.Test.YteogcilnpkaplaaDoorM11
import Derived.Test.YteogcilnpkaplaaDoorM14
namespace Go.Proofs.YteogcilnpkaplaaDoor
open Go.ChangeShapes Go.WideShapes Go.ChangeAt Go.RowKit
theorem Tryd.cellG : Tryd.prog.cellsOf 31 = 3 := by kernel_rfl
theorem Tryd.cellI : Tryd.prog.cellsOf 3 = 1 := by kernel_rfl
theorem Tryd.cellDs : Tryd.prog.cellsOf 29 = 1 := by kernel_rfl
theorem Tryd.rowG : ∃ f0 f1 f2 : Field, Tryd.prog.underlying 31 = some (.struct #[f0, f1, f2]) ∧ f0.type = 3 ∧ f0.offset = 0 ∧ f1.type = 29 ∧ f1.offset = 1 ∧ f2.type = 29 ∧ f2.offset = 2 := by
  have h : (Tryd.prog.underlying 31).bind (fun d => match d with | .struct fs => some (fs.toList.map fun f => (f.type, f.offset)) | _ => none) = some [(3, 0), (29, 1), (29, 2)] := by kernel_rfl
  cases hu : Tryd.prog.underlying 31 with
  | none => rw [hu] at h; cases h
  | some d =>
    rw [hu] at h
    cases d with
    | struct fs =>
      obtain ⟨l⟩ := fs
      have h2 : (l.map fun f => (f.type, f.offset)) = [(3, 0), (29, 1), (29, 2)] := Option.some.inj h
      match l, h2 with
      | [f0, f1, f2], h2 =>
        simp only [List.map_cons, List.map_nil, List.cons.injEq, Prod.mk.injEq, and_true] at h2
        exact ⟨f0, f1, f2, rfl, h2.1.1, h2.1.2, h2.2.1.1, h2.2.1.2, h2.2.2.1, h2.2.2.2⟩
      | [], h2 => simp at h2
      | [_], h2 => simp at h2
      | [_, _], h2 => simp at h2
      | _ :: _ :: _ :: _ :: _, h2 => simp at h2
    | _ => cases h
/-- A slice of digests out of a struct. -/
theorem open_digs_at {H : Type} {enc : TypeId × Value → H} {W : World} {base : Nat} {held : Bool} {sp : Nat → Bool} {fuel : Nat} {c : Value} {y : DataW H × List MemPlace} (hf : DataW.trod enc Tryd.prog W base sp held fuel 29 [c] = some y) :
    ∃ xs : List (List UInt8), Digs W c xs ∧ all32 xs := by
  have hsh : ∃ a n k, c = .slice a n k := by
    rcases DataW.trod_slice Tryd.underDs hf with ⟨hcs, _⟩ | ⟨a, len, cap, elems, rest, n, rfl, hcs, _⟩
    · exact ⟨none, 0, 0, by simpa using hcs⟩
    · exact ⟨some a, len, cap, by simpa using hcs⟩
  obtain ⟨a, n, k, rfl⟩ := hsh
  obtain ⟨xs, h1, h2, -⟩ := open_digs_c (d := y.1) (ps := y.2) (show DataW.Trod enc Tryd.prog W base sp held 29 (.slice a n k) y.1 y.2 from ⟨fuel, hf⟩)
  exact ⟨xs, h1, h2⟩
theorem open_sig {H : Type} {enc : TypeId × Value → H} {W : World} {base : Nat} {held : Bool} {v : Value} {d : DataW H} {ps : List MemPlace} {sp : Nat → Bool}
    (h : DataW.Trod enc Tryd.prog W base sp held 31 v d ps) : ∃ (i : Int) (cv pv : Value) (cs qs : List (List UInt8)), v = .agg (sigC i cv pv) ∧ (Lit.int .i64 i).wf = true ∧ Digs W cv cs ∧ all32 cs ∧ Digs W pv qs ∧ all32 qs := by
  obtain ⟨fuel, hf⟩ := h
  obtain ⟨f0, f1, f2, hu, t0, o0, t1, o1, t2, o2⟩ := Tryd.rowG
  obtain ⟨xs, n, rfl, hx, hl, hxl, hall⟩ := DataW.trod_struct hu hf
  rw [Tryd.cellG] at hl
  have hv : v = .agg v.cells := by
    cases v with
    | agg a => rfl
    | _ => simp [Value.cells] at hl
  have h0 := hall 0 f0 rfl
  have h1 := hall 1 f1 rfl
  have h2 := hall 2 f2 rfl
  rw [t0, o0, Tryd.cellI] at h0
  rw [t1, o1, Tryd.cellDs] at h1
  rw [t2, o2, Tryd.cellDs] at h2
  have hx3 : xs.length = 3 := by simpa using hxl
  match hcl : v.cells.toList, hl with
  | [c0, c1, c2], _ =>
    rw [hcl] at h0 h1 h2
    match xs, hx3 with
    | [y0, y1, y2], _ =>
      obtain ⟨z, hz, -, hw⟩ := DataW.trod_int Tryd.rowI (x := y0) (by simpa using h0)
      obtain ⟨cs, hc, h32c⟩ := open_digs_at (c := c1) (y := y1) (by simpa using h1)
      obtain ⟨qs, hq, h32q⟩ := open_digs_at (c := c2) (y := y2) (by simpa using h2)
      refine ⟨z, c1, c2, cs, qs, ?_, hw, hc, h32c, hq, h32q⟩
      have hz' : c0 = .int .i64 z := by simpa using hz
      subst hz'
      rw [hv]
      congr 1
      exact Array.toList_inj.1 hcl
end Go.Proofs.YteogcilnpkaplaaDoor

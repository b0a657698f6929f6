/- The reference's tables out of a row's condition. No conditions. -/
import Derived.Test.YthhlfcbkggahmaaDoorRowBase
import Derived.Test.YthhlfcbkggahmaaDoorRefSum
namespace Go.Proofs.YthhlfcbkggahmaaDoor
open Go.ChangeShapes Go.WideShapes Go.ChangeAt Go.RowKit
theorem laidR_eq : Rows.laid_crossbar_crossbarref03_k (H := Unit) = Lib.tabData .u32 kInts := rfl
theorem rkfact_of_reads {w : World} (h : Lib.VarReads Tryd.prog w "crossbar/crossbarref03.k" Rows.laid_crossbar_crossbarref03_k) : RKFact w := by
  obtain ⟨g, t, cs, fuel, p, e1, e2, e3, e4⟩ := h
  have hg : Tryd.prog.globalNamed "crossbar/crossbarref03.k" = some 2 := by kernel_rfl
  obtain rfl := Option.some.inj (hg.symm.trans e1)
  have ht : (Tryd.prog.globals[2]?).map (·.type) = some 71 := by kernel_rfl
  obtain rfl := Option.some.inj (ht.symm.trans e2)
  rw [laidR_eq] at e4
  have hcs := Lib.cells_of_tab (n := 64) (e := 61) (by kernel_rfl) (by kernel_rfl) (by kernel_rfl) (by kernel_rfl) e4
  intro i hi
  rw [World.var?_cell hg e3 i, ← Array.getElem?_toList, hcs, kInts, List.map_map, List.getElem?_map]
  have hi' : i < kNats.length := by rw [kNats_len]; exact hi
  have hlt := kNats_lt i hi
  rw [List.getElem?_eq_getElem hi']
  have hd : kNats.getD i 0 = kNats[i] := by rw [List.getD_eq_getElem?_getD, List.getElem?_eq_getElem hi']; rfl
  unfold V kW
  rw [BitVec.toNat_ofNat, hd, Nat.mod_eq_of_lt (by rw [← hd]; exact hlt)]
  rfl
theorem laid_row {P : Program} {w : World} : ∀ {l : List (String × DataW Unit)} {ps : List MemPlace}, DataW.LaidVars P w l ps → ∀ n d, (n, d) ∈ l →
    ∃ g t cs fuel p, P.globalNamed n = some g ∧ (P.globals[g]?).map (·.type) = some t ∧ w.var? P n = some cs ∧ DataW.trod (fun _ => ()) P w 0 (fun _ => true) false fuel t cs.toList = some (d, p) ∧ ∀ x ∈ MemPlace.row ⟨g, 0, none⟩ cs.size, x ∈ ps
  | [], _, _, _, _, hm => by cases hm
  | (n', d') :: r, ps, h, n, d, hm => by
    obtain ⟨g, t, cs, fuel, p, q, h1, h2, h3, h4, h5, rfl⟩ := h
    rcases List.mem_cons.1 hm with e | e
    · cases e
      exact ⟨g, t, cs, fuel, p, h1, h2, h3, h4, fun x hx => by simp [hx]⟩
    · obtain ⟨g', t', cs', f', p', a1, a2, a3, a4, a5⟩ := laid_row h5 n d e
      exact ⟨g', t', cs', f', p', a1, a2, a3, a4, fun x hx => by simp [a5 x hx]⟩
def iInts : List Int := [1779033703, 3144134277, 1013904242, 2773480762, 1359893119, 2600822924, 528734635, 1541459225]
theorem laidI_eq : Rows.laid_crossbar_crossbarref03_initial (H := Unit) = Lib.tabData .u32 iInts := rfl
theorem iInts_cells : (iInts.map fun z => Value.int .u32 z).toArray = cellsU St.init.list := rfl
theorem rifact_of_laid {w : World} {l : List (String × DataW Unit)} (h : laidMet Tryd.prog l w) (hm : ("crossbar/crossbarref03.initial", Rows.laid_crossbar_crossbarref03_initial) ∈ l) : RIFact w := by
  obtain ⟨ps, hv, _, hc⟩ := h
  obtain ⟨g, t, cs, fuel, p, e1, e2, e3, e4, e5⟩ := laid_row hv _ _ hm
  have hg : Tryd.prog.globalNamed "crossbar/crossbarref03.initial" = some 1 := by kernel_rfl
  obtain rfl := Option.some.inj (hg.symm.trans e1)
  have ht : (Tryd.prog.globals[1]?).map (·.type) = some 62 := by kernel_rfl
  obtain rfl := Option.some.inj (ht.symm.trans e2)
  rw [laidI_eq] at e4
  have hcs := Lib.cells_of_tab (n := 8) (e := 61) (by kernel_rfl) (by kernel_rfl) (by kernel_rfl) (by kernel_rfl) e4
  have hce : cs = cellsU St.init.list := by rw [← iInts_cells, ← hcs]
  have hin : MemPlace.cell 1 0 ∈ ps := e5 _ (by rw [hce]; simp [MemPlace.row, cellsU_size, St.list])
  obtain ⟨⟨c, tt, hh⟩, _⟩ := hc _ _ hin
  refine ⟨tt, ?_⟩
  have hcc : c = cs := by
    simp only [World.var?, hg, Option.bind_some, hh] at e3
    exact Option.some.inj e3
  rw [hcc, hce] at hh
  exact hh
theorem trodAll_five_k {H : Type} {enc : TypeId × Value → H} {P : Program} {w : World} {base : Nat} {spare : Nat → Bool} {held : Bool} {t t' t'' t3 t4 : TypeId} {args : Array Value} {ds : List (DataW H)} {ps : List MemPlace} (h : DataW.TrodAll enc P w base spare held [t, t', t'', t3, t4] args.toList ds ps) :
    ∃ v v' v'' v3 v4 d d' d'' d3 d4 p p' p'' p3 p4, args = #[v, v', v'', v3, v4] ∧ ds = [d, d', d'', d3, d4] ∧ ps = p ++ p' ++ p'' ++ p3 ++ p4 ∧ DataW.Trod enc P w base spare held t v d p ∧ DataW.Trod enc P w base spare held t' v' d' p' ∧ DataW.Trod enc P w base spare held t'' v'' d'' p'' ∧ DataW.Trod enc P w base spare held t3 v3 d3 p3 ∧ DataW.Trod enc P w base spare held t4 v4 d4 p4 := by
  obtain ⟨v, vs, d, ds', p, q, hargs, rfl, rfl, hd, hrest⟩ := trodAll_cons h
  obtain ⟨v', vs', d', ds'', p', q', rfl, rfl, rfl, hd', hrest'⟩ := trodAll_cons hrest
  obtain ⟨v'', vs'', d'', ds''', p'', q'', rfl, rfl, rfl, hd'', hrest''⟩ := trodAll_cons hrest'
  obtain ⟨v3, vs3, d3, ds3, p3, q3, rfl, rfl, rfl, hd3, hrest3⟩ := trodAll_cons hrest''
  obtain ⟨v4, vs4, d4, ds4, p4, q4, rfl, rfl, rfl, hd4, hrest4⟩ := trodAll_cons hrest3
  obtain ⟨rfl, rfl, rfl⟩ := trodAll_nil hrest4
  exact ⟨v, v', v'', v3, v4, d, d', d'', d3, d4, p, p', p'', p3, p4, by cases args; simp_all, rfl, by simp, hd, hd', hd'', hd3, hd4⟩
end Go.Proofs.YthhlfcbkggahmaaDoor

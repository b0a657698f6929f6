/- Merged: what is laid for a row, and open arguments. No conditions of its own beyond those that each law states. -/
import Derived.Test.YteogcilnpkaplaaDoorRows
import Derived.Test.YteogcilnpkaplaaDoorM2
import Derived.ProofKit
import Derived.LaidLaws
import Derived.LaidHandle
import Derived.Lib.LaidU8
import Derived.Stop.Joined
import Derived.OpenShut
import Derived.Test.YteogcilnpkaplaaDoorM5
import Derived.Test.YteogcilnpkaplaaDoorM6
namespace Go.Proofs.YteogcilnpkaplaaDoor
open Go.ChangeShapes Go.WideShapes Go.ChangeAt Go.RowKit

theorem Tryd.own : ownKnob Tryd.prog.godebug = none := by kernel_rfl
theorem Tryd.laidOut : laidOutB Tryd.prog = true := by kernel_rfl
theorem Tryd.rowU : Tryd.prog.underlying 5 = some (.int .u8) := by kernel_rfl
theorem Tryd.rowB : Tryd.prog.underlying 22 = some (.slice 5) := by kernel_rfl
theorem Tryd.rowD : Tryd.prog.underlying 25 = some (.array 32 5) := by kernel_rfl
theorem Tryd.rowI : Tryd.prog.underlying 3 = some (.int .i64) := by kernel_rfl
theorem Tryd.rowS : Tryd.prog.underlying 9 = some .string := by kernel_rfl
theorem Tryd.rowBool : Tryd.prog.underlying 4 = some .bool := by kernel_rfl
theorem Tryd.cellU : Tryd.prog.cellsOf 5 = 1 := by kernel_rfl
theorem Tryd.cellD : Tryd.prog.cellsOf 25 = 32 := by kernel_rfl

/-- The constants' numbers. -/
def kInts : List Int := kNats.map Int.ofNat
theorem kNats_lt : ∀ t, t < 64 → kNats.getD t 0 < 4294967296 := by decide
theorem kNats_len : kNats.length = 64 := rfl
theorem laidK_eq : Rows.laid_crossbar_sha256_k (H := Unit) = Lib.tabData .u32 kInts := rfl
theorem kfact_of_reads {w : World} (h : Lib.VarReads Tryd.prog w "crossbar/sha256.k" Rows.laid_crossbar_sha256_k) : KFact w := by
  obtain ⟨g, t, cs, fuel, p, e1, e2, e3, e4⟩ := h
  have hg : Tryd.prog.globalNamed "crossbar/sha256.k" = some 1 := by kernel_rfl
  obtain rfl := Option.some.inj (hg.symm.trans e1)
  have ht : (Tryd.prog.globals[1]?).map (·.type) = some 90 := by kernel_rfl
  obtain rfl := Option.some.inj (ht.symm.trans e2)
  rw [laidK_eq] at e4
  have hcs := Lib.cells_of_tab (n := 64) (e := 75) (by kernel_rfl) (by kernel_rfl) (by kernel_rfl) (by kernel_rfl) e4
  intro i hi
  rw [World.var?_cell hg e3 i, ← Array.getElem?_toList, hcs, kInts, List.map_map, List.getElem?_map]
  have hi' : i < kNats.length := by rw [kNats_len]; exact hi
  have hlt := kNats_lt i hi
  rw [List.getElem?_eq_getElem hi']
  have hd : kNats.getD i 0 = kNats[i] := by rw [List.getD_eq_getElem?_getD, List.getElem?_eq_getElem hi']; rfl
  unfold V kW
  rw [BitVec.toNat_ofNat, hd, Nat.mod_eq_of_lt (by rw [← hd]; exact hlt)]
  rfl

/-- A number of one byte is a byte. -/
theorem byte_of_wf {n : Int} (h : (Lit.int .u8 n).wf = true) : ∃ y : UInt8, n = Y y := by
  have hb := bounds_u8 h
  refine ⟨UInt8.ofNat n.toNat, ?_⟩
  unfold Y
  rw [UInt8.toNat_ofNat', Nat.mod_eq_of_lt (by omega)]
  omega
theorem bytes_of_wf : ∀ (zs : List Int), (∀ n ∈ zs, (Lit.int .u8 n).wf = true) → ∃ x : List UInt8, zs = x.map Y
  | [], _ => ⟨[], rfl⟩
  | n :: zs, h => by
    obtain ⟨y, rfl⟩ := byte_of_wf (h n (by simp))
    obtain ⟨x, rfl⟩ := bytes_of_wf zs fun m hm => h m (by simp [hm])
    exact ⟨y :: x, rfl⟩
/-- A digest, opened. -/
theorem open_digest {H : Type} {enc : TypeId × Value → H} {W : World} {base : Nat} {sp : Nat → Bool} {held : Bool} {v : Value} {d : DataW H} {ps : List MemPlace} (h : DataW.Trod enc Tryd.prog W base sp held 25 v d ps) :
    ∃ x : List UInt8, v = .agg (cellsB x) ∧ x.length = 32 ∧ ps = [] := by
  obtain ⟨fuel, hf⟩ := h
  obtain ⟨xs, m, rfl, hx, hl, hxl, hall⟩ := DataW.trod_array Tryd.rowD hf
  rw [Tryd.cellD] at hl
  rw [Tryd.cellU] at hall
  have hv : v = .agg v.cells := by
    cases v with
    | agg a => rfl
    | _ => simp [Value.cells] at hl
  have hone : ∀ i, i < 32 → ∃ z, v.cells.toList[i]? = some (.int .u8 z) ∧ (Lit.int .u8 z).wf = true ∧ ∀ y, xs[i]? = some y → y.2 = [] := by
    intro i hi
    have h1 := hall i hi
    rw [Nat.mul_one] at h1
    obtain ⟨b, hb⟩ : ∃ b, xs[i]? = some b := ⟨xs[i]'(by omega), List.getElem?_eq_getElem (by omega)⟩
    rw [hb] at h1
    obtain ⟨z, hcz, rfl, hw⟩ := DataW.trod_int Tryd.rowU h1
    refine ⟨z, ?_, hw, ?_⟩
    · have h2 := congrArg (·[0]?) hcz
      simpa [List.getElem?_take, List.getElem?_drop] using h2
    · intro y hy; rw [hb] at hy; cases hy; rfl
  have hps : xs.flatMap (·.2) = [] := by
    rw [List.flatMap_eq_nil_iff]
    intro y hy
    obtain ⟨i, hi, rfl⟩ := List.getElem_of_mem hy
    obtain ⟨_, _, _, h3⟩ := hone i (by omega)
    exact h3 _ (List.getElem?_eq_getElem hi)
  have hlist : ∀ (l : List Value), (∀ c ∈ l, ∃ z, c = .int .u8 z ∧ (Lit.int .u8 z).wf = true) → ∃ x : List UInt8, l = x.map B8 := by
    intro l
    induction l with
    | nil => intro _; exact ⟨[], rfl⟩
    | cons c l ih =>
      intro hc
      obtain ⟨z, rfl, hw⟩ := hc c (by simp)
      obtain ⟨y, rfl⟩ := byte_of_wf hw
      obtain ⟨x, rfl⟩ := ih fun c' hc' => hc c' (by simp [hc'])
      exact ⟨y :: x, rfl⟩
  obtain ⟨x, hx'⟩ := hlist v.cells.toList fun c hc => by
    obtain ⟨i, hi, rfl⟩ := List.getElem_of_mem hc
    obtain ⟨z, h1, h2, _⟩ := hone i (by omega)
    rw [List.getElem?_eq_getElem hi] at h1
    exact ⟨z, Option.some.inj h1, h2⟩
  refine ⟨x, ?_, ?_, ?_⟩
  · rw [hv]
    unfold cellsB
    rw [← hx']
  · have := congrArg List.length hx'
    rw [List.length_map, hl] at this; omega
  · have := congrArg Prod.snd hx
    simpa [hps] using this
/-- A slice of bytes, opened. -/
theorem open_bytes {H : Type} {enc : TypeId × Value → H} {W : World} {base base' : Nat} {held : Bool} {v : Value} {d : DataW H} {ps : List MemPlace} {r : Reach} (hval : Value.okWide Tryd.prog W r base' 22 v)
    (h : DataW.Trod enc Tryd.prog W base (fun _ => true) held 22 v d ps) : ∃ x : List UInt8, Bytes W v x (fun _ => True) ∧ x.length ≤ maxLen := by
  obtain ⟨a0, len0, cap0, rfl⟩ := okWide_slice Tryd.rowB hval
  obtain ⟨fuel, hf⟩ := h
  rcases open_ints Tryd.rowB Tryd.rowU Tryd.cellU hf with ⟨hcs, _⟩ | ⟨a, len, cap, zs, hcs, _, hl, hm, hz, _, hcell, hwf⟩
  · simp only [Value.cells, List.cons.injEq, and_true, Value.slice.injEq] at hcs
    obtain ⟨rfl, rfl, rfl⟩ := hcs
    exact ⟨[], ⟨none, 0, rfl, by simp, by decide, .inl ⟨rfl, fun _ => rfl⟩⟩, by simp⟩
  · simp only [Value.cells, List.cons.injEq, and_true, Value.slice.injEq] at hcs
    obtain ⟨rfl, rfl, rfl⟩ := hcs
    simp only [if_true] at hz
    obtain ⟨y, rfl⟩ := bytes_of_wf zs hwf
    simp only [List.length_map] at hz hcell
    have hlen : (y.take len0).length = len0 := by rw [List.length_take]; omega
    have hmax : maxLen ≤ 9223372036854775807 := by decide
    refine ⟨y.take len0, ⟨some a, cap0, by rw [hlen], by rw [hlen]; exact hl, by omega, ?_⟩, by rw [hlen]; omega⟩
    by_cases hp : 0 < cap0
    · obtain ⟨b, off, rfl, hc⟩ := ints_at (zs := y.map Y) (by rw [List.length_map]; exact hcell) (by rw [List.length_map]; omega)
      rw [List.length_map] at hc
      refine .inr ⟨b, off, rfl, trivial, fun i hi => ?_⟩
      rw [hlen] at hi
      rw [hc i (by omega)]
      unfold by8
      have hiy : i < y.length := by omega
      rw [List.getD_eq_getElem?_getD, List.getD_eq_getElem?_getD, List.getElem?_map, List.getElem?_take, if_pos hi, List.getElem?_eq_getElem hiy]
      rfl
    · refine .inl ⟨?_, fun e => by cases e⟩
      have : len0 = 0 := by omega
      subst this; rfl
/-- All arguments read as before where nothing below has turned. -/
theorem below_trodAll {H : Type} {enc : TypeId × Value → H} {W W' : World} (hb : Below W.heap.size W W') : ∀ (ts : List TypeId) (vs : List Value) (ds : List (DataW H)) (ps : List MemPlace), (∀ t ∈ ts, Tryd.prog.readableRec t = true ∧ t < Tryd.prog.types.size) →
    DataW.TrodAll enc Tryd.prog W 0 (fun _ => true) true ts vs ds ps → (∀ x ∈ ps, x.block < W.heap.size) → DataW.TrodAll enc Tryd.prog W' 0 (fun b => decide (b < W.heap.size)) true ts vs ds ps
  | [], [], [], _, _, h, _ => h
  | t :: ts, v :: vs, d :: ds, _, hts, ⟨p, q, h1, h2, e⟩, hlt => by
    subst e
    exact ⟨p, q, Below.trod Tryd.laidOut (hts t (by simp)).1 (hts t (by simp)).2 h1 hb (fun x hx => hlt x (by simp [hx])), below_trodAll hb ts vs ds q (fun t' ht' => hts t' (by simp [ht'])) h2 (fun x hx => hlt x (by simp [hx])), rfl⟩
  | [], [], _ :: _, _, _, h, _ => h.elim
  | [], _ :: _, _, _, _, h, _ => h.elim
  | _ :: _, [], _, _, _, h, _ => h.elim
  | _ :: _, _ :: _, [], _, _, h, _ => h.elim
/-- What a law's row asks behind the call. -/
theorem law_post {H : Type} {enc : TypeId × Value → H} {f : Func} {s : ChangeSpec} {W W' : World} {args : Array Value} {ds gs : List (DataW H)} {before : List MemPlace} (hW : DataW.Whole enc Tryd.prog f.params.toList s.vars false W args.toList ds gs before)
    (hv : s.vars = []) (hr : f.resultTypes = #[4]) (hts : ∀ t ∈ f.params.toList, Tryd.prog.readableRec t = true ∧ t < Tryd.prog.types.size) (hfn : s.fn H (ds ++ gs) = { results := [.lit (.bool true)], args := ds }) (hb : Below W.heap.size W W') :
    s.post enc Tryd.prog f false true false false W args (.bool true) W' := by
  have hlt := hW.lt
  have hW' := hW
  obtain ⟨p, q, hA, hV, rfl, _, _⟩ := hW
  refine ⟨ds, gs, p ++ q, [], p, [], hW', ?_, ?_, ?_, hb.frame _, fun h => by cases h⟩
  · rw [hfn, hr]; exact trodAll_mk1 (shut_bool Tryd.rowBool true)
  · rw [hfn]; exact below_trodAll hb _ _ _ _ hts hA (fun x hx => by simpa using hlt x (by simp [hx]))
  · rw [hfn, hv]; rfl
end Go.Proofs.YteogcilnpkaplaaDoor

namespace Go.Proofs.YteogcilnpkaplaaDoor
open Go.ChangeShapes Go.WideShapes Go.ChangeAt Go.RowKit
/-- One variable's row turned. -/
def layRow (g : Nat) (zs : List Int) (w : World) : World :=
  { w with heap := w.heap.modify g fun
      | .cells _ t frozen => .cells (zs.map fun z => Value.int .u32 z).toArray t frozen
      | o => o }
noncomputable def laidWorld (os : Os) : World :=
  layRow 2 kInts (layRow 0 [1779033703, 3144134277, 1013904242, 2773480762, 1359893119, 2600822924, 528734635, 1541459225] (layRow 1 kInts (World.holding Tryd.prog os ⟨#[], #[], []⟩)))
end Go.Proofs.YteogcilnpkaplaaDoor

namespace Go.Proofs.YteogcilnpkaplaaDoor
open Go.ChangeShapes Go.WideShapes Go.ChangeAt Go.RowKit
theorem laidR_eq : Rows.laid_crossbar_crossbarref03_k (H := Unit) = Lib.tabData .u32 kInts := rfl
theorem rkfact_of_reads {w : World} (h : Lib.VarReads Tryd.prog w "crossbar/crossbarref03.k" Rows.laid_crossbar_crossbarref03_k) : RKFact w := by
  obtain ⟨g, t, cs, fuel, p, e1, e2, e3, e4⟩ := h
  have hg : Tryd.prog.globalNamed "crossbar/crossbarref03.k" = some 2 := by kernel_rfl
  obtain rfl := Option.some.inj (hg.symm.trans e1)
  have ht : (Tryd.prog.globals[2]?).map (·.type) = some 90 := by kernel_rfl
  obtain rfl := Option.some.inj (ht.symm.trans e2)
  rw [laidR_eq] at e4
  have hcs := Lib.cells_of_tab (n := 64) (e := 75) (by kernel_rfl) (by kernel_rfl) (by kernel_rfl) (by kernel_rfl) e4
  intro i hi
  rw [World.var?_cell hg e3 i, ← Array.getElem?_toList, hcs, kInts, List.map_map, List.getElem?_map]
  have hi' : i < kNats.length := by rw [kNats_len]; exact hi
  have hlt := kNats_lt i hi
  rw [List.getElem?_eq_getElem hi']
  have hd : kNats.getD i 0 = kNats[i] := by rw [List.getD_eq_getElem?_getD, List.getElem?_eq_getElem hi']; rfl
  unfold V kW
  rw [BitVec.toNat_ofNat, hd, Nat.mod_eq_of_lt (by rw [← hd]; exact hlt)]
  rfl
theorem laid_row {P : Program} {w : World} : ∀ {l : List (String × DataW Unit)} {ps : List MemPlace}, DataW.LaidVars P w l ps → ∀ n d, (n, d) ∈ l →
    ∃ g t cs fuel p, P.globalNamed n = some g ∧ (P.globals[g]?).map (·.type) = some t ∧ w.var? P n = some cs ∧ DataW.trod (fun _ => ()) P w 0 (fun _ => true) false fuel t cs.toList = some (d, p) ∧ ∀ x ∈ MemPlace.row ⟨g, 0, none⟩ cs.size, x ∈ ps
  | [], _, _, _, _, hm => by cases hm
  | (n', d') :: r, ps, h, n, d, hm => by
    obtain ⟨g, t, cs, fuel, p, q, h1, h2, h3, h4, h5, rfl⟩ := h
    rcases List.mem_cons.1 hm with e | e
    · cases e
      exact ⟨g, t, cs, fuel, p, h1, h2, h3, h4, fun x hx => by simp [hx]⟩
    · obtain ⟨g', t', cs', f', p', a1, a2, a3, a4, a5⟩ := laid_row h5 n d e
      exact ⟨g', t', cs', f', p', a1, a2, a3, a4, fun x hx => by simp [a5 x hx]⟩
def iInts : List Int := [1779033703, 3144134277, 1013904242, 2773480762, 1359893119, 2600822924, 528734635, 1541459225]
theorem laidI_eq : Rows.laid_crossbar_crossbarref03_initial (H := Unit) = Lib.tabData .u32 iInts := rfl
theorem iInts_cells : (iInts.map fun z => Value.int .u32 z).toArray = cellsU St.init.list := rfl
theorem rifact_of_laid {w : World} {l : List (String × DataW Unit)} (h : laidMet Tryd.prog l w) (hm : ("crossbar/crossbarref03.initial", Rows.laid_crossbar_crossbarref03_initial) ∈ l) : RIFact w := by
  obtain ⟨ps, hv, _, hc⟩ := h
  obtain ⟨g, t, cs, fuel, p, e1, e2, e3, e4, e5⟩ := laid_row hv _ _ hm
  have hg : Tryd.prog.globalNamed "crossbar/crossbarref03.initial" = some 0 := by kernel_rfl
  obtain rfl := Option.some.inj (hg.symm.trans e1)
  have ht : (Tryd.prog.globals[0]?).map (·.type) = some 76 := by kernel_rfl
  obtain rfl := Option.some.inj (ht.symm.trans e2)
  rw [laidI_eq] at e4
  have hcs := Lib.cells_of_tab (n := 8) (e := 75) (by kernel_rfl) (by kernel_rfl) (by kernel_rfl) (by kernel_rfl) e4
  have hce : cs = cellsU St.init.list := by rw [← iInts_cells, ← hcs]
  have hin : MemPlace.cell 0 0 ∈ ps := e5 _ (by rw [hce]; simp [MemPlace.row, cellsU_size, St.list])
  obtain ⟨⟨c, tt, hh⟩, _⟩ := hc _ _ hin
  refine ⟨tt, ?_⟩
  have hcc : c = cs := by
    simp only [World.var?, hg, Option.bind_some, hh] at e3
    exact Option.some.inj e3
  rw [hcc, hce] at hh
  exact hh
theorem trodAll_five_k {H : Type} {enc : TypeId × Value → H} {P : Program} {w : World} {base : Nat} {spare : Nat → Bool} {held : Bool} {t t' t'' t3 t4 : TypeId} {args : Array Value} {ds : List (DataW H)} {ps : List MemPlace} (h : DataW.TrodAll enc P w base spare held [t, t', t'', t3, t4] args.toList ds ps) :
    ∃ v v' v'' v3 v4 d d' d'' d3 d4 p p' p'' p3 p4, args = #[v, v', v'', v3, v4] ∧ ds = [d, d', d'', d3, d4] ∧ ps = p ++ p' ++ p'' ++ p3 ++ p4 ∧ DataW.Trod enc P w base spare held t v d p ∧ DataW.Trod enc P w base spare held t' v' d' p' ∧ DataW.Trod enc P w base spare held t'' v'' d'' p'' ∧ DataW.Trod enc P w base spare held t3 v3 d3 p3 ∧ DataW.Trod enc P w base spare held t4 v4 d4 p4 := by
  obtain ⟨v, vs, d, ds', p, q, hargs, rfl, rfl, hd, hrest⟩ := trodAll_cons h
  obtain ⟨v', vs', d', ds'', p', q', rfl, rfl, rfl, hd', hrest'⟩ := trodAll_cons hrest
  obtain ⟨v'', vs'', d'', ds''', p'', q'', rfl, rfl, rfl, hd'', hrest''⟩ := trodAll_cons hrest'
  obtain ⟨v3, vs3, d3, ds3, p3, q3, rfl, rfl, rfl, hd3, hrest3⟩ := trodAll_cons hrest''
  obtain ⟨v4, vs4, d4, ds4, p4, q4, rfl, rfl, rfl, hd4, hrest4⟩ := trodAll_cons hrest3
  obtain ⟨rfl, rfl, rfl⟩ := trodAll_nil hrest4
  exact ⟨v, v', v'', v3, v4, d, d', d'', d3, d4, p, p', p'', p3, p4, by cases args; simp_all, rfl, by simp, hd, hd', hd'', hd3, hd4⟩
end Go.Proofs.YteogcilnpkaplaaDoor

namespace Go.Proofs.YteogcilnpkaplaaDoor
open Go.ChangeShapes Go.WideShapes Go.ChangeAt Go.RowKit
theorem digest_cells {H : Type} {enc : TypeId × Value → H} {W : World} {base : Nat} {sp : Nat → Bool} {held : Bool} {cs : List Value} {fuel : Nat} {y : DataW H × List MemPlace} (hf : DataW.trod enc Tryd.prog W base sp held fuel 25 cs = some y) :
    ∃ x : List UInt8, cs = x.map B8 ∧ x.length = 32 := by
  obtain ⟨xs, m, rfl, hx, hl, hxl, hall⟩ := DataW.trod_array Tryd.rowD hf
  rw [Tryd.cellD] at hl
  rw [Tryd.cellU] at hall
  have hone : ∀ i, i < 32 → ∃ z, cs[i]? = some (.int .u8 z) ∧ (Lit.int .u8 z).wf = true := by
    intro i hi
    have h1 := hall i hi
    rw [Nat.mul_one] at h1
    obtain ⟨b, hb⟩ : ∃ b, xs[i]? = some b := ⟨xs[i]'(by omega), List.getElem?_eq_getElem (by omega)⟩
    rw [hb] at h1
    obtain ⟨z, hcz, rfl, hw⟩ := DataW.trod_int Tryd.rowU h1
    refine ⟨z, ?_, hw⟩
    have h2 := congrArg (·[0]?) hcz
    simpa [List.getElem?_take, List.getElem?_drop] using h2
  have hlist : ∀ (l : List Value), (∀ c ∈ l, ∃ z, c = .int .u8 z ∧ (Lit.int .u8 z).wf = true) → ∃ x : List UInt8, l = x.map B8 := by
    intro l
    induction l with
    | nil => intro _; exact ⟨[], rfl⟩
    | cons c l ih =>
      intro hc
      obtain ⟨z, rfl, hw⟩ := hc c (by simp)
      obtain ⟨y, rfl⟩ := byte_of_wf hw
      obtain ⟨x, rfl⟩ := ih fun c' hc' => hc c' (by simp [hc'])
      exact ⟨y :: x, rfl⟩
  obtain ⟨x, hx'⟩ := hlist cs fun c hc => by
    obtain ⟨i, hi, rfl⟩ := List.getElem_of_mem hc
    obtain ⟨z, h1, h2⟩ := hone i (by omega)
    rw [List.getElem?_eq_getElem hi] at h1
    exact ⟨z, Option.some.inj h1, h2⟩
  refine ⟨x, hx', ?_⟩
  have := congrArg List.length hx'
  rw [List.length_map, hl] at this; omega
theorem all32_nil : all32 [] := fun _ h => absurd h List.not_mem_nil
/-- The digests, one behind the other. -/
theorem digs_of : ∀ (n : Nat) (f : Nat → Option (List UInt8)), (∀ i, i < n → ∃ x, f i = some x ∧ x.length = 32) → ∃ xs : List (List UInt8), xs.length = n ∧ all32 xs ∧ ∀ i, i < n → f i = some (xs.getD i [])
  | 0, _, _ => ⟨[], rfl, all32_nil, fun _ h => by omega⟩
  | n + 1, f, h => by
    obtain ⟨xs, h1, h2, h3⟩ := digs_of n f fun i hi => h i (by omega)
    obtain ⟨x, hx, hl⟩ := h n (by omega)
    refine ⟨xs ++ [x], by simp [h1], fun y hy => ?_, fun i hi => ?_⟩
    · rcases List.mem_append.1 hy with h' | h'
      · exact h2 y h'
      · rw [List.mem_singleton.1 h']; exact hl
    · by_cases hin : i = n
      · subst hin
        rw [hx, List.getD_eq_getElem?_getD, List.getElem?_append_right (by omega), h1]; simp
      · rw [h3 i (by omega), List.getD_eq_getElem?_getD, List.getD_eq_getElem?_getD, List.getElem?_append_left (by omega)]
theorem open_digs_c {H : Type} {enc : TypeId × Value → H} {W : World} {base : Nat} {held : Bool} {a0 : Option Addr} {len0 cap0 : Nat} {d : DataW H} {ps : List MemPlace} {sp : Nat → Bool}
    (h : DataW.Trod enc Tryd.prog W base sp held 29 (.slice a0 len0 cap0) d ps) : ∃ xs : List (List UInt8), Digs W (.slice a0 len0 cap0) xs ∧ all32 xs ∧ xs.length ≤ maxLen := by
  obtain ⟨fuel, hf⟩ := h
  have hmax : maxLen ≤ 9223372036854775807 := by decide
  rcases DataW.trod_slice Tryd.underDs hf with ⟨hcs, _⟩ | ⟨a, len, cap, elems, rest, n, rfl, hcs, _, hb, hl, hm, hel, hall, _, _⟩
  · simp only [Value.cells, List.cons.injEq, and_true, Value.slice.injEq] at hcs
    obtain ⟨rfl, rfl, rfl⟩ := hcs
    exact ⟨[], Digs.nil W, all32_nil, Nat.zero_le _⟩
  · simp only [Value.cells, List.cons.injEq, and_true, Value.slice.injEq] at hcs
    obtain ⟨rfl, rfl, rfl⟩ := hcs
    rw [Tryd.cellD] at hall
    have each : ∀ i, i < len0 → ∃ x : List UInt8, x.length = 32 ∧ ∀ j, j < 32 → W.cell? ((a.add (i * 32)).add j) = (x.map B8)[j]? := by
      intro i hi
      have h1 := hall i hi
      rw [List.getElem?_eq_getElem (by omega), Option.bind_eq_some_iff] at h1
      obtain ⟨cs', hcs', hy⟩ := h1
      obtain ⟨x, rfl, hx⟩ := digest_cells hy
      obtain ⟨_, _, hc⟩ := World.cells?_some hcs'
      exact ⟨x, hx, hc⟩
    by_cases hp : 0 < len0
    · obtain ⟨x0, hx0, hc0⟩ := each 0 hp
      obtain ⟨b, off, spot⟩ := a
      have hspot : spot = none := by
        have h1 := hc0 0 (by decide)
        rw [List.getElem?_map, List.getElem?_eq_getElem (by omega)] at h1
        simpa [Addr.add] using World.cell?_spot h1
      subst hspot
      have hch : ∀ i, i < len0 → ∃ x : List UInt8, x.length = 32 ∧ ∀ j, j < 32 → W.cell? ⟨b, off + (i * 32 + j), none⟩ = (x.map B8)[j]? := fun i hi => by
        obtain ⟨x, hx, hc⟩ := each i hi
        refine ⟨x, hx, fun j hj => ?_⟩
        have := hc j hj
        rw [Go.WideShapes.add_plain, Go.WideShapes.add_plain, Nat.add_assoc] at this
        exact this
      have hch2 : ∀ i, ∃ x : List UInt8, i < len0 → x.length = 32 ∧ ∀ j, j < 32 → W.cell? ⟨b, off + (i * 32 + j), none⟩ = (x.map B8)[j]? := fun i => by
        by_cases hi : i < len0
        · obtain ⟨x, h⟩ := hch i hi; exact ⟨x, fun _ => h⟩
        · exact ⟨[], fun h => absurd h hi⟩
      obtain ⟨xs, h1, h2, h3⟩ := digs_of len0 (fun i => some (Classical.choose (hch2 i))) fun i hi => ⟨_, rfl, (Classical.choose_spec (hch2 i) hi).1⟩
      refine ⟨xs, ⟨some ⟨b, off, none⟩, cap0, by rw [h1], by omega, by omega, .inr ⟨b, off, rfl, fun k hk => ?_⟩⟩, h2, by omega⟩
      rw [flat_len xs h2, h1] at hk
      have hi : k / 32 < len0 := by omega
      have he := Option.some.inj (h3 (k / 32) hi)
      obtain ⟨hxl, hxc⟩ := Classical.choose_spec (hch2 (k / 32)) hi
      rw [he] at hxl hxc
      have hk2 := hxc (k % 32) (by omega)
      rw [show k / 32 * 32 + k % 32 = k by omega] at hk2
      rw [hk2, List.getElem?_map, List.getElem?_eq_getElem (by omega)]
      have hfe := flat_elem h2 (k / 32) (by omega)
      unfold by8
      have hg : xs.flatten.getD k 0 = (xs.getD (k / 32) []).getD (k % 32) 0 := by
        rw [← hfe, List.getD_eq_getElem?_getD, List.getD_eq_getElem?_getD, List.getElem?_take, if_pos (by omega), List.getElem?_drop, show 32 * (k / 32) + k % 32 = k by omega]
      rw [hg, List.getD_eq_getElem?_getD (l := xs.getD (k / 32) []), List.getElem?_eq_getElem (by omega)]
      rfl
    · refine ⟨[], ⟨some a, cap0, by rw [show len0 = 0 by omega]; rfl, by simp, by omega, .inl ⟨rfl, fun e => by cases e⟩⟩, all32_nil, Nat.zero_le _⟩
theorem open_digs {H : Type} {enc : TypeId × Value → H} {W : World} {base base' : Nat} {held : Bool} {v : Value} {d : DataW H} {ps : List MemPlace} {r : Reach} {sp : Nat → Bool} (hval : Value.okWide Tryd.prog W r base' 29 v)
    (h : DataW.Trod enc Tryd.prog W base sp held 29 v d ps) : ∃ xs : List (List UInt8), Digs W v xs ∧ all32 xs ∧ xs.length ≤ maxLen := by
  obtain ⟨a0, len0, cap0, rfl⟩ := okWide_slice Tryd.underDs hval
  exact open_digs_c h
end Go.Proofs.YteogcilnpkaplaaDoor

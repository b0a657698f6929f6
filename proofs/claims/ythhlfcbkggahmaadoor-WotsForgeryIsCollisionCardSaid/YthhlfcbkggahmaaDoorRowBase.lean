/- What opens the rows: an argument's bytes, the constants out of the row's condition, the world that meets it. No conditions. -/
import Derived.Test.YthhlfcbkggahmaaDoorRows
import Derived.Test.YthhlfcbkggahmaaDoorEach
import Derived.ProofKit
import Derived.LaidLaws
import Derived.LaidHandle
import Derived.Lib.LaidU8
import Derived.Stop.Joined
import Derived.OpenShut
namespace Go.Proofs.YthhlfcbkggahmaaDoor
open Go.ChangeShapes Go.WideShapes Go.ChangeAt Go.RowKit

theorem Tryd.own : ownKnob Tryd.prog.godebug = none := by kernel_rfl
theorem Tryd.laidOut : laidOutB Tryd.prog = true := by kernel_rfl
theorem Tryd.rowU : Tryd.prog.underlying 5 = some (.int .u8) := by kernel_rfl
theorem Tryd.rowB : Tryd.prog.underlying 29 = some (.slice 5) := by kernel_rfl
theorem Tryd.rowD : Tryd.prog.underlying 23 = some (.array 32 5) := by kernel_rfl
theorem Tryd.rowI : Tryd.prog.underlying 3 = some (.int .i64) := by kernel_rfl
theorem Tryd.rowS : Tryd.prog.underlying 9 = some .string := by kernel_rfl
theorem Tryd.rowBool : Tryd.prog.underlying 4 = some .bool := by kernel_rfl
theorem Tryd.cellU : Tryd.prog.cellsOf 5 = 1 := by kernel_rfl
theorem Tryd.cellD : Tryd.prog.cellsOf 23 = 32 := by kernel_rfl

/-- The constants' numbers. -/
def kInts : List Int := kNats.map Int.ofNat
theorem kNats_lt : ∀ t, t < 64 → kNats.getD t 0 < 4294967296 := by decide
theorem kNats_len : kNats.length = 64 := rfl
theorem laidK_eq : Rows.laid_crossbar_sha256_k (H := Unit) = Lib.tabData .u32 kInts := rfl
theorem kfact_of_reads {w : World} (h : Lib.VarReads Tryd.prog w "crossbar/sha256.k" Rows.laid_crossbar_sha256_k) : KFact w := by
  obtain ⟨g, t, cs, fuel, p, e1, e2, e3, e4⟩ := h
  have hg : Tryd.prog.globalNamed "crossbar/sha256.k" = some 0 := by kernel_rfl
  obtain rfl := Option.some.inj (hg.symm.trans e1)
  have ht : (Tryd.prog.globals[0]?).map (·.type) = some 71 := by kernel_rfl
  obtain rfl := Option.some.inj (ht.symm.trans e2)
  rw [laidK_eq] at e4
  have hcs := Lib.cells_of_tab (n := 64) (e := 61) (by kernel_rfl) (by kernel_rfl) (by kernel_rfl) (by kernel_rfl) e4
  intro i hi
  rw [World.var?_cell hg e3 i, ← Array.getElem?_toList, hcs, kInts, List.map_map, List.getElem?_map]
  have hi' : i < kNats.length := by rw [kNats_len]; exact hi
  have hlt := kNats_lt i hi
  rw [List.getElem?_eq_getElem hi']
  have hd : kNats.getD i 0 = kNats[i] := by rw [List.getD_eq_getElem?_getD, List.getElem?_eq_getElem hi']; rfl
  unfold V kW
  rw [BitVec.toNat_ofNat, hd, Nat.mod_eq_of_lt (by rw [← hd]; exact hlt)]
  rfl

/-- A number of one byte is a byte. -/
theorem byte_of_wf {n : Int} (h : (Lit.int .u8 n).wf = true) : ∃ y : UInt8, n = Y y := by
  have hb := bounds_u8 h
  refine ⟨UInt8.ofNat n.toNat, ?_⟩
  unfold Y
  rw [UInt8.toNat_ofNat', Nat.mod_eq_of_lt (by omega)]
  omega
theorem bytes_of_wf : ∀ (zs : List Int), (∀ n ∈ zs, (Lit.int .u8 n).wf = true) → ∃ x : List UInt8, zs = x.map Y
  | [], _ => ⟨[], rfl⟩
  | n :: zs, h => by
    obtain ⟨y, rfl⟩ := byte_of_wf (h n (by simp))
    obtain ⟨x, rfl⟩ := bytes_of_wf zs fun m hm => h m (by simp [hm])
    exact ⟨y :: x, rfl⟩
/-- A digest, opened. -/
theorem open_digest {H : Type} {enc : TypeId × Value → H} {W : World} {base : Nat} {sp : Nat → Bool} {held : Bool} {v : Value} {d : DataW H} {ps : List MemPlace} (h : DataW.Trod enc Tryd.prog W base sp held 23 v d ps) :
    ∃ x : List UInt8, v = .agg (cellsB x) ∧ x.length = 32 ∧ ps = [] := by
  obtain ⟨fuel, hf⟩ := h
  obtain ⟨xs, m, rfl, hx, hl, hxl, hall⟩ := DataW.trod_array Tryd.rowD hf
  rw [Tryd.cellD] at hl
  rw [Tryd.cellU] at hall
  have hv : v = .agg v.cells := by
    cases v with
    | agg a => rfl
    | _ => simp [Value.cells] at hl
  have hone : ∀ i, i < 32 → ∃ z, v.cells.toList[i]? = some (.int .u8 z) ∧ (Lit.int .u8 z).wf = true ∧ ∀ y, xs[i]? = some y → y.2 = [] := by
    intro i hi
    have h1 := hall i hi
    rw [Nat.mul_one] at h1
    obtain ⟨b, hb⟩ : ∃ b, xs[i]? = some b := ⟨xs[i]'(by omega), List.getElem?_eq_getElem (by omega)⟩
    rw [hb] at h1
    obtain ⟨z, hcz, rfl, hw⟩ := DataW.trod_int Tryd.rowU h1
    refine ⟨z, ?_, hw, ?_⟩
    · have h2 := congrArg (·[0]?) hcz
      simpa [List.getElem?_take, List.getElem?_drop] using h2
    · intro y hy; rw [hb] at hy; cases hy; rfl
  have hps : xs.flatMap (·.2) = [] := by
    rw [List.flatMap_eq_nil_iff]
    intro y hy
    obtain ⟨i, hi, rfl⟩ := List.getElem_of_mem hy
    obtain ⟨_, _, _, h3⟩ := hone i (by omega)
    exact h3 _ (List.getElem?_eq_getElem hi)
  have hlist : ∀ (l : List Value), (∀ c ∈ l, ∃ z, c = .int .u8 z ∧ (Lit.int .u8 z).wf = true) → ∃ x : List UInt8, l = x.map B8 := by
    intro l
    induction l with
    | nil => intro _; exact ⟨[], rfl⟩
    | cons c l ih =>
      intro hc
      obtain ⟨z, rfl, hw⟩ := hc c (by simp)
      obtain ⟨y, rfl⟩ := byte_of_wf hw
      obtain ⟨x, rfl⟩ := ih fun c' hc' => hc c' (by simp [hc'])
      exact ⟨y :: x, rfl⟩
  obtain ⟨x, hx'⟩ := hlist v.cells.toList fun c hc => by
    obtain ⟨i, hi, rfl⟩ := List.getElem_of_mem hc
    obtain ⟨z, h1, h2, _⟩ := hone i (by omega)
    rw [List.getElem?_eq_getElem hi] at h1
    exact ⟨z, Option.some.inj h1, h2⟩
  refine ⟨x, ?_, ?_, ?_⟩
  · rw [hv]
    unfold cellsB
    rw [← hx']
  · have := congrArg List.length hx'
    rw [List.length_map, hl] at this; omega
  · have := congrArg Prod.snd hx
    simpa [hps] using this
/-- A slice of bytes, opened. -/
theorem open_bytes {H : Type} {enc : TypeId × Value → H} {W : World} {base base' : Nat} {held : Bool} {v : Value} {d : DataW H} {ps : List MemPlace} {r : Reach} (hval : Value.okWide Tryd.prog W r base' 29 v)
    (h : DataW.Trod enc Tryd.prog W base (fun _ => true) held 29 v d ps) : ∃ x : List UInt8, Bytes W v x (fun _ => True) ∧ x.length ≤ maxLen := by
  obtain ⟨a0, len0, cap0, rfl⟩ := okWide_slice Tryd.rowB hval
  obtain ⟨fuel, hf⟩ := h
  rcases open_ints Tryd.rowB Tryd.rowU Tryd.cellU hf with ⟨hcs, _⟩ | ⟨a, len, cap, zs, hcs, _, hl, hm, hz, _, hcell, hwf⟩
  · simp only [Value.cells, List.cons.injEq, and_true, Value.slice.injEq] at hcs
    obtain ⟨rfl, rfl, rfl⟩ := hcs
    exact ⟨[], ⟨none, 0, rfl, by simp, by decide, .inl ⟨rfl, fun _ => rfl⟩⟩, by simp⟩
  · simp only [Value.cells, List.cons.injEq, and_true, Value.slice.injEq] at hcs
    obtain ⟨rfl, rfl, rfl⟩ := hcs
    simp only [if_true] at hz
    obtain ⟨y, rfl⟩ := bytes_of_wf zs hwf
    simp only [List.length_map] at hz hcell
    have hlen : (y.take len0).length = len0 := by rw [List.length_take]; omega
    have hmax : maxLen ≤ 9223372036854775807 := by decide
    refine ⟨y.take len0, ⟨some a, cap0, by rw [hlen], by rw [hlen]; exact hl, by omega, ?_⟩, by rw [hlen]; omega⟩
    by_cases hp : 0 < cap0
    · obtain ⟨b, off, rfl, hc⟩ := ints_at (zs := y.map Y) (by rw [List.length_map]; exact hcell) (by rw [List.length_map]; omega)
      rw [List.length_map] at hc
      refine .inr ⟨b, off, rfl, trivial, fun i hi => ?_⟩
      rw [hlen] at hi
      rw [hc i (by omega)]
      unfold by8
      have hiy : i < y.length := by omega
      rw [List.getD_eq_getElem?_getD, List.getD_eq_getElem?_getD, List.getElem?_map, List.getElem?_take, if_pos hi, List.getElem?_eq_getElem hiy]
      rfl
    · refine .inl ⟨?_, fun e => by cases e⟩
      have : len0 = 0 := by omega
      subst this; rfl
/-- All arguments read as before where nothing below has turned. -/
theorem below_trodAll {H : Type} {enc : TypeId × Value → H} {W W' : World} (hb : Below W.heap.size W W') : ∀ (ts : List TypeId) (vs : List Value) (ds : List (DataW H)) (ps : List MemPlace), (∀ t ∈ ts, Tryd.prog.readableRec t = true ∧ t < Tryd.prog.types.size) →
    DataW.TrodAll enc Tryd.prog W 0 (fun _ => true) true ts vs ds ps → (∀ x ∈ ps, x.block < W.heap.size) → DataW.TrodAll enc Tryd.prog W' 0 (fun b => decide (b < W.heap.size)) true ts vs ds ps
  | [], [], [], _, _, h, _ => h
  | t :: ts, v :: vs, d :: ds, _, hts, ⟨p, q, h1, h2, e⟩, hlt => by
    subst e
    exact ⟨p, q, Below.trod Tryd.laidOut (hts t (by simp)).1 (hts t (by simp)).2 h1 hb (fun x hx => hlt x (by simp [hx])), below_trodAll hb ts vs ds q (fun t' ht' => hts t' (by simp [ht'])) h2 (fun x hx => hlt x (by simp [hx])), rfl⟩
  | [], [], _ :: _, _, _, h, _ => h.elim
  | [], _ :: _, _, _, _, h, _ => h.elim
  | _ :: _, [], _, _, _, h, _ => h.elim
  | _ :: _, _ :: _, [], _, _, h, _ => h.elim
/-- What a law's row asks behind the call. -/
theorem law_post {H : Type} {enc : TypeId × Value → H} {f : Func} {s : ChangeSpec} {W W' : World} {args : Array Value} {ds gs : List (DataW H)} {before : List MemPlace} (hW : DataW.Whole enc Tryd.prog f.params.toList s.vars false W args.toList ds gs before)
    (hv : s.vars = []) (hr : f.resultTypes = #[4]) (hts : ∀ t ∈ f.params.toList, Tryd.prog.readableRec t = true ∧ t < Tryd.prog.types.size) (hfn : s.fn H (ds ++ gs) = { results := [.lit (.bool true)], args := ds }) (hb : Below W.heap.size W W') :
    s.post enc Tryd.prog f false true false false W args (.bool true) W' := by
  have hlt := hW.lt
  have hW' := hW
  obtain ⟨p, q, hA, hV, rfl, _, _⟩ := hW
  refine ⟨ds, gs, p ++ q, [], p, [], hW', ?_, ?_, ?_, hb.frame _, fun h => by cases h⟩
  · rw [hfn, hr]; exact trodAll_mk1 (shut_bool Tryd.rowBool true)
  · rw [hfn]; exact below_trodAll hb _ _ _ _ hts hA (fun x hx => by simpa using hlt x (by simp [hx]))
  · rw [hfn, hv]; rfl
end Go.Proofs.YthhlfcbkggahmaaDoor

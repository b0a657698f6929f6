/- A slice of digests among a row's arguments, opened. No conditions. -/
import Derived.Test.YthhlfcbkggahmaaDoorRowBase
import Derived.Test.YthhlfcbkggahmaaDoorWMem
namespace Go.Proofs.YthhlfcbkggahmaaDoor
open Go.ChangeShapes Go.WideShapes Go.ChangeAt Go.RowKit
theorem digest_cells {H : Type} {enc : TypeId × Value → H} {W : World} {base : Nat} {sp : Nat → Bool} {held : Bool} {cs : List Value} {fuel : Nat} {y : DataW H × List MemPlace} (hf : DataW.trod enc Tryd.prog W base sp held fuel 23 cs = some y) :
    ∃ x : List UInt8, cs = x.map B8 ∧ x.length = 32 := by
  obtain ⟨xs, m, rfl, hx, hl, hxl, hall⟩ := DataW.trod_array Tryd.rowD hf
  rw [Tryd.cellD] at hl
  rw [Tryd.cellU] at hall
  have hone : ∀ i, i < 32 → ∃ z, cs[i]? = some (.int .u8 z) ∧ (Lit.int .u8 z).wf = true := by
    intro i hi
    have h1 := hall i hi
    rw [Nat.mul_one] at h1
    obtain ⟨b, hb⟩ : ∃ b, xs[i]? = some b := ⟨xs[i]'(by omega), List.getElem?_eq_getElem (by omega)⟩
    rw [hb] at h1
    obtain ⟨z, hcz, rfl, hw⟩ := DataW.trod_int Tryd.rowU h1
    refine ⟨z, ?_, hw⟩
    have h2 := congrArg (·[0]?) hcz
    simpa [List.getElem?_take, List.getElem?_drop] using h2
  have hlist : ∀ (l : List Value), (∀ c ∈ l, ∃ z, c = .int .u8 z ∧ (Lit.int .u8 z).wf = true) → ∃ x : List UInt8, l = x.map B8 := by
    intro l
    induction l with
    | nil => intro _; exact ⟨[], rfl⟩
    | cons c l ih =>
      intro hc
      obtain ⟨z, rfl, hw⟩ := hc c (by simp)
      obtain ⟨y, rfl⟩ := byte_of_wf hw
      obtain ⟨x, rfl⟩ := ih fun c' hc' => hc c' (by simp [hc'])
      exact ⟨y :: x, rfl⟩
  obtain ⟨x, hx'⟩ := hlist cs fun c hc => by
    obtain ⟨i, hi, rfl⟩ := List.getElem_of_mem hc
    obtain ⟨z, h1, h2⟩ := hone i (by omega)
    rw [List.getElem?_eq_getElem hi] at h1
    exact ⟨z, Option.some.inj h1, h2⟩
  refine ⟨x, hx', ?_⟩
  have := congrArg List.length hx'
  rw [List.length_map, hl] at this; omega
theorem all32_nil : all32 [] := fun _ h => absurd h List.not_mem_nil
/-- The digests, one behind the other. -/
theorem digs_of : ∀ (n : Nat) (f : Nat → Option (List UInt8)), (∀ i, i < n → ∃ x, f i = some x ∧ x.length = 32) → ∃ xs : List (List UInt8), xs.length = n ∧ all32 xs ∧ ∀ i, i < n → f i = some (xs.getD i [])
  | 0, _, _ => ⟨[], rfl, all32_nil, fun _ h => by omega⟩
  | n + 1, f, h => by
    obtain ⟨xs, h1, h2, h3⟩ := digs_of n f fun i hi => h i (by omega)
    obtain ⟨x, hx, hl⟩ := h n (by omega)
    refine ⟨xs ++ [x], by simp [h1], fun y hy => ?_, fun i hi => ?_⟩
    · rcases List.mem_append.1 hy with h' | h'
      · exact h2 y h'
      · rw [List.mem_singleton.1 h']; exact hl
    · by_cases hin : i = n
      · subst hin
        rw [hx, List.getD_eq_getElem?_getD, List.getElem?_append_right (by omega), h1]; simp
      · rw [h3 i (by omega), List.getD_eq_getElem?_getD, List.getD_eq_getElem?_getD, List.getElem?_append_left (by omega)]
theorem open_digs {H : Type} {enc : TypeId × Value → H} {W : World} {base base' : Nat} {held : Bool} {v : Value} {d : DataW H} {ps : List MemPlace} {r : Reach} {sp : Nat → Bool} (hval : Value.okWide Tryd.prog W r base' 33 v)
    (h : DataW.Trod enc Tryd.prog W base sp held 33 v d ps) : ∃ xs : List (List UInt8), Digs W v xs ∧ all32 xs ∧ xs.length ≤ maxLen := by
  obtain ⟨a0, len0, cap0, rfl⟩ := okWide_slice Tryd.underDs hval
  obtain ⟨fuel, hf⟩ := h
  have hmax : maxLen ≤ 9223372036854775807 := by decide
  rcases DataW.trod_slice Tryd.underDs hf with ⟨hcs, _⟩ | ⟨a, len, cap, elems, rest, n, rfl, hcs, _, hb, hl, hm, hel, hall, _, _⟩
  · simp only [Value.cells, List.cons.injEq, and_true, Value.slice.injEq] at hcs
    obtain ⟨rfl, rfl, rfl⟩ := hcs
    exact ⟨[], Digs.nil W, all32_nil, Nat.zero_le _⟩
  · simp only [Value.cells, List.cons.injEq, and_true, Value.slice.injEq] at hcs
    obtain ⟨rfl, rfl, rfl⟩ := hcs
    rw [Tryd.cellD] at hall
    have each : ∀ i, i < len0 → ∃ x : List UInt8, x.length = 32 ∧ ∀ j, j < 32 → W.cell? ((a.add (i * 32)).add j) = (x.map B8)[j]? := by
      intro i hi
      have h1 := hall i hi
      rw [List.getElem?_eq_getElem (by omega), Option.bind_eq_some_iff] at h1
      obtain ⟨cs', hcs', hy⟩ := h1
      obtain ⟨x, rfl, hx⟩ := digest_cells hy
      obtain ⟨_, _, hc⟩ := World.cells?_some hcs'
      exact ⟨x, hx, hc⟩
    by_cases hp : 0 < len0
    · obtain ⟨x0, hx0, hc0⟩ := each 0 hp
      obtain ⟨b, off, spot⟩ := a
      have hspot : spot = none := by
        have h1 := hc0 0 (by decide)
        rw [List.getElem?_map, List.getElem?_eq_getElem (by omega)] at h1
        simpa [Addr.add] using World.cell?_spot h1
      subst hspot
      have hch : ∀ i, i < len0 → ∃ x : List UInt8, x.length = 32 ∧ ∀ j, j < 32 → W.cell? ⟨b, off + (i * 32 + j), none⟩ = (x.map B8)[j]? := fun i hi => by
        obtain ⟨x, hx, hc⟩ := each i hi
        refine ⟨x, hx, fun j hj => ?_⟩
        have := hc j hj
        rw [Go.WideShapes.add_plain, Go.WideShapes.add_plain, Nat.add_assoc] at this
        exact this
      have hch2 : ∀ i, ∃ x : List UInt8, i < len0 → x.length = 32 ∧ ∀ j, j < 32 → W.cell? ⟨b, off + (i * 32 + j), none⟩ = (x.map B8)[j]? := fun i => by
        by_cases hi : i < len0
        · obtain ⟨x, h⟩ := hch i hi; exact ⟨x, fun _ => h⟩
        · exact ⟨[], fun h => absurd h hi⟩
      obtain ⟨xs, h1, h2, h3⟩ := digs_of len0 (fun i => some (Classical.choose (hch2 i))) fun i hi => ⟨_, rfl, (Classical.choose_spec (hch2 i) hi).1⟩
      refine ⟨xs, ⟨some ⟨b, off, none⟩, cap0, by rw [h1], by omega, by omega, .inr ⟨b, off, rfl, fun k hk => ?_⟩⟩, h2, by omega⟩
      rw [flat_len xs h2, h1] at hk
      have hi : k / 32 < len0 := by omega
      have he := Option.some.inj (h3 (k / 32) hi)
      obtain ⟨hxl, hxc⟩ := Classical.choose_spec (hch2 (k / 32)) hi
      rw [he] at hxl hxc
      have hk2 := hxc (k % 32) (by omega)
      rw [show k / 32 * 32 + k % 32 = k by omega] at hk2
      rw [hk2, List.getElem?_map, List.getElem?_eq_getElem (by omega)]
      have hfe := flat_elem h2 (k / 32) (by omega)
      unfold by8
      have hg : xs.flatten.getD k 0 = (xs.getD (k / 32) []).getD (k % 32) 0 := by
        rw [← hfe, List.getD_eq_getElem?_getD, List.getD_eq_getElem?_getD, List.getElem?_take, if_pos (by omega), List.getElem?_drop, show 32 * (k / 32) + k % 32 = k by omega]
      rw [hg, List.getD_eq_getElem?_getD (l := xs.getD (k / 32) []), List.getElem?_eq_getElem (by omega)]
      rfl
    · refine ⟨[], ⟨some a, cap0, by rw [show len0 = 0 by omega]; rfl, by simp, by omega, .inl ⟨rfl, fun e => by cases e⟩⟩, all32_nil, Nat.zero_le _⟩
end Go.Proofs.YthhlfcbkggahmaaDoor

/- The one-time signatures as plain functions on lists, and what the chapter says of them. No conditions: plain definitions and laws, without any program. -/
import Derived.Test.YthhlfcbkggahmaaDoorPure1
namespace Go.Proofs.YthhlfcbkggahmaaDoor
/-- Digit i of a digest: its half bytes, the upper first. -/
def dig (d : List UInt8) (i : Nat) : Nat := if i % 2 = 0 then (d.getD (i / 2) 0).toNat / 16 else (d.getD (i / 2) 0).toNat % 16
def digSum (d : List UInt8) : Nat → Nat
  | 0 => 0
  | n + 1 => digSum d n + (15 - dig d n)
/-- Chain length i. -/
def nib (d : List UInt8) (i : Nat) : Nat := if i < 16 then dig d i else if i = 16 then digSum d 16 / 16 else digSum d 16 % 16
def nibs (d : List UInt8) : List Nat := (List.range 18).map (nib d)
/-- A small number's bytes. -/
def lebHi (n : Nat) : UInt8 := UInt8.ofNat (n % 128 + 128)
def leb (n : Nat) : List UInt8 := if n < 128 then [UInt8.ofNat n] else [lebHi n, UInt8.ofNat (n / 128)]
def wotsTag : List UInt8 := [119, 111, 116, 115]
def pubTag : List UInt8 := [119, 111, 116, 115, 112, 117, 98]
def startMsg (seed : List UInt8) (idx i : Nat) : List UInt8 := leb idx ++ leb i ++ seed
def startOf (seed : List UInt8) (idx i : Nat) : List UInt8 := taggedOf wotsTag (startMsg seed idx i)
def tab (f : Nat → List UInt8) : List (List UInt8) := (List.range 18).map f
def keyOf (ends : List (List UInt8)) : List UInt8 := taggedOf pubTag ends.flatten
/-- The elements at places n of the chains of a key. -/
def walkOf (seed : List UInt8) (idx : Nat) (n : Nat → Nat) : List (List UInt8) := tab fun i => chainOf (startOf seed idx i) (n i)
def pubOf (seed : List UInt8) (idx : Nat) : List UInt8 := keyOf (walkOf seed idx fun _ => 15)
def signOf (seed : List UInt8) (idx : Nat) (d : List UInt8) : List (List UInt8) := walkOf seed idx (nib d)
def endsOf (d : List UInt8) (sig : List (List UInt8)) : List (List UInt8) := tab fun i => chainOf (sig.getD i []) (15 - nib d i)
def recOf (d : List UInt8) (sig : List (List UInt8)) : List UInt8 := keyOf (endsOf d sig)

theorem dig_le (d : List UInt8) (i : Nat) : dig d i ≤ 15 := by
  unfold dig
  have := (d.getD (i / 2) 0).toNat_lt
  split <;> omega
theorem digSum_le (d : List UInt8) (n : Nat) : digSum d n ≤ 15 * n := by
  induction n with
  | zero => simp [digSum]
  | succ n ih => rw [digSum]; omega
theorem nib_le (d : List UInt8) (i : Nat) : nib d i ≤ 15 := by
  unfold nib
  have := digSum_le d 16
  split
  · exact dig_le _ _
  · split <;> omega
theorem nibs_len (d : List UInt8) : (nibs d).length = 18 := by simp [nibs]
theorem nibs_get (d : List UInt8) (i : Nat) (h : i < 18) : (nibs d)[i]? = some (nib d i) := by simp [nibs, h]
theorem tab_len (f : Nat → List UInt8) : (tab f).length = 18 := by simp [tab]
theorem tab_get (f : Nat → List UInt8) (i : Nat) (h : i < 18) : (tab f)[i]? = some (f i) := by simp [tab, h]
theorem tab_getD (f : Nat → List UInt8) (i : Nat) (h : i < 18) : (tab f).getD i [] = f i := by
  rw [List.getD_eq_getElem?_getD, tab_get f i h]; rfl
theorem tab_congr {f g : Nat → List UInt8} (h : ∀ i, i < 18 → f i = g i) : tab f = tab g := by
  unfold tab
  exact List.map_congr_left fun i hi => h i (List.mem_range.1 hi)
theorem tab_inj {f g : Nat → List UInt8} (h : tab f = tab g) (i : Nat) (hi : i < 18) : f i = g i := by
  have h1 := congrArg (fun l => l[i]?) h
  simp only [tab_get _ _ hi] at h1
  exact Option.some.inj h1
/-- A list of 18 is the table of its elements. -/
theorem tab_of (l : List (List UInt8)) (h : l.length = 18) : tab (fun i => l.getD i []) = l := by
  apply List.ext_getElem?
  intro i
  by_cases hi : i < 18
  · rw [tab_get _ _ hi, List.getD_eq_getElem?_getD, List.getElem?_eq_getElem (by omega)]; rfl
  · rw [List.getElem?_eq_none (by rw [tab_len]; omega), List.getElem?_eq_none (by omega)]
theorem chain_add (x : List UInt8) (m n : Nat) : chainOf (chainOf x m) n = chainOf x (m + n) := by
  induction n with
  | zero => rfl
  | succ n ih => show taggedOf _ _ = taggedOf _ _; rw [ih]; rfl
/-- Every signature verifies. -/
theorem rec_sign (seed : List UInt8) (idx : Nat) (d : List UInt8) : recOf d (signOf seed idx d) = pubOf seed idx := by
  unfold recOf pubOf
  congr 1
  unfold endsOf walkOf
  refine tab_congr fun i hi => ?_
  unfold signOf walkOf
  rw [tab_getD _ _ hi, chain_add]
  have := nib_le d i
  rw [show nib d i + (15 - nib d i) = 15 by omega]
/-- Chain lengths lean on the first eight bytes alone. -/
theorem dig_congr {a b : List UInt8} (h : ∀ i, i < 8 → a.getD i 0 = b.getD i 0) (i : Nat) (hi : i < 16) : dig a i = dig b i := by
  unfold dig; rw [h (i / 2) (by omega)]
theorem digSum_congr {a b : List UInt8} (h : ∀ i, i < 8 → a.getD i 0 = b.getD i 0) : ∀ n, n ≤ 16 → digSum a n = digSum b n
  | 0, _ => rfl
  | n + 1, hn => by rw [digSum, digSum, digSum_congr h n (by omega), dig_congr h n (by omega)]
theorem nib_congr {a b : List UInt8} (h : ∀ i, i < 8 → a.getD i 0 = b.getD i 0) (i : Nat) : nib a i = nib b i := by
  unfold nib
  rw [digSum_congr h 16 (by omega)]
  split
  · exact dig_congr h i (by assumption)
  · rfl
theorem digSum_mono {a b : List UInt8} (h : ∀ i, i < 16 → dig b i ≤ dig a i) : ∀ n, n ≤ 16 → digSum a n ≤ digSum b n ∧ (digSum a n = digSum b n → ∀ i, i < n → dig a i = dig b i)
  | 0, _ => ⟨Nat.le_refl _, fun _ i hi => by omega⟩
  | n + 1, hn => by
    obtain ⟨h1, h2⟩ := digSum_mono h n (by omega)
    have h3 := h n (by omega)
    have h4 := dig_le a n
    rw [digSum, digSum]
    refine ⟨by omega, fun he i hi => ?_⟩
    by_cases hin : i = n
    · subst hin; omega
    · exact h2 (by omega) i (by omega)
theorem bytes_of_digs {a b : List UInt8} (h : ∀ i, i < 16 → dig a i = dig b i) (i : Nat) (hi : i < 8) : a.getD i 0 = b.getD i 0 := by
  have h1 := h (2 * i) (by omega)
  have h2 := h (2 * i + 1) (by omega)
  unfold dig at h1 h2
  rw [if_pos (by omega), if_pos (by omega), show 2 * i / 2 = i by omega] at h1
  rw [if_neg (by omega), if_neg (by omega), show (2 * i + 1) / 2 = i by omega] at h2
  refine UInt8.toNat_inj.1 ?_
  omega
/-- Chain lengths of different digests can't all be below one another's. -/
theorem nib_incomparable {a b : List UInt8} (h : ∀ i, i < 18 → nib b i ≤ nib a i) : ∀ i, i < 8 → a.getD i 0 = b.getD i 0 := by
  have hd : ∀ i, i < 16 → dig b i ≤ dig a i := fun i hi => by
    have := h i (by omega)
    unfold nib at this
    rwa [if_pos hi, if_pos hi] at this
  obtain ⟨h1, h2⟩ := digSum_mono hd 16 (by omega)
  have h16 := h 16 (by omega)
  have h17 := h 17 (by omega)
  unfold nib at h16 h17
  simp only [show ¬ (16 < 16) by omega, show ¬ (17 < 16) by omega, show ¬ (17 = 16) by omega, if_false, if_true] at h16 h17
  exact bytes_of_digs (h2 (by omega))
theorem take8_eq {a b : List UInt8} (ha : a.length = 32) (hb : b.length = 32) : a.take 8 = b.take 8 ↔ ∀ i, i < 8 → a.getD i 0 = b.getD i 0 := by
  constructor
  · intro h i hi
    have h1 := congrArg (fun l => l[i]?) h
    simp only [List.getElem?_take, if_pos hi] at h1
    rw [List.getD_eq_getElem?_getD, List.getD_eq_getElem?_getD, h1]
  · intro h
    apply List.ext_getElem?
    intro i
    rw [List.getElem?_take, List.getElem?_take]
    by_cases hi : i < 8
    · rw [if_pos hi, if_pos hi]
      have := h i hi
      rw [List.getD_eq_getElem?_getD, List.getD_eq_getElem?_getD, List.getElem?_eq_getElem (by omega), List.getElem?_eq_getElem (by omega)] at this
      rw [List.getElem?_eq_getElem (by omega), List.getElem?_eq_getElem (by omega)]
      exact congrArg some this
    · rw [if_neg hi, if_neg hi]
/-- The three sides of WotsNibblesIncomparable. -/
theorem covers_iff {a b : List UInt8} (ha : a.length = 32) (hb : b.length = 32) : (∀ i, i < 18 → nib b i ≤ nib a i) ↔ a.take 8 = b.take 8 :=
  ⟨fun h => (take8_eq ha hb).2 (nib_incomparable h), fun h i _ => Nat.le_of_eq (nib_congr ((take8_eq ha hb).1 h) i).symm⟩
theorem nibs_iff {a b : List UInt8} (ha : a.length = 32) (hb : b.length = 32) : nibs a = nibs b ↔ a.take 8 = b.take 8 := by
  constructor
  · intro h
    refine (covers_iff ha hb).1 fun i hi => ?_
    have h1 := congrArg (fun l => l[i]?) h
    simp only [nibs_get _ _ hi] at h1
    exact Nat.le_of_eq (Option.some.inj h1).symm
  · intro h
    unfold nibs
    exact List.map_congr_left fun i _ => nib_congr ((take8_eq ha hb).1 h) i
/-- Two lists of lists of one length with the same bytes are the same. -/
theorem flatten_inj (k : Nat) (hk : 0 < k) : ∀ (xs ys : List (List UInt8)), (∀ x ∈ xs, x.length = k) → (∀ y ∈ ys, y.length = k) → xs.flatten = ys.flatten → xs = ys
  | [], [], _, _, _ => rfl
  | [], y :: ys, _, hy, h => by
    have h1 := congrArg List.length h
    have := hy y (by simp)
    rw [List.flatten_cons, List.length_append] at h1
    simp only [List.flatten_nil, List.length_nil] at h1
    omega
  | x :: xs, [], hx, _, h => by
    have h1 := congrArg List.length h
    have := hx x (by simp)
    rw [List.flatten_cons, List.length_append] at h1
    simp only [List.flatten_nil, List.length_nil] at h1
    omega
  | x :: xs, y :: ys, hx, hy, h => by
    have h1 := hx x (by simp)
    have h2 := hy y (by simp)
    rw [List.flatten_cons, List.flatten_cons] at h
    obtain ⟨e1, e2⟩ := List.append_inj h (by omega)
    rw [e1, flatten_inj k hk xs ys (fun z hz => hx z (by simp [hz])) (fun z hz => hy z (by simp [hz])) e2]
end Go.Proofs.YthhlfcbkggahmaaDoor

/- Merged: SHA-256, Wots and the hash tree as plain functions, with the laws of memory and of words. No conditions of its own beyond those that each law states. -/
import Derived.WalkKit
import Derived.WalkSpells
import Derived.WalkLawsBesides
import Derived.Lib.Hide
import Derived.BigQuiet
import Derived.Laws.CopyRow
import Derived.Test.YteogcilnpkaplaaDoorProg
namespace Go.Proofs.YteogcilnpkaplaaDoor

abbrev W32 := BitVec 32

/-- The bytes of a 32-bit word, most significant first. -/
def wordBytes (x : W32) : List UInt8 := [UInt8.ofNat (x.toNat / 16777216), UInt8.ofNat (x.toNat / 65536), UInt8.ofNat (x.toNat / 256), UInt8.ofNat x.toNat]

/-- The big-endian word of four bytes. -/
def wordOf (a b c d : UInt8) : W32 := BitVec.ofNat 32 (((a.toNat * 256 + b.toNat) * 256 + c.toNat) * 256 + d.toNat)

/-- Word number i of a block. -/
def wordAt (l : List UInt8) (i : Nat) : W32 := wordOf (l.getD (4 * i) 0) (l.getD (4 * i + 1) 0) (l.getD (4 * i + 2) 0) (l.getD (4 * i + 3) 0)

def rorW (x : W32) (n : Nat) : W32 := (x >>> n) ||| (x <<< (32 - n))
def sg0 (x : W32) : W32 := rorW x 7 ^^^ rorW x 18 ^^^ (x >>> 3)
def sg1 (x : W32) : W32 := rorW x 17 ^^^ rorW x 19 ^^^ (x >>> 10)
def Sg0 (x : W32) : W32 := rorW x 2 ^^^ rorW x 13 ^^^ rorW x 22
def Sg1 (x : W32) : W32 := rorW x 6 ^^^ rorW x 11 ^^^ rorW x 25
def chW (x y z : W32) : W32 := (x &&& y) ^^^ (~~~x &&& z)
def majW (x y z : W32) : W32 := (x &&& y) ^^^ (x &&& z) ^^^ (y &&& z)

/-- The constants of the compression function. -/
def kNats : List Nat := [1116352408, 1899447441, 3049323471, 3921009573, 961987163, 1508970993, 2453635748, 2870763221, 3624381080, 310598401, 607225278, 1426881987, 1925078388, 2162078206, 2614888103, 3248222580, 3835390401, 4022224774, 264347078, 604807628, 770255983, 1249150122, 1555081692, 1996064986, 2554220882, 2821834349, 2952996808, 3210313671, 3336571891, 3584528711, 113926993, 338241895, 666307205, 773529912, 1294757372, 1396182291, 1695183700, 1986661051, 2177026350, 2456956037, 2730485921, 2820302411, 3259730800, 3345764771, 3516065817, 3600352804, 4094571909, 275423344, 430227734, 506948616, 659060556, 883997877, 958139571, 1322822218, 1537002063, 1747873779, 1955562222, 2024104815, 2227730452, 2361852424, 2428436474, 2756734187, 3204031479, 3329325298]
def kW (t : Nat) : W32 := BitVec.ofNat 32 (kNats.getD t 0)

/-- The chaining state. -/
structure St where
  a : W32
  b : W32
  c : W32
  d : W32
  e : W32
  f : W32
  g : W32
  h : W32

def St.list (s : St) : List W32 := [s.a, s.b, s.c, s.d, s.e, s.f, s.g, s.h]
def St.init : St := ⟨1779033703#32, 3144134277#32, 1013904242#32, 2773480762#32, 1359893119#32, 2600822924#32, 528734635#32, 1541459225#32⟩

/-- The next word of the schedule. -/
def wNext (l : List W32) (t : Nat) : W32 := l.getD (t - 16) 0 + l.getD (t - 7) 0 + sg0 (l.getD (t - 15) 0) + sg1 (l.getD (t - 2) 0)
/-- The first t words of the schedule. -/
def wSched (blk : List UInt8) : Nat → List W32
  | 0 => []
  | t + 1 => let l := wSched blk t; l ++ [if t < 16 then wordAt blk t else wNext l t]

def rnd (s : St) (k w : W32) : St :=
  let t1 := s.h + Sg1 s.e + chW s.e s.f s.g + k + w
  let t2 := Sg0 s.a + majW s.a s.b s.c
  ⟨t1 + t2, s.a, s.b, s.c, s.d + t1, s.e, s.f, s.g⟩
/-- The state of the working variables behind t rounds. -/
def rnds (w : List W32) (s : St) : Nat → St
  | 0 => s
  | t + 1 => rnd (rnds w s t) (kW t) (w.getD t 0)
def St.add (s v : St) : St := ⟨s.a + v.a, s.b + v.b, s.c + v.c, s.d + v.d, s.e + v.e, s.f + v.f, s.g + v.g, s.h + v.h⟩
/-- The compression function. -/
def compress (s : St) (blk : List UInt8) : St := s.add (rnds (wSched blk 64) s 64)

/-- n blocks of a message, one behind the other. -/
def blocks : Nat → St → List UInt8 → St
  | 0, s, _ => s
  | n + 1, s, b => blocks n (compress s (b.take 64)) (b.drop 64)

def digestOf (s : St) : List UInt8 := s.list.flatMap wordBytes

/-- The eight bytes of the length in bits. -/
def lenBytes (n : Nat) : List UInt8 := (List.range 8).map fun i => UInt8.ofNat (n * 8 % 18446744073709551616 / 2 ^ (56 - 8 * i))
def padZeros (n : Nat) : Nat := (119 - n % 64) % 64
def padding (n : Nat) : List UInt8 := [128] ++ List.replicate (padZeros n) 0 ++ lenBytes n
def padded (b : List UInt8) : List UInt8 := b ++ padding b.length
def sumOf (b : List UInt8) : List UInt8 := digestOf (blocks ((padded b).length / 64) St.init (padded b))
def taggedOf (tag b : List UInt8) : List UInt8 := let t := tag.take 255; sumOf ([UInt8.ofNat t.length] ++ t ++ b)
def pairOf (a b : List UInt8) : List UInt8 := taggedOf [112, 97, 105, 114] (a ++ b)
def chainOf (x : List UInt8) : Nat → List UInt8
  | 0 => x
  | n + 1 => taggedOf [115, 116, 101, 112] (chainOf x n)

theorem ch_alt (e f g : W32) : g ^^^ (e &&& (f ^^^ g)) = chW e f g := by
  unfold chW
  apply BitVec.eq_of_getLsbD_eq
  intro i hi
  simp only [BitVec.getLsbD_xor, BitVec.getLsbD_and, BitVec.getLsbD_not, hi, decide_true, Bool.true_and]
  cases e.getLsbD i <;> cases f.getLsbD i <;> cases g.getLsbD i <;> rfl
theorem maj_alt (a b c : W32) : (a &&& b) ||| (c &&& (a ||| b)) = majW a b c := by
  unfold majW
  apply BitVec.eq_of_getLsbD_eq
  intro i _
  simp only [BitVec.getLsbD_xor, BitVec.getLsbD_and, BitVec.getLsbD_or]
  cases a.getLsbD i <;> cases b.getLsbD i <;> cases c.getLsbD i <;> rfl
end Go.Proofs.YteogcilnpkaplaaDoor

namespace Go.Proofs.YteogcilnpkaplaaDoor
/-- Digit i of a digest: its half bytes, the upper first. -/
def dig (d : List UInt8) (i : Nat) : Nat := if i % 2 = 0 then (d.getD (i / 2) 0).toNat / 16 else (d.getD (i / 2) 0).toNat % 16
def digSum (d : List UInt8) : Nat → Nat
  | 0 => 0
  | n + 1 => digSum d n + (15 - dig d n)
/-- Chain length i. -/
def nib (d : List UInt8) (i : Nat) : Nat := if i < 16 then dig d i else if i = 16 then digSum d 16 / 16 else digSum d 16 % 16
def nibs (d : List UInt8) : List Nat := (List.range 18).map (nib d)
/-- A small number's bytes. -/
def lebHi (n : Nat) : UInt8 := UInt8.ofNat (n % 128 + 128)
def leb (n : Nat) : List UInt8 := if n < 128 then [UInt8.ofNat n] else [lebHi n, UInt8.ofNat (n / 128)]
def wotsTag : List UInt8 := [119, 111, 116, 115]
def pubTag : List UInt8 := [119, 111, 116, 115, 112, 117, 98]
def startMsg (seed : List UInt8) (idx i : Nat) : List UInt8 := leb idx ++ leb i ++ seed
def startOf (seed : List UInt8) (idx i : Nat) : List UInt8 := taggedOf wotsTag (startMsg seed idx i)
def tab (f : Nat → List UInt8) : List (List UInt8) := (List.range 18).map f
def keyOf (ends : List (List UInt8)) : List UInt8 := taggedOf pubTag ends.flatten
/-- The elements at places n of the chains of a key. -/
def walkOf (seed : List UInt8) (idx : Nat) (n : Nat → Nat) : List (List UInt8) := tab fun i => chainOf (startOf seed idx i) (n i)
def pubOf (seed : List UInt8) (idx : Nat) : List UInt8 := keyOf (walkOf seed idx fun _ => 15)
def signOf (seed : List UInt8) (idx : Nat) (d : List UInt8) : List (List UInt8) := walkOf seed idx (nib d)
def endsOf (d : List UInt8) (sig : List (List UInt8)) : List (List UInt8) := tab fun i => chainOf (sig.getD i []) (15 - nib d i)
def recOf (d : List UInt8) (sig : List (List UInt8)) : List UInt8 := keyOf (endsOf d sig)

theorem dig_le (d : List UInt8) (i : Nat) : dig d i ≤ 15 := by
  unfold dig
  have := (d.getD (i / 2) 0).toNat_lt
  split <;> omega
theorem digSum_le (d : List UInt8) (n : Nat) : digSum d n ≤ 15 * n := by
  induction n with
  | zero => simp [digSum]
  | succ n ih => rw [digSum]; omega
theorem nib_le (d : List UInt8) (i : Nat) : nib d i ≤ 15 := by
  unfold nib
  have := digSum_le d 16
  split
  · exact dig_le _ _
  · split <;> omega
theorem nibs_len (d : List UInt8) : (nibs d).length = 18 := by simp [nibs]
theorem nibs_get (d : List UInt8) (i : Nat) (h : i < 18) : (nibs d)[i]? = some (nib d i) := by simp [nibs, h]
theorem tab_len (f : Nat → List UInt8) : (tab f).length = 18 := by simp [tab]
theorem tab_get (f : Nat → List UInt8) (i : Nat) (h : i < 18) : (tab f)[i]? = some (f i) := by simp [tab, h]
theorem tab_getD (f : Nat → List UInt8) (i : Nat) (h : i < 18) : (tab f).getD i [] = f i := by
  rw [List.getD_eq_getElem?_getD, tab_get f i h]; rfl
theorem tab_congr {f g : Nat → List UInt8} (h : ∀ i, i < 18 → f i = g i) : tab f = tab g := by
  unfold tab
  exact List.map_congr_left fun i hi => h i (List.mem_range.1 hi)
theorem tab_inj {f g : Nat → List UInt8} (h : tab f = tab g) (i : Nat) (hi : i < 18) : f i = g i := by
  have h1 := congrArg (fun l => l[i]?) h
  simp only [tab_get _ _ hi] at h1
  exact Option.some.inj h1
/-- A list of 18 is the table of its elements. -/
theorem tab_of (l : List (List UInt8)) (h : l.length = 18) : tab (fun i => l.getD i []) = l := by
  apply List.ext_getElem?
  intro i
  by_cases hi : i < 18
  · rw [tab_get _ _ hi, List.getD_eq_getElem?_getD, List.getElem?_eq_getElem (by omega)]; rfl
  · rw [List.getElem?_eq_none (by rw [tab_len]; omega), List.getElem?_eq_none (by omega)]
theorem chain_add (x : List UInt8) (m n : Nat) : chainOf (chainOf x m) n = chainOf x (m + n) := by
  induction n with
  | zero => rfl
  | succ n ih => show taggedOf _ _ = taggedOf _ _; rw [ih]; rfl
/-- Every signature verifies. -/
theorem rec_sign (seed : List UInt8) (idx : Nat) (d : List UInt8) : recOf d (signOf seed idx d) = pubOf seed idx := by
  unfold recOf pubOf
  congr 1
  unfold endsOf walkOf
  refine tab_congr fun i hi => ?_
  unfold signOf walkOf
  rw [tab_getD _ _ hi, chain_add]
  have := nib_le d i
  rw [show nib d i + (15 - nib d i) = 15 by omega]
/-- Chain lengths lean on the first eight bytes alone. -/
theorem dig_congr {a b : List UInt8} (h : ∀ i, i < 8 → a.getD i 0 = b.getD i 0) (i : Nat) (hi : i < 16) : dig a i = dig b i := by
  unfold dig; rw [h (i / 2) (by omega)]
theorem digSum_congr {a b : List UInt8} (h : ∀ i, i < 8 → a.getD i 0 = b.getD i 0) : ∀ n, n ≤ 16 → digSum a n = digSum b n
  | 0, _ => rfl
  | n + 1, hn => by rw [digSum, digSum, digSum_congr h n (by omega), dig_congr h n (by omega)]
theorem nib_congr {a b : List UInt8} (h : ∀ i, i < 8 → a.getD i 0 = b.getD i 0) (i : Nat) : nib a i = nib b i := by
  unfold nib
  rw [digSum_congr h 16 (by omega)]
  split
  · exact dig_congr h i (by assumption)
  · rfl
theorem digSum_mono {a b : List UInt8} (h : ∀ i, i < 16 → dig b i ≤ dig a i) : ∀ n, n ≤ 16 → digSum a n ≤ digSum b n ∧ (digSum a n = digSum b n → ∀ i, i < n → dig a i = dig b i)
  | 0, _ => ⟨Nat.le_refl _, fun _ i hi => by omega⟩
  | n + 1, hn => by
    obtain ⟨h1, h2⟩ := digSum_mono h n (by omega)
    have h3 := h n (by omega)
    have h4 := dig_le a n
    rw [digSum, digSum]
    refine ⟨by omega, fun he i hi => ?_⟩
    by_cases hin : i = n
    · subst hin; omega
    · exact h2 (by omega) i (by omega)
theorem bytes_of_digs {a b : List UInt8} (h : ∀ i, i < 16 → dig a i = dig b i) (i : Nat) (hi : i < 8) : a.getD i 0 = b.getD i 0 := by
  have h1 := h (2 * i) (by omega)
  have h2 := h (2 * i + 1) (by omega)
  unfold dig at h1 h2
  rw [if_pos (by omega), if_pos (by omega), show 2 * i / 2 = i by omega] at h1
  rw [if_neg (by omega), if_neg (by omega), show (2 * i + 1) / 2 = i by omega] at h2
  refine UInt8.toNat_inj.1 ?_
  omega
/-- Chain lengths of different digests can't all be below one another's. -/
theorem nib_incomparable {a b : List UInt8} (h : ∀ i, i < 18 → nib b i ≤ nib a i) : ∀ i, i < 8 → a.getD i 0 = b.getD i 0 := by
  have hd : ∀ i, i < 16 → dig b i ≤ dig a i := fun i hi => by
    have := h i (by omega)
    unfold nib at this
    rwa [if_pos hi, if_pos hi] at this
  obtain ⟨h1, h2⟩ := digSum_mono hd 16 (by omega)
  have h16 := h 16 (by omega)
  have h17 := h 17 (by omega)
  unfold nib at h16 h17
  simp only [show ¬ (16 < 16) by omega, show ¬ (17 < 16) by omega, show ¬ (17 = 16) by omega, if_false, if_true] at h16 h17
  exact bytes_of_digs (h2 (by omega))
theorem take8_eq {a b : List UInt8} (ha : a.length = 32) (hb : b.length = 32) : a.take 8 = b.take 8 ↔ ∀ i, i < 8 → a.getD i 0 = b.getD i 0 := by
  constructor
  · intro h i hi
    have h1 := congrArg (fun l => l[i]?) h
    simp only [List.getElem?_take, if_pos hi] at h1
    rw [List.getD_eq_getElem?_getD, List.getD_eq_getElem?_getD, h1]
  · intro h
    apply List.ext_getElem?
    intro i
    rw [List.getElem?_take, List.getElem?_take]
    by_cases hi : i < 8
    · rw [if_pos hi, if_pos hi]
      have := h i hi
      rw [List.getD_eq_getElem?_getD, List.getD_eq_getElem?_getD, List.getElem?_eq_getElem (by omega), List.getElem?_eq_getElem (by omega)] at this
      rw [List.getElem?_eq_getElem (by omega), List.getElem?_eq_getElem (by omega)]
      exact congrArg some this
    · rw [if_neg hi, if_neg hi]
/-- The three sides of WotsNibblesIncomparable. -/
theorem covers_iff {a b : List UInt8} (ha : a.length = 32) (hb : b.length = 32) : (∀ i, i < 18 → nib b i ≤ nib a i) ↔ a.take 8 = b.take 8 :=
  ⟨fun h => (take8_eq ha hb).2 (nib_incomparable h), fun h i _ => Nat.le_of_eq (nib_congr ((take8_eq ha hb).1 h) i).symm⟩
theorem nibs_iff {a b : List UInt8} (ha : a.length = 32) (hb : b.length = 32) : nibs a = nibs b ↔ a.take 8 = b.take 8 := by
  constructor
  · intro h
    refine (covers_iff ha hb).1 fun i hi => ?_
    have h1 := congrArg (fun l => l[i]?) h
    simp only [nibs_get _ _ hi] at h1
    exact Nat.le_of_eq (Option.some.inj h1).symm
  · intro h
    unfold nibs
    exact List.map_congr_left fun i _ => nib_congr ((take8_eq ha hb).1 h) i
/-- Two lists of lists of one length with the same bytes are the same. -/
theorem flatten_inj (k : Nat) (hk : 0 < k) : ∀ (xs ys : List (List UInt8)), (∀ x ∈ xs, x.length = k) → (∀ y ∈ ys, y.length = k) → xs.flatten = ys.flatten → xs = ys
  | [], [], _, _, _ => rfl
  | [], y :: ys, _, hy, h => by
    have h1 := congrArg List.length h
    have := hy y (by simp)
    rw [List.flatten_cons, List.length_append] at h1
    simp only [List.flatten_nil, List.length_nil] at h1
    omega
  | x :: xs, [], hx, _, h => by
    have h1 := congrArg List.length h
    have := hx x (by simp)
    rw [List.flatten_cons, List.length_append] at h1
    simp only [List.flatten_nil, List.length_nil] at h1
    omega
  | x :: xs, y :: ys, hx, hy, h => by
    have h1 := hx x (by simp)
    have h2 := hy y (by simp)
    rw [List.flatten_cons, List.flatten_cons] at h
    obtain ⟨e1, e2⟩ := List.append_inj h (by omega)
    rw [e1, flatten_inj k hk xs ys (fun z hz => hx z (by simp [hz])) (fun z hz => hy z (by simp [hz])) e2]
end Go.Proofs.YteogcilnpkaplaaDoor

namespace Go.Proofs.YteogcilnpkaplaaDoor
abbrev Dg := List UInt8
/-- One step of a climb, with index i. -/
def climbStep (x : Dg) (i : Nat) (y : Dg) : Dg := if i % 2 = 0 then pairOf x y else pairOf y x
def climb : Dg → Nat → List Dg → Dg
  | x, _, [] => x
  | x, i, y :: ys => climb (climbStep x i y) (i / 2) ys
/-- The next row of a tree. -/
def up (l : List Dg) : List Dg := (List.range (l.length / 2)).map fun i => pairOf (l.getD (2 * i) []) (l.getD (2 * i + 1) [])
def sib (i : Nat) : Nat := if i % 2 = 0 then i + 1 else i - 1
def pathOf : Nat → List Dg → Nat → List Dg
  | 0, _, _ => []
  | k + 1, l, i => l.getD (sib i) [] :: pathOf k (up l) (i / 2)
def merkle : Nat → List Dg → Dg
  | 0, l => l.getD 0 []
  | k + 1, l => pairOf (merkle k (l.take (2 ^ k))) (merkle k (l.drop (2 ^ k)))
theorem up_len (l : List Dg) : (up l).length = l.length / 2 := by simp [up]
theorem up_get (l : List Dg) (i : Nat) (h : i < l.length / 2) : (up l).getD i [] = pairOf (l.getD (2 * i) []) (l.getD (2 * i + 1) []) := by
  unfold up
  rw [List.getD_eq_getElem?_getD, List.getElem?_map, List.getElem?_range h]; rfl
theorem getD_take (l : List Dg) (n i : Nat) (h : i < n) : (l.take n).getD i [] = l.getD i [] := by
  rw [List.getD_eq_getElem?_getD, List.getD_eq_getElem?_getD, List.getElem?_take, if_pos h]
theorem getD_drop (l : List Dg) (n i : Nat) : (l.drop n).getD i [] = l.getD (n + i) [] := by
  rw [List.getD_eq_getElem?_getD, List.getD_eq_getElem?_getD, List.getElem?_drop]
theorem ext_getD {a b : List Dg} (hl : a.length = b.length) (h : ∀ i, i < a.length → a.getD i [] = b.getD i []) : a = b := by
  apply List.ext_getElem hl
  intro i h1 h2
  have := h i h1
  rwa [List.getD_eq_getElem?_getD, List.getD_eq_getElem?_getD, List.getElem?_eq_getElem h1, List.getElem?_eq_getElem h2] at this
theorem up_take (l : List Dg) (n : Nat) (h : 2 * n ≤ l.length) : up (l.take (2 * n)) = (up l).take n := by
  apply ext_getD
  · rw [up_len, List.length_take, List.length_take, up_len]; omega
  · intro i hi
    rw [up_len, List.length_take] at hi
    rw [up_get _ _ (by rw [List.length_take]; omega), getD_take _ _ _ (by omega), getD_take _ _ _ (by omega), getD_take _ _ _ (by omega), up_get _ _ (by omega)]
theorem up_drop (l : List Dg) (n : Nat) (h : 2 * n ≤ l.length) : up (l.drop (2 * n)) = (up l).drop n := by
  apply ext_getD
  · rw [up_len, List.length_drop, List.length_drop, up_len]; omega
  · intro i hi
    rw [up_len, List.length_drop] at hi
    rw [up_get _ _ (by rw [List.length_drop]; omega), getD_drop, getD_drop, getD_drop, up_get _ _ (by omega), show 2 * (n + i) = 2 * n + 2 * i by omega]
    rfl
theorem merkle_up : ∀ (k : Nat) (l : List Dg), l.length = 2 ^ (k + 1) → merkle (k + 1) l = merkle k (up l)
  | 0, l, h => by
    have h2 : l.length = 2 := h
    show pairOf ((l.take 1).getD 0 []) ((l.drop 1).getD 0 []) = (up l).getD 0 []
    rw [up_get _ _ (by omega), getD_take _ _ _ (by omega), getD_drop]
  | k + 1, l, h => by
    have e : 2 ^ (k + 1 + 1) = 2 * 2 ^ (k + 1) := by rw [Nat.pow_succ]; omega
    have e2 : 2 ^ (k + 1) = 2 * 2 ^ k := by rw [Nat.pow_succ]; omega
    show pairOf (merkle (k + 1) (l.take (2 ^ (k + 1)))) (merkle (k + 1) (l.drop (2 ^ (k + 1)))) = pairOf (merkle k ((up l).take (2 ^ k))) (merkle k ((up l).drop (2 ^ k)))
    rw [merkle_up k (l.take (2 ^ (k + 1))) (by rw [List.length_take]; omega), merkle_up k (l.drop (2 ^ (k + 1))) (by rw [List.length_drop]; omega)]
    rw [e2, up_take l _ (by omega), up_drop l _ (by omega)]
theorem step_up (l : List Dg) (i : Nat) (h : i < l.length) (he : l.length % 2 = 0) : climbStep (l.getD i []) i (l.getD (sib i) []) = (up l).getD (i / 2) [] := by
  rw [up_get _ _ (by omega)]
  unfold climbStep sib
  by_cases hi : i % 2 = 0
  · rw [if_pos hi, if_pos hi, show 2 * (i / 2) = i by omega]
  · rw [if_neg hi, if_neg hi, show 2 * (i / 2) = i - 1 by omega, show i - 1 + 1 = i by omega]
/-- Climbing from a leaf along its path comes to the tree's root. -/
theorem climb_root : ∀ (k : Nat) (l : List Dg) (i : Nat), l.length = 2 ^ k → i < 2 ^ k → climb (l.getD i []) i (pathOf k l i) = merkle k l
  | 0, l, i, hl, hi => by
    have : i = 0 := by simpa using hi
    subst this; rfl
  | k + 1, l, i, hl, hi => by
    have e : 2 ^ (k + 1) = 2 * 2 ^ k := by rw [Nat.pow_succ]; omega
    rw [merkle_up k l hl]
    show climb (climbStep (l.getD i []) i (l.getD (sib i) [])) (i / 2) (pathOf k (up l) (i / 2)) = _
    rw [step_up l i (by omega) (by omega)]
    exact climb_root k (up l) (i / 2) (by rw [up_len, hl]; omega) (by omega)
theorem pathOf_len : ∀ (k : Nat) (l : List Dg) (i : Nat), (pathOf k l i).length = k
  | 0, _, _ => rfl
  | k + 1, l, i => by show (pathOf k (up l) (i / 2)).length + 1 = _; rw [pathOf_len k]
/-- The j-th row above l. -/
def upN : Nat → List Dg → List Dg
  | 0, l => l
  | j + 1, l => upN j (up l)
theorem upN_len : ∀ (j : Nat) (l : List Dg), (upN j l).length = l.length / 2 ^ j
  | 0, l => by simp [upN]
  | j + 1, l => by
    rw [upN, upN_len j, up_len, Nat.div_div_eq_div_mul, Nat.pow_succ, Nat.mul_comm]
theorem upN_succ : ∀ (j : Nat) (l : List Dg), upN (j + 1) l = up (upN j l)
  | 0, _ => rfl
  | j + 1, l => by rw [upN, upN_succ j (up l), upN]
/-- An element of a row above is the root of the leaves below it. -/
theorem upN_get : ∀ (j : Nat) (l : List Dg) (m : Nat), (m + 1) * 2 ^ j ≤ l.length → (upN j l).getD m [] = merkle j ((l.drop (m * 2 ^ j)).take (2 ^ j))
  | 0, l, m, h => by
    simp only [Nat.pow_zero, Nat.mul_one] at h ⊢
    show l.getD m [] = ((l.drop m).take 1).getD 0 []
    rw [getD_take _ _ _ (by omega), getD_drop, Nat.add_zero]
  | j + 1, l, m, h => by
    have e : 2 ^ (j + 1) = 2 * 2 ^ j := by rw [Nat.pow_succ]; omega
    have e3 : m * 2 ^ (j + 1) = 2 * (m * 2 ^ j) := by rw [e, Nat.mul_left_comm]
    have e4 : (m + 1) * 2 ^ (j + 1) = 2 * (m * 2 ^ j) + 2 * 2 ^ j := by rw [Nat.add_mul, e3]; omega
    have h5 : (m + 1) * 2 ^ j = m * 2 ^ j + 2 ^ j := by rw [Nat.add_mul]; omega
    rw [upN, upN_get j (up l) m (by rw [up_len]; omega)]
    rw [merkle_up j _ (by rw [List.length_take, List.length_drop]; omega)]
    have e5 : (l.drop (m * 2 ^ (j + 1))).take (2 ^ (j + 1)) = (l.drop (2 * (m * 2 ^ j))).take (2 * 2 ^ j) := by rw [e3, e]
    rw [e5, up_take _ _ (by rw [List.length_drop]; omega), up_drop _ _ (by omega)]
theorem pathOf_get : ∀ (k : Nat) (l : List Dg) (i j : Nat), j < k → (pathOf k l i).getD j [] = (upN j l).getD (sib (i / 2 ^ j)) []
  | 0, _, _, _, h => by omega
  | k + 1, l, i, 0, _ => by simp [pathOf, upN]
  | k + 1, l, i, j + 1, h => by
    show (pathOf k (up l) (i / 2)).getD j [] = (upN j (up l)).getD _ []
    rw [pathOf_get k (up l) (i / 2) j (by omega), Nat.div_div_eq_div_mul, Nat.pow_succ, Nat.mul_comm]
/-- Where the reference's sibling subtree begins. -/
def begOf (i n : Nat) : Nat := if i < i / (2 * n) * (2 * n) + n then i / (2 * n) * (2 * n) + n else i / (2 * n) * (2 * n)
theorem begOf_sib (i n : Nat) (hn : 0 < n) : begOf i n = sib (i / n) * n := by
  unfold begOf sib
  have h1 : i / (2 * n) = i / n / 2 := by rw [Nat.div_div_eq_div_mul, Nat.mul_comm]
  have h2 : n * (i / n) + i % n = i := Nat.div_add_mod i n
  have h3 : i % n < n := Nat.mod_lt _ hn
  rw [h1]
  obtain ⟨q, hq⟩ : ∃ q, i / n = q := ⟨_, rfl⟩
  rw [hq] at h2 ⊢
  have h4 : 2 * (q / 2) + q % 2 = q := Nat.div_add_mod q 2
  obtain ⟨r, hr⟩ : ∃ r, q / 2 = r := ⟨_, rfl⟩
  rw [hr] at h4 ⊢
  have e : r * (2 * n) = 2 * (n * r) := by rw [Nat.mul_comm, Nat.mul_assoc]
  rw [e]
  by_cases hp : q % 2 = 0
  · have hq2 : q = 2 * r := by omega
    have e2 : n * q = 2 * (n * r) := by rw [hq2, Nat.mul_left_comm]
    rw [if_pos (by omega), if_pos hp, Nat.add_mul, Nat.mul_comm q n]; omega
  · have hq2 : q = 2 * r + 1 := by omega
    have e2 : n * q = 2 * (n * r) + n := by rw [hq2, Nat.mul_add, Nat.mul_left_comm]; omega
    rw [if_neg (by omega), if_neg hp, Nat.sub_mul, Nat.mul_comm q n]; omega
theorem sib_lt {i n : Nat} (h : i < n) (he : n % 2 = 0) : sib i < n := by unfold sib; split <;> omega
/-- The reference's path element is the path's. -/
theorem ref_elem (k : Nat) (l : List Dg) (i j : Nat) (hl : l.length = 2 ^ k) (hi : i < 2 ^ k) (hj : j < k) : merkle j ((l.drop (begOf i (2 ^ j))).take (2 ^ j)) = (pathOf k l i).getD j [] := by
  have hp : 0 < 2 ^ j := Nat.two_pow_pos j
  obtain ⟨m, rfl⟩ : ∃ m, k = j + 1 + m := ⟨k - (j + 1), by omega⟩
  have e : 2 ^ (j + 1 + m) = 2 ^ j * (2 * 2 ^ m) := by rw [Nat.pow_add, Nat.pow_succ, Nat.mul_assoc]
  have hs : sib (i / 2 ^ j) < 2 * 2 ^ m := sib_lt (by rw [Nat.div_lt_iff_lt_mul hp]; rw [e, Nat.mul_comm] at hi; exact hi) (by omega)
  rw [pathOf_get _ _ _ _ hj, begOf_sib i _ hp, upN_get j l _ ?_]
  rw [hl, e, Nat.mul_comm]
  exact Nat.mul_le_mul_left _ hs
theorem climb_len : ∀ (p : List Dg) (x : Dg) (i : Nat), x.length = 32 → (climb x i p).length = 32
  | [], _, _, h => h
  | y :: ys, x, i, _ => climb_len ys _ _ (by unfold climbStep; split <;> exact (show (taggedOf _ _).length = 32 from by unfold taggedOf sumOf digestOf; simp [St.list, wordBytes]))
/-- Where two climbs of the same length meet, at some level two pairs of inputs have the same hash. -/
theorem climb_snoc : ∀ (p : List Dg) (x : Dg) (i : Nat) (y : Dg), climb x i (p ++ [y]) = climbStep (climb x i p) (i / 2 ^ p.length) y
  | [], x, i, y => by simp [climb]
  | z :: p, x, i, y => by
    show climb (climbStep x i z) (i / 2) (p ++ [y]) = climbStep (climb (climbStep x i z) (i / 2) p) _ y
    rw [climb_snoc p, Nat.div_div_eq_div_mul, List.length_cons, Nat.pow_succ, Nat.mul_comm]
end Go.Proofs.YteogcilnpkaplaaDoor

namespace Go.Proofs.YteogcilnpkaplaaDoor
open Go.RowKit

theorem ret_int {k : IntKind} {a b : Int} (h : a = b) : Ending.returned (.int k a) = .returned (.int k b) := by rw [h]
/-- The number of a word; of a byte. -/
def V (x : W32) : Int := (x.toNat : Int)
def Y (x : UInt8) : Int := (x.toNat : Int)
/-- Byte i of a list, word i of a list, as numbers. -/
def by8 (l : List UInt8) (i : Nat) : Int := Y (l.getD i 0)
def wd (l : List W32) (i : Nat) : Int := V (l.getD i 0)
theorem V_bd (x : W32) : 0 ≤ V x ∧ V x ≤ 4294967295 := by
  unfold V; have := x.isLt; omega
theorem Y_bd (x : UInt8) : 0 ≤ Y x ∧ Y x ≤ 255 := by
  unfold Y; have := x.toNat_lt; omega
theorem by8_bd (l : List UInt8) (i : Nat) : 0 ≤ by8 l i ∧ by8 l i ≤ 255 := Y_bd _
theorem wd_bd (l : List W32) (i : Nat) : 0 ≤ wd l i ∧ wd l i ≤ 4294967295 := V_bd _

theorem wrap_u32_of (n : Nat) : IntKind.u32.wrap (n : Int) = ((BitVec.ofNat 32 n).toNat : Int) := by
  simp [IntKind.wrap, IntKind.bits, IntKind.signed, BitVec.toNat_ofNat]
theorem wrapV_add (x y : W32) : IntKind.u32.wrap (V x + V y) = V (x + y) := by
  unfold V
  rw [show ((x.toNat : Int) + (y.toNat : Int)) = ((x.toNat + y.toNat : Nat) : Int) by omega, wrap_u32_of]
  rw [BitVec.ofNat_add]; simp
theorem addV (x y : W32) : (V x + V y) % 4294967296 = V (x + y) := by
  unfold V; rw [BitVec.toNat_add]; omega
theorem addV3 (x y z : W32) : (V x + V y + V z) % 4294967296 = V (x + y + z) := by
  unfold V; rw [BitVec.toNat_add, BitVec.toNat_add]; omega
theorem ofInt_toNat32 (x : W32) : BitVec.ofInt 32 (x.toNat : Int) = x := by
  simp
theorem bitsV_xor (x y : W32) : bits .xor .u32 (V x) (V y) = V (x ^^^ y) := by
  show IntKind.u32.wrap ((BitVec.ofInt 32 (x.toNat : Int) ^^^ BitVec.ofInt 32 (y.toNat : Int)).toNat : Int) = _
  rw [ofInt_toNat32, ofInt_toNat32, wrap_u32_of]; simp [V]
theorem bitsV_and (x y : W32) : bits .and .u32 (V x) (V y) = V (x &&& y) := by
  show IntKind.u32.wrap ((BitVec.ofInt 32 (x.toNat : Int) &&& BitVec.ofInt 32 (y.toNat : Int)).toNat : Int) = _
  rw [ofInt_toNat32, ofInt_toNat32, wrap_u32_of]; simp [V]
theorem bitsV_or (x y : W32) : bits .or .u32 (V x) (V y) = V (x ||| y) := by
  show IntKind.u32.wrap ((BitVec.ofInt 32 (x.toNat : Int) ||| BitVec.ofInt 32 (y.toNat : Int)).toNat : Int) = _
  rw [ofInt_toNat32, ofInt_toNat32, wrap_u32_of]; simp [V]
theorem bitsV_not (x : W32) : bits .xor .u32 4294967295 (V x) = V (~~~x) := by
  have h : (4294967295 : Int) = V (BitVec.allOnes 32) := rfl
  rw [h, bitsV_xor, BitVec.allOnes_xor]
theorem shrV (x : W32) (n : Nat) : V x / 2 ^ n = V (x >>> n) := by
  unfold V; rw [BitVec.toNat_ushiftRight, Nat.shiftRight_eq_div_pow]; simp
theorem shrV_3 (x : W32) : V x / (8 : Int) = V (x >>> 3) := (show V x / (8 : Int) = V x / 2 ^ 3 from rfl).trans (shrV x 3)
theorem shrV_10 (x : W32) : V x / (1024 : Int) = V (x >>> 10) := (show V x / (1024 : Int) = V x / 2 ^ 10 from rfl).trans (shrV x 10)
theorem shlV (x : W32) (n : Nat) : V x * 2 ^ n % 4294967296 = V (x <<< n) := by
  unfold V; rw [BitVec.toNat_shiftLeft, Nat.shiftLeft_eq]; simp
end Go.Proofs.YteogcilnpkaplaaDoor

namespace Go.Proofs.YteogcilnpkaplaaDoor
open Go.RowKit

def U (x : W32) : Value := .int .u32 (V x)
def B8 (x : UInt8) : Value := .int .u8 (Y x)
/-- The cells of a row of words; of bytes. -/
def cellsU (l : List W32) : Array Value := (l.map U).toArray
def cellsB (l : List UInt8) : Array Value := (l.map B8).toArray
theorem cellsU_size (l : List W32) : (cellsU l).size = l.length := by simp [cellsU]
theorem cellsB_size (l : List UInt8) : (cellsB l).size = l.length := by simp [cellsB]
theorem cellsU_get (l : List W32) (i : Nat) (h : i < l.length) : (cellsU l)[i]? = some (.int .u32 (wd l i)) := by
  simp [cellsU, h, wd, U]
theorem cellsB_get (l : List UInt8) (i : Nat) (h : i < l.length) : (cellsB l)[i]? = some (.int .u8 (by8 l i)) := by
  simp [cellsB, h, by8, B8]
theorem cellsU_set (l : List W32) (i : Nat) (x : W32) : (cellsU l).setIfInBounds i (U x) = cellsU (l.set i x) := by
  simp [cellsU, List.map_set]
theorem cellsB_set (l : List UInt8) (i : Nat) (x : UInt8) : (cellsB l).setIfInBounds i (B8 x) = cellsB (l.set i x) := by
  simp [cellsB, List.map_set]

/-- Block b of the world holds just these cells. -/
def Row (w : World) (b : Nat) (t : TypeId) (cs : Array Value) : Prop := w.heap[b]? = some (.cells cs t (0, 0))
theorem Row.lt {w : World} {b : Nat} {t : TypeId} {cs : Array Value} (h : Row w b t cs) : b < w.heap.size := (Array.getElem?_eq_some_iff.1 h).1
theorem Row.cell {w : World} {b : Nat} {t : TypeId} {cs : Array Value} (h : Row w b t cs) (i : Nat) : w.cell? ⟨b, i, none⟩ = cs[i]? := cell_of_row w b i cs t (0, 0) h
theorem Row.free {w : World} {b : Nat} {t : TypeId} {cs : Array Value} (h : Row w b t cs) (i : Nat) : w.frozen? ⟨b, i, none⟩ = false := frozen_of_row w b i cs t h
theorem Row.set {w : World} {b : Nat} {t : TypeId} {cs : Array Value} (h : Row w b t cs) (i : Nat) (v : Value) : Row (w.setCell ⟨b, i, none⟩ v) b t (cs.setIfInBounds i v) :=
  heap_setCell_same w b i cs t v h
theorem Row.other {w : World} {b : Nat} {t : TypeId} {cs : Array Value} (h : Row w b t cs) (a : Addr) (v : Value) (hne : b ≠ a.block) : Row (w.setCell a v) b t cs :=
  (heap_setCell_other w a b v hne).trans h
theorem Row.alloc {w : World} {b : Nat} {t : TypeId} {cs : Array Value} (h : Row w b t cs) (o : Obj) : Row (w.alloc o) b t cs :=
  (Below.heap_alloc w o b h.lt).trans h
theorem Row.new (w : World) (cs : Array Value) (t : TypeId) : Row (w.alloc (.cells cs t)) w.heap.size t cs := heap_alloc_new w _
theorem Row.below {w w' : World} {b n : Nat} {t : TypeId} {cs : Array Value} (h : Row w b t cs) (hb : Below n w w') (hlt : b < n) : Row w' b t cs := (hb.block b hlt).trans h
theorem Row.word {w : World} {b : Nat} {t : TypeId} {l : List W32} (h : Row w b t (cellsU l)) (i : Nat) (hi : i < l.length) :
    w.cell? ⟨b, i, none⟩ = some (.int .u32 (wd l i)) := (h.cell i).trans (cellsU_get l i hi)
theorem Row.byte {w : World} {b : Nat} {t : TypeId} {l : List UInt8} (h : Row w b t (cellsB l)) (i : Nat) (hi : i < l.length) :
    w.cell? ⟨b, i, none⟩ = some (.int .u8 (by8 l i)) := (h.cell i).trans (cellsB_get l i hi)
theorem Row.setU {w : World} {b : Nat} {t : TypeId} {l : List W32} (h : Row w b t (cellsU l)) (i : Nat) (x : W32) :
    Row (w.setCell ⟨b, i, none⟩ (.int .u32 (V x))) b t (cellsU (l.set i x)) := by
  have := h.set i (U x); rwa [cellsU_set] at this
theorem Row.setB {w : World} {b : Nat} {t : TypeId} {l : List UInt8} (h : Row w b t (cellsB l)) (i : Nat) (x : UInt8) :
    Row (w.setCell ⟨b, i, none⟩ (.int .u8 (Y x))) b t (cellsB (l.set i x)) := by
  have := h.set i (B8 x); rwa [cellsB_set] at this
/-- The bytes from a place on. -/
def BytesAt (w : World) (b off : Nat) (l : List UInt8) : Prop := ∀ i, i < l.length → w.cell? ⟨b, off + i, none⟩ = some (.int .u8 (by8 l i))
/-- The same below and behind draws. -/
theorem Below.of_drewN {B : Nat} {a w : World} (h : Below B a w) (n : Nat) : Below B a (w.drewN n) := ⟨h.os, h.tape, h.output, h.size, h.block⟩
theorem grown_setCell {w w' : World} {b : Nat} (h : w.grownBy w' (some b)) (i : Nat) (v : Value) : w.grownBy (w'.setCell ⟨b, i, none⟩ v) (some b) :=
  ⟨h.os, h.tape, h.output, by have := h.size; simpa [World.setCell] using this, fun k hk hne => (heap_setCell_other _ ⟨b, i, none⟩ k v (fun e => hne (by rw [e]))).trans (h.block k hk hne)⟩
theorem grown_of_below {w w' : World} (h : Below w.heap.size w w') (r : Option Nat) : w.grownBy w' r := ⟨h.os, h.tape, h.output, h.size, fun k hk _ => h.block k hk⟩
theorem grown_drewN {w w' : World} {r : Option Nat} (h : w.grownBy w' r) (n : Nat) : w.grownBy (w'.drewN n) r := ⟨h.os, h.tape, h.output, h.size, h.block⟩
/-- Eight stores into one row of eight words. -/
theorem eight_sets {B b : Nat} {w0 w : World} {t : TypeId} {l : List W32} (hl : l.length = 8) (hB : Below B w0 w) (hb : B ≤ b) (h : Row w b t (cellsU l)) (x0 x1 x2 x3 x4 x5 x6 x7 : W32) (w' : World)
    (e : w' = (((((((w.setCell ⟨b, 0, none⟩ (.int .u32 (V x0))).setCell ⟨b, 1, none⟩ (.int .u32 (V x1))).setCell ⟨b, 2, none⟩ (.int .u32 (V x2))).setCell ⟨b, 3, none⟩ (.int .u32 (V x3))).setCell ⟨b, 4, none⟩ (.int .u32 (V x4))).setCell ⟨b, 5, none⟩ (.int .u32 (V x5))).setCell ⟨b, 6, none⟩ (.int .u32 (V x6))).setCell ⟨b, 7, none⟩ (.int .u32 (V x7))) :
    Below B w0 w' ∧ w'.heap.size = w.heap.size ∧ Row w' b t (cellsU [x0, x1, x2, x3, x4, x5, x6, x7]) ∧ ∀ c u cs, c ≠ b → Row w c u cs → Row w' c u cs := by
  subst e
  match l, hl with
  | [y0, y1, y2, y3, y4, y5, y6, y7], _ =>
    refine ⟨(((((((hB.setCell hb _).setCell hb _).setCell hb _).setCell hb _).setCell hb _).setCell hb _).setCell hb _).setCell hb _, by simp [World.setCell],
      (((((((h.setU 0 x0).setU 1 x1).setU 2 x2).setU 3 x3).setU 4 x4).setU 5 x5).setU 6 x6).setU 7 x7, fun c u cs hc hr => ?_⟩
    exact (((((((hr.other _ _ hc).other _ _ hc).other _ _ hc).other _ _ hc).other _ _ hc).other _ _ hc).other _ _ hc).other _ _ hc
theorem Row.grown {w w' : World} {b : Nat} {t : TypeId} {cs : Array Value} {r : Option Nat} (h : Row w b t cs) (hg : w.grownBy w' r) (hne : some b ≠ r) : Row w' b t cs :=
  (hg.block b h.lt hne).trans h
theorem run_storeCells_row {P : Program} (w : World) (g : Nat) (t : TypeId) (old cs : Array Value) (h : Row w g t old) (hs : cs.size = old.size) (hone : ∀ v ∈ cs.toList, v.oneCell' = true) :
    (storeCells ⟨g, 0, none⟩ cs.toList).run P w = .ok () (w.setRow g cs) := by
  have := run_storeCells_at (P := P) g 0 t cs.toList 0 old w h (by simp [hs]) hone
  rw [this]
  congr 2
  simp only [hs, Nat.zero_add, List.take_zero, List.nil_append, Array.length_toList]
  rw [List.drop_eq_nil_of_le (by simp), List.append_nil]
theorem grown_setRow (w : World) (g : Nat) (cs : Array Value) : w.grownBy (w.setRow g cs) (some g) :=
  ⟨rfl, rfl, rfl, by simp [World.setRow], fun k _ hne => setRow_other w g k cs (fun e => hne (by rw [e]))⟩
/-- A whole array is stored into a row. -/
theorem wpList_store_row {P : Program} {w : World} {ops : Array Oper} {rest : List Oper} {o : Oper} {a : Act} {Q : Exit → Act → World → Prop} (hgd : o.guard = none) (ty : TypeId) (x y : Operand)
    (ho : o.op = .store ty x y) (g : Nat) (hx : a.eval x = .pointer (some ⟨g, 0, none⟩)) (cs old : Array Value) (t : TypeId) (hy : a.eval y = .agg cs) (hrow : Row w g t old)
    (hs : cs.size = old.size) (hi : (P.info? ty).map (·.size) = some cs.size) (hone : ∀ v ∈ cs.toList, v.oneCell' = true)
    (h : ∀ w', w.grownBy w' (some g) → Row w' g t cs → w'.heap.size = w.heap.size → wpList P ops Q rest (a.put o.dst undef) w') : wpList P ops Q (o :: rest) a w := by
  refine wpList_plain hgd fun K hK => ?_
  have hq : (storeVar ty ⟨g, 0, none⟩ (.agg cs)).run P w = .ok () (w.setRow g cs) := by
    cases hp : P.info? ty with
    | none => simp [hp] at hi
    | some i =>
      have hsz : i.size = cs.size := by simpa [hp] using hi
      simp [storeVar, Sem.run_bind, sizeOf, typeInfo, hp, hsz, Value.cells, run_storeCells_row w g t old cs hrow hs hone]
  unfold Oper.wp execOp
  simp only [ho, hx, hy, Instr.storeAt, Instr.sureAddr, Sem.run_bind, Sem.run_pure, Result.andThen_ok, hq]
  exact hK _ _ (h _ (grown_setRow w g cs) (setRow_heap w g old cs t (0, 0) hrow) (by simp [World.setRow]))
/-- An operation whose value is reckoned outright. -/
theorem wpList_value {P : Program} {w : World} {ops : Array Oper} {rest : List Oper} {o : Oper} {a : Act} {Q : Exit → Act → World → Prop} (hgd : o.guard = none) (v : Value) (hr : (execOp a.eval o).run P w = .ok (.value v) w)
    (h : wpList P ops Q rest (a.put o.dst v) w) : wpList P ops Q (o :: rest) a w := by
  refine wpList_plain hgd fun K hK => ?_
  unfold Oper.wp
  rw [hr]
  exact hK _ _ h
theorem cellsU_one (l : List W32) : ∀ v ∈ (cellsU l).toList, v.oneCell' = true := fun v hv => by
  obtain ⟨x, _, rfl⟩ := List.mem_map.1 (by simpa [cellsU] using hv : v ∈ l.map U); rfl
theorem cellsB_one (l : List UInt8) : ∀ v ∈ (cellsB l).toList, v.oneCell' = true := fun v hv => by
  obtain ⟨x, _, rfl⟩ := List.mem_map.1 (by simpa [cellsB] using hv : v ∈ l.map B8); rfl
/-- A quiet call in a region behind another quiet region. -/
theorem quiet_add_same {P : Program} {f : FuncId} {args : Array Value} {w : World} {a n : Nat} {v : Value}
    (h : Calls P f args (w.drewN (a + n)) fun e w' => e = .returned v ∧ w' = w.drewN (a + n)) :
    Calls P f args (w.drewN (a + n)) fun e w'' => e = .returned v ∧ ∃ m, w'' = w.drewN (a + m) :=
  h.mono fun _ _ ⟨he, hm⟩ => ⟨he, n, hm⟩
end Go.Proofs.YteogcilnpkaplaaDoor

namespace Go.Proofs.YteogcilnpkaplaaDoor
open Go.RowKit
theorem neg_and31 (n : Nat) (h1 : 1 ≤ n) (h2 : n ≤ 31) : bits .and .u64 (IntKind.u64.wrap (-(n : Int))) 31 = ((32 - n : Nat) : Int) := by
  have H : ∀ k : Fin 32, 1 ≤ k.val → bits .and .u64 (IntKind.u64.wrap (-(k.val : Int))) 31 = ((32 - k.val : Nat) : Int) := by decide
  exact H ⟨n, by omega⟩ h1
theorem rot_val (x : W32) (n : Nat) (h2 : n ≤ 31) : bits .or .u32 (V x * 2 ^ (32 - n) % 4294967296) (V x / 2 ^ (32 - (32 - n))) = V (rorW x n) := by
  rw [shlV, shrV, bitsV_or, BitVec.or_comm, show 32 - (32 - n) = n by omega]; rfl
set_option maxHeartbeats 400000 in
theorem ror_still (x : W32) (n : Nat) (h1 : 1 ≤ n) (h2 : n ≤ 31) (w : World) :
    Calls Tryd.prog 70 #[.int .u32 (V x), .int .i64 (n : Int)] w fun e w' => e = .returned (.int .u32 (V (rorW x n))) ∧ w' = w := by
  have hs := neg_and31 n h1 h2
  have hr := rot_val x n h2
  have hv := V_bd x
  go_enter Tryd.func70, Tryd.ntmps70
  go_wp2
  go_ret
  exact ⟨rfl, rfl⟩
theorem ror2 (x : W32) (w : World) : Calls Tryd.prog 70 #[.int .u32 (V x), .int .i64 2] w fun e w' => e = .returned (.int .u32 (V (rorW x 2))) ∧ w' = w := ror_still x 2 (by omega) (by omega) w
theorem ror6 (x : W32) (w : World) : Calls Tryd.prog 70 #[.int .u32 (V x), .int .i64 6] w fun e w' => e = .returned (.int .u32 (V (rorW x 6))) ∧ w' = w := ror_still x 6 (by omega) (by omega) w
theorem ror7 (x : W32) (w : World) : Calls Tryd.prog 70 #[.int .u32 (V x), .int .i64 7] w fun e w' => e = .returned (.int .u32 (V (rorW x 7))) ∧ w' = w := ror_still x 7 (by omega) (by omega) w
theorem ror11 (x : W32) (w : World) : Calls Tryd.prog 70 #[.int .u32 (V x), .int .i64 11] w fun e w' => e = .returned (.int .u32 (V (rorW x 11))) ∧ w' = w := ror_still x 11 (by omega) (by omega) w
theorem ror13 (x : W32) (w : World) : Calls Tryd.prog 70 #[.int .u32 (V x), .int .i64 13] w fun e w' => e = .returned (.int .u32 (V (rorW x 13))) ∧ w' = w := ror_still x 13 (by omega) (by omega) w
theorem ror17 (x : W32) (w : World) : Calls Tryd.prog 70 #[.int .u32 (V x), .int .i64 17] w fun e w' => e = .returned (.int .u32 (V (rorW x 17))) ∧ w' = w := ror_still x 17 (by omega) (by omega) w
theorem ror18 (x : W32) (w : World) : Calls Tryd.prog 70 #[.int .u32 (V x), .int .i64 18] w fun e w' => e = .returned (.int .u32 (V (rorW x 18))) ∧ w' = w := ror_still x 18 (by omega) (by omega) w
theorem ror19 (x : W32) (w : World) : Calls Tryd.prog 70 #[.int .u32 (V x), .int .i64 19] w fun e w' => e = .returned (.int .u32 (V (rorW x 19))) ∧ w' = w := ror_still x 19 (by omega) (by omega) w
theorem ror22 (x : W32) (w : World) : Calls Tryd.prog 70 #[.int .u32 (V x), .int .i64 22] w fun e w' => e = .returned (.int .u32 (V (rorW x 22))) ∧ w' = w := ror_still x 22 (by omega) (by omega) w
theorem ror25 (x : W32) (w : World) : Calls Tryd.prog 70 #[.int .u32 (V x), .int .i64 25] w fun e w' => e = .returned (.int .u32 (V (rorW x 25))) ∧ w' = w := ror_still x 25 (by omega) (by omega) w
end Go.Proofs.YteogcilnpkaplaaDoor

namespace Go.Proofs.YteogcilnpkaplaaDoor
open Go.RowKit
def wpart (l : List UInt8) (i : Nat) : Nat → Int
  | 0 => 0
  | k + 1 => wpart l i k * 256 + by8 l (4 * i + k)
theorem wpart_bd (l : List UInt8) (i k : Nat) (hk : k < 4) : 0 ≤ wpart l i k ∧ wpart l i k < 16777216 := by
  have h0 := by8_bd l (4 * i + 0)
  have h1 := by8_bd l (4 * i + 1)
  have h2 := by8_bd l (4 * i + 2)
  match k, hk with
  | 0, _ => simp [wpart]
  | 1, _ => simp only [wpart]; omega
  | 2, _ => simp only [wpart]; omega
  | 3, _ => simp only [wpart]; omega
theorem or_byte (X c : Int) (h0 : 0 ≤ X) (h1 : X < 16777216) (h2 : 0 ≤ c) (h3 : c ≤ 255) : bits .or .u32 (X * 256) c = X * 256 + c := by
  obtain ⟨x, rfl⟩ := Int.eq_ofNat_of_zero_le h0
  obtain ⟨d, rfl⟩ := Int.eq_ofNat_of_zero_le h2
  have e : (x : Int) * 256 = ((x * 256 : Nat) : Int) := by omega
  have hx' : x * 256 < 4294967296 := by omega
  have hx : x * 256 < 2 ^ 32 := hx'
  have hd : d < 2 ^ 32 := Nat.lt_of_le_of_lt (show d ≤ 255 by omega) (by decide)
  have hd8 : d < 2 ^ 8 := Nat.lt_of_le_of_lt (show d ≤ 255 by omega) (by decide)
  rw [e]
  have e1 : ((x * 256 : Nat) : Int) = V (BitVec.ofNat 32 (x * 256)) := by unfold V; rw [BitVec.toNat_ofNat, Nat.mod_eq_of_lt hx]
  have e2 : ((d : Nat) : Int) = V (BitVec.ofNat 32 d) := by unfold V; rw [BitVec.toNat_ofNat, Nat.mod_eq_of_lt hd]
  rw [e1, e2, bitsV_or]
  unfold V
  rw [BitVec.toNat_or, BitVec.toNat_ofNat, BitVec.toNat_ofNat, Nat.mod_eq_of_lt hx, Nat.mod_eq_of_lt hd]
  have := Nat.shiftLeft_add_eq_or_of_lt hd8 x
  rw [Nat.shiftLeft_eq] at this
  have e3 : x * 256 = x * 2 ^ 8 := rfl
  rw [e3, ← this, Int.natCast_add]
theorem wpart_four (l : List UInt8) (i : Nat) : wpart l i 4 = V (wordAt l i) := by
  unfold wordAt wordOf V
  have h0 := (l.getD (4 * i) 0).toNat_lt
  have h1 := (l.getD (4 * i + 1) 0).toNat_lt
  have h2 := (l.getD (4 * i + 2) 0).toNat_lt
  have h3 := (l.getD (4 * i + 3) 0).toNat_lt
  rw [BitVec.toNat_ofNat, Nat.mod_eq_of_lt (by omega)]
  simp only [wpart, by8, Y, Nat.add_zero]
  omega
set_option maxHeartbeats 400000 in
/-- sha256.word: the big-endian word with index i. -/
theorem word_any (l : List UInt8) (b off n cap i : Nat) (w : World) (hl : 4 * i + 4 ≤ n) (hn : n ≤ l.length) (hcap : n ≤ cap) (hcm : cap ≤ 9223372036854775807)
    (hc : BytesAt w b off l) : Calls Tryd.prog 69 #[.slice (some ⟨b, off, none⟩) n cap, .int .i64 (i : Int)] w
      fun e w' => e = .returned (.int .u32 (V (wordAt l i))) ∧ w = w' := by
  have hcj : ∀ j, j < 4 → w.cell? ⟨b, off + 4 * i + j, none⟩ = some (.int .u8 (by8 l (4 * i + j))) := fun j hj => by
    rw [Nat.add_assoc]; exact hc _ (by omega)
  clear hc
  go_enter Tryd.func69, Tryd.ntmps69
  go_wp2
  go_loop [4, 6, 15] (fun x _ t => ∃ k : Nat, k ≤ 4 ∧ t = .int .i64 (k : Int) ∧ x = .int .u32 (wpart l i k)) (fun _ _ t => 4 - (intOf t).toNat)
  case atStart => exact ⟨0, by omega, rfl, rfl⟩
  case round =>
    obtain ⟨k, hk, rfl, rfl⟩ := hrel
    by_cases hlt : k < 4
    · have hcell := hcj k hlt
      have hb := by8_bd l (4 * i + k)
      have hw := wpart_bd l i k hlt
      have ho := or_byte _ _ hw.1 hw.2 hb.1 hb.2
      go_wp2
      go_round
      case rel => exact ⟨k + 1, by omega, by go_num, by rw [wpart]⟩
      case measure => simp [intOf]; omega
    · obtain rfl : k = 4 := by omega
      have H := Lib.hid (wpart_four l i)
      go_wp2
      go_ret
      exact ⟨ret_int H.out, rfl⟩
end Go.Proofs.YteogcilnpkaplaaDoor

/- Merged: lengths, keys and chains of Wots. No conditions of its own beyond those that each law states. -/
import Derived.Test.YteogcilnpkaplaaDoorM3
import Derived.Test.YteogcilnpkaplaaDoorM2
import Derived.Test.YteogcilnpkaplaaDoorM1
import Derived.Deep.MidRow
import Derived.Laws.MakeOwn
import Derived.Test.YteogcilnpkaplaaDoorM5
import Derived.Test.YteogcilnpkaplaaDoorM4
namespace Go.Proofs.YteogcilnpkaplaaDoor
open Go.RowKit
/-! ### lists of digests -/
def all32 (xs : List (List UInt8)) : Prop := ∀ x ∈ xs, x.length = 32
theorem flat_len : ∀ (xs : List (List UInt8)), all32 xs → xs.flatten.length = 32 * xs.length
  | [], _ => rfl
  | x :: xs, h => by
    rw [List.flatten_cons, List.length_append, flat_len xs (fun y hy => h y (by simp [hy])), h x (by simp), List.length_cons]; omega
theorem flat_drop : ∀ (xs : List (List UInt8)), all32 xs → ∀ i, xs.flatten.drop (32 * i) = (xs.drop i).flatten
  | [], _, i => by simp
  | x :: xs, h, 0 => by simp
  | x :: xs, h, i + 1 => by
    have hx := h x (by simp)
    rw [List.flatten_cons, List.drop_succ_cons, ← flat_drop xs (fun y hy => h y (by simp [hy])) i, List.drop_append, List.drop_eq_nil_of_le (by omega), List.nil_append]
    rw [show 32 * (i + 1) - x.length = 32 * i by omega]
theorem flat_elem {xs : List (List UInt8)} (h : all32 xs) (i : Nat) (hi : i < xs.length) : (xs.flatten.drop (32 * i)).take 32 = xs.getD i [] := by
  rw [flat_drop xs h, List.drop_eq_getElem_cons hi, List.flatten_cons, List.getD_eq_getElem?_getD, List.getElem?_eq_getElem hi]
  have := h xs[i] (List.getElem_mem hi)
  simp [this]
theorem all32_getD {xs : List (List UInt8)} (h : all32 xs) (i : Nat) (hi : i < xs.length) : (xs.getD i []).length = 32 := by
  rw [List.getD_eq_getElem?_getD, List.getElem?_eq_getElem hi]
  exact h _ (List.getElem_mem hi)
theorem all32_tab {f : Nat → List UInt8} (h : ∀ i, i < 18 → (f i).length = 32) : all32 (tab f) := fun x hx => by
  obtain ⟨i, hi, rfl⟩ := List.mem_map.1 hx
  exact h i (List.mem_range.1 hi)
theorem all32_range {f : Nat → List UInt8} {n : Nat} (h : ∀ i, i < n → (f i).length = 32) : all32 ((List.range n).map f) := fun x hx => by
  obtain ⟨i, hi, rfl⟩ := List.mem_map.1 hx
  exact h i (List.mem_range.1 hi)
theorem startOf_len (seed : List UInt8) (idx i : Nat) : (startOf seed idx i).length = 32 := taggedOf_len _ _
theorem keyOf_len (l : List (List UInt8)) : (keyOf l).length = 32 := taggedOf_len _ _
theorem walkOf_32 (seed : List UInt8) (idx : Nat) (n : Nat → Nat) : all32 (walkOf seed idx n) := all32_tab fun _ _ => chainOf_len _ (startOf_len _ _ _) _
theorem walkOf_len (seed : List UInt8) (idx : Nat) (n : Nat → Nat) : (walkOf seed idx n).length = 18 := tab_len _
theorem endsOf_32 (d : List UInt8) (sig : List (List UInt8)) (h : all32 sig) (hl : sig.length = 18) : all32 (endsOf d sig) := all32_tab fun i hi => chainOf_len _ (all32_getD h i (by omega)) _
theorem endsOf_len (d : List UInt8) (sig : List (List UInt8)) : (endsOf d sig).length = 18 := tab_len _
/-- A slice value that reads as these digests. -/
def Digs (w : World) (v : Value) (xs : List (List UInt8)) : Prop :=
  ∃ a cap, v = .slice a xs.length cap ∧ xs.length ≤ cap ∧ cap ≤ 9223372036854775807 ∧ ((xs = [] ∧ (a = none → cap = 0)) ∨ ∃ b off, a = some ⟨b, off, none⟩ ∧ BytesAt w b off xs.flatten)
theorem Digs.nil (w : World) : Digs w (.slice none 0 0) [] := ⟨none, 0, rfl, Nat.le_refl _, by decide, .inl ⟨rfl, fun _ => rfl⟩⟩
theorem Digs.later {w w' : World} {v : Value} {xs : List (List UInt8)} (h : Digs w v xs) (hb : Below w.heap.size w w') : Digs w' v xs := by
  obtain ⟨a, cap, rfl, hc0, hc1, ha | ⟨b, off, rfl, hat⟩⟩ := h
  · exact ⟨_, _, rfl, hc0, hc1, .inl ha⟩
  · exact ⟨_, _, rfl, hc0, hc1, .inr ⟨b, off, rfl, fun i hi => (hb.cell (p := ⟨b, off + i, none⟩) (block_lt_of_cell (hat i hi))).trans (hat i hi)⟩⟩
theorem Digs.form {w : World} {v : Value} {xs : List (List UInt8)} (h : Digs w v xs) : ∃ a cap, v = .slice a xs.length cap := by
  obtain ⟨a, cap, h, _⟩ := h; exact ⟨a, cap, h⟩
/-- Opened, where it is not empty. -/
theorem Digs.at {w : World} {a : Option Addr} {n cap : Nat} {xs : List (List UInt8)} (h : Digs w (.slice a n cap) xs) (hn : 0 < n) : ∃ b off, a = some ⟨b, off, none⟩ ∧ n = xs.length ∧ n ≤ cap ∧ cap ≤ 9223372036854775807 ∧ BytesAt w b off xs.flatten := by
  obtain ⟨a', cap', he, hc0, hc1, ha⟩ := h
  obtain ⟨rfl, rfl, rfl⟩ := Value.slice.inj he
  rcases ha with ⟨rfl, _⟩ | ⟨b, off, rfl, hat⟩
  · simp at hn
  · exact ⟨b, off, rfl, rfl, hc0, hc1, hat⟩
theorem BytesAt.elem {w : World} {b off : Nat} {xs : List (List UInt8)} (h : BytesAt w b off xs.flatten) (h32 : all32 xs) (i : Nat) (hi : i < xs.length) : w.rangeAt b (off + i * 32) ((xs.getD i []).map B8) := fun j v hv => by
  rw [Nat.mul_comm i 32]
  have hj : j < (xs.getD i []).length := by
    have := (List.getElem?_eq_some_iff.1 hv).1
    simpa using this
  have h1 := (BytesAt.take (BytesAt.drop h (32 * i)) 32) j (by rw [flat_elem h32 i hi]; exact hj)
  rw [flat_elem h32 i hi] at h1
  rw [h1, ← hv, List.getElem?_map, List.getElem?_eq_getElem hj]
  unfold by8
  rw [List.getD_eq_getElem?_getD (l := xs.getD i []), List.getElem?_eq_getElem hj]
  rfl
/-- A digest is read out of the middle of a block. -/
theorem wpList_load_dig {w : World} {ops : Array Oper} {rest : List Oper} {o : Oper} {a : Act} {Q : Exit → Act → World → Prop} (hgd : o.guard = none) (x : Operand) (ho : o.op = .load 25 x)
    (b off : Nat) (hx : a.eval x = .pointer (some ⟨b, off, none⟩)) (l : List UInt8) (hl : l.length = 32) (hc : w.rangeAt b off (l.map B8))
    (h : wpList Tryd.prog ops Q rest (a.put o.dst (.agg (cellsB l))) w) : wpList Tryd.prog ops Q (o :: rest) a w :=
  wpList_load_mid hgd 25 x ho b off hx (l.map B8) _ hc Tryd.underD rfl (by rw [List.length_map, hl]; exact Tryd.sizeD) h
theorem still_load_mid {P : Program} {ops : Array Oper} {w : World} {Q : Act → Prop} {a : Act} {o : Oper} {rest : List Oper} (hgd : o.guard = none) (ty : TypeId) (x : Operand) (ho : o.op = .load ty x) (b off : Nat)
    (hx : a.eval x = .pointer (some ⟨b, off, none⟩)) (cs : List Value) (d : TypeDesc) (hc : w.rangeAt b off cs) (hu : P.underlying ty = some d)
    (hd : d.isRow = true) (hi : (P.info? ty).map (·.size) = some cs.length) (h : wpStill P ops w Q rest (a.put o.dst (.agg cs.toArray))) : wpStill P ops w Q (o :: rest) a := by
  unfold wpStill
  have hw : Region.wanted o (yielded ops a.tmps) = true := by unfold Region.wanted; rw [hgd]
  rw [if_pos hw]
  unfold Oper.still execOp
  simp only [ho, hx, Instr.loadAt, Instr.sureAddr, Sem.run_bind, Sem.run_pure, Result.andThen_ok, run_loadVar_mid w b off ty cs d hc hu hd hi]
  rw [Oper.stillUpon_value]
  exact h
/-- Bytes put in the place of others. -/
def splice (l : List UInt8) (o : Nat) (x : List UInt8) : List UInt8 := l.take o ++ x ++ l.drop (o + x.length)
theorem splice_len (l : List UInt8) (o : Nat) (x : List UInt8) (h : o + x.length ≤ l.length) : (splice l o x).length = l.length := by
  unfold splice; rw [List.length_append, List.length_append, List.length_take, List.length_drop]; omega
theorem row_setCells {b : Nat} {t : TypeId} : ∀ (x l : List UInt8) (o : Nat) (w : World), Row w b t (cellsB l) → o + x.length ≤ l.length → Row (w.setCells b o (x.map B8)) b t (cellsB (splice l o x))
  | [], l, o, w, h, _ => by
    unfold splice
    simp only [List.map_nil, World.setCells, List.length_nil, Nat.add_zero, List.append_nil, List.take_append_drop]
    exact h
  | y :: x, l, o, w, h, hle => by
    rw [List.length_cons] at hle
    have h1 := row_setCells x (l.set o y) (o + 1) _ (h.setB o y) (by rw [List.length_set]; omega)
    have e : splice (l.set o y) (o + 1) x = splice l o (y :: x) := by
      unfold splice
      rw [List.take_add_one, List.getElem?_set_self (by omega), List.take_set_of_le (by omega), List.drop_set_of_lt (by omega), List.length_cons]
      simp only [Option.toList, List.append_assoc, List.cons_append, List.nil_append]
      rw [show o + 1 + x.length = o + (x.length + 1) by omega]
    rw [e] at h1
    exact h1
theorem grown_setCells {w : World} {b : Nat} : ∀ (vs : List Value) (o : Nat) (w' : World), w.grownBy w' (some b) → w.grownBy (w'.setCells b o vs) (some b)
  | [], _, _, h => h
  | v :: vs, o, _, h => grown_setCells vs (o + 1) _ (grown_setCell h o v)
theorem size_setCells {b : Nat} : ∀ (vs : List Value) (o : Nat) (w : World), (w.setCells b o vs).heap.size = w.heap.size
  | [], _, _ => rfl
  | v :: vs, o, w => by rw [World.setCells, size_setCells vs]; simp [World.setCell]
theorem Row.there {w : World} {b : Nat} {t : TypeId} {l : List UInt8} (h : Row w b t (cellsB l)) (o n : Nat) (hle : o + n ≤ l.length) : w.there b o n := fun j hj => by
  refine ⟨?_, h.free _⟩
  rw [h.byte (o + j) (by omega)]; rfl
/-- A digest is stored into the middle of a block. -/
theorem wpList_store_dig {w : World} {ops : Array Oper} {rest : List Oper} {o : Oper} {a : Act} {Q : Exit → Act → World → Prop} (hgd : o.guard = none) (x y : Operand) (ho : o.op = .store 25 x y)
    (b off : Nat) (hx : a.eval x = .pointer (some ⟨b, off, none⟩)) (l : List UInt8) (hl : l.length = 32) (hy : a.eval y = .agg (cellsB l)) (cur : List UInt8) (t : TypeId) (hrow : Row w b t (cellsB cur)) (hle : off + 32 ≤ cur.length)
    (h : ∀ w', w.grownBy w' (some b) → Row w' b t (cellsB (splice cur off l)) → w'.heap.size = w.heap.size → wpList Tryd.prog ops Q rest (a.put o.dst undef) w') : wpList Tryd.prog ops Q (o :: rest) a w := by
  refine wpList_store_mid hgd 25 x y ho b off (cellsB l) hx hy ?_ (Tryd.sizeD_of _ hl) (all_oneCell_toArray fun v hv => ?_) ?_
  · rw [cellsB_size, hl]; exact hrow.there off 32 hle
  · exact cellsB_one l v (by simpa [cellsB] using hv)
  · have e : (cellsB l).toList = l.map B8 := by simp [cellsB]
    rw [e]
    exact h _ (grown_setCells _ _ _ (grown_refl _ _)) (row_setCells l cur off w hrow (by omega)) (size_setCells _ _ _)
/-! ### slices of digests of the call's own -/
theorem Tryd.underDs : Tryd.prog.underlying 29 = some (.slice 25) := by kernel_rfl
theorem Tryd.infoD : (Tryd.prog.info? 25).map (fun i => (i.zero, i.size, i.bytes)) = some (some (.agg (cellsB (List.replicate 32 0))), 32, 32) := by kernel_rfl
def OwnD (w : World) (base : Nat) (v : Value) (xs : List (List UInt8)) : Prop := w.ownsRow base 25 32 v xs.length (xs.flatten.map B8)
theorem OwnD.nil (w : World) (base : Nat) : OwnD w base (.slice none 0 0) [] := World.ownsRow_nil w base _ _
theorem OwnD.below {w w' : World} {base : Nat} {v : Value} {xs : List (List UInt8)} (h : OwnD w base v xs) (hb : Below w.heap.size w w') : OwnD w' base v xs := by
  obtain ⟨h1, h2 | ⟨g, cap, cur, rfl, hg, hh, r⟩⟩ := h
  · exact ⟨h1, .inl h2⟩
  · exact ⟨h1, .inr ⟨g, cap, cur, rfl, hg, (hb.block g (Array.getElem?_eq_some_iff.1 hh).1).trans hh, r⟩⟩
theorem OwnD.alloc {w : World} {base : Nat} {v : Value} {xs : List (List UInt8)} (h : OwnD w base v xs) (o : Obj) : OwnD (w.alloc o) base v xs := h.below ((Below.refl _ _).alloc (Nat.le_refl _) _)
theorem OwnD.ownBlock {w : World} {base : Nat} {v : Value} {xs : List (List UInt8)} (h : OwnD w base v xs) (k : Nat) (hk : v.ownBlock = some k) : base ≤ k := by
  obtain ⟨_, ⟨rfl, _⟩ | ⟨g, cap, cur, rfl, hg, _⟩⟩ := h
  · cases hk
  · cases hk; exact hg
theorem OwnD.form {w : World} {base : Nat} {v : Value} {xs : List (List UInt8)} (h : OwnD w base v xs) (hx : 0 < xs.length) : ∃ g cap, v = .slice (some ⟨g, 0, none⟩) xs.length cap ∧ base ≤ g := by
  obtain ⟨_, ⟨_, hn⟩ | ⟨g, cap, cur, rfl, hg, _⟩⟩ := h
  · omega
  · exact ⟨g, cap, rfl, hg⟩
theorem OwnD.digs {w : World} {base : Nat} {v : Value} {xs : List (List UInt8)} (h : OwnD w base v xs) : Digs w v xs := by
  obtain ⟨h1, ⟨rfl, hn⟩ | ⟨g, cap, cur, rfl, hg, hh, hn, hc, hsz, htk⟩⟩ := h
  · have : xs = [] := List.eq_nil_of_length_eq_zero hn
    subst this
    exact Digs.nil w
  · refine ⟨some ⟨g, 0, none⟩, cap, rfl, hn, by unfold maxLen at hc; exact hc, .inr ⟨g, 0, rfl, fun i hi => ?_⟩⟩
    rw [List.length_map] at h1
    rw [Nat.zero_add, cell_of_row w g i cur _ _ hh]
    have h1 : cur.toList[i]? = (xs.flatten.map B8)[i]? := by
      rw [← htk, List.getElem?_take, if_pos (by omega)]
    rw [← Array.getElem?_toList, h1, List.getElem?_map, List.getElem?_eq_getElem hi]
    unfold by8
    rw [List.getD_eq_getElem?_getD, List.getElem?_eq_getElem hi]; rfl
/-- A digest is put behind. -/
theorem wpList_append_dig {w : World} {ops : Array Oper} {rest : List Oper} {o : Oper} {a : Act} {Q : Exit → Act → World → Prop} (hgd : o.guard = none) (s x : Operand)
    (ho : o.op = .call { callee := .builtin .append, args := #[s, x], argTypes := #[29, 29] })
    (base : Nat) (v : Value) (xs : List (List UInt8)) (y : List UInt8) (g : Nat) (t : TypeId) (hs : a.eval s = v) (hown : OwnD w base v xs) (hx : a.eval x = .slice (some ⟨g, 0, none⟩) 1 1) (hrow : Row w g t (cellsB y)) (hy : y.length = 32)
    (hlen : xs.length ≤ 1000000) (hbase : base ≤ w.heap.size)
    (h : ∀ v' w', OwnD w' base v' (xs ++ [y]) → w.grownBy w' v.ownBlock → wpList Tryd.prog ops Q rest (a.put o.dst v') w') : wpList Tryd.prog ops Q (o :: rest) a w := by
  obtain ⟨i0, hi, hz0, hz1, hz2⟩ := info_parts Tryd.infoD
  refine wpList_append_own w hgd s x 29 ho base 25 i0 _ 32 32 Tryd.underDs hi hz0 hz1 hz2 (by rw [Value.cells, cellsB_size]; rfl) (by decide) v xs.length (xs.flatten.map B8) hs hown ⟨g, 0, none⟩ 1 1 (y.map B8) hx (by simp [hy]) ?_ ?_ ?_ ?_ hbase ?_
  · intro j z hz
    have hadd : (⟨g, 0, none⟩ : Addr).add j = ⟨g, j, none⟩ := by unfold Addr.add; split <;> simp_all
    rw [hadd, hrow.cell j]
    simpa [cellsB] using hz
  · intro z hz
    obtain ⟨y, _, rfl⟩ := List.mem_map.1 hz
    rfl
  · unfold maxLen; omega
  · omega
  · intro v' w' h1 h2 _
    exact h v' w' (by unfold OwnD; rw [List.length_append, List.flatten_append, List.map_append]; simpa using h1) h2
/-! ### slices of ints -/
def N64 (n : Nat) : Value := .int .i64 (n : Int)
def cellsN (l : List Nat) : Array Value := (l.map N64).toArray
theorem cellsN_size (l : List Nat) : (cellsN l).size = l.length := by simp [cellsN]
theorem cellsN_get (l : List Nat) (i : Nat) (h : i < l.length) : (cellsN l)[i]? = some (.int .i64 (l.getD i 0 : Nat)) := by
  simp [cellsN, h, N64]
theorem cellsN_set (l : List Nat) (i n : Nat) : (cellsN l).setIfInBounds i (N64 n) = cellsN (l.set i n) := by
  simp [cellsN, List.map_set]
theorem cellsN_one (l : List Nat) : ∀ v ∈ (cellsN l).toList, v.oneCell' = true := fun v hv => by
  obtain ⟨x, _, rfl⟩ := List.mem_map.1 (by simpa [cellsN] using hv : v ∈ l.map N64); rfl
theorem Row.num {w : World} {b : Nat} {t : TypeId} {l : List Nat} (h : Row w b t (cellsN l)) (i : Nat) (hi : i < l.length) : w.cell? ⟨b, i, none⟩ = some (.int .i64 (l.getD i 0 : Nat)) := (h.cell i).trans (cellsN_get l i hi)
theorem Row.setN {w : World} {b : Nat} {t : TypeId} {l : List Nat} (h : Row w b t (cellsN l)) (i n : Nat) : Row (w.setCell ⟨b, i, none⟩ (.int .i64 (n : Int))) b t (cellsN (l.set i n)) := by
  have := h.set i (N64 n); rwa [cellsN_set] at this
/-- A slice value that reads as these numbers. -/
def Nums (w : World) (v : Value) (l : List Nat) : Prop :=
  ∃ a cap, v = .slice a l.length cap ∧ l.length ≤ cap ∧ cap ≤ 9223372036854775807 ∧ ((l = [] ∧ (a = none → cap = 0)) ∨ ∃ b off, a = some ⟨b, off, none⟩ ∧ ∀ i, i < l.length → w.cell? ⟨b, off + i, none⟩ = some (.int .i64 (l.getD i 0 : Nat)))
theorem Nums.later {w w' : World} {v : Value} {l : List Nat} (h : Nums w v l) (hb : Below w.heap.size w w') : Nums w' v l := by
  obtain ⟨a, cap, rfl, hc0, hc1, ha | ⟨b, off, rfl, hat⟩⟩ := h
  · exact ⟨_, _, rfl, hc0, hc1, .inl ha⟩
  · exact ⟨_, _, rfl, hc0, hc1, .inr ⟨b, off, rfl, fun i hi => (hb.cell (p := ⟨b, off + i, none⟩) (block_lt_of_cell (hat i hi))).trans (hat i hi)⟩⟩
theorem Nums.at {w : World} {a : Option Addr} {n cap : Nat} {l : List Nat} (h : Nums w (.slice a n cap) l) (hn : 0 < n) : ∃ b off, a = some ⟨b, off, none⟩ ∧ n = l.length ∧ n ≤ cap ∧ cap ≤ 9223372036854775807 ∧ ∀ i, i < l.length → w.cell? ⟨b, off + i, none⟩ = some (.int .i64 (l.getD i 0 : Nat)) := by
  obtain ⟨a', cap', he, hc0, hc1, ha⟩ := h
  obtain ⟨rfl, rfl, rfl⟩ := Value.slice.inj he
  rcases ha with ⟨rfl, _⟩ | ⟨b, off, rfl, hat⟩
  · simp at hn
  · exact ⟨b, off, rfl, rfl, hc0, hc1, hat⟩
theorem Row.nums {w : World} {b : Nat} {t : TypeId} {l : List Nat} (h : Row w b t (cellsN l)) (n : Nat) (hn : n = l.length) (hl : n ≤ 1000000) : Nums w (.slice (some ⟨b, 0, none⟩) n n) l := by
  subst hn
  exact ⟨_, _, rfl, Nat.le_refl _, by omega, .inr ⟨b, 0, rfl, fun i hi => by rw [Nat.zero_add]; exact h.num i hi⟩⟩
theorem Tryd.underIs : Tryd.prog.underlying 72 = some (.slice 3) := by kernel_rfl
theorem Tryd.infoI : (Tryd.prog.info? 3).map (fun i => (i.zero, i.size, i.bytes)) = some (some (.int .i64 0), 1, 8) := by kernel_rfl
def OwnN (w : World) (base : Nat) (v : Value) (l : List Nat) : Prop := w.ownsRow base 3 1 v l.length (l.map N64)
theorem OwnN.nil (w : World) (base : Nat) : OwnN w base (.slice none 0 0) [] := World.ownsRow_nil w base _ _
theorem OwnN.below {w w' : World} {base : Nat} {v : Value} {xs : List Nat} (h : OwnN w base v xs) (hb : Below w.heap.size w w') : OwnN w' base v xs := by
  obtain ⟨h1, h2 | ⟨g, cap, cur, rfl, hg, hh, r⟩⟩ := h
  · exact ⟨h1, .inl h2⟩
  · exact ⟨h1, .inr ⟨g, cap, cur, rfl, hg, (hb.block g (Array.getElem?_eq_some_iff.1 hh).1).trans hh, r⟩⟩
theorem OwnN.alloc {w : World} {base : Nat} {v : Value} {xs : List Nat} (h : OwnN w base v xs) (o : Obj) : OwnN (w.alloc o) base v xs := h.below ((Below.refl _ _).alloc (Nat.le_refl _) _)
theorem OwnN.ownBlock {w : World} {base : Nat} {v : Value} {xs : List Nat} (h : OwnN w base v xs) (k : Nat) (hk : v.ownBlock = some k) : base ≤ k := by
  obtain ⟨_, ⟨rfl, _⟩ | ⟨g, cap, cur, rfl, hg, _⟩⟩ := h
  · cases hk
  · cases hk; exact hg
theorem OwnN.form {w : World} {base : Nat} {v : Value} {xs : List Nat} (h : OwnN w base v xs) (hx : 0 < xs.length) : ∃ g cap, v = .slice (some ⟨g, 0, none⟩) xs.length cap ∧ base ≤ g := by
  obtain ⟨_, ⟨_, hn⟩ | ⟨g, cap, cur, rfl, hg, _⟩⟩ := h
  · omega
  · exact ⟨g, cap, rfl, hg⟩
theorem OwnN.nums {w : World} {base : Nat} {v : Value} {xs : List Nat} (h : OwnN w base v xs) : Nums w v xs := by
  obtain ⟨h1, ⟨rfl, hn⟩ | ⟨g, cap, cur, rfl, hg, hh, hn, hc, hsz, htk⟩⟩ := h
  · have : xs = [] := List.eq_nil_of_length_eq_zero hn
    subst this
    exact ⟨none, 0, rfl, Nat.le_refl _, by decide, .inl ⟨rfl, fun _ => rfl⟩⟩
  · refine ⟨some ⟨g, 0, none⟩, cap, rfl, hn, by unfold maxLen at hc; exact hc, .inr ⟨g, 0, rfl, fun i hi => ?_⟩⟩
    rw [Nat.zero_add, cell_of_row w g i cur _ _ hh]
    have h1 : cur.toList[i]? = (xs.map N64)[i]? := by
      rw [← htk, List.getElem?_take, if_pos (by omega)]
    rw [← Array.getElem?_toList, h1]
    simp [hi, N64]
/-- A number is put behind. -/
theorem wpList_append_num {w : World} {ops : Array Oper} {rest : List Oper} {o : Oper} {a : Act} {Q : Exit → Act → World → Prop} (hgd : o.guard = none) (s x : Operand)
    (ho : o.op = .call { callee := .builtin .append, args := #[s, x], argTypes := #[72, 72] })
    (base : Nat) (v : Value) (xs : List Nat) (y : Nat) (g : Nat) (hs : a.eval s = v) (hown : OwnN w base v xs) (hx : a.eval x = .slice (some ⟨g, 0, none⟩) 1 1) (hcell : w.cell? ⟨g, 0, none⟩ = some (.int .i64 (y : Int)))
    (hlen : xs.length ≤ 1000000) (hbase : base ≤ w.heap.size)
    (h : ∀ v' w', OwnN w' base v' (xs ++ [y]) → w.grownBy w' v.ownBlock → wpList Tryd.prog ops Q rest (a.put o.dst v') w') : wpList Tryd.prog ops Q (o :: rest) a w := by
  obtain ⟨i0, hi, hz0, hz1, hz2⟩ := info_parts Tryd.infoI
  refine wpList_append_own w hgd s x 72 ho base 3 i0 _ 1 8 Tryd.underIs hi hz0 hz1 hz2 rfl (by decide) v xs.length (xs.map N64) hs hown ⟨g, 0, none⟩ 1 1 [N64 y] hx rfl ?_ ?_ ?_ ?_ hbase ?_
  · intro j z hz
    have hj : j = 0 := by
      have := (List.getElem?_eq_some_iff.1 hz).1
      simpa using this
    subst hj
    have hadd : (⟨g, 0, none⟩ : Addr).add 0 = ⟨g, 0, none⟩ := by unfold Addr.add; split <;> simp_all
    rw [hadd, hcell, ← hz]; rfl
  · intro z hz
    simp at hz; subst hz; rfl
  · unfold maxLen; omega
  · omega
  · intro v' w' h1 h2 _
    exact h v' w' (by unfold OwnN; rw [List.length_append, List.map_append]; exact h1) h2
end Go.Proofs.YteogcilnpkaplaaDoor

namespace Go.Proofs.YteogcilnpkaplaaDoor
open Go.RowKit
theorem Tryd.under18 : Tryd.prog.underlying 61 = some (.array 18 3) := by kernel_rfl
theorem Tryd.size18 : (Tryd.prog.info? 61).map (·.size) = some 18 := by kernel_rfl
theorem Tryd.size18_of (l : List Nat) (h : l.length = 18) : (Tryd.prog.info? 61).map (·.size) = some (cellsN l).size := by rw [cellsN_size, h]; exact Tryd.size18
/-- The row of lengths behind i rounds. -/
def nRow (d : List UInt8) (i : Nat) : List Nat := (List.range i).map (dig d) ++ List.replicate (18 - i) 0
theorem nRow_len (d : List UInt8) (i : Nat) (h : i ≤ 18) : (nRow d i).length = 18 := by unfold nRow; simp; omega
theorem nRow_set (d : List UInt8) (i : Nat) (h : i < 18) : (nRow d i).set i (dig d i) = nRow d (i + 1) := by
  unfold nRow
  rw [List.set_append_right _ _ (by simp)]
  simp only [List.length_map, List.length_range, Nat.sub_self]
  rw [show 18 - i = (18 - (i + 1)) + 1 by omega, List.replicate_succ, List.set_cons_zero, List.range_succ, List.map_append, List.append_assoc]
  rfl
theorem nRow_get (d : List UInt8) (i : Nat) (_h : i < 18) : (nRow d (i + 1)).getD i 0 = dig d i := by
  unfold nRow
  rw [List.getD_eq_getElem?_getD, List.getElem?_append_left (by simp), List.getElem?_map, List.getElem?_range (by omega)]; rfl
theorem nRow_all (d : List UInt8) : ((nRow d 16).set 16 (digSum d 16 / 16)).set 17 (digSum d 16 % 16) = nibs d := by
  have e : nibs d = (List.range 16).map (nib d) ++ [nib d 16, nib d 17] := by
    unfold nibs
    rw [show 18 = 16 + 1 + 1 from rfl, List.range_succ, List.range_succ]; simp
  have e2 : (List.range 16).map (nib d) = (List.range 16).map (dig d) := by
    refine List.map_congr_left fun i hi => ?_
    unfold nib; rw [if_pos (List.mem_range.1 hi)]
  rw [e, e2]
  unfold nRow
  rw [List.set_append_right _ _ (by simp), List.set_append_right _ _ (by simp)]
  simp only [List.length_map, List.length_range]
  rfl
theorem dig_odd (d : List UInt8) (i : Nat) (h : i % 2 = 1) : bits .and .u8 (by8 d (i / 2)) 15 = (dig d i : Nat) := by
  have hall : (List.range 256).all (fun x => bits .and .u8 (x : Int) 15 == ((x % 16 : Nat) : Int)) = true := by kernel_rfl
  have hlt := (d.getD (i / 2) 0).toNat_lt
  have := List.all_eq_true.1 hall (d.getD (i / 2) 0).toNat (List.mem_range.2 (by omega))
  unfold dig by8 Y
  rw [if_neg (by omega)]
  simpa using this
theorem dig_even (d : List UInt8) (i : Nat) (h : ¬ i % 2 = 1) : by8 d (i / 2) / 16 = (dig d i : Nat) := by
  unfold dig by8 Y
  rw [if_pos (by omega)]; omega
theorem and15 (x : Nat) (h : x ≤ 240) : bits .and .i64 (x : Int) 15 = ((x % 16 : Nat) : Int) := by
  have hall : (List.range 241).all (fun x => bits .and .i64 (x : Int) 15 == ((x % 16 : Nat) : Int)) = true := by kernel_rfl
  simpa using List.all_eq_true.1 hall x (List.mem_range.2 (by omega))
set_option maxRecDepth 10000 in
set_option maxHeartbeats 1000000 in
theorem lengths_any (d : List UInt8) (w : World) (hd : d.length = 32) :
    Calls Tryd.prog 38 #[.agg (cellsB d)] w fun e w' => e = .returned (.agg (cellsN (nibs d))) ∧ Below w.heap.size w w' := by
  have HD := Lib.hid hd
  clear hd
  have hd1 : Row ((w.alloc (.cells (cellsB d) 25)).alloc (.cells (cellsN (nRow d 0)) 61)) w.heap.size 25 (cellsB d) := (Row.new w _ _).alloc _
  have hn1 : Row ((w.alloc (.cells (cellsB d) 25)).alloc (.cells (cellsN (nRow d 0)) 61)) (w.heap.size + 1) 61 (cellsN (nRow d 0)) := by
    have h := Row.new (w.alloc (.cells (cellsB d) 25)) (cellsN (nRow d 0)) 61
    rwa [show (w.alloc (.cells (cellsB d) 25)).heap.size = w.heap.size + 1 by simp] at h
  have hb1 : Below w.heap.size w ((w.alloc (.cells (cellsB d) 25)).alloc (.cells (cellsN (nRow d 0)) 61)) := ((Below.refl _ _).alloc (Nat.le_refl _) _).alloc (by simp) _
  go_enter Tryd.func38, Tryd.ntmps38
  go_wp2
  go_loopw [6, 3] (fun t s wr => ∃ i : Nat, i ≤ 16 ∧ t = .int .i64 (i : Int) ∧ s = .int .i64 (digSum d i : Nat) ∧ Below w.heap.size w wr ∧ Row wr w.heap.size 25 (cellsB d) ∧ Row wr (w.heap.size + 1) 61 (cellsN (nRow d i))) (fun t _ _ => 16 - (intOf t).toNat)
  case atStart => exact ⟨0, by omega, rfl, rfl, hb1, hd1, hn1⟩
  case round =>
    clear hb1 hd1 hn1
    obtain ⟨i, hi, rfl, rfl, hb, hdr, hn⟩ := hrel
    have hsl := digSum_le d i
    by_cases hlt : i < 16
    · have c1 := hdr.byte (i / 2) (by rw [HD.out]; omega)
      have hbd := by8_bd d (i / 2)
      have f2 := hn.free i
      have c2 := hn.num i (by rw [nRow_len d i (by omega)]; omega)
      have hdl := dig_le d i
      have hset := hn.setN i (dig d i)
      rw [nRow_set d i (by omega)] at hset
      have c3 := hset.num i (by rw [nRow_len d (i + 1) (by omega)]; omega)
      rw [nRow_get d i (by omega)] at c3
      have hsum : (digSum d (i + 1) : Int) = digSum d i + (15 - dig d i) := by rw [digSum]; omega
      have HS := Lib.hid hsum
      clear hsum
      by_cases hodd : i % 2 = 1
      · have hv := dig_odd d i hodd
        have hr : (i : Int) % 2 = 1 := by omega
        go_wp2
        go_roundw
        case rel => exact ⟨i + 1, by omega, by go_num, (by have := HS.out; go_num), hb.setCell (by simp) _, hdr.other _ _ (by simp), hset⟩
        case measure => simp [intOf]; omega
      · have hv := dig_even d i hodd
        have hr : (i : Int) % 2 = 0 := by omega
        go_wp2
        go_roundw
        case rel => exact ⟨i + 1, by omega, by go_num, (by have := HS.out; go_num), hb.setCell (by simp) _, hdr.other _ _ (by simp), hset⟩
        case measure => simp [intOf]; omega
    · obtain rfl : i = 16 := by omega
      have f16 := hn.free 16
      have c16 := hn.num 16 (by rw [nRow_len d 16 (by omega)]; omega)
      have hs1 := hn.setN 16 (digSum d 16 / 16)
      have c17 := hs1.num 17 (by rw [List.length_set, nRow_len d 16 (by omega)]; omega)
      have f17 := hs1.free 17
      have hset := hs1.setN 17 (digSum d 16 % 16)
      rw [nRow_all] at hset
      have e1 : ((digSum d 16 / 16 : Nat) : Int) = (digSum d 16 : Int) / 16 := by omega
      have e2 : ((digSum d 16 % 16 : Nat) : Int) = (digSum d 16 : Int) % 16 := by omega
      rw [e1] at hs1 c17 f17 hset
      rw [e2] at hset
      have h2 := and15 (digSum d 16) (by omega)
      rw [e2] at h2
      clear e1 e2
      have hb2 : Below w.heap.size w ((wr.setCell ⟨w.heap.size + 1, 16, none⟩ (.int .i64 ((digSum d 16 : Int) / 16))).setCell ⟨w.heap.size + 1, 17, none⟩ (.int .i64 ((digSum d 16 : Int) % 16))) := (hb.setCell (by simp) _).setCell (by simp) _
      have HSZ := Lib.hid (Tryd.size18_of (nibs d) (nibs_len d))
      go_wp2_with (first | (refine wpList_load_row rfl 61 (.tmp 2) rfl (w.heap.size + 1) rfl 61 (cellsN (nibs d)) (0, 0) _ hset Tryd.under18 rfl HSZ.out ?_) | (refine wpList_store_row rfl 61 (.tmp 2) (.tmp 39) rfl (w.heap.size + 1) rfl (cellsN (nibs d)) _ 61 rfl hset rfl HSZ.out (cellsN_one _) ?_; intro w9 hg9 hr9 hz9))
      refine bodyPost_ret (v := .agg (cellsN (nibs d))) (results_cell_row rfl _ _ (w.heap.size + 1) 61 (cellsN (nibs d)) (0, 0) _ rfl hr9 Tryd.under18 rfl HSZ.out) rfl ⟨rfl, ?_⟩
      exact hb2.grown hg9 hb2.size (fun k hk => by cases hk; omega)
end Go.Proofs.YteogcilnpkaplaaDoor

namespace Go.Proofs.YteogcilnpkaplaaDoor
open Go.RowKit
theorem madeD (n : Nat) : madeCells (Value.agg (cellsB (List.replicate 32 0))).cells n = cellsB (List.replicate n 0) := by
  have key : ∀ j, j < 32 → (cellsB (List.replicate 32 0))[j]! = B8 0 := fun j hj => by
    have h : (cellsB (List.replicate 32 0))[j]? = some (B8 0) := by
      simp only [cellsB, List.getElem?_toArray, List.getElem?_map, List.getElem?_replicate, if_pos hj]; rfl
    rw [getElem!_def, h]
  apply Array.ext
  · rw [size_madeCells, cellsB_size, List.length_replicate]
  · intro i h1 h2
    have e1 : (madeCells (Value.agg (cellsB (List.replicate 32 0))).cells n)[i] = (cellsB (List.replicate 32 0))[i % 32]! := by
      have hs : (cellsB (List.replicate 32 0)).size = 32 := rfl
      simp only [madeCells, Value.cells, Array.getElem_map, Array.getElem_range, hs]
    rw [e1, key _ (Nat.mod_lt _ (by decide))]
    simp only [cellsB, List.getElem_toArray, List.getElem_map, List.getElem_replicate]
/-- A list of zero digests is made. -/
theorem wpList_make_digs {w : World} {ops : Array Oper} {rest : List Oper} {o : Oper} {a : Act} {Q : Exit → Act → World → Prop} (hgd : o.guard = none) (x y : Operand) (ho : o.op = .makeSlice 29 x y)
    (n : Nat) (hx : a.eval x = .int .i64 (n : Int)) (hy : a.eval y = .int .i64 (n : Int)) (hn : n ≤ 1000000)
    (h : ∀ w', Row w' w.heap.size 25 (cellsB (List.replicate (n * 32) 0)) → Below w.heap.size w w' → w'.heap.size = w.heap.size + 1 → wpList Tryd.prog ops Q rest (a.put o.dst (.slice (some ⟨w.heap.size, 0, none⟩) n n)) w') : wpList Tryd.prog ops Q (o :: rest) a w := by
  obtain ⟨i0, hi, hz0, hz1, hz2⟩ := info_parts Tryd.infoD
  have hr := run_make (P := Tryd.prog) w 29 25 i0 _ Tryd.underDs hi hz0 .i64 .i64 (n : Int) (n : Int) (by omega) (by omega) (by rw [hz2]; omega) (by omega)
  rw [hz1, madeD, Int.toNat_natCast] at hr
  refine wpList_plain hgd fun K hK => ?_
  unfold Oper.wp execOp
  simp only [ho, hx, hy, Sem.run_bind, hr, Result.andThen_ok]
  exact hK _ _ (h _ (Row.new w _ _) ((Below.refl _ _).alloc (Nat.le_refl _) _) (by simp))
/-- The list behind i rounds. -/
def eRow (x : Nat → List UInt8) (i : Nat) : List UInt8 := ((List.range i).map x).flatten ++ List.replicate ((18 - i) * 32) 0
theorem eRow_flat (x : Nat → List UInt8) (i : Nat) (hx : ∀ i, i < 18 → (x i).length = 32) (hi : i ≤ 18) : ((List.range i).map x).flatten.length = i * 32 := by
  rw [flat_len _ (all32_range fun j hj => hx j (by omega)), List.length_map, List.length_range, Nat.mul_comm]
theorem eRow_len (x : Nat → List UInt8) (i : Nat) (hx : ∀ i, i < 18 → (x i).length = 32) (hi : i ≤ 18) : (eRow x i).length = 576 := by
  unfold eRow
  rw [List.length_append, eRow_flat x i hx hi, List.length_replicate]; omega
theorem eRow_splice (x : Nat → List UInt8) (i : Nat) (hx : ∀ i, i < 18 → (x i).length = 32) (hi : i < 18) : splice (eRow x i) (i * 32) (x i) = eRow x (i + 1) := by
  have hf := eRow_flat x i hx (by omega)
  unfold splice eRow
  rw [← hf, List.take_left, hx i hi, List.range_succ, List.map_append, List.flatten_append, List.drop_append, List.drop_eq_nil_of_le (by omega), List.nil_append, Nat.add_sub_cancel_left, List.drop_replicate]
  rw [show (18 - i) * 32 - 32 = (18 - (i + 1)) * 32 by omega]
  simp
theorem eRow_all (x : Nat → List UInt8) : eRow x 18 = (tab x).flatten := by unfold eRow tab; simp
theorem Row.digs {w : World} {b : Nat} {t : TypeId} {xs : List (List UInt8)} (h : Row w b t (cellsB xs.flatten)) (n : Nat) (hn : n = xs.length) (hl : n ≤ 1000000) : Digs w (.slice (some ⟨b, 0, none⟩) n n) xs := by
  subst hn
  exact ⟨_, _, rfl, Nat.le_refl _, by omega, .inr ⟨b, 0, rfl, fun i hi => by rw [Nat.zero_add]; exact h.byte i hi⟩⟩
set_option maxRecDepth 10000 in
set_option maxHeartbeats 1000000 in
theorem weach_any (fid : FuncId) (cap : Array Value) (x : Nat → List UInt8) (w : World) (hcf : ∀ (args : Array Value) (w : World), (callFunc fid args).run Tryd.prog w = .ok (.enter fid args) w) (hx : ∀ i, i < 18 → (x i).length = 32)
    (hcall : ∀ (i : Nat) (w' : World), i < 18 → Below w.heap.size w w' → Calls Tryd.prog fid (#[.int .i64 (i : Int)] ++ cap) w' fun e w'' => e = .returned (.agg (cellsB (x i))) ∧ Below w'.heap.size w' w'') :
    Calls Tryd.prog 40 #[.func (.func fid) #[] cap] w fun e w' => ∃ v, e = .returned v ∧ Digs w' v (tab x) ∧ Below w.heap.size w w' := by
  go_enter Tryd.func40, Tryd.ntmps40
  go_wp2_with (refine wpList_make_digs rfl _ _ rfl 18 rfl rfl (by decide) ?_; intro w1 hr1 hb1 hz1)
  have hr1' : Row w1 w.heap.size 25 (cellsB (eRow x 0)) := hr1
  clear hr1
  go_loopw [8] (fun t wr => ∃ i : Nat, i ≤ 18 ∧ t = .int .i64 (i : Int) ∧ Row wr w.heap.size 25 (cellsB (eRow x i)) ∧ Below w.heap.size w wr) (fun t _ => 18 - (intOf t).toNat)
  case atStart => exact ⟨0, by omega, rfl, hr1', hb1⟩
  case round =>
    clear hr1' hb1 hz1
    obtain ⟨i, hi, rfl, hr, hb⟩ := hrel
    by_cases hlt : i < 18
    · have HE := Lib.hid (eRow_len x i hx hi)
      have HX := Lib.hid (hx i hlt)
      have HS := Lib.hid (eRow_splice x i hx hlt)
      go_wp2_with fail
      refine (hcall i wr hlt hb).mono ?_
      rintro e w5 ⟨rfl, hb5⟩
      have hr5 := hr.below hb5 hr.lt
      have hB5 := hb.trans (hb5.mono hb.size)
      clear hr hb hb5
      go_wp2_with (refine wpList_store_dig rfl (.tmp 16) (.tmp 15) rfl w.heap.size (i * 32) (by first | rfl | simp [Act.eval]) (x i) HX.out rfl (eRow x i) 25 hr5 (by rw [HE.out]; omega) ?_; intro w6 hg6 hr6 hz6)
      rw [HS.out] at hr6
      go_roundw
      case rel => exact ⟨i + 1, by omega, by go_num, hr6, hB5.grown hg6 hB5.size (fun k hk => by cases hk; exact Nat.le_refl _)⟩
      case measure => simp [intOf]; omega
    · obtain rfl : i = 18 := by omega
      rw [eRow_all] at hr
      have HT := Lib.hid (tab_len x)
      go_wp2
      go_ret
      exact ⟨_, rfl, hr.digs 18 HT.out.symm (by decide), hb⟩
end Go.Proofs.YteogcilnpkaplaaDoor

namespace Go.Proofs.YteogcilnpkaplaaDoor
open Go.RowKit
theorem or128 (x : Nat) (h : x < 256) : bits .or .u8 (x : Int) 128 = ((x % 128 + 128 : Nat) : Int) := by
  have hall : (List.range 256).all (fun x => bits .or .u8 (x : Int) 128 == ((x % 128 + 128 : Nat) : Int)) = true := by kernel_rfl
  simpa using List.all_eq_true.1 hall x (List.mem_range.2 h)
theorem leb_small {m : Nat} (h : m < 128) : leb m = [UInt8.ofNat m] := by unfold leb; rw [if_pos h]
theorem leb_step {m : Nat} (h : ¬ m < 128) (h2 : m ≤ 16383) : leb m = [lebHi m] ++ leb (m / 128) := by
  rw [leb_small (show m / 128 < 128 by omega)]; unfold leb; rw [if_neg h]; rfl
theorem leb_len (m : Nat) : (leb m).length ≤ 2 := by unfold leb; split <;> simp
theorem Y_ofNat {n : Nat} (h : n < 256) : Y (UInt8.ofNat n) = (n : Int) := by
  unfold Y; rw [UInt8.toNat_ofNat', Nat.mod_eq_of_lt (by omega)]
set_option maxRecDepth 10000 in
set_option maxHeartbeats 1000000 in
theorem uint_any (b : List UInt8) (v : Value) (n : Nat) (ok : Nat → Prop) (w : World) (hv : Bytes w v b ok) (hb : b.length ≤ 1000000) (hn : n ≤ 16383) :
    Calls Tryd.prog 62 #[v, .int .u64 (n : Int)] w fun e w' => ∃ v', e = .returned v' ∧ OwnB w' w.heap.size v' (b ++ leb n) ∧ Below w.heap.size w w' := by
  go_enter Tryd.func62, Tryd.ntmps62
  go_wp2_with fail
  refine (clone_any b v ok w hv (by omega)).mono ?_
  rintro e w1 ⟨v1, rfl, ho1, hb1⟩
  go_wp2
  go_loopw [5, 1] (fun x t wr => ∃ (xs : List UInt8) (m : Nat), t = .int .u64 (m : Int) ∧ m ≤ 16383 ∧ Hid (xs ++ leb m = b ++ leb n) ∧ OwnB wr w.heap.size x xs ∧ Below w.heap.size w wr) (fun _ t _ => (intOf t).toNat)
  case atStart => exact ⟨b, n, rfl, hn, rfl, ho1, hb1⟩
  case round =>
    clear ho1 hb1
    obtain ⟨xs, m, rfl, hm, he, ho, hbl⟩ := hrel
    have hxl : xs.length ≤ 1000002 := by
      have h := congrArg List.length he.out
      rw [List.length_append, List.length_append] at h
      have := leb_len n
      omega
    by_cases hlt : m < 128
    · have hy : (m : Int) = Y (UInt8.ofNat m) := (Y_ofNat (by omega)).symm
      have hy2 : (m : Int) % 256 = Y (UInt8.ofNat m) := by rw [← hy]; omega
      go_wp2_with (at_builtin; refine wpList_append_bytes rfl (.tmp 18) (.tmp 21) rfl w.heap.size _ _ xs [UInt8.ofNat m] (fun _ => True) rfl (ho.alloc _) rfl (one_byte _ _ _ (by first | exact hy | exact hy2)) (by simp; omega) (by have := hbl.size; simp; omega) ?_; intro v6 w6 ho6 hg6)
      go_ret
      refine ⟨_, rfl, ?_, (hbl.alloc hbl.size _).grown hg6 (by have := hbl.size; simp; omega) (fun k hk => ho.ownBlock k hk)⟩
      rw [← leb_small hlt, he.out] at ho6
      exact ho6
    · have hy : bits .or .u8 ((m : Int) % 256) 128 = Y (lebHi m) := by
        unfold lebHi
        rw [show (m : Int) % 256 = ((m % 256 : Nat) : Int) by omega, or128 _ (by omega), Y_ofNat (by omega)]; omega
      go_wp2_with (at_builtin; refine wpList_append_bytes rfl (.tmp 10) (.tmp 14) rfl w.heap.size _ _ xs [lebHi m] (fun _ => True) rfl (ho.alloc _) rfl (one_byte _ _ _ (by first | exact hy | rfl)) (by simp; omega) (by have := hbl.size; simp; omega) ?_; intro v6 w6 ho6 hg6)
      have hb6 : Below w.heap.size w w6 := (hbl.alloc hbl.size _).grown hg6 (by have := hbl.size; simp; omega) (fun k hk => ho.ownBlock k hk)
      go_roundw
      case rel => exact ⟨_, m / 128, by go_num, by omega, by rw [List.append_assoc, ← leb_step hlt hm]; exact he, ho6, hb6⟩
      case measure => simp [intOf]; omega
set_option maxRecDepth 10000 in
set_option maxHeartbeats 1000000 in
theorem ruint_any (b : List UInt8) (v : Value) (n : Nat) (ok : Nat → Prop) (w : World) (hv : Bytes w v b ok) (hb : b.length ≤ 1000000) (hn : n ≤ 16383) :
    Calls Tryd.prog 65 #[v, .int .u64 (n : Int)] w fun e w' => ∃ v', e = .returned v' ∧ OwnB w' w.heap.size v' (b ++ leb n) ∧ Below w.heap.size w w' := by
  have ho0 := OwnB.fresh w [] (by decide)
  have hs0 : Bytes (w.alloc (.cells (cellsB []) 5)) v b (fun _ => True) := (hv.later ((Below.refl _ _).alloc (Nat.le_refl _) _)).imp fun _ _ => trivial
  go_enter Tryd.func65, Tryd.ntmps65
  go_wp2_with (at_builtin; refine wpList_append_bytes rfl (.tmp 6) (.tmp 7) rfl w.heap.size _ _ [] b _ rfl ho0 rfl hs0 (by simp; omega) (by simp) ?_; intro v1 w1 ho1 g1)
  have hb1 : Below w.heap.size w w1 := ((Below.refl _ _).alloc (Nat.le_refl _) _).grown g1 (by simp) (fun k hk => ho0.ownBlock k hk)
  rw [List.nil_append] at ho1
  clear ho0 hs0 g1
  go_loopw [5, 1] (fun x t wr => ∃ (xs : List UInt8) (m : Nat), t = .int .u64 (m : Int) ∧ m ≤ 16383 ∧ Hid (xs ++ leb m = b ++ leb n) ∧ OwnB wr w.heap.size x xs ∧ Below w.heap.size w wr) (fun _ t _ => (intOf t).toNat)
  case atStart => exact ⟨b, n, rfl, hn, rfl, ho1, hb1⟩
  case round =>
    clear ho1 hb1
    obtain ⟨xs, m, rfl, hm, he, ho, hbl⟩ := hrel
    have hxl : xs.length ≤ 1000002 := by
      have h := congrArg List.length he.out
      rw [List.length_append, List.length_append] at h
      have := leb_len n
      omega
    by_cases hlt : m < 128
    · have hy : (m : Int) = Y (UInt8.ofNat m) := (Y_ofNat (by omega)).symm
      have hy2 : (m : Int) % 256 = Y (UInt8.ofNat m) := by rw [← hy]; omega
      go_wp2_with (at_builtin; refine wpList_append_bytes rfl (.tmp 20) (.tmp 23) rfl w.heap.size _ _ xs [UInt8.ofNat m] (fun _ => True) rfl (ho.alloc _) rfl (one_byte _ _ _ (by first | exact hy | exact hy2)) (by simp; omega) (by have := hbl.size; simp; omega) ?_; intro v6 w6 ho6 hg6)
      go_ret
      refine ⟨_, rfl, ?_, (hbl.alloc hbl.size _).grown hg6 (by have := hbl.size; simp; omega) (fun k hk => ho.ownBlock k hk)⟩
      rw [← leb_small hlt, he.out] at ho6
      exact ho6
    · have hy : (m : Int) % 128 + 128 = Y (lebHi m) := by
        unfold lebHi
        rw [Y_ofNat (by omega)]; omega
      go_wp2_with (at_builtin; refine wpList_append_bytes rfl (.tmp 11) (.tmp 16) rfl w.heap.size _ _ xs [lebHi m] (fun _ => True) rfl (ho.alloc _) rfl (one_byte _ _ _ (by first | exact hy | rfl)) (by simp; omega) (by have := hbl.size; simp; omega) ?_; intro v6 w6 ho6 hg6)
      have hb6 : Below w.heap.size w w6 := (hbl.alloc hbl.size _).grown hg6 (by have := hbl.size; simp; omega) (fun k hk => ho.ownBlock k hk)
      go_roundw
      case rel => exact ⟨_, m / 128, by go_num, by omega, by rw [List.append_assoc, ← leb_step hlt hm]; exact he, ho6, hb6⟩
      case measure => simp [intOf]; omega
end Go.Proofs.YteogcilnpkaplaaDoor

namespace Go.Proofs.YteogcilnpkaplaaDoor
open Go.RowKit
theorem wrap_u64_in (n : Int) (h0 : 0 ≤ n) (h1 : n < 18446744073709551616) : IntKind.u64.wrap n = n := by
  simp [IntKind.wrap, IntKind.bits, IntKind.signed]; omega
theorem OwnB.base {w : World} {b b' : Nat} {v : Value} {xs : List UInt8} (h : OwnB w b v xs) (hb : b' ≤ b) : OwnB w b' v xs := by
  obtain ⟨h1, h2 | ⟨g, cap, cur, rfl, hg, r⟩⟩ := h
  · exact ⟨h1, .inl h2⟩
  · exact ⟨h1, .inr ⟨g, cap, cur, rfl, Nat.le_trans hb hg, r⟩⟩
def Asrt.own {B : Nat} (l : List UInt8) : Asrt B := ⟨fun v w => OwnB w B v l, fun _ _ _ h hg => h.below fun b _ hlt => hg.below.block b hlt⟩
theorem range_below {w w' : World} {b o : Nat} {cs : List Value} (h : w.rangeAt b o cs) (hb : Below w.heap.size w w') : w'.rangeAt b o cs := fun j v hv => (hb.cell (p := ⟨b, o + j, none⟩) (block_lt_of_cell (h j v hv))).trans (h j v hv)
theorem cell_below {w w' : World} {b : Nat} {v : Value} (h : w.cell? ⟨b, 0, none⟩ = some v) (hb : Below w.heap.size w w') : w'.cell? ⟨b, 0, none⟩ = some v := (hb.cell (p := ⟨b, 0, none⟩) (block_lt_of_cell h)).trans h
set_option maxRecDepth 10000 in
set_option maxHeartbeats 2000000 in
theorem walk1_any (i : Nat) (pre seed : List UInt8) (vp vs : Value) (bp bs bn : Nat) (ns : List Nat) (x : Nat) (w : World) (hi : i < 18) (hpre : pre.length ≤ 1000) (hseed : seed.length ≤ 1000) (hvp : Bytes w vp pre (fun _ => True)) (hvs : Bytes w vs seed (fun _ => True))
    (cp : w.cell? ⟨bp, 0, none⟩ = some vp) (cs : w.cell? ⟨bs, 0, none⟩ = some vs) (hn : Row w bn 61 (cellsN ns)) (hns : ns.length = 18) (hnx : ns.getD i 0 = x) (hx : x ≤ 15) (hK : KFact w) :
    Calls Tryd.prog 63 #[.int .i64 (i : Int), .pointer (some ⟨bp, 0, none⟩), .pointer (some ⟨bs, 0, none⟩), .pointer (some ⟨bn, 0, none⟩)] w fun e w' => e = .returned (.agg (cellsB (chainOf (taggedOf wotsTag (pre ++ leb i ++ seed)) x))) ∧ Below w.heap.size w w' := by
  have hkl := hK.lt
  have hnlt := hn.lt
  have hi1 : (i : Int) < 18 := by omega
  have hi2 : IntKind.u64.wrap (i : Int) = (i : Int) := wrap_u64_in _ (by omega) (by omega)
  have hcn := hn.num i (by rw [hns]; exact hi)
  rw [hnx] at hcn
  clear hns hnx
  obtain ⟨ap, kp, rfl⟩ : ∃ a c, vp = .slice a pre.length c := by obtain ⟨a, c, h, _⟩ := hvp; exact ⟨a, c, h⟩
  obtain ⟨sd, ks, rfl⟩ : ∃ a c, vs = .slice a seed.length c := by obtain ⟨a, c, h, _⟩ := hvs; exact ⟨a, c, h⟩
  have hb0 : Below w.heap.size w (w.alloc (.cells (cellsB (List.replicate 32 0)) 25)) := (Below.refl _ _).alloc (Nat.le_refl _) _
  have hD0 : Row (w.alloc (.cells (cellsB (List.replicate 32 0)) 25)) w.heap.size 25 (cellsB (List.replicate 32 0)) := Row.new w _ _
  go_enter Tryd.func63, Tryd.ntmps63
  generalize hRR : Code.region 2 _ _ = RR
  go_wp2
  obtain ⟨w0, ew0⟩ : ∃ w0, w.alloc (.cells (cellsB (List.replicate 32 0)) 25) = w0 := ⟨_, rfl⟩
  rw [ew0] at hb0 hD0
  change Code.wp _ _ _ _ (w.alloc (.cells (cellsB (List.replicate 32 0)) 25))
  rw [ew0]
  clear ew0
  have cp0 := cell_below cp hb0
  have cs0 := cell_below cs hb0
  have hp0 := (hvp.later hb0).imp (ok' := fun _ => True) fun _ _ => trivial
  have hs0 := (hvs.later hb0).imp (ok' := fun _ => True) fun _ _ => trivial
  have hcn0 := (hb0.cell (p := ⟨bn, i, none⟩) (block_lt_of_cell hcn)).trans hcn
  have hK0 := hK.below hb0 hkl
  obtain ⟨B, eB⟩ : ∃ B, w0.heap.size = B := ⟨_, rfl⟩
  clear hvp hvs cp cs hn hcn
  refine wp_gen fun a0 ha0 => ?_
  have i0 : a0.eval (.tmp 0) = .int .i64 (i : Int) := by rw [ha0]; rfl
  have i1 : a0.eval (.tmp 1) = .pointer (some ⟨bp, 0, none⟩) := by rw [ha0]; rfl
  have i2 : a0.eval (.tmp 2) = .pointer (some ⟨bs, 0, none⟩) := by rw [ha0]; rfl
  have hsz : a0.tmps.size = 19 := by rw [ha0]; rfl
  refine wp_region_inv_tail (B := B) 5 [some 7, some 8, some 9, some 10, some 11, some 12, some 6] [Asrt.eq (.slice ap pre.length kp), Asrt.eq (.int .i64 (i : Int)), Asrt.eq (.int .u64 (i : Int)), Asrt.own (pre ++ leb i), Asrt.eq (.slice sd seed.length ks)] rfl (by as_aux_lemma => kernel_rfl) (by rw [hsz]; as_aux_lemma => kernel_rfl) (by as_aux_lemma => kernel_rfl) (by as_aux_lemma => kernel_rfl) (by as_aux_lemma => kernel_rfl) (by decide) (by as_aux_lemma => kernel_rfl) (by omega) ⟨?_, ?_, ?_, ?_, ?_, trivial⟩ ?_
  · as_aux_lemma =>
      intro ev w1 hg hin hc hgl hfn hd
      have hB := hg.top
      have g1 : ev (.tmp 1) = .pointer (some ⟨bp, 0, none⟩) := (hin 1 (by kernel_rfl)).trans i1
      clear hin hd
      refine step_on (guard_none rfl) fun K hK => ?_
      have hc1 := hg.cell cp0
      unfold YieldsG
      go_simp
      exact hK _ _ rfl (Grow.refl hB)
  · as_aux_lemma =>
      intro ev w1 hg hin hc hgl hfn hd
      have hB := hg.top
      have g0 : ev (.tmp 0) = .int .i64 (i : Int) := (hin 0 (by kernel_rfl)).trans i0
      clear hin hd
      refine step_on (guard_none rfl) fun K hK => ?_
      unfold YieldsG
      go_simp
      exact hK _ _ rfl (Grow.refl hB)
  · as_aux_lemma =>
      intro ev w1 hg hin hc hgl hfn hd
      have hB := hg.top
      have f8 : (ev (.tmp 8)) = .int .i64 (i : Int) := hd.1 rfl _ rfl
      clear hin hd
      refine step_on (guard_none rfl) fun K hK => ?_
      unfold YieldsG
      go_simp
      exact hK _ _ rfl (Grow.refl hB)
  · as_aux_lemma =>
      intro ev w1 hg hin hc hgl hfn hd
      have hB := hg.top
      have f7 : (ev (.tmp 7)) = .slice ap pre.length kp := hd.1 rfl _ rfl
      have f9 : (ev (.tmp 9)) = .int .u64 (i : Int) := hd.2.1 rfl _ rfl
      clear hin hd
      refine step_on (guard_none rfl) fun K hK => ?_
      unfold YieldsG
      go_simp
      refine (uint_any pre _ i _ w1 ((Asrt.bytes (B := B) pre).st _ _ _ hp0 hg) (by omega) (by omega)).mono ?_
      rintro e w2 ⟨v2, rfl, ho, hb⟩
      exact ⟨_, rfl, hK _ _ (ho.base hB) (Grow.of hB hb)⟩
  · as_aux_lemma =>
      intro ev w1 hg hin hc hgl hfn hd
      have hB := hg.top
      have g2 : ev (.tmp 2) = .pointer (some ⟨bs, 0, none⟩) := (hin 2 (by kernel_rfl)).trans i2
      clear hin hd
      refine step_on (guard_none rfl) fun K hK => ?_
      have hc1 := hg.cell cs0
      unfold YieldsG
      go_simp
      exact hK _ _ rfl (Grow.refl hB)
  intro v w2 hg hall
  have hf0 : (v 0) = .slice ap pre.length kp := hall.1 (by simp)
  have hf1 : (v 1) = .int .i64 (i : Int) := hall.2.1 (by simp)
  have hf2 : (v 2) = .int .u64 (i : Int) := hall.2.2.1 (by simp)
  have hf3 : OwnB w2 B (v 3) (pre ++ leb i) := hall.2.2.2.1 (by simp)
  have hf4 : (v 4) = .slice sd seed.length ks := hall.2.2.2.2.1 (by simp)
  clear hall i0 i1 i2 hsz
  rw [ha0]
  clear ha0
  simp only [List.take_succ_cons, List.take_zero, List.drop_succ_cons, List.drop_zero, putAll, Act.put, List.setIfInBounds_toArray, List.set_cons_zero, List.set_cons_succ, Nat.zero_add, Nat.reduceAdd]
  rw [hf0, hf1, hf2, hf4]
  generalize v 3 = x3 at *
  clear hf0 hf1 hf2 hf4
  have hs2 := (Asrt.bytes (B := B) seed).st _ _ _ hs0 hg
  have hbb2 : Below w.heap.size w w2 := hb0.trans (hg.bl.mono (by rw [← eB]; exact hb0.size))
  have hD2 : Row w2 w.heap.size 25 (cellsB (List.replicate 32 0)) := hg.kept _ _ hD0
  have hcn2 := hg.cell hcn0
  have hBt := hg.top
  have hBz : w.heap.size + 1 ≤ B := by have := hD0.lt; omega
  clear hg cp0 cs0 hp0 hs0 hcn0 hK0 hb0 hD0
  go_wp2_with (at_builtin; refine wpList_append_bytes rfl (.tmp 10) (.tmp 11) rfl B _ _ (pre ++ leb i) seed _ rfl hf3 rfl hs2 (by rw [List.length_append]; have := leb_len i; omega) hBt ?_; intro v6 w6 ho6 hg6)
  have hb6 : Below w.heap.size w w6 := hbb2.grown hg6 hbb2.size (fun k hk => by have := hf3.ownBlock k hk; omega)
  have hD6 := hD2.grown hg6 (fun e => by have := hf3.ownBlock _ e.symm; omega)
  have hcn6 : w6.cell? ⟨bn, i, none⟩ = some (.int .i64 (x : Int)) := by
    rw [World.cell?_of_block (w := w2) (hg6.block bn (block_lt_of_cell hcn2) (fun e => by have := hf3.ownBlock _ e.symm; omega))]; exact hcn2
  have hm6 : Bytes w6 v6 (pre ++ leb i ++ seed) (fun _ => True) := ho6.bytes _ fun _ _ => trivial
  have hml : (pre ++ leb i ++ seed).length ≤ 17592186044416 := by rw [List.length_append, List.length_append]; have := leb_len i; omega
  have hK6 := hK.below hb6 hkl
  obtain ⟨m, hm⟩ : ∃ m, pre ++ leb i ++ seed = m := ⟨_, rfl⟩
  rw [hm] at hm6 hml
  have HM := Lib.hid hm
  clear hm
  clear hf3 hs2 hbb2 hD2 hcn2 hBt hg6 ho6 hK
  rw [← hRR]
  clear hRR eB
  have hz6 := hb6.size
  obtain ⟨B, eB⟩ : ∃ B, w6.heap.size = B := ⟨_, rfl⟩
  have hkl6 := hK6.lt
  refine wp_gen fun a0 ha0 => ?_
  have i0 : a0.eval (.tmp 0) = .int .i64 (i : Int) := by rw [ha0]; rfl
  have i3 : a0.eval (.tmp 3) = .pointer (some ⟨bn, 0, none⟩) := by rw [ha0]; rfl
  have i6 : a0.eval (.tmp 6) = v6 := by rw [ha0]; rfl
  have hsz : a0.tmps.size = 19 := by rw [ha0]; rfl
  refine wp_region_inv_tail (B := B) 6 [some 13, some 14, some 15, some 16, some 17, some 18, none] [Asrt.eq (v6), Asrt.eq (.agg (cellsB (taggedOf wotsTag m))), Asrt.eq (.int .i64 (i : Int)), Asrt.eq (.pointer (some ⟨bn, i, none⟩)), Asrt.eq (.int .i64 (x : Int)), Asrt.eq (.agg (cellsB (chainOf (taggedOf wotsTag m) x)))] rfl (by as_aux_lemma => kernel_rfl) (by rw [hsz]; as_aux_lemma => kernel_rfl) (by as_aux_lemma => kernel_rfl) (by as_aux_lemma => kernel_rfl) (by as_aux_lemma => kernel_rfl) (by decide) (by as_aux_lemma => kernel_rfl) (by omega) ⟨?_, ?_, ?_, ?_, ?_, ?_, trivial⟩ ?_
  · as_aux_lemma =>
      intro ev w1 hg hin hc hgl hfn hd
      have hB := hg.top
      have g6 : ev (.tmp 6) = v6 := (hin 6 (by kernel_rfl)).trans i6
      clear hin hd
      refine step_on (guard_none rfl) fun K hK => ?_
      unfold YieldsG
      go_simp
      exact hK _ _ rfl (Grow.refl hB)
  · as_aux_lemma =>
      intro ev w1 hg hin hc hgl hfn hd
      have hB := hg.top
      have f13 : (ev (.tmp 13)) = v6 := hd.1 rfl _ rfl
      clear hin hd
      refine step_on (guard_none rfl) fun K hK => ?_
      unfold YieldsG
      go_simp
      refine (tagged_any (ByteArray.mk #[119, 111, 116, 115]) v6 m _ w1 (by decide) ((Asrt.bytes (B := B) m).st _ _ _ hm6 hg) (hK6.below hg.bl (by omega)) hml).mono ?_
      rintro e w2 ⟨rfl, hb⟩
      exact ⟨_, rfl, hK _ _ rfl (Grow.of hB hb)⟩
  · as_aux_lemma =>
      intro ev w1 hg hin hc hgl hfn hd
      have hB := hg.top
      have g0 : ev (.tmp 0) = .int .i64 (i : Int) := (hin 0 (by kernel_rfl)).trans i0
      clear hin hd
      refine step_on (guard_none rfl) fun K hK => ?_
      unfold YieldsG
      go_simp
      exact hK _ _ rfl (Grow.refl hB)
  · as_aux_lemma =>
      intro ev w1 hg hin hc hgl hfn hd
      have hB := hg.top
      have f15 : (ev (.tmp 15)) = .int .i64 (i : Int) := hd.1 rfl _ rfl
      have g3 : ev (.tmp 3) = .pointer (some ⟨bn, 0, none⟩) := (hin 3 (by kernel_rfl)).trans i3
      clear hin hd
      refine step_on (guard_none rfl) fun K hK => ?_
      unfold YieldsG
      go_simp
      exact hK _ _ rfl (Grow.refl hB)
  · as_aux_lemma =>
      intro ev w1 hg hin hc hgl hfn hd
      have hB := hg.top
      have f16 : (ev (.tmp 16)) = .pointer (some ⟨bn, i, none⟩) := hd.1 rfl _ rfl
      clear hin hd
      refine step_on (guard_none rfl) fun K hK => ?_
      have hc1 := hg.cell hcn6
      unfold YieldsG
      go_simp
      exact hK _ _ rfl (Grow.refl hB)
  · as_aux_lemma =>
      intro ev w1 hg hin hc hgl hfn hd
      have hB := hg.top
      have f14 : (ev (.tmp 14)) = .agg (cellsB (taggedOf wotsTag m)) := hd.1 rfl _ rfl
      have f17 : (ev (.tmp 17)) = .int .i64 (x : Int) := hd.2.1 rfl _ rfl
      clear hin hd
      refine step_on (guard_none rfl) fun K hK => ?_
      unfold YieldsG
      go_simp
      refine (chain_any (taggedOf wotsTag m) (x : Int) w1 (taggedOf_len _ _) (by omega) (by omega) (hK6.below hg.bl (by omega))).mono ?_
      rintro e w2 ⟨rfl, hb⟩
      exact ⟨_, rfl, hK _ _ rfl (Grow.of hB hb)⟩
  intro v w2 hg hall
  have hf0 : (v 0) = v6 := hall.1 (by simp)
  have hf1 : (v 1) = .agg (cellsB (taggedOf wotsTag m)) := hall.2.1 (by simp)
  have hf2 : (v 2) = .int .i64 (i : Int) := hall.2.2.1 (by simp)
  have hf3 : (v 3) = .pointer (some ⟨bn, i, none⟩) := hall.2.2.2.1 (by simp)
  have hf4 : (v 4) = .int .i64 (x : Int) := hall.2.2.2.2.1 (by simp)
  have hf5 : (v 5) = .agg (cellsB (chainOf (taggedOf wotsTag m) x)) := hall.2.2.2.2.2.1 (by simp)
  clear hall i0 i3 i6 hsz
  rw [ha0]
  clear ha0
  simp only [List.take_succ_cons, List.take_zero, List.drop_succ_cons, List.drop_zero, putAll, Act.put, List.setIfInBounds_toArray, List.set_cons_zero, List.set_cons_succ, Nat.zero_add, Nat.reduceAdd]
  rw [hf0, hf1, hf2, hf3, hf4, hf5]
  clear hf0 hf1 hf2 hf3 hf4 hf5
  have hD2 : Row w2 w.heap.size 25 (cellsB (List.replicate 32 0)) := hg.kept _ _ hD6
  have hbb2 : Below w.heap.size w w2 := hb6.trans (hg.bl.mono (by rw [← eB]; exact hb6.size))
  have HLN := chainOf_len (taggedOf wotsTag m) (taggedOf_len _ _) x
  have HSZ := Lib.hid (Tryd.sizeD_of _ HLN)
  have HCS : Hid ((cellsB (chainOf (taggedOf wotsTag m) x)).size = (cellsB (List.replicate 32 0)).size) := Lib.hid (by rw [cellsB_size, HLN]; rfl)
  clear HLN hg hD6 hb6 hm6 hml hK6
  go_wp2_with (refine wpList_store_row rfl 25 (.tmp 5) (.tmp 18) rfl w.heap.size rfl (cellsB (chainOf (taggedOf wotsTag m) x)) _ 25 rfl hD2 HCS.out HSZ.out (cellsB_one _) ?_; intro w9 hg9 hr9 hz9)
  refine bodyPost_ret (v := .agg (cellsB (chainOf (taggedOf wotsTag m) x))) (results_cell_row rfl _ _ w.heap.size 25 _ (0, 0) _ rfl hr9 Tryd.underD rfl HSZ.out) rfl ⟨by rw [HM.out], ?_⟩
  exact hbb2.grown hg9 hbb2.size (fun k hk => by cases hk; exact Nat.le_refl _)
set_option maxRecDepth 10000 in
set_option maxHeartbeats 2000000 in
theorem rec1_any (i : Nat) (sig : List (List UInt8)) (vs : Value) (bs bn : Nat) (ns : List Nat) (x : Nat) (w : World) (hi : i < 18) (h32 : all32 sig) (hsl : sig.length = 18) (hvs : Digs w vs sig)
    (cs : w.cell? ⟨bs, 0, none⟩ = some vs) (hn : Row w bn 61 (cellsN ns)) (hns : ns.length = 18) (hnx : ns.getD i 0 = x) (hx : x ≤ 15) (hK : KFact w) :
    Calls Tryd.prog 41 #[.int .i64 (i : Int), .pointer (some ⟨bs, 0, none⟩), .pointer (some ⟨bn, 0, none⟩)] w fun e w' => e = .returned (.agg (cellsB (chainOf (sig.getD i []) (15 - x)))) ∧ Below w.heap.size w w' := by
  have hkl := hK.lt
  have hnlt := hn.lt
  have hi1 : (i : Int) < 18 := by omega
  have hcn := hn.num i (by rw [hns]; exact hi)
  rw [hnx] at hcn
  clear hns hnx
  have hel := all32_getD h32 i (by omega)
  obtain ⟨av, ks, rfl⟩ := hvs.form
  rw [hsl] at hvs cs
  obtain ⟨sb, so, rfl, -, hk1, hk2, hat⟩ := hvs.at (by omega)
  have hce := hat.elem h32 i (by omega)
  clear hvs hat h32 hsl
  generalize sig.getD i [] = y at *
  have hx15 : (15 : Int) - (x : Int) = ((15 - x : Nat) : Int) := by omega
  have HX15 := Lib.hid hx15
  clear hx15
  have hw15 : IntKind.i64.wrap (15 - (x : Int)) = 15 - (x : Int) := IntWalk.i64_in _ (by omega)
  have hb0 : Below w.heap.size w (w.alloc (.cells (cellsB (List.replicate 32 0)) 25)) := (Below.refl _ _).alloc (Nat.le_refl _) _
  have hD0 : Row (w.alloc (.cells (cellsB (List.replicate 32 0)) 25)) w.heap.size 25 (cellsB (List.replicate 32 0)) := Row.new w _ _
  go_enter Tryd.func41, Tryd.ntmps41
  go_wp2
  obtain ⟨w0, ew0⟩ : ∃ w0, w.alloc (.cells (cellsB (List.replicate 32 0)) 25) = w0 := ⟨_, rfl⟩
  rw [ew0] at hb0 hD0
  change Code.wp _ _ _ _ (w.alloc (.cells (cellsB (List.replicate 32 0)) 25))
  rw [ew0]
  clear ew0
  have cs0 := cell_below cs hb0
  have hcn0 := (hb0.cell (p := ⟨bn, i, none⟩) (block_lt_of_cell hcn)).trans hcn
  have hce0 : w0.rangeAt sb (so + i * 32) (y.map B8) := range_below hce hb0
  have hK0 := hK.below hb0 hkl
  obtain ⟨B, eB⟩ : ∃ B, w0.heap.size = B := ⟨_, rfl⟩
  have hkl0 := hK0.lt
  clear cs hn hcn hce
  refine wp_gen fun a0 ha0 => ?_
  have i0 : a0.eval (.tmp 0) = .int .i64 (i : Int) := by rw [ha0]; rfl
  have i1 : a0.eval (.tmp 1) = .pointer (some ⟨bs, 0, none⟩) := by rw [ha0]; rfl
  have i2 : a0.eval (.tmp 2) = .pointer (some ⟨bn, 0, none⟩) := by rw [ha0]; rfl
  have hsz : a0.tmps.size = 14 := by rw [ha0]; rfl
  refine wp_region_inv_tail (B := B) 9 [some 5, some 6, some 7, some 8, some 9, some 10, some 11, some 12, some 13, none] [Asrt.eq (.slice (some ⟨sb, so, none⟩) 18 ks), Asrt.eq (.int .i64 (i : Int)), Asrt.eq (.pointer (some ⟨sb, so + i * 32, none⟩)), Asrt.eq (.agg (cellsB (y))), Asrt.eq (.int .i64 (i : Int)), Asrt.eq (.pointer (some ⟨bn, i, none⟩)), Asrt.eq (.int .i64 (x : Int)), Asrt.eq (.int .i64 (15 - (x : Int))), Asrt.eq (.agg (cellsB (chainOf y (15 - x))))] rfl (by as_aux_lemma => kernel_rfl) (by rw [hsz]; as_aux_lemma => kernel_rfl) (by as_aux_lemma => kernel_rfl) (by as_aux_lemma => kernel_rfl) (by as_aux_lemma => kernel_rfl) (by decide) (by as_aux_lemma => kernel_rfl) (by omega) ⟨?_, ?_, ?_, ?_, ?_, ?_, ?_, ?_, ?_, trivial⟩ ?_
  · as_aux_lemma =>
      intro ev w1 hg hin hc hgl hfn hd
      have hB := hg.top
      have g1 : ev (.tmp 1) = .pointer (some ⟨bs, 0, none⟩) := (hin 1 (by kernel_rfl)).trans i1
      clear hin hd
      refine step_on (guard_none rfl) fun K hK => ?_
      have hc1 := hg.cell cs0
      unfold YieldsG
      go_simp
      exact hK _ _ rfl (Grow.refl hB)
  · as_aux_lemma =>
      intro ev w1 hg hin hc hgl hfn hd
      have hB := hg.top
      have g0 : ev (.tmp 0) = .int .i64 (i : Int) := (hin 0 (by kernel_rfl)).trans i0
      clear hin hd
      refine step_on (guard_none rfl) fun K hK => ?_
      unfold YieldsG
      go_simp
      exact hK _ _ rfl (Grow.refl hB)
  · as_aux_lemma =>
      intro ev w1 hg hin hc hgl hfn hd
      have hB := hg.top
      have f5 : (ev (.tmp 5)) = .slice (some ⟨sb, so, none⟩) 18 ks := hd.1 rfl _ rfl
      have f6 : (ev (.tmp 6)) = .int .i64 (i : Int) := hd.2.1 rfl _ rfl
      clear hin hd
      refine step_on (guard_none rfl) fun K hK => ?_
      unfold YieldsG
      go_simp
      exact hK _ _ rfl (Grow.refl hB)
  · as_aux_lemma =>
      intro ev w1 hg hin hc hgl hfn hd
      have hB := hg.top
      have f7 : (ev (.tmp 7)) = .pointer (some ⟨sb, so + i * 32, none⟩) := hd.1 rfl _ rfl
      clear hin hd
      refine step_on (guard_none rfl) fun K hK => ?_
      refine yg_load_mid 25 (.tmp 7) rfl sb (so + i * 32) f7 (y.map B8) _ (range_below hce0 (by rw [eB]; exact hg.bl)) Tryd.underD rfl (by rw [List.length_map, hel]; exact Tryd.sizeD) ?_
      exact hK _ _ rfl (Grow.refl hB)
  · as_aux_lemma =>
      intro ev w1 hg hin hc hgl hfn hd
      have hB := hg.top
      have g0 : ev (.tmp 0) = .int .i64 (i : Int) := (hin 0 (by kernel_rfl)).trans i0
      clear hin hd
      refine step_on (guard_none rfl) fun K hK => ?_
      unfold YieldsG
      go_simp
      exact hK _ _ rfl (Grow.refl hB)
  · as_aux_lemma =>
      intro ev w1 hg hin hc hgl hfn hd
      have hB := hg.top
      have f9 : (ev (.tmp 9)) = .int .i64 (i : Int) := hd.1 rfl _ rfl
      have g2 : ev (.tmp 2) = .pointer (some ⟨bn, 0, none⟩) := (hin 2 (by kernel_rfl)).trans i2
      clear hin hd
      refine step_on (guard_none rfl) fun K hK => ?_
      unfold YieldsG
      go_simp
      exact hK _ _ rfl (Grow.refl hB)
  · as_aux_lemma =>
      intro ev w1 hg hin hc hgl hfn hd
      have hB := hg.top
      have f10 : (ev (.tmp 10)) = .pointer (some ⟨bn, i, none⟩) := hd.1 rfl _ rfl
      clear hin hd
      refine step_on (guard_none rfl) fun K hK => ?_
      have hc1 := hg.cell hcn0
      unfold YieldsG
      go_simp
      exact hK _ _ rfl (Grow.refl hB)
  · as_aux_lemma =>
      intro ev w1 hg hin hc hgl hfn hd
      have hB := hg.top
      have f11 : (ev (.tmp 11)) = .int .i64 (x : Int) := hd.1 rfl _ rfl
      clear hin hd
      refine step_on (guard_none rfl) fun K hK => ?_
      unfold YieldsG
      go_simp
      exact hK _ _ rfl (Grow.refl hB)
  · as_aux_lemma =>
      intro ev w1 hg hin hc hgl hfn hd
      have hB := hg.top
      have f8 : (ev (.tmp 8)) = .agg (cellsB (y)) := hd.1 rfl _ rfl
      have f12 : (ev (.tmp 12)) = .int .i64 (15 - (x : Int)) := hd.2.1 rfl _ rfl
      clear hin hd
      refine step_on (guard_none rfl) fun K hK => ?_
      rw [HX15.out] at f12
      unfold YieldsG
      go_simp
      refine (chain_any y ((15 - x : Nat) : Int) w1 hel (by omega) (by omega) (hK0.below hg.bl (by omega))).mono ?_
      rintro e w2 ⟨rfl, hb⟩
      exact ⟨_, rfl, hK _ _ rfl (Grow.of hB hb)⟩
  intro v w2 hg hall
  have hf0 : (v 0) = .slice (some ⟨sb, so, none⟩) 18 ks := hall.1 (by simp)
  have hf1 : (v 1) = .int .i64 (i : Int) := hall.2.1 (by simp)
  have hf2 : (v 2) = .pointer (some ⟨sb, so + i * 32, none⟩) := hall.2.2.1 (by simp)
  have hf3 : (v 3) = .agg (cellsB (y)) := hall.2.2.2.1 (by simp)
  have hf4 : (v 4) = .int .i64 (i : Int) := hall.2.2.2.2.1 (by simp)
  have hf5 : (v 5) = .pointer (some ⟨bn, i, none⟩) := hall.2.2.2.2.2.1 (by simp)
  have hf6 : (v 6) = .int .i64 (x : Int) := hall.2.2.2.2.2.2.1 (by simp)
  have hf7 : (v 7) = .int .i64 (15 - (x : Int)) := hall.2.2.2.2.2.2.2.1 (by simp)
  have hf8 : (v 8) = .agg (cellsB (chainOf y (15 - x))) := hall.2.2.2.2.2.2.2.2.1 (by simp)
  clear hall i0 i1 i2 hsz
  rw [ha0]
  clear ha0
  simp only [List.take_succ_cons, List.take_zero, List.drop_succ_cons, List.drop_zero, putAll, Act.put, List.setIfInBounds_toArray, List.set_cons_zero, List.set_cons_succ, Nat.zero_add, Nat.reduceAdd]
  rw [hf0, hf1, hf2, hf3, hf4, hf5, hf6, hf7, hf8]
  clear hf0 hf1 hf2 hf3 hf4 hf5 hf6 hf7 hf8
  have hD2 : Row w2 w.heap.size 25 (cellsB (List.replicate 32 0)) := hg.kept _ _ hD0
  have hbb2 : Below w.heap.size w w2 := hb0.trans (hg.bl.mono (by rw [← eB]; exact hb0.size))
  have HLN := chainOf_len y hel (15 - x)
  have HSZ := Lib.hid (Tryd.sizeD_of _ HLN)
  have HCS : Hid ((cellsB (chainOf y (15 - x))).size = (cellsB (List.replicate 32 0)).size) := Lib.hid (by rw [cellsB_size, HLN]; rfl)
  clear HLN hg hD0 hb0 hK0 hcn0 hce0 cs0
  go_wp2_with (refine wpList_store_row rfl 25 (.tmp 4) (.tmp 13) rfl w.heap.size rfl (cellsB (chainOf y (15 - x))) _ 25 rfl hD2 HCS.out HSZ.out (cellsB_one _) ?_; intro w9 hg9 hr9 hz9)
  refine bodyPost_ret (v := .agg (cellsB (chainOf y (15 - x)))) (results_cell_row rfl _ _ w.heap.size 25 _ (0, 0) _ rfl hr9 Tryd.underD rfl HSZ.out) rfl ⟨rfl, ?_⟩
  exact hbb2.grown hg9 hbb2.size (fun k hk => by cases hk; exact Nat.le_refl _)
end Go.Proofs.YteogcilnpkaplaaDoor

namespace Go.Proofs.YteogcilnpkaplaaDoor
open Go.RowKit
def pfx (xs : List (List UInt8)) (i : Nat) : List UInt8 := (xs.take i).flatten
theorem pfx_succ (xs : List (List UInt8)) (i : Nat) (h : i < xs.length) : pfx xs (i + 1) = pfx xs i ++ xs.getD i [] := by
  unfold pfx
  rw [List.take_add_one, List.getElem?_eq_getElem h, List.flatten_append, List.getD_eq_getElem?_getD, List.getElem?_eq_getElem h]; simp
theorem pfx_all (xs : List (List UInt8)) (i : Nat) (h : xs.length ≤ i) : pfx xs i = xs.flatten := by unfold pfx; rw [List.take_of_length_le h]
theorem pfx_len (xs : List (List UInt8)) (h : all32 xs) (i : Nat) (hi : i ≤ xs.length) : (pfx xs i).length = 32 * i := by
  unfold pfx
  rw [flat_len _ (fun x hx => h x (List.mem_of_mem_take hx)), List.length_take, Nat.min_eq_left hi]
theorem range_bytes {w : World} {b o : Nat} {x : List UInt8} (h : w.rangeAt b o (x.map B8)) (hx : x.length = 32) : Bytes w (.slice (some ⟨b, o, none⟩) 32 32) x (fun _ => True) :=
  ⟨_, 32, by rw [hx], by rw [hx]; omega, by decide, .inr ⟨b, o, rfl, trivial, fun i hi => by
    refine h i _ ?_
    rw [List.getElem?_map, List.getElem?_eq_getElem hi]
    unfold by8
    rw [List.getD_eq_getElem?_getD, List.getElem?_eq_getElem hi]; rfl⟩⟩
set_option maxRecDepth 10000 in
set_option maxHeartbeats 2000000 in
theorem key_any (xs : List (List UInt8)) (v : Value) (w : World) (hv : Digs w v xs) (h32 : all32 xs) (hl : xs.length ≤ 1000) (hK : KFact w) :
    Calls Tryd.prog 39 #[v] w fun e w' => e = .returned (.agg (cellsB (keyOf xs))) ∧ Below w.heap.size w w' := by
  have hkl := hK.lt
  obtain ⟨a, c, rfl⟩ := hv.form
  obtain ⟨n, hn⟩ : ∃ n, xs.length = n := ⟨_, rfl⟩
  rw [hn] at hv hl ⊢
  have HN := Lib.hid hn
  have H32 := Lib.hid h32
  clear hn h32
  have hb0 : Below w.heap.size w (w.alloc (.cells (cellsB (List.replicate 32 0)) 25)) := (Below.refl _ _).alloc (Nat.le_refl _) _
  have hD0 : Row (w.alloc (.cells (cellsB (List.replicate 32 0)) 25)) w.heap.size 25 (cellsB (List.replicate 32 0)) := Row.new w _ _
  have hz0 : w.heap.size + 1 ≤ (w.alloc (.cells (cellsB (List.replicate 32 0)) 25)).heap.size := by simp
  go_enter Tryd.func39, Tryd.ntmps39
  go_wp2
  go_loopw [8, 3] (fun t q wr => ∃ i : Nat, i ≤ n ∧ t = .int .i64 (i : Int) ∧ OwnB wr (w.heap.size + 1) q (pfx xs i) ∧ Row wr w.heap.size 25 (cellsB (List.replicate 32 0)) ∧ Below w.heap.size w wr ∧ w.heap.size + 1 ≤ wr.heap.size) (fun t _ _ => n - (intOf t).toNat)
  case atStart => exact ⟨0, by omega, rfl, OwnB.nil _ _, hD0, hb0, hz0⟩
  case round =>
    clear hb0 hD0 hz0
    obtain ⟨i, hi, rfl, ho, hD, hb, hz⟩ := hrel
    by_cases hlt : i < n
    · obtain ⟨bv, ov, rfl, -, hc1, hc2, hat⟩ := (hv.later hb).at (by omega)
      have hi2 : i < xs.length := by rw [HN.out]; exact hlt
      have hce := hat.elem H32.out i hi2
      have hl32 := all32_getD H32.out i hi2
      have HP := Lib.hid (pfx_succ xs i hi2)
      have HL := Lib.hid (pfx_len xs H32.out i (by rw [HN.out]; exact hi))
      clear hat
      generalize xs.getD i [] = x at *
      have HX := Lib.hid hl32
      have HSZ := Lib.hid (Tryd.sizeD_of _ hl32)
      have HCS : Hid ((cellsB x).size = (cellsB (List.replicate 32 0)).size) := Lib.hid (by rw [cellsB_size, hl32]; rfl)
      clear hl32
      go_wp2_with (first | (refine wpList_load_dig rfl (.tmp 10) rfl bv (ov + i * 32) rfl x HX.out hce ?_) | (refine wpList_store_row rfl 25 (.tmp 5) (.tmp 11) rfl wr.heap.size rfl (cellsB x) (cellsB (List.replicate 32 0)) 25 rfl (Row.new wr _ _) HCS.out HSZ.out (cellsB_one _) ?_; intro w3 hg3 hr3 hz3; have hz4 : w3.heap.size = wr.heap.size + 1 := (by simpa using hz3); have hb3 : Below wr.heap.size wr w3 := ((Below.refl _ _).alloc (Nat.le_refl _) _).grown hg3 (by simp) (fun k hk => by cases hk; exact Nat.le_refl _); have ho3 := ho.belowB hb3; have hs3 := hr3.bytes HX.out; have hD3 := hD.below hb3 hD.lt; have hB3 := hb.trans (hb3.mono hb.size); clear hg3 hb3) | (at_builtin; refine wpList_append_bytes rfl (.tmp 12) (.tmp 13) rfl (w.heap.size + 1) _ _ (pfx xs i) x _ rfl ho3 rfl hs3 (by rw [HL.out, HX.out]; omega) (by omega) ?_; intro v6 w6 ho6 hg6))
      have hB6 := hB3.grown hg6 hB3.size (fun k hk => by have := ho3.ownBlock k hk; omega)
      have hD6 := hD3.grown hg6 (fun e => by have := ho3.ownBlock _ e.symm; omega)
      have hz6 : w.heap.size + 1 ≤ w6.heap.size := by have := hg6.size; omega
      rw [← HP.out] at ho6
      go_roundw
      case rel => exact ⟨i + 1, by omega, by go_num, ho6, hD6, hB6, hz6⟩
      case measure => simp [intOf]; omega
    · rw [pfx_all xs i (by rw [HN.out]; omega)] at ho
      have hm := ho.bytes (fun _ => True) fun _ _ => trivial
      have hml : xs.flatten.length ≤ 17592186044416 := by rw [flat_len xs H32.out, HN.out]; omega
      have hKr := hK.below hb hkl
      have HKO : Hid (taggedOf (ByteArray.mk #[119, 111, 116, 115, 112, 117, 98]).data.toList xs.flatten = keyOf xs) := rfl
      clear ho
      go_wp2_with fail
      refine (tagged_any _ _ xs.flatten _ wr (by decide) hm hKr hml).mono ?_
      rintro e w5 ⟨rfl, hb5⟩
      rw [HKO.out]
      have hD5 := hD.below hb5 hD.lt
      have hB5 := hb.trans (hb5.mono hb.size)
      have HSZ := Lib.hid (Tryd.sizeD_of _ (keyOf_len xs))
      have HCS : Hid ((cellsB (keyOf xs)).size = (cellsB (List.replicate 32 0)).size) := Lib.hid (by rw [cellsB_size, keyOf_len]; rfl)
      clear hD hb hb5 hm hml
      go_wp2_with (refine wpList_store_row rfl 25 (.tmp 2) (.tmp 17) rfl w.heap.size rfl (cellsB (keyOf xs)) _ 25 rfl hD5 HCS.out HSZ.out (cellsB_one _) ?_; intro w9 hg9 hr9 hz9)
      refine bodyPost_ret (v := .agg (cellsB (keyOf xs))) (results_cell_row rfl _ _ w.heap.size 25 _ (0, 0) _ rfl hr9 Tryd.underD rfl HSZ.out) rfl ⟨rfl, ?_⟩
      exact hB5.grown hg9 hB5.size (fun k hk => by cases hk; exact Nat.le_refl _)
end Go.Proofs.YteogcilnpkaplaaDoor

namespace Go.Proofs.YteogcilnpkaplaaDoor
open Go.RowKit
set_option maxRecDepth 10000 in
set_option maxHeartbeats 2000000 in
theorem rkey_any (xs : List (List UInt8)) (v : Value) (w : World) (hv : Digs w v xs) (h32 : all32 xs) (hl : xs.length ≤ 1000) (hK : RKFact w) (hI : RIFact w) :
    Calls Tryd.prog 64 #[v] w fun e w' => e = .returned (.agg (cellsB (keyOf xs))) ∧ Below w.heap.size w w' := by
  have hkl := hK.lt
  have hil := hI.lt
  obtain ⟨a, c, rfl⟩ := hv.form
  obtain ⟨n, hn⟩ : ∃ n, xs.length = n := ⟨_, rfl⟩
  rw [hn] at hv hl ⊢
  have HN := Lib.hid hn
  have H32 := Lib.hid h32
  clear hn h32
  have hb0 : Below w.heap.size w (w.alloc (.cells (cellsB (List.replicate 32 0)) 25)) := (Below.refl _ _).alloc (Nat.le_refl _) _
  have hD0 : Row (w.alloc (.cells (cellsB (List.replicate 32 0)) 25)) w.heap.size 25 (cellsB (List.replicate 32 0)) := Row.new w _ _
  have hz0 : w.heap.size + 1 ≤ (w.alloc (.cells (cellsB (List.replicate 32 0)) 25)).heap.size := by simp
  go_enter Tryd.func64, Tryd.ntmps64
  go_wp2
  go_loopw [4, 3] (fun t q wr => ∃ i : Nat, i ≤ n ∧ t = .int .i64 (i : Int) ∧ OwnB wr (w.heap.size + 1) q (pfx xs i) ∧ Row wr w.heap.size 25 (cellsB (List.replicate 32 0)) ∧ Below w.heap.size w wr ∧ w.heap.size + 1 ≤ wr.heap.size) (fun t _ _ => n - (intOf t).toNat)
  case atStart => exact ⟨0, by omega, rfl, OwnB.nil _ _, hD0, hb0, hz0⟩
  case round =>
    clear hb0 hD0 hz0
    obtain ⟨i, hi, rfl, ho, hD, hb, hz⟩ := hrel
    by_cases hlt : i < n
    · obtain ⟨bv, ov, rfl, -, hc1, hc2, hat⟩ := (hv.later hb).at (by omega)
      have hi2 : i < xs.length := by rw [HN.out]; exact hlt
      have hce := hat.elem H32.out i hi2
      have hl32 := all32_getD H32.out i hi2
      have HP := Lib.hid (pfx_succ xs i hi2)
      have HL := Lib.hid (pfx_len xs H32.out i (by rw [HN.out]; exact hi))
      clear hat
      generalize xs.getD i [] = x at *
      have hs3 := range_bytes hce hl32
      have HX := Lib.hid hl32
      clear hl32
      go_wp2_with (at_builtin; refine wpList_append_bytes rfl (.tmp 11) (.tmp 15) rfl (w.heap.size + 1) _ _ (pfx xs i) x _ rfl ho rfl hs3 (by rw [HL.out, HX.out]; omega) (by omega) ?_; intro v6 w6 ho6 hg6)
      have hB6 := hb.grown hg6 hb.size (fun k hk => by have := ho.ownBlock k hk; omega)
      have hD6 := hD.grown hg6 (fun e => by have := ho.ownBlock _ e.symm; omega)
      have hz6 : w.heap.size + 1 ≤ w6.heap.size := by have := hg6.size; omega
      rw [← HP.out] at ho6
      go_roundw
      case rel => exact ⟨i + 1, by omega, by go_num, ho6, hD6, hB6, hz6⟩
      case measure => simp [intOf]; omega
    · rw [pfx_all xs i (by rw [HN.out]; omega)] at ho
      have hm := ho.bytes (fun _ => True) fun _ _ => trivial
      have hml : xs.flatten.length ≤ 8796093022208 := by rw [flat_len xs H32.out, HN.out]; omega
      have hKr := hK.below hb hkl
      have hIr := hI.below hb hil
      have HKO : Hid (taggedOf (ByteArray.mk #[119, 111, 116, 115, 112, 117, 98]).data.toList xs.flatten = keyOf xs) := rfl
      clear ho
      go_wp2_with fail
      refine (rtagged_any _ _ xs.flatten _ wr (by decide) hm hKr hIr hml).mono ?_
      rintro e w5 ⟨rfl, hb5⟩
      rw [HKO.out]
      have hD5 := hD.below hb5 hD.lt
      have hB5 := hb.trans (hb5.mono hb.size)
      have HSZ := Lib.hid (Tryd.sizeD_of _ (keyOf_len xs))
      have HCS : Hid ((cellsB (keyOf xs)).size = (cellsB (List.replicate 32 0)).size) := Lib.hid (by rw [cellsB_size, keyOf_len]; rfl)
      clear hD hb hb5 hm hml
      go_wp2_with (refine wpList_store_row rfl 25 (.tmp 2) (.tmp 18) rfl w.heap.size rfl (cellsB (keyOf xs)) _ 25 rfl hD5 HCS.out HSZ.out (cellsB_one _) ?_; intro w9 hg9 hr9 hz9)
      refine bodyPost_ret (v := .agg (cellsB (keyOf xs))) (results_cell_row rfl _ _ w.heap.size 25 _ (0, 0) _ rfl hr9 Tryd.underD rfl HSZ.out) rfl ⟨rfl, ?_⟩
      exact hB5.grown hg9 hB5.size (fun k hk => by cases hk; exact Nat.le_refl _)
theorem wrap_u64 (n : Nat) (h : n ≤ 1000000) : IntKind.u64.wrap (n : Int) = (n : Int) := IntWalk.u64_in _ (by omega)
set_option maxRecDepth 10000 in
set_option maxHeartbeats 2000000 in
theorem rstart_any (seed : List UInt8) (v : Value) (idx i : Nat) (w : World) (hv : Bytes w v seed (fun _ => True)) (hl : seed.length ≤ 1000) (hidx : idx ≤ 1023) (hi : i < 18) (hK : RKFact w) (hI : RIFact w) :
    Calls Tryd.prog 55 #[v, .int .i64 (idx : Int), .int .i64 (i : Int)] w fun e w' => e = .returned (.agg (cellsB (startOf seed idx i))) ∧ Below w.heap.size w w' := by
  have hkl := hK.lt
  have hil := hI.lt
  have hw1 := wrap_u64 idx (by omega)
  have hw2 := wrap_u64 i (by omega)
  obtain ⟨av, kv, rfl⟩ : ∃ a c, v = .slice a seed.length c := by obtain ⟨a, c, h, _⟩ := hv; exact ⟨a, c, h⟩
  have hb0 : Below w.heap.size w (w.alloc (.cells (cellsB (List.replicate 32 0)) 25)) := (Below.refl _ _).alloc (Nat.le_refl _) _
  have hD0 : Row (w.alloc (.cells (cellsB (List.replicate 32 0)) 25)) w.heap.size 25 (cellsB (List.replicate 32 0)) := Row.new w _ _
  have hz0 : w.heap.size + 1 ≤ (w.alloc (.cells (cellsB (List.replicate 32 0)) 25)).heap.size := by simp
  have hnil : ∀ w : World, Bytes w (.slice none 0 0) [] (fun _ => True) := fun w => ⟨none, 0, rfl, Nat.le_refl _, by decide, .inl ⟨rfl, fun _ => rfl⟩⟩
  have hll1 := leb_len idx
  have hll2 := leb_len i
  go_enter Tryd.func55, Tryd.ntmps55
  go_wp2_with fail
  refine (ruint_any [] _ idx _ _ (hnil _) (by decide) (by omega)).mono ?_
  rintro e w1 ⟨v1, rfl, ho1, hb1⟩
  rw [List.nil_append] at ho1
  have hB1 := hb0.trans (hb1.mono hb0.size)
  have hD1 := hD0.below hb1 hD0.lt
  have hz1 := Nat.le_trans hz0 hb1.size
  have hs1 := ho1.bytes (fun _ => True) fun _ _ => trivial
  clear ho1 hb0 hD0 hz0 hb1
  go_wp2_with fail
  refine (ruint_any (leb idx) _ i _ w1 hs1 (by omega) (by omega)).mono ?_
  rintro e w2 ⟨v2, rfl, ho2, hb2⟩
  have hB2 := hB1.trans (hb2.mono hB1.size)
  have hD2 := hD1.below hb2 hD1.lt
  have hz2 := Nat.le_trans hz1 hb2.size
  have hz12 := hb2.size
  have hs2 : Bytes w2 (.slice av seed.length kv) seed (fun _ => True) := (hv.later hB2).imp fun _ _ => trivial
  have hml2 : (leb idx ++ leb i).length ≤ 4 := by rw [List.length_append]; omega
  clear hB1 hD1 hs1 hb2
  go_wp2_with (at_builtin; refine wpList_append_bytes rfl (.tmp 15) (.tmp 16) rfl w1.heap.size _ _ (leb idx ++ leb i) seed _ rfl ho2 rfl hs2 (by omega) (by omega) ?_; intro v6 w6 ho6 hg6)
  have hB6 := hB2.grown hg6 hB2.size (fun k hk => by have := ho2.ownBlock k hk; omega)
  have hD6 := hD2.grown hg6 (fun e => by have := ho2.ownBlock _ e.symm; omega)
  have hm6 : Bytes w6 v6 (startMsg seed idx i) (fun _ => True) := ho6.bytes _ fun _ _ => trivial
  have hml6 : (startMsg seed idx i).length ≤ 8796093022208 := by unfold startMsg; rw [List.length_append]; omega
  have HST : Hid (taggedOf (ByteArray.mk #[119, 111, 116, 115]).data.toList (startMsg seed idx i) = startOf seed idx i) := rfl
  have hK6 := hK.below hB6 hkl
  have hI6 := hI.below hB6 hil
  clear hB2 hD2 ho2 hs2 hg6 ho6
  refine (rtagged_any _ _ (startMsg seed idx i) _ w6 (by decide) hm6 hK6 hI6 hml6).mono ?_
  rintro e w7 ⟨rfl, hb7⟩
  rw [HST.out]
  have hD7 := hD6.below hb7 hD6.lt
  have hB7 := hB6.trans (hb7.mono hB6.size)
  have HSZ := Lib.hid (Tryd.sizeD_of _ (startOf_len seed idx i))
  have HCS : Hid ((cellsB (startOf seed idx i)).size = (cellsB (List.replicate 32 0)).size) := Lib.hid (by rw [cellsB_size, startOf_len]; rfl)
  clear hm6 hml6 hK6 hI6 hb7 hB6 hD6
  go_wp2_with (refine wpList_store_row rfl 25 (.tmp 6) (.tmp 19) rfl w.heap.size rfl (cellsB (startOf seed idx i)) _ 25 rfl hD7 HCS.out HSZ.out (cellsB_one _) ?_; intro w9 hg9 hr9 hz9)
  refine bodyPost_ret (v := .agg (cellsB (startOf seed idx i))) (results_cell_row rfl _ _ w.heap.size 25 _ (0, 0) _ rfl hr9 Tryd.underD rfl HSZ.out) rfl ⟨rfl, ?_⟩
  exact hB7.grown hg9 hB7.size (fun k hk => by cases hk; exact Nat.le_refl _)
end Go.Proofs.YteogcilnpkaplaaDoor

namespace Go.Proofs.YteogcilnpkaplaaDoor
open Go.RowKit
theorem fold_set : ∀ (l : List Value) (k : Nat) (base : List Value), k + l.length ≤ base.length →
    (l.zipIdx k).foldl (fun (cs : Array Value) x => cs.setIfInBounds x.2 x.1) base.toArray = (base.take k ++ l ++ base.drop (k + l.length)).toArray
  | [], k, base, _ => by simp
  | v :: l, k, base, h => by
    rw [List.length_cons] at h
    rw [List.zipIdx_cons, List.foldl_cons, List.setIfInBounds_toArray, fold_set l (k + 1) (base.set k v) (by rw [List.length_set]; omega)]
    congr 1
    rw [List.take_add_one, List.getElem?_set_self (by omega), List.take_set_of_le (by omega), List.drop_set_of_lt (by omega), List.length_cons]
    simp only [Option.toList, List.append_assoc, List.cons_append, List.nil_append]
    rw [show k + 1 + l.length = k + (l.length + 1) by omega]
theorem run_build_dig (w : World) (y : List UInt8) (hy : y.length = 32) :
    (Instr.buildSlice 29 1 #[(0, .agg (cellsB y))]).run Tryd.prog w = .ok (.slice (some ⟨w.heap.size, 0, none⟩) 1 1) (w.alloc (.cells (cellsB y) 25)) := by
  obtain ⟨i0, hi, hz0, hz1, hz2⟩ := info_parts Tryd.infoD
  have hsz : (cellsB y).size = 32 := by rw [cellsB_size, hy]
  have hm := madeD 32
  have hfill : Instr.fill (fun i => some (i * 32, 32)) (cellsB (List.replicate 32 0)) [(0, .agg (cellsB y))] = some (cellsB y) := by
    have hf := fold_set (y.map B8) 0 ((List.replicate 32 (0 : UInt8)).map B8) (by simp [hy])
    have hzs : (cellsB (List.replicate 32 0)).size = 32 := by rw [cellsB_size]; rfl
    simp only [Instr.fill, Value.cells, hsz, hzs]
    have e : (cellsB y).zipIdx.foldl (fun (cs : Array Value) (x : Value × Nat) => cs.setIfInBounds (0 * 32 + x.2) x.1) (cellsB (List.replicate 32 0)) = cellsB y := by
      have hz : (cellsB y).zipIdx = ((y.map B8).zipIdx 0).toArray := by simp [cellsB]
      rw [hz]
      simp only [Nat.zero_mul, Nat.zero_add, List.foldl_toArray']
      refine hf.trans ?_
      simp [cellsB, hy]
    rw [if_neg (by decide), e]
  generalize (Value.agg (cellsB (List.replicate 32 0))) = z at *
  generalize cellsB (List.replicate 32 0) = c0 at *
  unfold madeCells at hm
  generalize cellsB y = cy at *
  simp [Instr.buildSlice, Sem.run_bind, run_underlying Tryd.underDs, sizeOf, typeInfo, hi, hz1, zeroValue, hz0, hm, hfill, newRow]
theorem wpList_build_dig {w : World} {ops : Array Oper} {rest : List Oper} {o : Oper} {a : Act} {Q : Exit → Act → World → Prop} (hgd : o.guard = none) (x : Operand) (ho : o.op = .buildSlice 29 1 #[(0, x)])
    (y : List UInt8) (hx : a.eval x = .agg (cellsB y)) (hy : y.length = 32)
    (h : ∀ w', Row w' w.heap.size 25 (cellsB y) → Below w.heap.size w w' → w'.heap.size = w.heap.size + 1 → wpList Tryd.prog ops Q rest (a.put o.dst (.slice (some ⟨w.heap.size, 0, none⟩) 1 1)) w') : wpList Tryd.prog ops Q (o :: rest) a w := by
  refine wpList_plain hgd fun K hK => ?_
  unfold Oper.wp execOp
  simp only [ho, List.map_toArray, List.map_cons, List.map_nil, hx, Sem.run_bind, run_build_dig w y hy, Result.andThen_ok]
  exact hK _ _ (h _ (Row.new w _ _) ((Below.refl _ _).alloc (Nat.le_refl _) _) (by simp))
end Go.Proofs.YteogcilnpkaplaaDoor

namespace Go.Proofs.YteogcilnpkaplaaDoor
open Go.RowKit
def dgs (d : List UInt8) (n : Nat) : List Nat := (List.range n).map (dig d)
theorem dgs_succ (d : List UInt8) (n : Nat) : dgs d (n + 1) = dgs d n ++ [dig d n] := by unfold dgs; rw [List.range_succ]; simp
theorem dgs_len (d : List UInt8) (n : Nat) : (dgs d n).length = n := by simp [dgs]
theorem dgs_all (d : List UInt8) : dgs d 16 ++ [digSum d 16 / 16] ++ [digSum d 16 % 16] = nibs d := by
  have e : nibs d = (List.range 16).map (nib d) ++ [nib d 16] ++ [nib d 17] := by
    unfold nibs
    rw [show 18 = 16 + 1 + 1 from rfl, List.range_succ, List.range_succ]; simp
  have e2 : (List.range 16).map (nib d) = dgs d 16 := by
    refine List.map_congr_left fun i hi => ?_
    unfold nib; rw [if_pos (List.mem_range.1 hi)]
  rw [e, e2]; rfl
theorem dig_hi (d : List UInt8) (i : Nat) : by8 d i / 16 = (dig d (2 * i) : Nat) := by
  unfold dig by8 Y
  rw [if_pos (by omega), show 2 * i / 2 = i by omega]; omega
theorem dig_lo (d : List UInt8) (i : Nat) : by8 d i % 16 = (dig d (2 * i + 1) : Nat) := by
  unfold dig by8 Y
  rw [if_neg (by omega), show (2 * i + 1) / 2 = i by omega]; omega
theorem digSum_two (d : List UInt8) (i : Nat) : digSum d (2 * (i + 1)) = digSum d (2 * i) + (15 - dig d (2 * i)) + (15 - dig d (2 * i + 1)) := by
  rw [show 2 * (i + 1) = 2 * i + 1 + 1 by omega, digSum, digSum]
theorem dgs_two (d : List UInt8) (i : Nat) : dgs d (2 * (i + 1)) = dgs d (2 * i) ++ [dig d (2 * i)] ++ [dig d (2 * i + 1)] := by
  rw [show 2 * (i + 1) = 2 * i + 1 + 1 by omega, dgs_succ, dgs_succ]
theorem new_num (w : World) (n : Nat) : (w.alloc (.cells #[.int .i64 (n : Int)] 3)).cell? ⟨w.heap.size, 0, none⟩ = some (.int .i64 (n : Int)) := (Row.new w #[.int .i64 (n : Int)] 3).cell 0
set_option maxRecDepth 10000 in
set_option maxHeartbeats 2000000 in
theorem rnibbles_any (d : List UInt8) (w : World) (hd : d.length = 32) :
    Calls Tryd.prog 53 #[.agg (cellsB d)] w fun e w' => ∃ v, e = .returned v ∧ Nums w' v (nibs d) ∧ Below w.heap.size w w' := by
  have HD := Lib.hid hd
  clear hd
  have hd1 : Row (w.alloc (.cells (cellsB d) 25)) w.heap.size 25 (cellsB d) := Row.new w _ _
  have hb1 : Below w.heap.size w (w.alloc (.cells (cellsB d) 25)) := (Below.refl _ _).alloc (Nat.le_refl _) _
  go_enter Tryd.func53, Tryd.ntmps53
  go_wp2
  go_loopw [5, 3, 4] (fun t v s wr => ∃ i : Nat, i ≤ 8 ∧ t = .int .i64 (i : Int) ∧ s = .int .i64 (digSum d (2 * i) : Nat) ∧ OwnN wr (w.heap.size + 1) v (dgs d (2 * i)) ∧ Below w.heap.size w wr ∧ w.heap.size + 1 ≤ wr.heap.size ∧ Row wr w.heap.size 25 (cellsB d)) (fun t _ _ _ => 8 - (intOf t).toNat)
  case atStart => exact ⟨0, by omega, rfl, rfl, OwnN.nil _ _, hb1, by simp, hd1⟩
  case round =>
    clear hb1 hd1
    obtain ⟨i, hi, rfl, rfl, ho, hb, hz, hdr⟩ := hrel
    have hsl := digSum_le d (2 * i)
    by_cases hlt : i < 8
    · have c1 := hdr.byte i (by rw [HD.out]; omega)
      have hbd := by8_bd d i
      have hv1 := dig_hi d i
      have hv2 := dig_lo d i
      have hl1 := dig_le d (2 * i)
      have hl2 := dig_le d (2 * i + 1)
      have HS := Lib.hid (digSum_two d i)
      go_wp2_with (at_builtin; first | (refine wpList_append_num rfl (.tmp 22) (.tmp 24) rfl (w.heap.size + 1) _ (dgs d (2 * i)) (dig d (2 * i)) _ rfl (ho.alloc _) rfl (new_num _ _) (by rw [dgs_len]; omega) (by simp; omega) ?_; intro v6 w6 ho6 hg6; have hb6 : Below w.heap.size w w6 := (hb.alloc hb.size _).grown hg6 (by simp; omega) (fun k hk => (by have := ho.ownBlock k hk; omega)); have hd6 := (hdr.alloc (.cells #[.int .i64 (dig d (2 * i) : Nat)] 3)).grown hg6 (fun e => by have := ho.ownBlock _ e.symm; omega); have hz6 : w.heap.size + 1 ≤ w6.heap.size := (by have := hg6.size; simp at this; omega); clear hg6) | (refine wpList_append_num rfl (.tmp 26) (.tmp 28) rfl (w.heap.size + 1) _ (dgs d (2 * i) ++ [dig d (2 * i)]) (dig d (2 * i + 1)) _ rfl (ho6.alloc _) rfl (new_num _ _) (by rw [List.length_append, dgs_len]; simp; omega) (by simp; omega) ?_; intro v7 w7 ho7 hg7))
      have hb7 : Below w.heap.size w w7 := (hb6.alloc hb6.size _).grown hg7 (by simp; omega) (fun k hk => by have := ho6.ownBlock k hk; omega)
      have hd7 := (hd6.alloc (.cells #[.int .i64 (dig d (2 * i + 1) : Nat)] 3)).grown hg7 (fun e => by have := ho6.ownBlock _ e.symm; omega)
      have hz7 : w.heap.size + 1 ≤ w7.heap.size := by have := hg7.size; simp at this; omega
      rw [← dgs_two] at ho7
      go_roundw
      case rel => exact ⟨i + 1, by omega, by go_num, (by have := HS.out; go_num), ho7, hb7, hz7, hd7⟩
      case measure => simp [intOf]; omega
    · obtain rfl : i = 8 := by omega
      have HA := Lib.hid (dgs_all d)
      have hs2 := digSum_le d 16
      obtain ⟨q, hq⟩ : ∃ q, digSum d 16 / 16 = q := ⟨_, rfl⟩
      obtain ⟨r, hr⟩ : ∃ r, digSum d 16 % 16 = r := ⟨_, rfl⟩
      rw [hq, hr] at HA
      have hq1 : (digSum d 16 : Int) / 16 = (q : Int) := by omega
      have hr1 : (digSum d 16 : Int) % 16 = (r : Int) := by omega
      have hq2 : q ≤ 15 := by omega
      have hr2 : r ≤ 15 := by omega
      clear hq hr
      go_wp2_with (at_builtin; first | (refine wpList_append_num rfl (.tmp 37) (.tmp 40) rfl (w.heap.size + 1) _ (dgs d (2 * 8)) q _ rfl (ho.alloc _) rfl (new_num _ _) (by rw [dgs_len]; omega) (by simp; omega) ?_; intro v6 w6 ho6 hg6; have hb6 : Below w.heap.size w w6 := (hb.alloc hb.size _).grown hg6 (by simp; omega) (fun k hk => (by have := ho.ownBlock k hk; omega)); have hz6 : w.heap.size + 1 ≤ w6.heap.size := (by have := hg6.size; simp at this; omega); clear hg6) | (refine wpList_append_num rfl (.tmp 42) (.tmp 45) rfl (w.heap.size + 1) _ (dgs d (2 * 8) ++ [q]) r _ rfl (ho6.alloc _) rfl (new_num _ _) (by rw [List.length_append, dgs_len]; simp) (by simp; omega) ?_; intro v7 w7 ho7 hg7))
      have hb7 : Below w.heap.size w w7 := (hb6.alloc hb6.size _).grown hg7 (by simp; omega) (fun k hk => by have := ho6.ownBlock k hk; omega)
      have hn7 := ho7.nums
      rw [HA.out] at hn7
      go_ret
      exact ⟨_, rfl, hn7, hb7⟩
end Go.Proofs.YteogcilnpkaplaaDoor

/- Slices of digests and of ints: how they lie in memory, how an element is read and stored, how one is put behind. No conditions. -/
import Derived.Test.YthhlfcbkggahmaaDoorChain
import Derived.Test.YthhlfcbkggahmaaDoorAppStr
import Derived.Test.YthhlfcbkggahmaaDoorWPure
import Derived.Deep.MidRow
namespace Go.Proofs.YthhlfcbkggahmaaDoor
open Go.RowKit
/-! ### lists of digests -/
def all32 (xs : List (List UInt8)) : Prop := ∀ x ∈ xs, x.length = 32
theorem flat_len : ∀ (xs : List (List UInt8)), all32 xs → xs.flatten.length = 32 * xs.length
  | [], _ => rfl
  | x :: xs, h => by
    rw [List.flatten_cons, List.length_append, flat_len xs (fun y hy => h y (by simp [hy])), h x (by simp), List.length_cons]; omega
theorem flat_drop : ∀ (xs : List (List UInt8)), all32 xs → ∀ i, xs.flatten.drop (32 * i) = (xs.drop i).flatten
  | [], _, i => by simp
  | x :: xs, h, 0 => by simp
  | x :: xs, h, i + 1 => by
    have hx := h x (by simp)
    rw [List.flatten_cons, List.drop_succ_cons, ← flat_drop xs (fun y hy => h y (by simp [hy])) i, List.drop_append, List.drop_eq_nil_of_le (by omega), List.nil_append]
    rw [show 32 * (i + 1) - x.length = 32 * i by omega]
theorem flat_elem {xs : List (List UInt8)} (h : all32 xs) (i : Nat) (hi : i < xs.length) : (xs.flatten.drop (32 * i)).take 32 = xs.getD i [] := by
  rw [flat_drop xs h, List.drop_eq_getElem_cons hi, List.flatten_cons, List.getD_eq_getElem?_getD, List.getElem?_eq_getElem hi]
  have := h xs[i] (List.getElem_mem hi)
  simp [this]
theorem all32_getD {xs : List (List UInt8)} (h : all32 xs) (i : Nat) (hi : i < xs.length) : (xs.getD i []).length = 32 := by
  rw [List.getD_eq_getElem?_getD, List.getElem?_eq_getElem hi]
  exact h _ (List.getElem_mem hi)
theorem all32_tab {f : Nat → List UInt8} (h : ∀ i, i < 18 → (f i).length = 32) : all32 (tab f) := fun x hx => by
  obtain ⟨i, hi, rfl⟩ := List.mem_map.1 hx
  exact h i (List.mem_range.1 hi)
theorem all32_range {f : Nat → List UInt8} {n : Nat} (h : ∀ i, i < n → (f i).length = 32) : all32 ((List.range n).map f) := fun x hx => by
  obtain ⟨i, hi, rfl⟩ := List.mem_map.1 hx
  exact h i (List.mem_range.1 hi)
theorem startOf_len (seed : List UInt8) (idx i : Nat) : (startOf seed idx i).length = 32 := taggedOf_len _ _
theorem keyOf_len (l : List (List UInt8)) : (keyOf l).length = 32 := taggedOf_len _ _
theorem walkOf_32 (seed : List UInt8) (idx : Nat) (n : Nat → Nat) : all32 (walkOf seed idx n) := all32_tab fun _ _ => chainOf_len _ (startOf_len _ _ _) _
theorem walkOf_len (seed : List UInt8) (idx : Nat) (n : Nat → Nat) : (walkOf seed idx n).length = 18 := tab_len _
theorem endsOf_32 (d : List UInt8) (sig : List (List UInt8)) (h : all32 sig) (hl : sig.length = 18) : all32 (endsOf d sig) := all32_tab fun i hi => chainOf_len _ (all32_getD h i (by omega)) _
theorem endsOf_len (d : List UInt8) (sig : List (List UInt8)) : (endsOf d sig).length = 18 := tab_len _
/-- A slice value that reads as these digests. -/
def Digs (w : World) (v : Value) (xs : List (List UInt8)) : Prop :=
  ∃ a cap, v = .slice a xs.length cap ∧ xs.length ≤ cap ∧ cap ≤ 9223372036854775807 ∧ ((xs = [] ∧ (a = none → cap = 0)) ∨ ∃ b off, a = some ⟨b, off, none⟩ ∧ BytesAt w b off xs.flatten)
theorem Digs.nil (w : World) : Digs w (.slice none 0 0) [] := ⟨none, 0, rfl, Nat.le_refl _, by decide, .inl ⟨rfl, fun _ => rfl⟩⟩
theorem Digs.later {w w' : World} {v : Value} {xs : List (List UInt8)} (h : Digs w v xs) (hb : Below w.heap.size w w') : Digs w' v xs := by
  obtain ⟨a, cap, rfl, hc0, hc1, ha | ⟨b, off, rfl, hat⟩⟩ := h
  · exact ⟨_, _, rfl, hc0, hc1, .inl ha⟩
  · exact ⟨_, _, rfl, hc0, hc1, .inr ⟨b, off, rfl, fun i hi => (hb.cell (p := ⟨b, off + i, none⟩) (block_lt_of_cell (hat i hi))).trans (hat i hi)⟩⟩
theorem Digs.form {w : World} {v : Value} {xs : List (List UInt8)} (h : Digs w v xs) : ∃ a cap, v = .slice a xs.length cap := by
  obtain ⟨a, cap, h, _⟩ := h; exact ⟨a, cap, h⟩
/-- Opened, where it is not empty. -/
theorem Digs.at {w : World} {a : Option Addr} {n cap : Nat} {xs : List (List UInt8)} (h : Digs w (.slice a n cap) xs) (hn : 0 < n) : ∃ b off, a = some ⟨b, off, none⟩ ∧ n = xs.length ∧ n ≤ cap ∧ cap ≤ 9223372036854775807 ∧ BytesAt w b off xs.flatten := by
  obtain ⟨a', cap', he, hc0, hc1, ha⟩ := h
  obtain ⟨rfl, rfl, rfl⟩ := Value.slice.inj he
  rcases ha with ⟨rfl, _⟩ | ⟨b, off, rfl, hat⟩
  · simp at hn
  · exact ⟨b, off, rfl, rfl, hc0, hc1, hat⟩
theorem BytesAt.elem {w : World} {b off : Nat} {xs : List (List UInt8)} (h : BytesAt w b off xs.flatten) (h32 : all32 xs) (i : Nat) (hi : i < xs.length) : w.rangeAt b (off + i * 32) ((xs.getD i []).map B8) := fun j v hv => by
  rw [Nat.mul_comm i 32]
  have hj : j < (xs.getD i []).length := by
    have := (List.getElem?_eq_some_iff.1 hv).1
    simpa using this
  have h1 := (BytesAt.take (BytesAt.drop h (32 * i)) 32) j (by rw [flat_elem h32 i hi]; exact hj)
  rw [flat_elem h32 i hi] at h1
  rw [h1, ← hv, List.getElem?_map, List.getElem?_eq_getElem hj]
  unfold by8
  rw [List.getD_eq_getElem?_getD (l := xs.getD i []), List.getElem?_eq_getElem hj]
  rfl
/-- A digest is read out of the middle of a block. -/
theorem wpList_load_dig {w : World} {ops : Array Oper} {rest : List Oper} {o : Oper} {a : Act} {Q : Exit → Act → World → Prop} (hgd : o.guard = none) (x : Operand) (ho : o.op = .load 23 x)
    (b off : Nat) (hx : a.eval x = .pointer (some ⟨b, off, none⟩)) (l : List UInt8) (hl : l.length = 32) (hc : w.rangeAt b off (l.map B8))
    (h : wpList Tryd.prog ops Q rest (a.put o.dst (.agg (cellsB l))) w) : wpList Tryd.prog ops Q (o :: rest) a w :=
  wpList_load_mid hgd 23 x ho b off hx (l.map B8) _ hc Tryd.underD rfl (by rw [List.length_map, hl]; exact Tryd.sizeD) h
theorem still_load_mid {P : Program} {ops : Array Oper} {w : World} {Q : Act → Prop} {a : Act} {o : Oper} {rest : List Oper} (hgd : o.guard = none) (ty : TypeId) (x : Operand) (ho : o.op = .load ty x) (b off : Nat)
    (hx : a.eval x = .pointer (some ⟨b, off, none⟩)) (cs : List Value) (d : TypeDesc) (hc : w.rangeAt b off cs) (hu : P.underlying ty = some d)
    (hd : d.isRow = true) (hi : (P.info? ty).map (·.size) = some cs.length) (h : wpStill P ops w Q rest (a.put o.dst (.agg cs.toArray))) : wpStill P ops w Q (o :: rest) a := by
  unfold wpStill
  have hw : Region.wanted o (yielded ops a.tmps) = true := by unfold Region.wanted; rw [hgd]
  rw [if_pos hw]
  unfold Oper.still execOp
  simp only [ho, hx, Instr.loadAt, Instr.sureAddr, Sem.run_bind, Sem.run_pure, Result.andThen_ok, run_loadVar_mid w b off ty cs d hc hu hd hi]
  rw [Oper.stillUpon_value]
  exact h
/-- Bytes put in the place of others. -/
def splice (l : List UInt8) (o : Nat) (x : List UInt8) : List UInt8 := l.take o ++ x ++ l.drop (o + x.length)
theorem splice_len (l : List UInt8) (o : Nat) (x : List UInt8) (h : o + x.length ≤ l.length) : (splice l o x).length = l.length := by
  unfold splice; rw [List.length_append, List.length_append, List.length_take, List.length_drop]; omega
theorem row_setCells {b : Nat} {t : TypeId} : ∀ (x l : List UInt8) (o : Nat) (w : World), Row w b t (cellsB l) → o + x.length ≤ l.length → Row (w.setCells b o (x.map B8)) b t (cellsB (splice l o x))
  | [], l, o, w, h, _ => by
    unfold splice
    simp only [List.map_nil, World.setCells, List.length_nil, Nat.add_zero, List.append_nil, List.take_append_drop]
    exact h
  | y :: x, l, o, w, h, hle => by
    rw [List.length_cons] at hle
    have h1 := row_setCells x (l.set o y) (o + 1) _ (h.setB o y) (by rw [List.length_set]; omega)
    have e : splice (l.set o y) (o + 1) x = splice l o (y :: x) := by
      unfold splice
      rw [List.take_add_one, List.getElem?_set_self (by omega), List.take_set_of_le (by omega), List.drop_set_of_lt (by omega), List.length_cons]
      simp only [Option.toList, List.append_assoc, List.cons_append, List.nil_append]
      rw [show o + 1 + x.length = o + (x.length + 1) by omega]
    rw [e] at h1
    exact h1
theorem grown_setCells {w : World} {b : Nat} : ∀ (vs : List Value) (o : Nat) (w' : World), w.grownBy w' (some b) → w.grownBy (w'.setCells b o vs) (some b)
  | [], _, _, h => h
  | v :: vs, o, _, h => grown_setCells vs (o + 1) _ (grown_setCell h o v)
theorem size_setCells {b : Nat} : ∀ (vs : List Value) (o : Nat) (w : World), (w.setCells b o vs).heap.size = w.heap.size
  | [], _, _ => rfl
  | v :: vs, o, w => by rw [World.setCells, size_setCells vs]; simp [World.setCell]
theorem Row.there {w : World} {b : Nat} {t : TypeId} {l : List UInt8} (h : Row w b t (cellsB l)) (o n : Nat) (hle : o + n ≤ l.length) : w.there b o n := fun j hj => by
  refine ⟨?_, h.free _⟩
  rw [h.byte (o + j) (by omega)]; rfl
/-- A digest is stored into the middle of a block. -/
theorem wpList_store_dig {w : World} {ops : Array Oper} {rest : List Oper} {o : Oper} {a : Act} {Q : Exit → Act → World → Prop} (hgd : o.guard = none) (x y : Operand) (ho : o.op = .store 23 x y)
    (b off : Nat) (hx : a.eval x = .pointer (some ⟨b, off, none⟩)) (l : List UInt8) (hl : l.length = 32) (hy : a.eval y = .agg (cellsB l)) (cur : List UInt8) (t : TypeId) (hrow : Row w b t (cellsB cur)) (hle : off + 32 ≤ cur.length)
    (h : ∀ w', w.grownBy w' (some b) → Row w' b t (cellsB (splice cur off l)) → w'.heap.size = w.heap.size → wpList Tryd.prog ops Q rest (a.put o.dst undef) w') : wpList Tryd.prog ops Q (o :: rest) a w := by
  refine wpList_store_mid hgd 23 x y ho b off (cellsB l) hx hy ?_ (Tryd.sizeD_of _ hl) (all_oneCell_toArray fun v hv => ?_) ?_
  · rw [cellsB_size, hl]; exact hrow.there off 32 hle
  · exact cellsB_one l v (by simpa [cellsB] using hv)
  · have e : (cellsB l).toList = l.map B8 := by simp [cellsB]
    rw [e]
    exact h _ (grown_setCells _ _ _ (grown_refl _ _)) (row_setCells l cur off w hrow (by omega)) (size_setCells _ _ _)
/-! ### slices of digests of the call's own -/
theorem Tryd.underDs : Tryd.prog.underlying 33 = some (.slice 23) := by kernel_rfl
theorem Tryd.infoD : (Tryd.prog.info? 23).map (fun i => (i.zero, i.size, i.bytes)) = some (some (.agg (cellsB (List.replicate 32 0))), 32, 32) := by kernel_rfl
def OwnD (w : World) (base : Nat) (v : Value) (xs : List (List UInt8)) : Prop := w.ownsRow base 23 32 v xs.length (xs.flatten.map B8)
theorem OwnD.nil (w : World) (base : Nat) : OwnD w base (.slice none 0 0) [] := World.ownsRow_nil w base _ _
theorem OwnD.below {w w' : World} {base : Nat} {v : Value} {xs : List (List UInt8)} (h : OwnD w base v xs) (hb : Below w.heap.size w w') : OwnD w' base v xs := by
  obtain ⟨h1, h2 | ⟨g, cap, cur, rfl, hg, hh, r⟩⟩ := h
  · exact ⟨h1, .inl h2⟩
  · exact ⟨h1, .inr ⟨g, cap, cur, rfl, hg, (hb.block g (Array.getElem?_eq_some_iff.1 hh).1).trans hh, r⟩⟩
theorem OwnD.alloc {w : World} {base : Nat} {v : Value} {xs : List (List UInt8)} (h : OwnD w base v xs) (o : Obj) : OwnD (w.alloc o) base v xs := h.below ((Below.refl _ _).alloc (Nat.le_refl _) _)
theorem OwnD.ownBlock {w : World} {base : Nat} {v : Value} {xs : List (List UInt8)} (h : OwnD w base v xs) (k : Nat) (hk : v.ownBlock = some k) : base ≤ k := by
  obtain ⟨_, ⟨rfl, _⟩ | ⟨g, cap, cur, rfl, hg, _⟩⟩ := h
  · cases hk
  · cases hk; exact hg
theorem OwnD.form {w : World} {base : Nat} {v : Value} {xs : List (List UInt8)} (h : OwnD w base v xs) (hx : 0 < xs.length) : ∃ g cap, v = .slice (some ⟨g, 0, none⟩) xs.length cap ∧ base ≤ g := by
  obtain ⟨_, ⟨_, hn⟩ | ⟨g, cap, cur, rfl, hg, _⟩⟩ := h
  · omega
  · exact ⟨g, cap, rfl, hg⟩
theorem OwnD.digs {w : World} {base : Nat} {v : Value} {xs : List (List UInt8)} (h : OwnD w base v xs) : Digs w v xs := by
  obtain ⟨h1, ⟨rfl, hn⟩ | ⟨g, cap, cur, rfl, hg, hh, hn, hc, hsz, htk⟩⟩ := h
  · have : xs = [] := List.eq_nil_of_length_eq_zero hn
    subst this
    exact Digs.nil w
  · refine ⟨some ⟨g, 0, none⟩, cap, rfl, hn, by unfold maxLen at hc; exact hc, .inr ⟨g, 0, rfl, fun i hi => ?_⟩⟩
    rw [List.length_map] at h1
    rw [Nat.zero_add, cell_of_row w g i cur _ _ hh]
    have h1 : cur.toList[i]? = (xs.flatten.map B8)[i]? := by
      rw [← htk, List.getElem?_take, if_pos (by omega)]
    rw [← Array.getElem?_toList, h1, List.getElem?_map, List.getElem?_eq_getElem hi]
    unfold by8
    rw [List.getD_eq_getElem?_getD, List.getElem?_eq_getElem hi]; rfl
/-- A digest is put behind. -/
theorem wpList_append_dig {w : World} {ops : Array Oper} {rest : List Oper} {o : Oper} {a : Act} {Q : Exit → Act → World → Prop} (hgd : o.guard = none) (s x : Operand)
    (ho : o.op = .call { callee := .builtin .append, args := #[s, x], argTypes := #[33, 33] })
    (base : Nat) (v : Value) (xs : List (List UInt8)) (y : List UInt8) (g : Nat) (t : TypeId) (hs : a.eval s = v) (hown : OwnD w base v xs) (hx : a.eval x = .slice (some ⟨g, 0, none⟩) 1 1) (hrow : Row w g t (cellsB y)) (hy : y.length = 32)
    (hlen : xs.length ≤ 1000000) (hbase : base ≤ w.heap.size)
    (h : ∀ v' w', OwnD w' base v' (xs ++ [y]) → w.grownBy w' v.ownBlock → wpList Tryd.prog ops Q rest (a.put o.dst v') w') : wpList Tryd.prog ops Q (o :: rest) a w := by
  obtain ⟨i0, hi, hz0, hz1, hz2⟩ := info_parts Tryd.infoD
  refine wpList_append_own w hgd s x 33 ho base 23 i0 _ 32 32 Tryd.underDs hi hz0 hz1 hz2 (by rw [Value.cells, cellsB_size]; rfl) (by decide) v xs.length (xs.flatten.map B8) hs hown ⟨g, 0, none⟩ 1 1 (y.map B8) hx (by simp [hy]) ?_ ?_ ?_ ?_ hbase ?_
  · intro j z hz
    have hadd : (⟨g, 0, none⟩ : Addr).add j = ⟨g, j, none⟩ := by unfold Addr.add; split <;> simp_all
    rw [hadd, hrow.cell j]
    simpa [cellsB] using hz
  · intro z hz
    obtain ⟨y, _, rfl⟩ := List.mem_map.1 hz
    rfl
  · unfold maxLen; omega
  · omega
  · intro v' w' h1 h2 _
    exact h v' w' (by unfold OwnD; rw [List.length_append, List.flatten_append, List.map_append]; simpa using h1) h2
/-! ### slices of ints -/
def N64 (n : Nat) : Value := .int .i64 (n : Int)
def cellsN (l : List Nat) : Array Value := (l.map N64).toArray
theorem cellsN_size (l : List Nat) : (cellsN l).size = l.length := by simp [cellsN]
theorem cellsN_get (l : List Nat) (i : Nat) (h : i < l.length) : (cellsN l)[i]? = some (.int .i64 (l.getD i 0 : Nat)) := by
  simp [cellsN, h, N64]
theorem cellsN_set (l : List Nat) (i n : Nat) : (cellsN l).setIfInBounds i (N64 n) = cellsN (l.set i n) := by
  simp [cellsN, List.map_set]
theorem cellsN_one (l : List Nat) : ∀ v ∈ (cellsN l).toList, v.oneCell' = true := fun v hv => by
  obtain ⟨x, _, rfl⟩ := List.mem_map.1 (by simpa [cellsN] using hv : v ∈ l.map N64); rfl
theorem Row.num {w : World} {b : Nat} {t : TypeId} {l : List Nat} (h : Row w b t (cellsN l)) (i : Nat) (hi : i < l.length) : w.cell? ⟨b, i, none⟩ = some (.int .i64 (l.getD i 0 : Nat)) := (h.cell i).trans (cellsN_get l i hi)
theorem Row.setN {w : World} {b : Nat} {t : TypeId} {l : List Nat} (h : Row w b t (cellsN l)) (i n : Nat) : Row (w.setCell ⟨b, i, none⟩ (.int .i64 (n : Int))) b t (cellsN (l.set i n)) := by
  have := h.set i (N64 n); rwa [cellsN_set] at this
/-- A slice value that reads as these numbers. -/
def Nums (w : World) (v : Value) (l : List Nat) : Prop :=
  ∃ a cap, v = .slice a l.length cap ∧ l.length ≤ cap ∧ cap ≤ 9223372036854775807 ∧ ((l = [] ∧ (a = none → cap = 0)) ∨ ∃ b off, a = some ⟨b, off, none⟩ ∧ ∀ i, i < l.length → w.cell? ⟨b, off + i, none⟩ = some (.int .i64 (l.getD i 0 : Nat)))
theorem Nums.later {w w' : World} {v : Value} {l : List Nat} (h : Nums w v l) (hb : Below w.heap.size w w') : Nums w' v l := by
  obtain ⟨a, cap, rfl, hc0, hc1, ha | ⟨b, off, rfl, hat⟩⟩ := h
  · exact ⟨_, _, rfl, hc0, hc1, .inl ha⟩
  · exact ⟨_, _, rfl, hc0, hc1, .inr ⟨b, off, rfl, fun i hi => (hb.cell (p := ⟨b, off + i, none⟩) (block_lt_of_cell (hat i hi))).trans (hat i hi)⟩⟩
theorem Nums.at {w : World} {a : Option Addr} {n cap : Nat} {l : List Nat} (h : Nums w (.slice a n cap) l) (hn : 0 < n) : ∃ b off, a = some ⟨b, off, none⟩ ∧ n = l.length ∧ n ≤ cap ∧ cap ≤ 9223372036854775807 ∧ ∀ i, i < l.length → w.cell? ⟨b, off + i, none⟩ = some (.int .i64 (l.getD i 0 : Nat)) := by
  obtain ⟨a', cap', he, hc0, hc1, ha⟩ := h
  obtain ⟨rfl, rfl, rfl⟩ := Value.slice.inj he
  rcases ha with ⟨rfl, _⟩ | ⟨b, off, rfl, hat⟩
  · simp at hn
  · exact ⟨b, off, rfl, rfl, hc0, hc1, hat⟩
theorem Row.nums {w : World} {b : Nat} {t : TypeId} {l : List Nat} (h : Row w b t (cellsN l)) (n : Nat) (hn : n = l.length) (hl : n ≤ 1000000) : Nums w (.slice (some ⟨b, 0, none⟩) n n) l := by
  subst hn
  exact ⟨_, _, rfl, Nat.le_refl _, by omega, .inr ⟨b, 0, rfl, fun i hi => by rw [Nat.zero_add]; exact h.num i hi⟩⟩
theorem Tryd.underIs : Tryd.prog.underlying 26 = some (.slice 3) := by kernel_rfl
theorem Tryd.infoI : (Tryd.prog.info? 3).map (fun i => (i.zero, i.size, i.bytes)) = some (some (.int .i64 0), 1, 8) := by kernel_rfl
def OwnN (w : World) (base : Nat) (v : Value) (l : List Nat) : Prop := w.ownsRow base 3 1 v l.length (l.map N64)
theorem OwnN.nil (w : World) (base : Nat) : OwnN w base (.slice none 0 0) [] := World.ownsRow_nil w base _ _
theorem OwnN.below {w w' : World} {base : Nat} {v : Value} {xs : List Nat} (h : OwnN w base v xs) (hb : Below w.heap.size w w') : OwnN w' base v xs := by
  obtain ⟨h1, h2 | ⟨g, cap, cur, rfl, hg, hh, r⟩⟩ := h
  · exact ⟨h1, .inl h2⟩
  · exact ⟨h1, .inr ⟨g, cap, cur, rfl, hg, (hb.block g (Array.getElem?_eq_some_iff.1 hh).1).trans hh, r⟩⟩
theorem OwnN.alloc {w : World} {base : Nat} {v : Value} {xs : List Nat} (h : OwnN w base v xs) (o : Obj) : OwnN (w.alloc o) base v xs := h.below ((Below.refl _ _).alloc (Nat.le_refl _) _)
theorem OwnN.ownBlock {w : World} {base : Nat} {v : Value} {xs : List Nat} (h : OwnN w base v xs) (k : Nat) (hk : v.ownBlock = some k) : base ≤ k := by
  obtain ⟨_, ⟨rfl, _⟩ | ⟨g, cap, cur, rfl, hg, _⟩⟩ := h
  · cases hk
  · cases hk; exact hg
theorem OwnN.form {w : World} {base : Nat} {v : Value} {xs : List Nat} (h : OwnN w base v xs) (hx : 0 < xs.length) : ∃ g cap, v = .slice (some ⟨g, 0, none⟩) xs.length cap ∧ base ≤ g := by
  obtain ⟨_, ⟨_, hn⟩ | ⟨g, cap, cur, rfl, hg, _⟩⟩ := h
  · omega
  · exact ⟨g, cap, rfl, hg⟩
theorem OwnN.nums {w : World} {base : Nat} {v : Value} {xs : List Nat} (h : OwnN w base v xs) : Nums w v xs := by
  obtain ⟨h1, ⟨rfl, hn⟩ | ⟨g, cap, cur, rfl, hg, hh, hn, hc, hsz, htk⟩⟩ := h
  · have : xs = [] := List.eq_nil_of_length_eq_zero hn
    subst this
    exact ⟨none, 0, rfl, Nat.le_refl _, by decide, .inl ⟨rfl, fun _ => rfl⟩⟩
  · refine ⟨some ⟨g, 0, none⟩, cap, rfl, hn, by unfold maxLen at hc; exact hc, .inr ⟨g, 0, rfl, fun i hi => ?_⟩⟩
    rw [Nat.zero_add, cell_of_row w g i cur _ _ hh]
    have h1 : cur.toList[i]? = (xs.map N64)[i]? := by
      rw [← htk, List.getElem?_take, if_pos (by omega)]
    rw [← Array.getElem?_toList, h1]
    simp [hi, N64]
/-- A number is put behind. -/
theorem wpList_append_num {w : World} {ops : Array Oper} {rest : List Oper} {o : Oper} {a : Act} {Q : Exit → Act → World → Prop} (hgd : o.guard = none) (s x : Operand)
    (ho : o.op = .call { callee := .builtin .append, args := #[s, x], argTypes := #[26, 26] })
    (base : Nat) (v : Value) (xs : List Nat) (y : Nat) (g : Nat) (hs : a.eval s = v) (hown : OwnN w base v xs) (hx : a.eval x = .slice (some ⟨g, 0, none⟩) 1 1) (hcell : w.cell? ⟨g, 0, none⟩ = some (.int .i64 (y : Int)))
    (hlen : xs.length ≤ 1000000) (hbase : base ≤ w.heap.size)
    (h : ∀ v' w', OwnN w' base v' (xs ++ [y]) → w.grownBy w' v.ownBlock → wpList Tryd.prog ops Q rest (a.put o.dst v') w') : wpList Tryd.prog ops Q (o :: rest) a w := by
  obtain ⟨i0, hi, hz0, hz1, hz2⟩ := info_parts Tryd.infoI
  refine wpList_append_own w hgd s x 26 ho base 3 i0 _ 1 8 Tryd.underIs hi hz0 hz1 hz2 rfl (by decide) v xs.length (xs.map N64) hs hown ⟨g, 0, none⟩ 1 1 [N64 y] hx rfl ?_ ?_ ?_ ?_ hbase ?_
  · intro j z hz
    have hj : j = 0 := by
      have := (List.getElem?_eq_some_iff.1 hz).1
      simpa using this
    subst hj
    have hadd : (⟨g, 0, none⟩ : Addr).add 0 = ⟨g, 0, none⟩ := by unfold Addr.add; split <;> simp_all
    rw [hadd, hcell, ← hz]; rfl
  · intro z hz
    simp at hz; subst hz; rfl
  · unfold maxLen; omega
  · omega
  · intro v' w' h1 h2 _
    exact h v' w' (by unfold OwnN; rw [List.length_append, List.map_append]; exact h1) h2
end Go.Proofs.YthhlfcbkggahmaaDoor

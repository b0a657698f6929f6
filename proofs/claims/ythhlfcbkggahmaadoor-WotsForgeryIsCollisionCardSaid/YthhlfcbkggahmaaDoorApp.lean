/- Appending bytes to a slice of the call's own; slices.Clone over bytes. Conditions: the lengths together stay below 2^46. -/
import Derived.Test.YthhlfcbkggahmaaDoorEach
import Derived.Laws.AppendOwnNone
namespace Go.Proofs.YthhlfcbkggahmaaDoor
open Go.RowKit
theorem Tryd.underB : Tryd.prog.underlying 29 = some (.slice 5) := by kernel_rfl
theorem Tryd.infoB : (Tryd.prog.info? 5).map (fun i => (i.zero, i.size, i.bytes)) = some (some (.int .u8 0), 1, 1) := by kernel_rfl
/-- A slice of the call's own that holds these bytes. -/
def OwnB (w : World) (base : Nat) (v : Value) (xs : List UInt8) : Prop := w.ownsRow base 5 1 v xs.length (xs.map B8)
theorem OwnB.bytes {w : World} {base : Nat} {v : Value} {xs : List UInt8} (h : OwnB w base v xs) (ok : Nat → Prop) (hok : ∀ b, base ≤ b → ok b) : Bytes w v xs ok := by
  obtain ⟨_, ⟨rfl, hn⟩ | ⟨g, cap, cur, rfl, hg, hh, hn, hc, hsz, htk⟩⟩ := h
  · have : xs = [] := List.eq_nil_of_length_eq_zero hn
    subst this
    exact ⟨none, 0, rfl, Nat.le_refl _, by decide, .inl ⟨rfl, fun _ => rfl⟩⟩
  · refine ⟨some ⟨g, 0, none⟩, cap, rfl, hn, by unfold maxLen at hc; exact hc, .inr ⟨g, 0, rfl, hok g hg, fun i hi => ?_⟩⟩
    rw [Nat.zero_add, cell_of_row w g i cur _ _ hh]
    have h1 : cur.toList[i]? = (xs.map B8)[i]? := by
      rw [← htk, List.getElem?_take, if_pos (by omega)]
    rw [← Array.getElem?_toList, h1]
    simp [hi, by8, B8]
theorem OwnB.nil (w : World) (base : Nat) : OwnB w base (.slice none 0 0) [] := World.ownsRow_nil w base _ _
theorem OwnB.below {w w' : World} {base : Nat} {v : Value} {xs : List UInt8} (h : OwnB w base v xs) (hb : ∀ b, base ≤ b → b < w.heap.size → w'.heap[b]? = w.heap[b]?) : OwnB w' base v xs := by
  obtain ⟨h1, h2 | ⟨g, cap, cur, rfl, hg, hh, r⟩⟩ := h
  · exact ⟨h1, .inl h2⟩
  · exact ⟨h1, .inr ⟨g, cap, cur, rfl, hg, (hb g hg (Array.getElem?_eq_some_iff.1 hh).1).trans hh, r⟩⟩
theorem OwnB.ownBlock {w : World} {base : Nat} {v : Value} {xs : List UInt8} (h : OwnB w base v xs) (k : Nat) (hk : v.ownBlock = some k) : base ≤ k := by
  obtain ⟨_, ⟨rfl, _⟩ | ⟨g, cap, cur, rfl, hg, _⟩⟩ := h
  · cases hk
  · cases hk; exact hg
theorem OwnB.alloc {w : World} {base : Nat} {v : Value} {xs : List UInt8} (h : OwnB w base v xs) (o : Obj) : OwnB (w.alloc o) base v xs :=
  h.below fun b _ hb => Below.heap_alloc w o b hb
theorem OwnB.form {w : World} {base : Nat} {v : Value} {xs : List UInt8} (h : OwnB w base v xs) (hx : 0 < xs.length) : ∃ g cap, v = .slice (some ⟨g, 0, none⟩) xs.length cap ∧ base ≤ g := by
  obtain ⟨_, ⟨_, hn⟩ | ⟨g, cap, cur, rfl, hg, _⟩⟩ := h
  · omega
  · exact ⟨g, cap, rfl, hg⟩
theorem one_byte (w : World) (x : UInt8) (c : Int) (hc : c = Y x) : Bytes (w.alloc (.cells #[.int .u8 c] 5)) (.slice (some ⟨w.heap.size, 0, none⟩) 1 1) [x] (fun _ => True) := by
  subst hc
  exact ⟨_, _, rfl, Nat.le_refl _, by decide, .inr ⟨w.heap.size, 0, rfl, trivial, fun i hi => by
    have : i = 0 := by simpa using hi
    subst this
    exact (Row.new w (cellsB [x]) 5).byte 0 (by simp)⟩⟩
theorem wpList_append_bytes {w : World} {ops : Array Oper} {rest : List Oper} {o : Oper} {a : Act} {Q : Exit → Act → World → Prop} (hgd : o.guard = none) (s x : Operand)
    (ho : o.op = .call { callee := .builtin .append, args := #[s, x], argTypes := #[29, 29] })
    (base : Nat) (v u : Value) (xs ys : List UInt8) (ok : Nat → Prop) (hs : a.eval s = v) (hown : OwnB w base v xs) (hx : a.eval x = u) (hsrc : Bytes w u ys ok)
    (hlen : xs.length + ys.length ≤ 70368744177664) (hbase : base ≤ w.heap.size)
    (h : ∀ v' w', OwnB w' base v' (xs ++ ys) → w.grownBy w' v.ownBlock → wpList Tryd.prog ops Q rest (a.put o.dst v') w') : wpList Tryd.prog ops Q (o :: rest) a w := by
  obtain ⟨i0, hi, hz0, hz1, hz2⟩ := info_parts Tryd.infoB
  obtain ⟨ad, cap, rfl, hc0, hc1, ha⟩ := hsrc
  cases ad with
  | none =>
    rcases ha with ⟨rfl, hcap⟩ | ⟨b, off, hb, _⟩
    · obtain rfl := hcap rfl
      exact wpList_append_own_none hgd s x 29 ho base 5 i0 1 Tryd.underB hi v xs.length (xs.map B8) hs hown hx (h v w (by rw [List.append_nil]; exact hown) (grown_refl _ _))
    · cases hb
  | some ad =>
    refine wpList_append_own w hgd s x 29 ho base 5 i0 (.int .u8 0) 1 1 Tryd.underB hi hz0 hz1 hz2 rfl (by decide) v xs.length (xs.map B8) hs hown ad ys.length cap (ys.map B8) hx (by simp) ?_ ?_ ?_ ?_ hbase ?_
    · intro j z hz
      rcases ha with ⟨rfl, _⟩ | ⟨b, off, hb, _, hat⟩
      · simp at hz
      · cases hb
        have hj : j < ys.length := by
          rcases Nat.lt_or_ge j ys.length with h' | h'
          · exact h'
          · rw [List.getElem?_eq_none (by simpa using h')] at hz; cases hz
        have hadd : (⟨b, off, none⟩ : Addr).add j = ⟨b, off + j, none⟩ := by unfold Addr.add; split <;> simp_all
        rw [hadd, hat j hj]
        rw [← hz]; simp [hj, by8, B8]
    · intro z hz
      obtain ⟨y, _, rfl⟩ := List.mem_map.1 hz
      rfl
    · unfold maxLen; omega
    · omega
    · intro v' w' h1 h2 _
      exact h v' w' (by unfold OwnB; rw [List.length_append, List.map_append]; exact h1) h2
set_option maxHeartbeats 400000 in
theorem clone_any (l : List UInt8) (v : Value) (ok : Nat → Prop) (w : World) (hv : Bytes w v l ok) (hl : l.length ≤ 70368744177664) :
    Calls Tryd.prog 45 #[v] w fun e w' => ∃ v', e = .returned v' ∧ OwnB w' w.heap.size v' l ∧ Below w.heap.size w w' := by
  obtain ⟨ad, cap, rfl, hc0, hc1, ha⟩ := hv
  have hnil := fun (a : Option Addr) (n c : Nat) (w : World) => Lib.run_eql_slice_nil (P := Tryd.prog) w 29 5 a n c 0 0 Tryd.underB
  cases ad with
  | none =>
    rcases ha with ⟨rfl, hcap⟩ | ⟨b, off, hb, _⟩
    · obtain rfl := hcap rfl
      go_enter Tryd.func45, Tryd.ntmps45
      go_wp2
      go_ret
      exact ⟨_, rfl, OwnB.nil _ _, Below.refl _ _⟩
    · cases hb
  | some ad =>
    have hsrc : ∀ o : Obj, Bytes (w.alloc o) (.slice (some ad) l.length cap) l ok := fun o => ⟨_, _, rfl, hc0, hc1, by
      rcases ha with ⟨rfl, _⟩ | ⟨b, off, hb, hok, hat⟩
      · exact .inl ⟨rfl, fun h => by cases h⟩
      · exact .inr ⟨b, off, hb, hok, fun i hi => by
          have h := hat i hi
          rw [World.cell?_alloc_lt w o ⟨b, off + i, none⟩ (block_lt_of_cell h)]; exact h⟩⟩
    have hown : OwnB (w.alloc (.cells #[] 5)) w.heap.size (.slice (some ⟨w.heap.size, 0, none⟩) 0 0) [] :=
      ⟨rfl, .inr ⟨w.heap.size, 0, #[], rfl, Nat.le_refl _, heap_alloc_new w _, Nat.le_refl _, by decide, rfl, rfl⟩⟩
    go_enter Tryd.func45, Tryd.ntmps45
    go_wp2_with (at_builtin; refine wpList_append_bytes rfl (.tmp 5) (.tmp 6) rfl w.heap.size _ _ [] l ok rfl hown rfl (hsrc _) (by simp; omega) (by simp) ?_; intro v' w1 h1 h2)
    go_ret
    refine ⟨_, rfl, h1, ((Below.refl _ _).alloc (Nat.le_refl _) _).grown h2 (by simp) (fun k hk => ?_)⟩
    exact hown.ownBlock k hk
end Go.Proofs.YthhlfcbkggahmaaDoor

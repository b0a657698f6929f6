/- Merged: Sum, Tagged, Chain and Pair return what the plain functions say. No conditions of its own beyond those that each law states. -/
import Derived.Test.YteogcilnpkaplaaDoorM2
import Derived.Lib.AppendZeros
import Derived.Lib.ConvBytes
import Derived.StillTailTactics
namespace Go.Proofs.YteogcilnpkaplaaDoor
open Go.RowKit
theorem Bytes.later {w w' : World} {v : Value} {l : List UInt8} {ok : Nat → Prop} (h : Bytes w v l ok) (hb : Below w.heap.size w w') : Bytes w' v l (· < w.heap.size) := by
  obtain ⟨a, cap, rfl, hc0, hc1, ha | ⟨b, off, rfl, _, hat⟩⟩ := h
  · exact ⟨_, _, rfl, hc0, hc1, .inl ha⟩
  · refine ⟨_, _, rfl, hc0, hc1, ?_⟩
    cases l with
    | nil => exact .inl ⟨rfl, fun h => by cases h⟩
    | cons x l =>
      have hlt : b < w.heap.size := block_lt_of_cell (hat 0 (by simp))
      exact .inr ⟨b, off, rfl, hlt, fun i hi => (hb.cell (p := ⟨b, off + i, none⟩) hlt).trans (hat i hi)⟩
theorem Bytes.imp {w : World} {v : Value} {l : List UInt8} {ok ok' : Nat → Prop} (h : Bytes w v l ok) (hi : ∀ b, ok b → ok' b) : Bytes w v l ok' := by
  obtain ⟨a, cap, rfl, hc0, hc1, ha | ⟨b, off, rfl, hok, hat⟩⟩ := h
  · exact ⟨_, _, rfl, hc0, hc1, .inl ha⟩
  · exact ⟨_, _, rfl, hc0, hc1, .inr ⟨b, off, rfl, hi b hok, hat⟩⟩
theorem Tryd.underS : Tryd.prog.underlying 77 = some (.array 8 75) := by kernel_rfl
theorem Tryd.sizeS : (Tryd.prog.info? 77).map (·.size) = some 8 := by kernel_rfl
theorem Tryd.underD : Tryd.prog.underlying 25 = some (.array 32 5) := by kernel_rfl
theorem Tryd.sizeD : (Tryd.prog.info? 25).map (·.size) = some 32 := by kernel_rfl
/-- Byte i of the length in bits. -/
def lenB (n i : Nat) : UInt8 := UInt8.ofNat (n * 8 % 18446744073709551616 / 2 ^ (56 - 8 * i))
theorem lenB_eq (n i : Nat) (hn : n ≤ 35184372088832) : (n : Int) * 8 / 2 ^ (56 - 8 * i) % 256 = Y (lenB n i) := by
  unfold Y lenB
  rw [UInt8.toNat_ofNat', Nat.mod_eq_of_lt (show n * 8 < 18446744073709551616 by omega)]
  have e : (2 : Int) ^ (56 - 8 * i) = ((2 ^ (56 - 8 * i) : Nat) : Int) := by simp
  rw [e, show (n : Int) * 8 = ((n * 8 : Nat) : Int) by omega, show (256 : Int) = ((256 : Nat) : Int) from rfl, ← Int.natCast_ediv, ← Int.natCast_emod]
theorem lenBytes_take (n i : Nat) (hi : i < 8) : (lenBytes n).take (i + 1) = (lenBytes n).take i ++ [lenB n i] := by
  unfold lenBytes
  rw [← List.map_take, ← List.map_take, List.take_range, List.take_range, show min (i + 1) 8 = i + 1 by omega, show min i 8 = i by omega, List.range_succ, List.map_append]
  rfl
theorem lenBytes_all (n i : Nat) (hi : i = 8) : (lenBytes n).take i = lenBytes n := by subst hi; exact List.take_of_length_le (by simp [lenBytes])
theorem dByte_eq (s : St) (i : Nat) (hi : i < 32) : wd s.list (i / 4) / 2 ^ (24 - 8 * (i % 4)) % 256 = Y ((digestOf s).getD i 0) := by
  have H : ∀ x : W32, (V x / 2 ^ 24 % 256 = Y (UInt8.ofNat (x.toNat / 16777216))) ∧ (V x / 2 ^ 16 % 256 = Y (UInt8.ofNat (x.toNat / 65536))) ∧ (V x / 2 ^ 8 % 256 = Y (UInt8.ofNat (x.toNat / 256))) ∧ (V x / 2 ^ 0 % 256 = Y (UInt8.ofNat x.toNat)) := fun x => by
    unfold V Y; simp only [UInt8.toNat_ofNat']; omega
  have h4 : i = 4 * (i / 4) + i % 4 := by omega
  have hq : i / 4 < 8 := by omega
  have hr : i % 4 < 4 := by omega
  generalize i / 4 = q at *
  generalize i % 4 = m at *
  subst h4
  clear hi
  match q, hq, m, hr with
  | 0, _, 0, _ => exact (H s.a).1 | 0, _, 1, _ => exact (H s.a).2.1 | 0, _, 2, _ => exact (H s.a).2.2.1 | 0, _, 3, _ => exact (H s.a).2.2.2
  | 1, _, 0, _ => exact (H s.b).1 | 1, _, 1, _ => exact (H s.b).2.1 | 1, _, 2, _ => exact (H s.b).2.2.1 | 1, _, 3, _ => exact (H s.b).2.2.2
  | 2, _, 0, _ => exact (H s.c).1 | 2, _, 1, _ => exact (H s.c).2.1 | 2, _, 2, _ => exact (H s.c).2.2.1 | 2, _, 3, _ => exact (H s.c).2.2.2
  | 3, _, 0, _ => exact (H s.d).1 | 3, _, 1, _ => exact (H s.d).2.1 | 3, _, 2, _ => exact (H s.d).2.2.1 | 3, _, 3, _ => exact (H s.d).2.2.2
  | 4, _, 0, _ => exact (H s.e).1 | 4, _, 1, _ => exact (H s.e).2.1 | 4, _, 2, _ => exact (H s.e).2.2.1 | 4, _, 3, _ => exact (H s.e).2.2.2
  | 5, _, 0, _ => exact (H s.f).1 | 5, _, 1, _ => exact (H s.f).2.1 | 5, _, 2, _ => exact (H s.f).2.2.1 | 5, _, 3, _ => exact (H s.f).2.2.2
  | 6, _, 0, _ => exact (H s.g).1 | 6, _, 1, _ => exact (H s.g).2.1 | 6, _, 2, _ => exact (H s.g).2.2.1 | 6, _, 3, _ => exact (H s.g).2.2.2
  | 7, _, 0, _ => exact (H s.h).1 | 7, _, 1, _ => exact (H s.h).2.1 | 7, _, 2, _ => exact (H s.h).2.2.1 | 7, _, 3, _ => exact (H s.h).2.2.2
theorem digestOf_len (s : St) : (digestOf s).length = 32 := rfl
/-- The digest's bytes so far. -/
def dRow (s : St) (i : Nat) : List UInt8 := (digestOf s).take i ++ List.replicate (32 - i) 0
theorem dRow_len (s : St) (i : Nat) (h : i ≤ 32) : (dRow s i).length = 32 := by
  unfold dRow; rw [List.length_append, List.length_take, List.length_replicate, digestOf_len]; omega
theorem dRow_set (s : St) (i : Nat) (h : i < 32) : (dRow s i).set i ((digestOf s).getD i 0) = dRow s (i + 1) := by
  unfold dRow
  have hl : ((digestOf s).take i).length = i := by rw [List.length_take, digestOf_len]; omega
  rw [List.set_append_right _ _ (by omega), hl, Nat.sub_self, show 32 - i = (32 - (i + 1)) + 1 by omega, List.replicate_succ, List.set_cons_zero]
  rw [List.take_succ_eq_append_getElem (by rw [digestOf_len]; exact h), List.append_assoc]
  congr 1
  rw [List.getD_eq_getElem?_getD, List.getElem?_eq_getElem (by rw [digestOf_len]; exact h)]; rfl
theorem dRow_all (s : St) (i : Nat) (h : i = 32) : dRow s i = digestOf s := by
  subst h; unfold dRow; rw [List.take_of_length_le (by rw [digestOf_len]; omega)]; simp
theorem blocks_add (m n : Nat) (s : St) (b : List UInt8) : blocks (m + n) s b = blocks n (blocks m s b) (b.drop (64 * m)) := by
  induction m generalizing s b with
  | zero => simp [blocks]
  | succ m ih => rw [show m + 1 + n = (m + n) + 1 by omega, blocks, ih, List.drop_drop, ← blocks, show 64 + 64 * m = 64 * (m + 1) by omega]
theorem blocks_append (m : Nat) (s : St) (a b : List UInt8) (h : a.length = 64 * m) : blocks m s (a ++ b) = blocks m s a := by
  induction m generalizing s a with
  | zero => rfl
  | succ m ih =>
    rw [blocks, blocks, List.take_append_of_le_length (by omega), List.drop_append_of_le_length (by omega), ih]
    rw [List.length_drop]; omega
/-- The whole blocks first, then the rest with its padding. -/
theorem sumOf_parts (l : List UInt8) : sumOf l = digestOf (blocks ((l.drop (64 * (l.length / 64)) ++ padding l.length).length / 64) (blocks (l.length / 64) St.init l) (l.drop (64 * (l.length / 64)) ++ padding l.length)) := by
  unfold sumOf padded
  have hq : 64 * (l.length / 64) ≤ l.length := by omega
  have hlen : (l ++ padding l.length).length = 64 * (l.length / 64) + (l.drop (64 * (l.length / 64)) ++ padding l.length).length := by
    simp only [List.length_append, List.length_drop]; omega
  rw [hlen, Nat.mul_add_div (by omega), blocks_add, List.drop_append_of_le_length hq]
  have : blocks (l.length / 64) St.init (l ++ padding l.length) = blocks (l.length / 64) St.init l := by
    have e : l = l.take (64 * (l.length / 64)) ++ l.drop (64 * (l.length / 64)) := (List.take_append_drop _ _).symm
    have ht : (l.take (64 * (l.length / 64))).length = 64 * (l.length / 64) := by rw [List.length_take]; omega
    have h1 := blocks_append (l.length / 64) St.init (l.take (64 * (l.length / 64))) (l.drop (64 * (l.length / 64)) ++ padding l.length) ht
    have h2 := blocks_append (l.length / 64) St.init (l.take (64 * (l.length / 64))) (l.drop (64 * (l.length / 64))) ht
    rw [← List.append_assoc, List.take_append_drop] at h1
    rw [List.take_append_drop] at h2
    rw [h1, h2]
  rw [this]
set_option maxHeartbeats 400000 in
theorem start_any (w : World) : Calls Tryd.prog 57 #[] w fun e w' => e = .returned (.agg (cellsU St.init.list)) ∧ Below w.heap.size w w' := by
  go_enter Tryd.func57, Tryd.ntmps57
  go_wp2
  exact bodyPost_ret (v := .agg (cellsU St.init.list)) (results_cell_row rfl _ _ w.heap.size 77 (cellsU St.init.list) (0, 0) _ rfl (Row.new w (cellsU St.init.list) 77) Tryd.underS rfl Tryd.sizeS) rfl ⟨rfl, (Below.refl _ _).alloc (Nat.le_refl _) _⟩
/-- What a walk of Sum carries along: what lay ahead of it, the result's row, the state's row. -/
structure SumI (w : World) (bs : Nat) (d : List UInt8) (s : St) (wr : World) : Prop where
  bl : Below w.heap.size w wr
  lo : w.heap.size < bs
  row : Row wr w.heap.size 25 (cellsB d)
  st : Row wr bs 77 (cellsU s.list)
theorem SumI.alloc {w : World} {bs : Nat} {d : List UInt8} {s : St} {wr : World} (h : SumI w bs d s wr) (o : Obj) : SumI w bs d s (wr.alloc o) :=
  ⟨h.bl.alloc h.bl.size o, h.lo, h.row.alloc o, h.st.alloc o⟩
theorem SumI.grown {w : World} {bs : Nat} {d : List UInt8} {s : St} {wr w' : World} (h : SumI w bs d s wr) {r : Option Nat} (hg : wr.grownBy w' r) (hr : ∀ k, r = some k → bs < k) : SumI w bs d s w' :=
  ⟨h.bl.grown hg h.bl.size (fun k hk => by have := hr k hk; have := h.lo; omega), h.lo, h.row.grown hg (fun e => by have := hr _ e.symm; have := h.lo; omega), h.st.grown hg (fun e => by have := hr _ e.symm; omega)⟩
theorem SumI.state {w : World} {bs : Nat} {d : List UInt8} {s s' : St} {wr w' : World} (h : SumI w bs d s wr) (hg : wr.grownBy w' (some bs)) (hs : Row w' bs 77 (cellsU s'.list)) : SumI w bs d s' w' :=
  ⟨h.bl.grown hg h.bl.size (fun k hk => by cases hk; have := h.lo; omega), h.lo, h.row.grown hg (fun e => by cases e; have := h.lo; omega), hs⟩
theorem SumI.below {w : World} {bs : Nat} {d : List UInt8} {s : St} {wr w' : World} (h : SumI w bs d s wr) (hb : Below wr.heap.size wr w') : SumI w bs d s w' :=
  ⟨h.bl.trans (hb.mono h.bl.size), h.lo, h.row.below hb h.row.lt, h.st.below hb h.st.lt⟩
theorem SumI.setD {w : World} {bs : Nat} {d : List UInt8} {s : St} {wr : World} (h : SumI w bs d s wr) (i : Nat) (x : UInt8) : SumI w bs (d.set i x) s (wr.setCell ⟨w.heap.size, i, none⟩ (.int .u8 (Y x))) :=
  ⟨h.bl.setCell (Nat.le_refl _) _, h.lo, h.row.setB i x, h.st.other _ _ (by have := h.lo; simp; omega)⟩
theorem SumI.kf {w : World} {bs : Nat} {d : List UInt8} {s : St} {wr : World} (h : SumI w bs d s wr) (hK : KFact w) : KFact wr := hK.below h.bl hK.lt
set_option maxRecDepth 10000 in
set_option maxHeartbeats 1000000 in
theorem sum_any (l : List UInt8) (v : Value) (ok : Nat → Prop) (w : World) (hv : Bytes w v l ok) (hK : KFact w) (hl : l.length ≤ 35184372088832) :
    Calls Tryd.prog 43 #[v] w fun e w' => e = .returned (.agg (cellsB (sumOf l))) ∧ Below w.heap.size w w' := by
  obtain ⟨av, cv, rfl⟩ : ∃ a c, v = .slice a l.length c := by obtain ⟨a, c, h, _⟩ := hv; exact ⟨a, c, h⟩
  go_enter Tryd.func43, Tryd.ntmps43
  go_wp2_with fail
  refine (start_any _).mono ?_
  rintro e w1 ⟨rfl, hb1⟩
  have hD1 := (Row.new w (cellsB (List.replicate 32 0)) 25).below hb1 (by simp)
  have hB1 : Below w.heap.size w w1 := ((Below.refl _ _).alloc (Nat.le_refl _) _).trans (hb1.mono (by simp))
  have hz1 : w.heap.size < w1.heap.size := hD1.lt
  clear hb1
  go_wp2_with (refine wpList_store_row rfl 77 (.tmp 3) (.tmp 8) rfl w1.heap.size rfl (cellsU St.init.list) _ 77 rfl (Row.new _ _ _) rfl Tryd.sizeS (cellsU_one _) ?_; intro w2 hg2 hr2 hz2)
  obtain ⟨bs, ebs⟩ : ∃ bs, w1.heap.size = bs := ⟨_, rfl⟩
  have hI2 : SumI w bs (List.replicate 32 0) St.init w2 := by
    rw [ebs] at hg2 hr2
    exact ⟨(hB1.alloc hB1.size _).grown hg2 (by simp; omega) (fun k hk => by cases hk; omega), by omega, (hD1.alloc _).grown hg2 (fun e => by cases e; omega), hr2⟩
  rw [ebs] at hz1 ⊢
  clear hg2 hr2 hz2 hD1 hB1 ebs
  have hKlt := hK.lt
  refine (each_any St.init l (.slice av l.length cv) bs w2 ((hv.later hI2.bl).imp fun b hb => by omega) hI2.st (hI2.kf hK) (by omega)).mono ?_
  rintro e w3 ⟨v3, rfl, hv3, hg3, hs3⟩
  have hI3 := hI2.state hg3 hs3
  clear hg3 hs3 hI2
  obtain ⟨r, er⟩ : ∃ r, l.drop (64 * (l.length / 64)) = r := ⟨_, rfl⟩
  have hrl : Hid (r.length = l.length % 64) := by show r.length = _; rw [← er, List.length_drop]; omega
  have hr63 : r.length ≤ 63 := by have := hrl.out; omega
  rw [er] at hv3
  have ER := Lib.hid er
  clear er
  go_wp2_with fail
  refine (clone_any r v3 _ w3 hv3 (by omega)).mono ?_
  rintro e w4 ⟨v4, rfl, ho4, hb4⟩
  have hI4 := hI3.below hb4
  have hbase : bs < w3.heap.size := hI3.st.lt
  obtain ⟨base, ebase⟩ : ∃ base, w3.heap.size = base := ⟨_, rfl⟩
  have hb4s : base ≤ w4.heap.size := by rw [← ebase]; exact hb4.size
  rw [ebase] at ho4 hbase
  clear hb4 hI3 hv3 ebase
  go_wp2_with (at_builtin; refine wpList_append_bytes rfl (.tmp 14) (.tmp 15) rfl base _ _ r [128] (fun _ => True) rfl (ho4.alloc _) rfl (one_byte _ 128 _ rfl) (by simp; omega) (by simp; omega) ?_; intro v5 w5 ho5 hg5)
  have hI5 := (hI4.alloc (.cells #[.int .u8 128] 5)).grown hg5 (fun k hk => by have := ho4.ownBlock k hk; omega)
  have hb5 : base ≤ w5.heap.size := by have := hg5.size; simp at this; omega
  obtain ⟨g5, c5, ev5, _⟩ := ho5.form (by simp)
  obtain ⟨n5, en5⟩ : ∃ n, (r ++ [128]).length = n := ⟨_, rfl⟩
  rw [en5] at ev5
  subst ev5
  have hn5 : Hid (n5 = r.length + 1 + 0) := by show n5 = _; rw [← en5]; simp
  clear en5
  clear hI4 ho4 hg5 hb4s
  obtain ⟨s3, es3⟩ : ∃ s3, blocks (l.length / 64) St.init l = s3 := ⟨_, rfl⟩
  rw [es3] at hI5
  have ES := Lib.hid es3
  clear es3
  have hpz : padZeros l.length ≤ 63 := by unfold padZeros; omega
  go_loopw [5] (fun v wr => ∃ z g c n : Nat, Hid (n = r.length + 1 + z) ∧ z ≤ padZeros l.length ∧ v = .slice (some ⟨g, 0, none⟩) n c ∧ OwnB wr base v (r ++ [128] ++ List.replicate z 0) ∧ SumI w bs (List.replicate 32 0) s3 wr ∧ base ≤ wr.heap.size) (fun v _ => 200 - lenOf v)
  case atStart => exact ⟨0, g5, c5, n5, hn5, by omega, rfl, by simpa using ho5, hI5, hb5⟩
  case round =>
    clear ho5 hI5 hb5
    obtain ⟨z, g, c, n, hn, hz, rfl, ho, hI, hb⟩ := hrel
    have hn2 : n ≤ 128 := by have := hn.out; omega
    by_cases hlt : z < padZeros l.length
    · have ht : ¬ (n : Int) % 64 = 56 := by have := hn.out; have := hrl.out; unfold padZeros at hlt; omega
      go_wp2_with (at_builtin; refine wpList_append_bytes rfl (.tmp 21) (.tmp 22) rfl base _ _ (r ++ [128] ++ List.replicate z 0) [0] (fun _ => True) rfl (ho.alloc _) rfl (one_byte _ 0 _ rfl) (by simp; omega) (by simp; omega) ?_; intro v6 w6 ho6 hg6)
      have hI6 := (hI.alloc (.cells #[.int .u8 0] 5)).grown hg6 (fun k hk => by have := ho.ownBlock k hk; omega)
      have hb6 : base ≤ w6.heap.size := by have := hg6.size; simp at this; omega
      rw [List.append_assoc _ _ [0], show List.replicate z (0 : UInt8) ++ [0] = List.replicate (z + 1) 0 by rw [List.replicate_succ']] at ho6
      obtain ⟨g6, c6, ev6, _⟩ := ho6.form (by simp; omega)
      obtain ⟨n6, en6⟩ : ∃ n, (r ++ [128] ++ List.replicate (z + 1) 0).length = n := ⟨_, rfl⟩
      rw [en6] at ev6
      subst ev6
      have hn6 : Hid (n6 = r.length + 1 + (z + 1)) := by
        show n6 = _
        simp only [List.length_append, List.length_cons, List.length_nil, List.length_replicate] at en6
        omega
      go_roundw
      case rel => exact ⟨z + 1, g6, c6, n6, hn6, by omega, rfl, ho6, hI6, hb6⟩
      case measure => have := hn.out; have := hn6.out; simp only [lenOf]; omega
    · have hze : z = padZeros l.length := by omega
      have ht : (n : Int) % 64 = 56 := by have := hn.out; have := hrl.out; unfold padZeros at hze; omega
      obtain ⟨t0, et0⟩ : ∃ t0, r ++ [128] ++ List.replicate z (0 : UInt8) = t0 := ⟨_, rfl⟩
      have ht0 : Hid (t0 = r ++ [128] ++ List.replicate (padZeros l.length) 0) := by show t0 = _; rw [← et0, hze]
      rw [et0] at ho
      have hnn : Hid (n = t0.length) := by show n = _; rw [hn.out, ← et0]; simp; omega
      clear et0 hze
      go_wp2
      clear ht
      go_loopw [24, 5] (fun t v wr => ∃ i g c n : Nat, i ≤ 8 ∧ t = .int .i64 (i : Int) ∧ Hid (n = t0.length + i) ∧ v = .slice (some ⟨g, 0, none⟩) n c ∧ OwnB wr base v (t0 ++ (lenBytes l.length).take i) ∧ SumI w bs (List.replicate 32 0) s3 wr ∧ base ≤ wr.heap.size) (fun t _ _ => 8 - (intOf t).toNat)
      case atStart => exact ⟨0, g, c, n, by omega, rfl, hnn, rfl, by simpa using ho, hI, hb⟩
      case round =>
        clear ho hI hb
        obtain ⟨i, g', c', n', hi, rfl, hn', rfl, ho, hI, hb⟩ := hrel
        by_cases hlt8 : i < 8
        · have hE := lenB_eq l.length i hl
          have hn2' : n' ≤ 200 := by have := hn'.out; have := hnn.out; omega
          have htl : t0.length ≤ 128 := by have := hnn.out; omega
          have hi8 : i ≤ 8 := hi
          go_wp2_with (at_builtin; refine wpList_append_bytes rfl (.tmp 27) (.tmp 37) rfl base _ _ (t0 ++ (lenBytes l.length).take i) [lenB l.length i] (fun _ => True) rfl (ho.alloc _) rfl (one_byte _ _ _ rfl) (by simp [lenBytes]; omega) (by simp; omega) ?_; intro v6 w6 ho6 hg6)
          have hI6 := (hI.alloc (.cells #[.int .u8 (Y (lenB l.length i))] 5)).grown hg6 (fun k hk => by have := ho.ownBlock k hk; omega)
          have hb6 : base ≤ w6.heap.size := by have := hg6.size; simp at this; omega
          rw [List.append_assoc, ← lenBytes_take _ _ hlt8] at ho6
          obtain ⟨g6, c6, ev6, _⟩ := ho6.form (by rw [lenBytes_take _ _ hlt8]; simp; omega)
          obtain ⟨n6, en6⟩ : ∃ n, (t0 ++ (lenBytes l.length).take (i + 1)).length = n := ⟨_, rfl⟩
          rw [en6] at ev6
          subst ev6
          have hn6 : Hid (n6 = t0.length + (i + 1)) := by
            show n6 = _
            rw [← en6, List.length_append, List.length_take, show (lenBytes l.length).length = 8 from rfl]; omega
          go_roundw
          case rel => exact ⟨i + 1, g6, c6, n6, by omega, by go_num, hn6, rfl, ho6, hI6, hb6⟩
          case measure => simp [intOf]; omega
        · rw [lenBytes_all _ _ (show i = 8 by omega)] at ho
          obtain ⟨t1, et1⟩ : ∃ t1, t0 ++ lenBytes l.length = t1 := ⟨_, rfl⟩
          have ht1 : Hid (t1 = r ++ padding l.length) := by show t1 = _; rw [← et1, ht0.out]; unfold padding; simp only [List.append_assoc]
          rw [et1] at ho
          have hbt := ho.bytes (fun b => b ≠ bs) (fun b hb => by omega)
          have hKr := hI.kf hK
          clear et1
          go_wp2_with fail
          refine (each_any s3 t1 _ bs _ hbt hI.st hKr (by omega)).mono ?_
          rintro e w7 ⟨v7, rfl, _, hg7, hs7⟩
          have hI7 := hI.state hg7 hs7
          clear hg7 hs7 hI ho hbt hKr
          obtain ⟨s4, es4⟩ : ∃ s4, blocks (t1.length / 64) s3 t1 = s4 := ⟨_, rfl⟩
          rw [es4] at hI7
          have hsum : Hid (sumOf l = digestOf s4) := by
            show sumOf l = _
            rw [sumOf_parts, ES.out, ER.out, ← ht1.out, es4]
          clear es4
          go_wp2
          go_loopw [43] (fun t wr => ∃ i : Nat, i ≤ 32 ∧ t = .int .i64 (i : Int) ∧ SumI w bs (dRow s4 i) s4 wr) (fun t _ => 32 - (intOf t).toNat)
          case atStart => exact ⟨0, by omega, rfl, hI7⟩
          case round =>
            clear hI7
            obtain ⟨i, hi, rfl, hI⟩ := hrel
            by_cases hlt32 : i < 32
            · have c1 := hI.st.word (i / 4) (show i / 4 < 8 by omega)
              have c2 := hI.row.byte i (by rw [dRow_len _ _ hi]; exact hlt32)
              have f2 := hI.row.free i
              have hE := dByte_eq s4 i hlt32
              have hwd := wd_bd s4.list (i / 4)
              go_wp2
              have hset := hI.setD i ((digestOf s4).getD i 0)
              rw [dRow_set _ _ hlt32] at hset
              go_roundw
              case rel => exact ⟨i + 1, by omega, by go_num, by simpa using hset⟩
              case measure => simp [intOf]; omega
            · rw [dRow_all _ _ (show i = 32 by omega)] at hI
              have hdl : (cellsB (digestOf s4)).size = 32 := cellsB_size _
              have hszd := Tryd.sizeD
              rw [← hdl] at hszd
              have HSZ := Lib.hid hszd
              clear hszd hdl
              go_wp2_with (first | (refine wpList_load_row rfl 25 (.tmp 2) rfl w.heap.size rfl 25 (cellsB (digestOf s4)) (0, 0) _ hI.row Tryd.underD rfl HSZ.out ?_) | (refine wpList_store_row rfl 25 (.tmp 2) (.tmp 59) rfl w.heap.size rfl (cellsB (digestOf s4)) _ 25 rfl hI.row rfl HSZ.out (cellsB_one _) ?_; intro w9 hg9 hr9 hz9))
              refine bodyPost_ret (v := .agg (cellsB (digestOf s4))) (results_cell_row rfl _ _ w.heap.size 25 (cellsB (digestOf s4)) (0, 0) _ rfl hr9 Tryd.underD rfl HSZ.out) rfl ⟨by rw [hsum.out], ?_⟩
              exact hI.bl.grown hg9 hI.bl.size (fun k hk => by cases hk; exact Nat.le_refl _)
end Go.Proofs.YteogcilnpkaplaaDoor

namespace Go.Proofs.YteogcilnpkaplaaDoor
open Go.RowKit
theorem Tryd.underI : Tryd.prog.underlying 3 = some (.int .i64) := by kernel_rfl
set_option maxHeartbeats 400000 in
theorem grow_any (n : Nat) (w : World) (hn : n ≤ 70368744177664) :
    Calls Tryd.prog 61 #[.slice none 0 0, .int .i64 (n : Int)] w fun e w' => ∃ v', e = .returned v' ∧ OwnB w' w.heap.size v' [] ∧ Below w.heap.size w w' := by
  by_cases h0 : 0 < n
  · obtain ⟨i0, hi, hz0, hz1, hz2⟩ := info_parts Tryd.infoB
    have hrun := fun w => Lib.run_append_nil_zeros (P := Tryd.prog) w 22 3 22 5 i0 (.int .u8 0) .i64 .i64 Tryd.underB Tryd.underI hi hz0 n h0 (by omega) (by omega) (by rw [hz2]; omega)
    go_enter Tryd.func61, Tryd.ntmps61
    go_wp2_with (refine Lib.wpList_append_run _ rfl (.tmp 20) (.tmp 21) 22 3 rfl _ _ rfl rfl _ _ (hrun _) ?_)
    go_ret
    refine ⟨_, rfl, ⟨rfl, .inr ⟨w.heap.size, grownCap w n 0 5, _, rfl, Nat.le_refl _, heap_alloc_new w _, Nat.zero_le _, grownCap_le_maxLen w n 0 _ (by unfold maxLen; omega), ?_, rfl⟩⟩, ((Below.refl _ _).alloc (Nat.le_refl _) _).drew⟩
    have hge := grownCap_ge w n 0 5
    rw [Array.size_append, size_zeroCells, size_zeroCells]
    simp; omega
  · obtain rfl : n = 0 := by omega
    go_enter Tryd.func61, Tryd.ntmps61
    go_wp2
    go_ret
    exact ⟨_, rfl, OwnB.nil _ _, Below.refl _ _⟩
def sumLen (ps : List (Value × List UInt8)) : Nat := (ps.map fun p => p.2.length).sum
def flatB (ps : List (Value × List UInt8)) : List UInt8 := ps.flatMap fun p => p.2
theorem flatB_len (ps : List (Value × List UInt8)) : (flatB ps).length = sumLen ps := by
  induction ps with
  | nil => rfl
  | cons p ps ih => simp only [flatB, sumLen, List.flatMap_cons, List.length_append, List.map_cons, List.sum_cons] at *; omega
theorem take_one {α : Type} (l : List α) (k : Nat) (p : α) (h : l[k]? = some p) : l.take (k + 1) = l.take k ++ [p] := by
  rw [List.take_add_one, h]; rfl
theorem sumLen_snoc (l : List (Value × List UInt8)) (p : Value × List UInt8) : sumLen (l ++ [p]) = sumLen l + p.2.length := by
  unfold sumLen; simp
theorem flatB_snoc (l : List (Value × List UInt8)) (p : Value × List UInt8) : flatB (l ++ [p]) = flatB l ++ p.2 := by
  unfold flatB; simp
theorem sumLen_take (l : List (Value × List UInt8)) (k : Nat) : sumLen (l.take k) ≤ sumLen l := by
  have h := congrArg sumLen (List.take_append_drop k l)
  have : sumLen (l.take k ++ l.drop k) = sumLen (l.take k) + sumLen (l.drop k) := by unfold sumLen; rw [List.map_append, List.sum_append]
  omega
set_option maxHeartbeats 1000000 in
theorem concat_any (ps : List (Value × List UInt8)) (bp m : Nat) (w : World) (hm : m = ps.length) (hm1 : m ≤ 1000) (hrow : Row w bp 22 (ps.map (·.1)).toArray) (hall : ∀ p ∈ ps, Bytes w p.1 p.2 (fun _ => True)) (hlen : sumLen ps ≤ 35184372088832) :
    Calls Tryd.prog 44 #[.slice (some ⟨bp, 0, none⟩) m m] w fun e w' => ∃ v', e = .returned v' ∧ OwnB w' w.heap.size v' (flatB ps) ∧ Below w.heap.size w w' := by
  have HM := Lib.hid hm
  clear hm
  have hget : ∀ k, k < m → ∃ p a c, ps[k]? = some p ∧ p ∈ ps ∧ w.cell? ⟨bp, k, none⟩ = some (.slice a p.2.length c) ∧ p.1 = .slice a p.2.length c := fun k hk => by
    have hk' : k < ps.length := by rw [← HM.out]; exact hk
    have hmem : ps[k] ∈ ps := List.getElem_mem hk'
    obtain ⟨a, c, e, _⟩ := hall _ hmem
    refine ⟨ps[k], a, c, List.getElem?_eq_getElem hk', hmem, ?_, e⟩
    rw [hrow.cell k, ← e]; simp [hk']
  go_enter Tryd.func44, Tryd.ntmps44
  go_wp2
  go_loop [3, 5, 11] (fun z _ t => ∃ k x : Nat, k ≤ m ∧ t = .int .i64 (k : Int) ∧ Hid (x = sumLen (ps.take k)) ∧ z = .int .i64 (x : Int)) (fun _ _ t => m - (intOf t).toNat)
  case atStart => exact ⟨0, 0, by omega, rfl, rfl, rfl⟩
  case round =>
    obtain ⟨k, x, hk, rfl, hx, rfl⟩ := hrel
    have hxb : x ≤ 35184372088832 := by have := hx.out; have := sumLen_take ps k; omega
    by_cases hlt : k < m
    · obtain ⟨p, a, c, hp, hpm, hcell, _⟩ := hget k hlt
      have HP := Lib.hid hp
      have hx2 : Hid (x + p.2.length = sumLen (ps.take (k + 1))) := by show _ = _; rw [take_one _ _ _ hp, sumLen_snoc, hx.out]
      have hxb2 : x + p.2.length ≤ 35184372088832 := by have := hx2.out; have := sumLen_take ps (k + 1); omega
      clear hp hpm
      go_wp2
      go_round
      case rel => exact ⟨k + 1, x + p.2.length, by omega, by go_num, hx2, by go_num⟩
      case measure => simp [intOf]; omega
    · have hkm : k = ps.length := by have := HM.out; omega
      clear hx
      go_wp2_with fail
      refine (grow_any x w (by omega)).mono ?_
      rintro e w1 ⟨v1, rfl, ho1, hb1⟩
      go_wp2
      go_loopw [6, 8, 27] (fun v _ t wr => ∃ k : Nat, k ≤ m ∧ t = .int .i64 (k : Int) ∧ OwnB wr w.heap.size v (flatB (ps.take k)) ∧ Below w.heap.size w wr) (fun _ _ t _ => m - (intOf t).toNat)
      case atStart => exact ⟨0, by omega, rfl, ho1, hb1⟩
      case round =>
        clear ho1 hb1 hkm hlt hxb hk
        obtain ⟨j, hj, rfl, ho, hb⟩ := hrel
        by_cases hlt : j < m
        · obtain ⟨p, a, c, hp, hpm, hcell, hpe⟩ := hget j hlt
          have hcell' : wr.cell? ⟨bp, j, none⟩ = some (.slice a p.2.length c) := (hb.cell (p := ⟨bp, j, none⟩) hrow.lt).trans hcell
          have hsrc := (hall p hpm).later hb
          rw [hpe] at hsrc
          have hF : Hid (flatB (ps.take (j + 1)) = flatB (ps.take j) ++ p.2) := by show _ = _; rw [take_one _ _ _ hp, flatB_snoc]
          have hl2 : (flatB (ps.take j)).length + p.2.length ≤ 70368744177664 := by
            rw [flatB_len, ← sumLen_snoc, ← take_one _ _ _ hp]; have := sumLen_take ps (j + 1); omega
          have HL2 := Lib.hid hl2
          clear hp hpm hpe hcell hl2
          go_wp2_with (at_builtin; refine wpList_append_bytes rfl (.tmp 31) (.tmp 32) rfl w.heap.size _ _ (flatB (ps.take j)) p.2 _ rfl ho rfl hsrc HL2.out hb.size ?_; intro v6 w6 ho6 hg6)
          rw [← hF.out] at ho6
          go_roundw
          case rel => exact ⟨j + 1, by omega, by go_num, ho6, hb.grown hg6 hb.size (fun k hk => ho.ownBlock k hk)⟩
          case measure => simp [intOf]; omega
        · have hjm : Hid (ps.take j = ps) := by show _ = _; exact List.take_of_length_le (by have := HM.out; omega)
          go_wp2
          go_ret
          exact ⟨_, rfl, by rw [hjm.out] at ho; exact ho, hb⟩
end Go.Proofs.YteogcilnpkaplaaDoor

namespace Go.Proofs.YteogcilnpkaplaaDoor
open Go.RowKit
theorem Tryd.underStr : Tryd.prog.underlying 9 = some .string := by kernel_rfl
theorem Tryd.underU8 : Tryd.prog.underlying 5 = some (.int .u8) := by kernel_rfl
/-- A string is made into bytes. -/
theorem wpList_conv_string {w : World} {ops : Array Oper} {rest : List Oper} {o : Oper} {a : Act} {Q : Exit → Act → World → Prop} (hgd : o.guard = none) (x : Operand)
    (ho : o.op = .convert 9 22 x) (s : ByteArray) (hx : a.eval x = .string s) (hs : s.size ≤ 9223372036854775807)
    (h : ∀ v' w', Bytes w' v' s.data.toList (fun _ => True) → Below w.heap.size w w' → w'.heap.size = w.heap.size + 1 → wpList Tryd.prog ops Q rest (a.put o.dst v') w') : wpList Tryd.prog ops Q (o :: rest) a w := by
  refine wpList_plain hgd fun K hK => ?_
  have hr := Lib.run_convert_string_bytes (P := Tryd.prog) w 9 22 5 s Tryd.underStr Tryd.underB Tryd.underU8
  unfold Oper.wp execOp
  simp only [ho, hx, Sem.run_bind, hr, Result.andThen_ok]
  have hsl : s.data.toList.length = s.size := rfl
  refine hK _ _ (h _ _ ⟨_, _, by rw [hsl], by rw [hsl]; exact grownCap_ge w s.size 0 _, by have := grownCap_le_maxLen w s.size 0 5 (by unfold maxLen; exact hs); unfold maxLen at this; exact this, .inr ⟨w.heap.size, 0, rfl, trivial, fun i hi => ?_⟩⟩ ?_ (Lib.bytesWorld_size w _ s))
  · rw [Nat.zero_add, Lib.bytesWorld_cell w _ s i (by rw [← hsl]; exact hi)]; rfl
  · exact ⟨rfl, rfl, rfl, by rw [Lib.bytesWorld_size]; omega, fun k hk => Lib.bytesWorld_at_old w _ s k hk⟩
theorem sumOf_len (l : List UInt8) : (sumOf l).length = 32 := digestOf_len _
theorem parts3 {w w2 : World} {x : UInt8} {c : Int} {v1 v2 v3 : Value} {t b : List UInt8} {ok : Nat → Prop} (hc : c = Y x) (hv1 : v1 = .slice (some ⟨w.heap.size, 0, none⟩) 1 1) (hv : Bytes w v3 b ok)
    (hb2 : Below (w.alloc (.cells #[.int .u8 c] 5)).heap.size (w.alloc (.cells #[.int .u8 c] 5)) w2) (hv2 : Bytes w2 v2 t (fun _ => True)) (o : Obj) :
    ∀ p ∈ [(v1, [x]), (v2, t), (v3, b)], Bytes (w2.alloc o) p.1 p.2 (fun _ => True) := by
  have h1 : Bytes w2 v1 [x] (fun _ => True) := by subst hv1; exact ((one_byte w x c hc).later hb2).imp fun _ _ => trivial
  have h3 : Bytes w2 v3 b (fun _ => True) := (hv.later (((Below.refl w.heap.size w).alloc (Nat.le_refl _) _).trans (hb2.mono (by simp)))).imp fun _ _ => trivial
  have hbl : Below w2.heap.size w2 (w2.alloc o) := (Below.refl _ _).alloc (Nat.le_refl _) _
  intro p hp
  simp only [List.mem_cons, List.not_mem_nil, or_false] at hp
  rcases hp with rfl | rfl | rfl
  · exact (h1.later hbl).imp fun _ _ => trivial
  · exact (hv2.later hbl).imp fun _ _ => trivial
  · exact (h3.later hbl).imp fun _ _ => trivial
theorem Tryd.sizeD_of (l : List UInt8) (h : l.length = 32) : (Tryd.prog.info? 25).map (·.size) = some (cellsB l).size := by rw [cellsB_size, h]; exact Tryd.sizeD
theorem taggedOf_len (t b : List UInt8) : (taggedOf t b).length = 32 := sumOf_len _
theorem pairOf_len (a b : List UInt8) : (pairOf a b).length = 32 := sumOf_len _
set_option maxHeartbeats 1000000 in
theorem tagged_any (s : ByteArray) (v : Value) (b : List UInt8) (ok : Nat → Prop) (w : World) (hs : s.size ≤ 9223372036854775807) (hv : Bytes w v b ok) (hK : KFact w) (hl : b.length ≤ 17592186044416) :
    Calls Tryd.prog 18 #[.string s, v] w fun e w' => e = .returned (.agg (cellsB (taggedOf s.data.toList b))) ∧ Below w.heap.size w w' := by
  have hKlt := hK.lt
  obtain ⟨av, cv, rfl⟩ : ∃ a c, v = .slice a b.length c := by obtain ⟨a, c, h, _⟩ := hv; exact ⟨a, c, h⟩
  have hrow0 := Row.new w (cellsB (List.replicate 32 0)) 25
  have hcase : ∃ t : ByteArray, t.size ≤ 255 ∧ s.data.toList.take 255 = t.data.toList ∧ ((s.size ≤ 255 ∧ s = t) ∨ (¬ s.size ≤ 255 ∧ s.extract 0 255 = t)) := by
    by_cases h : s.size ≤ 255
    · exact ⟨s, h, List.take_of_length_le h, .inl ⟨h, rfl⟩⟩
    · refine ⟨s.extract 0 255, by rw [ByteArray.size_extract]; omega, ?_, .inr ⟨h, rfl⟩⟩
      rw [ByteArray.data_extract, Array.toList_extract]; simp [List.extract]
  obtain ⟨t, h255, htk, hcase⟩ := hcase
  have HT := Lib.hid htk
  have hlen : (t.size : Int) = Y (UInt8.ofNat t.size) := by
    unfold Y; rw [UInt8.toNat_ofNat', Nat.mod_eq_of_lt (by omega)]
  have hv13 := one_byte (w.alloc (.cells (cellsB (List.replicate 32 0)) 25)) (UInt8.ofNat t.size) t.size hlen
  have HL := Lib.hid hlen
  clear hlen htk
  rcases hcase with ⟨hc, rfl⟩ | ⟨hc, et⟩
  · obtain ⟨t, rfl⟩ : ∃ t, t = s := ⟨s, rfl⟩
    go_enter Tryd.func18, Tryd.ntmps18
    go_wp2_with (refine wpList_conv_string rfl (.tmp 14) rfl t rfl (by omega) ?_; intro v2 w2 hv2 hb2 hz2; obtain ⟨a2, c2, rfl, _⟩ := id hv2)
    have hB2 : Below w.heap.size w w2 := (((Below.refl w.heap.size w).alloc (Nat.le_refl _) _).alloc (by simp) _).trans (hb2.mono (by simp; omega))
    have hD2 : Row w2 w.heap.size 25 (cellsB (List.replicate 32 0)) := (hrow0.alloc _).below hb2 (by simp; omega)
    have hps := parts3 (t := t.data.toList) (v1 := .slice (some ⟨w.heap.size + 1, 0, none⟩) 1 1) HL.out (by simp) (hv.later ((Below.refl _ w).alloc (Nat.le_refl _) (.cells (cellsB (List.replicate 32 0)) 25))) hb2 hv2 (.cells #[.slice (some ⟨w.heap.size + 1, 0, none⟩) 1 1, .slice a2 t.size c2, .slice av b.length cv] 22)
    have hrw : Row (w2.alloc (.cells #[.slice (some ⟨w.heap.size + 1, 0, none⟩) 1 1, .slice a2 t.size c2, .slice av b.length cv] 22)) (w.heap.size + 1 + 1 + 1) 22 #[.slice (some ⟨w.heap.size + 1, 0, none⟩) 1 1, .slice a2 t.size c2, .slice av b.length cv] := by
      have h := Row.new w2 #[.slice (some ⟨w.heap.size + 1, 0, none⟩) 1 1, .slice a2 t.size c2, .slice av b.length cv] 22
      rw [hz2] at h; simpa using h
    have hD3 := hD2.alloc (.cells #[.slice (some ⟨w.heap.size + 1, 0, none⟩) 1 1, .slice a2 t.size c2, .slice av b.length cv] 22)
    have hB3 := hB2.alloc hB2.size (.cells #[.slice (some ⟨w.heap.size + 1, 0, none⟩) 1 1, .slice a2 t.size c2, .slice av b.length cv] 22)
    have hsl : t.data.toList.length = t.size := rfl
    refine (concat_any [(Value.slice (some ⟨w.heap.size + 1, 0, none⟩) 1 1, [UInt8.ofNat t.size]), (Value.slice a2 t.size c2, t.data.toList), (Value.slice av b.length cv, b)] _ 3 _ rfl (by omega) hrw hps (by simp [sumLen]; omega)).mono ?_
    rintro e w4 ⟨v4, rfl, ho4, hb4⟩
    have hB4 := hB3.trans (hb4.mono hB3.size)
    have hD4 := hD3.below hb4 hD3.lt
    have hv4 := ho4.bytes (fun _ => True) (fun _ _ => trivial)
    have hfl : flatB [(Value.slice (some ⟨w.heap.size + 1, 0, none⟩) 1 1, [UInt8.ofNat t.size]), (Value.slice a2 t.size c2, t.data.toList), (Value.slice av b.length cv, b)] = [UInt8.ofNat t.size] ++ t.data.toList ++ b := by
      simp [flatB]
    rw [hfl] at hv4
    have hsum : Hid (sumOf ([UInt8.ofNat t.size] ++ t.data.toList ++ b) = taggedOf t.data.toList b) := by
      show _ = _; unfold taggedOf; rw [HT.out]; rfl
    have hll : ([UInt8.ofNat t.size] ++ t.data.toList ++ b).length ≤ 35184372088832 := by simp; omega
    clear hfl ho4 hb4 hps hrw hD3 hB3 hb2 hv2
    go_wp2_with fail
    refine (sum_any _ v4 _ w4 hv4 (hK.below hB4 hKlt) hll).mono ?_
    rintro e w5 ⟨rfl, hb5⟩
    rw [hsum.out]
    have hD5 := hD4.below hb5 hD4.lt
    have hB5 := hB4.trans (hb5.mono hB4.size)
    have hcs := cellsB_size (taggedOf t.data.toList b)
    rw [taggedOf_len] at hcs
    have HCS := Lib.hid hcs
    have HSZ := Lib.hid (Tryd.sizeD_of _ (taggedOf_len t.data.toList b))
    clear hcs hD4 hB4 hb5 hv4 hll
    go_wp2_with (refine wpList_store_row rfl 25 (.tmp 4) (.tmp 19) rfl w.heap.size rfl (cellsB (taggedOf t.data.toList b)) _ 25 rfl hD5 HCS.out HSZ.out (cellsB_one _) ?_; intro w6 hg6 hr6 hz6)
    refine bodyPost_ret (v := .agg (cellsB (taggedOf t.data.toList b))) (results_cell_row rfl _ _ w.heap.size 25 _ (0, 0) _ rfl hr6 Tryd.underD rfl HSZ.out) rfl ⟨rfl, ?_⟩
    exact hB5.grown hg6 hB5.size (fun k hk => by cases hk; exact Nat.le_refl _)
  · go_enter Tryd.func18, Tryd.ntmps18
    go_wp2_with (refine wpList_conv_string rfl (.tmp 14) rfl t rfl (by omega) ?_; intro v2 w2 hv2 hb2 hz2; obtain ⟨a2, c2, rfl, _⟩ := id hv2)
    have hB2 : Below w.heap.size w w2 := (((Below.refl w.heap.size w).alloc (Nat.le_refl _) _).alloc (by simp) _).trans (hb2.mono (by simp; omega))
    have hD2 : Row w2 w.heap.size 25 (cellsB (List.replicate 32 0)) := (hrow0.alloc _).below hb2 (by simp; omega)
    have hps := parts3 (t := t.data.toList) (v1 := .slice (some ⟨w.heap.size + 1, 0, none⟩) 1 1) HL.out (by simp) (hv.later ((Below.refl _ w).alloc (Nat.le_refl _) (.cells (cellsB (List.replicate 32 0)) 25))) hb2 hv2 (.cells #[.slice (some ⟨w.heap.size + 1, 0, none⟩) 1 1, .slice a2 t.size c2, .slice av b.length cv] 22)
    have hrw : Row (w2.alloc (.cells #[.slice (some ⟨w.heap.size + 1, 0, none⟩) 1 1, .slice a2 t.size c2, .slice av b.length cv] 22)) (w.heap.size + 1 + 1 + 1) 22 #[.slice (some ⟨w.heap.size + 1, 0, none⟩) 1 1, .slice a2 t.size c2, .slice av b.length cv] := by
      have h := Row.new w2 #[.slice (some ⟨w.heap.size + 1, 0, none⟩) 1 1, .slice a2 t.size c2, .slice av b.length cv] 22
      rw [hz2] at h; simpa using h
    have hD3 := hD2.alloc (.cells #[.slice (some ⟨w.heap.size + 1, 0, none⟩) 1 1, .slice a2 t.size c2, .slice av b.length cv] 22)
    have hB3 := hB2.alloc hB2.size (.cells #[.slice (some ⟨w.heap.size + 1, 0, none⟩) 1 1, .slice a2 t.size c2, .slice av b.length cv] 22)
    have hsl : t.data.toList.length = t.size := rfl
    refine (concat_any [(Value.slice (some ⟨w.heap.size + 1, 0, none⟩) 1 1, [UInt8.ofNat t.size]), (Value.slice a2 t.size c2, t.data.toList), (Value.slice av b.length cv, b)] _ 3 _ rfl (by omega) hrw hps (by simp [sumLen]; omega)).mono ?_
    rintro e w4 ⟨v4, rfl, ho4, hb4⟩
    have hB4 := hB3.trans (hb4.mono hB3.size)
    have hD4 := hD3.below hb4 hD3.lt
    have hv4 := ho4.bytes (fun _ => True) (fun _ _ => trivial)
    have hfl : flatB [(Value.slice (some ⟨w.heap.size + 1, 0, none⟩) 1 1, [UInt8.ofNat t.size]), (Value.slice a2 t.size c2, t.data.toList), (Value.slice av b.length cv, b)] = [UInt8.ofNat t.size] ++ t.data.toList ++ b := by
      simp [flatB]
    rw [hfl] at hv4
    have hsum : Hid (sumOf ([UInt8.ofNat t.size] ++ t.data.toList ++ b) = taggedOf s.data.toList b) := by
      show _ = _; unfold taggedOf; rw [HT.out]; rfl
    have hll : ([UInt8.ofNat t.size] ++ t.data.toList ++ b).length ≤ 35184372088832 := by simp; omega
    clear hfl ho4 hb4 hps hrw hD3 hB3 hb2 hv2
    go_wp2_with fail
    refine (sum_any _ v4 _ w4 hv4 (hK.below hB4 hKlt) hll).mono ?_
    rintro e w5 ⟨rfl, hb5⟩
    rw [hsum.out]
    have hD5 := hD4.below hb5 hD4.lt
    have hB5 := hB4.trans (hb5.mono hB4.size)
    have hcs := cellsB_size (taggedOf s.data.toList b)
    rw [taggedOf_len] at hcs
    have HCS := Lib.hid hcs
    have HSZ := Lib.hid (Tryd.sizeD_of _ (taggedOf_len s.data.toList b))
    clear hcs hD4 hB4 hb5 hv4 hll
    go_wp2_with (refine wpList_store_row rfl 25 (.tmp 4) (.tmp 19) rfl w.heap.size rfl (cellsB (taggedOf s.data.toList b)) _ 25 rfl hD5 HCS.out HSZ.out (cellsB_one _) ?_; intro w6 hg6 hr6 hz6)
    refine bodyPost_ret (v := .agg (cellsB (taggedOf s.data.toList b))) (results_cell_row rfl _ _ w.heap.size 25 _ (0, 0) _ rfl hr6 Tryd.underD rfl HSZ.out) rfl ⟨rfl, ?_⟩
    exact hB5.grown hg6 hB5.size (fun k hk => by cases hk; exact Nat.le_refl _)
end Go.Proofs.YteogcilnpkaplaaDoor

namespace Go.Proofs.YteogcilnpkaplaaDoor
open Go.RowKit
theorem Row.bytes {w : World} {b : Nat} {t : TypeId} {l : List UInt8} (h : Row w b t (cellsB l)) (hl : l.length = 32) : Bytes w (.slice (some ⟨b, 0, none⟩) 32 32) l (fun _ => True) :=
  ⟨_, 32, by rw [hl], by rw [hl]; omega, by decide, .inr ⟨b, 0, rfl, trivial, fun i hi => by rw [Nat.zero_add]; exact h.byte i hi⟩⟩
theorem chainOf_len (x : List UInt8) (hx : x.length = 32) (n : Nat) : (chainOf x n).length = 32 := by
  cases n with
  | zero => exact hx
  | succ n => exact taggedOf_len _ _
set_option maxHeartbeats 1000000 in
theorem chain_pos (x : List UInt8) (N : Nat) (w : World) (hx : x.length = 32) (h0 : 0 < N) (h1 : N ≤ 9223372036854775807) (hK : KFact w) :
    Calls Tryd.prog 42 #[.agg (cellsB x), .int .i64 (N : Int)] w fun e w' => e = .returned (.agg (cellsB (chainOf x N))) ∧ Below w.heap.size w w' := by
  have HX := Lib.hid hx
  clear hx
  have hA1 := (Row.new w (cellsB x) 25).alloc (.cells (cellsB (List.replicate 32 0)) 25)
  have hD1 : Row ((w.alloc (.cells (cellsB x) 25)).alloc (.cells (cellsB (List.replicate 32 0)) 25)) (w.heap.size + 1) 25 (cellsB (List.replicate 32 0)) := by
    have h := Row.new (w.alloc (.cells (cellsB x) 25)) (cellsB (List.replicate 32 0)) 25
    rwa [show (w.alloc (.cells (cellsB x) 25)).heap.size = w.heap.size + 1 by simp] at h
  have hbl1 : Below w.heap.size w ((w.alloc (.cells (cellsB x) 25)).alloc (.cells (cellsB (List.replicate 32 0)) 25)) := ((Below.refl _ _).alloc (Nat.le_refl _) _).alloc (by simp) _
  have hKlt := hK.lt
  go_enter Tryd.func42, Tryd.ntmps42
  go_wp2
  go_loopw [7] (fun t wr => ∃ k : Nat, k ≤ N ∧ t = .int .i64 (k : Int) ∧ Row wr w.heap.size 25 (cellsB (chainOf x k)) ∧ Row wr (w.heap.size + 1) 25 (cellsB (List.replicate 32 0)) ∧ Below w.heap.size w wr) (fun t _ => N - (intOf t).toNat)
  case atStart => exact ⟨0, by omega, rfl, hA1, hD1, hbl1⟩
  case round =>
    clear hA1 hD1 hbl1
    obtain ⟨k, hk, rfl, hA, hD, hb⟩ := hrel
    by_cases hlt : k < N
    · have hlen := chainOf_len x HX.out k
      have hv := hA.bytes hlen
      have hKr := hK.below hb hKlt
      have HLN := Lib.hid hlen
      clear hlen
      go_wp2_with fail
      refine (tagged_any _ _ (chainOf x k) _ wr (by decide) hv hKr (by rw [HLN.out]; omega)).mono ?_
      rintro e w5 ⟨rfl, hb5⟩
      have hA5 := hA.below hb5 hA.lt
      have hD5 := hD.below hb5 hD.lt
      have hB5 := hb.trans (hb5.mono hb.size)
      have hp : Hid (taggedOf (ByteArray.mk #[115, 116, 101, 112]).data.toList (chainOf x k) = chainOf x (k + 1)) := rfl
      rw [hp.out]
      have hcs : (cellsB (chainOf x (k + 1))).size = (cellsB (chainOf x k)).size := by rw [cellsB_size, cellsB_size, chainOf_len x HX.out, HLN.out]
      have HCS := Lib.hid hcs
      have HSZ := Lib.hid (Tryd.sizeD_of _ (chainOf_len x HX.out (k + 1)))
      clear hcs hA hD hb hb5 hv hKr
      go_wp2_with (refine wpList_store_row rfl 25 (.tmp 2) (.tmp 10) rfl w.heap.size rfl (cellsB (chainOf x (k + 1))) _ 25 rfl hA5 HCS.out HSZ.out (cellsB_one _) ?_; intro w6 hg6 hr6 hz6)
      go_roundw
      case rel => exact ⟨k + 1, by omega, by go_num, hr6, hD5.grown hg6 (fun e => absurd (Option.some.inj e) (by omega)), hB5.grown hg6 hB5.size (fun k hk => by cases hk; exact Nat.le_refl _)⟩
      case measure => simp [intOf]; omega
    · obtain rfl : N = k := by omega
      have hcs : (cellsB (chainOf x N)).size = (cellsB (List.replicate 32 0)).size := by rw [cellsB_size, cellsB_size, chainOf_len x HX.out]; rfl
      have HCS := Lib.hid hcs
      have HSZ := Lib.hid (Tryd.sizeD_of _ (chainOf_len x HX.out N))
      clear hcs
      go_wp2_with (first | (refine wpList_load_row rfl 25 (.tmp 2) rfl w.heap.size rfl 25 (cellsB (chainOf x N)) (0, 0) _ hA Tryd.underD rfl HSZ.out ?_) | (refine wpList_store_row rfl 25 (.tmp 4) (.tmp 12) rfl (w.heap.size + 1) rfl (cellsB (chainOf x N)) _ 25 rfl hD HCS.out HSZ.out (cellsB_one _) ?_; intro w9 hg9 hr9 hz9))
      refine bodyPost_ret (v := .agg (cellsB (chainOf x N))) (results_cell_row rfl _ _ (w.heap.size + 1) 25 _ (0, 0) _ rfl hr9 Tryd.underD rfl HSZ.out) rfl ⟨rfl, ?_⟩
      exact hb.grown hg9 hb.size (fun k hk => by cases hk; omega)
set_option maxHeartbeats 1000000 in
theorem chain_neg (x : List UInt8) (n : Int) (w : World) (hx : x.length = 32) (h0 : n < 0) (_h1 : -9223372036854775808 ≤ n) (hK : KFact w) :
    Calls Tryd.prog 42 #[.agg (cellsB x), .int .i64 n] w fun e w' => e = .returned (.agg (cellsB (chainOf x 0))) ∧ Below w.heap.size w w' := by
  have HX := Lib.hid hx
  clear hx
  have hA1 := (Row.new w (cellsB x) 25).alloc (.cells (cellsB (List.replicate 32 0)) 25)
  have hD1 : Row ((w.alloc (.cells (cellsB x) 25)).alloc (.cells (cellsB (List.replicate 32 0)) 25)) (w.heap.size + 1) 25 (cellsB (List.replicate 32 0)) := by
    have h := Row.new (w.alloc (.cells (cellsB x) 25)) (cellsB (List.replicate 32 0)) 25
    rwa [show (w.alloc (.cells (cellsB x) 25)).heap.size = w.heap.size + 1 by simp] at h
  have hbl1 : Below w.heap.size w ((w.alloc (.cells (cellsB x) 25)).alloc (.cells (cellsB (List.replicate 32 0)) 25)) := ((Below.refl _ _).alloc (Nat.le_refl _) _).alloc (by simp) _
  have hKlt := hK.lt
  go_enter Tryd.func42, Tryd.ntmps42
  go_wp2
  go_loopw [7] (fun t wr => ∃ k : Nat, k ≤ 0 ∧ t = .int .i64 (k : Int) ∧ Row wr w.heap.size 25 (cellsB (chainOf x k)) ∧ Row wr (w.heap.size + 1) 25 (cellsB (List.replicate 32 0)) ∧ Below w.heap.size w wr) (fun t _ => 0 - (intOf t).toNat)
  case atStart => exact ⟨0, by omega, rfl, hA1, hD1, hbl1⟩
  case round =>
    clear hA1 hD1 hbl1
    obtain ⟨k, hk, rfl, hA, hD, hb⟩ := hrel
    by_cases hlt : k < 0
    · exact absurd hlt (Nat.not_lt_zero k)
    · obtain rfl : 0 = k := by omega
      have hcs : (cellsB (chainOf x 0)).size = (cellsB (List.replicate 32 0)).size := by rw [cellsB_size, cellsB_size, chainOf_len x HX.out]; rfl
      have HCS := Lib.hid hcs
      have HSZ := Lib.hid (Tryd.sizeD_of _ (chainOf_len x HX.out 0))
      clear hcs
      go_wp2_with (first | (refine wpList_load_row rfl 25 (.tmp 2) rfl w.heap.size rfl 25 (cellsB (chainOf x 0)) (0, 0) _ hA Tryd.underD rfl HSZ.out ?_) | (refine wpList_store_row rfl 25 (.tmp 4) (.tmp 12) rfl (w.heap.size + 1) rfl (cellsB (chainOf x 0)) _ 25 rfl hD HCS.out HSZ.out (cellsB_one _) ?_; intro w9 hg9 hr9 hz9))
      refine bodyPost_ret (v := .agg (cellsB (chainOf x 0))) (results_cell_row rfl _ _ (w.heap.size + 1) 25 _ (0, 0) _ rfl hr9 Tryd.underD rfl HSZ.out) rfl ⟨rfl, ?_⟩
      exact hb.grown hg9 hb.size (fun k hk => by cases hk; omega)
set_option maxHeartbeats 1000000 in
theorem chain_zero (x : List UInt8) (w : World) (hx : x.length = 32) (hK : KFact w) :
    Calls Tryd.prog 42 #[.agg (cellsB x), .int .i64 0] w fun e w' => e = .returned (.agg (cellsB (chainOf x 0))) ∧ Below w.heap.size w w' := by
  have HX := Lib.hid hx
  clear hx
  have hA1 := (Row.new w (cellsB x) 25).alloc (.cells (cellsB (List.replicate 32 0)) 25)
  have hD1 : Row ((w.alloc (.cells (cellsB x) 25)).alloc (.cells (cellsB (List.replicate 32 0)) 25)) (w.heap.size + 1) 25 (cellsB (List.replicate 32 0)) := by
    have h := Row.new (w.alloc (.cells (cellsB x) 25)) (cellsB (List.replicate 32 0)) 25
    rwa [show (w.alloc (.cells (cellsB x) 25)).heap.size = w.heap.size + 1 by simp] at h
  have hbl1 : Below w.heap.size w ((w.alloc (.cells (cellsB x) 25)).alloc (.cells (cellsB (List.replicate 32 0)) 25)) := ((Below.refl _ _).alloc (Nat.le_refl _) _).alloc (by simp) _
  have hKlt := hK.lt
  go_enter Tryd.func42, Tryd.ntmps42
  go_wp2
  go_loopw [7] (fun t wr => ∃ k : Nat, k ≤ 0 ∧ t = .int .i64 (k : Int) ∧ Row wr w.heap.size 25 (cellsB (chainOf x k)) ∧ Row wr (w.heap.size + 1) 25 (cellsB (List.replicate 32 0)) ∧ Below w.heap.size w wr) (fun t _ => 0 - (intOf t).toNat)
  case atStart => exact ⟨0, by omega, rfl, hA1, hD1, hbl1⟩
  case round =>
    clear hA1 hD1 hbl1
    obtain ⟨k, hk, rfl, hA, hD, hb⟩ := hrel
    by_cases hlt : k < 0
    · exact absurd hlt (Nat.not_lt_zero k)
    · obtain rfl : 0 = k := by omega
      have hcs : (cellsB (chainOf x 0)).size = (cellsB (List.replicate 32 0)).size := by rw [cellsB_size, cellsB_size, chainOf_len x HX.out]; rfl
      have HCS := Lib.hid hcs
      have HSZ := Lib.hid (Tryd.sizeD_of _ (chainOf_len x HX.out 0))
      clear hcs
      go_wp2_with (first | (refine wpList_load_row rfl 25 (.tmp 2) rfl w.heap.size rfl 25 (cellsB (chainOf x 0)) (0, 0) _ hA Tryd.underD rfl HSZ.out ?_) | (refine wpList_store_row rfl 25 (.tmp 4) (.tmp 12) rfl (w.heap.size + 1) rfl (cellsB (chainOf x 0)) _ 25 rfl hD HCS.out HSZ.out (cellsB_one _) ?_; intro w9 hg9 hr9 hz9))
      refine bodyPost_ret (v := .agg (cellsB (chainOf x 0))) (results_cell_row rfl _ _ (w.heap.size + 1) 25 _ (0, 0) _ rfl hr9 Tryd.underD rfl HSZ.out) rfl ⟨rfl, ?_⟩
      exact hb.grown hg9 hb.size (fun k hk => by cases hk; omega)
/-- sha256.Chain. -/
theorem chain_any (x : List UInt8) (n : Int) (w : World) (hx : x.length = 32) (h0 : -9223372036854775808 ≤ n) (h1 : n ≤ 9223372036854775807) (hK : KFact w) :
    Calls Tryd.prog 42 #[.agg (cellsB x), .int .i64 n] w fun e w' => e = .returned (.agg (cellsB (chainOf x n.toNat))) ∧ Below w.heap.size w w' := by
  by_cases h : n ≤ 0
  · have e : n.toNat = 0 := by omega
    rw [e]
    by_cases hz : n = 0
    · subst hz; exact chain_zero x w hx hK
    · exact chain_neg x n w hx (by omega) h0 hK
  · have e : n = (n.toNat : Int) := by omega
    have := chain_pos x n.toNat w hx (by omega) (by omega) hK
    rwa [← e] at this
end Go.Proofs.YteogcilnpkaplaaDoor

namespace Go.Proofs.YteogcilnpkaplaaDoor
open Go.RowKit
set_option maxHeartbeats 1000000 in
theorem pair_any (a b : List UInt8) (w : World) (ha : a.length = 32) (hb : b.length = 32) (hK : KFact w) :
    Calls Tryd.prog 24 #[.agg (cellsB a), .agg (cellsB b)] w fun e w' => e = .returned (.agg (cellsB (pairOf a b))) ∧ Below w.heap.size w w' := by
  have HA := Lib.hid ha
  have HB := Lib.hid hb
  clear ha hb
  go_enter Tryd.func24, Tryd.ntmps24
  go_wp2
  refine wp_region_still_tail 2 (by kernel_rfl) (by kernel_rfl) ?_
  simp only [List.take_succ_cons, List.take_zero, List.drop_succ_cons, List.drop_zero]
  have hex : ∃ w2 : World, w2 = (((w.alloc (.cells (cellsB a) 25)).alloc (.cells (cellsB b) 25)).alloc (.cells (cellsB (List.replicate 32 0)) 25)).drew ∧ Row w2 w.heap.size 25 (cellsB a) ∧ Row w2 (w.heap.size + 1) 25 (cellsB b) ∧ Row w2 (w.heap.size + 1 + 1) 25 (cellsB (List.replicate 32 0)) ∧ Below w.heap.size w w2 := by
    have e1 : (w.alloc (.cells (cellsB a) 25)).heap.size = w.heap.size + 1 := by simp
    have e2 : ((w.alloc (.cells (cellsB a) 25)).alloc (.cells (cellsB b) 25)).heap.size = w.heap.size + 1 + 1 := by simp
    refine ⟨_, rfl, ((Row.new w _ _).alloc _).alloc _, ?_, ?_, ((((Below.refl _ _).alloc (Nat.le_refl _) _).alloc (by simp) _).alloc (by simp; omega) _).drew⟩
    · have h := (Row.new (w.alloc (.cells (cellsB a) 25)) (cellsB b) 25).alloc (.cells (cellsB (List.replicate 32 0)) 25)
      rw [e1] at h; exact h
    · have h := Row.new ((w.alloc (.cells (cellsB a) 25)).alloc (.cells (cellsB b) 25)) (cellsB (List.replicate 32 0)) 25
      rw [e2] at h; exact h
  obtain ⟨w2, ew2, hA2, hB2, hD2, hbl2⟩ := hex
  change wpStill _ _ ((((w.alloc (.cells (cellsB a) 25)).alloc (.cells (cellsB b) 25)).alloc (.cells (cellsB (List.replicate 32 0)) 25)).drew) (fun a' => wpList _ _ _ _ a' ((((w.alloc (.cells (cellsB a) 25)).alloc (.cells (cellsB b) 25)).alloc (.cells (cellsB (List.replicate 32 0)) 25)).drew)) _ _
  rw [← ew2]
  clear ew2
  repeat still_step
  refine wpStill_nil ?_
  go_wp2_with fail
  have hbl3 : Below w2.heap.size w2 (w2.alloc (.cells #[.slice (some ⟨w.heap.size, 0, none⟩) 32 32, .slice (some ⟨w.heap.size + 1, 0, none⟩) 32 32] 22)) := (Below.refl _ _).alloc (Nat.le_refl _) _
  have hps : ∀ p ∈ [(Value.slice (some ⟨w.heap.size, 0, none⟩) 32 32, a), (Value.slice (some ⟨w.heap.size + 1, 0, none⟩) 32 32, b)], Bytes (w2.alloc (.cells #[.slice (some ⟨w.heap.size, 0, none⟩) 32 32, .slice (some ⟨w.heap.size + 1, 0, none⟩) 32 32] 22)) p.1 p.2 (fun _ => True) := by
    intro p hp
    simp only [List.mem_cons, List.not_mem_nil, or_false] at hp
    rcases hp with rfl | rfl
    · exact ((hA2.bytes HA.out).later hbl3).imp fun _ _ => trivial
    · exact ((hB2.bytes HB.out).later hbl3).imp fun _ _ => trivial
  refine (concat_any [(Value.slice (some ⟨w.heap.size, 0, none⟩) 32 32, a), (Value.slice (some ⟨w.heap.size + 1, 0, none⟩) 32 32, b)] _ 2 _ rfl (by omega) (Row.new w2 _ _) hps (by simp [sumLen, HA.out, HB.out])).mono ?_
  rintro e w4 ⟨v4, rfl, ho4, hb4⟩
  have hB4 := (hbl2.trans (hbl3.mono hbl2.size)).trans (hb4.mono (by have := hbl2.size; simp; omega))
  have hD4 := (hD2.below hbl3 hD2.lt).below hb4 (by have := hD2.lt; simp; omega)
  have hv4 := ho4.bytes (fun _ => True) (fun _ _ => trivial)
  have hfl : flatB [(Value.slice (some ⟨w.heap.size, 0, none⟩) 32 32, a), (Value.slice (some ⟨w.heap.size + 1, 0, none⟩) 32 32, b)] = a ++ b := by simp [flatB]
  rw [hfl] at hv4
  have hll : (a ++ b).length ≤ 17592186044416 := by rw [List.length_append, HA.out, HB.out]; omega
  clear hfl ho4 hb4 hps hbl3 hA2 hB2 hbl2 hD2
  go_wp2_with fail
  refine (tagged_any _ v4 (a ++ b) _ w4 (by decide) hv4 (hK.below hB4 hK.lt) hll).mono ?_
  rintro e w5 ⟨rfl, hb5⟩
  have hD5 := hD4.below hb5 hD4.lt
  have hB5 := hB4.trans (hb5.mono hB4.size)
  have hp : Hid (taggedOf (ByteArray.mk #[112, 97, 105, 114]).data.toList (a ++ b) = pairOf a b) := rfl
  rw [hp.out]
  have hcs := cellsB_size (pairOf a b)
  rw [pairOf_len] at hcs
  have HCS := Lib.hid hcs
  have HSZ := Lib.hid (Tryd.sizeD_of _ (pairOf_len a b))
  clear hcs hD4 hB4 hb5 hv4 hll
  go_wp2_with (refine wpList_store_row rfl 25 (.tmp 4) (.tmp 9) rfl (w.heap.size + 1 + 1) rfl (cellsB (pairOf a b)) _ 25 rfl hD5 HCS.out HSZ.out (cellsB_one _) ?_; intro w6 hg6 hr6 hz6)
  refine bodyPost_ret (v := .agg (cellsB (pairOf a b))) (results_cell_row rfl _ _ (w.heap.size + 1 + 1) 25 _ (0, 0) _ rfl hr6 Tryd.underD rfl HSZ.out) rfl ⟨rfl, ?_⟩
  exact hB5.grown hg6 hB5.size (fun k hk => by cases hk; omega)
end Go.Proofs.YteogcilnpkaplaaDoor

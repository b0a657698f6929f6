/- sha256.Sum returns the hash of the plain definition. Conditions: the slice's bytes can be read, it is shorter than 2^45 bytes, and the constants lie in their variable. -/
import Derived.Test.YthhlfcbkggahmaaDoorApp
namespace Go.Proofs.YthhlfcbkggahmaaDoor
open Go.RowKit
theorem Bytes.later {w w' : World} {v : Value} {l : List UInt8} {ok : Nat → Prop} (h : Bytes w v l ok) (hb : Below w.heap.size w w') : Bytes w' v l (· < w.heap.size) := by
  obtain ⟨a, cap, rfl, hc0, hc1, ha | ⟨b, off, rfl, _, hat⟩⟩ := h
  · exact ⟨_, _, rfl, hc0, hc1, .inl ha⟩
  · refine ⟨_, _, rfl, hc0, hc1, ?_⟩
    cases l with
    | nil => exact .inl ⟨rfl, fun h => by cases h⟩
    | cons x l =>
      have hlt : b < w.heap.size := block_lt_of_cell (hat 0 (by simp))
      exact .inr ⟨b, off, rfl, hlt, fun i hi => (hb.cell (p := ⟨b, off + i, none⟩) hlt).trans (hat i hi)⟩
theorem Bytes.imp {w : World} {v : Value} {l : List UInt8} {ok ok' : Nat → Prop} (h : Bytes w v l ok) (hi : ∀ b, ok b → ok' b) : Bytes w v l ok' := by
  obtain ⟨a, cap, rfl, hc0, hc1, ha | ⟨b, off, rfl, hok, hat⟩⟩ := h
  · exact ⟨_, _, rfl, hc0, hc1, .inl ha⟩
  · exact ⟨_, _, rfl, hc0, hc1, .inr ⟨b, off, rfl, hi b hok, hat⟩⟩
theorem Tryd.underS : Tryd.prog.underlying 63 = some (.array 8 61) := by kernel_rfl
theorem Tryd.sizeS : (Tryd.prog.info? 63).map (·.size) = some 8 := by kernel_rfl
theorem Tryd.underD : Tryd.prog.underlying 23 = some (.array 32 5) := by kernel_rfl
theorem Tryd.sizeD : (Tryd.prog.info? 23).map (·.size) = some 32 := by kernel_rfl
/-- Byte i of the length in bits. -/
def lenB (n i : Nat) : UInt8 := UInt8.ofNat (n * 8 % 18446744073709551616 / 2 ^ (56 - 8 * i))
theorem lenB_eq (n i : Nat) (hn : n ≤ 35184372088832) : (n : Int) * 8 / 2 ^ (56 - 8 * i) % 256 = Y (lenB n i) := by
  unfold Y lenB
  rw [UInt8.toNat_ofNat', Nat.mod_eq_of_lt (show n * 8 < 18446744073709551616 by omega)]
  have e : (2 : Int) ^ (56 - 8 * i) = ((2 ^ (56 - 8 * i) : Nat) : Int) := by simp
  rw [e, show (n : Int) * 8 = ((n * 8 : Nat) : Int) by omega, show (256 : Int) = ((256 : Nat) : Int) from rfl, ← Int.natCast_ediv, ← Int.natCast_emod]
theorem lenBytes_take (n i : Nat) (hi : i < 8) : (lenBytes n).take (i + 1) = (lenBytes n).take i ++ [lenB n i] := by
  unfold lenBytes
  rw [← List.map_take, ← List.map_take, List.take_range, List.take_range, show min (i + 1) 8 = i + 1 by omega, show min i 8 = i by omega, List.range_succ, List.map_append]
  rfl
theorem lenBytes_all (n i : Nat) (hi : i = 8) : (lenBytes n).take i = lenBytes n := by subst hi; exact List.take_of_length_le (by simp [lenBytes])
theorem dByte_eq (s : St) (i : Nat) (hi : i < 32) : wd s.list (i / 4) / 2 ^ (24 - 8 * (i % 4)) % 256 = Y ((digestOf s).getD i 0) := by
  have H : ∀ x : W32, (V x / 2 ^ 24 % 256 = Y (UInt8.ofNat (x.toNat / 16777216))) ∧ (V x / 2 ^ 16 % 256 = Y (UInt8.ofNat (x.toNat / 65536))) ∧ (V x / 2 ^ 8 % 256 = Y (UInt8.ofNat (x.toNat / 256))) ∧ (V x / 2 ^ 0 % 256 = Y (UInt8.ofNat x.toNat)) := fun x => by
    unfold V Y; simp only [UInt8.toNat_ofNat']; omega
  have h4 : i = 4 * (i / 4) + i % 4 := by omega
  have hq : i / 4 < 8 := by omega
  have hr : i % 4 < 4 := by omega
  generalize i / 4 = q at *
  generalize i % 4 = m at *
  subst h4
  clear hi
  match q, hq, m, hr with
  | 0, _, 0, _ => exact (H s.a).1 | 0, _, 1, _ => exact (H s.a).2.1 | 0, _, 2, _ => exact (H s.a).2.2.1 | 0, _, 3, _ => exact (H s.a).2.2.2
  | 1, _, 0, _ => exact (H s.b).1 | 1, _, 1, _ => exact (H s.b).2.1 | 1, _, 2, _ => exact (H s.b).2.2.1 | 1, _, 3, _ => exact (H s.b).2.2.2
  | 2, _, 0, _ => exact (H s.c).1 | 2, _, 1, _ => exact (H s.c).2.1 | 2, _, 2, _ => exact (H s.c).2.2.1 | 2, _, 3, _ => exact (H s.c).2.2.2
  | 3, _, 0, _ => exact (H s.d).1 | 3, _, 1, _ => exact (H s.d).2.1 | 3, _, 2, _ => exact (H s.d).2.2.1 | 3, _, 3, _ => exact (H s.d).2.2.2
  | 4, _, 0, _ => exact (H s.e).1 | 4, _, 1, _ => exact (H s.e).2.1 | 4, _, 2, _ => exact (H s.e).2.2.1 | 4, _, 3, _ => exact (H s.e).2.2.2
  | 5, _, 0, _ => exact (H s.f).1 | 5, _, 1, _ => exact (H s.f).2.1 | 5, _, 2, _ => exact (H s.f).2.2.1 | 5, _, 3, _ => exact (H s.f).2.2.2
  | 6, _, 0, _ => exact (H s.g).1 | 6, _, 1, _ => exact (H s.g).2.1 | 6, _, 2, _ => exact (H s.g).2.2.1 | 6, _, 3, _ => exact (H s.g).2.2.2
  | 7, _, 0, _ => exact (H s.h).1 | 7, _, 1, _ => exact (H s.h).2.1 | 7, _, 2, _ => exact (H s.h).2.2.1 | 7, _, 3, _ => exact (H s.h).2.2.2
theorem digestOf_len (s : St) : (digestOf s).length = 32 := rfl
/-- The digest's bytes so far. -/
def dRow (s : St) (i : Nat) : List UInt8 := (digestOf s).take i ++ List.replicate (32 - i) 0
theorem dRow_len (s : St) (i : Nat) (h : i ≤ 32) : (dRow s i).length = 32 := by
  unfold dRow; rw [List.length_append, List.length_take, List.length_replicate, digestOf_len]; omega
theorem dRow_set (s : St) (i : Nat) (h : i < 32) : (dRow s i).set i ((digestOf s).getD i 0) = dRow s (i + 1) := by
  unfold dRow
  have hl : ((digestOf s).take i).length = i := by rw [List.length_take, digestOf_len]; omega
  rw [List.set_append_right _ _ (by omega), hl, Nat.sub_self, show 32 - i = (32 - (i + 1)) + 1 by omega, List.replicate_succ, List.set_cons_zero]
  rw [List.take_succ_eq_append_getElem (by rw [digestOf_len]; exact h), List.append_assoc]
  congr 1
  rw [List.getD_eq_getElem?_getD, List.getElem?_eq_getElem (by rw [digestOf_len]; exact h)]; rfl
theorem dRow_all (s : St) (i : Nat) (h : i = 32) : dRow s i = digestOf s := by
  subst h; unfold dRow; rw [List.take_of_length_le (by rw [digestOf_len]; omega)]; simp
theorem blocks_add (m n : Nat) (s : St) (b : List UInt8) : blocks (m + n) s b = blocks n (blocks m s b) (b.drop (64 * m)) := by
  induction m generalizing s b with
  | zero => simp [blocks]
  | succ m ih => rw [show m + 1 + n = (m + n) + 1 by omega, blocks, ih, List.drop_drop, ← blocks, show 64 + 64 * m = 64 * (m + 1) by omega]
theorem blocks_append (m : Nat) (s : St) (a b : List UInt8) (h : a.length = 64 * m) : blocks m s (a ++ b) = blocks m s a := by
  induction m generalizing s a with
  | zero => rfl
  | succ m ih =>
    rw [blocks, blocks, List.take_append_of_le_length (by omega), List.drop_append_of_le_length (by omega), ih]
    rw [List.length_drop]; omega
/-- The whole blocks first, then the rest with its padding. -/
theorem sumOf_parts (l : List UInt8) : sumOf l = digestOf (blocks ((l.drop (64 * (l.length / 64)) ++ padding l.length).length / 64) (blocks (l.length / 64) St.init l) (l.drop (64 * (l.length / 64)) ++ padding l.length)) := by
  unfold sumOf padded
  have hq : 64 * (l.length / 64) ≤ l.length := by omega
  have hlen : (l ++ padding l.length).length = 64 * (l.length / 64) + (l.drop (64 * (l.length / 64)) ++ padding l.length).length := by
    simp only [List.length_append, List.length_drop]; omega
  rw [hlen, Nat.mul_add_div (by omega), blocks_add, List.drop_append_of_le_length hq]
  have : blocks (l.length / 64) St.init (l ++ padding l.length) = blocks (l.length / 64) St.init l := by
    have e : l = l.take (64 * (l.length / 64)) ++ l.drop (64 * (l.length / 64)) := (List.take_append_drop _ _).symm
    have ht : (l.take (64 * (l.length / 64))).length = 64 * (l.length / 64) := by rw [List.length_take]; omega
    have h1 := blocks_append (l.length / 64) St.init (l.take (64 * (l.length / 64))) (l.drop (64 * (l.length / 64)) ++ padding l.length) ht
    have h2 := blocks_append (l.length / 64) St.init (l.take (64 * (l.length / 64))) (l.drop (64 * (l.length / 64))) ht
    rw [← List.append_assoc, List.take_append_drop] at h1
    rw [List.take_append_drop] at h2
    rw [h1, h2]
  rw [this]
set_option maxHeartbeats 400000 in
theorem start_any (w : World) : Calls Tryd.prog 43 #[] w fun e w' => e = .returned (.agg (cellsU St.init.list)) ∧ Below w.heap.size w w' := by
  go_enter Tryd.func43, Tryd.ntmps43
  go_wp2
  exact bodyPost_ret (v := .agg (cellsU St.init.list)) (results_cell_row rfl _ _ w.heap.size 63 (cellsU St.init.list) (0, 0) _ rfl (Row.new w (cellsU St.init.list) 63) Tryd.underS rfl Tryd.sizeS) rfl ⟨rfl, (Below.refl _ _).alloc (Nat.le_refl _) _⟩
/-- What a walk of Sum carries along: what lay ahead of it, the result's row, the state's row. -/
structure SumI (w : World) (bs : Nat) (d : List UInt8) (s : St) (wr : World) : Prop where
  bl : Below w.heap.size w wr
  lo : w.heap.size < bs
  row : Row wr w.heap.size 23 (cellsB d)
  st : Row wr bs 63 (cellsU s.list)
theorem SumI.alloc {w : World} {bs : Nat} {d : List UInt8} {s : St} {wr : World} (h : SumI w bs d s wr) (o : Obj) : SumI w bs d s (wr.alloc o) :=
  ⟨h.bl.alloc h.bl.size o, h.lo, h.row.alloc o, h.st.alloc o⟩
theorem SumI.grown {w : World} {bs : Nat} {d : List UInt8} {s : St} {wr w' : World} (h : SumI w bs d s wr) {r : Option Nat} (hg : wr.grownBy w' r) (hr : ∀ k, r = some k → bs < k) : SumI w bs d s w' :=
  ⟨h.bl.grown hg h.bl.size (fun k hk => by have := hr k hk; have := h.lo; omega), h.lo, h.row.grown hg (fun e => by have := hr _ e.symm; have := h.lo; omega), h.st.grown hg (fun e => by have := hr _ e.symm; omega)⟩
theorem SumI.state {w : World} {bs : Nat} {d : List UInt8} {s s' : St} {wr w' : World} (h : SumI w bs d s wr) (hg : wr.grownBy w' (some bs)) (hs : Row w' bs 63 (cellsU s'.list)) : SumI w bs d s' w' :=
  ⟨h.bl.grown hg h.bl.size (fun k hk => by cases hk; have := h.lo; omega), h.lo, h.row.grown hg (fun e => by cases e; have := h.lo; omega), hs⟩
theorem SumI.below {w : World} {bs : Nat} {d : List UInt8} {s : St} {wr w' : World} (h : SumI w bs d s wr) (hb : Below wr.heap.size wr w') : SumI w bs d s w' :=
  ⟨h.bl.trans (hb.mono h.bl.size), h.lo, h.row.below hb h.row.lt, h.st.below hb h.st.lt⟩
theorem SumI.setD {w : World} {bs : Nat} {d : List UInt8} {s : St} {wr : World} (h : SumI w bs d s wr) (i : Nat) (x : UInt8) : SumI w bs (d.set i x) s (wr.setCell ⟨w.heap.size, i, none⟩ (.int .u8 (Y x))) :=
  ⟨h.bl.setCell (Nat.le_refl _) _, h.lo, h.row.setB i x, h.st.other _ _ (by have := h.lo; simp; omega)⟩
theorem SumI.kf {w : World} {bs : Nat} {d : List UInt8} {s : St} {wr : World} (h : SumI w bs d s wr) (hK : KFact w) : KFact wr := hK.below h.bl hK.lt
set_option maxHeartbeats 1000000 in
theorem sum_any (l : List UInt8) (v : Value) (ok : Nat → Prop) (w : World) (hv : Bytes w v l ok) (hK : KFact w) (hl : l.length ≤ 35184372088832) :
    Calls Tryd.prog 37 #[v] w fun e w' => e = .returned (.agg (cellsB (sumOf l))) ∧ Below w.heap.size w w' := by
  obtain ⟨av, cv, rfl⟩ : ∃ a c, v = .slice a l.length c := by obtain ⟨a, c, h, _⟩ := hv; exact ⟨a, c, h⟩
  go_enter Tryd.func37, Tryd.ntmps37
  go_wp2_with fail
  refine (start_any _).mono ?_
  rintro e w1 ⟨rfl, hb1⟩
  have hD1 := (Row.new w (cellsB (List.replicate 32 0)) 23).below hb1 (by simp)
  have hB1 : Below w.heap.size w w1 := ((Below.refl _ _).alloc (Nat.le_refl _) _).trans (hb1.mono (by simp))
  have hz1 : w.heap.size < w1.heap.size := hD1.lt
  clear hb1
  go_wp2_with (refine wpList_store_row rfl 63 (.tmp 3) (.tmp 8) rfl w1.heap.size rfl (cellsU St.init.list) _ 63 rfl (Row.new _ _ _) rfl Tryd.sizeS (cellsU_one _) ?_; intro w2 hg2 hr2 hz2)
  obtain ⟨bs, ebs⟩ : ∃ bs, w1.heap.size = bs := ⟨_, rfl⟩
  have hI2 : SumI w bs (List.replicate 32 0) St.init w2 := by
    rw [ebs] at hg2 hr2
    exact ⟨(hB1.alloc hB1.size _).grown hg2 (by simp; omega) (fun k hk => by cases hk; omega), by omega, (hD1.alloc _).grown hg2 (fun e => by cases e; omega), hr2⟩
  rw [ebs] at hz1 ⊢
  clear hg2 hr2 hz2 hD1 hB1 ebs
  have hKlt := hK.lt
  refine (each_any St.init l (.slice av l.length cv) bs w2 ((hv.later hI2.bl).imp fun b hb => by omega) hI2.st (hI2.kf hK) (by omega)).mono ?_
  rintro e w3 ⟨v3, rfl, hv3, hg3, hs3⟩
  have hI3 := hI2.state hg3 hs3
  clear hg3 hs3 hI2
  obtain ⟨r, er⟩ : ∃ r, l.drop (64 * (l.length / 64)) = r := ⟨_, rfl⟩
  have hrl : Hid (r.length = l.length % 64) := by show r.length = _; rw [← er, List.length_drop]; omega
  have hr63 : r.length ≤ 63 := by have := hrl.out; omega
  rw [er] at hv3
  have ER := Lib.hid er
  clear er
  go_wp2_with fail
  refine (clone_any r v3 _ w3 hv3 (by omega)).mono ?_
  rintro e w4 ⟨v4, rfl, ho4, hb4⟩
  have hI4 := hI3.below hb4
  have hbase : bs < w3.heap.size := hI3.st.lt
  obtain ⟨base, ebase⟩ : ∃ base, w3.heap.size = base := ⟨_, rfl⟩
  have hb4s : base ≤ w4.heap.size := by rw [← ebase]; exact hb4.size
  rw [ebase] at ho4 hbase
  clear hb4 hI3 hv3 ebase
  go_wp2_with (at_builtin; refine wpList_append_bytes rfl (.tmp 14) (.tmp 15) rfl base _ _ r [128] (fun _ => True) rfl (ho4.alloc _) rfl (one_byte _ 128 _ rfl) (by simp; omega) (by simp; omega) ?_; intro v5 w5 ho5 hg5)
  have hI5 := (hI4.alloc (.cells #[.int .u8 128] 5)).grown hg5 (fun k hk => by have := ho4.ownBlock k hk; omega)
  have hb5 : base ≤ w5.heap.size := by have := hg5.size; simp at this; omega
  obtain ⟨g5, c5, ev5, _⟩ := ho5.form (by simp)
  obtain ⟨n5, en5⟩ : ∃ n, (r ++ [128]).length = n := ⟨_, rfl⟩
  rw [en5] at ev5
  subst ev5
  have hn5 : Hid (n5 = r.length + 1 + 0) := by show n5 = _; rw [← en5]; simp
  clear en5
  clear hI4 ho4 hg5 hb4s
  obtain ⟨s3, es3⟩ : ∃ s3, blocks (l.length / 64) St.init l = s3 := ⟨_, rfl⟩
  rw [es3] at hI5
  have ES := Lib.hid es3
  clear es3
  have hpz : padZeros l.length ≤ 63 := by unfold padZeros; omega
  go_loopw [5] (fun v wr => ∃ z g c n : Nat, Hid (n = r.length + 1 + z) ∧ z ≤ padZeros l.length ∧ v = .slice (some ⟨g, 0, none⟩) n c ∧ OwnB wr base v (r ++ [128] ++ List.replicate z 0) ∧ SumI w bs (List.replicate 32 0) s3 wr ∧ base ≤ wr.heap.size) (fun v _ => 200 - lenOf v)
  case atStart => exact ⟨0, g5, c5, n5, hn5, by omega, rfl, by simpa using ho5, hI5, hb5⟩
  case round =>
    clear ho5 hI5 hb5
    obtain ⟨z, g, c, n, hn, hz, rfl, ho, hI, hb⟩ := hrel
    have hn2 : n ≤ 128 := by have := hn.out; omega
    by_cases hlt : z < padZeros l.length
    · have ht : ¬ (n : Int) % 64 = 56 := by have := hn.out; have := hrl.out; unfold padZeros at hlt; omega
      go_wp2_with (at_builtin; refine wpList_append_bytes rfl (.tmp 21) (.tmp 22) rfl base _ _ (r ++ [128] ++ List.replicate z 0) [0] (fun _ => True) rfl (ho.alloc _) rfl (one_byte _ 0 _ rfl) (by simp; omega) (by simp; omega) ?_; intro v6 w6 ho6 hg6)
      have hI6 := (hI.alloc (.cells #[.int .u8 0] 5)).grown hg6 (fun k hk => by have := ho.ownBlock k hk; omega)
      have hb6 : base ≤ w6.heap.size := by have := hg6.size; simp at this; omega
      rw [List.append_assoc _ _ [0], show List.replicate z (0 : UInt8) ++ [0] = List.replicate (z + 1) 0 by rw [List.replicate_succ']] at ho6
      obtain ⟨g6, c6, ev6, _⟩ := ho6.form (by simp; omega)
      obtain ⟨n6, en6⟩ : ∃ n, (r ++ [128] ++ List.replicate (z + 1) 0).length = n := ⟨_, rfl⟩
      rw [en6] at ev6
      subst ev6
      have hn6 : Hid (n6 = r.length + 1 + (z + 1)) := by
        show n6 = _
        simp only [List.length_append, List.length_cons, List.length_nil, List.length_replicate] at en6
        omega
      go_roundw
      case rel => exact ⟨z + 1, g6, c6, n6, hn6, by omega, rfl, ho6, hI6, hb6⟩
      case measure => have := hn.out; have := hn6.out; simp only [lenOf]; omega
    · have hze : z = padZeros l.length := by omega
      have ht : (n : Int) % 64 = 56 := by have := hn.out; have := hrl.out; unfold padZeros at hze; omega
      obtain ⟨t0, et0⟩ : ∃ t0, r ++ [128] ++ List.replicate z (0 : UInt8) = t0 := ⟨_, rfl⟩
      have ht0 : Hid (t0 = r ++ [128] ++ List.replicate (padZeros l.length) 0) := by show t0 = _; rw [← et0, hze]
      rw [et0] at ho
      have hnn : Hid (n = t0.length) := by show n = _; rw [hn.out, ← et0]; simp; omega
      clear et0 hze
      go_wp2
      clear ht
      go_loopw [24, 5] (fun t v wr => ∃ i g c n : Nat, i ≤ 8 ∧ t = .int .i64 (i : Int) ∧ Hid (n = t0.length + i) ∧ v = .slice (some ⟨g, 0, none⟩) n c ∧ OwnB wr base v (t0 ++ (lenBytes l.length).take i) ∧ SumI w bs (List.replicate 32 0) s3 wr ∧ base ≤ wr.heap.size) (fun t _ _ => 8 - (intOf t).toNat)
      case atStart => exact ⟨0, g, c, n, by omega, rfl, hnn, rfl, by simpa using ho, hI, hb⟩
      case round =>
        clear ho hI hb
        obtain ⟨i, g', c', n', hi, rfl, hn', rfl, ho, hI, hb⟩ := hrel
        by_cases hlt8 : i < 8
        · have hE := lenB_eq l.length i hl
          have hn2' : n' ≤ 200 := by have := hn'.out; have := hnn.out; omega
          have htl : t0.length ≤ 128 := by have := hnn.out; omega
          have hi8 : i ≤ 8 := hi
          go_wp2_with (at_builtin; refine wpList_append_bytes rfl (.tmp 27) (.tmp 37) rfl base _ _ (t0 ++ (lenBytes l.length).take i) [lenB l.length i] (fun _ => True) rfl (ho.alloc _) rfl (one_byte _ _ _ rfl) (by simp [lenBytes]; omega) (by simp; omega) ?_; intro v6 w6 ho6 hg6)
          have hI6 := (hI.alloc (.cells #[.int .u8 (Y (lenB l.length i))] 5)).grown hg6 (fun k hk => by have := ho.ownBlock k hk; omega)
          have hb6 : base ≤ w6.heap.size := by have := hg6.size; simp at this; omega
          rw [List.append_assoc, ← lenBytes_take _ _ hlt8] at ho6
          obtain ⟨g6, c6, ev6, _⟩ := ho6.form (by rw [lenBytes_take _ _ hlt8]; simp; omega)
          obtain ⟨n6, en6⟩ : ∃ n, (t0 ++ (lenBytes l.length).take (i + 1)).length = n := ⟨_, rfl⟩
          rw [en6] at ev6
          subst ev6
          have hn6 : Hid (n6 = t0.length + (i + 1)) := by
            show n6 = _
            rw [← en6, List.length_append, List.length_take, show (lenBytes l.length).length = 8 from rfl]; omega
          go_roundw
          case rel => exact ⟨i + 1, g6, c6, n6, by omega, by go_num, hn6, rfl, ho6, hI6, hb6⟩
          case measure => simp [intOf]; omega
        · rw [lenBytes_all _ _ (show i = 8 by omega)] at ho
          obtain ⟨t1, et1⟩ : ∃ t1, t0 ++ lenBytes l.length = t1 := ⟨_, rfl⟩
          have ht1 : Hid (t1 = r ++ padding l.length) := by show t1 = _; rw [← et1, ht0.out]; unfold padding; simp only [List.append_assoc]
          rw [et1] at ho
          have hbt := ho.bytes (fun b => b ≠ bs) (fun b hb => by omega)
          have hKr := hI.kf hK
          clear et1
          go_wp2_with fail
          refine (each_any s3 t1 _ bs _ hbt hI.st hKr (by omega)).mono ?_
          rintro e w7 ⟨v7, rfl, _, hg7, hs7⟩
          have hI7 := hI.state hg7 hs7
          clear hg7 hs7 hI ho hbt hKr
          obtain ⟨s4, es4⟩ : ∃ s4, blocks (t1.length / 64) s3 t1 = s4 := ⟨_, rfl⟩
          rw [es4] at hI7
          have hsum : Hid (sumOf l = digestOf s4) := by
            show sumOf l = _
            rw [sumOf_parts, ES.out, ER.out, ← ht1.out, es4]
          clear es4
          go_wp2
          go_loopw [43] (fun t wr => ∃ i : Nat, i ≤ 32 ∧ t = .int .i64 (i : Int) ∧ SumI w bs (dRow s4 i) s4 wr) (fun t _ => 32 - (intOf t).toNat)
          case atStart => exact ⟨0, by omega, rfl, hI7⟩
          case round =>
            clear hI7
            obtain ⟨i, hi, rfl, hI⟩ := hrel
            by_cases hlt32 : i < 32
            · have c1 := hI.st.word (i / 4) (show i / 4 < 8 by omega)
              have c2 := hI.row.byte i (by rw [dRow_len _ _ hi]; exact hlt32)
              have f2 := hI.row.free i
              have hE := dByte_eq s4 i hlt32
              have hwd := wd_bd s4.list (i / 4)
              go_wp2
              have hset := hI.setD i ((digestOf s4).getD i 0)
              rw [dRow_set _ _ hlt32] at hset
              go_roundw
              case rel => exact ⟨i + 1, by omega, by go_num, by simpa using hset⟩
              case measure => simp [intOf]; omega
            · rw [dRow_all _ _ (show i = 32 by omega)] at hI
              have hdl : (cellsB (digestOf s4)).size = 32 := cellsB_size _
              have hszd := Tryd.sizeD
              rw [← hdl] at hszd
              have HSZ := Lib.hid hszd
              clear hszd hdl
              go_wp2_with (first | (refine wpList_load_row rfl 23 (.tmp 2) rfl w.heap.size rfl 23 (cellsB (digestOf s4)) (0, 0) _ hI.row Tryd.underD rfl HSZ.out ?_) | (refine wpList_store_row rfl 23 (.tmp 2) (.tmp 59) rfl w.heap.size rfl (cellsB (digestOf s4)) _ 23 rfl hI.row rfl HSZ.out (cellsB_one _) ?_; intro w9 hg9 hr9 hz9))
              refine bodyPost_ret (v := .agg (cellsB (digestOf s4))) (results_cell_row rfl _ _ w.heap.size 23 (cellsB (digestOf s4)) (0, 0) _ rfl hr9 Tryd.underD rfl HSZ.out) rfl ⟨by rw [hsum.out], ?_⟩
              exact hI.bl.grown hg9 hI.bl.size (fun k hk => by cases hk; exact Nat.le_refl _)
end Go.Proofs.YthhlfcbkggahmaaDoor

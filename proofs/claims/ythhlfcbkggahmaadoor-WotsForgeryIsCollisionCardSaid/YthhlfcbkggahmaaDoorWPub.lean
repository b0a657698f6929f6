/- wots.Public, Recover, Verify. Conditions: the constants lie in their variable. -/
import Derived.Test.YthhlfcbkggahmaaDoorWWalk
import Derived.Test.YthhlfcbkggahmaaDoorEq
namespace Go.Proofs.YthhlfcbkggahmaaDoor
open Go.RowKit
def r15 (i : Nat) : List Nat := List.replicate i 15 ++ List.replicate (18 - i) 0
theorem r15_len (i : Nat) (h : i ≤ 18) : (r15 i).length = 18 := by unfold r15; simp; omega
theorem r15_set (i : Nat) (h : i < 18) : (r15 i).set i 15 = r15 (i + 1) := by
  unfold r15
  rw [List.set_append_right _ _ (by simp)]
  simp only [List.length_replicate, Nat.sub_self]
  rw [show 18 - i = (18 - (i + 1)) + 1 by omega, List.replicate_succ, List.set_cons_zero, List.replicate_succ', List.append_assoc]
  rfl
theorem r15_all (i : Nat) (hi : i < 18) : (r15 18).getD i 0 = 15 := by
  unfold r15
  rw [List.getD_eq_getElem?_getD, List.getElem?_append_left (by simpa using hi), List.getElem?_replicate, if_pos hi]; rfl
theorem errR_ok {seed : List UInt8} {idx : Int} (h : okSeed seed idx = true) : errR seed idx = 0 := by unfold errR; rw [if_pos h]
theorem errR_bad {seed : List UInt8} {idx : Int} (h : okSeed seed idx = false) : errR seed idx = 1 := by unfold errR; rw [if_neg (by rw [h]; decide)]
set_option maxRecDepth 10000 in
set_option maxHeartbeats 2000000 in
theorem public_any (seed : List UInt8) (v : Value) (idx : Int) (w : World) (hv : Bytes w v seed (fun _ => True)) (hK : KFact w) :
    Calls Tryd.prog 15 #[v, .int .i64 idx] w fun e w' => e = .returned (.tuple #[.agg (cellsB (pubR seed idx)), .int .i64 (errR seed idx : Nat)]) ∧ Below w.heap.size w w' := by
  have hkl := hK.lt
  obtain ⟨av, kv, rfl⟩ : ∃ a c, v = .slice a seed.length c := by obtain ⟨a, c, h, _⟩ := hv; exact ⟨a, c, h⟩
  have hb0 : Below w.heap.size w ((w.alloc (.cells (cellsB (List.replicate 32 0)) 23)).alloc (.cells (cellsN (r15 0)) 48)) := ((Below.refl _ _).alloc (Nat.le_refl _) _).alloc (by simp) _
  have hD0 : Row ((w.alloc (.cells (cellsB (List.replicate 32 0)) 23)).alloc (.cells (cellsN (r15 0)) 48)) w.heap.size 23 (cellsB (List.replicate 32 0)) := (Row.new w _ _).alloc _
  have hn0 : Row ((w.alloc (.cells (cellsB (List.replicate 32 0)) 23)).alloc (.cells (cellsN (r15 0)) 48)) (w.heap.size + 1) 48 (cellsN (r15 0)) := by
    have h := Row.new (w.alloc (.cells (cellsB (List.replicate 32 0)) 23)) (cellsN (r15 0)) 48
    rwa [show (w.alloc (.cells (cellsB (List.replicate 32 0)) 23)).heap.size = w.heap.size + 1 by simp] at h
  go_enter Tryd.func15, Tryd.ntmps15
  go_wp2
  go_loopw [10] (fun t wr => ∃ i : Nat, i ≤ 18 ∧ t = .int .i64 (i : Int) ∧ Below w.heap.size w wr ∧ Row wr w.heap.size 23 (cellsB (List.replicate 32 0)) ∧ Row wr (w.heap.size + 1) 48 (cellsN (r15 i))) (fun t _ => 18 - (intOf t).toNat)
  case atStart => exact ⟨0, by omega, rfl, hb0, hD0, hn0⟩
  case round =>
    clear hb0 hD0 hn0
    obtain ⟨i, hi, rfl, hb, hD, hn⟩ := hrel
    by_cases hlt : i < 18
    · have f2 := hn.free i
      have c2 := hn.num i (by rw [r15_len i hi]; exact hlt)
      have hset := hn.setN i 15
      rw [r15_set i hlt] at hset
      go_wp2
      go_roundw
      case rel => exact ⟨i + 1, by omega, by go_num, hb.setCell (by simp) _, hD.other _ _ (by simp), hset⟩
      case measure => simp [intOf]; omega
    · obtain rfl : i = 18 := by omega
      have HSN := Lib.hid (Tryd.size18_of (r15 18) (r15_len 18 (by decide)))
      have hv1 := (hv.later hb).imp (ok' := fun _ => True) fun _ _ => trivial
      have hK1 := hK.below hb hkl
      clear hv
      go_wp2_with (refine wpList_load_row rfl 48 (.tmp 6) rfl (w.heap.size + 1) rfl 48 (cellsN (r15 18)) (0, 0) _ hn Tryd.under18 rfl HSN.out ?_)
      refine (walk_any seed _ idx (r15 18) (fun _ => 15) wr hv1 (r15_len 18 (by decide)) (fun i hi => r15_all i hi) (fun _ _ => Nat.le_refl _) hK1).mono ?_
      rintro e w2 ⟨r, rfl, hr, hb2⟩
      have hB2 := hb.trans (hb2.mono hb.size)
      have hD2 := hD.below hb2 hD.lt
      have hK2 := hK1.below hb2 hK1.lt
      clear hb hn hD hb2 hv1 hK1
      cases hc : okSeed seed idx with
      | true =>
        have hp : pubR seed idx = keyOf (walkR seed idx fun _ => 15) := by unfold pubR walkR; rw [if_pos hc, if_pos hc]; rfl
        have HE := Lib.hid (errR_ok hc)
        rw [errR_ok hc]
        obtain ⟨xs, hxs⟩ : ∃ xs, walkR seed idx (fun _ => 15) = xs := ⟨_, rfl⟩
        have h32 : all32 xs := by rw [← hxs]; exact walkR_32 _ _ _
        have hxl : xs.length ≤ 18 := by rw [← hxs]; exact walkR_len _ _ _
        rw [hxs] at hr hp
        have HP := Lib.hid hp
        clear hxs hp hc
        go_wp2_with fail
        refine (key_any xs r w2 hr h32 (by omega) hK2).mono ?_
        rintro e w3 ⟨rfl, hb3⟩
        have hB3 := hB2.trans (hb3.mono hB2.size)
        have hD3 := hD2.below hb3 hD2.lt
        have HSZ := Lib.hid (Tryd.sizeD_of _ (keyOf_len xs))
        have HCS : Hid ((cellsB (keyOf xs)).size = (cellsB (List.replicate 32 0)).size) := Lib.hid (by rw [cellsB_size, keyOf_len]; rfl)
        clear hB2 hD2 hb3 hr
        go_wp2_with (refine wpList_store_row rfl 23 (.tmp 4) (.tmp 28) rfl w.heap.size rfl (cellsB (keyOf xs)) _ 23 rfl hD3 HCS.out HSZ.out (cellsB_one _) ?_; intro w9 hg9 hr9 hz9)
        refine bodyPost_ret (results_cell_row_tmp rfl _ _ w.heap.size 23 (cellsB (keyOf xs)) (0, 0) _ rfl hr9 Tryd.underD rfl HSZ.out) rfl ⟨by rw [HP.out, HE.out]; rfl, ?_⟩
        exact hB3.grown hg9 hB3.size (fun k hk => by cases hk; exact Nat.le_refl _)
      | false =>
        have hp : pubR seed idx = zeroD := by unfold pubR; rw [if_neg (by rw [hc]; decide)]
        have HE := Lib.hid (errR_bad hc)
        have HP := Lib.hid hp
        rw [errR_bad hc]
        clear hp hc
        have HSZ := Lib.hid (Tryd.sizeD_of zeroD rfl)
        have HCS : Hid ((cellsB zeroD).size = (cellsB (List.replicate 32 0)).size) := rfl
        go_wp2_with (refine wpList_store_row rfl 23 (.tmp 4) (.tmp 25) rfl w.heap.size rfl (cellsB zeroD) _ 23 rfl hD2 HCS.out HSZ.out (cellsB_one _) ?_; intro w9 hg9 hr9 hz9)
        refine bodyPost_ret (results_cell_row_tmp rfl _ _ w.heap.size 23 (cellsB zeroD) (0, 0) _ rfl hr9 Tryd.underD rfl HSZ.out) rfl ⟨by rw [HP.out, HE.out]; rfl, ?_⟩
        exact hB2.grown hg9 hB2.size (fun k hk => by cases hk; exact Nat.le_refl _)
theorem errS_ok {sig : List (List UInt8)} (h : sig.length = 18) : errS sig = 0 := by unfold errS; rw [if_pos h]
theorem errS_bad {sig : List (List UInt8)} (h : ¬ sig.length = 18) : errS sig = 1 := by unfold errS; rw [if_neg h]
set_option maxRecDepth 10000 in
set_option maxHeartbeats 2000000 in
theorem recover_any (d : List UInt8) (sig : List (List UInt8)) (v : Value) (w : World) (hd : d.length = 32) (hv : Digs w v sig) (h32 : all32 sig) (hK : KFact w) :
    Calls Tryd.prog 20 #[.agg (cellsB d), v] w fun e w' => e = .returned (.tuple #[.agg (cellsB (recR d sig)), .int .i64 (errS sig : Nat)]) ∧ Below w.heap.size w w' := by
  have hkl := hK.lt
  obtain ⟨av, kv, rfl⟩ := hv.form
  have HD := Lib.hid hd
  have HSD := Lib.hid (Tryd.sizeD_of d hd)
  clear hd
  have e1 : (w.alloc (.cells (cellsB d) 23)).heap.size = w.heap.size + 1 := by simp
  have e2 : ∀ o, ((w.alloc (.cells (cellsB d) 23)).alloc o).heap.size = w.heap.size + 1 + 1 := by simp
  have hb0 : Below w.heap.size w (((w.alloc (.cells (cellsB d) 23)).alloc (.cells #[.slice av sig.length kv] 33)).alloc (.cells (cellsB (List.replicate 32 0)) 23)) := (((Below.refl _ _).alloc (Nat.le_refl _) _).alloc (by omega) _).alloc (by rw [e2]; omega) _
  have hd0 : Row (((w.alloc (.cells (cellsB d) 23)).alloc (.cells #[.slice av sig.length kv] 33)).alloc (.cells (cellsB (List.replicate 32 0)) 23)) w.heap.size 23 (cellsB d) := ((Row.new w _ _).alloc _).alloc _
  have hs0 : Row (((w.alloc (.cells (cellsB d) 23)).alloc (.cells #[.slice av sig.length kv] 33)).alloc (.cells (cellsB (List.replicate 32 0)) 23)) (w.heap.size + 1) 33 #[.slice av sig.length kv] := by
    have h := (Row.new (w.alloc (.cells (cellsB d) 23)) #[.slice av sig.length kv] 33).alloc (.cells (cellsB (List.replicate 32 0)) 23)
    rwa [e1] at h
  have hD0 : Row (((w.alloc (.cells (cellsB d) 23)).alloc (.cells #[.slice av sig.length kv] 33)).alloc (.cells (cellsB (List.replicate 32 0)) 23)) (w.heap.size + 1 + 1) 23 (cellsB (List.replicate 32 0)) := by
    have h := Row.new ((w.alloc (.cells (cellsB d) 23)).alloc (.cells #[.slice av sig.length kv] 33)) (cellsB (List.replicate 32 0)) 23
    rwa [e2] at h
  clear e1 e2
  by_cases hl : sig.length = 18
  · have HE := Lib.hid (errS_ok hl)
    have HP : Hid (recR d sig = keyOf (endsOf d sig)) := by show _ = _; unfold recR; rw [if_pos hl]; rfl
    rw [hl] at hv hb0 hd0 hs0 hD0 ⊢
    have HL := Lib.hid hl
    have HKL := Lib.hid (keyOf_len (endsOf d sig))
    clear hl
    go_enter Tryd.func20, Tryd.ntmps20
    go_wp2_with (refine wpList_load_row rfl 23 (.tmp 2) rfl w.heap.size rfl 23 (cellsB d) (0, 0) _ hd0 Tryd.underD rfl HSD.out ?_)
    refine (lengths_any d _ HD.out).mono ?_
    rintro e w1 ⟨rfl, hb1⟩
    have hB1 := hb0.trans (hb1.mono hb0.size)
    have hs1 := hs0.below hb1 hs0.lt
    have hD1 := hD0.below hb1 hD0.lt
    clear hb0 hd0 hs0 hD0 hb1
    have HSN := Lib.hid (Tryd.size18_of (nibs d) (nibs_len d))
    have HZ : Hid ((cellsN (nibs d)).size = (cellsN (List.replicate 18 0)).size) := Lib.hid (by rw [cellsN_size, nibs_len]; rfl)
    go_wp2_with (refine wpList_store_row rfl 48 (.tmp 6) (.tmp 12) rfl w1.heap.size rfl (cellsN (nibs d)) (cellsN (List.replicate 18 0)) 48 rfl (Row.new w1 _ _) HZ.out HSN.out (cellsN_one _) ?_; intro w2 hg2 hr2 hz2)
    have hb2 : Below w1.heap.size w1 w2 := ((Below.refl _ _).alloc (Nat.le_refl _) _).grown hg2 (by simp) (fun k hk => by cases hk; exact Nat.le_refl _)
    have hB2 := hB1.trans (hb2.mono hB1.size)
    have hs2 := hs1.below hb2 hs1.lt
    have hD2 := hD1.below hb2 hD1.lt
    have hv2 := hv.later hB2
    have hK2 := hK.below hB2 hkl
    have hkl2 := hK2.lt
    clear hs1 hD1 hg2 hv hz2
    refine (weach_any 36 _ (fun i => chainOf (sig.getD i []) (15 - nib d i)) w2 enters_rec1 (fun i hi => chainOf_len _ (all32_getD h32 i (by rw [HL.out]; exact hi)) _) (fun i w' hi hb => ?_)).mono ?_
    · exact rec1_any i sig (.slice av 18 kv) (w.heap.size + 1) w1.heap.size (nibs d) (nib d i) w' hi h32 HL.out (hv2.later hb) ((hs2.below hb hs2.lt).cell 0) (hr2.below hb hr2.lt) (nibs_len d) (by rw [List.getD_eq_getElem?_getD, nibs_get d i hi]; rfl) (nib_le d i) (hK2.below hb hkl2)
    · rintro e w3 ⟨r, rfl, hr, hb3⟩
      have hB3 := hB2.trans (hb3.mono hB2.size)
      have hD3 := hD2.below hb3 hD2.lt
      have hK3 := hK2.below hb3 hkl2
      have hr' : Digs w3 r (endsOf d sig) := hr
      clear hr hB2 hs2 hD2 hv2 hK2 hb3
      have h32e := endsOf_32 d sig h32 HL.out
      have hle := endsOf_len d sig
      generalize endsOf d sig = xs at *
      go_wp2_with fail
      refine (key_any xs r w3 hr' h32e (by omega) hK3).mono ?_
      rintro e w4 ⟨rfl, hb4⟩
      have hB4 := hB3.trans (hb4.mono hB3.size)
      have hD4 := hD3.below hb4 hD3.lt
      have HSZ := Lib.hid (Tryd.sizeD_of _ (keyOf_len xs))
      have HCS : Hid ((cellsB (keyOf xs)).size = (cellsB (List.replicate 32 0)).size) := Lib.hid (by rw [cellsB_size, keyOf_len]; rfl)
      clear hB3 hD3 hb4 hr' hK3
      go_wp2_with (refine wpList_store_row rfl 23 (.tmp 4) (.tmp 15) rfl (w.heap.size + 1 + 1) rfl (cellsB (keyOf xs)) _ 23 rfl hD4 HCS.out HSZ.out (cellsB_one _) ?_; intro w9 hg9 hr9 hz9)
      refine bodyPost_ret (results_cell_row_tmp rfl _ _ (w.heap.size + 1 + 1) 23 (cellsB (keyOf xs)) (0, 0) _ rfl hr9 Tryd.underD rfl HSZ.out) rfl ⟨by rw [HP.out, HE.out]; rfl, ?_⟩
      exact hB4.grown hg9 hB4.size (fun k hk => by cases hk; omega)
  · have HE := Lib.hid (errS_bad hl)
    have HP : Hid (recR d sig = zeroD) := by show _ = _; unfold recR; rw [if_neg hl]
    have HSZ := Lib.hid (Tryd.sizeD_of zeroD rfl)
    have HCS : Hid ((cellsB zeroD).size = (cellsB (List.replicate 32 0)).size) := rfl
    have hl2 : ¬ (sig.length : Int) = 18 := by omega
    clear hv
    generalize sig.length = n at *
    go_enter Tryd.func20, Tryd.ntmps20
    go_wp2_with (refine wpList_store_row rfl 23 (.tmp 4) (.tmp 10) rfl (w.heap.size + 1 + 1) rfl (cellsB zeroD) _ 23 rfl hD0 HCS.out HSZ.out (cellsB_one _) ?_; intro w9 hg9 hr9 hz9)
    refine bodyPost_ret (results_cell_row_tmp rfl _ _ (w.heap.size + 1 + 1) 23 (cellsB zeroD) (0, 0) _ rfl hr9 Tryd.underD rfl HSZ.out) rfl ⟨by rw [HP.out, HE.out]; rfl, ?_⟩
    exact hb0.grown hg9 hb0.size (fun k hk => by cases hk; omega)
end Go.Proofs.YthhlfcbkggahmaaDoor

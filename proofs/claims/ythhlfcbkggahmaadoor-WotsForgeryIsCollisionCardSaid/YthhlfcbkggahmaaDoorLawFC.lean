/- crossbarlaw04.WotsForgeryIsCollision returns true. Conditions: the digests have 32 bytes, the tables lie in their variables. -/
import Derived.Test.YthhlfcbkggahmaaDoorWAsrt
import Derived.Test.YthhlfcbkggahmaaDoorLawEN
namespace Go.Proofs.YthhlfcbkggahmaaDoor
open Go.RowKit
theorem signR_len {seed : List UInt8} {idx : Int} {d : List UInt8} (h : okSeed seed idx = true) : (signR seed idx d).length = 18 := by
  unfold signR walkR; rw [if_pos h]; exact walkOf_len _ _ _
theorem ver_key {x d : List UInt8} {sig : List (List UInt8)} (h : verB x d sig = true) : sig.length = 18 ∧ taggedOf pubTag (endsOf d sig).flatten = x := by
  unfold verB at h
  obtain ⟨h1, h2⟩ := Bool.and_eq_true_iff.1 h
  have hl : sig.length = 18 := by
    by_cases hl : sig.length = 18
    · exact hl
    · have := of_decide_eq_true h1
      unfold errS at this
      rw [if_neg hl] at this
      cases this
  have hr := of_decide_eq_true h2
  unfold recR at hr
  rw [if_pos hl] at hr
  exact ⟨hl, hr⟩
theorem lists_same {a b : List (List UInt8)} (ha : a.length = 18) (hb : b.length = 18) (h : ∀ j, j < 18 → a.getD j [] = b.getD j []) : a = b := by
  rw [← tab_of a ha, ← tab_of b hb]
  exact tab_congr h
theorem getElem_by8 {l : List UInt8} (j : Nat) (hj : j < l.length) : by8 l j = (l[j].toNat : Int) := by
  unfold by8 Y
  rw [List.getD_eq_getElem?_getD, List.getElem?_eq_getElem hj]; rfl
theorem bytes_cells {w : World} {b o : Nat} {l : List UInt8} (h : BytesAt w b o l) (j : Nat) (hj : j < l.length) : w.cell? ((⟨b, o, none⟩ : Addr).add j) = some (.int .u8 (l[j].toNat : Int)) := by
  have hadd : (⟨b, o, none⟩ : Addr).add j = ⟨b, o + j, none⟩ := by unfold Addr.add; split <;> simp_all
  rw [hadd, h j hj, getElem_by8 j hj]
theorem bytesAt_below {w w' : World} {b o : Nat} {l : List UInt8} (h : BytesAt w b o l) (hb : Below w.heap.size w w') : BytesAt w' b o l := fun i hi => (hb.cell (p := ⟨b, o + i, none⟩) (block_lt_of_cell (h i hi))).trans (h i hi)
theorem bytes_at {w : World} {v : Value} {l : List UInt8} (h : Bytes w v l (fun _ => True)) (hn : 0 < l.length) : ∃ b o c, v = .slice (some ⟨b, o, none⟩) l.length c ∧ BytesAt w b o l := by
  obtain ⟨a, c, rfl, h1, h2, ⟨rfl, _⟩ | ⟨b, o, rfl, _, hat⟩⟩ := h
  · simp at hn
  · exact ⟨b, o, c, rfl, hat⟩
set_option maxRecDepth 100000 in
set_option maxHeartbeats 4000000 in
theorem fc_big1 (seed : List UInt8) (v : Value) (idx : Int) (d : List UInt8) (fv : Value) (fg : List (List UInt8)) (w : World) (hv : Bytes w v seed (fun _ => True)) (hd : d.length = 32) (hf : Digs w fv fg) (hf32 : all32 fg) (hK : KFact w) (hc : 200 < seed.length) :
    Calls Tryd.prog 9 #[v, .int .i64 idx, .agg (cellsB d), fv] w fun e w' => e = .returned (.bool true) ∧ Below w.heap.size w w' := by
  have hkl := hK.lt
  have HD := Lib.hid hd
  have HSD := Lib.hid (Tryd.sizeD_of d hd)
  have HF32 := Lib.hid hf32
  clear hd hf32
  obtain ⟨av, kv, rfl⟩ : ∃ a c, v = .slice a seed.length c := by obtain ⟨a, c, h, _⟩ := hv; exact ⟨a, c, h⟩
  obtain ⟨af, kf, rfl⟩ := hf.form
  have hb0 : Below w.heap.size w (w.alloc (.cells (cellsB d) 23)) := (Below.refl _ _).alloc (Nat.le_refl _) _
  have hd0 : Row (w.alloc (.cells (cellsB d) 23)) w.heap.size 23 (cellsB d) := Row.new w _ _
  go_enter Tryd.func9, Tryd.ntmps9
  go_wp2_with fail
  refine (sane_any _ (hK.below hb0 hkl)).mono ?_
  rintro e w0 ⟨rfl, hb1⟩
  have hB0 := hb0.trans (hb1.mono hb0.size)
  have hdw := hd0.below hb1 hd0.lt
  clear hb0 hd0 hb1
  go_wp2
  go_ret
  exact ⟨rfl, hB0⟩
set_option maxRecDepth 100000 in
set_option maxHeartbeats 4000000 in
theorem fc_big2 (seed : List UInt8) (v : Value) (idx : Int) (d : List UInt8) (fv : Value) (fg : List (List UInt8)) (w : World) (hv : Bytes w v seed (fun _ => True)) (hd : d.length = 32) (hf : Digs w fv fg) (hf32 : all32 fg) (hK : KFact w) (hc0 : ¬ 200 < seed.length) (hc : 40 < fg.length) :
    Calls Tryd.prog 9 #[v, .int .i64 idx, .agg (cellsB d), fv] w fun e w' => e = .returned (.bool true) ∧ Below w.heap.size w w' := by
  have hkl := hK.lt
  have HD := Lib.hid hd
  have HSD := Lib.hid (Tryd.sizeD_of d hd)
  have HF32 := Lib.hid hf32
  clear hd hf32
  obtain ⟨av, kv, rfl⟩ : ∃ a c, v = .slice a seed.length c := by obtain ⟨a, c, h, _⟩ := hv; exact ⟨a, c, h⟩
  obtain ⟨af, kf, rfl⟩ := hf.form
  have hb0 : Below w.heap.size w (w.alloc (.cells (cellsB d) 23)) := (Below.refl _ _).alloc (Nat.le_refl _) _
  have hd0 : Row (w.alloc (.cells (cellsB d) 23)) w.heap.size 23 (cellsB d) := Row.new w _ _
  go_enter Tryd.func9, Tryd.ntmps9
  go_wp2_with fail
  refine (sane_any _ (hK.below hb0 hkl)).mono ?_
  rintro e w0 ⟨rfl, hb1⟩
  have hB0 := hb0.trans (hb1.mono hb0.size)
  have hdw := hd0.below hb1 hd0.lt
  clear hb0 hd0 hb1
  go_wp2
  go_ret
  exact ⟨rfl, hB0⟩
set_option maxRecDepth 100000 in
set_option maxHeartbeats 4000000 in
theorem fc_no (seed : List UInt8) (v : Value) (idx : Int) (d : List UInt8) (fv : Value) (fg : List (List UInt8)) (w : World) (hv : Bytes w v seed (fun _ => True)) (hd : d.length = 32) (hf : Digs w fv fg) (hf32 : all32 fg) (hK : KFact w) (hc0 : ¬ 200 < seed.length) (hc : ¬ 40 < fg.length) (hok : okSeed seed idx = false) :
    Calls Tryd.prog 9 #[v, .int .i64 idx, .agg (cellsB d), fv] w fun e w' => e = .returned (.bool true) ∧ Below w.heap.size w w' := by
  have hkl := hK.lt
  have HD := Lib.hid hd
  have HSD := Lib.hid (Tryd.sizeD_of d hd)
  have HF32 := Lib.hid hf32
  clear hd hf32
  obtain ⟨av, kv, rfl⟩ : ∃ a c, v = .slice a seed.length c := by obtain ⟨a, c, h, _⟩ := hv; exact ⟨a, c, h⟩
  obtain ⟨af, kf, rfl⟩ := hf.form
  have hb0 : Below w.heap.size w (w.alloc (.cells (cellsB d) 23)) := (Below.refl _ _).alloc (Nat.le_refl _) _
  have hd0 : Row (w.alloc (.cells (cellsB d) 23)) w.heap.size 23 (cellsB d) := Row.new w _ _
  go_enter Tryd.func9, Tryd.ntmps9
  go_wp2_with fail
  refine (sane_any _ (hK.below hb0 hkl)).mono ?_
  rintro e w0 ⟨rfl, hb1⟩
  have hB0 := hb0.trans (hb1.mono hb0.size)
  have hdw := hd0.below hb1 hd0.lt
  clear hb0 hd0 hb1
  have hv0 := (hv.later hB0).imp (ok' := fun _ => True) fun _ _ => trivial
  go_wp2_with fail
  refine (public_any seed _ idx w0 hv0 (hK.below hB0 hkl)).mono ?_
  rintro e w1 ⟨rfl, hb1⟩
  obtain ⟨x, hx⟩ : ∃ x, pubR seed idx = x := ⟨_, rfl⟩
  have hxl : x.length = 32 := by rw [← hx]; exact pubR_len _ _
  have HX := Lib.hid hxl
  have HSX := Lib.hid (Tryd.sizeD_of x hxl)
  have HCX : Hid ((cellsB x).size = (cellsB (List.replicate 32 0)).size) := Lib.hid (by rw [cellsB_size, hxl]; rfl)
  have HER := Lib.hid (errR_bad hok)
  rw [hx, HER.out]
  have HXE := Lib.hid hx
  have hB1 := hB0.trans (hb1.mono hB0.size)
  have hd1 := hdw.below hb1 hdw.lt
  clear hx hxl hb1 hdw
  go_wp2_with (first | (refine wpList_store_row rfl 23 (.tmp 9) (.tmp 31) rfl w1.heap.size rfl (cellsB x) (cellsB (List.replicate 32 0)) 23 rfl (Row.new w1 _ _) HCX.out HSX.out (cellsB_one _) ?_; intro w2 hgw2 hrw2 hzw2; clear hzw2; have hbw2 := box_below hgw2; clear hgw2; have hd2 := hd1.below hbw2 hd1.lt) | (refine wpList_load_row rfl 23 (.tmp 6) rfl w.heap.size rfl 23 (cellsB d) (0, 0) _ hd2 Tryd.underD rfl HSD.out ?_))
  have hB2 := hB1.trans (hbw2.mono hB1.size)
  have hv2 := (hv.later hB2).imp (ok' := fun _ => True) fun _ _ => trivial
  clear hd1 hbw2
  refine (sign_any seed d _ idx w2 hv2 HD.out (hK.below hB2 hkl)).mono ?_
  rintro e w3 ⟨s1, rfl, hs1, hb3⟩
  rw [HER.out]
  have hB3 := hB2.trans (hb3.mono hB2.size)
  have hd3 := hd2.below hb3 hd2.lt
  have hr3 := hrw2.below hb3 hrw2.lt
  have hf3 := hf.later hB3
  clear hd2 hrw2 hb3
  go_wp2
  go_ret
  exact ⟨rfl, hB3⟩
set_option maxRecDepth 100000 in
set_option maxHeartbeats 4000000 in
theorem fc_ok (seed : List UInt8) (v : Value) (idx : Int) (d : List UInt8) (fv : Value) (fg : List (List UInt8)) (w : World) (hv : Bytes w v seed (fun _ => True)) (hd : d.length = 32) (hf : Digs w fv fg) (hf32 : all32 fg) (hK : KFact w) (hc0 : ¬ 200 < seed.length) (hc : ¬ 40 < fg.length) (hok : okSeed seed idx = true) :
    Calls Tryd.prog 9 #[v, .int .i64 idx, .agg (cellsB d), fv] w fun e w' => e = .returned (.bool true) ∧ Below w.heap.size w w' := by
  have hkl := hK.lt
  have HD := Lib.hid hd
  have HSD := Lib.hid (Tryd.sizeD_of d hd)
  have HF32 := Lib.hid hf32
  clear hd hf32
  obtain ⟨av, kv, rfl⟩ : ∃ a c, v = .slice a seed.length c := by obtain ⟨a, c, h, _⟩ := hv; exact ⟨a, c, h⟩
  obtain ⟨af, kf, rfl⟩ := hf.form
  have hb0 : Below w.heap.size w (w.alloc (.cells (cellsB d) 23)) := (Below.refl _ _).alloc (Nat.le_refl _) _
  have hd0 : Row (w.alloc (.cells (cellsB d) 23)) w.heap.size 23 (cellsB d) := Row.new w _ _
  go_enter Tryd.func9, Tryd.ntmps9
  generalize hRR : Code.region 14 _ _ = RR
  go_wp2_with fail
  refine (sane_any _ (hK.below hb0 hkl)).mono ?_
  rintro e w0 ⟨rfl, hb1⟩
  have hB0 := hb0.trans (hb1.mono hb0.size)
  have hdw := hd0.below hb1 hd0.lt
  clear hb0 hd0 hb1
  have hv0 := (hv.later hB0).imp (ok' := fun _ => True) fun _ _ => trivial
  go_wp2_with fail
  refine (public_any seed _ idx w0 hv0 (hK.below hB0 hkl)).mono ?_
  rintro e w1 ⟨rfl, hb1⟩
  obtain ⟨x, hx⟩ : ∃ x, pubR seed idx = x := ⟨_, rfl⟩
  have hxl : x.length = 32 := by rw [← hx]; exact pubR_len _ _
  have HX := Lib.hid hxl
  have HSX := Lib.hid (Tryd.sizeD_of x hxl)
  have HCX : Hid ((cellsB x).size = (cellsB (List.replicate 32 0)).size) := Lib.hid (by rw [cellsB_size, hxl]; rfl)
  have HER := Lib.hid (errR_ok hok)
  rw [hx, HER.out]
  have HXE := Lib.hid hx
  have hB1 := hB0.trans (hb1.mono hB0.size)
  have hd1 := hdw.below hb1 hdw.lt
  clear hx hxl hb1 hdw
  go_wp2_with (first | (refine wpList_store_row rfl 23 (.tmp 9) (.tmp 31) rfl w1.heap.size rfl (cellsB x) (cellsB (List.replicate 32 0)) 23 rfl (Row.new w1 _ _) HCX.out HSX.out (cellsB_one _) ?_; intro w2 hgw2 hrw2 hzw2; clear hzw2; have hbw2 := box_below hgw2; clear hgw2; have hd2 := hd1.below hbw2 hd1.lt) | (refine wpList_load_row rfl 23 (.tmp 6) rfl w.heap.size rfl 23 (cellsB d) (0, 0) _ hd2 Tryd.underD rfl HSD.out ?_))
  have hB2 := hB1.trans (hbw2.mono hB1.size)
  have hv2 := (hv.later hB2).imp (ok' := fun _ => True) fun _ _ => trivial
  clear hd1 hbw2
  refine (sign_any seed d _ idx w2 hv2 HD.out (hK.below hB2 hkl)).mono ?_
  rintro e w3 ⟨s1, rfl, hs1, hb3⟩
  rw [HER.out]
  have hB3 := hB2.trans (hb3.mono hB2.size)
  have hd3 := hd2.below hb3 hd2.lt
  have hr3 := hrw2.below hb3 hrw2.lt
  have hf3 := hf.later hB3
  clear hd2 hrw2 hb3
  have hsl : (signR seed idx d).length = 18 := signR_len hok
  have h32 : all32 (signR seed idx d) := walkR_32 _ _ _
  have hvs := ver_sign d hok
  rw [HXE.out] at hvs
  clear hok
  generalize signR seed idx d = sg at *
  obtain ⟨a1, k1, hse⟩ := hs1.form
  rw [hsl] at hse
  subst hse
  have HSL := Lib.hid hsl
  have H32 := Lib.hid h32
  have HKS := Lib.hid (ver_key hvs)
  clear hsl h32 hvs
  go_wp2_with (first | (refine wpList_load_row_on 23 (.tmp 9) rfl rfl w1.heap.size rfl 23 (cellsB x) (0, 0) _ hr3 Tryd.underD rfl HSX.out ?_) | (refine wpList_load_row_on 23 (.tmp 6) rfl rfl w.heap.size rfl 23 (cellsB d) (0, 0) _ hd3 Tryd.underD rfl HSD.out ?_))
  refine (verify_any x d fg _ w3 HX.out HD.out hf3 HF32.out (hK.below hB3 hkl)).mono ?_
  rintro e w4 ⟨rfl, hb4⟩
  have hB4 := hB3.trans (hb4.mono hB3.size)
  have hd4 := hd3.below hb4 hd3.lt
  have hs4 := hs1.later hb4
  have hf4 := hf3.later hb4
  clear hd3 hr3 hs1 hf3 hb4
  cases hvf : verB x d fg with
  | false =>
    go_wp2
    go_ret
    exact ⟨rfl, hB4⟩
  | true =>
    obtain ⟨hfl, hfk⟩ := ver_key hvf
    have HFL := Lib.hid hfl
    have HFK := Lib.hid hfk
    clear hvf hfk
    rw [hfl] at hf4 ⊢
    clear hfl
    go_wp2_with fail
    refine (rdigests_any sg fg _ _ w4 hs4 hf4 (by rw [HSL.out]; decide) (by rw [HFL.out]; decide) H32.out HF32.out).mono ?_
    rintro e w5 ⟨rfl, hb5⟩
    have hB5 := hB4.trans (hb5.mono hB4.size)
    have hd5 := hd4.below hb5 hd4.lt
    have hs5 := hs4.later hb5
    have hf5 := hf4.later hb5
    clear hd4 hs4 hf4 hb5
    by_cases hsf : sg = fg
    · rw [decide_eq_true hsf]
      go_wp2
      go_ret
      exact ⟨rfl, hB5⟩
    · rw [decide_eq_false hsf]
      have HSF := Lib.hid hsf
      clear hsf
      go_wp2_with (refine wpList_load_row rfl 23 (.tmp 6) rfl w.heap.size rfl 23 (cellsB d) (0, 0) _ hd5 Tryd.underD rfl HSD.out ?_)
      refine (nibbles_any d w5 HD.out).mono ?_
      rintro e w6 ⟨u1, rfl, hu1, hb6⟩
      obtain ⟨m1, o1, k1', rfl, hk11, hk12, hbl1, hc1⟩ := hu1.cells (nibs_len _)
      have hB6 := hB5.trans (hb6.mono hB5.size)
      have hd6 := hd5.below hb6 hd5.lt
      have hs6 := hs5.later hb6
      have hf6 := hf5.later hb6
      have hc13 : ∀ i, i < 18 → w6.cell? ⟨m1, o1 + i, none⟩ = some (.int .i64 (nib d i : Nat)) := fun i hi => by
        have h := hc1 i hi
        rwa [List.getD_eq_getElem?_getD, nibs_get d i hi] at h
      have HC1 := Lib.hid hc13
      clear hd5 hs5 hf5 hb6 hu1 hc1 hc13
      go_wp2_with (refine wpList_load_row rfl 23 (.tmp 6) rfl w.heap.size rfl 23 (cellsB d) (0, 0) _ hd6 Tryd.underD rfl HSD.out ?_)
      refine (ends_any d sg _ w6 HD.out hs6 H32.out HSL.out (hK.below hB6 hkl)).mono ?_
      rintro e w7 ⟨ea, rfl, hea, hb7⟩
      have hB7 := hB6.trans (hb7.mono hB6.size)
      have hd7 := hd6.below hb7 hd6.lt
      have hf7 := hf6.later hb7
      clear hd6
      go_wp2_with (refine wpList_load_row rfl 23 (.tmp 6) rfl w.heap.size rfl 23 (cellsB d) (0, 0) _ hd7 Tryd.underD rfl HSD.out ?_)
      refine (ends_any d fg _ w7 HD.out hf7 HF32.out HFL.out (hK.below hB7 hkl)).mono ?_
      rintro e w8 ⟨eb, rfl, heb, hb8⟩
      have hB8 := hB7.trans (hb8.mono hB7.size)
      have hb68 := hb7.trans (hb8.mono hb7.size)
      have hea8 := (hea.later hb8).imp (ok' := fun _ => True) fun _ _ => trivial
      have hs8 := hs6.later hb68
      have hf8 := hf6.later hb68
      have HL1 : Hid ((endsOf d sg).flatten.length = 576) := by show _ = _; rw [flat_len _ (endsOf_32 d sg H32.out HSL.out), endsOf_len]
      have HL2 : Hid ((endsOf d fg).flatten.length = 576) := by show _ = _; rw [flat_len _ (endsOf_32 d fg HF32.out HFL.out), endsOf_len]
      have HEQ : Hid ((endsOf d sg).flatten = (endsOf d fg).flatten → ∀ i, i < 18 → chainOf (sg.getD i []) (15 - nib d i) = chainOf (fg.getD i []) (15 - nib d i)) := fun h i hi => by
        have h2 := flatten_inj 32 (by decide) _ _ (endsOf_32 d sg H32.out HSL.out) (endsOf_32 d fg HF32.out HFL.out) h
        rw [← endsOf_get d sg i hi, ← endsOf_get d fg i hi, h2]
      have hkA := HKS.out.2
      have hkB := HFK.out
      have HKA := Lib.hid hkA
      have HKB := Lib.hid hkB
      obtain ⟨A, hA⟩ : ∃ A, (endsOf d sg).flatten = A := ⟨_, rfl⟩
      obtain ⟨Bf, hBf⟩ : ∃ A, (endsOf d fg).flatten = A := ⟨_, rfl⟩
      rw [hA] at hea8 HL1 HEQ HKA
      rw [hBf] at heb HL2 HEQ HKB
      clear hA hBf hkA hkB hd7 hf7 hb7 hb8 hea hs6 hf6
      obtain ⟨ba, oa, ca, rfl, hata⟩ := bytes_at hea8 (by rw [HL1.out]; decide)
      obtain ⟨bb, ob, cb, rfl, hatb⟩ := bytes_at heb (by rw [HL2.out]; decide)
      rw [HL1.out] at hea8 ⊢
      rw [HL2.out] at heb ⊢
      go_wp2
      rw [← hRR]
      clear hRR
      obtain ⟨B, eB⟩ : ∃ B, w8.heap.size = B := ⟨_, rfl⟩
      refine wp_gen fun a0 ha0 => ?_
      have i14 : a0.eval (.tmp 14) = .slice (some ⟨ba, oa, none⟩) 576 ca := by rw [ha0]; rfl
      have i15 : a0.eval (.tmp 15) = .slice (some ⟨bb, ob, none⟩) 576 cb := by rw [ha0]; rfl
      have hsz : a0.tmps.size = 128 := by rw [ha0]; rfl
      refine wp_region_inv_text (B := B) [some 82, some 83, some 84, some 85, some 86] [Asrt.eq (.slice (some ⟨ba, oa, none⟩) 576 ca), Asrt.eq (.string ⟨A.toArray⟩), Asrt.eq (.slice (some ⟨bb, ob, none⟩) 576 cb), Asrt.eq (.string ⟨Bf.toArray⟩), Asrt.eq (.bool (!(A == Bf)))] rfl (by rw [hsz]; as_aux_lemma => kernel_rfl) (by as_aux_lemma => kernel_rfl) (by omega) ⟨?_, ?_, ?_, ?_, ?_, trivial⟩ ?_
      · as_aux_lemma =>
          intro ev w1 hg hin hc hgl hfn hd
          have hB := hg.top
          have g14 : ev (.tmp 14) = .slice (some ⟨ba, oa, none⟩) 576 ca := (hin 14 (by kernel_rfl)).trans i14
          clear hin hd
          refine step_on (guard_none rfl) fun K hK => ?_
          unfold YieldsG
          go_simp
          exact hK _ _ rfl (Grow.refl hB)
      · as_aux_lemma =>
          intro ev w1 hg hin hc hgl hfn hd
          have hB := hg.top
          have f82 : (ev (.tmp 82)) = .slice (some ⟨ba, oa, none⟩) 576 ca := hd.1 rfl _ rfl
          clear hin hd
          refine step_on (guard_none rfl) fun K hK => ?_
          unfold YieldsG execOp
          have hcv := run_convert_bytes_back (P := Tryd.prog) w1 29 9 5 ⟨ba, oa, none⟩ ca A Tryd.underB Tryd.underU8 Tryd.underStr (fun j hj => bytes_cells (bytesAt_below hata (by rw [eB]; exact hg.bl)) j hj)
          rw [HL1.out] at hcv
          simp only [f82, hcv, Sem.run_bind, Result.andThen_ok]
          exact hK _ _ rfl (Grow.refl hB)
      · as_aux_lemma =>
          intro ev w1 hg hin hc hgl hfn hd
          have hB := hg.top
          have g15 : ev (.tmp 15) = .slice (some ⟨bb, ob, none⟩) 576 cb := (hin 15 (by kernel_rfl)).trans i15
          clear hin hd
          refine step_on (guard_none rfl) fun K hK => ?_
          unfold YieldsG
          go_simp
          exact hK _ _ rfl (Grow.refl hB)
      · as_aux_lemma =>
          intro ev w1 hg hin hc hgl hfn hd
          have hB := hg.top
          have f84 : (ev (.tmp 84)) = .slice (some ⟨bb, ob, none⟩) 576 cb := hd.1 rfl _ rfl
          clear hin hd
          refine step_on (guard_none rfl) fun K hK => ?_
          unfold YieldsG execOp
          have hcv := run_convert_bytes_back (P := Tryd.prog) w1 29 9 5 ⟨bb, ob, none⟩ cb Bf Tryd.underB Tryd.underU8 Tryd.underStr (fun j hj => bytes_cells (bytesAt_below hatb (by rw [eB]; exact hg.bl)) j hj)
          rw [HL2.out] at hcv
          simp only [f84, hcv, Sem.run_bind, Result.andThen_ok]
          exact hK _ _ rfl (Grow.refl hB)
      · as_aux_lemma =>
          intro ev w1 hg hin hc hgl hfn hd
          have hB := hg.top
          have f83 : (ev (.tmp 83)) = .string ⟨A.toArray⟩ := hd.1 rfl _ rfl
          have f85 : (ev (.tmp 85)) = .string ⟨Bf.toArray⟩ := hd.2.1 rfl _ rfl
          clear hin hd
          refine step_on (guard_none rfl) fun K hK => ?_
          unfold YieldsG execOp
          simp only [f83, f85, binOp_string_neq, Sem.run_bind, Sem.run_pure, Result.andThen_ok, ByteArray.toList_mk]
          exact hK _ _ rfl (Grow.refl hB)
      intro v w9 hg hall
      have hf0 : (v 0) = .slice (some ⟨ba, oa, none⟩) 576 ca := hall.1 (by simp)
      have hf1 : (v 1) = .string ⟨A.toArray⟩ := hall.2.1 (by simp)
      have hf2 : (v 2) = .slice (some ⟨bb, ob, none⟩) 576 cb := hall.2.2.1 (by simp)
      have hf3 : (v 3) = .string ⟨Bf.toArray⟩ := hall.2.2.2.1 (by simp)
      have hf4 : (v 4) = .bool (!(A == Bf)) := hall.2.2.2.2.1 (by simp)
      clear hall i14 i15 hsz
      rw [ha0]
      clear ha0
      simp only [putAll, Act.put, List.setIfInBounds_toArray, List.set_cons_zero, List.set_cons_succ, Nat.zero_add, Nat.reduceAdd]
      simp only [hf0, hf1, hf2, hf3, hf4]
      clear hf0 hf1 hf2 hf3 hf4
      have hB9 := hB8.trans (hg.below.mono hB8.size)
      have hb69 := hb68.trans (hg.below.mono hb68.size)
      have hea9 := (hea8.later hg.below).imp (ok' := fun _ => True) fun _ _ => trivial
      have heb9 := (heb.later hg.below).imp (ok' := fun _ => True) fun _ _ => trivial
      have hs9 := hs8.later hg.below
      have hf9 := hf8.later hg.below
      have hK9 := hK.below hB9 hkl
      clear hg hea8 heb hs8 hf8 hata hatb hb68 hB8 eB
      by_cases hAB : A = Bf
      · have hbe : (A == Bf) = true := by rw [hAB]; exact beq_self_eq_true _
        rw [hbe]
        have HCE := Lib.hid (HEQ.out hAB)
        clear hAB hbe HEQ HKA HKB hea9 heb9
        obtain ⟨q1, r1, rfl, -, hkq1, hkq2, hat1⟩ := hs9.at (by decide)
        obtain ⟨q2, r2, rfl, -, hkq3, hkq4, hat2⟩ := hf9.at (by decide)
        have HT1 := Lib.hid hat1
        have HT2 := Lib.hid hat2
        clear hat1 hat2 hs9 hf9
        go_wp2
        go_loopw [16] (fun t wr => ∃ i : Nat, i ≤ 18 ∧ t = .int .i64 (i : Int) ∧ Hid (∀ j, j < i → sg.getD j [] = fg.getD j []) ∧ Below w9.heap.size w9 wr) (fun t _ => 18 - (intOf t).toNat)
        case atStart => exact ⟨0, by omega, rfl, fun j hj => absurd hj (Nat.not_lt_zero j), Below.refl _ _⟩
        case round =>
          obtain ⟨i, hi, rfl, hsame, hbr⟩ := hrel
          by_cases hlt : i < 18
          · have hb6r := hb69.trans (hbr.mono hb69.size)
            have g1 : wr.cell? ⟨m1, o1 + i, none⟩ = some (.int .i64 (nib d i : Nat)) := (hb6r.cell (p := ⟨m1, o1 + i, none⟩) (block_lt_of_cell (HC1.out i hlt))).trans (HC1.out i hlt)
            have e1 : wr.rangeAt q1 (r1 + i * 32) ((sg.getD i []).map B8) := range_below (HT1.out.elem H32.out i (by rw [HSL.out]; exact hlt)) hbr
            have e2 : wr.rangeAt q2 (r2 + i * 32) ((fg.getD i []).map B8) := range_below (HT2.out.elem HF32.out i (by rw [HFL.out]; exact hlt)) hbr
            have l1 := all32_getD H32.out i (by rw [HSL.out]; exact hlt)
            have l2 := all32_getD HF32.out i (by rw [HFL.out]; exact hlt)
            have x15 := nib_le d i
            have hce := HCE.out i hlt
            have hKr := hK9.below hbr hK9.lt
            have hi1 : (i : Int) < 18 := by omega
            have hsame2 : sg.getD i [] = fg.getD i [] → Hid (∀ j, j < i + 1 → sg.getD j [] = fg.getD j []) := fun h j hj => by
              by_cases hji : j = i
              · rw [hji]; exact h
              · exact hsame.out j (by omega)
            clear hsame
            generalize sg.getD i [] = dx at *
            generalize fg.getD i [] = Y at *
            generalize nib d i = x5 at *
            obtain ⟨z, hz⟩ : ∃ z, 15 - x5 = z := ⟨_, rfl⟩
            rw [hz] at hce
            have hz1 : IntKind.i64.wrap (15 - (x5 : Int)) = 15 - (x5 : Int) := IntWalk.i64_in _ (by omega)
            have HZB : Hid (z ≤ 15) := Lib.hid (by omega)
            have HXZ : Hid ((15 : Int) - (x5 : Int) = (z : Int)) := Lib.hid (by omega)
            have hel := chainOf_len dx l1 z
            obtain ⟨E, hE⟩ : ∃ E, chainOf dx z = E := ⟨_, rfl⟩
            rw [hE] at hce hel
            have HCX := Lib.hid hE
            have HCY := Lib.hid hce.symm
            have HEL := Lib.hid hel
            have L1 := Lib.hid l1
            have L2 := Lib.hid l2
            clear l1 l2 hce hel hE hz
            by_cases hXY : dx = Y
            · have hs2 := hsame2 hXY
              go_wp2
              obtain ⟨B, eB⟩ : ∃ B, wr.heap.size = B := ⟨_, rfl⟩
              have hltk := hKr.lt
              refine wp_gen fun a0 ha0 => ?_
              have i11 : a0.eval (.tmp 11) = .slice (some ⟨q1, r1, none⟩) 18 k1 := by rw [ha0]; rfl
              have i3 : a0.eval (.tmp 3) = .slice (some ⟨q2, r2, none⟩) 18 kf := by rw [ha0]; rfl
              have i13 : a0.eval (.tmp 13) = .slice (some ⟨m1, o1, none⟩) 18 k1' := by rw [ha0]; rfl
              have i16 : a0.eval (.tmp 16) = .int .i64 (i : Int) := by rw [ha0]; rfl
              have hsz : a0.tmps.size = 128 := by rw [ha0]; rfl
              refine wp_region_inv (B := B) [some 96, some 97, some 98, some 99, some 100, some 101, some 102, some 103, some 104, some 105, some 106, some 107, some 108, some 109, some 110, some 111, some 112, some 113, some 114, some 115, some 116, some 117, some 118, some 119, some 120, some 121, some 122, some 123, some 124, some 125, some 126, some 127] [Asrt.eq (.slice (some ⟨q1, r1, none⟩) 18 k1), Asrt.eq (.int .i64 (i : Int)), Asrt.eq (.pointer (some ⟨q1, r1 + i * 32, none⟩)), Asrt.eq (.agg (cellsB (dx))), Asrt.eq (.slice (some ⟨q2, r2, none⟩) 18 kf), Asrt.eq (.int .i64 (i : Int)), Asrt.eq (.pointer (some ⟨q2, r2 + i * 32, none⟩)), Asrt.eq (.agg (cellsB (Y))), Asrt.eq (.bool false), Asrt.eq (.bool false), Asrt.any, Asrt.any, Asrt.any, Asrt.any, Asrt.any, Asrt.any, Asrt.any, Asrt.any, Asrt.any, Asrt.any, Asrt.any, Asrt.any, Asrt.any, Asrt.any, Asrt.any, Asrt.any, Asrt.any, Asrt.any, Asrt.any, Asrt.any, Asrt.any, Asrt.eq (.bool false)] rfl (by as_aux_lemma => kernel_rfl) (by rw [hsz]; as_aux_lemma => kernel_rfl) (by as_aux_lemma => kernel_rfl) (by omega) ⟨?_, ?_, ?_, ?_, ?_, ?_, ?_, ?_, ?_, ?_, ?_, ?_, ?_, ?_, ?_, ?_, ?_, ?_, ?_, ?_, ?_, ?_, ?_, ?_, ?_, ?_, ?_, ?_, ?_, ?_, ?_, ?_, trivial⟩ ?_
              · as_aux_lemma =>
                  intro ev w1 hg hin hc hgl hfn hd
                  have hB := hg.top
                  have g11 : ev (.tmp 11) = .slice (some ⟨q1, r1, none⟩) 18 k1 := (hin 11 (by kernel_rfl)).trans i11
                  clear hin hd
                  refine step_on (guard_none rfl) fun K hK => ?_
                  unfold YieldsG
                  go_simp
                  exact hK _ _ rfl (Grow.refl hB)
              · as_aux_lemma =>
                  intro ev w1 hg hin hc hgl hfn hd
                  have hB := hg.top
                  have g16 : ev (.tmp 16) = .int .i64 (i : Int) := (hin 16 (by kernel_rfl)).trans i16
                  clear hin hd
                  refine step_on (guard_none rfl) fun K hK => ?_
                  unfold YieldsG
                  go_simp
                  exact hK _ _ rfl (Grow.refl hB)
              · as_aux_lemma =>
                  intro ev w1 hg hin hc hgl hfn hd
                  have hB := hg.top
                  have f96 : (ev (.tmp 96)) = .slice (some ⟨q1, r1, none⟩) 18 k1 := hd.1 rfl _ rfl
                  have f97 : (ev (.tmp 97)) = .int .i64 (i : Int) := hd.2.1 rfl _ rfl
                  clear hin hd
                  refine step_on (guard_none rfl) fun K hK => ?_
                  unfold YieldsG
                  go_simp
                  exact hK _ _ rfl (Grow.refl hB)
              · as_aux_lemma =>
                  intro ev w1 hg hin hc hgl hfn hd
                  have hB := hg.top
                  have f98 : (ev (.tmp 98)) = .pointer (some ⟨q1, r1 + i * 32, none⟩) := hd.1 rfl _ rfl
                  clear hin hd
                  refine step_on (guard_none rfl) fun K hK => ?_
                  refine yg_load_mid 23 (.tmp 98) rfl q1 (r1 + i * 32) f98 (dx.map B8) _ (range_below e1 (by rw [eB]; exact hg.bl)) Tryd.underD rfl (by rw [List.length_map, L1.out]; exact Tryd.sizeD) ?_
                  exact hK _ _ rfl (Grow.refl hB)
              · as_aux_lemma =>
                  intro ev w1 hg hin hc hgl hfn hd
                  have hB := hg.top
                  have g3 : ev (.tmp 3) = .slice (some ⟨q2, r2, none⟩) 18 kf := (hin 3 (by kernel_rfl)).trans i3
                  clear hin hd
                  refine step_on (guard_none rfl) fun K hK => ?_
                  unfold YieldsG
                  go_simp
                  exact hK _ _ rfl (Grow.refl hB)
              · as_aux_lemma =>
                  intro ev w1 hg hin hc hgl hfn hd
                  have hB := hg.top
                  have g16 : ev (.tmp 16) = .int .i64 (i : Int) := (hin 16 (by kernel_rfl)).trans i16
                  clear hin hd
                  refine step_on (guard_none rfl) fun K hK => ?_
                  unfold YieldsG
                  go_simp
                  exact hK _ _ rfl (Grow.refl hB)
              · as_aux_lemma =>
                  intro ev w1 hg hin hc hgl hfn hd
                  have hB := hg.top
                  have f100 : (ev (.tmp 100)) = .slice (some ⟨q2, r2, none⟩) 18 kf := hd.1 rfl _ rfl
                  have f101 : (ev (.tmp 101)) = .int .i64 (i : Int) := hd.2.1 rfl _ rfl
                  clear hin hd
                  refine step_on (guard_none rfl) fun K hK => ?_
                  unfold YieldsG
                  go_simp
                  exact hK _ _ rfl (Grow.refl hB)
              · as_aux_lemma =>
                  intro ev w1 hg hin hc hgl hfn hd
                  have hB := hg.top
                  have f102 : (ev (.tmp 102)) = .pointer (some ⟨q2, r2 + i * 32, none⟩) := hd.1 rfl _ rfl
                  clear hin hd
                  refine step_on (guard_none rfl) fun K hK => ?_
                  refine yg_load_mid 23 (.tmp 102) rfl q2 (r2 + i * 32) f102 (Y.map B8) _ (range_below e2 (by rw [eB]; exact hg.bl)) Tryd.underD rfl (by rw [List.length_map, L2.out]; exact Tryd.sizeD) ?_
                  exact hK _ _ rfl (Grow.refl hB)
              · as_aux_lemma =>
                  intro ev w1 hg hin hc hgl hfn hd
                  have hB := hg.top
                  have f99 : (ev (.tmp 99)) = .agg (cellsB (dx)) := hd.1 rfl _ rfl
                  have f103 : (ev (.tmp 103)) = .agg (cellsB (Y)) := hd.2.1 rfl _ rfl
                  clear hin hd
                  refine step_on (guard_none rfl) fun K hK => ?_
                  unfold YieldsG execOp
                  simp only [f99, f103, Sem.run_bind, neq_digest dx Y L1.out L2.out]
                  exact hK _ _ (by simp only [hXY, decide_true]; rfl) (Grow.refl hB)
              · as_aux_lemma =>
                  intro ev w1 hg hin hc hgl hfn hd
                  have hB := hg.top
                  have f104 : (ev (.tmp 104)) = .bool false := hd.1 rfl _ rfl
                  clear hin hd
                  refine step_on (guard_none rfl) fun K hK => ?_
                  unfold YieldsG
                  go_simp
                  exact hK _ _ rfl (Grow.refl hB)
              · as_aux_lemma =>
                  intro ev w1 hg hin hc hgl hfn hd
                  have hB := hg.top
                  have f105 : (ev (.tmp 105)) = .bool false := hd.1 rfl _ rfl
                  have g11 : ev (.tmp 11) = .slice (some ⟨q1, r1, none⟩) 18 k1 := (hin 11 (by kernel_rfl)).trans i11
                  clear hin hd
                  exact step_off (guard_off rfl rfl f105 (by decide)) trivial
              · as_aux_lemma =>
                  intro ev w1 hg hin hc hgl hfn hd
                  have hB := hg.top
                  have f105 : (ev (.tmp 105)) = .bool false := hd.1 rfl _ rfl
                  have g16 : ev (.tmp 16) = .int .i64 (i : Int) := (hin 16 (by kernel_rfl)).trans i16
                  clear hin hd
                  exact step_off (guard_off rfl rfl f105 (by decide)) trivial
              · as_aux_lemma =>
                  intro ev w1 hg hin hc hgl hfn hd
                  have hB := hg.top
                  have f105 : (ev (.tmp 105)) = .bool false := hd.2.2.1 rfl _ rfl
                  clear hin hd
                  exact step_off (guard_off rfl rfl f105 (by decide)) trivial
              · as_aux_lemma =>
                  intro ev w1 hg hin hc hgl hfn hd
                  have hB := hg.top
                  have f105 : (ev (.tmp 105)) = .bool false := hd.2.1 rfl _ rfl
                  clear hin hd
                  exact step_off (guard_off rfl rfl f105 (by decide)) trivial
              · as_aux_lemma =>
                  intro ev w1 hg hin hc hgl hfn hd
                  have hB := hg.top
                  have f105 : (ev (.tmp 105)) = .bool false := hd.1 rfl _ rfl
                  have g13 : ev (.tmp 13) = .slice (some ⟨m1, o1, none⟩) 18 k1' := (hin 13 (by kernel_rfl)).trans i13
                  clear hin hd
                  exact step_off (guard_off rfl rfl f105 (by decide)) trivial
              · as_aux_lemma =>
                  intro ev w1 hg hin hc hgl hfn hd
                  have hB := hg.top
                  have f105 : (ev (.tmp 105)) = .bool false := hd.1 rfl _ rfl
                  have g16 : ev (.tmp 16) = .int .i64 (i : Int) := (hin 16 (by kernel_rfl)).trans i16
                  clear hin hd
                  exact step_off (guard_off rfl rfl f105 (by decide)) trivial
              · as_aux_lemma =>
                  intro ev w1 hg hin hc hgl hfn hd
                  have hB := hg.top
                  have f105 : (ev (.tmp 105)) = .bool false := hd.2.2.1 rfl _ rfl
                  clear hin hd
                  exact step_off (guard_off rfl rfl f105 (by decide)) trivial
              · as_aux_lemma =>
                  intro ev w1 hg hin hc hgl hfn hd
                  have hB := hg.top
                  have f105 : (ev (.tmp 105)) = .bool false := hd.2.1 rfl _ rfl
                  clear hin hd
                  exact step_off (guard_off rfl rfl f105 (by decide)) trivial
              · as_aux_lemma =>
                  intro ev w1 hg hin hc hgl hfn hd
                  have hB := hg.top
                  have f105 : (ev (.tmp 105)) = .bool false := hd.2.1 rfl _ rfl
                  clear hin hd
                  exact step_off (guard_off rfl rfl f105 (by decide)) trivial
              · as_aux_lemma =>
                  intro ev w1 hg hin hc hgl hfn hd
                  have hB := hg.top
                  have f105 : (ev (.tmp 105)) = .bool false := hd.2.2.1 rfl _ rfl
                  clear hin hd
                  exact step_off (guard_off rfl rfl f105 (by decide)) trivial
              · as_aux_lemma =>
                  intro ev w1 hg hin hc hgl hfn hd
                  have hB := hg.top
                  have f105 : (ev (.tmp 105)) = .bool false := hd.1 rfl _ rfl
                  have g3 : ev (.tmp 3) = .slice (some ⟨q2, r2, none⟩) 18 kf := (hin 3 (by kernel_rfl)).trans i3
                  clear hin hd
                  exact step_off (guard_off rfl rfl f105 (by decide)) trivial
              · as_aux_lemma =>
                  intro ev w1 hg hin hc hgl hfn hd
                  have hB := hg.top
                  have f105 : (ev (.tmp 105)) = .bool false := hd.1 rfl _ rfl
                  have g16 : ev (.tmp 16) = .int .i64 (i : Int) := (hin 16 (by kernel_rfl)).trans i16
                  clear hin hd
                  exact step_off (guard_off rfl rfl f105 (by decide)) trivial
              · as_aux_lemma =>
                  intro ev w1 hg hin hc hgl hfn hd
                  have hB := hg.top
                  have f105 : (ev (.tmp 105)) = .bool false := hd.2.2.1 rfl _ rfl
                  clear hin hd
                  exact step_off (guard_off rfl rfl f105 (by decide)) trivial
              · as_aux_lemma =>
                  intro ev w1 hg hin hc hgl hfn hd
                  have hB := hg.top
                  have f105 : (ev (.tmp 105)) = .bool false := hd.2.1 rfl _ rfl
                  clear hin hd
                  exact step_off (guard_off rfl rfl f105 (by decide)) trivial
              · as_aux_lemma =>
                  intro ev w1 hg hin hc hgl hfn hd
                  have hB := hg.top
                  have f105 : (ev (.tmp 105)) = .bool false := hd.1 rfl _ rfl
                  have g13 : ev (.tmp 13) = .slice (some ⟨m1, o1, none⟩) 18 k1' := (hin 13 (by kernel_rfl)).trans i13
                  clear hin hd
                  exact step_off (guard_off rfl rfl f105 (by decide)) trivial
              · as_aux_lemma =>
                  intro ev w1 hg hin hc hgl hfn hd
                  have hB := hg.top
                  have f105 : (ev (.tmp 105)) = .bool false := hd.1 rfl _ rfl
                  have g16 : ev (.tmp 16) = .int .i64 (i : Int) := (hin 16 (by kernel_rfl)).trans i16
                  clear hin hd
                  exact step_off (guard_off rfl rfl f105 (by decide)) trivial
              · as_aux_lemma =>
                  intro ev w1 hg hin hc hgl hfn hd
                  have hB := hg.top
                  have f105 : (ev (.tmp 105)) = .bool false := hd.2.2.1 rfl _ rfl
                  clear hin hd
                  exact step_off (guard_off rfl rfl f105 (by decide)) trivial
              · as_aux_lemma =>
                  intro ev w1 hg hin hc hgl hfn hd
                  have hB := hg.top
                  have f105 : (ev (.tmp 105)) = .bool false := hd.2.1 rfl _ rfl
                  clear hin hd
                  exact step_off (guard_off rfl rfl f105 (by decide)) trivial
              · as_aux_lemma =>
                  intro ev w1 hg hin hc hgl hfn hd
                  have hB := hg.top
                  have f105 : (ev (.tmp 105)) = .bool false := hd.2.1 rfl _ rfl
                  clear hin hd
                  exact step_off (guard_off rfl rfl f105 (by decide)) trivial
              · as_aux_lemma =>
                  intro ev w1 hg hin hc hgl hfn hd
                  have hB := hg.top
                  have f105 : (ev (.tmp 105)) = .bool false := hd.2.2.2.1 rfl _ rfl
                  clear hin hd
                  exact step_off (guard_off rfl rfl f105 (by decide)) trivial
              · as_aux_lemma =>
                  intro ev w1 hg hin hc hgl hfn hd
                  have hB := hg.top
                  have f105 : (ev (.tmp 105)) = .bool false := hd.2.2.1 rfl _ rfl
                  clear hin hd
                  exact step_off (guard_off rfl rfl f105 (by decide)) trivial
              · as_aux_lemma =>
                  intro ev w1 hg hin hc hgl hfn hd
                  have hB := hg.top
                  have f105 : (ev (.tmp 105)) = .bool false := hd.1 rfl _ rfl
                  clear hin hd
                  refine step_on (guard_none rfl) fun K hK => ?_
                  unfold YieldsG
                  go_simp
                  exact hK _ _ rfl (Grow.refl hB)
              intro v wz hg hall
              have hf31 : (v 31) = .bool false := hall.2.2.2.2.2.2.2.2.2.2.2.2.2.2.2.2.2.2.2.2.2.2.2.2.2.2.2.2.2.2.2.1 (by simp)
              clear hall i11 i3 i13 i16 hsz
              rw [ha0]
              clear ha0
              simp only [putAll, Act.put, List.setIfInBounds_toArray, List.set_cons_zero, List.set_cons_succ, Nat.zero_add, Nat.reduceAdd]
              simp only [hf31]
              clear hf31
              have hbz := hbr.trans (hg.below.mono hbr.size)
              clear hg
              go_wp2
              go_roundw
              case rel => exact ⟨i + 1, by omega, by go_num, hs2, hbz⟩
              case measure => simp [intOf]; omega
            · clear hsame2
              go_wp2
              obtain ⟨B, eB⟩ : ∃ B, wr.heap.size = B := ⟨_, rfl⟩
              have hltk := hKr.lt
              refine wp_gen fun a0 ha0 => ?_
              have i11 : a0.eval (.tmp 11) = .slice (some ⟨q1, r1, none⟩) 18 k1 := by rw [ha0]; rfl
              have i3 : a0.eval (.tmp 3) = .slice (some ⟨q2, r2, none⟩) 18 kf := by rw [ha0]; rfl
              have i13 : a0.eval (.tmp 13) = .slice (some ⟨m1, o1, none⟩) 18 k1' := by rw [ha0]; rfl
              have i16 : a0.eval (.tmp 16) = .int .i64 (i : Int) := by rw [ha0]; rfl
              have hsz : a0.tmps.size = 128 := by rw [ha0]; rfl
              refine wp_region_inv (B := B) [some 96, some 97, some 98, some 99, some 100, some 101, some 102, some 103, some 104, some 105, some 106, some 107, some 108, some 109, some 110, some 111, some 112, some 113, some 114, some 115, some 116, some 117, some 118, some 119, some 120, some 121, some 122, some 123, some 124, some 125, some 126, some 127] [Asrt.eq (.slice (some ⟨q1, r1, none⟩) 18 k1), Asrt.eq (.int .i64 (i : Int)), Asrt.eq (.pointer (some ⟨q1, r1 + i * 32, none⟩)), Asrt.eq (.agg (cellsB (dx))), Asrt.eq (.slice (some ⟨q2, r2, none⟩) 18 kf), Asrt.eq (.int .i64 (i : Int)), Asrt.eq (.pointer (some ⟨q2, r2 + i * 32, none⟩)), Asrt.eq (.agg (cellsB (Y))), Asrt.eq (.bool true), Asrt.eq (.bool true), Asrt.eq (.slice (some ⟨q1, r1, none⟩) 18 k1), Asrt.eq (.int .i64 (i : Int)), Asrt.eq (.pointer (some ⟨q1, r1 + i * 32, none⟩)), Asrt.eq (.agg (cellsB (dx))), Asrt.eq (.slice (some ⟨m1, o1, none⟩) 18 k1'), Asrt.eq (.int .i64 (i : Int)), Asrt.eq (.pointer (some ⟨m1, o1 + i, none⟩)), Asrt.eq (.int .i64 (x5 : Int)), Asrt.eq (.int .i64 (15 - (x5 : Int))), Asrt.eq (.agg (cellsB (E))), Asrt.eq (.slice (some ⟨q2, r2, none⟩) 18 kf), Asrt.eq (.int .i64 (i : Int)), Asrt.eq (.pointer (some ⟨q2, r2 + i * 32, none⟩)), Asrt.eq (.agg (cellsB (Y))), Asrt.eq (.slice (some ⟨m1, o1, none⟩) 18 k1'), Asrt.eq (.int .i64 (i : Int)), Asrt.eq (.pointer (some ⟨m1, o1 + i, none⟩)), Asrt.eq (.int .i64 (x5 : Int)), Asrt.eq (.int .i64 (15 - (x5 : Int))), Asrt.eq (.agg (cellsB (E))), Asrt.eq (.bool true), Asrt.eq (.bool true)] rfl (by as_aux_lemma => kernel_rfl) (by rw [hsz]; as_aux_lemma => kernel_rfl) (by as_aux_lemma => kernel_rfl) (by omega) ⟨?_, ?_, ?_, ?_, ?_, ?_, ?_, ?_, ?_, ?_, ?_, ?_, ?_, ?_, ?_, ?_, ?_, ?_, ?_, ?_, ?_, ?_, ?_, ?_, ?_, ?_, ?_, ?_, ?_, ?_, ?_, ?_, trivial⟩ ?_
              · as_aux_lemma =>
                  intro ev w1 hg hin hc hgl hfn hd
                  have hB := hg.top
                  have g11 : ev (.tmp 11) = .slice (some ⟨q1, r1, none⟩) 18 k1 := (hin 11 (by kernel_rfl)).trans i11
                  clear hin hd
                  refine step_on (guard_none rfl) fun K hK => ?_
                  unfold YieldsG
                  go_simp
                  exact hK _ _ rfl (Grow.refl hB)
              · as_aux_lemma =>
                  intro ev w1 hg hin hc hgl hfn hd
                  have hB := hg.top
                  have g16 : ev (.tmp 16) = .int .i64 (i : Int) := (hin 16 (by kernel_rfl)).trans i16
                  clear hin hd
                  refine step_on (guard_none rfl) fun K hK => ?_
                  unfold YieldsG
                  go_simp
                  exact hK _ _ rfl (Grow.refl hB)
              · as_aux_lemma =>
                  intro ev w1 hg hin hc hgl hfn hd
                  have hB := hg.top
                  have f96 : (ev (.tmp 96)) = .slice (some ⟨q1, r1, none⟩) 18 k1 := hd.1 rfl _ rfl
                  have f97 : (ev (.tmp 97)) = .int .i64 (i : Int) := hd.2.1 rfl _ rfl
                  clear hin hd
                  refine step_on (guard_none rfl) fun K hK => ?_
                  unfold YieldsG
                  go_simp
                  exact hK _ _ rfl (Grow.refl hB)
              · as_aux_lemma =>
                  intro ev w1 hg hin hc hgl hfn hd
                  have hB := hg.top
                  have f98 : (ev (.tmp 98)) = .pointer (some ⟨q1, r1 + i * 32, none⟩) := hd.1 rfl _ rfl
                  clear hin hd
                  refine step_on (guard_none rfl) fun K hK => ?_
                  refine yg_load_mid 23 (.tmp 98) rfl q1 (r1 + i * 32) f98 (dx.map B8) _ (range_below e1 (by rw [eB]; exact hg.bl)) Tryd.underD rfl (by rw [List.length_map, L1.out]; exact Tryd.sizeD) ?_
                  exact hK _ _ rfl (Grow.refl hB)
              · as_aux_lemma =>
                  intro ev w1 hg hin hc hgl hfn hd
                  have hB := hg.top
                  have g3 : ev (.tmp 3) = .slice (some ⟨q2, r2, none⟩) 18 kf := (hin 3 (by kernel_rfl)).trans i3
                  clear hin hd
                  refine step_on (guard_none rfl) fun K hK => ?_
                  unfold YieldsG
                  go_simp
                  exact hK _ _ rfl (Grow.refl hB)
              · as_aux_lemma =>
                  intro ev w1 hg hin hc hgl hfn hd
                  have hB := hg.top
                  have g16 : ev (.tmp 16) = .int .i64 (i : Int) := (hin 16 (by kernel_rfl)).trans i16
                  clear hin hd
                  refine step_on (guard_none rfl) fun K hK => ?_
                  unfold YieldsG
                  go_simp
                  exact hK _ _ rfl (Grow.refl hB)
              · as_aux_lemma =>
                  intro ev w1 hg hin hc hgl hfn hd
                  have hB := hg.top
                  have f100 : (ev (.tmp 100)) = .slice (some ⟨q2, r2, none⟩) 18 kf := hd.1 rfl _ rfl
                  have f101 : (ev (.tmp 101)) = .int .i64 (i : Int) := hd.2.1 rfl _ rfl
                  clear hin hd
                  refine step_on (guard_none rfl) fun K hK => ?_
                  unfold YieldsG
                  go_simp
                  exact hK _ _ rfl (Grow.refl hB)
              · as_aux_lemma =>
                  intro ev w1 hg hin hc hgl hfn hd
                  have hB := hg.top
                  have f102 : (ev (.tmp 102)) = .pointer (some ⟨q2, r2 + i * 32, none⟩) := hd.1 rfl _ rfl
                  clear hin hd
                  refine step_on (guard_none rfl) fun K hK => ?_
                  refine yg_load_mid 23 (.tmp 102) rfl q2 (r2 + i * 32) f102 (Y.map B8) _ (range_below e2 (by rw [eB]; exact hg.bl)) Tryd.underD rfl (by rw [List.length_map, L2.out]; exact Tryd.sizeD) ?_
                  exact hK _ _ rfl (Grow.refl hB)
              · as_aux_lemma =>
                  intro ev w1 hg hin hc hgl hfn hd
                  have hB := hg.top
                  have f99 : (ev (.tmp 99)) = .agg (cellsB (dx)) := hd.1 rfl _ rfl
                  have f103 : (ev (.tmp 103)) = .agg (cellsB (Y)) := hd.2.1 rfl _ rfl
                  clear hin hd
                  refine step_on (guard_none rfl) fun K hK => ?_
                  unfold YieldsG execOp
                  simp only [f99, f103, Sem.run_bind, neq_digest dx Y L1.out L2.out]
                  exact hK _ _ (by simp only [decide_eq_false hXY]; rfl) (Grow.refl hB)
              · as_aux_lemma =>
                  intro ev w1 hg hin hc hgl hfn hd
                  have hB := hg.top
                  have f104 : (ev (.tmp 104)) = .bool true := hd.1 rfl _ rfl
                  clear hin hd
                  refine step_on (guard_none rfl) fun K hK => ?_
                  unfold YieldsG
                  go_simp
                  exact hK _ _ rfl (Grow.refl hB)
              · as_aux_lemma =>
                  intro ev w1 hg hin hc hgl hfn hd
                  have hB := hg.top
                  have f105 : (ev (.tmp 105)) = .bool true := hd.1 rfl _ rfl
                  have g11 : ev (.tmp 11) = .slice (some ⟨q1, r1, none⟩) 18 k1 := (hin 11 (by kernel_rfl)).trans i11
                  clear hin hd
                  refine step_on (guard_some rfl rfl f105) fun K hK => ?_
                  unfold YieldsG
                  go_simp
                  exact hK _ _ rfl (Grow.refl hB)
              · as_aux_lemma =>
                  intro ev w1 hg hin hc hgl hfn hd
                  have hB := hg.top
                  have f105 : (ev (.tmp 105)) = .bool true := hd.1 rfl _ rfl
                  have g16 : ev (.tmp 16) = .int .i64 (i : Int) := (hin 16 (by kernel_rfl)).trans i16
                  clear hin hd
                  refine step_on (guard_some rfl rfl f105) fun K hK => ?_
                  unfold YieldsG
                  go_simp
                  exact hK _ _ rfl (Grow.refl hB)
              · as_aux_lemma =>
                  intro ev w1 hg hin hc hgl hfn hd
                  have hB := hg.top
                  have f106 : (ev (.tmp 106)) = .slice (some ⟨q1, r1, none⟩) 18 k1 := hd.1 rfl _ rfl
                  have f107 : (ev (.tmp 107)) = .int .i64 (i : Int) := hd.2.1 rfl _ rfl
                  have f105 : (ev (.tmp 105)) = .bool true := hd.2.2.1 rfl _ rfl
                  clear hin hd
                  refine step_on (guard_some rfl rfl f105) fun K hK => ?_
                  unfold YieldsG
                  go_simp
                  exact hK _ _ rfl (Grow.refl hB)
              · as_aux_lemma =>
                  intro ev w1 hg hin hc hgl hfn hd
                  have hB := hg.top
                  have f108 : (ev (.tmp 108)) = .pointer (some ⟨q1, r1 + i * 32, none⟩) := hd.1 rfl _ rfl
                  have f105 : (ev (.tmp 105)) = .bool true := hd.2.1 rfl _ rfl
                  clear hin hd
                  refine step_on (guard_some rfl rfl f105) fun K hK => ?_
                  refine yg_load_mid 23 (.tmp 108) rfl q1 (r1 + i * 32) f108 (dx.map B8) _ (range_below e1 (by rw [eB]; exact hg.bl)) Tryd.underD rfl (by rw [List.length_map, L1.out]; exact Tryd.sizeD) ?_
                  exact hK _ _ rfl (Grow.refl hB)
              · as_aux_lemma =>
                  intro ev w1 hg hin hc hgl hfn hd
                  have hB := hg.top
                  have f105 : (ev (.tmp 105)) = .bool true := hd.1 rfl _ rfl
                  have g13 : ev (.tmp 13) = .slice (some ⟨m1, o1, none⟩) 18 k1' := (hin 13 (by kernel_rfl)).trans i13
                  clear hin hd
                  refine step_on (guard_some rfl rfl f105) fun K hK => ?_
                  unfold YieldsG
                  go_simp
                  exact hK _ _ rfl (Grow.refl hB)
              · as_aux_lemma =>
                  intro ev w1 hg hin hc hgl hfn hd
                  have hB := hg.top
                  have f105 : (ev (.tmp 105)) = .bool true := hd.1 rfl _ rfl
                  have g16 : ev (.tmp 16) = .int .i64 (i : Int) := (hin 16 (by kernel_rfl)).trans i16
                  clear hin hd
                  refine step_on (guard_some rfl rfl f105) fun K hK => ?_
                  unfold YieldsG
                  go_simp
                  exact hK _ _ rfl (Grow.refl hB)
              · as_aux_lemma =>
                  intro ev w1 hg hin hc hgl hfn hd
                  have hB := hg.top
                  have f110 : (ev (.tmp 110)) = .slice (some ⟨m1, o1, none⟩) 18 k1' := hd.1 rfl _ rfl
                  have f111 : (ev (.tmp 111)) = .int .i64 (i : Int) := hd.2.1 rfl _ rfl
                  have f105 : (ev (.tmp 105)) = .bool true := hd.2.2.1 rfl _ rfl
                  clear hin hd
                  refine step_on (guard_some rfl rfl f105) fun K hK => ?_
                  unfold YieldsG
                  go_simp
                  exact hK _ _ rfl (Grow.refl hB)
              · as_aux_lemma =>
                  intro ev w1 hg hin hc hgl hfn hd
                  have hB := hg.top
                  have f112 : (ev (.tmp 112)) = .pointer (some ⟨m1, o1 + i, none⟩) := hd.1 rfl _ rfl
                  have f105 : (ev (.tmp 105)) = .bool true := hd.2.1 rfl _ rfl
                  clear hin hd
                  refine step_on (guard_some rfl rfl f105) fun K hK => ?_
                  have hc1 := hg.cell g1
                  unfold YieldsG
                  go_simp
                  exact hK _ _ rfl (Grow.refl hB)
              · as_aux_lemma =>
                  intro ev w1 hg hin hc hgl hfn hd
                  have hB := hg.top
                  have f113 : (ev (.tmp 113)) = .int .i64 (x5 : Int) := hd.1 rfl _ rfl
                  have f105 : (ev (.tmp 105)) = .bool true := hd.2.1 rfl _ rfl
                  clear hin hd
                  refine step_on (guard_some rfl rfl f105) fun K hK => ?_
                  unfold YieldsG
                  go_simp
                  exact hK _ _ rfl (Grow.refl hB)
              · as_aux_lemma =>
                  intro ev w1 hg hin hc hgl hfn hd
                  have hB := hg.top
                  have f109 : (ev (.tmp 109)) = .agg (cellsB (dx)) := hd.1 rfl _ rfl
                  have f114 : (ev (.tmp 114)) = .int .i64 (15 - (x5 : Int)) := hd.2.1 rfl _ rfl
                  have f105 : (ev (.tmp 105)) = .bool true := hd.2.2.1 rfl _ rfl
                  clear hin hd
                  refine step_on (guard_some rfl rfl f105) fun K hK => ?_
                  rw [HXZ.out] at f114
                  unfold YieldsG
                  go_simp
                  refine (chain_any dx (z : Int) w1 L1.out (by omega) (by have := HZB.out; omega) (hKr.below hg.bl (by omega))).mono ?_
                  rintro e w2 ⟨rfl, hb⟩
                  exact ⟨_, rfl, hK _ _ (by show Value.agg _ = _; rw [Int.toNat_natCast, HCX.out]) (Grow.of hB hb)⟩
              · as_aux_lemma =>
                  intro ev w1 hg hin hc hgl hfn hd
                  have hB := hg.top
                  have f105 : (ev (.tmp 105)) = .bool true := hd.1 rfl _ rfl
                  have g3 : ev (.tmp 3) = .slice (some ⟨q2, r2, none⟩) 18 kf := (hin 3 (by kernel_rfl)).trans i3
                  clear hin hd
                  refine step_on (guard_some rfl rfl f105) fun K hK => ?_
                  unfold YieldsG
                  go_simp
                  exact hK _ _ rfl (Grow.refl hB)
              · as_aux_lemma =>
                  intro ev w1 hg hin hc hgl hfn hd
                  have hB := hg.top
                  have f105 : (ev (.tmp 105)) = .bool true := hd.1 rfl _ rfl
                  have g16 : ev (.tmp 16) = .int .i64 (i : Int) := (hin 16 (by kernel_rfl)).trans i16
                  clear hin hd
                  refine step_on (guard_some rfl rfl f105) fun K hK => ?_
                  unfold YieldsG
                  go_simp
                  exact hK _ _ rfl (Grow.refl hB)
              · as_aux_lemma =>
                  intro ev w1 hg hin hc hgl hfn hd
                  have hB := hg.top
                  have f116 : (ev (.tmp 116)) = .slice (some ⟨q2, r2, none⟩) 18 kf := hd.1 rfl _ rfl
                  have f117 : (ev (.tmp 117)) = .int .i64 (i : Int) := hd.2.1 rfl _ rfl
                  have f105 : (ev (.tmp 105)) = .bool true := hd.2.2.1 rfl _ rfl
                  clear hin hd
                  refine step_on (guard_some rfl rfl f105) fun K hK => ?_
                  unfold YieldsG
                  go_simp
                  exact hK _ _ rfl (Grow.refl hB)
              · as_aux_lemma =>
                  intro ev w1 hg hin hc hgl hfn hd
                  have hB := hg.top
                  have f118 : (ev (.tmp 118)) = .pointer (some ⟨q2, r2 + i * 32, none⟩) := hd.1 rfl _ rfl
                  have f105 : (ev (.tmp 105)) = .bool true := hd.2.1 rfl _ rfl
                  clear hin hd
                  refine step_on (guard_some rfl rfl f105) fun K hK => ?_
                  refine yg_load_mid 23 (.tmp 118) rfl q2 (r2 + i * 32) f118 (Y.map B8) _ (range_below e2 (by rw [eB]; exact hg.bl)) Tryd.underD rfl (by rw [List.length_map, L2.out]; exact Tryd.sizeD) ?_
                  exact hK _ _ rfl (Grow.refl hB)
              · as_aux_lemma =>
                  intro ev w1 hg hin hc hgl hfn hd
                  have hB := hg.top
                  have f105 : (ev (.tmp 105)) = .bool true := hd.1 rfl _ rfl
                  have g13 : ev (.tmp 13) = .slice (some ⟨m1, o1, none⟩) 18 k1' := (hin 13 (by kernel_rfl)).trans i13
                  clear hin hd
                  refine step_on (guard_some rfl rfl f105) fun K hK => ?_
                  unfold YieldsG
                  go_simp
                  exact hK _ _ rfl (Grow.refl hB)
              · as_aux_lemma =>
                  intro ev w1 hg hin hc hgl hfn hd
                  have hB := hg.top
                  have f105 : (ev (.tmp 105)) = .bool true := hd.1 rfl _ rfl
                  have g16 : ev (.tmp 16) = .int .i64 (i : Int) := (hin 16 (by kernel_rfl)).trans i16
                  clear hin hd
                  refine step_on (guard_some rfl rfl f105) fun K hK => ?_
                  unfold YieldsG
                  go_simp
                  exact hK _ _ rfl (Grow.refl hB)
              · as_aux_lemma =>
                  intro ev w1 hg hin hc hgl hfn hd
                  have hB := hg.top
                  have f120 : (ev (.tmp 120)) = .slice (some ⟨m1, o1, none⟩) 18 k1' := hd.1 rfl _ rfl
                  have f121 : (ev (.tmp 121)) = .int .i64 (i : Int) := hd.2.1 rfl _ rfl
                  have f105 : (ev (.tmp 105)) = .bool true := hd.2.2.1 rfl _ rfl
                  clear hin hd
                  refine step_on (guard_some rfl rfl f105) fun K hK => ?_
                  unfold YieldsG
                  go_simp
                  exact hK _ _ rfl (Grow.refl hB)
              · as_aux_lemma =>
                  intro ev w1 hg hin hc hgl hfn hd
                  have hB := hg.top
                  have f122 : (ev (.tmp 122)) = .pointer (some ⟨m1, o1 + i, none⟩) := hd.1 rfl _ rfl
                  have f105 : (ev (.tmp 105)) = .bool true := hd.2.1 rfl _ rfl
                  clear hin hd
                  refine step_on (guard_some rfl rfl f105) fun K hK => ?_
                  have hc1 := hg.cell g1
                  unfold YieldsG
                  go_simp
                  exact hK _ _ rfl (Grow.refl hB)
              · as_aux_lemma =>
                  intro ev w1 hg hin hc hgl hfn hd
                  have hB := hg.top
                  have f123 : (ev (.tmp 123)) = .int .i64 (x5 : Int) := hd.1 rfl _ rfl
                  have f105 : (ev (.tmp 105)) = .bool true := hd.2.1 rfl _ rfl
                  clear hin hd
                  refine step_on (guard_some rfl rfl f105) fun K hK => ?_
                  unfold YieldsG
                  go_simp
                  exact hK _ _ rfl (Grow.refl hB)
              · as_aux_lemma =>
                  intro ev w1 hg hin hc hgl hfn hd
                  have hB := hg.top
                  have f119 : (ev (.tmp 119)) = .agg (cellsB (Y)) := hd.1 rfl _ rfl
                  have f124 : (ev (.tmp 124)) = .int .i64 (15 - (x5 : Int)) := hd.2.1 rfl _ rfl
                  have f105 : (ev (.tmp 105)) = .bool true := hd.2.2.2.1 rfl _ rfl
                  clear hin hd
                  refine step_on (guard_some rfl rfl f105) fun K hK => ?_
                  rw [HXZ.out] at f124
                  unfold YieldsG
                  go_simp
                  refine (chain_any Y (z : Int) w1 L2.out (by omega) (by have := HZB.out; omega) (hKr.below hg.bl (by omega))).mono ?_
                  rintro e w2 ⟨rfl, hb⟩
                  exact ⟨_, rfl, hK _ _ (by show Value.agg _ = _; rw [Int.toNat_natCast, HCY.out]) (Grow.of hB hb)⟩
              · as_aux_lemma =>
                  intro ev w1 hg hin hc hgl hfn hd
                  have hB := hg.top
                  have f115 : (ev (.tmp 115)) = .agg (cellsB (E)) := hd.1 rfl _ rfl
                  have f125 : (ev (.tmp 125)) = .agg (cellsB (E)) := hd.2.1 rfl _ rfl
                  have f105 : (ev (.tmp 105)) = .bool true := hd.2.2.1 rfl _ rfl
                  clear hin hd
                  refine step_on (guard_some rfl rfl f105) fun K hK => ?_
                  have hq := eqlT (E) (E) HEL.out rfl
                  unfold YieldsG
                  go_simp
                  exact hK _ _ rfl (Grow.refl hB)
              · as_aux_lemma =>
                  intro ev w1 hg hin hc hgl hfn hd
                  have hB := hg.top
                  have f105 : (ev (.tmp 105)) = .bool true := hd.1 rfl _ rfl
                  have f126 : (ev (.tmp 126)) = .bool true := hd.2.1 rfl _ rfl
                  clear hin hd
                  refine step_on (guard_none rfl) fun K hK => ?_
                  unfold YieldsG
                  go_simp
                  exact hK _ _ rfl (Grow.refl hB)
              intro v wz hg hall
              have hf31 : (v 31) = .bool true := hall.2.2.2.2.2.2.2.2.2.2.2.2.2.2.2.2.2.2.2.2.2.2.2.2.2.2.2.2.2.2.2.1 (by simp)
              clear hall i11 i3 i13 i16 hsz
              rw [ha0]
              clear ha0
              simp only [putAll, Act.put, List.setIfInBounds_toArray, List.set_cons_zero, List.set_cons_succ, Nat.zero_add, Nat.reduceAdd]
              simp only [hf31]
              clear hf31
              have hbz := hbr.trans (hg.below.mono hbr.size)
              clear hg
              go_wp2
              go_ret
              exact ⟨rfl, hB9.trans (hbz.mono hB9.size)⟩
          · exact absurd (lists_same HSL.out HFL.out fun j hj => hsame.out j (by omega)) HSF.out
      · have hbe : (A == Bf) = false := by simpa using hAB
        rw [hbe]
        clear hAB hbe HEQ
        have HXL := HX
        go_wp2_with fail
        refine (tagged_any (ByteArray.mk #[119, 111, 116, 115, 112, 117, 98]) _ A _ w9 (by decide) hea9 hK9 (by rw [HL1.out]; decide)).mono ?_
        rintro e wa ⟨rfl, hba⟩
        have hxa : taggedOf (ByteArray.mk #[119, 111, 116, 115, 112, 117, 98]).data.toList A = x := HKA.out
        rw [hxa]
        have hBa := hB9.trans (hba.mono hB9.size)
        have heba := (heb9.later hba).imp (ok' := fun _ => True) fun _ _ => trivial
        have hKa := hK9.below hba hK9.lt
        clear hba hea9 heb9
        go_wp2_with fail
        refine (tagged_any (ByteArray.mk #[119, 111, 116, 115, 112, 117, 98]) _ Bf _ wa (by decide) heba hKa (by rw [HL2.out]; decide)).mono ?_
        rintro e wb ⟨rfl, hbb⟩
        have hxb : taggedOf (ByteArray.mk #[119, 111, 116, 115, 112, 117, 98]).data.toList Bf = x := HKB.out
        rw [hxb]
        have hBb := hBa.trans (hbb.mono hBa.size)
        have hq := eqlT x x HX.out rfl
        go_wp2
        go_ret
        exact ⟨rfl, hBb⟩
theorem forgeryIsCollision_any (v : Value) (seed : List UInt8) (idx : Int) (d : List UInt8) (fv : Value) (fg : List (List UInt8)) (w : World) (hv : Bytes w v seed (fun _ => True)) (_hl : seed.length ≤ maxLen) (_h0 : -9223372036854775808 ≤ idx) (_h1 : idx ≤ 9223372036854775807) (hd : d.length = 32) (hf : Digs w fv fg) (hf32 : all32 fg) (hK : KFact w) :
    Calls Tryd.prog 9 #[v, .int .i64 idx, .agg (cellsB d), fv] w fun e w' => e = .returned (.bool true) ∧ Below w.heap.size w w' := by
  by_cases h : 200 < seed.length
  · exact fc_big1 seed v idx d fv fg w hv hd hf hf32 hK h
  · by_cases h2 : 40 < fg.length
    · exact fc_big2 seed v idx d fv fg w hv hd hf hf32 hK h h2
    · cases hok : okSeed seed idx with
      | true => exact fc_ok seed v idx d fv fg w hv hd hf hf32 hK h h2 hok
      | false => exact fc_no seed v idx d fv fg w hv hd hf hf32 hK h h2 hok
end Go.Proofs.YthhlfcbkggahmaaDoor

/- crossbarlaw04.WotsSignatureVerifies returns true. Conditions: the digests have 32 bytes, the tables lie in their variables. -/
import Derived.Test.YthhlfcbkggahmaaDoorWAsrt
namespace Go.Proofs.YthhlfcbkggahmaaDoor
open Go.RowKit
set_option maxRecDepth 100000 in
set_option maxHeartbeats 4000000 in
theorem sv_big (seed : List UInt8) (v : Value) (idx : Int) (d : List UInt8) (w : World) (hv : Bytes w v seed (fun _ => True)) (hd : d.length = 32) (hK : KFact w) (hc : 200 < seed.length) :
    Calls Tryd.prog 6 #[v, .int .i64 idx, .agg (cellsB d)] w fun e w' => e = .returned (.bool true) ∧ Below w.heap.size w w' := by
  have hkl := hK.lt
  have HD := Lib.hid hd
  have HSD := Lib.hid (Tryd.sizeD_of d hd)
  clear hd
  obtain ⟨av, kv, rfl⟩ : ∃ a c, v = .slice a seed.length c := by obtain ⟨a, c, h, _⟩ := hv; exact ⟨a, c, h⟩
  have hb0 : Below w.heap.size w (w.alloc (.cells (cellsB d) 23)) := (Below.refl _ _).alloc (Nat.le_refl _) _
  have hd0 : Row (w.alloc (.cells (cellsB d) 23)) w.heap.size 23 (cellsB d) := Row.new w _ _
  go_enter Tryd.func6, Tryd.ntmps6
  generalize hRR : Code.region 12 _ _ = RR
  go_wp2_with fail
  refine (sane_any _ (hK.below hb0 hkl)).mono ?_
  rintro e w0 ⟨rfl, hb1⟩
  have hB0 := hb0.trans (hb1.mono hb0.size)
  have hdw := hd0.below hb1 hd0.lt
  clear hb0 hd0 hb1
  go_wp2
  go_ret
  exact ⟨rfl, hB0⟩
set_option maxRecDepth 100000 in
set_option maxHeartbeats 4000000 in
theorem sv_ok (seed : List UInt8) (v : Value) (idx : Int) (d : List UInt8) (w : World) (hv : Bytes w v seed (fun _ => True)) (hd : d.length = 32) (hK : KFact w) (hc : ¬ 200 < seed.length) (hok : okSeed seed idx = true) :
    Calls Tryd.prog 6 #[v, .int .i64 idx, .agg (cellsB d)] w fun e w' => e = .returned (.bool true) ∧ Below w.heap.size w w' := by
  have hkl := hK.lt
  have HD := Lib.hid hd
  have HSD := Lib.hid (Tryd.sizeD_of d hd)
  clear hd
  obtain ⟨av, kv, rfl⟩ : ∃ a c, v = .slice a seed.length c := by obtain ⟨a, c, h, _⟩ := hv; exact ⟨a, c, h⟩
  have hb0 : Below w.heap.size w (w.alloc (.cells (cellsB d) 23)) := (Below.refl _ _).alloc (Nat.le_refl _) _
  have hd0 : Row (w.alloc (.cells (cellsB d) 23)) w.heap.size 23 (cellsB d) := Row.new w _ _
  go_enter Tryd.func6, Tryd.ntmps6
  generalize hRR : Code.region 12 _ _ = RR
  go_wp2_with fail
  refine (sane_any _ (hK.below hb0 hkl)).mono ?_
  rintro e w0 ⟨rfl, hb1⟩
  have hB0 := hb0.trans (hb1.mono hb0.size)
  have hdw := hd0.below hb1 hd0.lt
  clear hb0 hd0 hb1
  have hv0 := (hv.later hB0).imp (ok' := fun _ => True) fun _ _ => trivial
  go_wp2_with fail
  refine (public_any seed _ idx w0 hv0 (hK.below hB0 hkl)).mono ?_
  rintro e w1 ⟨rfl, hb1⟩
  obtain ⟨x, hx⟩ : ∃ x, pubR seed idx = x := ⟨_, rfl⟩
  have hxl : x.length = 32 := by rw [← hx]; exact pubR_len _ _
  have HX := Lib.hid hxl
  have HSX := Lib.hid (Tryd.sizeD_of x hxl)
  have HCX : Hid ((cellsB x).size = (cellsB (List.replicate 32 0)).size) := Lib.hid (by rw [cellsB_size, hxl]; rfl)
  have HER := Lib.hid (errR_ok hok)
  rw [hx, HER.out]
  have HXE := Lib.hid hx
  have hB1 := hB0.trans (hb1.mono hB0.size)
  have hd1 := hdw.below hb1 hdw.lt
  clear hx hxl hb1 hdw
  go_wp2_with (first | (refine wpList_store_row rfl 23 (.tmp 7) (.tmp 22) rfl w1.heap.size rfl (cellsB x) (cellsB (List.replicate 32 0)) 23 rfl (Row.new w1 _ _) HCX.out HSX.out (cellsB_one _) ?_; intro w2 hgw2 hrw2 hzw2; clear hzw2; have hbw2 := box_below hgw2; clear hgw2; have hd2 := hd1.below hbw2 hd1.lt) | (refine wpList_load_row rfl 23 (.tmp 5) rfl w.heap.size rfl 23 (cellsB d) (0, 0) _ hd2 Tryd.underD rfl HSD.out ?_))
  have hB2 := hB1.trans (hbw2.mono hB1.size)
  have hv2 := (hv.later hB2).imp (ok' := fun _ => True) fun _ _ => trivial
  clear hd1 hbw2
  refine (sign_any seed d _ idx w2 hv2 HD.out (hK.below hB2 hkl)).mono ?_
  rintro e w3 ⟨s1, rfl, hs1, hb3⟩
  rw [HER.out]
  have hB3 := hB2.trans (hb3.mono hB2.size)
  have hd3 := hd2.below hb3 hd2.lt
  have hr3 := hrw2.below hb3 hrw2.lt
  clear hd2 hrw2 hb3
  have hsl : (signR seed idx d).length = 18 := by unfold signR walkR; rw [if_pos hok]; exact walkOf_len _ _ _
  have h32 : all32 (signR seed idx d) := walkR_32 _ _ _
  have hrs : recR d (signR seed idx d) = x := by
    have h := ver_sign d hok
    unfold verB at h
    rw [HXE.out] at h
    simpa using (Bool.and_eq_true_iff.1 h).2
  have hvs := ver_sign d hok
  rw [HXE.out] at hvs
  have hes : errS (signR seed idx d) = 0 := errS_ok hsl
  generalize signR seed idx d = sg at *
  obtain ⟨av1, kv1, hse⟩ := hs1.form
  rw [hsl] at hse
  subst hse
  have HRS := Lib.hid hrs
  have HVS := Lib.hid hvs
  have HES := Lib.hid hes
  have HSL := Lib.hid hsl
  clear hrs hvs hes hsl hok
  have hlim : (18 : Nat) ≤ 18 := Nat.le_refl _
  go_wp2_with (refine wpList_load_row rfl 23 (.tmp 5) rfl w.heap.size rfl 23 (cellsB d) (0, 0) _ hd3 Tryd.underD rfl HSD.out ?_)
  refine (recover_any d sg _ w3 HD.out hs1 h32 (hK.below hB3 hkl)).mono ?_
  rintro e w4 ⟨rfl, hb4⟩
  rw [HRS.out, HES.out]
  have hB4 := hB3.trans (hb4.mono hB3.size)
  have hd4 := hd3.below hb4 hd3.lt
  have hr4 := hr3.below hb4 hr3.lt
  have hs4 := hs1.later hb4
  clear hd3 hr3 hb4 hs1
  go_wp2_with (refine wpList_store_row rfl 23 (.tmp 11) (.tmp 56) rfl w4.heap.size rfl (cellsB x) (cellsB (List.replicate 32 0)) 23 rfl (Row.new w4 _ _) HCX.out HSX.out (cellsB_one _) ?_; intro w5 hgw5 hrw5 hzw5; clear hzw5; have hbw5 := box_below hgw5; clear hgw5)
  have hbl' := hB4.trans (hbw5.mono hB4.size)
  have hd5 := hd4.below hbw5 hd4.lt
  have hr5 := hr4.below hbw5 hr4.lt
  have hs5 := hs4.later hbw5
  have hK5 := hK.below hbl' hkl
  clear hd4 hr4 hbw5 hs4
  rw [← hRR]
  clear hRR
  obtain ⟨p7, e7⟩ : ∃ p, w1.heap.size = p := ⟨_, rfl⟩
  obtain ⟨p11, e11⟩ : ∃ p, w4.heap.size = p := ⟨_, rfl⟩
  obtain ⟨p5, e5⟩ : ∃ p, w.heap.size = p := ⟨_, rfl⟩
  rw [e7] at hr5
  rw [e11] at hrw5
  rw [e5] at hd5
  have hlt7 := hr5.lt
  have hlt11 := hrw5.lt
  have hlt5 := hd5.lt
  have hltk := hK5.lt
  have hblw := hbl'
  obtain ⟨B, eB⟩ : ∃ B, w5.heap.size = B := ⟨_, rfl⟩
  refine wp_gen fun a0 ha0 => ?_
  have i7 : a0.eval (.tmp 7) = .pointer (some ⟨p7, 0, none⟩) := by rw [ha0, ← e7]; rfl
  have i11 : a0.eval (.tmp 11) = .pointer (some ⟨p11, 0, none⟩) := by rw [ha0, ← e11]; rfl
  have i5 : a0.eval (.tmp 5) = .pointer (some ⟨p5, 0, none⟩) := by rw [ha0, ← e5]; rfl
  have i12 : a0.eval (.tmp 12) = .int .i64 0 := by rw [ha0]; rfl
  have i9 : a0.eval (.tmp 9) = .slice av1 18 kv1 := by rw [ha0]; rfl
  have hsz : a0.tmps.size = 71 := by rw [ha0]; rfl
  have hdf0 : a0.defers = [] := by rw [ha0]
  clear ha0
  refine wp_region_inv_text (B := B) [some 58, some 59, some 60, some 61, some 62, some 63, some 64, some 65, some 66, some 67, some 68, some 69, some 70, some 6] [Asrt.eq (.int .i64 0), Asrt.eq (.bool true), Asrt.eq (.bool true), Asrt.eq (.agg (cellsB (x))), Asrt.eq (.agg (cellsB (x))), Asrt.eq (.bool true), Asrt.eq (.bool true), Asrt.eq (.bool true), Asrt.eq (.agg (cellsB (x))), Asrt.eq (.agg (cellsB (d))), Asrt.eq (.slice av1 18 kv1), Asrt.eq (.bool true), Asrt.eq (.bool true), Asrt.eq (.bool true)] rfl (by rw [hsz]; as_aux_lemma => kernel_rfl) (by as_aux_lemma => kernel_rfl) (by omega) ⟨?_, ?_, ?_, ?_, ?_, ?_, ?_, ?_, ?_, ?_, ?_, ?_, ?_, ?_, trivial⟩ ?_
  · as_aux_lemma =>
      intro ev w1 hg hin hc hgl hfn hd
      have hB := hg.top
      have g12 : ev (.tmp 12) = .int .i64 0 := (hin 12 (by kernel_rfl)).trans i12
      clear hin hd
      refine step_on (guard_none rfl) fun K hK => ?_
      unfold YieldsG
      go_simp
      exact hK _ _ rfl (Grow.refl hB)
  · as_aux_lemma =>
      intro ev w1 hg hin hc hgl hfn hd
      have hB := hg.top
      have f58 : (ev (.tmp 58)) = .int .i64 0 := hd.1 rfl _ rfl
      clear hin hd
      refine step_on (guard_none rfl) fun K hK => ?_
      unfold YieldsG
      go_simp
      exact hK _ _ rfl (Grow.refl hB)
  · as_aux_lemma =>
      intro ev w1 hg hin hc hgl hfn hd
      have hB := hg.top
      have f59 : (ev (.tmp 59)) = .bool true := hd.1 rfl _ rfl
      clear hin hd
      refine step_on (guard_none rfl) fun K hK => ?_
      unfold YieldsG
      go_simp
      exact hK _ _ rfl (Grow.refl hB)
  · as_aux_lemma =>
      intro ev w1 hg hin hc hgl hfn hd
      have hB := hg.top
      have f60 : (ev (.tmp 60)) = .bool true := hd.1 rfl _ rfl
      have g11 : ev (.tmp 11) = .pointer (some ⟨p11, 0, none⟩) := (hin 11 (by kernel_rfl)).trans i11
      clear hin hd
      refine step_on (guard_some rfl rfl f60) fun K hK => ?_
      refine yg_load_row 23 (.tmp 11) rfl p11 g11 23 (cellsB x) (0, 0) _ (hrw5.below hg.bl (by omega)) Tryd.underD rfl (Tryd.sizeD_of _ HX.out) ?_
      exact hK _ _ rfl (Grow.refl hB)
  · as_aux_lemma =>
      intro ev w1 hg hin hc hgl hfn hd
      have hB := hg.top
      have f60 : (ev (.tmp 60)) = .bool true := hd.1 rfl _ rfl
      have g7 : ev (.tmp 7) = .pointer (some ⟨p7, 0, none⟩) := (hin 7 (by kernel_rfl)).trans i7
      clear hin hd
      refine step_on (guard_some rfl rfl f60) fun K hK => ?_
      refine yg_load_row 23 (.tmp 7) rfl p7 g7 23 (cellsB x) (0, 0) _ (hr5.below hg.bl (by omega)) Tryd.underD rfl (Tryd.sizeD_of _ HX.out) ?_
      exact hK _ _ rfl (Grow.refl hB)
  · as_aux_lemma =>
      intro ev w1 hg hin hc hgl hfn hd
      have hB := hg.top
      have f61 : (ev (.tmp 61)) = .agg (cellsB (x)) := hd.1 rfl _ rfl
      have f62 : (ev (.tmp 62)) = .agg (cellsB (x)) := hd.2.1 rfl _ rfl
      have f60 : (ev (.tmp 60)) = .bool true := hd.2.2.1 rfl _ rfl
      clear hin hd
      refine step_on (guard_some rfl rfl f60) fun K hK => ?_
      have hq := eqlT (x) (x) HX.out rfl
      unfold YieldsG
      go_simp
      exact hK _ _ rfl (Grow.refl hB)
  · as_aux_lemma =>
      intro ev w1 hg hin hc hgl hfn hd
      have hB := hg.top
      have f60 : (ev (.tmp 60)) = .bool true := hd.1 rfl _ rfl
      have f63 : (ev (.tmp 63)) = .bool true := hd.2.1 rfl _ rfl
      clear hin hd
      refine step_on (guard_none rfl) fun K hK => ?_
      unfold YieldsG
      go_simp
      exact hK _ _ rfl (Grow.refl hB)
  · as_aux_lemma =>
      intro ev w1 hg hin hc hgl hfn hd
      have hB := hg.top
      have f64 : (ev (.tmp 64)) = .bool true := hd.1 rfl _ rfl
      clear hin hd
      refine step_on (guard_none rfl) fun K hK => ?_
      unfold YieldsG
      go_simp
      exact hK _ _ rfl (Grow.refl hB)
  · as_aux_lemma =>
      intro ev w1 hg hin hc hgl hfn hd
      have hB := hg.top
      have f65 : (ev (.tmp 65)) = .bool true := hd.1 rfl _ rfl
      have g7 : ev (.tmp 7) = .pointer (some ⟨p7, 0, none⟩) := (hin 7 (by kernel_rfl)).trans i7
      clear hin hd
      refine step_on (guard_some rfl rfl f65) fun K hK => ?_
      refine yg_load_row 23 (.tmp 7) rfl p7 g7 23 (cellsB x) (0, 0) _ (hr5.below hg.bl (by omega)) Tryd.underD rfl (Tryd.sizeD_of _ HX.out) ?_
      exact hK _ _ rfl (Grow.refl hB)
  · as_aux_lemma =>
      intro ev w1 hg hin hc hgl hfn hd
      have hB := hg.top
      have f65 : (ev (.tmp 65)) = .bool true := hd.1 rfl _ rfl
      have g5 : ev (.tmp 5) = .pointer (some ⟨p5, 0, none⟩) := (hin 5 (by kernel_rfl)).trans i5
      clear hin hd
      refine step_on (guard_some rfl rfl f65) fun K hK => ?_
      refine yg_load_row 23 (.tmp 5) rfl p5 g5 23 (cellsB d) (0, 0) _ (hd5.below hg.bl (by omega)) Tryd.underD rfl (Tryd.sizeD_of _ HD.out) ?_
      exact hK _ _ rfl (Grow.refl hB)
  · as_aux_lemma =>
      intro ev w1 hg hin hc hgl hfn hd
      have hB := hg.top
      have f65 : (ev (.tmp 65)) = .bool true := hd.1 rfl _ rfl
      have g9 : ev (.tmp 9) = .slice av1 18 kv1 := (hin 9 (by kernel_rfl)).trans i9
      clear hin hd
      refine step_on (guard_some rfl rfl f65) fun K hK => ?_
      unfold YieldsG
      go_simp
      exact hK _ _ rfl (Grow.refl hB)
  · as_aux_lemma =>
      intro ev w1 hg hin hc hgl hfn hd
      have hB := hg.top
      have f66 : (ev (.tmp 66)) = .agg (cellsB (x)) := hd.1 rfl _ rfl
      have f67 : (ev (.tmp 67)) = .agg (cellsB (d)) := hd.2.1 rfl _ rfl
      have f68 : (ev (.tmp 68)) = .slice av1 18 kv1 := hd.2.2.1 rfl _ rfl
      have f65 : (ev (.tmp 65)) = .bool true := hd.2.2.2.1 rfl _ rfl
      clear hin hd
      refine step_on (guard_some rfl rfl f65) fun K hK => ?_
      unfold YieldsG
      go_simp
      refine (verify_any x d sg _ w1 HX.out HD.out (hs5.later (by rw [eB]; exact hg.bl)) h32 (hK5.below hg.bl (by omega))).mono ?_
      rintro e w2 ⟨rfl, hb⟩
      exact ⟨_, rfl, hK _ _ (by rw [HVS.out]; rfl) (Grow.of hB hb)⟩
  · as_aux_lemma =>
      intro ev w1 hg hin hc hgl hfn hd
      have hB := hg.top
      have f65 : (ev (.tmp 65)) = .bool true := hd.1 rfl _ rfl
      have f69 : (ev (.tmp 69)) = .bool true := hd.2.1 rfl _ rfl
      clear hin hd
      refine step_on (guard_none rfl) fun K hK => ?_
      unfold YieldsG
      go_simp
      exact hK _ _ rfl (Grow.refl hB)
  · as_aux_lemma =>
      intro ev w1 hg hin hc hgl hfn hd
      have hB := hg.top
      have f70 : (ev (.tmp 70)) = .bool true := hd.1 rfl _ rfl
      clear hin hd
      refine step_on (guard_none rfl) fun K hK => ?_
      unfold YieldsG
      go_simp
      exact hK _ _ rfl (Grow.refl hB)
  · intro v w2 hg hall
    have hr : v 13 = .bool true := hall.2.2.2.2.2.2.2.2.2.2.2.2.2.1 (by simp)
    generalize hput : putAll _ v 0 _ = af
    have h0 : af.tmps.getD 6 undef = v 13 := by rw [← hput]; exact putAll_at (by rw [hsz]; as_aux_lemma => kernel_rfl) rfl rfl
    have hdf : af.defers = [] := by rw [← hput, putAll_defers]; exact hdf0
    clear hput hall
    go_wp2
    refine bodyPost_ret (results_tmp rfl _ _ _) hdf ⟨?_, hbl'.trans (hg.bl.mono (by rw [← eB]; exact hbl'.size))⟩
    rw [h0, hr]
set_option maxRecDepth 100000 in
set_option maxHeartbeats 4000000 in
theorem sv_no (seed : List UInt8) (v : Value) (idx : Int) (d : List UInt8) (w : World) (hv : Bytes w v seed (fun _ => True)) (hd : d.length = 32) (hK : KFact w) (hc : ¬ 200 < seed.length) (hok : okSeed seed idx = false) :
    Calls Tryd.prog 6 #[v, .int .i64 idx, .agg (cellsB d)] w fun e w' => e = .returned (.bool true) ∧ Below w.heap.size w w' := by
  have hkl := hK.lt
  have HD := Lib.hid hd
  have HSD := Lib.hid (Tryd.sizeD_of d hd)
  clear hd
  obtain ⟨av, kv, rfl⟩ : ∃ a c, v = .slice a seed.length c := by obtain ⟨a, c, h, _⟩ := hv; exact ⟨a, c, h⟩
  have hb0 : Below w.heap.size w (w.alloc (.cells (cellsB d) 23)) := (Below.refl _ _).alloc (Nat.le_refl _) _
  have hd0 : Row (w.alloc (.cells (cellsB d) 23)) w.heap.size 23 (cellsB d) := Row.new w _ _
  go_enter Tryd.func6, Tryd.ntmps6
  generalize hR7 : Code.region 7 _ _ = RR
  go_wp2_with fail
  refine (sane_any _ (hK.below hb0 hkl)).mono ?_
  rintro e w0 ⟨rfl, hb1⟩
  have hB0 := hb0.trans (hb1.mono hb0.size)
  have hdw := hd0.below hb1 hd0.lt
  clear hb0 hd0 hb1
  have hv0 := (hv.later hB0).imp (ok' := fun _ => True) fun _ _ => trivial
  go_wp2_with fail
  refine (public_any seed _ idx w0 hv0 (hK.below hB0 hkl)).mono ?_
  rintro e w1 ⟨rfl, hb1⟩
  obtain ⟨x, hx⟩ : ∃ x, pubR seed idx = x := ⟨_, rfl⟩
  have hxl : x.length = 32 := by rw [← hx]; exact pubR_len _ _
  have HX := Lib.hid hxl
  have HSX := Lib.hid (Tryd.sizeD_of x hxl)
  have HCX : Hid ((cellsB x).size = (cellsB (List.replicate 32 0)).size) := Lib.hid (by rw [cellsB_size, hxl]; rfl)
  have HER := Lib.hid (errR_bad hok)
  rw [hx, HER.out]
  have HXE := Lib.hid hx
  have hB1 := hB0.trans (hb1.mono hB0.size)
  have hd1 := hdw.below hb1 hdw.lt
  clear hx hxl hb1 hdw
  go_wp2_with (first | (refine wpList_store_row rfl 23 (.tmp 7) (.tmp 22) rfl w1.heap.size rfl (cellsB x) (cellsB (List.replicate 32 0)) 23 rfl (Row.new w1 _ _) HCX.out HSX.out (cellsB_one _) ?_; intro w2 hgw2 hrw2 hzw2; clear hzw2; have hbw2 := box_below hgw2; clear hgw2; have hd2 := hd1.below hbw2 hd1.lt) | (refine wpList_load_row rfl 23 (.tmp 5) rfl w.heap.size rfl 23 (cellsB d) (0, 0) _ hd2 Tryd.underD rfl HSD.out ?_))
  have hB2 := hB1.trans (hbw2.mono hB1.size)
  have hv2 := (hv.later hB2).imp (ok' := fun _ => True) fun _ _ => trivial
  clear hd1 hbw2
  refine (sign_any seed d _ idx w2 hv2 HD.out (hK.below hB2 hkl)).mono ?_
  rintro e w3 ⟨s1, rfl, hs1, hb3⟩
  rw [HER.out]
  have hB3 := hB2.trans (hb3.mono hB2.size)
  have hd3 := hd2.below hb3 hd2.lt
  have hr3 := hrw2.below hb3 hrw2.lt
  clear hd2 hrw2 hb3
  have hsg : signR seed idx d = [] := by unfold signR walkR; rw [if_neg (by rw [hok]; decide)]
  have hxz : x = zeroD := by rw [← HXE.out]; unfold pubR; rw [if_neg (by rw [hok]; decide)]
  rw [hsg] at hs1
  obtain ⟨av1, kv1, hse⟩ := hs1.form
  subst hse
  rw [hxz] at hr3
  clear hsg hxz hok hs1
  go_wp2
  rw [← hR7]
  clear hR7
  obtain ⟨p7, e7⟩ : ∃ p, w1.heap.size = p := ⟨_, rfl⟩
  rw [e7] at hr3
  have hlt7 := hr3.lt
  obtain ⟨B, eB⟩ : ∃ B, w3.heap.size = B := ⟨_, rfl⟩
  refine wp_gen fun a0 ha0 => ?_
  have i8 : a0.eval (.tmp 8) = .int .i64 ((1 : Nat) : Int) := by rw [ha0]; rfl
  have i10 : a0.eval (.tmp 10) = .int .i64 ((1 : Nat) : Int) := by rw [ha0]; rfl
  have i9 : a0.eval (.tmp 9) = .slice av1 ([] : List (List UInt8)).length kv1 := by rw [ha0]; rfl
  have i7 : a0.eval (.tmp 7) = .pointer (some ⟨p7, 0, none⟩) := by rw [ha0, ← e7]; rfl
  have hsz : a0.tmps.size = 71 := by rw [ha0]; rfl
  refine wp_region_inv_text (B := B) [some 31, some 32, some 33, some 34, some 35, some 36, some 37, some 38, some 39, some 40, some 41, some 42, some 43, some 44, some 45, some 46, some 47] [Asrt.eq (.int .i64 ((1 : Nat) : Int)), Asrt.eq (.int .i64 ((1 : Nat) : Int)), Asrt.eq (.bool false), Asrt.eq (.bool false), Asrt.eq (.int .i64 ((1 : Nat) : Int)), Asrt.eq (.bool true), Asrt.eq (.bool true), Asrt.eq (.slice av1 ([] : List (List UInt8)).length kv1), Asrt.eq (.int .i64 0), Asrt.eq (.bool false), Asrt.eq (.bool false), Asrt.eq (.agg (cellsB (zeroD))), Asrt.eq (.agg (cellsB (zeroD))), Asrt.eq (.bool false), Asrt.eq (.bool false), Asrt.eq (.bool false), Asrt.eq (.bool false)] rfl (by rw [hsz]; as_aux_lemma => kernel_rfl) (by as_aux_lemma => kernel_rfl) (by omega) ⟨?_, ?_, ?_, ?_, ?_, ?_, ?_, ?_, ?_, ?_, ?_, ?_, ?_, ?_, ?_, ?_, ?_, trivial⟩ ?_
  · as_aux_lemma =>
      intro ev w1 hg hin hc hgl hfn hd
      have hB := hg.top
      have g8 : ev (.tmp 8) = .int .i64 ((1 : Nat) : Int) := (hin 8 (by kernel_rfl)).trans i8
      clear hin hd
      refine step_on (guard_none rfl) fun K hK => ?_
      unfold YieldsG
      go_simp
      exact hK _ _ rfl (Grow.refl hB)
  · as_aux_lemma =>
      intro ev w1 hg hin hc hgl hfn hd
      have hB := hg.top
      have g10 : ev (.tmp 10) = .int .i64 ((1 : Nat) : Int) := (hin 10 (by kernel_rfl)).trans i10
      clear hin hd
      refine step_on (guard_none rfl) fun K hK => ?_
      unfold YieldsG
      go_simp
      exact hK _ _ rfl (Grow.refl hB)
  · as_aux_lemma =>
      intro ev w1 hg hin hc hgl hfn hd
      have hB := hg.top
      have f31 : (ev (.tmp 31)) = .int .i64 ((1 : Nat) : Int) := hd.1 rfl _ rfl
      have f32 : (ev (.tmp 32)) = .int .i64 ((1 : Nat) : Int) := hd.2.1 rfl _ rfl
      clear hin hd
      refine step_on (guard_none rfl) fun K hK => ?_
      unfold YieldsG
      go_simp
      exact hK _ _ rfl (Grow.refl hB)
  · as_aux_lemma =>
      intro ev w1 hg hin hc hgl hfn hd
      have hB := hg.top
      have f33 : (ev (.tmp 33)) = .bool false := hd.1 rfl _ rfl
      clear hin hd
      refine step_on (guard_none rfl) fun K hK => ?_
      unfold YieldsG
      go_simp
      exact hK _ _ rfl (Grow.refl hB)
  · as_aux_lemma =>
      intro ev w1 hg hin hc hgl hfn hd
      have hB := hg.top
      have f34 : (ev (.tmp 34)) = .bool false := hd.1 rfl _ rfl
      have g8 : ev (.tmp 8) = .int .i64 ((1 : Nat) : Int) := (hin 8 (by kernel_rfl)).trans i8
      clear hin hd
      refine step_on (guard_some rfl rfl f34) fun K hK => ?_
      unfold YieldsG
      go_simp
      exact hK _ _ rfl (Grow.refl hB)
  · as_aux_lemma =>
      intro ev w1 hg hin hc hgl hfn hd
      have hB := hg.top
      have f35 : (ev (.tmp 35)) = .int .i64 ((1 : Nat) : Int) := hd.1 rfl _ rfl
      have f34 : (ev (.tmp 34)) = .bool false := hd.2.1 rfl _ rfl
      clear hin hd
      refine step_on (guard_some rfl rfl f34) fun K hK => ?_
      unfold YieldsG
      go_simp
      exact hK _ _ rfl (Grow.refl hB)
  · as_aux_lemma =>
      intro ev w1 hg hin hc hgl hfn hd
      have hB := hg.top
      have f36 : (ev (.tmp 36)) = .bool true := hd.1 rfl _ rfl
      have f34 : (ev (.tmp 34)) = .bool false := hd.2.1 rfl _ rfl
      clear hin hd
      refine step_on (guard_some rfl rfl f34) fun K hK => ?_
      unfold YieldsG
      go_simp
      exact hK _ _ rfl (Grow.refl hB)
  · as_aux_lemma =>
      intro ev w1 hg hin hc hgl hfn hd
      have hB := hg.top
      have f37 : (ev (.tmp 37)) = .bool true := hd.1 rfl _ rfl
      have g9 : ev (.tmp 9) = .slice av1 ([] : List (List UInt8)).length kv1 := (hin 9 (by kernel_rfl)).trans i9
      clear hin hd
      refine step_on (guard_some rfl rfl f37) fun K hK => ?_
      unfold YieldsG
      go_simp
      exact hK _ _ rfl (Grow.refl hB)
  · as_aux_lemma =>
      intro ev w1 hg hin hc hgl hfn hd
      have hB := hg.top
      have f38 : (ev (.tmp 38)) = .slice av1 ([] : List (List UInt8)).length kv1 := hd.1 rfl _ rfl
      have f37 : (ev (.tmp 37)) = .bool true := hd.2.1 rfl _ rfl
      clear hin hd
      refine step_on (guard_some rfl rfl f37) fun K hK => ?_
      unfold YieldsG
      go_simp
      exact hK _ _ rfl (Grow.refl hB)
  · as_aux_lemma =>
      intro ev w1 hg hin hc hgl hfn hd
      have hB := hg.top
      have f39 : (ev (.tmp 39)) = .int .i64 0 := hd.1 rfl _ rfl
      have f37 : (ev (.tmp 37)) = .bool true := hd.2.1 rfl _ rfl
      clear hin hd
      refine step_on (guard_some rfl rfl f37) fun K hK => ?_
      unfold YieldsG
      go_simp
      exact hK _ _ rfl (Grow.refl hB)
  · as_aux_lemma =>
      intro ev w1 hg hin hc hgl hfn hd
      have hB := hg.top
      have f40 : (ev (.tmp 40)) = .bool false := hd.1 rfl _ rfl
      have f37 : (ev (.tmp 37)) = .bool true := hd.2.1 rfl _ rfl
      clear hin hd
      refine step_on (guard_some rfl rfl f37) fun K hK => ?_
      unfold YieldsG
      go_simp
      exact hK _ _ rfl (Grow.refl hB)
  · as_aux_lemma =>
      intro ev w1 hg hin hc hgl hfn hd
      have hB := hg.top
      have f41 : (ev (.tmp 41)) = .bool false := hd.1 rfl _ rfl
      have g7 : ev (.tmp 7) = .pointer (some ⟨p7, 0, none⟩) := (hin 7 (by kernel_rfl)).trans i7
      clear hin hd
      refine step_on (guard_some rfl rfl f41) fun K hK => ?_
      refine yg_load_row 23 (.tmp 7) rfl p7 g7 23 (cellsB zeroD) (0, 0) _ (hr3.below hg.bl (by omega)) Tryd.underD rfl (Tryd.sizeD_of _ rfl) ?_
      exact hK _ _ rfl (Grow.refl hB)
  · as_aux_lemma =>
      intro ev w1 hg hin hc hgl hfn hd
      have hB := hg.top
      have f41 : (ev (.tmp 41)) = .bool false := hd.1 rfl _ rfl
      clear hin hd
      refine step_on (guard_some rfl rfl f41) fun K hK => ?_
      unfold YieldsG
      go_simp
      exact hK _ _ rfl (Grow.refl hB)
  · as_aux_lemma =>
      intro ev w1 hg hin hc hgl hfn hd
      have hB := hg.top
      have f42 : (ev (.tmp 42)) = .agg (cellsB (zeroD)) := hd.1 rfl _ rfl
      have f43 : (ev (.tmp 43)) = .agg (cellsB (zeroD)) := hd.2.1 rfl _ rfl
      have f41 : (ev (.tmp 41)) = .bool false := hd.2.2.1 rfl _ rfl
      clear hin hd
      refine step_on (guard_some rfl rfl f41) fun K hK => ?_
      unfold YieldsG execOp
      simp only [f42, f43, Sem.run_bind, neq_digest zeroD zeroD rfl rfl, Result.andThen_ok]
      exact hK _ _ (by simp only [decide_true]; rfl) (Grow.refl hB)
  · as_aux_lemma =>
      intro ev w1 hg hin hc hgl hfn hd
      have hB := hg.top
      have f41 : (ev (.tmp 41)) = .bool false := hd.1 rfl _ rfl
      have f44 : (ev (.tmp 44)) = .bool false := hd.2.1 rfl _ rfl
      have f37 : (ev (.tmp 37)) = .bool true := hd.2.2.1 rfl _ rfl
      clear hin hd
      refine step_on (guard_some rfl rfl f37) fun K hK => ?_
      unfold YieldsG
      go_simp
      exact hK _ _ rfl (Grow.refl hB)
  · as_aux_lemma =>
      intro ev w1 hg hin hc hgl hfn hd
      have hB := hg.top
      have f37 : (ev (.tmp 37)) = .bool true := hd.1 rfl _ rfl
      have f45 : (ev (.tmp 45)) = .bool false := hd.2.1 rfl _ rfl
      have f34 : (ev (.tmp 34)) = .bool false := hd.2.2.1 rfl _ rfl
      clear hin hd
      refine step_on (guard_some rfl rfl f34) fun K hK => ?_
      unfold YieldsG
      go_simp
      exact hK _ _ rfl (Grow.refl hB)
  · as_aux_lemma =>
      intro ev w1 hg hin hc hgl hfn hd
      have hB := hg.top
      have f34 : (ev (.tmp 34)) = .bool false := hd.1 rfl _ rfl
      have f46 : (ev (.tmp 46)) = .bool false := hd.2.1 rfl _ rfl
      clear hin hd
      refine step_on (guard_none rfl) fun K hK => ?_
      unfold YieldsG
      go_simp
      exact hK _ _ rfl (Grow.refl hB)
  intro v w4 hg hall
  have hf0 : (v 0) = .int .i64 ((1 : Nat) : Int) := hall.1 (by simp)
  have hf1 : (v 1) = .int .i64 ((1 : Nat) : Int) := hall.2.1 (by simp)
  have hf2 : (v 2) = .bool false := hall.2.2.1 (by simp)
  have hf3 : (v 3) = .bool false := hall.2.2.2.1 (by simp)
  have hf4 : (v 4) = .int .i64 ((1 : Nat) : Int) := hall.2.2.2.2.1 (by simp)
  have hf5 : (v 5) = .bool true := hall.2.2.2.2.2.1 (by simp)
  have hf6 : (v 6) = .bool true := hall.2.2.2.2.2.2.1 (by simp)
  have hf7 : (v 7) = .slice av1 ([] : List (List UInt8)).length kv1 := hall.2.2.2.2.2.2.2.1 (by simp)
  have hf8 : (v 8) = .int .i64 0 := hall.2.2.2.2.2.2.2.2.1 (by simp)
  have hf9 : (v 9) = .bool false := hall.2.2.2.2.2.2.2.2.2.1 (by simp)
  have hf10 : (v 10) = .bool false := hall.2.2.2.2.2.2.2.2.2.2.1 (by simp)
  have hf11 : (v 11) = .agg (cellsB (zeroD)) := hall.2.2.2.2.2.2.2.2.2.2.2.1 (by simp)
  have hf12 : (v 12) = .agg (cellsB (zeroD)) := hall.2.2.2.2.2.2.2.2.2.2.2.2.1 (by simp)
  have hf13 : (v 13) = .bool false := hall.2.2.2.2.2.2.2.2.2.2.2.2.2.1 (by simp)
  have hf14 : (v 14) = .bool false := hall.2.2.2.2.2.2.2.2.2.2.2.2.2.2.1 (by simp)
  have hf15 : (v 15) = .bool false := hall.2.2.2.2.2.2.2.2.2.2.2.2.2.2.2.1 (by simp)
  have hf16 : (v 16) = .bool false := hall.2.2.2.2.2.2.2.2.2.2.2.2.2.2.2.2.1 (by simp)
  clear hall i8 i10 i9 i7 hsz
  rw [ha0]
  clear ha0
  simp only [putAll, Act.put, List.setIfInBounds_toArray, List.set_cons_zero, List.set_cons_succ, Nat.zero_add, Nat.reduceAdd]
  simp only [hf0, hf1, hf2, hf3, hf4, hf5, hf6, hf7, hf8, hf9, hf10, hf11, hf12, hf13, hf14, hf15, hf16]
  clear hf0 hf1 hf2 hf3 hf4 hf5 hf6 hf7 hf8 hf9 hf10 hf11 hf12 hf13 hf14 hf15 hf16
  have hB4 := hB3.trans (hg.bl.mono (by rw [← eB]; exact hB3.size))
  go_wp2
  go_ret
  exact ⟨rfl, hB4⟩
theorem signatureVerifies_any (v : Value) (seed : List UInt8) (idx : Int) (d : List UInt8) (w : World) (hv : Bytes w v seed (fun _ => True)) (_hl : seed.length ≤ maxLen) (_h0 : -9223372036854775808 ≤ idx) (_h1 : idx ≤ 9223372036854775807) (hd : d.length = 32) (hK : KFact w) :
    Calls Tryd.prog 6 #[v, .int .i64 idx, .agg (cellsB d)] w fun e w' => e = .returned (.bool true) ∧ Below w.heap.size w w' := by
  by_cases h : 200 < seed.length
  · exact sv_big seed v idx d w hv hd hK h
  · cases hok : okSeed seed idx with
    | true => exact sv_ok seed v idx d w hv hd hK h hok
    | false => exact sv_no seed v idx d w hv hd hK h hok
end Go.Proofs.YthhlfcbkggahmaaDoor

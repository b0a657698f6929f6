/- crossbarlaw04.WotsMatchesKeys returns true. Conditions: the digests have 32 bytes, the tables lie in their variables. -/
import Derived.Test.YthhlfcbkggahmaaDoorWAsrt
import Derived.Test.YthhlfcbkggahmaaDoorWRefS
namespace Go.Proofs.YthhlfcbkggahmaaDoor
open Go.RowKit
set_option maxRecDepth 100000 in
set_option maxHeartbeats 4000000 in
theorem mk_big (seed : List UInt8) (v : Value) (idx : Int) (d : List UInt8) (w : World) (hv : Bytes w v seed (fun _ => True)) (hd : d.length = 32) (hR : RKFact w) (hI : RIFact w) (hK : KFact w) (hc : 200 < seed.length) :
    Calls Tryd.prog 4 #[v, .int .i64 idx, .agg (cellsB d)] w fun e w' => e = .returned (.bool true) ∧ Below w.heap.size w w' := by
  have hkl := hK.lt
  have hrl := hR.lt
  have hil := hI.lt
  have HD := Lib.hid hd
  have HSD := Lib.hid (Tryd.sizeD_of d hd)
  clear hd
  obtain ⟨av, kv, rfl⟩ : ∃ a c, v = .slice a seed.length c := by obtain ⟨a, c, h, _⟩ := hv; exact ⟨a, c, h⟩
  have hb0 : Below w.heap.size w (w.alloc (.cells (cellsB d) 23)) := (Below.refl _ _).alloc (Nat.le_refl _) _
  have hd0 : Row (w.alloc (.cells (cellsB d) 23)) w.heap.size 23 (cellsB d) := Row.new w _ _
  go_enter Tryd.func4, Tryd.ntmps4
  generalize hRR : Code.region 9 _ _ = RR
  go_wp2_with fail
  refine (sane_any _ (hK.below hb0 hkl)).mono ?_
  rintro e w0 ⟨rfl, hb1⟩
  have hB0 := hb0.trans (hb1.mono hb0.size)
  have hdw := hd0.below hb1 hd0.lt
  clear hb0 hd0 hb1
  go_wp2
  go_ret
  exact ⟨rfl, hB0⟩
set_option maxRecDepth 100000 in
set_option maxHeartbeats 4000000 in
theorem mk_main (seed : List UInt8) (v : Value) (idx : Int) (d : List UInt8) (w : World) (hv : Bytes w v seed (fun _ => True)) (hd : d.length = 32) (hR : RKFact w) (hI : RIFact w) (hK : KFact w) (hc : ¬ 200 < seed.length) :
    Calls Tryd.prog 4 #[v, .int .i64 idx, .agg (cellsB d)] w fun e w' => e = .returned (.bool true) ∧ Below w.heap.size w w' := by
  have hkl := hK.lt
  have hrl := hR.lt
  have hil := hI.lt
  have HD := Lib.hid hd
  have HSD := Lib.hid (Tryd.sizeD_of d hd)
  clear hd
  obtain ⟨av, kv, rfl⟩ : ∃ a c, v = .slice a seed.length c := by obtain ⟨a, c, h, _⟩ := hv; exact ⟨a, c, h⟩
  have hb0 : Below w.heap.size w (w.alloc (.cells (cellsB d) 23)) := (Below.refl _ _).alloc (Nat.le_refl _) _
  have hd0 : Row (w.alloc (.cells (cellsB d) 23)) w.heap.size 23 (cellsB d) := Row.new w _ _
  go_enter Tryd.func4, Tryd.ntmps4
  generalize hRR : Code.region 9 _ _ = RR
  go_wp2_with fail
  refine (sane_any _ (hK.below hb0 hkl)).mono ?_
  rintro e w0 ⟨rfl, hb1⟩
  have hB0 := hb0.trans (hb1.mono hb0.size)
  have hdw := hd0.below hb1 hd0.lt
  clear hb0 hd0 hb1
  have hv0 := (hv.later hB0).imp (ok' := fun _ => True) fun _ _ => trivial
  go_wp2_with fail
  refine (public_any seed _ idx w0 hv0 (hK.below hB0 hkl)).mono ?_
  rintro e w1 ⟨rfl, hb1⟩
  obtain ⟨x, hx⟩ : ∃ x, pubR seed idx = x := ⟨_, rfl⟩
  have hxl : x.length = 32 := by rw [← hx]; exact pubR_len _ _
  have HX := Lib.hid hxl
  have HSX := Lib.hid (Tryd.sizeD_of x hxl)
  have HCX : Hid ((cellsB x).size = (cellsB (List.replicate 32 0)).size) := Lib.hid (by rw [cellsB_size, hxl]; rfl)
  obtain ⟨c, hcc⟩ : ∃ c, errR seed idx = c := ⟨_, rfl⟩
  rw [hx, hcc]
  have HXE := Lib.hid hx
  have HCE := Lib.hid hcc
  have hB1 := hB0.trans (hb1.mono hB0.size)
  have hd1 := hdw.below hb1 hdw.lt
  clear hx hcc hxl hb1 hdw
  go_wp2_with (refine wpList_store_row rfl 23 (.tmp 7) (.tmp 24) rfl w1.heap.size rfl (cellsB x) (cellsB (List.replicate 32 0)) 23 rfl (Row.new w1 _ _) HCX.out HSX.out (cellsB_one _) ?_; intro w2 hgw2 hrw2 hzw2; clear hzw2; have hbw2 := box_below hgw2; clear hgw2)
  have hB2 := hB1.trans (hbw2.mono hB1.size)
  have hd2 := hd1.below hbw2 hd1.lt
  have hv2 := (hv.later hB2).imp (ok' := fun _ => True) fun _ _ => trivial
  clear hd1 hbw2
  refine (rpublic_any seed _ idx w2 hv2 (hR.below hB2 hrl) (hI.below hB2 hil)).mono ?_
  rintro e w3 ⟨rfl, hb3⟩
  rw [HXE.out, HCE.out]
  have hB3 := hB2.trans (hb3.mono hB2.size)
  have hd3 := hd2.below hb3 hd2.lt
  have hr3 := hrw2.below hb3 hrw2.lt
  clear hd2 hrw2 hb3
  go_wp2_with (first | (refine wpList_store_row rfl 23 (.tmp 9) (.tmp 30) rfl w3.heap.size rfl (cellsB x) (cellsB (List.replicate 32 0)) 23 rfl (Row.new w3 _ _) HCX.out HSX.out (cellsB_one _) ?_; intro w4 hgw4 hrw4 hzw4; clear hzw4; have hbw4 := box_below hgw4; clear hgw4; have hd4 := hd3.below hbw4 hd3.lt) | (refine wpList_load_row rfl 23 (.tmp 5) rfl w.heap.size rfl 23 (cellsB d) (0, 0) _ hd4 Tryd.underD rfl HSD.out ?_))
  have hB4 := hB3.trans (hbw4.mono hB3.size)
  have hr4 := hr3.below hbw4 hr3.lt
  have hv4 := (hv.later hB4).imp (ok' := fun _ => True) fun _ _ => trivial
  clear hd3 hr3 hbw4
  refine (sign_any seed d _ idx w4 hv4 HD.out (hK.below hB4 hkl)).mono ?_
  rintro e w5 ⟨s1, rfl, hs1, hb5⟩
  rw [HCE.out]
  have hB5 := hB4.trans (hb5.mono hB4.size)
  have hd5 := hd4.below hb5 hd4.lt
  have hr5 := hr4.below hb5 hr4.lt
  have hq5 := hrw4.below hb5 hrw4.lt
  have hv5 := (hv.later hB5).imp (ok' := fun _ => True) fun _ _ => trivial
  clear hd4 hr4 hrw4 hb5
  go_wp2_with (refine wpList_load_row rfl 23 (.tmp 5) rfl w.heap.size rfl 23 (cellsB d) (0, 0) _ hd5 Tryd.underD rfl HSD.out ?_)
  refine (rsign_any seed d _ idx w5 hv5 HD.out (hR.below hB5 hrl) (hI.below hB5 hil)).mono ?_
  rintro e w0' ⟨s2, rfl, hs2, hb6⟩
  rw [HCE.out]
  have hbl' := hB5.trans (hb6.mono hB5.size)
  have hr6 := hr5.below hb6 hr5.lt
  have hq6 := hq5.below hb6 hq5.lt
  have hs6 := hs1.later hb6
  have h32 : all32 (signR seed idx d) := walkR_32 _ _ _
  have hsl : (signR seed idx d).length ≤ 18 := walkR_len _ _ _
  generalize signR seed idx d = sg at *
  clear hr5 hq5 hs1 hb6 hd5
  obtain ⟨p7, e7⟩ : ∃ p, w1.heap.size = p := ⟨_, rfl⟩
  obtain ⟨p9, e9⟩ : ∃ p, w3.heap.size = p := ⟨_, rfl⟩
  rw [e7] at hr6 ⊢
  rw [e9] at hq6 ⊢
  go_wp2
  rw [← hRR]
  clear hRR
  have hlt7 := hr6.lt
  have hlt9 := hq6.lt
  have hblw := hbl'
  obtain ⟨B, eB⟩ : ∃ B, w0'.heap.size = B := ⟨_, rfl⟩
  refine wp_gen fun a0 ha0 => ?_
  have i7 : a0.eval (.tmp 7) = .pointer (some ⟨p7, 0, none⟩) := by rw [ha0]; rfl
  have i9 : a0.eval (.tmp 9) = .pointer (some ⟨p9, 0, none⟩) := by rw [ha0]; rfl
  have i8 : a0.eval (.tmp 8) = .int .i64 (c : Int) := by rw [ha0]; rfl
  have i10 : a0.eval (.tmp 10) = .int .i64 (c : Int) := by rw [ha0]; rfl
  have i12 : a0.eval (.tmp 12) = .int .i64 (c : Int) := by rw [ha0]; rfl
  have i14 : a0.eval (.tmp 14) = .int .i64 (c : Int) := by rw [ha0]; rfl
  have i11 : a0.eval (.tmp 11) = s1 := by rw [ha0]; rfl
  have i13 : a0.eval (.tmp 13) = s2 := by rw [ha0]; rfl
  have hsz : a0.tmps.size = 64 := by rw [ha0]; rfl
  have hdf0 : a0.defers = [] := by rw [ha0]
  clear ha0
  refine wp_region_inv_text (B := B) [some 46, some 47, some 48, some 49, some 50, some 51, some 52, some 53, some 54, some 55, some 56, some 57, some 58, some 59, some 60, some 61, some 62, some 63, some 6] [Asrt.eq (.agg (cellsB (x))), Asrt.eq (.agg (cellsB (x))), Asrt.eq (.bool true), Asrt.eq (.bool true), Asrt.eq (.int .i64 (c : Int)), Asrt.eq (.int .i64 (c : Int)), Asrt.eq (.bool true), Asrt.eq (.bool true), Asrt.eq (.bool true), Asrt.eq (s1), Asrt.eq (s2), Asrt.eq (.bool true), Asrt.eq (.bool true), Asrt.eq (.bool true), Asrt.eq (.int .i64 (c : Int)), Asrt.eq (.int .i64 (c : Int)), Asrt.eq (.bool true), Asrt.eq (.bool true), Asrt.eq (.bool true)] rfl (by rw [hsz]; as_aux_lemma => kernel_rfl) (by as_aux_lemma => kernel_rfl) (by omega) ⟨?_, ?_, ?_, ?_, ?_, ?_, ?_, ?_, ?_, ?_, ?_, ?_, ?_, ?_, ?_, ?_, ?_, ?_, ?_, trivial⟩ ?_
  · as_aux_lemma =>
      intro ev w1 hg hin hc hgl hfn hd
      have hB := hg.top
      have g7 : ev (.tmp 7) = .pointer (some ⟨p7, 0, none⟩) := (hin 7 (by kernel_rfl)).trans i7
      clear hin hd
      refine step_on (guard_none rfl) fun K hK => ?_
      refine yg_load_row 23 (.tmp 7) rfl p7 g7 23 (cellsB x) (0, 0) _ (hr6.below hg.bl (by omega)) Tryd.underD rfl (Tryd.sizeD_of _ HX.out) ?_
      exact hK _ _ rfl (Grow.refl hB)
  · as_aux_lemma =>
      intro ev w1 hg hin hc hgl hfn hd
      have hB := hg.top
      have g9 : ev (.tmp 9) = .pointer (some ⟨p9, 0, none⟩) := (hin 9 (by kernel_rfl)).trans i9
      clear hin hd
      refine step_on (guard_none rfl) fun K hK => ?_
      refine yg_load_row 23 (.tmp 9) rfl p9 g9 23 (cellsB x) (0, 0) _ (hq6.below hg.bl (by omega)) Tryd.underD rfl (Tryd.sizeD_of _ HX.out) ?_
      exact hK _ _ rfl (Grow.refl hB)
  · as_aux_lemma =>
      intro ev w1 hg hin hc hgl hfn hd
      have hB := hg.top
      have f46 : (ev (.tmp 46)) = .agg (cellsB (x)) := hd.1 rfl _ rfl
      have f47 : (ev (.tmp 47)) = .agg (cellsB (x)) := hd.2.1 rfl _ rfl
      clear hin hd
      refine step_on (guard_none rfl) fun K hK => ?_
      have hq := eqlT (x) (x) HX.out rfl
      unfold YieldsG
      go_simp
      exact hK _ _ rfl (Grow.refl hB)
  · as_aux_lemma =>
      intro ev w1 hg hin hc hgl hfn hd
      have hB := hg.top
      have f48 : (ev (.tmp 48)) = .bool true := hd.1 rfl _ rfl
      clear hin hd
      refine step_on (guard_none rfl) fun K hK => ?_
      unfold YieldsG
      go_simp
      exact hK _ _ rfl (Grow.refl hB)
  · as_aux_lemma =>
      intro ev w1 hg hin hc hgl hfn hd
      have hB := hg.top
      have f49 : (ev (.tmp 49)) = .bool true := hd.1 rfl _ rfl
      have g8 : ev (.tmp 8) = .int .i64 (c : Int) := (hin 8 (by kernel_rfl)).trans i8
      clear hin hd
      refine step_on (guard_some rfl rfl f49) fun K hK => ?_
      unfold YieldsG
      go_simp
      exact hK _ _ rfl (Grow.refl hB)
  · as_aux_lemma =>
      intro ev w1 hg hin hc hgl hfn hd
      have hB := hg.top
      have f49 : (ev (.tmp 49)) = .bool true := hd.1 rfl _ rfl
      have g10 : ev (.tmp 10) = .int .i64 (c : Int) := (hin 10 (by kernel_rfl)).trans i10
      clear hin hd
      refine step_on (guard_some rfl rfl f49) fun K hK => ?_
      unfold YieldsG
      go_simp
      exact hK _ _ rfl (Grow.refl hB)
  · as_aux_lemma =>
      intro ev w1 hg hin hc hgl hfn hd
      have hB := hg.top
      have f50 : (ev (.tmp 50)) = .int .i64 (c : Int) := hd.1 rfl _ rfl
      have f51 : (ev (.tmp 51)) = .int .i64 (c : Int) := hd.2.1 rfl _ rfl
      have f49 : (ev (.tmp 49)) = .bool true := hd.2.2.1 rfl _ rfl
      clear hin hd
      refine step_on (guard_some rfl rfl f49) fun K hK => ?_
      unfold YieldsG
      go_simp
      exact hK _ _ rfl (Grow.refl hB)
  · as_aux_lemma =>
      intro ev w1 hg hin hc hgl hfn hd
      have hB := hg.top
      have f49 : (ev (.tmp 49)) = .bool true := hd.1 rfl _ rfl
      have f52 : (ev (.tmp 52)) = .bool true := hd.2.1 rfl _ rfl
      clear hin hd
      refine step_on (guard_none rfl) fun K hK => ?_
      unfold YieldsG
      go_simp
      exact hK _ _ rfl (Grow.refl hB)
  · as_aux_lemma =>
      intro ev w1 hg hin hc hgl hfn hd
      have hB := hg.top
      have f53 : (ev (.tmp 53)) = .bool true := hd.1 rfl _ rfl
      clear hin hd
      refine step_on (guard_none rfl) fun K hK => ?_
      unfold YieldsG
      go_simp
      exact hK _ _ rfl (Grow.refl hB)
  · as_aux_lemma =>
      intro ev w1 hg hin hc hgl hfn hd
      have hB := hg.top
      have f54 : (ev (.tmp 54)) = .bool true := hd.1 rfl _ rfl
      have g11 : ev (.tmp 11) = s1 := (hin 11 (by kernel_rfl)).trans i11
      clear hin hd
      refine step_on (guard_some rfl rfl f54) fun K hK => ?_
      unfold YieldsG
      go_simp
      exact hK _ _ rfl (Grow.refl hB)
  · as_aux_lemma =>
      intro ev w1 hg hin hc hgl hfn hd
      have hB := hg.top
      have f54 : (ev (.tmp 54)) = .bool true := hd.1 rfl _ rfl
      have g13 : ev (.tmp 13) = s2 := (hin 13 (by kernel_rfl)).trans i13
      clear hin hd
      refine step_on (guard_some rfl rfl f54) fun K hK => ?_
      unfold YieldsG
      go_simp
      exact hK _ _ rfl (Grow.refl hB)
  · as_aux_lemma =>
      intro ev w1 hg hin hc hgl hfn hd
      have hB := hg.top
      have f55 : (ev (.tmp 55)) = s1 := hd.1 rfl _ rfl
      have f56 : (ev (.tmp 56)) = s2 := hd.2.1 rfl _ rfl
      have f54 : (ev (.tmp 54)) = .bool true := hd.2.2.1 rfl _ rfl
      clear hin hd
      refine step_on (guard_some rfl rfl f54) fun K hK => ?_
      unfold YieldsG
      go_simp
      refine (rdigests_any sg sg _ _ w1 (hs6.later (by rw [eB]; exact hg.bl)) (hs2.later (by rw [eB]; exact hg.bl)) (by omega) (by omega) h32 h32).mono ?_
      rintro e w2 ⟨rfl, hb⟩
      exact ⟨_, rfl, hK _ _ (by rw [decide_eq_true rfl]; rfl) (Grow.of hB hb)⟩
  · as_aux_lemma =>
      intro ev w1 hg hin hc hgl hfn hd
      have hB := hg.top
      have f54 : (ev (.tmp 54)) = .bool true := hd.1 rfl _ rfl
      have f57 : (ev (.tmp 57)) = .bool true := hd.2.1 rfl _ rfl
      clear hin hd
      refine step_on (guard_none rfl) fun K hK => ?_
      unfold YieldsG
      go_simp
      exact hK _ _ rfl (Grow.refl hB)
  · as_aux_lemma =>
      intro ev w1 hg hin hc hgl hfn hd
      have hB := hg.top
      have f58 : (ev (.tmp 58)) = .bool true := hd.1 rfl _ rfl
      clear hin hd
      refine step_on (guard_none rfl) fun K hK => ?_
      unfold YieldsG
      go_simp
      exact hK _ _ rfl (Grow.refl hB)
  · as_aux_lemma =>
      intro ev w1 hg hin hc hgl hfn hd
      have hB := hg.top
      have f59 : (ev (.tmp 59)) = .bool true := hd.1 rfl _ rfl
      have g12 : ev (.tmp 12) = .int .i64 (c : Int) := (hin 12 (by kernel_rfl)).trans i12
      clear hin hd
      refine step_on (guard_some rfl rfl f59) fun K hK => ?_
      unfold YieldsG
      go_simp
      exact hK _ _ rfl (Grow.refl hB)
  · as_aux_lemma =>
      intro ev w1 hg hin hc hgl hfn hd
      have hB := hg.top
      have f59 : (ev (.tmp 59)) = .bool true := hd.1 rfl _ rfl
      have g14 : ev (.tmp 14) = .int .i64 (c : Int) := (hin 14 (by kernel_rfl)).trans i14
      clear hin hd
      refine step_on (guard_some rfl rfl f59) fun K hK => ?_
      unfold YieldsG
      go_simp
      exact hK _ _ rfl (Grow.refl hB)
  · as_aux_lemma =>
      intro ev w1 hg hin hc hgl hfn hd
      have hB := hg.top
      have f60 : (ev (.tmp 60)) = .int .i64 (c : Int) := hd.1 rfl _ rfl
      have f61 : (ev (.tmp 61)) = .int .i64 (c : Int) := hd.2.1 rfl _ rfl
      have f59 : (ev (.tmp 59)) = .bool true := hd.2.2.1 rfl _ rfl
      clear hin hd
      refine step_on (guard_some rfl rfl f59) fun K hK => ?_
      unfold YieldsG
      go_simp
      exact hK _ _ rfl (Grow.refl hB)
  · as_aux_lemma =>
      intro ev w1 hg hin hc hgl hfn hd
      have hB := hg.top
      have f59 : (ev (.tmp 59)) = .bool true := hd.1 rfl _ rfl
      have f62 : (ev (.tmp 62)) = .bool true := hd.2.1 rfl _ rfl
      clear hin hd
      refine step_on (guard_none rfl) fun K hK => ?_
      unfold YieldsG
      go_simp
      exact hK _ _ rfl (Grow.refl hB)
  · as_aux_lemma =>
      intro ev w1 hg hin hc hgl hfn hd
      have hB := hg.top
      have f63 : (ev (.tmp 63)) = .bool true := hd.1 rfl _ rfl
      clear hin hd
      refine step_on (guard_none rfl) fun K hK => ?_
      unfold YieldsG
      go_simp
      exact hK _ _ rfl (Grow.refl hB)
  · intro v w2 hg hall
    have hr : v 18 = .bool true := hall.2.2.2.2.2.2.2.2.2.2.2.2.2.2.2.2.2.2.1 (by simp)
    generalize hput : putAll _ v 0 _ = af
    have h0 : af.tmps.getD 6 undef = v 18 := by rw [← hput]; exact putAll_at (by rw [hsz]; as_aux_lemma => kernel_rfl) rfl rfl
    have hdf : af.defers = [] := by rw [← hput, putAll_defers]; exact hdf0
    clear hput hall
    go_wp2
    refine bodyPost_ret (results_tmp rfl _ _ _) hdf ⟨?_, hbl'.trans (hg.bl.mono (by rw [← eB]; exact hbl'.size))⟩
    rw [h0, hr]
theorem matchesKeys_any (v : Value) (seed : List UInt8) (idx : Int) (d : List UInt8) (w : World) (hv : Bytes w v seed (fun _ => True)) (_hl : seed.length ≤ maxLen) (_h0 : -9223372036854775808 ≤ idx) (_h1 : idx ≤ 9223372036854775807) (hd : d.length = 32) (hR : RKFact w) (hI : RIFact w) (hK : KFact w) :
    Calls Tryd.prog 4 #[v, .int .i64 idx, .agg (cellsB d)] w fun e w' => e = .returned (.bool true) ∧ Below w.heap.size w w' := by
  by_cases h : 200 < seed.length
  · exact mk_big seed v idx d w hv hd hR hI hK h
  · exact mk_main seed v idx d w hv hd hR hI hK h
end Go.Proofs.YthhlfcbkggahmaaDoor

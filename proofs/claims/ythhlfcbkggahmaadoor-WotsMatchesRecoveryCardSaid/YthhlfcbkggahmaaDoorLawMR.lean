/- crossbarlaw04.WotsMatchesRecovery returns true. Conditions: the digests have 32 bytes, the tables lie in their variables. -/
import Derived.Test.YthhlfcbkggahmaaDoorWAsrt
import Derived.Test.YthhlfcbkggahmaaDoorWVerR
namespace Go.Proofs.YthhlfcbkggahmaaDoor
open Go.RowKit
theorem verB_self (d : List UInt8) (sig : List (List UInt8)) : verB (recR d sig) d sig = decide (errS sig = 0) := by unfold verB; rw [decide_eq_true rfl, Bool.and_true]
set_option maxRecDepth 100000 in
set_option maxHeartbeats 4000000 in
theorem mr_big (pub d : List UInt8) (sig : List (List UInt8)) (v : Value) (w : World) (hp : pub.length = 32) (hd : d.length = 32) (hv : Digs w v sig) (h32 : all32 sig) (hR : RKFact w) (hI : RIFact w) (hK : KFact w) (hc : 40 < sig.length) :
    Calls Tryd.prog 5 #[.agg (cellsB pub), .agg (cellsB d), v] w fun e w' => e = .returned (.bool true) ∧ Below w.heap.size w w' := by
  have hkl := hK.lt
  have hrl := hR.lt
  have hil := hI.lt
  have HD := Lib.hid hd
  have HP := Lib.hid hp
  have HSD := Lib.hid (Tryd.sizeD_of d hd)
  clear hd hp
  obtain ⟨av, kv, rfl⟩ := hv.form
  have hb0 : Below w.heap.size w ((w.alloc (.cells (cellsB pub) 23)).alloc (.cells (cellsB d) 23)) := ((Below.refl _ _).alloc (Nat.le_refl _) _).alloc (by simp) _
  have hp0 : Row ((w.alloc (.cells (cellsB pub) 23)).alloc (.cells (cellsB d) 23)) w.heap.size 23 (cellsB pub) := (Row.new w _ _).alloc _
  have hd0 : Row ((w.alloc (.cells (cellsB pub) 23)).alloc (.cells (cellsB d) 23)) (w.heap.size + 1) 23 (cellsB d) := by
    have h := Row.new (w.alloc (.cells (cellsB pub) 23)) (cellsB d) 23
    rwa [show (w.alloc (.cells (cellsB pub) 23)).heap.size = w.heap.size + 1 by simp] at h
  go_enter Tryd.func5, Tryd.ntmps5
  generalize hRR : Code.region 7 _ _ = RR
  go_wp2_with fail
  refine (sane_any _ (hK.below hb0 hkl)).mono ?_
  rintro e w0 ⟨rfl, hb1⟩
  have hB0 := hb0.trans (hb1.mono hb0.size)
  have hdw := hd0.below hb1 hd0.lt
  have hpw := hp0.below hb1 hp0.lt
  clear hb0 hd0 hp0 hb1
  go_wp2
  go_ret
  exact ⟨rfl, hB0⟩
set_option maxRecDepth 100000 in
set_option maxHeartbeats 4000000 in
theorem mr_ok (pub d : List UInt8) (sig : List (List UInt8)) (v : Value) (w : World) (hp : pub.length = 32) (hd : d.length = 32) (hv : Digs w v sig) (h32 : all32 sig) (hR : RKFact w) (hI : RIFact w) (hK : KFact w) (hc : ¬ 40 < sig.length) (hcc : errS sig = 0) :
    Calls Tryd.prog 5 #[.agg (cellsB pub), .agg (cellsB d), v] w fun e w' => e = .returned (.bool true) ∧ Below w.heap.size w w' := by
  have hkl := hK.lt
  have hrl := hR.lt
  have hil := hI.lt
  have HD := Lib.hid hd
  have HP := Lib.hid hp
  have HSD := Lib.hid (Tryd.sizeD_of d hd)
  clear hd hp
  obtain ⟨av, kv, rfl⟩ := hv.form
  have hb0 : Below w.heap.size w ((w.alloc (.cells (cellsB pub) 23)).alloc (.cells (cellsB d) 23)) := ((Below.refl _ _).alloc (Nat.le_refl _) _).alloc (by simp) _
  have hp0 : Row ((w.alloc (.cells (cellsB pub) 23)).alloc (.cells (cellsB d) 23)) w.heap.size 23 (cellsB pub) := (Row.new w _ _).alloc _
  have hd0 : Row ((w.alloc (.cells (cellsB pub) 23)).alloc (.cells (cellsB d) 23)) (w.heap.size + 1) 23 (cellsB d) := by
    have h := Row.new (w.alloc (.cells (cellsB pub) 23)) (cellsB d) 23
    rwa [show (w.alloc (.cells (cellsB pub) 23)).heap.size = w.heap.size + 1 by simp] at h
  go_enter Tryd.func5, Tryd.ntmps5
  generalize hRR : Code.region 7 _ _ = RR
  go_wp2_with fail
  refine (sane_any _ (hK.below hb0 hkl)).mono ?_
  rintro e w0 ⟨rfl, hb1⟩
  have hB0 := hb0.trans (hb1.mono hb0.size)
  have hdw := hd0.below hb1 hd0.lt
  have hpw := hp0.below hb1 hp0.lt
  clear hb0 hd0 hp0 hb1
  have hv0 := hv.later hB0
  go_wp2_with (refine wpList_load_row rfl 23 (.tmp 4) rfl (w.heap.size + 1) rfl 23 (cellsB d) (0, 0) _ hdw Tryd.underD rfl HSD.out ?_)
  refine (recover_any d sig _ w0 HD.out hv0 h32 (hK.below hB0 hkl)).mono ?_
  rintro e w1 ⟨rfl, hb1⟩
  obtain ⟨x, hx⟩ : ∃ x, recR d sig = x := ⟨_, rfl⟩
  have hxl : x.length = 32 := by rw [← hx]; exact recR_len _ _
  have HX := Lib.hid hxl
  have HSX := Lib.hid (Tryd.sizeD_of x hxl)
  have HCX : Hid ((cellsB x).size = (cellsB (List.replicate 32 0)).size) := Lib.hid (by rw [cellsB_size, hxl]; rfl)
  have HVS := Lib.hid (verB_self d sig)
  rw [hx, hcc] at HVS
  rw [hx, hcc]
  have HXE := Lib.hid hx
  have HCE := Lib.hid hcc
  have hB1 := hB0.trans (hb1.mono hB0.size)
  have hd1 := hdw.below hb1 hdw.lt
  have hp1 := hpw.below hb1 hpw.lt
  clear hx hcc hxl hb1 hdw hpw hv0
  go_wp2_with (first | (refine wpList_store_row rfl 23 (.tmp 7) (.tmp 20) rfl w1.heap.size rfl (cellsB x) (cellsB (List.replicate 32 0)) 23 rfl (Row.new w1 _ _) HCX.out HSX.out (cellsB_one _) ?_; intro w2 hgw2 hrw2 hzw2; clear hzw2; have hbw2 := box_below hgw2; clear hgw2; have hd2 := hd1.below hbw2 hd1.lt) | (refine wpList_load_row rfl 23 (.tmp 4) rfl (w.heap.size + 1) rfl 23 (cellsB d) (0, 0) _ hd2 Tryd.underD rfl HSD.out ?_))
  have hB2 := hB1.trans (hbw2.mono hB1.size)
  have hp2 := hp1.below hbw2 hp1.lt
  have hv2 := hv.later hB2
  clear hd1 hbw2 hp1
  refine (rrecover_any d sig _ w2 HD.out hv2 h32 (hR.below hB2 hrl) (hI.below hB2 hil)).mono ?_
  rintro e w3 ⟨rfl, hb3⟩
  rw [HXE.out, HCE.out]
  have hB3 := hB2.trans (hb3.mono hB2.size)
  have hd3 := hd2.below hb3 hd2.lt
  have hp3 := hp2.below hb3 hp2.lt
  have hr3 := hrw2.below hb3 hrw2.lt
  clear hd2 hp2 hrw2 hb3 hv2
  go_wp2_with (refine wpList_store_row rfl 23 (.tmp 9) (.tmp 26) rfl w3.heap.size rfl (cellsB x) (cellsB (List.replicate 32 0)) 23 rfl (Row.new w3 _ _) HCX.out HSX.out (cellsB_one _) ?_; intro w4 hgw4 hrw4 hzw4; clear hzw4; have hbw4 := box_below hgw4; clear hgw4)
  have hbl' := hB3.trans (hbw4.mono hB3.size)
  have hd4 := hd3.below hbw4 hd3.lt
  have hp4 := hp3.below hbw4 hp3.lt
  have hr4 := hr3.below hbw4 hr3.lt
  have hv4 := hv.later hbl'
  have hK4 := hK.below hbl' hkl
  have hR4 := hR.below hbl' hrl
  have hI4 := hI.below hbl' hil
  clear hd3 hr3 hbw4 hp3 hB3
  obtain ⟨b1, hb1⟩ : ∃ b1, verB pub d sig = b1 := ⟨_, rfl⟩
  have HB1 := Lib.hid hb1
  clear hb1
  rw [← hRR]
  clear hRR
  obtain ⟨p7, e7⟩ : ∃ p, w1.heap.size = p := ⟨_, rfl⟩
  obtain ⟨p9, e9⟩ : ∃ p, w3.heap.size = p := ⟨_, rfl⟩
  obtain ⟨p4, e4⟩ : ∃ p, w.heap.size + 1 = p := ⟨_, rfl⟩
  obtain ⟨p3, e3⟩ : ∃ p, w.heap.size = p := ⟨_, rfl⟩
  rw [e4] at hd4
  rw [e3] at hp4
  rw [e7] at hr4
  rw [e9] at hrw4
  have hlt7 := hr4.lt
  have hlt9 := hrw4.lt
  have hlt4 := hd4.lt
  have hlt3 := hp4.lt
  have hltk := hK4.lt
  have hltr := hR4.lt
  have hlti := hI4.lt
  have hblw := hbl'
  obtain ⟨B, eB⟩ : ∃ B, w4.heap.size = B := ⟨_, rfl⟩
  refine wp_gen fun a0 ha0 => ?_
  have i7 : a0.eval (.tmp 7) = .pointer (some ⟨p7, 0, none⟩) := by rw [ha0, ← e7]; rfl
  have i9 : a0.eval (.tmp 9) = .pointer (some ⟨p9, 0, none⟩) := by rw [ha0, ← e9]; rfl
  have i3 : a0.eval (.tmp 3) = .pointer (some ⟨p3, 0, none⟩) := by rw [ha0, ← e3]; rfl
  have i4 : a0.eval (.tmp 4) = .pointer (some ⟨p4, 0, none⟩) := by rw [ha0, ← e4]; rfl
  have i8 : a0.eval (.tmp 8) = .int .i64 ((0 : Nat) : Int) := by rw [ha0]; rfl
  have i10 : a0.eval (.tmp 10) = .int .i64 ((0 : Nat) : Int) := by rw [ha0]; rfl
  have i2 : a0.eval (.tmp 2) = .slice av sig.length kv := by rw [ha0]; rfl
  have hsz : a0.tmps.size = 56 := by rw [ha0]; rfl
  have hdf0 : a0.defers = [] := by rw [ha0]
  clear ha0
  refine wp_region_inv (B := B) [some 28, some 29, some 30, some 31, some 32, some 33, some 34, some 35, some 36, some 37, some 38, some 39, some 40, some 41, some 42, some 43, some 44, some 45, some 46, some 47, some 48, some 49, some 50, some 51, some 52, some 53, some 54, some 55, some 6] [Asrt.eq (.agg (cellsB (x))), Asrt.eq (.agg (cellsB (x))), Asrt.eq (.bool true), Asrt.eq (.bool true), Asrt.eq (.int .i64 ((0 : Nat) : Int)), Asrt.eq (.int .i64 ((0 : Nat) : Int)), Asrt.eq (.bool true), Asrt.eq (.bool true), Asrt.eq (.bool true), Asrt.eq (.agg (cellsB (pub))), Asrt.eq (.agg (cellsB (d))), Asrt.eq (.slice av sig.length kv), Asrt.eq (.bool b1), Asrt.eq (.agg (cellsB (pub))), Asrt.eq (.agg (cellsB (d))), Asrt.eq (.slice av sig.length kv), Asrt.eq (.bool b1), Asrt.eq (.bool true), Asrt.eq (.bool true), Asrt.eq (.bool true), Asrt.eq (.agg (cellsB (x))), Asrt.eq (.agg (cellsB (d))), Asrt.eq (.slice av sig.length kv), Asrt.eq (.bool true), Asrt.eq (.int .i64 ((0 : Nat) : Int)), Asrt.eq (.bool true), Asrt.eq (.bool true), Asrt.eq (.bool true), Asrt.eq (.bool true)] rfl (by as_aux_lemma => kernel_rfl) (by rw [hsz]; as_aux_lemma => kernel_rfl) (by as_aux_lemma => kernel_rfl) (by omega) ⟨?_, ?_, ?_, ?_, ?_, ?_, ?_, ?_, ?_, ?_, ?_, ?_, ?_, ?_, ?_, ?_, ?_, ?_, ?_, ?_, ?_, ?_, ?_, ?_, ?_, ?_, ?_, ?_, ?_, trivial⟩ ?_
  · as_aux_lemma =>
      intro ev w1 hg hin hc hgl hfn hd
      have hB := hg.top
      have g7 : ev (.tmp 7) = .pointer (some ⟨p7, 0, none⟩) := (hin 7 (by kernel_rfl)).trans i7
      clear hin hd
      refine step_on (guard_none rfl) fun K hK => ?_
      refine yg_load_row 23 (.tmp 7) rfl p7 g7 23 (cellsB x) (0, 0) _ (hr4.below hg.bl (by omega)) Tryd.underD rfl (Tryd.sizeD_of _ HX.out) ?_
      exact hK _ _ rfl (Grow.refl hB)
  · as_aux_lemma =>
      intro ev w1 hg hin hc hgl hfn hd
      have hB := hg.top
      have g9 : ev (.tmp 9) = .pointer (some ⟨p9, 0, none⟩) := (hin 9 (by kernel_rfl)).trans i9
      clear hin hd
      refine step_on (guard_none rfl) fun K hK => ?_
      refine yg_load_row 23 (.tmp 9) rfl p9 g9 23 (cellsB x) (0, 0) _ (hrw4.below hg.bl (by omega)) Tryd.underD rfl (Tryd.sizeD_of _ HX.out) ?_
      exact hK _ _ rfl (Grow.refl hB)
  · as_aux_lemma =>
      intro ev w1 hg hin hc hgl hfn hd
      have hB := hg.top
      have f28 : (ev (.tmp 28)) = .agg (cellsB (x)) := hd.1 rfl _ rfl
      have f29 : (ev (.tmp 29)) = .agg (cellsB (x)) := hd.2.1 rfl _ rfl
      clear hin hd
      refine step_on (guard_none rfl) fun K hK => ?_
      have hq := eqlT (x) (x) HX.out rfl
      unfold YieldsG
      go_simp
      exact hK _ _ rfl (Grow.refl hB)
  · as_aux_lemma =>
      intro ev w1 hg hin hc hgl hfn hd
      have hB := hg.top
      have f30 : (ev (.tmp 30)) = .bool true := hd.1 rfl _ rfl
      clear hin hd
      refine step_on (guard_none rfl) fun K hK => ?_
      unfold YieldsG
      go_simp
      exact hK _ _ rfl (Grow.refl hB)
  · as_aux_lemma =>
      intro ev w1 hg hin hc hgl hfn hd
      have hB := hg.top
      have f31 : (ev (.tmp 31)) = .bool true := hd.1 rfl _ rfl
      have g8 : ev (.tmp 8) = .int .i64 ((0 : Nat) : Int) := (hin 8 (by kernel_rfl)).trans i8
      clear hin hd
      refine step_on (guard_some rfl rfl f31) fun K hK => ?_
      unfold YieldsG
      go_simp
      exact hK _ _ rfl (Grow.refl hB)
  · as_aux_lemma =>
      intro ev w1 hg hin hc hgl hfn hd
      have hB := hg.top
      have f31 : (ev (.tmp 31)) = .bool true := hd.1 rfl _ rfl
      have g10 : ev (.tmp 10) = .int .i64 ((0 : Nat) : Int) := (hin 10 (by kernel_rfl)).trans i10
      clear hin hd
      refine step_on (guard_some rfl rfl f31) fun K hK => ?_
      unfold YieldsG
      go_simp
      exact hK _ _ rfl (Grow.refl hB)
  · as_aux_lemma =>
      intro ev w1 hg hin hc hgl hfn hd
      have hB := hg.top
      have f32 : (ev (.tmp 32)) = .int .i64 ((0 : Nat) : Int) := hd.1 rfl _ rfl
      have f33 : (ev (.tmp 33)) = .int .i64 ((0 : Nat) : Int) := hd.2.1 rfl _ rfl
      have f31 : (ev (.tmp 31)) = .bool true := hd.2.2.1 rfl _ rfl
      clear hin hd
      refine step_on (guard_some rfl rfl f31) fun K hK => ?_
      unfold YieldsG
      go_simp
      exact hK _ _ rfl (Grow.refl hB)
  · as_aux_lemma =>
      intro ev w1 hg hin hc hgl hfn hd
      have hB := hg.top
      have f31 : (ev (.tmp 31)) = .bool true := hd.1 rfl _ rfl
      have f34 : (ev (.tmp 34)) = .bool true := hd.2.1 rfl _ rfl
      clear hin hd
      refine step_on (guard_none rfl) fun K hK => ?_
      unfold YieldsG
      go_simp
      exact hK _ _ rfl (Grow.refl hB)
  · as_aux_lemma =>
      intro ev w1 hg hin hc hgl hfn hd
      have hB := hg.top
      have f35 : (ev (.tmp 35)) = .bool true := hd.1 rfl _ rfl
      clear hin hd
      refine step_on (guard_none rfl) fun K hK => ?_
      unfold YieldsG
      go_simp
      exact hK _ _ rfl (Grow.refl hB)
  · as_aux_lemma =>
      intro ev w1 hg hin hc hgl hfn hd
      have hB := hg.top
      have f36 : (ev (.tmp 36)) = .bool true := hd.1 rfl _ rfl
      have g3 : ev (.tmp 3) = .pointer (some ⟨p3, 0, none⟩) := (hin 3 (by kernel_rfl)).trans i3
      clear hin hd
      refine step_on (guard_some rfl rfl f36) fun K hK => ?_
      refine yg_load_row 23 (.tmp 3) rfl p3 g3 23 (cellsB pub) (0, 0) _ (hp4.below hg.bl (by omega)) Tryd.underD rfl (Tryd.sizeD_of _ HP.out) ?_
      exact hK _ _ rfl (Grow.refl hB)
  · as_aux_lemma =>
      intro ev w1 hg hin hc hgl hfn hd
      have hB := hg.top
      have f36 : (ev (.tmp 36)) = .bool true := hd.1 rfl _ rfl
      have g4 : ev (.tmp 4) = .pointer (some ⟨p4, 0, none⟩) := (hin 4 (by kernel_rfl)).trans i4
      clear hin hd
      refine step_on (guard_some rfl rfl f36) fun K hK => ?_
      refine yg_load_row 23 (.tmp 4) rfl p4 g4 23 (cellsB d) (0, 0) _ (hd4.below hg.bl (by omega)) Tryd.underD rfl (Tryd.sizeD_of _ HD.out) ?_
      exact hK _ _ rfl (Grow.refl hB)
  · as_aux_lemma =>
      intro ev w1 hg hin hc hgl hfn hd
      have hB := hg.top
      have f36 : (ev (.tmp 36)) = .bool true := hd.1 rfl _ rfl
      have g2 : ev (.tmp 2) = .slice av sig.length kv := (hin 2 (by kernel_rfl)).trans i2
      clear hin hd
      refine step_on (guard_some rfl rfl f36) fun K hK => ?_
      unfold YieldsG
      go_simp
      exact hK _ _ rfl (Grow.refl hB)
  · as_aux_lemma =>
      intro ev w1 hg hin hc hgl hfn hd
      have hB := hg.top
      have f37 : (ev (.tmp 37)) = .agg (cellsB (pub)) := hd.1 rfl _ rfl
      have f38 : (ev (.tmp 38)) = .agg (cellsB (d)) := hd.2.1 rfl _ rfl
      have f39 : (ev (.tmp 39)) = .slice av sig.length kv := hd.2.2.1 rfl _ rfl
      have f36 : (ev (.tmp 36)) = .bool true := hd.2.2.2.1 rfl _ rfl
      clear hin hd
      refine step_on (guard_some rfl rfl f36) fun K hK => ?_
      unfold YieldsG
      go_simp
      refine (verify_any pub d sig _ w1 HP.out HD.out (hv4.later (by rw [eB]; exact hg.bl)) h32 (hK4.below hg.bl (by omega))).mono ?_
      rintro e w2 ⟨rfl, hb⟩
      exact ⟨_, rfl, hK _ _ (by rw [HB1.out]; rfl) (Grow.of hB hb)⟩
  · as_aux_lemma =>
      intro ev w1 hg hin hc hgl hfn hd
      have hB := hg.top
      have f36 : (ev (.tmp 36)) = .bool true := hd.1 rfl _ rfl
      have g3 : ev (.tmp 3) = .pointer (some ⟨p3, 0, none⟩) := (hin 3 (by kernel_rfl)).trans i3
      clear hin hd
      refine step_on (guard_some rfl rfl f36) fun K hK => ?_
      refine yg_load_row 23 (.tmp 3) rfl p3 g3 23 (cellsB pub) (0, 0) _ (hp4.below hg.bl (by omega)) Tryd.underD rfl (Tryd.sizeD_of _ HP.out) ?_
      exact hK _ _ rfl (Grow.refl hB)
  · as_aux_lemma =>
      intro ev w1 hg hin hc hgl hfn hd
      have hB := hg.top
      have f36 : (ev (.tmp 36)) = .bool true := hd.1 rfl _ rfl
      have g4 : ev (.tmp 4) = .pointer (some ⟨p4, 0, none⟩) := (hin 4 (by kernel_rfl)).trans i4
      clear hin hd
      refine step_on (guard_some rfl rfl f36) fun K hK => ?_
      refine yg_load_row 23 (.tmp 4) rfl p4 g4 23 (cellsB d) (0, 0) _ (hd4.below hg.bl (by omega)) Tryd.underD rfl (Tryd.sizeD_of _ HD.out) ?_
      exact hK _ _ rfl (Grow.refl hB)
  · as_aux_lemma =>
      intro ev w1 hg hin hc hgl hfn hd
      have hB := hg.top
      have f36 : (ev (.tmp 36)) = .bool true := hd.1 rfl _ rfl
      have g2 : ev (.tmp 2) = .slice av sig.length kv := (hin 2 (by kernel_rfl)).trans i2
      clear hin hd
      refine step_on (guard_some rfl rfl f36) fun K hK => ?_
      unfold YieldsG
      go_simp
      exact hK _ _ rfl (Grow.refl hB)
  · as_aux_lemma =>
      intro ev w1 hg hin hc hgl hfn hd
      have hB := hg.top
      have f41 : (ev (.tmp 41)) = .agg (cellsB (pub)) := hd.1 rfl _ rfl
      have f42 : (ev (.tmp 42)) = .agg (cellsB (d)) := hd.2.1 rfl _ rfl
      have f43 : (ev (.tmp 43)) = .slice av sig.length kv := hd.2.2.1 rfl _ rfl
      have f36 : (ev (.tmp 36)) = .bool true := hd.2.2.2.2.1 rfl _ rfl
      clear hin hd
      refine step_on (guard_some rfl rfl f36) fun K hK => ?_
      unfold YieldsG
      go_simp
      refine (rverify_any pub d sig _ w1 HP.out HD.out (hv4.later (by rw [eB]; exact hg.bl)) h32 (hR4.below hg.bl (by omega)) (hI4.below hg.bl (by omega))).mono ?_
      rintro e w2 ⟨rfl, hb⟩
      exact ⟨_, rfl, hK _ _ (by rw [HB1.out]; rfl) (Grow.of hB hb)⟩
  · as_aux_lemma =>
      intro ev w1 hg hin hc hgl hfn hd
      have hB := hg.top
      have f40 : (ev (.tmp 40)) = .bool b1 := hd.1 rfl _ rfl
      have f44 : (ev (.tmp 44)) = .bool b1 := hd.2.1 rfl _ rfl
      have f36 : (ev (.tmp 36)) = .bool true := hd.2.2.1 rfl _ rfl
      clear hin hd
      refine step_on (guard_some rfl rfl f36) fun K hK => ?_
      unfold YieldsG
      go_simp
      exact hK _ _ rfl (Grow.refl hB)
  · as_aux_lemma =>
      intro ev w1 hg hin hc hgl hfn hd
      have hB := hg.top
      have f36 : (ev (.tmp 36)) = .bool true := hd.1 rfl _ rfl
      have f45 : (ev (.tmp 45)) = .bool true := hd.2.1 rfl _ rfl
      clear hin hd
      refine step_on (guard_none rfl) fun K hK => ?_
      unfold YieldsG
      go_simp
      exact hK _ _ rfl (Grow.refl hB)
  · as_aux_lemma =>
      intro ev w1 hg hin hc hgl hfn hd
      have hB := hg.top
      have f46 : (ev (.tmp 46)) = .bool true := hd.1 rfl _ rfl
      clear hin hd
      refine step_on (guard_none rfl) fun K hK => ?_
      unfold YieldsG
      go_simp
      exact hK _ _ rfl (Grow.refl hB)
  · as_aux_lemma =>
      intro ev w1 hg hin hc hgl hfn hd
      have hB := hg.top
      have f47 : (ev (.tmp 47)) = .bool true := hd.1 rfl _ rfl
      have g9 : ev (.tmp 9) = .pointer (some ⟨p9, 0, none⟩) := (hin 9 (by kernel_rfl)).trans i9
      clear hin hd
      refine step_on (guard_some rfl rfl f47) fun K hK => ?_
      refine yg_load_row 23 (.tmp 9) rfl p9 g9 23 (cellsB x) (0, 0) _ (hrw4.below hg.bl (by omega)) Tryd.underD rfl (Tryd.sizeD_of _ HX.out) ?_
      exact hK _ _ rfl (Grow.refl hB)
  · as_aux_lemma =>
      intro ev w1 hg hin hc hgl hfn hd
      have hB := hg.top
      have f47 : (ev (.tmp 47)) = .bool true := hd.1 rfl _ rfl
      have g4 : ev (.tmp 4) = .pointer (some ⟨p4, 0, none⟩) := (hin 4 (by kernel_rfl)).trans i4
      clear hin hd
      refine step_on (guard_some rfl rfl f47) fun K hK => ?_
      refine yg_load_row 23 (.tmp 4) rfl p4 g4 23 (cellsB d) (0, 0) _ (hd4.below hg.bl (by omega)) Tryd.underD rfl (Tryd.sizeD_of _ HD.out) ?_
      exact hK _ _ rfl (Grow.refl hB)
  · as_aux_lemma =>
      intro ev w1 hg hin hc hgl hfn hd
      have hB := hg.top
      have f47 : (ev (.tmp 47)) = .bool true := hd.1 rfl _ rfl
      have g2 : ev (.tmp 2) = .slice av sig.length kv := (hin 2 (by kernel_rfl)).trans i2
      clear hin hd
      refine step_on (guard_some rfl rfl f47) fun K hK => ?_
      unfold YieldsG
      go_simp
      exact hK _ _ rfl (Grow.refl hB)
  · as_aux_lemma =>
      intro ev w1 hg hin hc hgl hfn hd
      have hB := hg.top
      have f48 : (ev (.tmp 48)) = .agg (cellsB (x)) := hd.1 rfl _ rfl
      have f49 : (ev (.tmp 49)) = .agg (cellsB (d)) := hd.2.1 rfl _ rfl
      have f50 : (ev (.tmp 50)) = .slice av sig.length kv := hd.2.2.1 rfl _ rfl
      have f47 : (ev (.tmp 47)) = .bool true := hd.2.2.2.1 rfl _ rfl
      clear hin hd
      refine step_on (guard_some rfl rfl f47) fun K hK => ?_
      unfold YieldsG
      go_simp
      refine (verify_any x d sig _ w1 HX.out HD.out (hv4.later (by rw [eB]; exact hg.bl)) h32 (hK4.below hg.bl (by omega))).mono ?_
      rintro e w2 ⟨rfl, hb⟩
      exact ⟨_, rfl, hK _ _ (by rw [HVS.out]; rfl) (Grow.of hB hb)⟩
  · as_aux_lemma =>
      intro ev w1 hg hin hc hgl hfn hd
      have hB := hg.top
      have f47 : (ev (.tmp 47)) = .bool true := hd.1 rfl _ rfl
      have g10 : ev (.tmp 10) = .int .i64 ((0 : Nat) : Int) := (hin 10 (by kernel_rfl)).trans i10
      clear hin hd
      refine step_on (guard_some rfl rfl f47) fun K hK => ?_
      unfold YieldsG
      go_simp
      exact hK _ _ rfl (Grow.refl hB)
  · as_aux_lemma =>
      intro ev w1 hg hin hc hgl hfn hd
      have hB := hg.top
      have f52 : (ev (.tmp 52)) = .int .i64 ((0 : Nat) : Int) := hd.1 rfl _ rfl
      have f47 : (ev (.tmp 47)) = .bool true := hd.2.1 rfl _ rfl
      clear hin hd
      refine step_on (guard_some rfl rfl f47) fun K hK => ?_
      unfold YieldsG
      go_simp
      exact hK _ _ rfl (Grow.refl hB)
  · as_aux_lemma =>
      intro ev w1 hg hin hc hgl hfn hd
      have hB := hg.top
      have f51 : (ev (.tmp 51)) = .bool true := hd.1 rfl _ rfl
      have f53 : (ev (.tmp 53)) = .bool true := hd.2.1 rfl _ rfl
      have f47 : (ev (.tmp 47)) = .bool true := hd.2.2.1 rfl _ rfl
      clear hin hd
      refine step_on (guard_some rfl rfl f47) fun K hK => ?_
      unfold YieldsG
      go_simp
      exact hK _ _ rfl (Grow.refl hB)
  · as_aux_lemma =>
      intro ev w1 hg hin hc hgl hfn hd
      have hB := hg.top
      have f47 : (ev (.tmp 47)) = .bool true := hd.1 rfl _ rfl
      have f54 : (ev (.tmp 54)) = .bool true := hd.2.1 rfl _ rfl
      clear hin hd
      refine step_on (guard_none rfl) fun K hK => ?_
      unfold YieldsG
      go_simp
      exact hK _ _ rfl (Grow.refl hB)
  · as_aux_lemma =>
      intro ev w1 hg hin hc hgl hfn hd
      have hB := hg.top
      have f55 : (ev (.tmp 55)) = .bool true := hd.1 rfl _ rfl
      clear hin hd
      refine step_on (guard_none rfl) fun K hK => ?_
      unfold YieldsG
      go_simp
      exact hK _ _ rfl (Grow.refl hB)
  · intro v w2 hg hall
    have hr : v 28 = .bool true := hall.2.2.2.2.2.2.2.2.2.2.2.2.2.2.2.2.2.2.2.2.2.2.2.2.2.2.2.2.1 (by simp)
    generalize hput : putAll _ v 0 _ = af
    have h0 : af.tmps.getD 6 undef = v 28 := by rw [← hput]; exact putAll_at (by rw [hsz]; as_aux_lemma => kernel_rfl) rfl rfl
    have hdf : af.defers = [] := by rw [← hput, putAll_defers]; exact hdf0
    clear hput hall
    go_wp2
    refine bodyPost_ret (results_tmp rfl _ _ _) hdf ⟨?_, hbl'.trans (hg.bl.mono (by rw [← eB]; exact hbl'.size))⟩
    rw [h0, hr]
set_option maxRecDepth 100000 in
set_option maxHeartbeats 4000000 in
theorem mr_no (pub d : List UInt8) (sig : List (List UInt8)) (v : Value) (w : World) (hp : pub.length = 32) (hd : d.length = 32) (hv : Digs w v sig) (h32 : all32 sig) (hR : RKFact w) (hI : RIFact w) (hK : KFact w) (hc : ¬ 40 < sig.length) (hcc : errS sig = 1) :
    Calls Tryd.prog 5 #[.agg (cellsB pub), .agg (cellsB d), v] w fun e w' => e = .returned (.bool true) ∧ Below w.heap.size w w' := by
  have hkl := hK.lt
  have hrl := hR.lt
  have hil := hI.lt
  have HD := Lib.hid hd
  have HP := Lib.hid hp
  have HSD := Lib.hid (Tryd.sizeD_of d hd)
  clear hd hp
  obtain ⟨av, kv, rfl⟩ := hv.form
  have hb0 : Below w.heap.size w ((w.alloc (.cells (cellsB pub) 23)).alloc (.cells (cellsB d) 23)) := ((Below.refl _ _).alloc (Nat.le_refl _) _).alloc (by simp) _
  have hp0 : Row ((w.alloc (.cells (cellsB pub) 23)).alloc (.cells (cellsB d) 23)) w.heap.size 23 (cellsB pub) := (Row.new w _ _).alloc _
  have hd0 : Row ((w.alloc (.cells (cellsB pub) 23)).alloc (.cells (cellsB d) 23)) (w.heap.size + 1) 23 (cellsB d) := by
    have h := Row.new (w.alloc (.cells (cellsB pub) 23)) (cellsB d) 23
    rwa [show (w.alloc (.cells (cellsB pub) 23)).heap.size = w.heap.size + 1 by simp] at h
  go_enter Tryd.func5, Tryd.ntmps5
  generalize hRR : Code.region 7 _ _ = RR
  go_wp2_with fail
  refine (sane_any _ (hK.below hb0 hkl)).mono ?_
  rintro e w0 ⟨rfl, hb1⟩
  have hB0 := hb0.trans (hb1.mono hb0.size)
  have hdw := hd0.below hb1 hd0.lt
  have hpw := hp0.below hb1 hp0.lt
  clear hb0 hd0 hp0 hb1
  have hv0 := hv.later hB0
  go_wp2_with (refine wpList_load_row rfl 23 (.tmp 4) rfl (w.heap.size + 1) rfl 23 (cellsB d) (0, 0) _ hdw Tryd.underD rfl HSD.out ?_)
  refine (recover_any d sig _ w0 HD.out hv0 h32 (hK.below hB0 hkl)).mono ?_
  rintro e w1 ⟨rfl, hb1⟩
  obtain ⟨x, hx⟩ : ∃ x, recR d sig = x := ⟨_, rfl⟩
  have hxl : x.length = 32 := by rw [← hx]; exact recR_len _ _
  have HX := Lib.hid hxl
  have HSX := Lib.hid (Tryd.sizeD_of x hxl)
  have HCX : Hid ((cellsB x).size = (cellsB (List.replicate 32 0)).size) := Lib.hid (by rw [cellsB_size, hxl]; rfl)
  have HVS := Lib.hid (verB_self d sig)
  rw [hx, hcc] at HVS
  rw [hx, hcc]
  have HXE := Lib.hid hx
  have HCE := Lib.hid hcc
  have hB1 := hB0.trans (hb1.mono hB0.size)
  have hd1 := hdw.below hb1 hdw.lt
  have hp1 := hpw.below hb1 hpw.lt
  clear hx hcc hxl hb1 hdw hpw hv0
  go_wp2_with (first | (refine wpList_store_row rfl 23 (.tmp 7) (.tmp 20) rfl w1.heap.size rfl (cellsB x) (cellsB (List.replicate 32 0)) 23 rfl (Row.new w1 _ _) HCX.out HSX.out (cellsB_one _) ?_; intro w2 hgw2 hrw2 hzw2; clear hzw2; have hbw2 := box_below hgw2; clear hgw2; have hd2 := hd1.below hbw2 hd1.lt) | (refine wpList_load_row rfl 23 (.tmp 4) rfl (w.heap.size + 1) rfl 23 (cellsB d) (0, 0) _ hd2 Tryd.underD rfl HSD.out ?_))
  have hB2 := hB1.trans (hbw2.mono hB1.size)
  have hp2 := hp1.below hbw2 hp1.lt
  have hv2 := hv.later hB2
  clear hd1 hbw2 hp1
  refine (rrecover_any d sig _ w2 HD.out hv2 h32 (hR.below hB2 hrl) (hI.below hB2 hil)).mono ?_
  rintro e w3 ⟨rfl, hb3⟩
  rw [HXE.out, HCE.out]
  have hB3 := hB2.trans (hb3.mono hB2.size)
  have hd3 := hd2.below hb3 hd2.lt
  have hp3 := hp2.below hb3 hp2.lt
  have hr3 := hrw2.below hb3 hrw2.lt
  clear hd2 hp2 hrw2 hb3 hv2
  go_wp2_with (refine wpList_store_row rfl 23 (.tmp 9) (.tmp 26) rfl w3.heap.size rfl (cellsB x) (cellsB (List.replicate 32 0)) 23 rfl (Row.new w3 _ _) HCX.out HSX.out (cellsB_one _) ?_; intro w4 hgw4 hrw4 hzw4; clear hzw4; have hbw4 := box_below hgw4; clear hgw4)
  have hbl' := hB3.trans (hbw4.mono hB3.size)
  have hd4 := hd3.below hbw4 hd3.lt
  have hp4 := hp3.below hbw4 hp3.lt
  have hr4 := hr3.below hbw4 hr3.lt
  have hv4 := hv.later hbl'
  have hK4 := hK.below hbl' hkl
  have hR4 := hR.below hbl' hrl
  have hI4 := hI.below hbl' hil
  clear hd3 hr3 hbw4 hp3 hB3
  obtain ⟨b1, hb1⟩ : ∃ b1, verB pub d sig = b1 := ⟨_, rfl⟩
  have HB1 := Lib.hid hb1
  clear hb1
  rw [← hRR]
  clear hRR
  obtain ⟨p7, e7⟩ : ∃ p, w1.heap.size = p := ⟨_, rfl⟩
  obtain ⟨p9, e9⟩ : ∃ p, w3.heap.size = p := ⟨_, rfl⟩
  obtain ⟨p4, e4⟩ : ∃ p, w.heap.size + 1 = p := ⟨_, rfl⟩
  obtain ⟨p3, e3⟩ : ∃ p, w.heap.size = p := ⟨_, rfl⟩
  rw [e4] at hd4
  rw [e3] at hp4
  rw [e7] at hr4
  rw [e9] at hrw4
  have hlt7 := hr4.lt
  have hlt9 := hrw4.lt
  have hlt4 := hd4.lt
  have hlt3 := hp4.lt
  have hltk := hK4.lt
  have hltr := hR4.lt
  have hlti := hI4.lt
  have hblw := hbl'
  obtain ⟨B, eB⟩ : ∃ B, w4.heap.size = B := ⟨_, rfl⟩
  refine wp_gen fun a0 ha0 => ?_
  have i7 : a0.eval (.tmp 7) = .pointer (some ⟨p7, 0, none⟩) := by rw [ha0, ← e7]; rfl
  have i9 : a0.eval (.tmp 9) = .pointer (some ⟨p9, 0, none⟩) := by rw [ha0, ← e9]; rfl
  have i3 : a0.eval (.tmp 3) = .pointer (some ⟨p3, 0, none⟩) := by rw [ha0, ← e3]; rfl
  have i4 : a0.eval (.tmp 4) = .pointer (some ⟨p4, 0, none⟩) := by rw [ha0, ← e4]; rfl
  have i8 : a0.eval (.tmp 8) = .int .i64 ((1 : Nat) : Int) := by rw [ha0]; rfl
  have i10 : a0.eval (.tmp 10) = .int .i64 ((1 : Nat) : Int) := by rw [ha0]; rfl
  have i2 : a0.eval (.tmp 2) = .slice av sig.length kv := by rw [ha0]; rfl
  have hsz : a0.tmps.size = 56 := by rw [ha0]; rfl
  have hdf0 : a0.defers = [] := by rw [ha0]
  clear ha0
  refine wp_region_inv (B := B) [some 28, some 29, some 30, some 31, some 32, some 33, some 34, some 35, some 36, some 37, some 38, some 39, some 40, some 41, some 42, some 43, some 44, some 45, some 46, some 47, some 48, some 49, some 50, some 51, some 52, some 53, some 54, some 55, some 6] [Asrt.eq (.agg (cellsB (x))), Asrt.eq (.agg (cellsB (x))), Asrt.eq (.bool true), Asrt.eq (.bool true), Asrt.eq (.int .i64 ((1 : Nat) : Int)), Asrt.eq (.int .i64 ((1 : Nat) : Int)), Asrt.eq (.bool true), Asrt.eq (.bool true), Asrt.eq (.bool true), Asrt.eq (.agg (cellsB (pub))), Asrt.eq (.agg (cellsB (d))), Asrt.eq (.slice av sig.length kv), Asrt.eq (.bool b1), Asrt.eq (.agg (cellsB (pub))), Asrt.eq (.agg (cellsB (d))), Asrt.eq (.slice av sig.length kv), Asrt.eq (.bool b1), Asrt.eq (.bool true), Asrt.eq (.bool true), Asrt.eq (.bool true), Asrt.eq (.agg (cellsB (x))), Asrt.eq (.agg (cellsB (d))), Asrt.eq (.slice av sig.length kv), Asrt.eq (.bool false), Asrt.eq (.int .i64 ((1 : Nat) : Int)), Asrt.eq (.bool false), Asrt.eq (.bool true), Asrt.eq (.bool true), Asrt.eq (.bool true)] rfl (by as_aux_lemma => kernel_rfl) (by rw [hsz]; as_aux_lemma => kernel_rfl) (by as_aux_lemma => kernel_rfl) (by omega) ⟨?_, ?_, ?_, ?_, ?_, ?_, ?_, ?_, ?_, ?_, ?_, ?_, ?_, ?_, ?_, ?_, ?_, ?_, ?_, ?_, ?_, ?_, ?_, ?_, ?_, ?_, ?_, ?_, ?_, trivial⟩ ?_
  · as_aux_lemma =>
      intro ev w1 hg hin hc hgl hfn hd
      have hB := hg.top
      have g7 : ev (.tmp 7) = .pointer (some ⟨p7, 0, none⟩) := (hin 7 (by kernel_rfl)).trans i7
      clear hin hd
      refine step_on (guard_none rfl) fun K hK => ?_
      refine yg_load_row 23 (.tmp 7) rfl p7 g7 23 (cellsB x) (0, 0) _ (hr4.below hg.bl (by omega)) Tryd.underD rfl (Tryd.sizeD_of _ HX.out) ?_
      exact hK _ _ rfl (Grow.refl hB)
  · as_aux_lemma =>
      intro ev w1 hg hin hc hgl hfn hd
      have hB := hg.top
      have g9 : ev (.tmp 9) = .pointer (some ⟨p9, 0, none⟩) := (hin 9 (by kernel_rfl)).trans i9
      clear hin hd
      refine step_on (guard_none rfl) fun K hK => ?_
      refine yg_load_row 23 (.tmp 9) rfl p9 g9 23 (cellsB x) (0, 0) _ (hrw4.below hg.bl (by omega)) Tryd.underD rfl (Tryd.sizeD_of _ HX.out) ?_
      exact hK _ _ rfl (Grow.refl hB)
  · as_aux_lemma =>
      intro ev w1 hg hin hc hgl hfn hd
      have hB := hg.top
      have f28 : (ev (.tmp 28)) = .agg (cellsB (x)) := hd.1 rfl _ rfl
      have f29 : (ev (.tmp 29)) = .agg (cellsB (x)) := hd.2.1 rfl _ rfl
      clear hin hd
      refine step_on (guard_none rfl) fun K hK => ?_
      have hq := eqlT (x) (x) HX.out rfl
      unfold YieldsG
      go_simp
      exact hK _ _ rfl (Grow.refl hB)
  · as_aux_lemma =>
      intro ev w1 hg hin hc hgl hfn hd
      have hB := hg.top
      have f30 : (ev (.tmp 30)) = .bool true := hd.1 rfl _ rfl
      clear hin hd
      refine step_on (guard_none rfl) fun K hK => ?_
      unfold YieldsG
      go_simp
      exact hK _ _ rfl (Grow.refl hB)
  · as_aux_lemma =>
      intro ev w1 hg hin hc hgl hfn hd
      have hB := hg.top
      have f31 : (ev (.tmp 31)) = .bool true := hd.1 rfl _ rfl
      have g8 : ev (.tmp 8) = .int .i64 ((1 : Nat) : Int) := (hin 8 (by kernel_rfl)).trans i8
      clear hin hd
      refine step_on (guard_some rfl rfl f31) fun K hK => ?_
      unfold YieldsG
      go_simp
      exact hK _ _ rfl (Grow.refl hB)
  · as_aux_lemma =>
      intro ev w1 hg hin hc hgl hfn hd
      have hB := hg.top
      have f31 : (ev (.tmp 31)) = .bool true := hd.1 rfl _ rfl
      have g10 : ev (.tmp 10) = .int .i64 ((1 : Nat) : Int) := (hin 10 (by kernel_rfl)).trans i10
      clear hin hd
      refine step_on (guard_some rfl rfl f31) fun K hK => ?_
      unfold YieldsG
      go_simp
      exact hK _ _ rfl (Grow.refl hB)
  · as_aux_lemma =>
      intro ev w1 hg hin hc hgl hfn hd
      have hB := hg.top
      have f32 : (ev (.tmp 32)) = .int .i64 ((1 : Nat) : Int) := hd.1 rfl _ rfl
      have f33 : (ev (.tmp 33)) = .int .i64 ((1 : Nat) : Int) := hd.2.1 rfl _ rfl
      have f31 : (ev (.tmp 31)) = .bool true := hd.2.2.1 rfl _ rfl
      clear hin hd
      refine step_on (guard_some rfl rfl f31) fun K hK => ?_
      unfold YieldsG
      go_simp
      exact hK _ _ rfl (Grow.refl hB)
  · as_aux_lemma =>
      intro ev w1 hg hin hc hgl hfn hd
      have hB := hg.top
      have f31 : (ev (.tmp 31)) = .bool true := hd.1 rfl _ rfl
      have f34 : (ev (.tmp 34)) = .bool true := hd.2.1 rfl _ rfl
      clear hin hd
      refine step_on (guard_none rfl) fun K hK => ?_
      unfold YieldsG
      go_simp
      exact hK _ _ rfl (Grow.refl hB)
  · as_aux_lemma =>
      intro ev w1 hg hin hc hgl hfn hd
      have hB := hg.top
      have f35 : (ev (.tmp 35)) = .bool true := hd.1 rfl _ rfl
      clear hin hd
      refine step_on (guard_none rfl) fun K hK => ?_
      unfold YieldsG
      go_simp
      exact hK _ _ rfl (Grow.refl hB)
  · as_aux_lemma =>
      intro ev w1 hg hin hc hgl hfn hd
      have hB := hg.top
      have f36 : (ev (.tmp 36)) = .bool true := hd.1 rfl _ rfl
      have g3 : ev (.tmp 3) = .pointer (some ⟨p3, 0, none⟩) := (hin 3 (by kernel_rfl)).trans i3
      clear hin hd
      refine step_on (guard_some rfl rfl f36) fun K hK => ?_
      refine yg_load_row 23 (.tmp 3) rfl p3 g3 23 (cellsB pub) (0, 0) _ (hp4.below hg.bl (by omega)) Tryd.underD rfl (Tryd.sizeD_of _ HP.out) ?_
      exact hK _ _ rfl (Grow.refl hB)
  · as_aux_lemma =>
      intro ev w1 hg hin hc hgl hfn hd
      have hB := hg.top
      have f36 : (ev (.tmp 36)) = .bool true := hd.1 rfl _ rfl
      have g4 : ev (.tmp 4) = .pointer (some ⟨p4, 0, none⟩) := (hin 4 (by kernel_rfl)).trans i4
      clear hin hd
      refine step_on (guard_some rfl rfl f36) fun K hK => ?_
      refine yg_load_row 23 (.tmp 4) rfl p4 g4 23 (cellsB d) (0, 0) _ (hd4.below hg.bl (by omega)) Tryd.underD rfl (Tryd.sizeD_of _ HD.out) ?_
      exact hK _ _ rfl (Grow.refl hB)
  · as_aux_lemma =>
      intro ev w1 hg hin hc hgl hfn hd
      have hB := hg.top
      have f36 : (ev (.tmp 36)) = .bool true := hd.1 rfl _ rfl
      have g2 : ev (.tmp 2) = .slice av sig.length kv := (hin 2 (by kernel_rfl)).trans i2
      clear hin hd
      refine step_on (guard_some rfl rfl f36) fun K hK => ?_
      unfold YieldsG
      go_simp
      exact hK _ _ rfl (Grow.refl hB)
  · as_aux_lemma =>
      intro ev w1 hg hin hc hgl hfn hd
      have hB := hg.top
      have f37 : (ev (.tmp 37)) = .agg (cellsB (pub)) := hd.1 rfl _ rfl
      have f38 : (ev (.tmp 38)) = .agg (cellsB (d)) := hd.2.1 rfl _ rfl
      have f39 : (ev (.tmp 39)) = .slice av sig.length kv := hd.2.2.1 rfl _ rfl
      have f36 : (ev (.tmp 36)) = .bool true := hd.2.2.2.1 rfl _ rfl
      clear hin hd
      refine step_on (guard_some rfl rfl f36) fun K hK => ?_
      unfold YieldsG
      go_simp
      refine (verify_any pub d sig _ w1 HP.out HD.out (hv4.later (by rw [eB]; exact hg.bl)) h32 (hK4.below hg.bl (by omega))).mono ?_
      rintro e w2 ⟨rfl, hb⟩
      exact ⟨_, rfl, hK _ _ (by rw [HB1.out]; rfl) (Grow.of hB hb)⟩
  · as_aux_lemma =>
      intro ev w1 hg hin hc hgl hfn hd
      have hB := hg.top
      have f36 : (ev (.tmp 36)) = .bool true := hd.1 rfl _ rfl
      have g3 : ev (.tmp 3) = .pointer (some ⟨p3, 0, none⟩) := (hin 3 (by kernel_rfl)).trans i3
      clear hin hd
      refine step_on (guard_some rfl rfl f36) fun K hK => ?_
      refine yg_load_row 23 (.tmp 3) rfl p3 g3 23 (cellsB pub) (0, 0) _ (hp4.below hg.bl (by omega)) Tryd.underD rfl (Tryd.sizeD_of _ HP.out) ?_
      exact hK _ _ rfl (Grow.refl hB)
  · as_aux_lemma =>
      intro ev w1 hg hin hc hgl hfn hd
      have hB := hg.top
      have f36 : (ev (.tmp 36)) = .bool true := hd.1 rfl _ rfl
      have g4 : ev (.tmp 4) = .pointer (some ⟨p4, 0, none⟩) := (hin 4 (by kernel_rfl)).trans i4
      clear hin hd
      refine step_on (guard_some rfl rfl f36) fun K hK => ?_
      refine yg_load_row 23 (.tmp 4) rfl p4 g4 23 (cellsB d) (0, 0) _ (hd4.below hg.bl (by omega)) Tryd.underD rfl (Tryd.sizeD_of _ HD.out) ?_
      exact hK _ _ rfl (Grow.refl hB)
  · as_aux_lemma =>
      intro ev w1 hg hin hc hgl hfn hd
      have hB := hg.top
      have f36 : (ev (.tmp 36)) = .bool true := hd.1 rfl _ rfl
      have g2 : ev (.tmp 2) = .slice av sig.length kv := (hin 2 (by kernel_rfl)).trans i2
      clear hin hd
      refine step_on (guard_some rfl rfl f36) fun K hK => ?_
      unfold YieldsG
      go_simp
      exact hK _ _ rfl (Grow.refl hB)
  · as_aux_lemma =>
      intro ev w1 hg hin hc hgl hfn hd
      have hB := hg.top
      have f41 : (ev (.tmp 41)) = .agg (cellsB (pub)) := hd.1 rfl _ rfl
      have f42 : (ev (.tmp 42)) = .agg (cellsB (d)) := hd.2.1 rfl _ rfl
      have f43 : (ev (.tmp 43)) = .slice av sig.length kv := hd.2.2.1 rfl _ rfl
      have f36 : (ev (.tmp 36)) = .bool true := hd.2.2.2.2.1 rfl _ rfl
      clear hin hd
      refine step_on (guard_some rfl rfl f36) fun K hK => ?_
      unfold YieldsG
      go_simp
      refine (rverify_any pub d sig _ w1 HP.out HD.out (hv4.later (by rw [eB]; exact hg.bl)) h32 (hR4.below hg.bl (by omega)) (hI4.below hg.bl (by omega))).mono ?_
      rintro e w2 ⟨rfl, hb⟩
      exact ⟨_, rfl, hK _ _ (by rw [HB1.out]; rfl) (Grow.of hB hb)⟩
  · as_aux_lemma =>
      intro ev w1 hg hin hc hgl hfn hd
      have hB := hg.top
      have f40 : (ev (.tmp 40)) = .bool b1 := hd.1 rfl _ rfl
      have f44 : (ev (.tmp 44)) = .bool b1 := hd.2.1 rfl _ rfl
      have f36 : (ev (.tmp 36)) = .bool true := hd.2.2.1 rfl _ rfl
      clear hin hd
      refine step_on (guard_some rfl rfl f36) fun K hK => ?_
      unfold YieldsG
      go_simp
      exact hK _ _ rfl (Grow.refl hB)
  · as_aux_lemma =>
      intro ev w1 hg hin hc hgl hfn hd
      have hB := hg.top
      have f36 : (ev (.tmp 36)) = .bool true := hd.1 rfl _ rfl
      have f45 : (ev (.tmp 45)) = .bool true := hd.2.1 rfl _ rfl
      clear hin hd
      refine step_on (guard_none rfl) fun K hK => ?_
      unfold YieldsG
      go_simp
      exact hK _ _ rfl (Grow.refl hB)
  · as_aux_lemma =>
      intro ev w1 hg hin hc hgl hfn hd
      have hB := hg.top
      have f46 : (ev (.tmp 46)) = .bool true := hd.1 rfl _ rfl
      clear hin hd
      refine step_on (guard_none rfl) fun K hK => ?_
      unfold YieldsG
      go_simp
      exact hK _ _ rfl (Grow.refl hB)
  · as_aux_lemma =>
      intro ev w1 hg hin hc hgl hfn hd
      have hB := hg.top
      have f47 : (ev (.tmp 47)) = .bool true := hd.1 rfl _ rfl
      have g9 : ev (.tmp 9) = .pointer (some ⟨p9, 0, none⟩) := (hin 9 (by kernel_rfl)).trans i9
      clear hin hd
      refine step_on (guard_some rfl rfl f47) fun K hK => ?_
      refine yg_load_row 23 (.tmp 9) rfl p9 g9 23 (cellsB x) (0, 0) _ (hrw4.below hg.bl (by omega)) Tryd.underD rfl (Tryd.sizeD_of _ HX.out) ?_
      exact hK _ _ rfl (Grow.refl hB)
  · as_aux_lemma =>
      intro ev w1 hg hin hc hgl hfn hd
      have hB := hg.top
      have f47 : (ev (.tmp 47)) = .bool true := hd.1 rfl _ rfl
      have g4 : ev (.tmp 4) = .pointer (some ⟨p4, 0, none⟩) := (hin 4 (by kernel_rfl)).trans i4
      clear hin hd
      refine step_on (guard_some rfl rfl f47) fun K hK => ?_
      refine yg_load_row 23 (.tmp 4) rfl p4 g4 23 (cellsB d) (0, 0) _ (hd4.below hg.bl (by omega)) Tryd.underD rfl (Tryd.sizeD_of _ HD.out) ?_
      exact hK _ _ rfl (Grow.refl hB)
  · as_aux_lemma =>
      intro ev w1 hg hin hc hgl hfn hd
      have hB := hg.top
      have f47 : (ev (.tmp 47)) = .bool true := hd.1 rfl _ rfl
      have g2 : ev (.tmp 2) = .slice av sig.length kv := (hin 2 (by kernel_rfl)).trans i2
      clear hin hd
      refine step_on (guard_some rfl rfl f47) fun K hK => ?_
      unfold YieldsG
      go_simp
      exact hK _ _ rfl (Grow.refl hB)
  · as_aux_lemma =>
      intro ev w1 hg hin hc hgl hfn hd
      have hB := hg.top
      have f48 : (ev (.tmp 48)) = .agg (cellsB (x)) := hd.1 rfl _ rfl
      have f49 : (ev (.tmp 49)) = .agg (cellsB (d)) := hd.2.1 rfl _ rfl
      have f50 : (ev (.tmp 50)) = .slice av sig.length kv := hd.2.2.1 rfl _ rfl
      have f47 : (ev (.tmp 47)) = .bool true := hd.2.2.2.1 rfl _ rfl
      clear hin hd
      refine step_on (guard_some rfl rfl f47) fun K hK => ?_
      unfold YieldsG
      go_simp
      refine (verify_any x d sig _ w1 HX.out HD.out (hv4.later (by rw [eB]; exact hg.bl)) h32 (hK4.below hg.bl (by omega))).mono ?_
      rintro e w2 ⟨rfl, hb⟩
      exact ⟨_, rfl, hK _ _ (by rw [HVS.out]; rfl) (Grow.of hB hb)⟩
  · as_aux_lemma =>
      intro ev w1 hg hin hc hgl hfn hd
      have hB := hg.top
      have f47 : (ev (.tmp 47)) = .bool true := hd.1 rfl _ rfl
      have g10 : ev (.tmp 10) = .int .i64 ((1 : Nat) : Int) := (hin 10 (by kernel_rfl)).trans i10
      clear hin hd
      refine step_on (guard_some rfl rfl f47) fun K hK => ?_
      unfold YieldsG
      go_simp
      exact hK _ _ rfl (Grow.refl hB)
  · as_aux_lemma =>
      intro ev w1 hg hin hc hgl hfn hd
      have hB := hg.top
      have f52 : (ev (.tmp 52)) = .int .i64 ((1 : Nat) : Int) := hd.1 rfl _ rfl
      have f47 : (ev (.tmp 47)) = .bool true := hd.2.1 rfl _ rfl
      clear hin hd
      refine step_on (guard_some rfl rfl f47) fun K hK => ?_
      unfold YieldsG
      go_simp
      exact hK _ _ rfl (Grow.refl hB)
  · as_aux_lemma =>
      intro ev w1 hg hin hc hgl hfn hd
      have hB := hg.top
      have f51 : (ev (.tmp 51)) = .bool false := hd.1 rfl _ rfl
      have f53 : (ev (.tmp 53)) = .bool false := hd.2.1 rfl _ rfl
      have f47 : (ev (.tmp 47)) = .bool true := hd.2.2.1 rfl _ rfl
      clear hin hd
      refine step_on (guard_some rfl rfl f47) fun K hK => ?_
      unfold YieldsG
      go_simp
      exact hK _ _ rfl (Grow.refl hB)
  · as_aux_lemma =>
      intro ev w1 hg hin hc hgl hfn hd
      have hB := hg.top
      have f47 : (ev (.tmp 47)) = .bool true := hd.1 rfl _ rfl
      have f54 : (ev (.tmp 54)) = .bool true := hd.2.1 rfl _ rfl
      clear hin hd
      refine step_on (guard_none rfl) fun K hK => ?_
      unfold YieldsG
      go_simp
      exact hK _ _ rfl (Grow.refl hB)
  · as_aux_lemma =>
      intro ev w1 hg hin hc hgl hfn hd
      have hB := hg.top
      have f55 : (ev (.tmp 55)) = .bool true := hd.1 rfl _ rfl
      clear hin hd
      refine step_on (guard_none rfl) fun K hK => ?_
      unfold YieldsG
      go_simp
      exact hK _ _ rfl (Grow.refl hB)
  · intro v w2 hg hall
    have hr : v 28 = .bool true := hall.2.2.2.2.2.2.2.2.2.2.2.2.2.2.2.2.2.2.2.2.2.2.2.2.2.2.2.2.1 (by simp)
    generalize hput : putAll _ v 0 _ = af
    have h0 : af.tmps.getD 6 undef = v 28 := by rw [← hput]; exact putAll_at (by rw [hsz]; as_aux_lemma => kernel_rfl) rfl rfl
    have hdf : af.defers = [] := by rw [← hput, putAll_defers]; exact hdf0
    clear hput hall
    go_wp2
    refine bodyPost_ret (results_tmp rfl _ _ _) hdf ⟨?_, hbl'.trans (hg.bl.mono (by rw [← eB]; exact hbl'.size))⟩
    rw [h0, hr]
theorem matchesRecovery_any (pub d : List UInt8) (v : Value) (sig : List (List UInt8)) (w : World) (hp : pub.length = 32) (hd : d.length = 32) (hv : Digs w v sig) (h32 : all32 sig) (hR : RKFact w) (hI : RIFact w) (hK : KFact w) :
    Calls Tryd.prog 5 #[.agg (cellsB pub), .agg (cellsB d), v] w fun e w' => e = .returned (.bool true) ∧ Below w.heap.size w w' := by
  by_cases h : 40 < sig.length
  · exact mr_big pub d sig v w hp hd hv h32 hR hI hK h
  · rcases errS_01 sig with h0 | h1
    · exact mr_ok pub d sig v w hp hd hv h32 hR hI hK h h0
    · exact mr_no pub d sig v w hp hd hv h32 hR hI hK h h1
end Go.Proofs.YthhlfcbkggahmaaDoor

/- crossbarlaw05.KeytreeClimbSteps returns true. Conditions: the digests have 32 bytes, the tables lie in their variables. -/
import Derived.Test.YteogcilnpkaplaaDoorM10
import Derived.Test.YteogcilnpkaplaaDoorM4
namespace Go.Proofs.YteogcilnpkaplaaDoor
open Go.RowKit
set_option maxRecDepth 100000 in
set_option maxHeartbeats 4000000 in
theorem ks_big (x0 : Dg) (idx : Int) (v : Value) (p : List Dg) (w : World) (hx0 : x0.length = 32) (hv : Digs w v p) (h32 : all32 p) (hK : KFact w) (hc : 40 < p.length) :
    Calls Tryd.prog 6 #[.agg (cellsB x0), .int .i64 idx, v] w fun e w' => e = .returned (.bool true) ∧ Below w.heap.size w w' := by
  have hkl := hK.lt
  have HX0 := Lib.hid hx0
  have HSX0 := Lib.hid (Tryd.sizeD_of x0 hx0)
  have H32 := Lib.hid h32
  clear hx0 h32
  obtain ⟨av, kv, rfl⟩ := hv.form
  have hb0 : Below w.heap.size w (w.alloc (.cells (cellsB x0) 25)) := (Below.refl _ _).alloc (Nat.le_refl _) _
  have hd0 : Row (w.alloc (.cells (cellsB x0) 25)) w.heap.size 25 (cellsB x0) := Row.new w _ _
  go_enter Tryd.func6, Tryd.ntmps6
  go_wp2_with fail
  refine (sane_any _ (hK.below hb0 hkl)).mono ?_
  rintro e w0 ⟨rfl, hb1⟩
  have hB0 := hb0.trans (hb1.mono hb0.size)
  have hdw := hd0.below hb1 hd0.lt
  clear hb0 hd0 hb1
  go_wp2
  go_ret
  exact ⟨rfl, hB0⟩
set_option maxRecDepth 100000 in
set_option maxHeartbeats 4000000 in
theorem ks_bad (x0 : Dg) (idx : Int) (v : Value) (p : List Dg) (w : World) (hx0 : x0.length = 32) (hv : Digs w v p) (h32 : all32 p) (hK : KFact w) (hc : ¬ 40 < p.length) (hok : okClimb idx p.length = false) :
    Calls Tryd.prog 6 #[.agg (cellsB x0), .int .i64 idx, v] w fun e w' => e = .returned (.bool true) ∧ Below w.heap.size w w' := by
  have hkl := hK.lt
  have HX0 := Lib.hid hx0
  have HSX0 := Lib.hid (Tryd.sizeD_of x0 hx0)
  have H32 := Lib.hid h32
  clear hx0 h32
  obtain ⟨av, kv, rfl⟩ := hv.form
  have hb0 : Below w.heap.size w (w.alloc (.cells (cellsB x0) 25)) := (Below.refl _ _).alloc (Nat.le_refl _) _
  have hd0 : Row (w.alloc (.cells (cellsB x0) 25)) w.heap.size 25 (cellsB x0) := Row.new w _ _
  go_enter Tryd.func6, Tryd.ntmps6
  have HER : Hid (errC idx p.length = 1) := Lib.hid (by unfold errC; rw [hok]; rfl)
  have HZ : Hid (climbR x0 idx p = List.replicate 32 0) := Lib.hid (by unfold climbR; rw [hok]; rfl)
  generalize hR7 : Code.region 7 _ _ = R7
  have HR7 := Lib.hid hR7
  clear hR7
  go_wp2_with fail
  refine (sane_any _ (hK.below hb0 hkl)).mono ?_
  rintro e w0 ⟨rfl, hb1⟩
  have hB0 := hb0.trans (hb1.mono hb0.size)
  have hdw := hd0.below hb1 hd0.lt
  clear hb0 hd0 hb1
  go_wp2_with (first | (refine wpList_load_row rfl 25 (.tmp 3) rfl w.heap.size rfl 25 (cellsB x0) (0, 0) _ hdw Tryd.underD rfl HSX0.out ?_))
  refine (climb_any x0 idx p _ w0 HX0.out (hv.later hB0) H32.out (hK.below hB0 hkl)).mono ?_
  rintro e w1 ⟨rfl, hb1⟩
  obtain ⟨x, hx⟩ : ∃ x, climbR x0 idx p = x := ⟨_, rfl⟩
  have hxl : x.length = 32 := by rw [← hx]; exact climbR_len _ _ _ HX0.out
  have HX := Lib.hid hxl
  have HSX := Lib.hid (Tryd.sizeD_of x hxl)
  have HCX : Hid ((cellsB x).size = (cellsB (List.replicate 32 0)).size) := Lib.hid (by rw [cellsB_size, hxl]; rfl)
  rw [hx, HER.out]
  have HXE := Lib.hid hx
  have hB1 := hB0.trans (hb1.mono hB0.size)
  have hd1 := hdw.below hb1 hdw.lt
  clear hx hxl hb1 hdw
  go_wp2_with (first | (refine wpList_store_row rfl 25 (.tmp 7) (.tmp 22) rfl w1.heap.size rfl (cellsB x) (cellsB (List.replicate 32 0)) 25 rfl (Row.new w1 _ _) HCX.out HSX.out (cellsB_one _) ?_; intro w2 hgw2 hrw2 hzw2; clear hzw2; have hbw2 := box_below hgw2; clear hgw2; have hd2 := hd1.below hbw2 hd1.lt))
  have hB2 := hB1.trans (hbw2.mono hB1.size)
  clear hd1 hbw2
  have HZX : Hid (x = List.replicate 32 0) := Lib.hid (by rw [← HXE.out]; exact HZ.out)
  clear HZ hok
  go_wp2
  rw [← HR7.out]
  clear HR7
  have hbl' := hB2
  obtain ⟨n1, en1⟩ : ∃ n1, w1.heap.size = n1 := ⟨_, rfl⟩
  obtain ⟨n0, en0⟩ : ∃ n0, w.heap.size = n0 := ⟨_, rfl⟩
  rw [en1] at hrw2 ⊢
  have hblw := hbl'
  rw [en0] at hd2
  have hl1 := hrw2.lt
  have hl0 := hd2.lt
  obtain ⟨B, eB⟩ : ∃ B, w2.heap.size = B := ⟨_, rfl⟩
  refine wp_gen fun a0 ha0 => ?_
  have i2 : a0.eval (.tmp 2) = .slice av p.length kv := by rw [ha0]; rfl
  have i3 : a0.eval (.tmp 3) = .pointer (some ⟨n0, 0, none⟩) := by rw [ha0, ← en0]; rfl
  have i7 : a0.eval (.tmp 7) = .pointer (some ⟨n1, 0, none⟩) := by rw [ha0]; rfl
  have i8 : a0.eval (.tmp 8) = .int .i64 1 := by rw [ha0]; rfl
  have hsz : a0.tmps.size = 77 := by rw [ha0]; rfl
  have hdf0 : a0.defers = [] := by rw [ha0]
  clear ha0
  refine wp_region_inv_text (B := B) [some 31, some 32, some 33, some 34, some 35, some 36, some 37, some 38, some 39, some 40, some 41, some 42, some 43, some 44, some 45, some 46, some 47, some 6] [Asrt.eq (.int .i64 1), Asrt.eq (.bool true), Asrt.eq (.bool true), Asrt.eq (.agg (cellsB (x))), Asrt.eq (.agg (cellsB (x))), Asrt.eq (.bool true), Asrt.eq (.bool true), Asrt.eq (.bool true), Asrt.any, Asrt.any, Asrt.any, Asrt.eq (undef), Asrt.any, Asrt.any, Asrt.any, Asrt.any, Asrt.eq (.bool true), Asrt.eq (.bool true)] rfl (by rw [hsz]; as_aux_lemma => kernel_rfl) (by as_aux_lemma => kernel_rfl) (by omega) ⟨?_, ?_, ?_, ?_, ?_, ?_, ?_, ?_, ?_, ?_, ?_, ?_, ?_, ?_, ?_, ?_, ?_, ?_, trivial⟩ ?_
  · as_aux_lemma =>
      intro ev w1 hg hin hc hgl hfn hd
      have hB := hg.top
      have g8 : ev (.tmp 8) = .int .i64 1 := (hin 8 (by kernel_rfl)).trans i8
      clear hin hd
      refine step_on (guard_none rfl) fun K hK => ?_
      unfold YieldsG
      go_simp
      exact hK _ _ rfl (Grow.refl hB)
  · as_aux_lemma =>
      intro ev w1 hg hin hc hgl hfn hd
      have hB := hg.top
      have f31 : (ev (.tmp 31)) = .int .i64 1 := hd.1 rfl _ rfl
      clear hin hd
      refine step_on (guard_none rfl) fun K hK => ?_
      unfold YieldsG
      go_simp
      exact hK _ _ rfl (Grow.refl hB)
  · as_aux_lemma =>
      intro ev w1 hg hin hc hgl hfn hd
      have hB := hg.top
      have f32 : (ev (.tmp 32)) = .bool true := hd.1 rfl _ rfl
      clear hin hd
      refine step_on (guard_none rfl) fun K hK => ?_
      unfold YieldsG
      go_simp
      exact hK _ _ rfl (Grow.refl hB)
  · as_aux_lemma =>
      intro ev w1 hg hin hc hgl hfn hd
      have hB := hg.top
      have f33 : (ev (.tmp 33)) = .bool true := hd.1 rfl _ rfl
      have g7 : ev (.tmp 7) = .pointer (some ⟨n1, 0, none⟩) := (hin 7 (by kernel_rfl)).trans i7
      clear hin hd
      refine step_on (guard_some rfl rfl f33) fun K hK => ?_
      refine yg_load_row 25 (.tmp 7) rfl n1 g7 25 (cellsB (x)) (0, 0) _ (hrw2.below hg.bl (by omega)) Tryd.underD rfl (Tryd.sizeD_of _ HX.out) ?_
      exact hK _ _ rfl (Grow.refl hB)
  · as_aux_lemma =>
      intro ev w1 hg hin hc hgl hfn hd
      have hB := hg.top
      have f33 : (ev (.tmp 33)) = .bool true := hd.1 rfl _ rfl
      clear hin hd
      refine step_on (guard_some rfl rfl f33) fun K hK => ?_
      unfold YieldsG execOp
      simp only [List.map_toArray, List.map_nil, Sem.run_bind, run_build_nil, Result.andThen_ok]
      exact hK _ _ (by show _ = _; rw [HZX.out]) (Grow.refl hB)
  · as_aux_lemma =>
      intro ev w1 hg hin hc hgl hfn hd
      have hB := hg.top
      have f34 : (ev (.tmp 34)) = .agg (cellsB (x)) := hd.1 rfl _ rfl
      have f35 : (ev (.tmp 35)) = .agg (cellsB (x)) := hd.2.1 rfl _ rfl
      have f33 : (ev (.tmp 33)) = .bool true := hd.2.2.1 rfl _ rfl
      clear hin hd
      refine step_on (guard_some rfl rfl f33) fun K hK => ?_
      have hq := eqlT (x) (x) HX.out rfl
      unfold YieldsG
      go_simp
      exact hK _ _ rfl (Grow.refl hB)
  · as_aux_lemma =>
      intro ev w1 hg hin hc hgl hfn hd
      have hB := hg.top
      have f33 : (ev (.tmp 33)) = .bool true := hd.1 rfl _ rfl
      have f36 : (ev (.tmp 36)) = .bool true := hd.2.1 rfl _ rfl
      clear hin hd
      refine step_on (guard_none rfl) fun K hK => ?_
      unfold YieldsG
      go_simp
      exact hK _ _ rfl (Grow.refl hB)
  · as_aux_lemma =>
      intro ev w1 hg hin hc hgl hfn hd
      have hB := hg.top
      have f37 : (ev (.tmp 37)) = .bool true := hd.1 rfl _ rfl
      clear hin hd
      refine step_on (guard_none rfl) fun K hK => ?_
      unfold YieldsG
      go_simp
      exact hK _ _ rfl (Grow.refl hB)
  · as_aux_lemma =>
      intro ev w1 hg hin hc hgl hfn hd
      have hB := hg.top
      have f38 : (ev (.tmp 38)) = .bool true := hd.1 rfl _ rfl
      have g2 : ev (.tmp 2) = .slice av p.length kv := (hin 2 (by kernel_rfl)).trans i2
      clear hin hd
      exact step_off (guard_off rfl rfl f38 (by decide)) trivial
  · as_aux_lemma =>
      intro ev w1 hg hin hc hgl hfn hd
      have hB := hg.top
      have f38 : (ev (.tmp 38)) = .bool true := hd.2.1 rfl _ rfl
      clear hin hd
      exact step_off (guard_off rfl rfl f38 (by decide)) trivial
  · as_aux_lemma =>
      intro ev w1 hg hin hc hgl hfn hd
      have hB := hg.top
      have f38 : (ev (.tmp 38)) = .bool true := hd.2.1 rfl _ rfl
      clear hin hd
      exact step_off (guard_off rfl rfl f38 (by decide)) trivial
  · as_aux_lemma =>
      intro ev w1 hg hin hc hgl hfn hd
      have hB := hg.top
      have f38 : (ev (.tmp 38)) = .bool true := hd.2.1 rfl _ rfl
      clear hin hd
      exact step_off (guard_off rfl rfl f38 (by decide)) rfl
  · as_aux_lemma =>
      intro ev w1 hg hin hc hgl hfn hd
      have hB := hg.top
      have f42 : (ev (.tmp 42)) = undef := hd.1 rfl _ rfl
      have g7 : ev (.tmp 7) = .pointer (some ⟨n1, 0, none⟩) := (hin 7 (by kernel_rfl)).trans i7
      clear hin hd
      exact step_off (guard_off_undef rfl rfl f42) trivial
  · as_aux_lemma =>
      intro ev w1 hg hin hc hgl hfn hd
      have hB := hg.top
      have f42 : (ev (.tmp 42)) = undef := hd.1 rfl _ rfl
      have g3 : ev (.tmp 3) = .pointer (some ⟨n0, 0, none⟩) := (hin 3 (by kernel_rfl)).trans i3
      clear hin hd
      exact step_off (guard_off_undef rfl rfl f42) trivial
  · as_aux_lemma =>
      intro ev w1 hg hin hc hgl hfn hd
      have hB := hg.top
      have f42 : (ev (.tmp 42)) = undef := hd.2.2.1 rfl _ rfl
      clear hin hd
      exact step_off (guard_off_undef rfl rfl f42) trivial
  · as_aux_lemma =>
      intro ev w1 hg hin hc hgl hfn hd
      have hB := hg.top
      have f42 : (ev (.tmp 42)) = undef := hd.1 rfl _ rfl
      have f38 : (ev (.tmp 38)) = .bool true := hd.2.2.1 rfl _ rfl
      clear hin hd
      exact step_off (guard_off rfl rfl f38 (by decide)) trivial
  · as_aux_lemma =>
      intro ev w1 hg hin hc hgl hfn hd
      have hB := hg.top
      have f38 : (ev (.tmp 38)) = .bool true := hd.1 rfl _ rfl
      clear hin hd
      refine step_on (guard_none rfl) fun K hK => ?_
      unfold YieldsG
      go_simp
      exact hK _ _ rfl (Grow.refl hB)
  · as_aux_lemma =>
      intro ev w1 hg hin hc hgl hfn hd
      have hB := hg.top
      have f47 : (ev (.tmp 47)) = .bool true := hd.1 rfl _ rfl
      clear hin hd
      refine step_on (guard_none rfl) fun K hK => ?_
      unfold YieldsG
      go_simp
      exact hK _ _ rfl (Grow.refl hB)
  · intro v w9 hg hall
    have hr : v 17 = .bool true := hall.2.2.2.2.2.2.2.2.2.2.2.2.2.2.2.2.2.1 (by simp)
    generalize hput : putAll _ v 0 _ = af
    have h0 : af.tmps.getD 6 undef = v 17 := by rw [← hput]; exact putAll_at (by rw [hsz]; as_aux_lemma => kernel_rfl) rfl rfl
    have hdf : af.defers = [] := by rw [← hput, putAll_defers]; exact hdf0
    clear hput hall
    go_wp2
    refine bodyPost_ret (results_tmp rfl _ _ _) hdf ⟨?_, hbl'.trans (hg.bl.mono (by rw [← eB]; exact hbl'.size))⟩
    rw [h0, hr]
set_option maxRecDepth 100000 in
set_option maxHeartbeats 4000000 in
theorem ks_none (x0 : Dg) (idx : Int) (v : Value) (p : List Dg) (w : World) (hx0 : x0.length = 32) (hv : Digs w v p) (h32 : all32 p) (hK : KFact w) (hp : p = []) (hok : okClimb idx p.length = true) :
    Calls Tryd.prog 6 #[.agg (cellsB x0), .int .i64 idx, v] w fun e w' => e = .returned (.bool true) ∧ Below w.heap.size w w' := by
  have hkl := hK.lt
  have HX0 := Lib.hid hx0
  have HSX0 := Lib.hid (Tryd.sizeD_of x0 hx0)
  have H32 := Lib.hid h32
  clear hx0 h32
  obtain ⟨av, kv, rfl⟩ := hv.form
  have hb0 : Below w.heap.size w (w.alloc (.cells (cellsB x0) 25)) := (Below.refl _ _).alloc (Nat.le_refl _) _
  have hd0 : Row (w.alloc (.cells (cellsB x0) 25)) w.heap.size 25 (cellsB x0) := Row.new w _ _
  go_enter Tryd.func6, Tryd.ntmps6
  have HER : Hid (errC idx p.length = 0) := Lib.hid (by unfold errC; rw [hok]; rfl)
  have HZ : Hid (climbR x0 idx p = x0) := Lib.hid (by unfold climbR; rw [hok, hp]; rfl)
  have hn0 : p.length = 0 := by rw [hp]; rfl
  have HN0 := Lib.hid hn0
  clear hp hok
  rw [hn0] at hv ⊢
  clear hn0
  generalize hR7 : Code.region 7 _ _ = R7
  have HR7 := Lib.hid hR7
  clear hR7
  go_wp2_with fail
  refine (sane_any _ (hK.below hb0 hkl)).mono ?_
  rintro e w0 ⟨rfl, hb1⟩
  have hB0 := hb0.trans (hb1.mono hb0.size)
  have hdw := hd0.below hb1 hd0.lt
  clear hb0 hd0 hb1
  go_wp2_with (first | (refine wpList_load_row rfl 25 (.tmp 3) rfl w.heap.size rfl 25 (cellsB x0) (0, 0) _ hdw Tryd.underD rfl HSX0.out ?_))
  refine (climb_any x0 idx p _ w0 HX0.out (hv.later hB0) H32.out (hK.below hB0 hkl)).mono ?_
  rintro e w1 ⟨rfl, hb1⟩
  obtain ⟨x, hx⟩ : ∃ x, climbR x0 idx p = x := ⟨_, rfl⟩
  have hxl : x.length = 32 := by rw [← hx]; exact climbR_len _ _ _ HX0.out
  have HX := Lib.hid hxl
  have HSX := Lib.hid (Tryd.sizeD_of x hxl)
  have HCX : Hid ((cellsB x).size = (cellsB (List.replicate 32 0)).size) := Lib.hid (by rw [cellsB_size, hxl]; rfl)
  rw [hx]
  have her := HER.out
  rw [HN0.out] at her
  rw [HN0.out, her]
  clear her
  have HXE := Lib.hid hx
  have hB1 := hB0.trans (hb1.mono hB0.size)
  have hd1 := hdw.below hb1 hdw.lt
  clear hx hxl hb1 hdw
  go_wp2_with (first | (refine wpList_store_row rfl 25 (.tmp 7) (.tmp 22) rfl w1.heap.size rfl (cellsB x) (cellsB (List.replicate 32 0)) 25 rfl (Row.new w1 _ _) HCX.out HSX.out (cellsB_one _) ?_; intro w2 hgw2 hrw2 hzw2; clear hzw2; have hbw2 := box_below hgw2; clear hgw2; have hd2 := hd1.below hbw2 hd1.lt))
  have hB2 := hB1.trans (hbw2.mono hB1.size)
  clear hd1 hbw2
  have HZX : Hid (x0 = x) := Lib.hid (by rw [← HXE.out]; exact HZ.out.symm)
  rw [HZX.out] at hd2
  clear HZ
  go_wp2
  rw [← HR7.out]
  clear HR7
  have hbl' := hB2
  obtain ⟨n1, en1⟩ : ∃ n1, w1.heap.size = n1 := ⟨_, rfl⟩
  obtain ⟨n0, en0⟩ : ∃ n0, w.heap.size = n0 := ⟨_, rfl⟩
  rw [en1] at hrw2 ⊢
  have hblw := hbl'
  rw [en0] at hd2
  have hl1 := hrw2.lt
  have hl0 := hd2.lt
  obtain ⟨B, eB⟩ : ∃ B, w2.heap.size = B := ⟨_, rfl⟩
  refine wp_gen fun a0 ha0 => ?_
  have i2 : a0.eval (.tmp 2) = .slice av 0 kv := by rw [ha0]; rfl
  have i3 : a0.eval (.tmp 3) = .pointer (some ⟨n0, 0, none⟩) := by rw [ha0, ← en0]; rfl
  have i7 : a0.eval (.tmp 7) = .pointer (some ⟨n1, 0, none⟩) := by rw [ha0]; rfl
  have i8 : a0.eval (.tmp 8) = .int .i64 0 := by rw [ha0]; rfl
  have hsz : a0.tmps.size = 77 := by rw [ha0]; rfl
  have hdf0 : a0.defers = [] := by rw [ha0]
  clear ha0
  refine wp_region_inv_text (B := B) [some 31, some 32, some 33, some 34, some 35, some 36, some 37, some 38, some 39, some 40, some 41, some 42, some 43, some 44, some 45, some 46, some 47, some 6] [Asrt.eq (.int .i64 0), Asrt.eq (.bool false), Asrt.eq (.bool false), Asrt.any, Asrt.any, Asrt.any, Asrt.eq (.bool false), Asrt.eq (.bool false), Asrt.eq (.slice av 0 kv), Asrt.eq (.int .i64 0), Asrt.eq (.bool true), Asrt.eq (.bool true), Asrt.eq (.agg (cellsB (x))), Asrt.eq (.agg (cellsB (x))), Asrt.eq (.bool true), Asrt.eq (.bool true), Asrt.eq (.bool true), Asrt.eq (.bool true)] rfl (by rw [hsz]; as_aux_lemma => kernel_rfl) (by as_aux_lemma => kernel_rfl) (by omega) ⟨?_, ?_, ?_, ?_, ?_, ?_, ?_, ?_, ?_, ?_, ?_, ?_, ?_, ?_, ?_, ?_, ?_, ?_, trivial⟩ ?_
  · as_aux_lemma =>
      intro ev w1 hg hin hc hgl hfn hd
      have hB := hg.top
      have g8 : ev (.tmp 8) = .int .i64 0 := (hin 8 (by kernel_rfl)).trans i8
      clear hin hd
      refine step_on (guard_none rfl) fun K hK => ?_
      unfold YieldsG
      go_simp
      exact hK _ _ rfl (Grow.refl hB)
  · as_aux_lemma =>
      intro ev w1 hg hin hc hgl hfn hd
      have hB := hg.top
      have f31 : (ev (.tmp 31)) = .int .i64 0 := hd.1 rfl _ rfl
      clear hin hd
      refine step_on (guard_none rfl) fun K hK => ?_
      unfold YieldsG
      go_simp
      exact hK _ _ rfl (Grow.refl hB)
  · as_aux_lemma =>
      intro ev w1 hg hin hc hgl hfn hd
      have hB := hg.top
      have f32 : (ev (.tmp 32)) = .bool false := hd.1 rfl _ rfl
      clear hin hd
      refine step_on (guard_none rfl) fun K hK => ?_
      unfold YieldsG
      go_simp
      exact hK _ _ rfl (Grow.refl hB)
  · as_aux_lemma =>
      intro ev w1 hg hin hc hgl hfn hd
      have hB := hg.top
      have f33 : (ev (.tmp 33)) = .bool false := hd.1 rfl _ rfl
      have g7 : ev (.tmp 7) = .pointer (some ⟨n1, 0, none⟩) := (hin 7 (by kernel_rfl)).trans i7
      clear hin hd
      exact step_off (guard_off rfl rfl f33 (by decide)) trivial
  · as_aux_lemma =>
      intro ev w1 hg hin hc hgl hfn hd
      have hB := hg.top
      have f33 : (ev (.tmp 33)) = .bool false := hd.1 rfl _ rfl
      clear hin hd
      exact step_off (guard_off rfl rfl f33 (by decide)) trivial
  · as_aux_lemma =>
      intro ev w1 hg hin hc hgl hfn hd
      have hB := hg.top
      have f33 : (ev (.tmp 33)) = .bool false := hd.2.2.1 rfl _ rfl
      clear hin hd
      exact step_off (guard_off rfl rfl f33 (by decide)) trivial
  · as_aux_lemma =>
      intro ev w1 hg hin hc hgl hfn hd
      have hB := hg.top
      have f33 : (ev (.tmp 33)) = .bool false := hd.1 rfl _ rfl
      clear hin hd
      refine step_on (guard_none rfl) fun K hK => ?_
      unfold YieldsG
      go_simp
      exact hK _ _ rfl (Grow.refl hB)
  · as_aux_lemma =>
      intro ev w1 hg hin hc hgl hfn hd
      have hB := hg.top
      have f37 : (ev (.tmp 37)) = .bool false := hd.1 rfl _ rfl
      clear hin hd
      refine step_on (guard_none rfl) fun K hK => ?_
      unfold YieldsG
      go_simp
      exact hK _ _ rfl (Grow.refl hB)
  · as_aux_lemma =>
      intro ev w1 hg hin hc hgl hfn hd
      have hB := hg.top
      have f38 : (ev (.tmp 38)) = .bool false := hd.1 rfl _ rfl
      have g2 : ev (.tmp 2) = .slice av 0 kv := (hin 2 (by kernel_rfl)).trans i2
      clear hin hd
      refine step_on (guard_some rfl rfl f38) fun K hK => ?_
      unfold YieldsG
      go_simp
      exact hK _ _ rfl (Grow.refl hB)
  · as_aux_lemma =>
      intro ev w1 hg hin hc hgl hfn hd
      have hB := hg.top
      have f39 : (ev (.tmp 39)) = .slice av 0 kv := hd.1 rfl _ rfl
      have f38 : (ev (.tmp 38)) = .bool false := hd.2.1 rfl _ rfl
      clear hin hd
      refine step_on (guard_some rfl rfl f38) fun K hK => ?_
      unfold YieldsG
      go_simp
      exact hK _ _ rfl (Grow.refl hB)
  · as_aux_lemma =>
      intro ev w1 hg hin hc hgl hfn hd
      have hB := hg.top
      have f40 : (ev (.tmp 40)) = .int .i64 0 := hd.1 rfl _ rfl
      have f38 : (ev (.tmp 38)) = .bool false := hd.2.1 rfl _ rfl
      clear hin hd
      refine step_on (guard_some rfl rfl f38) fun K hK => ?_
      unfold YieldsG
      go_simp
      exact hK _ _ rfl (Grow.refl hB)
  · as_aux_lemma =>
      intro ev w1 hg hin hc hgl hfn hd
      have hB := hg.top
      have f41 : (ev (.tmp 41)) = .bool true := hd.1 rfl _ rfl
      have f38 : (ev (.tmp 38)) = .bool false := hd.2.1 rfl _ rfl
      clear hin hd
      refine step_on (guard_some rfl rfl f38) fun K hK => ?_
      unfold YieldsG
      go_simp
      exact hK _ _ rfl (Grow.refl hB)
  · as_aux_lemma =>
      intro ev w1 hg hin hc hgl hfn hd
      have hB := hg.top
      have f42 : (ev (.tmp 42)) = .bool true := hd.1 rfl _ rfl
      have g7 : ev (.tmp 7) = .pointer (some ⟨n1, 0, none⟩) := (hin 7 (by kernel_rfl)).trans i7
      clear hin hd
      refine step_on (guard_some rfl rfl f42) fun K hK => ?_
      refine yg_load_row 25 (.tmp 7) rfl n1 g7 25 (cellsB (x)) (0, 0) _ (hrw2.below hg.bl (by omega)) Tryd.underD rfl (Tryd.sizeD_of _ HX.out) ?_
      exact hK _ _ rfl (Grow.refl hB)
  · as_aux_lemma =>
      intro ev w1 hg hin hc hgl hfn hd
      have hB := hg.top
      have f42 : (ev (.tmp 42)) = .bool true := hd.1 rfl _ rfl
      have g3 : ev (.tmp 3) = .pointer (some ⟨n0, 0, none⟩) := (hin 3 (by kernel_rfl)).trans i3
      clear hin hd
      refine step_on (guard_some rfl rfl f42) fun K hK => ?_
      refine yg_load_row 25 (.tmp 3) rfl n0 g3 25 (cellsB (x)) (0, 0) _ (hd2.below hg.bl (by omega)) Tryd.underD rfl (Tryd.sizeD_of _ HX.out) ?_
      exact hK _ _ rfl (Grow.refl hB)
  · as_aux_lemma =>
      intro ev w1 hg hin hc hgl hfn hd
      have hB := hg.top
      have f43 : (ev (.tmp 43)) = .agg (cellsB (x)) := hd.1 rfl _ rfl
      have f44 : (ev (.tmp 44)) = .agg (cellsB (x)) := hd.2.1 rfl _ rfl
      have f42 : (ev (.tmp 42)) = .bool true := hd.2.2.1 rfl _ rfl
      clear hin hd
      refine step_on (guard_some rfl rfl f42) fun K hK => ?_
      have hq := eqlT (x) (x) HX.out rfl
      unfold YieldsG
      go_simp
      exact hK _ _ rfl (Grow.refl hB)
  · as_aux_lemma =>
      intro ev w1 hg hin hc hgl hfn hd
      have hB := hg.top
      have f42 : (ev (.tmp 42)) = .bool true := hd.1 rfl _ rfl
      have f45 : (ev (.tmp 45)) = .bool true := hd.2.1 rfl _ rfl
      have f38 : (ev (.tmp 38)) = .bool false := hd.2.2.1 rfl _ rfl
      clear hin hd
      refine step_on (guard_some rfl rfl f38) fun K hK => ?_
      unfold YieldsG
      go_simp
      exact hK _ _ rfl (Grow.refl hB)
  · as_aux_lemma =>
      intro ev w1 hg hin hc hgl hfn hd
      have hB := hg.top
      have f38 : (ev (.tmp 38)) = .bool false := hd.1 rfl _ rfl
      have f46 : (ev (.tmp 46)) = .bool true := hd.2.1 rfl _ rfl
      clear hin hd
      refine step_on (guard_none rfl) fun K hK => ?_
      unfold YieldsG
      go_simp
      exact hK _ _ rfl (Grow.refl hB)
  · as_aux_lemma =>
      intro ev w1 hg hin hc hgl hfn hd
      have hB := hg.top
      have f47 : (ev (.tmp 47)) = .bool true := hd.1 rfl _ rfl
      clear hin hd
      refine step_on (guard_none rfl) fun K hK => ?_
      unfold YieldsG
      go_simp
      exact hK _ _ rfl (Grow.refl hB)
  · intro v w9 hg hall
    have hr : v 17 = .bool true := hall.2.2.2.2.2.2.2.2.2.2.2.2.2.2.2.2.2.1 (by simp)
    generalize hput : putAll _ v 0 _ = af
    have h0 : af.tmps.getD 6 undef = v 17 := by rw [← hput]; exact putAll_at (by rw [hsz]; as_aux_lemma => kernel_rfl) rfl rfl
    have hdf : af.defers = [] := by rw [← hput, putAll_defers]; exact hdf0
    clear hput hall
    go_wp2
    refine bodyPost_ret (results_tmp rfl _ _ _) hdf ⟨?_, hbl'.trans (hg.bl.mono (by rw [← eB]; exact hbl'.size))⟩
    rw [h0, hr]
theorem okClimb_step {i : Nat} {n : Nat} (h : okClimb (i : Int) n = true) (hn : 0 < n) : okClimb ((i / 2 : Nat) : Int) (n - 1) = true := by
  obtain ⟨h1, h2, h3⟩ := (okClimb_iff _ _).1 h
  refine (okClimb_iff _ _).2 ⟨by omega, by omega, ?_⟩
  obtain ⟨m, rfl⟩ : ∃ m, n = m + 1 := ⟨n - 1, by omega⟩
  rw [Int.pow_succ] at h3
  rw [Nat.add_sub_cancel]
  omega
theorem climbR_step {x : Dg} {i : Nat} {p : List Dg} (h : okClimb (i : Int) p.length = true) (hn : 0 < p.length) : climbR (climbStep x i (p.getD 0 [])) ((i / 2 : Nat) : Int) (p.drop 1) = climbR x (i : Int) p := by
  cases p with
  | nil => simp at hn
  | cons y ys =>
    have h2 := okClimb_step h hn
    unfold climbR
    rw [if_pos h]
    rw [List.drop_succ_cons, List.drop_zero, if_pos (by simpa using h2)]
    rfl
theorem errC_step {i n : Nat} (h : okClimb (i : Int) n = true) (hn : 0 < n) : errC ((i / 2 : Nat) : Int) (n - 1) = 0 := by unfold errC; rw [if_pos (okClimb_step h hn)]
set_option maxRecDepth 100000 in
set_option maxHeartbeats 4000000 in
theorem ks_ok (x0 : Dg) (idx : Int) (v : Value) (p : List Dg) (w : World) (hx0 : x0.length = 32) (hv : Digs w v p) (h32 : all32 p) (hK : KFact w) (hc : ¬ 40 < p.length) (hub : idx ≤ 9223372036854775807) (hp : 0 < p.length) (hok : okClimb idx p.length = true) :
    Calls Tryd.prog 6 #[.agg (cellsB x0), .int .i64 idx, v] w fun e w' => e = .returned (.bool true) ∧ Below w.heap.size w w' := by
  have hkl := hK.lt
  have HX0 := Lib.hid hx0
  have HSX0 := Lib.hid (Tryd.sizeD_of x0 hx0)
  have H32 := Lib.hid h32
  clear hx0 h32
  obtain ⟨av, kv, rfl⟩ := hv.form
  have hb0 : Below w.heap.size w (w.alloc (.cells (cellsB x0) 25)) := (Below.refl _ _).alloc (Nat.le_refl _) _
  have hd0 : Row (w.alloc (.cells (cellsB x0) 25)) w.heap.size 25 (cellsB x0) := Row.new w _ _
  go_enter Tryd.func6, Tryd.ntmps6
  have HER : Hid (errC idx p.length = 0) := Lib.hid (by unfold errC; rw [hok]; rfl)
  obtain ⟨hn6, hi0, -⟩ := (okClimb_iff _ _).1 hok
  obtain ⟨i, rfl⟩ := Int.eq_ofNat_of_zero_le hi0
  have hcs := climbR_step (x := x0) hok hp
  have hes := errC_step hok hp
  have hqi : (i : Int) / 2 = ((i / 2 : Nat) : Int) := by omega
  obtain ⟨q, hq⟩ : ∃ q, i / 2 = q := ⟨_, rfl⟩
  rw [hq] at hcs hes hqi
  have HES : Hid (errC (q : Int) (p.drop 1).length = 0) := Lib.hid (by rw [List.length_drop]; exact hes)
  have HCS := Lib.hid hcs
  have HQI := Lib.hid hqi
  have HWQ : Hid (IntKind.i64.wrap (q : Int) = (q : Int)) := Lib.hid (IntWalk.i64_in _ (by omega))
  clear hub
  clear hcs hes hqi hq
  have hp1 : ¬ (p.length : Int) = 0 := by omega
  have hp2 : ((p.length : Int) == 0) = false := by simpa using hp1
  clear hok hi0
  generalize hR8 : Code.region 8 _ _ = R8
  generalize hR9 : Code.region 9 _ _ = R9
  generalize hR10 : Code.region 10 _ _ = R10
  generalize hR11 : Code.region 11 _ _ = R11
  generalize hR12 : Code.region 12 _ _ = R12
  have HR8 := Lib.hid hR8
  have HR9 := Lib.hid hR9
  have HR10 := Lib.hid hR10
  have HR11 := Lib.hid hR11
  have HR12 := Lib.hid hR12
  clear hR8 hR9 hR10 hR11 hR12
  go_wp2_with fail
  refine (sane_any _ (hK.below hb0 hkl)).mono ?_
  rintro e w0 ⟨rfl, hb1⟩
  have hB0 := hb0.trans (hb1.mono hb0.size)
  have hdw := hd0.below hb1 hd0.lt
  clear hb0 hd0 hb1
  go_wp2_with (first | (refine wpList_load_row rfl 25 (.tmp 3) rfl w.heap.size rfl 25 (cellsB x0) (0, 0) _ hdw Tryd.underD rfl HSX0.out ?_))
  refine (climb_any x0 (i : Int) p _ w0 HX0.out (hv.later hB0) H32.out (hK.below hB0 hkl)).mono ?_
  rintro e w1 ⟨rfl, hb1⟩
  obtain ⟨x, hx⟩ : ∃ x, climbR x0 (i : Int) p = x := ⟨_, rfl⟩
  have hxl : x.length = 32 := by rw [← hx]; exact climbR_len _ _ _ HX0.out
  have HX := Lib.hid hxl
  have HSX := Lib.hid (Tryd.sizeD_of x hxl)
  have HCX : Hid ((cellsB x).size = (cellsB (List.replicate 32 0)).size) := Lib.hid (by rw [cellsB_size, hxl]; rfl)
  rw [hx, HER.out]
  have HXE := Lib.hid hx
  have hB1 := hB0.trans (hb1.mono hB0.size)
  have hd1 := hdw.below hb1 hdw.lt
  clear hx hxl hb1 hdw
  go_wp2_with (first | (refine wpList_store_row rfl 25 (.tmp 7) (.tmp 22) rfl w1.heap.size rfl (cellsB x) (cellsB (List.replicate 32 0)) 25 rfl (Row.new w1 _ _) HCX.out HSX.out (cellsB_one _) ?_; intro w2 hgw2 hrw2 hzw2; clear hzw2; have hbw2 := box_below hgw2; clear hgw2; have hd2 := hd1.below hbw2 hd1.lt))
  have hB2 := hB1.trans (hbw2.mono hB1.size)
  clear hd1 hbw2
  go_wp2
  rw [← HR8.out]
  clear HR8
  have hv2 := hv.later hB2
  obtain ⟨sb, so, rfl, -, hk1, hk2, hat⟩ := hv2.at hp
  have hce := hat.elem H32.out 0 hp
  rw [Nat.zero_mul, Nat.add_zero] at hce
  have hyl := all32_getD H32.out 0 hp
  have HPL : Hid (0 < p.length) := Lib.hid hp
  obtain ⟨y, hy⟩ : ∃ y, p.getD 0 [] = y := ⟨_, rfl⟩
  rw [hy] at hce hyl HCS
  have HYL := Lib.hid hyl
  have HFX : Hid (climbR (climbStep x0 i y) (q : Int) (p.drop 1) = x) := Lib.hid (HCS.out.trans HXE.out)
  have hsb0 : sb < w2.heap.size := block_lt_of_cell (hat 0 (by rw [flat_len _ H32.out]; omega))
  have HD32 : Hid (all32 (p.drop 1)) := Lib.hid fun x hx => H32.out x (List.mem_of_mem_drop hx)
  clear hy hyl hat HCS
  have hK2 := hK.below hB2 hkl
  have hkl2 := hK2.lt
  have hdl := hd2.lt
  obtain ⟨B, eB⟩ : ∃ B, w2.heap.size = B := ⟨_, rfl⟩
  refine wp_gen fun a0 ha0 => ?_
  have i2 : a0.eval (.tmp 2) = .slice (some ⟨sb, so, none⟩) p.length kv := by rw [ha0]; rfl
  have i3 : a0.eval (.tmp 3) = .pointer (some ⟨w.heap.size, 0, none⟩) := by rw [ha0]; rfl
  have hsz : a0.tmps.size = 77 := by rw [ha0]; rfl
  refine wp_region_inv_tail (B := B) 6 [some 48, some 49, some 50, some 51, some 52, some 9, none] [Asrt.eq (.agg (cellsB (x0))), Asrt.eq (.slice (some ⟨sb, so, none⟩) p.length kv), Asrt.eq (.pointer (some ⟨sb, so, none⟩)), Asrt.eq (.agg (cellsB (y))), Asrt.eq (.agg (cellsB (pairOf x0 y))), Asrt.box] rfl (by as_aux_lemma => kernel_rfl) (by rw [hsz]; as_aux_lemma => kernel_rfl) (by as_aux_lemma => kernel_rfl) (by as_aux_lemma => kernel_rfl) (by as_aux_lemma => kernel_rfl) (by decide) (by as_aux_lemma => kernel_rfl) (by omega) ⟨?_, ?_, ?_, ?_, ?_, ?_, trivial⟩ ?_
  · as_aux_lemma =>
      intro ev w1 hg hin hc hgl hfn hd
      have hB := hg.top
      have g3 : ev (.tmp 3) = .pointer (some ⟨w.heap.size, 0, none⟩) := (hin 3 (by kernel_rfl)).trans i3
      clear hin hd
      refine step_on (guard_none rfl) fun K hK => ?_
      refine yg_load_row 25 (.tmp 3) rfl w.heap.size g3 25 (cellsB (x0)) (0, 0) _ (hd2.below hg.bl (by omega)) Tryd.underD rfl (Tryd.sizeD_of _ HX0.out) ?_
      exact hK _ _ rfl (Grow.refl hB)
  · as_aux_lemma =>
      intro ev w1 hg hin hc hgl hfn hd
      have hB := hg.top
      have g2 : ev (.tmp 2) = .slice (some ⟨sb, so, none⟩) p.length kv := (hin 2 (by kernel_rfl)).trans i2
      clear hin hd
      refine step_on (guard_none rfl) fun K hK => ?_
      unfold YieldsG
      go_simp
      exact hK _ _ rfl (Grow.refl hB)
  · as_aux_lemma =>
      intro ev w1 hg hin hc hgl hfn hd
      have hB := hg.top
      have f49 : (ev (.tmp 49)) = .slice (some ⟨sb, so, none⟩) p.length kv := hd.1 rfl _ rfl
      clear hin hd
      refine step_on (guard_none rfl) fun K hK => ?_
      unfold YieldsG
      go_simp
      exact hK _ _ rfl (Grow.refl hB)
  · as_aux_lemma =>
      intro ev w1 hg hin hc hgl hfn hd
      have hB := hg.top
      have f50 : (ev (.tmp 50)) = .pointer (some ⟨sb, so, none⟩) := hd.1 rfl _ rfl
      clear hin hd
      refine step_on (guard_none rfl) fun K hK => ?_
      refine yg_load_mid 25 (.tmp 50) rfl sb (so) f50 ((y).map B8) _ (range_below hce (by rw [eB]; exact hg.bl)) Tryd.underD rfl (by rw [List.length_map, HYL.out]; exact Tryd.sizeD) ?_
      exact hK _ _ rfl (Grow.refl hB)
  · as_aux_lemma =>
      intro ev w1 hg hin hc hgl hfn hd
      have hB := hg.top
      have f48 : (ev (.tmp 48)) = .agg (cellsB (x0)) := hd.1 rfl _ rfl
      have f51 : (ev (.tmp 51)) = .agg (cellsB (y)) := hd.2.1 rfl _ rfl
      clear hin hd
      refine step_on (guard_none rfl) fun K hK => ?_
      unfold YieldsG
      go_simp
      refine (pair_any x0 y w1 HX0.out HYL.out (hK2.below hg.bl (by omega))).mono ?_
      rintro e w2 ⟨rfl, hb⟩
      exact ⟨_, rfl, hK _ _ rfl (Grow.of hB hb)⟩
  · as_aux_lemma =>
      intro ev w1 hg hin hc hgl hfn hd
      have hB := hg.top
      clear hin hd
      refine step_on (guard_none rfl) fun K hK => ?_
      unfold YieldsG
      go_simp
      exact hK _ _ ⟨_, rfl, hB, Row.new _ _ _⟩ (Grow.of hB ((Below.refl _ _).alloc (Nat.le_refl _) _))
  intro v w3 hg hall
  have hf0 : (v 0) = .agg (cellsB (x0)) := hall.1 (by simp)
  have hf1 : (v 1) = .slice (some ⟨sb, so, none⟩) p.length kv := hall.2.1 (by simp)
  have hf2 : (v 2) = .pointer (some ⟨sb, so, none⟩) := hall.2.2.1 (by simp)
  have hf3 : (v 3) = .agg (cellsB (y)) := hall.2.2.2.1 (by simp)
  have hf4 : (v 4) = .agg (cellsB (pairOf x0 y)) := hall.2.2.2.2.1 (by simp)
  have hf5 : ∃ g, (v 5) = .pointer (some ⟨g, 0, none⟩) ∧ B ≤ g ∧ Row w3 g 25 (cellsB (List.replicate 32 0)) := hall.2.2.2.2.2.1 (by simp)
  clear hall i2 i3 hsz
  rw [ha0]
  clear ha0
  simp only [List.take_succ_cons, List.take_zero, List.drop_succ_cons, List.drop_zero, putAll, Act.put, List.setIfInBounds_toArray, List.set_cons_zero, List.set_cons_succ, Nat.zero_add, Nat.reduceAdd]
  rw [hf0, hf1, hf2, hf3, hf4]
  generalize v 5 = x5 at *
  clear hf0 hf1 hf2 hf3 hf4
  obtain ⟨gs, hgs, hgB, hgr⟩ := hf5
  subst hgs
  have hd3 := hd2.below hg.below hd2.lt
  have hr3 := hrw2.below hg.below hrw2.lt
  have hB3 := hB2.trans (hg.below.mono hB2.size)
  have hce3 := range_below hce hg.below
  have hzz := hB2.size
  have hl1 := hrw2.lt
  have hq1 : w1.heap.size < gs := by omega
  have hq0 : w.heap.size ≤ gs := by omega
  have HPP := Lib.hid (pairOf_len x0 y)
  have HSP := Lib.hid (Tryd.sizeD_of _ (pairOf_len x0 y))
  have HCP : Hid ((cellsB (pairOf x0 y)).size = (cellsB (List.replicate 32 0)).size) := Lib.hid (by rw [cellsB_size, pairOf_len]; rfl)
  clear hg hd2 hrw2 hce hv2
  go_wp2_with (refine wpList_store_row rfl 25 (.tmp 9) (.tmp 52) rfl gs rfl (cellsB (pairOf x0 y)) _ 25 rfl hgr HCP.out HSP.out (cellsB_one _) ?_; intro w4 hg4 hr4 hz4)
  have hd4 := hd3.grown hg4 (fun e => by have := Option.some.inj e; omega)
  have hx4 := hr3.grown hg4 (fun e => by have := Option.some.inj e; omega)
  have hB4 := hB3.grown hg4 hB3.size (fun k hk => by cases hk; omega)
  have hce4 : w4.rangeAt sb so (y.map B8) := fun j u hu => (World.cell?_of_block (w := w3) (a := ⟨sb, so + j, none⟩) (hg4.block sb (block_lt_of_cell (hce3 j u hu)) (fun e => by have := Option.some.inj e; omega))).trans (hce3 j u hu)
  have hz34 := hB3.size
  clear hd3 hr3 hce3 hgr hB3 hg4
  by_cases hod : i % 2 = 1
  · have hod' : (i : Int) % 2 = 1 := by omega
    have hst : climbStep x0 i y = pairOf y x0 := by unfold climbStep; rw [if_neg (by omega)]
    have HFX2 := HFX.out
    rw [hst] at HFX2
    have HFX := Lib.hid HFX2
    clear HFX2 hst
    rw [← HR9.out]
    clear HR9
    go_wp2
    rw [← HR10.out]
    clear HR10
    have hK4 := hK.below hB4 hkl
    have hkl4 := hK4.lt
    have hl4 := hr4.lt
    have hdl4 := hd4.lt
    clear eB
    obtain ⟨B, eB⟩ : ∃ B, w4.heap.size = B := ⟨_, rfl⟩
    refine wp_gen fun a0 ha0 => ?_
    have i2 : a0.eval (.tmp 2) = .slice (some ⟨sb, so, none⟩) p.length kv := by rw [ha0]; rfl
    have i3 : a0.eval (.tmp 3) = .pointer (some ⟨w.heap.size, 0, none⟩) := by rw [ha0]; rfl
    have hsz : a0.tmps.size = 77 := by rw [ha0]; rfl
    refine wp_region_inv_tail (B := B) 5 [some 56, some 57, some 58, some 59, some 60, none] [Asrt.eq (.slice (some ⟨sb, so, none⟩) p.length kv), Asrt.eq (.pointer (some ⟨sb, so, none⟩)), Asrt.eq (.agg (cellsB (y))), Asrt.eq (.agg (cellsB (x0))), Asrt.eq (.agg (cellsB (pairOf y x0)))] rfl (by as_aux_lemma => kernel_rfl) (by rw [hsz]; as_aux_lemma => kernel_rfl) (by as_aux_lemma => kernel_rfl) (by as_aux_lemma => kernel_rfl) (by as_aux_lemma => kernel_rfl) (by decide) (by as_aux_lemma => kernel_rfl) (by omega) ⟨?_, ?_, ?_, ?_, ?_, trivial⟩ ?_
    · as_aux_lemma =>
        intro ev w1 hg hin hc hgl hfn hd
        have hB := hg.top
        have g2 : ev (.tmp 2) = .slice (some ⟨sb, so, none⟩) p.length kv := (hin 2 (by kernel_rfl)).trans i2
        clear hin hd
        refine step_on (guard_none rfl) fun K hK => ?_
        unfold YieldsG
        go_simp
        exact hK _ _ rfl (Grow.refl hB)
    · as_aux_lemma =>
        intro ev w1 hg hin hc hgl hfn hd
        have hB := hg.top
        have f56 : (ev (.tmp 56)) = .slice (some ⟨sb, so, none⟩) p.length kv := hd.1 rfl _ rfl
        clear hin hd
        refine step_on (guard_none rfl) fun K hK => ?_
        unfold YieldsG
        go_simp
        exact hK _ _ rfl (Grow.refl hB)
    · as_aux_lemma =>
        intro ev w1 hg hin hc hgl hfn hd
        have hB := hg.top
        have f57 : (ev (.tmp 57)) = .pointer (some ⟨sb, so, none⟩) := hd.1 rfl _ rfl
        clear hin hd
        refine step_on (guard_none rfl) fun K hK => ?_
        refine yg_load_mid 25 (.tmp 57) rfl sb (so) f57 ((y).map B8) _ (range_below hce4 (by rw [eB]; exact hg.bl)) Tryd.underD rfl (by rw [List.length_map, HYL.out]; exact Tryd.sizeD) ?_
        exact hK _ _ rfl (Grow.refl hB)
    · as_aux_lemma =>
        intro ev w1 hg hin hc hgl hfn hd
        have hB := hg.top
        have g3 : ev (.tmp 3) = .pointer (some ⟨w.heap.size, 0, none⟩) := (hin 3 (by kernel_rfl)).trans i3
        clear hin hd
        refine step_on (guard_none rfl) fun K hK => ?_
        refine yg_load_row 25 (.tmp 3) rfl w.heap.size g3 25 (cellsB (x0)) (0, 0) _ (hd4.below hg.bl (by omega)) Tryd.underD rfl (Tryd.sizeD_of _ HX0.out) ?_
        exact hK _ _ rfl (Grow.refl hB)
    · as_aux_lemma =>
        intro ev w1 hg hin hc hgl hfn hd
        have hB := hg.top
        have f58 : (ev (.tmp 58)) = .agg (cellsB (y)) := hd.1 rfl _ rfl
        have f59 : (ev (.tmp 59)) = .agg (cellsB (x0)) := hd.2.1 rfl _ rfl
        clear hin hd
        refine step_on (guard_none rfl) fun K hK => ?_
        unfold YieldsG
        go_simp
        refine (pair_any y x0 w1 HYL.out HX0.out (hK4.below hg.bl (by omega))).mono ?_
        rintro e w2 ⟨rfl, hb⟩
        exact ⟨_, rfl, hK _ _ rfl (Grow.of hB hb)⟩
    intro v w3 hg hall
    have hf0 : (v 0) = .slice (some ⟨sb, so, none⟩) p.length kv := hall.1 (by simp)
    have hf1 : (v 1) = .pointer (some ⟨sb, so, none⟩) := hall.2.1 (by simp)
    have hf2 : (v 2) = .agg (cellsB (y)) := hall.2.2.1 (by simp)
    have hf3 : (v 3) = .agg (cellsB (x0)) := hall.2.2.2.1 (by simp)
    have hf4 : (v 4) = .agg (cellsB (pairOf y x0)) := hall.2.2.2.2.1 (by simp)
    clear hall i2 i3 hsz
    rw [ha0]
    clear ha0
    simp only [List.take_succ_cons, List.take_zero, List.drop_succ_cons, List.drop_zero, putAll, Act.put, List.setIfInBounds_toArray, List.set_cons_zero, List.set_cons_succ, Nat.zero_add, Nat.reduceAdd]
    rw [hf0, hf1, hf2, hf3, hf4]
    clear hf0 hf1 hf2 hf3 hf4
    have hx3 := hx4.below hg.below hx4.lt
    have hr3 := hr4.below hg.below hr4.lt
    have hB3 := hB4.trans (hg.below.mono hB4.size)
    have HST := Lib.hid (pairOf_len y x0)
    have HSQ := Lib.hid (Tryd.sizeD_of _ (pairOf_len y x0))
    have HCQ : Hid ((cellsB (pairOf y x0)).size = (cellsB (pairOf x0 y)).size) := Lib.hid (by rw [cellsB_size, cellsB_size, pairOf_len, pairOf_len])
    have hz33 := hB3.size
    clear hg hd4 hce4 hx4 hr4
    go_wp2_with (refine wpList_store_row rfl 25 (.tmp 9) (.tmp 60) rfl gs rfl (cellsB (pairOf y x0)) _ 25 rfl hr3 HCQ.out HSQ.out (cellsB_one _) ?_; intro w5 hg5 hs5 hz5)
    have hx5 := hx3.grown hg5 (fun e => by have := Option.some.inj e; omega)
    have hB5 := hB3.grown hg5 hB3.size (fun k hk => by cases hk; omega)
    clear hx3 hr3 hB3 hg5 eB
    have hK5 := hK.below hB5 hkl
    have hkl5 := hK5.lt
    have hl5 := hs5.lt
    have hv5 := hv.later hB5
    obtain ⟨B, eB⟩ : ∃ B, w5.heap.size = B := ⟨_, rfl⟩
    rw [← HR11.out]
    clear HR11
    refine wp_gen fun a0 ha0 => ?_
    have i9 : a0.eval (.tmp 9) = .pointer (some ⟨gs, 0, none⟩) := by rw [ha0]; rfl
    have i1 : a0.eval (.tmp 1) = .int .i64 (i : Int) := by rw [ha0]; rfl
    have i2 : a0.eval (.tmp 2) = .slice (some ⟨sb, so, none⟩) p.length kv := by rw [ha0]; rfl
    have hsz : a0.tmps.size = 77 := by rw [ha0]; rfl
    refine wp_region_inv_late (B := B) 10 [some 62, some 63, some 64, some 65, some 66, some 67, some 61, some 68, some 69, some 10, none, some 11] [Asrt.eq (.agg (cellsB (pairOf y x0))), Asrt.eq (.int .i64 (i : Int)), Asrt.eq (.int .i64 (q : Int)), Asrt.eq (.slice (some ⟨sb, so, none⟩) p.length kv), Asrt.digs (p.drop 1), Asrt.eq (.tuple #[.agg (cellsB x), .int .i64 0]), Asrt.eq (.tuple #[.agg (cellsB x), .int .i64 0]), Asrt.eq (.agg (cellsB (x))), Asrt.eq (.int .i64 0), Asrt.box] [(8, .int .i64 0)] rfl (by as_aux_lemma => kernel_rfl) (by rw [hsz]; as_aux_lemma => kernel_rfl) (by as_aux_lemma => kernel_rfl) (by as_aux_lemma => kernel_rfl) (by decide) ⟨rfl, trivial⟩ (by omega) ⟨?_, ?_, ?_, ?_, ?_, ?_, ?_, ?_, ?_, ?_, trivial⟩ ?_
    · as_aux_lemma =>
        intro ev w1 hg hin hc hgl hfn hd
        have hB := hg.top
        have g9 : ev (.tmp 9) = .pointer (some ⟨gs, 0, none⟩) := (hin 9 (by kernel_rfl)).trans i9
        clear hin hd
        refine step_on (guard_none rfl) fun K hK => ?_
        refine yg_load_row 25 (.tmp 9) rfl gs g9 25 (cellsB (pairOf y x0)) (0, 0) _ (hs5.below hg.bl (by omega)) Tryd.underD rfl (Tryd.sizeD_of _ HST.out) ?_
        exact hK _ _ rfl (Grow.refl hB)
    · as_aux_lemma =>
        intro ev w1 hg hin hc hgl hfn hd
        have hB := hg.top
        have g1 : ev (.tmp 1) = .int .i64 (i : Int) := (hin 1 (by kernel_rfl)).trans i1
        clear hin hd
        refine step_on (guard_none rfl) fun K hK => ?_
        unfold YieldsG
        go_simp
        exact hK _ _ rfl (Grow.refl hB)
    · as_aux_lemma =>
        intro ev w1 hg hin hc hgl hfn hd
        have hB := hg.top
        have f63 : (ev (.tmp 63)) = .int .i64 (i : Int) := hd.1 rfl _ rfl
        clear hin hd
        refine step_on (guard_none rfl) fun K hK => ?_
        unfold YieldsG
        go_simp
        exact hK _ _ (by show _ = _; rw [HQI.out, HWQ.out]) (Grow.refl hB)
    · as_aux_lemma =>
        intro ev w1 hg hin hc hgl hfn hd
        have hB := hg.top
        have g2 : ev (.tmp 2) = .slice (some ⟨sb, so, none⟩) p.length kv := (hin 2 (by kernel_rfl)).trans i2
        clear hin hd
        refine step_on (guard_none rfl) fun K hK => ?_
        unfold YieldsG
        go_simp
        exact hK _ _ rfl (Grow.refl hB)
    · as_aux_lemma =>
        intro ev w1 hg hin hc hgl hfn hd
        have hB := hg.top
        have f65 : (ev (.tmp 65)) = .slice (some ⟨sb, so, none⟩) p.length kv := hd.1 rfl _ rfl
        clear hin hd
        refine step_on (guard_none rfl) fun K hK => ?_
        obtain ⟨a9, hr9, hd9⟩ := run_slice_digs (hv5.later (by rw [eB]; exact hg.bl)) H32.out (some (.int .i64 ((1 : Nat) : Int))) none 1 p.length (.inr rfl) (.inl ⟨rfl, rfl⟩) HPL.out (Nat.le_refl _)
        rw [List.take_of_length_le (by rw [List.length_drop]; exact Nat.le_refl _)] at hd9
        unfold YieldsG execOp
        simp only [f65, hc, Option.map, Sem.run_bind]
        erw [hr9]
        exact hK _ _ hd9 (Grow.refl hB)
    · as_aux_lemma =>
        intro ev w1 hg hin hc hgl hfn hd
        have hB := hg.top
        have f62 : (ev (.tmp 62)) = .agg (cellsB (pairOf y x0)) := hd.1 rfl _ rfl
        have f64 : (ev (.tmp 64)) = .int .i64 (q : Int) := hd.2.1 rfl _ rfl
        have f66 : Digs w1 (ev (.tmp 66)) (p.drop 1) := hd.2.2.1 rfl _ rfl
        clear hin hd
        refine step_on (guard_none rfl) fun K hK => ?_
        unfold YieldsG
        go_simp
        refine (climb_any (pairOf y x0) (q : Int) (p.drop 1) _ w1 HST.out f66 HD32.out (hK5.below hg.bl (by omega))).mono ?_
        rintro e w2 ⟨rfl, hb⟩
        exact ⟨_, rfl, hK _ _ (by show _ = _; rw [HFX.out, HES.out]; rfl) (Grow.of hB hb)⟩
    · as_aux_lemma =>
        intro ev w1 hg hin hc hgl hfn hd
        have hB := hg.top
        have f67 : (ev (.tmp 67)) = .tuple #[.agg (cellsB x), .int .i64 0] := hd.1 rfl _ rfl
        clear hin hd
        refine step_on (guard_none rfl) fun K hK => ?_
        unfold YieldsG
        go_simp
        exact hK _ _ rfl (Grow.refl hB)
    · as_aux_lemma =>
        intro ev w1 hg hin hc hgl hfn hd
        have hB := hg.top
        have f61 : (ev (.tmp 61)) = .tuple #[.agg (cellsB x), .int .i64 0] := hd.1 rfl _ rfl
        clear hin hd
        refine step_on (guard_none rfl) fun K hK => ?_
        unfold YieldsG
        go_simp
        exact hK _ _ rfl (Grow.refl hB)
    · as_aux_lemma =>
        intro ev w1 hg hin hc hgl hfn hd
        have hB := hg.top
        have f61 : (ev (.tmp 61)) = .tuple #[.agg (cellsB x), .int .i64 0] := hd.1 rfl _ rfl
        clear hin hd
        refine step_on (guard_none rfl) fun K hK => ?_
        unfold YieldsG
        go_simp
        exact hK _ _ rfl (Grow.refl hB)
    · as_aux_lemma =>
        intro ev w1 hg hin hc hgl hfn hd
        have hB := hg.top
        clear hin hd
        refine step_on (guard_none rfl) fun K hK => ?_
        unfold YieldsG
        go_simp
        exact hK _ _ ⟨_, rfl, hB, Row.new _ _ _⟩ (Grow.of hB ((Below.refl _ _).alloc (Nat.le_refl _) _))
    intro v w6 hg hall
    have hf0 : (v 0) = .agg (cellsB (pairOf y x0)) := hall.1 (by simp)
    have hf1 : (v 1) = .int .i64 (i : Int) := hall.2.1 (by simp)
    have hf2 : (v 2) = .int .i64 (q : Int) := hall.2.2.1 (by simp)
    have hf3 : (v 3) = .slice (some ⟨sb, so, none⟩) p.length kv := hall.2.2.2.1 (by simp)
    have hf4 : Digs w6 (v 4) (p.drop 1) := hall.2.2.2.2.1 (by simp)
    have hf5 : (v 5) = .tuple #[.agg (cellsB x), .int .i64 0] := hall.2.2.2.2.2.1 (by simp)
    have hf6 : (v 6) = .tuple #[.agg (cellsB x), .int .i64 0] := hall.2.2.2.2.2.2.1 (by simp)
    have hf7 : (v 7) = .agg (cellsB (x)) := hall.2.2.2.2.2.2.2.1 (by simp)
    have hf8 : (v 8) = .int .i64 0 := hall.2.2.2.2.2.2.2.2.1 (by simp)
    have hf9 : ∃ g, (v 9) = .pointer (some ⟨g, 0, none⟩) ∧ B ≤ g ∧ Row w6 g 25 (cellsB (List.replicate 32 0)) := hall.2.2.2.2.2.2.2.2.2.1 (by simp)
    clear hall i9 i1 i2 hsz
    rw [ha0]
    clear ha0
    simp only [List.take_succ_cons, List.take_zero, List.drop_succ_cons, List.drop_zero, putAll, Act.put, List.setIfInBounds_toArray, List.set_cons_zero, List.set_cons_succ, Nat.zero_add, Nat.reduceAdd]
    rw [hf0, hf1, hf2, hf3, hf5, hf6, hf7, hf8]
    generalize v 4 = x4 at *
    generalize v 9 = x9 at *
    clear hf0 hf1 hf2 hf3 hf5 hf6 hf7 hf8
    obtain ⟨gt, hgt, hgtB, hgtr⟩ := hf9
    subst hgt
    have hx6 := hx5.below hg.below hx5.lt
    have hB6 := hB5.trans (hg.below.mono hB5.size)
    have hxl5 := hx5.lt
    have hz56 := hB5.size
    clear hg hs5 hx5 hv5
    refine ⟨fun _ => True, ⟨fun o ho w _ => by cases ho; rfl, trivial⟩, ?_⟩
    refine wpListI_cons trivial ?_
    refine wpList_store_row rfl 25 (.tmp 10) (.tmp 68) rfl gt rfl (cellsB x) _ 25 rfl hgtr HCX.out HSX.out (cellsB_one _) ?_
    intro w7 hg7 hr7 hz7
    refine lateQ_intro (wpListI_cons trivial ?_)
    go_wp2
    refine ⟨rfl, wpListI_nil trivial ?_⟩
    go_wp2
    have hx7 := hx6.grown hg7 (fun e => by have := Option.some.inj e; omega)
    have hB7 := hB6.grown hg7 hB6.size (fun k hk => by cases hk; omega)
    have hbl' := hB7
    clear hx6 hgtr hB6 hg7 eB
    rw [← HR12.out]
    clear HR12
    obtain ⟨n1, en1⟩ : ∃ n1, w1.heap.size = n1 := ⟨_, rfl⟩
    rw [en1] at hx7 ⊢
    have hl1 := hx7.lt
    have hl2 := hr7.lt
    obtain ⟨B, eB⟩ : ∃ B, w7.heap.size = B := ⟨_, rfl⟩
    refine wp_gen fun a0 ha0 => ?_
    have i11 : a0.eval (.tmp 11) = .int .i64 0 := by rw [ha0]; rfl
    have i7 : a0.eval (.tmp 7) = .pointer (some ⟨n1, 0, none⟩) := by rw [ha0]; rfl
    have i10 : a0.eval (.tmp 10) = .pointer (some ⟨gt, 0, none⟩) := by rw [ha0]; rfl
    have hsz : a0.tmps.size = 77 := by rw [ha0]; rfl
    have hdf0 : a0.defers = [] := by rw [ha0]
    clear ha0
    refine wp_region_inv_text (B := B) [some 70, some 71, some 72, some 73, some 74, some 75, some 76, some 6] [Asrt.eq (.int .i64 0), Asrt.eq (.bool true), Asrt.eq (.bool true), Asrt.eq (.agg (cellsB (x))), Asrt.eq (.agg (cellsB (x))), Asrt.eq (.bool true), Asrt.eq (.bool true), Asrt.eq (.bool true)] rfl (by rw [hsz]; as_aux_lemma => kernel_rfl) (by as_aux_lemma => kernel_rfl) (by omega) ⟨?_, ?_, ?_, ?_, ?_, ?_, ?_, ?_, trivial⟩ ?_
    · as_aux_lemma =>
        intro ev w1 hg hin hc hgl hfn hd
        have hB := hg.top
        have g11 : ev (.tmp 11) = .int .i64 0 := (hin 11 (by kernel_rfl)).trans i11
        clear hin hd
        refine step_on (guard_none rfl) fun K hK => ?_
        unfold YieldsG
        go_simp
        exact hK _ _ rfl (Grow.refl hB)
    · as_aux_lemma =>
        intro ev w1 hg hin hc hgl hfn hd
        have hB := hg.top
        have f70 : (ev (.tmp 70)) = .int .i64 0 := hd.1 rfl _ rfl
        clear hin hd
        refine step_on (guard_none rfl) fun K hK => ?_
        unfold YieldsG
        go_simp
        exact hK _ _ rfl (Grow.refl hB)
    · as_aux_lemma =>
        intro ev w1 hg hin hc hgl hfn hd
        have hB := hg.top
        have f71 : (ev (.tmp 71)) = .bool true := hd.1 rfl _ rfl
        clear hin hd
        refine step_on (guard_none rfl) fun K hK => ?_
        unfold YieldsG
        go_simp
        exact hK _ _ rfl (Grow.refl hB)
    · as_aux_lemma =>
        intro ev w1 hg hin hc hgl hfn hd
        have hB := hg.top
        have f72 : (ev (.tmp 72)) = .bool true := hd.1 rfl _ rfl
        have g7 : ev (.tmp 7) = .pointer (some ⟨n1, 0, none⟩) := (hin 7 (by kernel_rfl)).trans i7
        clear hin hd
        refine step_on (guard_some rfl rfl f72) fun K hK => ?_
        refine yg_load_row 25 (.tmp 7) rfl n1 g7 25 (cellsB (x)) (0, 0) _ (hx7.below hg.bl (by omega)) Tryd.underD rfl (Tryd.sizeD_of _ HX.out) ?_
        exact hK _ _ rfl (Grow.refl hB)
    · as_aux_lemma =>
        intro ev w1 hg hin hc hgl hfn hd
        have hB := hg.top
        have f72 : (ev (.tmp 72)) = .bool true := hd.1 rfl _ rfl
        have g10 : ev (.tmp 10) = .pointer (some ⟨gt, 0, none⟩) := (hin 10 (by kernel_rfl)).trans i10
        clear hin hd
        refine step_on (guard_some rfl rfl f72) fun K hK => ?_
        refine yg_load_row 25 (.tmp 10) rfl gt g10 25 (cellsB (x)) (0, 0) _ (hr7.below hg.bl (by omega)) Tryd.underD rfl (Tryd.sizeD_of _ HX.out) ?_
        exact hK _ _ rfl (Grow.refl hB)
    · as_aux_lemma =>
        intro ev w1 hg hin hc hgl hfn hd
        have hB := hg.top
        have f73 : (ev (.tmp 73)) = .agg (cellsB (x)) := hd.1 rfl _ rfl
        have f74 : (ev (.tmp 74)) = .agg (cellsB (x)) := hd.2.1 rfl _ rfl
        have f72 : (ev (.tmp 72)) = .bool true := hd.2.2.1 rfl _ rfl
        clear hin hd
        refine step_on (guard_some rfl rfl f72) fun K hK => ?_
        have hq := eqlT (x) (x) HX.out rfl
        unfold YieldsG
        go_simp
        exact hK _ _ rfl (Grow.refl hB)
    · as_aux_lemma =>
        intro ev w1 hg hin hc hgl hfn hd
        have hB := hg.top
        have f72 : (ev (.tmp 72)) = .bool true := hd.1 rfl _ rfl
        have f75 : (ev (.tmp 75)) = .bool true := hd.2.1 rfl _ rfl
        clear hin hd
        refine step_on (guard_none rfl) fun K hK => ?_
        unfold YieldsG
        go_simp
        exact hK _ _ rfl (Grow.refl hB)
    · as_aux_lemma =>
        intro ev w1 hg hin hc hgl hfn hd
        have hB := hg.top
        have f76 : (ev (.tmp 76)) = .bool true := hd.1 rfl _ rfl
        clear hin hd
        refine step_on (guard_none rfl) fun K hK => ?_
        unfold YieldsG
        go_simp
        exact hK _ _ rfl (Grow.refl hB)
    · intro v w9 hg hall
      have hr : v 7 = .bool true := hall.2.2.2.2.2.2.2.1 (by simp)
      generalize hput : putAll _ v 0 _ = af
      have h0 : af.tmps.getD 6 undef = v 7 := by rw [← hput]; exact putAll_at (by rw [hsz]; as_aux_lemma => kernel_rfl) rfl rfl
      have hdf : af.defers = [] := by rw [← hput, putAll_defers]; exact hdf0
      clear hput hall
      go_wp2
      refine bodyPost_ret (results_tmp rfl _ _ _) hdf ⟨?_, hbl'.trans (hg.bl.mono (by rw [← eB]; exact hbl'.size))⟩
      rw [h0, hr]
  · have hod' : (i : Int) % 2 = 0 := by omega
    have hst : climbStep x0 i y = pairOf x0 y := by unfold climbStep; rw [if_pos (by omega)]
    have HFX2 := HFX.out
    rw [hst] at HFX2
    have HFX := Lib.hid HFX2
    clear HFX2 hst
    rw [← HR9.out]
    clear HR9
    go_wp2
    have HST := Lib.hid (pairOf_len x0 y)
    have hs5 := hr4
    have hx5 := hx4
    have hB5 := hB4
    clear hr4 hx4 hB4 hd4 hce4 eB
    obtain ⟨w5, e45⟩ : ∃ w5, w4 = w5 := ⟨_, rfl⟩
    subst e45
    have hK5 := hK.below hB5 hkl
    have hkl5 := hK5.lt
    have hl5 := hs5.lt
    have hv5 := hv.later hB5
    obtain ⟨B, eB⟩ : ∃ B, w4.heap.size = B := ⟨_, rfl⟩
    rw [← HR11.out]
    clear HR11
    refine wp_gen fun a0 ha0 => ?_
    have i9 : a0.eval (.tmp 9) = .pointer (some ⟨gs, 0, none⟩) := by rw [ha0]; rfl
    have i1 : a0.eval (.tmp 1) = .int .i64 (i : Int) := by rw [ha0]; rfl
    have i2 : a0.eval (.tmp 2) = .slice (some ⟨sb, so, none⟩) p.length kv := by rw [ha0]; rfl
    have hsz : a0.tmps.size = 77 := by rw [ha0]; rfl
    refine wp_region_inv_late (B := B) 10 [some 62, some 63, some 64, some 65, some 66, some 67, some 61, some 68, some 69, some 10, none, some 11] [Asrt.eq (.agg (cellsB (pairOf x0 y))), Asrt.eq (.int .i64 (i : Int)), Asrt.eq (.int .i64 (q : Int)), Asrt.eq (.slice (some ⟨sb, so, none⟩) p.length kv), Asrt.digs (p.drop 1), Asrt.eq (.tuple #[.agg (cellsB x), .int .i64 0]), Asrt.eq (.tuple #[.agg (cellsB x), .int .i64 0]), Asrt.eq (.agg (cellsB (x))), Asrt.eq (.int .i64 0), Asrt.box] [(8, .int .i64 0)] rfl (by as_aux_lemma => kernel_rfl) (by rw [hsz]; as_aux_lemma => kernel_rfl) (by as_aux_lemma => kernel_rfl) (by as_aux_lemma => kernel_rfl) (by decide) ⟨rfl, trivial⟩ (by omega) ⟨?_, ?_, ?_, ?_, ?_, ?_, ?_, ?_, ?_, ?_, trivial⟩ ?_
    · as_aux_lemma =>
        intro ev w1 hg hin hc hgl hfn hd
        have hB := hg.top
        have g9 : ev (.tmp 9) = .pointer (some ⟨gs, 0, none⟩) := (hin 9 (by kernel_rfl)).trans i9
        clear hin hd
        refine step_on (guard_none rfl) fun K hK => ?_
        refine yg_load_row 25 (.tmp 9) rfl gs g9 25 (cellsB (pairOf x0 y)) (0, 0) _ (hs5.below hg.bl (by omega)) Tryd.underD rfl (Tryd.sizeD_of _ HST.out) ?_
        exact hK _ _ rfl (Grow.refl hB)
    · as_aux_lemma =>
        intro ev w1 hg hin hc hgl hfn hd
        have hB := hg.top
        have g1 : ev (.tmp 1) = .int .i64 (i : Int) := (hin 1 (by kernel_rfl)).trans i1
        clear hin hd
        refine step_on (guard_none rfl) fun K hK => ?_
        unfold YieldsG
        go_simp
        exact hK _ _ rfl (Grow.refl hB)
    · as_aux_lemma =>
        intro ev w1 hg hin hc hgl hfn hd
        have hB := hg.top
        have f63 : (ev (.tmp 63)) = .int .i64 (i : Int) := hd.1 rfl _ rfl
        clear hin hd
        refine step_on (guard_none rfl) fun K hK => ?_
        unfold YieldsG
        go_simp
        exact hK _ _ (by show _ = _; rw [HQI.out, HWQ.out]) (Grow.refl hB)
    · as_aux_lemma =>
        intro ev w1 hg hin hc hgl hfn hd
        have hB := hg.top
        have g2 : ev (.tmp 2) = .slice (some ⟨sb, so, none⟩) p.length kv := (hin 2 (by kernel_rfl)).trans i2
        clear hin hd
        refine step_on (guard_none rfl) fun K hK => ?_
        unfold YieldsG
        go_simp
        exact hK _ _ rfl (Grow.refl hB)
    · as_aux_lemma =>
        intro ev w1 hg hin hc hgl hfn hd
        have hB := hg.top
        have f65 : (ev (.tmp 65)) = .slice (some ⟨sb, so, none⟩) p.length kv := hd.1 rfl _ rfl
        clear hin hd
        refine step_on (guard_none rfl) fun K hK => ?_
        obtain ⟨a9, hr9, hd9⟩ := run_slice_digs (hv5.later (by rw [eB]; exact hg.bl)) H32.out (some (.int .i64 ((1 : Nat) : Int))) none 1 p.length (.inr rfl) (.inl ⟨rfl, rfl⟩) HPL.out (Nat.le_refl _)
        rw [List.take_of_length_le (by rw [List.length_drop]; exact Nat.le_refl _)] at hd9
        unfold YieldsG execOp
        simp only [f65, hc, Option.map, Sem.run_bind]
        erw [hr9]
        exact hK _ _ hd9 (Grow.refl hB)
    · as_aux_lemma =>
        intro ev w1 hg hin hc hgl hfn hd
        have hB := hg.top
        have f62 : (ev (.tmp 62)) = .agg (cellsB (pairOf x0 y)) := hd.1 rfl _ rfl
        have f64 : (ev (.tmp 64)) = .int .i64 (q : Int) := hd.2.1 rfl _ rfl
        have f66 : Digs w1 (ev (.tmp 66)) (p.drop 1) := hd.2.2.1 rfl _ rfl
        clear hin hd
        refine step_on (guard_none rfl) fun K hK => ?_
        unfold YieldsG
        go_simp
        refine (climb_any (pairOf x0 y) (q : Int) (p.drop 1) _ w1 HST.out f66 HD32.out (hK5.below hg.bl (by omega))).mono ?_
        rintro e w2 ⟨rfl, hb⟩
        exact ⟨_, rfl, hK _ _ (by show _ = _; rw [HFX.out, HES.out]; rfl) (Grow.of hB hb)⟩
    · as_aux_lemma =>
        intro ev w1 hg hin hc hgl hfn hd
        have hB := hg.top
        have f67 : (ev (.tmp 67)) = .tuple #[.agg (cellsB x), .int .i64 0] := hd.1 rfl _ rfl
        clear hin hd
        refine step_on (guard_none rfl) fun K hK => ?_
        unfold YieldsG
        go_simp
        exact hK _ _ rfl (Grow.refl hB)
    · as_aux_lemma =>
        intro ev w1 hg hin hc hgl hfn hd
        have hB := hg.top
        have f61 : (ev (.tmp 61)) = .tuple #[.agg (cellsB x), .int .i64 0] := hd.1 rfl _ rfl
        clear hin hd
        refine step_on (guard_none rfl) fun K hK => ?_
        unfold YieldsG
        go_simp
        exact hK _ _ rfl (Grow.refl hB)
    · as_aux_lemma =>
        intro ev w1 hg hin hc hgl hfn hd
        have hB := hg.top
        have f61 : (ev (.tmp 61)) = .tuple #[.agg (cellsB x), .int .i64 0] := hd.1 rfl _ rfl
        clear hin hd
        refine step_on (guard_none rfl) fun K hK => ?_
        unfold YieldsG
        go_simp
        exact hK _ _ rfl (Grow.refl hB)
    · as_aux_lemma =>
        intro ev w1 hg hin hc hgl hfn hd
        have hB := hg.top
        clear hin hd
        refine step_on (guard_none rfl) fun K hK => ?_
        unfold YieldsG
        go_simp
        exact hK _ _ ⟨_, rfl, hB, Row.new _ _ _⟩ (Grow.of hB ((Below.refl _ _).alloc (Nat.le_refl _) _))
    intro v w6 hg hall
    have hf0 : (v 0) = .agg (cellsB (pairOf x0 y)) := hall.1 (by simp)
    have hf1 : (v 1) = .int .i64 (i : Int) := hall.2.1 (by simp)
    have hf2 : (v 2) = .int .i64 (q : Int) := hall.2.2.1 (by simp)
    have hf3 : (v 3) = .slice (some ⟨sb, so, none⟩) p.length kv := hall.2.2.2.1 (by simp)
    have hf4 : Digs w6 (v 4) (p.drop 1) := hall.2.2.2.2.1 (by simp)
    have hf5 : (v 5) = .tuple #[.agg (cellsB x), .int .i64 0] := hall.2.2.2.2.2.1 (by simp)
    have hf6 : (v 6) = .tuple #[.agg (cellsB x), .int .i64 0] := hall.2.2.2.2.2.2.1 (by simp)
    have hf7 : (v 7) = .agg (cellsB (x)) := hall.2.2.2.2.2.2.2.1 (by simp)
    have hf8 : (v 8) = .int .i64 0 := hall.2.2.2.2.2.2.2.2.1 (by simp)
    have hf9 : ∃ g, (v 9) = .pointer (some ⟨g, 0, none⟩) ∧ B ≤ g ∧ Row w6 g 25 (cellsB (List.replicate 32 0)) := hall.2.2.2.2.2.2.2.2.2.1 (by simp)
    clear hall i9 i1 i2 hsz
    rw [ha0]
    clear ha0
    simp only [List.take_succ_cons, List.take_zero, List.drop_succ_cons, List.drop_zero, putAll, Act.put, List.setIfInBounds_toArray, List.set_cons_zero, List.set_cons_succ, Nat.zero_add, Nat.reduceAdd]
    rw [hf0, hf1, hf2, hf3, hf5, hf6, hf7, hf8]
    generalize v 4 = x4 at *
    generalize v 9 = x9 at *
    clear hf0 hf1 hf2 hf3 hf5 hf6 hf7 hf8
    obtain ⟨gt, hgt, hgtB, hgtr⟩ := hf9
    subst hgt
    have hx6 := hx5.below hg.below hx5.lt
    have hB6 := hB5.trans (hg.below.mono hB5.size)
    have hxl5 := hx5.lt
    have hz56 := hB5.size
    clear hg hs5 hx5 hv5
    refine ⟨fun _ => True, ⟨fun o ho w _ => by cases ho; rfl, trivial⟩, ?_⟩
    refine wpListI_cons trivial ?_
    refine wpList_store_row rfl 25 (.tmp 10) (.tmp 68) rfl gt rfl (cellsB x) _ 25 rfl hgtr HCX.out HSX.out (cellsB_one _) ?_
    intro w7 hg7 hr7 hz7
    refine lateQ_intro (wpListI_cons trivial ?_)
    go_wp2
    refine ⟨rfl, wpListI_nil trivial ?_⟩
    go_wp2
    have hx7 := hx6.grown hg7 (fun e => by have := Option.some.inj e; omega)
    have hB7 := hB6.grown hg7 hB6.size (fun k hk => by cases hk; omega)
    have hbl' := hB7
    clear hx6 hgtr hB6 hg7 eB
    rw [← HR12.out]
    clear HR12
    obtain ⟨n1, en1⟩ : ∃ n1, w1.heap.size = n1 := ⟨_, rfl⟩
    rw [en1] at hx7 ⊢
    have hl1 := hx7.lt
    have hl2 := hr7.lt
    obtain ⟨B, eB⟩ : ∃ B, w7.heap.size = B := ⟨_, rfl⟩
    refine wp_gen fun a0 ha0 => ?_
    have i11 : a0.eval (.tmp 11) = .int .i64 0 := by rw [ha0]; rfl
    have i7 : a0.eval (.tmp 7) = .pointer (some ⟨n1, 0, none⟩) := by rw [ha0]; rfl
    have i10 : a0.eval (.tmp 10) = .pointer (some ⟨gt, 0, none⟩) := by rw [ha0]; rfl
    have hsz : a0.tmps.size = 77 := by rw [ha0]; rfl
    have hdf0 : a0.defers = [] := by rw [ha0]
    clear ha0
    refine wp_region_inv_text (B := B) [some 70, some 71, some 72, some 73, some 74, some 75, some 76, some 6] [Asrt.eq (.int .i64 0), Asrt.eq (.bool true), Asrt.eq (.bool true), Asrt.eq (.agg (cellsB (x))), Asrt.eq (.agg (cellsB (x))), Asrt.eq (.bool true), Asrt.eq (.bool true), Asrt.eq (.bool true)] rfl (by rw [hsz]; as_aux_lemma => kernel_rfl) (by as_aux_lemma => kernel_rfl) (by omega) ⟨?_, ?_, ?_, ?_, ?_, ?_, ?_, ?_, trivial⟩ ?_
    · as_aux_lemma =>
        intro ev w1 hg hin hc hgl hfn hd
        have hB := hg.top
        have g11 : ev (.tmp 11) = .int .i64 0 := (hin 11 (by kernel_rfl)).trans i11
        clear hin hd
        refine step_on (guard_none rfl) fun K hK => ?_
        unfold YieldsG
        go_simp
        exact hK _ _ rfl (Grow.refl hB)
    · as_aux_lemma =>
        intro ev w1 hg hin hc hgl hfn hd
        have hB := hg.top
        have f70 : (ev (.tmp 70)) = .int .i64 0 := hd.1 rfl _ rfl
        clear hin hd
        refine step_on (guard_none rfl) fun K hK => ?_
        unfold YieldsG
        go_simp
        exact hK _ _ rfl (Grow.refl hB)
    · as_aux_lemma =>
        intro ev w1 hg hin hc hgl hfn hd
        have hB := hg.top
        have f71 : (ev (.tmp 71)) = .bool true := hd.1 rfl _ rfl
        clear hin hd
        refine step_on (guard_none rfl) fun K hK => ?_
        unfold YieldsG
        go_simp
        exact hK _ _ rfl (Grow.refl hB)
    · as_aux_lemma =>
        intro ev w1 hg hin hc hgl hfn hd
        have hB := hg.top
        have f72 : (ev (.tmp 72)) = .bool true := hd.1 rfl _ rfl
        have g7 : ev (.tmp 7) = .pointer (some ⟨n1, 0, none⟩) := (hin 7 (by kernel_rfl)).trans i7
        clear hin hd
        refine step_on (guard_some rfl rfl f72) fun K hK => ?_
        refine yg_load_row 25 (.tmp 7) rfl n1 g7 25 (cellsB (x)) (0, 0) _ (hx7.below hg.bl (by omega)) Tryd.underD rfl (Tryd.sizeD_of _ HX.out) ?_
        exact hK _ _ rfl (Grow.refl hB)
    · as_aux_lemma =>
        intro ev w1 hg hin hc hgl hfn hd
        have hB := hg.top
        have f72 : (ev (.tmp 72)) = .bool true := hd.1 rfl _ rfl
        have g10 : ev (.tmp 10) = .pointer (some ⟨gt, 0, none⟩) := (hin 10 (by kernel_rfl)).trans i10
        clear hin hd
        refine step_on (guard_some rfl rfl f72) fun K hK => ?_
        refine yg_load_row 25 (.tmp 10) rfl gt g10 25 (cellsB (x)) (0, 0) _ (hr7.below hg.bl (by omega)) Tryd.underD rfl (Tryd.sizeD_of _ HX.out) ?_
        exact hK _ _ rfl (Grow.refl hB)
    · as_aux_lemma =>
        intro ev w1 hg hin hc hgl hfn hd
        have hB := hg.top
        have f73 : (ev (.tmp 73)) = .agg (cellsB (x)) := hd.1 rfl _ rfl
        have f74 : (ev (.tmp 74)) = .agg (cellsB (x)) := hd.2.1 rfl _ rfl
        have f72 : (ev (.tmp 72)) = .bool true := hd.2.2.1 rfl _ rfl
        clear hin hd
        refine step_on (guard_some rfl rfl f72) fun K hK => ?_
        have hq := eqlT (x) (x) HX.out rfl
        unfold YieldsG
        go_simp
        exact hK _ _ rfl (Grow.refl hB)
    · as_aux_lemma =>
        intro ev w1 hg hin hc hgl hfn hd
        have hB := hg.top
        have f72 : (ev (.tmp 72)) = .bool true := hd.1 rfl _ rfl
        have f75 : (ev (.tmp 75)) = .bool true := hd.2.1 rfl _ rfl
        clear hin hd
        refine step_on (guard_none rfl) fun K hK => ?_
        unfold YieldsG
        go_simp
        exact hK _ _ rfl (Grow.refl hB)
    · as_aux_lemma =>
        intro ev w1 hg hin hc hgl hfn hd
        have hB := hg.top
        have f76 : (ev (.tmp 76)) = .bool true := hd.1 rfl _ rfl
        clear hin hd
        refine step_on (guard_none rfl) fun K hK => ?_
        unfold YieldsG
        go_simp
        exact hK _ _ rfl (Grow.refl hB)
    · intro v w9 hg hall
      have hr : v 7 = .bool true := hall.2.2.2.2.2.2.2.1 (by simp)
      generalize hput : putAll _ v 0 _ = af
      have h0 : af.tmps.getD 6 undef = v 7 := by rw [← hput]; exact putAll_at (by rw [hsz]; as_aux_lemma => kernel_rfl) rfl rfl
      have hdf : af.defers = [] := by rw [← hput, putAll_defers]; exact hdf0
      clear hput hall
      go_wp2
      refine bodyPost_ret (results_tmp rfl _ _ _) hdf ⟨?_, hbl'.trans (hg.bl.mono (by rw [← eB]; exact hbl'.size))⟩
      rw [h0, hr]
theorem climbSteps_any (x0 : Dg) (idx : Int) (v : Value) (p : List Dg) (w : World) (hx0 : x0.length = 32) (_h0 : -9223372036854775808 ≤ idx) (_h1 : idx ≤ 9223372036854775807) (hv : Digs w v p) (h32 : all32 p) (hK : KFact w) :
    Calls Tryd.prog 6 #[.agg (cellsB x0), .int .i64 idx, v] w fun e w' => e = .returned (.bool true) ∧ Below w.heap.size w w' := by
  by_cases hc : 40 < p.length
  · exact ks_big x0 idx v p w hx0 hv h32 hK hc
  · cases hok : okClimb idx p.length with
    | false => exact ks_bad x0 idx v p w hx0 hv h32 hK hc hok
    | true =>
      by_cases hp : p = []
      · exact ks_none x0 idx v p w hx0 hv h32 hK hp hok
      · exact ks_ok x0 idx v p w hx0 hv h32 hK hc _h1 (List.length_pos_iff.2 hp) hok
end Go.Proofs.YteogcilnpkaplaaDoor

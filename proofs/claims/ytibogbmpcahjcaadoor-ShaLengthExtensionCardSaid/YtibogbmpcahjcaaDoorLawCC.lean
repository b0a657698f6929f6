/- crossbarlaw03.ShaChainsCompose returns true. Conditions: the digest has 32 bytes, the constants lie in their variable. -/
import Derived.Test.YtibogbmpcahjcaaDoorSane03
namespace Go.Proofs.YtibogbmpcahjcaaDoor
open Go.RowKit
theorem wp_gen {P : Program} {c : Code} {Q : Exit → Act → World → Prop} {a : Act} {w : World} (h : ∀ a0, a0 = a → c.wp P Q a0 w) : c.wp P Q a w := h a rfl
theorem chainOf_add (x : List UInt8) (m n : Nat) : chainOf (chainOf x m) n = chainOf x (m + n) := by
  induction n with
  | zero => rfl
  | succ n ih => show taggedOf _ (chainOf (chainOf x m) n) = taggedOf _ (chainOf x (m + n)); rw [ih]
set_option maxRecDepth 100000 in
set_option maxHeartbeats 2000000 in
theorem cc_neg1 (x : List UInt8) (m n : Int) (w : World) (hx : x.length = 32) (hm0 : -9223372036854775808 ≤ m) (hm1 : m ≤ 9223372036854775807) (hn0 : -9223372036854775808 ≤ n) (hn1 : n ≤ 9223372036854775807) (hK : KFact w) (hc : m < 0) :
    Calls Tryd.prog 7 #[.agg (cellsB x), .int .i64 m, .int .i64 n] w fun e w' => e = .returned (.bool true) ∧ Below w.heap.size w w' := by
  have HX := Lib.hid hx
  clear hx
  have hltw := hK.lt
  have hba : Below w.heap.size w (w.alloc (.cells (cellsB x) 25)) := (Below.refl _ _).alloc (Nat.le_refl _) _
  have hra : Row (w.alloc (.cells (cellsB x) 25)) w.heap.size 25 (cellsB x) := Row.new w _ _
  go_enter Tryd.func7, Tryd.ntmps7
  go_wp2_with fail
  refine (sane_any _ (hK.below hba hltw)).mono ?_
  rintro e w0 ⟨rfl, hb0⟩
  have hbl' : Below w.heap.size w w0 := hba.trans (hb0.mono hba.size)
  have hR : Row w0 w.heap.size 25 (cellsB x) := hra.below hb0 hra.lt
  have hK0 : KFact w0 := hK.below hbl' hltw
  have hltk : 1 < w0.heap.size := hK0.lt
  have hlthR := hR.lt
  clear hba hra hb0 hltw hK
  go_wp2
  obtain ⟨n1, e1⟩ : ∃ n1, w.heap.size = n1 := ⟨_, rfl⟩
  rw [e1] at hR hlthR
  have hblw := hbl'
  rw [e1]
  obtain ⟨B, eB⟩ : ∃ B, w0.heap.size = B := ⟨_, rfl⟩
  rw [eB] at hltk hlthR
  refine wp_gen fun a0 ha0 => ?_
  have i1 : a0.eval (.tmp 1) = .int .i64 m := by rw [ha0]; rfl
  have i2 : a0.eval (.tmp 2) = .int .i64 n := by rw [ha0]; rfl
  have i3 : a0.eval (.tmp 3) = .pointer (some ⟨n1, 0, none⟩) := by rw [ha0]; rfl
  have hsz : a0.tmps.size = 39 := by rw [ha0]; rfl
  have hdf0 : a0.defers = [] := by rw [ha0]
  clear ha0
  refine wp_region_inv (B := B) [some 15, some 16, some 17, some 18, some 19, some 20, some 21, some 6] [Asrt.eq (.agg (cellsB (x))), Asrt.eq (.int .i64 (m)), Asrt.eq (.int .i64 (n)), Asrt.eq (.int .i64 (if n < m then n else m)), Asrt.eq (.agg (cellsB (chainOf x 0))), Asrt.eq (.agg (cellsB (x))), Asrt.eq (.bool true), Asrt.eq (.bool true)] rfl (by as_aux_lemma => kernel_rfl) (by rw [hsz]; as_aux_lemma => kernel_rfl) (by as_aux_lemma => kernel_rfl) (by omega) ⟨?_, ?_, ?_, ?_, ?_, ?_, ?_, ?_, trivial⟩ ?_
  · as_aux_lemma =>
      intro ev w1 hg hin hc hgl hfn hd
      have hB := hg.top
      have g3 : ev (.tmp 3) = .pointer (some ⟨n1, 0, none⟩) := (hin 3 (by kernel_rfl)).trans i3
      clear hin hd
      refine step_on (guard_none rfl) fun K hK => ?_
      refine yg_load_row 25 (.tmp 3) rfl n1 g3 25 (cellsB x) (0, 0) _ (hR.below hg.bl hlthR) Tryd.underD rfl (Tryd.sizeD_of _ HX.out) ?_
      exact hK _ _ rfl (Grow.refl hB)
  · as_aux_lemma =>
      intro ev w1 hg hin hc hgl hfn hd
      have hB := hg.top
      have g1 : ev (.tmp 1) = .int .i64 m := (hin 1 (by kernel_rfl)).trans i1
      clear hin hd
      refine step_on (guard_none rfl) fun K hK => ?_
      unfold YieldsG
      go_simp
      exact hK _ _ rfl (Grow.refl hB)
  · as_aux_lemma =>
      intro ev w1 hg hin hc hgl hfn hd
      have hB := hg.top
      have g2 : ev (.tmp 2) = .int .i64 n := (hin 2 (by kernel_rfl)).trans i2
      clear hin hd
      refine step_on (guard_none rfl) fun K hK => ?_
      unfold YieldsG
      go_simp
      exact hK _ _ rfl (Grow.refl hB)
  · as_aux_lemma =>
      intro ev w1 hg hin hc hgl hfn hd
      have hB := hg.top
      have f16 : (ev (.tmp 16)) = .int .i64 (m) := hd.1 rfl _ rfl
      have f17 : (ev (.tmp 17)) = .int .i64 (n) := hd.2.1 rfl _ rfl
      clear hin hd
      refine step_on (guard_none rfl) fun K hK => ?_
      unfold YieldsG
      go_simp
      exact hK _ _ rfl (Grow.refl hB)
  · as_aux_lemma =>
      intro ev w1 hg hin hc hgl hfn hd
      have hB := hg.top
      have f15 : (ev (.tmp 15)) = .agg (cellsB (x)) := hd.1 rfl _ rfl
      have f18 : (ev (.tmp 18)) = .int .i64 (if n < m then n else m) := hd.2.1 rfl _ rfl
      clear hin hd
      refine step_on (guard_none rfl) fun K hK => ?_
      unfold YieldsG
      go_simp
      refine (chain_any x (if n < m then n else m) w1 HX.out (by split <;> omega) (by split <;> omega) (hK0.below hg.bl hltk)).mono ?_
      rintro e w2 ⟨rfl, hb⟩
      have hz : (if n < m then n else m).toNat = 0 := by split <;> omega
      rw [hz]
      exact ⟨_, rfl, hK _ _ rfl (Grow.of hB hb)⟩
  · as_aux_lemma =>
      intro ev w1 hg hin hc hgl hfn hd
      have hB := hg.top
      have g3 : ev (.tmp 3) = .pointer (some ⟨n1, 0, none⟩) := (hin 3 (by kernel_rfl)).trans i3
      clear hin hd
      refine step_on (guard_none rfl) fun K hK => ?_
      refine yg_load_row 25 (.tmp 3) rfl n1 g3 25 (cellsB x) (0, 0) _ (hR.below hg.bl hlthR) Tryd.underD rfl (Tryd.sizeD_of _ HX.out) ?_
      exact hK _ _ rfl (Grow.refl hB)
  · as_aux_lemma =>
      intro ev w1 hg hin hc hgl hfn hd
      have hB := hg.top
      have f19 : (ev (.tmp 19)) = .agg (cellsB (chainOf x 0)) := hd.1 rfl _ rfl
      have f20 : (ev (.tmp 20)) = .agg (cellsB (x)) := hd.2.1 rfl _ rfl
      clear hin hd
      refine step_on (guard_none rfl) fun K hK => ?_
      have hq := eqlT (chainOf x 0) (x) HX.out rfl
      unfold YieldsG
      go_simp
      exact hK _ _ rfl (Grow.refl hB)
  · as_aux_lemma =>
      intro ev w1 hg hin hc hgl hfn hd
      have hB := hg.top
      have f21 : (ev (.tmp 21)) = .bool true := hd.1 rfl _ rfl
      clear hin hd
      refine step_on (guard_none rfl) fun K hK => ?_
      unfold YieldsG
      go_simp
      exact hK _ _ rfl (Grow.refl hB)
  · intro v w2 hg hall
    have hr : v 7 = .bool true := hall.2.2.2.2.2.2.2.1 (by simp)
    generalize hput : putAll _ v 0 _ = af
    have h0 : af.tmps.getD 6 undef = v 7 := by rw [← hput]; exact putAll_at (by rw [hsz]; as_aux_lemma => kernel_rfl) rfl rfl
    have hdf : af.defers = [] := by rw [← hput, putAll_defers]; exact hdf0
    clear hput hall
    go_wp2
    refine bodyPost_ret (results_tmp rfl _ _ _) hdf ⟨?_, hbl'.trans (hg.bl.mono (by rw [← eB]; exact hbl'.size))⟩
    rw [h0, hr]
set_option maxRecDepth 100000 in
set_option maxHeartbeats 2000000 in
theorem cc_neg2 (x : List UInt8) (m n : Int) (w : World) (hx : x.length = 32) (hm0 : -9223372036854775808 ≤ m) (hm1 : m ≤ 9223372036854775807) (hn0 : -9223372036854775808 ≤ n) (hn1 : n ≤ 9223372036854775807) (hK : KFact w) (hc0 : ¬ m < 0) (hc : n < 0) :
    Calls Tryd.prog 7 #[.agg (cellsB x), .int .i64 m, .int .i64 n] w fun e w' => e = .returned (.bool true) ∧ Below w.heap.size w w' := by
  have HX := Lib.hid hx
  clear hx
  have hltw := hK.lt
  have hba : Below w.heap.size w (w.alloc (.cells (cellsB x) 25)) := (Below.refl _ _).alloc (Nat.le_refl _) _
  have hra : Row (w.alloc (.cells (cellsB x) 25)) w.heap.size 25 (cellsB x) := Row.new w _ _
  go_enter Tryd.func7, Tryd.ntmps7
  go_wp2_with fail
  refine (sane_any _ (hK.below hba hltw)).mono ?_
  rintro e w0 ⟨rfl, hb0⟩
  have hbl' : Below w.heap.size w w0 := hba.trans (hb0.mono hba.size)
  have hR : Row w0 w.heap.size 25 (cellsB x) := hra.below hb0 hra.lt
  have hK0 : KFact w0 := hK.below hbl' hltw
  have hltk : 1 < w0.heap.size := hK0.lt
  have hlthR := hR.lt
  clear hba hra hb0 hltw hK
  go_wp2
  obtain ⟨n1, e1⟩ : ∃ n1, w.heap.size = n1 := ⟨_, rfl⟩
  rw [e1] at hR hlthR
  have hblw := hbl'
  rw [e1]
  obtain ⟨B, eB⟩ : ∃ B, w0.heap.size = B := ⟨_, rfl⟩
  rw [eB] at hltk hlthR
  refine wp_gen fun a0 ha0 => ?_
  have i1 : a0.eval (.tmp 1) = .int .i64 m := by rw [ha0]; rfl
  have i2 : a0.eval (.tmp 2) = .int .i64 n := by rw [ha0]; rfl
  have i3 : a0.eval (.tmp 3) = .pointer (some ⟨n1, 0, none⟩) := by rw [ha0]; rfl
  have hsz : a0.tmps.size = 39 := by rw [ha0]; rfl
  have hdf0 : a0.defers = [] := by rw [ha0]
  clear ha0
  refine wp_region_inv (B := B) [some 15, some 16, some 17, some 18, some 19, some 20, some 21, some 6] [Asrt.eq (.agg (cellsB (x))), Asrt.eq (.int .i64 (m)), Asrt.eq (.int .i64 (n)), Asrt.eq (.int .i64 (if n < m then n else m)), Asrt.eq (.agg (cellsB (chainOf x 0))), Asrt.eq (.agg (cellsB (x))), Asrt.eq (.bool true), Asrt.eq (.bool true)] rfl (by as_aux_lemma => kernel_rfl) (by rw [hsz]; as_aux_lemma => kernel_rfl) (by as_aux_lemma => kernel_rfl) (by omega) ⟨?_, ?_, ?_, ?_, ?_, ?_, ?_, ?_, trivial⟩ ?_
  · as_aux_lemma =>
      intro ev w1 hg hin hc hgl hfn hd
      have hB := hg.top
      have g3 : ev (.tmp 3) = .pointer (some ⟨n1, 0, none⟩) := (hin 3 (by kernel_rfl)).trans i3
      clear hin hd
      refine step_on (guard_none rfl) fun K hK => ?_
      refine yg_load_row 25 (.tmp 3) rfl n1 g3 25 (cellsB x) (0, 0) _ (hR.below hg.bl hlthR) Tryd.underD rfl (Tryd.sizeD_of _ HX.out) ?_
      exact hK _ _ rfl (Grow.refl hB)
  · as_aux_lemma =>
      intro ev w1 hg hin hc hgl hfn hd
      have hB := hg.top
      have g1 : ev (.tmp 1) = .int .i64 m := (hin 1 (by kernel_rfl)).trans i1
      clear hin hd
      refine step_on (guard_none rfl) fun K hK => ?_
      unfold YieldsG
      go_simp
      exact hK _ _ rfl (Grow.refl hB)
  · as_aux_lemma =>
      intro ev w1 hg hin hc hgl hfn hd
      have hB := hg.top
      have g2 : ev (.tmp 2) = .int .i64 n := (hin 2 (by kernel_rfl)).trans i2
      clear hin hd
      refine step_on (guard_none rfl) fun K hK => ?_
      unfold YieldsG
      go_simp
      exact hK _ _ rfl (Grow.refl hB)
  · as_aux_lemma =>
      intro ev w1 hg hin hc hgl hfn hd
      have hB := hg.top
      have f16 : (ev (.tmp 16)) = .int .i64 (m) := hd.1 rfl _ rfl
      have f17 : (ev (.tmp 17)) = .int .i64 (n) := hd.2.1 rfl _ rfl
      clear hin hd
      refine step_on (guard_none rfl) fun K hK => ?_
      unfold YieldsG
      go_simp
      exact hK _ _ rfl (Grow.refl hB)
  · as_aux_lemma =>
      intro ev w1 hg hin hc hgl hfn hd
      have hB := hg.top
      have f15 : (ev (.tmp 15)) = .agg (cellsB (x)) := hd.1 rfl _ rfl
      have f18 : (ev (.tmp 18)) = .int .i64 (if n < m then n else m) := hd.2.1 rfl _ rfl
      clear hin hd
      refine step_on (guard_none rfl) fun K hK => ?_
      unfold YieldsG
      go_simp
      refine (chain_any x (if n < m then n else m) w1 HX.out (by split <;> omega) (by split <;> omega) (hK0.below hg.bl hltk)).mono ?_
      rintro e w2 ⟨rfl, hb⟩
      have hz : (if n < m then n else m).toNat = 0 := by split <;> omega
      rw [hz]
      exact ⟨_, rfl, hK _ _ rfl (Grow.of hB hb)⟩
  · as_aux_lemma =>
      intro ev w1 hg hin hc hgl hfn hd
      have hB := hg.top
      have g3 : ev (.tmp 3) = .pointer (some ⟨n1, 0, none⟩) := (hin 3 (by kernel_rfl)).trans i3
      clear hin hd
      refine step_on (guard_none rfl) fun K hK => ?_
      refine yg_load_row 25 (.tmp 3) rfl n1 g3 25 (cellsB x) (0, 0) _ (hR.below hg.bl hlthR) Tryd.underD rfl (Tryd.sizeD_of _ HX.out) ?_
      exact hK _ _ rfl (Grow.refl hB)
  · as_aux_lemma =>
      intro ev w1 hg hin hc hgl hfn hd
      have hB := hg.top
      have f19 : (ev (.tmp 19)) = .agg (cellsB (chainOf x 0)) := hd.1 rfl _ rfl
      have f20 : (ev (.tmp 20)) = .agg (cellsB (x)) := hd.2.1 rfl _ rfl
      clear hin hd
      refine step_on (guard_none rfl) fun K hK => ?_
      have hq := eqlT (chainOf x 0) (x) HX.out rfl
      unfold YieldsG
      go_simp
      exact hK _ _ rfl (Grow.refl hB)
  · as_aux_lemma =>
      intro ev w1 hg hin hc hgl hfn hd
      have hB := hg.top
      have f21 : (ev (.tmp 21)) = .bool true := hd.1 rfl _ rfl
      clear hin hd
      refine step_on (guard_none rfl) fun K hK => ?_
      unfold YieldsG
      go_simp
      exact hK _ _ rfl (Grow.refl hB)
  · intro v w2 hg hall
    have hr : v 7 = .bool true := hall.2.2.2.2.2.2.2.1 (by simp)
    generalize hput : putAll _ v 0 _ = af
    have h0 : af.tmps.getD 6 undef = v 7 := by rw [← hput]; exact putAll_at (by rw [hsz]; as_aux_lemma => kernel_rfl) rfl rfl
    have hdf : af.defers = [] := by rw [← hput, putAll_defers]; exact hdf0
    clear hput hall
    go_wp2
    refine bodyPost_ret (results_tmp rfl _ _ _) hdf ⟨?_, hbl'.trans (hg.bl.mono (by rw [← eB]; exact hbl'.size))⟩
    rw [h0, hr]
set_option maxRecDepth 100000 in
set_option maxHeartbeats 2000000 in
theorem cc_big1 (x : List UInt8) (m n : Int) (w : World) (hx : x.length = 32) (hm0 : -9223372036854775808 ≤ m) (hm1 : m ≤ 9223372036854775807) (hn0 : -9223372036854775808 ≤ n) (hn1 : n ≤ 9223372036854775807) (hK : KFact w) (hc0 : ¬ m < 0) (_hc1 : ¬ n < 0) (hc : m > 40) :
    Calls Tryd.prog 7 #[.agg (cellsB x), .int .i64 m, .int .i64 n] w fun e w' => e = .returned (.bool true) ∧ Below w.heap.size w w' := by
  have HX := Lib.hid hx
  clear hx
  have hltw := hK.lt
  have hba : Below w.heap.size w (w.alloc (.cells (cellsB x) 25)) := (Below.refl _ _).alloc (Nat.le_refl _) _
  have hra : Row (w.alloc (.cells (cellsB x) 25)) w.heap.size 25 (cellsB x) := Row.new w _ _
  go_enter Tryd.func7, Tryd.ntmps7
  go_wp2_with fail
  refine (sane_any _ (hK.below hba hltw)).mono ?_
  rintro e w0 ⟨rfl, hb0⟩
  have hbl' : Below w.heap.size w w0 := hba.trans (hb0.mono hba.size)
  have hR : Row w0 w.heap.size 25 (cellsB x) := hra.below hb0 hra.lt
  have hK0 : KFact w0 := hK.below hbl' hltw
  have hltk : 1 < w0.heap.size := hK0.lt
  have hlthR := hR.lt
  clear hba hra hb0 hltw hK
  go_wp2
  go_ret
  exact ⟨rfl, hbl'⟩
set_option maxRecDepth 100000 in
set_option maxHeartbeats 2000000 in
theorem cc_big2 (x : List UInt8) (m n : Int) (w : World) (hx : x.length = 32) (hm0 : -9223372036854775808 ≤ m) (hm1 : m ≤ 9223372036854775807) (hn0 : -9223372036854775808 ≤ n) (hn1 : n ≤ 9223372036854775807) (hK : KFact w) (hc0 : ¬ m < 0) (hc1 : ¬ n < 0) (hc2 : ¬ m > 40) (hc : n > 40) :
    Calls Tryd.prog 7 #[.agg (cellsB x), .int .i64 m, .int .i64 n] w fun e w' => e = .returned (.bool true) ∧ Below w.heap.size w w' := by
  have HX := Lib.hid hx
  clear hx
  have hltw := hK.lt
  have hba : Below w.heap.size w (w.alloc (.cells (cellsB x) 25)) := (Below.refl _ _).alloc (Nat.le_refl _) _
  have hra : Row (w.alloc (.cells (cellsB x) 25)) w.heap.size 25 (cellsB x) := Row.new w _ _
  go_enter Tryd.func7, Tryd.ntmps7
  go_wp2_with fail
  refine (sane_any _ (hK.below hba hltw)).mono ?_
  rintro e w0 ⟨rfl, hb0⟩
  have hbl' : Below w.heap.size w w0 := hba.trans (hb0.mono hba.size)
  have hR : Row w0 w.heap.size 25 (cellsB x) := hra.below hb0 hra.lt
  have hK0 : KFact w0 := hK.below hbl' hltw
  have hltk : 1 < w0.heap.size := hK0.lt
  have hlthR := hR.lt
  clear hba hra hb0 hltw hK
  go_wp2
  go_ret
  exact ⟨rfl, hbl'⟩
set_option maxRecDepth 100000 in
set_option maxHeartbeats 2000000 in
theorem cc_main (x : List UInt8) (m n : Int) (w : World) (hx : x.length = 32) (hm0 : -9223372036854775808 ≤ m) (hm1 : m ≤ 9223372036854775807) (hn0 : -9223372036854775808 ≤ n) (hn1 : n ≤ 9223372036854775807) (hK : KFact w) (hc0 : ¬ m < 0) (hc1 : ¬ n < 0) (hc2 : ¬ m > 40) (hc3 : ¬ n > 40) :
    Calls Tryd.prog 7 #[.agg (cellsB x), .int .i64 m, .int .i64 n] w fun e w' => e = .returned (.bool true) ∧ Below w.heap.size w w' := by
  have HX := Lib.hid hx
  clear hx
  have hltw := hK.lt
  have hba : Below w.heap.size w (w.alloc (.cells (cellsB x) 25)) := (Below.refl _ _).alloc (Nat.le_refl _) _
  have hra : Row (w.alloc (.cells (cellsB x) 25)) w.heap.size 25 (cellsB x) := Row.new w _ _
  go_enter Tryd.func7, Tryd.ntmps7
  go_wp2_with fail
  refine (sane_any _ (hK.below hba hltw)).mono ?_
  rintro e w0 ⟨rfl, hb0⟩
  have hbl' : Below w.heap.size w w0 := hba.trans (hb0.mono hba.size)
  have hR : Row w0 w.heap.size 25 (cellsB x) := hra.below hb0 hra.lt
  have hK0 : KFact w0 := hK.below hbl' hltw
  have hltk : 1 < w0.heap.size := hK0.lt
  have hlthR := hR.lt
  clear hba hra hb0 hltw hK
  go_wp2
  obtain ⟨n1, e1⟩ : ∃ n1, w.heap.size = n1 := ⟨_, rfl⟩
  rw [e1] at hR hlthR
  have hblw := hbl'
  rw [e1]
  obtain ⟨B, eB⟩ : ∃ B, w0.heap.size = B := ⟨_, rfl⟩
  rw [eB] at hltk hlthR
  refine wp_gen fun a0 ha0 => ?_
  have i1 : a0.eval (.tmp 1) = .int .i64 m := by rw [ha0]; rfl
  have i2 : a0.eval (.tmp 2) = .int .i64 n := by rw [ha0]; rfl
  have i3 : a0.eval (.tmp 3) = .pointer (some ⟨n1, 0, none⟩) := by rw [ha0]; rfl
  have hsz : a0.tmps.size = 39 := by rw [ha0]; rfl
  have hdf0 : a0.defers = [] := by rw [ha0]
  clear ha0
  refine wp_region_inv (B := B) [some 28, some 29, some 30, some 31, some 32, some 33, some 34, some 35, some 36, some 37, some 38, some 6] [Asrt.eq (.agg (cellsB (x))), Asrt.eq (.int .i64 (m)), Asrt.eq (.agg (cellsB (chainOf x m.toNat))), Asrt.eq (.int .i64 (n)), Asrt.eq (.agg (cellsB (chainOf (chainOf x m.toNat) n.toNat))), Asrt.eq (.agg (cellsB (x))), Asrt.eq (.int .i64 (m)), Asrt.eq (.int .i64 (n)), Asrt.eq (.int .i64 (m + n)), Asrt.eq (.agg (cellsB (chainOf x (m + n).toNat))), Asrt.eq (.bool true), Asrt.eq (.bool true)] rfl (by as_aux_lemma => kernel_rfl) (by rw [hsz]; as_aux_lemma => kernel_rfl) (by as_aux_lemma => kernel_rfl) (by omega) ⟨?_, ?_, ?_, ?_, ?_, ?_, ?_, ?_, ?_, ?_, ?_, ?_, trivial⟩ ?_
  · as_aux_lemma =>
      intro ev w1 hg hin hc hgl hfn hd
      have hB := hg.top
      have g3 : ev (.tmp 3) = .pointer (some ⟨n1, 0, none⟩) := (hin 3 (by kernel_rfl)).trans i3
      clear hin hd
      refine step_on (guard_none rfl) fun K hK => ?_
      refine yg_load_row 25 (.tmp 3) rfl n1 g3 25 (cellsB x) (0, 0) _ (hR.below hg.bl hlthR) Tryd.underD rfl (Tryd.sizeD_of _ HX.out) ?_
      exact hK _ _ rfl (Grow.refl hB)
  · as_aux_lemma =>
      intro ev w1 hg hin hc hgl hfn hd
      have hB := hg.top
      have g1 : ev (.tmp 1) = .int .i64 m := (hin 1 (by kernel_rfl)).trans i1
      clear hin hd
      refine step_on (guard_none rfl) fun K hK => ?_
      unfold YieldsG
      go_simp
      exact hK _ _ rfl (Grow.refl hB)
  · as_aux_lemma =>
      intro ev w1 hg hin hc hgl hfn hd
      have hB := hg.top
      have f28 : (ev (.tmp 28)) = .agg (cellsB (x)) := hd.1 rfl _ rfl
      have f29 : (ev (.tmp 29)) = .int .i64 (m) := hd.2.1 rfl _ rfl
      clear hin hd
      refine step_on (guard_none rfl) fun K hK => ?_
      unfold YieldsG
      go_simp
      refine (chain_any x m w1 HX.out (by omega) (by omega) (hK0.below hg.bl hltk)).mono ?_
      rintro e w2 ⟨rfl, hb⟩
      exact ⟨_, rfl, hK _ _ rfl (Grow.of hB hb)⟩
  · as_aux_lemma =>
      intro ev w1 hg hin hc hgl hfn hd
      have hB := hg.top
      have g2 : ev (.tmp 2) = .int .i64 n := (hin 2 (by kernel_rfl)).trans i2
      clear hin hd
      refine step_on (guard_none rfl) fun K hK => ?_
      unfold YieldsG
      go_simp
      exact hK _ _ rfl (Grow.refl hB)
  · as_aux_lemma =>
      intro ev w1 hg hin hc hgl hfn hd
      have hB := hg.top
      have f30 : (ev (.tmp 30)) = .agg (cellsB (chainOf x m.toNat)) := hd.1 rfl _ rfl
      have f31 : (ev (.tmp 31)) = .int .i64 (n) := hd.2.1 rfl _ rfl
      clear hin hd
      refine step_on (guard_none rfl) fun K hK => ?_
      unfold YieldsG
      go_simp
      refine (chain_any (chainOf x m.toNat) n w1 (chainOf_len x HX.out _) (by omega) (by omega) (hK0.below hg.bl hltk)).mono ?_
      rintro e w2 ⟨rfl, hb⟩
      exact ⟨_, rfl, hK _ _ rfl (Grow.of hB hb)⟩
  · as_aux_lemma =>
      intro ev w1 hg hin hc hgl hfn hd
      have hB := hg.top
      have g3 : ev (.tmp 3) = .pointer (some ⟨n1, 0, none⟩) := (hin 3 (by kernel_rfl)).trans i3
      clear hin hd
      refine step_on (guard_none rfl) fun K hK => ?_
      refine yg_load_row 25 (.tmp 3) rfl n1 g3 25 (cellsB x) (0, 0) _ (hR.below hg.bl hlthR) Tryd.underD rfl (Tryd.sizeD_of _ HX.out) ?_
      exact hK _ _ rfl (Grow.refl hB)
  · as_aux_lemma =>
      intro ev w1 hg hin hc hgl hfn hd
      have hB := hg.top
      have g1 : ev (.tmp 1) = .int .i64 m := (hin 1 (by kernel_rfl)).trans i1
      clear hin hd
      refine step_on (guard_none rfl) fun K hK => ?_
      unfold YieldsG
      go_simp
      exact hK _ _ rfl (Grow.refl hB)
  · as_aux_lemma =>
      intro ev w1 hg hin hc hgl hfn hd
      have hB := hg.top
      have g2 : ev (.tmp 2) = .int .i64 n := (hin 2 (by kernel_rfl)).trans i2
      clear hin hd
      refine step_on (guard_none rfl) fun K hK => ?_
      unfold YieldsG
      go_simp
      exact hK _ _ rfl (Grow.refl hB)
  · as_aux_lemma =>
      intro ev w1 hg hin hc hgl hfn hd
      have hB := hg.top
      have f34 : (ev (.tmp 34)) = .int .i64 (m) := hd.1 rfl _ rfl
      have f35 : (ev (.tmp 35)) = .int .i64 (n) := hd.2.1 rfl _ rfl
      clear hin hd
      refine step_on (guard_none rfl) fun K hK => ?_
      have hw : IntKind.i64.wrap (m + n) = m + n := by rw [IntKind.wrap_i64]; omega
      unfold YieldsG
      go_simp
      refine hK _ _ ?_ (Grow.refl hB)
      first | rfl | exact congrArg (Value.int .i64) hw | (refine congrArg (Value.int .i64) ?_; omega)
  · as_aux_lemma =>
      intro ev w1 hg hin hc hgl hfn hd
      have hB := hg.top
      have f33 : (ev (.tmp 33)) = .agg (cellsB (x)) := hd.1 rfl _ rfl
      have f36 : (ev (.tmp 36)) = .int .i64 (m + n) := hd.2.1 rfl _ rfl
      clear hin hd
      refine step_on (guard_none rfl) fun K hK => ?_
      unfold YieldsG
      go_simp
      refine (chain_any x (m + n) w1 HX.out (by omega) (by omega) (hK0.below hg.bl hltk)).mono ?_
      rintro e w2 ⟨rfl, hb⟩
      exact ⟨_, rfl, hK _ _ rfl (Grow.of hB hb)⟩
  · as_aux_lemma =>
      intro ev w1 hg hin hc hgl hfn hd
      have hB := hg.top
      have f32 : (ev (.tmp 32)) = .agg (cellsB (chainOf (chainOf x m.toNat) n.toNat)) := hd.1 rfl _ rfl
      have f37 : (ev (.tmp 37)) = .agg (cellsB (chainOf x (m + n).toNat)) := hd.2.1 rfl _ rfl
      clear hin hd
      refine step_on (guard_none rfl) fun K hK => ?_
      have hq := eqlT (chainOf (chainOf x m.toNat) n.toNat) (chainOf x (m + n).toNat) (chainOf_len _ (chainOf_len x HX.out _) _) (by rw [chainOf_add]; congr 1; omega)
      unfold YieldsG
      go_simp
      exact hK _ _ rfl (Grow.refl hB)
  · as_aux_lemma =>
      intro ev w1 hg hin hc hgl hfn hd
      have hB := hg.top
      have f38 : (ev (.tmp 38)) = .bool true := hd.1 rfl _ rfl
      clear hin hd
      refine step_on (guard_none rfl) fun K hK => ?_
      unfold YieldsG
      go_simp
      exact hK _ _ rfl (Grow.refl hB)
  · intro v w2 hg hall
    have hr : v 11 = .bool true := hall.2.2.2.2.2.2.2.2.2.2.2.1 (by simp)
    generalize hput : putAll _ v 0 _ = af
    have h0 : af.tmps.getD 6 undef = v 11 := by rw [← hput]; exact putAll_at (by rw [hsz]; as_aux_lemma => kernel_rfl) rfl rfl
    have hdf : af.defers = [] := by rw [← hput, putAll_defers]; exact hdf0
    clear hput hall
    go_wp2
    refine bodyPost_ret (results_tmp rfl _ _ _) hdf ⟨?_, hbl'.trans (hg.bl.mono (by rw [← eB]; exact hbl'.size))⟩
    rw [h0, hr]
theorem chainsCompose_any (x : List UInt8) (m n : Int) (w : World) (hx : x.length = 32) (hm0 : -9223372036854775808 ≤ m) (hm1 : m ≤ 9223372036854775807) (hn0 : -9223372036854775808 ≤ n) (hn1 : n ≤ 9223372036854775807) (hK : KFact w) :
    Calls Tryd.prog 7 #[.agg (cellsB x), .int .i64 m, .int .i64 n] w fun e w' => e = .returned (.bool true) ∧ Below w.heap.size w w' := by
  by_cases h1 : m < 0
  · exact cc_neg1 x m n w hx hm0 hm1 hn0 hn1 hK h1
  by_cases h2 : n < 0
  · exact cc_neg2 x m n w hx hm0 hm1 hn0 hn1 hK h1 h2
  by_cases h3 : m > 40
  · exact cc_big1 x m n w hx hm0 hm1 hn0 hn1 hK h1 h2 h3
  by_cases h4 : n > 40
  · exact cc_big2 x m n w hx hm0 hm1 hn0 hn1 hK h1 h2 h3 h4
  exact cc_main x m n w hx hm0 hm1 hn0 hn1 hK h1 h2 h3 h4
end Go.Proofs.YtibogbmpcahjcaaDoor

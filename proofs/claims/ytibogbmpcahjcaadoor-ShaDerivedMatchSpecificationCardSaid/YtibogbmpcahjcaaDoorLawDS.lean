/- crossbarlaw03.ShaDerivedMatchSpecification returns true. Conditions: the digests have 32 bytes, the tables lie in their variables. -/
import Derived.Test.YtibogbmpcahjcaaDoorLawCC
import Derived.Test.YtibogbmpcahjcaaDoorPair
import Derived.Test.YtibogbmpcahjcaaDoorRefChain
import Derived.Test.YtibogbmpcahjcaaDoorRefPair
namespace Go.Proofs.YtibogbmpcahjcaaDoor
open Go.RowKit
set_option maxRecDepth 100000 in
set_option maxHeartbeats 4000000 in
theorem ds_big1 (s : ByteArray) (v : Value) (b x y : List UInt8) (n : Int) (w : World) (hv : Bytes w v b (fun _ => True)) (hx : x.length = 32) (hy : y.length = 32) (hn0 : -9223372036854775808 ≤ n) (hn1 : n ≤ 9223372036854775807) (hR : RKFact w) (hI : RIFact w) (hK : KFact w) (hc : 600 < s.size) :
    Calls Tryd.prog 9 #[.string s, v, .agg (cellsB x), .agg (cellsB y), .int .i64 n] w fun e w' => e = .returned (.bool true) ∧ Below w.heap.size w w' := by
  have HX := Lib.hid hx
  have HY := Lib.hid hy
  clear hx hy
  have hltw := hK.lt
  have hltr := hR.lt
  have hlti := hI.lt
  obtain ⟨av, cv, rfl⟩ : ∃ a c, v = .slice a b.length c := by obtain ⟨a, c, h, _⟩ := hv; exact ⟨a, c, h⟩
  have hba : Below w.heap.size w ((w.alloc (.cells (cellsB x) 25)).alloc (.cells (cellsB y) 25)) := ((Below.refl _ _).alloc (Nat.le_refl _) _).alloc (by simp) _
  have hra : Row ((w.alloc (.cells (cellsB x) 25)).alloc (.cells (cellsB y) 25)) w.heap.size 25 (cellsB x) := (Row.new w _ _).alloc _
  have hrb : Row ((w.alloc (.cells (cellsB x) 25)).alloc (.cells (cellsB y) 25)) (w.heap.size + 1) 25 (cellsB y) := by
    have h := Row.new (w.alloc (.cells (cellsB x) 25)) (cellsB y) 25
    rwa [show (w.alloc (.cells (cellsB x) 25)).heap.size = w.heap.size + 1 by simp] at h
  go_enter Tryd.func9, Tryd.ntmps9
  generalize hRR : Code.region 5 _ _ = RR
  go_wp2_with fail
  refine (sane_any _ (hK.below hba hltw)).mono ?_
  rintro e w0 ⟨rfl, hb0⟩
  have hbl' : Below w.heap.size w w0 := hba.trans (hb0.mono hba.size)
  have hA : Row w0 w.heap.size 25 (cellsB x) := hra.below hb0 hra.lt
  have hB' : Row w0 (w.heap.size + 1) 25 (cellsB y) := hrb.below hb0 hrb.lt
  clear hba hra hrb hb0
  go_wp2
  go_ret
  exact ⟨rfl, hbl'⟩
set_option maxRecDepth 100000 in
set_option maxHeartbeats 4000000 in
theorem ds_big2 (s : ByteArray) (v : Value) (b x y : List UInt8) (n : Int) (w : World) (hv : Bytes w v b (fun _ => True)) (hx : x.length = 32) (hy : y.length = 32) (hn0 : -9223372036854775808 ≤ n) (hn1 : n ≤ 9223372036854775807) (hR : RKFact w) (hI : RIFact w) (hK : KFact w) (hc0 : ¬ 600 < s.size) (hc : 600 < b.length) :
    Calls Tryd.prog 9 #[.string s, v, .agg (cellsB x), .agg (cellsB y), .int .i64 n] w fun e w' => e = .returned (.bool true) ∧ Below w.heap.size w w' := by
  have HX := Lib.hid hx
  have HY := Lib.hid hy
  clear hx hy
  have hltw := hK.lt
  have hltr := hR.lt
  have hlti := hI.lt
  obtain ⟨av, cv, rfl⟩ : ∃ a c, v = .slice a b.length c := by obtain ⟨a, c, h, _⟩ := hv; exact ⟨a, c, h⟩
  have hba : Below w.heap.size w ((w.alloc (.cells (cellsB x) 25)).alloc (.cells (cellsB y) 25)) := ((Below.refl _ _).alloc (Nat.le_refl _) _).alloc (by simp) _
  have hra : Row ((w.alloc (.cells (cellsB x) 25)).alloc (.cells (cellsB y) 25)) w.heap.size 25 (cellsB x) := (Row.new w _ _).alloc _
  have hrb : Row ((w.alloc (.cells (cellsB x) 25)).alloc (.cells (cellsB y) 25)) (w.heap.size + 1) 25 (cellsB y) := by
    have h := Row.new (w.alloc (.cells (cellsB x) 25)) (cellsB y) 25
    rwa [show (w.alloc (.cells (cellsB x) 25)).heap.size = w.heap.size + 1 by simp] at h
  go_enter Tryd.func9, Tryd.ntmps9
  generalize hRR : Code.region 5 _ _ = RR
  go_wp2_with fail
  refine (sane_any _ (hK.below hba hltw)).mono ?_
  rintro e w0 ⟨rfl, hb0⟩
  have hbl' : Below w.heap.size w w0 := hba.trans (hb0.mono hba.size)
  have hA : Row w0 w.heap.size 25 (cellsB x) := hra.below hb0 hra.lt
  have hB' : Row w0 (w.heap.size + 1) 25 (cellsB y) := hrb.below hb0 hrb.lt
  clear hba hra hrb hb0
  go_wp2
  go_ret
  exact ⟨rfl, hbl'⟩
set_option maxRecDepth 100000 in
set_option maxHeartbeats 4000000 in
theorem ds_big3 (s : ByteArray) (v : Value) (b x y : List UInt8) (n : Int) (w : World) (hv : Bytes w v b (fun _ => True)) (hx : x.length = 32) (hy : y.length = 32) (hn0 : -9223372036854775808 ≤ n) (hn1 : n ≤ 9223372036854775807) (hR : RKFact w) (hI : RIFact w) (hK : KFact w) (hc0 : ¬ 600 < s.size) (hc1 : ¬ 600 < b.length) (hc : n > 60) :
    Calls Tryd.prog 9 #[.string s, v, .agg (cellsB x), .agg (cellsB y), .int .i64 n] w fun e w' => e = .returned (.bool true) ∧ Below w.heap.size w w' := by
  have HX := Lib.hid hx
  have HY := Lib.hid hy
  clear hx hy
  have hltw := hK.lt
  have hltr := hR.lt
  have hlti := hI.lt
  obtain ⟨av, cv, rfl⟩ : ∃ a c, v = .slice a b.length c := by obtain ⟨a, c, h, _⟩ := hv; exact ⟨a, c, h⟩
  have hba : Below w.heap.size w ((w.alloc (.cells (cellsB x) 25)).alloc (.cells (cellsB y) 25)) := ((Below.refl _ _).alloc (Nat.le_refl _) _).alloc (by simp) _
  have hra : Row ((w.alloc (.cells (cellsB x) 25)).alloc (.cells (cellsB y) 25)) w.heap.size 25 (cellsB x) := (Row.new w _ _).alloc _
  have hrb : Row ((w.alloc (.cells (cellsB x) 25)).alloc (.cells (cellsB y) 25)) (w.heap.size + 1) 25 (cellsB y) := by
    have h := Row.new (w.alloc (.cells (cellsB x) 25)) (cellsB y) 25
    rwa [show (w.alloc (.cells (cellsB x) 25)).heap.size = w.heap.size + 1 by simp] at h
  go_enter Tryd.func9, Tryd.ntmps9
  generalize hRR : Code.region 5 _ _ = RR
  go_wp2_with fail
  refine (sane_any _ (hK.below hba hltw)).mono ?_
  rintro e w0 ⟨rfl, hb0⟩
  have hbl' : Below w.heap.size w w0 := hba.trans (hb0.mono hba.size)
  have hA : Row w0 w.heap.size 25 (cellsB x) := hra.below hb0 hra.lt
  have hB' : Row w0 (w.heap.size + 1) 25 (cellsB y) := hrb.below hb0 hrb.lt
  clear hba hra hrb hb0
  go_wp2
  go_ret
  exact ⟨rfl, hbl'⟩
set_option maxRecDepth 100000 in
set_option maxHeartbeats 4000000 in
theorem ds_main (s : ByteArray) (v : Value) (b x y : List UInt8) (n : Int) (w : World) (hv : Bytes w v b (fun _ => True)) (hx : x.length = 32) (hy : y.length = 32) (hn0 : -9223372036854775808 ≤ n) (hn1 : n ≤ 9223372036854775807) (hR : RKFact w) (hI : RIFact w) (hK : KFact w) (hc0 : ¬ 600 < s.size) (hc1 : ¬ 600 < b.length) (hc : ¬ n > 60) :
    Calls Tryd.prog 9 #[.string s, v, .agg (cellsB x), .agg (cellsB y), .int .i64 n] w fun e w' => e = .returned (.bool true) ∧ Below w.heap.size w w' := by
  have HX := Lib.hid hx
  have HY := Lib.hid hy
  clear hx hy
  have hltw := hK.lt
  have hltr := hR.lt
  have hlti := hI.lt
  obtain ⟨av, cv, rfl⟩ : ∃ a c, v = .slice a b.length c := by obtain ⟨a, c, h, _⟩ := hv; exact ⟨a, c, h⟩
  have hba : Below w.heap.size w ((w.alloc (.cells (cellsB x) 25)).alloc (.cells (cellsB y) 25)) := ((Below.refl _ _).alloc (Nat.le_refl _) _).alloc (by simp) _
  have hra : Row ((w.alloc (.cells (cellsB x) 25)).alloc (.cells (cellsB y) 25)) w.heap.size 25 (cellsB x) := (Row.new w _ _).alloc _
  have hrb : Row ((w.alloc (.cells (cellsB x) 25)).alloc (.cells (cellsB y) 25)) (w.heap.size + 1) 25 (cellsB y) := by
    have h := Row.new (w.alloc (.cells (cellsB x) 25)) (cellsB y) 25
    rwa [show (w.alloc (.cells (cellsB x) 25)).heap.size = w.heap.size + 1 by simp] at h
  go_enter Tryd.func9, Tryd.ntmps9
  generalize hRR : Code.region 5 _ _ = RR
  go_wp2_with fail
  refine (sane_any _ (hK.below hba hltw)).mono ?_
  rintro e w0 ⟨rfl, hb0⟩
  have hbl' : Below w.heap.size w w0 := hba.trans (hb0.mono hba.size)
  have hA : Row w0 w.heap.size 25 (cellsB x) := hra.below hb0 hra.lt
  have hB' : Row w0 (w.heap.size + 1) 25 (cellsB y) := hrb.below hb0 hrb.lt
  clear hba hra hrb hb0
  have hb2 : Bytes w0 (.slice av b.length cv) b (fun _ => True) := (hv.later hbl').imp fun _ _ => trivial
  have hK0 : KFact w0 := hK.below hbl' hltw
  have hR0 : RKFact w0 := hR.below hbl' hltr
  have hI0 : RIFact w0 := hI.below hbl' hlti
  have hltk : 1 < w0.heap.size := hK0.lt
  have hltrk : 2 < w0.heap.size := hR0.lt
  have hltri : 0 < w0.heap.size := hI0.lt
  have hltn1 := hA.lt
  have hltn2 := hB'.lt
  clear hK hR hI hltw hltr hlti hv
  go_wp2
  rw [← hRR]
  clear hRR
  have hblw := hbl'
  obtain ⟨n2, e2⟩ : ∃ n2, w.heap.size + 1 = n2 := ⟨_, rfl⟩
  rw [e2] at hB' hltn2
  rw [e2]
  clear e2
  obtain ⟨n1, e1⟩ : ∃ n1, w.heap.size = n1 := ⟨_, rfl⟩
  rw [e1] at hA hltn1
  rw [e1]
  obtain ⟨B, eB⟩ : ∃ B, w0.heap.size = B := ⟨_, rfl⟩
  rw [eB] at hltk hltrk hltri hltn1 hltn2
  refine wp_gen fun a0 ha0 => ?_
  have i0 : a0.eval (.tmp 0) = .string s := by rw [ha0]; rfl
  have i1 : a0.eval (.tmp 1) = .slice av b.length cv := by rw [ha0]; rfl
  have i4 : a0.eval (.tmp 4) = .int .i64 n := by rw [ha0]; rfl
  have i7 : a0.eval (.tmp 7) = .pointer (some ⟨n1, 0, none⟩) := by rw [ha0]; rfl
  have i8 : a0.eval (.tmp 8) = .pointer (some ⟨n2, 0, none⟩) := by rw [ha0]; rfl
  have hsz : a0.tmps.size = 50 := by rw [ha0]; rfl
  have hdf0 : a0.defers = [] := by rw [ha0]
  clear ha0
  refine wp_region_inv (B := B) [some 25, some 26, some 27, some 28, some 29, some 30, some 31, some 32, some 33, some 34, some 35, some 36, some 37, some 38, some 39, some 40, some 41, some 42, some 43, some 44, some 45, some 46, some 47, some 48, some 49, some 10] [Asrt.eq (.string s), Asrt.eq (.slice av b.length cv), Asrt.eq (.agg (cellsB (taggedOf s.data.toList b))), Asrt.eq (.string s), Asrt.eq (.slice av b.length cv), Asrt.eq (.agg (cellsB (taggedOf s.data.toList b))), Asrt.eq (.bool true), Asrt.eq (.bool true), Asrt.eq (.agg (cellsB (x))), Asrt.eq (.agg (cellsB (y))), Asrt.eq (.agg (cellsB (pairOf x y))), Asrt.eq (.agg (cellsB (x))), Asrt.eq (.agg (cellsB (y))), Asrt.eq (.agg (cellsB (pairOf x y))), Asrt.eq (.bool true), Asrt.eq (.bool true), Asrt.eq (.bool true), Asrt.eq (.agg (cellsB (x))), Asrt.eq (.int .i64 n), Asrt.eq (.agg (cellsB (chainOf x n.toNat))), Asrt.eq (.agg (cellsB (x))), Asrt.eq (.int .i64 n), Asrt.eq (.agg (cellsB (chainOf x n.toNat))), Asrt.eq (.bool true), Asrt.eq (.bool true), Asrt.eq (.bool true)] rfl (by as_aux_lemma => kernel_rfl) (by rw [hsz]; as_aux_lemma => kernel_rfl) (by as_aux_lemma => kernel_rfl) (by omega) ⟨?_, ?_, ?_, ?_, ?_, ?_, ?_, ?_, ?_, ?_, ?_, ?_, ?_, ?_, ?_, ?_, ?_, ?_, ?_, ?_, ?_, ?_, ?_, ?_, ?_, ?_, trivial⟩ ?_
  · as_aux_lemma =>
      intro ev w1 hg hin hc hgl hfn hd
      have hB := hg.top
      have g0 : ev (.tmp 0) = .string s := (hin 0 (by kernel_rfl)).trans i0
      clear hin hd
      refine step_on (guard_none rfl) fun K hK => ?_
      unfold YieldsG
      go_simp
      exact hK _ _ rfl (Grow.refl hB)
  · as_aux_lemma =>
      intro ev w1 hg hin hc hgl hfn hd
      have hB := hg.top
      have g1 : ev (.tmp 1) = .slice av b.length cv := (hin 1 (by kernel_rfl)).trans i1
      clear hin hd
      refine step_on (guard_none rfl) fun K hK => ?_
      unfold YieldsG
      go_simp
      exact hK _ _ rfl (Grow.refl hB)
  · as_aux_lemma =>
      intro ev w1 hg hin hc hgl hfn hd
      have hB := hg.top
      have f25 : (ev (.tmp 25)) = .string s := hd.1 rfl _ rfl
      have f26 : (ev (.tmp 26)) = .slice av b.length cv := hd.2.1 rfl _ rfl
      clear hin hd
      refine step_on (guard_none rfl) fun K hK => ?_
      unfold YieldsG
      go_simp
      refine (tagged_any s _ b _ w1 (by omega) ((Asrt.bytes (B := B) b).st _ _ _ hb2 hg) (hK0.below hg.bl hltk) (by omega)).mono ?_
      rintro e w2 ⟨rfl, hb⟩
      exact ⟨_, rfl, hK _ _ rfl (Grow.of hB hb)⟩
  · as_aux_lemma =>
      intro ev w1 hg hin hc hgl hfn hd
      have hB := hg.top
      have g0 : ev (.tmp 0) = .string s := (hin 0 (by kernel_rfl)).trans i0
      clear hin hd
      refine step_on (guard_none rfl) fun K hK => ?_
      unfold YieldsG
      go_simp
      exact hK _ _ rfl (Grow.refl hB)
  · as_aux_lemma =>
      intro ev w1 hg hin hc hgl hfn hd
      have hB := hg.top
      have g1 : ev (.tmp 1) = .slice av b.length cv := (hin 1 (by kernel_rfl)).trans i1
      clear hin hd
      refine step_on (guard_none rfl) fun K hK => ?_
      unfold YieldsG
      go_simp
      exact hK _ _ rfl (Grow.refl hB)
  · as_aux_lemma =>
      intro ev w1 hg hin hc hgl hfn hd
      have hB := hg.top
      have f28 : (ev (.tmp 28)) = .string s := hd.1 rfl _ rfl
      have f29 : (ev (.tmp 29)) = .slice av b.length cv := hd.2.1 rfl _ rfl
      clear hin hd
      refine step_on (guard_none rfl) fun K hK => ?_
      unfold YieldsG
      go_simp
      refine (rtagged_any s _ b _ w1 (by omega) ((Asrt.bytes (B := B) b).st _ _ _ hb2 hg) (hR0.below hg.bl hltrk) (hI0.below hg.bl hltri) (by omega)).mono ?_
      rintro e w2 ⟨rfl, hb⟩
      exact ⟨_, rfl, hK _ _ rfl (Grow.of hB hb)⟩
  · as_aux_lemma =>
      intro ev w1 hg hin hc hgl hfn hd
      have hB := hg.top
      have f27 : (ev (.tmp 27)) = .agg (cellsB (taggedOf s.data.toList b)) := hd.1 rfl _ rfl
      have f30 : (ev (.tmp 30)) = .agg (cellsB (taggedOf s.data.toList b)) := hd.2.1 rfl _ rfl
      clear hin hd
      refine step_on (guard_none rfl) fun K hK => ?_
      have hq := eqlT (taggedOf s.data.toList b) (taggedOf s.data.toList b) (taggedOf_len _ _) rfl
      unfold YieldsG
      go_simp
      exact hK _ _ rfl (Grow.refl hB)
  · as_aux_lemma =>
      intro ev w1 hg hin hc hgl hfn hd
      have hB := hg.top
      have f31 : (ev (.tmp 31)) = .bool true := hd.1 rfl _ rfl
      clear hin hd
      refine step_on (guard_none rfl) fun K hK => ?_
      unfold YieldsG
      go_simp
      exact hK _ _ rfl (Grow.refl hB)
  · as_aux_lemma =>
      intro ev w1 hg hin hc hgl hfn hd
      have hB := hg.top
      have f32 : (ev (.tmp 32)) = .bool true := hd.1 rfl _ rfl
      have g7 : ev (.tmp 7) = .pointer (some ⟨n1, 0, none⟩) := (hin 7 (by kernel_rfl)).trans i7
      clear hin hd
      refine step_on (guard_some rfl rfl f32) fun K hK => ?_
      refine yg_load_row 25 (.tmp 7) rfl n1 g7 25 (cellsB x) (0, 0) _ (hA.below hg.bl hltn1) Tryd.underD rfl (Tryd.sizeD_of _ HX.out) ?_
      exact hK _ _ rfl (Grow.refl hB)
  · as_aux_lemma =>
      intro ev w1 hg hin hc hgl hfn hd
      have hB := hg.top
      have f32 : (ev (.tmp 32)) = .bool true := hd.1 rfl _ rfl
      have g8 : ev (.tmp 8) = .pointer (some ⟨n2, 0, none⟩) := (hin 8 (by kernel_rfl)).trans i8
      clear hin hd
      refine step_on (guard_some rfl rfl f32) fun K hK => ?_
      refine yg_load_row 25 (.tmp 8) rfl n2 g8 25 (cellsB y) (0, 0) _ (hB'.below hg.bl hltn2) Tryd.underD rfl (Tryd.sizeD_of _ HY.out) ?_
      exact hK _ _ rfl (Grow.refl hB)
  · as_aux_lemma =>
      intro ev w1 hg hin hc hgl hfn hd
      have hB := hg.top
      have f33 : (ev (.tmp 33)) = .agg (cellsB (x)) := hd.1 rfl _ rfl
      have f34 : (ev (.tmp 34)) = .agg (cellsB (y)) := hd.2.1 rfl _ rfl
      have f32 : (ev (.tmp 32)) = .bool true := hd.2.2.1 rfl _ rfl
      clear hin hd
      refine step_on (guard_some rfl rfl f32) fun K hK => ?_
      unfold YieldsG
      go_simp
      refine (pair_any x y w1 HX.out HY.out (hK0.below hg.bl hltk)).mono ?_
      rintro e w2 ⟨rfl, hb⟩
      exact ⟨_, rfl, hK _ _ rfl (Grow.of hB hb)⟩
  · as_aux_lemma =>
      intro ev w1 hg hin hc hgl hfn hd
      have hB := hg.top
      have f32 : (ev (.tmp 32)) = .bool true := hd.1 rfl _ rfl
      have g7 : ev (.tmp 7) = .pointer (some ⟨n1, 0, none⟩) := (hin 7 (by kernel_rfl)).trans i7
      clear hin hd
      refine step_on (guard_some rfl rfl f32) fun K hK => ?_
      refine yg_load_row 25 (.tmp 7) rfl n1 g7 25 (cellsB x) (0, 0) _ (hA.below hg.bl hltn1) Tryd.underD rfl (Tryd.sizeD_of _ HX.out) ?_
      exact hK _ _ rfl (Grow.refl hB)
  · as_aux_lemma =>
      intro ev w1 hg hin hc hgl hfn hd
      have hB := hg.top
      have f32 : (ev (.tmp 32)) = .bool true := hd.1 rfl _ rfl
      have g8 : ev (.tmp 8) = .pointer (some ⟨n2, 0, none⟩) := (hin 8 (by kernel_rfl)).trans i8
      clear hin hd
      refine step_on (guard_some rfl rfl f32) fun K hK => ?_
      refine yg_load_row 25 (.tmp 8) rfl n2 g8 25 (cellsB y) (0, 0) _ (hB'.below hg.bl hltn2) Tryd.underD rfl (Tryd.sizeD_of _ HY.out) ?_
      exact hK _ _ rfl (Grow.refl hB)
  · as_aux_lemma =>
      intro ev w1 hg hin hc hgl hfn hd
      have hB := hg.top
      have f36 : (ev (.tmp 36)) = .agg (cellsB (x)) := hd.1 rfl _ rfl
      have f37 : (ev (.tmp 37)) = .agg (cellsB (y)) := hd.2.1 rfl _ rfl
      have f32 : (ev (.tmp 32)) = .bool true := hd.2.2.2.1 rfl _ rfl
      clear hin hd
      refine step_on (guard_some rfl rfl f32) fun K hK => ?_
      unfold YieldsG
      go_simp
      refine (rpair_any x y w1 HX.out HY.out (hR0.below hg.bl hltrk) (hI0.below hg.bl hltri)).mono ?_
      rintro e w2 ⟨rfl, hb⟩
      exact ⟨_, rfl, hK _ _ rfl (Grow.of hB hb)⟩
  · as_aux_lemma =>
      intro ev w1 hg hin hc hgl hfn hd
      have hB := hg.top
      have f35 : (ev (.tmp 35)) = .agg (cellsB (pairOf x y)) := hd.1 rfl _ rfl
      have f38 : (ev (.tmp 38)) = .agg (cellsB (pairOf x y)) := hd.2.1 rfl _ rfl
      have f32 : (ev (.tmp 32)) = .bool true := hd.2.2.1 rfl _ rfl
      clear hin hd
      refine step_on (guard_some rfl rfl f32) fun K hK => ?_
      have hq := eqlT (pairOf x y) (pairOf x y) (pairOf_len _ _) rfl
      unfold YieldsG
      go_simp
      exact hK _ _ rfl (Grow.refl hB)
  · as_aux_lemma =>
      intro ev w1 hg hin hc hgl hfn hd
      have hB := hg.top
      have f32 : (ev (.tmp 32)) = .bool true := hd.1 rfl _ rfl
      have f39 : (ev (.tmp 39)) = .bool true := hd.2.1 rfl _ rfl
      clear hin hd
      refine step_on (guard_none rfl) fun K hK => ?_
      unfold YieldsG
      go_simp
      exact hK _ _ rfl (Grow.refl hB)
  · as_aux_lemma =>
      intro ev w1 hg hin hc hgl hfn hd
      have hB := hg.top
      have f40 : (ev (.tmp 40)) = .bool true := hd.1 rfl _ rfl
      clear hin hd
      refine step_on (guard_none rfl) fun K hK => ?_
      unfold YieldsG
      go_simp
      exact hK _ _ rfl (Grow.refl hB)
  · as_aux_lemma =>
      intro ev w1 hg hin hc hgl hfn hd
      have hB := hg.top
      have f41 : (ev (.tmp 41)) = .bool true := hd.1 rfl _ rfl
      have g7 : ev (.tmp 7) = .pointer (some ⟨n1, 0, none⟩) := (hin 7 (by kernel_rfl)).trans i7
      clear hin hd
      refine step_on (guard_some rfl rfl f41) fun K hK => ?_
      refine yg_load_row 25 (.tmp 7) rfl n1 g7 25 (cellsB x) (0, 0) _ (hA.below hg.bl hltn1) Tryd.underD rfl (Tryd.sizeD_of _ HX.out) ?_
      exact hK _ _ rfl (Grow.refl hB)
  · as_aux_lemma =>
      intro ev w1 hg hin hc hgl hfn hd
      have hB := hg.top
      have f41 : (ev (.tmp 41)) = .bool true := hd.1 rfl _ rfl
      have g4 : ev (.tmp 4) = .int .i64 n := (hin 4 (by kernel_rfl)).trans i4
      clear hin hd
      refine step_on (guard_some rfl rfl f41) fun K hK => ?_
      unfold YieldsG
      go_simp
      exact hK _ _ rfl (Grow.refl hB)
  · as_aux_lemma =>
      intro ev w1 hg hin hc hgl hfn hd
      have hB := hg.top
      have f42 : (ev (.tmp 42)) = .agg (cellsB (x)) := hd.1 rfl _ rfl
      have f43 : (ev (.tmp 43)) = .int .i64 n := hd.2.1 rfl _ rfl
      have f41 : (ev (.tmp 41)) = .bool true := hd.2.2.1 rfl _ rfl
      clear hin hd
      refine step_on (guard_some rfl rfl f41) fun K hK => ?_
      unfold YieldsG
      go_simp
      refine (chain_any x n w1 HX.out hn0 hn1 (hK0.below hg.bl hltk)).mono ?_
      rintro e w2 ⟨rfl, hb⟩
      exact ⟨_, rfl, hK _ _ rfl (Grow.of hB hb)⟩
  · as_aux_lemma =>
      intro ev w1 hg hin hc hgl hfn hd
      have hB := hg.top
      have f41 : (ev (.tmp 41)) = .bool true := hd.1 rfl _ rfl
      have g7 : ev (.tmp 7) = .pointer (some ⟨n1, 0, none⟩) := (hin 7 (by kernel_rfl)).trans i7
      clear hin hd
      refine step_on (guard_some rfl rfl f41) fun K hK => ?_
      refine yg_load_row 25 (.tmp 7) rfl n1 g7 25 (cellsB x) (0, 0) _ (hA.below hg.bl hltn1) Tryd.underD rfl (Tryd.sizeD_of _ HX.out) ?_
      exact hK _ _ rfl (Grow.refl hB)
  · as_aux_lemma =>
      intro ev w1 hg hin hc hgl hfn hd
      have hB := hg.top
      have f41 : (ev (.tmp 41)) = .bool true := hd.1 rfl _ rfl
      have g4 : ev (.tmp 4) = .int .i64 n := (hin 4 (by kernel_rfl)).trans i4
      clear hin hd
      refine step_on (guard_some rfl rfl f41) fun K hK => ?_
      unfold YieldsG
      go_simp
      exact hK _ _ rfl (Grow.refl hB)
  · as_aux_lemma =>
      intro ev w1 hg hin hc hgl hfn hd
      have hB := hg.top
      have f45 : (ev (.tmp 45)) = .agg (cellsB (x)) := hd.1 rfl _ rfl
      have f46 : (ev (.tmp 46)) = .int .i64 n := hd.2.1 rfl _ rfl
      have f41 : (ev (.tmp 41)) = .bool true := hd.2.2.2.1 rfl _ rfl
      clear hin hd
      refine step_on (guard_some rfl rfl f41) fun K hK => ?_
      unfold YieldsG
      go_simp
      refine (rchain_any x n w1 HX.out hn0 hn1 (hR0.below hg.bl hltrk) (hI0.below hg.bl hltri)).mono ?_
      rintro e w2 ⟨rfl, hb⟩
      exact ⟨_, rfl, hK _ _ rfl (Grow.of hB hb)⟩
  · as_aux_lemma =>
      intro ev w1 hg hin hc hgl hfn hd
      have hB := hg.top
      have f44 : (ev (.tmp 44)) = .agg (cellsB (chainOf x n.toNat)) := hd.1 rfl _ rfl
      have f47 : (ev (.tmp 47)) = .agg (cellsB (chainOf x n.toNat)) := hd.2.1 rfl _ rfl
      have f41 : (ev (.tmp 41)) = .bool true := hd.2.2.1 rfl _ rfl
      clear hin hd
      refine step_on (guard_some rfl rfl f41) fun K hK => ?_
      have hq := eqlT (chainOf x n.toNat) (chainOf x n.toNat) (chainOf_len x HX.out _) rfl
      unfold YieldsG
      go_simp
      exact hK _ _ rfl (Grow.refl hB)
  · as_aux_lemma =>
      intro ev w1 hg hin hc hgl hfn hd
      have hB := hg.top
      have f41 : (ev (.tmp 41)) = .bool true := hd.1 rfl _ rfl
      have f48 : (ev (.tmp 48)) = .bool true := hd.2.1 rfl _ rfl
      clear hin hd
      refine step_on (guard_none rfl) fun K hK => ?_
      unfold YieldsG
      go_simp
      exact hK _ _ rfl (Grow.refl hB)
  · as_aux_lemma =>
      intro ev w1 hg hin hc hgl hfn hd
      have hB := hg.top
      have f49 : (ev (.tmp 49)) = .bool true := hd.1 rfl _ rfl
      clear hin hd
      refine step_on (guard_none rfl) fun K hK => ?_
      unfold YieldsG
      go_simp
      exact hK _ _ rfl (Grow.refl hB)
  · intro v w2 hg hall
    have hr : v 25 = .bool true := hall.2.2.2.2.2.2.2.2.2.2.2.2.2.2.2.2.2.2.2.2.2.2.2.2.2.1 (by simp)
    generalize hput : putAll _ v 0 _ = af
    have h0 : af.tmps.getD 10 undef = v 25 := by rw [← hput]; exact putAll_at (by rw [hsz]; as_aux_lemma => kernel_rfl) rfl rfl
    have hdf : af.defers = [] := by rw [← hput, putAll_defers]; exact hdf0
    clear hput hall
    go_wp2
    refine bodyPost_ret (results_tmp rfl _ _ _) hdf ⟨?_, hbl'.trans (hg.bl.mono (by rw [← eB]; exact hbl'.size))⟩
    rw [h0, hr]
theorem derived_any (s : ByteArray) (v : Value) (b x y : List UInt8) (n : Int) (w : World) (_hs : s.size ≤ maxLen) (hv : Bytes w v b (fun _ => True)) (_hl : b.length ≤ maxLen) (hx : x.length = 32) (hy : y.length = 32) (hn0 : -9223372036854775808 ≤ n) (hn1 : n ≤ 9223372036854775807) (hR : RKFact w) (hI : RIFact w) (hK : KFact w) :
    Calls Tryd.prog 9 #[.string s, v, .agg (cellsB x), .agg (cellsB y), .int .i64 n] w fun e w' => e = .returned (.bool true) ∧ Below w.heap.size w w' := by
  by_cases h1 : 600 < s.size
  · exact ds_big1 s v b x y n w hv hx hy hn0 hn1 hR hI hK h1
  by_cases h2 : 600 < b.length
  · exact ds_big2 s v b x y n w hv hx hy hn0 hn1 hR hI hK h1 h2
  by_cases h3 : n > 60
  · exact ds_big3 s v b x y n w hv hx hy hn0 hn1 hR hI hK h1 h2 h3
  exact ds_main s v b x y n w hv hx hy hn0 hn1 hR hI hK h1 h2 h3
end Go.Proofs.YtibogbmpcahjcaaDoor

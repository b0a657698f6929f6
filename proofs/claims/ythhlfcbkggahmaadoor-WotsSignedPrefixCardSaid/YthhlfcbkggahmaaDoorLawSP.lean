/- crossbarlaw04.WotsSignedPrefix returns true. Conditions: the digests have 32 bytes, the tables lie in their variables. -/
import Derived.Test.YthhlfcbkggahmaaDoorWAsrt
namespace Go.Proofs.YthhlfcbkggahmaaDoor
open Go.RowKit
theorem walkR_congr {seed : List UInt8} {idx : Int} {n m : Nat → Nat} (h : ∀ i, i < 18 → n i = m i) : walkR seed idx n = walkR seed idx m := by
  unfold walkR
  split
  · unfold walkOf
    exact tab_congr fun i hi => by rw [h i hi]
  · rfl
theorem take8_set {y d : List UInt8} (j : Nat) (c : UInt8) (h : y.take 8 = d.take 8) : (y.set (8 + j) c).take 8 = d.take 8 := by
  rw [List.take_set_of_le (by omega), h]
theorem Bytes.at {w : World} {a : Option Addr} {n cap : Nat} {l : List UInt8} {ok : Nat → Prop} (h : Bytes w (.slice a n cap) l ok) (hn : 0 < n) : ∃ b off, a = some ⟨b, off, none⟩ ∧ n = l.length ∧ n ≤ cap ∧ cap ≤ 9223372036854775807 ∧ BytesAt w b off l := by
  obtain ⟨a', cap', he, hc0, hc1, ha⟩ := h
  obtain ⟨rfl, rfl, rfl⟩ := Value.slice.inj he
  rcases ha with ⟨rfl, _⟩ | ⟨b, off, rfl, _, hat⟩
  · simp at hn
  · exact ⟨b, off, rfl, rfl, hc0, hc1, hat⟩
set_option maxRecDepth 100000 in
set_option maxHeartbeats 4000000 in
theorem sp_big (seed : List UInt8) (v : Value) (idx : Int) (d tl : List UInt8) (tv : Value) (w : World) (hv : Bytes w v seed (fun _ => True)) (hd : d.length = 32) (ht : Bytes w tv tl (fun _ => True)) (hK : KFact w) (hc : 200 < seed.length) :
    Calls Tryd.prog 10 #[v, .int .i64 idx, .agg (cellsB d), tv] w fun e w' => e = .returned (.bool true) ∧ Below w.heap.size w w' := by
  have hkl := hK.lt
  have HD := Lib.hid hd
  have HSD := Lib.hid (Tryd.sizeD_of d hd)
  have HCD : Hid ((cellsB d).size = (cellsB (List.replicate 32 0)).size) := Lib.hid (by rw [cellsB_size, hd]; rfl)
  clear hd
  obtain ⟨av, kv, rfl⟩ : ∃ a c, v = .slice a seed.length c := by obtain ⟨a, c, h, _⟩ := hv; exact ⟨a, c, h⟩
  obtain ⟨at', kt, rfl⟩ : ∃ a c, tv = .slice a tl.length c := by obtain ⟨a, c, h, _⟩ := ht; exact ⟨a, c, h⟩
  have htc : tl.length ≤ 9223372036854775807 := by
    obtain ⟨_, c, e, h1, h2, _⟩ := ht; exact Nat.le_trans h1 h2
  have hb0 : Below w.heap.size w (w.alloc (.cells (cellsB d) 23)) := (Below.refl _ _).alloc (Nat.le_refl _) _
  have hd0 : Row (w.alloc (.cells (cellsB d) 23)) w.heap.size 23 (cellsB d) := Row.new w _ _
  go_enter Tryd.func10, Tryd.ntmps10
  generalize hRR : Code.region 15 _ _ = RR
  go_wp2_with fail
  refine (sane_any _ (hK.below hb0 hkl)).mono ?_
  rintro e w0 ⟨rfl, hb1⟩
  have hB0 := hb0.trans (hb1.mono hb0.size)
  have hdw := hd0.below hb1 hd0.lt
  clear hb0 hd0 hb1
  go_wp2
  go_ret
  exact ⟨rfl, hB0⟩
set_option maxRecDepth 100000 in
set_option maxHeartbeats 4000000 in
theorem sp_ok (seed : List UInt8) (v : Value) (idx : Int) (d tl : List UInt8) (tv : Value) (w : World) (hv : Bytes w v seed (fun _ => True)) (hd : d.length = 32) (ht : Bytes w tv tl (fun _ => True)) (hK : KFact w) (hc : ¬ 200 < seed.length) (hok : okSeed seed idx = true) :
    Calls Tryd.prog 10 #[v, .int .i64 idx, .agg (cellsB d), tv] w fun e w' => e = .returned (.bool true) ∧ Below w.heap.size w w' := by
  have hkl := hK.lt
  have HD := Lib.hid hd
  have HSD := Lib.hid (Tryd.sizeD_of d hd)
  have HCD : Hid ((cellsB d).size = (cellsB (List.replicate 32 0)).size) := Lib.hid (by rw [cellsB_size, hd]; rfl)
  clear hd
  obtain ⟨av, kv, rfl⟩ : ∃ a c, v = .slice a seed.length c := by obtain ⟨a, c, h, _⟩ := hv; exact ⟨a, c, h⟩
  obtain ⟨at', kt, rfl⟩ : ∃ a c, tv = .slice a tl.length c := by obtain ⟨a, c, h, _⟩ := ht; exact ⟨a, c, h⟩
  have htc : tl.length ≤ 9223372036854775807 := by
    obtain ⟨_, c, e, h1, h2, _⟩ := ht; exact Nat.le_trans h1 h2
  have hb0 : Below w.heap.size w (w.alloc (.cells (cellsB d) 23)) := (Below.refl _ _).alloc (Nat.le_refl _) _
  have hd0 : Row (w.alloc (.cells (cellsB d) 23)) w.heap.size 23 (cellsB d) := Row.new w _ _
  go_enter Tryd.func10, Tryd.ntmps10
  generalize hRR : Code.region 15 _ _ = RR
  go_wp2_with fail
  refine (sane_any _ (hK.below hb0 hkl)).mono ?_
  rintro e w0 ⟨rfl, hb1⟩
  have hB0 := hb0.trans (hb1.mono hb0.size)
  have hdw := hd0.below hb1 hd0.lt
  clear hb0 hd0 hb1
  have HER := Lib.hid (errR_ok hok)
  go_wp2_with (first | (refine wpList_load_row rfl 23 (.tmp 6) rfl w.heap.size rfl 23 (cellsB d) (0, 0) _ hdw Tryd.underD rfl HSD.out ?_) | (refine wpList_store_row rfl 23 (.tmp 9) (.tmp 22) rfl w0.heap.size rfl (cellsB d) (cellsB (List.replicate 32 0)) 23 rfl (Row.new w0 _ _) HCD.out HSD.out (cellsB_one _) ?_; intro w1 hg1 hr1 hz1; clear hz1; have hb1 := box_below hg1; clear hg1))
  have hB1 := hB0.trans (hb1.mono hB0.size)
  have hd1 := hdw.below hb1 hdw.lt
  have hz0 := hB0.size
  have hlx := hdw.lt
  clear hdw hb1
  obtain ⟨p9, e9⟩ : ∃ p, w0.heap.size = p := ⟨_, rfl⟩
  rw [e9] at hr1 hz0 hlx
  rw [e9]
  clear e9
  go_loopw [10] (fun t wr => ∃ (j : Nat) (y : List UInt8), j ≤ 24 ∧ t = .int .i64 (8 + (j : Int)) ∧ Row wr p9 23 (cellsB y) ∧ Hid (y.length = 32) ∧ Hid (y.take 8 = d.take 8) ∧ Row wr w.heap.size 23 (cellsB d) ∧ Below w.heap.size w wr) (fun t _ => 32 - (intOf t).toNat)
  case atStart => exact ⟨0, d, by omega, rfl, hr1, HD, rfl, hd1, hB1⟩
  case round =>
    clear hr1 hd1 hB1
    obtain ⟨j, y, hj, rfl, hy, hyl, hyt, hdr, hb⟩ := hrel
    by_cases hgo : j < 24 ∧ j < tl.length
    · obtain ⟨hj1, hj2⟩ := hgo
      have htr := (ht.later hb).imp (ok' := fun _ => True) fun _ _ => trivial
      have hj3 : (j : Int) < tl.length := by omega
      have hj4 : (8 : Int) + j < 32 := by omega
      have HTL := Lib.hid (rfl : tl.length = tl.length)
      obtain ⟨n, hn⟩ : ∃ n, tl.length = n := ⟨_, rfl⟩
      have HN := Lib.hid hn
      rw [hn] at hj2 hj3 htr htc ⊢
      clear hn HTL
      obtain ⟨tb, to, rfl, -, hk1, hk2, hat⟩ := htr.at (by omega)
      have c1 := hat j (by rw [HN.out]; exact hj2)
      have c2 := hy.byte (8 + j) (by rw [hyl.out]; omega)
      have f2 := hy.free (8 + j)
      have hset := hy.setB (8 + j) (tl.getD j 0)
      have hsl : Hid ((y.set (8 + j) (tl.getD j 0)).length = 32) := Lib.hid (by rw [List.length_set]; exact hyl.out)
      have hst : Hid ((y.set (8 + j) (tl.getD j 0)).take 8 = d.take 8) := take8_set j _ hyt.out
      have hby : by8 tl j = Y (tl.getD j 0) := rfl
      rw [hby] at c1
      clear htr hat hby
      generalize tl.getD j 0 = c at *
      generalize y.set (8 + j) c = y' at *
      have hb2 := hb.setCell (p := ⟨p9, 8 + j, none⟩) hz0 (.int .u8 (Y c))
      have hd2 := hdr.other ⟨p9, 8 + j, none⟩ (.int .u8 (Y c)) (by simp; omega)
      go_wp2
      go_roundw
      case rel => exact ⟨j + 1, y', by omega, by go_num, hset, hsl, hst, hd2, hb2⟩
      case measure => simp [intOf]; omega
    · have hfin : ((decide ((8 : Int) + j < 32)) && decide ((j : Int) < tl.length)) = false := by
        by_cases h1 : j < 24
        · rw [decide_eq_false (show ¬ (j : Int) < tl.length from fun h => hgo ⟨h1, by omega⟩), Bool.and_false]
        · rw [decide_eq_false (show ¬ (8 : Int) + j < 32 by omega)]; rfl
      have hsgn : signR seed idx y = signR seed idx d := walkR_congr fun i _ => nib_congr ((take8_eq hyl.out HD.out).1 hyt.out) i
      have hnb : nibs d = nibs y := (nibs_iff HD.out hyl.out).2 hyt.out.symm
      have HSG := Lib.hid hsgn
      have HNB := Lib.hid hnb
      have HSY := Lib.hid (Tryd.sizeD_of y hyl.out)
      have hvr := (hv.later hb).imp (ok' := fun _ => True) fun _ _ => trivial
      clear hsgn hnb hyt
      have hcase : (¬ (8 : Int) + j < 32) ∨ ((8 : Int) + j < 32 ∧ ¬ (j : Int) < tl.length) := by
        by_cases h1 : (8 : Int) + j < 32
        · exact .inr ⟨h1, fun h => hgo ⟨by omega, by omega⟩⟩
        · exact .inl h1
      clear hfin hgo
      rcases hcase with hq | ⟨hq, hq2⟩
      · go_wp2_with fail
        refine (public_any seed _ idx wr hvr (hK.below hb hkl)).mono ?_
        rintro e w3 ⟨rfl, hb3⟩
        obtain ⟨x, hx⟩ : ∃ x, pubR seed idx = x := ⟨_, rfl⟩
        have hxl : x.length = 32 := by rw [← hx]; exact pubR_len _ _
        have HX := Lib.hid hxl
        have HSX := Lib.hid (Tryd.sizeD_of x hxl)
        have HCX : Hid ((cellsB x).size = (cellsB (List.replicate 32 0)).size) := Lib.hid (by rw [cellsB_size, hxl]; rfl)
        rw [hx, HER.out]
        have HXE := Lib.hid hx
        have hB3 := hb.trans (hb3.mono hb.size)
        have hd3 := hdr.below hb3 hdr.lt
        have hy3 := hy.below hb3 hy.lt
        clear hx hxl hb3 hdr hy
        go_wp2_with (first | (refine wpList_store_row rfl 23 (.tmp 11) (.tmp 45) rfl w3.heap.size rfl (cellsB x) (cellsB (List.replicate 32 0)) 23 rfl (Row.new w3 _ _) HCX.out HSX.out (cellsB_one _) ?_; intro w4 hgw4 hrw4 hzw4; clear hzw4; have hbw4 := box_below hgw4; clear hgw4; have hd4 := hd3.below hbw4 hd3.lt) | (refine wpList_load_row rfl 23 (.tmp 6) rfl w.heap.size rfl 23 (cellsB d) (0, 0) _ hd4 Tryd.underD rfl HSD.out ?_))
        have hB4 := hB3.trans (hbw4.mono hB3.size)
        have hy4 := hy3.below hbw4 hy3.lt
        have hv4 := (hv.later hB4).imp (ok' := fun _ => True) fun _ _ => trivial
        clear hd3 hbw4 hy3
        refine (sign_any seed d _ idx w4 hv4 HD.out (hK.below hB4 hkl)).mono ?_
        rintro e w5 ⟨s1, rfl, hs1, hb5⟩
        rw [HER.out]
        have hB5 := hB4.trans (hb5.mono hB4.size)
        have hd5 := hd4.below hb5 hd4.lt
        have hy5 := hy4.below hb5 hy4.lt
        have hr5 := hrw4.below hb5 hrw4.lt
        have hv5 := (hv.later hB5).imp (ok' := fun _ => True) fun _ _ => trivial
        clear hd4 hb5 hy4 hrw4
        go_wp2_with (refine wpList_load_row rfl 23 (.tmp 9) rfl p9 rfl 23 (cellsB y) (0, 0) _ hy5 Tryd.underD rfl HSY.out ?_)
        refine (sign_any seed y _ idx w5 hv5 hyl.out (hK.below hB5 hkl)).mono ?_
        rintro e w6 ⟨s2, rfl, hs2, hb6⟩
        rw [HER.out]
        rw [HSG.out] at hs2
        have hbl' := hB5.trans (hb6.mono hB5.size)
        have hd6 := hd5.below hb6 hd5.lt
        have hy6 := hy5.below hb6 hy5.lt
        have hr6 := hr5.below hb6 hr5.lt
        have hs6 := hs1.later hb6
        clear hd5 hb6 hy5 hr5 hs1
        have h32 : all32 (signR seed idx d) := walkR_32 _ _ _
        have hsl : (signR seed idx d).length ≤ 18 := walkR_len _ _ _
        have hvs := ver_sign y hok
        rw [HXE.out, HSG.out] at hvs
        have HVS := Lib.hid hvs
        clear hvs hok
        generalize signR seed idx d = sg at *
        go_wp2
        rw [← hRR]
        clear hRR
        have hK6 := hK.below hbl' hkl
        obtain ⟨p11, e11⟩ : ∃ p, w3.heap.size = p := ⟨_, rfl⟩
        obtain ⟨p6, e6⟩ : ∃ p, w.heap.size = p := ⟨_, rfl⟩
        rw [e11] at hr6
        rw [e6] at hd6
        have hlt11 := hr6.lt
        have hlt6 := hd6.lt
        have hlt9 := hy6.lt
        have hltk := hK6.lt
        have hblw := hbl'
        obtain ⟨B, eB⟩ : ∃ B, w6.heap.size = B := ⟨_, rfl⟩
        refine wp_gen fun a0 ha0 => ?_
        have i14 : a0.eval (.tmp 14) = .int .i64 ((0 : Nat) : Int) := by rw [ha0]; rfl
        have i16 : a0.eval (.tmp 16) = .int .i64 ((0 : Nat) : Int) := by rw [ha0]; rfl
        have i13 : a0.eval (.tmp 13) = s1 := by rw [ha0]; rfl
        have i15 : a0.eval (.tmp 15) = s2 := by rw [ha0]; rfl
        have i11 : a0.eval (.tmp 11) = .pointer (some ⟨p11, 0, none⟩) := by rw [ha0, ← e11]; rfl
        have i9 : a0.eval (.tmp 9) = .pointer (some ⟨p9, 0, none⟩) := by rw [ha0]; rfl
        have i6 : a0.eval (.tmp 6) = .pointer (some ⟨p6, 0, none⟩) := by rw [ha0, ← e6]; rfl
        have hsz : a0.tmps.size = 95 := by rw [ha0]; rfl
        have hdf0 : a0.defers = [] := by rw [ha0]
        clear ha0
        refine wp_region_inv (B := B) [some 71, some 72, some 73, some 74, some 75, some 76, some 77, some 78, some 79, some 80, some 81, some 82, some 83, some 84, some 85, some 86, some 87, some 88, some 89, some 90, some 91, some 92, some 93, some 94, some 8] [Asrt.eq (.int .i64 ((0 : Nat) : Int)), Asrt.eq (.bool true), Asrt.eq (.bool true), Asrt.eq (.int .i64 ((0 : Nat) : Int)), Asrt.eq (.bool true), Asrt.eq (.bool true), Asrt.eq (.bool true), Asrt.eq (s1), Asrt.eq (s2), Asrt.eq (.bool true), Asrt.eq (.bool true), Asrt.eq (.bool true), Asrt.eq (.agg (cellsB (x))), Asrt.eq (.agg (cellsB (y))), Asrt.eq (s1), Asrt.eq (.bool true), Asrt.eq (.bool true), Asrt.eq (.bool true), Asrt.eq (.agg (cellsB (d))), Asrt.nums (nibs d), Asrt.eq (.agg (cellsB (y))), Asrt.nums (nibs d), Asrt.eq (.bool true), Asrt.eq (.bool true), Asrt.eq (.bool true)] rfl (by as_aux_lemma => kernel_rfl) (by rw [hsz]; as_aux_lemma => kernel_rfl) (by as_aux_lemma => kernel_rfl) (by omega) ⟨?_, ?_, ?_, ?_, ?_, ?_, ?_, ?_, ?_, ?_, ?_, ?_, ?_, ?_, ?_, ?_, ?_, ?_, ?_, ?_, ?_, ?_, ?_, ?_, ?_, trivial⟩ ?_
        · as_aux_lemma =>
            intro ev w1 hg hin hc hgl hfn hd
            have hB := hg.top
            have g14 : ev (.tmp 14) = .int .i64 ((0 : Nat) : Int) := (hin 14 (by kernel_rfl)).trans i14
            clear hin hd
            refine step_on (guard_none rfl) fun K hK => ?_
            unfold YieldsG
            go_simp
            exact hK _ _ rfl (Grow.refl hB)
        · as_aux_lemma =>
            intro ev w1 hg hin hc hgl hfn hd
            have hB := hg.top
            have f71 : (ev (.tmp 71)) = .int .i64 ((0 : Nat) : Int) := hd.1 rfl _ rfl
            clear hin hd
            refine step_on (guard_none rfl) fun K hK => ?_
            unfold YieldsG
            go_simp
            exact hK _ _ rfl (Grow.refl hB)
        · as_aux_lemma =>
            intro ev w1 hg hin hc hgl hfn hd
            have hB := hg.top
            have f72 : (ev (.tmp 72)) = .bool true := hd.1 rfl _ rfl
            clear hin hd
            refine step_on (guard_none rfl) fun K hK => ?_
            unfold YieldsG
            go_simp
            exact hK _ _ rfl (Grow.refl hB)
        · as_aux_lemma =>
            intro ev w1 hg hin hc hgl hfn hd
            have hB := hg.top
            have f73 : (ev (.tmp 73)) = .bool true := hd.1 rfl _ rfl
            have g16 : ev (.tmp 16) = .int .i64 ((0 : Nat) : Int) := (hin 16 (by kernel_rfl)).trans i16
            clear hin hd
            refine step_on (guard_some rfl rfl f73) fun K hK => ?_
            unfold YieldsG
            go_simp
            exact hK _ _ rfl (Grow.refl hB)
        · as_aux_lemma =>
            intro ev w1 hg hin hc hgl hfn hd
            have hB := hg.top
            have f74 : (ev (.tmp 74)) = .int .i64 ((0 : Nat) : Int) := hd.1 rfl _ rfl
            have f73 : (ev (.tmp 73)) = .bool true := hd.2.1 rfl _ rfl
            clear hin hd
            refine step_on (guard_some rfl rfl f73) fun K hK => ?_
            unfold YieldsG
            go_simp
            exact hK _ _ rfl (Grow.refl hB)
        · as_aux_lemma =>
            intro ev w1 hg hin hc hgl hfn hd
            have hB := hg.top
            have f73 : (ev (.tmp 73)) = .bool true := hd.1 rfl _ rfl
            have f75 : (ev (.tmp 75)) = .bool true := hd.2.1 rfl _ rfl
            clear hin hd
            refine step_on (guard_none rfl) fun K hK => ?_
            unfold YieldsG
            go_simp
            exact hK _ _ rfl (Grow.refl hB)
        · as_aux_lemma =>
            intro ev w1 hg hin hc hgl hfn hd
            have hB := hg.top
            have f76 : (ev (.tmp 76)) = .bool true := hd.1 rfl _ rfl
            clear hin hd
            refine step_on (guard_none rfl) fun K hK => ?_
            unfold YieldsG
            go_simp
            exact hK _ _ rfl (Grow.refl hB)
        · as_aux_lemma =>
            intro ev w1 hg hin hc hgl hfn hd
            have hB := hg.top
            have f77 : (ev (.tmp 77)) = .bool true := hd.1 rfl _ rfl
            have g13 : ev (.tmp 13) = s1 := (hin 13 (by kernel_rfl)).trans i13
            clear hin hd
            refine step_on (guard_some rfl rfl f77) fun K hK => ?_
            unfold YieldsG
            go_simp
            exact hK _ _ rfl (Grow.refl hB)
        · as_aux_lemma =>
            intro ev w1 hg hin hc hgl hfn hd
            have hB := hg.top
            have f77 : (ev (.tmp 77)) = .bool true := hd.1 rfl _ rfl
            have g15 : ev (.tmp 15) = s2 := (hin 15 (by kernel_rfl)).trans i15
            clear hin hd
            refine step_on (guard_some rfl rfl f77) fun K hK => ?_
            unfold YieldsG
            go_simp
            exact hK _ _ rfl (Grow.refl hB)
        · as_aux_lemma =>
            intro ev w1 hg hin hc hgl hfn hd
            have hB := hg.top
            have f78 : (ev (.tmp 78)) = s1 := hd.1 rfl _ rfl
            have f79 : (ev (.tmp 79)) = s2 := hd.2.1 rfl _ rfl
            have f77 : (ev (.tmp 77)) = .bool true := hd.2.2.1 rfl _ rfl
            clear hin hd
            refine step_on (guard_some rfl rfl f77) fun K hK => ?_
            unfold YieldsG
            go_simp
            refine (rdigests_any sg sg _ _ w1 (hs6.later (by rw [eB]; exact hg.bl)) (hs2.later (by rw [eB]; exact hg.bl)) (by omega) (by omega) h32 h32).mono ?_
            rintro e w2 ⟨rfl, hb⟩
            exact ⟨_, rfl, hK _ _ (by rw [decide_eq_true rfl]; rfl) (Grow.of hB hb)⟩
        · as_aux_lemma =>
            intro ev w1 hg hin hc hgl hfn hd
            have hB := hg.top
            have f77 : (ev (.tmp 77)) = .bool true := hd.1 rfl _ rfl
            have f80 : (ev (.tmp 80)) = .bool true := hd.2.1 rfl _ rfl
            clear hin hd
            refine step_on (guard_none rfl) fun K hK => ?_
            unfold YieldsG
            go_simp
            exact hK _ _ rfl (Grow.refl hB)
        · as_aux_lemma =>
            intro ev w1 hg hin hc hgl hfn hd
            have hB := hg.top
            have f81 : (ev (.tmp 81)) = .bool true := hd.1 rfl _ rfl
            clear hin hd
            refine step_on (guard_none rfl) fun K hK => ?_
            unfold YieldsG
            go_simp
            exact hK _ _ rfl (Grow.refl hB)
        · as_aux_lemma =>
            intro ev w1 hg hin hc hgl hfn hd
            have hB := hg.top
            have f82 : (ev (.tmp 82)) = .bool true := hd.1 rfl _ rfl
            have g11 : ev (.tmp 11) = .pointer (some ⟨p11, 0, none⟩) := (hin 11 (by kernel_rfl)).trans i11
            clear hin hd
            refine step_on (guard_some rfl rfl f82) fun K hK => ?_
            refine yg_load_row 23 (.tmp 11) rfl p11 g11 23 (cellsB x) (0, 0) _ (hr6.below hg.bl (by omega)) Tryd.underD rfl (Tryd.sizeD_of _ HX.out) ?_
            exact hK _ _ rfl (Grow.refl hB)
        · as_aux_lemma =>
            intro ev w1 hg hin hc hgl hfn hd
            have hB := hg.top
            have f82 : (ev (.tmp 82)) = .bool true := hd.1 rfl _ rfl
            have g9 : ev (.tmp 9) = .pointer (some ⟨p9, 0, none⟩) := (hin 9 (by kernel_rfl)).trans i9
            clear hin hd
            refine step_on (guard_some rfl rfl f82) fun K hK => ?_
            refine yg_load_row 23 (.tmp 9) rfl p9 g9 23 (cellsB y) (0, 0) _ (hy6.below hg.bl (by omega)) Tryd.underD rfl (Tryd.sizeD_of _ hyl.out) ?_
            exact hK _ _ rfl (Grow.refl hB)
        · as_aux_lemma =>
            intro ev w1 hg hin hc hgl hfn hd
            have hB := hg.top
            have f82 : (ev (.tmp 82)) = .bool true := hd.1 rfl _ rfl
            have g13 : ev (.tmp 13) = s1 := (hin 13 (by kernel_rfl)).trans i13
            clear hin hd
            refine step_on (guard_some rfl rfl f82) fun K hK => ?_
            unfold YieldsG
            go_simp
            exact hK _ _ rfl (Grow.refl hB)
        · as_aux_lemma =>
            intro ev w1 hg hin hc hgl hfn hd
            have hB := hg.top
            have f83 : (ev (.tmp 83)) = .agg (cellsB (x)) := hd.1 rfl _ rfl
            have f84 : (ev (.tmp 84)) = .agg (cellsB (y)) := hd.2.1 rfl _ rfl
            have f85 : (ev (.tmp 85)) = s1 := hd.2.2.1 rfl _ rfl
            have f82 : (ev (.tmp 82)) = .bool true := hd.2.2.2.1 rfl _ rfl
            clear hin hd
            refine step_on (guard_some rfl rfl f82) fun K hK => ?_
            unfold YieldsG
            go_simp
            refine (verify_any x y sg _ w1 HX.out hyl.out (hs6.later (by rw [eB]; exact hg.bl)) h32 (hK6.below hg.bl (by omega))).mono ?_
            rintro e w2 ⟨rfl, hb⟩
            exact ⟨_, rfl, hK _ _ (by rw [HVS.out]; rfl) (Grow.of hB hb)⟩
        · as_aux_lemma =>
            intro ev w1 hg hin hc hgl hfn hd
            have hB := hg.top
            have f82 : (ev (.tmp 82)) = .bool true := hd.1 rfl _ rfl
            have f86 : (ev (.tmp 86)) = .bool true := hd.2.1 rfl _ rfl
            clear hin hd
            refine step_on (guard_none rfl) fun K hK => ?_
            unfold YieldsG
            go_simp
            exact hK _ _ rfl (Grow.refl hB)
        · as_aux_lemma =>
            intro ev w1 hg hin hc hgl hfn hd
            have hB := hg.top
            have f87 : (ev (.tmp 87)) = .bool true := hd.1 rfl _ rfl
            clear hin hd
            refine step_on (guard_none rfl) fun K hK => ?_
            unfold YieldsG
            go_simp
            exact hK _ _ rfl (Grow.refl hB)
        · as_aux_lemma =>
            intro ev w1 hg hin hc hgl hfn hd
            have hB := hg.top
            have f88 : (ev (.tmp 88)) = .bool true := hd.1 rfl _ rfl
            have g6 : ev (.tmp 6) = .pointer (some ⟨p6, 0, none⟩) := (hin 6 (by kernel_rfl)).trans i6
            clear hin hd
            refine step_on (guard_some rfl rfl f88) fun K hK => ?_
            refine yg_load_row 23 (.tmp 6) rfl p6 g6 23 (cellsB d) (0, 0) _ (hd6.below hg.bl (by omega)) Tryd.underD rfl (Tryd.sizeD_of _ HD.out) ?_
            exact hK _ _ rfl (Grow.refl hB)
        · as_aux_lemma =>
            intro ev w1 hg hin hc hgl hfn hd
            have hB := hg.top
            have f89 : (ev (.tmp 89)) = .agg (cellsB (d)) := hd.1 rfl _ rfl
            have f88 : (ev (.tmp 88)) = .bool true := hd.2.1 rfl _ rfl
            clear hin hd
            refine step_on (guard_some rfl rfl f88) fun K hK => ?_
            unfold YieldsG
            go_simp
            refine (nibbles_any d w1 HD.out).mono ?_
            rintro e w2 ⟨u, rfl, hu, hb⟩
            exact ⟨_, rfl, hK _ _ hu (Grow.of hB hb)⟩
        · as_aux_lemma =>
            intro ev w1 hg hin hc hgl hfn hd
            have hB := hg.top
            have f88 : (ev (.tmp 88)) = .bool true := hd.1 rfl _ rfl
            have g9 : ev (.tmp 9) = .pointer (some ⟨p9, 0, none⟩) := (hin 9 (by kernel_rfl)).trans i9
            clear hin hd
            refine step_on (guard_some rfl rfl f88) fun K hK => ?_
            refine yg_load_row 23 (.tmp 9) rfl p9 g9 23 (cellsB y) (0, 0) _ (hy6.below hg.bl (by omega)) Tryd.underD rfl (Tryd.sizeD_of _ hyl.out) ?_
            exact hK _ _ rfl (Grow.refl hB)
        · as_aux_lemma =>
            intro ev w1 hg hin hc hgl hfn hd
            have hB := hg.top
            have f91 : (ev (.tmp 91)) = .agg (cellsB (y)) := hd.1 rfl _ rfl
            have f88 : (ev (.tmp 88)) = .bool true := hd.2.2.1 rfl _ rfl
            clear hin hd
            refine step_on (guard_some rfl rfl f88) fun K hK => ?_
            unfold YieldsG
            go_simp
            refine (nibbles_any y w1 hyl.out).mono ?_
            rintro e w2 ⟨u, rfl, hu, hb⟩
            exact ⟨_, rfl, hK _ _ (by rw [← HNB.out] at hu; exact hu) (Grow.of hB hb)⟩
        · as_aux_lemma =>
            intro ev w1 hg hin hc hgl hfn hd
            have hB := hg.top
            have f90 : Nums w1 (ev (.tmp 90)) (nibs d) := hd.1 rfl _ rfl
            have f92 : Nums w1 (ev (.tmp 92)) (nibs d) := hd.2.1 rfl _ rfl
            have f88 : (ev (.tmp 88)) = .bool true := hd.2.2.2.1 rfl _ rfl
            clear hin hd
            refine step_on (guard_some rfl rfl f88) fun K hK => ?_
            unfold YieldsG
            go_simp
            refine (ints_any (nibs d) (nibs d) _ _ w1 f90 f92 (by rw [nibs_len]; decide) (by rw [nibs_len]; decide)).mono ?_
            rintro e w2 ⟨rfl, hb⟩
            exact ⟨_, rfl, hK _ _ (by rw [decide_eq_true rfl]; rfl) (Grow.of hB hb)⟩
        · as_aux_lemma =>
            intro ev w1 hg hin hc hgl hfn hd
            have hB := hg.top
            have f88 : (ev (.tmp 88)) = .bool true := hd.1 rfl _ rfl
            have f93 : (ev (.tmp 93)) = .bool true := hd.2.1 rfl _ rfl
            clear hin hd
            refine step_on (guard_none rfl) fun K hK => ?_
            unfold YieldsG
            go_simp
            exact hK _ _ rfl (Grow.refl hB)
        · as_aux_lemma =>
            intro ev w1 hg hin hc hgl hfn hd
            have hB := hg.top
            have f94 : (ev (.tmp 94)) = .bool true := hd.1 rfl _ rfl
            clear hin hd
            refine step_on (guard_none rfl) fun K hK => ?_
            unfold YieldsG
            go_simp
            exact hK _ _ rfl (Grow.refl hB)
        · intro v w2 hg hall
          have hr : v 24 = .bool true := hall.2.2.2.2.2.2.2.2.2.2.2.2.2.2.2.2.2.2.2.2.2.2.2.2.1 (by simp)
          generalize hput : putAll _ v 0 _ = af
          have h0 : af.tmps.getD 8 undef = v 24 := by rw [← hput]; exact putAll_at (by rw [hsz]; as_aux_lemma => kernel_rfl) rfl rfl
          have hdf : af.defers = [] := by rw [← hput, putAll_defers]; exact hdf0
          clear hput hall
          go_wp2
          refine bodyPost_ret (results_tmp rfl _ _ _) hdf ⟨?_, hbl'.trans (hg.bl.mono (by rw [← eB]; exact hbl'.size))⟩
          rw [h0, hr]
      · go_wp2_with fail
        refine (public_any seed _ idx wr hvr (hK.below hb hkl)).mono ?_
        rintro e w3 ⟨rfl, hb3⟩
        obtain ⟨x, hx⟩ : ∃ x, pubR seed idx = x := ⟨_, rfl⟩
        have hxl : x.length = 32 := by rw [← hx]; exact pubR_len _ _
        have HX := Lib.hid hxl
        have HSX := Lib.hid (Tryd.sizeD_of x hxl)
        have HCX : Hid ((cellsB x).size = (cellsB (List.replicate 32 0)).size) := Lib.hid (by rw [cellsB_size, hxl]; rfl)
        rw [hx, HER.out]
        have HXE := Lib.hid hx
        have hB3 := hb.trans (hb3.mono hb.size)
        have hd3 := hdr.below hb3 hdr.lt
        have hy3 := hy.below hb3 hy.lt
        clear hx hxl hb3 hdr hy
        go_wp2_with (first | (refine wpList_store_row rfl 23 (.tmp 11) (.tmp 45) rfl w3.heap.size rfl (cellsB x) (cellsB (List.replicate 32 0)) 23 rfl (Row.new w3 _ _) HCX.out HSX.out (cellsB_one _) ?_; intro w4 hgw4 hrw4 hzw4; clear hzw4; have hbw4 := box_below hgw4; clear hgw4; have hd4 := hd3.below hbw4 hd3.lt) | (refine wpList_load_row rfl 23 (.tmp 6) rfl w.heap.size rfl 23 (cellsB d) (0, 0) _ hd4 Tryd.underD rfl HSD.out ?_))
        have hB4 := hB3.trans (hbw4.mono hB3.size)
        have hy4 := hy3.below hbw4 hy3.lt
        have hv4 := (hv.later hB4).imp (ok' := fun _ => True) fun _ _ => trivial
        clear hd3 hbw4 hy3
        refine (sign_any seed d _ idx w4 hv4 HD.out (hK.below hB4 hkl)).mono ?_
        rintro e w5 ⟨s1, rfl, hs1, hb5⟩
        rw [HER.out]
        have hB5 := hB4.trans (hb5.mono hB4.size)
        have hd5 := hd4.below hb5 hd4.lt
        have hy5 := hy4.below hb5 hy4.lt
        have hr5 := hrw4.below hb5 hrw4.lt
        have hv5 := (hv.later hB5).imp (ok' := fun _ => True) fun _ _ => trivial
        clear hd4 hb5 hy4 hrw4
        go_wp2_with (refine wpList_load_row rfl 23 (.tmp 9) rfl p9 rfl 23 (cellsB y) (0, 0) _ hy5 Tryd.underD rfl HSY.out ?_)
        refine (sign_any seed y _ idx w5 hv5 hyl.out (hK.below hB5 hkl)).mono ?_
        rintro e w6 ⟨s2, rfl, hs2, hb6⟩
        rw [HER.out]
        rw [HSG.out] at hs2
        have hbl' := hB5.trans (hb6.mono hB5.size)
        have hd6 := hd5.below hb6 hd5.lt
        have hy6 := hy5.below hb6 hy5.lt
        have hr6 := hr5.below hb6 hr5.lt
        have hs6 := hs1.later hb6
        clear hd5 hb6 hy5 hr5 hs1
        have h32 : all32 (signR seed idx d) := walkR_32 _ _ _
        have hsl : (signR seed idx d).length ≤ 18 := walkR_len _ _ _
        have hvs := ver_sign y hok
        rw [HXE.out, HSG.out] at hvs
        have HVS := Lib.hid hvs
        clear hvs hok
        generalize signR seed idx d = sg at *
        go_wp2
        rw [← hRR]
        clear hRR
        have hK6 := hK.below hbl' hkl
        obtain ⟨p11, e11⟩ : ∃ p, w3.heap.size = p := ⟨_, rfl⟩
        obtain ⟨p6, e6⟩ : ∃ p, w.heap.size = p := ⟨_, rfl⟩
        rw [e11] at hr6
        rw [e6] at hd6
        have hlt11 := hr6.lt
        have hlt6 := hd6.lt
        have hlt9 := hy6.lt
        have hltk := hK6.lt
        have hblw := hbl'
        obtain ⟨B, eB⟩ : ∃ B, w6.heap.size = B := ⟨_, rfl⟩
        refine wp_gen fun a0 ha0 => ?_
        have i14 : a0.eval (.tmp 14) = .int .i64 ((0 : Nat) : Int) := by rw [ha0]; rfl
        have i16 : a0.eval (.tmp 16) = .int .i64 ((0 : Nat) : Int) := by rw [ha0]; rfl
        have i13 : a0.eval (.tmp 13) = s1 := by rw [ha0]; rfl
        have i15 : a0.eval (.tmp 15) = s2 := by rw [ha0]; rfl
        have i11 : a0.eval (.tmp 11) = .pointer (some ⟨p11, 0, none⟩) := by rw [ha0, ← e11]; rfl
        have i9 : a0.eval (.tmp 9) = .pointer (some ⟨p9, 0, none⟩) := by rw [ha0]; rfl
        have i6 : a0.eval (.tmp 6) = .pointer (some ⟨p6, 0, none⟩) := by rw [ha0, ← e6]; rfl
        have hsz : a0.tmps.size = 95 := by rw [ha0]; rfl
        have hdf0 : a0.defers = [] := by rw [ha0]
        clear ha0
        refine wp_region_inv (B := B) [some 71, some 72, some 73, some 74, some 75, some 76, some 77, some 78, some 79, some 80, some 81, some 82, some 83, some 84, some 85, some 86, some 87, some 88, some 89, some 90, some 91, some 92, some 93, some 94, some 8] [Asrt.eq (.int .i64 ((0 : Nat) : Int)), Asrt.eq (.bool true), Asrt.eq (.bool true), Asrt.eq (.int .i64 ((0 : Nat) : Int)), Asrt.eq (.bool true), Asrt.eq (.bool true), Asrt.eq (.bool true), Asrt.eq (s1), Asrt.eq (s2), Asrt.eq (.bool true), Asrt.eq (.bool true), Asrt.eq (.bool true), Asrt.eq (.agg (cellsB (x))), Asrt.eq (.agg (cellsB (y))), Asrt.eq (s1), Asrt.eq (.bool true), Asrt.eq (.bool true), Asrt.eq (.bool true), Asrt.eq (.agg (cellsB (d))), Asrt.nums (nibs d), Asrt.eq (.agg (cellsB (y))), Asrt.nums (nibs d), Asrt.eq (.bool true), Asrt.eq (.bool true), Asrt.eq (.bool true)] rfl (by as_aux_lemma => kernel_rfl) (by rw [hsz]; as_aux_lemma => kernel_rfl) (by as_aux_lemma => kernel_rfl) (by omega) ⟨?_, ?_, ?_, ?_, ?_, ?_, ?_, ?_, ?_, ?_, ?_, ?_, ?_, ?_, ?_, ?_, ?_, ?_, ?_, ?_, ?_, ?_, ?_, ?_, ?_, trivial⟩ ?_
        · as_aux_lemma =>
            intro ev w1 hg hin hc hgl hfn hd
            have hB := hg.top
            have g14 : ev (.tmp 14) = .int .i64 ((0 : Nat) : Int) := (hin 14 (by kernel_rfl)).trans i14
            clear hin hd
            refine step_on (guard_none rfl) fun K hK => ?_
            unfold YieldsG
            go_simp
            exact hK _ _ rfl (Grow.refl hB)
        · as_aux_lemma =>
            intro ev w1 hg hin hc hgl hfn hd
            have hB := hg.top
            have f71 : (ev (.tmp 71)) = .int .i64 ((0 : Nat) : Int) := hd.1 rfl _ rfl
            clear hin hd
            refine step_on (guard_none rfl) fun K hK => ?_
            unfold YieldsG
            go_simp
            exact hK _ _ rfl (Grow.refl hB)
        · as_aux_lemma =>
            intro ev w1 hg hin hc hgl hfn hd
            have hB := hg.top
            have f72 : (ev (.tmp 72)) = .bool true := hd.1 rfl _ rfl
            clear hin hd
            refine step_on (guard_none rfl) fun K hK => ?_
            unfold YieldsG
            go_simp
            exact hK _ _ rfl (Grow.refl hB)
        · as_aux_lemma =>
            intro ev w1 hg hin hc hgl hfn hd
            have hB := hg.top
            have f73 : (ev (.tmp 73)) = .bool true := hd.1 rfl _ rfl
            have g16 : ev (.tmp 16) = .int .i64 ((0 : Nat) : Int) := (hin 16 (by kernel_rfl)).trans i16
            clear hin hd
            refine step_on (guard_some rfl rfl f73) fun K hK => ?_
            unfold YieldsG
            go_simp
            exact hK _ _ rfl (Grow.refl hB)
        · as_aux_lemma =>
            intro ev w1 hg hin hc hgl hfn hd
            have hB := hg.top
            have f74 : (ev (.tmp 74)) = .int .i64 ((0 : Nat) : Int) := hd.1 rfl _ rfl
            have f73 : (ev (.tmp 73)) = .bool true := hd.2.1 rfl _ rfl
            clear hin hd
            refine step_on (guard_some rfl rfl f73) fun K hK => ?_
            unfold YieldsG
            go_simp
            exact hK _ _ rfl (Grow.refl hB)
        · as_aux_lemma =>
            intro ev w1 hg hin hc hgl hfn hd
            have hB := hg.top
            have f73 : (ev (.tmp 73)) = .bool true := hd.1 rfl _ rfl
            have f75 : (ev (.tmp 75)) = .bool true := hd.2.1 rfl _ rfl
            clear hin hd
            refine step_on (guard_none rfl) fun K hK => ?_
            unfold YieldsG
            go_simp
            exact hK _ _ rfl (Grow.refl hB)
        · as_aux_lemma =>
            intro ev w1 hg hin hc hgl hfn hd
            have hB := hg.top
            have f76 : (ev (.tmp 76)) = .bool true := hd.1 rfl _ rfl
            clear hin hd
            refine step_on (guard_none rfl) fun K hK => ?_
            unfold YieldsG
            go_simp
            exact hK _ _ rfl (Grow.refl hB)
        · as_aux_lemma =>
            intro ev w1 hg hin hc hgl hfn hd
            have hB := hg.top
            have f77 : (ev (.tmp 77)) = .bool true := hd.1 rfl _ rfl
            have g13 : ev (.tmp 13) = s1 := (hin 13 (by kernel_rfl)).trans i13
            clear hin hd
            refine step_on (guard_some rfl rfl f77) fun K hK => ?_
            unfold YieldsG
            go_simp
            exact hK _ _ rfl (Grow.refl hB)
        · as_aux_lemma =>
            intro ev w1 hg hin hc hgl hfn hd
            have hB := hg.top
            have f77 : (ev (.tmp 77)) = .bool true := hd.1 rfl _ rfl
            have g15 : ev (.tmp 15) = s2 := (hin 15 (by kernel_rfl)).trans i15
            clear hin hd
            refine step_on (guard_some rfl rfl f77) fun K hK => ?_
            unfold YieldsG
            go_simp
            exact hK _ _ rfl (Grow.refl hB)
        · as_aux_lemma =>
            intro ev w1 hg hin hc hgl hfn hd
            have hB := hg.top
            have f78 : (ev (.tmp 78)) = s1 := hd.1 rfl _ rfl
            have f79 : (ev (.tmp 79)) = s2 := hd.2.1 rfl _ rfl
            have f77 : (ev (.tmp 77)) = .bool true := hd.2.2.1 rfl _ rfl
            clear hin hd
            refine step_on (guard_some rfl rfl f77) fun K hK => ?_
            unfold YieldsG
            go_simp
            refine (rdigests_any sg sg _ _ w1 (hs6.later (by rw [eB]; exact hg.bl)) (hs2.later (by rw [eB]; exact hg.bl)) (by omega) (by omega) h32 h32).mono ?_
            rintro e w2 ⟨rfl, hb⟩
            exact ⟨_, rfl, hK _ _ (by rw [decide_eq_true rfl]; rfl) (Grow.of hB hb)⟩
        · as_aux_lemma =>
            intro ev w1 hg hin hc hgl hfn hd
            have hB := hg.top
            have f77 : (ev (.tmp 77)) = .bool true := hd.1 rfl _ rfl
            have f80 : (ev (.tmp 80)) = .bool true := hd.2.1 rfl _ rfl
            clear hin hd
            refine step_on (guard_none rfl) fun K hK => ?_
            unfold YieldsG
            go_simp
            exact hK _ _ rfl (Grow.refl hB)
        · as_aux_lemma =>
            intro ev w1 hg hin hc hgl hfn hd
            have hB := hg.top
            have f81 : (ev (.tmp 81)) = .bool true := hd.1 rfl _ rfl
            clear hin hd
            refine step_on (guard_none rfl) fun K hK => ?_
            unfold YieldsG
            go_simp
            exact hK _ _ rfl (Grow.refl hB)
        · as_aux_lemma =>
            intro ev w1 hg hin hc hgl hfn hd
            have hB := hg.top
            have f82 : (ev (.tmp 82)) = .bool true := hd.1 rfl _ rfl
            have g11 : ev (.tmp 11) = .pointer (some ⟨p11, 0, none⟩) := (hin 11 (by kernel_rfl)).trans i11
            clear hin hd
            refine step_on (guard_some rfl rfl f82) fun K hK => ?_
            refine yg_load_row 23 (.tmp 11) rfl p11 g11 23 (cellsB x) (0, 0) _ (hr6.below hg.bl (by omega)) Tryd.underD rfl (Tryd.sizeD_of _ HX.out) ?_
            exact hK _ _ rfl (Grow.refl hB)
        · as_aux_lemma =>
            intro ev w1 hg hin hc hgl hfn hd
            have hB := hg.top
            have f82 : (ev (.tmp 82)) = .bool true := hd.1 rfl _ rfl
            have g9 : ev (.tmp 9) = .pointer (some ⟨p9, 0, none⟩) := (hin 9 (by kernel_rfl)).trans i9
            clear hin hd
            refine step_on (guard_some rfl rfl f82) fun K hK => ?_
            refine yg_load_row 23 (.tmp 9) rfl p9 g9 23 (cellsB y) (0, 0) _ (hy6.below hg.bl (by omega)) Tryd.underD rfl (Tryd.sizeD_of _ hyl.out) ?_
            exact hK _ _ rfl (Grow.refl hB)
        · as_aux_lemma =>
            intro ev w1 hg hin hc hgl hfn hd
            have hB := hg.top
            have f82 : (ev (.tmp 82)) = .bool true := hd.1 rfl _ rfl
            have g13 : ev (.tmp 13) = s1 := (hin 13 (by kernel_rfl)).trans i13
            clear hin hd
            refine step_on (guard_some rfl rfl f82) fun K hK => ?_
            unfold YieldsG
            go_simp
            exact hK _ _ rfl (Grow.refl hB)
        · as_aux_lemma =>
            intro ev w1 hg hin hc hgl hfn hd
            have hB := hg.top
            have f83 : (ev (.tmp 83)) = .agg (cellsB (x)) := hd.1 rfl _ rfl
            have f84 : (ev (.tmp 84)) = .agg (cellsB (y)) := hd.2.1 rfl _ rfl
            have f85 : (ev (.tmp 85)) = s1 := hd.2.2.1 rfl _ rfl
            have f82 : (ev (.tmp 82)) = .bool true := hd.2.2.2.1 rfl _ rfl
            clear hin hd
            refine step_on (guard_some rfl rfl f82) fun K hK => ?_
            unfold YieldsG
            go_simp
            refine (verify_any x y sg _ w1 HX.out hyl.out (hs6.later (by rw [eB]; exact hg.bl)) h32 (hK6.below hg.bl (by omega))).mono ?_
            rintro e w2 ⟨rfl, hb⟩
            exact ⟨_, rfl, hK _ _ (by rw [HVS.out]; rfl) (Grow.of hB hb)⟩
        · as_aux_lemma =>
            intro ev w1 hg hin hc hgl hfn hd
            have hB := hg.top
            have f82 : (ev (.tmp 82)) = .bool true := hd.1 rfl _ rfl
            have f86 : (ev (.tmp 86)) = .bool true := hd.2.1 rfl _ rfl
            clear hin hd
            refine step_on (guard_none rfl) fun K hK => ?_
            unfold YieldsG
            go_simp
            exact hK _ _ rfl (Grow.refl hB)
        · as_aux_lemma =>
            intro ev w1 hg hin hc hgl hfn hd
            have hB := hg.top
            have f87 : (ev (.tmp 87)) = .bool true := hd.1 rfl _ rfl
            clear hin hd
            refine step_on (guard_none rfl) fun K hK => ?_
            unfold YieldsG
            go_simp
            exact hK _ _ rfl (Grow.refl hB)
        · as_aux_lemma =>
            intro ev w1 hg hin hc hgl hfn hd
            have hB := hg.top
            have f88 : (ev (.tmp 88)) = .bool true := hd.1 rfl _ rfl
            have g6 : ev (.tmp 6) = .pointer (some ⟨p6, 0, none⟩) := (hin 6 (by kernel_rfl)).trans i6
            clear hin hd
            refine step_on (guard_some rfl rfl f88) fun K hK => ?_
            refine yg_load_row 23 (.tmp 6) rfl p6 g6 23 (cellsB d) (0, 0) _ (hd6.below hg.bl (by omega)) Tryd.underD rfl (Tryd.sizeD_of _ HD.out) ?_
            exact hK _ _ rfl (Grow.refl hB)
        · as_aux_lemma =>
            intro ev w1 hg hin hc hgl hfn hd
            have hB := hg.top
            have f89 : (ev (.tmp 89)) = .agg (cellsB (d)) := hd.1 rfl _ rfl
            have f88 : (ev (.tmp 88)) = .bool true := hd.2.1 rfl _ rfl
            clear hin hd
            refine step_on (guard_some rfl rfl f88) fun K hK => ?_
            unfold YieldsG
            go_simp
            refine (nibbles_any d w1 HD.out).mono ?_
            rintro e w2 ⟨u, rfl, hu, hb⟩
            exact ⟨_, rfl, hK _ _ hu (Grow.of hB hb)⟩
        · as_aux_lemma =>
            intro ev w1 hg hin hc hgl hfn hd
            have hB := hg.top
            have f88 : (ev (.tmp 88)) = .bool true := hd.1 rfl _ rfl
            have g9 : ev (.tmp 9) = .pointer (some ⟨p9, 0, none⟩) := (hin 9 (by kernel_rfl)).trans i9
            clear hin hd
            refine step_on (guard_some rfl rfl f88) fun K hK => ?_
            refine yg_load_row 23 (.tmp 9) rfl p9 g9 23 (cellsB y) (0, 0) _ (hy6.below hg.bl (by omega)) Tryd.underD rfl (Tryd.sizeD_of _ hyl.out) ?_
            exact hK _ _ rfl (Grow.refl hB)
        · as_aux_lemma =>
            intro ev w1 hg hin hc hgl hfn hd
            have hB := hg.top
            have f91 : (ev (.tmp 91)) = .agg (cellsB (y)) := hd.1 rfl _ rfl
            have f88 : (ev (.tmp 88)) = .bool true := hd.2.2.1 rfl _ rfl
            clear hin hd
            refine step_on (guard_some rfl rfl f88) fun K hK => ?_
            unfold YieldsG
            go_simp
            refine (nibbles_any y w1 hyl.out).mono ?_
            rintro e w2 ⟨u, rfl, hu, hb⟩
            exact ⟨_, rfl, hK _ _ (by rw [← HNB.out] at hu; exact hu) (Grow.of hB hb)⟩
        · as_aux_lemma =>
            intro ev w1 hg hin hc hgl hfn hd
            have hB := hg.top
            have f90 : Nums w1 (ev (.tmp 90)) (nibs d) := hd.1 rfl _ rfl
            have f92 : Nums w1 (ev (.tmp 92)) (nibs d) := hd.2.1 rfl _ rfl
            have f88 : (ev (.tmp 88)) = .bool true := hd.2.2.2.1 rfl _ rfl
            clear hin hd
            refine step_on (guard_some rfl rfl f88) fun K hK => ?_
            unfold YieldsG
            go_simp
            refine (ints_any (nibs d) (nibs d) _ _ w1 f90 f92 (by rw [nibs_len]; decide) (by rw [nibs_len]; decide)).mono ?_
            rintro e w2 ⟨rfl, hb⟩
            exact ⟨_, rfl, hK _ _ (by rw [decide_eq_true rfl]; rfl) (Grow.of hB hb)⟩
        · as_aux_lemma =>
            intro ev w1 hg hin hc hgl hfn hd
            have hB := hg.top
            have f88 : (ev (.tmp 88)) = .bool true := hd.1 rfl _ rfl
            have f93 : (ev (.tmp 93)) = .bool true := hd.2.1 rfl _ rfl
            clear hin hd
            refine step_on (guard_none rfl) fun K hK => ?_
            unfold YieldsG
            go_simp
            exact hK _ _ rfl (Grow.refl hB)
        · as_aux_lemma =>
            intro ev w1 hg hin hc hgl hfn hd
            have hB := hg.top
            have f94 : (ev (.tmp 94)) = .bool true := hd.1 rfl _ rfl
            clear hin hd
            refine step_on (guard_none rfl) fun K hK => ?_
            unfold YieldsG
            go_simp
            exact hK _ _ rfl (Grow.refl hB)
        · intro v w2 hg hall
          have hr : v 24 = .bool true := hall.2.2.2.2.2.2.2.2.2.2.2.2.2.2.2.2.2.2.2.2.2.2.2.2.1 (by simp)
          generalize hput : putAll _ v 0 _ = af
          have h0 : af.tmps.getD 8 undef = v 24 := by rw [← hput]; exact putAll_at (by rw [hsz]; as_aux_lemma => kernel_rfl) rfl rfl
          have hdf : af.defers = [] := by rw [← hput, putAll_defers]; exact hdf0
          clear hput hall
          go_wp2
          refine bodyPost_ret (results_tmp rfl _ _ _) hdf ⟨?_, hbl'.trans (hg.bl.mono (by rw [← eB]; exact hbl'.size))⟩
          rw [h0, hr]
set_option maxRecDepth 100000 in
set_option maxHeartbeats 4000000 in
theorem sp_no (seed : List UInt8) (v : Value) (idx : Int) (d tl : List UInt8) (tv : Value) (w : World) (hv : Bytes w v seed (fun _ => True)) (hd : d.length = 32) (ht : Bytes w tv tl (fun _ => True)) (hK : KFact w) (hc : ¬ 200 < seed.length) (hok : okSeed seed idx = false) :
    Calls Tryd.prog 10 #[v, .int .i64 idx, .agg (cellsB d), tv] w fun e w' => e = .returned (.bool true) ∧ Below w.heap.size w w' := by
  have hkl := hK.lt
  have HD := Lib.hid hd
  have HSD := Lib.hid (Tryd.sizeD_of d hd)
  have HCD : Hid ((cellsB d).size = (cellsB (List.replicate 32 0)).size) := Lib.hid (by rw [cellsB_size, hd]; rfl)
  clear hd
  obtain ⟨av, kv, rfl⟩ : ∃ a c, v = .slice a seed.length c := by obtain ⟨a, c, h, _⟩ := hv; exact ⟨a, c, h⟩
  obtain ⟨at', kt, rfl⟩ : ∃ a c, tv = .slice a tl.length c := by obtain ⟨a, c, h, _⟩ := ht; exact ⟨a, c, h⟩
  have htc : tl.length ≤ 9223372036854775807 := by
    obtain ⟨_, c, e, h1, h2, _⟩ := ht; exact Nat.le_trans h1 h2
  have hb0 : Below w.heap.size w (w.alloc (.cells (cellsB d) 23)) := (Below.refl _ _).alloc (Nat.le_refl _) _
  have hd0 : Row (w.alloc (.cells (cellsB d) 23)) w.heap.size 23 (cellsB d) := Row.new w _ _
  go_enter Tryd.func10, Tryd.ntmps10
  generalize hRR : Code.region 15 _ _ = RR
  go_wp2_with fail
  refine (sane_any _ (hK.below hb0 hkl)).mono ?_
  rintro e w0 ⟨rfl, hb1⟩
  have hB0 := hb0.trans (hb1.mono hb0.size)
  have hdw := hd0.below hb1 hd0.lt
  clear hb0 hd0 hb1
  have HER := Lib.hid (errR_bad hok)
  go_wp2_with (first | (refine wpList_load_row rfl 23 (.tmp 6) rfl w.heap.size rfl 23 (cellsB d) (0, 0) _ hdw Tryd.underD rfl HSD.out ?_) | (refine wpList_store_row rfl 23 (.tmp 9) (.tmp 22) rfl w0.heap.size rfl (cellsB d) (cellsB (List.replicate 32 0)) 23 rfl (Row.new w0 _ _) HCD.out HSD.out (cellsB_one _) ?_; intro w1 hg1 hr1 hz1; clear hz1; have hb1 := box_below hg1; clear hg1))
  have hB1 := hB0.trans (hb1.mono hB0.size)
  have hd1 := hdw.below hb1 hdw.lt
  have hz0 := hB0.size
  have hlx := hdw.lt
  clear hdw hb1
  obtain ⟨p9, e9⟩ : ∃ p, w0.heap.size = p := ⟨_, rfl⟩
  rw [e9] at hr1 hz0 hlx
  rw [e9]
  clear e9
  go_loopw [10] (fun t wr => ∃ (j : Nat) (y : List UInt8), j ≤ 24 ∧ t = .int .i64 (8 + (j : Int)) ∧ Row wr p9 23 (cellsB y) ∧ Hid (y.length = 32) ∧ Hid (y.take 8 = d.take 8) ∧ Row wr w.heap.size 23 (cellsB d) ∧ Below w.heap.size w wr) (fun t _ => 32 - (intOf t).toNat)
  case atStart => exact ⟨0, d, by omega, rfl, hr1, HD, rfl, hd1, hB1⟩
  case round =>
    clear hr1 hd1 hB1
    obtain ⟨j, y, hj, rfl, hy, hyl, hyt, hdr, hb⟩ := hrel
    by_cases hgo : j < 24 ∧ j < tl.length
    · obtain ⟨hj1, hj2⟩ := hgo
      have htr := (ht.later hb).imp (ok' := fun _ => True) fun _ _ => trivial
      have hj3 : (j : Int) < tl.length := by omega
      have hj4 : (8 : Int) + j < 32 := by omega
      have HTL := Lib.hid (rfl : tl.length = tl.length)
      obtain ⟨n, hn⟩ : ∃ n, tl.length = n := ⟨_, rfl⟩
      have HN := Lib.hid hn
      rw [hn] at hj2 hj3 htr htc ⊢
      clear hn HTL
      obtain ⟨tb, to, rfl, -, hk1, hk2, hat⟩ := htr.at (by omega)
      have c1 := hat j (by rw [HN.out]; exact hj2)
      have c2 := hy.byte (8 + j) (by rw [hyl.out]; omega)
      have f2 := hy.free (8 + j)
      have hset := hy.setB (8 + j) (tl.getD j 0)
      have hsl : Hid ((y.set (8 + j) (tl.getD j 0)).length = 32) := Lib.hid (by rw [List.length_set]; exact hyl.out)
      have hst : Hid ((y.set (8 + j) (tl.getD j 0)).take 8 = d.take 8) := take8_set j _ hyt.out
      have hby : by8 tl j = Y (tl.getD j 0) := rfl
      rw [hby] at c1
      clear htr hat hby
      generalize tl.getD j 0 = c at *
      generalize y.set (8 + j) c = y' at *
      have hb2 := hb.setCell (p := ⟨p9, 8 + j, none⟩) hz0 (.int .u8 (Y c))
      have hd2 := hdr.other ⟨p9, 8 + j, none⟩ (.int .u8 (Y c)) (by simp; omega)
      go_wp2
      go_roundw
      case rel => exact ⟨j + 1, y', by omega, by go_num, hset, hsl, hst, hd2, hb2⟩
      case measure => simp [intOf]; omega
    · have hfin : ((decide ((8 : Int) + j < 32)) && decide ((j : Int) < tl.length)) = false := by
        by_cases h1 : j < 24
        · rw [decide_eq_false (show ¬ (j : Int) < tl.length from fun h => hgo ⟨h1, by omega⟩), Bool.and_false]
        · rw [decide_eq_false (show ¬ (8 : Int) + j < 32 by omega)]; rfl
      have hsgn : signR seed idx y = signR seed idx d := walkR_congr fun i _ => nib_congr ((take8_eq hyl.out HD.out).1 hyt.out) i
      have hnb : nibs d = nibs y := (nibs_iff HD.out hyl.out).2 hyt.out.symm
      have HSG := Lib.hid hsgn
      have HNB := Lib.hid hnb
      have HSY := Lib.hid (Tryd.sizeD_of y hyl.out)
      have hvr := (hv.later hb).imp (ok' := fun _ => True) fun _ _ => trivial
      clear hsgn hnb hyt
      have hcase : (¬ (8 : Int) + j < 32) ∨ ((8 : Int) + j < 32 ∧ ¬ (j : Int) < tl.length) := by
        by_cases h1 : (8 : Int) + j < 32
        · exact .inr ⟨h1, fun h => hgo ⟨by omega, by omega⟩⟩
        · exact .inl h1
      clear hfin hgo
      rcases hcase with hq | ⟨hq, hq2⟩
      · go_wp2_with fail
        refine (public_any seed _ idx wr hvr (hK.below hb hkl)).mono ?_
        rintro e w3 ⟨rfl, hb3⟩
        obtain ⟨x, hx⟩ : ∃ x, pubR seed idx = x := ⟨_, rfl⟩
        have hxl : x.length = 32 := by rw [← hx]; exact pubR_len _ _
        have HX := Lib.hid hxl
        have HSX := Lib.hid (Tryd.sizeD_of x hxl)
        have HCX : Hid ((cellsB x).size = (cellsB (List.replicate 32 0)).size) := Lib.hid (by rw [cellsB_size, hxl]; rfl)
        rw [hx, HER.out]
        have HXE := Lib.hid hx
        have hB3 := hb.trans (hb3.mono hb.size)
        have hd3 := hdr.below hb3 hdr.lt
        have hy3 := hy.below hb3 hy.lt
        clear hx hxl hb3 hdr hy
        go_wp2_with (first | (refine wpList_store_row rfl 23 (.tmp 11) (.tmp 45) rfl w3.heap.size rfl (cellsB x) (cellsB (List.replicate 32 0)) 23 rfl (Row.new w3 _ _) HCX.out HSX.out (cellsB_one _) ?_; intro w4 hgw4 hrw4 hzw4; clear hzw4; have hbw4 := box_below hgw4; clear hgw4; have hd4 := hd3.below hbw4 hd3.lt) | (refine wpList_load_row rfl 23 (.tmp 6) rfl w.heap.size rfl 23 (cellsB d) (0, 0) _ hd4 Tryd.underD rfl HSD.out ?_))
        have hB4 := hB3.trans (hbw4.mono hB3.size)
        have hy4 := hy3.below hbw4 hy3.lt
        have hv4 := (hv.later hB4).imp (ok' := fun _ => True) fun _ _ => trivial
        clear hd3 hbw4 hy3
        refine (sign_any seed d _ idx w4 hv4 HD.out (hK.below hB4 hkl)).mono ?_
        rintro e w5 ⟨s1, rfl, hs1, hb5⟩
        rw [HER.out]
        have hB5 := hB4.trans (hb5.mono hB4.size)
        have hd5 := hd4.below hb5 hd4.lt
        have hy5 := hy4.below hb5 hy4.lt
        have hr5 := hrw4.below hb5 hrw4.lt
        have hv5 := (hv.later hB5).imp (ok' := fun _ => True) fun _ _ => trivial
        clear hd4 hb5 hy4 hrw4
        go_wp2_with (refine wpList_load_row rfl 23 (.tmp 9) rfl p9 rfl 23 (cellsB y) (0, 0) _ hy5 Tryd.underD rfl HSY.out ?_)
        refine (sign_any seed y _ idx w5 hv5 hyl.out (hK.below hB5 hkl)).mono ?_
        rintro e w6 ⟨s2, rfl, hs2, hb6⟩
        rw [HER.out]
        rw [HSG.out] at hs2
        have hbl' := hB5.trans (hb6.mono hB5.size)
        have hd6 := hd5.below hb6 hd5.lt
        have hy6 := hy5.below hb6 hy5.lt
        have hr6 := hr5.below hb6 hr5.lt
        have hs6 := hs1.later hb6
        clear hd5 hb6 hy5 hr5 hs1
        go_wp2
        go_ret
        exact ⟨rfl, hbl'⟩
      · go_wp2_with fail
        refine (public_any seed _ idx wr hvr (hK.below hb hkl)).mono ?_
        rintro e w3 ⟨rfl, hb3⟩
        obtain ⟨x, hx⟩ : ∃ x, pubR seed idx = x := ⟨_, rfl⟩
        have hxl : x.length = 32 := by rw [← hx]; exact pubR_len _ _
        have HX := Lib.hid hxl
        have HSX := Lib.hid (Tryd.sizeD_of x hxl)
        have HCX : Hid ((cellsB x).size = (cellsB (List.replicate 32 0)).size) := Lib.hid (by rw [cellsB_size, hxl]; rfl)
        rw [hx, HER.out]
        have HXE := Lib.hid hx
        have hB3 := hb.trans (hb3.mono hb.size)
        have hd3 := hdr.below hb3 hdr.lt
        have hy3 := hy.below hb3 hy.lt
        clear hx hxl hb3 hdr hy
        go_wp2_with (first | (refine wpList_store_row rfl 23 (.tmp 11) (.tmp 45) rfl w3.heap.size rfl (cellsB x) (cellsB (List.replicate 32 0)) 23 rfl (Row.new w3 _ _) HCX.out HSX.out (cellsB_one _) ?_; intro w4 hgw4 hrw4 hzw4; clear hzw4; have hbw4 := box_below hgw4; clear hgw4; have hd4 := hd3.below hbw4 hd3.lt) | (refine wpList_load_row rfl 23 (.tmp 6) rfl w.heap.size rfl 23 (cellsB d) (0, 0) _ hd4 Tryd.underD rfl HSD.out ?_))
        have hB4 := hB3.trans (hbw4.mono hB3.size)
        have hy4 := hy3.below hbw4 hy3.lt
        have hv4 := (hv.later hB4).imp (ok' := fun _ => True) fun _ _ => trivial
        clear hd3 hbw4 hy3
        refine (sign_any seed d _ idx w4 hv4 HD.out (hK.below hB4 hkl)).mono ?_
        rintro e w5 ⟨s1, rfl, hs1, hb5⟩
        rw [HER.out]
        have hB5 := hB4.trans (hb5.mono hB4.size)
        have hd5 := hd4.below hb5 hd4.lt
        have hy5 := hy4.below hb5 hy4.lt
        have hr5 := hrw4.below hb5 hrw4.lt
        have hv5 := (hv.later hB5).imp (ok' := fun _ => True) fun _ _ => trivial
        clear hd4 hb5 hy4 hrw4
        go_wp2_with (refine wpList_load_row rfl 23 (.tmp 9) rfl p9 rfl 23 (cellsB y) (0, 0) _ hy5 Tryd.underD rfl HSY.out ?_)
        refine (sign_any seed y _ idx w5 hv5 hyl.out (hK.below hB5 hkl)).mono ?_
        rintro e w6 ⟨s2, rfl, hs2, hb6⟩
        rw [HER.out]
        rw [HSG.out] at hs2
        have hbl' := hB5.trans (hb6.mono hB5.size)
        have hd6 := hd5.below hb6 hd5.lt
        have hy6 := hy5.below hb6 hy5.lt
        have hr6 := hr5.below hb6 hr5.lt
        have hs6 := hs1.later hb6
        clear hd5 hb6 hy5 hr5 hs1
        go_wp2
        go_ret
        exact ⟨rfl, hbl'⟩
theorem signedPrefix_any (v : Value) (seed : List UInt8) (idx : Int) (d : List UInt8) (tv : Value) (tl : List UInt8) (w : World) (hv : Bytes w v seed (fun _ => True)) (_hl : seed.length ≤ maxLen) (_h0 : -9223372036854775808 ≤ idx) (_h1 : idx ≤ 9223372036854775807) (hd : d.length = 32) (ht : Bytes w tv tl (fun _ => True)) (_hl2 : tl.length ≤ maxLen) (hK : KFact w) :
    Calls Tryd.prog 10 #[v, .int .i64 idx, .agg (cellsB d), tv] w fun e w' => e = .returned (.bool true) ∧ Below w.heap.size w w' := by
  by_cases h : 200 < seed.length
  · exact sp_big seed v idx d tl tv w hv hd ht hK h
  · cases hok : okSeed seed idx with
    | true => exact sp_ok seed v idx d tl tv w hv hd ht hK h hok
    | false => exact sp_no seed v idx d tl tv w hv hd ht hK h hok
end Go.Proofs.YthhlfcbkggahmaaDoor

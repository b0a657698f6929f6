/- crossbarref04.Sign and Recover. Conditions: the digests have 32 bytes, the tables lie in their variables. -/
import Derived.Test.YthhlfcbkggahmaaDoorWRef
namespace Go.Proofs.YthhlfcbkggahmaaDoor
open Go.RowKit
theorem range_below' {w w' : World} {b o : Nat} {cs : List Value} (h : w.rangeAt b o cs) (hb : Below w.heap.size w w') : w'.rangeAt b o cs := fun j v hv => (hb.cell (p := ⟨b, o + j, none⟩) (block_lt_of_cell (h j v hv))).trans (h j v hv)
def Asrt.one {B : Nat} (y : List UInt8) : Asrt B := ⟨fun v w => ∃ g, v = .slice (some ⟨g, 0, none⟩) 1 1 ∧ Row w g 23 (cellsB y), fun _ _ _ h hg => by
  obtain ⟨g, hv, hr⟩ := h; exact ⟨g, hv, hg.kept _ _ hr⟩⟩
set_option maxRecDepth 10000 in
set_option maxHeartbeats 4000000 in
theorem rsign_any (seed d : List UInt8) (v : Value) (idx : Int) (w : World) (hv : Bytes w v seed (fun _ => True)) (hd : d.length = 32) (hK : RKFact w) (hI : RIFact w) :
    Calls Tryd.prog 18 #[v, .int .i64 idx, .agg (cellsB d)] w fun e w' => ∃ r, e = .returned (.tuple #[r, .int .i64 (errR seed idx : Nat)]) ∧ Digs w' r (signR seed idx d) ∧ Below w.heap.size w w' := by
  have hkl := hK.lt
  have hil := hI.lt
  obtain ⟨av, kv, rfl⟩ : ∃ a c, v = .slice a seed.length c := by obtain ⟨a, c, h, _⟩ := hv; exact ⟨a, c, h⟩
  have hb0 : Below w.heap.size w (w.alloc (.cells (cellsB d) 23)) := (Below.refl _ _).alloc (Nat.le_refl _) _
  have hd0 : Row (w.alloc (.cells (cellsB d) 23)) w.heap.size 23 (cellsB d) := Row.new w _ _
  have hv0 := (hv.later hb0).imp (ok' := fun _ => True) fun _ _ => trivial
  have HD := Lib.hid hd
  have HSD := Lib.hid (Tryd.sizeD_of d hd)
  clear hd
  go_enter Tryd.func18, Tryd.ntmps18
  go_wp2_with fail
  refine (rvalid_any seed _ idx _ hv0).mono ?_
  rintro e w1 ⟨rfl, rfl⟩
  cases hc : okSeed seed idx with
  | false =>
    have HE := Lib.hid (errR_bad hc)
    have HP : Hid (signR seed idx d = []) := by show _ = _; unfold signR walkR; rw [if_neg (by rw [hc]; decide)]
    clear hc
    go_wp2
    go_ret2
    exact ⟨.slice none 0 0, by rw [HE.out]; rfl, by rw [HP.out]; exact Digs.nil _, hb0⟩
  | true =>
    have HE := Lib.hid (errR_ok hc)
    have HP : Hid (signR seed idx d = walkOf seed idx.toNat (nib d)) := by show _ = _; unfold signR walkR; rw [if_pos hc]
    obtain ⟨h1, h2, h3, h4⟩ := (okSeed_iff seed idx).1 hc
    clear hc
    obtain ⟨n, en⟩ : ∃ n, idx.toNat = n := ⟨_, rfl⟩
    obtain rfl : idx = (n : Int) := by omega
    have hn : n ≤ 1023 := by omega
    rw [en] at HP
    have HF : Hid (walkOf seed n (nib d) = tabN (fun i => chainOf (startOf seed n i) (nib d i)) 18) := rfl
    have HL1 : Hid (∀ i k, (chainOf (startOf seed n i) k).length = 32) := fun i k => chainOf_len _ (startOf_len _ _ _) _
    have HST : Hid (∀ i, tabN (fun i => chainOf (startOf seed n i) (nib d i)) (i + 1) = tabN (fun i => chainOf (startOf seed n i) (nib d i)) i ++ [chainOf (startOf seed n i) (nib d i)]) := fun i => tabN_succ _ i
    have HTL : Hid (∀ i, (tabN (fun i => chainOf (startOf seed n i) (nib d i)) i).length = i) := fun i => tabN_len _ i
    generalize tabN (fun i => chainOf (startOf seed n i) (nib d i)) = xs at *
    clear en h3 h4
    go_wp2_with (refine wpList_load_row rfl 23 (.tmp 5) rfl w.heap.size rfl 23 (cellsB d) (0, 0) _ hd0 Tryd.underD rfl HSD.out ?_)
    refine (rnibbles_any d _ HD.out).mono ?_
    rintro e w2 ⟨u, rfl, hu2, hb2⟩
    have hB2 := hb0.trans (hb2.mono hb0.size)
    clear hb0 hd0 hv0 hb2
    have HNL := Lib.hid (nibs_len d)
    have HNG := Lib.hid (nibs_get d)
    have HNX := Lib.hid (nib_le d)
    obtain ⟨au, ku, eu⟩ : ∃ a c, u = .slice a 18 c := by obtain ⟨a, c, h, _⟩ := hu2; rw [nibs_len] at h; exact ⟨a, c, h⟩
    subst eu
    obtain ⟨ub, uo, rfl, -, hku1, hku2, hat⟩ := hu2.at (by decide)
    clear hu2
    generalize nibs d = ns at *
    go_wp2
    go_loopw [10, 9] (fun t r wr => ∃ i : Nat, i ≤ 18 ∧ t = .int .i64 (i : Int) ∧ OwnD wr w2.heap.size r (xs i) ∧ Below w2.heap.size w2 wr) (fun t _ _ => 18 - (intOf t).toNat)
    case atStart =>
      have h0 : xs 0 = [] := List.eq_nil_of_length_eq_zero (HTL.out 0)
      exact ⟨0, by omega, rfl, by rw [h0]; exact OwnD.nil _ _, Below.refl _ _⟩
    case round =>
      obtain ⟨i, hi, rfl, ho, hb⟩ := hrel
      by_cases hlt : i < 18
      · have hBr := hB2.trans (hb.mono hB2.size)
        have hvr := (hv.later hBr).imp (ok' := fun _ => True) fun _ _ => trivial
        have hcn : wr.cell? ⟨ub, uo + i, none⟩ = some (.int .i64 (nib d i : Nat)) := by
          have h := hat i (by rw [HNL.out]; exact hlt)
          rw [List.getD_eq_getElem?_getD, HNG.out i hlt] at h
          exact (hb.cell (p := ⟨ub, uo + i, none⟩) (block_lt_of_cell h)).trans h
        have hKr := hK.below hBr hkl
        have hIr := hI.below hBr hil
        have hi1 : (i : Int) < 18 := by omega
        have hxb := HNX.out i
        have HY : Hid (xs (i + 1) = xs i ++ [chainOf (startOf seed n i) (nib d i)]) := HST.out i
        obtain ⟨x, hx⟩ : ∃ x, nib d i = x := ⟨_, rfl⟩
        rw [hx] at hcn hxb HY
        have hyl := HL1.out i x
        obtain ⟨y, hy⟩ : ∃ y, chainOf (startOf seed n i) x = y := ⟨_, rfl⟩
        rw [hy] at HY hyl
        have HYL := Lib.hid hyl
        have HYE := Lib.hid hy
        clear hyl hx hy
        go_wp2
        obtain ⟨B, eB⟩ : ∃ B, wr.heap.size = B := ⟨_, rfl⟩
        have hklr := hKr.lt
        have hilr := hIr.lt
        refine wp_gen fun a0 ha0 => ?_
        have i0 : a0.eval (.tmp 0) = .slice av seed.length kv := by rw [ha0]; rfl
        have i1 : a0.eval (.tmp 1) = .int .i64 (n : Int) := by rw [ha0]; rfl
        have i8 : a0.eval (.tmp 8) = .slice (some ⟨ub, uo, none⟩) 18 ku := by rw [ha0]; rfl
        have i9 : a0.eval (.tmp 9) = u9 := by rw [ha0]; rfl
        have i10 : a0.eval (.tmp 10) = .int .i64 (i : Int) := by rw [ha0]; rfl
        have hsz : a0.tmps.size = 34 := by rw [ha0]; rfl
        refine wp_region_inv_tail (B := B) 11 [some 21, some 22, some 23, some 24, some 25, some 26, some 27, some 28, some 29, some 30, some 31, some 32, some 9] [Asrt.eq (u9), Asrt.eq (.slice av seed.length kv), Asrt.eq (.int .i64 (n : Int)), Asrt.eq (.int .i64 (i : Int)), Asrt.eq (.agg (cellsB (startOf seed n i))), Asrt.eq (.slice (some ⟨ub, uo, none⟩) 18 ku), Asrt.eq (.int .i64 (i : Int)), Asrt.eq (.pointer (some ⟨ub, uo + i, none⟩)), Asrt.eq (.int .i64 (x : Int)), Asrt.eq (.agg (cellsB (y))), Asrt.one y] rfl (by as_aux_lemma => kernel_rfl) (by rw [hsz]; as_aux_lemma => kernel_rfl) (by as_aux_lemma => kernel_rfl) (by as_aux_lemma => kernel_rfl) (by as_aux_lemma => kernel_rfl) (by decide) (by as_aux_lemma => kernel_rfl) (by omega) ⟨?_, ?_, ?_, ?_, ?_, ?_, ?_, ?_, ?_, ?_, ?_, trivial⟩ ?_
        · as_aux_lemma =>
            intro ev w1 hg hin hc hgl hfn hd
            have hB := hg.top
            have g9 : ev (.tmp 9) = u9 := (hin 9 (by kernel_rfl)).trans i9
            clear hin hd
            refine step_on (guard_none rfl) fun K hK => ?_
            unfold YieldsG
            go_simp
            exact hK _ _ rfl (Grow.refl hB)
        · as_aux_lemma =>
            intro ev w1 hg hin hc hgl hfn hd
            have hB := hg.top
            have g0 : ev (.tmp 0) = .slice av seed.length kv := (hin 0 (by kernel_rfl)).trans i0
            clear hin hd
            refine step_on (guard_none rfl) fun K hK => ?_
            unfold YieldsG
            go_simp
            exact hK _ _ rfl (Grow.refl hB)
        · as_aux_lemma =>
            intro ev w1 hg hin hc hgl hfn hd
            have hB := hg.top
            have g1 : ev (.tmp 1) = .int .i64 (n : Int) := (hin 1 (by kernel_rfl)).trans i1
            clear hin hd
            refine step_on (guard_none rfl) fun K hK => ?_
            unfold YieldsG
            go_simp
            exact hK _ _ rfl (Grow.refl hB)
        · as_aux_lemma =>
            intro ev w1 hg hin hc hgl hfn hd
            have hB := hg.top
            have g10 : ev (.tmp 10) = .int .i64 (i : Int) := (hin 10 (by kernel_rfl)).trans i10
            clear hin hd
            refine step_on (guard_none rfl) fun K hK => ?_
            unfold YieldsG
            go_simp
            exact hK _ _ rfl (Grow.refl hB)
        · as_aux_lemma =>
            intro ev w1 hg hin hc hgl hfn hd
            have hB := hg.top
            have f22 : (ev (.tmp 22)) = .slice av seed.length kv := hd.1 rfl _ rfl
            have f23 : (ev (.tmp 23)) = .int .i64 (n : Int) := hd.2.1 rfl _ rfl
            have f24 : (ev (.tmp 24)) = .int .i64 (i : Int) := hd.2.2.1 rfl _ rfl
            clear hin hd
            refine step_on (guard_none rfl) fun K hK => ?_
            unfold YieldsG
            go_simp
            refine (rstart_any seed _ n i w1 ((Asrt.bytes (B := B) seed).st _ _ _ hvr hg) (by omega) hn hlt (hKr.below hg.bl (by omega)) (hIr.below hg.bl (by omega))).mono ?_
            rintro e w2 ⟨rfl, hb⟩
            exact ⟨_, rfl, hK _ _ rfl (Grow.of hB hb)⟩
        · as_aux_lemma =>
            intro ev w1 hg hin hc hgl hfn hd
            have hB := hg.top
            have g8 : ev (.tmp 8) = .slice (some ⟨ub, uo, none⟩) 18 ku := (hin 8 (by kernel_rfl)).trans i8
            clear hin hd
            refine step_on (guard_none rfl) fun K hK => ?_
            unfold YieldsG
            go_simp
            exact hK _ _ rfl (Grow.refl hB)
        · as_aux_lemma =>
            intro ev w1 hg hin hc hgl hfn hd
            have hB := hg.top
            have g10 : ev (.tmp 10) = .int .i64 (i : Int) := (hin 10 (by kernel_rfl)).trans i10
            clear hin hd
            refine step_on (guard_none rfl) fun K hK => ?_
            unfold YieldsG
            go_simp
            exact hK _ _ rfl (Grow.refl hB)
        · as_aux_lemma =>
            intro ev w1 hg hin hc hgl hfn hd
            have hB := hg.top
            have f26 : (ev (.tmp 26)) = .slice (some ⟨ub, uo, none⟩) 18 ku := hd.1 rfl _ rfl
            have f27 : (ev (.tmp 27)) = .int .i64 (i : Int) := hd.2.1 rfl _ rfl
            clear hin hd
            refine step_on (guard_none rfl) fun K hK => ?_
            unfold YieldsG
            go_simp
            exact hK _ _ rfl (Grow.refl hB)
        · as_aux_lemma =>
            intro ev w1 hg hin hc hgl hfn hd
            have hB := hg.top
            have f28 : (ev (.tmp 28)) = .pointer (some ⟨ub, uo + i, none⟩) := hd.1 rfl _ rfl
            clear hin hd
            refine step_on (guard_none rfl) fun K hK => ?_
            have hc1 := hg.cell hcn
            unfold YieldsG
            go_simp
            exact hK _ _ rfl (Grow.refl hB)
        · as_aux_lemma =>
            intro ev w1 hg hin hc hgl hfn hd
            have hB := hg.top
            have f25 : (ev (.tmp 25)) = .agg (cellsB (startOf seed n i)) := hd.1 rfl _ rfl
            have f29 : (ev (.tmp 29)) = .int .i64 (x : Int) := hd.2.1 rfl _ rfl
            clear hin hd
            refine step_on (guard_none rfl) fun K hK => ?_
            unfold YieldsG
            go_simp
            refine (rchain_any (startOf seed n i) (x : Int) w1 (startOf_len _ _ _) (by omega) (by omega) (hKr.below hg.bl (by omega)) (hIr.below hg.bl (by omega))).mono ?_
            rintro e w2 ⟨rfl, hb⟩
            exact ⟨_, rfl, hK _ _ (by show Value.agg _ = _; rw [Int.toNat_natCast, HYE.out]) (Grow.of hB hb)⟩
        · as_aux_lemma =>
            intro ev w1 hg hin hc hgl hfn hd
            have hB := hg.top
            have f30 : (ev (.tmp 30)) = .agg (cellsB (y)) := hd.1 rfl _ rfl
            clear hin hd
            refine step_on (guard_none rfl) fun K hK => ?_
            unfold YieldsG execOp
            simp only [List.map_toArray, List.map_cons, List.map_nil, f30, Sem.run_bind, run_build_dig w1 y HYL.out, Result.andThen_ok]
            exact hK _ _ ⟨_, rfl, Row.new _ _ _⟩ (Grow.of hB ((Below.refl _ _).alloc (Nat.le_refl _) _))
        intro v w6 hg hall
        have hf0 : (v 0) = u9 := hall.1 (by simp)
        have hf1 : (v 1) = .slice av seed.length kv := hall.2.1 (by simp)
        have hf2 : (v 2) = .int .i64 (n : Int) := hall.2.2.1 (by simp)
        have hf3 : (v 3) = .int .i64 (i : Int) := hall.2.2.2.1 (by simp)
        have hf4 : (v 4) = .agg (cellsB (startOf seed n i)) := hall.2.2.2.2.1 (by simp)
        have hf5 : (v 5) = .slice (some ⟨ub, uo, none⟩) 18 ku := hall.2.2.2.2.2.1 (by simp)
        have hf6 : (v 6) = .int .i64 (i : Int) := hall.2.2.2.2.2.2.1 (by simp)
        have hf7 : (v 7) = .pointer (some ⟨ub, uo + i, none⟩) := hall.2.2.2.2.2.2.2.1 (by simp)
        have hf8 : (v 8) = .int .i64 (x : Int) := hall.2.2.2.2.2.2.2.2.1 (by simp)
        have hf9 : (v 9) = .agg (cellsB (y)) := hall.2.2.2.2.2.2.2.2.2.1 (by simp)
        have hf10 : ∃ g, (v 10) = .slice (some ⟨g, 0, none⟩) 1 1 ∧ Row w6 g 23 (cellsB y) := hall.2.2.2.2.2.2.2.2.2.2.1 (by simp)
        clear hall i0 i1 i8 i9 i10 hsz
        rw [ha0]
        clear ha0
        simp only [List.take_succ_cons, List.take_zero, List.drop_succ_cons, List.drop_zero, putAll, Act.put, List.setIfInBounds_toArray, List.set_cons_zero, List.set_cons_succ, Nat.zero_add, Nat.reduceAdd]
        rw [hf0, hf1, hf2, hf3, hf4, hf5, hf6, hf7, hf8, hf9]
        generalize v 10 = x10 at *
        clear hf0 hf1 hf2 hf3 hf4 hf5 hf6 hf7 hf8 hf9
        obtain ⟨gy, hgy, hry⟩ := hf10
        subst hgy
        have ho6 := ho.below hg.below
        have hb6 := hb.trans (hg.below.mono hb.size)
        have hz6 := hb6.size
        clear hg hvr hcn hKr hIr ho hBr
        go_wp2_with (at_builtin; refine wpList_append_dig rfl (.tmp 21) (.tmp 31) rfl w2.heap.size _ (xs i) y gy 23 rfl ho6 rfl hry HYL.out (by rw [HTL.out]; omega) (by omega) ?_; intro v7 w7 ho7 hg7)
        rw [← HY.out] at ho7
        go_roundw
        case rel => exact ⟨i + 1, by omega, by go_num, ho7, hb6.grown hg7 hb6.size (fun k hk => ho6.ownBlock k hk)⟩
        case measure => simp [intOf]; omega
      · obtain rfl : i = 18 := by omega
        have hdg := ho.digs
        have hB3 := hB2.trans (hb.mono hB2.size)
        go_wp2
        go_ret2
        exact ⟨_, by rw [HE.out]; rfl, by rw [HP.out, HF.out]; exact hdg, hB3⟩
set_option maxRecDepth 10000 in
set_option maxHeartbeats 4000000 in
theorem rrecover_any (d : List UInt8) (sig : List (List UInt8)) (v : Value) (w : World) (hd : d.length = 32) (hv : Digs w v sig) (h32 : all32 sig) (hK : RKFact w) (hI : RIFact w) :
    Calls Tryd.prog 21 #[.agg (cellsB d), v] w fun e w' => e = .returned (.tuple #[.agg (cellsB (recR d sig)), .int .i64 (errS sig : Nat)]) ∧ Below w.heap.size w w' := by
  have hkl := hK.lt
  have hil := hI.lt
  obtain ⟨av, kv, rfl⟩ := hv.form
  have HD := Lib.hid hd
  have HSD := Lib.hid (Tryd.sizeD_of d hd)
  clear hd
  have hb0 : Below w.heap.size w ((w.alloc (.cells (cellsB d) 23)).alloc (.cells (cellsB (List.replicate 32 0)) 23)) := ((Below.refl _ _).alloc (Nat.le_refl _) _).alloc (by simp) _
  have hd0 : Row ((w.alloc (.cells (cellsB d) 23)).alloc (.cells (cellsB (List.replicate 32 0)) 23)) w.heap.size 23 (cellsB d) := (Row.new w _ _).alloc _
  have hD0 : Row ((w.alloc (.cells (cellsB d) 23)).alloc (.cells (cellsB (List.replicate 32 0)) 23)) (w.heap.size + 1) 23 (cellsB (List.replicate 32 0)) := by
    have h := Row.new (w.alloc (.cells (cellsB d) 23)) (cellsB (List.replicate 32 0)) 23
    rwa [show (w.alloc (.cells (cellsB d) 23)).heap.size = w.heap.size + 1 by simp] at h
  have hz0 : w.heap.size + 1 < ((w.alloc (.cells (cellsB d) 23)).alloc (.cells (cellsB (List.replicate 32 0)) 23)).heap.size := by simp
  by_cases hl : sig.length = 18
  · have HE := Lib.hid (errS_ok hl)
    have HP : Hid (recR d sig = keyOf (endsOf d sig)) := by show _ = _; unfold recR; rw [if_pos hl]; rfl
    have HL := Lib.hid hl
    have H32 := Lib.hid h32
    rw [hl] at hv ⊢
    clear hl h32
    have HF : Hid (endsOf d sig = tabN (fun i => chainOf (sig.getD i []) (15 - nib d i)) 18) := rfl
    have HST : Hid (∀ i, tabN (fun i => chainOf (sig.getD i []) (15 - nib d i)) (i + 1) = tabN (fun i => chainOf (sig.getD i []) (15 - nib d i)) i ++ [chainOf (sig.getD i []) (15 - nib d i)]) := fun i => tabN_succ _ i
    have HTL : Hid (∀ i, (tabN (fun i => chainOf (sig.getD i []) (15 - nib d i)) i).length = i) := fun i => tabN_len _ i
    have HT32 : Hid (all32 (tabN (fun i => chainOf (sig.getD i []) (15 - nib d i)) 18)) := all32_range fun i hi => chainOf_len _ (all32_getD H32.out i (by rw [HL.out]; exact hi)) _
    generalize tabN (fun i => chainOf (sig.getD i []) (15 - nib d i)) = xs at *
    go_enter Tryd.func21, Tryd.ntmps21
    go_wp2_with (refine wpList_load_row rfl 23 (.tmp 2) rfl w.heap.size rfl 23 (cellsB d) (0, 0) _ hd0 Tryd.underD rfl HSD.out ?_)
    refine (rnibbles_any d _ HD.out).mono ?_
    rintro e w2 ⟨u, rfl, hu2, hb2⟩
    have hB2 := hb0.trans (hb2.mono hb0.size)
    have hD2 := hD0.below hb2 hD0.lt
    have hz2 := Nat.lt_of_lt_of_le hz0 hb2.size
    have hv2 := hv.later hB2
    clear hb0 hd0 hD0 hb2 hz0 hv
    have HNL := Lib.hid (nibs_len d)
    have HNG := Lib.hid (nibs_get d)
    have HNX := Lib.hid (nib_le d)
    obtain ⟨au, ku, eu⟩ : ∃ a c, u = .slice a 18 c := by obtain ⟨a, c, h, _⟩ := hu2; rw [nibs_len] at h; exact ⟨a, c, h⟩
    subst eu
    obtain ⟨ub, uo, rfl, -, hku1, hku2, hat⟩ := hu2.at (by decide)
    obtain ⟨sb, so, rfl, -, hks1, hks2, hat2⟩ := hv2.at (by decide)
    clear hu2 hv2
    generalize nibs d = ns at *
    go_wp2
    go_loopw [8, 7] (fun t r wr => ∃ i : Nat, i ≤ 18 ∧ t = .int .i64 (i : Int) ∧ OwnD wr w2.heap.size r (xs i) ∧ Below w2.heap.size w2 wr) (fun t _ _ => 18 - (intOf t).toNat)
    case atStart =>
      have h0 : xs 0 = [] := List.eq_nil_of_length_eq_zero (HTL.out 0)
      exact ⟨0, by omega, rfl, by rw [h0]; exact OwnD.nil _ _, Below.refl _ _⟩
    case round =>
      obtain ⟨i, hi, rfl, ho, hb⟩ := hrel
      have hBr := hB2.trans (hb.mono hB2.size)
      have hKr := hK.below hBr hkl
      have hIr := hI.below hBr hil
      by_cases hlt : i < 18
      · have hcn : wr.cell? ⟨ub, uo + i, none⟩ = some (.int .i64 (nib d i : Nat)) := by
          have h := hat i (by rw [HNL.out]; exact hlt)
          rw [List.getD_eq_getElem?_getD, HNG.out i hlt] at h
          exact (hb.cell (p := ⟨ub, uo + i, none⟩) (block_lt_of_cell h)).trans h
        have hce : wr.rangeAt sb (so + i * 32) ((sig.getD i []).map B8) := range_below' (hat2.elem H32.out i (by rw [HL.out]; exact hlt)) hb
        have hel := all32_getD H32.out i (by rw [HL.out]; exact hlt)
        have hi1 : (i : Int) < 18 := by omega
        have hxb := HNX.out i
        have HY : Hid (xs (i + 1) = xs i ++ [chainOf (sig.getD i []) (15 - nib d i)]) := HST.out i
        obtain ⟨x, hx⟩ : ∃ x, nib d i = x := ⟨_, rfl⟩
        obtain ⟨z, hz⟩ : ∃ z, sig.getD i [] = z := ⟨_, rfl⟩
        rw [hx] at hcn hxb HY
        rw [hz] at hce hel HY
        have hyl := chainOf_len z hel (15 - x)
        obtain ⟨y, hy⟩ : ∃ y, chainOf z (15 - x) = y := ⟨_, rfl⟩
        rw [hy] at HY hyl
        have HYL := Lib.hid hyl
        have HYE := Lib.hid hy
        have HEL := Lib.hid hel
        have hw15 : IntKind.i64.wrap (15 - (x : Int)) = 15 - (x : Int) := IntWalk.i64_in _ (by omega)
        have HX15 : Hid ((15 : Int) - (x : Int) = ((15 - x : Nat) : Int)) := Lib.hid (by omega)
        clear hyl hx hy hz hel
        go_wp2
        obtain ⟨B, eB⟩ : ∃ B, wr.heap.size = B := ⟨_, rfl⟩
        have hklr := hKr.lt
        have hilr := hIr.lt
        refine wp_gen fun a0 ha0 => ?_
        have i1 : a0.eval (.tmp 1) = .slice (some ⟨sb, so, none⟩) 18 kv := by rw [ha0]; rfl
        have i6 : a0.eval (.tmp 6) = .slice (some ⟨ub, uo, none⟩) 18 ku := by rw [ha0]; rfl
        have i7 : a0.eval (.tmp 7) = u7 := by rw [ha0]; rfl
        have i8 : a0.eval (.tmp 8) = .int .i64 (i : Int) := by rw [ha0]; rfl
        have hsz : a0.tmps.size = 34 := by rw [ha0]; rfl
        refine wp_region_inv_tail (B := B) 12 [some 19, some 20, some 21, some 22, some 23, some 24, some 25, some 26, some 27, some 28, some 29, some 30, some 31, some 7] [Asrt.eq (u7), Asrt.eq (.slice (some ⟨sb, so, none⟩) 18 kv), Asrt.eq (.int .i64 (i : Int)), Asrt.eq (.pointer (some ⟨sb, so + i * 32, none⟩)), Asrt.eq (.agg (cellsB (z))), Asrt.eq (.slice (some ⟨ub, uo, none⟩) 18 ku), Asrt.eq (.int .i64 (i : Int)), Asrt.eq (.pointer (some ⟨ub, uo + i, none⟩)), Asrt.eq (.int .i64 (x : Int)), Asrt.eq (.int .i64 (15 - (x : Int))), Asrt.eq (.agg (cellsB (y))), Asrt.one y] rfl (by as_aux_lemma => kernel_rfl) (by rw [hsz]; as_aux_lemma => kernel_rfl) (by as_aux_lemma => kernel_rfl) (by as_aux_lemma => kernel_rfl) (by as_aux_lemma => kernel_rfl) (by decide) (by as_aux_lemma => kernel_rfl) (by omega) ⟨?_, ?_, ?_, ?_, ?_, ?_, ?_, ?_, ?_, ?_, ?_, ?_, trivial⟩ ?_
        · as_aux_lemma =>
            intro ev w1 hg hin hc hgl hfn hd
            have hB := hg.top
            have g7 : ev (.tmp 7) = u7 := (hin 7 (by kernel_rfl)).trans i7
            clear hin hd
            refine step_on (guard_none rfl) fun K hK => ?_
            unfold YieldsG
            go_simp
            exact hK _ _ rfl (Grow.refl hB)
        · as_aux_lemma =>
            intro ev w1 hg hin hc hgl hfn hd
            have hB := hg.top
            have g1 : ev (.tmp 1) = .slice (some ⟨sb, so, none⟩) 18 kv := (hin 1 (by kernel_rfl)).trans i1
            clear hin hd
            refine step_on (guard_none rfl) fun K hK => ?_
            unfold YieldsG
            go_simp
            exact hK _ _ rfl (Grow.refl hB)
        · as_aux_lemma =>
            intro ev w1 hg hin hc hgl hfn hd
            have hB := hg.top
            have g8 : ev (.tmp 8) = .int .i64 (i : Int) := (hin 8 (by kernel_rfl)).trans i8
            clear hin hd
            refine step_on (guard_none rfl) fun K hK => ?_
            unfold YieldsG
            go_simp
            exact hK _ _ rfl (Grow.refl hB)
        · as_aux_lemma =>
            intro ev w1 hg hin hc hgl hfn hd
            have hB := hg.top
            have f20 : (ev (.tmp 20)) = .slice (some ⟨sb, so, none⟩) 18 kv := hd.1 rfl _ rfl
            have f21 : (ev (.tmp 21)) = .int .i64 (i : Int) := hd.2.1 rfl _ rfl
            clear hin hd
            refine step_on (guard_none rfl) fun K hK => ?_
            unfold YieldsG
            go_simp
            exact hK _ _ rfl (Grow.refl hB)
        · as_aux_lemma =>
            intro ev w1 hg hin hc hgl hfn hd
            have hB := hg.top
            have f22 : (ev (.tmp 22)) = .pointer (some ⟨sb, so + i * 32, none⟩) := hd.1 rfl _ rfl
            clear hin hd
            refine step_on (guard_none rfl) fun K hK => ?_
            refine yg_load_mid 23 (.tmp 22) rfl sb (so + i * 32) f22 (z.map B8) _ (range_below' hce (by rw [eB]; exact hg.bl)) Tryd.underD rfl (by rw [List.length_map, HEL.out]; exact Tryd.sizeD) ?_
            exact hK _ _ rfl (Grow.refl hB)
        · as_aux_lemma =>
            intro ev w1 hg hin hc hgl hfn hd
            have hB := hg.top
            have g6 : ev (.tmp 6) = .slice (some ⟨ub, uo, none⟩) 18 ku := (hin 6 (by kernel_rfl)).trans i6
            clear hin hd
            refine step_on (guard_none rfl) fun K hK => ?_
            unfold YieldsG
            go_simp
            exact hK _ _ rfl (Grow.refl hB)
        · as_aux_lemma =>
            intro ev w1 hg hin hc hgl hfn hd
            have hB := hg.top
            have g8 : ev (.tmp 8) = .int .i64 (i : Int) := (hin 8 (by kernel_rfl)).trans i8
            clear hin hd
            refine step_on (guard_none rfl) fun K hK => ?_
            unfold YieldsG
            go_simp
            exact hK _ _ rfl (Grow.refl hB)
        · as_aux_lemma =>
            intro ev w1 hg hin hc hgl hfn hd
            have hB := hg.top
            have f24 : (ev (.tmp 24)) = .slice (some ⟨ub, uo, none⟩) 18 ku := hd.1 rfl _ rfl
            have f25 : (ev (.tmp 25)) = .int .i64 (i : Int) := hd.2.1 rfl _ rfl
            clear hin hd
            refine step_on (guard_none rfl) fun K hK => ?_
            unfold YieldsG
            go_simp
            exact hK _ _ rfl (Grow.refl hB)
        · as_aux_lemma =>
            intro ev w1 hg hin hc hgl hfn hd
            have hB := hg.top
            have f26 : (ev (.tmp 26)) = .pointer (some ⟨ub, uo + i, none⟩) := hd.1 rfl _ rfl
            clear hin hd
            refine step_on (guard_none rfl) fun K hK => ?_
            have hc1 := hg.cell hcn
            unfold YieldsG
            go_simp
            exact hK _ _ rfl (Grow.refl hB)
        · as_aux_lemma =>
            intro ev w1 hg hin hc hgl hfn hd
            have hB := hg.top
            have f27 : (ev (.tmp 27)) = .int .i64 (x : Int) := hd.1 rfl _ rfl
            clear hin hd
            refine step_on (guard_none rfl) fun K hK => ?_
            unfold YieldsG
            go_simp
            exact hK _ _ rfl (Grow.refl hB)
        · as_aux_lemma =>
            intro ev w1 hg hin hc hgl hfn hd
            have hB := hg.top
            have f23 : (ev (.tmp 23)) = .agg (cellsB (z)) := hd.1 rfl _ rfl
            have f28 : (ev (.tmp 28)) = .int .i64 (15 - (x : Int)) := hd.2.1 rfl _ rfl
            clear hin hd
            refine step_on (guard_none rfl) fun K hK => ?_
            rw [HX15.out] at f28
            unfold YieldsG
            go_simp
            refine (rchain_any z ((15 - x : Nat) : Int) w1 HEL.out (by omega) (by omega) (hKr.below hg.bl (by omega)) (hIr.below hg.bl (by omega))).mono ?_
            rintro e w2 ⟨rfl, hb⟩
            exact ⟨_, rfl, hK _ _ (by show Value.agg _ = _; rw [Int.toNat_natCast, HYE.out]) (Grow.of hB hb)⟩
        · as_aux_lemma =>
            intro ev w1 hg hin hc hgl hfn hd
            have hB := hg.top
            have f29 : (ev (.tmp 29)) = .agg (cellsB (y)) := hd.1 rfl _ rfl
            clear hin hd
            refine step_on (guard_none rfl) fun K hK => ?_
            unfold YieldsG execOp
            simp only [List.map_toArray, List.map_cons, List.map_nil, f29, Sem.run_bind, run_build_dig w1 y HYL.out, Result.andThen_ok]
            exact hK _ _ ⟨_, rfl, Row.new _ _ _⟩ (Grow.of hB ((Below.refl _ _).alloc (Nat.le_refl _) _))
        intro v w6 hg hall
        have hf0 : (v 0) = u7 := hall.1 (by simp)
        have hf1 : (v 1) = .slice (some ⟨sb, so, none⟩) 18 kv := hall.2.1 (by simp)
        have hf2 : (v 2) = .int .i64 (i : Int) := hall.2.2.1 (by simp)
        have hf3 : (v 3) = .pointer (some ⟨sb, so + i * 32, none⟩) := hall.2.2.2.1 (by simp)
        have hf4 : (v 4) = .agg (cellsB (z)) := hall.2.2.2.2.1 (by simp)
        have hf5 : (v 5) = .slice (some ⟨ub, uo, none⟩) 18 ku := hall.2.2.2.2.2.1 (by simp)
        have hf6 : (v 6) = .int .i64 (i : Int) := hall.2.2.2.2.2.2.1 (by simp)
        have hf7 : (v 7) = .pointer (some ⟨ub, uo + i, none⟩) := hall.2.2.2.2.2.2.2.1 (by simp)
        have hf8 : (v 8) = .int .i64 (x : Int) := hall.2.2.2.2.2.2.2.2.1 (by simp)
        have hf9 : (v 9) = .int .i64 (15 - (x : Int)) := hall.2.2.2.2.2.2.2.2.2.1 (by simp)
        have hf10 : (v 10) = .agg (cellsB (y)) := hall.2.2.2.2.2.2.2.2.2.2.1 (by simp)
        have hf11 : ∃ g, (v 11) = .slice (some ⟨g, 0, none⟩) 1 1 ∧ Row w6 g 23 (cellsB y) := hall.2.2.2.2.2.2.2.2.2.2.2.1 (by simp)
        clear hall i1 i6 i7 i8 hsz
        rw [ha0]
        clear ha0
        simp only [List.take_succ_cons, List.take_zero, List.drop_succ_cons, List.drop_zero, putAll, Act.put, List.setIfInBounds_toArray, List.set_cons_zero, List.set_cons_succ, Nat.zero_add, Nat.reduceAdd]
        rw [hf0, hf1, hf2, hf3, hf4, hf5, hf6, hf7, hf8, hf9, hf10]
        generalize v 11 = x11 at *
        clear hf0 hf1 hf2 hf3 hf4 hf5 hf6 hf7 hf8 hf9 hf10
        obtain ⟨gy, hgy, hry⟩ := hf11
        subst hgy
        have ho6 := ho.below hg.below
        have hb6 := hb.trans (hg.below.mono hb.size)
        have hz6 := hb6.size
        clear hg hcn hce hKr hIr ho hBr
        go_wp2_with (at_builtin; refine wpList_append_dig rfl (.tmp 19) (.tmp 30) rfl w2.heap.size _ (xs i) y gy 23 rfl ho6 rfl hry HYL.out (by rw [HTL.out]; omega) (by omega) ?_; intro v7 w7 ho7 hg7)
        rw [← HY.out] at ho7
        go_roundw
        case rel => exact ⟨i + 1, by omega, by go_num, ho7, hb6.grown hg7 hb6.size (fun k hk => ho6.ownBlock k hk)⟩
        case measure => simp [intOf]; omega
      · obtain rfl : i = 18 := by omega
        have hxl := HTL.out 18
        have hdg := ho.digs
        have hDr := hD2.below hb hD2.lt
        clear ho hb
        rw [HF.out] at HP
        obtain ⟨ys, hys⟩ : ∃ ys, xs 18 = ys := ⟨_, rfl⟩
        rw [hys] at hdg hxl HT32 HP
        go_wp2_with fail
        refine (rkey_any ys _ wr hdg HT32.out (by omega) hKr hIr).mono ?_
        rintro e w3 ⟨rfl, hb3⟩
        have hB3 := hBr.trans (hb3.mono hBr.size)
        have hD3 := hDr.below hb3 hDr.lt
        have HSZ := Lib.hid (Tryd.sizeD_of _ (keyOf_len ys))
        have HCS : Hid ((cellsB (keyOf ys)).size = (cellsB (List.replicate 32 0)).size) := Lib.hid (by rw [cellsB_size, keyOf_len]; rfl)
        clear hBr hDr hb3 hdg hxl hys
        go_wp2_with (refine wpList_store_row rfl 23 (.tmp 4) (.tmp 33) rfl (w.heap.size + 1) rfl (cellsB (keyOf ys)) _ 23 rfl hD3 HCS.out HSZ.out (cellsB_one _) ?_; intro w9 hg9 hr9 hz9)
        refine bodyPost_ret (results_cell_row_tmp rfl _ _ (w.heap.size + 1) 23 (cellsB (keyOf ys)) (0, 0) _ rfl hr9 Tryd.underD rfl HSZ.out) rfl ⟨by rw [HP.out, HE.out]; rfl, ?_⟩
        exact hB3.grown hg9 hB3.size (fun k hk => by cases hk; omega)
  · have HE := Lib.hid (errS_bad hl)
    have HP : Hid (recR d sig = zeroD) := by show _ = _; unfold recR; rw [if_neg hl]
    have HSZ := Lib.hid (Tryd.sizeD_of zeroD rfl)
    have HCS : Hid ((cellsB zeroD).size = (cellsB (List.replicate 32 0)).size) := rfl
    have hl2 : ¬ (sig.length : Int) = 18 := by omega
    clear hv
    generalize sig.length = n at *
    go_enter Tryd.func21, Tryd.ntmps21
    go_wp2_with (refine wpList_store_row rfl 23 (.tmp 4) (.tmp 12) rfl (w.heap.size + 1) rfl (cellsB zeroD) _ 23 rfl hD0 HCS.out HSZ.out (cellsB_one _) ?_; intro w9 hg9 hr9 hz9)
    refine bodyPost_ret (results_cell_row_tmp rfl _ _ (w.heap.size + 1) 23 (cellsB zeroD) (0, 0) _ rfl hr9 Tryd.underD rfl HSZ.out) rfl ⟨by rw [HP.out, HE.out]; rfl, ?_⟩
    exact hb0.grown hg9 hb0.size (fun k hk => by cases hk; omega)
end Go.Proofs.YthhlfcbkggahmaaDoor

/- Merged: the reference's Root, Path, Sign and Same return what the plain functions say. No conditions of its own beyond those that each law states. -/
import Derived.Test.YteogcilnpkaplaaDoorM14
import Derived.Test.YteogcilnpkaplaaDoorM5
import Derived.Test.YteogcilnpkaplaaDoorM10
namespace Go.Proofs.YteogcilnpkaplaaDoor
open Go.RowKit
set_option maxRecDepth 10000 in
set_option maxHeartbeats 4000000 in
theorem rpower_any (n : Nat) (w : World) : Calls Tryd.prog 47 #[.int .i64 (n : Int)] w fun e w' => e = .returned (.bool (powB n)) ∧ w' = w := by
  by_cases h : n = 1 ∨ n = 2 ∨ n = 4 ∨ n = 8 ∨ n = 16 ∨ n = 32 ∨ n = 64
  · rcases h with rfl | rfl | rfl | rfl | rfl | rfl | rfl <;>
    · go_enter Tryd.func47, Tryd.ntmps47
      go_wp2
      go_ret
      exact ⟨rfl, rfl⟩
  · have hb : powB n = false := by
      cases hp : powB n with
      | false => rfl
      | true => unfold powB at hp; simp at hp; omega
    rw [hb]
    have c1 : ¬ (n : Int) = 1 := by omega
    have d1 : ((n : Int) == 1) = false := by simpa using c1
    have c2 : ¬ (n : Int) = 2 := by omega
    have d2 : ((n : Int) == 2) = false := by simpa using c2
    have c4 : ¬ (n : Int) = 4 := by omega
    have d4 : ((n : Int) == 4) = false := by simpa using c4
    have c8 : ¬ (n : Int) = 8 := by omega
    have d8 : ((n : Int) == 8) = false := by simpa using c8
    have c16 : ¬ (n : Int) = 16 := by omega
    have d16 : ((n : Int) == 16) = false := by simpa using c16
    have c32 : ¬ (n : Int) = 32 := by omega
    have d32 : ((n : Int) == 32) = false := by simpa using c32
    have c64 : ¬ (n : Int) = 64 := by omega
    have d64 : ((n : Int) == 64) = false := by simpa using c64
    clear h hb
    go_enter Tryd.func47, Tryd.ntmps47
    go_wp2
    go_ret
    exact ⟨rfl, rfl⟩
set_option maxRecDepth 100000 in
set_option maxHeartbeats 4000000 in
theorem rmerkle_any : ∀ (k : Nat) (l : List Dg) (v : Value) (w : World), Digs w v l → all32 l → l.length = 2 ^ k → RKFact w → RIFact w → k ≤ 60 →
    Calls Tryd.prog 33 #[v] w fun e w' => e = .returned (.agg (cellsB (merkle k l))) ∧ Below w.heap.size w w'
  | 0, l, v, w, hv, h32, hl, hK, hI, _ => by
    have hkl := hK.lt
    obtain ⟨av, kv, rfl⟩ := hv.form
    have hpos : 0 < l.length := by omega
    obtain ⟨sb, so, rfl, -, hk1, hk2, hat⟩ := hv.at hpos
    have hce := hat.elem h32 0 hpos
    rw [Nat.zero_mul, Nat.add_zero] at hce
    have hyl := all32_getD h32 0 hpos
    show Calls _ _ _ _ fun e w' => e = .returned (.agg (cellsB (l.getD 0 []))) ∧ Below w.heap.size w w'
    generalize l.getD 0 [] = y at *
    have HY := Lib.hid hyl
    have HSY := Lib.hid (Tryd.sizeD_of y hyl)
    have HCY : Hid ((cellsB y).size = (cellsB (List.replicate 32 0)).size) := Lib.hid (by rw [cellsB_size, hyl]; rfl)
    have hb0 : Below w.heap.size w (w.alloc (.cells (cellsB (List.replicate 32 0)) 25)) := (Below.refl _ _).alloc (Nat.le_refl _) _
    have hD0 : Row (w.alloc (.cells (cellsB (List.replicate 32 0)) 25)) w.heap.size 25 (cellsB (List.replicate 32 0)) := Row.new w _ _
    have hce0 := range_below hce hb0
    have hl1 : l.length = 1 := by simpa using hl
    rw [hl1]
    clear hl hl1 h32 hat hce hyl hpos hv hk1
    go_enter Tryd.func33, Tryd.ntmps33
    go_wp2_with (first | (refine wpList_index0 rfl (.tmp 7) rfl sb so 1 kv rfl (by decide) ?_) | (refine wpList_load_dig rfl (.tmp 8) rfl sb so rfl y HY.out hce0 ?_) | (refine wpList_store_row rfl 25 (.tmp 2) (.tmp 9) rfl w.heap.size rfl (cellsB y) (cellsB (List.replicate 32 0)) 25 rfl hD0 HCY.out HSY.out (cellsB_one _) ?_; intro w2 hg2 hr2 hz2))
    refine bodyPost_ret (v := .agg (cellsB y)) (results_cell_row rfl _ _ w.heap.size 25 _ (0, 0) _ rfl hr2 Tryd.underD rfl HSY.out) rfl ⟨rfl, ?_⟩
    exact hb0.grown hg2 hb0.size (fun k hk => by cases hk; exact Nat.le_refl _)
  | k + 1, l, v, w, hv, h32, hl, hK, hI, hk => by
    have hkl := hK.lt
    have hil := hI.lt
    obtain ⟨av, kv, rfl⟩ := hv.form
    have hnp : 0 < 2 ^ k := Nat.pow_pos (by decide)
    have hn2 : l.length = 2 * 2 ^ k := by rw [hl, Nat.pow_succ, Nat.mul_comm]
    obtain ⟨sb, so, rfl, -, hk1, hk2, hat⟩ := hv.at (by omega)
    have hp60 : 2 ^ k ≤ 2 ^ 60 := Nat.pow_le_pow_right (by decide) (by omega)
    have IH : Hid (∀ (l : List Dg) (v : Value) (w : World), Digs w v l → all32 l → l.length = 2 ^ k → RKFact w → RIFact w → Calls Tryd.prog 33 #[v] w fun e w' => e = .returned (.agg (cellsB (merkle k l))) ∧ Below w.heap.size w w') := Lib.hid fun l v w h1 h2 h3 h4 h5 => rmerkle_any k l v w h1 h2 h3 h4 h5 (by omega)
    have hlt : (l.take (2 ^ k)).length = 2 ^ k := by rw [List.length_take]; omega
    have hld : (l.drop (2 ^ k)).length = 2 ^ k := by rw [List.length_drop]; omega
    have h32t : all32 (l.take (2 ^ k)) := fun y hy => h32 y (List.mem_of_mem_take hy)
    have h32d : all32 (l.drop (2 ^ k)) := fun y hy => h32 y (List.mem_of_mem_drop hy)
    have hal := merkle_len32 hlt h32t
    have hbl := merkle_len32 hld h32d
    show Calls _ _ _ _ fun e w' => e = .returned (.agg (cellsB (pairOf (merkle k (l.take (2 ^ k))) (merkle k (l.drop (2 ^ k)))))) ∧ Below w.heap.size w w'
    obtain ⟨a, ea⟩ : ∃ a, merkle k (l.take (2 ^ k)) = a := ⟨_, rfl⟩
    obtain ⟨b, eb⟩ : ∃ b, merkle k (l.drop (2 ^ k)) = b := ⟨_, rfl⟩
    rw [ea] at hal ⊢
    rw [eb] at hbl ⊢
    obtain ⟨x, ex⟩ : ∃ x, pairOf a b = x := ⟨_, rfl⟩
    have hxl : x.length = 32 := by rw [← ex]; exact pairOf_len _ _
    rw [ex]
    have HAE := Lib.hid ea
    have HBE := Lib.hid eb
    have HXE := Lib.hid ex
    have HTL := Lib.hid hlt
    have HDL := Lib.hid hld
    have HTA := Lib.hid h32t
    have HTD := Lib.hid h32d
    have HA := Lib.hid hal
    have HB := Lib.hid hbl
    have HX := Lib.hid hxl
    have HSX := Lib.hid (Tryd.sizeD_of x hxl)
    have HCX : Hid ((cellsB x).size = (cellsB (List.replicate 32 0)).size) := Lib.hid (by rw [cellsB_size, hxl]; rfl)
    have H32 := Lib.hid h32
    clear ea eb ex hal hbl hxl hlt hld h32t h32d h32 hat
    obtain ⟨n, hn⟩ : ∃ n, 2 ^ k = n := ⟨_, rfl⟩
    rw [hn] at IH HAE HBE HTL HDL HTA HTD hn2 hnp hp60
    have HNL : Hid (n ≤ l.length) := Lib.hid (by omega)
    have hq2 : (l.length : Int) / 2 = (n : Int) := by omega
    have hwn : IntKind.i64.wrap (n : Int) = (n : Int) := IntWalk.i64_in _ (by omega)
    have hl1 : ¬ (l.length : Int) = 1 := by omega
    have hl2 : ((l.length : Int) == 1) = false := by simpa using hl1
    have hb0 : Below w.heap.size w (w.alloc (.cells (cellsB (List.replicate 32 0)) 25)) := (Below.refl _ _).alloc (Nat.le_refl _) _
    have hD0 : Row (w.alloc (.cells (cellsB (List.replicate 32 0)) 25)) w.heap.size 25 (cellsB (List.replicate 32 0)) := Row.new w _ _
    clear hn2 hnp hp60 hn hl
    go_enter Tryd.func33, Tryd.ntmps33
    generalize hR4 : Code.region 4 _ _ = R4
    have HR4 := Lib.hid hR4
    clear hR4
    go_wp2
    obtain ⟨w1, ew1⟩ : ∃ w1, w.alloc (.cells (cellsB (List.replicate 32 0)) 25) = w1 := ⟨_, rfl⟩
    change Code.wp _ _ _ _ (w.alloc (.cells (cellsB (List.replicate 32 0)) 25))
    rw [ew1] at hb0 hD0 ⊢
    clear ew1
    have hv1 := hv.later hb0
    have hK1 := hK.below hb0 hkl
    have hI1 := hI.below hb0 hil
    have hkl1 := hK1.lt
    have hil1 := hI1.lt
    have hl0 := hD0.lt
    obtain ⟨B, eB⟩ : ∃ B, w1.heap.size = B := ⟨_, rfl⟩
    rw [← HR4.out]
    clear HR4
    refine wp_gen fun a0 ha0 => ?_
    have i0 : a0.eval (.tmp 0) = .slice (some ⟨sb, so, none⟩) l.length kv := by rw [ha0]; rfl
    have i3 : a0.eval (.tmp 3) = .int .i64 (n : Int) := by rw [ha0]; rfl
    have hsz : a0.tmps.size = 22 := by rw [ha0]; rfl
    refine wp_region_inv_tail (B := B) 9 [some 13, some 14, some 15, some 16, some 17, some 18, some 19, some 20, some 21, none] [Asrt.eq (.slice (some ⟨sb, so, none⟩) l.length kv), Asrt.eq (.int .i64 (n : Int)), Asrt.digs (l.take n), Asrt.eq (.agg (cellsB (a))), Asrt.eq (.slice (some ⟨sb, so, none⟩) l.length kv), Asrt.eq (.int .i64 (n : Int)), Asrt.digs (l.drop n), Asrt.eq (.agg (cellsB (b))), Asrt.eq (.agg (cellsB (x)))] rfl (by as_aux_lemma => kernel_rfl) (by rw [hsz]; as_aux_lemma => kernel_rfl) (by as_aux_lemma => kernel_rfl) (by as_aux_lemma => kernel_rfl) (by as_aux_lemma => kernel_rfl) (by decide) (by as_aux_lemma => kernel_rfl) (by omega) ⟨?_, ?_, ?_, ?_, ?_, ?_, ?_, ?_, ?_, trivial⟩ ?_
    · as_aux_lemma =>
        intro ev w1 hg hin hc hgl hfn hd
        have hB := hg.top
        have g0 : ev (.tmp 0) = .slice (some ⟨sb, so, none⟩) l.length kv := (hin 0 (by kernel_rfl)).trans i0
        clear hin hd
        refine step_on (guard_none rfl) fun K hK => ?_
        unfold YieldsG
        go_simp
        exact hK _ _ rfl (Grow.refl hB)
    · as_aux_lemma =>
        intro ev w1 hg hin hc hgl hfn hd
        have hB := hg.top
        have g3 : ev (.tmp 3) = .int .i64 (n : Int) := (hin 3 (by kernel_rfl)).trans i3
        clear hin hd
        refine step_on (guard_none rfl) fun K hK => ?_
        unfold YieldsG
        go_simp
        exact hK _ _ rfl (Grow.refl hB)
    · as_aux_lemma =>
        intro ev w1 hg hin hc hgl hfn hd
        have hB := hg.top
        have f13 : (ev (.tmp 13)) = .slice (some ⟨sb, so, none⟩) l.length kv := hd.1 rfl _ rfl
        have f14 : (ev (.tmp 14)) = .int .i64 (n : Int) := hd.2.1 rfl _ rfl
        clear hin hd
        refine step_on (guard_none rfl) fun K hK => ?_
        obtain ⟨a9, hr9, hd9⟩ := run_slice_digs (hv1.later (by rw [eB]; exact hg.bl)) H32.out none (some (.int .i64 (n : Int))) 0 n (.inl ⟨rfl, rfl⟩) (.inr rfl) (Nat.zero_le _) HNL.out
        rw [List.drop_zero, Nat.sub_zero, Nat.sub_zero] at hd9
        unfold YieldsG execOp
        simp only [f13, f14, Option.map, Sem.run_bind]
        erw [hr9]
        exact hK _ _ hd9 (Grow.refl hB)
    · as_aux_lemma =>
        intro ev w1 hg hin hc hgl hfn hd
        have hB := hg.top
        have f15 : Digs w1 (ev (.tmp 15)) (l.take n) := hd.1 rfl _ rfl
        clear hin hd
        refine step_on (guard_none rfl) fun K hK => ?_
        unfold YieldsG
        go_simp
        refine (IH.out (l.take n) _ w1 f15 HTA.out HTL.out (hK1.below hg.bl (by omega)) (hI1.below hg.bl (by omega))).mono ?_
        rintro e w2 ⟨rfl, hb⟩
        exact ⟨_, rfl, hK _ _ (by show _ = _; rw [HAE.out]) (Grow.of hB hb)⟩
    · as_aux_lemma =>
        intro ev w1 hg hin hc hgl hfn hd
        have hB := hg.top
        have g0 : ev (.tmp 0) = .slice (some ⟨sb, so, none⟩) l.length kv := (hin 0 (by kernel_rfl)).trans i0
        clear hin hd
        refine step_on (guard_none rfl) fun K hK => ?_
        unfold YieldsG
        go_simp
        exact hK _ _ rfl (Grow.refl hB)
    · as_aux_lemma =>
        intro ev w1 hg hin hc hgl hfn hd
        have hB := hg.top
        have g3 : ev (.tmp 3) = .int .i64 (n : Int) := (hin 3 (by kernel_rfl)).trans i3
        clear hin hd
        refine step_on (guard_none rfl) fun K hK => ?_
        unfold YieldsG
        go_simp
        exact hK _ _ rfl (Grow.refl hB)
    · as_aux_lemma =>
        intro ev w1 hg hin hc hgl hfn hd
        have hB := hg.top
        have f17 : (ev (.tmp 17)) = .slice (some ⟨sb, so, none⟩) l.length kv := hd.1 rfl _ rfl
        have f18 : (ev (.tmp 18)) = .int .i64 (n : Int) := hd.2.1 rfl _ rfl
        clear hin hd
        refine step_on (guard_none rfl) fun K hK => ?_
        obtain ⟨a9, hr9, hd9⟩ := run_slice_digs (hv1.later (by rw [eB]; exact hg.bl)) H32.out (some (.int .i64 (n : Int))) none n l.length (.inr rfl) (.inl ⟨rfl, rfl⟩) HNL.out (Nat.le_refl _)
        rw [List.take_of_length_le (by rw [List.length_drop]; exact Nat.le_refl _)] at hd9
        unfold YieldsG execOp
        simp only [f17, f18, Option.map, Sem.run_bind]
        erw [hr9]
        exact hK _ _ hd9 (Grow.refl hB)
    · as_aux_lemma =>
        intro ev w1 hg hin hc hgl hfn hd
        have hB := hg.top
        have f19 : Digs w1 (ev (.tmp 19)) (l.drop n) := hd.1 rfl _ rfl
        clear hin hd
        refine step_on (guard_none rfl) fun K hK => ?_
        unfold YieldsG
        go_simp
        refine (IH.out (l.drop n) _ w1 f19 HTD.out HDL.out (hK1.below hg.bl (by omega)) (hI1.below hg.bl (by omega))).mono ?_
        rintro e w2 ⟨rfl, hb⟩
        exact ⟨_, rfl, hK _ _ (by show _ = _; rw [HBE.out]) (Grow.of hB hb)⟩
    · as_aux_lemma =>
        intro ev w1 hg hin hc hgl hfn hd
        have hB := hg.top
        have f16 : (ev (.tmp 16)) = .agg (cellsB (a)) := hd.1 rfl _ rfl
        have f20 : (ev (.tmp 20)) = .agg (cellsB (b)) := hd.2.1 rfl _ rfl
        clear hin hd
        refine step_on (guard_none rfl) fun K hK => ?_
        unfold YieldsG
        go_simp
        refine (rpair_any a b w1 HA.out HB.out (hK1.below hg.bl (by omega)) (hI1.below hg.bl (by omega))).mono ?_
        rintro e w2 ⟨rfl, hb⟩
        exact ⟨_, rfl, hK _ _ (by show _ = _; rw [HXE.out]) (Grow.of hB hb)⟩
    intro v w2 hg hall
    have hf0 : (v 0) = .slice (some ⟨sb, so, none⟩) l.length kv := hall.1 (by simp)
    have hf1 : (v 1) = .int .i64 (n : Int) := hall.2.1 (by simp)
    have hf2 : Digs w2 (v 2) (l.take n) := hall.2.2.1 (by simp)
    have hf3 : (v 3) = .agg (cellsB (a)) := hall.2.2.2.1 (by simp)
    have hf4 : (v 4) = .slice (some ⟨sb, so, none⟩) l.length kv := hall.2.2.2.2.1 (by simp)
    have hf5 : (v 5) = .int .i64 (n : Int) := hall.2.2.2.2.2.1 (by simp)
    have hf6 : Digs w2 (v 6) (l.drop n) := hall.2.2.2.2.2.2.1 (by simp)
    have hf7 : (v 7) = .agg (cellsB (b)) := hall.2.2.2.2.2.2.2.1 (by simp)
    have hf8 : (v 8) = .agg (cellsB (x)) := hall.2.2.2.2.2.2.2.2.1 (by simp)
    clear hall i0 i3 hsz
    rw [ha0]
    clear ha0
    simp only [List.take_succ_cons, List.take_zero, List.drop_succ_cons, List.drop_zero, putAll, Act.put, List.setIfInBounds_toArray, List.set_cons_zero, List.set_cons_succ, Nat.zero_add, Nat.reduceAdd]
    rw [hf0, hf1, hf3, hf4, hf5, hf7, hf8]
    generalize v 2 = x2 at *
    generalize v 6 = x6 at *
    clear hf0 hf1 hf3 hf4 hf5 hf7 hf8
    have hD2 := hD0.below hg.below hl0
    have hB2 := hb0.trans (hg.below.mono hb0.size)
    clear hg hb0 hD0 hv1
    go_wp2_with (refine wpList_store_row rfl 25 (.tmp 2) (.tmp 21) rfl w.heap.size rfl (cellsB x) (cellsB (List.replicate 32 0)) 25 rfl hD2 HCX.out HSX.out (cellsB_one _) ?_; intro w3 hg3 hr3 hz3)
    refine bodyPost_ret (v := .agg (cellsB x)) (results_cell_row rfl _ _ w.heap.size 25 _ (0, 0) _ rfl hr3 Tryd.underD rfl HSX.out) rfl ⟨rfl, ?_⟩
    exact hB2.grown hg3 hB2.size (fun k hk => by cases hk; exact Nat.le_refl _)
def leavesL (seed : List UInt8) : List Dg := if okLen seed = true then leavesOf seed else []
set_option maxRecDepth 100000 in
set_option maxHeartbeats 4000000 in
theorem rleaves_any (seed : List UInt8) (v : Value) (w : World) (hv : Bytes w v seed (fun _ => True)) (hK : RKFact w) (hI : RIFact w) :
    Calls Tryd.prog 32 #[v] w fun e w' => ∃ r, e = .returned (.tuple #[r, .int .i64 (errL seed : Nat)]) ∧ Digs w' r (leavesL seed) ∧ Below w.heap.size w w' := by
  have hkl := hK.lt
  have hil := hI.lt
  obtain ⟨av, kv, rfl⟩ : ∃ a c, v = .slice a seed.length c := by obtain ⟨a, c, h, _⟩ := hv; exact ⟨a, c, h⟩
  cases hok : okLen seed with
  | false =>
    have HE : Hid (errL seed = 1) := Lib.hid (by unfold errL; rw [hok]; rfl)
    have HL : Hid (leavesL seed = []) := Lib.hid (by unfold leavesL; rw [hok]; rfl)
    have HER : Hid (errR seed 0 = 1) := Lib.hid (errR_bad hok)
    have hpl := pubR_len seed 0
    clear hok
    go_enter Tryd.func32, Tryd.ntmps32
    go_wp2
    go_loopw [8] (fun t wr => t = .int .i64 0 ∧ wr = w) (fun t _ => 0)
    case atStart => exact ⟨rfl, rfl⟩
    case round =>
      obtain ⟨rfl, rfl⟩ := hrel
      go_wp2_with fail
      refine (rpublic_any seed _ 0 wr (hv.imp fun _ _ => trivial) hK hI).mono ?_
      rintro e w2 ⟨rfl, hb2⟩
      rw [HER.out]
      generalize pubR seed 0 = x at *
      have HX := Lib.hid hpl
      have HSX := Lib.hid (Tryd.sizeD_of x hpl)
      have HCX : Hid ((cellsB x).size = (cellsB (List.replicate 32 0)).size) := Lib.hid (by rw [cellsB_size, hpl]; rfl)
      clear hpl
      go_wp2_with (refine wpList_store_row rfl 25 (.tmp 6) (.tmp 15) rfl w2.heap.size rfl (cellsB x) (cellsB (List.replicate 32 0)) 25 rfl (Row.new w2 _ _) HCX.out HSX.out (cellsB_one _) ?_; intro w3 hg3 hr3 hz3)
      refine bodyPost_ret (results_tmp2 rfl _ _ _) rfl ⟨_, by rw [HE.out]; rfl, by rw [HL.out]; exact Digs.nil _, hb2.trans ((box_below hg3).mono hb2.size)⟩
  | true =>
    have HE : Hid (errL seed = 0) := Lib.hid (by unfold errL; rw [hok]; rfl)
    have HL : Hid (leavesL seed = (List.range 4).map fun i => pubOf seed i) := Lib.hid (by unfold leavesL; rw [hok]; rfl)
    have HER : Hid (∀ i : Nat, i < 4 → errR seed (i : Int) = 0 ∧ pubR seed (i : Int) = pubOf seed i) := Lib.hid fun i hi => by
      have h : okSeed seed (i : Int) = true := by rw [okSeed_small hi]; exact hok
      exact ⟨errR_ok h, by unfold pubR; rw [if_pos h]; rfl⟩
    have HST : Hid (∀ i, ((List.range (i + 1)).map fun i => pubOf seed i) = ((List.range i).map fun i => pubOf seed i) ++ [pubOf seed i]) := Lib.hid fun i => by rw [List.range_succ, List.map_append]; rfl
    have HTL : Hid (∀ i, ((List.range i).map fun i => pubOf seed i).length = i) := Lib.hid fun i => by rw [List.length_map, List.length_range]
    have HPL : Hid (∀ i, (pubOf seed i).length = 32) := Lib.hid fun i => keyOf_len _
    obtain ⟨xs, exs⟩ : ∃ xs : Nat → List Dg, (fun i => (List.range i).map fun i => pubOf seed i) = xs := ⟨_, rfl⟩
    have hxs : ∀ i, ((List.range i).map fun i => pubOf seed i) = xs i := fun i => by rw [← exs]
    simp only [hxs] at HL HST HTL
    clear hok exs hxs
    go_enter Tryd.func32, Tryd.ntmps32
    go_wp2
    go_loopw [8, 4] (fun t r wr => ∃ i : Nat, i ≤ 4 ∧ t = .int .i64 (i : Int) ∧ OwnD wr w.heap.size r (xs i) ∧ Below w.heap.size w wr) (fun t _ _ => 4 - (intOf t).toNat)
    case atStart =>
      have h0 : xs 0 = [] := List.eq_nil_of_length_eq_zero (HTL.out 0)
      exact ⟨0, by omega, rfl, by rw [h0]; exact OwnD.nil _ _, Below.refl _ _⟩
    case round =>
      obtain ⟨i, hi, rfl, ho, hb⟩ := hrel
      by_cases hlt : i < 4
      · have hvr := (hv.later hb).imp (ok' := fun _ => True) fun _ _ => trivial
        go_wp2_with fail
        refine (rpublic_any seed _ (i : Int) wr hvr (hK.below hb hkl) (hI.below hb hil)).mono ?_
        rintro e w2 ⟨rfl, hb2⟩
        rw [(HER.out i hlt).1, (HER.out i hlt).2]
        have hB2 := hb.trans (hb2.mono hb.size)
        have ho2 := ho.below hb2
        have HY : Hid (xs (i + 1) = xs i ++ [pubOf seed i]) := Lib.hid (HST.out i)
        have hyl := HPL.out i
        generalize pubOf seed i = y at *
        have HYL := Lib.hid hyl
        have HSX := Lib.hid (Tryd.sizeD_of y hyl)
        have HCX : Hid ((cellsB y).size = (cellsB (List.replicate 32 0)).size) := Lib.hid (by rw [cellsB_size, hyl]; rfl)
        clear ho hb2 hb hvr hyl
        have hz2 := hB2.size
        go_wp2_with (first | (refine wpList_store_row rfl 25 (.tmp 6) (.tmp 15) rfl w2.heap.size rfl (cellsB y) (cellsB (List.replicate 32 0)) 25 rfl (Row.new w2 _ _) HCX.out HSX.out (cellsB_one _) ?_; intro w3 hg3 hr3 hz3; clear hz3; have hb3 := box_below hg3; clear hg3; have ho3 := ho2.below hb3; have hB3 := hB2.trans (hb3.mono hB2.size); clear hb3 ho2 hB2) | (refine wpList_load_row rfl 25 (.tmp 6) rfl w2.heap.size rfl 25 (cellsB y) (0, 0) _ hr3 Tryd.underD rfl HSX.out ?_) | (refine wpList_build_dig rfl (.tmp 21) rfl y rfl HYL.out ?_; intro w4 hr4 hb4 hz4; have ho4 := ho3.below hb4; have hB4 := hB3.trans (hb4.mono hB3.size)) | (at_builtin; refine wpList_append_dig rfl (.tmp 20) (.tmp 22) rfl w.heap.size _ (xs i) y w3.heap.size 25 rfl ho4 rfl hr4 HYL.out (by rw [HTL.out]; omega) hB4.size ?_; intro v6 w6 ho6 hg6))
        have hB6 := hB4.grown hg6 hB4.size (fun k hk => by have := ho4.ownBlock k hk; omega)
        rw [← HY.out] at ho6
        go_roundw
        case rel => exact ⟨i + 1, by omega, by go_num, ho6, hB6⟩
        case measure => simp [intOf]; omega
      · obtain rfl : i = 4 := by omega
        have hdg := ho.digs
        rw [← HL.out] at hdg
        obtain ⟨ra, rk, hrr⟩ := hdg.form
        subst hrr
        clear ho
        go_wp2
        refine bodyPost_ret (results_tmp2 rfl _ _ _) rfl ⟨_, by rw [HE.out]; rfl, hdg, hb⟩
set_option maxRecDepth 100000 in
set_option maxHeartbeats 4000000 in
theorem rroot_any (seed : List UInt8) (v : Value) (w : World) (hv : Bytes w v seed (fun _ => True)) (hK : RKFact w) (hI : RIFact w) :
    Calls Tryd.prog 13 #[v] w fun e w' => e = .returned (.tuple #[.agg (cellsB (rootK seed)), .int .i64 (errL seed : Nat)]) ∧ Below w.heap.size w w' := by
  have hkl := hK.lt
  have hil := hI.lt
  obtain ⟨av, kv, rfl⟩ : ∃ a c, v = .slice a seed.length c := by obtain ⟨a, c, h, _⟩ := hv; exact ⟨a, c, h⟩
  have hb0 : Below w.heap.size w (w.alloc (.cells (cellsB (List.replicate 32 0)) 25)) := (Below.refl _ _).alloc (Nat.le_refl _) _
  have hD0 : Row (w.alloc (.cells (cellsB (List.replicate 32 0)) 25)) w.heap.size 25 (cellsB (List.replicate 32 0)) := Row.new w _ _
  have HS0 := Lib.hid (Tryd.sizeD_of (List.replicate 32 0) List.length_replicate)
  have hv0 := (hv.later hb0).imp (ok' := fun _ => True) fun _ _ => trivial
  cases hok : okLen seed with
  | false =>
    have HE : Hid (errL seed = 1) := Lib.hid (by unfold errL; rw [hok]; rfl)
    have HR : Hid (rootK seed = List.replicate 32 0) := Lib.hid (by unfold rootK; rw [hok]; rfl)
    clear hok
    go_enter Tryd.func13, Tryd.ntmps13
    go_wp2_with fail
    refine (rleaves_any seed _ _ hv0 (hK.below hb0 hkl) (hI.below hb0 hil)).mono ?_
    rintro e w1 ⟨r, rfl, hd, hb1⟩
    obtain ⟨ra, rk, rfl⟩ := hd.form
    rw [HE.out]
    have hB1 := hb0.trans (hb1.mono hb0.size)
    have hD1 := hD0.below hb1 hD0.lt
    clear hb0 hD0 hb1 hv0
    go_wp2_with (first | (refine wpList_build_nil rfl rfl ?_) | (refine wpList_store_row rfl 25 (.tmp 2) (.tmp 13) rfl w.heap.size rfl (cellsB (List.replicate 32 0)) (cellsB (List.replicate 32 0)) 25 rfl hD1 rfl HS0.out (cellsB_one _) ?_; intro w2 hg2 hr2 hz2))
    refine bodyPost_ret (results_cell_row_tmp rfl _ _ w.heap.size 25 (cellsB (List.replicate 32 0)) (0, 0) _ rfl hr2 Tryd.underD rfl HS0.out) rfl ⟨by rw [HR.out, HE.out]; rfl, ?_⟩
    exact hB1.grown hg2 hB1.size (fun k hk => by cases hk; exact Nat.le_refl _)
  | true =>
    have HE : Hid (errL seed = 0) := Lib.hid (by unfold errL; rw [hok]; rfl)
    have hl : leavesL seed = leavesOf seed := by unfold leavesL; rw [hok]; rfl
    have HLV := Lib.hid hl
    have hrk : rootK seed = merkle 2 (leavesOf seed) := by unfold rootK; rw [hok]; rfl
    have hxl := rootK_len seed
    have HMK := Lib.hid hrk
    have H32 := Lib.hid (leavesOf_32 seed)
    have HLL : Hid ((leavesOf seed).length = 2 ^ 2) := Lib.hid (leavesOf_len seed)
    generalize rootK seed = x at *
    have HSX := Lib.hid (Tryd.sizeD_of x hxl)
    have HCX : Hid ((cellsB x).size = (cellsB (List.replicate 32 0)).size) := Lib.hid (by rw [cellsB_size, hxl]; rfl)
    clear hok hl hrk hxl
    go_enter Tryd.func13, Tryd.ntmps13
    go_wp2_with fail
    refine (rleaves_any seed _ _ hv0 (hK.below hb0 hkl) (hI.below hb0 hil)).mono ?_
    rintro e w1 ⟨r, rfl, hd, hb1⟩
    rw [HLV.out] at hd
    obtain ⟨ra, rk, rfl⟩ := hd.form
    rw [HE.out]
    have hB1 := hb0.trans (hb1.mono hb0.size)
    have hD1 := hD0.below hb1 hD0.lt
    clear hb0 hD0 hb1 hv0
    go_wp2_with fail
    refine (rmerkle_any 2 _ _ w1 hd H32.out HLL.out (hK.below hB1 hkl) (hI.below hB1 hil) (by decide)).mono ?_
    rintro e w2 ⟨rfl, hb2⟩
    rw [← HMK.out]
    have hB2 := hB1.trans (hb2.mono hB1.size)
    have hD2 := hD1.below hb2 hD1.lt
    clear hB1 hD1 hb2 hd
    go_wp2_with (refine wpList_store_row rfl 25 (.tmp 2) (.tmp 16) rfl w.heap.size rfl (cellsB x) (cellsB (List.replicate 32 0)) 25 rfl hD2 HCX.out HSX.out (cellsB_one _) ?_; intro w3 hg3 hr3 hz3)
    refine bodyPost_ret (results_cell_row_tmp rfl _ _ w.heap.size 25 (cellsB x) (0, 0) _ rfl hr3 Tryd.underD rfl HSX.out) rfl ⟨by rw [HE.out]; rfl, ?_⟩
    exact hB2.grown hg3 hB2.size (fun k hk => by cases hk; exact Nat.le_refl _)
end Go.Proofs.YteogcilnpkaplaaDoor

namespace Go.Proofs.YteogcilnpkaplaaDoor
open Go.RowKit
theorem wpList_slice_mid {w : World} {ops : Array Oper} {rest : List Oper} {o : Oper} {a : Act} {Q : Exit → Act → World → Prop} (hgd : o.guard = none) (x y z : Operand) (ho : o.op = .slice 29 x (some y) (some z) none)
    (ad : Option Addr) (n cap : Nat) (xs : List Dg) (lo hi : Nat) (hx : a.eval x = .slice ad n cap) (hy : a.eval y = .int .i64 (lo : Int)) (hz : a.eval z = .int .i64 (hi : Int)) (h : Digs w (.slice ad n cap) xs) (h32 : all32 xs) (hlo : lo ≤ hi) (hm : hi ≤ n)
    (K : ∀ ad' n' cap', Digs w (.slice ad' n' cap') ((xs.drop lo).take (hi - lo)) → wpList Tryd.prog ops Q rest (a.put o.dst (.slice ad' n' cap')) w) : wpList Tryd.prog ops Q (o :: rest) a w := by
  obtain ⟨a9, hr9, hd9⟩ := run_slice_digs h h32 (some (.int .i64 (lo : Int))) (some (.int .i64 (hi : Int))) lo hi (.inr rfl) (.inr rfl) hlo hm
  refine wpList_value hgd _ ?_ (K a9 _ _ hd9)
  unfold execOp
  simp only [ho, hx, hy, hz, Option.map, Sem.run_bind]
  erw [hr9]
  rfl
set_option maxRecDepth 100000 in
set_option maxHeartbeats 4000000 in
theorem rpath_pow (l : List Dg) (v : Value) (idx : Int) (w : World) (hv : Digs w v l) (hp : powB l.length = false) :
    Calls Tryd.prog 26 #[v, .int .i64 idx] w fun e w' => ∃ pv, e = .returned (.tuple #[pv, .int .i64 (errP l.length idx : Nat)]) ∧ Digs w' pv (pathR l idx) ∧ Below w.heap.size w w' := by
  obtain ⟨av, kv, rfl⟩ := hv.form
  have hno : okPath l.length idx = false := by
    cases hok : okPath l.length idx with
    | false => rfl
    | true => obtain ⟨h1, h2, h3⟩ := (okPath_iff _ _).1 hok; first | omega | (rw [h1] at hp; cases hp)
  have HE : Hid (errP l.length idx = 1) := Lib.hid (by unfold errP; rw [hno]; rfl)
  have HR : Hid (pathR l idx = []) := Lib.hid (by unfold pathR; rw [hno]; rfl)
  rw [HE.out, HR.out]
  have HPB := Lib.hid hp
  clear hno hp hv
  go_enter Tryd.func26, Tryd.ntmps26
  go_wp2_with fail
  refine (rpower_any l.length w).mono ?_
  rintro e w1 ⟨rfl, hw1⟩
  rw [hw1, HPB.out]
  clear hw1 w1
  go_wp2
  refine bodyPost_ret (results_tmp2 rfl _ _ _) rfl ⟨_, rfl, Digs.nil _, Below.refl _ _⟩
set_option maxRecDepth 100000 in
set_option maxHeartbeats 4000000 in
theorem rpath_neg (l : List Dg) (v : Value) (idx : Int) (w : World) (hv : Digs w v l) (hp : powB l.length = true) (h : idx < 0) :
    Calls Tryd.prog 26 #[v, .int .i64 idx] w fun e w' => ∃ pv, e = .returned (.tuple #[pv, .int .i64 (errP l.length idx : Nat)]) ∧ Digs w' pv (pathR l idx) ∧ Below w.heap.size w w' := by
  obtain ⟨av, kv, rfl⟩ := hv.form
  have hno : okPath l.length idx = false := by
    cases hok : okPath l.length idx with
    | false => rfl
    | true => obtain ⟨h1, h2, h3⟩ := (okPath_iff _ _).1 hok; first | omega | (rw [h1] at hp; cases hp)
  have HE : Hid (errP l.length idx = 1) := Lib.hid (by unfold errP; rw [hno]; rfl)
  have HR : Hid (pathR l idx = []) := Lib.hid (by unfold pathR; rw [hno]; rfl)
  rw [HE.out, HR.out]
  have HPB := Lib.hid hp
  have d1 : decide (idx < (0 : Int)) = true := decide_eq_true h
  clear hno hp hv h
  go_enter Tryd.func26, Tryd.ntmps26
  go_wp2_with fail
  refine (rpower_any l.length w).mono ?_
  rintro e w1 ⟨rfl, hw1⟩
  rw [hw1, HPB.out]
  clear hw1 w1
  go_wp2
  refine bodyPost_ret (results_tmp2 rfl _ _ _) rfl ⟨_, rfl, Digs.nil _, Below.refl _ _⟩
set_option maxRecDepth 100000 in
set_option maxHeartbeats 4000000 in
theorem rpath_high (l : List Dg) (v : Value) (idx : Int) (w : World) (hv : Digs w v l) (hp : powB l.length = true) (h0 : ¬ idx < 0) (h : (l.length : Int) ≤ idx) :
    Calls Tryd.prog 26 #[v, .int .i64 idx] w fun e w' => ∃ pv, e = .returned (.tuple #[pv, .int .i64 (errP l.length idx : Nat)]) ∧ Digs w' pv (pathR l idx) ∧ Below w.heap.size w w' := by
  obtain ⟨av, kv, rfl⟩ := hv.form
  have hno : okPath l.length idx = false := by
    cases hok : okPath l.length idx with
    | false => rfl
    | true => obtain ⟨h1, h2, h3⟩ := (okPath_iff _ _).1 hok; first | omega | (rw [h1] at hp; cases hp)
  have HE : Hid (errP l.length idx = 1) := Lib.hid (by unfold errP; rw [hno]; rfl)
  have HR : Hid (pathR l idx = []) := Lib.hid (by unfold pathR; rw [hno]; rfl)
  rw [HE.out, HR.out]
  have HPB := Lib.hid hp
  have d1 : decide (idx < (0 : Int)) = false := decide_eq_false h0
  have d2 : decide ((l.length : Int) ≤ idx) = true := decide_eq_true h
  clear hno hp hv h h0
  go_enter Tryd.func26, Tryd.ntmps26
  go_wp2_with fail
  refine (rpower_any l.length w).mono ?_
  rintro e w1 ⟨rfl, hw1⟩
  rw [hw1, HPB.out]
  clear hw1 w1
  go_wp2
  refine bodyPost_ret (results_tmp2 rfl _ _ _) rfl ⟨_, rfl, Digs.nil _, Below.refl _ _⟩
set_option maxRecDepth 100000 in
set_option maxHeartbeats 4000000 in
theorem rpath_ok (k : Nat) (l : List Dg) (v : Value) (i : Nat) (w : World) (hv : Digs w v l) (h32 : all32 l) (hK : RKFact w) (hI : RIFact w) (hl : l.length = 2 ^ k) (hk : k ≤ 6) (hi : i < 2 ^ k) :
    Calls Tryd.prog 26 #[v, .int .i64 (i : Int)] w fun e w' => ∃ pv, e = .returned (.tuple #[pv, .int .i64 ((0 : Nat) : Int)]) ∧ Digs w' pv (pathOf k l i) ∧ Below w.heap.size w w' := by
  have hkl := hK.lt
  have hil := hI.lt
  have hn64 : l.length ≤ 64 := by rw [hl]; exact (Nat.pow_le_pow_right (by omega) hk : 2 ^ k ≤ 2 ^ 6)
  have HPB : Hid (powB l.length = true) := Lib.hid ((powB_iff _).2 ⟨k, hk, hl⟩)
  have H32 := Lib.hid h32
  have hin : i < l.length := by omega
  have d1 : decide ((i : Int) < (0 : Int)) = false := decide_eq_false (by omega)
  have d2 : decide ((l.length : Int) ≤ (i : Int)) = false := decide_eq_false (by omega)
  have d3 : decide (l.length ≤ i) = false := decide_eq_false (by omega)
  have d4 : ¬ l.length ≤ i := by omega
  have d5 : ¬ (i : Int) < 0 := by omega
  have HL := Lib.hid hl
  have HI2 := Lib.hid hi
  have HN64 := Lib.hid hn64
  have HIN := Lib.hid hin
  obtain ⟨av, kv, rfl⟩ := hv.form
  clear hl h32 hi hn64 hin
  go_enter Tryd.func26, Tryd.ntmps26
  go_wp2_with fail
  refine (rpower_any l.length w).mono ?_
  rintro e w1 ⟨rfl, hw1⟩
  rw [hw1, HPB.out]
  clear hw1 w1
  go_wp2
  clear d1 d2 d3 d4 d5
  go_loopw [7, 6] (fun t r wr => ∃ j : Nat, j ≤ k ∧ t = .int .i64 ((2 ^ j : Nat) : Int) ∧ OwnD wr w.heap.size r ((pathOf k l i).take j) ∧ Below w.heap.size w wr) (fun t _ _ => l.length - (intOf t).toNat)
  case atStart => exact ⟨0, by omega, rfl, OwnD.nil _ _, Below.refl _ _⟩
  case round =>
    obtain ⟨j, hj, rfl, ho, hb⟩ := hrel
    by_cases hlt : j < k
    · have hpk : l.length = 2 ^ (j + 1) * 2 ^ (k - (j + 1)) := by rw [HL.out, ← Nat.pow_add]; congr 1; omega
      have hnp : 0 < 2 ^ j := Nat.pow_pos (by decide)
      have hpp : 0 < 2 ^ (k - (j + 1)) := Nat.pow_pos (by decide)
      have hps : 2 ^ (j + 1) = 2 * 2 ^ j := by rw [Nat.pow_succ, Nat.mul_comm]
      have href := ref_elem k l i j HL.out HI2.out hlt
      have hbs := begOf_sib i (2 ^ j) hnp
      have hiq : i / 2 ^ j < 2 ^ (k - j) := by
        rw [Nat.div_lt_iff_lt_mul hnp, ← Nat.pow_add, Nat.sub_add_cancel hj]; exact HI2.out
      have hsl := sib_lt hiq (by rw [show k - j = (k - (j + 1)) + 1 by omega, Nat.pow_succ]; omega)
      have hmul := Nat.mul_le_mul_right (2 ^ j) (Nat.succ_le_of_lt hsl)
      have hlk : 2 ^ (k - j) * 2 ^ j = l.length := by rw [HL.out, ← Nat.pow_add]; congr 1; omega
      have hbl : begOf i (2 ^ j) + 2 ^ j ≤ l.length := by
        rw [hbs, ← hlk]
        rw [Nat.succ_mul] at hmul
        exact hmul
      have hsl2 : ((l.drop (begOf i (2 ^ j))).take (2 ^ j)).length = 2 ^ j := by rw [List.length_take, List.length_drop]; omega
      have hlt2 : 2 ^ j < l.length := by
        have h1 : 1 < 2 ^ (k - j) := Nat.one_lt_two_pow (by omega)
        have h2 := Nat.mul_lt_mul_of_pos_right h1 hnp
        rw [hlk, Nat.one_mul] at h2
        exact h2
      have HSL := Lib.hid hsl2
      have HS32 := Lib.hid (all32_part H32.out (begOf i (2 ^ j)) (2 ^ j))
      have HTL : Hid (((pathOf k l i).take j).length = j) := Lib.hid (by rw [List.length_take, pathOf_len]; omega)
      have HST : Hid ((pathOf k l i).take (j + 1) = (pathOf k l i).take j ++ [(pathOf k l i).getD j []]) := Lib.hid (by rw [take_path k l i j hlt, pathOf_get k l i j hlt])
      have hyl : ((pathOf k l i).getD j []).length = 32 := by rw [← href]; exact merkle_len32 hsl2 (all32_part H32.out _ _)
      have HPW := Lib.hid hps
      generalize (pathOf k l i).getD j [] = y at *
      have HYL := Lib.hid hyl
      have HMK := Lib.hid href
      have hn64 := HN64.out
      have hin := HIN.out
      clear hpk hpp href hbs hiq hsl hyl hsl2 hps hmul hlk
      have hbg : begOf i (2 ^ j) = if i < i / (2 * 2 ^ j) * (2 * 2 ^ j) + 2 ^ j then i / (2 * 2 ^ j) * (2 * 2 ^ j) + 2 ^ j else i / (2 * 2 ^ j) * (2 * 2 ^ j) := rfl
      have hqm : i / (2 * 2 ^ j) * (2 * 2 ^ j) ≤ i := Nat.div_mul_le_self _ _
      obtain ⟨bg, ebg⟩ : ∃ bg, begOf i (2 ^ j) = bg := ⟨_, rfl⟩
      obtain ⟨nn, enn⟩ : ∃ nn, 2 ^ j = nn := ⟨_, rfl⟩
      rw [ebg] at hbl hbg HMK HS32 HSL
      rw [enn] at hbl hbg HMK HS32 hnp hlt2 hqm HPW ⊢
      have HSL2 : Hid (((l.drop bg).take nn).length = 2 ^ j) := Lib.hid (by have := HSL.out; rw [enn] at this ⊢; exact this)
      obtain ⟨m, em⟩ : ∃ m, 2 * nn = m := ⟨_, rfl⟩
      rw [em] at hbg hqm
      obtain ⟨q, eq⟩ : ∃ q, i / m = q := ⟨_, rfl⟩
      have hqi : q ≤ i := by rw [← eq]; exact Nat.div_le_self _ _
      rw [eq] at hbg hqm
      have hqz : (i : Int) / (m : Int) = (q : Int) := by rw [← eq]; exact (Int.natCast_ediv i m).symm
      have hqt : Int.tdiv (i : Int) (m : Int) = (q : Int) := by rw [← eq]; exact (Int.natCast_ediv i m).symm ▸ Int.tdiv_eq_ediv_of_nonneg (by omega)
      obtain ⟨b0, eb0⟩ : ∃ b0, q * m = b0 := ⟨_, rfl⟩
      have hqb : (q : Int) * (m : Int) = (b0 : Int) := by rw [← eb0]; exact (Int.natCast_mul q m).symm
      rw [eb0] at hbg hqm
      obtain ⟨e, ee⟩ : ∃ e, b0 + nn = e := ⟨_, rfl⟩
      rw [ee] at hbg
      have hm0 : ¬ (m : Int) = 0 := by omega
      have hm0' : ((m : Int) == 0) = false := by simpa using hm0
      have hw1 : IntKind.i64.wrap (2 * (nn : Int)) = (m : Int) := (IntWalk.i64_in _ (by omega)).trans (by omega)
      have hw2 : IntKind.i64.wrap (q : Int) = (q : Int) := IntWalk.i64_in _ (by omega)
      have hw3 : IntKind.i64.wrap (b0 : Int) = (b0 : Int) := IntWalk.i64_in _ (by omega)
      have hw4 : IntKind.i64.wrap ((b0 : Int) + (nn : Int)) = (e : Int) := (IntWalk.i64_in _ (by omega)).trans (by omega)
      have hc1 : (nn : Int) < (l.length : Int) := by omega
      have HM2 : Hid (2 ^ (j + 1) = m) := Lib.hid (HPW.out.trans em)
      have HNM : Hid (nn < m) := Lib.hid (by omega)
      clear ebg eq eb0 em HSL
      by_cases hcmp : i < e
      · rw [if_pos hcmp] at hbg
        have hc2 : (i : Int) < (e : Int) := by omega
        obtain ⟨e2, ee2⟩ : ∃ e2, e + nn = e2 := ⟨_, rfl⟩
        have hw5 : IntKind.i64.wrap ((e : Int) + (nn : Int)) = (e2 : Int) := (IntWalk.i64_in _ (by omega)).trans (by omega)
        have HSUB : Hid ((l.drop e).take (e2 - e) = (l.drop bg).take nn) := Lib.hid (by rw [← ee2, hbg, Nat.add_sub_cancel_left])
        have hee : e ≤ e2 := by omega
        have he2 : e2 ≤ l.length := by omega
        clear ee ee2 hcmp enn
        go_wp2_with (first | (refine wpList_slice_mid rfl (.tmp 45) (.tmp 46) (.tmp 49) rfl av l.length kv l e e2 rfl rfl rfl (hv.later hb) H32.out hee he2 ?_; intro ad' n' cap' hds))
        rw [HSUB.out] at hds
        refine (rmerkle_any j _ _ wr hds HS32.out HSL2.out (hK.below hb hkl) (hI.below hb hil) (by omega)).mono ?_
        rintro e9 w2 ⟨rfl, hb2⟩
        rw [HMK.out]
        have hB2 := hb.trans (hb2.mono hb.size)
        have ho2 := ho.below hb2
        clear ho hb2 hb hds
        go_wp2_with (first | (refine wpList_build_dig rfl (.tmp 51) rfl y rfl HYL.out ?_; intro w4 hr4 hb4 hz4; have ho4 := ho2.below hb4; have hB4 := hB2.trans (hb4.mono hB2.size)) | (at_builtin; refine wpList_append_dig rfl (.tmp 44) (.tmp 52) rfl w.heap.size _ ((pathOf k l i).take j) y w2.heap.size 25 rfl ho4 rfl hr4 HYL.out (by rw [HTL.out]; omega) hB4.size ?_; intro v6 w6 ho6 hg6))
        have hB6 := hB4.grown hg6 hB4.size (fun k hk => by have := ho4.ownBlock k hk; omega)
        rw [← HST.out] at ho6
        have hnm := HNM.out
        go_roundw
        case rel => exact ⟨j + 1, by omega, by rw [HM2.out], ho6, hB6⟩
        case measure => simp [intOf]; omega
      · rw [if_neg hcmp] at hbg
        have hc2 : ¬ (i : Int) < (e : Int) := by omega
        have HSUB : Hid ((l.drop b0).take (e - b0) = (l.drop bg).take nn) := Lib.hid (by rw [← ee, hbg, Nat.add_sub_cancel_left])
        have hee : b0 ≤ e := by omega
        have he2 : e ≤ l.length := by omega
        clear ee hcmp enn
        go_wp2_with (first | (refine wpList_slice_mid rfl (.tmp 45) (.tmp 46) (.tmp 49) rfl av l.length kv l b0 e rfl rfl rfl (hv.later hb) H32.out hee he2 ?_; intro ad' n' cap' hds))
        rw [HSUB.out] at hds
        refine (rmerkle_any j _ _ wr hds HS32.out HSL2.out (hK.below hb hkl) (hI.below hb hil) (by omega)).mono ?_
        rintro e9 w2 ⟨rfl, hb2⟩
        rw [HMK.out]
        have hB2 := hb.trans (hb2.mono hb.size)
        have ho2 := ho.below hb2
        clear ho hb2 hb hds
        go_wp2_with (first | (refine wpList_build_dig rfl (.tmp 51) rfl y rfl HYL.out ?_; intro w4 hr4 hb4 hz4; have ho4 := ho2.below hb4; have hB4 := hB2.trans (hb4.mono hB2.size)) | (at_builtin; refine wpList_append_dig rfl (.tmp 44) (.tmp 52) rfl w.heap.size _ ((pathOf k l i).take j) y w2.heap.size 25 rfl ho4 rfl hr4 HYL.out (by rw [HTL.out]; omega) hB4.size ?_; intro v6 w6 ho6 hg6))
        have hB6 := hB4.grown hg6 hB4.size (fun k hk => by have := ho4.ownBlock k hk; omega)
        rw [← HST.out] at ho6
        have hnm := HNM.out
        go_roundw
        case rel => exact ⟨j + 1, by omega, by rw [HM2.out], ho6, hB6⟩
        case measure => simp [intOf]; omega
    · obtain rfl : j = k := by omega
      have hc1 : ¬ ((2 ^ j : Nat) : Int) < (l.length : Int) := by rw [HL.out]; omega
      rw [List.take_of_length_le (by rw [pathOf_len]; exact Nat.le_refl _)] at ho
      have hdg := ho.digs
      obtain ⟨pa, pc, hpv⟩ := hdg.form
      subst hpv
      obtain ⟨nn, enn⟩ : ∃ nn, 2 ^ j = nn := ⟨_, rfl⟩
      rw [enn] at hc1 ⊢
      clear ho enn
      go_wp2
      refine bodyPost_ret (results_tmp2 rfl _ _ _) rfl ⟨_, rfl, hdg, hb⟩
theorem rpath_any (l : List Dg) (v : Value) (idx : Int) (w : World) (hv : Digs w v l) (h32 : all32 l) (hK : RKFact w) (hI : RIFact w) :
    Calls Tryd.prog 26 #[v, .int .i64 idx] w fun e w' => ∃ pv, e = .returned (.tuple #[pv, .int .i64 (errP l.length idx : Nat)]) ∧ Digs w' pv (pathR l idx) ∧ Below w.heap.size w w' := by
  cases hp : powB l.length with
  | false => exact rpath_pow l v idx w hv hp
  | true =>
    by_cases h0 : idx < 0
    · exact rpath_neg l v idx w hv hp h0
    · by_cases h1 : (l.length : Int) ≤ idx
      · exact rpath_high l v idx w hv hp h0 h1
      · obtain ⟨k, hk, hl⟩ := (powB_iff _).1 hp
        obtain ⟨i, rfl⟩ := Int.eq_ofNat_of_zero_le (show 0 ≤ idx by omega)
        have hi : i < 2 ^ k := by omega
        have he : errP l.length (i : Int) = 0 := by unfold errP; rw [if_pos (okPath_leaf hk hl hi)]
        rw [he, pathR_leaf hk hl hi]
        exact rpath_ok k l v i w hv h32 hK hI hl hk hi
end Go.Proofs.YteogcilnpkaplaaDoor

namespace Go.Proofs.YteogcilnpkaplaaDoor
open Go.RowKit
set_option maxRecDepth 100000 in
set_option maxHeartbeats 4000000 in
theorem rks_neg (seed msg : List UInt8) (v mv : Value) (idx : Int) (w : World) (h : idx < 0) :
    Calls Tryd.prog 15 #[v, .int .i64 idx, mv] w (SigRet seed msg idx w) := by
  have hno : okSign seed idx = false := by
    cases hok : okSign seed idx with
    | false => rfl
    | true => obtain ⟨h1, h2, -⟩ := (okSign_iff _ _).1 hok; omega
  have e1 : idxG seed idx = 0 := by unfold idxG; rw [hno]; rfl
  have e2 : errG seed idx = 1 := by unfold errG; rw [hno]; rfl
  have e3 : chainsG seed msg idx = [] := by unfold chainsG; rw [hno]; rfl
  have e4 : pathG seed idx = [] := by unfold pathG; rw [hno]; rfl
  unfold SigRet
  rw [e1, e2, e3, e4]
  clear e1 e2 e3 e4 hno
  obtain ⟨fs, hu⟩ := Tryd.underG
  have HU := Lib.hid hu
  clear hu
  have hb0 : Below w.heap.size w (w.alloc (.cells (sigC 0 (.slice none 0 0) (.slice none 0 0)) 31)) := (Below.refl _ _).alloc (Nat.le_refl _) _
  have hD0 : Row (w.alloc (.cells (sigC 0 (.slice none 0 0) (.slice none 0 0)) 31)) w.heap.size 31 (sigC 0 (.slice none 0 0) (.slice none 0 0)) := Row.new w _ _
  have d1 : decide (idx < (0 : Int)) = true := decide_eq_true h
  clear h
  go_enter Tryd.func15, Tryd.ntmps15
  go_wp2_with (first | (refine wpList_store_row rfl 31 (.tmp 6) (.tmp 20) rfl w.heap.size rfl (sigC 0 (.slice none 0 0) (.slice none 0 0)) (sigC 0 (.slice none 0 0) (.slice none 0 0)) 31 rfl hD0 rfl (sigC_size _ _ _) (sigC_one _ _ _ _ _ _ _) ?_; intro w2 hg2 hr2 hz2))
  refine bodyPost_ret (results_cell_row_tmp rfl _ _ w.heap.size 31 (sigC 0 (.slice none 0 0) (.slice none 0 0)) (0, 0) _ rfl hr2 HU.out rfl (sigC_size _ _ _)) rfl ?_
  exact ⟨_, _, rfl, Digs.nil _, Digs.nil _, hb0.grown hg2 hb0.size (fun k hk => by cases hk; exact Nat.le_refl _)⟩
set_option maxRecDepth 100000 in
set_option maxHeartbeats 4000000 in
theorem rks_four (seed msg : List UInt8) (v mv : Value) (idx : Int) (w : World) (h0 : ¬ idx < 0) (h : 3 < idx) :
    Calls Tryd.prog 15 #[v, .int .i64 idx, mv] w (SigRet seed msg idx w) := by
  have hno : okSign seed idx = false := by
    cases hok : okSign seed idx with
    | false => rfl
    | true => obtain ⟨h1, h2, -⟩ := (okSign_iff _ _).1 hok; omega
  have e1 : idxG seed idx = 0 := by unfold idxG; rw [hno]; rfl
  have e2 : errG seed idx = 1 := by unfold errG; rw [hno]; rfl
  have e3 : chainsG seed msg idx = [] := by unfold chainsG; rw [hno]; rfl
  have e4 : pathG seed idx = [] := by unfold pathG; rw [hno]; rfl
  unfold SigRet
  rw [e1, e2, e3, e4]
  clear e1 e2 e3 e4 hno
  obtain ⟨fs, hu⟩ := Tryd.underG
  have HU := Lib.hid hu
  clear hu
  have hb0 : Below w.heap.size w (w.alloc (.cells (sigC 0 (.slice none 0 0) (.slice none 0 0)) 31)) := (Below.refl _ _).alloc (Nat.le_refl _) _
  have hD0 : Row (w.alloc (.cells (sigC 0 (.slice none 0 0) (.slice none 0 0)) 31)) w.heap.size 31 (sigC 0 (.slice none 0 0) (.slice none 0 0)) := Row.new w _ _
  have d1 : decide (idx < (0 : Int)) = false := decide_eq_false h0
  have d2 : decide ((3 : Int) < idx) = true := decide_eq_true h
  clear h h0
  go_enter Tryd.func15, Tryd.ntmps15
  go_wp2_with (first | (refine wpList_store_row rfl 31 (.tmp 6) (.tmp 20) rfl w.heap.size rfl (sigC 0 (.slice none 0 0) (.slice none 0 0)) (sigC 0 (.slice none 0 0) (.slice none 0 0)) 31 rfl hD0 rfl (sigC_size _ _ _) (sigC_one _ _ _ _ _ _ _) ?_; intro w2 hg2 hr2 hz2))
  refine bodyPost_ret (results_cell_row_tmp rfl _ _ w.heap.size 31 (sigC 0 (.slice none 0 0) (.slice none 0 0)) (0, 0) _ rfl hr2 HU.out rfl (sigC_size _ _ _)) rfl ?_
  exact ⟨_, _, rfl, Digs.nil _, Digs.nil _, hb0.grown hg2 hb0.size (fun k hk => by cases hk; exact Nat.le_refl _)⟩
set_option maxRecDepth 100000 in
set_option maxHeartbeats 4000000 in
theorem rks_len (seed msg : List UInt8) (v mv : Value) (idx : Int) (w : World) (hv : Bytes w v seed (fun _ => True)) (hK : RKFact w) (hI : RIFact w) (h0 : 0 ≤ idx) (h4 : idx < 4) (hok : okLen seed = false) :
    Calls Tryd.prog 15 #[v, .int .i64 idx, mv] w (SigRet seed msg idx w) := by
  have hno : okSign seed idx = false := by unfold okSign; rw [hok, Bool.and_false]
  have hkl := hK.lt
  have hil := hI.lt
  have HE : Hid (errL seed = 1) := Lib.hid (by unfold errL; rw [hok]; rfl)
  have HL : Hid (leavesL seed = []) := Lib.hid (by unfold leavesL; rw [hok]; rfl)
  have e1 : idxG seed idx = 0 := by unfold idxG; rw [hno]; rfl
  have e2 : errG seed idx = 1 := by unfold errG; rw [hno]; rfl
  have e3 : chainsG seed msg idx = [] := by unfold chainsG; rw [hno]; rfl
  have e4 : pathG seed idx = [] := by unfold pathG; rw [hno]; rfl
  unfold SigRet
  rw [e1, e2, e3, e4]
  clear e1 e2 e3 e4 hno
  obtain ⟨av, kv, rfl⟩ : ∃ a c, v = .slice a seed.length c := by obtain ⟨a, c, h, _⟩ := hv; exact ⟨a, c, h⟩
  obtain ⟨fs, hu⟩ := Tryd.underG
  have HU := Lib.hid hu
  clear hu
  have hb0 : Below w.heap.size w (w.alloc (.cells (sigC 0 (.slice none 0 0) (.slice none 0 0)) 31)) := (Below.refl _ _).alloc (Nat.le_refl _) _
  have hD0 : Row (w.alloc (.cells (sigC 0 (.slice none 0 0) (.slice none 0 0)) 31)) w.heap.size 31 (sigC 0 (.slice none 0 0) (.slice none 0 0)) := Row.new w _ _
  have d1 : decide (idx < (0 : Int)) = false := decide_eq_false (by omega)
  have d2 : decide ((3 : Int) < idx) = false := decide_eq_false (by omega)
  have hv0 := (hv.later hb0).imp (ok' := fun _ => True) fun _ _ => trivial
  clear hok h0 h4 hv
  go_enter Tryd.func15, Tryd.ntmps15
  go_wp2_with fail
  refine (rleaves_any seed _ _ hv0 (hK.below hb0 hkl) (hI.below hb0 hil)).mono ?_
  rintro e w1 ⟨r, rfl, hd, hb1⟩
  rw [HE.out]
  rw [HL.out] at hd
  obtain ⟨ra, rk, rfl⟩ := hd.form
  have hB1 := hb0.trans (hb1.mono hb0.size)
  have hD1 := hD0.below hb1 hD0.lt
  clear hb0 hD0 hb1 hv0
  go_wp2_with (first | (refine wpList_store_row rfl 31 (.tmp 6) (.tmp 28) rfl w.heap.size rfl (sigC 0 (.slice none 0 0) (.slice none 0 0)) (sigC 0 (.slice none 0 0) (.slice none 0 0)) 31 rfl hD1 rfl (sigC_size _ _ _) (sigC_one _ _ _ _ _ _ _) ?_; intro w2 hg2 hr2 hz2))
  refine bodyPost_ret (results_cell_row_tmp rfl _ _ w.heap.size 31 (sigC 0 (.slice none 0 0) (.slice none 0 0)) (0, 0) _ rfl hr2 HU.out rfl (sigC_size _ _ _)) rfl ?_
  exact ⟨_, _, rfl, Digs.nil _, Digs.nil _, hB1.grown hg2 hB1.size (fun k hk => by cases hk; exact Nat.le_refl _)⟩
set_option maxRecDepth 100000 in
set_option maxHeartbeats 4000000 in
theorem rks_ok (seed msg : List UInt8) (v mv : Value) (idx : Int) (w : World) (hv : Bytes w v seed (fun _ => True)) (hm : Bytes w mv msg (fun _ => True)) (hml : msg.length ≤ 1000000) (hK : RKFact w) (hI : RIFact w) (hok : okSign seed idx = true) :
    Calls Tryd.prog 15 #[v, .int .i64 idx, mv] w (SigRet seed msg idx w) := by
  obtain ⟨h0, h4, hl⟩ := (okSign_iff _ _).1 hok
  have e1 : idxG seed idx = idx := by unfold idxG; rw [hok]; rfl
  have e2 : errG seed idx = 0 := by unfold errG; rw [hok]; rfl
  have e3 : chainsG seed msg idx = signR seed idx (msgOf msg) := by unfold chainsG; rw [hok]; rfl
  have e4 : pathG seed idx = pathR (leavesOf seed) idx := by unfold pathG; rw [hok]; rfl
  unfold SigRet
  rw [e1, e2, e3, e4]
  have hkl := hK.lt
  have hil := hI.lt
  have HE : Hid (errL seed = 0) := Lib.hid (by unfold errL; rw [hl]; rfl)
  have HL : Hid (leavesL seed = leavesOf seed) := Lib.hid (by unfold leavesL; rw [hl]; rfl)
  have HER : Hid (errR seed idx = 0) := Lib.hid (errR_ok (by
    obtain ⟨i, rfl⟩ := Int.eq_ofNat_of_zero_le h0
    rw [okSeed_small (by omega)]; exact hl))
  have HEP : Hid (errP (leavesOf seed).length idx = 0) := Lib.hid (by unfold errP; rw [leavesOf_len, if_pos ((okPath_iff _ _).2 ⟨rfl, h0, by omega⟩)])
  have H32 := Lib.hid (leavesOf_32 seed)
  generalize leavesOf seed = l at *
  have HML := Lib.hid hml
  have hmo : (msgOf msg).length = 32 := taggedOf_len _ _
  obtain ⟨mo, hmx⟩ : ∃ mo, msgOf msg = mo := ⟨_, rfl⟩
  rw [hmx] at hmo ⊢
  have HMX : Hid (taggedOf (ByteArray.mk #[109, 115, 103]).data.toList msg = mo) := Lib.hid hmx
  have HMO := Lib.hid hmo
  clear hmx e1 e2 e3 e4 hok hml hl hmo
  obtain ⟨av, kv, rfl⟩ : ∃ a c, v = .slice a seed.length c := by obtain ⟨a, c, h, _⟩ := hv; exact ⟨a, c, h⟩
  obtain ⟨am, km, rfl⟩ : ∃ a c, mv = .slice a msg.length c := by obtain ⟨a, c, h, _⟩ := hm; exact ⟨a, c, h⟩
  obtain ⟨fs, hu⟩ := Tryd.underG
  have HU := Lib.hid hu
  clear hu
  have hb0 : Below w.heap.size w (w.alloc (.cells (sigC 0 (.slice none 0 0) (.slice none 0 0)) 31)) := (Below.refl _ _).alloc (Nat.le_refl _) _
  have hD0 : Row (w.alloc (.cells (sigC 0 (.slice none 0 0) (.slice none 0 0)) 31)) w.heap.size 31 (sigC 0 (.slice none 0 0) (.slice none 0 0)) := Row.new w _ _
  have d1 : decide (idx < (0 : Int)) = false := decide_eq_false (by omega)
  have d2 : decide ((3 : Int) < idx) = false := decide_eq_false (by omega)
  have hv0 := (hv.later hb0).imp (ok' := fun _ => True) fun _ _ => trivial
  clear h0 h4
  go_enter Tryd.func15, Tryd.ntmps15
  go_wp2_with fail
  refine (rleaves_any seed _ _ hv0 (hK.below hb0 hkl) (hI.below hb0 hil)).mono ?_
  rintro e w1 ⟨r, rfl, hd, hb1⟩
  rw [HE.out]
  rw [HL.out] at hd
  obtain ⟨ra, rk, rfl⟩ := hd.form
  have hB1 := hb0.trans (hb1.mono hb0.size)
  have hD1 := hD0.below hb1 hD0.lt
  clear hb0 hD0 hb1 hv0
  go_wp2_with fail
  have hm1 := (hm.later hB1).imp (ok' := fun _ => True) fun _ _ => trivial
  refine (rtagged_any _ _ msg _ w1 (by decide) hm1 (hK.below hB1 hkl) (hI.below hB1 hil) (by have := HML.out; omega)).mono ?_
  rintro e w3 ⟨rfl, hb3⟩
  rw [HMX.out]
  have hB3 := hB1.trans (hb3.mono hB1.size)
  have hD3 := hD1.below hb3 hD1.lt
  have hd3 := hd.later hb3
  have hv3 := (hv.later hB3).imp (ok' := fun _ => True) fun _ _ => trivial
  clear hb3 hB1 hD1 hd hm1
  go_wp2_with fail
  refine (rsign_any seed mo _ idx w3 hv3 HMO.out (hK.below hB3 hkl) (hI.below hB3 hil)).mono ?_
  rintro e w4 ⟨cv, rfl, hcv, hb4⟩
  rw [HER.out]
  have hB4 := hB3.trans (hb4.mono hB3.size)
  have hD4 := hD3.below hb4 hD3.lt
  have hd4 := hd3.later hb4
  clear hb4 hB3 hD3 hd3 hv3
  obtain ⟨ac, kc, rfl⟩ := hcv.form
  go_wp2_with fail
  refine (rpath_any l _ idx w4 hd4 H32.out (hK.below hB4 hkl) (hI.below hB4 hil)).mono ?_
  rintro e w5 ⟨pv, rfl, hpv, hb5⟩
  rw [HEP.out]
  have hB5 := hB4.trans (hb5.mono hB4.size)
  have hD5 := hD4.below hb5 hD4.lt
  have hcv5 := hcv.later hb5
  obtain ⟨ap, kp, rfl⟩ := hpv.form
  clear hb5 hB4 hD4 hd4 hcv
  go_wp2_with (first | (refine wpList_store_row rfl 31 (.tmp 6) (.tmp 51) rfl w.heap.size rfl (sigC idx (.slice ac _ kc) (.slice ap _ kp)) (sigC 0 (.slice none 0 0) (.slice none 0 0)) 31 rfl hD5 rfl (sigC_size _ _ _) (sigC_one _ _ _ _ _ _ _) ?_; intro w6 hg6 hr6 hz6))
  refine bodyPost_ret (results_cell_row_tmp rfl _ _ w.heap.size 31 (sigC idx (.slice ac _ kc) (.slice ap _ kp)) (0, 0) _ rfl hr6 HU.out rfl (sigC_size _ _ _)) rfl ?_
  exact ⟨_, _, rfl, digs_sig hcv5 hD5 hg6, digs_sig hpv hD5 hg6, hB5.grown hg6 hB5.size (fun k hk => by cases hk; exact Nat.le_refl _)⟩
theorem rksign_any (seed msg : List UInt8) (v mv : Value) (idx : Int) (w : World) (hv : Bytes w v seed (fun _ => True)) (hm : Bytes w mv msg (fun _ => True)) (hml : msg.length ≤ 1000000) (hK : RKFact w) (hI : RIFact w) :
    Calls Tryd.prog 15 #[v, .int .i64 idx, mv] w (SigRet seed msg idx w) := by
  cases hok : okSign seed idx with
  | true => exact rks_ok seed msg v mv idx w hv hm hml hK hI hok
  | false =>
    by_cases h0 : idx < 0
    · exact rks_neg seed msg v mv idx w h0
    · by_cases h4 : 3 < idx
      · exact rks_four seed msg v mv idx w h0 h4
      · cases hl : okLen seed with
        | false => exact rks_len seed msg v mv idx w hv hK hI (by omega) (by omega) hl
        | true => rw [(okSign_iff _ _).2 ⟨by omega, by omega, hl⟩] at hok; cases hok
set_option maxRecDepth 100000 in
set_option maxHeartbeats 4000000 in
theorem rsame_eq (i : Int) (cv pv cv' pv' : Value) (cs ps : List Dg) (w : World) (hc : Digs w cv cs) (hp : Digs w pv ps) (hc' : Digs w cv' cs) (hp' : Digs w pv' ps) (h32c : all32 cs) (h32p : all32 ps) (hlc : cs.length ≤ 1000000) (hlp : ps.length ≤ 1000000) :
    Calls Tryd.prog 16 #[.agg (sigC i cv pv), .agg (sigC i cv' pv')] w fun e w' => e = .returned (.bool true) ∧ Below w.heap.size w w' := by
  obtain ⟨a1, k1, rfl⟩ := hc.form
  obtain ⟨a2, k2, rfl⟩ := hp.form
  obtain ⟨a3, k3, rfl⟩ := hc'.form
  obtain ⟨a4, k4, rfl⟩ := hp'.form
  have H32C := Lib.hid h32c
  have H32P := Lib.hid h32p
  have HLC := Lib.hid hlc
  have HLP := Lib.hid hlp
  have hb0 : Below w.heap.size w ((w.alloc (.cells (sigC i (.slice a1 cs.length k1) (.slice a2 ps.length k2)) 31)).alloc (.cells (sigC i (.slice a3 cs.length k3) (.slice a4 ps.length k4)) 31)) := ((Below.refl _ _).alloc (Nat.le_refl _) _).alloc (by simp) _
  have hr0 : Row ((w.alloc (.cells (sigC i (.slice a1 cs.length k1) (.slice a2 ps.length k2)) 31)).alloc (.cells (sigC i (.slice a3 cs.length k3) (.slice a4 ps.length k4)) 31)) w.heap.size 31 (sigC i (.slice a1 cs.length k1) (.slice a2 ps.length k2)) := (Row.new w _ _).alloc _
  have hs0 : Row ((w.alloc (.cells (sigC i (.slice a1 cs.length k1) (.slice a2 ps.length k2)) 31)).alloc (.cells (sigC i (.slice a3 cs.length k3) (.slice a4 ps.length k4)) 31)) (w.heap.size + 1) 31 (sigC i (.slice a3 cs.length k3) (.slice a4 ps.length k4)) := by
    have h := Row.new (w.alloc (.cells (sigC i (.slice a1 cs.length k1) (.slice a2 ps.length k2)) 31)) (sigC i (.slice a3 cs.length k3) (.slice a4 ps.length k4)) 31
    rwa [show (w.alloc (.cells (sigC i (.slice a1 cs.length k1) (.slice a2 ps.length k2)) 31)).heap.size = w.heap.size + 1 by simp] at h
  have f0 : ((w.alloc (.cells (sigC i (.slice a1 cs.length k1) (.slice a2 ps.length k2)) 31)).alloc (.cells (sigC i (.slice a3 cs.length k3) (.slice a4 ps.length k4)) 31)).cell? ⟨w.heap.size, 0, none⟩ = some (.int .i64 i) := hr0.cell 0
  have f1 : ((w.alloc (.cells (sigC i (.slice a1 cs.length k1) (.slice a2 ps.length k2)) 31)).alloc (.cells (sigC i (.slice a3 cs.length k3) (.slice a4 ps.length k4)) 31)).cell? ⟨w.heap.size, 1, none⟩ = some (.slice a1 cs.length k1) := hr0.cell 1
  have g0 : ((w.alloc (.cells (sigC i (.slice a1 cs.length k1) (.slice a2 ps.length k2)) 31)).alloc (.cells (sigC i (.slice a3 cs.length k3) (.slice a4 ps.length k4)) 31)).cell? ⟨w.heap.size + 1, 0, none⟩ = some (.int .i64 i) := hs0.cell 0
  have g1 : ((w.alloc (.cells (sigC i (.slice a1 cs.length k1) (.slice a2 ps.length k2)) 31)).alloc (.cells (sigC i (.slice a3 cs.length k3) (.slice a4 ps.length k4)) 31)).cell? ⟨w.heap.size + 1, 1, none⟩ = some (.slice a3 cs.length k3) := hs0.cell 1
  clear h32c h32p hlc hlp
  go_enter Tryd.func16, Tryd.ntmps16
  go_wp2_with fail
  refine (rdigests_any cs cs _ _ _ (hc.later hb0) (hc'.later hb0) HLC.out HLC.out H32C.out H32C.out).mono ?_
  rintro e w1 ⟨rfl, hb1⟩
  rw [decide_eq_true rfl]
  have hB1 := hb0.trans (hb1.mono hb0.size)
  have hr1 := hr0.below hb1 hr0.lt
  have hs1 := hs0.below hb1 hs0.lt
  have f2 : w1.cell? ⟨w.heap.size, 2, none⟩ = some (.slice a2 ps.length k2) := hr1.cell 2
  have g2 : w1.cell? ⟨w.heap.size + 1, 2, none⟩ = some (.slice a4 ps.length k4) := hs1.cell 2
  clear hb0 hb1 hr0 hs0 f0 f1 g0 g1
  go_wp2_with fail
  refine (rdigests_any ps ps _ _ w1 (hp.later hB1) (hp'.later hB1) HLP.out HLP.out H32P.out H32P.out).mono ?_
  rintro e w2 ⟨rfl, hb2⟩
  rw [decide_eq_true rfl]
  have hB2 := hB1.trans (hb2.mono hB1.size)
  clear hB1 hb2 hr1 hs1 f2 g2
  go_wp2
  go_ret
  exact ⟨rfl, hB2⟩
end Go.Proofs.YteogcilnpkaplaaDoor

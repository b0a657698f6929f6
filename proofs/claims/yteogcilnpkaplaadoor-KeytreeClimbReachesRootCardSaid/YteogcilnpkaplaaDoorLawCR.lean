/- crossbarlaw05.KeytreeClimbReachesRoot returns true. Conditions: the digests have 32 bytes, the tables lie in their variables. -/
import Derived.Test.YteogcilnpkaplaaDoorM10
import Derived.Test.YteogcilnpkaplaaDoorKRoot
namespace Go.Proofs.YteogcilnpkaplaaDoor
open Go.RowKit
theorem wpList_slice_lo {w : World} {ops : Array Oper} {rest : List Oper} {o : Oper} {a : Act} {Q : Exit → Act → World → Prop} (hgd : o.guard = none) (x y : Operand) (ho : o.op = .slice 29 x none (some y) none)
    (ad : Option Addr) (n cap : Nat) (xs : List Dg) (m : Nat) (hx : a.eval x = .slice ad n cap) (hy : a.eval y = .int .i64 (m : Int)) (h : Digs w (.slice ad n cap) xs) (h32 : all32 xs) (hm : m ≤ n)
    (K : ∀ ad', Digs w (.slice ad' m cap) (xs.take m) → wpList Tryd.prog ops Q rest (a.put o.dst (.slice ad' m cap)) w) : wpList Tryd.prog ops Q (o :: rest) a w := by
  obtain ⟨a9, hr9, hd9⟩ := run_slice_digs h h32 none (some (.int .i64 (m : Int))) 0 m (.inl ⟨rfl, rfl⟩) (.inr rfl) (Nat.zero_le _) hm
  rw [List.drop_zero, Nat.sub_zero, Nat.sub_zero] at hd9
  rw [Nat.sub_zero, Nat.sub_zero] at hr9
  refine wpList_value hgd _ ?_ (K a9 hd9)
  unfold execOp
  simp only [ho, hx, hy, Option.map, Sem.run_bind]
  erw [hr9]
  rfl
theorem wpList_slice_hi {w : World} {ops : Array Oper} {rest : List Oper} {o : Oper} {a : Act} {Q : Exit → Act → World → Prop} (hgd : o.guard = none) (x y : Operand) (ho : o.op = .slice 29 x (some y) none none)
    (ad : Option Addr) (n cap : Nat) (xs : List Dg) (m : Nat) (hx : a.eval x = .slice ad n cap) (hy : a.eval y = .int .i64 (m : Int)) (h : Digs w (.slice ad n cap) xs) (h32 : all32 xs) (hm : m ≤ n)
    (K : ∀ ad' n' cap', Digs w (.slice ad' n' cap') (xs.drop m) → wpList Tryd.prog ops Q rest (a.put o.dst (.slice ad' n' cap')) w) : wpList Tryd.prog ops Q (o :: rest) a w := by
  have hn : n = xs.length := by obtain ⟨_, _, he, _⟩ := h; exact (Value.slice.inj he).2.1
  obtain ⟨a9, hr9, hd9⟩ := run_slice_digs h h32 (some (.int .i64 (m : Int))) none m n (.inr rfl) (.inl ⟨rfl, rfl⟩) hm (Nat.le_refl _)
  rw [List.take_of_length_le (by rw [List.length_drop]; omega)] at hd9
  refine wpList_value hgd _ ?_ (K a9 _ _ hd9)
  unfold execOp
  simp only [ho, hx, hy, Option.map, Sem.run_bind]
  erw [hr9]
  rfl
set_option maxRecDepth 100000 in
set_option maxHeartbeats 4000000 in
theorem kr_big (v : Value) (l : List Dg) (w : World) (hv : Digs w v l) (h32 : all32 l) (hK : KFact w) (hc : 64 < l.length) :
    Calls Tryd.prog 5 #[v] w fun e w' => e = .returned (.bool true) ∧ Below w.heap.size w w' := by
  have hkl := hK.lt
  have H32 := Lib.hid h32
  obtain ⟨av, kv, rfl⟩ := hv.form
  go_enter Tryd.func5, Tryd.ntmps5
  go_wp2_with fail
  refine (sane_any _ hK).mono ?_
  rintro e w0 ⟨rfl, hB0⟩
  go_wp2
  go_ret
  exact ⟨rfl, hB0⟩
set_option maxRecDepth 100000 in
set_option maxHeartbeats 4000000 in
theorem kr_bad (v : Value) (l : List Dg) (w : World) (hv : Digs w v l) (h32 : all32 l) (hK : KFact w) (hc : ¬ 64 < l.length) (hp : powB l.length = false) :
    Calls Tryd.prog 5 #[v] w fun e w' => e = .returned (.bool true) ∧ Below w.heap.size w w' := by
  have hkl := hK.lt
  have H32 := Lib.hid h32
  obtain ⟨av, kv, rfl⟩ := hv.form
  have HRR := Lib.hid (rootR_bad hp)
  have HPB := Lib.hid hp
  have HE : Hid (errP l.length 0 = 1) := Lib.hid (by unfold errP okPath; rw [hp]; rfl)
  have HS0 := Lib.hid (Tryd.sizeD_of (List.replicate 32 0) List.length_replicate)
  clear hp h32
  go_enter Tryd.func5, Tryd.ntmps5
  go_wp2_with fail
  refine (sane_any _ hK).mono ?_
  rintro e w0 ⟨rfl, hB0⟩
  go_wp2_with fail
  refine (root_any l _ w0 (hv.later hB0) H32.out (hK.below hB0 hkl)).mono ?_
  rintro e w1 ⟨rfl, hb1⟩
  rw [HRR.out, HPB.out]
  have hB1 := hB0.trans (hb1.mono hB0.size)
  clear hb1 hB0
  go_wp2_with (first | (refine wpList_store_row rfl 25 (.tmp 3) (.tmp 20) rfl w1.heap.size rfl (cellsB (List.replicate 32 0)) (cellsB (List.replicate 32 0)) 25 rfl (Row.new w1 _ _) rfl HS0.out (cellsB_one _) ?_; intro w2 hg2 hr2 hz2; clear hz2; have hb2 := box_below hg2; clear hg2 hr2))
  have hB2 := hB1.trans (hb2.mono hB1.size)
  refine (path_any l _ 0 w2 (hv.later hB2) H32.out (hK.below hB2 hkl)).mono ?_
  rintro e w3 ⟨pv, rfl, -, hb3⟩
  rw [HE.out]
  have hB3 := hB2.trans (hb3.mono hB2.size)
  clear hb2 hb3 hB2 hB1
  go_wp2
  go_ret
  exact ⟨rfl, hB3⟩
set_option maxRecDepth 100000 in
set_option maxHeartbeats 4000000 in
theorem kr_one (v : Value) (l : List Dg) (w : World) (hv : Digs w v l) (h32 : all32 l) (hK : KFact w) (hl : l.length = 1) :
    Calls Tryd.prog 5 #[v] w fun e w' => e = .returned (.bool true) ∧ Below w.heap.size w w' := by
  have hkl := hK.lt
  have H32 := Lib.hid h32
  obtain ⟨av, kv, rfl⟩ := hv.form
  have HRR : Hid (rootR l = l.getD 0 []) := Lib.hid (rootR_pow (k := 0) (by rw [hl]) (by decide))
  have HPB : Hid (powB l.length = true) := Lib.hid (by rw [hl]; rfl)
  obtain ⟨sb, so, rfl, -, hk1, hk2, hat⟩ := hv.at (by rw [hl]; decide)
  have hce := hat.elem h32 0 (by rw [hl]; decide)
  rw [Nat.zero_mul, Nat.add_zero] at hce
  obtain ⟨x, hx⟩ : ∃ x, l.getD 0 [] = x := ⟨_, rfl⟩
  have hxl : x.length = 32 := by rw [← hx]; exact all32_getD h32 0 (by rw [hl]; decide)
  rw [hx] at HRR
  have HX := Lib.hid hxl
  have HSX := Lib.hid (Tryd.sizeD_of x hxl)
  have HCX : Hid ((cellsB x).size = (cellsB (List.replicate 32 0)).size) := Lib.hid (by rw [cellsB_size, hxl]; rfl)
  rw [hx] at hce
  rw [hl] at hv ⊢
  clear hx hxl h32 hat hl hk1
  go_enter Tryd.func5, Tryd.ntmps5
  generalize hR14 : Code.region 14 _ _ = R14
  have HR14 := Lib.hid hR14
  clear hR14
  go_wp2_with fail
  refine (sane_any _ hK).mono ?_
  rintro e w0 ⟨rfl, hB0⟩
  go_wp2_with fail
  refine (root_any l _ w0 (hv.later hB0) H32.out (hK.below hB0 hkl)).mono ?_
  rintro e w1 ⟨rfl, hb1⟩
  rw [HRR.out, HPB.out]
  have hB1 := hB0.trans (hb1.mono hB0.size)
  clear hb1 hB0
  go_wp2_with (first | (refine wpList_store_row rfl 25 (.tmp 3) (.tmp 20) rfl w1.heap.size rfl (cellsB x) (cellsB (List.replicate 32 0)) 25 rfl (Row.new w1 _ _) HCX.out HSX.out (cellsB_one _) ?_; intro w2 hg2 hr2 hz2; clear hz2; have hb2 := box_below hg2; clear hg2; have hB2 := hB1.trans (hb2.mono hB1.size); clear hb2 hB1))
  rw [← HR14.out]
  clear HR14
  have hce2 := range_below hce hB2
  have hbl' := hB2
  obtain ⟨n1, en1⟩ : ∃ n1, w1.heap.size = n1 := ⟨_, rfl⟩
  rw [en1] at hr2 ⊢
  have hl1 := hr2.lt
  obtain ⟨B, eB⟩ : ∃ B, w2.heap.size = B := ⟨_, rfl⟩
  refine wp_gen fun a0 ha0 => ?_
  have i3 : a0.eval (.tmp 3) = .pointer (some ⟨n1, 0, none⟩) := by rw [ha0]; rfl
  have i0 : a0.eval (.tmp 0) = .slice (some ⟨sb, so, none⟩) 1 kv := by rw [ha0]; rfl
  have hsz : a0.tmps.size = 66 := by rw [ha0]; rfl
  have hdf0 : a0.defers = [] := by rw [ha0]
  clear ha0
  refine wp_region_inv (B := B) [some 61, some 62, some 63, some 64, some 65, some 2] [Asrt.eq (.agg (cellsB (x))), Asrt.eq (.slice (some ⟨sb, so, none⟩) 1 kv), Asrt.eq (.pointer (some ⟨sb, so, none⟩)), Asrt.eq (.agg (cellsB (x))), Asrt.eq (.bool true), Asrt.eq (.bool true)] rfl (by as_aux_lemma => kernel_rfl) (by rw [hsz]; as_aux_lemma => kernel_rfl) (by as_aux_lemma => kernel_rfl) (by omega) ⟨?_, ?_, ?_, ?_, ?_, ?_, trivial⟩ ?_
  · as_aux_lemma =>
      intro ev w1 hg hin hc hgl hfn hd
      have hB := hg.top
      have g3 : ev (.tmp 3) = .pointer (some ⟨n1, 0, none⟩) := (hin 3 (by kernel_rfl)).trans i3
      clear hin hd
      refine step_on (guard_none rfl) fun K hK => ?_
      refine yg_load_row 25 (.tmp 3) rfl n1 g3 25 (cellsB (x)) (0, 0) _ (hr2.below hg.bl (by omega)) Tryd.underD rfl (Tryd.sizeD_of _ HX.out) ?_
      exact hK _ _ rfl (Grow.refl hB)
  · as_aux_lemma =>
      intro ev w1 hg hin hc hgl hfn hd
      have hB := hg.top
      have g0 : ev (.tmp 0) = .slice (some ⟨sb, so, none⟩) 1 kv := (hin 0 (by kernel_rfl)).trans i0
      clear hin hd
      refine step_on (guard_none rfl) fun K hK => ?_
      unfold YieldsG
      go_simp
      exact hK _ _ rfl (Grow.refl hB)
  · as_aux_lemma =>
      intro ev w1 hg hin hc hgl hfn hd
      have hB := hg.top
      have f62 : (ev (.tmp 62)) = .slice (some ⟨sb, so, none⟩) 1 kv := hd.1 rfl _ rfl
      clear hin hd
      refine step_on (guard_none rfl) fun K hK => ?_
      unfold YieldsG
      go_simp
      exact hK _ _ rfl (Grow.refl hB)
  · as_aux_lemma =>
      intro ev w1 hg hin hc hgl hfn hd
      have hB := hg.top
      have f63 : (ev (.tmp 63)) = .pointer (some ⟨sb, so, none⟩) := hd.1 rfl _ rfl
      clear hin hd
      refine step_on (guard_none rfl) fun K hK => ?_
      refine yg_load_mid 25 (.tmp 63) rfl sb (so) f63 ((x).map B8) _ (range_below hce2 (by rw [eB]; exact hg.bl)) Tryd.underD rfl (by rw [List.length_map, HX.out]; exact Tryd.sizeD) ?_
      exact hK _ _ rfl (Grow.refl hB)
  · as_aux_lemma =>
      intro ev w1 hg hin hc hgl hfn hd
      have hB := hg.top
      have f61 : (ev (.tmp 61)) = .agg (cellsB (x)) := hd.1 rfl _ rfl
      have f64 : (ev (.tmp 64)) = .agg (cellsB (x)) := hd.2.1 rfl _ rfl
      clear hin hd
      refine step_on (guard_none rfl) fun K hK => ?_
      have hq := eqlT (x) (x) HX.out rfl
      unfold YieldsG
      go_simp
      exact hK _ _ rfl (Grow.refl hB)
  · as_aux_lemma =>
      intro ev w1 hg hin hc hgl hfn hd
      have hB := hg.top
      have f65 : (ev (.tmp 65)) = .bool true := hd.1 rfl _ rfl
      clear hin hd
      refine step_on (guard_none rfl) fun K hK => ?_
      unfold YieldsG
      go_simp
      exact hK _ _ rfl (Grow.refl hB)
  · intro v w9 hg hall
    have hr : v 5 = .bool true := hall.2.2.2.2.2.1 (by simp)
    generalize hput : putAll _ v 0 _ = af
    have h0 : af.tmps.getD 2 undef = v 5 := by rw [← hput]; exact putAll_at (by rw [hsz]; as_aux_lemma => kernel_rfl) rfl rfl
    have hdf : af.defers = [] := by rw [← hput, putAll_defers]; exact hdf0
    clear hput hall
    go_wp2
    refine bodyPost_ret (results_tmp rfl _ _ _) hdf ⟨?_, hbl'.trans (hg.bl.mono (by rw [← eB]; exact hbl'.size))⟩
    rw [h0, hr]
set_option maxRecDepth 100000 in
set_option maxHeartbeats 4000000 in
theorem kr_two (v : Value) (l : List Dg) (w : World) (hv : Digs w v l) (h32 : all32 l) (hK : KFact w) (k : Nat) (hk : k + 1 ≤ 6) (hl : l.length = 2 ^ (k + 1)) :
    Calls Tryd.prog 5 #[v] w fun e w' => e = .returned (.bool true) ∧ Below w.heap.size w w' := by
  have hkl := hK.lt
  have H32 := Lib.hid h32
  obtain ⟨av, kv, rfl⟩ := hv.form
  have HRR := Lib.hid (rootR_pow hl hk)
  have HPB : Hid (powB l.length = true) := Lib.hid ((powB_iff _).2 ⟨k + 1, hk, hl⟩)
  have h64 : l.length ≤ 64 := by rw [hl]; exact Nat.pow_le_pow_right (by decide) hk
  have HXE : Hid (pairOf (merkle k (l.take (2 ^ k))) (merkle k (l.drop (2 ^ k))) = merkle (k + 1) l) := Lib.hid rfl
  have hn2 : l.length = 2 * 2 ^ k := by rw [hl, Nat.pow_succ, Nat.mul_comm]
  have hnp : 0 < 2 ^ k := Nat.pow_pos (by decide)
  have hlt : (l.take (2 ^ k)).length = 2 ^ k := by rw [List.length_take]; omega
  have hld : (l.drop (2 ^ k)).length = 2 ^ k := by rw [List.length_drop]; omega
  have h32t : all32 (l.take (2 ^ k)) := fun y hy => h32 y (List.mem_of_mem_take hy)
  have h32d : all32 (l.drop (2 ^ k)) := fun y hy => h32 y (List.mem_of_mem_drop hy)
  have HRA := Lib.hid (rootR_pow hlt (by omega))
  have HRB := Lib.hid (rootR_pow hld (by omega))
  have HPA : Hid (powB (l.take (2 ^ k)).length = true) := Lib.hid ((powB_iff _).2 ⟨k, by omega, hlt⟩)
  have HPD : Hid (powB (l.drop (2 ^ k)).length = true) := Lib.hid ((powB_iff _).2 ⟨k, by omega, hld⟩)
  have HAL := merkle_len32 hlt h32t
  have HBL := merkle_len32 hld h32d
  have HTA := Lib.hid h32t
  have HTD := Lib.hid h32d
  obtain ⟨x, hx⟩ : ∃ x, merkle (k + 1) l = x := ⟨_, rfl⟩
  have hxl : x.length = 32 := by rw [← hx]; exact merkle_len32 hl h32
  rw [hx] at HRR
  have HX := Lib.hid hxl
  have HSX := Lib.hid (Tryd.sizeD_of x hxl)
  have HCX : Hid ((cellsB x).size = (cellsB (List.replicate 32 0)).size) := Lib.hid (by rw [cellsB_size, hxl]; rfl)
  rw [hx] at HXE
  clear hx hxl
  generalize merkle k (l.take (2 ^ k)) = a at *
  generalize merkle k (l.drop (2 ^ k)) = b at *
  obtain ⟨n, hn⟩ : ∃ n, 2 ^ k = n := ⟨_, rfl⟩
  rw [hn] at HRA HRB HPA HPD HTA HTD hn2 hnp
  have HA := Lib.hid HAL
  have HB := Lib.hid HBL
  have HSA := Lib.hid (Tryd.sizeD_of a HAL)
  have HSB := Lib.hid (Tryd.sizeD_of b HBL)
  have HCA : Hid ((cellsB a).size = (cellsB (List.replicate 32 0)).size) := Lib.hid (by rw [cellsB_size, HAL]; rfl)
  have HCB : Hid ((cellsB b).size = (cellsB (List.replicate 32 0)).size) := Lib.hid (by rw [cellsB_size, HBL]; rfl)
  have hq2 : (l.length : Int) / 2 = (n : Int) := by omega
  have hwn : IntKind.i64.wrap (n : Int) = (n : Int) := IntWalk.i64_in _ (by omega)
  have hn0 : (0 : Int) < (n : Int) := by omega
  have hc : ¬ (64 : Int) < (l.length : Int) := by omega
  have HNL : Hid (n ≤ l.length) := Lib.hid (by omega)
  clear h64 hn2 hnp hlt hld h32t h32d h32 HAL HBL hn hl hk
  go_enter Tryd.func5, Tryd.ntmps5
  generalize hR13 : Code.region 13 _ _ = R13
  have HR13 := Lib.hid hR13
  clear hR13
  go_wp2_with fail
  refine (sane_any _ hK).mono ?_
  rintro e w0 ⟨rfl, hB0⟩
  go_wp2_with fail
  refine (root_any l _ w0 (hv.later hB0) H32.out (hK.below hB0 hkl)).mono ?_
  rintro e w1 ⟨rfl, hb1⟩
  rw [HRR.out, HPB.out]
  have hB1 := hB0.trans (hb1.mono hB0.size)
  clear hb1 hB0
  go_wp2_with (first | (refine wpList_store_row rfl 25 (.tmp 3) (.tmp 20) rfl w1.heap.size rfl (cellsB x) (cellsB (List.replicate 32 0)) 25 rfl (Row.new w1 _ _) HCX.out HSX.out (cellsB_one _) ?_; intro w2 hg2 hr2 hz2; clear hz2; have hb2 := box_below hg2; clear hg2; have hB2 := hB1.trans (hb2.mono hB1.size); clear hb2 hB1) | (refine wpList_slice_lo rfl (.tmp 37) (.tmp 38) rfl av l.length kv l n rfl rfl (hv.later hB2) H32.out HNL.out ?_; intro ad hd2))
  have hl2 := hr2.lt
  refine (rootOf_any (l.take n) _ w2 hd2 HTA.out (hK.below hB2 hkl)).mono ?_
  rintro e w3 ⟨rfl, hb3⟩
  rw [HRA.out, HPA.out]
  have hB3 := hB2.trans (hb3.mono hB2.size)
  have hx3 := hr2.below hb3 hl2
  clear hb3 hB2 hr2 hd2
  have hl3 := hx3.lt
  go_wp2_with (first | (refine wpList_store_row rfl 25 (.tmp 8) (.tmp 41) rfl w3.heap.size rfl (cellsB a) (cellsB (List.replicate 32 0)) 25 rfl (Row.new w3 _ _) HCA.out HSA.out (cellsB_one _) ?_; intro w4 hg4 ha4 hz4; clear hz4; have hb4 := box_below hg4; clear hg4; have hx4 := hx3.below hb4 hl3; have hB4 := hB3.trans (hb4.mono hB3.size); clear hb4 hB3 hx3) | (refine wpList_slice_hi rfl (.tmp 44) (.tmp 45) rfl av l.length kv l n rfl rfl (hv.later hB4) H32.out HNL.out ?_; intro ad n' cap' hd4))
  have hl4 := ha4.lt
  refine (rootOf_any (l.drop n) _ w4 hd4 HTD.out (hK.below hB4 hkl)).mono ?_
  rintro e w5 ⟨rfl, hb5⟩
  rw [HRB.out, HPD.out]
  have hB5 := hB4.trans (hb5.mono hB4.size)
  have hx5 := hx4.below hb5 hx4.lt
  have ha5 := ha4.below hb5 ha4.lt
  clear hb5 hB4 hx4 ha4 hd4
  have hl5 := hx5.lt
  have hl6 := ha5.lt
  go_wp2_with (first | (refine wpList_store_row rfl 25 (.tmp 10) (.tmp 48) rfl w5.heap.size rfl (cellsB b) (cellsB (List.replicate 32 0)) 25 rfl (Row.new w5 _ _) HCB.out HSB.out (cellsB_one _) ?_; intro w7 hg7 hb7 hz7; clear hz7; have hbb7 := box_below hg7; clear hg7; have hx7 := hx5.below hbb7 hl5; have ha7 := ha5.below hbb7 hl6; have hB7 := hB5.trans (hbb7.mono hB5.size); clear hbb7 hB5 hx5 ha5))
  rw [← HR13.out]
  clear HR13
  have hbl' := hB7
  have hK7 := hK.below hB7 hkl
  have hkl7 := hK7.lt
  obtain ⟨n1, en1⟩ : ∃ n1, w1.heap.size = n1 := ⟨_, rfl⟩
  obtain ⟨n2, en2⟩ : ∃ n2, w3.heap.size = n2 := ⟨_, rfl⟩
  obtain ⟨n3, en3⟩ : ∃ n3, w5.heap.size = n3 := ⟨_, rfl⟩
  rw [en1] at hx7 ⊢
  rw [en2] at ha7 ⊢
  rw [en3] at hb7 ⊢
  have hl7 := hx7.lt
  have hl8 := ha7.lt
  have hl9 := hb7.lt
  obtain ⟨B, eB⟩ : ∃ B, w7.heap.size = B := ⟨_, rfl⟩
  refine wp_gen fun a0 ha0 => ?_
  have i3 : a0.eval (.tmp 3) = .pointer (some ⟨n1, 0, none⟩) := by rw [ha0]; rfl
  have i8 : a0.eval (.tmp 8) = .pointer (some ⟨n2, 0, none⟩) := by rw [ha0]; rfl
  have i10 : a0.eval (.tmp 10) = .pointer (some ⟨n3, 0, none⟩) := by rw [ha0]; rfl
  have i9 : a0.eval (.tmp 9) = .bool true := by rw [ha0]; rfl
  have i11 : a0.eval (.tmp 11) = .bool true := by rw [ha0]; rfl
  have hsz : a0.tmps.size = 66 := by rw [ha0]; rfl
  have hdf0 : a0.defers = [] := by rw [ha0]
  clear ha0
  refine wp_region_inv (B := B) [some 50, some 51, some 52, some 53, some 54, some 55, some 56, some 57, some 58, some 59, some 60, some 2] [Asrt.eq (.bool true), Asrt.eq (.bool true), Asrt.eq (.bool true), Asrt.eq (.bool true), Asrt.eq (.bool true), Asrt.eq (.agg (cellsB (x))), Asrt.eq (.agg (cellsB (a))), Asrt.eq (.agg (cellsB (b))), Asrt.eq (.agg (cellsB (x))), Asrt.eq (.bool true), Asrt.eq (.bool true), Asrt.eq (.bool true)] rfl (by as_aux_lemma => kernel_rfl) (by rw [hsz]; as_aux_lemma => kernel_rfl) (by as_aux_lemma => kernel_rfl) (by omega) ⟨?_, ?_, ?_, ?_, ?_, ?_, ?_, ?_, ?_, ?_, ?_, ?_, trivial⟩ ?_
  · as_aux_lemma =>
      intro ev w1 hg hin hc hgl hfn hd
      have hB := hg.top
      have g9 : ev (.tmp 9) = .bool true := (hin 9 (by kernel_rfl)).trans i9
      clear hin hd
      refine step_on (guard_none rfl) fun K hK => ?_
      unfold YieldsG
      go_simp
      exact hK _ _ rfl (Grow.refl hB)
  · as_aux_lemma =>
      intro ev w1 hg hin hc hgl hfn hd
      have hB := hg.top
      have f50 : (ev (.tmp 50)) = .bool true := hd.1 rfl _ rfl
      clear hin hd
      refine step_on (guard_none rfl) fun K hK => ?_
      unfold YieldsG
      go_simp
      exact hK _ _ rfl (Grow.refl hB)
  · as_aux_lemma =>
      intro ev w1 hg hin hc hgl hfn hd
      have hB := hg.top
      have f51 : (ev (.tmp 51)) = .bool true := hd.1 rfl _ rfl
      have g11 : ev (.tmp 11) = .bool true := (hin 11 (by kernel_rfl)).trans i11
      clear hin hd
      refine step_on (guard_some rfl rfl f51) fun K hK => ?_
      unfold YieldsG
      go_simp
      exact hK _ _ rfl (Grow.refl hB)
  · as_aux_lemma =>
      intro ev w1 hg hin hc hgl hfn hd
      have hB := hg.top
      have f51 : (ev (.tmp 51)) = .bool true := hd.1 rfl _ rfl
      have f52 : (ev (.tmp 52)) = .bool true := hd.2.1 rfl _ rfl
      clear hin hd
      refine step_on (guard_none rfl) fun K hK => ?_
      unfold YieldsG
      go_simp
      exact hK _ _ rfl (Grow.refl hB)
  · as_aux_lemma =>
      intro ev w1 hg hin hc hgl hfn hd
      have hB := hg.top
      have f53 : (ev (.tmp 53)) = .bool true := hd.1 rfl _ rfl
      clear hin hd
      refine step_on (guard_none rfl) fun K hK => ?_
      unfold YieldsG
      go_simp
      exact hK _ _ rfl (Grow.refl hB)
  · as_aux_lemma =>
      intro ev w1 hg hin hc hgl hfn hd
      have hB := hg.top
      have f54 : (ev (.tmp 54)) = .bool true := hd.1 rfl _ rfl
      have g3 : ev (.tmp 3) = .pointer (some ⟨n1, 0, none⟩) := (hin 3 (by kernel_rfl)).trans i3
      clear hin hd
      refine step_on (guard_some rfl rfl f54) fun K hK => ?_
      refine yg_load_row 25 (.tmp 3) rfl n1 g3 25 (cellsB (x)) (0, 0) _ (hx7.below hg.bl (by omega)) Tryd.underD rfl (Tryd.sizeD_of _ HX.out) ?_
      exact hK _ _ rfl (Grow.refl hB)
  · as_aux_lemma =>
      intro ev w1 hg hin hc hgl hfn hd
      have hB := hg.top
      have f54 : (ev (.tmp 54)) = .bool true := hd.1 rfl _ rfl
      have g8 : ev (.tmp 8) = .pointer (some ⟨n2, 0, none⟩) := (hin 8 (by kernel_rfl)).trans i8
      clear hin hd
      refine step_on (guard_some rfl rfl f54) fun K hK => ?_
      refine yg_load_row 25 (.tmp 8) rfl n2 g8 25 (cellsB (a)) (0, 0) _ (ha7.below hg.bl (by omega)) Tryd.underD rfl (Tryd.sizeD_of _ HA.out) ?_
      exact hK _ _ rfl (Grow.refl hB)
  · as_aux_lemma =>
      intro ev w1 hg hin hc hgl hfn hd
      have hB := hg.top
      have f54 : (ev (.tmp 54)) = .bool true := hd.1 rfl _ rfl
      have g10 : ev (.tmp 10) = .pointer (some ⟨n3, 0, none⟩) := (hin 10 (by kernel_rfl)).trans i10
      clear hin hd
      refine step_on (guard_some rfl rfl f54) fun K hK => ?_
      refine yg_load_row 25 (.tmp 10) rfl n3 g10 25 (cellsB (b)) (0, 0) _ (hb7.below hg.bl (by omega)) Tryd.underD rfl (Tryd.sizeD_of _ HB.out) ?_
      exact hK _ _ rfl (Grow.refl hB)
  · as_aux_lemma =>
      intro ev w1 hg hin hc hgl hfn hd
      have hB := hg.top
      have f56 : (ev (.tmp 56)) = .agg (cellsB (a)) := hd.1 rfl _ rfl
      have f57 : (ev (.tmp 57)) = .agg (cellsB (b)) := hd.2.1 rfl _ rfl
      have f54 : (ev (.tmp 54)) = .bool true := hd.2.2.1 rfl _ rfl
      clear hin hd
      refine step_on (guard_some rfl rfl f54) fun K hK => ?_
      unfold YieldsG
      go_simp
      refine (pair_any a b w1 HA.out HB.out (hK7.below hg.bl (by omega))).mono ?_
      rintro e w2 ⟨rfl, hb⟩
      exact ⟨_, rfl, hK _ _ (by show _ = _; rw [HXE.out]) (Grow.of hB hb)⟩
  · as_aux_lemma =>
      intro ev w1 hg hin hc hgl hfn hd
      have hB := hg.top
      have f55 : (ev (.tmp 55)) = .agg (cellsB (x)) := hd.1 rfl _ rfl
      have f58 : (ev (.tmp 58)) = .agg (cellsB (x)) := hd.2.1 rfl _ rfl
      have f54 : (ev (.tmp 54)) = .bool true := hd.2.2.1 rfl _ rfl
      clear hin hd
      refine step_on (guard_some rfl rfl f54) fun K hK => ?_
      have hq := eqlT (x) (x) HX.out rfl
      unfold YieldsG
      go_simp
      exact hK _ _ rfl (Grow.refl hB)
  · as_aux_lemma =>
      intro ev w1 hg hin hc hgl hfn hd
      have hB := hg.top
      have f54 : (ev (.tmp 54)) = .bool true := hd.1 rfl _ rfl
      have f59 : (ev (.tmp 59)) = .bool true := hd.2.1 rfl _ rfl
      clear hin hd
      refine step_on (guard_none rfl) fun K hK => ?_
      unfold YieldsG
      go_simp
      exact hK _ _ rfl (Grow.refl hB)
  · as_aux_lemma =>
      intro ev w1 hg hin hc hgl hfn hd
      have hB := hg.top
      have f60 : (ev (.tmp 60)) = .bool true := hd.1 rfl _ rfl
      clear hin hd
      refine step_on (guard_none rfl) fun K hK => ?_
      unfold YieldsG
      go_simp
      exact hK _ _ rfl (Grow.refl hB)
  · intro v w9 hg hall
    have hr : v 11 = .bool true := hall.2.2.2.2.2.2.2.2.2.2.2.1 (by simp)
    generalize hput : putAll _ v 0 _ = af
    have h0 : af.tmps.getD 2 undef = v 11 := by rw [← hput]; exact putAll_at (by rw [hsz]; as_aux_lemma => kernel_rfl) rfl rfl
    have hdf : af.defers = [] := by rw [← hput, putAll_defers]; exact hdf0
    clear hput hall
    go_wp2
    refine bodyPost_ret (results_tmp rfl _ _ _) hdf ⟨?_, hbl'.trans (hg.bl.mono (by rw [← eB]; exact hbl'.size))⟩
    rw [h0, hr]
theorem climbReaches_any (v : Value) (l : List Dg) (w : World) (hv : Digs w v l) (h32 : all32 l) (hK : KFact w) :
    Calls Tryd.prog 5 #[v] w fun e w' => e = .returned (.bool true) ∧ Below w.heap.size w w' := by
  by_cases hc : 64 < l.length
  · exact kr_big v l w hv h32 hK hc
  · cases hp : powB l.length with
    | false => exact kr_bad v l w hv h32 hK hc hp
    | true =>
      obtain ⟨k, hk, hl⟩ := (powB_iff _).1 hp
      cases k with
      | zero => exact kr_one v l w hv h32 hK hl
      | succ k => exact kr_two v l w hv h32 hK k hk hl
end Go.Proofs.YteogcilnpkaplaaDoor

/- crossbarlaw05.KeytreeSignatureVerifies returns true. Conditions: the digests have 32 bytes, the tables lie in their variables. -/
import Derived.Test.YteogcilnpkaplaaDoorM10
import Derived.Test.YteogcilnpkaplaaDoorM14
namespace Go.Proofs.YteogcilnpkaplaaDoor
open Go.RowKit
theorem signR_ok {seed d : List UInt8} {i : Nat} (h : okSeed seed (i : Int) = true) : signR seed (i : Int) d = signOf seed i d := by
  unfold signR walkR; rw [if_pos h]; rfl
theorem sig_verifies (seed msg : List UInt8) (idx : Int) (hok : okSign seed idx = true) :
    recR (msgOf msg) (signR seed idx (msgOf msg)) = pubR seed idx ∧ (signR seed idx (msgOf msg)).length = 18 ∧ all32 (signR seed idx (msgOf msg)) ∧ (pathR (leavesOf seed) idx).length = 2 ∧ all32 (pathR (leavesOf seed) idx) ∧ errR seed idx = 0 ∧ errL seed = 0 ∧
      verK (rootK seed) msg idx (signR seed idx (msgOf msg)) (pathR (leavesOf seed) idx) = true := by
  obtain ⟨h0, h4, hl⟩ := (okSign_iff _ _).1 hok
  obtain ⟨i, rfl⟩ := Int.eq_ofNat_of_zero_le h0
  have hi : i < 4 := by omega
  have hs : okSeed seed (i : Int) = true := by rw [okSeed_small hi]; exact hl
  rw [signR_ok hs]
  have e18 : (signOf seed i (msgOf msg)).length = 18 := walkOf_len _ _ _
  have erec : recR (msgOf msg) (signOf seed i (msgOf msg)) = pubOf seed i := by unfold recR; rw [if_pos e18]; exact rec_sign _ _ _
  have epub : pubR seed (i : Int) = pubOf seed i := by unfold pubR; rw [if_pos hs]; rfl
  have hll := leavesOf_len seed
  have hp : pathR (leavesOf seed) (i : Int) = pathOf 2 (leavesOf seed) i := pathR_leaf (by decide) hll hi
  have hcl := climbR_leaf (k := 2) (l := leavesOf seed) (i := i) (by decide) hll hi
  rw [leavesOf_get seed i hi] at hcl
  refine ⟨by rw [erec, epub], e18, walkOf_32 _ _ _, by rw [hp, pathOf_len], pathR_32 _ _ (leavesOf_32 seed), errR_ok hs, by unfold errL; rw [hl]; rfl, ?_⟩
  unfold verK
  rw [erec, hcl, (shapeB_iff _ _ _).2 ⟨h0, h4, e18, by rw [hp, pathOf_len]⟩, Bool.true_and, decide_eq_true]
  unfold rootK; rw [hl]; rfl
set_option maxRecDepth 100000 in
set_option maxHeartbeats 4000000 in
theorem sg_big (v mv : Value) (seed msg : List UInt8) (idx : Int) (w : World) (hv : Bytes w v seed (fun _ => True)) (hm : Bytes w mv msg (fun _ => True)) (hK : KFact w) (h : 100 < seed.length) :
    Calls Tryd.prog 4 #[v, .int .i64 idx, mv] w fun e w' => e = .returned (.bool true) ∧ Below w.heap.size w w' := by
  have hkl := hK.lt
  obtain ⟨av, kv, rfl⟩ : ∃ a c, v = .slice a seed.length c := by obtain ⟨a, c, h, _⟩ := hv; exact ⟨a, c, h⟩
  obtain ⟨am, km, rfl⟩ : ∃ a c, mv = .slice a msg.length c := by obtain ⟨a, c, h, _⟩ := hm; exact ⟨a, c, h⟩
  have d1 : decide ((100 : Int) < (seed.length : Int)) = true := decide_eq_true (by omega)
  clear h
  go_enter Tryd.func4, Tryd.ntmps4
  go_wp2_with fail
  refine (sane_any _ hK).mono ?_
  rintro e w0 ⟨rfl, hB0⟩
  go_wp2
  go_ret
  exact ⟨rfl, hB0⟩
set_option maxRecDepth 100000 in
set_option maxHeartbeats 4000000 in
theorem sg_m (v mv : Value) (seed msg : List UInt8) (idx : Int) (w : World) (hv : Bytes w v seed (fun _ => True)) (hm : Bytes w mv msg (fun _ => True)) (hK : KFact w) (h1 : ¬ 100 < seed.length) (h : 300 < msg.length) :
    Calls Tryd.prog 4 #[v, .int .i64 idx, mv] w fun e w' => e = .returned (.bool true) ∧ Below w.heap.size w w' := by
  have hkl := hK.lt
  obtain ⟨av, kv, rfl⟩ : ∃ a c, v = .slice a seed.length c := by obtain ⟨a, c, h, _⟩ := hv; exact ⟨a, c, h⟩
  obtain ⟨am, km, rfl⟩ : ∃ a c, mv = .slice a msg.length c := by obtain ⟨a, c, h, _⟩ := hm; exact ⟨a, c, h⟩
  have d1 : decide ((100 : Int) < (seed.length : Int)) = false := decide_eq_false (by omega)
  have d2 : decide ((300 : Int) < (msg.length : Int)) = true := decide_eq_true (by omega)
  clear h h1
  go_enter Tryd.func4, Tryd.ntmps4
  go_wp2_with fail
  refine (sane_any _ hK).mono ?_
  rintro e w0 ⟨rfl, hB0⟩
  go_wp2
  go_ret
  exact ⟨rfl, hB0⟩
set_option maxRecDepth 100000 in
set_option maxHeartbeats 4000000 in
theorem sg_low (v mv : Value) (seed msg : List UInt8) (idx : Int) (w : World) (hv : Bytes w v seed (fun _ => True)) (hm : Bytes w mv msg (fun _ => True)) (hK : KFact w) (hs : ¬ 100 < seed.length) (hm3 : ¬ 300 < msg.length) (hok : okSign seed idx = false) (hl : okLen seed = false) (h : seed.length < 1) :
    Calls Tryd.prog 4 #[v, .int .i64 idx, mv] w fun e w' => e = .returned (.bool true) ∧ Below w.heap.size w w' := by
  have hkl := hK.lt
  obtain ⟨av, kv, rfl⟩ : ∃ a c, v = .slice a seed.length c := by obtain ⟨a, c, h, _⟩ := hv; exact ⟨a, c, h⟩
  obtain ⟨am, km, rfl⟩ : ∃ a c, mv = .slice a msg.length c := by obtain ⟨a, c, h, _⟩ := hm; exact ⟨a, c, h⟩
  have HEL : Hid (errL seed = 1) := Lib.hid (by unfold errL; rw [hl]; rfl)
  have HIX : Hid (idxG seed idx = 0) := Lib.hid (by unfold idxG; rw [hok]; rfl)
  have HEG : Hid (errG seed idx = 1) := Lib.hid (by unfold errG; rw [hok]; rfl)
  have HCG : Hid (chainsG seed msg idx = []) := Lib.hid (by unfold chainsG; rw [hok]; rfl)
  have HPG : Hid (pathG seed idx = []) := Lib.hid (by unfold pathG; rw [hok]; rfl)
  have HML : Hid (msg.length ≤ 1000000) := Lib.hid (by omega)
  have d1 : decide ((100 : Int) < (seed.length : Int)) = false := decide_eq_false (by omega)
  have d2 : decide ((300 : Int) < (msg.length : Int)) = false := decide_eq_false (by omega)
  have d3 : decide ((seed.length : Int) < (1 : Int)) = true := decide_eq_true (by omega)
  obtain ⟨rt, hrt⟩ : ∃ rt, rootK seed = rt := ⟨_, rfl⟩
  have hrl : rt.length = 32 := by rw [← hrt]; exact rootK_len seed
  have HRT := Lib.hid hrt
  have HRL := Lib.hid hrl
  have HSR := Lib.hid (Tryd.sizeD_of rt hrl)
  have HCR : Hid ((cellsB rt).size = (cellsB (List.replicate 32 0)).size) := Lib.hid (by rw [cellsB_size, hrl]; rfl)
  clear hs hm3 hok hl hrt hrl
  go_enter Tryd.func4, Tryd.ntmps4
  go_wp2_with fail
  refine (sane_any _ hK).mono ?_
  rintro e w0 ⟨rfl, hB0⟩
  go_wp2_with fail
  refine (kroot_any seed _ w0 ((hv.later hB0).imp fun _ _ => trivial) (hK.below hB0 hkl)).mono ?_
  rintro e w1 ⟨rfl, hb1⟩
  rw [HRT.out, HEL.out]
  have hB1 := hB0.trans (hb1.mono hB0.size)
  clear hb1 hB0
  go_wp2_with (first | (refine wpList_store_row rfl 25 (.tmp 7) (.tmp 28) rfl w1.heap.size rfl (cellsB rt) (cellsB (List.replicate 32 0)) 25 rfl (Row.new w1 _ _) HCR.out HSR.out (cellsB_one _) ?_; intro w2 hg2 hr2 hz2; clear hz2; have hb2 := box_below hg2; clear hg2; have hB2 := hB1.trans (hb2.mono hB1.size); clear hb2 hB1))
  refine (ksign_any seed msg _ _ idx w2 ((hv.later hB2).imp fun _ _ => trivial) ((hm.later hB2).imp fun _ _ => trivial) HML.out (hK.below hB2 hkl)).mono ?_
  rintro e w3 ⟨cv, pv, rfl, hcv, hpv, hb3⟩
  rw [HIX.out, HEG.out]
  rw [HCG.out] at hcv
  rw [HPG.out] at hpv
  obtain ⟨ac, kc, rfl⟩ := hcv.form
  obtain ⟨ap, kp, rfl⟩ := hpv.form
  have hB3 := hB2.trans (hb3.mono hB2.size)
  have hr3 := hr2.below hb3 hr2.lt
  have hl3 := hr3.lt
  clear hb3 hB2 hr2
  go_wp2_with (first | (refine wpList_store_row rfl 31 (.tmp 9) (.tmp 35) rfl w3.heap.size rfl (sigC 0 (.slice ac 0 kc) (.slice ap 0 kp)) (sigC 0 (.slice none 0 0) (.slice none 0 0)) 31 rfl (Row.new w3 _ _) rfl (sigC_size _ _ _) (sigC_one _ _ _ _ _ _ _) ?_; intro w4 hg4 hs4 hz4; clear hz4; have hb4 : Below w3.heap.size w3 w4 := ((Below.refl _ _).alloc (Nat.le_refl _) _).grown hg4 (by simp) (fun k hk => by cases hk; exact Nat.le_refl _); clear hg4; have hr4 := hr3.below hb4 hl3; have hB4 := hB3.trans (hb4.mono hB3.size); have hf0 : w4.cell? ⟨w3.heap.size, 0, none⟩ = some (.int .i64 0) := hs4.cell 0; have hf1 : w4.cell? ⟨w3.heap.size, 1, none⟩ = some (.slice ac 0 kc) := hs4.cell 1; have hf2 : w4.cell? ⟨w3.heap.size, 2, none⟩ = some (.slice ap 0 kp) := hs4.cell 2; clear hb4 hB3 hr3))
  go_ret
  exact ⟨rfl, hB4⟩
set_option maxRecDepth 100000 in
set_option maxHeartbeats 4000000 in
theorem sg_high (v mv : Value) (seed msg : List UInt8) (idx : Int) (w : World) (hv : Bytes w v seed (fun _ => True)) (hm : Bytes w mv msg (fun _ => True)) (hK : KFact w) (hs : ¬ 100 < seed.length) (hm3 : ¬ 300 < msg.length) (hok : okSign seed idx = false) (hl : okLen seed = false) (h : 64 < seed.length) :
    Calls Tryd.prog 4 #[v, .int .i64 idx, mv] w fun e w' => e = .returned (.bool true) ∧ Below w.heap.size w w' := by
  have hkl := hK.lt
  obtain ⟨av, kv, rfl⟩ : ∃ a c, v = .slice a seed.length c := by obtain ⟨a, c, h, _⟩ := hv; exact ⟨a, c, h⟩
  obtain ⟨am, km, rfl⟩ : ∃ a c, mv = .slice a msg.length c := by obtain ⟨a, c, h, _⟩ := hm; exact ⟨a, c, h⟩
  have HEL : Hid (errL seed = 1) := Lib.hid (by unfold errL; rw [hl]; rfl)
  have HIX : Hid (idxG seed idx = 0) := Lib.hid (by unfold idxG; rw [hok]; rfl)
  have HEG : Hid (errG seed idx = 1) := Lib.hid (by unfold errG; rw [hok]; rfl)
  have HCG : Hid (chainsG seed msg idx = []) := Lib.hid (by unfold chainsG; rw [hok]; rfl)
  have HPG : Hid (pathG seed idx = []) := Lib.hid (by unfold pathG; rw [hok]; rfl)
  have HML : Hid (msg.length ≤ 1000000) := Lib.hid (by omega)
  have d1 : decide ((100 : Int) < (seed.length : Int)) = false := decide_eq_false (by omega)
  have d2 : decide ((300 : Int) < (msg.length : Int)) = false := decide_eq_false (by omega)
  have d3 : decide ((seed.length : Int) < (1 : Int)) = false := decide_eq_false (by omega)
  have d4 : decide ((64 : Int) < (seed.length : Int)) = true := decide_eq_true (by omega)
  obtain ⟨rt, hrt⟩ : ∃ rt, rootK seed = rt := ⟨_, rfl⟩
  have hrl : rt.length = 32 := by rw [← hrt]; exact rootK_len seed
  have HRT := Lib.hid hrt
  have HRL := Lib.hid hrl
  have HSR := Lib.hid (Tryd.sizeD_of rt hrl)
  have HCR : Hid ((cellsB rt).size = (cellsB (List.replicate 32 0)).size) := Lib.hid (by rw [cellsB_size, hrl]; rfl)
  clear hs hm3 hok hl hrt hrl
  go_enter Tryd.func4, Tryd.ntmps4
  go_wp2_with fail
  refine (sane_any _ hK).mono ?_
  rintro e w0 ⟨rfl, hB0⟩
  go_wp2_with fail
  refine (kroot_any seed _ w0 ((hv.later hB0).imp fun _ _ => trivial) (hK.below hB0 hkl)).mono ?_
  rintro e w1 ⟨rfl, hb1⟩
  rw [HRT.out, HEL.out]
  have hB1 := hB0.trans (hb1.mono hB0.size)
  clear hb1 hB0
  go_wp2_with (first | (refine wpList_store_row rfl 25 (.tmp 7) (.tmp 28) rfl w1.heap.size rfl (cellsB rt) (cellsB (List.replicate 32 0)) 25 rfl (Row.new w1 _ _) HCR.out HSR.out (cellsB_one _) ?_; intro w2 hg2 hr2 hz2; clear hz2; have hb2 := box_below hg2; clear hg2; have hB2 := hB1.trans (hb2.mono hB1.size); clear hb2 hB1))
  refine (ksign_any seed msg _ _ idx w2 ((hv.later hB2).imp fun _ _ => trivial) ((hm.later hB2).imp fun _ _ => trivial) HML.out (hK.below hB2 hkl)).mono ?_
  rintro e w3 ⟨cv, pv, rfl, hcv, hpv, hb3⟩
  rw [HIX.out, HEG.out]
  rw [HCG.out] at hcv
  rw [HPG.out] at hpv
  obtain ⟨ac, kc, rfl⟩ := hcv.form
  obtain ⟨ap, kp, rfl⟩ := hpv.form
  have hB3 := hB2.trans (hb3.mono hB2.size)
  have hr3 := hr2.below hb3 hr2.lt
  have hl3 := hr3.lt
  clear hb3 hB2 hr2
  go_wp2_with (first | (refine wpList_store_row rfl 31 (.tmp 9) (.tmp 35) rfl w3.heap.size rfl (sigC 0 (.slice ac 0 kc) (.slice ap 0 kp)) (sigC 0 (.slice none 0 0) (.slice none 0 0)) 31 rfl (Row.new w3 _ _) rfl (sigC_size _ _ _) (sigC_one _ _ _ _ _ _ _) ?_; intro w4 hg4 hs4 hz4; clear hz4; have hb4 : Below w3.heap.size w3 w4 := ((Below.refl _ _).alloc (Nat.le_refl _) _).grown hg4 (by simp) (fun k hk => by cases hk; exact Nat.le_refl _); clear hg4; have hr4 := hr3.below hb4 hl3; have hB4 := hB3.trans (hb4.mono hB3.size); have hf0 : w4.cell? ⟨w3.heap.size, 0, none⟩ = some (.int .i64 0) := hs4.cell 0; have hf1 : w4.cell? ⟨w3.heap.size, 1, none⟩ = some (.slice ac 0 kc) := hs4.cell 1; have hf2 : w4.cell? ⟨w3.heap.size, 2, none⟩ = some (.slice ap 0 kp) := hs4.cell 2; clear hb4 hB3 hr3))
  go_ret
  exact ⟨rfl, hB4⟩
set_option maxRecDepth 100000 in
set_option maxHeartbeats 4000000 in
theorem sg_neg (v mv : Value) (seed msg : List UInt8) (idx : Int) (w : World) (hv : Bytes w v seed (fun _ => True)) (hm : Bytes w mv msg (fun _ => True)) (hK : KFact w) (hs : ¬ 100 < seed.length) (hm3 : ¬ 300 < msg.length) (hok : okSign seed idx = false) (hl : okLen seed = true) (hl1 : 1 ≤ seed.length) (hl2 : seed.length ≤ 64) (h : idx < 0) :
    Calls Tryd.prog 4 #[v, .int .i64 idx, mv] w fun e w' => e = .returned (.bool true) ∧ Below w.heap.size w w' := by
  have hkl := hK.lt
  obtain ⟨av, kv, rfl⟩ : ∃ a c, v = .slice a seed.length c := by obtain ⟨a, c, h, _⟩ := hv; exact ⟨a, c, h⟩
  obtain ⟨am, km, rfl⟩ : ∃ a c, mv = .slice a msg.length c := by obtain ⟨a, c, h, _⟩ := hm; exact ⟨a, c, h⟩
  have HEL : Hid (errL seed = 0) := Lib.hid (by unfold errL; rw [hl]; rfl)
  have HIX : Hid (idxG seed idx = 0) := Lib.hid (by unfold idxG; rw [hok]; rfl)
  have HEG : Hid (errG seed idx = 1) := Lib.hid (by unfold errG; rw [hok]; rfl)
  have HCG : Hid (chainsG seed msg idx = []) := Lib.hid (by unfold chainsG; rw [hok]; rfl)
  have HPG : Hid (pathG seed idx = []) := Lib.hid (by unfold pathG; rw [hok]; rfl)
  have HML : Hid (msg.length ≤ 1000000) := Lib.hid (by omega)
  have d1 : decide ((100 : Int) < (seed.length : Int)) = false := decide_eq_false (by omega)
  have d2 : decide ((300 : Int) < (msg.length : Int)) = false := decide_eq_false (by omega)
  have d3 : decide ((seed.length : Int) < (1 : Int)) = false := decide_eq_false (by omega)
  have d4 : decide ((64 : Int) < (seed.length : Int)) = false := decide_eq_false (by omega)
  have d5 : decide (idx < (0 : Int)) = true := decide_eq_true (by omega)
  clear hl1 hl2 h
  obtain ⟨rt, hrt⟩ : ∃ rt, rootK seed = rt := ⟨_, rfl⟩
  have hrl : rt.length = 32 := by rw [← hrt]; exact rootK_len seed
  have HRT := Lib.hid hrt
  have HRL := Lib.hid hrl
  have HSR := Lib.hid (Tryd.sizeD_of rt hrl)
  have HCR : Hid ((cellsB rt).size = (cellsB (List.replicate 32 0)).size) := Lib.hid (by rw [cellsB_size, hrl]; rfl)
  clear hs hm3 hok hl hrt hrl
  go_enter Tryd.func4, Tryd.ntmps4
  go_wp2_with fail
  refine (sane_any _ hK).mono ?_
  rintro e w0 ⟨rfl, hB0⟩
  go_wp2_with fail
  refine (kroot_any seed _ w0 ((hv.later hB0).imp fun _ _ => trivial) (hK.below hB0 hkl)).mono ?_
  rintro e w1 ⟨rfl, hb1⟩
  rw [HRT.out, HEL.out]
  have hB1 := hB0.trans (hb1.mono hB0.size)
  clear hb1 hB0
  go_wp2_with (first | (refine wpList_store_row rfl 25 (.tmp 7) (.tmp 28) rfl w1.heap.size rfl (cellsB rt) (cellsB (List.replicate 32 0)) 25 rfl (Row.new w1 _ _) HCR.out HSR.out (cellsB_one _) ?_; intro w2 hg2 hr2 hz2; clear hz2; have hb2 := box_below hg2; clear hg2; have hB2 := hB1.trans (hb2.mono hB1.size); clear hb2 hB1))
  refine (ksign_any seed msg _ _ idx w2 ((hv.later hB2).imp fun _ _ => trivial) ((hm.later hB2).imp fun _ _ => trivial) HML.out (hK.below hB2 hkl)).mono ?_
  rintro e w3 ⟨cv, pv, rfl, hcv, hpv, hb3⟩
  rw [HIX.out, HEG.out]
  rw [HCG.out] at hcv
  rw [HPG.out] at hpv
  obtain ⟨ac, kc, rfl⟩ := hcv.form
  obtain ⟨ap, kp, rfl⟩ := hpv.form
  have hB3 := hB2.trans (hb3.mono hB2.size)
  have hr3 := hr2.below hb3 hr2.lt
  have hl3 := hr3.lt
  clear hb3 hB2 hr2
  go_wp2_with (first | (refine wpList_store_row rfl 31 (.tmp 9) (.tmp 35) rfl w3.heap.size rfl (sigC 0 (.slice ac 0 kc) (.slice ap 0 kp)) (sigC 0 (.slice none 0 0) (.slice none 0 0)) 31 rfl (Row.new w3 _ _) rfl (sigC_size _ _ _) (sigC_one _ _ _ _ _ _ _) ?_; intro w4 hg4 hs4 hz4; clear hz4; have hb4 : Below w3.heap.size w3 w4 := ((Below.refl _ _).alloc (Nat.le_refl _) _).grown hg4 (by simp) (fun k hk => by cases hk; exact Nat.le_refl _); clear hg4; have hr4 := hr3.below hb4 hl3; have hB4 := hB3.trans (hb4.mono hB3.size); have hf0 : w4.cell? ⟨w3.heap.size, 0, none⟩ = some (.int .i64 0) := hs4.cell 0; have hf1 : w4.cell? ⟨w3.heap.size, 1, none⟩ = some (.slice ac 0 kc) := hs4.cell 1; have hf2 : w4.cell? ⟨w3.heap.size, 2, none⟩ = some (.slice ap 0 kp) := hs4.cell 2; clear hb4 hB3 hr3))
  go_ret
  exact ⟨rfl, hB4⟩
set_option maxRecDepth 100000 in
set_option maxHeartbeats 4000000 in
theorem sg_four (v mv : Value) (seed msg : List UInt8) (idx : Int) (w : World) (hv : Bytes w v seed (fun _ => True)) (hm : Bytes w mv msg (fun _ => True)) (hK : KFact w) (hs : ¬ 100 < seed.length) (hm3 : ¬ 300 < msg.length) (hok : okSign seed idx = false) (hl : okLen seed = true) (hl1 : 1 ≤ seed.length) (hl2 : seed.length ≤ 64) (h0 : ¬ idx < 0) (h : 3 < idx) :
    Calls Tryd.prog 4 #[v, .int .i64 idx, mv] w fun e w' => e = .returned (.bool true) ∧ Below w.heap.size w w' := by
  have hkl := hK.lt
  obtain ⟨av, kv, rfl⟩ : ∃ a c, v = .slice a seed.length c := by obtain ⟨a, c, h, _⟩ := hv; exact ⟨a, c, h⟩
  obtain ⟨am, km, rfl⟩ : ∃ a c, mv = .slice a msg.length c := by obtain ⟨a, c, h, _⟩ := hm; exact ⟨a, c, h⟩
  have HEL : Hid (errL seed = 0) := Lib.hid (by unfold errL; rw [hl]; rfl)
  have HIX : Hid (idxG seed idx = 0) := Lib.hid (by unfold idxG; rw [hok]; rfl)
  have HEG : Hid (errG seed idx = 1) := Lib.hid (by unfold errG; rw [hok]; rfl)
  have HCG : Hid (chainsG seed msg idx = []) := Lib.hid (by unfold chainsG; rw [hok]; rfl)
  have HPG : Hid (pathG seed idx = []) := Lib.hid (by unfold pathG; rw [hok]; rfl)
  have HML : Hid (msg.length ≤ 1000000) := Lib.hid (by omega)
  have d1 : decide ((100 : Int) < (seed.length : Int)) = false := decide_eq_false (by omega)
  have d2 : decide ((300 : Int) < (msg.length : Int)) = false := decide_eq_false (by omega)
  have d3 : decide ((seed.length : Int) < (1 : Int)) = false := decide_eq_false (by omega)
  have d4 : decide ((64 : Int) < (seed.length : Int)) = false := decide_eq_false (by omega)
  have d5 : decide (idx < (0 : Int)) = false := decide_eq_false (by omega)
  have d6 : decide ((3 : Int) < idx) = true := decide_eq_true (by omega)
  clear hl1 hl2 h h0
  obtain ⟨rt, hrt⟩ : ∃ rt, rootK seed = rt := ⟨_, rfl⟩
  have hrl : rt.length = 32 := by rw [← hrt]; exact rootK_len seed
  have HRT := Lib.hid hrt
  have HRL := Lib.hid hrl
  have HSR := Lib.hid (Tryd.sizeD_of rt hrl)
  have HCR : Hid ((cellsB rt).size = (cellsB (List.replicate 32 0)).size) := Lib.hid (by rw [cellsB_size, hrl]; rfl)
  clear hs hm3 hok hl hrt hrl
  go_enter Tryd.func4, Tryd.ntmps4
  go_wp2_with fail
  refine (sane_any _ hK).mono ?_
  rintro e w0 ⟨rfl, hB0⟩
  go_wp2_with fail
  refine (kroot_any seed _ w0 ((hv.later hB0).imp fun _ _ => trivial) (hK.below hB0 hkl)).mono ?_
  rintro e w1 ⟨rfl, hb1⟩
  rw [HRT.out, HEL.out]
  have hB1 := hB0.trans (hb1.mono hB0.size)
  clear hb1 hB0
  go_wp2_with (first | (refine wpList_store_row rfl 25 (.tmp 7) (.tmp 28) rfl w1.heap.size rfl (cellsB rt) (cellsB (List.replicate 32 0)) 25 rfl (Row.new w1 _ _) HCR.out HSR.out (cellsB_one _) ?_; intro w2 hg2 hr2 hz2; clear hz2; have hb2 := box_below hg2; clear hg2; have hB2 := hB1.trans (hb2.mono hB1.size); clear hb2 hB1))
  refine (ksign_any seed msg _ _ idx w2 ((hv.later hB2).imp fun _ _ => trivial) ((hm.later hB2).imp fun _ _ => trivial) HML.out (hK.below hB2 hkl)).mono ?_
  rintro e w3 ⟨cv, pv, rfl, hcv, hpv, hb3⟩
  rw [HIX.out, HEG.out]
  rw [HCG.out] at hcv
  rw [HPG.out] at hpv
  obtain ⟨ac, kc, rfl⟩ := hcv.form
  obtain ⟨ap, kp, rfl⟩ := hpv.form
  have hB3 := hB2.trans (hb3.mono hB2.size)
  have hr3 := hr2.below hb3 hr2.lt
  have hl3 := hr3.lt
  clear hb3 hB2 hr2
  go_wp2_with (first | (refine wpList_store_row rfl 31 (.tmp 9) (.tmp 35) rfl w3.heap.size rfl (sigC 0 (.slice ac 0 kc) (.slice ap 0 kp)) (sigC 0 (.slice none 0 0) (.slice none 0 0)) 31 rfl (Row.new w3 _ _) rfl (sigC_size _ _ _) (sigC_one _ _ _ _ _ _ _) ?_; intro w4 hg4 hs4 hz4; clear hz4; have hb4 : Below w3.heap.size w3 w4 := ((Below.refl _ _).alloc (Nat.le_refl _) _).grown hg4 (by simp) (fun k hk => by cases hk; exact Nat.le_refl _); clear hg4; have hr4 := hr3.below hb4 hl3; have hB4 := hB3.trans (hb4.mono hB3.size); have hf0 : w4.cell? ⟨w3.heap.size, 0, none⟩ = some (.int .i64 0) := hs4.cell 0; have hf1 : w4.cell? ⟨w3.heap.size, 1, none⟩ = some (.slice ac 0 kc) := hs4.cell 1; have hf2 : w4.cell? ⟨w3.heap.size, 2, none⟩ = some (.slice ap 0 kp) := hs4.cell 2; clear hb4 hB3 hr3))
  go_ret
  exact ⟨rfl, hB4⟩
theorem digs_below {w w' : World} {v : Value} {xs : List Dg} {g n : Nat} (h : Digs w v xs) (hb : ∀ b o m c, v = .slice (some ⟨b, o, none⟩) m c → b < n) (hg : w.grownBy w' (some g)) (hn : n ≤ g) : Digs w' v xs := by
  obtain ⟨ad, cap, rfl, hc0, hc1, ha | ⟨bb, off, rfl, hat⟩⟩ := h
  · exact ⟨_, _, rfl, hc0, hc1, .inl ha⟩
  · refine ⟨_, _, rfl, hc0, hc1, .inr ⟨bb, off, rfl, fun k hk => ?_⟩⟩
    have hcell := hat k hk
    have hlt := hb bb off _ _ rfl
    exact (World.cell?_of_block (w := w) (a := ⟨bb, off + k, none⟩) (hg.block bb (block_lt_of_cell hcell) (fun e => by have := Option.some.inj e; omega))).trans hcell
set_option maxRecDepth 100000 in
set_option maxHeartbeats 4000000 in
theorem sg_ok (v mv : Value) (seed msg : List UInt8) (idx : Int) (w : World) (hv : Bytes w v seed (fun _ => True)) (hm : Bytes w mv msg (fun _ => True)) (hK : KFact w) (hs : ¬ 100 < seed.length) (hm3 : ¬ 300 < msg.length) (hok : okSign seed idx = true) :
    Calls Tryd.prog 4 #[v, .int .i64 idx, mv] w fun e w' => e = .returned (.bool true) ∧ Below w.heap.size w w' := by
  have hkl := hK.lt
  obtain ⟨fs, hu⟩ := Tryd.underG
  have HU := Lib.hid hu
  clear hu
  obtain ⟨av, kv, rfl⟩ : ∃ a c, v = .slice a seed.length c := by obtain ⟨a, c, h, _⟩ := hv; exact ⟨a, c, h⟩
  obtain ⟨am, km, rfl⟩ : ∃ a c, mv = .slice a msg.length c := by obtain ⟨a, c, h, _⟩ := hm; exact ⟨a, c, h⟩
  obtain ⟨a1, a2, a3, a4, a5, a6, a7, a8⟩ := sig_verifies seed msg idx hok
  have HEL := Lib.hid a7
  have HIX : Hid (idxG seed idx = idx) := Lib.hid (by unfold idxG; rw [hok]; rfl)
  have HEG : Hid (errG seed idx = 0) := Lib.hid (by unfold errG; rw [hok]; rfl)
  have hcg : chainsG seed msg idx = signR seed idx (msgOf msg) := by unfold chainsG; rw [hok]; rfl
  have hpg : pathG seed idx = pathR (leavesOf seed) idx := by unfold pathG; rw [hok]; rfl
  have HML : Hid (msg.length ≤ 1000000) := Lib.hid (by omega)
  have hmo : (msgOf msg).length = 32 := taggedOf_len _ _
  obtain ⟨cs, hcs⟩ : ∃ cs, signR seed idx (msgOf msg) = cs := ⟨_, rfl⟩
  obtain ⟨ps, hps⟩ : ∃ ps, pathR (leavesOf seed) idx = ps := ⟨_, rfl⟩
  obtain ⟨pb, hpb⟩ : ∃ pb, pubR seed idx = pb := ⟨_, rfl⟩
  have hpl : pb.length = 32 := by rw [← hpb]; exact pubR_len _ _
  rw [hcs] at a1 a2 a3 a8 hcg
  rw [hps] at a4 a5 a8 hpg
  rw [hpb] at a1
  obtain ⟨mo, hmo'⟩ : ∃ mo, msgOf msg = mo := ⟨_, rfl⟩
  rw [hmo'] at hmo a1
  have HCG := Lib.hid hcg
  have HPG := Lib.hid hpg
  have HXE := Lib.hid a1
  have HC18 := Lib.hid a2
  have H32C := Lib.hid a3
  have HP2 := Lib.hid a4
  have H32P := Lib.hid a5
  have HER := Lib.hid a6
  have HPB := Lib.hid hpb
  have HPL := Lib.hid hpl
  have HSP := Lib.hid (Tryd.sizeD_of pb hpl)
  have HCP : Hid ((cellsB pb).size = (cellsB (List.replicate 32 0)).size) := Lib.hid (by rw [cellsB_size, hpl]; rfl)
  have HMO := Lib.hid hmo
  have HMX : Hid (taggedOf (ByteArray.mk #[109, 115, 103]).data.toList msg = mo) := Lib.hid hmo'
  have HES : Hid (errS cs = 0) := Lib.hid (errS_ok a2)
  have d1 : decide ((100 : Int) < (seed.length : Int)) = false := decide_eq_false (by omega)
  have d2 : decide ((300 : Int) < (msg.length : Int)) = false := decide_eq_false (by omega)
  obtain ⟨rt, hrt⟩ : ∃ rt, rootK seed = rt := ⟨_, rfl⟩
  have hrl : rt.length = 32 := by rw [← hrt]; exact rootK_len seed
  have HRT := Lib.hid hrt
  have HRL := Lib.hid hrl
  have HSR := Lib.hid (Tryd.sizeD_of rt hrl)
  have HCR : Hid ((cellsB rt).size = (cellsB (List.replicate 32 0)).size) := Lib.hid (by rw [cellsB_size, hrl]; rfl)
  rw [hrt] at a8
  have HVT := Lib.hid a8
  have hqe := fun w => eqlB pb pb HPL.out HPL.out w
  simp only [decide_true] at hqe
  clear hs hm3 hok hrt hrl a1 a2 a3 a4 a5 a6 a7 a8 hcg hpg hmo hmo' hcs hps hpb hpl
  go_enter Tryd.func4, Tryd.ntmps4
  generalize hR9 : Code.region 9 _ _ = R9
  have HR9 := Lib.hid hR9
  clear hR9
  go_wp2_with fail
  refine (sane_any _ hK).mono ?_
  rintro e w0 ⟨rfl, hB0⟩
  go_wp2_with fail
  refine (kroot_any seed _ w0 ((hv.later hB0).imp fun _ _ => trivial) (hK.below hB0 hkl)).mono ?_
  rintro e w1 ⟨rfl, hb1⟩
  rw [HRT.out, HEL.out]
  have hB1 := hB0.trans (hb1.mono hB0.size)
  clear hb1 hB0
  go_wp2_with (first | (refine wpList_store_row rfl 25 (.tmp 7) (.tmp 28) rfl w1.heap.size rfl (cellsB rt) (cellsB (List.replicate 32 0)) 25 rfl (Row.new w1 _ _) HCR.out HSR.out (cellsB_one _) ?_; intro w2 hg2 hr2 hz2; clear hz2; have hb2 := box_below hg2; clear hg2; have hB2 := hB1.trans (hb2.mono hB1.size); clear hb2 hB1))
  refine (ksign_any seed msg _ _ idx w2 ((hv.later hB2).imp fun _ _ => trivial) ((hm.later hB2).imp fun _ _ => trivial) HML.out (hK.below hB2 hkl)).mono ?_
  rintro e w3 ⟨cv, pv, rfl, hcv, hpv, hb3⟩
  rw [HIX.out, HEG.out]
  rw [HCG.out] at hcv
  rw [HPG.out] at hpv
  obtain ⟨ac, kc, rfl⟩ := hcv.form
  obtain ⟨ap, kp, rfl⟩ := hpv.form
  have hB3 := hB2.trans (hb3.mono hB2.size)
  have hr3 := hr2.below hb3 hr2.lt
  have hl3 := hr3.lt
  clear hb3 hB2 hr2
  rw [HC18.out] at hcv ⊢
  rw [HP2.out] at hpv ⊢
  go_wp2_with (first | (refine wpList_store_row rfl 31 (.tmp 9) (.tmp 35) rfl w3.heap.size rfl (sigC idx (.slice ac 18 kc) (.slice ap 2 kp)) (sigC 0 (.slice none 0 0) (.slice none 0 0)) 31 rfl (Row.new w3 _ _) rfl (sigC_size _ _ _) (sigC_one _ _ _ _ _ _ _) ?_; intro w4 hg4 hs4 hz4; clear hz4; have hb4 : Below w3.heap.size w3 w4 := ((Below.refl _ _).alloc (Nat.le_refl _) _).grown hg4 (by simp) (fun k hk => by cases hk; exact Nat.le_refl _); clear hg4; have hr4 := hr3.below hb4 hl3; have hB4 := hB3.trans (hb4.mono hB3.size); have hf0 : w4.cell? ⟨w3.heap.size, 0, none⟩ = some (.int .i64 idx) := hs4.cell 0; have hf1 : w4.cell? ⟨w3.heap.size, 1, none⟩ = some (.slice ac 18 kc) := hs4.cell 1; have hf2 : w4.cell? ⟨w3.heap.size, 2, none⟩ = some (.slice ap 2 kp) := hs4.cell 2; clear hr3))
  have hcv4 := hcv.later hb4
  have hpv4 := hpv.later hb4
  have hm4 := (hm.later hB4).imp (ok' := fun _ => True) fun _ _ => trivial
  have hK4 := hK.below hB4 hkl
  have HCB : Hid (∀ b o n c, (Value.slice ac 18 kc) = .slice (some ⟨b, o, none⟩) n c → b < w3.heap.size) := Lib.hid fun b o n c e => by obtain ⟨e1, -, -⟩ := Value.slice.inj e; exact digs_block hcv H32C.out e1 (by rw [HC18.out]; decide)
  have HPBK : Hid (∀ b o n c, (Value.slice ap 2 kp) = .slice (some ⟨b, o, none⟩) n c → b < w3.heap.size) := Lib.hid fun b o n c e => by obtain ⟨e1, -, -⟩ := Value.slice.inj e; exact digs_block hpv H32P.out e1 (by rw [HP2.out]; decide)
  clear hb4 hB3 hcv hpv
  obtain ⟨n9, en9⟩ : ∃ n9, w3.heap.size = n9 := ⟨_, rfl⟩
  obtain ⟨n7, en7⟩ : ∃ n7, w1.heap.size = n7 := ⟨_, rfl⟩
  rw [en9] at hs4 hf0 hf1 hf2 HCB HPBK ⊢
  rw [en7] at hr4 ⊢
  clear hl3
  rw [← HR9.out]
  clear HR9
  have hkl4 := hK4.lt
  have hl7 := hr4.lt
  have hl9 := hs4.lt
  obtain ⟨B, eB⟩ : ∃ B, w4.heap.size = B := ⟨_, rfl⟩
  refine wp_gen fun a0 ha0 => ?_
  have i2 : a0.eval (.tmp 2) = .slice am msg.length km := by rw [ha0]; rfl
  have i9 : a0.eval (.tmp 9) = .pointer (some ⟨n9, 0, none⟩) := by rw [ha0]; rfl
  have hsz : a0.tmps.size = 106 := by rw [ha0]; rfl
  refine wp_region_inv_late (B := B) 9 [some 70, some 71, some 72, some 73, some 74, some 69, some 75, some 76, some 11, none, some 12] [Asrt.eq (.slice am msg.length km), Asrt.eq (.agg (cellsB (mo))), Asrt.eq (.pointer (some ⟨n9, 1, none⟩)), Asrt.eq (.slice ac 18 kc), Asrt.eq (.tuple #[.agg (cellsB pb), .int .i64 0]), Asrt.eq (.tuple #[.agg (cellsB pb), .int .i64 0]), Asrt.eq (.agg (cellsB (pb))), Asrt.eq (.int .i64 0), Asrt.box] [(7, .int .i64 0)] rfl (by as_aux_lemma => kernel_rfl) (by rw [hsz]; as_aux_lemma => kernel_rfl) (by as_aux_lemma => kernel_rfl) (by as_aux_lemma => kernel_rfl) (by decide) ⟨rfl, trivial⟩ (by omega) ⟨?_, ?_, ?_, ?_, ?_, ?_, ?_, ?_, ?_, trivial⟩ ?_
  · as_aux_lemma =>
      intro ev w1 hg hin hc hgl hfn hd
      have hB := hg.top
      have g2 : ev (.tmp 2) = .slice am msg.length km := (hin 2 (by kernel_rfl)).trans i2
      clear hin hd
      refine step_on (guard_none rfl) fun K hK => ?_
      unfold YieldsG
      go_simp
      exact hK _ _ rfl (Grow.refl hB)
  · as_aux_lemma =>
      intro ev w1 hg hin hc hgl hfn hd
      have hB := hg.top
      have f70 : (ev (.tmp 70)) = .slice am msg.length km := hd.1 rfl _ rfl
      clear hin hd
      refine step_on (guard_none rfl) fun K hK => ?_
      unfold YieldsG
      go_simp
      refine (tagged_any _ _ msg _ w1 (by decide) ((hm4.later (by rw [eB]; exact hg.bl)).imp fun _ _ => trivial) (hK4.below hg.bl (by omega)) (by have := HML.out; omega)).mono ?_
      rintro e w2 ⟨rfl, hb⟩
      exact ⟨_, rfl, hK _ _ (by show _ = _; rw [HMX.out]) (Grow.of hB hb)⟩
  · as_aux_lemma =>
      intro ev w1 hg hin hc hgl hfn hd
      have hB := hg.top
      have g9 : ev (.tmp 9) = .pointer (some ⟨n9, 0, none⟩) := (hin 9 (by kernel_rfl)).trans i9
      clear hin hd
      refine step_on (guard_none rfl) fun K hK => ?_
      unfold YieldsG
      go_simp
      exact hK _ _ rfl (Grow.refl hB)
  · as_aux_lemma =>
      intro ev w1 hg hin hc hgl hfn hd
      have hB := hg.top
      have f72 : (ev (.tmp 72)) = .pointer (some ⟨n9, 1, none⟩) := hd.1 rfl _ rfl
      clear hin hd
      refine step_on (guard_none rfl) fun K hK => ?_
      have hc1 := hg.cell hf1
      unfold YieldsG
      go_simp
      exact hK _ _ rfl (Grow.refl hB)
  · as_aux_lemma =>
      intro ev w1 hg hin hc hgl hfn hd
      have hB := hg.top
      have f71 : (ev (.tmp 71)) = .agg (cellsB (mo)) := hd.1 rfl _ rfl
      have f73 : (ev (.tmp 73)) = .slice ac 18 kc := hd.2.1 rfl _ rfl
      clear hin hd
      refine step_on (guard_none rfl) fun K hK => ?_
      unfold YieldsG
      go_simp
      refine (recover_any mo cs _ w1 HMO.out (hcv4.later (by rw [eB]; exact hg.bl)) H32C.out (hK4.below hg.bl (by omega))).mono ?_
      rintro e w2 ⟨rfl, hb⟩
      exact ⟨_, rfl, hK _ _ (by show _ = _; rw [HXE.out, HES.out]; rfl) (Grow.of hB hb)⟩
  · as_aux_lemma =>
      intro ev w1 hg hin hc hgl hfn hd
      have hB := hg.top
      have f74 : (ev (.tmp 74)) = .tuple #[.agg (cellsB pb), .int .i64 0] := hd.1 rfl _ rfl
      clear hin hd
      refine step_on (guard_none rfl) fun K hK => ?_
      unfold YieldsG
      go_simp
      exact hK _ _ rfl (Grow.refl hB)
  · as_aux_lemma =>
      intro ev w1 hg hin hc hgl hfn hd
      have hB := hg.top
      have f69 : (ev (.tmp 69)) = .tuple #[.agg (cellsB pb), .int .i64 0] := hd.1 rfl _ rfl
      clear hin hd
      refine step_on (guard_none rfl) fun K hK => ?_
      unfold YieldsG
      go_simp
      exact hK _ _ rfl (Grow.refl hB)
  · as_aux_lemma =>
      intro ev w1 hg hin hc hgl hfn hd
      have hB := hg.top
      have f69 : (ev (.tmp 69)) = .tuple #[.agg (cellsB pb), .int .i64 0] := hd.1 rfl _ rfl
      clear hin hd
      refine step_on (guard_none rfl) fun K hK => ?_
      unfold YieldsG
      go_simp
      exact hK _ _ rfl (Grow.refl hB)
  · as_aux_lemma =>
      intro ev w1 hg hin hc hgl hfn hd
      have hB := hg.top
      clear hin hd
      refine step_on (guard_none rfl) fun K hK => ?_
      unfold YieldsG
      go_simp
      exact hK _ _ ⟨_, rfl, hB, Row.new _ _ _⟩ (Grow.of hB ((Below.refl _ _).alloc (Nat.le_refl _) _))
  intro v w5 hg hall
  have hf0 : (v 0) = .slice am msg.length km := hall.1 (by simp)
  have hf1 : (v 1) = .agg (cellsB (mo)) := hall.2.1 (by simp)
  have hf2 : (v 2) = .pointer (some ⟨n9, 1, none⟩) := hall.2.2.1 (by simp)
  have hf3 : (v 3) = .slice ac 18 kc := hall.2.2.2.1 (by simp)
  have hf4 : (v 4) = .tuple #[.agg (cellsB pb), .int .i64 0] := hall.2.2.2.2.1 (by simp)
  have hf5 : (v 5) = .tuple #[.agg (cellsB pb), .int .i64 0] := hall.2.2.2.2.2.1 (by simp)
  have hf6 : (v 6) = .agg (cellsB (pb)) := hall.2.2.2.2.2.2.1 (by simp)
  have hf7 : (v 7) = .int .i64 0 := hall.2.2.2.2.2.2.2.1 (by simp)
  have hf8 : ∃ g, (v 8) = .pointer (some ⟨g, 0, none⟩) ∧ B ≤ g ∧ Row w5 g 25 (cellsB (List.replicate 32 0)) := hall.2.2.2.2.2.2.2.2.1 (by simp)
  clear hall i2 i9 hsz
  rw [ha0]
  clear ha0
  simp only [List.take_succ_cons, List.take_zero, List.drop_succ_cons, List.drop_zero, putAll, Act.put, List.setIfInBounds_toArray, List.set_cons_zero, List.set_cons_succ, Nat.zero_add, Nat.reduceAdd]
  rw [hf0, hf1, hf2, hf3, hf4, hf5, hf6, hf7]
  generalize v 8 = x8 at *
  clear hf0 hf1 hf2 hf3 hf4 hf5 hf6 hf7
  obtain ⟨g11, hg11, hgB, hgr⟩ := hf8
  subst hg11
  have hB5 := hB4.trans (hg.below.mono hB4.size)
  have hr5 := hr4.below hg.below hl7
  have hs5 := hs4.below hg.below hl9
  have hcv5 := hcv4.later hg.below
  have hpv5 := hpv4.later hg.below
  have hzz := hB4.size
  have hlb := hgr.lt
  clear hg hr4 hs4 hf0 hf1 hf2 hcv4 hpv4 hm4 hK4
  refine ⟨fun _ => True, ⟨fun o ho w _ => by cases ho; rfl, trivial⟩, ?_⟩
  refine wpListI_cons trivial ?_
  refine wpList_store_row rfl 25 (.tmp 11) (.tmp 75) rfl g11 rfl (cellsB pb) _ 25 rfl hgr HCP.out HSP.out (cellsB_one _) ?_
  intro w6 hg6 hx6 hz6
  have hr6 := hr5.grown hg6 (fun e => by have := Option.some.inj e; omega)
  have hs6 := hs5.grown hg6 (fun e => by have := Option.some.inj e; omega)
  have hB6 := hB5.grown hg6 hB5.size (fun k hk => by cases hk; omega)
  have hcv6 := digs_below hcv5 HCB.out hg6 (by omega)
  have hpv6 := digs_below hpv5 HPBK.out hg6 (by omega)
  have hv6 := (hv.later hB6).imp (ok' := fun _ => True) fun _ _ => trivial
  clear hg6 hr5 hs5 hB5 hcv5 hpv5 hgr hgB eB hz6
  refine lateQ_intro (wpListI_cons trivial ?_)
  go_wp2
  refine ⟨rfl, wpListI_nil trivial ?_⟩
  go_wp2_with fail
  refine (public_any seed _ idx w6 hv6 (hK.below hB6 hkl)).mono ?_
  rintro e w7 ⟨rfl, hb7⟩
  rw [HPB.out, HER.out]
  have hB7 := hB6.trans (hb7.mono hB6.size)
  have hr7 := hr6.below hb7 hr6.lt
  have hs7 := hs6.below hb7 hs6.lt
  have hx7 := hx6.below hb7 hx6.lt
  have hcv7 := hcv6.later hb7
  have hpv7 := hpv6.later hb7
  have q1 := hr7.lt
  have q2 := hs7.lt
  have q3 := hx7.lt
  clear hb7 hB6 hr6 hs6 hx6 hcv6 hpv6 hv6
  go_wp2_with (first | (refine wpList_store_row rfl 25 (.tmp 13) (.tmp 81) rfl w7.heap.size rfl (cellsB pb) (cellsB (List.replicate 32 0)) 25 rfl (Row.new w7 _ _) HCP.out HSP.out (cellsB_one _) ?_; intro w8 hg8 hy8 hz8; clear hz8; have hb8 := box_below hg8; clear hg8; have hr8 := hr7.below hb8 q1; have hs8 := hs7.below hb8 q2; have hx8 := hx7.below hb8 q3; have hB8 := hB7.trans (hb8.mono hB7.size); have hcv8 := hcv7.later hb8; have hpv8 := hpv7.later hb8; have hf0 : w8.cell? ⟨n9, 0, none⟩ = some (.int .i64 idx) := hs8.cell 0; have hqe8 := hqe w8; clear hb8 hB7 hr7 hs7 hx7 hcv7 hpv7) | (refine wpList_load_on 25 (.tmp 11) rfl rfl g11 rfl 25 (cellsB pb) (0, 0) _ hx8 Tryd.underD rfl HSP.out ?_) | (refine wpList_load_on 25 (.tmp 13) rfl rfl w7.heap.size rfl 25 (cellsB pb) (0, 0) _ hy8 Tryd.underD rfl HSP.out ?_) | (refine wpList_load_on 25 (.tmp 7) rfl rfl n7 rfl 25 (cellsB rt) (0, 0) _ hr8 Tryd.underD rfl HSR.out ?_) | (refine wpList_load_on 31 (.tmp 9) rfl rfl n9 rfl 31 (sigC idx (.slice ac 18 kc) (.slice ap 2 kp)) (0, 0) _ hs8 HU.out rfl (sigC_size _ _ _) ?_))
  refine (kverify_any rt msg _ idx _ _ cs ps w8 HRL.out ((hm.later hB8).imp fun _ _ => trivial) HML.out hcv8 H32C.out hpv8 H32P.out (hK.below hB8 hkl)).mono ?_
  rintro e w9 ⟨rfl, hb9⟩
  rw [HVT.out]
  have hB9 := hB8.trans (hb9.mono hB8.size)
  clear hb9 hB8
  go_wp2
  go_ret
  exact ⟨rfl, hB9⟩
theorem signatureVerifies_any (v : Value) (seed : List UInt8) (idx : Int) (mv : Value) (msg : List UInt8) (w : World) (hv : Bytes w v seed (fun _ => True)) (_hl : seed.length ≤ maxLen) (_h0 : -9223372036854775808 ≤ idx) (_h1 : idx ≤ 9223372036854775807) (hm : Bytes w mv msg (fun _ => True)) (_hml : msg.length ≤ maxLen) (hK : KFact w) :
    Calls Tryd.prog 4 #[v, .int .i64 idx, mv] w fun e w' => e = .returned (.bool true) ∧ Below w.heap.size w w' := by
  by_cases h1 : 100 < seed.length
  · exact sg_big v mv seed msg idx w hv hm hK h1
  by_cases h3 : 300 < msg.length
  · exact sg_m v mv seed msg idx w hv hm hK h1 h3
  cases hok : okSign seed idx with
  | true => exact sg_ok v mv seed msg idx w hv hm hK h1 h3 hok
  | false =>
    cases hl : okLen seed with
    | false =>
      by_cases hs : seed.length < 1
      · exact sg_low v mv seed msg idx w hv hm hK h1 h3 hok hl hs
      · by_cases hs2 : 64 < seed.length
        · exact sg_high v mv seed msg idx w hv hm hK h1 h3 hok hl hs2
        · have : okLen seed = true := (okSeed_iff _ _).2 ⟨by omega, by omega, by omega, by omega⟩
          rw [this] at hl; cases hl
    | true =>
      obtain ⟨hl1, hl2, -⟩ := (okSeed_iff _ _).1 hl
      by_cases hn : idx < 0
      · exact sg_neg v mv seed msg idx w hv hm hK h1 h3 hok hl hl1 hl2 hn
      · by_cases h4 : 3 < idx
        · exact sg_four v mv seed msg idx w hv hm hK h1 h3 hok hl hl1 hl2 hn h4
        · rw [(okSign_iff _ _).2 ⟨by omega, by omega, hl⟩] at hok; cases hok
end Go.Proofs.YteogcilnpkaplaaDoor

/- crossbarlaw05.KeytreeSignSpec returns true. Conditions: the digests have 32 bytes, the tables lie in their variables. -/
import Derived.Test.YteogcilnpkaplaaDoorM10
import Derived.Test.YteogcilnpkaplaaDoorM16
namespace Go.Proofs.YteogcilnpkaplaaDoor
open Go.RowKit
theorem chainsG_32 (seed msg : List UInt8) (idx : Int) : all32 (chainsG seed msg idx) ∧ (chainsG seed msg idx).length ≤ 1000000 := by
  unfold chainsG
  split
  · unfold signR walkR
    split
    · exact ⟨walkOf_32 _ _ _, by rw [walkOf_len]; decide⟩
    · exact ⟨fun _ h => absurd h List.not_mem_nil, by decide⟩
  · exact ⟨fun _ h => absurd h List.not_mem_nil, by decide⟩
theorem pathG_32 (seed : List UInt8) (idx : Int) : all32 (pathG seed idx) ∧ (pathG seed idx).length ≤ 1000000 := by
  unfold pathG
  split
  · refine ⟨pathR_32 _ _ (leavesOf_32 seed), ?_⟩
    unfold pathR
    split
    · rw [pathOf_len, leavesOf_len]; decide
    · decide
  · exact ⟨fun _ h => absurd h List.not_mem_nil, by decide⟩
theorem errG_01 (seed : List UInt8) (idx : Int) : errG seed idx = 0 ∨ errG seed idx = 1 := by unfold errG; split <;> simp
set_option maxRecDepth 100000 in
set_option maxHeartbeats 4000000 in
theorem ss_big (v mv : Value) (seed msg : List UInt8) (idx : Int) (w : World) (hv : Bytes w v seed (fun _ => True)) (hm : Bytes w mv msg (fun _ => True)) (hRK : RKFact w) (hRI : RIFact w) (hK : KFact w) (h : 100 < seed.length) :
    Calls Tryd.prog 3 #[v, .int .i64 idx, mv] w fun e w' => e = .returned (.bool true) ∧ Below w.heap.size w w' := by
  have hkl := hK.lt
  have hrkl := hRK.lt
  have hril := hRI.lt
  obtain ⟨av, kv, rfl⟩ : ∃ a c, v = .slice a seed.length c := by obtain ⟨a, c, h, _⟩ := hv; exact ⟨a, c, h⟩
  obtain ⟨am, km, rfl⟩ : ∃ a c, mv = .slice a msg.length c := by obtain ⟨a, c, h, _⟩ := hm; exact ⟨a, c, h⟩
  have d1 : decide ((100 : Int) < (seed.length : Int)) = true := decide_eq_true (by omega)
  clear h
  go_enter Tryd.func3, Tryd.ntmps3
  go_wp2_with fail
  refine (sane_any _ hK).mono ?_
  rintro e w0 ⟨rfl, hB0⟩
  go_wp2
  go_ret
  exact ⟨rfl, hB0⟩
set_option maxRecDepth 100000 in
set_option maxHeartbeats 4000000 in
theorem ss_m (v mv : Value) (seed msg : List UInt8) (idx : Int) (w : World) (hv : Bytes w v seed (fun _ => True)) (hm : Bytes w mv msg (fun _ => True)) (hRK : RKFact w) (hRI : RIFact w) (hK : KFact w) (h1 : ¬ 100 < seed.length) (h : 300 < msg.length) :
    Calls Tryd.prog 3 #[v, .int .i64 idx, mv] w fun e w' => e = .returned (.bool true) ∧ Below w.heap.size w w' := by
  have hkl := hK.lt
  have hrkl := hRK.lt
  have hril := hRI.lt
  obtain ⟨av, kv, rfl⟩ : ∃ a c, v = .slice a seed.length c := by obtain ⟨a, c, h, _⟩ := hv; exact ⟨a, c, h⟩
  obtain ⟨am, km, rfl⟩ : ∃ a c, mv = .slice a msg.length c := by obtain ⟨a, c, h, _⟩ := hm; exact ⟨a, c, h⟩
  have d1 : decide ((100 : Int) < (seed.length : Int)) = false := decide_eq_false (by omega)
  have d2 : decide ((300 : Int) < (msg.length : Int)) = true := decide_eq_true (by omega)
  clear h h1
  go_enter Tryd.func3, Tryd.ntmps3
  go_wp2_with fail
  refine (sane_any _ hK).mono ?_
  rintro e w0 ⟨rfl, hB0⟩
  go_wp2
  go_ret
  exact ⟨rfl, hB0⟩
set_option maxRecDepth 100000 in
set_option maxHeartbeats 4000000 in
theorem ss_ok (v mv : Value) (seed msg : List UInt8) (idx : Int) (w : World) (hv : Bytes w v seed (fun _ => True)) (hm : Bytes w mv msg (fun _ => True)) (hRK : RKFact w) (hRI : RIFact w) (hK : KFact w) (hs : ¬ 100 < seed.length) (hm3 : ¬ 300 < msg.length) :
    Calls Tryd.prog 3 #[v, .int .i64 idx, mv] w fun e w' => e = .returned (.bool true) ∧ Below w.heap.size w w' := by
  have hkl := hK.lt
  have hrkl := hRK.lt
  have hril := hRI.lt
  obtain ⟨av, kv, rfl⟩ : ∃ a c, v = .slice a seed.length c := by obtain ⟨a, c, h, _⟩ := hv; exact ⟨a, c, h⟩
  obtain ⟨am, km, rfl⟩ : ∃ a c, mv = .slice a msg.length c := by obtain ⟨a, c, h, _⟩ := hm; exact ⟨a, c, h⟩
  have d1 : decide ((100 : Int) < (seed.length : Int)) = false := decide_eq_false (by omega)
  have d2 : decide ((300 : Int) < (msg.length : Int)) = false := decide_eq_false (by omega)
  have HML : Hid (msg.length ≤ 1000000) := Lib.hid (by omega)
  obtain ⟨rt, hrt⟩ : ∃ rt, rootK seed = rt := ⟨_, rfl⟩
  have hrl : rt.length = 32 := by rw [← hrt]; exact rootK_len seed
  have HRT := Lib.hid hrt
  have HRL := Lib.hid hrl
  have HSR := Lib.hid (Tryd.sizeD_of rt hrl)
  have HCR : Hid ((cellsB rt).size = (cellsB (List.replicate 32 0)).size) := Lib.hid (by rw [cellsB_size, hrl]; rfl)
  obtain ⟨ix, hix⟩ : ∃ ix, idxG seed idx = ix := ⟨_, rfl⟩
  obtain ⟨el, hel⟩ : ∃ el, errL seed = el := ⟨_, rfl⟩
  obtain ⟨eg, heg⟩ : ∃ eg, errG seed idx = eg := ⟨_, rfl⟩
  obtain ⟨cs, hcs⟩ : ∃ cs, chainsG seed msg idx = cs := ⟨_, rfl⟩
  obtain ⟨ps, hps⟩ : ∃ ps, pathG seed idx = ps := ⟨_, rfl⟩
  have hc32 := chainsG_32 seed msg idx
  have hp32 := pathG_32 seed idx
  rw [hcs] at hc32
  rw [hps] at hp32
  have HC32 := Lib.hid hc32
  have HP32 := Lib.hid hp32
  have HIX := Lib.hid hix
  have HEL := Lib.hid hel
  have HEG := Lib.hid heg
  have HCS := Lib.hid hcs
  have HPS := Lib.hid hps
  have hqe := fun w => eqlB rt rt HRL.out HRL.out w
  simp only [decide_true] at hqe
  obtain ⟨fs, hu⟩ := Tryd.underG
  have HU := Lib.hid hu
  clear hs hm3 hrt hrl hix hel heg hcs hps hc32 hp32 hu
  go_enter Tryd.func3, Tryd.ntmps3
  go_wp2_with fail
  refine (sane_any _ hK).mono ?_
  rintro e w0 ⟨rfl, hB0⟩
  go_wp2_with fail
  refine (kroot_any seed _ w0 ((hv.later hB0).imp fun _ _ => trivial) (hK.below hB0 hkl)).mono ?_
  rintro e w1 ⟨rfl, hb1⟩
  rw [HRT.out, HEL.out]
  have hB1 := hB0.trans (hb1.mono hB0.size)
  clear hb1 hB0
  go_wp2_with (first | (refine wpList_store_row rfl 25 (.tmp 7) (.tmp 28) rfl w1.heap.size rfl (cellsB rt) (cellsB (List.replicate 32 0)) 25 rfl (Row.new w1 _ _) HCR.out HSR.out (cellsB_one _) ?_; intro w2 hg2 hr2 hz2; clear hz2; have hb2 := box_below hg2; clear hg2; have hB2 := hB1.trans (hb2.mono hB1.size); clear hb2 hB1))
  refine (rroot_any seed _ w2 ((hv.later hB2).imp fun _ _ => trivial) (hRK.below hB2 hrkl) (hRI.below hB2 hril)).mono ?_
  rintro e w3 ⟨rfl, hb3⟩
  rw [HRT.out, HEL.out]
  have hB3 := hB2.trans (hb3.mono hB2.size)
  have hr3 := hr2.below hb3 hr2.lt
  have q3 := hr3.lt
  clear hb3 hB2 hr2
  go_wp2_with (first | (refine wpList_store_row rfl 25 (.tmp 9) (.tmp 33) rfl w3.heap.size rfl (cellsB rt) (cellsB (List.replicate 32 0)) 25 rfl (Row.new w3 _ _) HCR.out HSR.out (cellsB_one _) ?_; intro w4 hg4 hs4 hz4; clear hz4; have hb4 := box_below hg4; clear hg4; have hr4 := hr3.below hb4 q3; have hB4 := hB3.trans (hb4.mono hB3.size); clear hb4 hB3 hr3))
  refine (ksign_any seed msg _ _ idx w4 ((hv.later hB4).imp fun _ _ => trivial) ((hm.later hB4).imp fun _ _ => trivial) HML.out (hK.below hB4 hkl)).mono ?_
  rintro e w5 ⟨cv, pv, rfl, hcv, hpv, hb5⟩
  rw [HIX.out, HEG.out]
  rw [HCS.out] at hcv
  rw [HPS.out] at hpv
  obtain ⟨ac, kc, rfl⟩ := hcv.form
  obtain ⟨ap, kp, rfl⟩ := hpv.form
  have hB5 := hB4.trans (hb5.mono hB4.size)
  have hr5 := hr4.below hb5 hr4.lt
  have hs5 := hs4.below hb5 hs4.lt
  have q5 := hr5.lt
  have p5 := hs5.lt
  clear hb5 hB4 hr4 hs4
  go_wp2_with (first | (refine wpList_store_row rfl 31 (.tmp 11) (.tmp 40) rfl w5.heap.size rfl (sigC ix (.slice ac cs.length kc) (.slice ap ps.length kp)) (sigC 0 (.slice none 0 0) (.slice none 0 0)) 31 rfl (Row.new w5 _ _) rfl (sigC_size _ _ _) (sigC_one _ _ _ _ _ _ _) ?_; intro w6 hg6 hx6 hz6; clear hz6; have hb6 : Below w5.heap.size w5 w6 := ((Below.refl _ _).alloc (Nat.le_refl _) _).grown hg6 (by simp) (fun k hk => by cases hk; exact Nat.le_refl _); clear hg6; have hr6 := hr5.below hb6 q5; have hs6 := hs5.below hb6 p5; have hcv6 := hcv.later hb6; have hpv6 := hpv.later hb6; have hB6 := hB5.trans (hb6.mono hB5.size); clear hb6 hB5 hr5 hs5 hcv hpv))
  refine (rksign_any seed msg _ _ idx w6 ((hv.later hB6).imp fun _ _ => trivial) ((hm.later hB6).imp fun _ _ => trivial) HML.out (hRK.below hB6 hrkl) (hRI.below hB6 hril)).mono ?_
  rintro e w7 ⟨cv, pv, rfl, hcv, hpv, hb7⟩
  rw [HIX.out, HEG.out]
  rw [HCS.out] at hcv
  rw [HPS.out] at hpv
  obtain ⟨ad, kd, rfl⟩ := hcv.form
  obtain ⟨aq, kq, rfl⟩ := hpv.form
  have hB7 := hB6.trans (hb7.mono hB6.size)
  have hr7 := hr6.below hb7 hr6.lt
  have hs7 := hs6.below hb7 hs6.lt
  have hx7 := hx6.below hb7 hx6.lt
  have hcv7 := hcv6.later hb7
  have hpv7 := hpv6.later hb7
  have q7 := hr7.lt
  have p7 := hs7.lt
  have r7 := hx7.lt
  clear hb7 hB6 hr6 hs6 hx6 hcv6 hpv6
  go_wp2_with (first | (refine wpList_store_row rfl 31 (.tmp 13) (.tmp 47) rfl w7.heap.size rfl (sigC ix (.slice ad cs.length kd) (.slice aq ps.length kq)) (sigC 0 (.slice none 0 0) (.slice none 0 0)) 31 rfl (Row.new w7 _ _) rfl (sigC_size _ _ _) (sigC_one _ _ _ _ _ _ _) ?_; intro w8 hg8 hy8 hz8; clear hz8; have hb8 : Below w7.heap.size w7 w8 := ((Below.refl _ _).alloc (Nat.le_refl _) _).grown hg8 (by simp) (fun k hk => by cases hk; exact Nat.le_refl _); clear hg8; have hr8 := hr7.below hb8 q7; have hs8 := hs7.below hb8 p7; have hx8 := hx7.below hb8 r7; have hcv8 := hcv7.later hb8; have hpv8 := hpv7.later hb8; have hcw8 := hcv.later hb8; have hpw8 := hpv.later hb8; have hB8 := hB7.trans (hb8.mono hB7.size); have hqe8 := hqe w8; clear hb8 hB7 hr7 hs7 hx7 hcv7 hpv7 hcv hpv) | (refine wpList_load_on 25 (.tmp 7) rfl rfl w1.heap.size rfl 25 (cellsB rt) (0, 0) _ hr8 Tryd.underD rfl HSR.out ?_) | (refine wpList_load_on 25 (.tmp 9) rfl rfl w3.heap.size rfl 25 (cellsB rt) (0, 0) _ hs8 Tryd.underD rfl HSR.out ?_) | (refine wpList_load_on 31 (.tmp 11) rfl rfl w5.heap.size rfl 31 (sigC ix (.slice ac cs.length kc) (.slice ap ps.length kp)) (0, 0) _ hx8 HU.out rfl (sigC_size _ _ _) ?_) | (refine wpList_load_on 31 (.tmp 13) rfl rfl w7.heap.size rfl 31 (sigC ix (.slice ad cs.length kd) (.slice aq ps.length kq)) (0, 0) _ hy8 HU.out rfl (sigC_size _ _ _) ?_))
  refine (rsame_eq ix _ _ _ _ cs ps w8 hcv8 hpv8 hcw8 hpw8 HC32.out.1 HP32.out.1 HC32.out.2 HP32.out.2).mono ?_
  rintro e w9 ⟨rfl, hb9⟩
  have hB9 := hB8.trans (hb9.mono hB8.size)
  clear hb9 hB8 hr8 hs8 hx8 hy8 hcv8 hpv8 hcw8 hpw8
  go_wp2
  go_ret
  exact ⟨rfl, hB9⟩
theorem signSpec_any (v : Value) (seed : List UInt8) (idx : Int) (mv : Value) (msg : List UInt8) (w : World) (hv : Bytes w v seed (fun _ => True)) (_hl : seed.length ≤ maxLen) (_h0 : -9223372036854775808 ≤ idx) (_h1 : idx ≤ 9223372036854775807) (hm : Bytes w mv msg (fun _ => True)) (_hml : msg.length ≤ maxLen) (hRK : RKFact w) (hRI : RIFact w) (hK : KFact w) :
    Calls Tryd.prog 3 #[v, .int .i64 idx, mv] w fun e w' => e = .returned (.bool true) ∧ Below w.heap.size w w' := by
  by_cases h1 : 100 < seed.length
  · exact ss_big v mv seed msg idx w hv hm hRK hRI hK h1
  by_cases h3 : 300 < msg.length
  · exact ss_m v mv seed msg idx w hv hm hRK hRI hK h1 h3
  exact ss_ok v mv seed msg idx w hv hm hRK hRI hK h1 h3
end Go.Proofs.YteogcilnpkaplaaDoor

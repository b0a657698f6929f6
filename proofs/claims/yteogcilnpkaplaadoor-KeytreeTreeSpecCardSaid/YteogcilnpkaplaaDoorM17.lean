/- Merged: the reference's Climb and Verify return what the plain functions say. No conditions of its own beyond those that each law states. -/
import Derived.Test.YteogcilnpkaplaaDoorM16
import Derived.Test.YteogcilnpkaplaaDoorM4
namespace Go.Proofs.YteogcilnpkaplaaDoor
open Go.RowKit
theorem wrap_pow {n : Nat} (h : n ≤ 6) : wrap64 ((2 : Int) ^ n) = ((2 ^ n : Nat) : Int) := by
  have h4 : ((2 ^ n : Nat) : Int) = 2 ^ n := by simp
  have h5 : 2 ^ n ≤ 2 ^ 6 := Nat.pow_le_pow_right (by decide) h
  rw [← h4]
  obtain ⟨N, hN⟩ : ∃ N, 2 ^ n = N := ⟨_, rfl⟩
  rw [hN] at h5 ⊢
  exact IntWalk.wrap64_in _ (by omega)
theorem climb_take (x : Dg) (i : Nat) (p : List Dg) (j : Nat) (h : j < p.length) : climb x i (p.take (j + 1)) = climbStep (climb x i (p.take j)) (i / 2 ^ j) (p.getD j []) := by
  have e : p.take (j + 1) = p.take j ++ [p.getD j []] := by
    rw [List.take_add_one, List.getD_eq_getElem?_getD, List.getElem?_eq_getElem h]; rfl
  rw [e, climb_snoc, List.length_take, Nat.min_eq_left (by omega)]
set_option maxRecDepth 100000 in
set_option maxHeartbeats 4000000 in
theorem rclimb_long (x : Dg) (idx : Int) (p : List Dg) (v : Value) (w : World) (hx : x.length = 32) (hp : Digs w v p) (h : 6 < p.length) :
    Calls Tryd.prog 27 #[.agg (cellsB x), .int .i64 idx, v] w fun e w' => e = .returned (.tuple #[.agg (cellsB (climbR x idx p)), .int .i64 (errC idx p.length : Nat)]) ∧ Below w.heap.size w w' := by
  have HX := Lib.hid hx
  have HSX := Lib.hid (Tryd.sizeD_of x hx)
  have HS0 := Lib.hid (Tryd.sizeD_of (List.replicate 32 0) List.length_replicate)
  obtain ⟨av, kv, rfl⟩ := hp.form
  have hb0 : Below w.heap.size w ((w.alloc (.cells (cellsB x) 25)).alloc (.cells (cellsB (List.replicate 32 0)) 25)) := ((Below.refl _ _).alloc (Nat.le_refl _) _).alloc (by simp) _
  have hx0 : Row ((w.alloc (.cells (cellsB x) 25)).alloc (.cells (cellsB (List.replicate 32 0)) 25)) w.heap.size 25 (cellsB x) := (Row.new w _ _).alloc _
  have hz0 : Row ((w.alloc (.cells (cellsB x) 25)).alloc (.cells (cellsB (List.replicate 32 0)) 25)) (w.heap.size + 1) 25 (cellsB (List.replicate 32 0)) := by
    have h := Row.new (w.alloc (.cells (cellsB x) 25)) (cellsB (List.replicate 32 0)) 25
    rwa [show (w.alloc (.cells (cellsB x) 25)).heap.size = w.heap.size + 1 by simp] at h
  have hno : okClimb idx p.length = false := by
    cases hok : okClimb idx p.length with
    | false => rfl
    | true => obtain ⟨h1, h2, h3⟩ := (okClimb_iff _ _).1 hok; omega
  have HE : Hid (errC idx p.length = 1) := Lib.hid (by unfold errC; rw [hno]; rfl)
  have HR : Hid (climbR x idx p = List.replicate 32 0) := Lib.hid (by unfold climbR; rw [hno]; rfl)
  rw [HE.out, HR.out]
  have d1 : decide ((6 : Int) < (p.length : Int)) = true := decide_eq_true (by omega)
  clear hno h hp hx
  go_enter Tryd.func27, Tryd.ntmps27
  go_wp2_with (first | (refine wpList_build_nil rfl rfl ?_) | (refine wpList_store_row rfl 25 (.tmp 6) (.tmp 25) rfl (w.heap.size + 1) rfl (cellsB (List.replicate 32 0)) (cellsB (List.replicate 32 0)) 25 rfl hz0 rfl HS0.out (cellsB_one _) ?_; intro w2 hg2 hr2 hz2))
  refine bodyPost_ret (results_cell_row_tmp rfl _ _ (w.heap.size + 1) 25 (cellsB (List.replicate 32 0)) (0, 0) _ rfl hr2 Tryd.underD rfl HS0.out) rfl ⟨rfl, ?_⟩
  exact hb0.grown hg2 hb0.size (fun k hk => by cases hk; omega)
set_option maxRecDepth 100000 in
set_option maxHeartbeats 4000000 in
theorem rclimb_neg (x : Dg) (idx : Int) (p : List Dg) (v : Value) (w : World) (hx : x.length = 32) (hp : Digs w v p) (h6 : p.length ≤ 6) (h : idx < 0) :
    Calls Tryd.prog 27 #[.agg (cellsB x), .int .i64 idx, v] w fun e w' => e = .returned (.tuple #[.agg (cellsB (climbR x idx p)), .int .i64 (errC idx p.length : Nat)]) ∧ Below w.heap.size w w' := by
  have HX := Lib.hid hx
  have HSX := Lib.hid (Tryd.sizeD_of x hx)
  have HS0 := Lib.hid (Tryd.sizeD_of (List.replicate 32 0) List.length_replicate)
  obtain ⟨av, kv, rfl⟩ := hp.form
  have hb0 : Below w.heap.size w ((w.alloc (.cells (cellsB x) 25)).alloc (.cells (cellsB (List.replicate 32 0)) 25)) := ((Below.refl _ _).alloc (Nat.le_refl _) _).alloc (by simp) _
  have hx0 : Row ((w.alloc (.cells (cellsB x) 25)).alloc (.cells (cellsB (List.replicate 32 0)) 25)) w.heap.size 25 (cellsB x) := (Row.new w _ _).alloc _
  have hz0 : Row ((w.alloc (.cells (cellsB x) 25)).alloc (.cells (cellsB (List.replicate 32 0)) 25)) (w.heap.size + 1) 25 (cellsB (List.replicate 32 0)) := by
    have h := Row.new (w.alloc (.cells (cellsB x) 25)) (cellsB (List.replicate 32 0)) 25
    rwa [show (w.alloc (.cells (cellsB x) 25)).heap.size = w.heap.size + 1 by simp] at h
  have hno : okClimb idx p.length = false := by
    cases hok : okClimb idx p.length with
    | false => rfl
    | true => obtain ⟨h1, h2, h3⟩ := (okClimb_iff _ _).1 hok; omega
  have HE : Hid (errC idx p.length = 1) := Lib.hid (by unfold errC; rw [hno]; rfl)
  have HR : Hid (climbR x idx p = List.replicate 32 0) := Lib.hid (by unfold climbR; rw [hno]; rfl)
  rw [HE.out, HR.out]
  have d1 : decide ((6 : Int) < (p.length : Int)) = false := decide_eq_false (by omega)
  have d2 : decide (idx < (0 : Int)) = true := decide_eq_true h
  clear hno h h6 hp hx
  go_enter Tryd.func27, Tryd.ntmps27
  go_wp2_with (first | (refine wpList_build_nil rfl rfl ?_) | (refine wpList_store_row rfl 25 (.tmp 6) (.tmp 25) rfl (w.heap.size + 1) rfl (cellsB (List.replicate 32 0)) (cellsB (List.replicate 32 0)) 25 rfl hz0 rfl HS0.out (cellsB_one _) ?_; intro w2 hg2 hr2 hz2))
  refine bodyPost_ret (results_cell_row_tmp rfl _ _ (w.heap.size + 1) 25 (cellsB (List.replicate 32 0)) (0, 0) _ rfl hr2 Tryd.underD rfl HS0.out) rfl ⟨rfl, ?_⟩
  exact hb0.grown hg2 hb0.size (fun k hk => by cases hk; omega)
set_option maxRecDepth 100000 in
set_option maxHeartbeats 4000000 in
theorem rclimb_high (x : Dg) (idx : Int) (p : List Dg) (v : Value) (w : World) (hx : x.length = 32) (hp : Digs w v p) (h6 : p.length ≤ 6) (h0 : ¬ idx < 0) (h : ((2 ^ p.length : Nat) : Int) ≤ idx) :
    Calls Tryd.prog 27 #[.agg (cellsB x), .int .i64 idx, v] w fun e w' => e = .returned (.tuple #[.agg (cellsB (climbR x idx p)), .int .i64 (errC idx p.length : Nat)]) ∧ Below w.heap.size w w' := by
  have HX := Lib.hid hx
  have HSX := Lib.hid (Tryd.sizeD_of x hx)
  have HS0 := Lib.hid (Tryd.sizeD_of (List.replicate 32 0) List.length_replicate)
  obtain ⟨av, kv, rfl⟩ := hp.form
  have hb0 : Below w.heap.size w ((w.alloc (.cells (cellsB x) 25)).alloc (.cells (cellsB (List.replicate 32 0)) 25)) := ((Below.refl _ _).alloc (Nat.le_refl _) _).alloc (by simp) _
  have hx0 : Row ((w.alloc (.cells (cellsB x) 25)).alloc (.cells (cellsB (List.replicate 32 0)) 25)) w.heap.size 25 (cellsB x) := (Row.new w _ _).alloc _
  have hz0 : Row ((w.alloc (.cells (cellsB x) 25)).alloc (.cells (cellsB (List.replicate 32 0)) 25)) (w.heap.size + 1) 25 (cellsB (List.replicate 32 0)) := by
    have h := Row.new (w.alloc (.cells (cellsB x) 25)) (cellsB (List.replicate 32 0)) 25
    rwa [show (w.alloc (.cells (cellsB x) 25)).heap.size = w.heap.size + 1 by simp] at h
  have hno : okClimb idx p.length = false := by
    cases hok : okClimb idx p.length with
    | false => rfl
    | true => obtain ⟨h1, h2, h3⟩ := (okClimb_iff _ _).1 hok; have h4 : ((2 ^ p.length : Nat) : Int) = 2 ^ p.length := (by simp); omega
  have HE : Hid (errC idx p.length = 1) := Lib.hid (by unfold errC; rw [hno]; rfl)
  have HR : Hid (climbR x idx p = List.replicate 32 0) := Lib.hid (by unfold climbR; rw [hno]; rfl)
  rw [HE.out, HR.out]
  have d1 : decide ((6 : Int) < (p.length : Int)) = false := decide_eq_false (by omega)
  have d2 : decide (idx < (0 : Int)) = false := decide_eq_false h0
  have hw := wrap_pow h6
  have hmn : min p.length 64 = p.length := Nat.min_eq_left (by omega)
  obtain ⟨N, hN⟩ : ∃ N : Nat, 2 ^ p.length = N := ⟨_, rfl⟩
  rw [hN] at hw h
  have d3 : decide ((N : Int) ≤ idx) = true := decide_eq_true h
  clear hno h h0 h6 hp hx hN
  go_enter Tryd.func27, Tryd.ntmps27
  go_wp2_with (first | (refine wpList_build_nil rfl rfl ?_) | (refine wpList_store_row rfl 25 (.tmp 6) (.tmp 25) rfl (w.heap.size + 1) rfl (cellsB (List.replicate 32 0)) (cellsB (List.replicate 32 0)) 25 rfl hz0 rfl HS0.out (cellsB_one _) ?_; intro w2 hg2 hr2 hz2))
  refine bodyPost_ret (results_cell_row_tmp rfl _ _ (w.heap.size + 1) 25 (cellsB (List.replicate 32 0)) (0, 0) _ rfl hr2 Tryd.underD rfl HS0.out) rfl ⟨rfl, ?_⟩
  exact hb0.grown hg2 hb0.size (fun k hk => by cases hk; omega)
set_option maxRecDepth 100000 in
set_option maxHeartbeats 4000000 in
theorem rclimb_ok (x : Dg) (idx : Int) (p : List Dg) (v : Value) (w : World) (hx : x.length = 32) (hp : Digs w v p) (h32 : all32 p) (hK : RKFact w) (hI : RIFact w) (hok : okClimb idx p.length = true) :
    Calls Tryd.prog 27 #[.agg (cellsB x), .int .i64 idx, v] w fun e w' => e = .returned (.tuple #[.agg (cellsB (climbR x idx p)), .int .i64 (errC idx p.length : Nat)]) ∧ Below w.heap.size w w' := by
  have HX := Lib.hid hx
  have HSX := Lib.hid (Tryd.sizeD_of x hx)
  have HS0 := Lib.hid (Tryd.sizeD_of (List.replicate 32 0) List.length_replicate)
  obtain ⟨av, kv, rfl⟩ := hp.form
  have hb0 : Below w.heap.size w ((w.alloc (.cells (cellsB x) 25)).alloc (.cells (cellsB (List.replicate 32 0)) 25)) := ((Below.refl _ _).alloc (Nat.le_refl _) _).alloc (by simp) _
  have hx0 : Row ((w.alloc (.cells (cellsB x) 25)).alloc (.cells (cellsB (List.replicate 32 0)) 25)) w.heap.size 25 (cellsB x) := (Row.new w _ _).alloc _
  have hz0 : Row ((w.alloc (.cells (cellsB x) 25)).alloc (.cells (cellsB (List.replicate 32 0)) 25)) (w.heap.size + 1) 25 (cellsB (List.replicate 32 0)) := by
    have h := Row.new (w.alloc (.cells (cellsB x) 25)) (cellsB (List.replicate 32 0)) 25
    rwa [show (w.alloc (.cells (cellsB x) 25)).heap.size = w.heap.size + 1 by simp] at h
  have hkl := hK.lt
  have hil := hI.lt
  obtain ⟨h6, h0, h1⟩ := (okClimb_iff _ _).1 hok
  obtain ⟨i, rfl⟩ := Int.eq_ofNat_of_zero_le h0
  have he : errC (i : Int) p.length = 0 := by unfold errC; rw [if_pos hok]
  have hr : climbR x (i : Int) p = climb x i p := by unfold climbR; rw [if_pos hok]; rfl
  rw [he, hr]
  have hiN : i < 2 ^ p.length := by
    have h4 : ((2 ^ p.length : Nat) : Int) = 2 ^ p.length := by simp
    omega
  have d1 : decide ((6 : Int) < (p.length : Int)) = false := decide_eq_false (by omega)
  have d2 : decide ((i : Int) < (0 : Int)) = false := decide_eq_false (by omega)
  have d2' : ¬ (i : Int) < 0 := by omega
  have hw := wrap_pow h6
  have hmn : min p.length 64 = p.length := Nat.min_eq_left (by omega)
  have hi64 : i < 64 := Nat.lt_of_lt_of_le hiN (Nat.pow_le_pow_right (by decide) h6 : 2 ^ p.length ≤ 2 ^ 6)
  have HI64 := Lib.hid hi64
  have H6 := Lib.hid h6
  obtain ⟨N, hN⟩ : ∃ N : Nat, 2 ^ p.length = N := ⟨_, rfl⟩
  rw [hN] at hw hiN
  have d3 : decide ((N : Int) ≤ (i : Int)) = false := decide_eq_false (by omega)
  have d4 : decide (N ≤ i) = false := decide_eq_false (by omega)
  have d5 : ¬ N ≤ i := by omega
  have H32 := Lib.hid h32
  have HCL : Hid (∀ j, j < p.length → climb x i (p.take (j + 1)) = climbStep (climb x i (p.take j)) (i / 2 ^ j) (p.getD j [])) := Lib.hid fun j hj => climb_take x i p j hj
  have HLEN : Hid (∀ j, (climb x i (p.take j)).length = 32) := Lib.hid fun j => climb_len _ _ _ hx
  have HCX : Hid ((cellsB x).size = (cellsB (List.replicate 32 0)).size) := Lib.hid (by rw [cellsB_size, hx]; rfl)
  have HROW : Row (((w.alloc (.cells (cellsB x) 25)).alloc (.cells (cellsB (List.replicate 32 0)) 25)).alloc (.cells (cellsB (List.replicate 32 0)) 25)) (w.heap.size + 2) 25 (cellsB (List.replicate 32 0)) := by
    have h := Row.new ((w.alloc (.cells (cellsB x) 25)).alloc (.cells (cellsB (List.replicate 32 0)) 25)) (cellsB (List.replicate 32 0)) 25
    rwa [show ((w.alloc (.cells (cellsB x) 25)).alloc (.cells (cellsB (List.replicate 32 0)) 25)).heap.size = w.heap.size + 2 by simp] at h
  have HZROW : Row (((w.alloc (.cells (cellsB x) 25)).alloc (.cells (cellsB (List.replicate 32 0)) 25)).alloc (.cells (cellsB (List.replicate 32 0)) 25)) (w.heap.size + 1) 25 (cellsB (List.replicate 32 0)) := hz0.alloc _
  have HBROW : Below w.heap.size w (((w.alloc (.cells (cellsB x) 25)).alloc (.cells (cellsB (List.replicate 32 0)) 25)).alloc (.cells (cellsB (List.replicate 32 0)) 25)) := hb0.alloc hb0.size _
  clear hok h0 h1 he hr hN h32 hx hi64 h6
  go_enter Tryd.func27, Tryd.ntmps27
  go_wp2_with (first | (refine wpList_load_row rfl 25 (.tmp 3) rfl w.heap.size rfl 25 (cellsB x) (0, 0) _ hx0 Tryd.underD rfl HSX.out ?_) | (refine wpList_store_row rfl 25 (.tmp 8) (.tmp 26) rfl (w.heap.size + 2) rfl (cellsB x) (cellsB (List.replicate 32 0)) 25 rfl HROW HCX.out HSX.out (cellsB_one _) ?_; intro w2 hg2 hr2 hz2; clear hz2))
  have hz2 := HZROW.grown hg2 (fun e => by have := Option.some.inj e; omega)
  have hB2 : Below w.heap.size w w2 := HBROW.grown hg2 HBROW.size (fun k hk => by cases hk; omega)
  obtain ⟨g8, e8⟩ : ∃ g, w.heap.size + 2 = g := ⟨_, rfl⟩
  rw [e8] at hr2 ⊢
  have h8w : w.heap.size + 1 < g8 := by omega
  clear hb0 hx0 hz0 HROW HZROW HBROW hg2 e8 d1 d2 d2' d3 d4 d5 hw hmn
  go_loopw [29, 1] (fun t ix wr => ∃ j : Nat, j ≤ p.length ∧ t = .int .i64 (j : Int) ∧ ix = .int .i64 ((i / 2 ^ j : Nat) : Int) ∧ Below w.heap.size w wr ∧ Row wr (w.heap.size + 1) 25 (cellsB (List.replicate 32 0)) ∧ Row wr g8 25 (cellsB (climb x i (p.take j)))) (fun t _ _ => p.length - (intOf t).toNat)
  case atStart => exact ⟨0, by omega, rfl, by rw [Nat.pow_zero, Nat.div_one], hB2, hz2, hr2⟩
  case round =>
    clear hB2 hz2 hr2
    obtain ⟨j, hj, rfl, rfl, hB, hz, hr⟩ := hrel
    by_cases hlt : j < p.length
    · have hlt2 : (j : Int) < (p.length : Int) := by omega
      obtain ⟨sb, so, rfl, -, hk1, hk2, hat⟩ := hp.at (by omega)
      have hce := range_below (hat.elem H32.out j hlt) hB
      have hyl := all32_getD H32.out j hlt
      have hcs := HCL.out j hlt
      have hcl := HLEN.out j
      have hq1 : i / 2 ^ j ≤ i := Nat.div_le_self _ _
      have hq2 : i / 2 ^ (j + 1) = i / 2 ^ j / 2 := by rw [Nat.pow_succ, Nat.div_div_eq_div_mul]
      obtain ⟨q, eq⟩ : ∃ q, i / 2 ^ j = q := ⟨_, rfl⟩
      rw [eq] at hcs hq1 hq2 ⊢
      obtain ⟨q', eq'⟩ : ∃ q', q / 2 = q' := ⟨_, rfl⟩
      rw [eq'] at hq2
      have hqi : (q : Int) / 2 = (q' : Int) := by omega
      have hi64 := HI64.out
      have hwq : IntKind.i64.wrap (q' : Int) = (q' : Int) := IntWalk.i64_in _ (by omega)
      obtain ⟨y, ey⟩ : ∃ y, p.getD j [] = y := ⟨_, rfl⟩
      obtain ⟨c, ec⟩ : ∃ c, climb x i (p.take j) = c := ⟨_, rfl⟩
      rw [ey] at hce hyl hcs
      rw [ec] at hcs hcl hr
      have HIX := Lib.hid hq2
      have HYL := Lib.hid hyl
      have HC := Lib.hid hcl
      have HSY := Lib.hid (Tryd.sizeD_of y hyl)
      have HSC := Lib.hid (Tryd.sizeD_of c hcl)
      have HCY : Hid ((cellsB y).size = (cellsB (List.replicate 32 0)).size) := Lib.hid (by rw [cellsB_size, hyl]; rfl)
      have hl1 := hz.lt
      have hl2 := hr.lt
      have hBs := hB.size
      clear hat ey ec eq eq' hyl hcl hq1 hq2
      by_cases hev : q % 2 = 0
      · have hev' : (q : Int) % 2 = 0 := by omega
        obtain ⟨c2, ec2⟩ : ∃ c2, pairOf c y = c2 := ⟨_, rfl⟩
        have HST := Lib.hid ec2
        have hc2l : c2.length = 32 := by rw [← ec2]; exact pairOf_len _ _
        have HCL2 : Hid (climb x i (p.take (j + 1)) = c2) := Lib.hid (by rw [hcs, ← ec2]; unfold climbStep; rw [if_pos hev])
        have HSC2 := Lib.hid (Tryd.sizeD_of c2 hc2l)
        have HCC : Hid ((cellsB c2).size = (cellsB c).size) := Lib.hid (by rw [cellsB_size, cellsB_size, hc2l, HC.out])
        clear hcs ec2 hc2l hev
        go_wp2_with (first | (refine wpList_load_dig rfl (.tmp 31) rfl sb (so + j * 32) rfl y HYL.out hce ?_) | (refine wpList_store_row rfl 25 (.tmp 10) (.tmp 32) rfl wr.heap.size rfl (cellsB y) (cellsB (List.replicate 32 0)) 25 rfl (Row.new wr _ _) HCY.out HSY.out (cellsB_one _) ?_; intro w3 hg3 hy3 hz3; clear hz3; have hb3 := box_below hg3; clear hg3; have hz4 := hz.below hb3 hl1; have hr4 := hr.below hb3 hl2; have hB3 := hB.trans (hb3.mono hB.size); clear hb3 hz hr hB) | (refine wpList_load_row rfl 25 (.tmp 8) rfl g8 rfl 25 (cellsB c) (0, 0) _ hr4 Tryd.underD rfl HSC.out ?_) | (refine wpList_load_row rfl 25 (.tmp 10) rfl wr.heap.size rfl 25 (cellsB y) (0, 0) _ hy3 Tryd.underD rfl HSY.out ?_))
        refine (rpair_any c y w3 HC.out HYL.out (hK.below hB3 hkl) (hI.below hB3 hil)).mono ?_
        rintro e9 w5 ⟨rfl, hb5⟩
        rw [HST.out]
        have hB5 := hB3.trans (hb5.mono hB3.size)
        have hz5 := hz4.below hb5 hz4.lt
        have hr5 := hr4.below hb5 hr4.lt
        clear hB3 hb5 hz4 hr4 hy3
        go_wp2_with (first | (refine wpList_store_row rfl 25 (.tmp 8) (.tmp 38) rfl g8 rfl (cellsB c2) (cellsB c) 25 rfl hr5 HCC.out HSC2.out (cellsB_one _) ?_; intro w6 hg6 hr6 hz6; clear hz6))
        have hz7 := hz5.grown hg6 (fun e => by have := Option.some.inj e; omega)
        have hB7 := hB5.grown hg6 hB5.size (fun k hk => by cases hk; omega)
        go_roundw
        case rel => exact ⟨j + 1, by omega, by go_num, by rw [HIX.out], hB7, hz7, by rw [HCL2.out]; exact hr6⟩
        case measure => simp [intOf]; omega
      · have hev' : ¬ (q : Int) % 2 = 0 := by omega
        have hev1 : (q : Int) % 2 = 1 := by omega
        obtain ⟨c2, ec2⟩ : ∃ c2, pairOf y c = c2 := ⟨_, rfl⟩
        have HST := Lib.hid ec2
        have hc2l : c2.length = 32 := by rw [← ec2]; exact pairOf_len _ _
        have HCL2 : Hid (climb x i (p.take (j + 1)) = c2) := Lib.hid (by rw [hcs, ← ec2]; unfold climbStep; rw [if_neg hev])
        have HSC2 := Lib.hid (Tryd.sizeD_of c2 hc2l)
        have HCC : Hid ((cellsB c2).size = (cellsB c).size) := Lib.hid (by rw [cellsB_size, cellsB_size, hc2l, HC.out])
        clear hcs ec2 hc2l hev
        go_wp2_with (first | (refine wpList_load_dig rfl (.tmp 31) rfl sb (so + j * 32) rfl y HYL.out hce ?_) | (refine wpList_store_row rfl 25 (.tmp 10) (.tmp 32) rfl wr.heap.size rfl (cellsB y) (cellsB (List.replicate 32 0)) 25 rfl (Row.new wr _ _) HCY.out HSY.out (cellsB_one _) ?_; intro w3 hg3 hy3 hz3; clear hz3; have hb3 := box_below hg3; clear hg3; have hz4 := hz.below hb3 hl1; have hr4 := hr.below hb3 hl2; have hB3 := hB.trans (hb3.mono hB.size); clear hb3 hz hr hB) | (refine wpList_load_row rfl 25 (.tmp 8) rfl g8 rfl 25 (cellsB c) (0, 0) _ hr4 Tryd.underD rfl HSC.out ?_) | (refine wpList_load_row rfl 25 (.tmp 10) rfl wr.heap.size rfl 25 (cellsB y) (0, 0) _ hy3 Tryd.underD rfl HSY.out ?_))
        refine (rpair_any y c w3 HYL.out HC.out (hK.below hB3 hkl) (hI.below hB3 hil)).mono ?_
        rintro e9 w5 ⟨rfl, hb5⟩
        rw [HST.out]
        have hB5 := hB3.trans (hb5.mono hB3.size)
        have hz5 := hz4.below hb5 hz4.lt
        have hr5 := hr4.below hb5 hr4.lt
        clear hB3 hb5 hz4 hr4 hy3
        go_wp2_with (first | (refine wpList_store_row rfl 25 (.tmp 8) (.tmp 41) rfl g8 rfl (cellsB c2) (cellsB c) 25 rfl hr5 HCC.out HSC2.out (cellsB_one _) ?_; intro w6 hg6 hr6 hz6; clear hz6))
        have hz7 := hz5.grown hg6 (fun e => by have := Option.some.inj e; omega)
        have hB7 := hB5.grown hg6 hB5.size (fun k hk => by cases hk; omega)
        go_roundw
        case rel => exact ⟨j + 1, by omega, by go_num, by rw [HIX.out], hB7, hz7, by rw [HCL2.out]; exact hr6⟩
        case measure => simp [intOf]; omega
    · obtain rfl : j = p.length := by omega
      rw [List.take_of_length_le (Nat.le_refl _)] at hr
      have hcl := HLEN.out p.length
      rw [List.take_of_length_le (Nat.le_refl _)] at hcl
      obtain ⟨c, ec⟩ : ∃ c, climb x i p = c := ⟨_, rfl⟩
      rw [ec] at hr hcl
      have HSC := Lib.hid (Tryd.sizeD_of c hcl)
      have HCC : Hid ((cellsB c).size = (cellsB (List.replicate 32 0)).size) := Lib.hid (by rw [cellsB_size, hcl]; rfl)
      have HEC := Lib.hid ec
      obtain ⟨q, eq⟩ : ∃ q, i / 2 ^ p.length = q := ⟨_, rfl⟩
      rw [eq]
      clear ec eq hcl
      go_wp2_with (first | (refine wpList_load_row rfl 25 (.tmp 8) rfl g8 rfl 25 (cellsB c) (0, 0) _ hr Tryd.underD rfl HSC.out ?_) | (refine wpList_store_row rfl 25 (.tmp 6) (.tmp 45) rfl (w.heap.size + 1) rfl (cellsB c) (cellsB (List.replicate 32 0)) 25 rfl hz HCC.out HSC.out (cellsB_one _) ?_; intro w6 hg6 hr6 hz6))
      refine bodyPost_ret (results_cell_row_tmp rfl _ _ (w.heap.size + 1) 25 (cellsB c) (0, 0) _ rfl hr6 Tryd.underD rfl HSC.out) rfl ⟨by rw [HEC.out]; rfl, ?_⟩
      exact hB.grown hg6 hB.size (fun k hk => by cases hk; omega)
theorem rclimb_any (x : Dg) (idx : Int) (p : List Dg) (v : Value) (w : World) (hx : x.length = 32) (hp : Digs w v p) (h32 : all32 p) (hK : RKFact w) (hI : RIFact w) :
    Calls Tryd.prog 27 #[.agg (cellsB x), .int .i64 idx, v] w fun e w' => e = .returned (.tuple #[.agg (cellsB (climbR x idx p)), .int .i64 (errC idx p.length : Nat)]) ∧ Below w.heap.size w w' := by
  cases hok : okClimb idx p.length with
  | true => exact rclimb_ok x idx p v w hx hp h32 hK hI hok
  | false =>
    by_cases h6 : 6 < p.length
    · exact rclimb_long x idx p v w hx hp h6
    · by_cases h0 : idx < 0
      · exact rclimb_neg x idx p v w hx hp (by omega) h0
      · refine rclimb_high x idx p v w hx hp (by omega) h0 ?_
        have h4 : ((2 ^ p.length : Nat) : Int) = 2 ^ p.length := by simp
        rcases Int.lt_or_le idx ((2 ^ p.length : Nat) : Int) with h | h
        · rw [(okClimb_iff _ _).2 ⟨by omega, by omega, by omega⟩] at hok; cases hok
        · exact h
set_option maxRecDepth 100000 in
set_option maxHeartbeats 4000000 in
theorem rv_neg (root : Dg) (msg : List UInt8) (mv : Value) (i : Int) (cv pv : Value) (cs ps : List Dg) (w : World) (hr : root.length = 32) (hm : Bytes w mv msg (fun _ => True)) (hml : msg.length ≤ 1000000) (hc : Digs w cv cs) (h32c : all32 cs) (hp : Digs w pv ps) (h32p : all32 ps) (hK : RKFact w) (hI : RIFact w) (h : i < 0) :
    Calls Tryd.prog 29 #[.agg (cellsB root), mv, .agg (sigC i cv pv)] w fun e w' => e = .returned (.bool false) ∧ Below w.heap.size w w' := by
  have hkl := hK.lt
  have hil := hI.lt
  have HRT := Lib.hid hr
  have HSR := Lib.hid (Tryd.sizeD_of root hr)
  have HML := Lib.hid hml
  have H32C := Lib.hid h32c
  have H32P := Lib.hid h32p
  obtain ⟨ac, kc, rfl⟩ := hc.form
  obtain ⟨ap, kp, rfl⟩ := hp.form
  obtain ⟨am, km, rfl⟩ : ∃ a c, mv = .slice a msg.length c := by obtain ⟨a, c, h, _⟩ := hm; exact ⟨a, c, h⟩
  have hb0 : Below w.heap.size w ((w.alloc (.cells (cellsB root) 25)).alloc (.cells (sigC i (.slice ac cs.length kc) (.slice ap ps.length kp)) 31)) := ((Below.refl _ _).alloc (Nat.le_refl _) _).alloc (by simp) _
  have hr0 : Row ((w.alloc (.cells (cellsB root) 25)).alloc (.cells (sigC i (.slice ac cs.length kc) (.slice ap ps.length kp)) 31)) w.heap.size 25 (cellsB root) := (Row.new w _ _).alloc _
  have hs0 : Row ((w.alloc (.cells (cellsB root) 25)).alloc (.cells (sigC i (.slice ac cs.length kc) (.slice ap ps.length kp)) 31)) (w.heap.size + 1) 31 (sigC i (.slice ac cs.length kc) (.slice ap ps.length kp)) := by
    have h := Row.new (w.alloc (.cells (cellsB root) 25)) (sigC i (.slice ac cs.length kc) (.slice ap ps.length kp)) 31
    rwa [show (w.alloc (.cells (cellsB root) 25)).heap.size = w.heap.size + 1 by simp] at h
  have hf0 : ((w.alloc (.cells (cellsB root) 25)).alloc (.cells (sigC i (.slice ac cs.length kc) (.slice ap ps.length kp)) 31)).cell? ⟨w.heap.size + 1, 0, none⟩ = some (.int .i64 i) := hs0.cell 0
  have hf1 : ((w.alloc (.cells (cellsB root) 25)).alloc (.cells (sigC i (.slice ac cs.length kc) (.slice ap ps.length kp)) 31)).cell? ⟨w.heap.size + 1, 1, none⟩ = some (.slice ac cs.length kc) := hs0.cell 1
  have hf2 : ((w.alloc (.cells (cellsB root) 25)).alloc (.cells (sigC i (.slice ac cs.length kc) (.slice ap ps.length kp)) 31)).cell? ⟨w.heap.size + 1, 2, none⟩ = some (.slice ap ps.length kp) := hs0.cell 2
  clear hr hml h32c h32p
  have hd0 : decide (i < 0) = true := decide_eq_true h
  go_enter Tryd.func29, Tryd.ntmps29
  go_wp2
  go_ret
  exact ⟨rfl, hb0⟩
set_option maxRecDepth 100000 in
set_option maxHeartbeats 4000000 in
theorem rv_four (root : Dg) (msg : List UInt8) (mv : Value) (i : Int) (cv pv : Value) (cs ps : List Dg) (w : World) (hr : root.length = 32) (hm : Bytes w mv msg (fun _ => True)) (hml : msg.length ≤ 1000000) (hc : Digs w cv cs) (h32c : all32 cs) (hp : Digs w pv ps) (h32p : all32 ps) (hK : RKFact w) (hI : RIFact w) (h0 : ¬ i < 0) (h : 4 ≤ i) :
    Calls Tryd.prog 29 #[.agg (cellsB root), mv, .agg (sigC i cv pv)] w fun e w' => e = .returned (.bool false) ∧ Below w.heap.size w w' := by
  have hkl := hK.lt
  have hil := hI.lt
  have HRT := Lib.hid hr
  have HSR := Lib.hid (Tryd.sizeD_of root hr)
  have HML := Lib.hid hml
  have H32C := Lib.hid h32c
  have H32P := Lib.hid h32p
  obtain ⟨ac, kc, rfl⟩ := hc.form
  obtain ⟨ap, kp, rfl⟩ := hp.form
  obtain ⟨am, km, rfl⟩ : ∃ a c, mv = .slice a msg.length c := by obtain ⟨a, c, h, _⟩ := hm; exact ⟨a, c, h⟩
  have hb0 : Below w.heap.size w ((w.alloc (.cells (cellsB root) 25)).alloc (.cells (sigC i (.slice ac cs.length kc) (.slice ap ps.length kp)) 31)) := ((Below.refl _ _).alloc (Nat.le_refl _) _).alloc (by simp) _
  have hr0 : Row ((w.alloc (.cells (cellsB root) 25)).alloc (.cells (sigC i (.slice ac cs.length kc) (.slice ap ps.length kp)) 31)) w.heap.size 25 (cellsB root) := (Row.new w _ _).alloc _
  have hs0 : Row ((w.alloc (.cells (cellsB root) 25)).alloc (.cells (sigC i (.slice ac cs.length kc) (.slice ap ps.length kp)) 31)) (w.heap.size + 1) 31 (sigC i (.slice ac cs.length kc) (.slice ap ps.length kp)) := by
    have h := Row.new (w.alloc (.cells (cellsB root) 25)) (sigC i (.slice ac cs.length kc) (.slice ap ps.length kp)) 31
    rwa [show (w.alloc (.cells (cellsB root) 25)).heap.size = w.heap.size + 1 by simp] at h
  have hf0 : ((w.alloc (.cells (cellsB root) 25)).alloc (.cells (sigC i (.slice ac cs.length kc) (.slice ap ps.length kp)) 31)).cell? ⟨w.heap.size + 1, 0, none⟩ = some (.int .i64 i) := hs0.cell 0
  have hf1 : ((w.alloc (.cells (cellsB root) 25)).alloc (.cells (sigC i (.slice ac cs.length kc) (.slice ap ps.length kp)) 31)).cell? ⟨w.heap.size + 1, 1, none⟩ = some (.slice ac cs.length kc) := hs0.cell 1
  have hf2 : ((w.alloc (.cells (cellsB root) 25)).alloc (.cells (sigC i (.slice ac cs.length kc) (.slice ap ps.length kp)) 31)).cell? ⟨w.heap.size + 1, 2, none⟩ = some (.slice ap ps.length kp) := hs0.cell 2
  clear hr hml h32c h32p
  have hd0 : decide (i < 0) = false := decide_eq_false h0
  have hd1 : decide ((3 : Int) < i) = true := decide_eq_true (by omega)
  go_enter Tryd.func29, Tryd.ntmps29
  go_wp2
  go_ret
  exact ⟨rfl, hb0⟩
set_option maxRecDepth 100000 in
set_option maxHeartbeats 4000000 in
theorem rv_chains (root : Dg) (msg : List UInt8) (mv : Value) (i : Int) (cv pv : Value) (cs ps : List Dg) (w : World) (hr : root.length = 32) (hm : Bytes w mv msg (fun _ => True)) (hml : msg.length ≤ 1000000) (hc : Digs w cv cs) (h32c : all32 cs) (hp : Digs w pv ps) (h32p : all32 ps) (hK : RKFact w) (hI : RIFact w) (h0 : ¬ i < 0) (h4 : ¬ 4 ≤ i) (h : ¬ cs.length = 18) :
    Calls Tryd.prog 29 #[.agg (cellsB root), mv, .agg (sigC i cv pv)] w fun e w' => e = .returned (.bool false) ∧ Below w.heap.size w w' := by
  have hkl := hK.lt
  have hil := hI.lt
  have HRT := Lib.hid hr
  have HSR := Lib.hid (Tryd.sizeD_of root hr)
  have HML := Lib.hid hml
  have H32C := Lib.hid h32c
  have H32P := Lib.hid h32p
  obtain ⟨ac, kc, rfl⟩ := hc.form
  obtain ⟨ap, kp, rfl⟩ := hp.form
  obtain ⟨am, km, rfl⟩ : ∃ a c, mv = .slice a msg.length c := by obtain ⟨a, c, h, _⟩ := hm; exact ⟨a, c, h⟩
  have hb0 : Below w.heap.size w ((w.alloc (.cells (cellsB root) 25)).alloc (.cells (sigC i (.slice ac cs.length kc) (.slice ap ps.length kp)) 31)) := ((Below.refl _ _).alloc (Nat.le_refl _) _).alloc (by simp) _
  have hr0 : Row ((w.alloc (.cells (cellsB root) 25)).alloc (.cells (sigC i (.slice ac cs.length kc) (.slice ap ps.length kp)) 31)) w.heap.size 25 (cellsB root) := (Row.new w _ _).alloc _
  have hs0 : Row ((w.alloc (.cells (cellsB root) 25)).alloc (.cells (sigC i (.slice ac cs.length kc) (.slice ap ps.length kp)) 31)) (w.heap.size + 1) 31 (sigC i (.slice ac cs.length kc) (.slice ap ps.length kp)) := by
    have h := Row.new (w.alloc (.cells (cellsB root) 25)) (sigC i (.slice ac cs.length kc) (.slice ap ps.length kp)) 31
    rwa [show (w.alloc (.cells (cellsB root) 25)).heap.size = w.heap.size + 1 by simp] at h
  have hf0 : ((w.alloc (.cells (cellsB root) 25)).alloc (.cells (sigC i (.slice ac cs.length kc) (.slice ap ps.length kp)) 31)).cell? ⟨w.heap.size + 1, 0, none⟩ = some (.int .i64 i) := hs0.cell 0
  have hf1 : ((w.alloc (.cells (cellsB root) 25)).alloc (.cells (sigC i (.slice ac cs.length kc) (.slice ap ps.length kp)) 31)).cell? ⟨w.heap.size + 1, 1, none⟩ = some (.slice ac cs.length kc) := hs0.cell 1
  have hf2 : ((w.alloc (.cells (cellsB root) 25)).alloc (.cells (sigC i (.slice ac cs.length kc) (.slice ap ps.length kp)) 31)).cell? ⟨w.heap.size + 1, 2, none⟩ = some (.slice ap ps.length kp) := hs0.cell 2
  clear hr hml h32c h32p
  have hd0 : decide (i < 0) = false := decide_eq_false h0
  have hd1 : decide ((3 : Int) < i) = false := decide_eq_false (by omega)
  have hd2 : ¬ (cs.length : Int) = 18 := by omega
  have hd3 : ((cs.length : Int) == 18) = false := by simpa using hd2
  go_enter Tryd.func29, Tryd.ntmps29
  go_wp2
  go_ret
  exact ⟨rfl, hb0⟩
set_option maxRecDepth 100000 in
set_option maxHeartbeats 4000000 in
theorem rv_path (root : Dg) (msg : List UInt8) (mv : Value) (i : Int) (cv pv : Value) (cs ps : List Dg) (w : World) (hr : root.length = 32) (hm : Bytes w mv msg (fun _ => True)) (hml : msg.length ≤ 1000000) (hc : Digs w cv cs) (h32c : all32 cs) (hp : Digs w pv ps) (h32p : all32 ps) (hK : RKFact w) (hI : RIFact w) (h0 : ¬ i < 0) (h4 : ¬ 4 ≤ i) (hcs : cs.length = 18) (h : ¬ ps.length = 2) :
    Calls Tryd.prog 29 #[.agg (cellsB root), mv, .agg (sigC i cv pv)] w fun e w' => e = .returned (.bool false) ∧ Below w.heap.size w w' := by
  have hkl := hK.lt
  have hil := hI.lt
  have HRT := Lib.hid hr
  have HSR := Lib.hid (Tryd.sizeD_of root hr)
  have HML := Lib.hid hml
  have H32C := Lib.hid h32c
  have H32P := Lib.hid h32p
  obtain ⟨ac, kc, rfl⟩ := hc.form
  obtain ⟨ap, kp, rfl⟩ := hp.form
  obtain ⟨am, km, rfl⟩ : ∃ a c, mv = .slice a msg.length c := by obtain ⟨a, c, h, _⟩ := hm; exact ⟨a, c, h⟩
  have hb0 : Below w.heap.size w ((w.alloc (.cells (cellsB root) 25)).alloc (.cells (sigC i (.slice ac cs.length kc) (.slice ap ps.length kp)) 31)) := ((Below.refl _ _).alloc (Nat.le_refl _) _).alloc (by simp) _
  have hr0 : Row ((w.alloc (.cells (cellsB root) 25)).alloc (.cells (sigC i (.slice ac cs.length kc) (.slice ap ps.length kp)) 31)) w.heap.size 25 (cellsB root) := (Row.new w _ _).alloc _
  have hs0 : Row ((w.alloc (.cells (cellsB root) 25)).alloc (.cells (sigC i (.slice ac cs.length kc) (.slice ap ps.length kp)) 31)) (w.heap.size + 1) 31 (sigC i (.slice ac cs.length kc) (.slice ap ps.length kp)) := by
    have h := Row.new (w.alloc (.cells (cellsB root) 25)) (sigC i (.slice ac cs.length kc) (.slice ap ps.length kp)) 31
    rwa [show (w.alloc (.cells (cellsB root) 25)).heap.size = w.heap.size + 1 by simp] at h
  have hf0 : ((w.alloc (.cells (cellsB root) 25)).alloc (.cells (sigC i (.slice ac cs.length kc) (.slice ap ps.length kp)) 31)).cell? ⟨w.heap.size + 1, 0, none⟩ = some (.int .i64 i) := hs0.cell 0
  have hf1 : ((w.alloc (.cells (cellsB root) 25)).alloc (.cells (sigC i (.slice ac cs.length kc) (.slice ap ps.length kp)) 31)).cell? ⟨w.heap.size + 1, 1, none⟩ = some (.slice ac cs.length kc) := hs0.cell 1
  have hf2 : ((w.alloc (.cells (cellsB root) 25)).alloc (.cells (sigC i (.slice ac cs.length kc) (.slice ap ps.length kp)) 31)).cell? ⟨w.heap.size + 1, 2, none⟩ = some (.slice ap ps.length kp) := hs0.cell 2
  clear hr hml h32c h32p
  have hd0 : decide (i < 0) = false := decide_eq_false h0
  have hd1 : decide ((3 : Int) < i) = false := decide_eq_false (by omega)
  rw [hcs] at hb0 hf0 hf1 hf2 ⊢
  have hd4 : ¬ (ps.length : Int) = 2 := by omega
  have hd5 : ((ps.length : Int) == 2) = false := by simpa using hd4
  go_enter Tryd.func29, Tryd.ntmps29
  go_wp2
  go_ret
  exact ⟨rfl, hb0⟩
set_option maxRecDepth 100000 in
set_option maxHeartbeats 4000000 in
theorem rv_ok (root : Dg) (msg : List UInt8) (mv : Value) (i : Int) (cv pv : Value) (cs ps : List Dg) (w : World) (hr : root.length = 32) (hm : Bytes w mv msg (fun _ => True)) (hml : msg.length ≤ 1000000) (hc : Digs w cv cs) (h32c : all32 cs) (hp : Digs w pv ps) (h32p : all32 ps) (hK : RKFact w) (hI : RIFact w) (hsh : shapeB i cs ps = true) :
    Calls Tryd.prog 29 #[.agg (cellsB root), mv, .agg (sigC i cv pv)] w fun e w' => e = .returned (.bool (decide (climbR (recR (msgOf msg) cs) i ps = root))) ∧ Below w.heap.size w w' := by
  have hkl := hK.lt
  have hil := hI.lt
  have HRT := Lib.hid hr
  have HSR := Lib.hid (Tryd.sizeD_of root hr)
  have HML := Lib.hid hml
  have H32C := Lib.hid h32c
  have H32P := Lib.hid h32p
  obtain ⟨ac, kc, rfl⟩ := hc.form
  obtain ⟨ap, kp, rfl⟩ := hp.form
  obtain ⟨am, km, rfl⟩ : ∃ a c, mv = .slice a msg.length c := by obtain ⟨a, c, h, _⟩ := hm; exact ⟨a, c, h⟩
  have hb0 : Below w.heap.size w ((w.alloc (.cells (cellsB root) 25)).alloc (.cells (sigC i (.slice ac cs.length kc) (.slice ap ps.length kp)) 31)) := ((Below.refl _ _).alloc (Nat.le_refl _) _).alloc (by simp) _
  have hr0 : Row ((w.alloc (.cells (cellsB root) 25)).alloc (.cells (sigC i (.slice ac cs.length kc) (.slice ap ps.length kp)) 31)) w.heap.size 25 (cellsB root) := (Row.new w _ _).alloc _
  have hs0 : Row ((w.alloc (.cells (cellsB root) 25)).alloc (.cells (sigC i (.slice ac cs.length kc) (.slice ap ps.length kp)) 31)) (w.heap.size + 1) 31 (sigC i (.slice ac cs.length kc) (.slice ap ps.length kp)) := by
    have h := Row.new (w.alloc (.cells (cellsB root) 25)) (sigC i (.slice ac cs.length kc) (.slice ap ps.length kp)) 31
    rwa [show (w.alloc (.cells (cellsB root) 25)).heap.size = w.heap.size + 1 by simp] at h
  have hf0 : ((w.alloc (.cells (cellsB root) 25)).alloc (.cells (sigC i (.slice ac cs.length kc) (.slice ap ps.length kp)) 31)).cell? ⟨w.heap.size + 1, 0, none⟩ = some (.int .i64 i) := hs0.cell 0
  have hf1 : ((w.alloc (.cells (cellsB root) 25)).alloc (.cells (sigC i (.slice ac cs.length kc) (.slice ap ps.length kp)) 31)).cell? ⟨w.heap.size + 1, 1, none⟩ = some (.slice ac cs.length kc) := hs0.cell 1
  have hf2 : ((w.alloc (.cells (cellsB root) 25)).alloc (.cells (sigC i (.slice ac cs.length kc) (.slice ap ps.length kp)) 31)).cell? ⟨w.heap.size + 1, 2, none⟩ = some (.slice ap ps.length kp) := hs0.cell 2
  clear hr hml h32c h32p
  obtain ⟨h0, h4, hcs, hps⟩ := (shapeB_iff _ _ _).1 hsh
  have hd0 : decide (i < 0) = false := decide_eq_false (by omega)
  have hd1 : decide ((3 : Int) < i) = false := decide_eq_false (by omega)
  have HES := Lib.hid (errS_shape hsh)
  have HEC := Lib.hid (errC_shape hsh)
  have hmo : (msgOf msg).length = 32 := taggedOf_len _ _
  obtain ⟨mo, hmo'⟩ : ∃ mo, msgOf msg = mo := ⟨_, rfl⟩
  rw [hmo'] at hmo ⊢
  have HMO := Lib.hid hmo
  have HMX : Hid (taggedOf (ByteArray.mk #[109, 115, 103]).data.toList msg = mo) := Lib.hid hmo'
  obtain ⟨x, hx⟩ : ∃ x, recR mo cs = x := ⟨_, rfl⟩
  have hxl : x.length = 32 := by rw [← hx]; exact recR_len _ _
  rw [hx]
  have HXE := Lib.hid hx
  have HX := Lib.hid hxl
  have HSX := Lib.hid (Tryd.sizeD_of x hxl)
  have HCX : Hid ((cellsB x).size = (cellsB (List.replicate 32 0)).size) := Lib.hid (by rw [cellsB_size, hxl]; rfl)
  obtain ⟨y, hy⟩ : ∃ y, climbR x i ps = y := ⟨_, rfl⟩
  have hyl : y.length = 32 := by rw [← hy]; exact climbR_len _ _ _ hxl
  rw [hy]
  have HYE := Lib.hid hy
  have HY := Lib.hid hyl
  have HSY := Lib.hid (Tryd.sizeD_of y hyl)
  have HCY : Hid ((cellsB y).size = (cellsB (List.replicate 32 0)).size) := Lib.hid (by rw [cellsB_size, hyl]; rfl)
  have HCS := Lib.hid hcs
  have HPS := Lib.hid hps
  rw [hcs] at hb0 hr0 hs0 hf0 hf1 hf2 hc ⊢
  rw [hps] at hb0 hr0 hs0 hf0 hf1 hf2 hp ⊢
  have hc0 := hc.later hb0
  have hp0 := hp.later hb0
  have hm0 := (hm.later hb0).imp (ok' := fun _ => True) fun _ _ => trivial
  have hK0 := hK.below hb0 hkl
  have hI0 := hI.below hb0 hil
  have hqe := fun w => eqlB y root HY.out HRT.out w
  generalize hbb : decide (y = root) = bb at *
  clear hmo hmo' hx hxl hy hyl hcs hps h0 h4 hsh hc hm hbb
  go_enter Tryd.func29, Tryd.ntmps29
  generalize hR3 : Code.region 3 _ _ = R3
  have HR3 := Lib.hid hR3
  clear hR3
  go_wp2
  obtain ⟨w0, ew0⟩ : ∃ w0, ((w.alloc (.cells (cellsB root) 25)).alloc (.cells (sigC i (.slice ac 18 kc) (.slice ap 2 kp)) 31)) = w0 := ⟨_, rfl⟩
  rw [ew0] at hb0 hr0 hs0 hf0 hf1 hf2 hc0 hp0 hm0 hK0 hI0
  change Code.wp _ _ _ _ ((w.alloc (.cells (cellsB root) 25)).alloc (.cells (sigC i (.slice ac 18 kc) (.slice ap 2 kp)) 31))
  rw [ew0]
  clear ew0
  rw [← HR3.out]
  clear HR3
  have hkl0 := hK0.lt
  have hil0 := hI0.lt
  have hlr := hr0.lt
  have hls := hs0.lt
  obtain ⟨B, eB⟩ : ∃ B, w0.heap.size = B := ⟨_, rfl⟩
  refine wp_gen fun a0 ha0 => ?_
  have i1 : a0.eval (.tmp 1) = .slice am msg.length km := by rw [ha0]; rfl
  have i5 : a0.eval (.tmp 5) = .pointer (some ⟨w.heap.size + 1, 0, none⟩) := by rw [ha0]; rfl
  have hsz : a0.tmps.size = 57 := by rw [ha0]; rfl
  refine wp_region_inv_late (B := B) 9 [some 32, some 33, some 34, some 35, some 36, some 31, some 37, some 38, some 7, none, some 8] [Asrt.eq (.slice am msg.length km), Asrt.eq (.agg (cellsB (mo))), Asrt.eq (.pointer (some ⟨w.heap.size + 1, 1, none⟩)), Asrt.eq (.slice ac 18 kc), Asrt.eq (.tuple #[.agg (cellsB x), .int .i64 0]), Asrt.eq (.tuple #[.agg (cellsB x), .int .i64 0]), Asrt.eq (.agg (cellsB (x))), Asrt.eq (.int .i64 0), Asrt.box] [(7, .int .i64 0)] rfl (by as_aux_lemma => kernel_rfl) (by rw [hsz]; as_aux_lemma => kernel_rfl) (by as_aux_lemma => kernel_rfl) (by as_aux_lemma => kernel_rfl) (by decide) ⟨rfl, trivial⟩ (by omega) ⟨?_, ?_, ?_, ?_, ?_, ?_, ?_, ?_, ?_, trivial⟩ ?_
  · as_aux_lemma =>
      intro ev w1 hg hin hc hgl hfn hd
      have hB := hg.top
      have g1 : ev (.tmp 1) = .slice am msg.length km := (hin 1 (by kernel_rfl)).trans i1
      clear hin hd
      refine step_on (guard_none rfl) fun K hK => ?_
      unfold YieldsG
      go_simp
      exact hK _ _ rfl (Grow.refl hB)
  · as_aux_lemma =>
      intro ev w1 hg hin hc hgl hfn hd
      have hB := hg.top
      have f32 : (ev (.tmp 32)) = .slice am msg.length km := hd.1 rfl _ rfl
      clear hin hd
      refine step_on (guard_none rfl) fun K hK => ?_
      unfold YieldsG
      go_simp
      refine (rtagged_any _ _ msg _ w1 (by decide) ((hm0.later (by rw [eB]; exact hg.bl)).imp fun _ _ => trivial) (hK0.below hg.bl (by omega)) (hI0.below hg.bl (by omega)) (by have := HML.out; omega)).mono ?_
      rintro e w2 ⟨rfl, hb⟩
      exact ⟨_, rfl, hK _ _ (by show _ = _; rw [HMX.out]) (Grow.of hB hb)⟩
  · as_aux_lemma =>
      intro ev w1 hg hin hc hgl hfn hd
      have hB := hg.top
      have g5 : ev (.tmp 5) = .pointer (some ⟨w.heap.size + 1, 0, none⟩) := (hin 5 (by kernel_rfl)).trans i5
      clear hin hd
      refine step_on (guard_none rfl) fun K hK => ?_
      unfold YieldsG
      go_simp
      exact hK _ _ rfl (Grow.refl hB)
  · as_aux_lemma =>
      intro ev w1 hg hin hc hgl hfn hd
      have hB := hg.top
      have f34 : (ev (.tmp 34)) = .pointer (some ⟨w.heap.size + 1, 1, none⟩) := hd.1 rfl _ rfl
      clear hin hd
      refine step_on (guard_none rfl) fun K hK => ?_
      have hc1 := hg.cell hf1
      unfold YieldsG
      go_simp
      exact hK _ _ rfl (Grow.refl hB)
  · as_aux_lemma =>
      intro ev w1 hg hin hc hgl hfn hd
      have hB := hg.top
      have f33 : (ev (.tmp 33)) = .agg (cellsB (mo)) := hd.1 rfl _ rfl
      have f35 : (ev (.tmp 35)) = .slice ac 18 kc := hd.2.1 rfl _ rfl
      clear hin hd
      refine step_on (guard_none rfl) fun K hK => ?_
      unfold YieldsG
      go_simp
      refine (rrecover_any mo cs _ w1 HMO.out (hc0.later (by rw [eB]; exact hg.bl)) H32C.out (hK0.below hg.bl (by omega)) (hI0.below hg.bl (by omega))).mono ?_
      rintro e w2 ⟨rfl, hb⟩
      exact ⟨_, rfl, hK _ _ (by show _ = _; rw [HXE.out, HES.out]; rfl) (Grow.of hB hb)⟩
  · as_aux_lemma =>
      intro ev w1 hg hin hc hgl hfn hd
      have hB := hg.top
      have f36 : (ev (.tmp 36)) = .tuple #[.agg (cellsB x), .int .i64 0] := hd.1 rfl _ rfl
      clear hin hd
      refine step_on (guard_none rfl) fun K hK => ?_
      unfold YieldsG
      go_simp
      exact hK _ _ rfl (Grow.refl hB)
  · as_aux_lemma =>
      intro ev w1 hg hin hc hgl hfn hd
      have hB := hg.top
      have f31 : (ev (.tmp 31)) = .tuple #[.agg (cellsB x), .int .i64 0] := hd.1 rfl _ rfl
      clear hin hd
      refine step_on (guard_none rfl) fun K hK => ?_
      unfold YieldsG
      go_simp
      exact hK _ _ rfl (Grow.refl hB)
  · as_aux_lemma =>
      intro ev w1 hg hin hc hgl hfn hd
      have hB := hg.top
      have f31 : (ev (.tmp 31)) = .tuple #[.agg (cellsB x), .int .i64 0] := hd.1 rfl _ rfl
      clear hin hd
      refine step_on (guard_none rfl) fun K hK => ?_
      unfold YieldsG
      go_simp
      exact hK _ _ rfl (Grow.refl hB)
  · as_aux_lemma =>
      intro ev w1 hg hin hc hgl hfn hd
      have hB := hg.top
      clear hin hd
      refine step_on (guard_none rfl) fun K hK => ?_
      unfold YieldsG
      go_simp
      exact hK _ _ ⟨_, rfl, hB, Row.new _ _ _⟩ (Grow.of hB ((Below.refl _ _).alloc (Nat.le_refl _) _))
  intro v w1 hg hall
  have hf0 : (v 0) = .slice am msg.length km := hall.1 (by simp)
  have hf1 : (v 1) = .agg (cellsB (mo)) := hall.2.1 (by simp)
  have hf2 : (v 2) = .pointer (some ⟨w.heap.size + 1, 1, none⟩) := hall.2.2.1 (by simp)
  have hf3 : (v 3) = .slice ac 18 kc := hall.2.2.2.1 (by simp)
  have hf4 : (v 4) = .tuple #[.agg (cellsB x), .int .i64 0] := hall.2.2.2.2.1 (by simp)
  have hf5 : (v 5) = .tuple #[.agg (cellsB x), .int .i64 0] := hall.2.2.2.2.2.1 (by simp)
  have hf6 : (v 6) = .agg (cellsB (x)) := hall.2.2.2.2.2.2.1 (by simp)
  have hf7 : (v 7) = .int .i64 0 := hall.2.2.2.2.2.2.2.1 (by simp)
  have hf8 : ∃ g, (v 8) = .pointer (some ⟨g, 0, none⟩) ∧ B ≤ g ∧ Row w1 g 25 (cellsB (List.replicate 32 0)) := hall.2.2.2.2.2.2.2.2.1 (by simp)
  clear hall i1 i5 hsz
  rw [ha0]
  clear ha0
  simp only [List.take_succ_cons, List.take_zero, List.drop_succ_cons, List.drop_zero, putAll, Act.put, List.setIfInBounds_toArray, List.set_cons_zero, List.set_cons_succ, Nat.zero_add, Nat.reduceAdd]
  rw [hf0, hf1, hf2, hf3, hf4, hf5, hf6, hf7]
  generalize v 8 = x8 at *
  clear hf0 hf1 hf2 hf3 hf4 hf5 hf6 hf7
  obtain ⟨g7, hg7, hgB7, hgr7⟩ := hf8
  subst hg7
  have hB1 := hb0.trans (hg.below.mono hb0.size)
  have hr1 := hr0.below hg.below hlr
  have hs1 := hs0.below hg.below hls
  have hp1 := hp0.later hg.below
  have hzz := hb0.size
  clear hg hr0 hs0 hf0 hf1 hf2 hc0 hp0 hm0 hK0 hI0
  refine ⟨fun _ => True, ⟨fun o ho w _ => by cases ho; rfl, trivial⟩, ?_⟩
  refine wpListI_cons trivial ?_
  refine wpList_store_row rfl 25 (.tmp 7) (.tmp 37) rfl g7 rfl (cellsB x) _ 25 rfl hgr7 HCX.out HSX.out (cellsB_one _) ?_
  intro w2 hg2 hx2 hz2
  have hr2 := hr1.grown hg2 (fun e => by have := Option.some.inj e; omega)
  have hs2 := hs1.grown hg2 (fun e => by have := Option.some.inj e; omega)
  have hB2 := hB1.grown hg2 hB1.size (fun k hk => by cases hk; omega)
  have hp2 : Digs w2 (.slice ap 2 kp) ps := hp.later hB2
  have hf0 : w2.cell? ⟨w.heap.size + 1, 0, none⟩ = some (.int .i64 i) := hs2.cell 0
  have hf2 : w2.cell? ⟨w.heap.size + 1, 2, none⟩ = some (.slice ap 2 kp) := hs2.cell 2
  clear hg2 hr1 hs1 hB1 hp1 hgr7 hgB7 eB hz2
  refine lateQ_intro (wpListI_cons trivial ?_)
  go_wp2
  refine ⟨rfl, wpListI_nil trivial ?_⟩
  have hl7 := hx2.lt
  go_wp2_with (first | (refine wpList_load_row rfl 25 (.tmp 7) rfl g7 rfl 25 (cellsB x) (0, 0) _ hx2 Tryd.underD rfl HSX.out ?_))
  refine (rclimb_any x i ps _ w2 HX.out hp2 H32P.out (hK.below hB2 hkl) (hI.below hB2 hil)).mono ?_
  rintro e w3 ⟨rfl, hb3⟩
  rw [HYE.out, HEC.out]
  have hB3 := hB2.trans (hb3.mono hB2.size)
  have hr3 := hr2.below hb3 hr2.lt
  have hl3 := hr3.lt
  clear hb3 hB2 hr2 hs2 hx2 hf0 hf2 hp2
  go_wp2_with (first | (refine wpList_store_row rfl 25 (.tmp 9) (.tmp 48) rfl w3.heap.size rfl (cellsB y) (cellsB (List.replicate 32 0)) 25 rfl (Row.new w3 _ _) HCY.out HSY.out (cellsB_one _) ?_; intro w4 hg4 hr4 hz4; clear hz4; have hb4 := box_below hg4; clear hg4; have hr5 := hr3.below hb4 hl3; have hB4 := hB3.trans (hb4.mono hB3.size); clear hb4 hB3 hr3; have hqe4 := hqe w4) | (refine wpList_load_on 25 (.tmp 9) rfl rfl w3.heap.size rfl 25 (cellsB y) (0, 0) _ hr4 Tryd.underD rfl HSY.out ?_) | (refine wpList_load_on 25 (.tmp 3) rfl rfl w.heap.size rfl 25 (cellsB root) (0, 0) _ hr5 Tryd.underD rfl HSR.out ?_))
  go_ret
  exact ⟨rfl, hB4⟩
theorem rverify_any (root : Dg) (msg : List UInt8) (mv : Value) (i : Int) (cv pv : Value) (cs ps : List Dg) (w : World) (hr : root.length = 32) (hm : Bytes w mv msg (fun _ => True)) (hml : msg.length ≤ 1000000) (hc : Digs w cv cs) (h32c : all32 cs) (hp : Digs w pv ps) (h32p : all32 ps) (hK : RKFact w) (hI : RIFact w) :
    Calls Tryd.prog 29 #[.agg (cellsB root), mv, .agg (sigC i cv pv)] w fun e w' => e = .returned (.bool (verK root msg i cs ps)) ∧ Below w.heap.size w w' := by
  unfold verK
  cases hsh : shapeB i cs ps with
  | true => rw [Bool.true_and]; exact rv_ok root msg mv i cv pv cs ps w hr hm hml hc h32c hp h32p hK hI hsh
  | false =>
    rw [Bool.false_and]
    by_cases h0 : i < 0
    · exact rv_neg root msg mv i cv pv cs ps w hr hm hml hc h32c hp h32p hK hI h0
    · by_cases h4 : 4 ≤ i
      · exact rv_four root msg mv i cv pv cs ps w hr hm hml hc h32c hp h32p hK hI h0 h4
      · by_cases hcs : cs.length = 18
        · by_cases hps : ps.length = 2
          · rw [(shapeB_iff _ _ _).2 ⟨by omega, by omega, hcs, hps⟩] at hsh; cases hsh
          · exact rv_path root msg mv i cv pv cs ps w hr hm hml hc h32c hp h32p hK hI h0 h4 hcs hps
        · exact rv_chains root msg mv i cv pv cs ps w hr hm hml hc h32c hp h32p hK hI h0 h4 hcs
end Go.Proofs.YteogcilnpkaplaaDoor

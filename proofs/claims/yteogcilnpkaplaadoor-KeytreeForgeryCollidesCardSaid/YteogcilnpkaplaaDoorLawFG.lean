/- crossbarlaw05.KeytreeForgeryCollides returns true. Conditions: the digests have 32 bytes, the tables lie in their variables. -/
import Derived.Test.YteogcilnpkaplaaDoorM10
import Derived.Test.YteogcilnpkaplaaDoorM12
import Derived.Test.YteogcilnpkaplaaDoorM13
namespace Go.Proofs.YteogcilnpkaplaaDoor
open Go.RowKit
theorem fresh_digest {o : Oper} (hg : o.guard = none) (ho : o.op = .alloc 25) : FreshAt Tryd.prog o := ⟨hg, fun ev w => ⟨w.heap.size, w.alloc (.cells (cellsB (List.replicate 32 0)) 25), by unfold execOp; simp only [ho]; go_simp; rfl, Nat.le_refl _⟩⟩
theorem box_lt {B g : Nat} {w : World} (h : (Asrt.box : Asrt B).p (.pointer (some ⟨g, 0, none⟩)) w) : g < w.heap.size := by
  obtain ⟨g', he, _, hr⟩ := h
  have : g = g' := by injection he with h; injection h with h; injection h
  rw [this]; exact hr.lt
theorem exec_load_row {o : Oper} {ev : Operand → Value} {w : World} (x : Operand) (ho : o.op = .load 25 x) (g : Nat) (hx : ev x = .pointer (some ⟨g, 0, none⟩)) (l : List UInt8) (hl : l.length = 32) (hg : Row w g 25 (cellsB l)) : (execOp ev o).run Tryd.prog w = .ok (.value (.agg (cellsB l))) w := by
  unfold execOp
  simp only [ho, hx, Instr.loadAt, Instr.sureAddr, Sem.run_bind, Sem.run_pure, Result.andThen_ok, run_loadVar_row w g 25 25 (cellsB l) (0, 0) _ hg Tryd.underD rfl (Tryd.sizeD_of l hl)]
theorem exec_load_mid {o : Oper} {ev : Operand → Value} {w : World} (x : Operand) (ho : o.op = .load 25 x) (b off : Nat) (hx : ev x = .pointer (some ⟨b, off, none⟩)) (l : List UInt8) (hl : l.length = 32) (hc : w.rangeAt b off (l.map B8)) : (execOp ev o).run Tryd.prog w = .ok (.value (.agg (cellsB l))) w := by
  unfold execOp
  simp only [ho, hx, Instr.loadAt, Instr.sureAddr, Sem.run_bind, Sem.run_pure, Result.andThen_ok, run_loadVar_mid w b off 25 (l.map B8) _ hc Tryd.underD rfl (by rw [List.length_map, hl]; exact Tryd.sizeD)]
  rfl
theorem exec_index {o : Oper} {ev : Operand → Value} {w : World} (x y : Operand) (ho : o.op = .indexAddr 29 x y) (b off n c i : Nat) (hx : ev x = .slice (some ⟨b, off, none⟩) n c) (hy : ev y = .int .i64 (i : Int)) (hi : i < n) : (execOp ev o).run Tryd.prog w = .ok (.value (.pointer (some ⟨b, off + i * 32, none⟩))) w := by
  have h1 : (i : Int) < (n : Int) := by omega
  unfold execOp
  simp only [ho, hx, hy]
  go_simp
theorem climb_cons (x y : Dg) (j : Nat) (r : List Dg) : climb x j (y :: r) = climb (climbStep x j y) (j / 2) r := rfl
theorem drop_cons {l : List Dg} {i : Nat} (h : i < l.length) : l.drop i = l.getD i [] :: l.drop (i + 1) := by
  rw [List.drop_eq_getElem_cons h]; congr 1; rw [List.getD_eq_getElem?_getD, List.getElem?_eq_getElem h]; rfl
set_option maxRecDepth 100000 in
set_option maxHeartbeats 4000000 in
theorem fc_len (a b : Dg) (idx : Int) (v v' : Value) (p q : List Dg) (w : World) (hal : a.length = 32) (hbl : b.length = 32) (hv : Digs w v p) (h32p : all32 p) (hv' : Digs w v' q) (h32q : all32 q) (hK : KFact w) (hne : ¬ p.length = q.length) :
    Calls Tryd.prog 7 #[.agg (cellsB a), .agg (cellsB b), .int .i64 idx, v, v'] w fun e w' => e = .returned (.bool true) ∧ Below w.heap.size w w' := by
  have hkl := hK.lt
  have HA := Lib.hid hal
  have HB := Lib.hid hbl
  have HSA := Lib.hid (Tryd.sizeD_of a hal)
  have HSB := Lib.hid (Tryd.sizeD_of b hbl)
  have H32P := Lib.hid h32p
  have H32Q := Lib.hid h32q
  obtain ⟨pav, pkv, rfl⟩ := hv.form
  obtain ⟨qav, qkv, rfl⟩ := hv'.form
  have hb0 : Below w.heap.size w ((w.alloc (.cells (cellsB a) 25)).alloc (.cells (cellsB b) 25)) := ((Below.refl _ _).alloc (Nat.le_refl _) _).alloc (by simp) _
  have ha0 : Row ((w.alloc (.cells (cellsB a) 25)).alloc (.cells (cellsB b) 25)) w.heap.size 25 (cellsB a) := (Row.new w _ _).alloc _
  have hc0 : Row ((w.alloc (.cells (cellsB a) 25)).alloc (.cells (cellsB b) 25)) (w.heap.size + 1) 25 (cellsB b) := by
    have h := Row.new (w.alloc (.cells (cellsB a) 25)) (cellsB b) 25
    rwa [show (w.alloc (.cells (cellsB a) 25)).heap.size = w.heap.size + 1 by simp] at h
  have hne2 : ¬ (p.length : Int) = (q.length : Int) := by omega
  clear hal hbl h32p h32q
  go_enter Tryd.func7, Tryd.ntmps7
  go_wp2_with fail
  refine (sane_any _ (hK.below hb0 hkl)).mono ?_
  rintro e w0 ⟨rfl, hb1⟩
  have hB0 := hb0.trans (hb1.mono hb0.size)
  have ha1 := ha0.below hb1 ha0.lt
  have hc1 := hc0.below hb1 hc0.lt
  clear hb0 ha0 hc0 hb1
  go_wp2
  go_ret
  exact ⟨rfl, hB0⟩
set_option maxRecDepth 100000 in
set_option maxHeartbeats 4000000 in
theorem fc_big (a b : Dg) (idx : Int) (v v' : Value) (p q : List Dg) (w : World) (hal : a.length = 32) (hbl : b.length = 32) (hv : Digs w v p) (h32p : all32 p) (hv' : Digs w v' q) (h32q : all32 q) (hK : KFact w) (hq : q.length = p.length) (hc : 6 < p.length) :
    Calls Tryd.prog 7 #[.agg (cellsB a), .agg (cellsB b), .int .i64 idx, v, v'] w fun e w' => e = .returned (.bool true) ∧ Below w.heap.size w w' := by
  have hkl := hK.lt
  have HA := Lib.hid hal
  have HB := Lib.hid hbl
  have HSA := Lib.hid (Tryd.sizeD_of a hal)
  have HSB := Lib.hid (Tryd.sizeD_of b hbl)
  have H32P := Lib.hid h32p
  have H32Q := Lib.hid h32q
  obtain ⟨pav, pkv, rfl⟩ := hv.form
  obtain ⟨qav, qkv, rfl⟩ := hv'.form
  have hb0 : Below w.heap.size w ((w.alloc (.cells (cellsB a) 25)).alloc (.cells (cellsB b) 25)) := ((Below.refl _ _).alloc (Nat.le_refl _) _).alloc (by simp) _
  have ha0 : Row ((w.alloc (.cells (cellsB a) 25)).alloc (.cells (cellsB b) 25)) w.heap.size 25 (cellsB a) := (Row.new w _ _).alloc _
  have hc0 : Row ((w.alloc (.cells (cellsB a) 25)).alloc (.cells (cellsB b) 25)) (w.heap.size + 1) 25 (cellsB b) := by
    have h := Row.new (w.alloc (.cells (cellsB a) 25)) (cellsB b) 25
    rwa [show (w.alloc (.cells (cellsB a) 25)).heap.size = w.heap.size + 1 by simp] at h
  have hc2 : (6 : Int) < (p.length : Int) := by omega
  rw [hq] at hv' ⊢
  clear hal hbl h32p h32q hq hc
  go_enter Tryd.func7, Tryd.ntmps7
  go_wp2_with fail
  refine (sane_any _ (hK.below hb0 hkl)).mono ?_
  rintro e w0 ⟨rfl, hb1⟩
  have hB0 := hb0.trans (hb1.mono hb0.size)
  have ha1 := ha0.below hb1 ha0.lt
  have hc1 := hc0.below hb1 hc0.lt
  clear hb0 ha0 hc0 hb1
  go_wp2
  go_ret
  exact ⟨rfl, hB0⟩
set_option maxRecDepth 100000 in
set_option maxHeartbeats 4000000 in
theorem fc_same (a b : Dg) (idx : Int) (v v' : Value) (p q : List Dg) (w : World) (hal : a.length = 32) (hbl : b.length = 32) (hv : Digs w v p) (h32p : all32 p) (hv' : Digs w v' q) (h32q : all32 q) (hK : KFact w) (hq : q.length = p.length) (hc : ¬ 6 < p.length) (hab : a = b) :
    Calls Tryd.prog 7 #[.agg (cellsB a), .agg (cellsB b), .int .i64 idx, v, v'] w fun e w' => e = .returned (.bool true) ∧ Below w.heap.size w w' := by
  have hkl := hK.lt
  have HA := Lib.hid hal
  have HB := Lib.hid hbl
  have HSA := Lib.hid (Tryd.sizeD_of a hal)
  have HSB := Lib.hid (Tryd.sizeD_of b hbl)
  have H32P := Lib.hid h32p
  have H32Q := Lib.hid h32q
  obtain ⟨pav, pkv, rfl⟩ := hv.form
  obtain ⟨qav, qkv, rfl⟩ := hv'.form
  have hb0 : Below w.heap.size w ((w.alloc (.cells (cellsB a) 25)).alloc (.cells (cellsB b) 25)) := ((Below.refl _ _).alloc (Nat.le_refl _) _).alloc (by simp) _
  have ha0 : Row ((w.alloc (.cells (cellsB a) 25)).alloc (.cells (cellsB b) 25)) w.heap.size 25 (cellsB a) := (Row.new w _ _).alloc _
  have hc0 : Row ((w.alloc (.cells (cellsB a) 25)).alloc (.cells (cellsB b) 25)) (w.heap.size + 1) 25 (cellsB b) := by
    have h := Row.new (w.alloc (.cells (cellsB a) 25)) (cellsB b) 25
    rwa [show (w.alloc (.cells (cellsB a) 25)).heap.size = w.heap.size + 1 by simp] at h
  have hc2 : ¬ (6 : Int) < (p.length : Int) := by omega
  have hd6 : decide ((6 : Int) < (p.length : Int)) = false := decide_eq_false hc2
  rw [hq] at hv' ⊢
  subst hab
  have hqe := fun w => eqlB a a HA.out HA.out w
  simp only [decide_true] at hqe
  clear hal hbl h32p h32q hq hc
  go_enter Tryd.func7, Tryd.ntmps7
  go_wp2_with fail
  refine (sane_any _ (hK.below hb0 hkl)).mono ?_
  rintro e w0 ⟨rfl, hb1⟩
  have hB0 := hb0.trans (hb1.mono hb0.size)
  have ha1 := ha0.below hb1 ha0.lt
  have hc1 := hc0.below hb1 hc0.lt
  clear hb0 ha0 hc0 hb1
  have hqe0 := hqe w0
  go_wp2_with (first | (refine wpList_load_on 25 (.tmp 5) rfl rfl (w.heap.size) rfl 25 (cellsB a) (0, 0) _ ha1 Tryd.underD rfl HSA.out ?_) | (refine wpList_load_on 25 (.tmp 6) rfl rfl (w.heap.size + 1) rfl 25 (cellsB a) (0, 0) _ hc1 Tryd.underD rfl HSA.out ?_))
  go_ret
  exact ⟨rfl, hB0⟩
set_option maxRecDepth 100000 in
set_option maxHeartbeats 4000000 in
theorem fc_bad (a b : Dg) (idx : Int) (v v' : Value) (p q : List Dg) (w : World) (hal : a.length = 32) (hbl : b.length = 32) (hv : Digs w v p) (h32p : all32 p) (hv' : Digs w v' q) (h32q : all32 q) (hK : KFact w) (hq : q.length = p.length) (hc : ¬ 6 < p.length) (hab : ¬ a = b) (hok : okClimb idx p.length = false) :
    Calls Tryd.prog 7 #[.agg (cellsB a), .agg (cellsB b), .int .i64 idx, v, v'] w fun e w' => e = .returned (.bool true) ∧ Below w.heap.size w w' := by
  have hkl := hK.lt
  have HA := Lib.hid hal
  have HB := Lib.hid hbl
  have HSA := Lib.hid (Tryd.sizeD_of a hal)
  have HSB := Lib.hid (Tryd.sizeD_of b hbl)
  have H32P := Lib.hid h32p
  have H32Q := Lib.hid h32q
  obtain ⟨pav, pkv, rfl⟩ := hv.form
  obtain ⟨qav, qkv, rfl⟩ := hv'.form
  have hb0 : Below w.heap.size w ((w.alloc (.cells (cellsB a) 25)).alloc (.cells (cellsB b) 25)) := ((Below.refl _ _).alloc (Nat.le_refl _) _).alloc (by simp) _
  have ha0 : Row ((w.alloc (.cells (cellsB a) 25)).alloc (.cells (cellsB b) 25)) w.heap.size 25 (cellsB a) := (Row.new w _ _).alloc _
  have hc0 : Row ((w.alloc (.cells (cellsB a) 25)).alloc (.cells (cellsB b) 25)) (w.heap.size + 1) 25 (cellsB b) := by
    have h := Row.new (w.alloc (.cells (cellsB a) 25)) (cellsB b) 25
    rwa [show (w.alloc (.cells (cellsB a) 25)).heap.size = w.heap.size + 1 by simp] at h
  have hc2 : ¬ (6 : Int) < (p.length : Int) := by omega
  have hd6 : decide ((6 : Int) < (p.length : Int)) = false := decide_eq_false hc2
  have hqe := fun w => eqlB a b HA.out HB.out w
  rw [decide_eq_false hab] at hqe
  have HER : Hid (errC idx p.length = 1) := Lib.hid (by unfold errC; rw [hok]; rfl)
  have HER2 : Hid (errC idx q.length = 1) := Lib.hid (by unfold errC; rw [hq, hok]; rfl)
  have HXY : Hid (climbR a idx p = climbR a idx p ∧ climbR b idx q = climbR b idx q) := Lib.hid ⟨rfl, rfl⟩
  clear hok
  rw [hq] at hv' ⊢
  clear hal hbl h32p h32q hq hc
  go_enter Tryd.func7, Tryd.ntmps7
  go_wp2_with fail
  refine (sane_any _ (hK.below hb0 hkl)).mono ?_
  rintro e w0 ⟨rfl, hb1⟩
  have hB0 := hb0.trans (hb1.mono hb0.size)
  have ha1 := ha0.below hb1 ha0.lt
  have hc1 := hc0.below hb1 hc0.lt
  clear hb0 ha0 hc0 hb1
  have hqe0 := hqe w0
  go_wp2_with (first | (refine wpList_load_on 25 (.tmp 5) rfl rfl (w.heap.size) rfl 25 (cellsB a) (0, 0) _ ha1 Tryd.underD rfl HSA.out ?_) | (refine wpList_load_on 25 (.tmp 6) rfl rfl (w.heap.size + 1) rfl 25 (cellsB b) (0, 0) _ hc1 Tryd.underD rfl HSB.out ?_))
  refine (climb_any a idx p _ w0 HA.out (hv.later hB0) H32P.out (hK.below hB0 hkl)).mono ?_
  rintro e w1 ⟨rfl, hb1⟩
  obtain ⟨x, hx⟩ : ∃ x, climbR a idx p = x := ⟨_, rfl⟩
  have hxl : x.length = 32 := by rw [← hx]; exact climbR_len _ _ _ HA.out
  have HX := Lib.hid hxl
  have HSX := Lib.hid (Tryd.sizeD_of x hxl)
  have HCX : Hid ((cellsB x).size = (cellsB (List.replicate 32 0)).size) := Lib.hid (by rw [cellsB_size, hxl]; rfl)
  rw [hx, HER.out]
  have hB1 := hB0.trans (hb1.mono hB0.size)
  have ha2 := ha1.below hb1 ha1.lt
  have hc2' := hc1.below hb1 hc1.lt
  clear hx hxl hb1 ha1 hc1 hqe0 hB0
  have hl1 := ha2.lt
  have hl2 := hc2'.lt
  go_wp2_with (first | (refine wpList_store_row rfl 25 (.tmp 11) (.tmp 42) rfl w1.heap.size rfl (cellsB x) (cellsB (List.replicate 32 0)) 25 rfl (Row.new w1 _ _) HCX.out HSX.out (cellsB_one _) ?_; intro w2 hg2 hrx hz2; clear hz2; have hb2 := box_below hg2; clear hg2; have ha3 := ha2.below hb2 hl1; have hc3 := hc2'.below hb2 hl2; have hB2 := hB1.trans (hb2.mono hB1.size); clear hb2 ha2 hc2' hB1) | (refine wpList_load_on 25 (.tmp 6) rfl rfl (w.heap.size + 1) rfl 25 (cellsB b) (0, 0) _ hc3 Tryd.underD rfl HSB.out ?_))
  refine (climb_any b idx q _ w2 HB.out (hv'.later hB2) H32Q.out (hK.below hB2 hkl)).mono ?_
  rintro e w3 ⟨rfl, hb3⟩
  obtain ⟨y, hx⟩ : ∃ y, climbR b idx q = y := ⟨_, rfl⟩
  have hxl : y.length = 32 := by rw [← hx]; exact climbR_len _ _ _ HB.out
  have HY := Lib.hid hxl
  have HSY := Lib.hid (Tryd.sizeD_of y hxl)
  have HCY : Hid ((cellsB y).size = (cellsB (List.replicate 32 0)).size) := Lib.hid (by rw [cellsB_size, hxl]; rfl)
  rw [hx, HER2.out]
  have hB3 := hB2.trans (hb3.mono hB2.size)
  have ha4 := ha3.below hb3 ha3.lt
  have hc4 := hc3.below hb3 hc3.lt
  have hrx3 := hrx.below hb3 hrx.lt
  clear hx hxl hb3 ha3 hc3 hrx hB2
  have hl3 := ha4.lt
  have hl4 := hc4.lt
  have hl5 := hrx3.lt
  have hqn := fun w => neqB x y HX.out HY.out w
  
  go_wp2_with (first | (refine wpList_store_row rfl 25 (.tmp 13) (.tmp 49) rfl w3.heap.size rfl (cellsB y) (cellsB (List.replicate 32 0)) 25 rfl (Row.new w3 _ _) HCY.out HSY.out (cellsB_one _) ?_; intro w4 hg4 hry hz4; clear hz4; have hb4 := box_below hg4; clear hg4; have ha5 := ha4.below hb4 hl3; have hc5 := hc4.below hb4 hl4; have hrx4 := hrx3.below hb4 hl5; have hB4 := hB3.trans (hb4.mono hB3.size); have hqn4 := hqn w4; clear hb4 ha4 hc4 hrx3 hB3) | (refine wpList_load_on 25 (.tmp 11) rfl rfl (w1.heap.size) rfl 25 (cellsB x) (0, 0) _ hrx4 Tryd.underD rfl HSX.out ?_) | (refine wpList_load_on 25 (.tmp 13) rfl rfl (w3.heap.size) rfl 25 (cellsB y) (0, 0) _ hry Tryd.underD rfl HSY.out ?_))
  go_ret
  exact ⟨rfl, hB4⟩
set_option maxRecDepth 100000 in
set_option maxHeartbeats 4000000 in
theorem fc_diff (a b : Dg) (idx : Int) (v v' : Value) (p q : List Dg) (w : World) (hal : a.length = 32) (hbl : b.length = 32) (hv : Digs w v p) (h32p : all32 p) (hv' : Digs w v' q) (h32q : all32 q) (hK : KFact w) (hq : q.length = p.length) (hc : ¬ 6 < p.length) (hab : ¬ a = b) (hok : okClimb idx p.length = true) (hxy : ¬ climbR a idx p = climbR b idx q) :
    Calls Tryd.prog 7 #[.agg (cellsB a), .agg (cellsB b), .int .i64 idx, v, v'] w fun e w' => e = .returned (.bool true) ∧ Below w.heap.size w w' := by
  have hkl := hK.lt
  have HA := Lib.hid hal
  have HB := Lib.hid hbl
  have HSA := Lib.hid (Tryd.sizeD_of a hal)
  have HSB := Lib.hid (Tryd.sizeD_of b hbl)
  have H32P := Lib.hid h32p
  have H32Q := Lib.hid h32q
  obtain ⟨pav, pkv, rfl⟩ := hv.form
  obtain ⟨qav, qkv, rfl⟩ := hv'.form
  have hb0 : Below w.heap.size w ((w.alloc (.cells (cellsB a) 25)).alloc (.cells (cellsB b) 25)) := ((Below.refl _ _).alloc (Nat.le_refl _) _).alloc (by simp) _
  have ha0 : Row ((w.alloc (.cells (cellsB a) 25)).alloc (.cells (cellsB b) 25)) w.heap.size 25 (cellsB a) := (Row.new w _ _).alloc _
  have hc0 : Row ((w.alloc (.cells (cellsB a) 25)).alloc (.cells (cellsB b) 25)) (w.heap.size + 1) 25 (cellsB b) := by
    have h := Row.new (w.alloc (.cells (cellsB a) 25)) (cellsB b) 25
    rwa [show (w.alloc (.cells (cellsB a) 25)).heap.size = w.heap.size + 1 by simp] at h
  have hc2 : ¬ (6 : Int) < (p.length : Int) := by omega
  have hd6 : decide ((6 : Int) < (p.length : Int)) = false := decide_eq_false hc2
  have hqe := fun w => eqlB a b HA.out HB.out w
  rw [decide_eq_false hab] at hqe
  have HER : Hid (errC idx p.length = 0) := Lib.hid (by unfold errC; rw [hok]; rfl)
  have HER2 : Hid (errC idx q.length = 0) := Lib.hid (by unfold errC; rw [hq, hok]; rfl)
  have HXY := Lib.hid hxy
  clear hok hxy
  rw [hq] at hv' ⊢
  clear hal hbl h32p h32q hq hc
  go_enter Tryd.func7, Tryd.ntmps7
  go_wp2_with fail
  refine (sane_any _ (hK.below hb0 hkl)).mono ?_
  rintro e w0 ⟨rfl, hb1⟩
  have hB0 := hb0.trans (hb1.mono hb0.size)
  have ha1 := ha0.below hb1 ha0.lt
  have hc1 := hc0.below hb1 hc0.lt
  clear hb0 ha0 hc0 hb1
  have hqe0 := hqe w0
  go_wp2_with (first | (refine wpList_load_on 25 (.tmp 5) rfl rfl (w.heap.size) rfl 25 (cellsB a) (0, 0) _ ha1 Tryd.underD rfl HSA.out ?_) | (refine wpList_load_on 25 (.tmp 6) rfl rfl (w.heap.size + 1) rfl 25 (cellsB b) (0, 0) _ hc1 Tryd.underD rfl HSB.out ?_))
  refine (climb_any a idx p _ w0 HA.out (hv.later hB0) H32P.out (hK.below hB0 hkl)).mono ?_
  rintro e w1 ⟨rfl, hb1⟩
  obtain ⟨x, hx⟩ : ∃ x, climbR a idx p = x := ⟨_, rfl⟩
  have hxl : x.length = 32 := by rw [← hx]; exact climbR_len _ _ _ HA.out
  have HX := Lib.hid hxl
  have HSX := Lib.hid (Tryd.sizeD_of x hxl)
  have HCX : Hid ((cellsB x).size = (cellsB (List.replicate 32 0)).size) := Lib.hid (by rw [cellsB_size, hxl]; rfl)
  rw [hx, HER.out]
  rw [hx] at HXY
  have hB1 := hB0.trans (hb1.mono hB0.size)
  have ha2 := ha1.below hb1 ha1.lt
  have hc2' := hc1.below hb1 hc1.lt
  clear hx hxl hb1 ha1 hc1 hqe0 hB0
  have hl1 := ha2.lt
  have hl2 := hc2'.lt
  go_wp2_with (first | (refine wpList_store_row rfl 25 (.tmp 11) (.tmp 42) rfl w1.heap.size rfl (cellsB x) (cellsB (List.replicate 32 0)) 25 rfl (Row.new w1 _ _) HCX.out HSX.out (cellsB_one _) ?_; intro w2 hg2 hrx hz2; clear hz2; have hb2 := box_below hg2; clear hg2; have ha3 := ha2.below hb2 hl1; have hc3 := hc2'.below hb2 hl2; have hB2 := hB1.trans (hb2.mono hB1.size); clear hb2 ha2 hc2' hB1) | (refine wpList_load_on 25 (.tmp 6) rfl rfl (w.heap.size + 1) rfl 25 (cellsB b) (0, 0) _ hc3 Tryd.underD rfl HSB.out ?_))
  refine (climb_any b idx q _ w2 HB.out (hv'.later hB2) H32Q.out (hK.below hB2 hkl)).mono ?_
  rintro e w3 ⟨rfl, hb3⟩
  obtain ⟨y, hx⟩ : ∃ y, climbR b idx q = y := ⟨_, rfl⟩
  have hxl : y.length = 32 := by rw [← hx]; exact climbR_len _ _ _ HB.out
  have HY := Lib.hid hxl
  have HSY := Lib.hid (Tryd.sizeD_of y hxl)
  have HCY : Hid ((cellsB y).size = (cellsB (List.replicate 32 0)).size) := Lib.hid (by rw [cellsB_size, hxl]; rfl)
  rw [hx, HER2.out]
  rw [hx] at HXY
  have hB3 := hB2.trans (hb3.mono hB2.size)
  have ha4 := ha3.below hb3 ha3.lt
  have hc4 := hc3.below hb3 hc3.lt
  have hrx3 := hrx.below hb3 hrx.lt
  clear hx hxl hb3 ha3 hc3 hrx hB2
  have hl3 := ha4.lt
  have hl4 := hc4.lt
  have hl5 := hrx3.lt
  have hqn := fun w => neqB x y HX.out HY.out w
  rw [decide_eq_false HXY.out] at hqn; simp only [Bool.not_false] at hqn
  go_wp2_with (first | (refine wpList_store_row rfl 25 (.tmp 13) (.tmp 49) rfl w3.heap.size rfl (cellsB y) (cellsB (List.replicate 32 0)) 25 rfl (Row.new w3 _ _) HCY.out HSY.out (cellsB_one _) ?_; intro w4 hg4 hry hz4; clear hz4; have hb4 := box_below hg4; clear hg4; have ha5 := ha4.below hb4 hl3; have hc5 := hc4.below hb4 hl4; have hrx4 := hrx3.below hb4 hl5; have hB4 := hB3.trans (hb4.mono hB3.size); have hqn4 := hqn w4; clear hb4 ha4 hc4 hrx3 hB3) | (refine wpList_load_on 25 (.tmp 11) rfl rfl (w1.heap.size) rfl 25 (cellsB x) (0, 0) _ hrx4 Tryd.underD rfl HSX.out ?_) | (refine wpList_load_on 25 (.tmp 13) rfl rfl (w3.heap.size) rfl 25 (cellsB y) (0, 0) _ hry Tryd.underD rfl HSY.out ?_))
  go_ret
  exact ⟨rfl, hB4⟩
set_option maxRecDepth 100000 in
set_option maxHeartbeats 4000000 in
theorem fc_loop (a b : Dg) (idx : Int) (v v' : Value) (p q : List Dg) (w : World) (hal : a.length = 32) (hbl : b.length = 32) (hv : Digs w v p) (h32p : all32 p) (hv' : Digs w v' q) (h32q : all32 q) (hK : KFact w) (hq : q.length = p.length) (hc : ¬ 6 < p.length) (hub : idx ≤ 9223372036854775807) (hab : ¬ a = b) (hok : okClimb idx p.length = true) (hxy : climbR a idx p = climbR b idx q) :
    Calls Tryd.prog 7 #[.agg (cellsB a), .agg (cellsB b), .int .i64 idx, v, v'] w fun e w' => e = .returned (.bool true) ∧ Below w.heap.size w w' := by
  have hkl := hK.lt
  have HA := Lib.hid hal
  have HB := Lib.hid hbl
  have HSA := Lib.hid (Tryd.sizeD_of a hal)
  have HSB := Lib.hid (Tryd.sizeD_of b hbl)
  have H32P := Lib.hid h32p
  have H32Q := Lib.hid h32q
  obtain ⟨pav, pkv, rfl⟩ := hv.form
  obtain ⟨qav, qkv, rfl⟩ := hv'.form
  have hb0 : Below w.heap.size w ((w.alloc (.cells (cellsB a) 25)).alloc (.cells (cellsB b) 25)) := ((Below.refl _ _).alloc (Nat.le_refl _) _).alloc (by simp) _
  have ha0 : Row ((w.alloc (.cells (cellsB a) 25)).alloc (.cells (cellsB b) 25)) w.heap.size 25 (cellsB a) := (Row.new w _ _).alloc _
  have hc0 : Row ((w.alloc (.cells (cellsB a) 25)).alloc (.cells (cellsB b) 25)) (w.heap.size + 1) 25 (cellsB b) := by
    have h := Row.new (w.alloc (.cells (cellsB a) 25)) (cellsB b) 25
    rwa [show (w.alloc (.cells (cellsB a) 25)).heap.size = w.heap.size + 1 by simp] at h
  have hc2 : ¬ (6 : Int) < (p.length : Int) := by omega
  have hd6 : decide ((6 : Int) < (p.length : Int)) = false := decide_eq_false hc2
  have hqe := fun w => eqlB a b HA.out HB.out w
  rw [decide_eq_false hab] at hqe
  have HER : Hid (errC idx p.length = 0) := Lib.hid (by unfold errC; rw [hok]; rfl)
  have HER2 : Hid (errC idx q.length = 0) := Lib.hid (by unfold errC; rw [hq, hok]; rfl)
  have HXY := Lib.hid hxy
  obtain ⟨-, hi0, -⟩ := (okClimb_iff _ _).1 hok
  obtain ⟨j0, rfl⟩ := Int.eq_ofNat_of_zero_le hi0
  have HCL0 : Hid (climb a j0 p = climb b j0 q) := Lib.hid (by
    have h := hxy
    unfold climbR at h
    rw [if_pos hok, if_pos (by rw [hq]; exact hok)] at h
    exact h)
  have HAB := Lib.hid hab
  have HQL := Lib.hid hq
  have HUB : Hid (j0 ≤ 9223372036854775807) := Lib.hid (by omega)
  have HATP : Hid (0 < p.length → ∃ pb po, pav = some ⟨pb, po, none⟩ ∧ BytesAt w pb po p.flatten) := Lib.hid fun hp => by
    obtain ⟨pb, po, e, -, -, -, hat⟩ := hv.at hp; exact ⟨pb, po, e, hat⟩
  have HATQ : Hid (0 < q.length → ∃ qb qo, qav = some ⟨qb, qo, none⟩ ∧ BytesAt w qb qo q.flatten) := Lib.hid fun hp => by
    obtain ⟨pb, po, e, -, -, -, hat⟩ := hv'.at hp; exact ⟨pb, po, e, hat⟩
  clear hok hxy hi0 hub
  rw [hq] at hv' ⊢
  clear hal hbl h32p h32q hq hc hab
  go_enter Tryd.func7, Tryd.ntmps7
  go_wp2_with fail
  refine (sane_any _ (hK.below hb0 hkl)).mono ?_
  rintro e w0 ⟨rfl, hb1⟩
  have hB0 := hb0.trans (hb1.mono hb0.size)
  have ha1 := ha0.below hb1 ha0.lt
  have hc1 := hc0.below hb1 hc0.lt
  clear hb0 ha0 hc0 hb1
  have hqe0 := hqe w0
  go_wp2_with (first | (refine wpList_load_on 25 (.tmp 5) rfl rfl (w.heap.size) rfl 25 (cellsB a) (0, 0) _ ha1 Tryd.underD rfl HSA.out ?_) | (refine wpList_load_on 25 (.tmp 6) rfl rfl (w.heap.size + 1) rfl 25 (cellsB b) (0, 0) _ hc1 Tryd.underD rfl HSB.out ?_))
  refine (climb_any a (j0 : Int) p _ w0 HA.out (hv.later hB0) H32P.out (hK.below hB0 hkl)).mono ?_
  rintro e w1 ⟨rfl, hb1⟩
  obtain ⟨x, hx⟩ : ∃ x, climbR a (j0 : Int) p = x := ⟨_, rfl⟩
  have hxl : x.length = 32 := by rw [← hx]; exact climbR_len _ _ _ HA.out
  have HX := Lib.hid hxl
  have HSX := Lib.hid (Tryd.sizeD_of x hxl)
  have HCX : Hid ((cellsB x).size = (cellsB (List.replicate 32 0)).size) := Lib.hid (by rw [cellsB_size, hxl]; rfl)
  rw [hx, HER.out]
  rw [hx] at HXY
  have hB1 := hB0.trans (hb1.mono hB0.size)
  have ha2 := ha1.below hb1 ha1.lt
  have hc2' := hc1.below hb1 hc1.lt
  clear hx hxl hb1 ha1 hc1 hqe0 hB0
  have hl1 := ha2.lt
  have hl2 := hc2'.lt
  go_wp2_with (first | (refine wpList_store_row rfl 25 (.tmp 11) (.tmp 42) rfl w1.heap.size rfl (cellsB x) (cellsB (List.replicate 32 0)) 25 rfl (Row.new w1 _ _) HCX.out HSX.out (cellsB_one _) ?_; intro w2 hg2 hrx hz2; clear hz2; have hb2 := box_below hg2; clear hg2; have ha3 := ha2.below hb2 hl1; have hc3 := hc2'.below hb2 hl2; have hB2 := hB1.trans (hb2.mono hB1.size); clear hb2 ha2 hc2' hB1) | (refine wpList_load_on 25 (.tmp 6) rfl rfl (w.heap.size + 1) rfl 25 (cellsB b) (0, 0) _ hc3 Tryd.underD rfl HSB.out ?_))
  refine (climb_any b (j0 : Int) q _ w2 HB.out (hv'.later hB2) H32Q.out (hK.below hB2 hkl)).mono ?_
  rintro e w3 ⟨rfl, hb3⟩
  obtain ⟨y, hx⟩ : ∃ y, climbR b (j0 : Int) q = y := ⟨_, rfl⟩
  have hxl : y.length = 32 := by rw [← hx]; exact climbR_len _ _ _ HB.out
  have HY := Lib.hid hxl
  have HSY := Lib.hid (Tryd.sizeD_of y hxl)
  have HCY : Hid ((cellsB y).size = (cellsB (List.replicate 32 0)).size) := Lib.hid (by rw [cellsB_size, hxl]; rfl)
  rw [hx, HER2.out]
  rw [hx] at HXY
  have hB3 := hB2.trans (hb3.mono hB2.size)
  have ha4 := ha3.below hb3 ha3.lt
  have hc4 := hc3.below hb3 hc3.lt
  have hrx3 := hrx.below hb3 hrx.lt
  clear hx hxl hb3 ha3 hc3 hrx hB2
  have hl3 := ha4.lt
  have hl4 := hc4.lt
  have hl5 := hrx3.lt
  have hqn := fun w => neqB x y HX.out HY.out w
  rw [decide_eq_true HXY.out] at hqn; simp only [Bool.not_true] at hqn
  go_wp2_with (first | (refine wpList_store_row rfl 25 (.tmp 13) (.tmp 49) rfl w3.heap.size rfl (cellsB y) (cellsB (List.replicate 32 0)) 25 rfl (Row.new w3 _ _) HCY.out HSY.out (cellsB_one _) ?_; intro w4 hg4 hry hz4; clear hz4; have hb4 := box_below hg4; clear hg4; have ha5 := ha4.below hb4 hl3; have hc5 := hc4.below hb4 hl4; have hrx4 := hrx3.below hb4 hl5; have hB4 := hB3.trans (hb4.mono hB3.size); have hqn4 := hqn w4; clear hb4 ha4 hc4 hrx3 hB3) | (refine wpList_load_on 25 (.tmp 11) rfl rfl (w1.heap.size) rfl 25 (cellsB x) (0, 0) _ hrx4 Tryd.underD rfl HSX.out ?_) | (refine wpList_load_on 25 (.tmp 13) rfl rfl (w3.heap.size) rfl 25 (cellsB y) (0, 0) _ hry Tryd.underD rfl HSY.out ?_))
  clear hrx4 hry hqn hqn4 hqe
  go_loopw [67, 2] (fun t ix wr => ∃ (i : Nat) (a1 b1 : Dg) (j : Nat), i ≤ p.length ∧ t = .int .i64 (i : Int) ∧ ix = .int .i64 (j : Int) ∧ Below w.heap.size w wr ∧ Row wr w.heap.size 25 (cellsB a1) ∧ Row wr (w.heap.size + 1) 25 (cellsB b1) ∧ a1.length = 32 ∧ b1.length = 32 ∧ ¬ a1 = b1 ∧ climb a1 j (p.drop i) = climb b1 j (q.drop i) ∧ j ≤ 9223372036854775807) (fun t _ _ => p.length - (intOf t).toNat)
  case atStart => exact ⟨0, a, b, j0, by omega, rfl, rfl, hB4, ha5, hc5, HA.out, HB.out, HAB.out, HCL0.out, HUB.out⟩
  case round =>
    clear hB4 ha5 hc5
    generalize hR12 : Code.region 12 _ _ = R12
    generalize hR14 : Code.region 14 _ _ = R14
    generalize hR15 : Code.region 15 _ _ = R15
    have HR12 := Lib.hid hR12
    have HR14 := Lib.hid hR14
    have HR15 := Lib.hid hR15
    clear hR12 hR14 hR15
    obtain ⟨i, a1, b1, j, hi, rfl, rfl, hB, ha, hcb, hA1, hB1, hne, hcl, hj⟩ := hrel
    have HA1 := Lib.hid hA1
    have HB1 := Lib.hid hB1
    have HNE := Lib.hid hne
    by_cases hlt : i < p.length
    · have hlt2 : (i : Int) < (p.length : Int) := by omega
      have hltq : i < q.length := by rw [HQL.out]; exact hlt
      obtain ⟨pb, po, rfl, hatp⟩ := HATP.out (by omega)
      obtain ⟨qb, qo, rfl, hatq⟩ := HATQ.out (by omega)
      have hcy := range_below (hatp.elem H32P.out i hlt) hB
      have hcz := range_below (hatq.elem H32Q.out i hltq) hB
      have HY1 := Lib.hid (all32_getD H32P.out i hlt)
      have HZ1 := Lib.hid (all32_getD H32Q.out i hltq)
      rw [drop_cons hlt, drop_cons hltq, climb_cons, climb_cons] at hcl
      generalize p.getD i [] = y at *
      generalize q.getD i [] = z at *
      have hst2 : ∀ u v : Dg, (climbStep u j v).length = 32 := fun u v => climbStep_len u v j
      obtain ⟨jj, hjj⟩ : ∃ k, j / 2 = k := ⟨_, rfl⟩
      have hqi : (j : Int) / 2 = (jj : Int) := by omega
      have hwj : IntKind.i64.wrap (jj : Int) = (jj : Int) := IntWalk.i64_in _ (by omega)
      rw [hjj] at hcl
      have hjl : jj ≤ 9223372036854775807 := by omega
      have hl5 := ha.lt
      have hl6 := hcb.lt
      have hBz := hB.size
      clear hA1 hB1 hne hatp hatq hltq hjj
      by_cases hod : j % 2 = 1
      · have hod' : (j : Int) % 2 = 1 := by omega
        have e1 : climbStep a1 j y = pairOf y a1 := by unfold climbStep; rw [if_neg (by omega)]
        have e2 : climbStep b1 j z = pairOf z b1 := by unfold climbStep; rw [if_neg (by omega)]
        rw [e1, e2] at hcl
        obtain ⟨a2, ea2⟩ : ∃ x, pairOf y a1 = x := ⟨_, rfl⟩
        obtain ⟨b2, eb2⟩ : ∃ x, pairOf z b1 = x := ⟨_, rfl⟩
        have HA2 : Hid (a2.length = 32) := Lib.hid (by rw [← ea2]; exact pairOf_len _ _)
        have HB2 : Hid (b2.length = 32) := Lib.hid (by rw [← eb2]; exact pairOf_len _ _)
        rw [ea2, eb2] at hcl
        have HPA := Lib.hid ea2
        have HPB := Lib.hid eb2
        have HCL := Lib.hid hcl
        have HSA2 := Lib.hid (Tryd.sizeD_of _ HA2.out)
        have HSB2 := Lib.hid (Tryd.sizeD_of _ HB2.out)
        have HOR : Hid (y = z → ¬ a1 = b1) := Lib.hid fun _ => HNE.out
        clear e1 e2 ea2 eb2 hcl hod hst2
        go_wp2
        obtain ⟨B, eB⟩ : ∃ B, wr.heap.size = B := ⟨_, rfl⟩
        rw [← HR12.out]
        clear HR12
        refine wp_gen fun a0 ha0 => ?_
        have i5 : a0.eval (.tmp 5) = .pointer (some ⟨w.heap.size, 0, none⟩) := by rw [ha0]; rfl
        have i6 : a0.eval (.tmp 6) = .pointer (some ⟨w.heap.size + 1, 0, none⟩) := by rw [ha0]; rfl
        have i3 : a0.eval (.tmp 3) = .slice (some ⟨pb, po, none⟩) p.length pkv := by rw [ha0]; rfl
        have i4 : a0.eval (.tmp 4) = .slice (some ⟨qb, qo, none⟩) p.length qkv := by rw [ha0]; rfl
        have i15 : a0.eval (.tmp 15) = .int .i64 (i : Int) := by rw [ha0]; rfl
        have hsz : a0.tmps.size = 113 := by rw [ha0]; rfl
        refine wp_region_inv_apart (B := B) 14 [some 70, some 71, some 72, some 73, some 74, some 75, some 76, some 77, some 78, some 79, some 16, some 17, some 18, some 19, none, none, none, none] [Asrt.eq (.agg (cellsB (a1))), Asrt.eq (.agg (cellsB (b1))), Asrt.eq (.slice (some ⟨pb, po, none⟩) p.length pkv), Asrt.eq (.int .i64 (i : Int)), Asrt.eq (.pointer (some ⟨pb, po + i * 32, none⟩)), Asrt.eq (.agg (cellsB (y))), Asrt.eq (.slice (some ⟨qb, qo, none⟩) p.length qkv), Asrt.eq (.int .i64 (i : Int)), Asrt.eq (.pointer (some ⟨qb, qo + i * 32, none⟩)), Asrt.eq (.agg (cellsB (z))), Asrt.box, Asrt.box, Asrt.box, Asrt.box] [(1, .agg (cellsB (b1))), (2, .slice (some ⟨pb, po, none⟩) p.length pkv), (3, .int .i64 (i : Int)), (4, .pointer (some ⟨pb, po + i * 32, none⟩)), (5, .agg (cellsB (y))), (6, .slice (some ⟨qb, qo, none⟩) p.length qkv), (7, .int .i64 (i : Int)), (8, .pointer (some ⟨qb, qo + i * 32, none⟩)), (9, .agg (cellsB (z)))] [10, 11, 12, 13] rfl (by as_aux_lemma => kernel_rfl) (by rw [hsz]; as_aux_lemma => kernel_rfl) (by as_aux_lemma => kernel_rfl) (by as_aux_lemma => kernel_rfl) (by decide) ⟨rfl, rfl, rfl, rfl, rfl, rfl, rfl, rfl, rfl, trivial⟩ (fun i hi o ho => by simp only [List.mem_cons, List.not_mem_nil, or_false] at hi; rcases hi with rfl | rfl | rfl | rfl <;> (cases ho; exact ⟨fresh_digest rfl rfl, rfl⟩)) (fun i hi => by simp only [List.mem_cons, List.not_mem_nil, or_false] at hi; rcases hi with rfl | rfl | rfl | rfl <;> exact ⟨by decide, by simp⟩) (fun i hi g w h => by simp only [List.mem_cons, List.not_mem_nil, or_false] at hi; rcases hi with rfl | rfl | rfl | rfl <;> exact box_lt h) (by omega) ⟨?_, ?_, ?_, ?_, ?_, ?_, ?_, ?_, ?_, ?_, ?_, ?_, ?_, ?_, trivial⟩ ?_
        · as_aux_lemma =>
            intro ev w1 hg hin hc hgl hfn hd
            have hB := hg.top
            have g5 : ev (.tmp 5) = .pointer (some ⟨w.heap.size, 0, none⟩) := (hin 5 (by kernel_rfl)).trans i5
            clear hin hd
            refine step_on (guard_none rfl) fun K hK => ?_
            refine yg_load_row 25 (.tmp 5) rfl w.heap.size g5 25 (cellsB (a1)) (0, 0) _ (ha.below hg.bl (by omega)) Tryd.underD rfl (Tryd.sizeD_of _ HA1.out) ?_
            exact hK _ _ rfl (Grow.refl hB)
        · as_aux_lemma =>
            intro ev w1 hg hin hc hgl hfn hd
            have hB := hg.top
            have g6 : ev (.tmp 6) = .pointer (some ⟨w.heap.size + 1, 0, none⟩) := (hin 6 (by kernel_rfl)).trans i6
            clear hin hd
            refine step_on (guard_none rfl) fun K hK => ?_
            refine yg_load_row 25 (.tmp 6) rfl (w.heap.size + 1) g6 25 (cellsB (b1)) (0, 0) _ (hcb.below hg.bl (by omega)) Tryd.underD rfl (Tryd.sizeD_of _ HB1.out) ?_
            exact hK _ _ rfl (Grow.refl hB)
        · as_aux_lemma =>
            intro ev w1 hg hin hc hgl hfn hd
            have hB := hg.top
            have g3 : ev (.tmp 3) = .slice (some ⟨pb, po, none⟩) p.length pkv := (hin 3 (by kernel_rfl)).trans i3
            clear hin hd
            refine step_on (guard_none rfl) fun K hK => ?_
            unfold YieldsG
            go_simp
            exact hK _ _ rfl (Grow.refl hB)
        · as_aux_lemma =>
            intro ev w1 hg hin hc hgl hfn hd
            have hB := hg.top
            have g15 : ev (.tmp 15) = .int .i64 (i : Int) := (hin 15 (by kernel_rfl)).trans i15
            clear hin hd
            refine step_on (guard_none rfl) fun K hK => ?_
            unfold YieldsG
            go_simp
            exact hK _ _ rfl (Grow.refl hB)
        · as_aux_lemma =>
            intro ev w1 hg hin hc hgl hfn hd
            have hB := hg.top
            have f72 : (ev (.tmp 72)) = .slice (some ⟨pb, po, none⟩) p.length pkv := hd.1 rfl _ rfl
            have f73 : (ev (.tmp 73)) = .int .i64 (i : Int) := hd.2.1 rfl _ rfl
            clear hin hd
            refine step_on (guard_none rfl) fun K hK => ?_
            unfold YieldsG
            go_simp
            exact hK _ _ rfl (Grow.refl hB)
        · as_aux_lemma =>
            intro ev w1 hg hin hc hgl hfn hd
            have hB := hg.top
            have f74 : (ev (.tmp 74)) = .pointer (some ⟨pb, po + i * 32, none⟩) := hd.1 rfl _ rfl
            clear hin hd
            refine step_on (guard_none rfl) fun K hK => ?_
            refine yg_load_mid 25 (.tmp 74) rfl pb (po + i * 32) f74 ((y).map B8) _ (range_below hcy (by rw [eB]; exact hg.bl)) Tryd.underD rfl (by rw [List.length_map, HY1.out]; exact Tryd.sizeD) ?_
            exact hK _ _ rfl (Grow.refl hB)
        · as_aux_lemma =>
            intro ev w1 hg hin hc hgl hfn hd
            have hB := hg.top
            have g4 : ev (.tmp 4) = .slice (some ⟨qb, qo, none⟩) p.length qkv := (hin 4 (by kernel_rfl)).trans i4
            clear hin hd
            refine step_on (guard_none rfl) fun K hK => ?_
            unfold YieldsG
            go_simp
            exact hK _ _ rfl (Grow.refl hB)
        · as_aux_lemma =>
            intro ev w1 hg hin hc hgl hfn hd
            have hB := hg.top
            have g15 : ev (.tmp 15) = .int .i64 (i : Int) := (hin 15 (by kernel_rfl)).trans i15
            clear hin hd
            refine step_on (guard_none rfl) fun K hK => ?_
            unfold YieldsG
            go_simp
            exact hK _ _ rfl (Grow.refl hB)
        · as_aux_lemma =>
            intro ev w1 hg hin hc hgl hfn hd
            have hB := hg.top
            have f76 : (ev (.tmp 76)) = .slice (some ⟨qb, qo, none⟩) p.length qkv := hd.1 rfl _ rfl
            have f77 : (ev (.tmp 77)) = .int .i64 (i : Int) := hd.2.1 rfl _ rfl
            clear hin hd
            refine step_on (guard_none rfl) fun K hK => ?_
            unfold YieldsG
            go_simp
            exact hK _ _ rfl (Grow.refl hB)
        · as_aux_lemma =>
            intro ev w1 hg hin hc hgl hfn hd
            have hB := hg.top
            have f78 : (ev (.tmp 78)) = .pointer (some ⟨qb, qo + i * 32, none⟩) := hd.1 rfl _ rfl
            clear hin hd
            refine step_on (guard_none rfl) fun K hK => ?_
            refine yg_load_mid 25 (.tmp 78) rfl qb (qo + i * 32) f78 ((z).map B8) _ (range_below hcz (by rw [eB]; exact hg.bl)) Tryd.underD rfl (by rw [List.length_map, HZ1.out]; exact Tryd.sizeD) ?_
            exact hK _ _ rfl (Grow.refl hB)
        · as_aux_lemma =>
            intro ev w1 hg hin hc hgl hfn hd
            have hB := hg.top
            clear hin hd
            refine step_on (guard_none rfl) fun K hK => ?_
            unfold YieldsG
            go_simp
            exact hK _ _ ⟨_, rfl, hB, Row.new _ _ _⟩ (Grow.of hB ((Below.refl _ _).alloc (Nat.le_refl _) _))
        · as_aux_lemma =>
            intro ev w1 hg hin hc hgl hfn hd
            have hB := hg.top
            clear hin hd
            refine step_on (guard_none rfl) fun K hK => ?_
            unfold YieldsG
            go_simp
            exact hK _ _ ⟨_, rfl, hB, Row.new _ _ _⟩ (Grow.of hB ((Below.refl _ _).alloc (Nat.le_refl _) _))
        · as_aux_lemma =>
            intro ev w1 hg hin hc hgl hfn hd
            have hB := hg.top
            clear hin hd
            refine step_on (guard_none rfl) fun K hK => ?_
            unfold YieldsG
            go_simp
            exact hK _ _ ⟨_, rfl, hB, Row.new _ _ _⟩ (Grow.of hB ((Below.refl _ _).alloc (Nat.le_refl _) _))
        · as_aux_lemma =>
            intro ev w1 hg hin hc hgl hfn hd
            have hB := hg.top
            clear hin hd
            refine step_on (guard_none rfl) fun K hK => ?_
            unfold YieldsG
            go_simp
            exact hK _ _ ⟨_, rfl, hB, Row.new _ _ _⟩ (Grow.of hB ((Below.refl _ _).alloc (Nat.le_refl _) _))
        intro v wA hg hall hap
        have hf0 : (v 0) = .agg (cellsB (a1)) := hall.1 (by simp)
        have hf1 : (v 1) = .agg (cellsB (b1)) := hall.2.1 (by simp)
        have hf2 : (v 2) = .slice (some ⟨pb, po, none⟩) p.length pkv := hall.2.2.1 (by simp)
        have hf3 : (v 3) = .int .i64 (i : Int) := hall.2.2.2.1 (by simp)
        have hf4 : (v 4) = .pointer (some ⟨pb, po + i * 32, none⟩) := hall.2.2.2.2.1 (by simp)
        have hf5 : (v 5) = .agg (cellsB (y)) := hall.2.2.2.2.2.1 (by simp)
        have hf6 : (v 6) = .slice (some ⟨qb, qo, none⟩) p.length qkv := hall.2.2.2.2.2.2.1 (by simp)
        have hf7 : (v 7) = .int .i64 (i : Int) := hall.2.2.2.2.2.2.2.1 (by simp)
        have hf8 : (v 8) = .pointer (some ⟨qb, qo + i * 32, none⟩) := hall.2.2.2.2.2.2.2.2.1 (by simp)
        have hf9 : (v 9) = .agg (cellsB (z)) := hall.2.2.2.2.2.2.2.2.2.1 (by simp)
        have hf10 : ∃ g, (v 10) = .pointer (some ⟨g, 0, none⟩) ∧ B ≤ g ∧ Row wA g 25 (cellsB (List.replicate 32 0)) := hall.2.2.2.2.2.2.2.2.2.2.1 (by simp)
        have hf11 : ∃ g, (v 11) = .pointer (some ⟨g, 0, none⟩) ∧ B ≤ g ∧ Row wA g 25 (cellsB (List.replicate 32 0)) := hall.2.2.2.2.2.2.2.2.2.2.2.1 (by simp)
        have hf12 : ∃ g, (v 12) = .pointer (some ⟨g, 0, none⟩) ∧ B ≤ g ∧ Row wA g 25 (cellsB (List.replicate 32 0)) := hall.2.2.2.2.2.2.2.2.2.2.2.2.1 (by simp)
        have hf13 : ∃ g, (v 13) = .pointer (some ⟨g, 0, none⟩) ∧ B ≤ g ∧ Row wA g 25 (cellsB (List.replicate 32 0)) := hall.2.2.2.2.2.2.2.2.2.2.2.2.2.1 (by simp)
        have hap1011 : v 11 ≠ v 10 := hap 10 (by decide) 11 (by decide) (by decide)
        have hap1012 : v 12 ≠ v 10 := hap 10 (by decide) 12 (by decide) (by decide)
        have hap1013 : v 13 ≠ v 10 := hap 10 (by decide) 13 (by decide) (by decide)
        have hap1112 : v 12 ≠ v 11 := hap 11 (by decide) 12 (by decide) (by decide)
        have hap1113 : v 13 ≠ v 11 := hap 11 (by decide) 13 (by decide) (by decide)
        have hap1213 : v 13 ≠ v 12 := hap 12 (by decide) 13 (by decide) (by decide)
        clear hap
        clear hall i5 i6 i3 i4 i15 hsz
        rw [ha0]
        clear ha0
        simp only [List.take_succ_cons, List.take_zero, List.drop_succ_cons, List.drop_zero, putAll, Act.put, List.setIfInBounds_toArray, List.set_cons_zero, List.set_cons_succ, Nat.zero_add, Nat.reduceAdd]
        rw [hf0, hf1, hf2, hf3, hf4, hf5, hf6, hf7, hf8, hf9]
        generalize v 10 = x10 at *
        generalize v 11 = x11 at *
        generalize v 12 = x12 at *
        generalize v 13 = x13 at *
        clear hf0 hf1 hf2 hf3 hf4 hf5 hf6 hf7 hf8 hf9
        obtain ⟨gl, hgl, hglB, hL⟩ := hf10
        obtain ⟨gm, hgm, hgmB, hM⟩ := hf11
        obtain ⟨gr, hgr, hgrB, hR⟩ := hf12
        obtain ⟨gs, hgs, hgsB, hS⟩ := hf13
        subst hgl hgm hgr hgs
        have n1 : gm ≠ gl := fun e => hap1011 (by rw [e])
        have n2 : gr ≠ gl := fun e => hap1012 (by rw [e])
        have n3 : gs ≠ gl := fun e => hap1013 (by rw [e])
        have n4 : gr ≠ gm := fun e => hap1112 (by rw [e])
        have n5 : gs ≠ gm := fun e => hap1113 (by rw [e])
        have n6 : gs ≠ gr := fun e => hap1213 (by rw [e])
        have m1 : wr.heap.size ≤ gl := by omega
        have m2 : wr.heap.size ≤ gm := by omega
        have m3 : wr.heap.size ≤ gr := by omega
        have m4 : wr.heap.size ≤ gs := by omega
        clear hap1011 hap1012 hap1013 hap1112 hap1113 hap1213
        have ha0 := ha
        have hc0 := hcb
        refine ⟨fun u => Below wr.heap.size wr u, ⟨(fun o ho u hu => by cases ho; exact exec_load_row (.tmp 6) rfl (w.heap.size + 1) rfl b1 HB1.out (hc0.below hu hc0.lt)), (fun o ho u _ => by cases ho; rfl), (fun o ho u _ => by cases ho; rfl), (fun o ho u hu => by cases ho; exact exec_index (.tmp 72) (.tmp 73) rfl pb po p.length pkv i rfl rfl hlt), (fun o ho u hu => by cases ho; exact exec_load_mid (.tmp 74) rfl pb (po + i * 32) rfl y HY1.out (range_below hcy hu)), (fun o ho u _ => by cases ho; rfl), (fun o ho u _ => by cases ho; rfl), (fun o ho u hu => by cases ho; exact exec_index (.tmp 76) (.tmp 77) rfl qb qo p.length qkv i rfl rfl hlt), (fun o ho u hu => by cases ho; exact exec_load_mid (.tmp 78) rfl qb (qo + i * 32) rfl z HZ1.out (range_below hcz hu)), trivial⟩, ?_⟩
        replace ha := ha.below hg.below ha.lt
        replace hcb := hcb.below hg.below hcb.lt
        have hBw := hg.below
        clear hg
        refine wpListI_cons hBw ?_
        refine wpList_store_row rfl 25 (.tmp 16) (.tmp 70) rfl gl rfl (cellsB a1) _ 25 rfl hL (by rw [cellsB_size, cellsB_size, HA1.out]; first | rfl | exact ((List.length_replicate : (List.replicate 32 (0 : UInt8)).length = 32)).symm) (Tryd.sizeD_of _ HA1.out) (cellsB_one _) ?_
        intro wu1 hgu1 hrow1 hzu1
        clear hzu1
        replace ha := ha.grown hgu1 (fun e => by have := Option.some.inj e; omega)
        replace hcb := hcb.grown hgu1 (fun e => by have := Option.some.inj e; omega)
        replace hM := hM.grown hgu1 (fun e => by have := Option.some.inj e; omega)
        replace hR := hR.grown hgu1 (fun e => by have := Option.some.inj e; omega)
        replace hS := hS.grown hgu1 (fun e => by have := Option.some.inj e; omega)
        replace hL := hrow1
        clear hrow1
        replace hBw := hBw.grown hgu1 hBw.size (fun k hk => by cases hk; omega)
        clear hgu1
        refine lateQ_intro ?_
        refine wpListI_cons hBw ?_
        refine wpList_store_row rfl 25 (.tmp 17) (.tmp 71) rfl gm rfl (cellsB b1) _ 25 rfl hM (by rw [cellsB_size, cellsB_size, HB1.out]; first | rfl | exact ((List.length_replicate : (List.replicate 32 (0 : UInt8)).length = 32)).symm) (Tryd.sizeD_of _ HB1.out) (cellsB_one _) ?_
        intro wu2 hgu2 hrow2 hzu2
        clear hzu2
        replace ha := ha.grown hgu2 (fun e => by have := Option.some.inj e; omega)
        replace hcb := hcb.grown hgu2 (fun e => by have := Option.some.inj e; omega)
        replace hL := hL.grown hgu2 (fun e => by have := Option.some.inj e; omega)
        replace hR := hR.grown hgu2 (fun e => by have := Option.some.inj e; omega)
        replace hS := hS.grown hgu2 (fun e => by have := Option.some.inj e; omega)
        replace hM := hrow2
        clear hrow2
        replace hBw := hBw.grown hgu2 hBw.size (fun k hk => by cases hk; omega)
        clear hgu2
        refine lateQ_intro ?_
        refine wpListI_cons hBw ?_
        refine wpList_store_row rfl 25 (.tmp 18) (.tmp 75) rfl gr rfl (cellsB y) _ 25 rfl hR (by rw [cellsB_size, cellsB_size, HY1.out]; first | rfl | exact ((List.length_replicate : (List.replicate 32 (0 : UInt8)).length = 32)).symm) (Tryd.sizeD_of _ HY1.out) (cellsB_one _) ?_
        intro wu3 hgu3 hrow3 hzu3
        clear hzu3
        replace ha := ha.grown hgu3 (fun e => by have := Option.some.inj e; omega)
        replace hcb := hcb.grown hgu3 (fun e => by have := Option.some.inj e; omega)
        replace hL := hL.grown hgu3 (fun e => by have := Option.some.inj e; omega)
        replace hM := hM.grown hgu3 (fun e => by have := Option.some.inj e; omega)
        replace hS := hS.grown hgu3 (fun e => by have := Option.some.inj e; omega)
        replace hR := hrow3
        clear hrow3
        replace hBw := hBw.grown hgu3 hBw.size (fun k hk => by cases hk; omega)
        clear hgu3
        refine lateQ_intro ?_
        refine wpListI_cons hBw ?_
        refine wpList_store_row rfl 25 (.tmp 19) (.tmp 79) rfl gs rfl (cellsB z) _ 25 rfl hS (by rw [cellsB_size, cellsB_size, HZ1.out]; first | rfl | exact ((List.length_replicate : (List.replicate 32 (0 : UInt8)).length = 32)).symm) (Tryd.sizeD_of _ HZ1.out) (cellsB_one _) ?_
        intro wu4 hgu4 hrow4 hzu4
        clear hzu4
        replace ha := ha.grown hgu4 (fun e => by have := Option.some.inj e; omega)
        replace hcb := hcb.grown hgu4 (fun e => by have := Option.some.inj e; omega)
        replace hL := hL.grown hgu4 (fun e => by have := Option.some.inj e; omega)
        replace hM := hM.grown hgu4 (fun e => by have := Option.some.inj e; omega)
        replace hR := hR.grown hgu4 (fun e => by have := Option.some.inj e; omega)
        replace hS := hrow4
        clear hrow4
        replace hBw := hBw.grown hgu4 hBw.size (fun k hk => by cases hk; omega)
        clear hgu4
        refine lateQ_intro ?_
        refine wpListI_nil hBw ?_
        clear eB
        go_wp2
        have hcy8 := range_below hcy hBw
        have hcz8 := range_below hcz hBw
        have hlA := ha.lt
        have hlA2 := hcb.lt
        have hlA3 := hL.lt
        have hlA4 := hM.lt
        have hlA5 := hR.lt
        have hlA6 := hS.lt
        obtain ⟨B, eB⟩ : ∃ B, wu4.heap.size = B := ⟨_, rfl⟩
        rw [← HR14.out]
        clear HR14
        refine wp_gen fun a0 ha0 => ?_
        have i5 : a0.eval (.tmp 5) = .pointer (some ⟨w.heap.size, 0, none⟩) := by rw [ha0]; rfl
        have i6 : a0.eval (.tmp 6) = .pointer (some ⟨w.heap.size + 1, 0, none⟩) := by rw [ha0]; rfl
        have i3 : a0.eval (.tmp 3) = .slice (some ⟨pb, po, none⟩) p.length pkv := by rw [ha0]; rfl
        have i4 : a0.eval (.tmp 4) = .slice (some ⟨qb, qo, none⟩) p.length qkv := by rw [ha0]; rfl
        have i15 : a0.eval (.tmp 15) = .int .i64 (i : Int) := by rw [ha0]; rfl
        have hsz : a0.tmps.size = 113 := by rw [ha0]; rfl
        refine wp_region_inv_late (B := B) 10 [some 83, some 84, some 85, some 86, some 87, some 88, some 89, some 90, some 91, some 92, none, none, none, none] [Asrt.eq (.slice (some ⟨pb, po, none⟩) p.length pkv), Asrt.eq (.int .i64 (i : Int)), Asrt.eq (.pointer (some ⟨pb, po + i * 32, none⟩)), Asrt.eq (.agg (cellsB (y))), Asrt.eq (.slice (some ⟨qb, qo, none⟩) p.length qkv), Asrt.eq (.int .i64 (i : Int)), Asrt.eq (.pointer (some ⟨qb, qo + i * 32, none⟩)), Asrt.eq (.agg (cellsB (z))), Asrt.eq (.agg (cellsB (a1))), Asrt.eq (.agg (cellsB (b1)))] [(4, .slice (some ⟨qb, qo, none⟩) p.length qkv), (5, .int .i64 (i : Int)), (6, .pointer (some ⟨qb, qo + i * 32, none⟩)), (7, .agg (cellsB (z))), (8, .agg (cellsB (a1))), (9, .agg (cellsB (b1)))] rfl (by as_aux_lemma => kernel_rfl) (by rw [hsz]; as_aux_lemma => kernel_rfl) (by as_aux_lemma => kernel_rfl) (by as_aux_lemma => kernel_rfl) (by decide) ⟨rfl, rfl, rfl, rfl, rfl, rfl, trivial⟩ (by omega) ⟨?_, ?_, ?_, ?_, ?_, ?_, ?_, ?_, ?_, ?_, trivial⟩ ?_
        · as_aux_lemma =>
            intro ev w1 hg hin hc hgl hfn hd
            have hB := hg.top
            have g3 : ev (.tmp 3) = .slice (some ⟨pb, po, none⟩) p.length pkv := (hin 3 (by kernel_rfl)).trans i3
            clear hin hd
            refine step_on (guard_none rfl) fun K hK => ?_
            unfold YieldsG
            go_simp
            exact hK _ _ rfl (Grow.refl hB)
        · as_aux_lemma =>
            intro ev w1 hg hin hc hgl hfn hd
            have hB := hg.top
            have g15 : ev (.tmp 15) = .int .i64 (i : Int) := (hin 15 (by kernel_rfl)).trans i15
            clear hin hd
            refine step_on (guard_none rfl) fun K hK => ?_
            unfold YieldsG
            go_simp
            exact hK _ _ rfl (Grow.refl hB)
        · as_aux_lemma =>
            intro ev w1 hg hin hc hgl hfn hd
            have hB := hg.top
            have f83 : (ev (.tmp 83)) = .slice (some ⟨pb, po, none⟩) p.length pkv := hd.1 rfl _ rfl
            have f84 : (ev (.tmp 84)) = .int .i64 (i : Int) := hd.2.1 rfl _ rfl
            clear hin hd
            refine step_on (guard_none rfl) fun K hK => ?_
            unfold YieldsG
            go_simp
            exact hK _ _ rfl (Grow.refl hB)
        · as_aux_lemma =>
            intro ev w1 hg hin hc hgl hfn hd
            have hB := hg.top
            have f85 : (ev (.tmp 85)) = .pointer (some ⟨pb, po + i * 32, none⟩) := hd.1 rfl _ rfl
            clear hin hd
            refine step_on (guard_none rfl) fun K hK => ?_
            refine yg_load_mid 25 (.tmp 85) rfl pb (po + i * 32) f85 ((y).map B8) _ (range_below hcy8 (by rw [eB]; exact hg.bl)) Tryd.underD rfl (by rw [List.length_map, HY1.out]; exact Tryd.sizeD) ?_
            exact hK _ _ rfl (Grow.refl hB)
        · as_aux_lemma =>
            intro ev w1 hg hin hc hgl hfn hd
            have hB := hg.top
            have g4 : ev (.tmp 4) = .slice (some ⟨qb, qo, none⟩) p.length qkv := (hin 4 (by kernel_rfl)).trans i4
            clear hin hd
            refine step_on (guard_none rfl) fun K hK => ?_
            unfold YieldsG
            go_simp
            exact hK _ _ rfl (Grow.refl hB)
        · as_aux_lemma =>
            intro ev w1 hg hin hc hgl hfn hd
            have hB := hg.top
            have g15 : ev (.tmp 15) = .int .i64 (i : Int) := (hin 15 (by kernel_rfl)).trans i15
            clear hin hd
            refine step_on (guard_none rfl) fun K hK => ?_
            unfold YieldsG
            go_simp
            exact hK _ _ rfl (Grow.refl hB)
        · as_aux_lemma =>
            intro ev w1 hg hin hc hgl hfn hd
            have hB := hg.top
            have f87 : (ev (.tmp 87)) = .slice (some ⟨qb, qo, none⟩) p.length qkv := hd.1 rfl _ rfl
            have f88 : (ev (.tmp 88)) = .int .i64 (i : Int) := hd.2.1 rfl _ rfl
            clear hin hd
            refine step_on (guard_none rfl) fun K hK => ?_
            unfold YieldsG
            go_simp
            exact hK _ _ rfl (Grow.refl hB)
        · as_aux_lemma =>
            intro ev w1 hg hin hc hgl hfn hd
            have hB := hg.top
            have f89 : (ev (.tmp 89)) = .pointer (some ⟨qb, qo + i * 32, none⟩) := hd.1 rfl _ rfl
            clear hin hd
            refine step_on (guard_none rfl) fun K hK => ?_
            refine yg_load_mid 25 (.tmp 89) rfl qb (qo + i * 32) f89 ((z).map B8) _ (range_below hcz8 (by rw [eB]; exact hg.bl)) Tryd.underD rfl (by rw [List.length_map, HZ1.out]; exact Tryd.sizeD) ?_
            exact hK _ _ rfl (Grow.refl hB)
        · as_aux_lemma =>
            intro ev w1 hg hin hc hgl hfn hd
            have hB := hg.top
            have g5 : ev (.tmp 5) = .pointer (some ⟨w.heap.size, 0, none⟩) := (hin 5 (by kernel_rfl)).trans i5
            clear hin hd
            refine step_on (guard_none rfl) fun K hK => ?_
            refine yg_load_row 25 (.tmp 5) rfl w.heap.size g5 25 (cellsB (a1)) (0, 0) _ (ha.below hg.bl (by omega)) Tryd.underD rfl (Tryd.sizeD_of _ HA1.out) ?_
            exact hK _ _ rfl (Grow.refl hB)
        · as_aux_lemma =>
            intro ev w1 hg hin hc hgl hfn hd
            have hB := hg.top
            have g6 : ev (.tmp 6) = .pointer (some ⟨w.heap.size + 1, 0, none⟩) := (hin 6 (by kernel_rfl)).trans i6
            clear hin hd
            refine step_on (guard_none rfl) fun K hK => ?_
            refine yg_load_row 25 (.tmp 6) rfl (w.heap.size + 1) g6 25 (cellsB (b1)) (0, 0) _ (hcb.below hg.bl (by omega)) Tryd.underD rfl (Tryd.sizeD_of _ HB1.out) ?_
            exact hK _ _ rfl (Grow.refl hB)
        intro v wB hg hall
        have hf0 : (v 0) = .slice (some ⟨pb, po, none⟩) p.length pkv := hall.1 (by simp)
        have hf1 : (v 1) = .int .i64 (i : Int) := hall.2.1 (by simp)
        have hf2 : (v 2) = .pointer (some ⟨pb, po + i * 32, none⟩) := hall.2.2.1 (by simp)
        have hf3 : (v 3) = .agg (cellsB (y)) := hall.2.2.2.1 (by simp)
        have hf4 : (v 4) = .slice (some ⟨qb, qo, none⟩) p.length qkv := hall.2.2.2.2.1 (by simp)
        have hf5 : (v 5) = .int .i64 (i : Int) := hall.2.2.2.2.2.1 (by simp)
        have hf6 : (v 6) = .pointer (some ⟨qb, qo + i * 32, none⟩) := hall.2.2.2.2.2.2.1 (by simp)
        have hf7 : (v 7) = .agg (cellsB (z)) := hall.2.2.2.2.2.2.2.1 (by simp)
        have hf8 : (v 8) = .agg (cellsB (a1)) := hall.2.2.2.2.2.2.2.2.1 (by simp)
        have hf9 : (v 9) = .agg (cellsB (b1)) := hall.2.2.2.2.2.2.2.2.2.1 (by simp)
        clear hall i5 i6 i3 i4 i15 hsz
        rw [ha0]
        clear ha0
        simp only [List.take_succ_cons, List.take_zero, List.drop_succ_cons, List.drop_zero, putAll, Act.put, List.setIfInBounds_toArray, List.set_cons_zero, List.set_cons_succ, Nat.zero_add, Nat.reduceAdd]
        rw [hf0, hf1, hf2, hf3, hf4, hf5, hf6, hf7, hf8, hf9]
        clear hf0 hf1 hf2 hf3 hf4 hf5 hf6 hf7 hf8 hf9
        refine ⟨fun u => Below wr.heap.size wr u, ⟨(fun o ho u _ => by cases ho; rfl), (fun o ho u _ => by cases ho; rfl), (fun o ho u hu => by cases ho; exact exec_index (.tmp 87) (.tmp 88) rfl qb qo p.length qkv i rfl rfl hlt), (fun o ho u hu => by cases ho; exact exec_load_mid (.tmp 89) rfl qb (qo + i * 32) rfl z HZ1.out (range_below hcz hu)), (fun o ho u hu => by cases ho; exact exec_load_row (.tmp 5) rfl w.heap.size rfl a1 HA1.out (ha0.below hu ha0.lt)), (fun o ho u hu => by cases ho; exact exec_load_row (.tmp 6) rfl (w.heap.size + 1) rfl b1 HB1.out (hc0.below hu hc0.lt)), trivial⟩, ?_⟩
        replace ha := ha.below hg.below hlA
        replace hcb := hcb.below hg.below hlA2
        replace hL := hL.below hg.below hlA3
        replace hM := hM.below hg.below hlA4
        replace hR := hR.below hg.below hlA5
        replace hS := hS.below hg.below hlA6
        replace hBw := hBw.trans (hg.below.mono hBw.size)
        clear hg hlA hlA2 hlA3 hlA4 hlA5 hlA6 eB hcy8 hcz8
        refine wpListI_cons hBw ?_
        refine wpList_store_row rfl 25 (.tmp 16) (.tmp 86) rfl gl rfl (cellsB y) _ 25 rfl hL (by rw [cellsB_size, cellsB_size, HY1.out]; first | rfl | exact (HA1.out).symm) (Tryd.sizeD_of _ HY1.out) (cellsB_one _) ?_
        intro wu7 hgu7 hrow7 hzu7
        clear hzu7
        replace ha := ha.grown hgu7 (fun e => by have := Option.some.inj e; omega)
        replace hcb := hcb.grown hgu7 (fun e => by have := Option.some.inj e; omega)
        replace hM := hM.grown hgu7 (fun e => by have := Option.some.inj e; omega)
        replace hR := hR.grown hgu7 (fun e => by have := Option.some.inj e; omega)
        replace hS := hS.grown hgu7 (fun e => by have := Option.some.inj e; omega)
        replace hL := hrow7
        clear hrow7
        replace hBw := hBw.grown hgu7 hBw.size (fun k hk => by cases hk; omega)
        clear hgu7
        refine lateQ_intro ?_
        refine wpListI_cons hBw ?_
        refine wpList_store_row rfl 25 (.tmp 17) (.tmp 90) rfl gm rfl (cellsB z) _ 25 rfl hM (by rw [cellsB_size, cellsB_size, HZ1.out]; first | rfl | exact (HB1.out).symm) (Tryd.sizeD_of _ HZ1.out) (cellsB_one _) ?_
        intro wu8 hgu8 hrow8 hzu8
        clear hzu8
        replace ha := ha.grown hgu8 (fun e => by have := Option.some.inj e; omega)
        replace hcb := hcb.grown hgu8 (fun e => by have := Option.some.inj e; omega)
        replace hL := hL.grown hgu8 (fun e => by have := Option.some.inj e; omega)
        replace hR := hR.grown hgu8 (fun e => by have := Option.some.inj e; omega)
        replace hS := hS.grown hgu8 (fun e => by have := Option.some.inj e; omega)
        replace hM := hrow8
        clear hrow8
        replace hBw := hBw.grown hgu8 hBw.size (fun k hk => by cases hk; omega)
        clear hgu8
        refine lateQ_intro ?_
        refine wpListI_cons hBw ?_
        refine wpList_store_row rfl 25 (.tmp 18) (.tmp 91) rfl gr rfl (cellsB a1) _ 25 rfl hR (by rw [cellsB_size, cellsB_size, HA1.out]; first | rfl | exact (HY1.out).symm) (Tryd.sizeD_of _ HA1.out) (cellsB_one _) ?_
        intro wu9 hgu9 hrow9 hzu9
        clear hzu9
        replace ha := ha.grown hgu9 (fun e => by have := Option.some.inj e; omega)
        replace hcb := hcb.grown hgu9 (fun e => by have := Option.some.inj e; omega)
        replace hL := hL.grown hgu9 (fun e => by have := Option.some.inj e; omega)
        replace hM := hM.grown hgu9 (fun e => by have := Option.some.inj e; omega)
        replace hS := hS.grown hgu9 (fun e => by have := Option.some.inj e; omega)
        replace hR := hrow9
        clear hrow9
        replace hBw := hBw.grown hgu9 hBw.size (fun k hk => by cases hk; omega)
        clear hgu9
        refine lateQ_intro ?_
        refine wpListI_cons hBw ?_
        refine wpList_store_row rfl 25 (.tmp 19) (.tmp 92) rfl gs rfl (cellsB b1) _ 25 rfl hS (by rw [cellsB_size, cellsB_size, HB1.out]; first | rfl | exact (HZ1.out).symm) (Tryd.sizeD_of _ HB1.out) (cellsB_one _) ?_
        intro wu10 hgu10 hrow10 hzu10
        clear hzu10
        replace ha := ha.grown hgu10 (fun e => by have := Option.some.inj e; omega)
        replace hcb := hcb.grown hgu10 (fun e => by have := Option.some.inj e; omega)
        replace hL := hL.grown hgu10 (fun e => by have := Option.some.inj e; omega)
        replace hM := hM.grown hgu10 (fun e => by have := Option.some.inj e; omega)
        replace hR := hR.grown hgu10 (fun e => by have := Option.some.inj e; omega)
        replace hS := hrow10
        clear hrow10
        replace hBw := hBw.grown hgu10 hBw.size (fun k hk => by cases hk; omega)
        clear hgu10
        refine lateQ_intro ?_
        refine wpListI_nil hBw ?_
        go_wp2
        have hBC := hB.trans (hBw.mono hB.size)
        have hKC := hK.below hBC hkl
        have hklC := hKC.lt
        have hlC := ha.lt
        have hlC2 := hcb.lt
        have hlC3 := hL.lt
        have hlC4 := hM.lt
        have hlC5 := hR.lt
        have hlC6 := hS.lt
        obtain ⟨B, eB⟩ : ∃ B, wu10.heap.size = B := ⟨_, rfl⟩
        rw [← HR15.out]
        clear HR15
        refine wp_gen fun a0 ha0 => ?_
        have i16 : a0.eval (.tmp 16) = .pointer (some ⟨gl, 0, none⟩) := by rw [ha0]; rfl
        have i17 : a0.eval (.tmp 17) = .pointer (some ⟨gm, 0, none⟩) := by rw [ha0]; rfl
        have i18 : a0.eval (.tmp 18) = .pointer (some ⟨gr, 0, none⟩) := by rw [ha0]; rfl
        have i19 : a0.eval (.tmp 19) = .pointer (some ⟨gs, 0, none⟩) := by rw [ha0]; rfl
        have hsz : a0.tmps.size = 113 := by rw [ha0]; rfl
        refine wp_region_inv_tail (B := B) 6 [some 93, some 94, some 95, some 96, some 97, some 98, none, none] [Asrt.eq (.agg (cellsB (y))), Asrt.eq (.agg (cellsB (a1))), Asrt.eq (.agg (cellsB (a2))), Asrt.eq (.agg (cellsB (z))), Asrt.eq (.agg (cellsB (b1))), Asrt.eq (.agg (cellsB (b2)))] rfl (by as_aux_lemma => kernel_rfl) (by rw [hsz]; as_aux_lemma => kernel_rfl) (by as_aux_lemma => kernel_rfl) (by as_aux_lemma => kernel_rfl) (by as_aux_lemma => kernel_rfl) (by decide) (by as_aux_lemma => kernel_rfl) (by omega) ⟨?_, ?_, ?_, ?_, ?_, ?_, trivial⟩ ?_
        · as_aux_lemma =>
            intro ev w1 hg hin hc hgl hfn hd
            have hB := hg.top
            have g16 : ev (.tmp 16) = .pointer (some ⟨gl, 0, none⟩) := (hin 16 (by kernel_rfl)).trans i16
            clear hin hd
            refine step_on (guard_none rfl) fun K hK => ?_
            refine yg_load_row 25 (.tmp 16) rfl gl g16 25 (cellsB (y)) (0, 0) _ (hL.below hg.bl (by omega)) Tryd.underD rfl (Tryd.sizeD_of _ HY1.out) ?_
            exact hK _ _ rfl (Grow.refl hB)
        · as_aux_lemma =>
            intro ev w1 hg hin hc hgl hfn hd
            have hB := hg.top
            have g18 : ev (.tmp 18) = .pointer (some ⟨gr, 0, none⟩) := (hin 18 (by kernel_rfl)).trans i18
            clear hin hd
            refine step_on (guard_none rfl) fun K hK => ?_
            refine yg_load_row 25 (.tmp 18) rfl gr g18 25 (cellsB (a1)) (0, 0) _ (hR.below hg.bl (by omega)) Tryd.underD rfl (Tryd.sizeD_of _ HA1.out) ?_
            exact hK _ _ rfl (Grow.refl hB)
        · as_aux_lemma =>
            intro ev w1 hg hin hc hgl hfn hd
            have hB := hg.top
            have f93 : (ev (.tmp 93)) = .agg (cellsB (y)) := hd.1 rfl _ rfl
            have f94 : (ev (.tmp 94)) = .agg (cellsB (a1)) := hd.2.1 rfl _ rfl
            clear hin hd
            refine step_on (guard_none rfl) fun K hK => ?_
            unfold YieldsG
            go_simp
            refine (pair_any y a1 w1 HY1.out HA1.out (hKC.below hg.bl (by omega))).mono ?_
            rintro e w2 ⟨rfl, hb⟩
            exact ⟨_, rfl, hK _ _ (by show _ = _; rw [HPA.out]) (Grow.of hB hb)⟩
        · as_aux_lemma =>
            intro ev w1 hg hin hc hgl hfn hd
            have hB := hg.top
            have g17 : ev (.tmp 17) = .pointer (some ⟨gm, 0, none⟩) := (hin 17 (by kernel_rfl)).trans i17
            clear hin hd
            refine step_on (guard_none rfl) fun K hK => ?_
            refine yg_load_row 25 (.tmp 17) rfl gm g17 25 (cellsB (z)) (0, 0) _ (hM.below hg.bl (by omega)) Tryd.underD rfl (Tryd.sizeD_of _ HZ1.out) ?_
            exact hK _ _ rfl (Grow.refl hB)
        · as_aux_lemma =>
            intro ev w1 hg hin hc hgl hfn hd
            have hB := hg.top
            have g19 : ev (.tmp 19) = .pointer (some ⟨gs, 0, none⟩) := (hin 19 (by kernel_rfl)).trans i19
            clear hin hd
            refine step_on (guard_none rfl) fun K hK => ?_
            refine yg_load_row 25 (.tmp 19) rfl gs g19 25 (cellsB (b1)) (0, 0) _ (hS.below hg.bl (by omega)) Tryd.underD rfl (Tryd.sizeD_of _ HB1.out) ?_
            exact hK _ _ rfl (Grow.refl hB)
        · as_aux_lemma =>
            intro ev w1 hg hin hc hgl hfn hd
            have hB := hg.top
            have f96 : (ev (.tmp 96)) = .agg (cellsB (z)) := hd.1 rfl _ rfl
            have f97 : (ev (.tmp 97)) = .agg (cellsB (b1)) := hd.2.1 rfl _ rfl
            clear hin hd
            refine step_on (guard_none rfl) fun K hK => ?_
            unfold YieldsG
            go_simp
            refine (pair_any z b1 w1 HZ1.out HB1.out (hKC.below hg.bl (by omega))).mono ?_
            rintro e w2 ⟨rfl, hb⟩
            exact ⟨_, rfl, hK _ _ (by show _ = _; rw [HPB.out]) (Grow.of hB hb)⟩
        intro v wD hg hall
        have hf0 : (v 0) = .agg (cellsB (y)) := hall.1 (by simp)
        have hf1 : (v 1) = .agg (cellsB (a1)) := hall.2.1 (by simp)
        have hf2 : (v 2) = .agg (cellsB (a2)) := hall.2.2.1 (by simp)
        have hf3 : (v 3) = .agg (cellsB (z)) := hall.2.2.2.1 (by simp)
        have hf4 : (v 4) = .agg (cellsB (b1)) := hall.2.2.2.2.1 (by simp)
        have hf5 : (v 5) = .agg (cellsB (b2)) := hall.2.2.2.2.2.1 (by simp)
        clear hall i16 i17 i18 i19 hsz
        rw [ha0]
        clear ha0
        simp only [List.take_succ_cons, List.take_zero, List.drop_succ_cons, List.drop_zero, putAll, Act.put, List.setIfInBounds_toArray, List.set_cons_zero, List.set_cons_succ, Nat.zero_add, Nat.reduceAdd]
        rw [hf0, hf1, hf2, hf3, hf4, hf5]
        clear hf0 hf1 hf2 hf3 hf4 hf5
        replace ha := ha.below hg.below hlC
        replace hcb := hcb.below hg.below hlC2
        replace hL := hL.below hg.below hlC3
        replace hM := hM.below hg.below hlC4
        replace hR := hR.below hg.below hlC5
        replace hS := hS.below hg.below hlC6
        replace hBw := hBw.trans (hg.below.mono hBw.size)
        clear hg hlC hlC2 hlC3 hlC4 hlC5 hlC6 eB
        have hBD := hB.trans (hBw.mono hB.size)
        clear hBw hBC
        have hq1 := fun w => eqlB a2 b2 HA2.out HB2.out w
        by_cases hab2 : a2 = b2
        · rw [decide_eq_true hab2] at hq1
          have hqlm := fun w => neqB y z HY1.out HZ1.out w
          by_cases hlm : y = z
          · have hqrs := fun w => neqB a1 b1 HA1.out HB1.out w
            rw [decide_eq_false (HOR.out hlm)] at hqrs
            rw [decide_eq_true hlm] at hqlm
            simp only [Bool.not_true, Bool.not_false] at hqlm hqrs
            clear hab2 hlm
            go_wp2_with (first | (refine wpList_store_row rfl 25 (.tmp 5) (.tmp 95) rfl w.heap.size rfl (cellsB a2) _ 25 rfl ha (by rw [cellsB_size, cellsB_size, HA2.out, HA1.out]) (Tryd.sizeD_of _ HA2.out) (cellsB_one _) ?_; intro wu11 hgu11 hrow11 hzu11; clear hzu11; replace hcb := hcb.grown hgu11 (fun e => by have := Option.some.inj e; omega); replace hL := hL.grown hgu11 (fun e => by have := Option.some.inj e; omega); replace hM := hM.grown hgu11 (fun e => by have := Option.some.inj e; omega); replace hR := hR.grown hgu11 (fun e => by have := Option.some.inj e; omega); replace hS := hS.grown hgu11 (fun e => by have := Option.some.inj e; omega); replace ha := hrow11; clear hrow11; replace hBD := hBD.grown hgu11 hBD.size (fun k hk => by cases hk; omega); clear hgu11) | (refine wpList_store_row rfl 25 (.tmp 6) (.tmp 98) rfl (w.heap.size + 1) rfl (cellsB b2) _ 25 rfl hcb (by rw [cellsB_size, cellsB_size, HB2.out, HB1.out]) (Tryd.sizeD_of _ HB2.out) (cellsB_one _) ?_; intro wu12 hgu12 hrow12 hzu12; clear hzu12; replace ha := ha.grown hgu12 (fun e => by have := Option.some.inj e; omega); replace hL := hL.grown hgu12 (fun e => by have := Option.some.inj e; omega); replace hM := hM.grown hgu12 (fun e => by have := Option.some.inj e; omega); replace hR := hR.grown hgu12 (fun e => by have := Option.some.inj e; omega); replace hS := hS.grown hgu12 (fun e => by have := Option.some.inj e; omega); replace hcb := hrow12; clear hrow12; replace hBD := hBD.grown hgu12 hBD.size (fun k hk => by cases hk; omega); clear hgu12; have hq1D := hq1 wu12; have hqlmD := hqlm wu12; have hqrsD := hqrs wu12) | (refine wpList_load_on 25 (.tmp 5) rfl rfl (w.heap.size) rfl 25 (cellsB a2) (0, 0) _ ha Tryd.underD rfl HSA2.out ?_) | (refine wpList_load_on 25 (.tmp 6) rfl rfl (w.heap.size + 1) rfl 25 (cellsB b2) (0, 0) _ hcb Tryd.underD rfl HSB2.out ?_) | (refine wpList_load_on 25 (.tmp 16) rfl rfl gl rfl 25 (cellsB y) (0, 0) _ hL Tryd.underD rfl (Tryd.sizeD_of _ HY1.out) ?_) | (refine wpList_load_on 25 (.tmp 17) rfl rfl gm rfl 25 (cellsB z) (0, 0) _ hM Tryd.underD rfl (Tryd.sizeD_of _ HZ1.out) ?_) | (refine wpList_load_on 25 (.tmp 18) rfl rfl gr rfl 25 (cellsB a1) (0, 0) _ hR Tryd.underD rfl (Tryd.sizeD_of _ HA1.out) ?_) | (refine wpList_load_on 25 (.tmp 19) rfl rfl gs rfl 25 (cellsB b1) (0, 0) _ hS Tryd.underD rfl (Tryd.sizeD_of _ HB1.out) ?_))
            go_ret
            exact ⟨rfl, hBD⟩
          · rw [decide_eq_false hlm] at hqlm
            simp only [Bool.not_false] at hqlm
            clear hab2 hlm
            go_wp2_with (first | (refine wpList_store_row rfl 25 (.tmp 5) (.tmp 95) rfl w.heap.size rfl (cellsB a2) _ 25 rfl ha (by rw [cellsB_size, cellsB_size, HA2.out, HA1.out]) (Tryd.sizeD_of _ HA2.out) (cellsB_one _) ?_; intro wu11 hgu11 hrow11 hzu11; clear hzu11; replace hcb := hcb.grown hgu11 (fun e => by have := Option.some.inj e; omega); replace hL := hL.grown hgu11 (fun e => by have := Option.some.inj e; omega); replace hM := hM.grown hgu11 (fun e => by have := Option.some.inj e; omega); replace hR := hR.grown hgu11 (fun e => by have := Option.some.inj e; omega); replace hS := hS.grown hgu11 (fun e => by have := Option.some.inj e; omega); replace ha := hrow11; clear hrow11; replace hBD := hBD.grown hgu11 hBD.size (fun k hk => by cases hk; omega); clear hgu11) | (refine wpList_store_row rfl 25 (.tmp 6) (.tmp 98) rfl (w.heap.size + 1) rfl (cellsB b2) _ 25 rfl hcb (by rw [cellsB_size, cellsB_size, HB2.out, HB1.out]) (Tryd.sizeD_of _ HB2.out) (cellsB_one _) ?_; intro wu12 hgu12 hrow12 hzu12; clear hzu12; replace ha := ha.grown hgu12 (fun e => by have := Option.some.inj e; omega); replace hL := hL.grown hgu12 (fun e => by have := Option.some.inj e; omega); replace hM := hM.grown hgu12 (fun e => by have := Option.some.inj e; omega); replace hR := hR.grown hgu12 (fun e => by have := Option.some.inj e; omega); replace hS := hS.grown hgu12 (fun e => by have := Option.some.inj e; omega); replace hcb := hrow12; clear hrow12; replace hBD := hBD.grown hgu12 hBD.size (fun k hk => by cases hk; omega); clear hgu12; have hq1D := hq1 wu12; have hqlmD := hqlm wu12) | (refine wpList_load_on 25 (.tmp 5) rfl rfl (w.heap.size) rfl 25 (cellsB a2) (0, 0) _ ha Tryd.underD rfl HSA2.out ?_) | (refine wpList_load_on 25 (.tmp 6) rfl rfl (w.heap.size + 1) rfl 25 (cellsB b2) (0, 0) _ hcb Tryd.underD rfl HSB2.out ?_) | (refine wpList_load_on 25 (.tmp 16) rfl rfl gl rfl 25 (cellsB y) (0, 0) _ hL Tryd.underD rfl (Tryd.sizeD_of _ HY1.out) ?_) | (refine wpList_load_on 25 (.tmp 17) rfl rfl gm rfl 25 (cellsB z) (0, 0) _ hM Tryd.underD rfl (Tryd.sizeD_of _ HZ1.out) ?_) | (refine wpList_load_on 25 (.tmp 18) rfl rfl gr rfl 25 (cellsB a1) (0, 0) _ hR Tryd.underD rfl (Tryd.sizeD_of _ HA1.out) ?_) | (refine wpList_load_on 25 (.tmp 19) rfl rfl gs rfl 25 (cellsB b1) (0, 0) _ hS Tryd.underD rfl (Tryd.sizeD_of _ HB1.out) ?_))
            go_ret
            exact ⟨rfl, hBD⟩
        · rw [decide_eq_false hab2] at hq1
          have HAB2 := Lib.hid hab2
          clear hab2
          go_wp2_with (first | (refine wpList_store_row rfl 25 (.tmp 5) (.tmp 95) rfl w.heap.size rfl (cellsB a2) _ 25 rfl ha (by rw [cellsB_size, cellsB_size, HA2.out, HA1.out]) (Tryd.sizeD_of _ HA2.out) (cellsB_one _) ?_; intro wu11 hgu11 hrow11 hzu11; clear hzu11; replace hcb := hcb.grown hgu11 (fun e => by have := Option.some.inj e; omega); replace hL := hL.grown hgu11 (fun e => by have := Option.some.inj e; omega); replace hM := hM.grown hgu11 (fun e => by have := Option.some.inj e; omega); replace hR := hR.grown hgu11 (fun e => by have := Option.some.inj e; omega); replace hS := hS.grown hgu11 (fun e => by have := Option.some.inj e; omega); replace ha := hrow11; clear hrow11; replace hBD := hBD.grown hgu11 hBD.size (fun k hk => by cases hk; omega); clear hgu11) | (refine wpList_store_row rfl 25 (.tmp 6) (.tmp 98) rfl (w.heap.size + 1) rfl (cellsB b2) _ 25 rfl hcb (by rw [cellsB_size, cellsB_size, HB2.out, HB1.out]) (Tryd.sizeD_of _ HB2.out) (cellsB_one _) ?_; intro wu12 hgu12 hrow12 hzu12; clear hzu12; replace ha := ha.grown hgu12 (fun e => by have := Option.some.inj e; omega); replace hL := hL.grown hgu12 (fun e => by have := Option.some.inj e; omega); replace hM := hM.grown hgu12 (fun e => by have := Option.some.inj e; omega); replace hR := hR.grown hgu12 (fun e => by have := Option.some.inj e; omega); replace hS := hS.grown hgu12 (fun e => by have := Option.some.inj e; omega); replace hcb := hrow12; clear hrow12; replace hBD := hBD.grown hgu12 hBD.size (fun k hk => by cases hk; omega); clear hgu12; have hq1D := hq1 wu12) | (refine wpList_load_on 25 (.tmp 5) rfl rfl (w.heap.size) rfl 25 (cellsB a2) (0, 0) _ ha Tryd.underD rfl HSA2.out ?_) | (refine wpList_load_on 25 (.tmp 6) rfl rfl (w.heap.size + 1) rfl 25 (cellsB b2) (0, 0) _ hcb Tryd.underD rfl HSB2.out ?_))
          go_roundw
          case rel => exact ⟨i + 1, a2, b2, jj, by omega, by go_num, rfl, hBD, ha, hcb, HA2.out, HB2.out, HAB2.out, HCL.out, by omega⟩
          case measure => simp [intOf]; omega
      · have hod' : (j : Int) % 2 = 0 := by omega
        have e1 : climbStep a1 j y = pairOf a1 y := by unfold climbStep; rw [if_pos (by omega)]
        have e2 : climbStep b1 j z = pairOf b1 z := by unfold climbStep; rw [if_pos (by omega)]
        rw [e1, e2] at hcl
        obtain ⟨a2, ea2⟩ : ∃ x, pairOf a1 y = x := ⟨_, rfl⟩
        obtain ⟨b2, eb2⟩ : ∃ x, pairOf b1 z = x := ⟨_, rfl⟩
        have HA2 : Hid (a2.length = 32) := Lib.hid (by rw [← ea2]; exact pairOf_len _ _)
        have HB2 : Hid (b2.length = 32) := Lib.hid (by rw [← eb2]; exact pairOf_len _ _)
        rw [ea2, eb2] at hcl
        have HPA := Lib.hid ea2
        have HPB := Lib.hid eb2
        have HCL := Lib.hid hcl
        have HSA2 := Lib.hid (Tryd.sizeD_of _ HA2.out)
        have HSB2 := Lib.hid (Tryd.sizeD_of _ HB2.out)
        have HOR : Hid (a1 = b1 → ¬ y = z) := Lib.hid fun e => absurd e HNE.out
        clear e1 e2 ea2 eb2 hcl hod hst2
        go_wp2
        obtain ⟨B, eB⟩ : ∃ B, wr.heap.size = B := ⟨_, rfl⟩
        rw [← HR12.out]
        clear HR12
        refine wp_gen fun a0 ha0 => ?_
        have i5 : a0.eval (.tmp 5) = .pointer (some ⟨w.heap.size, 0, none⟩) := by rw [ha0]; rfl
        have i6 : a0.eval (.tmp 6) = .pointer (some ⟨w.heap.size + 1, 0, none⟩) := by rw [ha0]; rfl
        have i3 : a0.eval (.tmp 3) = .slice (some ⟨pb, po, none⟩) p.length pkv := by rw [ha0]; rfl
        have i4 : a0.eval (.tmp 4) = .slice (some ⟨qb, qo, none⟩) p.length qkv := by rw [ha0]; rfl
        have i15 : a0.eval (.tmp 15) = .int .i64 (i : Int) := by rw [ha0]; rfl
        have hsz : a0.tmps.size = 113 := by rw [ha0]; rfl
        refine wp_region_inv_apart (B := B) 14 [some 70, some 71, some 72, some 73, some 74, some 75, some 76, some 77, some 78, some 79, some 16, some 17, some 18, some 19, none, none, none, none] [Asrt.eq (.agg (cellsB (a1))), Asrt.eq (.agg (cellsB (b1))), Asrt.eq (.slice (some ⟨pb, po, none⟩) p.length pkv), Asrt.eq (.int .i64 (i : Int)), Asrt.eq (.pointer (some ⟨pb, po + i * 32, none⟩)), Asrt.eq (.agg (cellsB (y))), Asrt.eq (.slice (some ⟨qb, qo, none⟩) p.length qkv), Asrt.eq (.int .i64 (i : Int)), Asrt.eq (.pointer (some ⟨qb, qo + i * 32, none⟩)), Asrt.eq (.agg (cellsB (z))), Asrt.box, Asrt.box, Asrt.box, Asrt.box] [(1, .agg (cellsB (b1))), (2, .slice (some ⟨pb, po, none⟩) p.length pkv), (3, .int .i64 (i : Int)), (4, .pointer (some ⟨pb, po + i * 32, none⟩)), (5, .agg (cellsB (y))), (6, .slice (some ⟨qb, qo, none⟩) p.length qkv), (7, .int .i64 (i : Int)), (8, .pointer (some ⟨qb, qo + i * 32, none⟩)), (9, .agg (cellsB (z)))] [10, 11, 12, 13] rfl (by as_aux_lemma => kernel_rfl) (by rw [hsz]; as_aux_lemma => kernel_rfl) (by as_aux_lemma => kernel_rfl) (by as_aux_lemma => kernel_rfl) (by decide) ⟨rfl, rfl, rfl, rfl, rfl, rfl, rfl, rfl, rfl, trivial⟩ (fun i hi o ho => by simp only [List.mem_cons, List.not_mem_nil, or_false] at hi; rcases hi with rfl | rfl | rfl | rfl <;> (cases ho; exact ⟨fresh_digest rfl rfl, rfl⟩)) (fun i hi => by simp only [List.mem_cons, List.not_mem_nil, or_false] at hi; rcases hi with rfl | rfl | rfl | rfl <;> exact ⟨by decide, by simp⟩) (fun i hi g w h => by simp only [List.mem_cons, List.not_mem_nil, or_false] at hi; rcases hi with rfl | rfl | rfl | rfl <;> exact box_lt h) (by omega) ⟨?_, ?_, ?_, ?_, ?_, ?_, ?_, ?_, ?_, ?_, ?_, ?_, ?_, ?_, trivial⟩ ?_
        · as_aux_lemma =>
            intro ev w1 hg hin hc hgl hfn hd
            have hB := hg.top
            have g5 : ev (.tmp 5) = .pointer (some ⟨w.heap.size, 0, none⟩) := (hin 5 (by kernel_rfl)).trans i5
            clear hin hd
            refine step_on (guard_none rfl) fun K hK => ?_
            refine yg_load_row 25 (.tmp 5) rfl w.heap.size g5 25 (cellsB (a1)) (0, 0) _ (ha.below hg.bl (by omega)) Tryd.underD rfl (Tryd.sizeD_of _ HA1.out) ?_
            exact hK _ _ rfl (Grow.refl hB)
        · as_aux_lemma =>
            intro ev w1 hg hin hc hgl hfn hd
            have hB := hg.top
            have g6 : ev (.tmp 6) = .pointer (some ⟨w.heap.size + 1, 0, none⟩) := (hin 6 (by kernel_rfl)).trans i6
            clear hin hd
            refine step_on (guard_none rfl) fun K hK => ?_
            refine yg_load_row 25 (.tmp 6) rfl (w.heap.size + 1) g6 25 (cellsB (b1)) (0, 0) _ (hcb.below hg.bl (by omega)) Tryd.underD rfl (Tryd.sizeD_of _ HB1.out) ?_
            exact hK _ _ rfl (Grow.refl hB)
        · as_aux_lemma =>
            intro ev w1 hg hin hc hgl hfn hd
            have hB := hg.top
            have g3 : ev (.tmp 3) = .slice (some ⟨pb, po, none⟩) p.length pkv := (hin 3 (by kernel_rfl)).trans i3
            clear hin hd
            refine step_on (guard_none rfl) fun K hK => ?_
            unfold YieldsG
            go_simp
            exact hK _ _ rfl (Grow.refl hB)
        · as_aux_lemma =>
            intro ev w1 hg hin hc hgl hfn hd
            have hB := hg.top
            have g15 : ev (.tmp 15) = .int .i64 (i : Int) := (hin 15 (by kernel_rfl)).trans i15
            clear hin hd
            refine step_on (guard_none rfl) fun K hK => ?_
            unfold YieldsG
            go_simp
            exact hK _ _ rfl (Grow.refl hB)
        · as_aux_lemma =>
            intro ev w1 hg hin hc hgl hfn hd
            have hB := hg.top
            have f72 : (ev (.tmp 72)) = .slice (some ⟨pb, po, none⟩) p.length pkv := hd.1 rfl _ rfl
            have f73 : (ev (.tmp 73)) = .int .i64 (i : Int) := hd.2.1 rfl _ rfl
            clear hin hd
            refine step_on (guard_none rfl) fun K hK => ?_
            unfold YieldsG
            go_simp
            exact hK _ _ rfl (Grow.refl hB)
        · as_aux_lemma =>
            intro ev w1 hg hin hc hgl hfn hd
            have hB := hg.top
            have f74 : (ev (.tmp 74)) = .pointer (some ⟨pb, po + i * 32, none⟩) := hd.1 rfl _ rfl
            clear hin hd
            refine step_on (guard_none rfl) fun K hK => ?_
            refine yg_load_mid 25 (.tmp 74) rfl pb (po + i * 32) f74 ((y).map B8) _ (range_below hcy (by rw [eB]; exact hg.bl)) Tryd.underD rfl (by rw [List.length_map, HY1.out]; exact Tryd.sizeD) ?_
            exact hK _ _ rfl (Grow.refl hB)
        · as_aux_lemma =>
            intro ev w1 hg hin hc hgl hfn hd
            have hB := hg.top
            have g4 : ev (.tmp 4) = .slice (some ⟨qb, qo, none⟩) p.length qkv := (hin 4 (by kernel_rfl)).trans i4
            clear hin hd
            refine step_on (guard_none rfl) fun K hK => ?_
            unfold YieldsG
            go_simp
            exact hK _ _ rfl (Grow.refl hB)
        · as_aux_lemma =>
            intro ev w1 hg hin hc hgl hfn hd
            have hB := hg.top
            have g15 : ev (.tmp 15) = .int .i64 (i : Int) := (hin 15 (by kernel_rfl)).trans i15
            clear hin hd
            refine step_on (guard_none rfl) fun K hK => ?_
            unfold YieldsG
            go_simp
            exact hK _ _ rfl (Grow.refl hB)
        · as_aux_lemma =>
            intro ev w1 hg hin hc hgl hfn hd
            have hB := hg.top
            have f76 : (ev (.tmp 76)) = .slice (some ⟨qb, qo, none⟩) p.length qkv := hd.1 rfl _ rfl
            have f77 : (ev (.tmp 77)) = .int .i64 (i : Int) := hd.2.1 rfl _ rfl
            clear hin hd
            refine step_on (guard_none rfl) fun K hK => ?_
            unfold YieldsG
            go_simp
            exact hK _ _ rfl (Grow.refl hB)
        · as_aux_lemma =>
            intro ev w1 hg hin hc hgl hfn hd
            have hB := hg.top
            have f78 : (ev (.tmp 78)) = .pointer (some ⟨qb, qo + i * 32, none⟩) := hd.1 rfl _ rfl
            clear hin hd
            refine step_on (guard_none rfl) fun K hK => ?_
            refine yg_load_mid 25 (.tmp 78) rfl qb (qo + i * 32) f78 ((z).map B8) _ (range_below hcz (by rw [eB]; exact hg.bl)) Tryd.underD rfl (by rw [List.length_map, HZ1.out]; exact Tryd.sizeD) ?_
            exact hK _ _ rfl (Grow.refl hB)
        · as_aux_lemma =>
            intro ev w1 hg hin hc hgl hfn hd
            have hB := hg.top
            clear hin hd
            refine step_on (guard_none rfl) fun K hK => ?_
            unfold YieldsG
            go_simp
            exact hK _ _ ⟨_, rfl, hB, Row.new _ _ _⟩ (Grow.of hB ((Below.refl _ _).alloc (Nat.le_refl _) _))
        · as_aux_lemma =>
            intro ev w1 hg hin hc hgl hfn hd
            have hB := hg.top
            clear hin hd
            refine step_on (guard_none rfl) fun K hK => ?_
            unfold YieldsG
            go_simp
            exact hK _ _ ⟨_, rfl, hB, Row.new _ _ _⟩ (Grow.of hB ((Below.refl _ _).alloc (Nat.le_refl _) _))
        · as_aux_lemma =>
            intro ev w1 hg hin hc hgl hfn hd
            have hB := hg.top
            clear hin hd
            refine step_on (guard_none rfl) fun K hK => ?_
            unfold YieldsG
            go_simp
            exact hK _ _ ⟨_, rfl, hB, Row.new _ _ _⟩ (Grow.of hB ((Below.refl _ _).alloc (Nat.le_refl _) _))
        · as_aux_lemma =>
            intro ev w1 hg hin hc hgl hfn hd
            have hB := hg.top
            clear hin hd
            refine step_on (guard_none rfl) fun K hK => ?_
            unfold YieldsG
            go_simp
            exact hK _ _ ⟨_, rfl, hB, Row.new _ _ _⟩ (Grow.of hB ((Below.refl _ _).alloc (Nat.le_refl _) _))
        intro v wA hg hall hap
        have hf0 : (v 0) = .agg (cellsB (a1)) := hall.1 (by simp)
        have hf1 : (v 1) = .agg (cellsB (b1)) := hall.2.1 (by simp)
        have hf2 : (v 2) = .slice (some ⟨pb, po, none⟩) p.length pkv := hall.2.2.1 (by simp)
        have hf3 : (v 3) = .int .i64 (i : Int) := hall.2.2.2.1 (by simp)
        have hf4 : (v 4) = .pointer (some ⟨pb, po + i * 32, none⟩) := hall.2.2.2.2.1 (by simp)
        have hf5 : (v 5) = .agg (cellsB (y)) := hall.2.2.2.2.2.1 (by simp)
        have hf6 : (v 6) = .slice (some ⟨qb, qo, none⟩) p.length qkv := hall.2.2.2.2.2.2.1 (by simp)
        have hf7 : (v 7) = .int .i64 (i : Int) := hall.2.2.2.2.2.2.2.1 (by simp)
        have hf8 : (v 8) = .pointer (some ⟨qb, qo + i * 32, none⟩) := hall.2.2.2.2.2.2.2.2.1 (by simp)
        have hf9 : (v 9) = .agg (cellsB (z)) := hall.2.2.2.2.2.2.2.2.2.1 (by simp)
        have hf10 : ∃ g, (v 10) = .pointer (some ⟨g, 0, none⟩) ∧ B ≤ g ∧ Row wA g 25 (cellsB (List.replicate 32 0)) := hall.2.2.2.2.2.2.2.2.2.2.1 (by simp)
        have hf11 : ∃ g, (v 11) = .pointer (some ⟨g, 0, none⟩) ∧ B ≤ g ∧ Row wA g 25 (cellsB (List.replicate 32 0)) := hall.2.2.2.2.2.2.2.2.2.2.2.1 (by simp)
        have hf12 : ∃ g, (v 12) = .pointer (some ⟨g, 0, none⟩) ∧ B ≤ g ∧ Row wA g 25 (cellsB (List.replicate 32 0)) := hall.2.2.2.2.2.2.2.2.2.2.2.2.1 (by simp)
        have hf13 : ∃ g, (v 13) = .pointer (some ⟨g, 0, none⟩) ∧ B ≤ g ∧ Row wA g 25 (cellsB (List.replicate 32 0)) := hall.2.2.2.2.2.2.2.2.2.2.2.2.2.1 (by simp)
        have hap1011 : v 11 ≠ v 10 := hap 10 (by decide) 11 (by decide) (by decide)
        have hap1012 : v 12 ≠ v 10 := hap 10 (by decide) 12 (by decide) (by decide)
        have hap1013 : v 13 ≠ v 10 := hap 10 (by decide) 13 (by decide) (by decide)
        have hap1112 : v 12 ≠ v 11 := hap 11 (by decide) 12 (by decide) (by decide)
        have hap1113 : v 13 ≠ v 11 := hap 11 (by decide) 13 (by decide) (by decide)
        have hap1213 : v 13 ≠ v 12 := hap 12 (by decide) 13 (by decide) (by decide)
        clear hap
        clear hall i5 i6 i3 i4 i15 hsz
        rw [ha0]
        clear ha0
        simp only [List.take_succ_cons, List.take_zero, List.drop_succ_cons, List.drop_zero, putAll, Act.put, List.setIfInBounds_toArray, List.set_cons_zero, List.set_cons_succ, Nat.zero_add, Nat.reduceAdd]
        rw [hf0, hf1, hf2, hf3, hf4, hf5, hf6, hf7, hf8, hf9]
        generalize v 10 = x10 at *
        generalize v 11 = x11 at *
        generalize v 12 = x12 at *
        generalize v 13 = x13 at *
        clear hf0 hf1 hf2 hf3 hf4 hf5 hf6 hf7 hf8 hf9
        obtain ⟨gl, hgl, hglB, hL⟩ := hf10
        obtain ⟨gm, hgm, hgmB, hM⟩ := hf11
        obtain ⟨gr, hgr, hgrB, hR⟩ := hf12
        obtain ⟨gs, hgs, hgsB, hS⟩ := hf13
        subst hgl hgm hgr hgs
        have n1 : gm ≠ gl := fun e => hap1011 (by rw [e])
        have n2 : gr ≠ gl := fun e => hap1012 (by rw [e])
        have n3 : gs ≠ gl := fun e => hap1013 (by rw [e])
        have n4 : gr ≠ gm := fun e => hap1112 (by rw [e])
        have n5 : gs ≠ gm := fun e => hap1113 (by rw [e])
        have n6 : gs ≠ gr := fun e => hap1213 (by rw [e])
        have m1 : wr.heap.size ≤ gl := by omega
        have m2 : wr.heap.size ≤ gm := by omega
        have m3 : wr.heap.size ≤ gr := by omega
        have m4 : wr.heap.size ≤ gs := by omega
        clear hap1011 hap1012 hap1013 hap1112 hap1113 hap1213
        have ha0 := ha
        have hc0 := hcb
        refine ⟨fun u => Below wr.heap.size wr u, ⟨(fun o ho u hu => by cases ho; exact exec_load_row (.tmp 6) rfl (w.heap.size + 1) rfl b1 HB1.out (hc0.below hu hc0.lt)), (fun o ho u _ => by cases ho; rfl), (fun o ho u _ => by cases ho; rfl), (fun o ho u hu => by cases ho; exact exec_index (.tmp 72) (.tmp 73) rfl pb po p.length pkv i rfl rfl hlt), (fun o ho u hu => by cases ho; exact exec_load_mid (.tmp 74) rfl pb (po + i * 32) rfl y HY1.out (range_below hcy hu)), (fun o ho u _ => by cases ho; rfl), (fun o ho u _ => by cases ho; rfl), (fun o ho u hu => by cases ho; exact exec_index (.tmp 76) (.tmp 77) rfl qb qo p.length qkv i rfl rfl hlt), (fun o ho u hu => by cases ho; exact exec_load_mid (.tmp 78) rfl qb (qo + i * 32) rfl z HZ1.out (range_below hcz hu)), trivial⟩, ?_⟩
        replace ha := ha.below hg.below ha.lt
        replace hcb := hcb.below hg.below hcb.lt
        have hBw := hg.below
        clear hg
        refine wpListI_cons hBw ?_
        refine wpList_store_row rfl 25 (.tmp 16) (.tmp 70) rfl gl rfl (cellsB a1) _ 25 rfl hL (by rw [cellsB_size, cellsB_size, HA1.out]; first | rfl | exact ((List.length_replicate : (List.replicate 32 (0 : UInt8)).length = 32)).symm) (Tryd.sizeD_of _ HA1.out) (cellsB_one _) ?_
        intro wu1 hgu1 hrow1 hzu1
        clear hzu1
        replace ha := ha.grown hgu1 (fun e => by have := Option.some.inj e; omega)
        replace hcb := hcb.grown hgu1 (fun e => by have := Option.some.inj e; omega)
        replace hM := hM.grown hgu1 (fun e => by have := Option.some.inj e; omega)
        replace hR := hR.grown hgu1 (fun e => by have := Option.some.inj e; omega)
        replace hS := hS.grown hgu1 (fun e => by have := Option.some.inj e; omega)
        replace hL := hrow1
        clear hrow1
        replace hBw := hBw.grown hgu1 hBw.size (fun k hk => by cases hk; omega)
        clear hgu1
        refine lateQ_intro ?_
        refine wpListI_cons hBw ?_
        refine wpList_store_row rfl 25 (.tmp 17) (.tmp 71) rfl gm rfl (cellsB b1) _ 25 rfl hM (by rw [cellsB_size, cellsB_size, HB1.out]; first | rfl | exact ((List.length_replicate : (List.replicate 32 (0 : UInt8)).length = 32)).symm) (Tryd.sizeD_of _ HB1.out) (cellsB_one _) ?_
        intro wu2 hgu2 hrow2 hzu2
        clear hzu2
        replace ha := ha.grown hgu2 (fun e => by have := Option.some.inj e; omega)
        replace hcb := hcb.grown hgu2 (fun e => by have := Option.some.inj e; omega)
        replace hL := hL.grown hgu2 (fun e => by have := Option.some.inj e; omega)
        replace hR := hR.grown hgu2 (fun e => by have := Option.some.inj e; omega)
        replace hS := hS.grown hgu2 (fun e => by have := Option.some.inj e; omega)
        replace hM := hrow2
        clear hrow2
        replace hBw := hBw.grown hgu2 hBw.size (fun k hk => by cases hk; omega)
        clear hgu2
        refine lateQ_intro ?_
        refine wpListI_cons hBw ?_
        refine wpList_store_row rfl 25 (.tmp 18) (.tmp 75) rfl gr rfl (cellsB y) _ 25 rfl hR (by rw [cellsB_size, cellsB_size, HY1.out]; first | rfl | exact ((List.length_replicate : (List.replicate 32 (0 : UInt8)).length = 32)).symm) (Tryd.sizeD_of _ HY1.out) (cellsB_one _) ?_
        intro wu3 hgu3 hrow3 hzu3
        clear hzu3
        replace ha := ha.grown hgu3 (fun e => by have := Option.some.inj e; omega)
        replace hcb := hcb.grown hgu3 (fun e => by have := Option.some.inj e; omega)
        replace hL := hL.grown hgu3 (fun e => by have := Option.some.inj e; omega)
        replace hM := hM.grown hgu3 (fun e => by have := Option.some.inj e; omega)
        replace hS := hS.grown hgu3 (fun e => by have := Option.some.inj e; omega)
        replace hR := hrow3
        clear hrow3
        replace hBw := hBw.grown hgu3 hBw.size (fun k hk => by cases hk; omega)
        clear hgu3
        refine lateQ_intro ?_
        refine wpListI_cons hBw ?_
        refine wpList_store_row rfl 25 (.tmp 19) (.tmp 79) rfl gs rfl (cellsB z) _ 25 rfl hS (by rw [cellsB_size, cellsB_size, HZ1.out]; first | rfl | exact ((List.length_replicate : (List.replicate 32 (0 : UInt8)).length = 32)).symm) (Tryd.sizeD_of _ HZ1.out) (cellsB_one _) ?_
        intro wu4 hgu4 hrow4 hzu4
        clear hzu4
        replace ha := ha.grown hgu4 (fun e => by have := Option.some.inj e; omega)
        replace hcb := hcb.grown hgu4 (fun e => by have := Option.some.inj e; omega)
        replace hL := hL.grown hgu4 (fun e => by have := Option.some.inj e; omega)
        replace hM := hM.grown hgu4 (fun e => by have := Option.some.inj e; omega)
        replace hR := hR.grown hgu4 (fun e => by have := Option.some.inj e; omega)
        replace hS := hrow4
        clear hrow4
        replace hBw := hBw.grown hgu4 hBw.size (fun k hk => by cases hk; omega)
        clear hgu4
        refine lateQ_intro ?_
        refine wpListI_nil hBw ?_
        clear eB
        go_wp2
        have hBC := hB.trans (hBw.mono hB.size)
        have hKC := hK.below hBC hkl
        have hklC := hKC.lt
        have hlC := ha.lt
        have hlC2 := hcb.lt
        have hlC3 := hL.lt
        have hlC4 := hM.lt
        have hlC5 := hR.lt
        have hlC6 := hS.lt
        obtain ⟨B, eB⟩ : ∃ B, wu4.heap.size = B := ⟨_, rfl⟩
        rw [← HR15.out]
        clear HR15
        refine wp_gen fun a0 ha0 => ?_
        have i16 : a0.eval (.tmp 16) = .pointer (some ⟨gl, 0, none⟩) := by rw [ha0]; rfl
        have i17 : a0.eval (.tmp 17) = .pointer (some ⟨gm, 0, none⟩) := by rw [ha0]; rfl
        have i18 : a0.eval (.tmp 18) = .pointer (some ⟨gr, 0, none⟩) := by rw [ha0]; rfl
        have i19 : a0.eval (.tmp 19) = .pointer (some ⟨gs, 0, none⟩) := by rw [ha0]; rfl
        have hsz : a0.tmps.size = 113 := by rw [ha0]; rfl
        refine wp_region_inv_tail (B := B) 6 [some 93, some 94, some 95, some 96, some 97, some 98, none, none] [Asrt.eq (.agg (cellsB (a1))), Asrt.eq (.agg (cellsB (y))), Asrt.eq (.agg (cellsB (a2))), Asrt.eq (.agg (cellsB (b1))), Asrt.eq (.agg (cellsB (z))), Asrt.eq (.agg (cellsB (b2)))] rfl (by as_aux_lemma => kernel_rfl) (by rw [hsz]; as_aux_lemma => kernel_rfl) (by as_aux_lemma => kernel_rfl) (by as_aux_lemma => kernel_rfl) (by as_aux_lemma => kernel_rfl) (by decide) (by as_aux_lemma => kernel_rfl) (by omega) ⟨?_, ?_, ?_, ?_, ?_, ?_, trivial⟩ ?_
        · as_aux_lemma =>
            intro ev w1 hg hin hc hgl hfn hd
            have hB := hg.top
            have g16 : ev (.tmp 16) = .pointer (some ⟨gl, 0, none⟩) := (hin 16 (by kernel_rfl)).trans i16
            clear hin hd
            refine step_on (guard_none rfl) fun K hK => ?_
            refine yg_load_row 25 (.tmp 16) rfl gl g16 25 (cellsB (a1)) (0, 0) _ (hL.below hg.bl (by omega)) Tryd.underD rfl (Tryd.sizeD_of _ HA1.out) ?_
            exact hK _ _ rfl (Grow.refl hB)
        · as_aux_lemma =>
            intro ev w1 hg hin hc hgl hfn hd
            have hB := hg.top
            have g18 : ev (.tmp 18) = .pointer (some ⟨gr, 0, none⟩) := (hin 18 (by kernel_rfl)).trans i18
            clear hin hd
            refine step_on (guard_none rfl) fun K hK => ?_
            refine yg_load_row 25 (.tmp 18) rfl gr g18 25 (cellsB (y)) (0, 0) _ (hR.below hg.bl (by omega)) Tryd.underD rfl (Tryd.sizeD_of _ HY1.out) ?_
            exact hK _ _ rfl (Grow.refl hB)
        · as_aux_lemma =>
            intro ev w1 hg hin hc hgl hfn hd
            have hB := hg.top
            have f93 : (ev (.tmp 93)) = .agg (cellsB (a1)) := hd.1 rfl _ rfl
            have f94 : (ev (.tmp 94)) = .agg (cellsB (y)) := hd.2.1 rfl _ rfl
            clear hin hd
            refine step_on (guard_none rfl) fun K hK => ?_
            unfold YieldsG
            go_simp
            refine (pair_any a1 y w1 HA1.out HY1.out (hKC.below hg.bl (by omega))).mono ?_
            rintro e w2 ⟨rfl, hb⟩
            exact ⟨_, rfl, hK _ _ (by show _ = _; rw [HPA.out]) (Grow.of hB hb)⟩
        · as_aux_lemma =>
            intro ev w1 hg hin hc hgl hfn hd
            have hB := hg.top
            have g17 : ev (.tmp 17) = .pointer (some ⟨gm, 0, none⟩) := (hin 17 (by kernel_rfl)).trans i17
            clear hin hd
            refine step_on (guard_none rfl) fun K hK => ?_
            refine yg_load_row 25 (.tmp 17) rfl gm g17 25 (cellsB (b1)) (0, 0) _ (hM.below hg.bl (by omega)) Tryd.underD rfl (Tryd.sizeD_of _ HB1.out) ?_
            exact hK _ _ rfl (Grow.refl hB)
        · as_aux_lemma =>
            intro ev w1 hg hin hc hgl hfn hd
            have hB := hg.top
            have g19 : ev (.tmp 19) = .pointer (some ⟨gs, 0, none⟩) := (hin 19 (by kernel_rfl)).trans i19
            clear hin hd
            refine step_on (guard_none rfl) fun K hK => ?_
            refine yg_load_row 25 (.tmp 19) rfl gs g19 25 (cellsB (z)) (0, 0) _ (hS.below hg.bl (by omega)) Tryd.underD rfl (Tryd.sizeD_of _ HZ1.out) ?_
            exact hK _ _ rfl (Grow.refl hB)
        · as_aux_lemma =>
            intro ev w1 hg hin hc hgl hfn hd
            have hB := hg.top
            have f96 : (ev (.tmp 96)) = .agg (cellsB (b1)) := hd.1 rfl _ rfl
            have f97 : (ev (.tmp 97)) = .agg (cellsB (z)) := hd.2.1 rfl _ rfl
            clear hin hd
            refine step_on (guard_none rfl) fun K hK => ?_
            unfold YieldsG
            go_simp
            refine (pair_any b1 z w1 HB1.out HZ1.out (hKC.below hg.bl (by omega))).mono ?_
            rintro e w2 ⟨rfl, hb⟩
            exact ⟨_, rfl, hK _ _ (by show _ = _; rw [HPB.out]) (Grow.of hB hb)⟩
        intro v wD hg hall
        have hf0 : (v 0) = .agg (cellsB (a1)) := hall.1 (by simp)
        have hf1 : (v 1) = .agg (cellsB (y)) := hall.2.1 (by simp)
        have hf2 : (v 2) = .agg (cellsB (a2)) := hall.2.2.1 (by simp)
        have hf3 : (v 3) = .agg (cellsB (b1)) := hall.2.2.2.1 (by simp)
        have hf4 : (v 4) = .agg (cellsB (z)) := hall.2.2.2.2.1 (by simp)
        have hf5 : (v 5) = .agg (cellsB (b2)) := hall.2.2.2.2.2.1 (by simp)
        clear hall i16 i17 i18 i19 hsz
        rw [ha0]
        clear ha0
        simp only [List.take_succ_cons, List.take_zero, List.drop_succ_cons, List.drop_zero, putAll, Act.put, List.setIfInBounds_toArray, List.set_cons_zero, List.set_cons_succ, Nat.zero_add, Nat.reduceAdd]
        rw [hf0, hf1, hf2, hf3, hf4, hf5]
        clear hf0 hf1 hf2 hf3 hf4 hf5
        replace ha := ha.below hg.below hlC
        replace hcb := hcb.below hg.below hlC2
        replace hL := hL.below hg.below hlC3
        replace hM := hM.below hg.below hlC4
        replace hR := hR.below hg.below hlC5
        replace hS := hS.below hg.below hlC6
        replace hBw := hBw.trans (hg.below.mono hBw.size)
        clear hg hlC hlC2 hlC3 hlC4 hlC5 hlC6 eB
        have hBD := hB.trans (hBw.mono hB.size)
        clear hBw hBC
        have hq1 := fun w => eqlB a2 b2 HA2.out HB2.out w
        by_cases hab2 : a2 = b2
        · rw [decide_eq_true hab2] at hq1
          have hqlm := fun w => neqB a1 b1 HA1.out HB1.out w
          by_cases hlm : a1 = b1
          · have hqrs := fun w => neqB y z HY1.out HZ1.out w
            rw [decide_eq_false (HOR.out hlm)] at hqrs
            rw [decide_eq_true hlm] at hqlm
            simp only [Bool.not_true, Bool.not_false] at hqlm hqrs
            clear hab2 hlm
            go_wp2_with (first | (refine wpList_store_row rfl 25 (.tmp 5) (.tmp 95) rfl w.heap.size rfl (cellsB a2) _ 25 rfl ha (by rw [cellsB_size, cellsB_size, HA2.out, HA1.out]) (Tryd.sizeD_of _ HA2.out) (cellsB_one _) ?_; intro wu5 hgu5 hrow5 hzu5; clear hzu5; replace hcb := hcb.grown hgu5 (fun e => by have := Option.some.inj e; omega); replace hL := hL.grown hgu5 (fun e => by have := Option.some.inj e; omega); replace hM := hM.grown hgu5 (fun e => by have := Option.some.inj e; omega); replace hR := hR.grown hgu5 (fun e => by have := Option.some.inj e; omega); replace hS := hS.grown hgu5 (fun e => by have := Option.some.inj e; omega); replace ha := hrow5; clear hrow5; replace hBD := hBD.grown hgu5 hBD.size (fun k hk => by cases hk; omega); clear hgu5) | (refine wpList_store_row rfl 25 (.tmp 6) (.tmp 98) rfl (w.heap.size + 1) rfl (cellsB b2) _ 25 rfl hcb (by rw [cellsB_size, cellsB_size, HB2.out, HB1.out]) (Tryd.sizeD_of _ HB2.out) (cellsB_one _) ?_; intro wu6 hgu6 hrow6 hzu6; clear hzu6; replace ha := ha.grown hgu6 (fun e => by have := Option.some.inj e; omega); replace hL := hL.grown hgu6 (fun e => by have := Option.some.inj e; omega); replace hM := hM.grown hgu6 (fun e => by have := Option.some.inj e; omega); replace hR := hR.grown hgu6 (fun e => by have := Option.some.inj e; omega); replace hS := hS.grown hgu6 (fun e => by have := Option.some.inj e; omega); replace hcb := hrow6; clear hrow6; replace hBD := hBD.grown hgu6 hBD.size (fun k hk => by cases hk; omega); clear hgu6; have hq1D := hq1 wu6; have hqlmD := hqlm wu6; have hqrsD := hqrs wu6) | (refine wpList_load_on 25 (.tmp 5) rfl rfl (w.heap.size) rfl 25 (cellsB a2) (0, 0) _ ha Tryd.underD rfl HSA2.out ?_) | (refine wpList_load_on 25 (.tmp 6) rfl rfl (w.heap.size + 1) rfl 25 (cellsB b2) (0, 0) _ hcb Tryd.underD rfl HSB2.out ?_) | (refine wpList_load_on 25 (.tmp 16) rfl rfl gl rfl 25 (cellsB a1) (0, 0) _ hL Tryd.underD rfl (Tryd.sizeD_of _ HA1.out) ?_) | (refine wpList_load_on 25 (.tmp 17) rfl rfl gm rfl 25 (cellsB b1) (0, 0) _ hM Tryd.underD rfl (Tryd.sizeD_of _ HB1.out) ?_) | (refine wpList_load_on 25 (.tmp 18) rfl rfl gr rfl 25 (cellsB y) (0, 0) _ hR Tryd.underD rfl (Tryd.sizeD_of _ HY1.out) ?_) | (refine wpList_load_on 25 (.tmp 19) rfl rfl gs rfl 25 (cellsB z) (0, 0) _ hS Tryd.underD rfl (Tryd.sizeD_of _ HZ1.out) ?_))
            go_ret
            exact ⟨rfl, hBD⟩
          · rw [decide_eq_false hlm] at hqlm
            simp only [Bool.not_false] at hqlm
            clear hab2 hlm
            go_wp2_with (first | (refine wpList_store_row rfl 25 (.tmp 5) (.tmp 95) rfl w.heap.size rfl (cellsB a2) _ 25 rfl ha (by rw [cellsB_size, cellsB_size, HA2.out, HA1.out]) (Tryd.sizeD_of _ HA2.out) (cellsB_one _) ?_; intro wu5 hgu5 hrow5 hzu5; clear hzu5; replace hcb := hcb.grown hgu5 (fun e => by have := Option.some.inj e; omega); replace hL := hL.grown hgu5 (fun e => by have := Option.some.inj e; omega); replace hM := hM.grown hgu5 (fun e => by have := Option.some.inj e; omega); replace hR := hR.grown hgu5 (fun e => by have := Option.some.inj e; omega); replace hS := hS.grown hgu5 (fun e => by have := Option.some.inj e; omega); replace ha := hrow5; clear hrow5; replace hBD := hBD.grown hgu5 hBD.size (fun k hk => by cases hk; omega); clear hgu5) | (refine wpList_store_row rfl 25 (.tmp 6) (.tmp 98) rfl (w.heap.size + 1) rfl (cellsB b2) _ 25 rfl hcb (by rw [cellsB_size, cellsB_size, HB2.out, HB1.out]) (Tryd.sizeD_of _ HB2.out) (cellsB_one _) ?_; intro wu6 hgu6 hrow6 hzu6; clear hzu6; replace ha := ha.grown hgu6 (fun e => by have := Option.some.inj e; omega); replace hL := hL.grown hgu6 (fun e => by have := Option.some.inj e; omega); replace hM := hM.grown hgu6 (fun e => by have := Option.some.inj e; omega); replace hR := hR.grown hgu6 (fun e => by have := Option.some.inj e; omega); replace hS := hS.grown hgu6 (fun e => by have := Option.some.inj e; omega); replace hcb := hrow6; clear hrow6; replace hBD := hBD.grown hgu6 hBD.size (fun k hk => by cases hk; omega); clear hgu6; have hq1D := hq1 wu6; have hqlmD := hqlm wu6) | (refine wpList_load_on 25 (.tmp 5) rfl rfl (w.heap.size) rfl 25 (cellsB a2) (0, 0) _ ha Tryd.underD rfl HSA2.out ?_) | (refine wpList_load_on 25 (.tmp 6) rfl rfl (w.heap.size + 1) rfl 25 (cellsB b2) (0, 0) _ hcb Tryd.underD rfl HSB2.out ?_) | (refine wpList_load_on 25 (.tmp 16) rfl rfl gl rfl 25 (cellsB a1) (0, 0) _ hL Tryd.underD rfl (Tryd.sizeD_of _ HA1.out) ?_) | (refine wpList_load_on 25 (.tmp 17) rfl rfl gm rfl 25 (cellsB b1) (0, 0) _ hM Tryd.underD rfl (Tryd.sizeD_of _ HB1.out) ?_) | (refine wpList_load_on 25 (.tmp 18) rfl rfl gr rfl 25 (cellsB y) (0, 0) _ hR Tryd.underD rfl (Tryd.sizeD_of _ HY1.out) ?_) | (refine wpList_load_on 25 (.tmp 19) rfl rfl gs rfl 25 (cellsB z) (0, 0) _ hS Tryd.underD rfl (Tryd.sizeD_of _ HZ1.out) ?_))
            go_ret
            exact ⟨rfl, hBD⟩
        · rw [decide_eq_false hab2] at hq1
          have HAB2 := Lib.hid hab2
          clear hab2
          go_wp2_with (first | (refine wpList_store_row rfl 25 (.tmp 5) (.tmp 95) rfl w.heap.size rfl (cellsB a2) _ 25 rfl ha (by rw [cellsB_size, cellsB_size, HA2.out, HA1.out]) (Tryd.sizeD_of _ HA2.out) (cellsB_one _) ?_; intro wu5 hgu5 hrow5 hzu5; clear hzu5; replace hcb := hcb.grown hgu5 (fun e => by have := Option.some.inj e; omega); replace hL := hL.grown hgu5 (fun e => by have := Option.some.inj e; omega); replace hM := hM.grown hgu5 (fun e => by have := Option.some.inj e; omega); replace hR := hR.grown hgu5 (fun e => by have := Option.some.inj e; omega); replace hS := hS.grown hgu5 (fun e => by have := Option.some.inj e; omega); replace ha := hrow5; clear hrow5; replace hBD := hBD.grown hgu5 hBD.size (fun k hk => by cases hk; omega); clear hgu5) | (refine wpList_store_row rfl 25 (.tmp 6) (.tmp 98) rfl (w.heap.size + 1) rfl (cellsB b2) _ 25 rfl hcb (by rw [cellsB_size, cellsB_size, HB2.out, HB1.out]) (Tryd.sizeD_of _ HB2.out) (cellsB_one _) ?_; intro wu6 hgu6 hrow6 hzu6; clear hzu6; replace ha := ha.grown hgu6 (fun e => by have := Option.some.inj e; omega); replace hL := hL.grown hgu6 (fun e => by have := Option.some.inj e; omega); replace hM := hM.grown hgu6 (fun e => by have := Option.some.inj e; omega); replace hR := hR.grown hgu6 (fun e => by have := Option.some.inj e; omega); replace hS := hS.grown hgu6 (fun e => by have := Option.some.inj e; omega); replace hcb := hrow6; clear hrow6; replace hBD := hBD.grown hgu6 hBD.size (fun k hk => by cases hk; omega); clear hgu6; have hq1D := hq1 wu6) | (refine wpList_load_on 25 (.tmp 5) rfl rfl (w.heap.size) rfl 25 (cellsB a2) (0, 0) _ ha Tryd.underD rfl HSA2.out ?_) | (refine wpList_load_on 25 (.tmp 6) rfl rfl (w.heap.size + 1) rfl 25 (cellsB b2) (0, 0) _ hcb Tryd.underD rfl HSB2.out ?_))
          go_roundw
          case rel => exact ⟨i + 1, a2, b2, jj, by omega, by go_num, rfl, hBD, ha, hcb, HA2.out, HB2.out, HAB2.out, HCL.out, by omega⟩
          case measure => simp [intOf]; omega
    · obtain rfl : i = p.length := by omega
      rw [List.drop_length, show q.drop p.length = [] by rw [← HQL.out]; exact List.drop_length] at hcl
      exact absurd hcl hne
theorem forgery_any (a b : Dg) (idx : Int) (v : Value) (p : List Dg) (v' : Value) (q : List Dg) (w : World) (hal : a.length = 32) (hbl : b.length = 32) (_h0 : -9223372036854775808 ≤ idx) (h1 : idx ≤ 9223372036854775807) (hv : Digs w v p) (h32p : all32 p) (hv' : Digs w v' q) (h32q : all32 q) (hK : KFact w) :
    Calls Tryd.prog 7 #[.agg (cellsB a), .agg (cellsB b), .int .i64 idx, v, v'] w fun e w' => e = .returned (.bool true) ∧ Below w.heap.size w w' := by
  by_cases hq : q.length = p.length
  · by_cases hc : 6 < p.length
    · exact fc_big a b idx v v' p q w hal hbl hv h32p hv' h32q hK hq hc
    · by_cases hab : a = b
      · exact fc_same a b idx v v' p q w hal hbl hv h32p hv' h32q hK hq hc hab
      · cases hok : okClimb idx p.length with
        | false => exact fc_bad a b idx v v' p q w hal hbl hv h32p hv' h32q hK hq hc hab hok
        | true =>
          by_cases hxy : climbR a idx p = climbR b idx q
          · exact fc_loop a b idx v v' p q w hal hbl hv h32p hv' h32q hK hq hc h1 hab hok hxy
          · exact fc_diff a b idx v v' p q w hal hbl hv h32p hv' h32q hK hq hc hab hok hxy
  · exact fc_len a b idx v v' p q w hal hbl hv h32p hv' h32q hK (fun e => hq e.symm)
end Go.Proofs.YteogcilnpkaplaaDoor

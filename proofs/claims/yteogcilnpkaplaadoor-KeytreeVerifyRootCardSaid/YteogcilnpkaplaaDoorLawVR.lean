/- crossbarlaw05.KeytreeVerifyRoot returns true. Conditions: the digests have 32 bytes, the tables lie in their variables. -/
import Derived.Test.YteogcilnpkaplaaDoorM10
import Derived.Test.YteogcilnpkaplaaDoorM14
namespace Go.Proofs.YteogcilnpkaplaaDoor
open Go.RowKit
set_option maxRecDepth 100000 in
set_option maxHeartbeats 4000000 in
theorem vr_neg (root : Dg) (mv : Value) (msg : List UInt8) (i : Int) (cv pv : Value) (cs ps : List Dg) (w : World) (hr : root.length = 32) (hm : Bytes w mv msg (fun _ => True)) (hc : Digs w cv cs) (h32c : all32 cs) (hp : Digs w pv ps) (h32p : all32 ps) (hK : KFact w) (h : i < 0) :
    Calls Tryd.prog 10 #[.agg (cellsB root), mv, .agg (sigC i cv pv)] w fun e w' => e = .returned (.bool true) ∧ Below w.heap.size w w' := by
  have hkl := hK.lt
  have HRT := Lib.hid hr
  have HSR := Lib.hid (Tryd.sizeD_of root hr)
  have H32C := Lib.hid h32c
  have H32P := Lib.hid h32p
  obtain ⟨fs, hu⟩ := Tryd.underG
  have HU := Lib.hid hu
  obtain ⟨ac, kc, rfl⟩ := hc.form
  obtain ⟨ap, kp, rfl⟩ := hp.form
  obtain ⟨am, km, rfl⟩ : ∃ a c, mv = .slice a msg.length c := by obtain ⟨a, c, h, _⟩ := hm; exact ⟨a, c, h⟩
  have hb0 : Below w.heap.size w ((w.alloc (.cells (cellsB root) 25)).alloc (.cells (sigC i (.slice ac cs.length kc) (.slice ap ps.length kp)) 31)) := ((Below.refl _ _).alloc (Nat.le_refl _) _).alloc (by simp) _
  have hr0 : Row ((w.alloc (.cells (cellsB root) 25)).alloc (.cells (sigC i (.slice ac cs.length kc) (.slice ap ps.length kp)) 31)) w.heap.size 25 (cellsB root) := (Row.new w _ _).alloc _
  have hs0 : Row ((w.alloc (.cells (cellsB root) 25)).alloc (.cells (sigC i (.slice ac cs.length kc) (.slice ap ps.length kp)) 31)) (w.heap.size + 1) 31 (sigC i (.slice ac cs.length kc) (.slice ap ps.length kp)) := by
    have h := Row.new (w.alloc (.cells (cellsB root) 25)) (sigC i (.slice ac cs.length kc) (.slice ap ps.length kp)) 31
    rwa [show (w.alloc (.cells (cellsB root) 25)).heap.size = w.heap.size + 1 by simp] at h
  clear hr h32c h32p hu
  have dI : decide (i < (0 : Int)) = true := decide_eq_true (by omega)
  clear h
  go_enter Tryd.func10, Tryd.ntmps10
  go_wp2_with fail
  refine (sane_any _ (hK.below hb0 hkl)).mono ?_
  rintro e w0 ⟨rfl, hb1⟩
  have hB0 := hb0.trans (hb1.mono hb0.size)
  have hr1 := hr0.below hb1 hr0.lt
  have hs1 := hs0.below hb1 hs0.lt
  have hf0 : w0.cell? ⟨w.heap.size + 1, 0, none⟩ = some (.int .i64 i) := hs1.cell 0
  have hf1 : w0.cell? ⟨w.heap.size + 1, 1, none⟩ = some (.slice ac cs.length kc) := hs1.cell 1
  have hf2 : w0.cell? ⟨w.heap.size + 1, 2, none⟩ = some (.slice ap ps.length kp) := hs1.cell 2
  clear hb0 hr0 hs0 hb1
  go_wp2
  go_ret
  exact ⟨rfl, hB0⟩
set_option maxRecDepth 100000 in
set_option maxHeartbeats 4000000 in
theorem vr_four (root : Dg) (mv : Value) (msg : List UInt8) (i : Int) (cv pv : Value) (cs ps : List Dg) (w : World) (hr : root.length = 32) (hm : Bytes w mv msg (fun _ => True)) (hc : Digs w cv cs) (h32c : all32 cs) (hp : Digs w pv ps) (h32p : all32 ps) (hK : KFact w) (h0 : ¬ i < 0) (h : 3 < i) :
    Calls Tryd.prog 10 #[.agg (cellsB root), mv, .agg (sigC i cv pv)] w fun e w' => e = .returned (.bool true) ∧ Below w.heap.size w w' := by
  have hkl := hK.lt
  have HRT := Lib.hid hr
  have HSR := Lib.hid (Tryd.sizeD_of root hr)
  have H32C := Lib.hid h32c
  have H32P := Lib.hid h32p
  obtain ⟨fs, hu⟩ := Tryd.underG
  have HU := Lib.hid hu
  obtain ⟨ac, kc, rfl⟩ := hc.form
  obtain ⟨ap, kp, rfl⟩ := hp.form
  obtain ⟨am, km, rfl⟩ : ∃ a c, mv = .slice a msg.length c := by obtain ⟨a, c, h, _⟩ := hm; exact ⟨a, c, h⟩
  have hb0 : Below w.heap.size w ((w.alloc (.cells (cellsB root) 25)).alloc (.cells (sigC i (.slice ac cs.length kc) (.slice ap ps.length kp)) 31)) := ((Below.refl _ _).alloc (Nat.le_refl _) _).alloc (by simp) _
  have hr0 : Row ((w.alloc (.cells (cellsB root) 25)).alloc (.cells (sigC i (.slice ac cs.length kc) (.slice ap ps.length kp)) 31)) w.heap.size 25 (cellsB root) := (Row.new w _ _).alloc _
  have hs0 : Row ((w.alloc (.cells (cellsB root) 25)).alloc (.cells (sigC i (.slice ac cs.length kc) (.slice ap ps.length kp)) 31)) (w.heap.size + 1) 31 (sigC i (.slice ac cs.length kc) (.slice ap ps.length kp)) := by
    have h := Row.new (w.alloc (.cells (cellsB root) 25)) (sigC i (.slice ac cs.length kc) (.slice ap ps.length kp)) 31
    rwa [show (w.alloc (.cells (cellsB root) 25)).heap.size = w.heap.size + 1 by simp] at h
  clear hr h32c h32p hu
  have dI : decide (i < (0 : Int)) = false := decide_eq_false (by omega)
  have dJ : decide ((3 : Int) < i) = true := decide_eq_true (by omega)
  clear h h0
  go_enter Tryd.func10, Tryd.ntmps10
  go_wp2_with fail
  refine (sane_any _ (hK.below hb0 hkl)).mono ?_
  rintro e w0 ⟨rfl, hb1⟩
  have hB0 := hb0.trans (hb1.mono hb0.size)
  have hr1 := hr0.below hb1 hr0.lt
  have hs1 := hs0.below hb1 hs0.lt
  have hf0 : w0.cell? ⟨w.heap.size + 1, 0, none⟩ = some (.int .i64 i) := hs1.cell 0
  have hf1 : w0.cell? ⟨w.heap.size + 1, 1, none⟩ = some (.slice ac cs.length kc) := hs1.cell 1
  have hf2 : w0.cell? ⟨w.heap.size + 1, 2, none⟩ = some (.slice ap ps.length kp) := hs1.cell 2
  clear hb0 hr0 hs0 hb1
  go_wp2
  go_ret
  exact ⟨rfl, hB0⟩
set_option maxRecDepth 100000 in
set_option maxHeartbeats 4000000 in
theorem vr_cs (root : Dg) (mv : Value) (msg : List UInt8) (i : Int) (cv pv : Value) (cs ps : List Dg) (w : World) (hr : root.length = 32) (hm : Bytes w mv msg (fun _ => True)) (hc : Digs w cv cs) (h32c : all32 cs) (hp : Digs w pv ps) (h32p : all32 ps) (hK : KFact w) (h0 : ¬ i < 0) (h3 : ¬ 3 < i) (h : ¬ cs.length = 18) :
    Calls Tryd.prog 10 #[.agg (cellsB root), mv, .agg (sigC i cv pv)] w fun e w' => e = .returned (.bool true) ∧ Below w.heap.size w w' := by
  have hkl := hK.lt
  have HRT := Lib.hid hr
  have HSR := Lib.hid (Tryd.sizeD_of root hr)
  have H32C := Lib.hid h32c
  have H32P := Lib.hid h32p
  obtain ⟨fs, hu⟩ := Tryd.underG
  have HU := Lib.hid hu
  obtain ⟨ac, kc, rfl⟩ := hc.form
  obtain ⟨ap, kp, rfl⟩ := hp.form
  obtain ⟨am, km, rfl⟩ : ∃ a c, mv = .slice a msg.length c := by obtain ⟨a, c, h, _⟩ := hm; exact ⟨a, c, h⟩
  have hb0 : Below w.heap.size w ((w.alloc (.cells (cellsB root) 25)).alloc (.cells (sigC i (.slice ac cs.length kc) (.slice ap ps.length kp)) 31)) := ((Below.refl _ _).alloc (Nat.le_refl _) _).alloc (by simp) _
  have hr0 : Row ((w.alloc (.cells (cellsB root) 25)).alloc (.cells (sigC i (.slice ac cs.length kc) (.slice ap ps.length kp)) 31)) w.heap.size 25 (cellsB root) := (Row.new w _ _).alloc _
  have hs0 : Row ((w.alloc (.cells (cellsB root) 25)).alloc (.cells (sigC i (.slice ac cs.length kc) (.slice ap ps.length kp)) 31)) (w.heap.size + 1) 31 (sigC i (.slice ac cs.length kc) (.slice ap ps.length kp)) := by
    have h := Row.new (w.alloc (.cells (cellsB root) 25)) (sigC i (.slice ac cs.length kc) (.slice ap ps.length kp)) 31
    rwa [show (w.alloc (.cells (cellsB root) 25)).heap.size = w.heap.size + 1 by simp] at h
  clear hr h32c h32p hu
  have dI : decide (i < (0 : Int)) = false := decide_eq_false (by omega)
  have dJ : decide ((3 : Int) < i) = false := decide_eq_false (by omega)
  have hd2 : ¬ (cs.length : Int) = 18 := by omega
  have hd3 : ((cs.length : Int) == 18) = false := by simpa using hd2
  clear h h0 h3
  go_enter Tryd.func10, Tryd.ntmps10
  go_wp2_with fail
  refine (sane_any _ (hK.below hb0 hkl)).mono ?_
  rintro e w0 ⟨rfl, hb1⟩
  have hB0 := hb0.trans (hb1.mono hb0.size)
  have hr1 := hr0.below hb1 hr0.lt
  have hs1 := hs0.below hb1 hs0.lt
  have hf0 : w0.cell? ⟨w.heap.size + 1, 0, none⟩ = some (.int .i64 i) := hs1.cell 0
  have hf1 : w0.cell? ⟨w.heap.size + 1, 1, none⟩ = some (.slice ac cs.length kc) := hs1.cell 1
  have hf2 : w0.cell? ⟨w.heap.size + 1, 2, none⟩ = some (.slice ap ps.length kp) := hs1.cell 2
  clear hb0 hr0 hs0 hb1
  go_wp2
  go_ret
  exact ⟨rfl, hB0⟩
set_option maxRecDepth 100000 in
set_option maxHeartbeats 4000000 in
theorem vr_ps (root : Dg) (mv : Value) (msg : List UInt8) (i : Int) (cv pv : Value) (cs ps : List Dg) (w : World) (hr : root.length = 32) (hm : Bytes w mv msg (fun _ => True)) (hc : Digs w cv cs) (h32c : all32 cs) (hp : Digs w pv ps) (h32p : all32 ps) (hK : KFact w) (h0 : ¬ i < 0) (h3 : ¬ 3 < i) (hcs : cs.length = 18) (h : ¬ ps.length = 2) :
    Calls Tryd.prog 10 #[.agg (cellsB root), mv, .agg (sigC i cv pv)] w fun e w' => e = .returned (.bool true) ∧ Below w.heap.size w w' := by
  have hkl := hK.lt
  have HRT := Lib.hid hr
  have HSR := Lib.hid (Tryd.sizeD_of root hr)
  have H32C := Lib.hid h32c
  have H32P := Lib.hid h32p
  obtain ⟨fs, hu⟩ := Tryd.underG
  have HU := Lib.hid hu
  obtain ⟨ac, kc, rfl⟩ := hc.form
  obtain ⟨ap, kp, rfl⟩ := hp.form
  obtain ⟨am, km, rfl⟩ : ∃ a c, mv = .slice a msg.length c := by obtain ⟨a, c, h, _⟩ := hm; exact ⟨a, c, h⟩
  have hb0 : Below w.heap.size w ((w.alloc (.cells (cellsB root) 25)).alloc (.cells (sigC i (.slice ac cs.length kc) (.slice ap ps.length kp)) 31)) := ((Below.refl _ _).alloc (Nat.le_refl _) _).alloc (by simp) _
  have hr0 : Row ((w.alloc (.cells (cellsB root) 25)).alloc (.cells (sigC i (.slice ac cs.length kc) (.slice ap ps.length kp)) 31)) w.heap.size 25 (cellsB root) := (Row.new w _ _).alloc _
  have hs0 : Row ((w.alloc (.cells (cellsB root) 25)).alloc (.cells (sigC i (.slice ac cs.length kc) (.slice ap ps.length kp)) 31)) (w.heap.size + 1) 31 (sigC i (.slice ac cs.length kc) (.slice ap ps.length kp)) := by
    have h := Row.new (w.alloc (.cells (cellsB root) 25)) (sigC i (.slice ac cs.length kc) (.slice ap ps.length kp)) 31
    rwa [show (w.alloc (.cells (cellsB root) 25)).heap.size = w.heap.size + 1 by simp] at h
  clear hr h32c h32p hu
  have dI : decide (i < (0 : Int)) = false := decide_eq_false (by omega)
  have dJ : decide ((3 : Int) < i) = false := decide_eq_false (by omega)
  have hd2 : ¬ (ps.length : Int) = 2 := by omega
  have hd3 : ((ps.length : Int) == 2) = false := by simpa using hd2
  rw [hcs] at hb0 hr0 hs0 hc ⊢
  clear h h0 h3
  go_enter Tryd.func10, Tryd.ntmps10
  go_wp2_with fail
  refine (sane_any _ (hK.below hb0 hkl)).mono ?_
  rintro e w0 ⟨rfl, hb1⟩
  have hB0 := hb0.trans (hb1.mono hb0.size)
  have hr1 := hr0.below hb1 hr0.lt
  have hs1 := hs0.below hb1 hs0.lt
  have hf0 : w0.cell? ⟨w.heap.size + 1, 0, none⟩ = some (.int .i64 i) := hs1.cell 0
  have hf1 : w0.cell? ⟨w.heap.size + 1, 1, none⟩ = some (.slice ac 18 kc) := hs1.cell 1
  have hf2 : w0.cell? ⟨w.heap.size + 1, 2, none⟩ = some (.slice ap ps.length kp) := hs1.cell 2
  clear hb0 hr0 hs0 hb1
  go_wp2
  go_ret
  exact ⟨rfl, hB0⟩
set_option maxRecDepth 100000 in
set_option maxHeartbeats 4000000 in
theorem vr_m (root : Dg) (mv : Value) (msg : List UInt8) (i : Int) (cv pv : Value) (cs ps : List Dg) (w : World) (hr : root.length = 32) (hm : Bytes w mv msg (fun _ => True)) (hc : Digs w cv cs) (h32c : all32 cs) (hp : Digs w pv ps) (h32p : all32 ps) (hK : KFact w) (h0 : ¬ i < 0) (h3 : ¬ 3 < i) (hcs : cs.length = 18) (hps : ps.length = 2) (h : 300 < msg.length) :
    Calls Tryd.prog 10 #[.agg (cellsB root), mv, .agg (sigC i cv pv)] w fun e w' => e = .returned (.bool true) ∧ Below w.heap.size w w' := by
  have hkl := hK.lt
  have HRT := Lib.hid hr
  have HSR := Lib.hid (Tryd.sizeD_of root hr)
  have H32C := Lib.hid h32c
  have H32P := Lib.hid h32p
  obtain ⟨fs, hu⟩ := Tryd.underG
  have HU := Lib.hid hu
  obtain ⟨ac, kc, rfl⟩ := hc.form
  obtain ⟨ap, kp, rfl⟩ := hp.form
  obtain ⟨am, km, rfl⟩ : ∃ a c, mv = .slice a msg.length c := by obtain ⟨a, c, h, _⟩ := hm; exact ⟨a, c, h⟩
  have hb0 : Below w.heap.size w ((w.alloc (.cells (cellsB root) 25)).alloc (.cells (sigC i (.slice ac cs.length kc) (.slice ap ps.length kp)) 31)) := ((Below.refl _ _).alloc (Nat.le_refl _) _).alloc (by simp) _
  have hr0 : Row ((w.alloc (.cells (cellsB root) 25)).alloc (.cells (sigC i (.slice ac cs.length kc) (.slice ap ps.length kp)) 31)) w.heap.size 25 (cellsB root) := (Row.new w _ _).alloc _
  have hs0 : Row ((w.alloc (.cells (cellsB root) 25)).alloc (.cells (sigC i (.slice ac cs.length kc) (.slice ap ps.length kp)) 31)) (w.heap.size + 1) 31 (sigC i (.slice ac cs.length kc) (.slice ap ps.length kp)) := by
    have h := Row.new (w.alloc (.cells (cellsB root) 25)) (sigC i (.slice ac cs.length kc) (.slice ap ps.length kp)) 31
    rwa [show (w.alloc (.cells (cellsB root) 25)).heap.size = w.heap.size + 1 by simp] at h
  clear hr h32c h32p hu
  have dI : decide (i < (0 : Int)) = false := decide_eq_false (by omega)
  have dJ : decide ((3 : Int) < i) = false := decide_eq_false (by omega)
  have dM : decide ((300 : Int) < (msg.length : Int)) = true := decide_eq_true (by omega)
  rw [hcs] at hb0 hr0 hs0 hc ⊢
  rw [hps] at hb0 hr0 hs0 hp ⊢
  clear h h0 h3
  go_enter Tryd.func10, Tryd.ntmps10
  go_wp2_with fail
  refine (sane_any _ (hK.below hb0 hkl)).mono ?_
  rintro e w0 ⟨rfl, hb1⟩
  have hB0 := hb0.trans (hb1.mono hb0.size)
  have hr1 := hr0.below hb1 hr0.lt
  have hs1 := hs0.below hb1 hs0.lt
  have hf0 : w0.cell? ⟨w.heap.size + 1, 0, none⟩ = some (.int .i64 i) := hs1.cell 0
  have hf1 : w0.cell? ⟨w.heap.size + 1, 1, none⟩ = some (.slice ac 18 kc) := hs1.cell 1
  have hf2 : w0.cell? ⟨w.heap.size + 1, 2, none⟩ = some (.slice ap 2 kp) := hs1.cell 2
  clear hb0 hr0 hs0 hb1
  go_wp2
  go_ret
  exact ⟨rfl, hB0⟩
set_option maxRecDepth 100000 in
set_option maxHeartbeats 4000000 in
theorem vr_ok (root : Dg) (mv : Value) (msg : List UInt8) (i : Int) (cv pv : Value) (cs ps : List Dg) (w : World) (hr : root.length = 32) (hm : Bytes w mv msg (fun _ => True)) (hc : Digs w cv cs) (h32c : all32 cs) (hp : Digs w pv ps) (h32p : all32 ps) (hK : KFact w) (hm3 : ¬ 300 < msg.length) (hsh : shapeB i cs ps = true) :
    Calls Tryd.prog 10 #[.agg (cellsB root), mv, .agg (sigC i cv pv)] w fun e w' => e = .returned (.bool true) ∧ Below w.heap.size w w' := by
  have hkl := hK.lt
  have HRT := Lib.hid hr
  have HSR := Lib.hid (Tryd.sizeD_of root hr)
  have H32C := Lib.hid h32c
  have H32P := Lib.hid h32p
  obtain ⟨fs, hu⟩ := Tryd.underG
  have HU := Lib.hid hu
  obtain ⟨ac, kc, rfl⟩ := hc.form
  obtain ⟨ap, kp, rfl⟩ := hp.form
  obtain ⟨am, km, rfl⟩ : ∃ a c, mv = .slice a msg.length c := by obtain ⟨a, c, h, _⟩ := hm; exact ⟨a, c, h⟩
  have hb0 : Below w.heap.size w ((w.alloc (.cells (cellsB root) 25)).alloc (.cells (sigC i (.slice ac cs.length kc) (.slice ap ps.length kp)) 31)) := ((Below.refl _ _).alloc (Nat.le_refl _) _).alloc (by simp) _
  have hr0 : Row ((w.alloc (.cells (cellsB root) 25)).alloc (.cells (sigC i (.slice ac cs.length kc) (.slice ap ps.length kp)) 31)) w.heap.size 25 (cellsB root) := (Row.new w _ _).alloc _
  have hs0 : Row ((w.alloc (.cells (cellsB root) 25)).alloc (.cells (sigC i (.slice ac cs.length kc) (.slice ap ps.length kp)) 31)) (w.heap.size + 1) 31 (sigC i (.slice ac cs.length kc) (.slice ap ps.length kp)) := by
    have h := Row.new (w.alloc (.cells (cellsB root) 25)) (sigC i (.slice ac cs.length kc) (.slice ap ps.length kp)) 31
    rwa [show (w.alloc (.cells (cellsB root) 25)).heap.size = w.heap.size + 1 by simp] at h
  clear hr h32c h32p hu
  obtain ⟨h0, h4, hcs, hps⟩ := (shapeB_iff _ _ _).1 hsh
  have dI : decide (i < (0 : Int)) = false := decide_eq_false (by omega)
  have dJ : decide ((3 : Int) < i) = false := decide_eq_false (by omega)
  have dM : decide ((300 : Int) < (msg.length : Int)) = false := decide_eq_false (by omega)
  have HML : Hid (msg.length ≤ 1000000) := Lib.hid (by omega)
  have HES := Lib.hid (errS_shape hsh)
  have HEC := Lib.hid (errC_shape hsh)
  have hmo : (msgOf msg).length = 32 := taggedOf_len _ _
  have HV1 : Hid (verK (climbR (recR (msgOf msg) cs) i ps) msg i cs ps = true) := Lib.hid (by unfold verK; rw [hsh, Bool.true_and, decide_eq_true rfl])
  have HV2 : Hid (verK root msg i cs ps = decide (climbR (recR (msgOf msg) cs) i ps = root)) := Lib.hid (by unfold verK; rw [hsh, Bool.true_and])
  obtain ⟨mo, hmo'⟩ : ∃ mo, msgOf msg = mo := ⟨_, rfl⟩
  rw [hmo'] at hmo HV1 HV2
  have HMO := Lib.hid hmo
  have HMX : Hid (taggedOf (ByteArray.mk #[109, 115, 103]).data.toList msg = mo) := Lib.hid hmo'
  obtain ⟨x, hx⟩ : ∃ x, recR mo cs = x := ⟨_, rfl⟩
  have hxl : x.length = 32 := by rw [← hx]; exact recR_len _ _
  rw [hx] at HV1 HV2
  have HXE := Lib.hid hx
  have HX := Lib.hid hxl
  have HSX := Lib.hid (Tryd.sizeD_of x hxl)
  have HCX : Hid ((cellsB x).size = (cellsB (List.replicate 32 0)).size) := Lib.hid (by rw [cellsB_size, hxl]; rfl)
  obtain ⟨y, hy⟩ : ∃ y, climbR x i ps = y := ⟨_, rfl⟩
  have hyl : y.length = 32 := by rw [← hy]; exact climbR_len _ _ _ hxl
  rw [hy] at HV1 HV2
  have HYE := Lib.hid hy
  have HY := Lib.hid hyl
  have HSY := Lib.hid (Tryd.sizeD_of y hyl)
  have HCY : Hid ((cellsB y).size = (cellsB (List.replicate 32 0)).size) := Lib.hid (by rw [cellsB_size, hyl]; rfl)
  have hqe := fun w => eqlB y root HY.out HRT.out w
  generalize hbb : decide (y = root) = bb at *
  rw [hcs] at hb0 hr0 hs0 hc ⊢
  rw [hps] at hb0 hr0 hs0 hp ⊢
  clear hmo hmo' hx hxl hy hyl hcs hps h0 h4 hsh hbb hm3
  go_enter Tryd.func10, Tryd.ntmps10
  generalize hR5 : Code.region 5 _ _ = R5
  generalize hR7 : Code.region 7 _ _ = R7
  have HR5 := Lib.hid hR5
  have HR7 := Lib.hid hR7
  clear hR5 hR7
  go_wp2_with fail
  refine (sane_any _ (hK.below hb0 hkl)).mono ?_
  rintro e w0 ⟨rfl, hb1⟩
  have hB0 := hb0.trans (hb1.mono hb0.size)
  have hr1 := hr0.below hb1 hr0.lt
  have hs1 := hs0.below hb1 hs0.lt
  have hf0 : w0.cell? ⟨w.heap.size + 1, 0, none⟩ = some (.int .i64 i) := hs1.cell 0
  have hf1 : w0.cell? ⟨w.heap.size + 1, 1, none⟩ = some (.slice ac 18 kc) := hs1.cell 1
  have hf2 : w0.cell? ⟨w.heap.size + 1, 2, none⟩ = some (.slice ap 2 kp) := hs1.cell 2
  clear hb0 hr0 hs0 hb1
  go_wp2
  rw [← HR5.out]
  clear HR5
  have hc0 := hc.later hB0
  have hp0 := hp.later hB0
  have hm0 := (hm.later hB0).imp (ok' := fun _ => True) fun _ _ => trivial
  have hK0 := hK.below hB0 hkl
  have hkl0 := hK0.lt
  have hlr := hr1.lt
  have hls := hs1.lt
  obtain ⟨B, eB⟩ : ∃ B, w0.heap.size = B := ⟨_, rfl⟩
  refine wp_gen fun a0 ha0 => ?_
  have i1 : a0.eval (.tmp 1) = .slice am msg.length km := by rw [ha0]; rfl
  have i5 : a0.eval (.tmp 5) = .pointer (some ⟨w.heap.size + 1, 0, none⟩) := by rw [ha0]; rfl
  have hsz : a0.tmps.size = 77 := by rw [ha0]; rfl
  refine wp_region_inv_late (B := B) 9 [some 39, some 40, some 41, some 42, some 43, some 38, some 44, some 45, some 7, none, some 8] [Asrt.eq (.slice am msg.length km), Asrt.eq (.agg (cellsB (mo))), Asrt.eq (.pointer (some ⟨w.heap.size + 1, 1, none⟩)), Asrt.eq (.slice ac 18 kc), Asrt.eq (.tuple #[.agg (cellsB x), .int .i64 0]), Asrt.eq (.tuple #[.agg (cellsB x), .int .i64 0]), Asrt.eq (.agg (cellsB (x))), Asrt.eq (.int .i64 0), Asrt.box] [(7, .int .i64 0)] rfl (by as_aux_lemma => kernel_rfl) (by rw [hsz]; as_aux_lemma => kernel_rfl) (by as_aux_lemma => kernel_rfl) (by as_aux_lemma => kernel_rfl) (by decide) ⟨rfl, trivial⟩ (by omega) ⟨?_, ?_, ?_, ?_, ?_, ?_, ?_, ?_, ?_, trivial⟩ ?_
  · as_aux_lemma =>
      intro ev w1 hg hin hc hgl hfn hd
      have hB := hg.top
      have g1 : ev (.tmp 1) = .slice am msg.length km := (hin 1 (by kernel_rfl)).trans i1
      clear hin hd
      refine step_on (guard_none rfl) fun K hK => ?_
      unfold YieldsG
      go_simp
      exact hK _ _ rfl (Grow.refl hB)
  · as_aux_lemma =>
      intro ev w1 hg hin hc hgl hfn hd
      have hB := hg.top
      have f39 : (ev (.tmp 39)) = .slice am msg.length km := hd.1 rfl _ rfl
      clear hin hd
      refine step_on (guard_none rfl) fun K hK => ?_
      unfold YieldsG
      go_simp
      refine (tagged_any _ _ msg _ w1 (by decide) ((hm0.later (by rw [eB]; exact hg.bl)).imp fun _ _ => trivial) (hK0.below hg.bl (by omega)) (by have := HML.out; omega)).mono ?_
      rintro e w2 ⟨rfl, hb⟩
      exact ⟨_, rfl, hK _ _ (by show _ = _; rw [HMX.out]) (Grow.of hB hb)⟩
  · as_aux_lemma =>
      intro ev w1 hg hin hc hgl hfn hd
      have hB := hg.top
      have g5 : ev (.tmp 5) = .pointer (some ⟨w.heap.size + 1, 0, none⟩) := (hin 5 (by kernel_rfl)).trans i5
      clear hin hd
      refine step_on (guard_none rfl) fun K hK => ?_
      unfold YieldsG
      go_simp
      exact hK _ _ rfl (Grow.refl hB)
  · as_aux_lemma =>
      intro ev w1 hg hin hc hgl hfn hd
      have hB := hg.top
      have f41 : (ev (.tmp 41)) = .pointer (some ⟨w.heap.size + 1, 1, none⟩) := hd.1 rfl _ rfl
      clear hin hd
      refine step_on (guard_none rfl) fun K hK => ?_
      have hc1 := hg.cell hf1
      unfold YieldsG
      go_simp
      exact hK _ _ rfl (Grow.refl hB)
  · as_aux_lemma =>
      intro ev w1 hg hin hc hgl hfn hd
      have hB := hg.top
      have f40 : (ev (.tmp 40)) = .agg (cellsB (mo)) := hd.1 rfl _ rfl
      have f42 : (ev (.tmp 42)) = .slice ac 18 kc := hd.2.1 rfl _ rfl
      clear hin hd
      refine step_on (guard_none rfl) fun K hK => ?_
      unfold YieldsG
      go_simp
      refine (recover_any mo cs _ w1 HMO.out (hc0.later (by rw [eB]; exact hg.bl)) H32C.out (hK0.below hg.bl (by omega))).mono ?_
      rintro e w2 ⟨rfl, hb⟩
      exact ⟨_, rfl, hK _ _ (by show _ = _; rw [HXE.out, HES.out]; rfl) (Grow.of hB hb)⟩
  · as_aux_lemma =>
      intro ev w1 hg hin hc hgl hfn hd
      have hB := hg.top
      have f43 : (ev (.tmp 43)) = .tuple #[.agg (cellsB x), .int .i64 0] := hd.1 rfl _ rfl
      clear hin hd
      refine step_on (guard_none rfl) fun K hK => ?_
      unfold YieldsG
      go_simp
      exact hK _ _ rfl (Grow.refl hB)
  · as_aux_lemma =>
      intro ev w1 hg hin hc hgl hfn hd
      have hB := hg.top
      have f38 : (ev (.tmp 38)) = .tuple #[.agg (cellsB x), .int .i64 0] := hd.1 rfl _ rfl
      clear hin hd
      refine step_on (guard_none rfl) fun K hK => ?_
      unfold YieldsG
      go_simp
      exact hK _ _ rfl (Grow.refl hB)
  · as_aux_lemma =>
      intro ev w1 hg hin hc hgl hfn hd
      have hB := hg.top
      have f38 : (ev (.tmp 38)) = .tuple #[.agg (cellsB x), .int .i64 0] := hd.1 rfl _ rfl
      clear hin hd
      refine step_on (guard_none rfl) fun K hK => ?_
      unfold YieldsG
      go_simp
      exact hK _ _ rfl (Grow.refl hB)
  · as_aux_lemma =>
      intro ev w1 hg hin hc hgl hfn hd
      have hB := hg.top
      clear hin hd
      refine step_on (guard_none rfl) fun K hK => ?_
      unfold YieldsG
      go_simp
      exact hK _ _ ⟨_, rfl, hB, Row.new _ _ _⟩ (Grow.of hB ((Below.refl _ _).alloc (Nat.le_refl _) _))
  intro v w1 hg hall
  have hf0 : (v 0) = .slice am msg.length km := hall.1 (by simp)
  have hf1 : (v 1) = .agg (cellsB (mo)) := hall.2.1 (by simp)
  have hf2 : (v 2) = .pointer (some ⟨w.heap.size + 1, 1, none⟩) := hall.2.2.1 (by simp)
  have hf3 : (v 3) = .slice ac 18 kc := hall.2.2.2.1 (by simp)
  have hf4 : (v 4) = .tuple #[.agg (cellsB x), .int .i64 0] := hall.2.2.2.2.1 (by simp)
  have hf5 : (v 5) = .tuple #[.agg (cellsB x), .int .i64 0] := hall.2.2.2.2.2.1 (by simp)
  have hf6 : (v 6) = .agg (cellsB (x)) := hall.2.2.2.2.2.2.1 (by simp)
  have hf7 : (v 7) = .int .i64 0 := hall.2.2.2.2.2.2.2.1 (by simp)
  have hf8 : ∃ g, (v 8) = .pointer (some ⟨g, 0, none⟩) ∧ B ≤ g ∧ Row w1 g 25 (cellsB (List.replicate 32 0)) := hall.2.2.2.2.2.2.2.2.1 (by simp)
  clear hall i1 i5 hsz
  rw [ha0]
  clear ha0
  simp only [List.take_succ_cons, List.take_zero, List.drop_succ_cons, List.drop_zero, putAll, Act.put, List.setIfInBounds_toArray, List.set_cons_zero, List.set_cons_succ, Nat.zero_add, Nat.reduceAdd]
  rw [hf0, hf1, hf2, hf3, hf4, hf5, hf6, hf7]
  generalize v 8 = x8 at *
  clear hf0 hf1 hf2 hf3 hf4 hf5 hf6 hf7
  obtain ⟨g7, hg7, hgB7, hgr7⟩ := hf8
  subst hg7
  have hB1 := hB0.trans (hg.below.mono hB0.size)
  have hr2 := hr1.below hg.below hlr
  have hs2 := hs1.below hg.below hls
  have hzz := hB0.size
  clear hg hr1 hs1 hf0 hf1 hf2 hc0 hp0 hm0 hK0
  refine ⟨fun _ => True, ⟨fun o ho w _ => by cases ho; rfl, trivial⟩, ?_⟩
  refine wpListI_cons trivial ?_
  refine wpList_store_row rfl 25 (.tmp 7) (.tmp 44) rfl g7 rfl (cellsB x) _ 25 rfl hgr7 HCX.out HSX.out (cellsB_one _) ?_
  intro w2 hg2 hx2 hz2
  have hr3 := hr2.grown hg2 (fun e => by have := Option.some.inj e; omega)
  have hs3 := hs2.grown hg2 (fun e => by have := Option.some.inj e; omega)
  have hB2 := hB1.grown hg2 hB1.size (fun k hk => by cases hk; omega)
  have hp2 := hp.later hB2
  have hf0 : w2.cell? ⟨w.heap.size + 1, 0, none⟩ = some (.int .i64 i) := hs3.cell 0
  have hf2 : w2.cell? ⟨w.heap.size + 1, 2, none⟩ = some (.slice ap 2 kp) := hs3.cell 2
  clear hg2 hr2 hs2 hB1 hgr7 hgB7 eB hz2
  refine lateQ_intro (wpListI_cons trivial ?_)
  go_wp2
  refine ⟨rfl, wpListI_nil trivial ?_⟩
  go_wp2_with (first | (refine wpList_load_row rfl 25 (.tmp 7) rfl g7 rfl 25 (cellsB x) (0, 0) _ hx2 Tryd.underD rfl HSX.out ?_))
  refine (climb_any x i ps _ w2 HX.out hp2 H32P.out (hK.below hB2 hkl)).mono ?_
  rintro e w3 ⟨rfl, hb3⟩
  rw [HYE.out, HEC.out]
  have hB3 := hB2.trans (hb3.mono hB2.size)
  have hr4 := hr3.below hb3 hr3.lt
  have hs4 := hs3.below hb3 hs3.lt
  have hl3 := hr4.lt
  have hl4 := hs4.lt
  clear hb3 hB2 hr3 hs3 hx2 hf0 hf2 hp2
  go_wp2_with (first | (refine wpList_store_row rfl 25 (.tmp 9) (.tmp 53) rfl w3.heap.size rfl (cellsB y) (cellsB (List.replicate 32 0)) 25 rfl (Row.new w3 _ _) HCY.out HSY.out (cellsB_one _) ?_; intro w4 hg4 hy5 hz4; clear hz4; have hb4 := box_below hg4; clear hg4; have hr5 := hr4.below hb4 hl3; have hs5 := hs4.below hb4 hl4; have hB4 := hB3.trans (hb4.mono hB3.size); clear hb4 hB3 hr4 hs4))
  rw [← HR7.out]
  clear HR7
  have hbl' := hB4
  have hc4 := hc.later hB4
  have hp4 := hp.later hB4
  have hm4 := (hm.later hB4).imp (ok' := fun _ => True) fun _ _ => trivial
  have hK4 := hK.below hB4 hkl
  have hkl4 := hK4.lt
  obtain ⟨n9, en9⟩ : ∃ n9, w3.heap.size = n9 := ⟨_, rfl⟩
  rw [en9] at hy5 ⊢
  have hl5 := hr5.lt
  have hl6 := hs5.lt
  have hl7 := hy5.lt
  obtain ⟨B, eB⟩ : ∃ B, w4.heap.size = B := ⟨_, rfl⟩
  refine wp_gen fun a0 ha0 => ?_
  have i8 : a0.eval (.tmp 8) = .int .i64 0 := by rw [ha0]; rfl
  have i10 : a0.eval (.tmp 10) = .int .i64 0 := by rw [ha0]; rfl
  have i9 : a0.eval (.tmp 9) = .pointer (some ⟨n9, 0, none⟩) := by rw [ha0]; rfl
  have i3 : a0.eval (.tmp 3) = .pointer (some ⟨w.heap.size, 0, none⟩) := by rw [ha0]; rfl
  have i5 : a0.eval (.tmp 5) = .pointer (some ⟨w.heap.size + 1, 0, none⟩) := by rw [ha0]; rfl
  have i1 : a0.eval (.tmp 1) = .slice am msg.length km := by rw [ha0]; rfl
  have hsz : a0.tmps.size = 77 := by rw [ha0]; rfl
  have hdf0 : a0.defers = [] := by rw [ha0]
  clear ha0
  refine wp_region_inv (B := B) [some 55, some 56, some 57, some 58, some 59, some 60, some 61, some 62, some 63, some 64, some 65, some 66, some 67, some 68, some 69, some 70, some 71, some 72, some 73, some 74, some 75, some 76, some 6] [Asrt.eq (.int .i64 0), Asrt.eq (.bool true), Asrt.eq (.bool true), Asrt.eq (.int .i64 0), Asrt.eq (.bool true), Asrt.eq (.bool true), Asrt.eq (.bool true), Asrt.eq (.agg (cellsB (y))), Asrt.eq (.slice am msg.length km), Asrt.eq (.agg (sigC i (.slice ac 18 kc) (.slice ap 2 kp))), Asrt.eq (.bool true), Asrt.eq (.bool true), Asrt.eq (.bool true), Asrt.eq (.agg (cellsB (root))), Asrt.eq (.slice am msg.length km), Asrt.eq (.agg (sigC i (.slice ac 18 kc) (.slice ap 2 kp))), Asrt.eq (.bool bb), Asrt.eq (.agg (cellsB (y))), Asrt.eq (.agg (cellsB (root))), Asrt.eq (.bool bb), Asrt.eq (.bool true), Asrt.eq (.bool true), Asrt.eq (.bool true)] rfl (by as_aux_lemma => kernel_rfl) (by rw [hsz]; as_aux_lemma => kernel_rfl) (by as_aux_lemma => kernel_rfl) (by omega) ⟨?_, ?_, ?_, ?_, ?_, ?_, ?_, ?_, ?_, ?_, ?_, ?_, ?_, ?_, ?_, ?_, ?_, ?_, ?_, ?_, ?_, ?_, ?_, trivial⟩ ?_
  · as_aux_lemma =>
      intro ev w1 hg hin hc hgl hfn hd
      have hB := hg.top
      have g8 : ev (.tmp 8) = .int .i64 0 := (hin 8 (by kernel_rfl)).trans i8
      clear hin hd
      refine step_on (guard_none rfl) fun K hK => ?_
      unfold YieldsG
      go_simp
      exact hK _ _ rfl (Grow.refl hB)
  · as_aux_lemma =>
      intro ev w1 hg hin hc hgl hfn hd
      have hB := hg.top
      have f55 : (ev (.tmp 55)) = .int .i64 0 := hd.1 rfl _ rfl
      clear hin hd
      refine step_on (guard_none rfl) fun K hK => ?_
      unfold YieldsG
      go_simp
      exact hK _ _ rfl (Grow.refl hB)
  · as_aux_lemma =>
      intro ev w1 hg hin hc hgl hfn hd
      have hB := hg.top
      have f56 : (ev (.tmp 56)) = .bool true := hd.1 rfl _ rfl
      clear hin hd
      refine step_on (guard_none rfl) fun K hK => ?_
      unfold YieldsG
      go_simp
      exact hK _ _ rfl (Grow.refl hB)
  · as_aux_lemma =>
      intro ev w1 hg hin hc hgl hfn hd
      have hB := hg.top
      have f57 : (ev (.tmp 57)) = .bool true := hd.1 rfl _ rfl
      have g10 : ev (.tmp 10) = .int .i64 0 := (hin 10 (by kernel_rfl)).trans i10
      clear hin hd
      refine step_on (guard_some rfl rfl f57) fun K hK => ?_
      unfold YieldsG
      go_simp
      exact hK _ _ rfl (Grow.refl hB)
  · as_aux_lemma =>
      intro ev w1 hg hin hc hgl hfn hd
      have hB := hg.top
      have f58 : (ev (.tmp 58)) = .int .i64 0 := hd.1 rfl _ rfl
      have f57 : (ev (.tmp 57)) = .bool true := hd.2.1 rfl _ rfl
      clear hin hd
      refine step_on (guard_some rfl rfl f57) fun K hK => ?_
      unfold YieldsG
      go_simp
      exact hK _ _ rfl (Grow.refl hB)
  · as_aux_lemma =>
      intro ev w1 hg hin hc hgl hfn hd
      have hB := hg.top
      have f57 : (ev (.tmp 57)) = .bool true := hd.1 rfl _ rfl
      have f59 : (ev (.tmp 59)) = .bool true := hd.2.1 rfl _ rfl
      clear hin hd
      refine step_on (guard_none rfl) fun K hK => ?_
      unfold YieldsG
      go_simp
      exact hK _ _ rfl (Grow.refl hB)
  · as_aux_lemma =>
      intro ev w1 hg hin hc hgl hfn hd
      have hB := hg.top
      have f60 : (ev (.tmp 60)) = .bool true := hd.1 rfl _ rfl
      clear hin hd
      refine step_on (guard_none rfl) fun K hK => ?_
      unfold YieldsG
      go_simp
      exact hK _ _ rfl (Grow.refl hB)
  · as_aux_lemma =>
      intro ev w1 hg hin hc hgl hfn hd
      have hB := hg.top
      have f61 : (ev (.tmp 61)) = .bool true := hd.1 rfl _ rfl
      have g9 : ev (.tmp 9) = .pointer (some ⟨n9, 0, none⟩) := (hin 9 (by kernel_rfl)).trans i9
      clear hin hd
      refine step_on (guard_some rfl rfl f61) fun K hK => ?_
      refine yg_load_row 25 (.tmp 9) rfl n9 g9 25 (cellsB (y)) (0, 0) _ (hy5.below hg.bl (by omega)) Tryd.underD rfl (Tryd.sizeD_of _ HY.out) ?_
      exact hK _ _ rfl (Grow.refl hB)
  · as_aux_lemma =>
      intro ev w1 hg hin hc hgl hfn hd
      have hB := hg.top
      have f61 : (ev (.tmp 61)) = .bool true := hd.1 rfl _ rfl
      have g1 : ev (.tmp 1) = .slice am msg.length km := (hin 1 (by kernel_rfl)).trans i1
      clear hin hd
      refine step_on (guard_some rfl rfl f61) fun K hK => ?_
      unfold YieldsG
      go_simp
      exact hK _ _ rfl (Grow.refl hB)
  · as_aux_lemma =>
      intro ev w1 hg hin hc hgl hfn hd
      have hB := hg.top
      have f61 : (ev (.tmp 61)) = .bool true := hd.1 rfl _ rfl
      have g5 : ev (.tmp 5) = .pointer (some ⟨w.heap.size + 1, 0, none⟩) := (hin 5 (by kernel_rfl)).trans i5
      clear hin hd
      refine step_on (guard_some rfl rfl f61) fun K hK => ?_
      refine yg_load_row 31 (.tmp 5) rfl (w.heap.size + 1) g5 31 (sigC i (.slice ac 18 kc) (.slice ap 2 kp)) (0, 0) _ (hs5.below hg.bl (by omega)) HU.out rfl (sigC_size _ _ _) ?_
      exact hK _ _ rfl (Grow.refl hB)
  · as_aux_lemma =>
      intro ev w1 hg hin hc hgl hfn hd
      have hB := hg.top
      have f62 : (ev (.tmp 62)) = .agg (cellsB (y)) := hd.1 rfl _ rfl
      have f63 : (ev (.tmp 63)) = .slice am msg.length km := hd.2.1 rfl _ rfl
      have f64 : (ev (.tmp 64)) = .agg (sigC i (.slice ac 18 kc) (.slice ap 2 kp)) := hd.2.2.1 rfl _ rfl
      have f61 : (ev (.tmp 61)) = .bool true := hd.2.2.2.1 rfl _ rfl
      clear hin hd
      refine step_on (guard_some rfl rfl f61) fun K hK => ?_
      unfold YieldsG
      go_simp
      refine (kverify_any y msg _ i _ _ cs ps w1 HY.out ((hm4.later (by rw [eB]; exact hg.bl)).imp fun _ _ => trivial) HML.out (hc4.later (by rw [eB]; exact hg.bl)) H32C.out (hp4.later (by rw [eB]; exact hg.bl)) H32P.out (hK4.below hg.bl (by omega))).mono ?_
      rintro e w2 ⟨rfl, hb⟩
      exact ⟨_, rfl, hK _ _ (by show _ = _; rw [HV1.out]) (Grow.of hB hb)⟩
  · as_aux_lemma =>
      intro ev w1 hg hin hc hgl hfn hd
      have hB := hg.top
      have f61 : (ev (.tmp 61)) = .bool true := hd.1 rfl _ rfl
      have f65 : (ev (.tmp 65)) = .bool true := hd.2.1 rfl _ rfl
      clear hin hd
      refine step_on (guard_none rfl) fun K hK => ?_
      unfold YieldsG
      go_simp
      exact hK _ _ rfl (Grow.refl hB)
  · as_aux_lemma =>
      intro ev w1 hg hin hc hgl hfn hd
      have hB := hg.top
      have f66 : (ev (.tmp 66)) = .bool true := hd.1 rfl _ rfl
      clear hin hd
      refine step_on (guard_none rfl) fun K hK => ?_
      unfold YieldsG
      go_simp
      exact hK _ _ rfl (Grow.refl hB)
  · as_aux_lemma =>
      intro ev w1 hg hin hc hgl hfn hd
      have hB := hg.top
      have f67 : (ev (.tmp 67)) = .bool true := hd.1 rfl _ rfl
      have g3 : ev (.tmp 3) = .pointer (some ⟨w.heap.size, 0, none⟩) := (hin 3 (by kernel_rfl)).trans i3
      clear hin hd
      refine step_on (guard_some rfl rfl f67) fun K hK => ?_
      refine yg_load_row 25 (.tmp 3) rfl w.heap.size g3 25 (cellsB (root)) (0, 0) _ (hr5.below hg.bl (by omega)) Tryd.underD rfl (Tryd.sizeD_of _ HRT.out) ?_
      exact hK _ _ rfl (Grow.refl hB)
  · as_aux_lemma =>
      intro ev w1 hg hin hc hgl hfn hd
      have hB := hg.top
      have f67 : (ev (.tmp 67)) = .bool true := hd.1 rfl _ rfl
      have g1 : ev (.tmp 1) = .slice am msg.length km := (hin 1 (by kernel_rfl)).trans i1
      clear hin hd
      refine step_on (guard_some rfl rfl f67) fun K hK => ?_
      unfold YieldsG
      go_simp
      exact hK _ _ rfl (Grow.refl hB)
  · as_aux_lemma =>
      intro ev w1 hg hin hc hgl hfn hd
      have hB := hg.top
      have f67 : (ev (.tmp 67)) = .bool true := hd.1 rfl _ rfl
      have g5 : ev (.tmp 5) = .pointer (some ⟨w.heap.size + 1, 0, none⟩) := (hin 5 (by kernel_rfl)).trans i5
      clear hin hd
      refine step_on (guard_some rfl rfl f67) fun K hK => ?_
      refine yg_load_row 31 (.tmp 5) rfl (w.heap.size + 1) g5 31 (sigC i (.slice ac 18 kc) (.slice ap 2 kp)) (0, 0) _ (hs5.below hg.bl (by omega)) HU.out rfl (sigC_size _ _ _) ?_
      exact hK _ _ rfl (Grow.refl hB)
  · as_aux_lemma =>
      intro ev w1 hg hin hc hgl hfn hd
      have hB := hg.top
      have f68 : (ev (.tmp 68)) = .agg (cellsB (root)) := hd.1 rfl _ rfl
      have f69 : (ev (.tmp 69)) = .slice am msg.length km := hd.2.1 rfl _ rfl
      have f70 : (ev (.tmp 70)) = .agg (sigC i (.slice ac 18 kc) (.slice ap 2 kp)) := hd.2.2.1 rfl _ rfl
      have f67 : (ev (.tmp 67)) = .bool true := hd.2.2.2.1 rfl _ rfl
      clear hin hd
      refine step_on (guard_some rfl rfl f67) fun K hK => ?_
      unfold YieldsG
      go_simp
      refine (kverify_any root msg _ i _ _ cs ps w1 HRT.out ((hm4.later (by rw [eB]; exact hg.bl)).imp fun _ _ => trivial) HML.out (hc4.later (by rw [eB]; exact hg.bl)) H32C.out (hp4.later (by rw [eB]; exact hg.bl)) H32P.out (hK4.below hg.bl (by omega))).mono ?_
      rintro e w2 ⟨rfl, hb⟩
      exact ⟨_, rfl, hK _ _ (by show _ = _; rw [HV2.out]) (Grow.of hB hb)⟩
  · as_aux_lemma =>
      intro ev w1 hg hin hc hgl hfn hd
      have hB := hg.top
      have f67 : (ev (.tmp 67)) = .bool true := hd.1 rfl _ rfl
      have g9 : ev (.tmp 9) = .pointer (some ⟨n9, 0, none⟩) := (hin 9 (by kernel_rfl)).trans i9
      clear hin hd
      refine step_on (guard_some rfl rfl f67) fun K hK => ?_
      refine yg_load_row 25 (.tmp 9) rfl n9 g9 25 (cellsB (y)) (0, 0) _ (hy5.below hg.bl (by omega)) Tryd.underD rfl (Tryd.sizeD_of _ HY.out) ?_
      exact hK _ _ rfl (Grow.refl hB)
  · as_aux_lemma =>
      intro ev w1 hg hin hc hgl hfn hd
      have hB := hg.top
      have f67 : (ev (.tmp 67)) = .bool true := hd.1 rfl _ rfl
      have g3 : ev (.tmp 3) = .pointer (some ⟨w.heap.size, 0, none⟩) := (hin 3 (by kernel_rfl)).trans i3
      clear hin hd
      refine step_on (guard_some rfl rfl f67) fun K hK => ?_
      refine yg_load_row 25 (.tmp 3) rfl w.heap.size g3 25 (cellsB (root)) (0, 0) _ (hr5.below hg.bl (by omega)) Tryd.underD rfl (Tryd.sizeD_of _ HRT.out) ?_
      exact hK _ _ rfl (Grow.refl hB)
  · as_aux_lemma =>
      intro ev w1 hg hin hc hgl hfn hd
      have hB := hg.top
      have f72 : (ev (.tmp 72)) = .agg (cellsB (y)) := hd.1 rfl _ rfl
      have f73 : (ev (.tmp 73)) = .agg (cellsB (root)) := hd.2.1 rfl _ rfl
      have f67 : (ev (.tmp 67)) = .bool true := hd.2.2.1 rfl _ rfl
      clear hin hd
      refine step_on (guard_some rfl rfl f67) fun K hK => ?_
      have hq := hqe w1
      unfold YieldsG
      go_simp
      exact hK _ _ rfl (Grow.refl hB)
  · as_aux_lemma =>
      intro ev w1 hg hin hc hgl hfn hd
      have hB := hg.top
      have f71 : (ev (.tmp 71)) = .bool bb := hd.1 rfl _ rfl
      have f74 : (ev (.tmp 74)) = .bool bb := hd.2.1 rfl _ rfl
      have f67 : (ev (.tmp 67)) = .bool true := hd.2.2.1 rfl _ rfl
      clear hin hd
      refine step_on (guard_some rfl rfl f67) fun K hK => ?_
      unfold YieldsG
      go_simp
      exact hK _ _ (by show _ = _; first | rfl | simp) (Grow.refl hB)
  · as_aux_lemma =>
      intro ev w1 hg hin hc hgl hfn hd
      have hB := hg.top
      have f67 : (ev (.tmp 67)) = .bool true := hd.1 rfl _ rfl
      have f75 : (ev (.tmp 75)) = .bool true := hd.2.1 rfl _ rfl
      clear hin hd
      refine step_on (guard_none rfl) fun K hK => ?_
      unfold YieldsG
      go_simp
      exact hK _ _ rfl (Grow.refl hB)
  · as_aux_lemma =>
      intro ev w1 hg hin hc hgl hfn hd
      have hB := hg.top
      have f76 : (ev (.tmp 76)) = .bool true := hd.1 rfl _ rfl
      clear hin hd
      refine step_on (guard_none rfl) fun K hK => ?_
      unfold YieldsG
      go_simp
      exact hK _ _ rfl (Grow.refl hB)
  · intro v w9 hg hall
    have hr : v 22 = .bool true := hall.2.2.2.2.2.2.2.2.2.2.2.2.2.2.2.2.2.2.2.2.2.2.1 (by simp)
    generalize hput : putAll _ v 0 _ = af
    have h0 : af.tmps.getD 6 undef = v 22 := by rw [← hput]; exact putAll_at (by rw [hsz]; as_aux_lemma => kernel_rfl) rfl rfl
    have hdf : af.defers = [] := by rw [← hput, putAll_defers]; exact hdf0
    clear hput hall
    go_wp2
    refine bodyPost_ret (results_tmp rfl _ _ _) hdf ⟨?_, hbl'.trans (hg.bl.mono (by rw [← eB]; exact hbl'.size))⟩
    rw [h0, hr]
theorem verifyRoot_any (root : Dg) (mv : Value) (msg : List UInt8) (i : Int) (cv pv : Value) (cs ps : List Dg) (w : World) (hr : root.length = 32) (hm : Bytes w mv msg (fun _ => True)) (_hml : msg.length ≤ maxLen) (_h0 : -9223372036854775808 ≤ i) (_h1 : i ≤ 9223372036854775807) (hc : Digs w cv cs) (h32c : all32 cs) (hp : Digs w pv ps) (h32p : all32 ps) (hK : KFact w) :
    Calls Tryd.prog 10 #[.agg (cellsB root), mv, .agg (sigC i cv pv)] w fun e w' => e = .returned (.bool true) ∧ Below w.heap.size w w' := by
  by_cases h0 : i < 0
  · exact vr_neg root mv msg i cv pv cs ps w hr hm hc h32c hp h32p hK h0
  by_cases h3 : 3 < i
  · exact vr_four root mv msg i cv pv cs ps w hr hm hc h32c hp h32p hK h0 h3
  by_cases hcs : cs.length = 18
  · by_cases hps : ps.length = 2
    · by_cases hm3 : 300 < msg.length
      · exact vr_m root mv msg i cv pv cs ps w hr hm hc h32c hp h32p hK h0 h3 hcs hps hm3
      · exact vr_ok root mv msg i cv pv cs ps w hr hm hc h32c hp h32p hK hm3 ((shapeB_iff _ _ _).2 ⟨by omega, by omega, hcs, hps⟩)
    · exact vr_ps root mv msg i cv pv cs ps w hr hm hc h32c hp h32p hK h0 h3 hcs hps
  · exact vr_cs root mv msg i cv pv cs ps w hr hm hc h32c hp h32p hK h0 h3 hcs
end Go.Proofs.YteogcilnpkaplaaDoor

/- crossbarlaw05.KeytreeVerifyShape returns true. Conditions: the digests have 32 bytes, the tables lie in their variables. -/
import Derived.Test.YteogcilnpkaplaaDoorM10
import Derived.Test.YteogcilnpkaplaaDoorM14
namespace Go.Proofs.YteogcilnpkaplaaDoor
open Go.RowKit
set_option maxRecDepth 100000 in
set_option maxHeartbeats 4000000 in
theorem vs_c (root : Dg) (mv : Value) (msg : List UInt8) (i : Int) (cv pv : Value) (cs ps : List Dg) (w : World) (hr : root.length = 32) (hm : Bytes w mv msg (fun _ => True)) (hc : Digs w cv cs) (h32c : all32 cs) (hp : Digs w pv ps) (h32p : all32 ps) (hK : KFact w) (h : 60 < cs.length) :
    Calls Tryd.prog 9 #[.agg (cellsB root), mv, .agg (sigC i cv pv)] w fun e w' => e = .returned (.bool true) ∧ Below w.heap.size w w' := by
  have hkl := hK.lt
  have HRT := Lib.hid hr
  have HSR := Lib.hid (Tryd.sizeD_of root hr)
  have H32C := Lib.hid h32c
  have H32P := Lib.hid h32p
  obtain ⟨fs, hu⟩ := Tryd.underG
  have HU := Lib.hid hu
  obtain ⟨ac, kc, rfl⟩ := hc.form
  obtain ⟨ap, kp, rfl⟩ := hp.form
  obtain ⟨am, km, rfl⟩ : ∃ a c, mv = .slice a msg.length c := by obtain ⟨a, c, h, _⟩ := hm; exact ⟨a, c, h⟩
  have hb0 : Below w.heap.size w ((w.alloc (.cells (cellsB root) 25)).alloc (.cells (sigC i (.slice ac cs.length kc) (.slice ap ps.length kp)) 31)) := ((Below.refl _ _).alloc (Nat.le_refl _) _).alloc (by simp) _
  have hr0 : Row ((w.alloc (.cells (cellsB root) 25)).alloc (.cells (sigC i (.slice ac cs.length kc) (.slice ap ps.length kp)) 31)) w.heap.size 25 (cellsB root) := (Row.new w _ _).alloc _
  have hs0 : Row ((w.alloc (.cells (cellsB root) 25)).alloc (.cells (sigC i (.slice ac cs.length kc) (.slice ap ps.length kp)) 31)) (w.heap.size + 1) 31 (sigC i (.slice ac cs.length kc) (.slice ap ps.length kp)) := by
    have h := Row.new (w.alloc (.cells (cellsB root) 25)) (sigC i (.slice ac cs.length kc) (.slice ap ps.length kp)) 31
    rwa [show (w.alloc (.cells (cellsB root) 25)).heap.size = w.heap.size + 1 by simp] at h
  clear hr h32c h32p hu
  have dC : decide ((60 : Int) < (cs.length : Int)) = true := decide_eq_true (by omega)
  clear h
  go_enter Tryd.func9, Tryd.ntmps9
  go_wp2_with fail
  refine (sane_any _ (hK.below hb0 hkl)).mono ?_
  rintro e w0 ⟨rfl, hb1⟩
  have hB0 := hb0.trans (hb1.mono hb0.size)
  have hr1 := hr0.below hb1 hr0.lt
  have hs1 := hs0.below hb1 hs0.lt
  have hf0 : w0.cell? ⟨w.heap.size + 1, 0, none⟩ = some (.int .i64 i) := hs1.cell 0
  have hf1 : w0.cell? ⟨w.heap.size + 1, 1, none⟩ = some (.slice ac cs.length kc) := hs1.cell 1
  have hf2 : w0.cell? ⟨w.heap.size + 1, 2, none⟩ = some (.slice ap ps.length kp) := hs1.cell 2
  clear hb0 hr0 hs0 hb1
  go_wp2
  go_ret
  exact ⟨rfl, hB0⟩
set_option maxRecDepth 100000 in
set_option maxHeartbeats 4000000 in
theorem vs_p (root : Dg) (mv : Value) (msg : List UInt8) (i : Int) (cv pv : Value) (cs ps : List Dg) (w : World) (hr : root.length = 32) (hm : Bytes w mv msg (fun _ => True)) (hc : Digs w cv cs) (h32c : all32 cs) (hp : Digs w pv ps) (h32p : all32 ps) (hK : KFact w) (hc6 : ¬ 60 < cs.length) (h : 60 < ps.length) :
    Calls Tryd.prog 9 #[.agg (cellsB root), mv, .agg (sigC i cv pv)] w fun e w' => e = .returned (.bool true) ∧ Below w.heap.size w w' := by
  have hkl := hK.lt
  have HRT := Lib.hid hr
  have HSR := Lib.hid (Tryd.sizeD_of root hr)
  have H32C := Lib.hid h32c
  have H32P := Lib.hid h32p
  obtain ⟨fs, hu⟩ := Tryd.underG
  have HU := Lib.hid hu
  obtain ⟨ac, kc, rfl⟩ := hc.form
  obtain ⟨ap, kp, rfl⟩ := hp.form
  obtain ⟨am, km, rfl⟩ : ∃ a c, mv = .slice a msg.length c := by obtain ⟨a, c, h, _⟩ := hm; exact ⟨a, c, h⟩
  have hb0 : Below w.heap.size w ((w.alloc (.cells (cellsB root) 25)).alloc (.cells (sigC i (.slice ac cs.length kc) (.slice ap ps.length kp)) 31)) := ((Below.refl _ _).alloc (Nat.le_refl _) _).alloc (by simp) _
  have hr0 : Row ((w.alloc (.cells (cellsB root) 25)).alloc (.cells (sigC i (.slice ac cs.length kc) (.slice ap ps.length kp)) 31)) w.heap.size 25 (cellsB root) := (Row.new w _ _).alloc _
  have hs0 : Row ((w.alloc (.cells (cellsB root) 25)).alloc (.cells (sigC i (.slice ac cs.length kc) (.slice ap ps.length kp)) 31)) (w.heap.size + 1) 31 (sigC i (.slice ac cs.length kc) (.slice ap ps.length kp)) := by
    have h := Row.new (w.alloc (.cells (cellsB root) 25)) (sigC i (.slice ac cs.length kc) (.slice ap ps.length kp)) 31
    rwa [show (w.alloc (.cells (cellsB root) 25)).heap.size = w.heap.size + 1 by simp] at h
  clear hr h32c h32p hu
  have dC : decide ((60 : Int) < (cs.length : Int)) = false := decide_eq_false (by omega)
  have dP : decide ((60 : Int) < (ps.length : Int)) = true := decide_eq_true (by omega)
  clear h hc6
  go_enter Tryd.func9, Tryd.ntmps9
  go_wp2_with fail
  refine (sane_any _ (hK.below hb0 hkl)).mono ?_
  rintro e w0 ⟨rfl, hb1⟩
  have hB0 := hb0.trans (hb1.mono hb0.size)
  have hr1 := hr0.below hb1 hr0.lt
  have hs1 := hs0.below hb1 hs0.lt
  have hf0 : w0.cell? ⟨w.heap.size + 1, 0, none⟩ = some (.int .i64 i) := hs1.cell 0
  have hf1 : w0.cell? ⟨w.heap.size + 1, 1, none⟩ = some (.slice ac cs.length kc) := hs1.cell 1
  have hf2 : w0.cell? ⟨w.heap.size + 1, 2, none⟩ = some (.slice ap ps.length kp) := hs1.cell 2
  clear hb0 hr0 hs0 hb1
  go_wp2
  go_ret
  exact ⟨rfl, hB0⟩
set_option maxRecDepth 100000 in
set_option maxHeartbeats 4000000 in
theorem vs_m (root : Dg) (mv : Value) (msg : List UInt8) (i : Int) (cv pv : Value) (cs ps : List Dg) (w : World) (hr : root.length = 32) (hm : Bytes w mv msg (fun _ => True)) (hc : Digs w cv cs) (h32c : all32 cs) (hp : Digs w pv ps) (h32p : all32 ps) (hK : KFact w) (hc6 : ¬ 60 < cs.length) (hp6 : ¬ 60 < ps.length) (h : 300 < msg.length) :
    Calls Tryd.prog 9 #[.agg (cellsB root), mv, .agg (sigC i cv pv)] w fun e w' => e = .returned (.bool true) ∧ Below w.heap.size w w' := by
  have hkl := hK.lt
  have HRT := Lib.hid hr
  have HSR := Lib.hid (Tryd.sizeD_of root hr)
  have H32C := Lib.hid h32c
  have H32P := Lib.hid h32p
  obtain ⟨fs, hu⟩ := Tryd.underG
  have HU := Lib.hid hu
  obtain ⟨ac, kc, rfl⟩ := hc.form
  obtain ⟨ap, kp, rfl⟩ := hp.form
  obtain ⟨am, km, rfl⟩ : ∃ a c, mv = .slice a msg.length c := by obtain ⟨a, c, h, _⟩ := hm; exact ⟨a, c, h⟩
  have hb0 : Below w.heap.size w ((w.alloc (.cells (cellsB root) 25)).alloc (.cells (sigC i (.slice ac cs.length kc) (.slice ap ps.length kp)) 31)) := ((Below.refl _ _).alloc (Nat.le_refl _) _).alloc (by simp) _
  have hr0 : Row ((w.alloc (.cells (cellsB root) 25)).alloc (.cells (sigC i (.slice ac cs.length kc) (.slice ap ps.length kp)) 31)) w.heap.size 25 (cellsB root) := (Row.new w _ _).alloc _
  have hs0 : Row ((w.alloc (.cells (cellsB root) 25)).alloc (.cells (sigC i (.slice ac cs.length kc) (.slice ap ps.length kp)) 31)) (w.heap.size + 1) 31 (sigC i (.slice ac cs.length kc) (.slice ap ps.length kp)) := by
    have h := Row.new (w.alloc (.cells (cellsB root) 25)) (sigC i (.slice ac cs.length kc) (.slice ap ps.length kp)) 31
    rwa [show (w.alloc (.cells (cellsB root) 25)).heap.size = w.heap.size + 1 by simp] at h
  clear hr h32c h32p hu
  have dC : decide ((60 : Int) < (cs.length : Int)) = false := decide_eq_false (by omega)
  have dP : decide ((60 : Int) < (ps.length : Int)) = false := decide_eq_false (by omega)
  have dM : decide ((300 : Int) < (msg.length : Int)) = true := decide_eq_true (by omega)
  clear h hc6 hp6
  go_enter Tryd.func9, Tryd.ntmps9
  go_wp2_with fail
  refine (sane_any _ (hK.below hb0 hkl)).mono ?_
  rintro e w0 ⟨rfl, hb1⟩
  have hB0 := hb0.trans (hb1.mono hb0.size)
  have hr1 := hr0.below hb1 hr0.lt
  have hs1 := hs0.below hb1 hs0.lt
  have hf0 : w0.cell? ⟨w.heap.size + 1, 0, none⟩ = some (.int .i64 i) := hs1.cell 0
  have hf1 : w0.cell? ⟨w.heap.size + 1, 1, none⟩ = some (.slice ac cs.length kc) := hs1.cell 1
  have hf2 : w0.cell? ⟨w.heap.size + 1, 2, none⟩ = some (.slice ap ps.length kp) := hs1.cell 2
  clear hb0 hr0 hs0 hb1
  go_wp2
  go_ret
  exact ⟨rfl, hB0⟩
set_option maxRecDepth 100000 in
set_option maxHeartbeats 4000000 in
theorem vs_neg (root : Dg) (mv : Value) (msg : List UInt8) (i : Int) (cv pv : Value) (cs ps : List Dg) (w : World) (hr : root.length = 32) (hm : Bytes w mv msg (fun _ => True)) (hc : Digs w cv cs) (h32c : all32 cs) (hp : Digs w pv ps) (h32p : all32 ps) (hK : KFact w) (hc6 : ¬ 60 < cs.length) (hp6 : ¬ 60 < ps.length) (hm3 : ¬ 300 < msg.length) (h : i < 0) :
    Calls Tryd.prog 9 #[.agg (cellsB root), mv, .agg (sigC i cv pv)] w fun e w' => e = .returned (.bool true) ∧ Below w.heap.size w w' := by
  have hkl := hK.lt
  have HRT := Lib.hid hr
  have HSR := Lib.hid (Tryd.sizeD_of root hr)
  have H32C := Lib.hid h32c
  have H32P := Lib.hid h32p
  obtain ⟨fs, hu⟩ := Tryd.underG
  have HU := Lib.hid hu
  obtain ⟨ac, kc, rfl⟩ := hc.form
  obtain ⟨ap, kp, rfl⟩ := hp.form
  obtain ⟨am, km, rfl⟩ : ∃ a c, mv = .slice a msg.length c := by obtain ⟨a, c, h, _⟩ := hm; exact ⟨a, c, h⟩
  have hb0 : Below w.heap.size w ((w.alloc (.cells (cellsB root) 25)).alloc (.cells (sigC i (.slice ac cs.length kc) (.slice ap ps.length kp)) 31)) := ((Below.refl _ _).alloc (Nat.le_refl _) _).alloc (by simp) _
  have hr0 : Row ((w.alloc (.cells (cellsB root) 25)).alloc (.cells (sigC i (.slice ac cs.length kc) (.slice ap ps.length kp)) 31)) w.heap.size 25 (cellsB root) := (Row.new w _ _).alloc _
  have hs0 : Row ((w.alloc (.cells (cellsB root) 25)).alloc (.cells (sigC i (.slice ac cs.length kc) (.slice ap ps.length kp)) 31)) (w.heap.size + 1) 31 (sigC i (.slice ac cs.length kc) (.slice ap ps.length kp)) := by
    have h := Row.new (w.alloc (.cells (cellsB root) 25)) (sigC i (.slice ac cs.length kc) (.slice ap ps.length kp)) 31
    rwa [show (w.alloc (.cells (cellsB root) 25)).heap.size = w.heap.size + 1 by simp] at h
  clear hr h32c h32p hu
  have HVF : Hid (verK root msg i cs ps = false) := Lib.hid (by
    unfold verK
    cases hsh : shapeB i cs ps with
    | false => rfl
    | true => obtain ⟨h0, h4, h5, h6⟩ := (shapeB_iff _ _ _).1 hsh; omega)
  have HML : Hid (msg.length ≤ 1000000) := Lib.hid (by omega)
  have dC : decide ((60 : Int) < (cs.length : Int)) = false := decide_eq_false (by omega)
  have dP : decide ((60 : Int) < (ps.length : Int)) = false := decide_eq_false (by omega)
  have dM : decide ((300 : Int) < (msg.length : Int)) = false := decide_eq_false (by omega)
  have dI : decide ((0 : Int) ≤ i) = false := decide_eq_false (by omega)
  clear hc6 hp6 hm3 h
  go_enter Tryd.func9, Tryd.ntmps9
  go_wp2_with fail
  refine (sane_any _ (hK.below hb0 hkl)).mono ?_
  rintro e w0 ⟨rfl, hb1⟩
  have hB0 := hb0.trans (hb1.mono hb0.size)
  have hr1 := hr0.below hb1 hr0.lt
  have hs1 := hs0.below hb1 hs0.lt
  have hf0 : w0.cell? ⟨w.heap.size + 1, 0, none⟩ = some (.int .i64 i) := hs1.cell 0
  have hf1 : w0.cell? ⟨w.heap.size + 1, 1, none⟩ = some (.slice ac cs.length kc) := hs1.cell 1
  have hf2 : w0.cell? ⟨w.heap.size + 1, 2, none⟩ = some (.slice ap ps.length kp) := hs1.cell 2
  clear hb0 hr0 hs0 hb1
  go_wp2_with (first | (refine wpList_load_on 25 (.tmp 3) rfl rfl w.heap.size rfl 25 (cellsB root) (0, 0) _ hr1 Tryd.underD rfl HSR.out ?_) | (refine wpList_load_on 31 (.tmp 5) rfl rfl (w.heap.size + 1) rfl 31 (sigC i (.slice ac cs.length kc) (.slice ap ps.length kp)) (0, 0) _ hs1 HU.out rfl (sigC_size _ _ _) ?_))
  refine (kverify_any root msg _ i _ _ cs ps w0 HRT.out ((hm.later hB0).imp fun _ _ => trivial) HML.out (hc.later hB0) H32C.out (hp.later hB0) H32P.out (hK.below hB0 hkl)).mono ?_
  rintro e w1 ⟨rfl, hb1⟩
  rw [HVF.out]
  have hB1 := hB0.trans (hb1.mono hB0.size)
  clear hb1 hB0 hr1 hs1 hf0 hf1 hf2
  go_wp2
  go_ret
  exact ⟨rfl, hB1⟩
set_option maxRecDepth 100000 in
set_option maxHeartbeats 4000000 in
theorem vs_four (root : Dg) (mv : Value) (msg : List UInt8) (i : Int) (cv pv : Value) (cs ps : List Dg) (w : World) (hr : root.length = 32) (hm : Bytes w mv msg (fun _ => True)) (hc : Digs w cv cs) (h32c : all32 cs) (hp : Digs w pv ps) (h32p : all32 ps) (hK : KFact w) (hc6 : ¬ 60 < cs.length) (hp6 : ¬ 60 < ps.length) (hm3 : ¬ 300 < msg.length) (h : 3 < i) :
    Calls Tryd.prog 9 #[.agg (cellsB root), mv, .agg (sigC i cv pv)] w fun e w' => e = .returned (.bool true) ∧ Below w.heap.size w w' := by
  have hkl := hK.lt
  have HRT := Lib.hid hr
  have HSR := Lib.hid (Tryd.sizeD_of root hr)
  have H32C := Lib.hid h32c
  have H32P := Lib.hid h32p
  obtain ⟨fs, hu⟩ := Tryd.underG
  have HU := Lib.hid hu
  obtain ⟨ac, kc, rfl⟩ := hc.form
  obtain ⟨ap, kp, rfl⟩ := hp.form
  obtain ⟨am, km, rfl⟩ : ∃ a c, mv = .slice a msg.length c := by obtain ⟨a, c, h, _⟩ := hm; exact ⟨a, c, h⟩
  have hb0 : Below w.heap.size w ((w.alloc (.cells (cellsB root) 25)).alloc (.cells (sigC i (.slice ac cs.length kc) (.slice ap ps.length kp)) 31)) := ((Below.refl _ _).alloc (Nat.le_refl _) _).alloc (by simp) _
  have hr0 : Row ((w.alloc (.cells (cellsB root) 25)).alloc (.cells (sigC i (.slice ac cs.length kc) (.slice ap ps.length kp)) 31)) w.heap.size 25 (cellsB root) := (Row.new w _ _).alloc _
  have hs0 : Row ((w.alloc (.cells (cellsB root) 25)).alloc (.cells (sigC i (.slice ac cs.length kc) (.slice ap ps.length kp)) 31)) (w.heap.size + 1) 31 (sigC i (.slice ac cs.length kc) (.slice ap ps.length kp)) := by
    have h := Row.new (w.alloc (.cells (cellsB root) 25)) (sigC i (.slice ac cs.length kc) (.slice ap ps.length kp)) 31
    rwa [show (w.alloc (.cells (cellsB root) 25)).heap.size = w.heap.size + 1 by simp] at h
  clear hr h32c h32p hu
  have HVF : Hid (verK root msg i cs ps = false) := Lib.hid (by
    unfold verK
    cases hsh : shapeB i cs ps with
    | false => rfl
    | true => obtain ⟨h0, h4, h5, h6⟩ := (shapeB_iff _ _ _).1 hsh; omega)
  have HML : Hid (msg.length ≤ 1000000) := Lib.hid (by omega)
  have dC : decide ((60 : Int) < (cs.length : Int)) = false := decide_eq_false (by omega)
  have dP : decide ((60 : Int) < (ps.length : Int)) = false := decide_eq_false (by omega)
  have dM : decide ((300 : Int) < (msg.length : Int)) = false := decide_eq_false (by omega)
  have dI : decide ((0 : Int) ≤ i) = true := decide_eq_true (by omega)
  have dJ : decide (i ≤ (3 : Int)) = false := decide_eq_false (by omega)
  clear hc6 hp6 hm3 h
  go_enter Tryd.func9, Tryd.ntmps9
  go_wp2_with fail
  refine (sane_any _ (hK.below hb0 hkl)).mono ?_
  rintro e w0 ⟨rfl, hb1⟩
  have hB0 := hb0.trans (hb1.mono hb0.size)
  have hr1 := hr0.below hb1 hr0.lt
  have hs1 := hs0.below hb1 hs0.lt
  have hf0 : w0.cell? ⟨w.heap.size + 1, 0, none⟩ = some (.int .i64 i) := hs1.cell 0
  have hf1 : w0.cell? ⟨w.heap.size + 1, 1, none⟩ = some (.slice ac cs.length kc) := hs1.cell 1
  have hf2 : w0.cell? ⟨w.heap.size + 1, 2, none⟩ = some (.slice ap ps.length kp) := hs1.cell 2
  clear hb0 hr0 hs0 hb1
  go_wp2_with (first | (refine wpList_load_on 25 (.tmp 3) rfl rfl w.heap.size rfl 25 (cellsB root) (0, 0) _ hr1 Tryd.underD rfl HSR.out ?_) | (refine wpList_load_on 31 (.tmp 5) rfl rfl (w.heap.size + 1) rfl 31 (sigC i (.slice ac cs.length kc) (.slice ap ps.length kp)) (0, 0) _ hs1 HU.out rfl (sigC_size _ _ _) ?_))
  refine (kverify_any root msg _ i _ _ cs ps w0 HRT.out ((hm.later hB0).imp fun _ _ => trivial) HML.out (hc.later hB0) H32C.out (hp.later hB0) H32P.out (hK.below hB0 hkl)).mono ?_
  rintro e w1 ⟨rfl, hb1⟩
  rw [HVF.out]
  have hB1 := hB0.trans (hb1.mono hB0.size)
  clear hb1 hB0 hr1 hs1 hf0 hf1 hf2
  go_wp2
  go_ret
  exact ⟨rfl, hB1⟩
set_option maxRecDepth 100000 in
set_option maxHeartbeats 4000000 in
theorem vs_cs (root : Dg) (mv : Value) (msg : List UInt8) (i : Int) (cv pv : Value) (cs ps : List Dg) (w : World) (hr : root.length = 32) (hm : Bytes w mv msg (fun _ => True)) (hc : Digs w cv cs) (h32c : all32 cs) (hp : Digs w pv ps) (h32p : all32 ps) (hK : KFact w) (hc6 : ¬ 60 < cs.length) (hp6 : ¬ 60 < ps.length) (hm3 : ¬ 300 < msg.length) (h0 : 0 ≤ i) (h3 : i ≤ 3) (h : ¬ cs.length = 18) :
    Calls Tryd.prog 9 #[.agg (cellsB root), mv, .agg (sigC i cv pv)] w fun e w' => e = .returned (.bool true) ∧ Below w.heap.size w w' := by
  have hkl := hK.lt
  have HRT := Lib.hid hr
  have HSR := Lib.hid (Tryd.sizeD_of root hr)
  have H32C := Lib.hid h32c
  have H32P := Lib.hid h32p
  obtain ⟨fs, hu⟩ := Tryd.underG
  have HU := Lib.hid hu
  obtain ⟨ac, kc, rfl⟩ := hc.form
  obtain ⟨ap, kp, rfl⟩ := hp.form
  obtain ⟨am, km, rfl⟩ : ∃ a c, mv = .slice a msg.length c := by obtain ⟨a, c, h, _⟩ := hm; exact ⟨a, c, h⟩
  have hb0 : Below w.heap.size w ((w.alloc (.cells (cellsB root) 25)).alloc (.cells (sigC i (.slice ac cs.length kc) (.slice ap ps.length kp)) 31)) := ((Below.refl _ _).alloc (Nat.le_refl _) _).alloc (by simp) _
  have hr0 : Row ((w.alloc (.cells (cellsB root) 25)).alloc (.cells (sigC i (.slice ac cs.length kc) (.slice ap ps.length kp)) 31)) w.heap.size 25 (cellsB root) := (Row.new w _ _).alloc _
  have hs0 : Row ((w.alloc (.cells (cellsB root) 25)).alloc (.cells (sigC i (.slice ac cs.length kc) (.slice ap ps.length kp)) 31)) (w.heap.size + 1) 31 (sigC i (.slice ac cs.length kc) (.slice ap ps.length kp)) := by
    have h := Row.new (w.alloc (.cells (cellsB root) 25)) (sigC i (.slice ac cs.length kc) (.slice ap ps.length kp)) 31
    rwa [show (w.alloc (.cells (cellsB root) 25)).heap.size = w.heap.size + 1 by simp] at h
  clear hr h32c h32p hu
  have HVF : Hid (verK root msg i cs ps = false) := Lib.hid (by
    unfold verK
    cases hsh : shapeB i cs ps with
    | false => rfl
    | true => obtain ⟨h0, h4, h5, h6⟩ := (shapeB_iff _ _ _).1 hsh; omega)
  have HML : Hid (msg.length ≤ 1000000) := Lib.hid (by omega)
  have dC : decide ((60 : Int) < (cs.length : Int)) = false := decide_eq_false (by omega)
  have dP : decide ((60 : Int) < (ps.length : Int)) = false := decide_eq_false (by omega)
  have dM : decide ((300 : Int) < (msg.length : Int)) = false := decide_eq_false (by omega)
  have dI : decide ((0 : Int) ≤ i) = true := decide_eq_true (by omega)
  have dJ : decide (i ≤ (3 : Int)) = true := decide_eq_true (by omega)
  have hd2 : ¬ (cs.length : Int) = 18 := by omega
  have hd3 : ((cs.length : Int) == 18) = false := by simpa using hd2
  clear hc6 hp6 hm3 h h0 h3
  go_enter Tryd.func9, Tryd.ntmps9
  go_wp2_with fail
  refine (sane_any _ (hK.below hb0 hkl)).mono ?_
  rintro e w0 ⟨rfl, hb1⟩
  have hB0 := hb0.trans (hb1.mono hb0.size)
  have hr1 := hr0.below hb1 hr0.lt
  have hs1 := hs0.below hb1 hs0.lt
  have hf0 : w0.cell? ⟨w.heap.size + 1, 0, none⟩ = some (.int .i64 i) := hs1.cell 0
  have hf1 : w0.cell? ⟨w.heap.size + 1, 1, none⟩ = some (.slice ac cs.length kc) := hs1.cell 1
  have hf2 : w0.cell? ⟨w.heap.size + 1, 2, none⟩ = some (.slice ap ps.length kp) := hs1.cell 2
  clear hb0 hr0 hs0 hb1
  go_wp2_with (first | (refine wpList_load_on 25 (.tmp 3) rfl rfl w.heap.size rfl 25 (cellsB root) (0, 0) _ hr1 Tryd.underD rfl HSR.out ?_) | (refine wpList_load_on 31 (.tmp 5) rfl rfl (w.heap.size + 1) rfl 31 (sigC i (.slice ac cs.length kc) (.slice ap ps.length kp)) (0, 0) _ hs1 HU.out rfl (sigC_size _ _ _) ?_))
  refine (kverify_any root msg _ i _ _ cs ps w0 HRT.out ((hm.later hB0).imp fun _ _ => trivial) HML.out (hc.later hB0) H32C.out (hp.later hB0) H32P.out (hK.below hB0 hkl)).mono ?_
  rintro e w1 ⟨rfl, hb1⟩
  rw [HVF.out]
  have hB1 := hB0.trans (hb1.mono hB0.size)
  clear hb1 hB0 hr1 hs1 hf0 hf1 hf2
  go_wp2
  go_ret
  exact ⟨rfl, hB1⟩
set_option maxRecDepth 100000 in
set_option maxHeartbeats 4000000 in
theorem vs_ps (root : Dg) (mv : Value) (msg : List UInt8) (i : Int) (cv pv : Value) (cs ps : List Dg) (w : World) (hr : root.length = 32) (hm : Bytes w mv msg (fun _ => True)) (hc : Digs w cv cs) (h32c : all32 cs) (hp : Digs w pv ps) (h32p : all32 ps) (hK : KFact w) (hc6 : ¬ 60 < cs.length) (hp6 : ¬ 60 < ps.length) (hm3 : ¬ 300 < msg.length) (h0 : 0 ≤ i) (h3 : i ≤ 3) (hcs : cs.length = 18) (h : ¬ ps.length = 2) :
    Calls Tryd.prog 9 #[.agg (cellsB root), mv, .agg (sigC i cv pv)] w fun e w' => e = .returned (.bool true) ∧ Below w.heap.size w w' := by
  have hkl := hK.lt
  have HRT := Lib.hid hr
  have HSR := Lib.hid (Tryd.sizeD_of root hr)
  have H32C := Lib.hid h32c
  have H32P := Lib.hid h32p
  obtain ⟨fs, hu⟩ := Tryd.underG
  have HU := Lib.hid hu
  obtain ⟨ac, kc, rfl⟩ := hc.form
  obtain ⟨ap, kp, rfl⟩ := hp.form
  obtain ⟨am, km, rfl⟩ : ∃ a c, mv = .slice a msg.length c := by obtain ⟨a, c, h, _⟩ := hm; exact ⟨a, c, h⟩
  have hb0 : Below w.heap.size w ((w.alloc (.cells (cellsB root) 25)).alloc (.cells (sigC i (.slice ac cs.length kc) (.slice ap ps.length kp)) 31)) := ((Below.refl _ _).alloc (Nat.le_refl _) _).alloc (by simp) _
  have hr0 : Row ((w.alloc (.cells (cellsB root) 25)).alloc (.cells (sigC i (.slice ac cs.length kc) (.slice ap ps.length kp)) 31)) w.heap.size 25 (cellsB root) := (Row.new w _ _).alloc _
  have hs0 : Row ((w.alloc (.cells (cellsB root) 25)).alloc (.cells (sigC i (.slice ac cs.length kc) (.slice ap ps.length kp)) 31)) (w.heap.size + 1) 31 (sigC i (.slice ac cs.length kc) (.slice ap ps.length kp)) := by
    have h := Row.new (w.alloc (.cells (cellsB root) 25)) (sigC i (.slice ac cs.length kc) (.slice ap ps.length kp)) 31
    rwa [show (w.alloc (.cells (cellsB root) 25)).heap.size = w.heap.size + 1 by simp] at h
  clear hr h32c h32p hu
  have HVF : Hid (verK root msg i cs ps = false) := Lib.hid (by
    unfold verK
    cases hsh : shapeB i cs ps with
    | false => rfl
    | true => obtain ⟨h0, h4, h5, h6⟩ := (shapeB_iff _ _ _).1 hsh; omega)
  have HML : Hid (msg.length ≤ 1000000) := Lib.hid (by omega)
  have dP : decide ((60 : Int) < (ps.length : Int)) = false := decide_eq_false (by omega)
  have dM : decide ((300 : Int) < (msg.length : Int)) = false := decide_eq_false (by omega)
  have dI : decide ((0 : Int) ≤ i) = true := decide_eq_true (by omega)
  have dJ : decide (i ≤ (3 : Int)) = true := decide_eq_true (by omega)
  have hd2 : ¬ (ps.length : Int) = 2 := by omega
  have hd3 : ((ps.length : Int) == 2) = false := by simpa using hd2
  rw [hcs] at hb0 hr0 hs0 hc ⊢
  clear hc6 hp6 hm3 h h0 h3
  go_enter Tryd.func9, Tryd.ntmps9
  go_wp2_with fail
  refine (sane_any _ (hK.below hb0 hkl)).mono ?_
  rintro e w0 ⟨rfl, hb1⟩
  have hB0 := hb0.trans (hb1.mono hb0.size)
  have hr1 := hr0.below hb1 hr0.lt
  have hs1 := hs0.below hb1 hs0.lt
  have hf0 : w0.cell? ⟨w.heap.size + 1, 0, none⟩ = some (.int .i64 i) := hs1.cell 0
  have hf1 : w0.cell? ⟨w.heap.size + 1, 1, none⟩ = some (.slice ac 18 kc) := hs1.cell 1
  have hf2 : w0.cell? ⟨w.heap.size + 1, 2, none⟩ = some (.slice ap ps.length kp) := hs1.cell 2
  clear hb0 hr0 hs0 hb1
  go_wp2_with (first | (refine wpList_load_on 25 (.tmp 3) rfl rfl w.heap.size rfl 25 (cellsB root) (0, 0) _ hr1 Tryd.underD rfl HSR.out ?_) | (refine wpList_load_on 31 (.tmp 5) rfl rfl (w.heap.size + 1) rfl 31 (sigC i (.slice ac 18 kc) (.slice ap ps.length kp)) (0, 0) _ hs1 HU.out rfl (sigC_size _ _ _) ?_))
  refine (kverify_any root msg _ i _ _ cs ps w0 HRT.out ((hm.later hB0).imp fun _ _ => trivial) HML.out (hc.later hB0) H32C.out (hp.later hB0) H32P.out (hK.below hB0 hkl)).mono ?_
  rintro e w1 ⟨rfl, hb1⟩
  rw [HVF.out]
  have hB1 := hB0.trans (hb1.mono hB0.size)
  clear hb1 hB0 hr1 hs1 hf0 hf1 hf2
  go_wp2
  go_ret
  exact ⟨rfl, hB1⟩
set_option maxRecDepth 100000 in
set_option maxHeartbeats 4000000 in
theorem vs_ok (root : Dg) (mv : Value) (msg : List UInt8) (i : Int) (cv pv : Value) (cs ps : List Dg) (w : World) (hr : root.length = 32) (hm : Bytes w mv msg (fun _ => True)) (hc : Digs w cv cs) (h32c : all32 cs) (hp : Digs w pv ps) (h32p : all32 ps) (hK : KFact w) (hm3 : ¬ 300 < msg.length) (h0 : 0 ≤ i) (h3 : i ≤ 3) (hcs : cs.length = 18) (hps : ps.length = 2) :
    Calls Tryd.prog 9 #[.agg (cellsB root), mv, .agg (sigC i cv pv)] w fun e w' => e = .returned (.bool true) ∧ Below w.heap.size w w' := by
  have hkl := hK.lt
  have HRT := Lib.hid hr
  have HSR := Lib.hid (Tryd.sizeD_of root hr)
  have H32C := Lib.hid h32c
  have H32P := Lib.hid h32p
  obtain ⟨fs, hu⟩ := Tryd.underG
  have HU := Lib.hid hu
  obtain ⟨ac, kc, rfl⟩ := hc.form
  obtain ⟨ap, kp, rfl⟩ := hp.form
  obtain ⟨am, km, rfl⟩ : ∃ a c, mv = .slice a msg.length c := by obtain ⟨a, c, h, _⟩ := hm; exact ⟨a, c, h⟩
  have hb0 : Below w.heap.size w ((w.alloc (.cells (cellsB root) 25)).alloc (.cells (sigC i (.slice ac cs.length kc) (.slice ap ps.length kp)) 31)) := ((Below.refl _ _).alloc (Nat.le_refl _) _).alloc (by simp) _
  have hr0 : Row ((w.alloc (.cells (cellsB root) 25)).alloc (.cells (sigC i (.slice ac cs.length kc) (.slice ap ps.length kp)) 31)) w.heap.size 25 (cellsB root) := (Row.new w _ _).alloc _
  have hs0 : Row ((w.alloc (.cells (cellsB root) 25)).alloc (.cells (sigC i (.slice ac cs.length kc) (.slice ap ps.length kp)) 31)) (w.heap.size + 1) 31 (sigC i (.slice ac cs.length kc) (.slice ap ps.length kp)) := by
    have h := Row.new (w.alloc (.cells (cellsB root) 25)) (sigC i (.slice ac cs.length kc) (.slice ap ps.length kp)) 31
    rwa [show (w.alloc (.cells (cellsB root) 25)).heap.size = w.heap.size + 1 by simp] at h
  clear hr h32c h32p hu
  have dM : decide ((300 : Int) < (msg.length : Int)) = false := decide_eq_false (by omega)
  have dI : decide ((0 : Int) ≤ i) = true := decide_eq_true (by omega)
  have dJ : decide (i ≤ (3 : Int)) = true := decide_eq_true (by omega)
  rw [hcs] at hb0 hr0 hs0 hc ⊢
  rw [hps] at hb0 hr0 hs0 hp ⊢
  clear hm3 h0 h3
  go_enter Tryd.func9, Tryd.ntmps9
  go_wp2_with fail
  refine (sane_any _ (hK.below hb0 hkl)).mono ?_
  rintro e w0 ⟨rfl, hb1⟩
  have hB0 := hb0.trans (hb1.mono hb0.size)
  have hr1 := hr0.below hb1 hr0.lt
  have hs1 := hs0.below hb1 hs0.lt
  have hf0 : w0.cell? ⟨w.heap.size + 1, 0, none⟩ = some (.int .i64 i) := hs1.cell 0
  have hf1 : w0.cell? ⟨w.heap.size + 1, 1, none⟩ = some (.slice ac 18 kc) := hs1.cell 1
  have hf2 : w0.cell? ⟨w.heap.size + 1, 2, none⟩ = some (.slice ap 2 kp) := hs1.cell 2
  clear hb0 hr0 hs0 hb1
  go_wp2
  go_ret
  exact ⟨rfl, hB0⟩
theorem verifyShape_any (root : Dg) (mv : Value) (msg : List UInt8) (i : Int) (cv pv : Value) (cs ps : List Dg) (w : World) (hr : root.length = 32) (hm : Bytes w mv msg (fun _ => True)) (_hml : msg.length ≤ maxLen) (_h0 : -9223372036854775808 ≤ i) (_h1 : i ≤ 9223372036854775807) (hc : Digs w cv cs) (h32c : all32 cs) (hp : Digs w pv ps) (h32p : all32 ps) (hK : KFact w) :
    Calls Tryd.prog 9 #[.agg (cellsB root), mv, .agg (sigC i cv pv)] w fun e w' => e = .returned (.bool true) ∧ Below w.heap.size w w' := by
  by_cases hc6 : 60 < cs.length
  · exact vs_c root mv msg i cv pv cs ps w hr hm hc h32c hp h32p hK hc6
  by_cases hp6 : 60 < ps.length
  · exact vs_p root mv msg i cv pv cs ps w hr hm hc h32c hp h32p hK hc6 hp6
  by_cases hm3 : 300 < msg.length
  · exact vs_m root mv msg i cv pv cs ps w hr hm hc h32c hp h32p hK hc6 hp6 hm3
  by_cases h0 : i < 0
  · exact vs_neg root mv msg i cv pv cs ps w hr hm hc h32c hp h32p hK hc6 hp6 hm3 h0
  by_cases h3 : 3 < i
  · exact vs_four root mv msg i cv pv cs ps w hr hm hc h32c hp h32p hK hc6 hp6 hm3 h3
  by_cases hcs : cs.length = 18
  · by_cases hps : ps.length = 2
    · exact vs_ok root mv msg i cv pv cs ps w hr hm hc h32c hp h32p hK hm3 (by omega) (by omega) hcs hps
    · exact vs_ps root mv msg i cv pv cs ps w hr hm hc h32c hp h32p hK hc6 hp6 hm3 (by omega) (by omega) hcs hps
  · exact vs_cs root mv msg i cv pv cs ps w hr hm hc h32c hp h32p hK hc6 hp6 hm3 (by omega) (by omega) hcs
end Go.Proofs.YteogcilnpkaplaaDoor

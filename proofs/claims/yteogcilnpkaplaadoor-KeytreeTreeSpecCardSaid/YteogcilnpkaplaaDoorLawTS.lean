/- crossbarlaw05.KeytreeTreeSpec returns true. Conditions: the digests have 32 bytes, the tables lie in their variables. -/
import Derived.Test.YteogcilnpkaplaaDoorM10
import Derived.Test.YteogcilnpkaplaaDoorM17
namespace Go.Proofs.YteogcilnpkaplaaDoor
open Go.RowKit
theorem pathR_len (l : List Dg) (idx : Int) : (pathR l idx).length ≤ 1000000 := by
  unfold pathR
  split
  · rename_i h
    obtain ⟨hp, -, -⟩ := (okPath_iff _ _).1 h
    obtain ⟨k, hk, hl⟩ := (powB_iff _).1 hp
    rw [pathOf_len, hl, log2_pow]; omega
  · decide
set_option maxRecDepth 100000 in
set_option maxHeartbeats 4000000 in
theorem ts_l (lv : Value) (l : List Dg) (idx : Int) (root : Dg) (mv : Value) (msg : List UInt8) (i : Int) (cv pv : Value) (cs ps : List Dg) (w : World) (hlv : Digs w lv l) (h32l : all32 l) (hr : root.length = 32) (hm : Bytes w mv msg (fun _ => True)) (hc : Digs w cv cs) (h32c : all32 cs) (hp : Digs w pv ps) (h32p : all32 ps) (hRK : RKFact w) (hRI : RIFact w) (hK : KFact w) (h : 100 < l.length) :
    Calls Tryd.prog 8 #[lv, .int .i64 idx, .agg (cellsB root), mv, .agg (sigC i cv pv)] w fun e w' => e = .returned (.bool true) ∧ Below w.heap.size w w' := by
  have hkl := hK.lt
  have hrkl := hRK.lt
  have hril := hRI.lt
  have HRT := Lib.hid hr
  have HSR := Lib.hid (Tryd.sizeD_of root hr)
  have H32L := Lib.hid h32l
  have H32C := Lib.hid h32c
  have H32P := Lib.hid h32p
  obtain ⟨fs, hu⟩ := Tryd.underG
  have HU := Lib.hid hu
  obtain ⟨al, kl, rfl⟩ := hlv.form
  obtain ⟨ac, kc, rfl⟩ := hc.form
  obtain ⟨ap, kp, rfl⟩ := hp.form
  obtain ⟨am, km, rfl⟩ : ∃ a c, mv = .slice a msg.length c := by obtain ⟨a, c, h, _⟩ := hm; exact ⟨a, c, h⟩
  have hb0 : Below w.heap.size w ((w.alloc (.cells (cellsB root) 25)).alloc (.cells (sigC i (.slice ac cs.length kc) (.slice ap ps.length kp)) 31)) := ((Below.refl _ _).alloc (Nat.le_refl _) _).alloc (by simp) _
  have hr0 : Row ((w.alloc (.cells (cellsB root) 25)).alloc (.cells (sigC i (.slice ac cs.length kc) (.slice ap ps.length kp)) 31)) w.heap.size 25 (cellsB root) := (Row.new w _ _).alloc _
  have hs0 : Row ((w.alloc (.cells (cellsB root) 25)).alloc (.cells (sigC i (.slice ac cs.length kc) (.slice ap ps.length kp)) 31)) (w.heap.size + 1) 31 (sigC i (.slice ac cs.length kc) (.slice ap ps.length kp)) := by
    have h := Row.new (w.alloc (.cells (cellsB root) 25)) (sigC i (.slice ac cs.length kc) (.slice ap ps.length kp)) 31
    rwa [show (w.alloc (.cells (cellsB root) 25)).heap.size = w.heap.size + 1 by simp] at h
  clear hr h32l h32c h32p hu
  have d1 : decide ((100 : Int) < (l.length : Int)) = true := decide_eq_true (by omega)
  clear h
  go_enter Tryd.func8, Tryd.ntmps8
  go_wp2_with fail
  refine (sane_any _ (hK.below hb0 hkl)).mono ?_
  rintro e w0 ⟨rfl, hb1⟩
  have hB0 := hb0.trans (hb1.mono hb0.size)
  have hr1 := hr0.below hb1 hr0.lt
  have hs1 := hs0.below hb1 hs0.lt
  have hf0 : w0.cell? ⟨w.heap.size + 1, 0, none⟩ = some (.int .i64 i) := hs1.cell 0
  have hf1 : w0.cell? ⟨w.heap.size + 1, 1, none⟩ = some (.slice ac cs.length kc) := hs1.cell 1
  have hf2 : w0.cell? ⟨w.heap.size + 1, 2, none⟩ = some (.slice ap ps.length kp) := hs1.cell 2
  clear hb0 hr0 hs0 hb1
  go_wp2
  go_ret
  exact ⟨rfl, hB0⟩
set_option maxRecDepth 100000 in
set_option maxHeartbeats 4000000 in
theorem ts_m (lv : Value) (l : List Dg) (idx : Int) (root : Dg) (mv : Value) (msg : List UInt8) (i : Int) (cv pv : Value) (cs ps : List Dg) (w : World) (hlv : Digs w lv l) (h32l : all32 l) (hr : root.length = 32) (hm : Bytes w mv msg (fun _ => True)) (hc : Digs w cv cs) (h32c : all32 cs) (hp : Digs w pv ps) (h32p : all32 ps) (hRK : RKFact w) (hRI : RIFact w) (hK : KFact w) (h1 : ¬ 100 < l.length) (h : 300 < msg.length) :
    Calls Tryd.prog 8 #[lv, .int .i64 idx, .agg (cellsB root), mv, .agg (sigC i cv pv)] w fun e w' => e = .returned (.bool true) ∧ Below w.heap.size w w' := by
  have hkl := hK.lt
  have hrkl := hRK.lt
  have hril := hRI.lt
  have HRT := Lib.hid hr
  have HSR := Lib.hid (Tryd.sizeD_of root hr)
  have H32L := Lib.hid h32l
  have H32C := Lib.hid h32c
  have H32P := Lib.hid h32p
  obtain ⟨fs, hu⟩ := Tryd.underG
  have HU := Lib.hid hu
  obtain ⟨al, kl, rfl⟩ := hlv.form
  obtain ⟨ac, kc, rfl⟩ := hc.form
  obtain ⟨ap, kp, rfl⟩ := hp.form
  obtain ⟨am, km, rfl⟩ : ∃ a c, mv = .slice a msg.length c := by obtain ⟨a, c, h, _⟩ := hm; exact ⟨a, c, h⟩
  have hb0 : Below w.heap.size w ((w.alloc (.cells (cellsB root) 25)).alloc (.cells (sigC i (.slice ac cs.length kc) (.slice ap ps.length kp)) 31)) := ((Below.refl _ _).alloc (Nat.le_refl _) _).alloc (by simp) _
  have hr0 : Row ((w.alloc (.cells (cellsB root) 25)).alloc (.cells (sigC i (.slice ac cs.length kc) (.slice ap ps.length kp)) 31)) w.heap.size 25 (cellsB root) := (Row.new w _ _).alloc _
  have hs0 : Row ((w.alloc (.cells (cellsB root) 25)).alloc (.cells (sigC i (.slice ac cs.length kc) (.slice ap ps.length kp)) 31)) (w.heap.size + 1) 31 (sigC i (.slice ac cs.length kc) (.slice ap ps.length kp)) := by
    have h := Row.new (w.alloc (.cells (cellsB root) 25)) (sigC i (.slice ac cs.length kc) (.slice ap ps.length kp)) 31
    rwa [show (w.alloc (.cells (cellsB root) 25)).heap.size = w.heap.size + 1 by simp] at h
  clear hr h32l h32c h32p hu
  have d1 : decide ((100 : Int) < (l.length : Int)) = false := decide_eq_false (by omega)
  have d2 : decide ((300 : Int) < (msg.length : Int)) = true := decide_eq_true (by omega)
  clear h h1
  go_enter Tryd.func8, Tryd.ntmps8
  go_wp2_with fail
  refine (sane_any _ (hK.below hb0 hkl)).mono ?_
  rintro e w0 ⟨rfl, hb1⟩
  have hB0 := hb0.trans (hb1.mono hb0.size)
  have hr1 := hr0.below hb1 hr0.lt
  have hs1 := hs0.below hb1 hs0.lt
  have hf0 : w0.cell? ⟨w.heap.size + 1, 0, none⟩ = some (.int .i64 i) := hs1.cell 0
  have hf1 : w0.cell? ⟨w.heap.size + 1, 1, none⟩ = some (.slice ac cs.length kc) := hs1.cell 1
  have hf2 : w0.cell? ⟨w.heap.size + 1, 2, none⟩ = some (.slice ap ps.length kp) := hs1.cell 2
  clear hb0 hr0 hs0 hb1
  go_wp2
  go_ret
  exact ⟨rfl, hB0⟩
set_option maxRecDepth 100000 in
set_option maxHeartbeats 4000000 in
theorem ts_c (lv : Value) (l : List Dg) (idx : Int) (root : Dg) (mv : Value) (msg : List UInt8) (i : Int) (cv pv : Value) (cs ps : List Dg) (w : World) (hlv : Digs w lv l) (h32l : all32 l) (hr : root.length = 32) (hm : Bytes w mv msg (fun _ => True)) (hc : Digs w cv cs) (h32c : all32 cs) (hp : Digs w pv ps) (h32p : all32 ps) (hRK : RKFact w) (hRI : RIFact w) (hK : KFact w) (h1 : ¬ 100 < l.length) (h2 : ¬ 300 < msg.length) (h : 40 < cs.length) :
    Calls Tryd.prog 8 #[lv, .int .i64 idx, .agg (cellsB root), mv, .agg (sigC i cv pv)] w fun e w' => e = .returned (.bool true) ∧ Below w.heap.size w w' := by
  have hkl := hK.lt
  have hrkl := hRK.lt
  have hril := hRI.lt
  have HRT := Lib.hid hr
  have HSR := Lib.hid (Tryd.sizeD_of root hr)
  have H32L := Lib.hid h32l
  have H32C := Lib.hid h32c
  have H32P := Lib.hid h32p
  obtain ⟨fs, hu⟩ := Tryd.underG
  have HU := Lib.hid hu
  obtain ⟨al, kl, rfl⟩ := hlv.form
  obtain ⟨ac, kc, rfl⟩ := hc.form
  obtain ⟨ap, kp, rfl⟩ := hp.form
  obtain ⟨am, km, rfl⟩ : ∃ a c, mv = .slice a msg.length c := by obtain ⟨a, c, h, _⟩ := hm; exact ⟨a, c, h⟩
  have hb0 : Below w.heap.size w ((w.alloc (.cells (cellsB root) 25)).alloc (.cells (sigC i (.slice ac cs.length kc) (.slice ap ps.length kp)) 31)) := ((Below.refl _ _).alloc (Nat.le_refl _) _).alloc (by simp) _
  have hr0 : Row ((w.alloc (.cells (cellsB root) 25)).alloc (.cells (sigC i (.slice ac cs.length kc) (.slice ap ps.length kp)) 31)) w.heap.size 25 (cellsB root) := (Row.new w _ _).alloc _
  have hs0 : Row ((w.alloc (.cells (cellsB root) 25)).alloc (.cells (sigC i (.slice ac cs.length kc) (.slice ap ps.length kp)) 31)) (w.heap.size + 1) 31 (sigC i (.slice ac cs.length kc) (.slice ap ps.length kp)) := by
    have h := Row.new (w.alloc (.cells (cellsB root) 25)) (sigC i (.slice ac cs.length kc) (.slice ap ps.length kp)) 31
    rwa [show (w.alloc (.cells (cellsB root) 25)).heap.size = w.heap.size + 1 by simp] at h
  clear hr h32l h32c h32p hu
  have d1 : decide ((100 : Int) < (l.length : Int)) = false := decide_eq_false (by omega)
  have d2 : decide ((300 : Int) < (msg.length : Int)) = false := decide_eq_false (by omega)
  have d3 : decide ((40 : Int) < (cs.length : Int)) = true := decide_eq_true (by omega)
  clear h h1 h2
  go_enter Tryd.func8, Tryd.ntmps8
  go_wp2_with fail
  refine (sane_any _ (hK.below hb0 hkl)).mono ?_
  rintro e w0 ⟨rfl, hb1⟩
  have hB0 := hb0.trans (hb1.mono hb0.size)
  have hr1 := hr0.below hb1 hr0.lt
  have hs1 := hs0.below hb1 hs0.lt
  have hf0 : w0.cell? ⟨w.heap.size + 1, 0, none⟩ = some (.int .i64 i) := hs1.cell 0
  have hf1 : w0.cell? ⟨w.heap.size + 1, 1, none⟩ = some (.slice ac cs.length kc) := hs1.cell 1
  have hf2 : w0.cell? ⟨w.heap.size + 1, 2, none⟩ = some (.slice ap ps.length kp) := hs1.cell 2
  clear hb0 hr0 hs0 hb1
  go_wp2
  go_ret
  exact ⟨rfl, hB0⟩
set_option maxRecDepth 100000 in
set_option maxHeartbeats 4000000 in
theorem ts_p (lv : Value) (l : List Dg) (idx : Int) (root : Dg) (mv : Value) (msg : List UInt8) (i : Int) (cv pv : Value) (cs ps : List Dg) (w : World) (hlv : Digs w lv l) (h32l : all32 l) (hr : root.length = 32) (hm : Bytes w mv msg (fun _ => True)) (hc : Digs w cv cs) (h32c : all32 cs) (hp : Digs w pv ps) (h32p : all32 ps) (hRK : RKFact w) (hRI : RIFact w) (hK : KFact w) (h1 : ¬ 100 < l.length) (h2 : ¬ 300 < msg.length) (h3 : ¬ 40 < cs.length) (h : 40 < ps.length) :
    Calls Tryd.prog 8 #[lv, .int .i64 idx, .agg (cellsB root), mv, .agg (sigC i cv pv)] w fun e w' => e = .returned (.bool true) ∧ Below w.heap.size w w' := by
  have hkl := hK.lt
  have hrkl := hRK.lt
  have hril := hRI.lt
  have HRT := Lib.hid hr
  have HSR := Lib.hid (Tryd.sizeD_of root hr)
  have H32L := Lib.hid h32l
  have H32C := Lib.hid h32c
  have H32P := Lib.hid h32p
  obtain ⟨fs, hu⟩ := Tryd.underG
  have HU := Lib.hid hu
  obtain ⟨al, kl, rfl⟩ := hlv.form
  obtain ⟨ac, kc, rfl⟩ := hc.form
  obtain ⟨ap, kp, rfl⟩ := hp.form
  obtain ⟨am, km, rfl⟩ : ∃ a c, mv = .slice a msg.length c := by obtain ⟨a, c, h, _⟩ := hm; exact ⟨a, c, h⟩
  have hb0 : Below w.heap.size w ((w.alloc (.cells (cellsB root) 25)).alloc (.cells (sigC i (.slice ac cs.length kc) (.slice ap ps.length kp)) 31)) := ((Below.refl _ _).alloc (Nat.le_refl _) _).alloc (by simp) _
  have hr0 : Row ((w.alloc (.cells (cellsB root) 25)).alloc (.cells (sigC i (.slice ac cs.length kc) (.slice ap ps.length kp)) 31)) w.heap.size 25 (cellsB root) := (Row.new w _ _).alloc _
  have hs0 : Row ((w.alloc (.cells (cellsB root) 25)).alloc (.cells (sigC i (.slice ac cs.length kc) (.slice ap ps.length kp)) 31)) (w.heap.size + 1) 31 (sigC i (.slice ac cs.length kc) (.slice ap ps.length kp)) := by
    have h := Row.new (w.alloc (.cells (cellsB root) 25)) (sigC i (.slice ac cs.length kc) (.slice ap ps.length kp)) 31
    rwa [show (w.alloc (.cells (cellsB root) 25)).heap.size = w.heap.size + 1 by simp] at h
  clear hr h32l h32c h32p hu
  have d1 : decide ((100 : Int) < (l.length : Int)) = false := decide_eq_false (by omega)
  have d2 : decide ((300 : Int) < (msg.length : Int)) = false := decide_eq_false (by omega)
  have d3 : decide ((40 : Int) < (cs.length : Int)) = false := decide_eq_false (by omega)
  have d4 : decide ((40 : Int) < (ps.length : Int)) = true := decide_eq_true (by omega)
  clear h h1 h2 h3
  go_enter Tryd.func8, Tryd.ntmps8
  go_wp2_with fail
  refine (sane_any _ (hK.below hb0 hkl)).mono ?_
  rintro e w0 ⟨rfl, hb1⟩
  have hB0 := hb0.trans (hb1.mono hb0.size)
  have hr1 := hr0.below hb1 hr0.lt
  have hs1 := hs0.below hb1 hs0.lt
  have hf0 : w0.cell? ⟨w.heap.size + 1, 0, none⟩ = some (.int .i64 i) := hs1.cell 0
  have hf1 : w0.cell? ⟨w.heap.size + 1, 1, none⟩ = some (.slice ac cs.length kc) := hs1.cell 1
  have hf2 : w0.cell? ⟨w.heap.size + 1, 2, none⟩ = some (.slice ap ps.length kp) := hs1.cell 2
  clear hb0 hr0 hs0 hb1
  go_wp2
  go_ret
  exact ⟨rfl, hB0⟩
set_option maxRecDepth 100000 in
set_option maxHeartbeats 4000000 in
theorem ts_ok (lv : Value) (l : List Dg) (idx : Int) (root : Dg) (mv : Value) (msg : List UInt8) (i : Int) (cv pv : Value) (cs ps : List Dg) (w : World) (hlv : Digs w lv l) (h32l : all32 l) (hr : root.length = 32) (hm : Bytes w mv msg (fun _ => True)) (hc : Digs w cv cs) (h32c : all32 cs) (hp : Digs w pv ps) (h32p : all32 ps) (hRK : RKFact w) (hRI : RIFact w) (hK : KFact w) (h1 : ¬ 100 < l.length) (h2 : ¬ 300 < msg.length) (h3 : ¬ 40 < cs.length) (h4 : ¬ 40 < ps.length) :
    Calls Tryd.prog 8 #[lv, .int .i64 idx, .agg (cellsB root), mv, .agg (sigC i cv pv)] w fun e w' => e = .returned (.bool true) ∧ Below w.heap.size w w' := by
  have hkl := hK.lt
  have hrkl := hRK.lt
  have hril := hRI.lt
  have HRT := Lib.hid hr
  have HSR := Lib.hid (Tryd.sizeD_of root hr)
  have H32L := Lib.hid h32l
  have H32C := Lib.hid h32c
  have H32P := Lib.hid h32p
  obtain ⟨fs, hu⟩ := Tryd.underG
  have HU := Lib.hid hu
  obtain ⟨al, kl, rfl⟩ := hlv.form
  obtain ⟨ac, kc, rfl⟩ := hc.form
  obtain ⟨ap, kp, rfl⟩ := hp.form
  obtain ⟨am, km, rfl⟩ : ∃ a c, mv = .slice a msg.length c := by obtain ⟨a, c, h, _⟩ := hm; exact ⟨a, c, h⟩
  have hb0 : Below w.heap.size w ((w.alloc (.cells (cellsB root) 25)).alloc (.cells (sigC i (.slice ac cs.length kc) (.slice ap ps.length kp)) 31)) := ((Below.refl _ _).alloc (Nat.le_refl _) _).alloc (by simp) _
  have hr0 : Row ((w.alloc (.cells (cellsB root) 25)).alloc (.cells (sigC i (.slice ac cs.length kc) (.slice ap ps.length kp)) 31)) w.heap.size 25 (cellsB root) := (Row.new w _ _).alloc _
  have hs0 : Row ((w.alloc (.cells (cellsB root) 25)).alloc (.cells (sigC i (.slice ac cs.length kc) (.slice ap ps.length kp)) 31)) (w.heap.size + 1) 31 (sigC i (.slice ac cs.length kc) (.slice ap ps.length kp)) := by
    have h := Row.new (w.alloc (.cells (cellsB root) 25)) (sigC i (.slice ac cs.length kc) (.slice ap ps.length kp)) 31
    rwa [show (w.alloc (.cells (cellsB root) 25)).heap.size = w.heap.size + 1 by simp] at h
  clear hr h32l h32c h32p hu
  have d1 : decide ((100 : Int) < (l.length : Int)) = false := decide_eq_false (by omega)
  have d2 : decide ((300 : Int) < (msg.length : Int)) = false := decide_eq_false (by omega)
  have d3 : decide ((40 : Int) < (cs.length : Int)) = false := decide_eq_false (by omega)
  have d4 : decide ((40 : Int) < (ps.length : Int)) = false := decide_eq_false (by omega)
  have HML : Hid (msg.length ≤ 1000000) := Lib.hid (by omega)
  obtain ⟨pt, hpt⟩ : ∃ pt, pathR l idx = pt := ⟨_, rfl⟩
  have hpl := pathR_len l idx
  have hp32 := pathR_32 l idx H32L.out
  obtain ⟨eP, heP⟩ : ∃ eP, errP l.length idx = eP := ⟨_, rfl⟩
  obtain ⟨eC, heC⟩ : ∃ eC, errC idx ps.length = eC := ⟨_, rfl⟩
  obtain ⟨y, hy⟩ : ∃ y, climbR root idx ps = y := ⟨_, rfl⟩
  have hyl : y.length = 32 := by rw [← hy]; exact climbR_len _ _ _ HRT.out
  obtain ⟨bb, hbb⟩ : ∃ bb, verK root msg i cs ps = bb := ⟨_, rfl⟩
  rw [hpt] at hpl hp32
  have HPT := Lib.hid hpt
  have HPL := Lib.hid hpl
  have HP32 := Lib.hid hp32
  have HEP := Lib.hid heP
  have HEC := Lib.hid heC
  have HYE := Lib.hid hy
  have HY := Lib.hid hyl
  have HBB := Lib.hid hbb
  have HSY := Lib.hid (Tryd.sizeD_of y hyl)
  have HCY : Hid ((cellsB y).size = (cellsB (List.replicate 32 0)).size) := Lib.hid (by rw [cellsB_size, hyl]; rfl)
  clear h1 h2 h3 h4 hpt hpl hp32 heP heC hy hyl hbb
  go_enter Tryd.func8, Tryd.ntmps8
  generalize hR9 : Code.region 9 _ _ = R9
  have HR9 := Lib.hid hR9
  clear hR9
  go_wp2_with fail
  refine (sane_any _ (hK.below hb0 hkl)).mono ?_
  rintro e w0 ⟨rfl, hb1⟩
  have hB0 := hb0.trans (hb1.mono hb0.size)
  have hr1 := hr0.below hb1 hr0.lt
  have hs1 := hs0.below hb1 hs0.lt
  have hf0 : w0.cell? ⟨w.heap.size + 1, 0, none⟩ = some (.int .i64 i) := hs1.cell 0
  have hf1 : w0.cell? ⟨w.heap.size + 1, 1, none⟩ = some (.slice ac cs.length kc) := hs1.cell 1
  have hf2 : w0.cell? ⟨w.heap.size + 1, 2, none⟩ = some (.slice ap ps.length kp) := hs1.cell 2
  clear hb0 hr0 hs0 hb1
  go_wp2_with fail
  refine (path_any l _ idx w0 (hlv.later hB0) H32L.out (hK.below hB0 hkl)).mono ?_
  rintro e w1 ⟨pv1, rfl, hd1, hb1⟩
  rw [HEP.out]
  rw [HPT.out] at hd1
  obtain ⟨a1, k1, rfl⟩ := hd1.form
  have hB1 := hB0.trans (hb1.mono hB0.size)
  have hr2 := hr1.below hb1 hr1.lt
  have hs2 := hs1.below hb1 hs1.lt
  clear hb1 hB0 hr1 hs1 hf0 hf1 hf2
  go_wp2_with fail
  refine (rpath_any l _ idx w1 (hlv.later hB1) H32L.out (hRK.below hB1 hrkl) (hRI.below hB1 hril)).mono ?_
  rintro e w2 ⟨pv2, rfl, hd2, hb2⟩
  rw [HEP.out]
  rw [HPT.out] at hd2
  obtain ⟨a2, k2, rfl⟩ := hd2.form
  have hd3 := hd1.later hb2
  have hB2 := hB1.trans (hb2.mono hB1.size)
  have hr3 := hr2.below hb2 hr2.lt
  have hs3 := hs2.below hb2 hs2.lt
  have hf2 : w2.cell? ⟨w.heap.size + 1, 2, none⟩ = some (.slice ap ps.length kp) := hs3.cell 2
  clear hb2 hB1 hr2 hs2 hd1
  go_wp2_with (first | (refine wpList_load_row rfl 25 (.tmp 7) rfl w.heap.size rfl 25 (cellsB root) (0, 0) _ hr3 Tryd.underD rfl HSR.out ?_))
  refine (climb_any root idx ps _ w2 HRT.out (hp.later hB2) H32P.out (hK.below hB2 hkl)).mono ?_
  rintro e w3 ⟨rfl, hb3⟩
  rw [HYE.out, HEC.out]
  have hB3 := hB2.trans (hb3.mono hB2.size)
  have hr4 := hr3.below hb3 hr3.lt
  have hs4 := hs3.below hb3 hs3.lt
  have hd4 := hd3.later hb3
  have he4 := hd2.later hb3
  have q4 := hr4.lt
  have p4 := hs4.lt
  clear hb3 hB2 hr3 hs3 hd3 hd2 hf2
  go_wp2_with (first | (refine wpList_store_row rfl 25 (.tmp 15) (.tmp 59) rfl w3.heap.size rfl (cellsB y) (cellsB (List.replicate 32 0)) 25 rfl (Row.new w3 _ _) HCY.out HSY.out (cellsB_one _) ?_; intro w5 hg5 hy5 hz5; clear hz5; have hb5 := box_below hg5; clear hg5; have hr5 := hr4.below hb5 q4; have hs5 := hs4.below hb5 p4; have hd5 := hd4.later hb5; have he5 := he4.later hb5; have hB5 := hB3.trans (hb5.mono hB3.size); have hf2 : w5.cell? ⟨w.heap.size + 1, 2, none⟩ = some (.slice ap ps.length kp) := hs5.cell 2; clear hb5 hB3 hr4 hs4 hd4 he4) | (refine wpList_load_row rfl 25 (.tmp 7) rfl w.heap.size rfl 25 (cellsB root) (0, 0) _ hr5 Tryd.underD rfl HSR.out ?_))
  refine (rclimb_any root idx ps _ w5 HRT.out (hp.later hB5) H32P.out (hRK.below hB5 hrkl) (hRI.below hB5 hril)).mono ?_
  rintro e w6 ⟨rfl, hb6⟩
  rw [HYE.out, HEC.out]
  have hB6 := hB5.trans (hb6.mono hB5.size)
  have hr6 := hr5.below hb6 hr5.lt
  have hs6 := hs5.below hb6 hs5.lt
  have hy6 := hy5.below hb6 hy5.lt
  have hd6 := hd5.later hb6
  have he6 := he5.later hb6
  have q6 := hr6.lt
  have p6 := hs6.lt
  have r6 := hy6.lt
  clear hb6 hB5 hr5 hs5 hy5 hd5 he5 hf2
  go_wp2_with (first | (refine wpList_store_row rfl 25 (.tmp 17) (.tmp 67) rfl w6.heap.size rfl (cellsB y) (cellsB (List.replicate 32 0)) 25 rfl (Row.new w6 _ _) HCY.out HSY.out (cellsB_one _) ?_; intro w8 hg8 hx8 hz8; clear hz8; have hb8 := box_below hg8; clear hg8; have hr8 := hr6.below hb8 q6; have hs8 := hs6.below hb8 p6; have hy8 := hy6.below hb8 r6; have hd8 := hd6.later hb8; have he8 := he6.later hb8; have hB8 := hB6.trans (hb8.mono hB6.size); clear hb8 hB6 hr6 hs6 hy6 hd6 he6))
  rw [← HR9.out]
  clear HR9
  have hbl' := hB8
  have hc8 := hc.later hB8
  have hp8 := hp.later hB8
  have hm8 := (hm.later hB8).imp (ok' := fun _ => True) fun _ _ => trivial
  have hK8 := hK.below hB8 hkl
  have hRK8 := hRK.below hB8 hrkl
  have hRI8 := hRI.below hB8 hril
  have hkl8 := hK8.lt
  have hrkl8 := hRK8.lt
  have hril8 := hRI8.lt
  obtain ⟨n15, e15⟩ : ∃ n, w3.heap.size = n := ⟨_, rfl⟩
  obtain ⟨n17, e17⟩ : ∃ n, w6.heap.size = n := ⟨_, rfl⟩
  rw [e15] at hy8 ⊢
  rw [e17] at hx8 ⊢
  have l1 := hr8.lt
  have l2 := hs8.lt
  have l3 := hy8.lt
  have l4 := hx8.lt
  obtain ⟨B, eB⟩ : ∃ B, w8.heap.size = B := ⟨_, rfl⟩
  refine wp_gen fun a0 ha0 => ?_
  have i11 : a0.eval (.tmp 11) = .slice a1 pt.length k1 := by rw [ha0]; rfl
  have i13 : a0.eval (.tmp 13) = .slice a2 pt.length k2 := by rw [ha0]; rfl
  have i12 : a0.eval (.tmp 12) = .int .i64 ((eP : Nat) : Int) := by rw [ha0]; rfl
  have i14 : a0.eval (.tmp 14) = .int .i64 ((eP : Nat) : Int) := by rw [ha0]; rfl
  have i16 : a0.eval (.tmp 16) = .int .i64 ((eC : Nat) : Int) := by rw [ha0]; rfl
  have i18 : a0.eval (.tmp 18) = .int .i64 ((eC : Nat) : Int) := by rw [ha0]; rfl
  have i15 : a0.eval (.tmp 15) = .pointer (some ⟨n15, 0, none⟩) := by rw [ha0]; rfl
  have i17 : a0.eval (.tmp 17) = .pointer (some ⟨n17, 0, none⟩) := by rw [ha0]; rfl
  have i7 : a0.eval (.tmp 7) = .pointer (some ⟨w.heap.size, 0, none⟩) := by rw [ha0]; rfl
  have i9 : a0.eval (.tmp 9) = .pointer (some ⟨w.heap.size + 1, 0, none⟩) := by rw [ha0]; rfl
  have i3 : a0.eval (.tmp 3) = .slice am msg.length km := by rw [ha0]; rfl
  have hsz : a0.tmps.size = 98 := by rw [ha0]; rfl
  have hdf0 : a0.defers = [] := by rw [ha0]
  clear ha0
  refine wp_region_inv (B := B) [some 69, some 70, some 71, some 72, some 73, some 74, some 75, some 76, some 77, some 78, some 79, some 80, some 81, some 82, some 83, some 84, some 85, some 86, some 87, some 88, some 89, some 90, some 91, some 92, some 93, some 94, some 95, some 96, some 97, some 10] [Asrt.eq (.slice a1 pt.length k1), Asrt.eq (.slice a2 pt.length k2), Asrt.eq (.bool true), Asrt.eq (.bool true), Asrt.eq (.int .i64 ((eP : Nat) : Int)), Asrt.eq (.int .i64 ((eP : Nat) : Int)), Asrt.eq (.bool true), Asrt.eq (.bool true), Asrt.eq (.bool true), Asrt.eq (.agg (cellsB (y))), Asrt.eq (.agg (cellsB (y))), Asrt.eq (.bool true), Asrt.eq (.bool true), Asrt.eq (.bool true), Asrt.eq (.int .i64 ((eC : Nat) : Int)), Asrt.eq (.int .i64 ((eC : Nat) : Int)), Asrt.eq (.bool true), Asrt.eq (.bool true), Asrt.eq (.bool true), Asrt.eq (.agg (cellsB (root))), Asrt.eq (.slice am msg.length km), Asrt.eq (.agg (sigC i (.slice ac cs.length kc) (.slice ap ps.length kp))), Asrt.eq (.bool bb), Asrt.eq (.agg (cellsB (root))), Asrt.eq (.slice am msg.length km), Asrt.eq (.agg (sigC i (.slice ac cs.length kc) (.slice ap ps.length kp))), Asrt.eq (.bool bb), Asrt.eq (.bool true), Asrt.eq (.bool true), Asrt.eq (.bool true)] rfl (by as_aux_lemma => kernel_rfl) (by rw [hsz]; as_aux_lemma => kernel_rfl) (by as_aux_lemma => kernel_rfl) (by omega) ⟨?_, ?_, ?_, ?_, ?_, ?_, ?_, ?_, ?_, ?_, ?_, ?_, ?_, ?_, ?_, ?_, ?_, ?_, ?_, ?_, ?_, ?_, ?_, ?_, ?_, ?_, ?_, ?_, ?_, ?_, trivial⟩ ?_
  · as_aux_lemma =>
      intro ev w1 hg hin hc hgl hfn hd
      have hB := hg.top
      have g11 : ev (.tmp 11) = .slice a1 pt.length k1 := (hin 11 (by kernel_rfl)).trans i11
      clear hin hd
      refine step_on (guard_none rfl) fun K hK => ?_
      unfold YieldsG
      go_simp
      exact hK _ _ rfl (Grow.refl hB)
  · as_aux_lemma =>
      intro ev w1 hg hin hc hgl hfn hd
      have hB := hg.top
      have g13 : ev (.tmp 13) = .slice a2 pt.length k2 := (hin 13 (by kernel_rfl)).trans i13
      clear hin hd
      refine step_on (guard_none rfl) fun K hK => ?_
      unfold YieldsG
      go_simp
      exact hK _ _ rfl (Grow.refl hB)
  · as_aux_lemma =>
      intro ev w1 hg hin hc hgl hfn hd
      have hB := hg.top
      have f69 : (ev (.tmp 69)) = .slice a1 pt.length k1 := hd.1 rfl _ rfl
      have f70 : (ev (.tmp 70)) = .slice a2 pt.length k2 := hd.2.1 rfl _ rfl
      clear hin hd
      refine step_on (guard_none rfl) fun K hK => ?_
      unfold YieldsG
      go_simp
      refine (rdigests_any pt pt _ _ w1 (hd8.later (by rw [eB]; exact hg.bl)) (he8.later (by rw [eB]; exact hg.bl)) HPL.out HPL.out HP32.out HP32.out).mono ?_
      rintro e w2 ⟨rfl, hb⟩
      exact ⟨_, rfl, hK _ _ (by show _ = _; rw [decide_eq_true rfl]) (Grow.of hB hb)⟩
  · as_aux_lemma =>
      intro ev w1 hg hin hc hgl hfn hd
      have hB := hg.top
      have f71 : (ev (.tmp 71)) = .bool true := hd.1 rfl _ rfl
      clear hin hd
      refine step_on (guard_none rfl) fun K hK => ?_
      unfold YieldsG
      go_simp
      exact hK _ _ rfl (Grow.refl hB)
  · as_aux_lemma =>
      intro ev w1 hg hin hc hgl hfn hd
      have hB := hg.top
      have f72 : (ev (.tmp 72)) = .bool true := hd.1 rfl _ rfl
      have g12 : ev (.tmp 12) = .int .i64 ((eP : Nat) : Int) := (hin 12 (by kernel_rfl)).trans i12
      clear hin hd
      refine step_on (guard_some rfl rfl f72) fun K hK => ?_
      unfold YieldsG
      go_simp
      exact hK _ _ rfl (Grow.refl hB)
  · as_aux_lemma =>
      intro ev w1 hg hin hc hgl hfn hd
      have hB := hg.top
      have f72 : (ev (.tmp 72)) = .bool true := hd.1 rfl _ rfl
      have g14 : ev (.tmp 14) = .int .i64 ((eP : Nat) : Int) := (hin 14 (by kernel_rfl)).trans i14
      clear hin hd
      refine step_on (guard_some rfl rfl f72) fun K hK => ?_
      unfold YieldsG
      go_simp
      exact hK _ _ rfl (Grow.refl hB)
  · as_aux_lemma =>
      intro ev w1 hg hin hc hgl hfn hd
      have hB := hg.top
      have f73 : (ev (.tmp 73)) = .int .i64 ((eP : Nat) : Int) := hd.1 rfl _ rfl
      have f74 : (ev (.tmp 74)) = .int .i64 ((eP : Nat) : Int) := hd.2.1 rfl _ rfl
      have f72 : (ev (.tmp 72)) = .bool true := hd.2.2.1 rfl _ rfl
      clear hin hd
      refine step_on (guard_some rfl rfl f72) fun K hK => ?_
      unfold YieldsG
      go_simp
      exact hK _ _ (by show _ = _; first | rfl | simp) (Grow.refl hB)
  · as_aux_lemma =>
      intro ev w1 hg hin hc hgl hfn hd
      have hB := hg.top
      have f72 : (ev (.tmp 72)) = .bool true := hd.1 rfl _ rfl
      have f75 : (ev (.tmp 75)) = .bool true := hd.2.1 rfl _ rfl
      clear hin hd
      refine step_on (guard_none rfl) fun K hK => ?_
      unfold YieldsG
      go_simp
      exact hK _ _ rfl (Grow.refl hB)
  · as_aux_lemma =>
      intro ev w1 hg hin hc hgl hfn hd
      have hB := hg.top
      have f76 : (ev (.tmp 76)) = .bool true := hd.1 rfl _ rfl
      clear hin hd
      refine step_on (guard_none rfl) fun K hK => ?_
      unfold YieldsG
      go_simp
      exact hK _ _ rfl (Grow.refl hB)
  · as_aux_lemma =>
      intro ev w1 hg hin hc hgl hfn hd
      have hB := hg.top
      have f77 : (ev (.tmp 77)) = .bool true := hd.1 rfl _ rfl
      have g15 : ev (.tmp 15) = .pointer (some ⟨n15, 0, none⟩) := (hin 15 (by kernel_rfl)).trans i15
      clear hin hd
      refine step_on (guard_some rfl rfl f77) fun K hK => ?_
      refine yg_load_row 25 (.tmp 15) rfl n15 g15 25 (cellsB (y)) (0, 0) _ (hy8.below hg.bl (by omega)) Tryd.underD rfl (Tryd.sizeD_of _ HY.out) ?_
      exact hK _ _ rfl (Grow.refl hB)
  · as_aux_lemma =>
      intro ev w1 hg hin hc hgl hfn hd
      have hB := hg.top
      have f77 : (ev (.tmp 77)) = .bool true := hd.1 rfl _ rfl
      have g17 : ev (.tmp 17) = .pointer (some ⟨n17, 0, none⟩) := (hin 17 (by kernel_rfl)).trans i17
      clear hin hd
      refine step_on (guard_some rfl rfl f77) fun K hK => ?_
      refine yg_load_row 25 (.tmp 17) rfl n17 g17 25 (cellsB (y)) (0, 0) _ (hx8.below hg.bl (by omega)) Tryd.underD rfl (Tryd.sizeD_of _ HY.out) ?_
      exact hK _ _ rfl (Grow.refl hB)
  · as_aux_lemma =>
      intro ev w1 hg hin hc hgl hfn hd
      have hB := hg.top
      have f78 : (ev (.tmp 78)) = .agg (cellsB (y)) := hd.1 rfl _ rfl
      have f79 : (ev (.tmp 79)) = .agg (cellsB (y)) := hd.2.1 rfl _ rfl
      have f77 : (ev (.tmp 77)) = .bool true := hd.2.2.1 rfl _ rfl
      clear hin hd
      refine step_on (guard_some rfl rfl f77) fun K hK => ?_
      have hq := eqlT (y) (y) HY.out rfl
      unfold YieldsG
      go_simp
      exact hK _ _ rfl (Grow.refl hB)
  · as_aux_lemma =>
      intro ev w1 hg hin hc hgl hfn hd
      have hB := hg.top
      have f77 : (ev (.tmp 77)) = .bool true := hd.1 rfl _ rfl
      have f80 : (ev (.tmp 80)) = .bool true := hd.2.1 rfl _ rfl
      clear hin hd
      refine step_on (guard_none rfl) fun K hK => ?_
      unfold YieldsG
      go_simp
      exact hK _ _ rfl (Grow.refl hB)
  · as_aux_lemma =>
      intro ev w1 hg hin hc hgl hfn hd
      have hB := hg.top
      have f81 : (ev (.tmp 81)) = .bool true := hd.1 rfl _ rfl
      clear hin hd
      refine step_on (guard_none rfl) fun K hK => ?_
      unfold YieldsG
      go_simp
      exact hK _ _ rfl (Grow.refl hB)
  · as_aux_lemma =>
      intro ev w1 hg hin hc hgl hfn hd
      have hB := hg.top
      have f82 : (ev (.tmp 82)) = .bool true := hd.1 rfl _ rfl
      have g16 : ev (.tmp 16) = .int .i64 ((eC : Nat) : Int) := (hin 16 (by kernel_rfl)).trans i16
      clear hin hd
      refine step_on (guard_some rfl rfl f82) fun K hK => ?_
      unfold YieldsG
      go_simp
      exact hK _ _ rfl (Grow.refl hB)
  · as_aux_lemma =>
      intro ev w1 hg hin hc hgl hfn hd
      have hB := hg.top
      have f82 : (ev (.tmp 82)) = .bool true := hd.1 rfl _ rfl
      have g18 : ev (.tmp 18) = .int .i64 ((eC : Nat) : Int) := (hin 18 (by kernel_rfl)).trans i18
      clear hin hd
      refine step_on (guard_some rfl rfl f82) fun K hK => ?_
      unfold YieldsG
      go_simp
      exact hK _ _ rfl (Grow.refl hB)
  · as_aux_lemma =>
      intro ev w1 hg hin hc hgl hfn hd
      have hB := hg.top
      have f83 : (ev (.tmp 83)) = .int .i64 ((eC : Nat) : Int) := hd.1 rfl _ rfl
      have f84 : (ev (.tmp 84)) = .int .i64 ((eC : Nat) : Int) := hd.2.1 rfl _ rfl
      have f82 : (ev (.tmp 82)) = .bool true := hd.2.2.1 rfl _ rfl
      clear hin hd
      refine step_on (guard_some rfl rfl f82) fun K hK => ?_
      unfold YieldsG
      go_simp
      exact hK _ _ (by show _ = _; first | rfl | simp) (Grow.refl hB)
  · as_aux_lemma =>
      intro ev w1 hg hin hc hgl hfn hd
      have hB := hg.top
      have f82 : (ev (.tmp 82)) = .bool true := hd.1 rfl _ rfl
      have f85 : (ev (.tmp 85)) = .bool true := hd.2.1 rfl _ rfl
      clear hin hd
      refine step_on (guard_none rfl) fun K hK => ?_
      unfold YieldsG
      go_simp
      exact hK _ _ rfl (Grow.refl hB)
  · as_aux_lemma =>
      intro ev w1 hg hin hc hgl hfn hd
      have hB := hg.top
      have f86 : (ev (.tmp 86)) = .bool true := hd.1 rfl _ rfl
      clear hin hd
      refine step_on (guard_none rfl) fun K hK => ?_
      unfold YieldsG
      go_simp
      exact hK _ _ rfl (Grow.refl hB)
  · as_aux_lemma =>
      intro ev w1 hg hin hc hgl hfn hd
      have hB := hg.top
      have f87 : (ev (.tmp 87)) = .bool true := hd.1 rfl _ rfl
      have g7 : ev (.tmp 7) = .pointer (some ⟨w.heap.size, 0, none⟩) := (hin 7 (by kernel_rfl)).trans i7
      clear hin hd
      refine step_on (guard_some rfl rfl f87) fun K hK => ?_
      refine yg_load_row 25 (.tmp 7) rfl w.heap.size g7 25 (cellsB (root)) (0, 0) _ (hr8.below hg.bl (by omega)) Tryd.underD rfl (Tryd.sizeD_of _ HRT.out) ?_
      exact hK _ _ rfl (Grow.refl hB)
  · as_aux_lemma =>
      intro ev w1 hg hin hc hgl hfn hd
      have hB := hg.top
      have f87 : (ev (.tmp 87)) = .bool true := hd.1 rfl _ rfl
      have g3 : ev (.tmp 3) = .slice am msg.length km := (hin 3 (by kernel_rfl)).trans i3
      clear hin hd
      refine step_on (guard_some rfl rfl f87) fun K hK => ?_
      unfold YieldsG
      go_simp
      exact hK _ _ rfl (Grow.refl hB)
  · as_aux_lemma =>
      intro ev w1 hg hin hc hgl hfn hd
      have hB := hg.top
      have f87 : (ev (.tmp 87)) = .bool true := hd.1 rfl _ rfl
      have g9 : ev (.tmp 9) = .pointer (some ⟨w.heap.size + 1, 0, none⟩) := (hin 9 (by kernel_rfl)).trans i9
      clear hin hd
      refine step_on (guard_some rfl rfl f87) fun K hK => ?_
      refine yg_load_row 31 (.tmp 9) rfl (w.heap.size + 1) g9 31 (sigC i (.slice ac cs.length kc) (.slice ap ps.length kp)) (0, 0) _ (hs8.below hg.bl (by omega)) HU.out rfl (sigC_size _ _ _) ?_
      exact hK _ _ rfl (Grow.refl hB)
  · as_aux_lemma =>
      intro ev w1 hg hin hc hgl hfn hd
      have hB := hg.top
      have f88 : (ev (.tmp 88)) = .agg (cellsB (root)) := hd.1 rfl _ rfl
      have f89 : (ev (.tmp 89)) = .slice am msg.length km := hd.2.1 rfl _ rfl
      have f90 : (ev (.tmp 90)) = .agg (sigC i (.slice ac cs.length kc) (.slice ap ps.length kp)) := hd.2.2.1 rfl _ rfl
      have f87 : (ev (.tmp 87)) = .bool true := hd.2.2.2.1 rfl _ rfl
      clear hin hd
      refine step_on (guard_some rfl rfl f87) fun K hK => ?_
      unfold YieldsG
      go_simp
      refine (kverify_any root msg _ i _ _ cs ps w1 HRT.out ((hm8.later (by rw [eB]; exact hg.bl)).imp fun _ _ => trivial) HML.out (hc8.later (by rw [eB]; exact hg.bl)) H32C.out (hp8.later (by rw [eB]; exact hg.bl)) H32P.out (hK8.below hg.bl (by omega))).mono ?_
      rintro e w2 ⟨rfl, hb⟩
      exact ⟨_, rfl, hK _ _ (by show _ = _; rw [HBB.out]) (Grow.of hB hb)⟩
  · as_aux_lemma =>
      intro ev w1 hg hin hc hgl hfn hd
      have hB := hg.top
      have f87 : (ev (.tmp 87)) = .bool true := hd.1 rfl _ rfl
      have g7 : ev (.tmp 7) = .pointer (some ⟨w.heap.size, 0, none⟩) := (hin 7 (by kernel_rfl)).trans i7
      clear hin hd
      refine step_on (guard_some rfl rfl f87) fun K hK => ?_
      refine yg_load_row 25 (.tmp 7) rfl w.heap.size g7 25 (cellsB (root)) (0, 0) _ (hr8.below hg.bl (by omega)) Tryd.underD rfl (Tryd.sizeD_of _ HRT.out) ?_
      exact hK _ _ rfl (Grow.refl hB)
  · as_aux_lemma =>
      intro ev w1 hg hin hc hgl hfn hd
      have hB := hg.top
      have f87 : (ev (.tmp 87)) = .bool true := hd.1 rfl _ rfl
      have g3 : ev (.tmp 3) = .slice am msg.length km := (hin 3 (by kernel_rfl)).trans i3
      clear hin hd
      refine step_on (guard_some rfl rfl f87) fun K hK => ?_
      unfold YieldsG
      go_simp
      exact hK _ _ rfl (Grow.refl hB)
  · as_aux_lemma =>
      intro ev w1 hg hin hc hgl hfn hd
      have hB := hg.top
      have f87 : (ev (.tmp 87)) = .bool true := hd.1 rfl _ rfl
      have g9 : ev (.tmp 9) = .pointer (some ⟨w.heap.size + 1, 0, none⟩) := (hin 9 (by kernel_rfl)).trans i9
      clear hin hd
      refine step_on (guard_some rfl rfl f87) fun K hK => ?_
      refine yg_load_row 31 (.tmp 9) rfl (w.heap.size + 1) g9 31 (sigC i (.slice ac cs.length kc) (.slice ap ps.length kp)) (0, 0) _ (hs8.below hg.bl (by omega)) HU.out rfl (sigC_size _ _ _) ?_
      exact hK _ _ rfl (Grow.refl hB)
  · as_aux_lemma =>
      intro ev w1 hg hin hc hgl hfn hd
      have hB := hg.top
      have f92 : (ev (.tmp 92)) = .agg (cellsB (root)) := hd.1 rfl _ rfl
      have f93 : (ev (.tmp 93)) = .slice am msg.length km := hd.2.1 rfl _ rfl
      have f94 : (ev (.tmp 94)) = .agg (sigC i (.slice ac cs.length kc) (.slice ap ps.length kp)) := hd.2.2.1 rfl _ rfl
      have f87 : (ev (.tmp 87)) = .bool true := hd.2.2.2.2.1 rfl _ rfl
      clear hin hd
      refine step_on (guard_some rfl rfl f87) fun K hK => ?_
      unfold YieldsG
      go_simp
      refine (rverify_any root msg _ i _ _ cs ps w1 HRT.out ((hm8.later (by rw [eB]; exact hg.bl)).imp fun _ _ => trivial) HML.out (hc8.later (by rw [eB]; exact hg.bl)) H32C.out (hp8.later (by rw [eB]; exact hg.bl)) H32P.out (hRK8.below hg.bl (by omega)) (hRI8.below hg.bl (by omega))).mono ?_
      rintro e w2 ⟨rfl, hb⟩
      exact ⟨_, rfl, hK _ _ (by show _ = _; rw [HBB.out]) (Grow.of hB hb)⟩
  · as_aux_lemma =>
      intro ev w1 hg hin hc hgl hfn hd
      have hB := hg.top
      have f91 : (ev (.tmp 91)) = .bool bb := hd.1 rfl _ rfl
      have f95 : (ev (.tmp 95)) = .bool bb := hd.2.1 rfl _ rfl
      have f87 : (ev (.tmp 87)) = .bool true := hd.2.2.1 rfl _ rfl
      clear hin hd
      refine step_on (guard_some rfl rfl f87) fun K hK => ?_
      unfold YieldsG
      go_simp
      exact hK _ _ (by show _ = _; first | rfl | simp) (Grow.refl hB)
  · as_aux_lemma =>
      intro ev w1 hg hin hc hgl hfn hd
      have hB := hg.top
      have f87 : (ev (.tmp 87)) = .bool true := hd.1 rfl _ rfl
      have f96 : (ev (.tmp 96)) = .bool true := hd.2.1 rfl _ rfl
      clear hin hd
      refine step_on (guard_none rfl) fun K hK => ?_
      unfold YieldsG
      go_simp
      exact hK _ _ rfl (Grow.refl hB)
  · as_aux_lemma =>
      intro ev w1 hg hin hc hgl hfn hd
      have hB := hg.top
      have f97 : (ev (.tmp 97)) = .bool true := hd.1 rfl _ rfl
      clear hin hd
      refine step_on (guard_none rfl) fun K hK => ?_
      unfold YieldsG
      go_simp
      exact hK _ _ rfl (Grow.refl hB)
  · intro v w9 hg hall
    have hr : v 29 = .bool true := hall.2.2.2.2.2.2.2.2.2.2.2.2.2.2.2.2.2.2.2.2.2.2.2.2.2.2.2.2.2.1 (by simp)
    generalize hput : putAll _ v 0 _ = af
    have h0 : af.tmps.getD 10 undef = v 29 := by rw [← hput]; exact putAll_at (by rw [hsz]; as_aux_lemma => kernel_rfl) rfl rfl
    have hdf : af.defers = [] := by rw [← hput, putAll_defers]; exact hdf0
    clear hput hall
    go_wp2
    refine bodyPost_ret (results_tmp rfl _ _ _) hdf ⟨?_, hbl'.trans (hg.bl.mono (by rw [← eB]; exact hbl'.size))⟩
    rw [h0, hr]
theorem treeSpec_any (lv : Value) (l : List Dg) (idx : Int) (root : Dg) (mv : Value) (msg : List UInt8) (i : Int) (cv pv : Value) (cs ps : List Dg) (w : World) (hlv : Digs w lv l) (h32l : all32 l) (_g0 : -9223372036854775808 ≤ idx) (_g1 : idx ≤ 9223372036854775807) (hr : root.length = 32) (hm : Bytes w mv msg (fun _ => True)) (_hml : msg.length ≤ maxLen) (_h0 : -9223372036854775808 ≤ i) (_h1 : i ≤ 9223372036854775807) (hc : Digs w cv cs) (h32c : all32 cs) (hp : Digs w pv ps) (h32p : all32 ps) (hRK : RKFact w) (hRI : RIFact w) (hK : KFact w) :
    Calls Tryd.prog 8 #[lv, .int .i64 idx, .agg (cellsB root), mv, .agg (sigC i cv pv)] w fun e w' => e = .returned (.bool true) ∧ Below w.heap.size w w' := by
  by_cases h1 : 100 < l.length
  · exact ts_l lv l idx root mv msg i cv pv cs ps w hlv h32l hr hm hc h32c hp h32p hRK hRI hK h1
  by_cases h2 : 300 < msg.length
  · exact ts_m lv l idx root mv msg i cv pv cs ps w hlv h32l hr hm hc h32c hp h32p hRK hRI hK h1 h2
  by_cases h3 : 40 < cs.length
  · exact ts_c lv l idx root mv msg i cv pv cs ps w hlv h32l hr hm hc h32c hp h32p hRK hRI hK h1 h2 h3
  by_cases h4 : 40 < ps.length
  · exact ts_p lv l idx root mv msg i cv pv cs ps w hlv h32l hr hm hc h32c hp h32p hRK hRI hK h1 h2 h3 h4
  exact ts_ok lv l idx root mv msg i cv pv cs ps w hlv h32l hr hm hc h32c hp h32p hRK hRI hK h1 h2 h3 h4
end Go.Proofs.YteogcilnpkaplaaDoor

/- Merged: Climb and leaves return what the plain functions say. No conditions of its own beyond those that each law states. -/
import Derived.Test.YteogcilnpkaplaaDoorM6
import Derived.Test.YteogcilnpkaplaaDoorM1
import Derived.Test.YteogcilnpkaplaaDoorM3
import Derived.Shelf.Abstract
import Derived.Test.YteogcilnpkaplaaDoorM7
import Derived.Test.YteogcilnpkaplaaDoorM4
namespace Go.Proofs.YteogcilnpkaplaaDoor
open Go.RowKit
theorem and1_63 (x : Nat) (h : x < 64) : bits .and .i64 (x : Int) 1 = ((x % 2 : Nat) : Int) := by
  have hall : (List.range 64).all (fun x => bits .and .i64 (x : Int) 1 == ((x % 2 : Nat) : Int)) = true := by kernel_rfl
  simpa using List.all_eq_true.1 hall x (List.mem_range.2 h)
theorem enters_climb1 : ∀ (args : Array Value) (w : World), (callFunc 46 args).run Tryd.prog w = .ok (.enter 46 args) w := enters_of Tryd.func46 (by kernel_rfl) rfl
theorem climbStep_len (x y : Dg) (i : Nat) : (climbStep x i y).length = 32 := by unfold climbStep; split <;> exact pairOf_len _ _
set_option maxRecDepth 10000 in
set_option maxHeartbeats 2000000 in
theorem climb1_any (x y : Dg) (i bi bl : Nat) (w : World) (hi : i < 64) (hx : x.length = 32) (hy : y.length = 32) (hI : Row w bi 3 #[.int .i64 (i : Int)]) (hL : Row w bl 25 (cellsB x)) (hne : bi ≠ bl) (hK : KFact w) (hbk : 1 ≠ bi) (hbk2 : 1 ≠ bl) :
    Calls Tryd.prog 46 #[.agg (cellsB y), .pointer (some ⟨bi, 0, none⟩), .pointer (some ⟨bl, 0, none⟩)] w fun e w' => e = .returned (.tuple #[]) ∧ Row w' bi 3 #[.int .i64 ((i / 2 : Nat) : Int)] ∧ Row w' bl 25 (cellsB (climbStep x i y)) ∧
      (∀ base, base ≤ bi → base ≤ bl → base ≤ w.heap.size → Below base w w') ∧ (∀ b t cs, b ≠ bi → b ≠ bl → Row w b t cs → Row w' b t cs) ∧ KFact w' := by
  have hkl := hK.lt
  have HX := Lib.hid hx
  have HY := Lib.hid hy
  have HSX := Lib.hid (Tryd.sizeD_of x hx)
  have HSY := Lib.hid (Tryd.sizeD_of y hy)
  clear hx hy
  have hli := hI.lt
  have hll := hL.lt
  have hand := and1_63 i hi
  have hb0 : Below w.heap.size w (w.alloc (.cells (cellsB y) 25)) := (Below.refl _ _).alloc (Nat.le_refl _) _
  have hy0 : Row (w.alloc (.cells (cellsB y) 25)) w.heap.size 25 (cellsB y) := Row.new w _ _
  have hI0 := hI.below hb0 hli
  have hL0 := hL.below hb0 hll
  have hci := hI0.cell 0
  have hcf := hI0.free 0
  have hKw := hK.below hb0 hkl
  have HCL := Lib.hid (climbStep_len x y i)
  by_cases hev : i % 2 = 0
  · have HS : Hid (climbStep x i y = pairOf x y) := by show _ = _; unfold climbStep; rw [if_pos hev]
    rw [show ((i % 2 : Nat) : Int) = 0 by omega] at hand
    clear hev
    go_enter Tryd.func46, Tryd.ntmps46
    go_wp2_with (first | (refine wpList_load_row rfl 25 (.tmp 2) rfl bl rfl 25 (cellsB x) (0, 0) _ hL0 Tryd.underD rfl HSX.out ?_) | (refine wpList_load_row rfl 25 (.tmp 3) rfl w.heap.size rfl 25 (cellsB y) (0, 0) _ hy0 Tryd.underD rfl HSY.out ?_))
    refine (pair_any x y _ HX.out HY.out hKw).mono ?_
    rintro e w2 ⟨rfl, hb2⟩
    have hI2 := hI0.below hb2 hI0.lt
    have hL2 := hL0.below hb2 hL0.lt
    have hB2 := hb0.trans (hb2.mono hb0.size)
    have hrl := pairOf_len x y
    rw [← HS.out] at hrl ⊢
    obtain ⟨z, hz⟩ : ∃ z, climbStep x i y = z := ⟨_, rfl⟩
    rw [hz] at hrl ⊢
    have HZE := Lib.hid hz
    clear hz
    have HSZ := Lib.hid (Tryd.sizeD_of z hrl)
    have HCZ : Hid ((cellsB z).size = (cellsB x).size) := Lib.hid (by rw [cellsB_size, cellsB_size, hrl, HX.out])
    clear hrl hb2 hI0 hL0 hci hcf hKw hy0 hb0
    go_wp2_with (refine wpList_store_row rfl 25 (.tmp 2) (.tmp 9) rfl bl rfl (cellsB z) _ 25 rfl hL2 HCZ.out HSZ.out (cellsB_one _) ?_; intro w3 hg3 hr3 hz3; clear hz3; have hI3 := hI2.grown hg3 (fun e => hne (Option.some.inj e)); have hc3 := hI3.cell 0; have hf3 := hI3.free 0)
    go_end0
    have hset := hI3.set 0 (.int .i64 ((i / 2 : Nat) : Int))
    have hlt3 : bl < w3.heap.size := hr3.lt
    refine ⟨rfl, by simpa using hset, by rw [HZE.out]; exact hr3.other _ _ (fun e => hne e.symm), fun base h1 h2 h3 => ?_, fun b t cs n1 n2 hr => ?_, ?_⟩
    · exact (((hB2.mono h3).grown hg3 (Nat.le_trans h3 hB2.size) (fun k hk => by cases hk; exact h2)).setCell h1 _)
    · exact ((hr.below hB2 hr.lt).grown hg3 (fun e => n2 (Option.some.inj e))).other _ _ n1
    · intro t ht
      rw [World.cell?_setCell_other _ _ _ _ (fun e => hbk (congrArg Addr.block e).symm)]
      exact grown_KFact (hK.below hB2 hkl) hg3 hbk2 t ht
  · have HS : Hid (climbStep x i y = pairOf y x) := by show _ = _; unfold climbStep; rw [if_neg hev]
    rw [show ((i % 2 : Nat) : Int) = 1 by omega] at hand
    clear hev
    go_enter Tryd.func46, Tryd.ntmps46
    go_wp2_with (first | (refine wpList_load_row rfl 25 (.tmp 2) rfl bl rfl 25 (cellsB x) (0, 0) _ hL0 Tryd.underD rfl HSX.out ?_) | (refine wpList_load_row rfl 25 (.tmp 3) rfl w.heap.size rfl 25 (cellsB y) (0, 0) _ hy0 Tryd.underD rfl HSY.out ?_))
    refine (pair_any y x _ HY.out HX.out hKw).mono ?_
    rintro e w2 ⟨rfl, hb2⟩
    have hI2 := hI0.below hb2 hI0.lt
    have hL2 := hL0.below hb2 hL0.lt
    have hB2 := hb0.trans (hb2.mono hb0.size)
    have hrl := pairOf_len y x
    rw [← HS.out] at hrl ⊢
    obtain ⟨z, hz⟩ : ∃ z, climbStep x i y = z := ⟨_, rfl⟩
    rw [hz] at hrl ⊢
    have HZE := Lib.hid hz
    clear hz
    have HSZ := Lib.hid (Tryd.sizeD_of z hrl)
    have HCZ : Hid ((cellsB z).size = (cellsB x).size) := Lib.hid (by rw [cellsB_size, cellsB_size, hrl, HX.out])
    clear hrl hb2 hI0 hL0 hci hcf hKw hy0 hb0
    go_wp2_with (refine wpList_store_row rfl 25 (.tmp 2) (.tmp 12) rfl bl rfl (cellsB z) _ 25 rfl hL2 HCZ.out HSZ.out (cellsB_one _) ?_; intro w3 hg3 hr3 hz3; clear hz3; have hI3 := hI2.grown hg3 (fun e => hne (Option.some.inj e)); have hc3 := hI3.cell 0; have hf3 := hI3.free 0)
    go_end0
    have hset := hI3.set 0 (.int .i64 ((i / 2 : Nat) : Int))
    have hlt3 : bl < w3.heap.size := hr3.lt
    refine ⟨rfl, by simpa using hset, by rw [HZE.out]; exact hr3.other _ _ (fun e => hne e.symm), fun base h1 h2 h3 => ?_, fun b t cs n1 n2 hr => ?_, ?_⟩
    · exact (((hB2.mono h3).grown hg3 (Nat.le_trans h3 hB2.size) (fun k hk => by cases hk; exact h2)).setCell h1 _)
    · exact ((hr.below hB2 hr.lt).grown hg3 (fun e => n2 (Option.some.inj e))).other _ _ n1
    · intro t ht
      rw [World.cell?_setCell_other _ _ _ _ (fun e => hbk (congrArg Addr.block e).symm)]
      exact grown_KFact (hK.below hB2 hkl) hg3 hbk2 t ht
end Go.Proofs.YteogcilnpkaplaaDoor

namespace Go.Proofs.YteogcilnpkaplaaDoor
open Go.RowKit
def okClimb (idx : Int) (n : Nat) : Bool := decide (n ≤ 6) && decide (0 ≤ idx) && decide (idx < 2 ^ n)
theorem okClimb_iff (idx : Int) (n : Nat) : okClimb idx n = true ↔ n ≤ 6 ∧ 0 ≤ idx ∧ idx < 2 ^ n := by unfold okClimb; simp [and_assoc]
def errC (idx : Int) (n : Nat) : Nat := if okClimb idx n = true then 0 else 1
def climbR (x : Dg) (idx : Int) (p : List Dg) : Dg := if okClimb idx p.length = true then climb x idx.toNat p else zeroD
theorem climbR_len (x : Dg) (idx : Int) (p : List Dg) (hx : x.length = 32) : (climbR x idx p).length = 32 := by
  unfold climbR; split
  · exact climb_len _ _ _ hx
  · rfl
theorem pow_cases {n : Nat} (hn : n ≤ 6) : (n = 0 ∧ (2 : Int) ^ n = 1) ∨ (n = 1 ∧ (2 : Int) ^ n = 2) ∨ (n = 2 ∧ (2 : Int) ^ n = 4) ∨ (n = 3 ∧ (2 : Int) ^ n = 8) ∨ (n = 4 ∧ (2 : Int) ^ n = 16) ∨ (n = 5 ∧ (2 : Int) ^ n = 32) ∨ (n = 6 ∧ (2 : Int) ^ n = 64) := by
  rcases (show n = 0 ∨ n = 1 ∨ n = 2 ∨ n = 3 ∨ n = 4 ∨ n = 5 ∨ n = 6 by omega) with rfl | rfl | rfl | rfl | rfl | rfl | rfl <;> simp
/-- What idx >> n comes to. -/
structure ShrIs (idx : Int) (n : Nat) (q : Int) : Prop where
  q0 : n = 0 → idx = q
  q1 : n = 1 → idx / 2 = q
  q2 : n = 2 → idx / 4 = q
  q3 : n = 3 → idx / 8 = q
  q4 : n = 4 → idx / 16 = q
  q5 : n = 5 → idx / 32 = q
  q6 : n = 6 → idx / 64 = q
theorem shr_ok {idx : Int} {n : Nat} (hn : n ≤ 6) (h0 : 0 ≤ idx) (h1 : idx < 2 ^ n) : ShrIs idx n 0 := by
  rcases pow_cases hn with ⟨rfl, h⟩ | ⟨rfl, h⟩ | ⟨rfl, h⟩ | ⟨rfl, h⟩ | ⟨rfl, h⟩ | ⟨rfl, h⟩ | ⟨rfl, h⟩ <;> (rw [h] at h1; constructor <;> intro h' <;> omega)
theorem shr_bad {idx : Int} {n : Nat} (hn : n ≤ 6) (h1 : ¬ idx < 2 ^ n) : ∃ q, ShrIs idx n q ∧ ¬ q = 0 := by
  refine ⟨idx / 2 ^ n, ?_, ?_⟩
  · rcases pow_cases hn with ⟨rfl, h⟩ | ⟨rfl, h⟩ | ⟨rfl, h⟩ | ⟨rfl, h⟩ | ⟨rfl, h⟩ | ⟨rfl, h⟩ | ⟨rfl, h⟩ <;> (rw [h]; constructor <;> intro h' <;> omega)
  · rcases pow_cases hn with ⟨rfl, h⟩ | ⟨rfl, h⟩ | ⟨rfl, h⟩ | ⟨rfl, h⟩ | ⟨rfl, h⟩ | ⟨rfl, h⟩ | ⟨rfl, h⟩ <;> (rw [h] at h1 ⊢; omega)
set_option maxRecDepth 10000 in
set_option maxHeartbeats 4000000 in
theorem climb_long (x : Dg) (idx : Int) (p : List Dg) (v : Value) (w : World) (hx : x.length = 32) (hp : Digs w v p) (h32 : all32 p) (hK : KFact w) (hok : okClimb idx p.length = false) (hn : 6 < p.length) :
    Calls Tryd.prog 25 #[.agg (cellsB x), .int .i64 idx, v] w fun e w' => e = .returned (.tuple #[.agg (cellsB (climbR x idx p)), .int .i64 (errC idx p.length : Nat)]) ∧ Below w.heap.size w w' := by
  have hkl := hK.lt
  have HX := Lib.hid hx
  clear hx
  obtain ⟨av, kv, rfl⟩ := hp.form
  have e1 : (w.alloc (.cells (cellsB x) 25)).heap.size = w.heap.size + 1 := by simp
  have e2 : ∀ o, ((w.alloc (.cells (cellsB x) 25)).alloc o).heap.size = w.heap.size + 1 + 1 := by simp
  have hb0 : Below w.heap.size w (((w.alloc (.cells (cellsB x) 25)).alloc (.cells #[.int .i64 idx] 3)).alloc (.cells (cellsB (List.replicate 32 0)) 25)) := (((Below.refl _ _).alloc (Nat.le_refl _) _).alloc (by omega) _).alloc (by rw [e2]; omega) _
  have hx0 : Row (((w.alloc (.cells (cellsB x) 25)).alloc (.cells #[.int .i64 idx] 3)).alloc (.cells (cellsB (List.replicate 32 0)) 25)) w.heap.size 25 (cellsB x) := ((Row.new w _ _).alloc _).alloc _
  have hi0 : Row (((w.alloc (.cells (cellsB x) 25)).alloc (.cells #[.int .i64 idx] 3)).alloc (.cells (cellsB (List.replicate 32 0)) 25)) (w.heap.size + 1) 3 #[.int .i64 idx] := by
    have h := (Row.new (w.alloc (.cells (cellsB x) 25)) #[.int .i64 idx] 3).alloc (.cells (cellsB (List.replicate 32 0)) 25)
    rwa [e1] at h
  have hD0 : Row (((w.alloc (.cells (cellsB x) 25)).alloc (.cells #[.int .i64 idx] 3)).alloc (.cells (cellsB (List.replicate 32 0)) 25)) (w.heap.size + 1 + 1) 25 (cellsB (List.replicate 32 0)) := by
    have h := Row.new ((w.alloc (.cells (cellsB x) 25)).alloc (.cells #[.int .i64 idx] 3)) (cellsB (List.replicate 32 0)) 25
    rwa [e2] at h
  have hz0 := e2 (.cells #[.int .i64 idx] 3)
  clear e1 e2
  go_enter Tryd.func25, Tryd.ntmps25
  generalize hR1 : Code.region 1 _ _ = R1
  go_wp2
  rw [← hR1]
  clear hR1
  obtain ⟨w0, ew0⟩ : ∃ w0, ((w.alloc (.cells (cellsB x) 25)).alloc (.cells #[.int .i64 idx] 3)).alloc (.cells (cellsB (List.replicate 32 0)) 25) = w0 := ⟨_, rfl⟩
  rw [ew0] at hb0 hx0 hi0 hD0
  change Code.wp _ _ _ _ (((w.alloc (.cells (cellsB x) 25)).alloc (.cells #[.int .i64 idx] 3)).alloc (.cells (cellsB (List.replicate 32 0)) 25))
  rw [ew0]
  clear ew0 hz0
  have hci := hi0.cell 0
  have fn : decide ((6 : Int) < (p.length : Int)) = true := decide_eq_true (by omega)
  obtain ⟨B, eB⟩ : ∃ B, w0.heap.size = B := ⟨_, rfl⟩
  refine wp_gen fun a0 ha0 => ?_
  have i2 : a0.eval (.tmp 2) = .slice av p.length kv := by rw [ha0]; rfl
  have i4 : a0.eval (.tmp 4) = .pointer (some ⟨w.heap.size + 1, 0, none⟩) := by rw [ha0]; rfl
  have hsz : a0.tmps.size = 38 := by rw [ha0]; rfl
  refine wp_region_inv_text (B := B) [some 11, some 12, some 13, some 14, some 15, some 16, some 17, some 18, some 19, some 20, some 21, some 22, some 23, some 24] [Asrt.eq (.slice av p.length kv), Asrt.eq (.int .i64 (p.length : Int)), Asrt.eq (.bool true), Asrt.eq (.bool true), Asrt.any, Asrt.any, Asrt.eq (.bool true), Asrt.eq (.bool true), Asrt.any, Asrt.any, Asrt.any, Asrt.any, Asrt.any, Asrt.eq (.bool true)] rfl (by rw [hsz]; as_aux_lemma => kernel_rfl) (by as_aux_lemma => kernel_rfl) (by omega) ⟨?_, ?_, ?_, ?_, ?_, ?_, ?_, ?_, ?_, ?_, ?_, ?_, ?_, ?_, trivial⟩ ?_
  · as_aux_lemma =>
      intro ev w1 hg hin hc hgl hfn hd
      have hB := hg.top
      have g2 : ev (.tmp 2) = .slice av p.length kv := (hin 2 (by kernel_rfl)).trans i2
      clear hin hd
      refine step_on (guard_none rfl) fun K hK => ?_
      unfold YieldsG
      go_simp
      exact hK _ _ rfl (Grow.refl hB)
  · as_aux_lemma =>
      intro ev w1 hg hin hc hgl hfn hd
      have hB := hg.top
      have f11 : (ev (.tmp 11)) = .slice av p.length kv := hd.1 rfl _ rfl
      clear hin hd
      refine step_on (guard_none rfl) fun K hK => ?_
      unfold YieldsG
      go_simp
      exact hK _ _ rfl (Grow.refl hB)
  · as_aux_lemma =>
      intro ev w1 hg hin hc hgl hfn hd
      have hB := hg.top
      have f12 : (ev (.tmp 12)) = .int .i64 (p.length : Int) := hd.1 rfl _ rfl
      clear hin hd
      refine step_on (guard_none rfl) fun K hK => ?_
      have _h := fn
      unfold YieldsG
      go_simp
      exact hK _ _ rfl (Grow.refl hB)
  · as_aux_lemma =>
      intro ev w1 hg hin hc hgl hfn hd
      have hB := hg.top
      have f13 : (ev (.tmp 13)) = .bool true := hd.1 rfl _ rfl
      clear hin hd
      refine step_on (guard_none rfl) fun K hK => ?_
      unfold YieldsG
      go_simp
      exact hK _ _ rfl (Grow.refl hB)
  · as_aux_lemma =>
      intro ev w1 hg hin hc hgl hfn hd
      have hB := hg.top
      have f14 : (ev (.tmp 14)) = .bool true := hd.1 rfl _ rfl
      have g4 : ev (.tmp 4) = .pointer (some ⟨w.heap.size + 1, 0, none⟩) := (hin 4 (by kernel_rfl)).trans i4
      clear hin hd
      exact step_off (guard_off rfl rfl f14 (by decide)) trivial
  · as_aux_lemma =>
      intro ev w1 hg hin hc hgl hfn hd
      have hB := hg.top
      have f14 : (ev (.tmp 14)) = .bool true := hd.2.1 rfl _ rfl
      clear hin hd
      exact step_off (guard_off rfl rfl f14 (by decide)) trivial
  · as_aux_lemma =>
      intro ev w1 hg hin hc hgl hfn hd
      have hB := hg.top
      have f14 : (ev (.tmp 14)) = .bool true := hd.1 rfl _ rfl
      clear hin hd
      refine step_on (guard_none rfl) fun K hK => ?_
      unfold YieldsG
      go_simp
      exact hK _ _ rfl (Grow.refl hB)
  · as_aux_lemma =>
      intro ev w1 hg hin hc hgl hfn hd
      have hB := hg.top
      have f17 : (ev (.tmp 17)) = .bool true := hd.1 rfl _ rfl
      clear hin hd
      refine step_on (guard_none rfl) fun K hK => ?_
      unfold YieldsG
      go_simp
      exact hK _ _ rfl (Grow.refl hB)
  · as_aux_lemma =>
      intro ev w1 hg hin hc hgl hfn hd
      have hB := hg.top
      have f18 : (ev (.tmp 18)) = .bool true := hd.1 rfl _ rfl
      have g4 : ev (.tmp 4) = .pointer (some ⟨w.heap.size + 1, 0, none⟩) := (hin 4 (by kernel_rfl)).trans i4
      clear hin hd
      exact step_off (guard_off rfl rfl f18 (by decide)) trivial
  · as_aux_lemma =>
      intro ev w1 hg hin hc hgl hfn hd
      have hB := hg.top
      have f18 : (ev (.tmp 18)) = .bool true := hd.1 rfl _ rfl
      have g2 : ev (.tmp 2) = .slice av p.length kv := (hin 2 (by kernel_rfl)).trans i2
      clear hin hd
      exact step_off (guard_off rfl rfl f18 (by decide)) trivial
  · as_aux_lemma =>
      intro ev w1 hg hin hc hgl hfn hd
      have hB := hg.top
      have f18 : (ev (.tmp 18)) = .bool true := hd.2.1 rfl _ rfl
      clear hin hd
      exact step_off (guard_off rfl rfl f18 (by decide)) trivial
  · as_aux_lemma =>
      intro ev w1 hg hin hc hgl hfn hd
      have hB := hg.top
      have f18 : (ev (.tmp 18)) = .bool true := hd.2.2.1 rfl _ rfl
      clear hin hd
      exact step_off (guard_off rfl rfl f18 (by decide)) trivial
  · as_aux_lemma =>
      intro ev w1 hg hin hc hgl hfn hd
      have hB := hg.top
      have f18 : (ev (.tmp 18)) = .bool true := hd.2.1 rfl _ rfl
      clear hin hd
      exact step_off (guard_off rfl rfl f18 (by decide)) trivial
  · as_aux_lemma =>
      intro ev w1 hg hin hc hgl hfn hd
      have hB := hg.top
      have f18 : (ev (.tmp 18)) = .bool true := hd.1 rfl _ rfl
      clear hin hd
      refine step_on (guard_none rfl) fun K hK => ?_
      unfold YieldsG
      go_simp
      exact hK _ _ rfl (Grow.refl hB)
  intro v w2 hg hall
  have hf13 : (v 13) = .bool true := hall.2.2.2.2.2.2.2.2.2.2.2.2.2.1 (by simp)
  clear hall i2 i4 hsz
  rw [ha0]
  clear ha0
  simp only [putAll, Act.put, List.setIfInBounds_toArray, List.set_cons_zero, List.set_cons_succ, Nat.zero_add, Nat.reduceAdd]
  simp only [hf13]
  clear hf13
  have HE : Hid (errC idx p.length = 1) := by show _ = _; unfold errC; rw [if_neg (by rw [hok]; decide)]
  have HP : Hid (climbR x idx p = zeroD) := by show _ = _; unfold climbR; rw [if_neg (by rw [hok]; decide)]
  have hD2 : Row w2 (w.heap.size + 1 + 1) 25 (cellsB (List.replicate 32 0)) := hg.kept _ _ hD0
  have hB2 := hb0.trans (hg.below.mono hb0.size)
  have HSZ := Lib.hid (Tryd.sizeD_of zeroD rfl)
  have HCS : Hid ((cellsB zeroD).size = (cellsB (List.replicate 32 0)).size) := rfl
  clear hg hx0 hi0 hD0 hci hp h32
  go_wp2_with (refine wpList_store_row rfl 25 (.tmp 6) (.tmp 25) rfl (w.heap.size + 1 + 1) rfl (cellsB zeroD) _ 25 rfl hD2 HCS.out HSZ.out (cellsB_one _) ?_; intro w9 hg9 hr9 hz9)
  refine bodyPost_ret (results_cell_row_tmp rfl _ _ (w.heap.size + 1 + 1) 25 (cellsB zeroD) (0, 0) _ rfl hr9 Tryd.underD rfl HSZ.out) rfl ⟨by rw [HP.out, HE.out]; rfl, ?_⟩
  exact hB2.grown hg9 hB2.size (fun k hk => by cases hk; omega)
set_option maxRecDepth 10000 in
set_option maxHeartbeats 4000000 in
theorem climb_neg (x : Dg) (idx : Int) (p : List Dg) (v : Value) (w : World) (hx : x.length = 32) (hp : Digs w v p) (h32 : all32 p) (hK : KFact w) (hok : okClimb idx p.length = false) (hn : ¬ 6 < p.length) (h0 : idx < 0) :
    Calls Tryd.prog 25 #[.agg (cellsB x), .int .i64 idx, v] w fun e w' => e = .returned (.tuple #[.agg (cellsB (climbR x idx p)), .int .i64 (errC idx p.length : Nat)]) ∧ Below w.heap.size w w' := by
  have hkl := hK.lt
  have HX := Lib.hid hx
  clear hx
  obtain ⟨av, kv, rfl⟩ := hp.form
  have e1 : (w.alloc (.cells (cellsB x) 25)).heap.size = w.heap.size + 1 := by simp
  have e2 : ∀ o, ((w.alloc (.cells (cellsB x) 25)).alloc o).heap.size = w.heap.size + 1 + 1 := by simp
  have hb0 : Below w.heap.size w (((w.alloc (.cells (cellsB x) 25)).alloc (.cells #[.int .i64 idx] 3)).alloc (.cells (cellsB (List.replicate 32 0)) 25)) := (((Below.refl _ _).alloc (Nat.le_refl _) _).alloc (by omega) _).alloc (by rw [e2]; omega) _
  have hx0 : Row (((w.alloc (.cells (cellsB x) 25)).alloc (.cells #[.int .i64 idx] 3)).alloc (.cells (cellsB (List.replicate 32 0)) 25)) w.heap.size 25 (cellsB x) := ((Row.new w _ _).alloc _).alloc _
  have hi0 : Row (((w.alloc (.cells (cellsB x) 25)).alloc (.cells #[.int .i64 idx] 3)).alloc (.cells (cellsB (List.replicate 32 0)) 25)) (w.heap.size + 1) 3 #[.int .i64 idx] := by
    have h := (Row.new (w.alloc (.cells (cellsB x) 25)) #[.int .i64 idx] 3).alloc (.cells (cellsB (List.replicate 32 0)) 25)
    rwa [e1] at h
  have hD0 : Row (((w.alloc (.cells (cellsB x) 25)).alloc (.cells #[.int .i64 idx] 3)).alloc (.cells (cellsB (List.replicate 32 0)) 25)) (w.heap.size + 1 + 1) 25 (cellsB (List.replicate 32 0)) := by
    have h := Row.new ((w.alloc (.cells (cellsB x) 25)).alloc (.cells #[.int .i64 idx] 3)) (cellsB (List.replicate 32 0)) 25
    rwa [e2] at h
  have hz0 := e2 (.cells #[.int .i64 idx] 3)
  clear e1 e2
  go_enter Tryd.func25, Tryd.ntmps25
  generalize hR1 : Code.region 1 _ _ = R1
  go_wp2
  rw [← hR1]
  clear hR1
  obtain ⟨w0, ew0⟩ : ∃ w0, ((w.alloc (.cells (cellsB x) 25)).alloc (.cells #[.int .i64 idx] 3)).alloc (.cells (cellsB (List.replicate 32 0)) 25) = w0 := ⟨_, rfl⟩
  rw [ew0] at hb0 hx0 hi0 hD0
  change Code.wp _ _ _ _ (((w.alloc (.cells (cellsB x) 25)).alloc (.cells #[.int .i64 idx] 3)).alloc (.cells (cellsB (List.replicate 32 0)) 25))
  rw [ew0]
  clear ew0 hz0
  have hci := hi0.cell 0
  have fn : decide ((6 : Int) < (p.length : Int)) = false := decide_eq_false (by omega)
  have f0 : decide (idx < 0) = true := decide_eq_true (by omega)
  obtain ⟨B, eB⟩ : ∃ B, w0.heap.size = B := ⟨_, rfl⟩
  refine wp_gen fun a0 ha0 => ?_
  have i2 : a0.eval (.tmp 2) = .slice av p.length kv := by rw [ha0]; rfl
  have i4 : a0.eval (.tmp 4) = .pointer (some ⟨w.heap.size + 1, 0, none⟩) := by rw [ha0]; rfl
  have hsz : a0.tmps.size = 38 := by rw [ha0]; rfl
  refine wp_region_inv_text (B := B) [some 11, some 12, some 13, some 14, some 15, some 16, some 17, some 18, some 19, some 20, some 21, some 22, some 23, some 24] [Asrt.eq (.slice av p.length kv), Asrt.eq (.int .i64 (p.length : Int)), Asrt.eq (.bool false), Asrt.eq (.bool false), Asrt.eq (.int .i64 idx), Asrt.eq (.bool true), Asrt.eq (.bool true), Asrt.eq (.bool true), Asrt.any, Asrt.any, Asrt.any, Asrt.any, Asrt.any, Asrt.eq (.bool true)] rfl (by rw [hsz]; as_aux_lemma => kernel_rfl) (by as_aux_lemma => kernel_rfl) (by omega) ⟨?_, ?_, ?_, ?_, ?_, ?_, ?_, ?_, ?_, ?_, ?_, ?_, ?_, ?_, trivial⟩ ?_
  · as_aux_lemma =>
      intro ev w1 hg hin hc hgl hfn hd
      have hB := hg.top
      have g2 : ev (.tmp 2) = .slice av p.length kv := (hin 2 (by kernel_rfl)).trans i2
      clear hin hd
      refine step_on (guard_none rfl) fun K hK => ?_
      unfold YieldsG
      go_simp
      exact hK _ _ rfl (Grow.refl hB)
  · as_aux_lemma =>
      intro ev w1 hg hin hc hgl hfn hd
      have hB := hg.top
      have f11 : (ev (.tmp 11)) = .slice av p.length kv := hd.1 rfl _ rfl
      clear hin hd
      refine step_on (guard_none rfl) fun K hK => ?_
      unfold YieldsG
      go_simp
      exact hK _ _ rfl (Grow.refl hB)
  · as_aux_lemma =>
      intro ev w1 hg hin hc hgl hfn hd
      have hB := hg.top
      have f12 : (ev (.tmp 12)) = .int .i64 (p.length : Int) := hd.1 rfl _ rfl
      clear hin hd
      refine step_on (guard_none rfl) fun K hK => ?_
      have _h := fn
      unfold YieldsG
      go_simp
      exact hK _ _ rfl (Grow.refl hB)
  · as_aux_lemma =>
      intro ev w1 hg hin hc hgl hfn hd
      have hB := hg.top
      have f13 : (ev (.tmp 13)) = .bool false := hd.1 rfl _ rfl
      clear hin hd
      refine step_on (guard_none rfl) fun K hK => ?_
      unfold YieldsG
      go_simp
      exact hK _ _ rfl (Grow.refl hB)
  · as_aux_lemma =>
      intro ev w1 hg hin hc hgl hfn hd
      have hB := hg.top
      have f14 : (ev (.tmp 14)) = .bool false := hd.1 rfl _ rfl
      have g4 : ev (.tmp 4) = .pointer (some ⟨w.heap.size + 1, 0, none⟩) := (hin 4 (by kernel_rfl)).trans i4
      clear hin hd
      refine step_on (guard_some rfl rfl f14) fun K hK => ?_
      have hc1 := hg.cell hci
      unfold YieldsG
      go_simp
      exact hK _ _ rfl (Grow.refl hB)
  · as_aux_lemma =>
      intro ev w1 hg hin hc hgl hfn hd
      have hB := hg.top
      have f15 : (ev (.tmp 15)) = .int .i64 idx := hd.1 rfl _ rfl
      have f14 : (ev (.tmp 14)) = .bool false := hd.2.1 rfl _ rfl
      clear hin hd
      refine step_on (guard_some rfl rfl f14) fun K hK => ?_
      have _h := f0
      unfold YieldsG
      go_simp
      exact hK _ _ rfl (Grow.refl hB)
  · as_aux_lemma =>
      intro ev w1 hg hin hc hgl hfn hd
      have hB := hg.top
      have f14 : (ev (.tmp 14)) = .bool false := hd.1 rfl _ rfl
      have f16 : (ev (.tmp 16)) = .bool true := hd.2.1 rfl _ rfl
      clear hin hd
      refine step_on (guard_none rfl) fun K hK => ?_
      unfold YieldsG
      go_simp
      exact hK _ _ rfl (Grow.refl hB)
  · as_aux_lemma =>
      intro ev w1 hg hin hc hgl hfn hd
      have hB := hg.top
      have f17 : (ev (.tmp 17)) = .bool true := hd.1 rfl _ rfl
      clear hin hd
      refine step_on (guard_none rfl) fun K hK => ?_
      unfold YieldsG
      go_simp
      exact hK _ _ rfl (Grow.refl hB)
  · as_aux_lemma =>
      intro ev w1 hg hin hc hgl hfn hd
      have hB := hg.top
      have f18 : (ev (.tmp 18)) = .bool true := hd.1 rfl _ rfl
      have g4 : ev (.tmp 4) = .pointer (some ⟨w.heap.size + 1, 0, none⟩) := (hin 4 (by kernel_rfl)).trans i4
      clear hin hd
      exact step_off (guard_off rfl rfl f18 (by decide)) trivial
  · as_aux_lemma =>
      intro ev w1 hg hin hc hgl hfn hd
      have hB := hg.top
      have f18 : (ev (.tmp 18)) = .bool true := hd.1 rfl _ rfl
      have g2 : ev (.tmp 2) = .slice av p.length kv := (hin 2 (by kernel_rfl)).trans i2
      clear hin hd
      exact step_off (guard_off rfl rfl f18 (by decide)) trivial
  · as_aux_lemma =>
      intro ev w1 hg hin hc hgl hfn hd
      have hB := hg.top
      have f18 : (ev (.tmp 18)) = .bool true := hd.2.1 rfl _ rfl
      clear hin hd
      exact step_off (guard_off rfl rfl f18 (by decide)) trivial
  · as_aux_lemma =>
      intro ev w1 hg hin hc hgl hfn hd
      have hB := hg.top
      have f18 : (ev (.tmp 18)) = .bool true := hd.2.2.1 rfl _ rfl
      clear hin hd
      exact step_off (guard_off rfl rfl f18 (by decide)) trivial
  · as_aux_lemma =>
      intro ev w1 hg hin hc hgl hfn hd
      have hB := hg.top
      have f18 : (ev (.tmp 18)) = .bool true := hd.2.1 rfl _ rfl
      clear hin hd
      exact step_off (guard_off rfl rfl f18 (by decide)) trivial
  · as_aux_lemma =>
      intro ev w1 hg hin hc hgl hfn hd
      have hB := hg.top
      have f18 : (ev (.tmp 18)) = .bool true := hd.1 rfl _ rfl
      clear hin hd
      refine step_on (guard_none rfl) fun K hK => ?_
      unfold YieldsG
      go_simp
      exact hK _ _ rfl (Grow.refl hB)
  intro v w2 hg hall
  have hf13 : (v 13) = .bool true := hall.2.2.2.2.2.2.2.2.2.2.2.2.2.1 (by simp)
  clear hall i2 i4 hsz
  rw [ha0]
  clear ha0
  simp only [putAll, Act.put, List.setIfInBounds_toArray, List.set_cons_zero, List.set_cons_succ, Nat.zero_add, Nat.reduceAdd]
  simp only [hf13]
  clear hf13
  have HE : Hid (errC idx p.length = 1) := by show _ = _; unfold errC; rw [if_neg (by rw [hok]; decide)]
  have HP : Hid (climbR x idx p = zeroD) := by show _ = _; unfold climbR; rw [if_neg (by rw [hok]; decide)]
  have hD2 : Row w2 (w.heap.size + 1 + 1) 25 (cellsB (List.replicate 32 0)) := hg.kept _ _ hD0
  have hB2 := hb0.trans (hg.below.mono hb0.size)
  have HSZ := Lib.hid (Tryd.sizeD_of zeroD rfl)
  have HCS : Hid ((cellsB zeroD).size = (cellsB (List.replicate 32 0)).size) := rfl
  clear hg hx0 hi0 hD0 hci hp h32
  go_wp2_with (refine wpList_store_row rfl 25 (.tmp 6) (.tmp 25) rfl (w.heap.size + 1 + 1) rfl (cellsB zeroD) _ 25 rfl hD2 HCS.out HSZ.out (cellsB_one _) ?_; intro w9 hg9 hr9 hz9)
  refine bodyPost_ret (results_cell_row_tmp rfl _ _ (w.heap.size + 1 + 1) 25 (cellsB zeroD) (0, 0) _ rfl hr9 Tryd.underD rfl HSZ.out) rfl ⟨by rw [HP.out, HE.out]; rfl, ?_⟩
  exact hB2.grown hg9 hB2.size (fun k hk => by cases hk; omega)
set_option maxRecDepth 10000 in
set_option maxHeartbeats 4000000 in
theorem climb_great (x : Dg) (idx : Int) (p : List Dg) (v : Value) (w : World) (hx : x.length = 32) (hp : Digs w v p) (h32 : all32 p) (hK : KFact w) (hok : okClimb idx p.length = false) (hn : ¬ 6 < p.length) (h0 : ¬ idx < 0) (q : Int) (hsh : ShrIs idx p.length q) (hq : ¬ q = 0) :
    Calls Tryd.prog 25 #[.agg (cellsB x), .int .i64 idx, v] w fun e w' => e = .returned (.tuple #[.agg (cellsB (climbR x idx p)), .int .i64 (errC idx p.length : Nat)]) ∧ Below w.heap.size w w' := by
  have hkl := hK.lt
  have HX := Lib.hid hx
  clear hx
  obtain ⟨av, kv, rfl⟩ := hp.form
  have e1 : (w.alloc (.cells (cellsB x) 25)).heap.size = w.heap.size + 1 := by simp
  have e2 : ∀ o, ((w.alloc (.cells (cellsB x) 25)).alloc o).heap.size = w.heap.size + 1 + 1 := by simp
  have hb0 : Below w.heap.size w (((w.alloc (.cells (cellsB x) 25)).alloc (.cells #[.int .i64 idx] 3)).alloc (.cells (cellsB (List.replicate 32 0)) 25)) := (((Below.refl _ _).alloc (Nat.le_refl _) _).alloc (by omega) _).alloc (by rw [e2]; omega) _
  have hx0 : Row (((w.alloc (.cells (cellsB x) 25)).alloc (.cells #[.int .i64 idx] 3)).alloc (.cells (cellsB (List.replicate 32 0)) 25)) w.heap.size 25 (cellsB x) := ((Row.new w _ _).alloc _).alloc _
  have hi0 : Row (((w.alloc (.cells (cellsB x) 25)).alloc (.cells #[.int .i64 idx] 3)).alloc (.cells (cellsB (List.replicate 32 0)) 25)) (w.heap.size + 1) 3 #[.int .i64 idx] := by
    have h := (Row.new (w.alloc (.cells (cellsB x) 25)) #[.int .i64 idx] 3).alloc (.cells (cellsB (List.replicate 32 0)) 25)
    rwa [e1] at h
  have hD0 : Row (((w.alloc (.cells (cellsB x) 25)).alloc (.cells #[.int .i64 idx] 3)).alloc (.cells (cellsB (List.replicate 32 0)) 25)) (w.heap.size + 1 + 1) 25 (cellsB (List.replicate 32 0)) := by
    have h := Row.new ((w.alloc (.cells (cellsB x) 25)).alloc (.cells #[.int .i64 idx] 3)) (cellsB (List.replicate 32 0)) 25
    rwa [e2] at h
  have hz0 := e2 (.cells #[.int .i64 idx] 3)
  clear e1 e2
  go_enter Tryd.func25, Tryd.ntmps25
  generalize hR1 : Code.region 1 _ _ = R1
  go_wp2
  rw [← hR1]
  clear hR1
  obtain ⟨w0, ew0⟩ : ∃ w0, ((w.alloc (.cells (cellsB x) 25)).alloc (.cells #[.int .i64 idx] 3)).alloc (.cells (cellsB (List.replicate 32 0)) 25) = w0 := ⟨_, rfl⟩
  rw [ew0] at hb0 hx0 hi0 hD0
  change Code.wp _ _ _ _ (((w.alloc (.cells (cellsB x) 25)).alloc (.cells #[.int .i64 idx] 3)).alloc (.cells (cellsB (List.replicate 32 0)) 25))
  rw [ew0]
  clear ew0 hz0
  have hn7 : p.length = 0 ∨ p.length = 1 ∨ p.length = 2 ∨ p.length = 3 ∨ p.length = 4 ∨ p.length = 5 ∨ p.length = 6 := by omega
  have hci := hi0.cell 0
  have fn : decide ((6 : Int) < (p.length : Int)) = false := decide_eq_false (by omega)
  have f0 : decide (idx < 0) = false := decide_eq_false (by omega)
  have fq : (q != 0) = true := by simpa using hq
  obtain ⟨B, eB⟩ : ∃ B, w0.heap.size = B := ⟨_, rfl⟩
  refine wp_gen fun a0 ha0 => ?_
  have i2 : a0.eval (.tmp 2) = .slice av p.length kv := by rw [ha0]; rfl
  have i4 : a0.eval (.tmp 4) = .pointer (some ⟨w.heap.size + 1, 0, none⟩) := by rw [ha0]; rfl
  have hsz : a0.tmps.size = 38 := by rw [ha0]; rfl
  refine wp_region_inv_text (B := B) [some 11, some 12, some 13, some 14, some 15, some 16, some 17, some 18, some 19, some 20, some 21, some 22, some 23, some 24] [Asrt.eq (.slice av p.length kv), Asrt.eq (.int .i64 (p.length : Int)), Asrt.eq (.bool false), Asrt.eq (.bool false), Asrt.eq (.int .i64 idx), Asrt.eq (.bool false), Asrt.eq (.bool false), Asrt.eq (.bool false), Asrt.eq (.int .i64 idx), Asrt.eq (.slice av p.length kv), Asrt.eq (.int .i64 (p.length : Int)), Asrt.eq (.int .i64 q), Asrt.eq (.bool true), Asrt.eq (.bool true)] rfl (by rw [hsz]; as_aux_lemma => kernel_rfl) (by as_aux_lemma => kernel_rfl) (by omega) ⟨?_, ?_, ?_, ?_, ?_, ?_, ?_, ?_, ?_, ?_, ?_, ?_, ?_, ?_, trivial⟩ ?_
  · as_aux_lemma =>
      intro ev w1 hg hin hc hgl hfn hd
      have hB := hg.top
      have g2 : ev (.tmp 2) = .slice av p.length kv := (hin 2 (by kernel_rfl)).trans i2
      clear hin hd
      refine step_on (guard_none rfl) fun K hK => ?_
      unfold YieldsG
      go_simp
      exact hK _ _ rfl (Grow.refl hB)
  · as_aux_lemma =>
      intro ev w1 hg hin hc hgl hfn hd
      have hB := hg.top
      have f11 : (ev (.tmp 11)) = .slice av p.length kv := hd.1 rfl _ rfl
      clear hin hd
      refine step_on (guard_none rfl) fun K hK => ?_
      unfold YieldsG
      go_simp
      exact hK _ _ rfl (Grow.refl hB)
  · as_aux_lemma =>
      intro ev w1 hg hin hc hgl hfn hd
      have hB := hg.top
      have f12 : (ev (.tmp 12)) = .int .i64 (p.length : Int) := hd.1 rfl _ rfl
      clear hin hd
      refine step_on (guard_none rfl) fun K hK => ?_
      have _h := fn
      unfold YieldsG
      go_simp
      exact hK _ _ rfl (Grow.refl hB)
  · as_aux_lemma =>
      intro ev w1 hg hin hc hgl hfn hd
      have hB := hg.top
      have f13 : (ev (.tmp 13)) = .bool false := hd.1 rfl _ rfl
      clear hin hd
      refine step_on (guard_none rfl) fun K hK => ?_
      unfold YieldsG
      go_simp
      exact hK _ _ rfl (Grow.refl hB)
  · as_aux_lemma =>
      intro ev w1 hg hin hc hgl hfn hd
      have hB := hg.top
      have f14 : (ev (.tmp 14)) = .bool false := hd.1 rfl _ rfl
      have g4 : ev (.tmp 4) = .pointer (some ⟨w.heap.size + 1, 0, none⟩) := (hin 4 (by kernel_rfl)).trans i4
      clear hin hd
      refine step_on (guard_some rfl rfl f14) fun K hK => ?_
      have hc1 := hg.cell hci
      unfold YieldsG
      go_simp
      exact hK _ _ rfl (Grow.refl hB)
  · as_aux_lemma =>
      intro ev w1 hg hin hc hgl hfn hd
      have hB := hg.top
      have f15 : (ev (.tmp 15)) = .int .i64 idx := hd.1 rfl _ rfl
      have f14 : (ev (.tmp 14)) = .bool false := hd.2.1 rfl _ rfl
      clear hin hd
      refine step_on (guard_some rfl rfl f14) fun K hK => ?_
      have _h := f0
      unfold YieldsG
      go_simp
      exact hK _ _ rfl (Grow.refl hB)
  · as_aux_lemma =>
      intro ev w1 hg hin hc hgl hfn hd
      have hB := hg.top
      have f14 : (ev (.tmp 14)) = .bool false := hd.1 rfl _ rfl
      have f16 : (ev (.tmp 16)) = .bool false := hd.2.1 rfl _ rfl
      clear hin hd
      refine step_on (guard_none rfl) fun K hK => ?_
      unfold YieldsG
      go_simp
      exact hK _ _ rfl (Grow.refl hB)
  · as_aux_lemma =>
      intro ev w1 hg hin hc hgl hfn hd
      have hB := hg.top
      have f17 : (ev (.tmp 17)) = .bool false := hd.1 rfl _ rfl
      clear hin hd
      refine step_on (guard_none rfl) fun K hK => ?_
      unfold YieldsG
      go_simp
      exact hK _ _ rfl (Grow.refl hB)
  · as_aux_lemma =>
      intro ev w1 hg hin hc hgl hfn hd
      have hB := hg.top
      have f18 : (ev (.tmp 18)) = .bool false := hd.1 rfl _ rfl
      have g4 : ev (.tmp 4) = .pointer (some ⟨w.heap.size + 1, 0, none⟩) := (hin 4 (by kernel_rfl)).trans i4
      clear hin hd
      refine step_on (guard_some rfl rfl f18) fun K hK => ?_
      have hc1 := hg.cell hci
      unfold YieldsG
      go_simp
      exact hK _ _ rfl (Grow.refl hB)
  · as_aux_lemma =>
      intro ev w1 hg hin hc hgl hfn hd
      have hB := hg.top
      have f18 : (ev (.tmp 18)) = .bool false := hd.1 rfl _ rfl
      have g2 : ev (.tmp 2) = .slice av p.length kv := (hin 2 (by kernel_rfl)).trans i2
      clear hin hd
      refine step_on (guard_some rfl rfl f18) fun K hK => ?_
      unfold YieldsG
      go_simp
      exact hK _ _ rfl (Grow.refl hB)
  · as_aux_lemma =>
      intro ev w1 hg hin hc hgl hfn hd
      have hB := hg.top
      have f20 : (ev (.tmp 20)) = .slice av p.length kv := hd.1 rfl _ rfl
      have f18 : (ev (.tmp 18)) = .bool false := hd.2.1 rfl _ rfl
      clear hin hd
      refine step_on (guard_some rfl rfl f18) fun K hK => ?_
      unfold YieldsG
      go_simp
      exact hK _ _ rfl (Grow.refl hB)
  · as_aux_lemma =>
      intro ev w1 hg hin hc hgl hfn hd
      have hB := hg.top
      have f19 : (ev (.tmp 19)) = .int .i64 idx := hd.1 rfl _ rfl
      have f21 : (ev (.tmp 21)) = .int .i64 (p.length : Int) := hd.2.1 rfl _ rfl
      have f18 : (ev (.tmp 18)) = .bool false := hd.2.2.1 rfl _ rfl
      clear hin hd
      refine step_on (guard_some rfl rfl f18) fun K hK => ?_
      rcases hn7 with h7 | h7 | h7 | h7 | h7 | h7 | h7
      · have hqq := hsh.q0 h7
        rw [h7] at f21
        unfold YieldsG
        go_simp
        exact hK _ _ rfl (Grow.refl hB)
      · have hqq := hsh.q1 h7
        rw [h7] at f21
        unfold YieldsG
        go_simp
        exact hK _ _ rfl (Grow.refl hB)
      · have hqq := hsh.q2 h7
        rw [h7] at f21
        unfold YieldsG
        go_simp
        exact hK _ _ rfl (Grow.refl hB)
      · have hqq := hsh.q3 h7
        rw [h7] at f21
        unfold YieldsG
        go_simp
        exact hK _ _ rfl (Grow.refl hB)
      · have hqq := hsh.q4 h7
        rw [h7] at f21
        unfold YieldsG
        go_simp
        exact hK _ _ rfl (Grow.refl hB)
      · have hqq := hsh.q5 h7
        rw [h7] at f21
        unfold YieldsG
        go_simp
        exact hK _ _ rfl (Grow.refl hB)
      · have hqq := hsh.q6 h7
        rw [h7] at f21
        unfold YieldsG
        go_simp
        exact hK _ _ rfl (Grow.refl hB)
  · as_aux_lemma =>
      intro ev w1 hg hin hc hgl hfn hd
      have hB := hg.top
      have f22 : (ev (.tmp 22)) = .int .i64 q := hd.1 rfl _ rfl
      have f18 : (ev (.tmp 18)) = .bool false := hd.2.1 rfl _ rfl
      clear hin hd
      refine step_on (guard_some rfl rfl f18) fun K hK => ?_
      have _h := fq
      unfold YieldsG
      go_simp
      exact hK _ _ rfl (Grow.refl hB)
  · as_aux_lemma =>
      intro ev w1 hg hin hc hgl hfn hd
      have hB := hg.top
      have f18 : (ev (.tmp 18)) = .bool false := hd.1 rfl _ rfl
      have f23 : (ev (.tmp 23)) = .bool true := hd.2.1 rfl _ rfl
      clear hin hd
      refine step_on (guard_none rfl) fun K hK => ?_
      unfold YieldsG
      go_simp
      exact hK _ _ rfl (Grow.refl hB)
  intro v w2 hg hall
  have hf13 : (v 13) = .bool true := hall.2.2.2.2.2.2.2.2.2.2.2.2.2.1 (by simp)
  clear hall i2 i4 hsz
  rw [ha0]
  clear ha0
  simp only [putAll, Act.put, List.setIfInBounds_toArray, List.set_cons_zero, List.set_cons_succ, Nat.zero_add, Nat.reduceAdd]
  simp only [hf13]
  clear hf13
  have HE : Hid (errC idx p.length = 1) := by show _ = _; unfold errC; rw [if_neg (by rw [hok]; decide)]
  have HP : Hid (climbR x idx p = zeroD) := by show _ = _; unfold climbR; rw [if_neg (by rw [hok]; decide)]
  have hD2 : Row w2 (w.heap.size + 1 + 1) 25 (cellsB (List.replicate 32 0)) := hg.kept _ _ hD0
  have hB2 := hb0.trans (hg.below.mono hb0.size)
  have HSZ := Lib.hid (Tryd.sizeD_of zeroD rfl)
  have HCS : Hid ((cellsB zeroD).size = (cellsB (List.replicate 32 0)).size) := rfl
  clear hg hx0 hi0 hD0 hci hp h32
  go_wp2_with (refine wpList_store_row rfl 25 (.tmp 6) (.tmp 25) rfl (w.heap.size + 1 + 1) rfl (cellsB zeroD) _ 25 rfl hD2 HCS.out HSZ.out (cellsB_one _) ?_; intro w9 hg9 hr9 hz9)
  refine bodyPost_ret (results_cell_row_tmp rfl _ _ (w.heap.size + 1 + 1) 25 (cellsB zeroD) (0, 0) _ rfl hr9 Tryd.underD rfl HSZ.out) rfl ⟨by rw [HP.out, HE.out]; rfl, ?_⟩
  exact hB2.grown hg9 hB2.size (fun k hk => by cases hk; omega)
set_option maxRecDepth 10000 in
set_option maxHeartbeats 4000000 in
theorem climb_good (x : Dg) (idx : Int) (p : List Dg) (v : Value) (w : World) (hx : x.length = 32) (hp : Digs w v p) (h32 : all32 p) (hK : KFact w) (hok : okClimb idx p.length = true) (hn : ¬ 6 < p.length) (h0 : ¬ idx < 0) (h1 : idx < 2 ^ p.length) (hsh : ShrIs idx p.length 0) :
    Calls Tryd.prog 25 #[.agg (cellsB x), .int .i64 idx, v] w fun e w' => e = .returned (.tuple #[.agg (cellsB (climbR x idx p)), .int .i64 (errC idx p.length : Nat)]) ∧ Below w.heap.size w w' := by
  have hkl := hK.lt
  have HX := Lib.hid hx
  clear hx
  obtain ⟨av, kv, rfl⟩ := hp.form
  have e1 : (w.alloc (.cells (cellsB x) 25)).heap.size = w.heap.size + 1 := by simp
  have e2 : ∀ o, ((w.alloc (.cells (cellsB x) 25)).alloc o).heap.size = w.heap.size + 1 + 1 := by simp
  have hb0 : Below w.heap.size w (((w.alloc (.cells (cellsB x) 25)).alloc (.cells #[.int .i64 idx] 3)).alloc (.cells (cellsB (List.replicate 32 0)) 25)) := (((Below.refl _ _).alloc (Nat.le_refl _) _).alloc (by omega) _).alloc (by rw [e2]; omega) _
  have hx0 : Row (((w.alloc (.cells (cellsB x) 25)).alloc (.cells #[.int .i64 idx] 3)).alloc (.cells (cellsB (List.replicate 32 0)) 25)) w.heap.size 25 (cellsB x) := ((Row.new w _ _).alloc _).alloc _
  have hi0 : Row (((w.alloc (.cells (cellsB x) 25)).alloc (.cells #[.int .i64 idx] 3)).alloc (.cells (cellsB (List.replicate 32 0)) 25)) (w.heap.size + 1) 3 #[.int .i64 idx] := by
    have h := (Row.new (w.alloc (.cells (cellsB x) 25)) #[.int .i64 idx] 3).alloc (.cells (cellsB (List.replicate 32 0)) 25)
    rwa [e1] at h
  have hD0 : Row (((w.alloc (.cells (cellsB x) 25)).alloc (.cells #[.int .i64 idx] 3)).alloc (.cells (cellsB (List.replicate 32 0)) 25)) (w.heap.size + 1 + 1) 25 (cellsB (List.replicate 32 0)) := by
    have h := Row.new ((w.alloc (.cells (cellsB x) 25)).alloc (.cells #[.int .i64 idx] 3)) (cellsB (List.replicate 32 0)) 25
    rwa [e2] at h
  have hz0 := e2 (.cells #[.int .i64 idx] 3)
  clear e1 e2
  go_enter Tryd.func25, Tryd.ntmps25
  generalize hR1 : Code.region 1 _ _ = R1
  go_wp2
  rw [← hR1]
  clear hR1
  obtain ⟨w0, ew0⟩ : ∃ w0, ((w.alloc (.cells (cellsB x) 25)).alloc (.cells #[.int .i64 idx] 3)).alloc (.cells (cellsB (List.replicate 32 0)) 25) = w0 := ⟨_, rfl⟩
  rw [ew0] at hb0 hx0 hi0 hD0
  change Code.wp _ _ _ _ (((w.alloc (.cells (cellsB x) 25)).alloc (.cells #[.int .i64 idx] 3)).alloc (.cells (cellsB (List.replicate 32 0)) 25))
  rw [ew0]
  clear ew0 hz0
  have hn7 : p.length = 0 ∨ p.length = 1 ∨ p.length = 2 ∨ p.length = 3 ∨ p.length = 4 ∨ p.length = 5 ∨ p.length = 6 := by omega
  have hci := hi0.cell 0
  have fn : decide ((6 : Int) < (p.length : Int)) = false := decide_eq_false (by omega)
  have f0 : decide (idx < 0) = false := decide_eq_false (by omega)
  obtain ⟨B, eB⟩ : ∃ B, w0.heap.size = B := ⟨_, rfl⟩
  refine wp_gen fun a0 ha0 => ?_
  have i2 : a0.eval (.tmp 2) = .slice av p.length kv := by rw [ha0]; rfl
  have i4 : a0.eval (.tmp 4) = .pointer (some ⟨w.heap.size + 1, 0, none⟩) := by rw [ha0]; rfl
  have hsz : a0.tmps.size = 38 := by rw [ha0]; rfl
  refine wp_region_inv_text (B := B) [some 11, some 12, some 13, some 14, some 15, some 16, some 17, some 18, some 19, some 20, some 21, some 22, some 23, some 24] [Asrt.eq (.slice av p.length kv), Asrt.eq (.int .i64 (p.length : Int)), Asrt.eq (.bool false), Asrt.eq (.bool false), Asrt.eq (.int .i64 idx), Asrt.eq (.bool false), Asrt.eq (.bool false), Asrt.eq (.bool false), Asrt.eq (.int .i64 idx), Asrt.eq (.slice av p.length kv), Asrt.eq (.int .i64 (p.length : Int)), Asrt.eq (.int .i64 0), Asrt.eq (.bool false), Asrt.eq (.bool false)] rfl (by rw [hsz]; as_aux_lemma => kernel_rfl) (by as_aux_lemma => kernel_rfl) (by omega) ⟨?_, ?_, ?_, ?_, ?_, ?_, ?_, ?_, ?_, ?_, ?_, ?_, ?_, ?_, trivial⟩ ?_
  · as_aux_lemma =>
      intro ev w1 hg hin hc hgl hfn hd
      have hB := hg.top
      have g2 : ev (.tmp 2) = .slice av p.length kv := (hin 2 (by kernel_rfl)).trans i2
      clear hin hd
      refine step_on (guard_none rfl) fun K hK => ?_
      unfold YieldsG
      go_simp
      exact hK _ _ rfl (Grow.refl hB)
  · as_aux_lemma =>
      intro ev w1 hg hin hc hgl hfn hd
      have hB := hg.top
      have f11 : (ev (.tmp 11)) = .slice av p.length kv := hd.1 rfl _ rfl
      clear hin hd
      refine step_on (guard_none rfl) fun K hK => ?_
      unfold YieldsG
      go_simp
      exact hK _ _ rfl (Grow.refl hB)
  · as_aux_lemma =>
      intro ev w1 hg hin hc hgl hfn hd
      have hB := hg.top
      have f12 : (ev (.tmp 12)) = .int .i64 (p.length : Int) := hd.1 rfl _ rfl
      clear hin hd
      refine step_on (guard_none rfl) fun K hK => ?_
      have _h := fn
      unfold YieldsG
      go_simp
      exact hK _ _ rfl (Grow.refl hB)
  · as_aux_lemma =>
      intro ev w1 hg hin hc hgl hfn hd
      have hB := hg.top
      have f13 : (ev (.tmp 13)) = .bool false := hd.1 rfl _ rfl
      clear hin hd
      refine step_on (guard_none rfl) fun K hK => ?_
      unfold YieldsG
      go_simp
      exact hK _ _ rfl (Grow.refl hB)
  · as_aux_lemma =>
      intro ev w1 hg hin hc hgl hfn hd
      have hB := hg.top
      have f14 : (ev (.tmp 14)) = .bool false := hd.1 rfl _ rfl
      have g4 : ev (.tmp 4) = .pointer (some ⟨w.heap.size + 1, 0, none⟩) := (hin 4 (by kernel_rfl)).trans i4
      clear hin hd
      refine step_on (guard_some rfl rfl f14) fun K hK => ?_
      have hc1 := hg.cell hci
      unfold YieldsG
      go_simp
      exact hK _ _ rfl (Grow.refl hB)
  · as_aux_lemma =>
      intro ev w1 hg hin hc hgl hfn hd
      have hB := hg.top
      have f15 : (ev (.tmp 15)) = .int .i64 idx := hd.1 rfl _ rfl
      have f14 : (ev (.tmp 14)) = .bool false := hd.2.1 rfl _ rfl
      clear hin hd
      refine step_on (guard_some rfl rfl f14) fun K hK => ?_
      have _h := f0
      unfold YieldsG
      go_simp
      exact hK _ _ rfl (Grow.refl hB)
  · as_aux_lemma =>
      intro ev w1 hg hin hc hgl hfn hd
      have hB := hg.top
      have f14 : (ev (.tmp 14)) = .bool false := hd.1 rfl _ rfl
      have f16 : (ev (.tmp 16)) = .bool false := hd.2.1 rfl _ rfl
      clear hin hd
      refine step_on (guard_none rfl) fun K hK => ?_
      unfold YieldsG
      go_simp
      exact hK _ _ rfl (Grow.refl hB)
  · as_aux_lemma =>
      intro ev w1 hg hin hc hgl hfn hd
      have hB := hg.top
      have f17 : (ev (.tmp 17)) = .bool false := hd.1 rfl _ rfl
      clear hin hd
      refine step_on (guard_none rfl) fun K hK => ?_
      unfold YieldsG
      go_simp
      exact hK _ _ rfl (Grow.refl hB)
  · as_aux_lemma =>
      intro ev w1 hg hin hc hgl hfn hd
      have hB := hg.top
      have f18 : (ev (.tmp 18)) = .bool false := hd.1 rfl _ rfl
      have g4 : ev (.tmp 4) = .pointer (some ⟨w.heap.size + 1, 0, none⟩) := (hin 4 (by kernel_rfl)).trans i4
      clear hin hd
      refine step_on (guard_some rfl rfl f18) fun K hK => ?_
      have hc1 := hg.cell hci
      unfold YieldsG
      go_simp
      exact hK _ _ rfl (Grow.refl hB)
  · as_aux_lemma =>
      intro ev w1 hg hin hc hgl hfn hd
      have hB := hg.top
      have f18 : (ev (.tmp 18)) = .bool false := hd.1 rfl _ rfl
      have g2 : ev (.tmp 2) = .slice av p.length kv := (hin 2 (by kernel_rfl)).trans i2
      clear hin hd
      refine step_on (guard_some rfl rfl f18) fun K hK => ?_
      unfold YieldsG
      go_simp
      exact hK _ _ rfl (Grow.refl hB)
  · as_aux_lemma =>
      intro ev w1 hg hin hc hgl hfn hd
      have hB := hg.top
      have f20 : (ev (.tmp 20)) = .slice av p.length kv := hd.1 rfl _ rfl
      have f18 : (ev (.tmp 18)) = .bool false := hd.2.1 rfl _ rfl
      clear hin hd
      refine step_on (guard_some rfl rfl f18) fun K hK => ?_
      unfold YieldsG
      go_simp
      exact hK _ _ rfl (Grow.refl hB)
  · as_aux_lemma =>
      intro ev w1 hg hin hc hgl hfn hd
      have hB := hg.top
      have f19 : (ev (.tmp 19)) = .int .i64 idx := hd.1 rfl _ rfl
      have f21 : (ev (.tmp 21)) = .int .i64 (p.length : Int) := hd.2.1 rfl _ rfl
      have f18 : (ev (.tmp 18)) = .bool false := hd.2.2.1 rfl _ rfl
      clear hin hd
      refine step_on (guard_some rfl rfl f18) fun K hK => ?_
      rcases hn7 with h7 | h7 | h7 | h7 | h7 | h7 | h7
      · have hqq := hsh.q0 h7
        rw [h7] at f21
        unfold YieldsG
        go_simp
        exact hK _ _ rfl (Grow.refl hB)
      · have hqq := hsh.q1 h7
        rw [h7] at f21
        unfold YieldsG
        go_simp
        exact hK _ _ rfl (Grow.refl hB)
      · have hqq := hsh.q2 h7
        rw [h7] at f21
        unfold YieldsG
        go_simp
        exact hK _ _ rfl (Grow.refl hB)
      · have hqq := hsh.q3 h7
        rw [h7] at f21
        unfold YieldsG
        go_simp
        exact hK _ _ rfl (Grow.refl hB)
      · have hqq := hsh.q4 h7
        rw [h7] at f21
        unfold YieldsG
        go_simp
        exact hK _ _ rfl (Grow.refl hB)
      · have hqq := hsh.q5 h7
        rw [h7] at f21
        unfold YieldsG
        go_simp
        exact hK _ _ rfl (Grow.refl hB)
      · have hqq := hsh.q6 h7
        rw [h7] at f21
        unfold YieldsG
        go_simp
        exact hK _ _ rfl (Grow.refl hB)
  · as_aux_lemma =>
      intro ev w1 hg hin hc hgl hfn hd
      have hB := hg.top
      have f22 : (ev (.tmp 22)) = .int .i64 0 := hd.1 rfl _ rfl
      have f18 : (ev (.tmp 18)) = .bool false := hd.2.1 rfl _ rfl
      clear hin hd
      refine step_on (guard_some rfl rfl f18) fun K hK => ?_
      unfold YieldsG
      go_simp
      exact hK _ _ rfl (Grow.refl hB)
  · as_aux_lemma =>
      intro ev w1 hg hin hc hgl hfn hd
      have hB := hg.top
      have f18 : (ev (.tmp 18)) = .bool false := hd.1 rfl _ rfl
      have f23 : (ev (.tmp 23)) = .bool false := hd.2.1 rfl _ rfl
      clear hin hd
      refine step_on (guard_none rfl) fun K hK => ?_
      unfold YieldsG
      go_simp
      exact hK _ _ rfl (Grow.refl hB)
  intro v w2 hg hall
  have hf13 : (v 13) = .bool false := hall.2.2.2.2.2.2.2.2.2.2.2.2.2.1 (by simp)
  clear hall i2 i4 hsz
  rw [ha0]
  clear ha0
  simp only [putAll, Act.put, List.setIfInBounds_toArray, List.set_cons_zero, List.set_cons_succ, Nat.zero_add, Nat.reduceAdd]
  simp only [hf13]
  clear hf13
  have HE : Hid (errC idx p.length = 0) := by show _ = _; unfold errC; rw [if_pos hok]
  have HP : Hid (climbR x idx p = climb x idx.toNat p) := by show _ = _; unfold climbR; rw [if_pos hok]
  have hi64 : idx < 64 := by
    rcases pow_cases (n := p.length) (by omega) with ⟨_, h⟩ | ⟨_, h⟩ | ⟨_, h⟩ | ⟨_, h⟩ | ⟨_, h⟩ | ⟨_, h⟩ | ⟨_, h⟩ <;> (rw [h] at h1; omega)
  obtain ⟨n, en⟩ : ∃ n, idx.toNat = n := ⟨_, rfl⟩
  obtain rfl : idx = (n : Int) := by omega
  rw [en] at HP
  have hn64 : n < 64 := by omega
  have hD2 : Row w2 (w.heap.size + 1 + 1) 25 (cellsB (List.replicate 32 0)) := hg.kept _ _ hD0
  have hx2 : Row w2 w.heap.size 25 (cellsB x) := hg.kept _ _ hx0
  have hi2 : Row w2 (w.heap.size + 1) 3 #[.int .i64 (n : Int)] := hg.kept _ _ hi0
  have hB2 := hb0.trans (hg.below.mono hb0.size)
  have hp2 := hp.later hB2
  have hp0 := Lib.hid hp
  have hK2 := hK.below hB2 hkl
  have hGk : 1 < w.heap.size := hkl
  clear hg hx0 hi0 hD0 hci hp en h0 h1 hsh hok hi64 hn7 hb0
  obtain ⟨m, em⟩ : ∃ m, p.length = m := ⟨_, rfl⟩
  have HM := Lib.hid em
  rw [em] at hp2 hn
  have HE2 : Hid (errC (n : Int) p.length = 0) := HE
  rw [em]
  clear em
  have hzz := hD2.lt
  go_wp2
  go_loopw [29] (fun t wr => ∃ j : Nat, j ≤ m ∧ t = .int .i64 (j : Int) ∧ Row wr w.heap.size 25 (cellsB (climb x n (p.take j))) ∧ Row wr (w.heap.size + 1) 3 #[.int .i64 ((n / 2 ^ j : Nat) : Int)] ∧ Row wr (w.heap.size + 1 + 1) 25 (cellsB (List.replicate 32 0)) ∧ Below w.heap.size w wr ∧ KFact wr) (fun t _ => m - (intOf t).toNat)
  case atStart => exact ⟨0, by omega, rfl, hx2, by simpa using hi2, hD2, hB2, hK2⟩
  case round =>
    clear hx2 hi2 hD2 hB2 hK2 hp2 hzz
    obtain ⟨j, hj, rfl, hxr, hir, hDr, hbr, hKr⟩ := hrel
    by_cases hlt : j < m
    · obtain ⟨pb, po, rfl, hk1, hk2, hat⟩ : ∃ pb po, av = some ⟨pb, po, none⟩ ∧ m ≤ kv ∧ kv ≤ 9223372036854775807 ∧ BytesAt wr pb po p.flatten := by
        obtain ⟨pb, po, h1, _, h2, h3, h4⟩ := (hp0.out.later hbr).at (by rw [HM.out]; omega)
        exact ⟨pb, po, h1, by rw [← HM.out]; exact h2, h3, h4⟩
      have hjl : j < p.length := by rw [HM.out]; exact hlt
      have hce := hat.elem h32 j hjl
      have hyl := all32_getD h32 j hjl
      have HCS : Hid (climb x n (p.take (j + 1)) = climbStep (climb x n (p.take j)) (n / 2 ^ j) (p.getD j [])) := by
        show _ = _
        have ht : p.take (j + 1) = p.take j ++ [p.getD j []] := by
          rw [List.take_add_one, List.getElem?_eq_getElem hjl, List.getD_eq_getElem?_getD, List.getElem?_eq_getElem hjl]; rfl
        rw [ht, climb_snoc, List.length_take, Nat.min_eq_left (by omega)]
      have hcl := climb_len (p.take j) x n HX.out
      have hdiv : Hid (n / 2 ^ j / 2 = n / 2 ^ (j + 1)) := by show _ = _; rw [Nat.div_div_eq_div_mul, Nat.pow_succ]
      have hd64 : n / 2 ^ j < 64 := Nat.lt_of_le_of_lt (Nat.div_le_self _ _) hn64
      clear hat
      generalize p.getD j [] = y at *
      generalize climb x n (p.take j) = c at *
      generalize n / 2 ^ j = i at *
      have HYL := Lib.hid hyl
      have HCL := Lib.hid hcl
      have HSY := Lib.hid (Tryd.sizeD_of y hyl)
      have HCY : Hid ((cellsB y).size = (cellsB (List.replicate 32 0)).size) := Lib.hid (by rw [cellsB_size, hyl]; rfl)
      clear hyl hcl
      have hj1 : (j : Int) < m := by omega
      go_wp2_with (first | (refine wpList_load_dig rfl (.tmp 31) rfl pb (po + j * 32) rfl y HYL.out hce ?_) | (refine wpList_store_row rfl 25 (.tmp 10) (.tmp 32) rfl wr.heap.size rfl (cellsB y) (cellsB (List.replicate 32 0)) 25 rfl (Row.new wr _ _) HCY.out HSY.out (cellsB_one _) ?_; intro w3 hg3 hr3 hz3; clear hz3; have hb3 : Below wr.heap.size wr w3 := ((Below.refl _ _).alloc (Nat.le_refl _) _).grown hg3 (by simp) (fun k hk => by cases hk; exact Nat.le_refl _); clear hg3) | (refine wpList_load_row rfl 25 (.tmp 10) rfl wr.heap.size rfl 25 (cellsB y) (0, 0) _ hr3 Tryd.underD rfl HSY.out ?_))
      have hx3 := hxr.below hb3 hxr.lt
      have hi3 := hir.below hb3 hir.lt
      have hD3 := hDr.below hb3 hDr.lt
      have hB3 := hbr.trans (hb3.mono hbr.size)
      have hK3 := hKr.below hb3 hKr.lt
      clear hxr hir hDr hbr hKr hb3 hce
      refine (climb1_any c y i (w.heap.size + 1) w.heap.size w3 hd64 HCL.out HYL.out hi3 hx3 (by omega) hK3 (by omega) (by omega)).mono ?_
      rintro e w4 ⟨rfl, hi4, hx4, hb4, hfr, hK4⟩
      have hD4 := hfr _ _ _ (by omega) (by omega) hD3
      have hB4 := hB3.trans (hb4 w.heap.size (by omega) (Nat.le_refl _) hB3.size)
      rw [← HCS.out] at hx4
      rw [hdiv.out] at hi4
      go_wp2
      go_roundw
      case rel => exact ⟨j + 1, by omega, by go_num, hx4, hi4, hD4, hB4, hK4⟩
      case measure => simp [intOf]; omega
    · obtain rfl : j = m := by omega
      rw [List.take_of_length_le (by rw [HM.out]; exact Nat.le_refl _)] at hxr
      have hcl := climb_len p x n HX.out
      have HSZ := Lib.hid (Tryd.sizeD_of _ hcl)
      have HCS : Hid ((cellsB (climb x n p)).size = (cellsB (List.replicate 32 0)).size) := Lib.hid (by rw [cellsB_size, hcl]; rfl)
      clear hcl
      generalize climb x n p = c at *
      go_wp2_with (first | (refine wpList_load_row rfl 25 (.tmp 3) rfl w.heap.size rfl 25 (cellsB c) (0, 0) _ hxr Tryd.underD rfl HSZ.out ?_) | (refine wpList_store_row rfl 25 (.tmp 6) (.tmp 37) rfl (w.heap.size + 1 + 1) rfl (cellsB c) _ 25 rfl hDr HCS.out HSZ.out (cellsB_one _) ?_; intro w9 hg9 hr9 hz9))
      refine bodyPost_ret (results_cell_row_tmp rfl _ _ (w.heap.size + 1 + 1) 25 (cellsB c) (0, 0) _ rfl hr9 Tryd.underD rfl HSZ.out) rfl ⟨by rw [HP.out, HE2.out]; rfl, ?_⟩
      exact hbr.grown hg9 hbr.size (fun k hk => by cases hk; omega)
theorem climb_any (x : Dg) (idx : Int) (p : List Dg) (v : Value) (w : World) (hx : x.length = 32) (hp : Digs w v p) (h32 : all32 p) (hK : KFact w) :
    Calls Tryd.prog 25 #[.agg (cellsB x), .int .i64 idx, v] w fun e w' => e = .returned (.tuple #[.agg (cellsB (climbR x idx p)), .int .i64 (errC idx p.length : Nat)]) ∧ Below w.heap.size w w' := by
  cases hok : okClimb idx p.length with
  | true =>
    obtain ⟨h1, h2, h3⟩ := (okClimb_iff idx p.length).1 hok
    exact climb_good x idx p v w hx hp h32 hK hok (by omega) (by omega) h3 (shr_ok h1 h2 h3)
  | false =>
    by_cases h1 : 6 < p.length
    · exact climb_long x idx p v w hx hp h32 hK hok h1
    · by_cases h2 : idx < 0
      · exact climb_neg x idx p v w hx hp h32 hK hok h1 h2
      · have h3 : ¬ idx < 2 ^ p.length := fun h => by
          rw [(okClimb_iff idx p.length).2 ⟨by omega, by omega, h⟩] at hok; cases hok
        obtain ⟨q, hq1, hq2⟩ := shr_bad (n := p.length) (by omega) h3
        exact climb_great x idx p v w hx hp h32 hK hok h1 h2 q hq1 hq2
end Go.Proofs.YteogcilnpkaplaaDoor

namespace Go.Proofs.YteogcilnpkaplaaDoor
open Go.RowKit
theorem Tryd.under4 : Tryd.prog.underlying 51 = some (.array 4 25) := by kernel_rfl
theorem Tryd.size4 : (Tryd.prog.info? 51).map (·.size) = some 128 := by kernel_rfl
theorem Tryd.size4_of (l : List UInt8) (h : l.length = 128) : (Tryd.prog.info? 51).map (·.size) = some (cellsB l).size := by rw [cellsB_size, h]; exact Tryd.size4
def msgTag : List UInt8 := [109, 115, 103]
def msgOf (msg : List UInt8) : Dg := taggedOf msgTag msg
theorem msgOf_len (msg : List UInt8) : (msgOf msg).length = 32 := taggedOf_len _ _
set_option maxHeartbeats 1000000 in
theorem digest_any (msg : List UInt8) (v : Value) (w : World) (hv : Bytes w v msg (fun _ => True)) (hl : msg.length ≤ 1000000) (hK : KFact w) :
    Calls Tryd.prog 35 #[v] w fun e w' => e = .returned (.agg (cellsB (msgOf msg))) ∧ Below w.heap.size w w' := by
  have hkl := hK.lt
  have hb0 : Below w.heap.size w (w.alloc (.cells (cellsB (List.replicate 32 0)) 25)) := (Below.refl _ _).alloc (Nat.le_refl _) _
  have hD0 : Row (w.alloc (.cells (cellsB (List.replicate 32 0)) 25)) w.heap.size 25 (cellsB (List.replicate 32 0)) := Row.new w _ _
  have hv0 := (hv.later hb0).imp (ok' := fun _ => True) fun _ _ => trivial
  have HM : Hid (taggedOf (ByteArray.mk #[109, 115, 103]).data.toList msg = msgOf msg) := rfl
  go_enter Tryd.func35, Tryd.ntmps35
  go_wp2_with fail
  refine (tagged_any _ _ msg _ _ (by decide) hv0 (hK.below hb0 hkl) (by omega)).mono ?_
  rintro e w2 ⟨rfl, hb2⟩
  rw [HM.out]
  have hD2 := hD0.below hb2 hD0.lt
  have hB2 := hb0.trans (hb2.mono hb0.size)
  have hml := msgOf_len msg
  have HSZ := Lib.hid (Tryd.sizeD_of _ hml)
  have HCS : Hid ((cellsB (msgOf msg)).size = (cellsB (List.replicate 32 0)).size) := Lib.hid (by rw [cellsB_size, hml]; rfl)
  clear hml hD0 hb0 hb2 hv0
  go_wp2_with (refine wpList_store_row rfl 25 (.tmp 2) (.tmp 4) rfl w.heap.size rfl (cellsB (msgOf msg)) _ 25 rfl hD2 HCS.out HSZ.out (cellsB_one _) ?_; intro w9 hg9 hr9 hz9)
  refine bodyPost_ret (v := .agg (cellsB (msgOf msg))) (results_cell_row rfl _ _ w.heap.size 25 _ (0, 0) _ rfl hr9 Tryd.underD rfl HSZ.out) rfl ⟨rfl, ?_⟩
  exact hB2.grown hg9 hB2.size (fun k hk => by cases hk; exact Nat.le_refl _)
/-! ### leaves -/
def okLen (seed : List UInt8) : Bool := okSeed seed 0
theorem okSeed_small {seed : List UInt8} {i : Nat} (hi : i < 4) : okSeed seed (i : Int) = okLen seed := by
  unfold okLen okSeed
  rw [decide_eq_true (show (0 : Int) ≤ i by omega), decide_eq_true (show (i : Int) ≤ 1023 by omega), decide_eq_true (show (0 : Int) ≤ 0 by omega), decide_eq_true (show (0 : Int) ≤ 1023 by omega)]
def leavesOf (seed : List UInt8) : List Dg := (List.range 4).map fun i => pubOf seed i
theorem leavesOf_len (seed : List UInt8) : (leavesOf seed).length = 4 := by simp [leavesOf]
theorem leavesOf_32 (seed : List UInt8) : all32 (leavesOf seed) := all32_range fun _ _ => keyOf_len _
theorem leavesOf_get (seed : List UInt8) (i : Nat) (hi : i < 4) : (leavesOf seed).getD i [] = pubOf seed i := by
  unfold leavesOf
  rw [List.getD_eq_getElem?_getD, List.getElem?_map, List.getElem?_range hi]; rfl
def errL (seed : List UInt8) : Nat := if okLen seed = true then 0 else 1
def leavesR (seed : List UInt8) : List UInt8 := if okLen seed = true then (leavesOf seed).flatten else List.replicate 128 0
def lRow (seed : List UInt8) (i : Nat) : List UInt8 := ((List.range i).map fun i => pubOf seed i).flatten ++ List.replicate ((4 - i) * 32) 0
theorem lRow_flat (seed : List UInt8) (i : Nat) : ((List.range i).map fun i => pubOf seed i).flatten.length = i * 32 := by
  rw [flat_len _ (all32_range (f := fun i => pubOf seed i) fun j _ => keyOf_len _), List.length_map, List.length_range, Nat.mul_comm]
theorem lRow_len (seed : List UInt8) (i : Nat) (hi : i ≤ 4) : (lRow seed i).length = 128 := by
  unfold lRow
  rw [List.length_append, lRow_flat, List.length_replicate]; omega
theorem lRow_splice (seed : List UInt8) (i : Nat) (hi : i < 4) : splice (lRow seed i) (i * 32) (pubOf seed i) = lRow seed (i + 1) := by
  have hf := lRow_flat seed i
  have hp : (pubOf seed i).length = 32 := keyOf_len _
  unfold splice lRow
  rw [← hf, List.take_left, hp, List.range_succ, List.map_append, List.flatten_append, List.drop_append, List.drop_eq_nil_of_le (by omega), List.nil_append, Nat.add_sub_cancel_left, List.drop_replicate]
  rw [show (4 - i) * 32 - 32 = (4 - (i + 1)) * 32 by omega]
  simp
theorem lRow_all (seed : List UInt8) : lRow seed 4 = (leavesOf seed).flatten := by unfold lRow leavesOf; simp
theorem leavesR_len (seed : List UInt8) : (leavesR seed).length = 128 := by
  unfold leavesR; split
  · rw [flat_len _ (leavesOf_32 seed), leavesOf_len]
  · exact List.length_replicate
set_option maxRecDepth 10000 in
set_option maxHeartbeats 2000000 in
theorem leaves_any (seed : List UInt8) (v : Value) (w : World) (hv : Bytes w v seed (fun _ => True)) (hK : KFact w) :
    Calls Tryd.prog 30 #[v] w fun e w' => e = .returned (.tuple #[.agg (cellsB (leavesR seed)), .int .i64 (errL seed : Nat)]) ∧ Below w.heap.size w w' := by
  have hkl := hK.lt
  obtain ⟨av, kv, rfl⟩ : ∃ a c, v = .slice a seed.length c := by obtain ⟨a, c, h, _⟩ := hv; exact ⟨a, c, h⟩
  have hb0 : Below w.heap.size w (w.alloc (.cells (cellsB (lRow seed 0)) 51)) := (Below.refl _ _).alloc (Nat.le_refl _) _
  have hD0 : Row (w.alloc (.cells (cellsB (lRow seed 0)) 51)) w.heap.size 51 (cellsB (lRow seed 0)) := Row.new w _ _
  cases hok : okLen seed with
  | false =>
    have HE : Hid (errL seed = 1) := by show _ = _; unfold errL; rw [if_neg (by rw [hok]; decide)]
    have HP : Hid (leavesR seed = List.replicate 128 0) := by show _ = _; unfold leavesR; rw [if_neg (by rw [hok]; decide)]
    have HER : Hid (errR seed 0 = 1) := errR_bad hok
    have hpl := pubR_len seed 0
    clear hok
    go_enter Tryd.func30, Tryd.ntmps30
    go_wp2
    go_loopw [5] (fun t wr => t = .int .i64 0 ∧ Below w.heap.size w wr ∧ Row wr w.heap.size 51 (cellsB (lRow seed 0))) (fun t _ => 4 - (intOf t).toNat)
    case atStart => exact ⟨rfl, hb0, hD0⟩
    case round =>
      clear hb0 hD0
      obtain ⟨rfl, hb, hD⟩ := hrel
      have hvr := (hv.later hb).imp (ok' := fun _ => True) fun _ _ => trivial
      go_wp2_with fail
      refine (public_any seed _ 0 wr hvr (hK.below hb hkl)).mono ?_
      rintro e w2 ⟨rfl, hb2⟩
      rw [HER.out]
      have hB2 := hb.trans (hb2.mono hb.size)
      have hD2 := hD.below hb2 hD.lt
      generalize pubR seed 0 = x at *
      have HX := Lib.hid hpl
      have hll := lRow_len seed 0 (by decide)
      generalize lRow seed 0 = l0 at *
      have HLL := Lib.hid hll
      have hz : (cellsB (List.replicate 128 0)).size = 128 := by rw [cellsB_size]; rfl
      have HZ : Hid ((cellsB (List.replicate 128 0)).size = (cellsB (splice l0 (0 * 32) x)).size) := Lib.hid (by rw [hz, cellsB_size, splice_len _ _ _ (by omega), hll])
      have HSZ := Lib.hid (Tryd.size4_of (List.replicate 128 0) List.length_replicate)
      clear hb hD hb2 hvr hpl hll hz
      go_wp2_with (first | (refine wpList_store_dig rfl (.tmp 15) (.tmp 13) rfl w.heap.size (0 * 32) (by first | rfl | simp [Act.eval]) x HX.out rfl l0 51 hD2 (by rw [HLL.out]; decide) ?_; intro w6 hg6 hr6 hz6; clear hz6) | (refine wpList_store_row rfl 51 (.tmp 2) (.tmp 18) rfl w.heap.size rfl (cellsB (List.replicate 128 0)) _ 51 rfl hr6 HZ.out HSZ.out (cellsB_one _) ?_; intro w9 hg9 hr9 hz9))
      refine bodyPost_ret (results_cell_row_tmp rfl _ _ w.heap.size 51 (cellsB (List.replicate 128 0)) (0, 0) _ rfl hr9 Tryd.under4 rfl HSZ.out) rfl ⟨by rw [HP.out, HE.out]; rfl, ?_⟩
      have hB6 := hB2.grown hg6 hB2.size (fun k hk => by cases hk; exact Nat.le_refl _)
      exact hB6.grown hg9 hB6.size (fun k hk => by cases hk; exact Nat.le_refl _)
  | true =>
    have HE : Hid (errL seed = 0) := by show _ = _; unfold errL; rw [if_pos hok]
    have HP : Hid (leavesR seed = lRow seed 4) := by show _ = _; unfold leavesR; rw [if_pos hok, lRow_all]
    have HER : Hid (∀ i : Nat, i < 4 → errR seed (i : Int) = 0 ∧ pubR seed (i : Int) = pubOf seed i) := fun i hi => by
      have h : okSeed seed (i : Int) = true := by rw [okSeed_small hi]; exact hok
      exact ⟨errR_ok h, by unfold pubR; rw [if_pos h]; rfl⟩
    clear hok
    go_enter Tryd.func30, Tryd.ntmps30
    go_wp2
    go_loopw [5, 3] (fun t c wr => ∃ i : Nat, i ≤ 4 ∧ t = .int .i64 (i : Int) ∧ c = .int .i64 0 ∧ Below w.heap.size w wr ∧ Row wr w.heap.size 51 (cellsB (lRow seed i))) (fun t _ _ => 4 - (intOf t).toNat)
    case atStart => exact ⟨0, by omega, rfl, rfl, hb0, hD0⟩
    case round =>
      clear hb0 hD0
      obtain ⟨i, hi, rfl, rfl, hb, hD⟩ := hrel
      by_cases hlt : i < 4
      · have hvr := (hv.later hb).imp (ok' := fun _ => True) fun _ _ => trivial
        go_wp2_with fail
        refine (public_any seed _ (i : Int) wr hvr (hK.below hb hkl)).mono ?_
        rintro e w2 ⟨rfl, hb2⟩
        rw [(HER.out i hlt).1, (HER.out i hlt).2]
        have hB2 := hb.trans (hb2.mono hb.size)
        have hD2 := hD.below hb2 hD.lt
        have HX : Hid ((pubOf seed i).length = 32) := keyOf_len _
        have HS := Lib.hid (lRow_splice seed i hlt)
        have HLL := Lib.hid (lRow_len seed i hi)
        generalize pubOf seed i = x at *
        clear hb hD hb2 hvr
        go_wp2_with (refine wpList_store_dig rfl (.tmp 15) (.tmp 13) rfl w.heap.size (i * 32) (by first | rfl | simp [Act.eval]) x HX.out rfl (lRow seed i) 51 hD2 (by rw [HLL.out]; omega) ?_; intro w6 hg6 hr6 hz6; clear hz6)
        rw [HS.out] at hr6
        go_roundw
        case rel => exact ⟨i + 1, by omega, by go_num, rfl, hB2.grown hg6 hB2.size (fun k hk => by cases hk; exact Nat.le_refl _), hr6⟩
        case measure => simp [intOf]; omega
      · obtain rfl : i = 4 := by omega
        have hll := lRow_len seed 4 (by decide)
        generalize lRow seed 4 = l4 at *
        have HSZ := Lib.hid (Tryd.size4_of l4 hll)
        have HZ : Hid ((cellsB l4).size = (cellsB l4).size) := rfl
        clear hll
        go_wp2_with (first | (refine wpList_load_row rfl 51 (.tmp 2) rfl w.heap.size rfl 51 (cellsB l4) (0, 0) _ hD Tryd.under4 rfl HSZ.out ?_) | (refine wpList_store_row rfl 51 (.tmp 2) (.tmp 21) rfl w.heap.size rfl (cellsB l4) _ 51 rfl hD HZ.out HSZ.out (cellsB_one _) ?_; intro w9 hg9 hr9 hz9))
        refine bodyPost_ret (results_cell_row_tmp rfl _ _ w.heap.size 51 (cellsB l4) (0, 0) _ rfl hr9 Tryd.under4 rfl HSZ.out) rfl ⟨by rw [HP.out, HE.out]; rfl, ?_⟩
        exact hb.grown hg9 hb.size (fun k hk => by cases hk; exact Nat.le_refl _)
end Go.Proofs.YteogcilnpkaplaaDoor

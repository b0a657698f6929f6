/- Merged: the value that climbing from a leaf reaches is the root of the tree. No conditions of its own beyond those that each law states. -/
import Derived.Test.YteogcilnpkaplaaDoorM10
namespace Go.Proofs.YteogcilnpkaplaaDoor
open Go.RowKit
theorem wpList_load_on {P : Program} {ops : Array Oper} {rest : List Oper} {o : Oper} {a : Act} {w : World} {Q : Exit → Act → World → Prop} (ty : TypeId) (x : Operand) (ho : o.op = .load ty x) (hw : Region.wanted o (yielded ops a.tmps) = true) (g : Nat) (hx : a.eval x = .pointer (some ⟨g, 0, none⟩))
    (t : TypeId) (cs : Array Value) (fr : Nat × Nat) (d : TypeDesc) (hg : w.heap[g]? = some (.cells cs t fr)) (hu : P.underlying ty = some d) (hd : (match d with | .struct _ | .array _ _ => true | _ => false) = true) (hi : (P.info? ty).map (·.size) = some cs.size)
    (h : wpList P ops Q rest (a.put o.dst (.agg cs)) w) : wpList P ops Q (o :: rest) a w := by
  refine wpList_step fun K hK => ?_
  rw [if_pos hw]
  unfold Oper.wp execOp
  simp only [ho, hx, Instr.loadAt, Instr.sureAddr, Sem.run_bind, Sem.run_pure, Result.andThen_ok, run_loadVar_row w g t ty cs fr d hg hu hd hi]
  exact hK _ _ h
theorem wpList_index0 {w : World} {ops : Array Oper} {rest : List Oper} {o : Oper} {a : Act} {Q : Exit → Act → World → Prop} (hgd : o.guard = none) (x : Operand) (ho : o.op = .indexAddr 29 x (.const (.int .i64 0)))
    (b off n c : Nat) (hx : a.eval x = .slice (some ⟨b, off, none⟩) n c) (hn : 0 < n) (h : wpList Tryd.prog ops Q rest (a.put o.dst (.pointer (some ⟨b, off, none⟩))) w) : wpList Tryd.prog ops Q (o :: rest) a w := by
  refine wpList_value hgd _ ?_ h
  have h1 : (0 : Int) < (n : Int) := by omega
  have h2 : ¬ (n : Int) = 0 := by omega
  have h3 : ¬ n = 0 := by omega
  unfold execOp
  simp only [ho, hx, show a.eval (.const (.int .i64 0)) = .int .i64 0 from rfl]
  go_simp
theorem neqB (x y : List UInt8) (hx : x.length = 32) (hy : y.length = 32) (w : World) : (binOp .neq 25 (.agg (cellsB x)) (.agg (cellsB y))).run Tryd.prog w = .ok (.bool (!decide (x = y))) w := neq_digest x y hx hy w
def rootR (l : List Dg) : Dg := if powB l.length = true then merkle (Nat.log2 l.length) l else List.replicate 32 0
theorem rootR_pow {k : Nat} {l : List Dg} (hl : l.length = 2 ^ k) (hk : k ≤ 6) : rootR l = merkle k l := by
  unfold rootR; rw [if_pos ((powB_iff _).2 ⟨k, hk, hl⟩), hl, log2_pow]
theorem rootR_bad {l : List Dg} (h : powB l.length = false) : rootR l = List.replicate 32 0 := by unfold rootR; rw [h]; rfl
theorem okClimb_leaf {k i : Nat} (hk : k ≤ 6) (hi : i < 2 ^ k) : okClimb (i : Int) k = true := by
  refine (okClimb_iff _ _).2 ⟨hk, by omega, ?_⟩
  have h : ((2 ^ k : Nat) : Int) = 2 ^ k := by simp
  omega
theorem okPath_leaf {k i n : Nat} (hk : k ≤ 6) (hn : n = 2 ^ k) (hi : i < 2 ^ k) : okPath n (i : Int) = true := (okPath_iff _ _).2 ⟨(powB_iff _).2 ⟨k, hk, hn⟩, by omega, by omega⟩
theorem pathR_leaf {k i : Nat} {l : List Dg} (hk : k ≤ 6) (hl : l.length = 2 ^ k) (hi : i < 2 ^ k) : pathR l (i : Int) = pathOf k l i := by
  unfold pathR; rw [if_pos (okPath_leaf hk hl hi), hl, log2_pow]; rfl
theorem climbR_leaf {k i : Nat} {l : List Dg} (hk : k ≤ 6) (hl : l.length = 2 ^ k) (hi : i < 2 ^ k) : climbR (l.getD i []) (i : Int) (pathR l (i : Int)) = merkle k l := by
  rw [pathR_leaf hk hl hi]
  unfold climbR
  rw [pathOf_len, if_pos (okClimb_leaf hk hi)]
  exact climb_root k l i hl hi
theorem errC_leaf {k i : Nat} {l : List Dg} (hk : k ≤ 6) (hl : l.length = 2 ^ k) (hi : i < 2 ^ k) : errC (i : Int) (pathR l (i : Int)).length = 0 := by
  rw [pathR_leaf hk hl hi, pathOf_len]; unfold errC; rw [if_pos (okClimb_leaf hk hi)]
theorem merkle_len32 {k : Nat} {l : List Dg} (hl : l.length = 2 ^ k) (h32 : all32 l) : (merkle k l).length = 32 := by
  have h0 : 0 < 2 ^ k := Nat.pow_pos (by decide)
  rw [← climb_root k l 0 hl h0]
  exact climb_len _ _ _ (all32_getD h32 0 (by omega))
set_option maxRecDepth 100000 in
set_option maxHeartbeats 4000000 in
theorem rootOf_bad (l : List Dg) (v : Value) (w : World) (hv : Digs w v l) (h32 : all32 l) (hK : KFact w) (hp : powB l.length = false) :
    Calls Tryd.prog 23 #[v] w fun e w' => e = .returned (.tuple #[.agg (cellsB (List.replicate 32 0)), .bool false]) ∧ Below w.heap.size w w' := by
  have hkl := hK.lt
  have HE : Hid (errP l.length 0 = 1) := Lib.hid (by unfold errP okPath; rw [hp]; rfl)
  obtain ⟨av, kv, rfl⟩ := hv.form
  have HS0 := Lib.hid (Tryd.sizeD_of (List.replicate 32 0) List.length_replicate)
  have hb0 : Below w.heap.size w (w.alloc (.cells (cellsB (List.replicate 32 0)) 25)) := (Below.refl _ _).alloc (Nat.le_refl _) _
  have hD0 : Row (w.alloc (.cells (cellsB (List.replicate 32 0)) 25)) w.heap.size 25 (cellsB (List.replicate 32 0)) := Row.new w _ _
  have H32 := Lib.hid h32
  clear hp h32
  go_enter Tryd.func23, Tryd.ntmps23
  go_wp2_with fail
  refine (path_any l _ 0 _ (hv.later hb0) H32.out (hK.below hb0 hkl)).mono ?_
  rintro e w1 ⟨pv, rfl, -, hb1⟩
  rw [HE.out]
  have hB1 := hb0.trans (hb1.mono hb0.size)
  have hD1 := hD0.below hb1 hD0.lt
  clear hb0 hD0 hb1 hv
  go_wp2_with (first | (refine wpList_build_nil rfl rfl ?_) | (refine wpList_store_row rfl 25 (.tmp 2) (.tmp 20) rfl w.heap.size rfl (cellsB (List.replicate 32 0)) (cellsB (List.replicate 32 0)) 25 rfl hD1 rfl HS0.out (cellsB_one _) ?_; intro w2 hg2 hr2 hz2; clear hz2))
  refine bodyPost_ret (results_cell_row_tmp rfl _ _ w.heap.size 25 (cellsB (List.replicate 32 0)) (0, 0) _ rfl hr2 Tryd.underD rfl HS0.out) rfl ⟨rfl, ?_⟩
  exact hB1.grown hg2 hB1.size (fun k hk => by cases hk; exact Nat.le_refl _)
set_option maxRecDepth 100000 in
set_option maxHeartbeats 4000000 in
theorem rootOf_good (k : Nat) (l : List Dg) (v : Value) (w : World) (hv : Digs w v l) (h32 : all32 l) (hK : KFact w) (hl : l.length = 2 ^ k) (hk : k ≤ 6) :
    Calls Tryd.prog 23 #[v] w fun e w' => e = .returned (.tuple #[.agg (cellsB (merkle k l)), .bool true]) ∧ Below w.heap.size w w' := by
  have hkl := hK.lt
  have h0 : 0 < 2 ^ k := Nat.pow_pos (by decide)
  have hpos : 0 < l.length := by omega
  have hp1 : ¬ (l.length : Int) = 0 := by omega
  have hp2 : ((l.length : Int) == 0) = false := by simpa using hp1
  have hp3 : (0 : Int) < (l.length : Int) := by omega
  have HE : Hid (errP l.length 0 = 0) := Lib.hid (by unfold errP; rw [if_pos (by have := okPath_leaf hk hl h0; simpa using this)])
  have HC : Hid (climbR (l.getD 0 []) 0 (pathR l 0) = merkle k l) := Lib.hid (by have := climbR_leaf hk hl h0; simpa using this)
  have HE2 : Hid (errC 0 (pathR l 0).length = 0) := Lib.hid (by have := errC_leaf (l := l) hk hl h0; simpa using this)
  have HP32 : Hid (all32 (pathR l 0)) := Lib.hid (pathR_32 l 0 h32)
  have hml := merkle_len32 hl h32
  obtain ⟨av, kv, rfl⟩ := hv.form
  obtain ⟨sb, so, rfl, -, hk1, hk2, hat⟩ := hv.at hpos
  have hce := hat.elem h32 0 hpos
  rw [Nat.zero_mul, Nat.add_zero] at hce
  have HYL := Lib.hid (all32_getD h32 0 hpos)
  generalize l.getD 0 [] = y at *
  generalize merkle k l = x at *
  have HX := Lib.hid hml
  have HSX := Lib.hid (Tryd.sizeD_of x hml)
  have HCX : Hid ((cellsB x).size = (cellsB (List.replicate 32 0)).size) := Lib.hid (by rw [cellsB_size, hml]; rfl)
  have HS0 := Lib.hid (Tryd.sizeD_of (List.replicate 32 0) List.length_replicate)
  have hb0 : Below w.heap.size w (w.alloc (.cells (cellsB (List.replicate 32 0)) 25)) := (Below.refl _ _).alloc (Nat.le_refl _) _
  have hD0 : Row (w.alloc (.cells (cellsB (List.replicate 32 0)) 25)) w.heap.size 25 (cellsB (List.replicate 32 0)) := Row.new w _ _
  have H32 := Lib.hid h32
  have hce0 := range_below hce hb0
  clear h32 hml hl hk h0 hat hce
  go_enter Tryd.func23, Tryd.ntmps23
  go_wp2_with fail
  refine (path_any l _ 0 _ (hv.later hb0) H32.out (hK.below hb0 hkl)).mono ?_
  rintro e w1 ⟨pv, rfl, hd1, hb1⟩
  rw [HE.out]
  generalize pathR l 0 = p at *
  have hB1 := hb0.trans (hb1.mono hb0.size)
  have hD1 := hD0.below hb1 hD0.lt
  have hce1 := range_below hce0 hb1
  obtain ⟨pa, pk, rfl⟩ := hd1.form
  clear hb0 hD0 hb1 hv hce0
  go_wp2_with (first | (refine wpList_load_dig rfl (.tmp 23) rfl sb so rfl y HYL.out hce1 ?_))
  refine (climb_any y 0 p _ w1 HYL.out hd1 HP32.out (hK.below hB1 hkl)).mono ?_
  rintro e w2 ⟨rfl, hb2⟩
  rw [HC.out, HE2.out]
  have hB2 := hB1.trans (hb2.mono hB1.size)
  have hD2 := hD1.below hb2 hD1.lt
  clear hB1 hD1 hb2 hce1 hd1
  have hl2 := hD2.lt
  go_wp2_with (first | (refine wpList_store_row rfl 25 (.tmp 6) (.tmp 27) rfl w2.heap.size rfl (cellsB x) (cellsB (List.replicate 32 0)) 25 rfl (Row.new w2 _ _) HCX.out HSX.out (cellsB_one _) ?_; intro w3 hg3 hr3 hz3; clear hz3; have hb3 := box_below hg3; clear hg3; have hD3 := hD2.below hb3 hl2; have hB3 := hB2.trans (hb3.mono hB2.size)) | (refine wpList_load_row rfl 25 (.tmp 6) rfl w2.heap.size rfl 25 (cellsB x) (0, 0) _ hr3 Tryd.underD rfl HSX.out ?_) | (refine wpList_store_row rfl 25 (.tmp 2) (.tmp 29) rfl w.heap.size rfl (cellsB x) (cellsB (List.replicate 32 0)) 25 rfl hD3 HCX.out HSX.out (cellsB_one _) ?_; intro w4 hg4 hr4 hz4; clear hz4))
  refine bodyPost_ret (results_cell_row_tmp rfl _ _ w.heap.size 25 (cellsB x) (0, 0) _ rfl hr4 Tryd.underD rfl HSX.out) rfl ⟨rfl, ?_⟩
  exact hB3.grown hg4 hB3.size (fun k hk => by cases hk; exact Nat.le_refl _)
theorem rootOf_any (l : List Dg) (v : Value) (w : World) (hv : Digs w v l) (h32 : all32 l) (hK : KFact w) :
    Calls Tryd.prog 23 #[v] w fun e w' => e = .returned (.tuple #[.agg (cellsB (rootR l)), .bool (powB l.length)]) ∧ Below w.heap.size w w' := by
  cases hp : powB l.length with
  | false => rw [rootR_bad hp]; exact rootOf_bad l v w hv h32 hK hp
  | true =>
    obtain ⟨k, hk, hl⟩ := (powB_iff _).1 hp
    rw [rootR_pow hl hk]; exact rootOf_good k l v w hv h32 hK hl hk
set_option maxRecDepth 100000 in
set_option maxHeartbeats 4000000 in
theorem root_bad (l : List Dg) (v : Value) (w : World) (hv : Digs w v l) (h32 : all32 l) (hK : KFact w) (hp : powB l.length = false) :
    Calls Tryd.prog 21 #[v] w fun e w' => e = .returned (.tuple #[.agg (cellsB (List.replicate 32 0)), .bool false]) ∧ Below w.heap.size w w' := by
  have hkl := hK.lt
  have HRR := Lib.hid (rootR_bad hp)
  have HPB := Lib.hid hp
  obtain ⟨av, kv, rfl⟩ := hv.form
  have HS0 := Lib.hid (Tryd.sizeD_of (List.replicate 32 0) List.length_replicate)
  have hb0 : Below w.heap.size w (w.alloc (.cells (cellsB (List.replicate 32 0)) 25)) := (Below.refl _ _).alloc (Nat.le_refl _) _
  have hD0 : Row (w.alloc (.cells (cellsB (List.replicate 32 0)) 25)) w.heap.size 25 (cellsB (List.replicate 32 0)) := Row.new w _ _
  have H32 := Lib.hid h32
  clear hp h32
  go_enter Tryd.func21, Tryd.ntmps21
  go_wp2_with fail
  refine (rootOf_any l _ _ (hv.later hb0) H32.out (hK.below hb0 hkl)).mono ?_
  rintro e w1 ⟨rfl, hb1⟩
  rw [HRR.out, HPB.out]
  have hB1 := hb0.trans (hb1.mono hb0.size)
  have hD1 := hD0.below hb1 hD0.lt
  have hl1 := hD1.lt
  clear hb0 hD0 hb1
  go_wp2_with (first | (refine wpList_store_row rfl 25 (.tmp 4) (.tmp 14) rfl w1.heap.size rfl (cellsB (List.replicate 32 0)) (cellsB (List.replicate 32 0)) 25 rfl (Row.new w1 _ _) rfl HS0.out (cellsB_one _) ?_; intro w2 hg2 hr2 hz2; clear hz2; have hb2 := box_below hg2; clear hg2; have hD2 := hD1.below hb2 hl1; have hB2 := hB1.trans (hb2.mono hB1.size)))
  go_loopw [18] (fun t wr => t = .int .i64 0 ∧ wr = w2) (fun t _ => 0)
  case atStart => exact ⟨rfl, rfl⟩
  case round =>
    obtain ⟨rfl, rfl⟩ := hrel
    by_cases hn : l.length = 0
    · have hn2 : ¬ (0 : Int) < (l.length : Int) := by omega
      have hl2 := hr2.lt
      go_wp2_with (first | (refine wpList_load_row rfl 25 (.tmp 4) rfl w1.heap.size rfl 25 (cellsB (List.replicate 32 0)) (0, 0) _ hr2 Tryd.underD rfl HS0.out ?_) | (refine wpList_store_row rfl 25 (.tmp 2) (.tmp 53) rfl w.heap.size rfl (cellsB (List.replicate 32 0)) (cellsB (List.replicate 32 0)) 25 rfl hD2 rfl HS0.out (cellsB_one _) ?_; intro w4 hg4 hr4 hz4; clear hz4))
      refine bodyPost_ret (results_cell_row_tmp rfl _ _ w.heap.size 25 (cellsB (List.replicate 32 0)) (0, 0) _ rfl hr4 Tryd.underD rfl HS0.out) rfl ⟨rfl, ?_⟩
      exact hB2.grown hg4 hB2.size (fun k hk => by cases hk; exact Nat.le_refl _)
    · have hn2 : (0 : Int) < (l.length : Int) := by omega
      go_wp2_with fail
      refine (path_any l _ 0 _ (hv.later hB2) H32.out (hK.below hB2 hkl)).mono ?_
      rintro e w3 ⟨pv, rfl, -, hb3⟩
      have hB3 := hB2.trans (hb3.mono hB2.size)
      have hD3 := hD2.below hb3 hD2.lt
      generalize errP l.length 0 = c at *
      clear hb3 hB2 hD2
      go_wp2_with (first | (refine wpList_build_nil rfl rfl ?_) | (refine wpList_store_row rfl 25 (.tmp 2) (.tmp 33) rfl w.heap.size rfl (cellsB (List.replicate 32 0)) (cellsB (List.replicate 32 0)) 25 rfl hD3 rfl HS0.out (cellsB_one _) ?_; intro w4 hg4 hr4 hz4; clear hz4))
      refine bodyPost_ret (results_cell_row_tmp rfl _ _ w.heap.size 25 (cellsB (List.replicate 32 0)) (0, 0) _ rfl hr4 Tryd.underD rfl HS0.out) rfl ⟨rfl, ?_⟩
      exact hB3.grown hg4 hB3.size (fun k hk => by cases hk; exact Nat.le_refl _)
set_option maxRecDepth 100000 in
set_option maxHeartbeats 4000000 in
theorem root_good (k : Nat) (l : List Dg) (v : Value) (w : World) (hv : Digs w v l) (h32 : all32 l) (hK : KFact w) (hl : l.length = 2 ^ k) (hk : k ≤ 6) :
    Calls Tryd.prog 21 #[v] w fun e w' => e = .returned (.tuple #[.agg (cellsB (merkle k l)), .bool true]) ∧ Below w.heap.size w w' := by
  have hkl := hK.lt
  have h0 : 0 < 2 ^ k := Nat.pow_pos (by decide)
  have hpos : 0 < l.length := by omega
  have HALL : Hid (∀ i : Nat, i < l.length → errP l.length (i : Int) = 0 ∧ climbR (l.getD i []) (i : Int) (pathR l (i : Int)) = merkle k l ∧ errC (i : Int) (pathR l (i : Int)).length = 0) := Lib.hid fun i hi => by
    have hi2 : i < 2 ^ k := by omega
    exact ⟨by unfold errP; rw [if_pos (okPath_leaf hk hl hi2)], climbR_leaf hk hl hi2, errC_leaf hk hl hi2⟩
  have HRR := Lib.hid (rootR_pow hl hk)
  have HPB : Hid (powB l.length = true) := Lib.hid ((powB_iff _).2 ⟨k, hk, hl⟩)
  have hml := merkle_len32 hl h32
  have H32 := Lib.hid h32
  obtain ⟨av, kv, rfl⟩ := hv.form
  obtain ⟨sb, so, rfl, -, hk1, hk2, hat⟩ := hv.at hpos
  have HAT := Lib.hid hat
  generalize merkle k l = x at *
  have HX := Lib.hid hml
  have HSX := Lib.hid (Tryd.sizeD_of x hml)
  have HCX : Hid ((cellsB x).size = (cellsB (List.replicate 32 0)).size) := Lib.hid (by rw [cellsB_size, hml]; rfl)
  have HS0 := Lib.hid (Tryd.sizeD_of (List.replicate 32 0) List.length_replicate)
  have HCZ : Hid ((cellsB x).size = (cellsB (List.replicate 32 0)).size) := Lib.hid (by rw [cellsB_size, hml]; rfl)
  have hb0 : Below w.heap.size w (w.alloc (.cells (cellsB (List.replicate 32 0)) 25)) := (Below.refl _ _).alloc (Nat.le_refl _) _
  have hD0 : Row (w.alloc (.cells (cellsB (List.replicate 32 0)) 25)) w.heap.size 25 (cellsB (List.replicate 32 0)) := Row.new w _ _
  clear h32 hml hl hk h0 hat
  go_enter Tryd.func21, Tryd.ntmps21
  go_wp2_with fail
  refine (rootOf_any l _ _ (hv.later hb0) H32.out (hK.below hb0 hkl)).mono ?_
  rintro e w1 ⟨rfl, hb1⟩
  rw [HRR.out, HPB.out]
  have hB1 := hb0.trans (hb1.mono hb0.size)
  have hD1 := hD0.below hb1 hD0.lt
  have hl1 := hD1.lt
  clear hb0 hD0 hb1
  go_wp2_with (first | (refine wpList_store_row rfl 25 (.tmp 4) (.tmp 14) rfl w1.heap.size rfl (cellsB x) (cellsB (List.replicate 32 0)) 25 rfl (Row.new w1 _ _) HCX.out HSX.out (cellsB_one _) ?_; intro w2 hg2 hr2 hz2; clear hz2; have hb2 := box_below hg2; clear hg2; have hD2 := hD1.below hb2 hl1; have hB2 := hB1.trans (hb2.mono hB1.size)))
  clear hb2
  obtain ⟨g4, hg4⟩ : ∃ g, w1.heap.size = g := ⟨_, rfl⟩
  rw [hg4] at hr2 hl1 ⊢
  clear hg4 hD1 hB1
  go_loopw [18] (fun t wr => ∃ i : Nat, i ≤ l.length ∧ t = .int .i64 (i : Int) ∧ Below w.heap.size w wr ∧ Row wr w.heap.size 25 (cellsB (List.replicate 32 0)) ∧ Row wr g4 25 (cellsB x)) (fun t _ => l.length - (intOf t).toNat)
  case atStart => exact ⟨0, by omega, rfl, hB2, hD2, hr2⟩
  case round =>
    clear hB2 hD2 hr2
    obtain ⟨i, hi, rfl, hB, hD, hR⟩ := hrel
    by_cases hlt : i < l.length
    · have hlt2 : (i : Int) < (l.length : Int) := by omega
      obtain ⟨he, hc, hc2⟩ := HALL.out i hlt
      have hce := range_below (HAT.out.elem H32.out i hlt) hB
      have HYL := Lib.hid (all32_getD H32.out i hlt)
      have HP32 : Hid (all32 (pathR l (i : Int))) := Lib.hid (pathR_32 l _ H32.out)
      have HE := Lib.hid he
      have HC := Lib.hid hc
      have HC2 := Lib.hid hc2
      clear he hc hc2
      generalize l.getD i [] = y at *
      go_wp2_with fail
      refine (path_any l _ (i : Int) wr (hv.later hB) H32.out (hK.below hB hkl)).mono ?_
      rintro e w3 ⟨pv, rfl, hd3, hb3⟩
      rw [HE.out]
      generalize pathR l (i : Int) = p at *
      obtain ⟨pa, pk, rfl⟩ := hd3.form
      have hB3 := hB.trans (hb3.mono hB.size)
      have hD3 := hD.below hb3 hD.lt
      have hR3 := hR.below hb3 hR.lt
      have hce3 := range_below hce hb3
      clear hB hD hR hce hb3
      go_wp2_with (first | (refine wpList_load_dig rfl (.tmp 37) rfl sb (so + i * 32) rfl y HYL.out hce3 ?_))
      refine (climb_any y (i : Int) p _ w3 HYL.out hd3 HP32.out (hK.below hB3 hkl)).mono ?_
      rintro e w4 ⟨rfl, hb4⟩
      rw [HC.out, HC2.out]
      have hB4 := hB3.trans (hb4.mono hB3.size)
      have hD4 := hD3.below hb4 hD3.lt
      have hR4 := hR3.below hb4 hR3.lt
      have hl4 := hR4.lt
      have hl5 := hD4.lt
      have hq := fun w => neqB x x HX.out HX.out w
      simp only [decide_true, Bool.not_true] at hq
      clear hB3 hD3 hR3 hce3 hb4 hd3
      go_wp2_with (first | (refine wpList_store_row rfl 25 (.tmp 9) (.tmp 42) rfl w4.heap.size rfl (cellsB x) (cellsB (List.replicate 32 0)) 25 rfl (Row.new w4 _ _) HCX.out HSX.out (cellsB_one _) ?_; intro w5 hg5 hr5 hz5; clear hz5; have hb5 := box_below hg5; clear hg5; have hD5 := hD4.below hb5 hl5; have hR5 := hR4.below hb5 hl4; have hB5 := hB4.trans (hb5.mono hB4.size); have hq5 := hq w5) | (refine wpList_load_on 25 (.tmp 9) rfl rfl w4.heap.size rfl 25 (cellsB x) (0, 0) _ hr5 Tryd.underD rfl HSX.out ?_) | (refine wpList_load_on 25 (.tmp 4) rfl rfl g4 rfl 25 (cellsB x) (0, 0) _ hR5 Tryd.underD rfl HSX.out ?_))
      go_roundw
      case rel => exact ⟨i + 1, by omega, by go_num, hB5, hD5, hR5⟩
      case measure => simp [intOf]; omega
    · obtain rfl : i = l.length := by omega
      go_wp2_with (first | (refine wpList_load_row rfl 25 (.tmp 4) rfl g4 rfl 25 (cellsB x) (0, 0) _ hR Tryd.underD rfl HSX.out ?_) | (refine wpList_store_row rfl 25 (.tmp 2) (.tmp 53) rfl w.heap.size rfl (cellsB x) (cellsB (List.replicate 32 0)) 25 rfl hD HCZ.out HSX.out (cellsB_one _) ?_; intro w4 hg4 hr4 hz4; clear hz4))
      refine bodyPost_ret (results_cell_row_tmp rfl _ _ w.heap.size 25 (cellsB x) (0, 0) _ rfl hr4 Tryd.underD rfl HSX.out) rfl ⟨rfl, ?_⟩
      exact hB.grown hg4 hB.size (fun k hk => by cases hk; exact Nat.le_refl _)
theorem root_any (l : List Dg) (v : Value) (w : World) (hv : Digs w v l) (h32 : all32 l) (hK : KFact w) :
    Calls Tryd.prog 21 #[v] w fun e w' => e = .returned (.tuple #[.agg (cellsB (rootR l)), .bool (powB l.length)]) ∧ Below w.heap.size w w' := by
  cases hp : powB l.length with
  | false => rw [rootR_bad hp]; exact root_bad l v w hv h32 hK hp
  | true =>
    obtain ⟨k, hk, hl⟩ := (powB_iff _).1 hp
    rw [rootR_pow hl hk]; exact root_good k l v w hv h32 hK hl hk
end Go.Proofs.YteogcilnpkaplaaDoor

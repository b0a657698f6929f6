/- wots.each: the list of what a function returns for every chain. Conditions: the function returns digests and keeps memory. -/
import Derived.Test.YthhlfcbkggahmaaDoorWMem
import Derived.Laws.MakeOwn
namespace Go.Proofs.YthhlfcbkggahmaaDoor
open Go.RowKit
theorem madeD (n : Nat) : madeCells (Value.agg (cellsB (List.replicate 32 0))).cells n = cellsB (List.replicate n 0) := by
  have key : ∀ j, j < 32 → (cellsB (List.replicate 32 0))[j]! = B8 0 := fun j hj => by
    have h : (cellsB (List.replicate 32 0))[j]? = some (B8 0) := by
      simp only [cellsB, List.getElem?_toArray, List.getElem?_map, List.getElem?_replicate, if_pos hj]; rfl
    rw [getElem!_def, h]
  apply Array.ext
  · rw [size_madeCells, cellsB_size, List.length_replicate]
  · intro i h1 h2
    have e1 : (madeCells (Value.agg (cellsB (List.replicate 32 0))).cells n)[i] = (cellsB (List.replicate 32 0))[i % 32]! := by
      have hs : (cellsB (List.replicate 32 0)).size = 32 := rfl
      simp only [madeCells, Value.cells, Array.getElem_map, Array.getElem_range, hs]
    rw [e1, key _ (Nat.mod_lt _ (by decide))]
    simp only [cellsB, List.getElem_toArray, List.getElem_map, List.getElem_replicate]
/-- A list of zero digests is made. -/
theorem wpList_make_digs {w : World} {ops : Array Oper} {rest : List Oper} {o : Oper} {a : Act} {Q : Exit → Act → World → Prop} (hgd : o.guard = none) (x y : Operand) (ho : o.op = .makeSlice 33 x y)
    (n : Nat) (hx : a.eval x = .int .i64 (n : Int)) (hy : a.eval y = .int .i64 (n : Int)) (hn : n ≤ 1000000)
    (h : ∀ w', Row w' w.heap.size 23 (cellsB (List.replicate (n * 32) 0)) → Below w.heap.size w w' → w'.heap.size = w.heap.size + 1 → wpList Tryd.prog ops Q rest (a.put o.dst (.slice (some ⟨w.heap.size, 0, none⟩) n n)) w') : wpList Tryd.prog ops Q (o :: rest) a w := by
  obtain ⟨i0, hi, hz0, hz1, hz2⟩ := info_parts Tryd.infoD
  have hr := run_make (P := Tryd.prog) w 33 23 i0 _ Tryd.underDs hi hz0 .i64 .i64 (n : Int) (n : Int) (by omega) (by omega) (by rw [hz2]; omega) (by omega)
  rw [hz1, madeD, Int.toNat_natCast] at hr
  refine wpList_plain hgd fun K hK => ?_
  unfold Oper.wp execOp
  simp only [ho, hx, hy, Sem.run_bind, hr, Result.andThen_ok]
  exact hK _ _ (h _ (Row.new w _ _) ((Below.refl _ _).alloc (Nat.le_refl _) _) (by simp))
/-- The list behind i rounds. -/
def eRow (x : Nat → List UInt8) (i : Nat) : List UInt8 := ((List.range i).map x).flatten ++ List.replicate ((18 - i) * 32) 0
theorem eRow_flat (x : Nat → List UInt8) (i : Nat) (hx : ∀ i, i < 18 → (x i).length = 32) (hi : i ≤ 18) : ((List.range i).map x).flatten.length = i * 32 := by
  rw [flat_len _ (all32_range fun j hj => hx j (by omega)), List.length_map, List.length_range, Nat.mul_comm]
theorem eRow_len (x : Nat → List UInt8) (i : Nat) (hx : ∀ i, i < 18 → (x i).length = 32) (hi : i ≤ 18) : (eRow x i).length = 576 := by
  unfold eRow
  rw [List.length_append, eRow_flat x i hx hi, List.length_replicate]; omega
theorem eRow_splice (x : Nat → List UInt8) (i : Nat) (hx : ∀ i, i < 18 → (x i).length = 32) (hi : i < 18) : splice (eRow x i) (i * 32) (x i) = eRow x (i + 1) := by
  have hf := eRow_flat x i hx (by omega)
  unfold splice eRow
  rw [← hf, List.take_left, hx i hi, List.range_succ, List.map_append, List.flatten_append, List.drop_append, List.drop_eq_nil_of_le (by omega), List.nil_append, Nat.add_sub_cancel_left, List.drop_replicate]
  rw [show (18 - i) * 32 - 32 = (18 - (i + 1)) * 32 by omega]
  simp
theorem eRow_all (x : Nat → List UInt8) : eRow x 18 = (tab x).flatten := by unfold eRow tab; simp
theorem Row.digs {w : World} {b : Nat} {t : TypeId} {xs : List (List UInt8)} (h : Row w b t (cellsB xs.flatten)) (n : Nat) (hn : n = xs.length) (hl : n ≤ 1000000) : Digs w (.slice (some ⟨b, 0, none⟩) n n) xs := by
  subst hn
  exact ⟨_, _, rfl, Nat.le_refl _, by omega, .inr ⟨b, 0, rfl, fun i hi => by rw [Nat.zero_add]; exact h.byte i hi⟩⟩
set_option maxRecDepth 10000 in
set_option maxHeartbeats 1000000 in
theorem weach_any (fid : FuncId) (cap : Array Value) (x : Nat → List UInt8) (w : World) (hcf : ∀ (args : Array Value) (w : World), (callFunc fid args).run Tryd.prog w = .ok (.enter fid args) w) (hx : ∀ i, i < 18 → (x i).length = 32)
    (hcall : ∀ (i : Nat) (w' : World), i < 18 → Below w.heap.size w w' → Calls Tryd.prog fid (#[.int .i64 (i : Int)] ++ cap) w' fun e w'' => e = .returned (.agg (cellsB (x i))) ∧ Below w'.heap.size w' w'') :
    Calls Tryd.prog 35 #[.func (.func fid) #[] cap] w fun e w' => ∃ v, e = .returned v ∧ Digs w' v (tab x) ∧ Below w.heap.size w w' := by
  go_enter Tryd.func35, Tryd.ntmps35
  go_wp2_with (refine wpList_make_digs rfl _ _ rfl 18 rfl rfl (by decide) ?_; intro w1 hr1 hb1 hz1)
  have hr1' : Row w1 w.heap.size 23 (cellsB (eRow x 0)) := hr1
  clear hr1
  go_loopw [8] (fun t wr => ∃ i : Nat, i ≤ 18 ∧ t = .int .i64 (i : Int) ∧ Row wr w.heap.size 23 (cellsB (eRow x i)) ∧ Below w.heap.size w wr) (fun t _ => 18 - (intOf t).toNat)
  case atStart => exact ⟨0, by omega, rfl, hr1', hb1⟩
  case round =>
    clear hr1' hb1 hz1
    obtain ⟨i, hi, rfl, hr, hb⟩ := hrel
    by_cases hlt : i < 18
    · have HE := Lib.hid (eRow_len x i hx hi)
      have HX := Lib.hid (hx i hlt)
      have HS := Lib.hid (eRow_splice x i hx hlt)
      go_wp2_with fail
      refine (hcall i wr hlt hb).mono ?_
      rintro e w5 ⟨rfl, hb5⟩
      have hr5 := hr.below hb5 hr.lt
      have hB5 := hb.trans (hb5.mono hb.size)
      clear hr hb hb5
      go_wp2_with (refine wpList_store_dig rfl (.tmp 16) (.tmp 15) rfl w.heap.size (i * 32) (by first | rfl | simp [Act.eval]) (x i) HX.out rfl (eRow x i) 23 hr5 (by rw [HE.out]; omega) ?_; intro w6 hg6 hr6 hz6)
      rw [HS.out] at hr6
      go_roundw
      case rel => exact ⟨i + 1, by omega, by go_num, hr6, hB5.grown hg6 hB5.size (fun k hk => by cases hk; exact Nat.le_refl _)⟩
      case measure => simp [intOf]; omega
    · obtain rfl : i = 18 := by omega
      rw [eRow_all] at hr
      have HT := Lib.hid (tab_len x)
      go_wp2
      go_ret
      exact ⟨_, rfl, hr.digs 18 HT.out.symm (by decide), hb⟩
end Go.Proofs.YthhlfcbkggahmaaDoor

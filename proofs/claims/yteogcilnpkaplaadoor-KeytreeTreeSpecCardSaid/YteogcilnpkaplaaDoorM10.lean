/- Merged: the sane function of the statements returns true; parts of slices of digests. No conditions of its own beyond those that each law states. -/
import Derived.Test.YteogcilnpkaplaaDoorM6
import Derived.Test.YteogcilnpkaplaaDoorM4
import Derived.Test.YteogcilnpkaplaaDoorM9
import Derived.Test.YteogcilnpkaplaaDoorM7
namespace Go.Proofs.YteogcilnpkaplaaDoor
open Go.RowKit
theorem take_step {α : Type} (a b : List α) (z : α) (i : Nat) (ha : i < a.length) (hb : i < b.length) (h : a.take i = b.take i) (he : a.getD i z = b.getD i z) : a.take (i + 1) = b.take (i + 1) := by
  rw [List.getD_eq_getElem?_getD, List.getD_eq_getElem?_getD, List.getElem?_eq_getElem ha, List.getElem?_eq_getElem hb] at he
  rw [List.take_add_one, List.take_add_one, h, List.getElem?_eq_getElem ha, List.getElem?_eq_getElem hb]
  have he2 : a[i] = b[i] := he
  rw [he2]
theorem eqin_digest (x y : List UInt8) (hx : x.length = 32) (hy : y.length = 32) (w : World) : (Op.equalIn 10000 25 (.agg (List.map B8 x).toArray) (.agg (List.map B8 y).toArray)).run Tryd.prog w = .ok (decide (x = y)) w :=
  run_equalIn_bytes w 9998 25 5 32 Tryd.underD Tryd.underU8 Tryd.sizeU8 x y hx hy
theorem ne_of_elem {α : Type} (a b : List α) (z : α) (i : Nat) (he : ¬ a.getD i z = b.getD i z) : ¬ a = b := fun h => he (by rw [h])
theorem all_taken {α : Type} (a b : List α) (i : Nat) (hl : a.length = b.length) (hi : a.length ≤ i) (h : a.take i = b.take i) : a = b := by
  rwa [List.take_of_length_le hi, List.take_of_length_le (by omega)] at h
set_option maxRecDepth 10000 in
set_option maxHeartbeats 1000000 in
theorem rdigests_any (l k : List (List UInt8)) (u v : Value) (w : World) (hu : Digs w u l) (hv : Digs w v k) (hl : l.length ≤ 1000000) (hk : k.length ≤ 1000000) (h1 : all32 l) (h2 : all32 k) :
    Calls Tryd.prog 28 #[u, v] w fun e w' => e = .returned (.bool (decide (l = k))) ∧ Below w.heap.size w w' := by
  obtain ⟨a, c, rfl⟩ : ∃ a c, u = .slice a l.length c := by obtain ⟨a, c, h, _⟩ := hu; exact ⟨a, c, h⟩
  obtain ⟨b, e, rfl⟩ : ∃ a c, v = .slice a k.length c := by obtain ⟨a, c, h, _⟩ := hv; exact ⟨a, c, h⟩
  by_cases hlen : l.length = k.length
  · go_enter Tryd.func28, Tryd.ntmps28
    have HL := Lib.hid hlen
    rw [← hlen] at hv ⊢
    clear hlen
    obtain ⟨n, hn⟩ : ∃ n, l.length = n := ⟨_, rfl⟩
    rw [hn] at hu hv hl ⊢
    have HN := Lib.hid hn
    clear hn
    go_wp2
    go_loopw [13] (fun t wr => ∃ i : Nat, i ≤ n ∧ t = .int .i64 (i : Int) ∧ Hid (l.take i = k.take i) ∧ Below w.heap.size w wr ∧ Digs wr (.slice a n c) l ∧ Digs wr (.slice b n e) k) (fun t _ => n - (intOf t).toNat)
    case atStart => exact ⟨0, by omega, rfl, rfl, Below.refl _ _, hu, hv⟩
    case round =>
      clear hu hv
      obtain ⟨i, hi, rfl, ht, hb, hu, hv⟩ := hrel
      by_cases hlt : i < n
      · obtain ⟨bu, ou, rfl, -, hu1, hu2, cu⟩ := hu.at (by omega)
        obtain ⟨bv, ov, rfl, -, hv1, hv2, cv⟩ := hv.at (by omega)
        have hil : i < l.length := by rw [HN.out]; exact hlt
        have hik : i < k.length := by rw [← HL.out]; exact hil
        obtain ⟨w2, ew⟩ : ∃ w2, wr.drew = w2 := ⟨_, rfl⟩
        have hb2 : Below w.heap.size w w2 := by rw [← ew]; exact hb.drew
        have hub : Digs w2 (.slice (some ⟨bu, ou, none⟩) n c) l := by rw [← ew]; exact hu.later (Below.refl _ _).drew
        have hvb : Digs w2 (.slice (some ⟨bv, ov, none⟩) n e) k := by rw [← ew]; exact hv.later (Below.refl _ _).drew
        have c1 : w2.rangeAt bu (ou + i * 32) ((l.getD i []).map B8) := by rw [← ew]; exact cu.elem h1 i hil
        have c2 : w2.rangeAt bv (ov + i * 32) ((k.getD i []).map B8) := by rw [← ew]; exact cv.elem h2 i hik
        have l1 := all32_getD h1 i hil
        have l2 := all32_getD h2 i hik
        clear cu cv hu hv
        by_cases he : l.getD i [] = k.getD i []
        · have HT : Hid (l.take (i + 1) = k.take (i + 1)) := take_step l k [] i hil hik ht.out he
          clear ht
          rw [← he] at c2 l2
          generalize l.getD i [] = x at *
          clear he
          go_wp2
          refine wp_region_still_tail 8 (by kernel_rfl) (by kernel_rfl) ?_
          simp only [List.take_succ_cons, List.take_zero, List.drop_succ_cons, List.drop_zero]
          change wpStill _ _ wr.drew (fun a' => wpList _ _ _ _ a' wr.drew) _ _
          rw [ew]
          clear ew
          have L1 := Lib.hid l1
          have L2 := Lib.hid l2
          have hq := eqin_digest x x l1 l2 w2
          rw [decide_eq_true rfl] at hq
          repeat (first | (refine still_load_mid rfl 25 (.tmp 18) rfl bu (ou + i * 32) rfl _ _ c1 Tryd.underD rfl (by rw [List.length_map, L1.out]; exact Tryd.sizeD) ?_) | (refine still_load_mid rfl 25 (.tmp 22) rfl bv (ov + i * 32) rfl _ _ c2 Tryd.underD rfl (by rw [List.length_map, L2.out]; exact Tryd.sizeD) ?_) | still_step)
          refine wpStill_nil ?_
          go_wp2
          go_roundw
          case rel => exact ⟨i + 1, by omega, by go_num, HT, hb2, hub, hvb⟩
          case measure => simp [intOf]; omega
        · have HE : Hid (¬ l = k) := ne_of_elem l k [] i he
          generalize l.getD i [] = x at *
          generalize k.getD i [] = y at *
          go_wp2
          refine wp_region_still_tail 8 (by kernel_rfl) (by kernel_rfl) ?_
          simp only [List.take_succ_cons, List.take_zero, List.drop_succ_cons, List.drop_zero]
          change wpStill _ _ wr.drew (fun a' => wpList _ _ _ _ a' wr.drew) _ _
          rw [ew]
          clear ew
          have L1 := Lib.hid l1
          have L2 := Lib.hid l2
          have hq := eqin_digest x y l1 l2 w2
          rw [decide_eq_false he] at hq
          repeat (first | (refine still_load_mid rfl 25 (.tmp 18) rfl bu (ou + i * 32) rfl _ _ c1 Tryd.underD rfl (by rw [List.length_map, L1.out]; exact Tryd.sizeD) ?_) | (refine still_load_mid rfl 25 (.tmp 22) rfl bv (ov + i * 32) rfl _ _ c2 Tryd.underD rfl (by rw [List.length_map, L2.out]; exact Tryd.sizeD) ?_) | still_step)
          refine wpStill_nil ?_
          go_wp2
          go_ret
          exact ⟨by rw [decide_eq_false HE.out]; rfl, hb2⟩
      · have HE : Hid (l = k) := all_taken l k i HL.out (by rw [HN.out]; omega) ht.out
        go_wp2
        go_ret
        exact ⟨by rw [decide_eq_true HE.out]; rfl, hb⟩
  · go_enter Tryd.func28, Tryd.ntmps28
    have HE : Hid (¬ l = k) := fun h => hlen (by rw [h])
    go_wp2
    go_ret
    exact ⟨by rw [decide_eq_false HE.out]; rfl, Below.refl _ _⟩
end Go.Proofs.YteogcilnpkaplaaDoor

namespace Go.Proofs.YteogcilnpkaplaaDoor
open Go.RowKit
def dgN (c : UInt8) : Dg := c :: List.replicate 31 0
theorem dgN_len (c : UInt8) : (dgN c).length = 32 := rfl
theorem fill_dg (c : UInt8) : Instr.fill (fun i => some (i * 1, 1)) (cellsB (List.replicate 32 0)) [(0, .int .u8 (Y c))] = some (cellsB (dgN c)) := rfl
theorem run_build_dg (w : World) (c : UInt8) : (Instr.build 25 #[(0, .int .u8 (Y c))]).run Tryd.prog w = .ok (.agg (cellsB (dgN c))) w := by
  obtain ⟨i0, hi, hz0, hz1, hz2⟩ := info_parts Tryd.infoD
  have hf := fill_dg c
  have hs := Tryd.sizeU8
  generalize cellsB (List.replicate 32 0) = z at *
  generalize cellsB (dgN c) = y at *
  cases hp : Tryd.prog.info? 5 with
  | none => rw [hp] at hs; cases hs
  | some i =>
    have hsz : i.size = 1 := by rw [hp] at hs; simpa using hs
    simp [Instr.build, Sem.run_bind, run_underlying Tryd.underD, sizeOf, typeInfo, zeroValue, hi, hz0, hp, hsz, Value.cells]
    simp at hf
    simp [hf]
theorem wpList_build_dg {w : World} {ops : Array Oper} {rest : List Oper} {o : Oper} {a : Act} {Q : Exit → Act → World → Prop} (hgd : o.guard = none) (c : UInt8) (x : Operand) (ho : o.op = .build 25 #[(0, x)]) (hx : a.eval x = .int .u8 (Y c))
    (h : wpList Tryd.prog ops Q rest (a.put o.dst (.agg (cellsB (dgN c)))) w) : wpList Tryd.prog ops Q (o :: rest) a w := by
  refine wpList_value hgd _ ?_ h
  unfold execOp
  simp only [ho, List.map_toArray, List.map_cons, List.map_nil, hx, Sem.run_bind, run_build_dg w c, Result.andThen_ok]
  rfl
theorem fill_two (a b : Dg) (ha : a.length = 32) (hb : b.length = 32) : Instr.fill (fun i => some (i * 32, 32)) (cellsB (List.replicate 64 0)) [(0, .agg (cellsB a)), (1, .agg (cellsB b))] = some (cellsB (a ++ b)) := by
  have hsa : (cellsB a).size = 32 := by rw [cellsB_size, ha]
  have hsb : (cellsB b).size = 32 := by rw [cellsB_size, hb]
  have hf1 := fold_set (a.map B8) 0 ((List.replicate 64 (0 : UInt8)).map B8) (by simp [ha])
  have hf2 := fold_set (b.map B8) 32 ((a ++ List.replicate 32 (0 : UInt8)).map B8) (by simp [ha, hb])
  have hza : (cellsB a).zipIdx = ((a.map B8).zipIdx 0).toArray := by simp [cellsB]
  have hzb : (cellsB b).zipIdx = ((b.map B8).zipIdx 0).toArray := by simp [cellsB]
  have e1 : (cellsB a).zipIdx.foldl (fun (cs : Array Value) (x : Value × Nat) => cs.setIfInBounds (0 * 32 + x.2) x.1) (cellsB (List.replicate 64 0)) = cellsB (a ++ List.replicate 32 0) := by
    rw [hza]
    simp only [Nat.zero_mul, Nat.zero_add, List.foldl_toArray']
    refine hf1.trans ?_
    simp [cellsB, ha]
  have hzz : (b.map B8).zipIdx 32 = ((b.map B8).zipIdx 0).map fun x => (x.1, 1 * 32 + x.2) := by
    apply List.ext_getElem
    · simp
    · intro i h1 h2
      simp [List.getElem_zipIdx]
  have e2 : (cellsB b).zipIdx.foldl (fun (cs : Array Value) (x : Value × Nat) => cs.setIfInBounds (1 * 32 + x.2) x.1) (cellsB (a ++ List.replicate 32 0)) = cellsB (a ++ b) := by
    rw [hzb]
    simp only [List.foldl_toArray']
    rw [hzz, List.foldl_map] at hf2
    refine hf2.trans ?_
    simp [cellsB, ha, hb]
  have hz64 : (cellsB (List.replicate 64 0)).size = 64 := by rw [cellsB_size]; rfl
  have hz2 : (cellsB (a ++ List.replicate 32 0)).size = 64 := by rw [cellsB_size, List.length_append, ha]; rfl
  simp only [Instr.fill, Value.cells, hsa, hsb, hz64]
  rw [if_neg (by decide), e1]
  simp only [hz2]
  rw [if_neg (by decide), e2]
theorem run_build_two (w : World) (a b : Dg) (ha : a.length = 32) (hb : b.length = 32) :
    (Instr.buildSlice 29 2 #[(0, .agg (cellsB a)), (1, .agg (cellsB b))]).run Tryd.prog w = .ok (.slice (some ⟨w.heap.size, 0, none⟩) 2 2) (w.alloc (.cells (cellsB (a ++ b)) 25)) := by
  obtain ⟨i0, hi, hz0, hz1, hz2⟩ := info_parts Tryd.infoD
  have hm := madeD 64
  have hf := fill_two a b ha hb
  generalize (Value.agg (cellsB (List.replicate 32 0))) = z at *
  generalize cellsB (List.replicate 64 0) = c0 at *
  unfold madeCells at hm
  generalize cellsB a = ca at *
  generalize cellsB b = cb at *
  generalize cellsB (a ++ b) = cab at *
  simp [Instr.buildSlice, Sem.run_bind, run_underlying Tryd.underDs, sizeOf, typeInfo, hi, hz1, zeroValue, hz0, hm, hf, newRow]
theorem wpList_build_two {w : World} {ops : Array Oper} {rest : List Oper} {o : Oper} {a : Act} {Q : Exit → Act → World → Prop} (hgd : o.guard = none) (x y : Operand) (ho : o.op = .buildSlice 29 2 #[(0, x), (1, y)])
    (l k : Dg) (hx : a.eval x = .agg (cellsB l)) (hy : a.eval y = .agg (cellsB k)) (hl : l.length = 32) (hk : k.length = 32)
    (h : ∀ w', Row w' w.heap.size 25 (cellsB (l ++ k)) → Below w.heap.size w w' → wpList Tryd.prog ops Q rest (a.put o.dst (.slice (some ⟨w.heap.size, 0, none⟩) 2 2)) w') : wpList Tryd.prog ops Q (o :: rest) a w := by
  refine wpList_plain hgd fun K hK => ?_
  unfold Oper.wp execOp
  simp only [ho, List.map_toArray, List.map_cons, List.map_nil, hx, hy, Sem.run_bind, run_build_two w l k hl hk, Result.andThen_ok]
  exact hK _ _ (h _ (Row.new w _ _) ((Below.refl _ _).alloc (Nat.le_refl _) _))
theorem pathR_two (a b : Dg) : pathR [a, b] 1 = [a] := by
  unfold pathR
  rw [if_pos (by show okPath 2 1 = true; rfl)]
  show pathOf (Nat.log2 2) [a, b] 1 = [a]
  rw [show Nat.log2 2 = 1 from log2_pow 1]; rfl
theorem errP_two (a b : Dg) : errP [a, b].length 1 = 0 := rfl
theorem climbR_one (a b : Dg) : climbR b 1 [a] = pairOf a b := by
  unfold climbR
  rw [if_pos (by show okClimb 1 1 = true; rfl)]; rfl
theorem errC_one (a : Dg) : errC 1 [a].length = 0 := rfl
theorem climbR_none (a : Dg) : climbR a 0 [] = a := by
  unfold climbR
  rw [if_pos (by show okClimb 0 0 = true; rfl)]; rfl
theorem errC_none : errC 0 ([] : List Dg).length = 0 := rfl
theorem errC_bad : errC 1 ([] : List Dg).length = 1 := rfl
theorem climbR_bad (a : Dg) : climbR a 1 [] = zeroD := by
  unfold climbR
  rw [if_neg (by show ¬ okClimb 1 0 = true; decide)]
set_option maxRecDepth 10000 in
set_option maxHeartbeats 4000000 in
theorem sane_any (w : World) (hK : KFact w) : Calls Tryd.prog 11 #[] w fun e w' => e = .returned (.bool true) ∧ Below w.heap.size w w' := by
  have hkl := hK.lt
  have e1 : (w.alloc (.cells (cellsB (List.replicate 32 0)) 25)).heap.size = w.heap.size + 1 := by simp
  have hA0 : Row ((w.alloc (.cells (cellsB (List.replicate 32 0)) 25)).alloc (.cells (cellsB (List.replicate 32 0)) 25)) w.heap.size 25 (cellsB (List.replicate 32 0)) := (Row.new w _ _).alloc _
  have hB0 : Row ((w.alloc (.cells (cellsB (List.replicate 32 0)) 25)).alloc (.cells (cellsB (List.replicate 32 0)) 25)) (w.heap.size + 1) 25 (cellsB (List.replicate 32 0)) := by
    have h := Row.new (w.alloc (.cells (cellsB (List.replicate 32 0)) 25)) (cellsB (List.replicate 32 0)) 25
    rwa [e1] at h
  have hb0 : Below w.heap.size w ((w.alloc (.cells (cellsB (List.replicate 32 0)) 25)).alloc (.cells (cellsB (List.replicate 32 0)) 25)) := ((Below.refl _ _).alloc (Nat.le_refl _) _).alloc (by omega) _
  clear e1
  have HA := Lib.hid (dgN_len 1)
  have HB := Lib.hid (dgN_len 2)
  have HSA := Lib.hid (Tryd.sizeD_of _ (dgN_len 1))
  have HSB := Lib.hid (Tryd.sizeD_of _ (dgN_len 2))
  have HCA : Hid ((cellsB (dgN 1)).size = (cellsB (List.replicate 32 0)).size) := rfl
  have HCB : Hid ((cellsB (dgN 2)).size = (cellsB (List.replicate 32 0)).size) := rfl
  go_enter Tryd.func11, Tryd.ntmps11
  generalize hRR : Code.region 6 _ _ = RR
  have HRR := Lib.hid hRR
  clear hRR
  generalize hR2 : Code.region 2 _ _ = R2
  generalize hR3 : Code.region 3 _ _ = R3
  generalize hR4 : Code.region 4 _ _ = R4
  generalize hR5 : Code.region 5 _ _ = R5
  have HR2 := Lib.hid hR2
  have HR3 := Lib.hid hR3
  have HR4 := Lib.hid hR4
  have HR5 := Lib.hid hR5
  clear hR2 hR3 hR4 hR5
  go_wp2_with (first | (refine wpList_build_dg rfl 1 _ rfl rfl ?_) | (refine wpList_build_dg rfl 2 _ rfl rfl ?_) | (refine wpList_store_row rfl 25 (.tmp 1) (.tmp 11) rfl w.heap.size rfl (cellsB (dgN 1)) _ 25 rfl hA0 HCA.out HSA.out (cellsB_one _) ?_; intro w1 hg1 hrA1 hz1; have hrB1 := hB0.grown hg1 (fun e => by have := Option.some.inj e; omega); have hb1 := hb0.grown hg1 hb0.size (fun k hk => by cases hk; exact Nat.le_refl _)) | (refine wpList_store_row rfl 25 (.tmp 2) (.tmp 12) rfl (w.heap.size + 1) rfl (cellsB (dgN 2)) _ 25 rfl hrB1 HCB.out HSB.out (cellsB_one _) ?_; intro w2 hg2 hrB2 hz2; have hrA2 := hrA1.grown hg2 (fun e => by have := Option.some.inj e; omega); have hb2 := hb1.grown hg2 hb1.size (fun k hk => by cases hk; omega)))
  rw [← HR2.out]
  clear HR2 hA0 hB0 hb0 hg1 hg2 hrA1 hrB1 hb1 hz1 hz2 HCA HCB
  have hK2 := hK.below hb2 hkl
  obtain ⟨a, ha⟩ : ∃ a, dgN 1 = a := ⟨_, rfl⟩
  obtain ⟨b, hb⟩ : ∃ b, dgN 2 = b := ⟨_, rfl⟩
  rw [ha] at HA HSA hrA2 ⊢
  rw [hb] at HB HSB hrB2 ⊢
  clear ha hb
  go_wp2_with (first | (refine wpList_load_row rfl 25 (.tmp 1) rfl w.heap.size rfl 25 (cellsB a) (0, 0) _ hrA2 Tryd.underD rfl HSA.out ?_) | (refine wpList_load_row rfl 25 (.tmp 2) rfl (w.heap.size + 1) rfl 25 (cellsB b) (0, 0) _ hrB2 Tryd.underD rfl HSB.out ?_) | (refine wpList_build_two rfl _ _ rfl a b rfl rfl HA.out HB.out ?_; intro w3 hr3 hb3))
  have hds : Digs w3 (.slice (some ⟨w2.heap.size, 0, none⟩) 2 2) [a, b] := Row.digs (xs := [a, b]) (by simpa using hr3) 2 rfl (by omega)
  have hb23 := hb2.trans (hb3.mono hb2.size)
  have hK3 := hK.below hb23 hkl
  have h2 : all32 [a, b] := fun x hx => by
    rcases List.mem_cons.1 hx with rfl | hx
    · exact HA.out
    · rcases List.mem_cons.1 hx with rfl | hx
      · exact HB.out
      · cases hx
  refine (path_any [a, b] _ 1 w3 hds h2 hK3).mono ?_
  rintro e w4 ⟨pv, rfl, hp4, hb4⟩
  rw [pathR_two] at hp4
  rw [errP_two]
  obtain ⟨pa, pc, rfl⟩ := hp4.form
  rw [show [a].length = 1 from rfl] at hp4 ⊢
  have hb34 := hb3.trans (hb4.mono hb3.size)
  have hrA4 := hrA2.below hb34 hrA2.lt
  have hrB4 := hrB2.below hb34 hrB2.lt
  have hB4 := hb2.trans (hb34.mono hb2.size)
  have hK4 := hK.below hB4 hkl
  have h1 : all32 [a] := fun x hx => by
    rcases List.mem_cons.1 hx with rfl | hx
    · exact HA.out
    · cases hx
  have H1 := Lib.hid h1
  clear hds h2 hb2 hb3 hb23 hK3 hb4 hb34 hrA2 hrB2 hr3 hK2 h1
  go_wp2
  rw [← HR3.out]
  clear HR3
  go_wp2_with (first | (refine wpList_load_row rfl 25 (.tmp 1) rfl w.heap.size rfl 25 (cellsB a) (0, 0) _ hrA4 Tryd.underD rfl HSA.out ?_) | (refine wpList_load_row rfl 25 (.tmp 2) rfl (w.heap.size + 1) rfl 25 (cellsB b) (0, 0) _ hrB4 Tryd.underD rfl HSB.out ?_))
  refine (climb_any b 1 [a] _ w4 HB.out hp4 H1.out hK4).mono ?_
  rintro e w5 ⟨rfl, hb5⟩
  rw [climbR_one, errC_one]
  have hrA5 := hrA4.below hb5 hrA4.lt
  have hrB5 := hrB4.below hb5 hrB4.lt
  have hp5 := hp4.later hb5
  have hB5 := hB4.trans (hb5.mono hB4.size)
  have hpl := pairOf_len a b
  have HPE : Hid (pairOf a b = pairOf a b) := rfl
  obtain ⟨x, hx⟩ : ∃ x, pairOf a b = x := ⟨_, rfl⟩
  rw [hx] at hpl ⊢
  have HX := Lib.hid hx
  have HXL := Lib.hid hpl
  have HSX := Lib.hid (Tryd.sizeD_of _ hpl)
  have HCX : Hid ((cellsB x).size = (cellsB (List.replicate 32 0)).size) := Lib.hid (by rw [cellsB_size, hpl]; rfl)
  clear hx hpl hrA4 hrB4 hp4 hb5 hB4 hK4 HPE
  go_wp2_with (first | (refine wpList_load_row rfl 25 (.tmp 1) rfl w.heap.size rfl 25 (cellsB a) (0, 0) _ hrA5 Tryd.underD rfl HSA.out ?_) | (refine wpList_load_row rfl 25 (.tmp 2) rfl (w.heap.size + 1) rfl 25 (cellsB b) (0, 0) _ hrB5 Tryd.underD rfl HSB.out ?_) | (refine wpList_store_row rfl 25 (.tmp 5) (.tmp 24) rfl w5.heap.size rfl (cellsB x) (cellsB (List.replicate 32 0)) 25 rfl (Row.new w5 _ _) HCX.out HSX.out (cellsB_one _) ?_; intro w6 hg6 hr6 hz6; clear hz6; have hb6 : Below w5.heap.size w5 w6 := ((Below.refl _ _).alloc (Nat.le_refl _) _).grown hg6 (by simp) (fun k hk => by cases hk; exact Nat.le_refl _); have hrA6 := hrA5.below hb6 hrA5.lt))
  have hrB6 := hrB5.below hb6 hrB5.lt
  have hp6 := hp5.later hb6
  have hB6 := hB5.trans (hb6.mono hB5.size)
  have hK6 := hK.below hB6 hkl
  clear hg6 hb6 hrA5 hrB5 hp5 hB5
  rw [← HR4.out]
  clear HR4
  go_wp2_with (first | (refine wpList_load_row rfl 25 (.tmp 1) rfl w.heap.size rfl 25 (cellsB a) (0, 0) _ hrA6 Tryd.underD rfl HSA.out ?_) | (refine wpList_load_row rfl 25 (.tmp 2) rfl (w.heap.size + 1) rfl 25 (cellsB b) (0, 0) _ hrB6 Tryd.underD rfl HSB.out ?_))
  refine (climb_any a 0 [] _ w6 HA.out (Digs.nil _) (fun _ h => absurd h List.not_mem_nil) hK6).mono ?_
  rintro e w7 ⟨rfl, hb7⟩
  rw [climbR_none, errC_none]
  have hrA7 := hrA6.below hb7 hrA6.lt
  have hrB7 := hrB6.below hb7 hrB6.lt
  have hr7 := hr6.below hb7 hr6.lt
  have hp7 := hp6.later hb7
  have hB7 := hB6.trans (hb7.mono hB6.size)
  have HCA : Hid ((cellsB a).size = (cellsB (List.replicate 32 0)).size) := Lib.hid (by rw [cellsB_size, HA.out]; rfl)
  clear hrA6 hrB6 hr6 hp6 hb7 hB6 hK6
  go_wp2_with (first | (refine wpList_load_row rfl 25 (.tmp 1) rfl w.heap.size rfl 25 (cellsB a) (0, 0) _ hrA7 Tryd.underD rfl HSA.out ?_) | (refine wpList_load_row rfl 25 (.tmp 2) rfl (w.heap.size + 1) rfl 25 (cellsB b) (0, 0) _ hrB7 Tryd.underD rfl HSB.out ?_) | (refine wpList_store_row rfl 25 (.tmp 7) (.tmp 29) rfl w7.heap.size rfl (cellsB a) (cellsB (List.replicate 32 0)) 25 rfl (Row.new w7 _ _) HCA.out HSA.out (cellsB_one _) ?_; intro w8 hg8 hr8 hz8; clear hz8; have hb8 : Below w7.heap.size w7 w8 := ((Below.refl _ _).alloc (Nat.le_refl _) _).grown hg8 (by simp) (fun k hk => by cases hk; exact Nat.le_refl _); have hrA8 := hrA7.below hb8 hrA7.lt))
  have hrB8 := hrB7.below hb8 hrB7.lt
  have hr58 := hr7.below hb8 hr7.lt
  have hp8 := hp7.later hb8
  have hB8 := hB7.trans (hb8.mono hB7.size)
  have hK8 := hK.below hB8 hkl
  clear hg8 hb8 hrA7 hrB7 hr7 hp7 hB7
  rw [← HR5.out]
  clear HR5
  go_wp2_with (first | (refine wpList_load_row rfl 25 (.tmp 1) rfl w.heap.size rfl 25 (cellsB a) (0, 0) _ hrA8 Tryd.underD rfl HSA.out ?_) | (refine wpList_load_row rfl 25 (.tmp 2) rfl (w.heap.size + 1) rfl 25 (cellsB b) (0, 0) _ hrB8 Tryd.underD rfl HSB.out ?_))
  refine (climb_any a 1 [] _ w8 HA.out (Digs.nil _) (fun _ h => absurd h List.not_mem_nil) hK8).mono ?_
  rintro e w9 ⟨rfl, hb9⟩
  rw [climbR_bad, errC_bad]
  have hrA9 := hrA8.below hb9 hrA8.lt
  have hrB9 := hrB8.below hb9 hrB8.lt
  have hr59 := hr58.below hb9 hr58.lt
  have hr79 := hr8.below hb9 hr8.lt
  have hp9 := hp8.later hb9
  have hB9 := hB8.trans (hb9.mono hB8.size)
  have HSZ := Lib.hid (Tryd.sizeD_of zeroD rfl)
  clear hrA8 hrB8 hr58 hr8 hp8 hb9 hB8 hK8
  go_wp2_with (refine wpList_store_row rfl 25 (.tmp 9) (.tmp 34) rfl w9.heap.size rfl (cellsB zeroD) (cellsB (List.replicate 32 0)) 25 rfl (Row.new w9 _ _) rfl HSZ.out (cellsB_one _) ?_; intro w0 hg0 hr0 hz0; clear hz0; have hb0 : Below w9.heap.size w9 w0 := ((Below.refl _ _).alloc (Nat.le_refl _) _).grown hg0 (by simp) (fun k hk => by cases hk; exact Nat.le_refl _))
  have hrA := hrA9.below hb0 hrA9.lt
  have hrB := hrB9.below hb0 hrB9.lt
  have hr5 := hr59.below hb0 hr59.lt
  have hr7 := hr79.below hb0 hr79.lt
  have hp0 := hp9.later hb0
  have hbl' := hB9.trans (hb0.mono hB9.size)
  have hK0 := hK.below hbl' hkl
  clear hg0 hr0 hb0 hrA9 hrB9 hr59 hr79 hp9 hB9
  rw [← HRR.out]
  clear HRR
  have hltk := hK0.lt
  have hltrA := hrA.lt
  have hltrB := hrB.lt
  have hltr5 := hr5.lt
  have hltr7 := hr7.lt
  obtain ⟨n5, en5⟩ : ∃ n5, w5.heap.size = n5 := ⟨_, rfl⟩
  obtain ⟨n7, en7⟩ : ∃ n7, w7.heap.size = n7 := ⟨_, rfl⟩
  rw [en5] at hr5 hltr5 ⊢
  rw [en7] at hr7 hltr7 ⊢
  clear en5 en7
  obtain ⟨B, eB⟩ : ∃ B, w0.heap.size = B := ⟨_, rfl⟩
  refine wp_gen fun a0 ha0 => ?_
  have i1 : a0.eval (.tmp 1) = .pointer (some ⟨w.heap.size, 0, none⟩) := by rw [ha0]; rfl
  have i2 : a0.eval (.tmp 2) = .pointer (some ⟨w.heap.size + 1, 0, none⟩) := by rw [ha0]; rfl
  have i3 : a0.eval (.tmp 3) = .slice pa 1 pc := by rw [ha0]; rfl
  have i4 : a0.eval (.tmp 4) = .int .i64 0 := by rw [ha0]; rfl
  have i5 : a0.eval (.tmp 5) = .pointer (some ⟨n5, 0, none⟩) := by rw [ha0]; rfl
  have i6 : a0.eval (.tmp 6) = .int .i64 0 := by rw [ha0]; rfl
  have i7 : a0.eval (.tmp 7) = .pointer (some ⟨n7, 0, none⟩) := by rw [ha0]; rfl
  have i8 : a0.eval (.tmp 8) = .int .i64 0 := by rw [ha0]; rfl
  have i10 : a0.eval (.tmp 10) = .int .i64 1 := by rw [ha0]; rfl
  have hsz : a0.tmps.size = 68 := by rw [ha0]; rfl
  have hdf0 : a0.defers = [] := by rw [ha0]
  clear ha0
  refine wp_region_inv (B := B) [some 36, some 37, some 38, some 39, some 40, some 41, some 42, some 43, some 44, some 45, some 46, some 47, some 48, some 49, some 50, some 51, some 52, some 53, some 54, some 55, some 56, some 57, some 58, some 59, some 60, some 61, some 62, some 63, some 64, some 65, some 66, some 67, some 0] [Asrt.eq (.int .i64 0), Asrt.eq (.bool true), Asrt.eq (.bool true), Asrt.eq (.slice pa 1 pc), Asrt.eq (.agg (cellsB (a))), Asrt.one a, Asrt.eq (.bool true), Asrt.eq (.bool true), Asrt.eq (.bool true), Asrt.eq (.int .i64 0), Asrt.eq (.bool true), Asrt.eq (.bool true), Asrt.eq (.bool true), Asrt.eq (.agg (cellsB (x))), Asrt.eq (.agg (cellsB (a))), Asrt.eq (.agg (cellsB (b))), Asrt.eq (.agg (cellsB (x))), Asrt.eq (.bool true), Asrt.eq (.bool true), Asrt.eq (.bool true), Asrt.eq (.int .i64 0), Asrt.eq (.bool true), Asrt.eq (.bool true), Asrt.eq (.bool true), Asrt.eq (.agg (cellsB (a))), Asrt.eq (.agg (cellsB (a))), Asrt.eq (.bool true), Asrt.eq (.bool true), Asrt.eq (.bool true), Asrt.eq (.int .i64 1), Asrt.eq (.bool true), Asrt.eq (.bool true), Asrt.eq (.bool true)] rfl (by as_aux_lemma => kernel_rfl) (by rw [hsz]; as_aux_lemma => kernel_rfl) (by as_aux_lemma => kernel_rfl) (by omega) ⟨?_, ?_, ?_, ?_, ?_, ?_, ?_, ?_, ?_, ?_, ?_, ?_, ?_, ?_, ?_, ?_, ?_, ?_, ?_, ?_, ?_, ?_, ?_, ?_, ?_, ?_, ?_, ?_, ?_, ?_, ?_, ?_, ?_, trivial⟩ ?_
  · as_aux_lemma =>
      intro ev w1 hg hin hc hgl hfn hd
      have hB := hg.top
      have g4 : ev (.tmp 4) = .int .i64 0 := (hin 4 (by kernel_rfl)).trans i4
      clear hin hd
      refine step_on (guard_none rfl) fun K hK => ?_
      unfold YieldsG
      go_simp
      exact hK _ _ rfl (Grow.refl hB)
  · as_aux_lemma =>
      intro ev w1 hg hin hc hgl hfn hd
      have hB := hg.top
      have f36 : (ev (.tmp 36)) = .int .i64 0 := hd.1 rfl _ rfl
      clear hin hd
      refine step_on (guard_none rfl) fun K hK => ?_
      unfold YieldsG
      go_simp
      exact hK _ _ rfl (Grow.refl hB)
  · as_aux_lemma =>
      intro ev w1 hg hin hc hgl hfn hd
      have hB := hg.top
      have f37 : (ev (.tmp 37)) = .bool true := hd.1 rfl _ rfl
      clear hin hd
      refine step_on (guard_none rfl) fun K hK => ?_
      unfold YieldsG
      go_simp
      exact hK _ _ rfl (Grow.refl hB)
  · as_aux_lemma =>
      intro ev w1 hg hin hc hgl hfn hd
      have hB := hg.top
      have f38 : (ev (.tmp 38)) = .bool true := hd.1 rfl _ rfl
      have g3 : ev (.tmp 3) = .slice pa 1 pc := (hin 3 (by kernel_rfl)).trans i3
      clear hin hd
      refine step_on (guard_some rfl rfl f38) fun K hK => ?_
      unfold YieldsG
      go_simp
      exact hK _ _ rfl (Grow.refl hB)
  · as_aux_lemma =>
      intro ev w1 hg hin hc hgl hfn hd
      have hB := hg.top
      have f38 : (ev (.tmp 38)) = .bool true := hd.1 rfl _ rfl
      have g1 : ev (.tmp 1) = .pointer (some ⟨w.heap.size, 0, none⟩) := (hin 1 (by kernel_rfl)).trans i1
      clear hin hd
      refine step_on (guard_some rfl rfl f38) fun K hK => ?_
      refine yg_load_row 25 (.tmp 1) rfl w.heap.size g1 25 (cellsB a) (0, 0) _ (hrA.below hg.bl (by omega)) Tryd.underD rfl HSA.out ?_
      exact hK _ _ rfl (Grow.refl hB)
  · as_aux_lemma =>
      intro ev w1 hg hin hc hgl hfn hd
      have hB := hg.top
      have f40 : (ev (.tmp 40)) = .agg (cellsB (a)) := hd.1 rfl _ rfl
      have f38 : (ev (.tmp 38)) = .bool true := hd.2.1 rfl _ rfl
      clear hin hd
      refine step_on (guard_some rfl rfl f38) fun K hK => ?_
      unfold YieldsG execOp
      simp only [List.map_toArray, List.map_cons, List.map_nil, f40, Sem.run_bind, run_build_dig w1 a HA.out, Result.andThen_ok]
      exact hK _ _ ⟨_, rfl, Row.new _ _ _⟩ (Grow.of hB ((Below.refl _ _).alloc (Nat.le_refl _) _))
  · as_aux_lemma =>
      intro ev w1 hg hin hc hgl hfn hd
      have hB := hg.top
      have f39 : (ev (.tmp 39)) = .slice pa 1 pc := hd.1 rfl _ rfl
      have f41 : ∃ g, (ev (.tmp 41)) = .slice (some ⟨g, 0, none⟩) 1 1 ∧ Row w1 g 25 (cellsB a) := hd.2.1 rfl _ rfl
      have f38 : (ev (.tmp 38)) = .bool true := hd.2.2.1 rfl _ rfl
      clear hin hd
      refine step_on (guard_some rfl rfl f38) fun K hK => ?_
      obtain ⟨gy, hgy, hry⟩ := f41
      unfold YieldsG
      go_simp
      refine (rdigests_any [a] [a] _ _ w1 (hp0.later (by rw [eB]; exact hg.bl)) (Row.digs (xs := [a]) (by simpa using hry) 1 rfl (by omega)) (by simp) (by simp) H1.out H1.out).mono ?_
      rintro e w2 ⟨rfl, hb⟩
      exact ⟨_, rfl, hK _ _ (by rw [decide_eq_true rfl]; rfl) (Grow.of hB hb)⟩
  · as_aux_lemma =>
      intro ev w1 hg hin hc hgl hfn hd
      have hB := hg.top
      have f38 : (ev (.tmp 38)) = .bool true := hd.1 rfl _ rfl
      have f42 : (ev (.tmp 42)) = .bool true := hd.2.1 rfl _ rfl
      clear hin hd
      refine step_on (guard_none rfl) fun K hK => ?_
      unfold YieldsG
      go_simp
      exact hK _ _ rfl (Grow.refl hB)
  · as_aux_lemma =>
      intro ev w1 hg hin hc hgl hfn hd
      have hB := hg.top
      have f43 : (ev (.tmp 43)) = .bool true := hd.1 rfl _ rfl
      clear hin hd
      refine step_on (guard_none rfl) fun K hK => ?_
      unfold YieldsG
      go_simp
      exact hK _ _ rfl (Grow.refl hB)
  · as_aux_lemma =>
      intro ev w1 hg hin hc hgl hfn hd
      have hB := hg.top
      have f44 : (ev (.tmp 44)) = .bool true := hd.1 rfl _ rfl
      have g6 : ev (.tmp 6) = .int .i64 0 := (hin 6 (by kernel_rfl)).trans i6
      clear hin hd
      refine step_on (guard_some rfl rfl f44) fun K hK => ?_
      unfold YieldsG
      go_simp
      exact hK _ _ rfl (Grow.refl hB)
  · as_aux_lemma =>
      intro ev w1 hg hin hc hgl hfn hd
      have hB := hg.top
      have f45 : (ev (.tmp 45)) = .int .i64 0 := hd.1 rfl _ rfl
      have f44 : (ev (.tmp 44)) = .bool true := hd.2.1 rfl _ rfl
      clear hin hd
      refine step_on (guard_some rfl rfl f44) fun K hK => ?_
      unfold YieldsG
      go_simp
      exact hK _ _ rfl (Grow.refl hB)
  · as_aux_lemma =>
      intro ev w1 hg hin hc hgl hfn hd
      have hB := hg.top
      have f44 : (ev (.tmp 44)) = .bool true := hd.1 rfl _ rfl
      have f46 : (ev (.tmp 46)) = .bool true := hd.2.1 rfl _ rfl
      clear hin hd
      refine step_on (guard_none rfl) fun K hK => ?_
      unfold YieldsG
      go_simp
      exact hK _ _ rfl (Grow.refl hB)
  · as_aux_lemma =>
      intro ev w1 hg hin hc hgl hfn hd
      have hB := hg.top
      have f47 : (ev (.tmp 47)) = .bool true := hd.1 rfl _ rfl
      clear hin hd
      refine step_on (guard_none rfl) fun K hK => ?_
      unfold YieldsG
      go_simp
      exact hK _ _ rfl (Grow.refl hB)
  · as_aux_lemma =>
      intro ev w1 hg hin hc hgl hfn hd
      have hB := hg.top
      have f48 : (ev (.tmp 48)) = .bool true := hd.1 rfl _ rfl
      have g5 : ev (.tmp 5) = .pointer (some ⟨n5, 0, none⟩) := (hin 5 (by kernel_rfl)).trans i5
      clear hin hd
      refine step_on (guard_some rfl rfl f48) fun K hK => ?_
      refine yg_load_row 25 (.tmp 5) rfl n5 g5 25 (cellsB x) (0, 0) _ (hr5.below hg.bl (by omega)) Tryd.underD rfl HSX.out ?_
      exact hK _ _ rfl (Grow.refl hB)
  · as_aux_lemma =>
      intro ev w1 hg hin hc hgl hfn hd
      have hB := hg.top
      have f48 : (ev (.tmp 48)) = .bool true := hd.1 rfl _ rfl
      have g1 : ev (.tmp 1) = .pointer (some ⟨w.heap.size, 0, none⟩) := (hin 1 (by kernel_rfl)).trans i1
      clear hin hd
      refine step_on (guard_some rfl rfl f48) fun K hK => ?_
      refine yg_load_row 25 (.tmp 1) rfl w.heap.size g1 25 (cellsB a) (0, 0) _ (hrA.below hg.bl (by omega)) Tryd.underD rfl HSA.out ?_
      exact hK _ _ rfl (Grow.refl hB)
  · as_aux_lemma =>
      intro ev w1 hg hin hc hgl hfn hd
      have hB := hg.top
      have f48 : (ev (.tmp 48)) = .bool true := hd.1 rfl _ rfl
      have g2 : ev (.tmp 2) = .pointer (some ⟨w.heap.size + 1, 0, none⟩) := (hin 2 (by kernel_rfl)).trans i2
      clear hin hd
      refine step_on (guard_some rfl rfl f48) fun K hK => ?_
      refine yg_load_row 25 (.tmp 2) rfl (w.heap.size + 1) g2 25 (cellsB b) (0, 0) _ (hrB.below hg.bl (by omega)) Tryd.underD rfl HSB.out ?_
      exact hK _ _ rfl (Grow.refl hB)
  · as_aux_lemma =>
      intro ev w1 hg hin hc hgl hfn hd
      have hB := hg.top
      have f50 : (ev (.tmp 50)) = .agg (cellsB (a)) := hd.1 rfl _ rfl
      have f51 : (ev (.tmp 51)) = .agg (cellsB (b)) := hd.2.1 rfl _ rfl
      have f48 : (ev (.tmp 48)) = .bool true := hd.2.2.1 rfl _ rfl
      clear hin hd
      refine step_on (guard_some rfl rfl f48) fun K hK => ?_
      unfold YieldsG
      go_simp
      refine (pair_any a b w1 HA.out HB.out (hK0.below hg.bl (by omega))).mono ?_
      rintro e w2 ⟨rfl, hb⟩
      rw [HX.out]
      exact ⟨_, rfl, hK _ _ rfl (Grow.of hB hb)⟩
  · as_aux_lemma =>
      intro ev w1 hg hin hc hgl hfn hd
      have hB := hg.top
      have f49 : (ev (.tmp 49)) = .agg (cellsB (x)) := hd.1 rfl _ rfl
      have f52 : (ev (.tmp 52)) = .agg (cellsB (x)) := hd.2.1 rfl _ rfl
      have f48 : (ev (.tmp 48)) = .bool true := hd.2.2.1 rfl _ rfl
      clear hin hd
      refine step_on (guard_some rfl rfl f48) fun K hK => ?_
      have hq := eqlT (x) (x) HXL.out rfl
      unfold YieldsG
      go_simp
      exact hK _ _ rfl (Grow.refl hB)
  · as_aux_lemma =>
      intro ev w1 hg hin hc hgl hfn hd
      have hB := hg.top
      have f48 : (ev (.tmp 48)) = .bool true := hd.1 rfl _ rfl
      have f53 : (ev (.tmp 53)) = .bool true := hd.2.1 rfl _ rfl
      clear hin hd
      refine step_on (guard_none rfl) fun K hK => ?_
      unfold YieldsG
      go_simp
      exact hK _ _ rfl (Grow.refl hB)
  · as_aux_lemma =>
      intro ev w1 hg hin hc hgl hfn hd
      have hB := hg.top
      have f54 : (ev (.tmp 54)) = .bool true := hd.1 rfl _ rfl
      clear hin hd
      refine step_on (guard_none rfl) fun K hK => ?_
      unfold YieldsG
      go_simp
      exact hK _ _ rfl (Grow.refl hB)
  · as_aux_lemma =>
      intro ev w1 hg hin hc hgl hfn hd
      have hB := hg.top
      have f55 : (ev (.tmp 55)) = .bool true := hd.1 rfl _ rfl
      have g8 : ev (.tmp 8) = .int .i64 0 := (hin 8 (by kernel_rfl)).trans i8
      clear hin hd
      refine step_on (guard_some rfl rfl f55) fun K hK => ?_
      unfold YieldsG
      go_simp
      exact hK _ _ rfl (Grow.refl hB)
  · as_aux_lemma =>
      intro ev w1 hg hin hc hgl hfn hd
      have hB := hg.top
      have f56 : (ev (.tmp 56)) = .int .i64 0 := hd.1 rfl _ rfl
      have f55 : (ev (.tmp 55)) = .bool true := hd.2.1 rfl _ rfl
      clear hin hd
      refine step_on (guard_some rfl rfl f55) fun K hK => ?_
      unfold YieldsG
      go_simp
      exact hK _ _ rfl (Grow.refl hB)
  · as_aux_lemma =>
      intro ev w1 hg hin hc hgl hfn hd
      have hB := hg.top
      have f55 : (ev (.tmp 55)) = .bool true := hd.1 rfl _ rfl
      have f57 : (ev (.tmp 57)) = .bool true := hd.2.1 rfl _ rfl
      clear hin hd
      refine step_on (guard_none rfl) fun K hK => ?_
      unfold YieldsG
      go_simp
      exact hK _ _ rfl (Grow.refl hB)
  · as_aux_lemma =>
      intro ev w1 hg hin hc hgl hfn hd
      have hB := hg.top
      have f58 : (ev (.tmp 58)) = .bool true := hd.1 rfl _ rfl
      clear hin hd
      refine step_on (guard_none rfl) fun K hK => ?_
      unfold YieldsG
      go_simp
      exact hK _ _ rfl (Grow.refl hB)
  · as_aux_lemma =>
      intro ev w1 hg hin hc hgl hfn hd
      have hB := hg.top
      have f59 : (ev (.tmp 59)) = .bool true := hd.1 rfl _ rfl
      have g7 : ev (.tmp 7) = .pointer (some ⟨n7, 0, none⟩) := (hin 7 (by kernel_rfl)).trans i7
      clear hin hd
      refine step_on (guard_some rfl rfl f59) fun K hK => ?_
      refine yg_load_row 25 (.tmp 7) rfl n7 g7 25 (cellsB a) (0, 0) _ (hr7.below hg.bl (by omega)) Tryd.underD rfl HSA.out ?_
      exact hK _ _ rfl (Grow.refl hB)
  · as_aux_lemma =>
      intro ev w1 hg hin hc hgl hfn hd
      have hB := hg.top
      have f59 : (ev (.tmp 59)) = .bool true := hd.1 rfl _ rfl
      have g1 : ev (.tmp 1) = .pointer (some ⟨w.heap.size, 0, none⟩) := (hin 1 (by kernel_rfl)).trans i1
      clear hin hd
      refine step_on (guard_some rfl rfl f59) fun K hK => ?_
      refine yg_load_row 25 (.tmp 1) rfl w.heap.size g1 25 (cellsB a) (0, 0) _ (hrA.below hg.bl (by omega)) Tryd.underD rfl HSA.out ?_
      exact hK _ _ rfl (Grow.refl hB)
  · as_aux_lemma =>
      intro ev w1 hg hin hc hgl hfn hd
      have hB := hg.top
      have f60 : (ev (.tmp 60)) = .agg (cellsB (a)) := hd.1 rfl _ rfl
      have f61 : (ev (.tmp 61)) = .agg (cellsB (a)) := hd.2.1 rfl _ rfl
      have f59 : (ev (.tmp 59)) = .bool true := hd.2.2.1 rfl _ rfl
      clear hin hd
      refine step_on (guard_some rfl rfl f59) fun K hK => ?_
      have hq := eqlT (a) (a) HA.out rfl
      unfold YieldsG
      go_simp
      exact hK _ _ rfl (Grow.refl hB)
  · as_aux_lemma =>
      intro ev w1 hg hin hc hgl hfn hd
      have hB := hg.top
      have f59 : (ev (.tmp 59)) = .bool true := hd.1 rfl _ rfl
      have f62 : (ev (.tmp 62)) = .bool true := hd.2.1 rfl _ rfl
      clear hin hd
      refine step_on (guard_none rfl) fun K hK => ?_
      unfold YieldsG
      go_simp
      exact hK _ _ rfl (Grow.refl hB)
  · as_aux_lemma =>
      intro ev w1 hg hin hc hgl hfn hd
      have hB := hg.top
      have f63 : (ev (.tmp 63)) = .bool true := hd.1 rfl _ rfl
      clear hin hd
      refine step_on (guard_none rfl) fun K hK => ?_
      unfold YieldsG
      go_simp
      exact hK _ _ rfl (Grow.refl hB)
  · as_aux_lemma =>
      intro ev w1 hg hin hc hgl hfn hd
      have hB := hg.top
      have f64 : (ev (.tmp 64)) = .bool true := hd.1 rfl _ rfl
      have g10 : ev (.tmp 10) = .int .i64 1 := (hin 10 (by kernel_rfl)).trans i10
      clear hin hd
      refine step_on (guard_some rfl rfl f64) fun K hK => ?_
      unfold YieldsG
      go_simp
      exact hK _ _ rfl (Grow.refl hB)
  · as_aux_lemma =>
      intro ev w1 hg hin hc hgl hfn hd
      have hB := hg.top
      have f65 : (ev (.tmp 65)) = .int .i64 1 := hd.1 rfl _ rfl
      have f64 : (ev (.tmp 64)) = .bool true := hd.2.1 rfl _ rfl
      clear hin hd
      refine step_on (guard_some rfl rfl f64) fun K hK => ?_
      unfold YieldsG
      go_simp
      exact hK _ _ rfl (Grow.refl hB)
  · as_aux_lemma =>
      intro ev w1 hg hin hc hgl hfn hd
      have hB := hg.top
      have f64 : (ev (.tmp 64)) = .bool true := hd.1 rfl _ rfl
      have f66 : (ev (.tmp 66)) = .bool true := hd.2.1 rfl _ rfl
      clear hin hd
      refine step_on (guard_none rfl) fun K hK => ?_
      unfold YieldsG
      go_simp
      exact hK _ _ rfl (Grow.refl hB)
  · as_aux_lemma =>
      intro ev w1 hg hin hc hgl hfn hd
      have hB := hg.top
      have f67 : (ev (.tmp 67)) = .bool true := hd.1 rfl _ rfl
      clear hin hd
      refine step_on (guard_none rfl) fun K hK => ?_
      unfold YieldsG
      go_simp
      exact hK _ _ rfl (Grow.refl hB)
  · intro v w2 hg hall
    have hr : v 32 = .bool true := hall.2.2.2.2.2.2.2.2.2.2.2.2.2.2.2.2.2.2.2.2.2.2.2.2.2.2.2.2.2.2.2.2.1 (by simp)
    generalize hput : putAll _ v 0 _ = af
    have h0 : af.tmps.getD 0 undef = v 32 := by rw [← hput]; exact putAll_at (by rw [hsz]; as_aux_lemma => kernel_rfl) rfl rfl
    have hdf : af.defers = [] := by rw [← hput, putAll_defers]; exact hdf0
    clear hput hall
    go_wp2
    refine bodyPost_ret (results_tmp rfl _ _ _) hdf ⟨?_, hbl'.trans (hg.bl.mono (by rw [← eB]; exact hbl'.size))⟩
    rw [h0, hr]
end Go.Proofs.YteogcilnpkaplaaDoor

namespace Go.Proofs.YteogcilnpkaplaaDoor
open Go.RowKit
def Asrt.box {B : Nat} : Asrt B := ⟨fun v w => ∃ g, v = .pointer (some ⟨g, 0, none⟩) ∧ B ≤ g ∧ Row w g 25 (cellsB (List.replicate 32 0)), fun _ _ _ h hg => by
  obtain ⟨g, hv, hb, hr⟩ := h; exact ⟨g, hv, hb, hg.kept _ _ hr⟩⟩
def Asrt.digs {B : Nat} (l : List (List UInt8)) : Asrt B := ⟨fun v w => Digs w v l, fun _ _ _ h hg => h.later hg.below⟩
/-- A digest is put into a fresh box. -/
theorem box_below {w w2 : World} {cs : Array Value} {t : TypeId} (h : (w.alloc (.cells cs t)).grownBy w2 (some w.heap.size)) : Below w.heap.size w w2 := ((Below.refl _ _).alloc (Nat.le_refl _) _).grown h (by simp) (fun k hk => by cases hk; exact Nat.le_refl _)
theorem run_build_nil (w : World) : (Instr.build 25 #[]).run Tryd.prog w = .ok (.agg (cellsB (List.replicate 32 0))) w := by
  obtain ⟨i0, hi, hz0, hz1, hz2⟩ := info_parts Tryd.infoD
  have hs := Tryd.sizeU8
  generalize cellsB (List.replicate 32 0) = z at *
  cases hp : Tryd.prog.info? 5 with
  | none => rw [hp] at hs; cases hs
  | some i => simp [Instr.build, Instr.fill, Sem.run_bind, run_underlying Tryd.underD, sizeOf, typeInfo, zeroValue, hi, hz0, hp, Value.cells]
theorem wpList_build_nil {w : World} {ops : Array Oper} {rest : List Oper} {o : Oper} {a : Act} {Q : Exit → Act → World → Prop} (ho : o.op = .build 25 #[]) (hw : Region.wanted o (yielded ops a.tmps) = true)
    (h : wpList Tryd.prog ops Q rest (a.put o.dst (.agg (cellsB (List.replicate 32 0)))) w) : wpList Tryd.prog ops Q (o :: rest) a w := by
  unfold wpList
  rw [if_pos hw]
  left
  unfold Oper.wp execOp
  simp only [ho, List.map_toArray, List.map_nil, Sem.run_bind, run_build_nil w, Result.andThen_ok]
  exact h
theorem guard_off_undef {ds : List (Option Tmp)} {ev : Operand → Value} {o : Oper} {j : Nat} {want : Bool} {d : Tmp} (h : o.guard = some (j, want)) (hj : (ds[j]?).join = some d) (hf : ev (.tmp d) = undef) : guardOn ds ev o = false := by
  unfold guardOn; simp only [h, hj, hf]; rfl
theorem errC_01 (i : Int) (n : Nat) : errC i n = 0 ∨ errC i n = 1 := by unfold errC; split <;> simp
end Go.Proofs.YteogcilnpkaplaaDoor

namespace Go.Proofs.YteogcilnpkaplaaDoor
open Go.RowKit
theorem take_drop_flat (xs : List Dg) (h : all32 xs) (l k : Nat) (i : Nat) (hi : i < ((xs.drop l).take k).flatten.length) : by8 ((xs.drop l).take k).flatten i = by8 xs.flatten (32 * l + i) := by
  have hd : all32 (xs.drop l) := fun x hx => h x (List.mem_of_mem_drop hx)
  have e1 : xs.flatten.drop (32 * l) = (xs.drop l).flatten := flat_drop xs h l
  have e2 : (xs.drop l).flatten = ((xs.drop l).take k).flatten ++ ((xs.drop l).drop k).flatten := by rw [← List.flatten_append, List.take_append_drop]
  unfold by8
  rw [List.getD_eq_getElem?_getD, List.getD_eq_getElem?_getD, ← List.getElem?_drop, e1, e2, List.getElem?_append_left hi]
theorem run_slice_digs {w : World} {a : Option Addr} {n cap : Nat} {xs : List Dg} (h : Digs w (.slice a n cap) xs) (h32 : all32 xs) (lo hi : Option Value) (l m : Nat) (hlo : (lo = none ∧ l = 0) ∨ lo = some (.int .i64 (l : Int))) (hhi : (hi = none ∧ m = n) ∨ hi = some (.int .i64 (m : Int))) (hlm : l ≤ m) (hmn : m ≤ n) :
    ∃ a', (Instr.slice 29 (.slice a n cap) lo hi none).run Tryd.prog w = .ok (.slice a' (m - l) (cap - l)) w ∧ Digs w (.slice a' (m - l) (cap - l)) ((xs.drop l).take (m - l)) := by
  obtain ⟨i0, hi0, hz0, hz1, hz2⟩ := info_parts Tryd.infoD
  obtain ⟨a', cap', he, hc0, hc1, hat⟩ := h
  obtain ⟨rfl, rfl, rfl⟩ := Value.slice.inj he
  have hb : (Instr.sliceBounds true xs.length cap lo hi none).run Tryd.prog w = .ok (l, m, cap) w := by
    have hm2 : m ≤ cap := by omega
    rcases hlo with ⟨rfl, rfl⟩ | rfl <;> rcases hhi with ⟨rfl, rfl⟩ | rfl <;> simp [Instr.sliceBounds, Instr.sliceBound, asIntOf, hm2, hlm]
  have hlen : ((xs.drop l).take (m - l)).length = m - l := by rw [List.length_take, List.length_drop]; omega
  refine ⟨if cap = l then a else a.map (·.add (l * 32)), ?_, ?_⟩
  · simp [Instr.slice, Sem.run_bind, run_underlying Tryd.underDs, hb, sizeOf, typeInfo, hi0, hz1]
  · refine ⟨_, _, by rw [hlen], by rw [hlen]; omega, by omega, ?_⟩
    rcases hat with ⟨rfl, hn⟩ | ⟨b, off, rfl, hat⟩
    · left
      refine ⟨by simp, fun e => ?_⟩
      by_cases hcl : cap = l
      · omega
      · rw [if_neg hcl] at e
        cases a with
        | none => rw [hn rfl]; omega
        | some x => cases e
    · right
      by_cases hcl : cap = l
      · refine ⟨b, off, by rw [if_pos hcl], fun i hi => ?_⟩
        have : (xs.drop l).take (m - l) = [] := List.eq_nil_of_length_eq_zero (by rw [hlen]; omega)
        rw [this] at hi; simp at hi
      · have hadd : (⟨b, off, none⟩ : Addr).add (l * 32) = ⟨b, off + l * 32, none⟩ := by unfold Addr.add; split <;> simp_all
        refine ⟨b, off + l * 32, by rw [if_neg hcl]; simp [hadd], fun i hi => ?_⟩
        rw [take_drop_flat xs h32 l (m - l) i hi]
        have hd : all32 ((xs.drop l).take (m - l)) := fun x hx => h32 x (List.mem_of_mem_drop (List.mem_of_mem_take hx))
        have h1 := flat_len _ hd
        rw [hlen] at h1
        rw [← hat (32 * l + i) (by rw [flat_len xs h32]; omega)]
        rw [show off + l * 32 + i = off + (32 * l + i) by omega]
theorem all32_part {xs : List Dg} (h : all32 xs) (l k : Nat) : all32 ((xs.drop l).take k) := fun x hx => h x (List.mem_of_mem_drop (List.mem_of_mem_take hx))
end Go.Proofs.YteogcilnpkaplaaDoor

/- crossbarlaw04.WotsChainsAdvance returns true. Conditions: the digests have 32 bytes, the tables lie in their variables. -/
import Derived.Test.YthhlfcbkggahmaaDoorWAsrt
namespace Go.Proofs.YthhlfcbkggahmaaDoor
open Go.RowKit
theorem signR_get {seed : List UInt8} {idx : Int} {d : List UInt8} (h : okSeed seed idx = true) (i : Nat) (hi : i < 18) : (signR seed idx d).getD i [] = chainOf (startOf seed idx.toNat i) (nib d i) := by
  unfold signR walkR
  rw [if_pos h]
  exact tab_getD _ i hi
theorem signR_len {seed : List UInt8} {idx : Int} {d : List UInt8} (h : okSeed seed idx = true) : (signR seed idx d).length = 18 := by
  unfold signR walkR; rw [if_pos h]; exact walkOf_len _ _ _
set_option maxRecDepth 100000 in
set_option maxHeartbeats 4000000 in
theorem ca_big (seed : List UInt8) (v : Value) (idx : Int) (a b : List UInt8) (w : World) (hv : Bytes w v seed (fun _ => True)) (ha : a.length = 32) (hb : b.length = 32) (hK : KFact w) (hc : 200 < seed.length) :
    Calls Tryd.prog 8 #[v, .int .i64 idx, .agg (cellsB a), .agg (cellsB b)] w fun e w' => e = .returned (.bool true) ∧ Below w.heap.size w w' := by
  have hkl := hK.lt
  have HA := Lib.hid ha
  have HB := Lib.hid hb
  have HSA := Lib.hid (Tryd.sizeD_of a ha)
  have HSB := Lib.hid (Tryd.sizeD_of b hb)
  clear ha hb
  obtain ⟨av, kv, rfl⟩ : ∃ a c, v = .slice a seed.length c := by obtain ⟨a, c, h, _⟩ := hv; exact ⟨a, c, h⟩
  have hb0 : Below w.heap.size w ((w.alloc (.cells (cellsB a) 23)).alloc (.cells (cellsB b) 23)) := ((Below.refl _ _).alloc (Nat.le_refl _) _).alloc (by simp) _
  have ha0 : Row ((w.alloc (.cells (cellsB a) 23)).alloc (.cells (cellsB b) 23)) w.heap.size 23 (cellsB a) := (Row.new w _ _).alloc _
  have hd0 : Row ((w.alloc (.cells (cellsB a) 23)).alloc (.cells (cellsB b) 23)) (w.heap.size + 1) 23 (cellsB b) := by
    have h := Row.new (w.alloc (.cells (cellsB a) 23)) (cellsB b) 23
    rwa [show (w.alloc (.cells (cellsB a) 23)).heap.size = w.heap.size + 1 by simp] at h
  go_enter Tryd.func8, Tryd.ntmps8
  go_wp2_with fail
  refine (sane_any _ (hK.below hb0 hkl)).mono ?_
  rintro e w1 ⟨rfl, hb1⟩
  have hB1 := hb0.trans (hb1.mono hb0.size)
  have ha1 := ha0.below hb1 ha0.lt
  have hd1 := hd0.below hb1 hd0.lt
  clear hb0 ha0 hd0 hb1
  go_wp2
  go_ret
  exact ⟨rfl, hB1⟩
set_option maxRecDepth 100000 in
set_option maxHeartbeats 4000000 in
theorem ca_no (seed : List UInt8) (v : Value) (idx : Int) (a b : List UInt8) (w : World) (hv : Bytes w v seed (fun _ => True)) (ha : a.length = 32) (hb : b.length = 32) (hK : KFact w) (hc : ¬ 200 < seed.length) (hok : okSeed seed idx = false) :
    Calls Tryd.prog 8 #[v, .int .i64 idx, .agg (cellsB a), .agg (cellsB b)] w fun e w' => e = .returned (.bool true) ∧ Below w.heap.size w w' := by
  have hkl := hK.lt
  have HA := Lib.hid ha
  have HB := Lib.hid hb
  have HSA := Lib.hid (Tryd.sizeD_of a ha)
  have HSB := Lib.hid (Tryd.sizeD_of b hb)
  clear ha hb
  obtain ⟨av, kv, rfl⟩ : ∃ a c, v = .slice a seed.length c := by obtain ⟨a, c, h, _⟩ := hv; exact ⟨a, c, h⟩
  have hb0 : Below w.heap.size w ((w.alloc (.cells (cellsB a) 23)).alloc (.cells (cellsB b) 23)) := ((Below.refl _ _).alloc (Nat.le_refl _) _).alloc (by simp) _
  have ha0 : Row ((w.alloc (.cells (cellsB a) 23)).alloc (.cells (cellsB b) 23)) w.heap.size 23 (cellsB a) := (Row.new w _ _).alloc _
  have hd0 : Row ((w.alloc (.cells (cellsB a) 23)).alloc (.cells (cellsB b) 23)) (w.heap.size + 1) 23 (cellsB b) := by
    have h := Row.new (w.alloc (.cells (cellsB a) 23)) (cellsB b) 23
    rwa [show (w.alloc (.cells (cellsB a) 23)).heap.size = w.heap.size + 1 by simp] at h
  go_enter Tryd.func8, Tryd.ntmps8
  go_wp2_with fail
  refine (sane_any _ (hK.below hb0 hkl)).mono ?_
  rintro e w1 ⟨rfl, hb1⟩
  have hB1 := hb0.trans (hb1.mono hb0.size)
  have ha1 := ha0.below hb1 ha0.lt
  have hd1 := hd0.below hb1 hd0.lt
  clear hb0 ha0 hd0 hb1
  have hv1 := (hv.later hB1).imp (ok' := fun _ => True) fun _ _ => trivial
  have HER := Lib.hid (errR_bad hok)
  go_wp2_with (refine wpList_load_row rfl 23 (.tmp 6) rfl w.heap.size rfl 23 (cellsB a) (0, 0) _ ha1 Tryd.underD rfl HSA.out ?_)
  refine (sign_any seed a _ idx w1 hv1 HA.out (hK.below hB1 hkl)).mono ?_
  rintro e w2 ⟨s1, rfl, hs1, hb2⟩
  rw [HER.out]
  have hB2 := hB1.trans (hb2.mono hB1.size)
  have ha2 := ha1.below hb2 ha1.lt
  have hd2 := hd1.below hb2 hd1.lt
  have hv2 := (hv.later hB2).imp (ok' := fun _ => True) fun _ _ => trivial
  clear hb2 ha1 hd1 hv1
  go_wp2_with (refine wpList_load_row rfl 23 (.tmp 7) rfl (w.heap.size + 1) rfl 23 (cellsB b) (0, 0) _ hd2 Tryd.underD rfl HSB.out ?_)
  refine (sign_any seed b _ idx w2 hv2 HB.out (hK.below hB2 hkl)).mono ?_
  rintro e w3 ⟨s2, rfl, hs2, hb3⟩
  rw [HER.out]
  have hB3 := hB2.trans (hb3.mono hB2.size)
  have ha3 := ha2.below hb3 ha2.lt
  have hd3 := hd2.below hb3 hd2.lt
  have hs13 := hs1.later hb3
  clear hb3 ha2 hd2 hv2 hs1
  go_wp2_with (refine wpList_load_row rfl 23 (.tmp 6) rfl w.heap.size rfl 23 (cellsB a) (0, 0) _ ha3 Tryd.underD rfl HSA.out ?_)
  refine (nibbles_any a w3 HA.out).mono ?_
  rintro e w4 ⟨u1, rfl, hu1, hb4⟩
  obtain ⟨m1, o1, k1, rfl, hk11, hk12, hbl1, hc1⟩ := hu1.cells (nibs_len _)
  have hB4 := hB3.trans (hb4.mono hB3.size)
  have hd4 := hd3.below hb4 hd3.lt
  have hs14 := hs13.later hb4
  have hs24 := hs2.later hb4
  clear hb4 ha3 hd3 hs13 hs2 hu1
  go_wp2_with (refine wpList_load_row rfl 23 (.tmp 7) rfl (w.heap.size + 1) rfl 23 (cellsB b) (0, 0) _ hd4 Tryd.underD rfl HSB.out ?_)
  refine (nibbles_any b w4 HB.out).mono ?_
  rintro e w0 ⟨u2, rfl, hu2, hb5⟩
  obtain ⟨m2, o2, k2, rfl, hk21, hk22, hbl2, hc2⟩ := hu2.cells (nibs_len _)
  have hbl0 := hB4.trans (hb5.mono hB4.size)
  have hs15 := hs14.later hb5
  have hs25 := hs24.later hb5
  have hc13 : ∀ i, i < 18 → w0.cell? ⟨m1, o1 + i, none⟩ = some (.int .i64 (nib a i : Nat)) := fun i hi => by
    have h := (hb5.cell (p := ⟨m1, o1 + i, none⟩) hbl1).trans (hc1 i hi)
    rwa [List.getD_eq_getElem?_getD, nibs_get a i hi] at h
  have hc23 : ∀ i, i < 18 → w0.cell? ⟨m2, o2 + i, none⟩ = some (.int .i64 (nib b i : Nat)) := fun i hi => by
    have h := hc2 i hi
    rwa [List.getD_eq_getElem?_getD, nibs_get b i hi] at h
  have HC1 := Lib.hid hc13
  have HC2 := Lib.hid hc23
  clear hb5 hd4 hs14 hs24 hu2 hc1 hc2 hc13 hc23 hbl1 hbl2
  go_wp2
  go_ret
  exact ⟨rfl, hbl0⟩
set_option maxRecDepth 100000 in
set_option maxHeartbeats 4000000 in
theorem ca_ok (seed : List UInt8) (v : Value) (idx : Int) (a b : List UInt8) (w : World) (hv : Bytes w v seed (fun _ => True)) (ha : a.length = 32) (hb : b.length = 32) (hK : KFact w) (hc : ¬ 200 < seed.length) (hok : okSeed seed idx = true) :
    Calls Tryd.prog 8 #[v, .int .i64 idx, .agg (cellsB a), .agg (cellsB b)] w fun e w' => e = .returned (.bool true) ∧ Below w.heap.size w w' := by
  have hkl := hK.lt
  have HA := Lib.hid ha
  have HB := Lib.hid hb
  have HSA := Lib.hid (Tryd.sizeD_of a ha)
  have HSB := Lib.hid (Tryd.sizeD_of b hb)
  clear ha hb
  obtain ⟨av, kv, rfl⟩ : ∃ a c, v = .slice a seed.length c := by obtain ⟨a, c, h, _⟩ := hv; exact ⟨a, c, h⟩
  have hb0 : Below w.heap.size w ((w.alloc (.cells (cellsB a) 23)).alloc (.cells (cellsB b) 23)) := ((Below.refl _ _).alloc (Nat.le_refl _) _).alloc (by simp) _
  have ha0 : Row ((w.alloc (.cells (cellsB a) 23)).alloc (.cells (cellsB b) 23)) w.heap.size 23 (cellsB a) := (Row.new w _ _).alloc _
  have hd0 : Row ((w.alloc (.cells (cellsB a) 23)).alloc (.cells (cellsB b) 23)) (w.heap.size + 1) 23 (cellsB b) := by
    have h := Row.new (w.alloc (.cells (cellsB a) 23)) (cellsB b) 23
    rwa [show (w.alloc (.cells (cellsB a) 23)).heap.size = w.heap.size + 1 by simp] at h
  go_enter Tryd.func8, Tryd.ntmps8
  go_wp2_with fail
  refine (sane_any _ (hK.below hb0 hkl)).mono ?_
  rintro e w1 ⟨rfl, hb1⟩
  have hB1 := hb0.trans (hb1.mono hb0.size)
  have ha1 := ha0.below hb1 ha0.lt
  have hd1 := hd0.below hb1 hd0.lt
  clear hb0 ha0 hd0 hb1
  have hv1 := (hv.later hB1).imp (ok' := fun _ => True) fun _ _ => trivial
  have HER := Lib.hid (errR_ok hok)
  go_wp2_with (refine wpList_load_row rfl 23 (.tmp 6) rfl w.heap.size rfl 23 (cellsB a) (0, 0) _ ha1 Tryd.underD rfl HSA.out ?_)
  refine (sign_any seed a _ idx w1 hv1 HA.out (hK.below hB1 hkl)).mono ?_
  rintro e w2 ⟨s1, rfl, hs1, hb2⟩
  rw [HER.out]
  have hB2 := hB1.trans (hb2.mono hB1.size)
  have ha2 := ha1.below hb2 ha1.lt
  have hd2 := hd1.below hb2 hd1.lt
  have hv2 := (hv.later hB2).imp (ok' := fun _ => True) fun _ _ => trivial
  clear hb2 ha1 hd1 hv1
  go_wp2_with (refine wpList_load_row rfl 23 (.tmp 7) rfl (w.heap.size + 1) rfl 23 (cellsB b) (0, 0) _ hd2 Tryd.underD rfl HSB.out ?_)
  refine (sign_any seed b _ idx w2 hv2 HB.out (hK.below hB2 hkl)).mono ?_
  rintro e w3 ⟨s2, rfl, hs2, hb3⟩
  rw [HER.out]
  have hB3 := hB2.trans (hb3.mono hB2.size)
  have ha3 := ha2.below hb3 ha2.lt
  have hd3 := hd2.below hb3 hd2.lt
  have hs13 := hs1.later hb3
  clear hb3 ha2 hd2 hv2 hs1
  go_wp2_with (refine wpList_load_row rfl 23 (.tmp 6) rfl w.heap.size rfl 23 (cellsB a) (0, 0) _ ha3 Tryd.underD rfl HSA.out ?_)
  refine (nibbles_any a w3 HA.out).mono ?_
  rintro e w4 ⟨u1, rfl, hu1, hb4⟩
  obtain ⟨m1, o1, k1, rfl, hk11, hk12, hbl1, hc1⟩ := hu1.cells (nibs_len _)
  have hB4 := hB3.trans (hb4.mono hB3.size)
  have hd4 := hd3.below hb4 hd3.lt
  have hs14 := hs13.later hb4
  have hs24 := hs2.later hb4
  clear hb4 ha3 hd3 hs13 hs2 hu1
  go_wp2_with (refine wpList_load_row rfl 23 (.tmp 7) rfl (w.heap.size + 1) rfl 23 (cellsB b) (0, 0) _ hd4 Tryd.underD rfl HSB.out ?_)
  refine (nibbles_any b w4 HB.out).mono ?_
  rintro e w0 ⟨u2, rfl, hu2, hb5⟩
  obtain ⟨m2, o2, k2, rfl, hk21, hk22, hbl2, hc2⟩ := hu2.cells (nibs_len _)
  have hbl0 := hB4.trans (hb5.mono hB4.size)
  have hs15 := hs14.later hb5
  have hs25 := hs24.later hb5
  have hc13 : ∀ i, i < 18 → w0.cell? ⟨m1, o1 + i, none⟩ = some (.int .i64 (nib a i : Nat)) := fun i hi => by
    have h := (hb5.cell (p := ⟨m1, o1 + i, none⟩) hbl1).trans (hc1 i hi)
    rwa [List.getD_eq_getElem?_getD, nibs_get a i hi] at h
  have hc23 : ∀ i, i < 18 → w0.cell? ⟨m2, o2 + i, none⟩ = some (.int .i64 (nib b i : Nat)) := fun i hi => by
    have h := hc2 i hi
    rwa [List.getD_eq_getElem?_getD, nibs_get b i hi] at h
  have HC1 := Lib.hid hc13
  have HC2 := Lib.hid hc23
  clear hb5 hd4 hs14 hs24 hu2 hc1 hc2 hc13 hc23 hbl1 hbl2
  have HLA := Lib.hid (signR_len (d := a) hok)
  have HLB := Lib.hid (signR_len (d := b) hok)
  have HGA := Lib.hid (fun i hi => signR_get (d := a) hok i hi)
  have HGB := Lib.hid (fun i hi => signR_get (d := b) hok i hi)
  have H32A : Hid (all32 (signR seed idx a)) := walkR_32 _ _ _
  have H32B : Hid (all32 (signR seed idx b)) := walkR_32 _ _ _
  clear hok
  generalize signR seed idx a = sa at *
  generalize signR seed idx b = sb at *
  obtain ⟨a1, c1, he1⟩ := hs15.form
  obtain ⟨a2, c2, he2⟩ := hs25.form
  rw [HLA.out] at he1
  rw [HLB.out] at he2
  subst he1
  subst he2
  obtain ⟨q1, r1, rfl, -, hkq1, hkq2, hat1⟩ := hs15.at (by decide)
  obtain ⟨q2, r2, rfl, -, hkq3, hkq4, hat2⟩ := hs25.at (by decide)
  have HT1 := Lib.hid hat1
  have HT2 := Lib.hid hat2
  clear hs15 hs25 hat1 hat2
  have hK0 := hK.below hbl0 hkl
  go_wp2
  go_loopw [15] (fun t wr => ∃ i : Nat, i ≤ 18 ∧ t = .int .i64 (i : Int) ∧ Below w0.heap.size w0 wr) (fun t _ => 18 - (intOf t).toNat)
  case atStart => exact ⟨0, by omega, rfl, Below.refl _ _⟩
  case round =>
    obtain ⟨i, hi, rfl, hbr⟩ := hrel
    by_cases hlt : i < 18
    · have g1 : wr.cell? ⟨m1, o1 + i, none⟩ = some (.int .i64 (nib a i : Nat)) := (hbr.cell (p := ⟨m1, o1 + i, none⟩) (block_lt_of_cell (HC1.out i hlt))).trans (HC1.out i hlt)
      have g2 : wr.cell? ⟨m2, o2 + i, none⟩ = some (.int .i64 (nib b i : Nat)) := (hbr.cell (p := ⟨m2, o2 + i, none⟩) (block_lt_of_cell (HC2.out i hlt))).trans (HC2.out i hlt)
      have e1 : wr.rangeAt q1 (r1 + i * 32) ((sa.getD i []).map B8) := range_below (HT1.out.elem H32A.out i (by rw [HLA.out]; exact hlt)) hbr
      have e2 : wr.rangeAt q2 (r2 + i * 32) ((sb.getD i []).map B8) := range_below (HT2.out.elem H32B.out i (by rw [HLB.out]; exact hlt)) hbr
      have l1 := all32_getD H32A.out i (by rw [HLA.out]; exact hlt)
      have l2 := all32_getD H32B.out i (by rw [HLB.out]; exact hlt)
      have x15 := nib_le a i
      have y15 := nib_le b i
      have hga := HGA.out i hlt
      have hgb := HGB.out i hlt
      have hKr := hK0.below hbr hK0.lt
      have hi1 : (i : Int) < 18 := by omega
      have hch1 : nib a i ≤ nib b i → chainOf (sa.getD i []) (nib b i - nib a i) = sb.getD i [] := fun h => by rw [hga, hgb, chain_add, show nib a i + (nib b i - nib a i) = nib b i by omega]
      have hch2 : nib b i ≤ nib a i → chainOf (sb.getD i []) (nib a i - nib b i) = sa.getD i [] := fun h => by rw [hga, hgb, chain_add, show nib b i + (nib a i - nib b i) = nib a i by omega]
      clear hga hgb
      generalize nib a i = x at *
      generalize nib b i = y at *
      generalize sa.getD i [] = dx at *
      generalize sb.getD i [] = Y at *
      have L1 := Lib.hid l1
      have L2 := Lib.hid l2
      clear l1 l2
      by_cases hxy : x ≤ y
      · obtain ⟨z, hz⟩ : ∃ z, y - x = z := ⟨_, rfl⟩
        have hch := hch1 hxy
        rw [hz] at hch
        have HCH := Lib.hid hch
        have hz1 : IntKind.i64.wrap ((y : Int) - (x : Int)) = (y : Int) - (x : Int) := IntWalk.i64_in _ (by omega)
        have HXZ : Hid ((y : Int) - (x : Int) = (z : Int)) := Lib.hid (by omega)
        have HZB : Hid (z ≤ 15) := Lib.hid (by omega)
        have hxy1 : (x : Int) ≤ (y : Int) := by omega
        have hxy2 : ¬ (y : Int) < (x : Int) := by omega
        have hxy3 : ¬ y < x := by omega
        clear hch hch1 hch2 hz
        go_wp2
        obtain ⟨B, eB⟩ : ∃ B, wr.heap.size = B := ⟨_, rfl⟩
        have hltk := hKr.lt
        refine wp_gen fun a0 ha0 => ?_
        have i13 : a0.eval (.tmp 13) = .slice (some ⟨m1, o1, none⟩) 18 k1 := by rw [ha0]; rfl
        have i14 : a0.eval (.tmp 14) = .slice (some ⟨m2, o2, none⟩) 18 k2 := by rw [ha0]; rfl
        have i9 : a0.eval (.tmp 9) = .slice (some ⟨q1, r1, none⟩) 18 c1 := by rw [ha0]; rfl
        have i11 : a0.eval (.tmp 11) = .slice (some ⟨q2, r2, none⟩) 18 c2 := by rw [ha0]; rfl
        have i15 : a0.eval (.tmp 15) = .int .i64 (i : Int) := by rw [ha0]; rfl
        have hsz : a0.tmps.size = 132 := by rw [ha0]; rfl
        refine wp_region_inv (B := B) [some 70, some 71, some 72, some 73, some 74, some 75, some 76, some 77, some 78, some 79, some 80, some 81, some 82, some 83, some 84, some 85, some 86, some 87, some 88, some 89, some 90, some 91, some 92, some 93, some 94, some 95, some 96, some 97, some 98, some 99, some 100, some 101, some 102, some 103, some 104, some 105, some 106, some 107, some 108, some 109, some 110, some 111, some 112, some 113, some 114, some 115, some 116, some 117, some 118, some 119, some 120, some 121, some 122, some 123, some 124, some 125, some 126, some 127, some 128, some 129, some 130, some 131] [Asrt.eq (.slice (some ⟨m1, o1, none⟩) 18 k1), Asrt.eq (.int .i64 (i : Int)), Asrt.eq (.pointer (some ⟨m1, o1 + i, none⟩)), Asrt.eq (.int .i64 (x : Int)), Asrt.eq (.slice (some ⟨m2, o2, none⟩) 18 k2), Asrt.eq (.int .i64 (i : Int)), Asrt.eq (.pointer (some ⟨m2, o2 + i, none⟩)), Asrt.eq (.int .i64 (y : Int)), Asrt.eq (.bool true), Asrt.eq (.bool true), Asrt.eq (.slice (some ⟨q1, r1, none⟩) 18 c1), Asrt.eq (.int .i64 (i : Int)), Asrt.eq (.pointer (some ⟨q1, r1 + i * 32, none⟩)), Asrt.eq (.agg (cellsB (dx))), Asrt.eq (.slice (some ⟨m2, o2, none⟩) 18 k2), Asrt.eq (.int .i64 (i : Int)), Asrt.eq (.pointer (some ⟨m2, o2 + i, none⟩)), Asrt.eq (.int .i64 (y : Int)), Asrt.eq (.slice (some ⟨m1, o1, none⟩) 18 k1), Asrt.eq (.int .i64 (i : Int)), Asrt.eq (.pointer (some ⟨m1, o1 + i, none⟩)), Asrt.eq (.int .i64 (x : Int)), Asrt.eq (.int .i64 ((y : Int) - (x : Int))), Asrt.eq (.agg (cellsB (Y))), Asrt.eq (.slice (some ⟨q2, r2, none⟩) 18 c2), Asrt.eq (.int .i64 (i : Int)), Asrt.eq (.pointer (some ⟨q2, r2 + i * 32, none⟩)), Asrt.eq (.agg (cellsB (Y))), Asrt.eq (.bool false), Asrt.eq (.bool false), Asrt.eq (.bool false), Asrt.eq (.slice (some ⟨m1, o1, none⟩) 18 k1), Asrt.eq (.int .i64 (i : Int)), Asrt.eq (.pointer (some ⟨m1, o1 + i, none⟩)), Asrt.eq (.int .i64 (x : Int)), Asrt.eq (.slice (some ⟨m2, o2, none⟩) 18 k2), Asrt.eq (.int .i64 (i : Int)), Asrt.eq (.pointer (some ⟨m2, o2 + i, none⟩)), Asrt.eq (.int .i64 (y : Int)), Asrt.eq (.bool false), Asrt.eq (.bool false), Asrt.any, Asrt.any, Asrt.any, Asrt.any, Asrt.any, Asrt.any, Asrt.any, Asrt.any, Asrt.any, Asrt.any, Asrt.any, Asrt.any, Asrt.any, Asrt.any, Asrt.any, Asrt.any, Asrt.any, Asrt.any, Asrt.any, Asrt.eq (.bool false), Asrt.eq (.bool false)] rfl (by as_aux_lemma => kernel_rfl) (by rw [hsz]; as_aux_lemma => kernel_rfl) (by as_aux_lemma => kernel_rfl) (by omega) ⟨?_, ?_, ?_, ?_, ?_, ?_, ?_, ?_, ?_, ?_, ?_, ?_, ?_, ?_, ?_, ?_, ?_, ?_, ?_, ?_, ?_, ?_, ?_, ?_, ?_, ?_, ?_, ?_, ?_, ?_, ?_, ?_, ?_, ?_, ?_, ?_, ?_, ?_, ?_, ?_, ?_, ?_, ?_, ?_, ?_, ?_, ?_, ?_, ?_, ?_, ?_, ?_, ?_, ?_, ?_, ?_, ?_, ?_, ?_, ?_, ?_, ?_, trivial⟩ ?_
        · as_aux_lemma =>
            intro ev w1 hg hin hc hgl hfn hd
            have hB := hg.top
            have g13 : ev (.tmp 13) = .slice (some ⟨m1, o1, none⟩) 18 k1 := (hin 13 (by kernel_rfl)).trans i13
            clear hin hd
            refine step_on (guard_none rfl) fun K hK => ?_
            unfold YieldsG
            go_simp
            exact hK _ _ rfl (Grow.refl hB)
        · as_aux_lemma =>
            intro ev w1 hg hin hc hgl hfn hd
            have hB := hg.top
            have g15 : ev (.tmp 15) = .int .i64 (i : Int) := (hin 15 (by kernel_rfl)).trans i15
            clear hin hd
            refine step_on (guard_none rfl) fun K hK => ?_
            unfold YieldsG
            go_simp
            exact hK _ _ rfl (Grow.refl hB)
        · as_aux_lemma =>
            intro ev w1 hg hin hc hgl hfn hd
            have hB := hg.top
            have f70 : (ev (.tmp 70)) = .slice (some ⟨m1, o1, none⟩) 18 k1 := hd.1 rfl _ rfl
            have f71 : (ev (.tmp 71)) = .int .i64 (i : Int) := hd.2.1 rfl _ rfl
            clear hin hd
            refine step_on (guard_none rfl) fun K hK => ?_
            unfold YieldsG
            go_simp
            exact hK _ _ rfl (Grow.refl hB)
        · as_aux_lemma =>
            intro ev w1 hg hin hc hgl hfn hd
            have hB := hg.top
            have f72 : (ev (.tmp 72)) = .pointer (some ⟨m1, o1 + i, none⟩) := hd.1 rfl _ rfl
            clear hin hd
            refine step_on (guard_none rfl) fun K hK => ?_
            have hc1 := hg.cell g1
            unfold YieldsG
            go_simp
            exact hK _ _ rfl (Grow.refl hB)
        · as_aux_lemma =>
            intro ev w1 hg hin hc hgl hfn hd
            have hB := hg.top
            have g14 : ev (.tmp 14) = .slice (some ⟨m2, o2, none⟩) 18 k2 := (hin 14 (by kernel_rfl)).trans i14
            clear hin hd
            refine step_on (guard_none rfl) fun K hK => ?_
            unfold YieldsG
            go_simp
            exact hK _ _ rfl (Grow.refl hB)
        · as_aux_lemma =>
            intro ev w1 hg hin hc hgl hfn hd
            have hB := hg.top
            have g15 : ev (.tmp 15) = .int .i64 (i : Int) := (hin 15 (by kernel_rfl)).trans i15
            clear hin hd
            refine step_on (guard_none rfl) fun K hK => ?_
            unfold YieldsG
            go_simp
            exact hK _ _ rfl (Grow.refl hB)
        · as_aux_lemma =>
            intro ev w1 hg hin hc hgl hfn hd
            have hB := hg.top
            have f74 : (ev (.tmp 74)) = .slice (some ⟨m2, o2, none⟩) 18 k2 := hd.1 rfl _ rfl
            have f75 : (ev (.tmp 75)) = .int .i64 (i : Int) := hd.2.1 rfl _ rfl
            clear hin hd
            refine step_on (guard_none rfl) fun K hK => ?_
            unfold YieldsG
            go_simp
            exact hK _ _ rfl (Grow.refl hB)
        · as_aux_lemma =>
            intro ev w1 hg hin hc hgl hfn hd
            have hB := hg.top
            have f76 : (ev (.tmp 76)) = .pointer (some ⟨m2, o2 + i, none⟩) := hd.1 rfl _ rfl
            clear hin hd
            refine step_on (guard_none rfl) fun K hK => ?_
            have hc1 := hg.cell g2
            unfold YieldsG
            go_simp
            exact hK _ _ rfl (Grow.refl hB)
        · as_aux_lemma =>
            intro ev w1 hg hin hc hgl hfn hd
            have hB := hg.top
            have f73 : (ev (.tmp 73)) = .int .i64 (x : Int) := hd.1 rfl _ rfl
            have f77 : (ev (.tmp 77)) = .int .i64 (y : Int) := hd.2.1 rfl _ rfl
            clear hin hd
            refine step_on (guard_none rfl) fun K hK => ?_
            unfold YieldsG
            go_simp
            exact hK _ _ rfl (Grow.refl hB)
        · as_aux_lemma =>
            intro ev w1 hg hin hc hgl hfn hd
            have hB := hg.top
            have f78 : (ev (.tmp 78)) = .bool true := hd.1 rfl _ rfl
            clear hin hd
            refine step_on (guard_none rfl) fun K hK => ?_
            unfold YieldsG
            go_simp
            exact hK _ _ rfl (Grow.refl hB)
        · as_aux_lemma =>
            intro ev w1 hg hin hc hgl hfn hd
            have hB := hg.top
            have f79 : (ev (.tmp 79)) = .bool true := hd.1 rfl _ rfl
            have g9 : ev (.tmp 9) = .slice (some ⟨q1, r1, none⟩) 18 c1 := (hin 9 (by kernel_rfl)).trans i9
            clear hin hd
            refine step_on (guard_some rfl rfl f79) fun K hK => ?_
            unfold YieldsG
            go_simp
            exact hK _ _ rfl (Grow.refl hB)
        · as_aux_lemma =>
            intro ev w1 hg hin hc hgl hfn hd
            have hB := hg.top
            have f79 : (ev (.tmp 79)) = .bool true := hd.1 rfl _ rfl
            have g15 : ev (.tmp 15) = .int .i64 (i : Int) := (hin 15 (by kernel_rfl)).trans i15
            clear hin hd
            refine step_on (guard_some rfl rfl f79) fun K hK => ?_
            unfold YieldsG
            go_simp
            exact hK _ _ rfl (Grow.refl hB)
        · as_aux_lemma =>
            intro ev w1 hg hin hc hgl hfn hd
            have hB := hg.top
            have f80 : (ev (.tmp 80)) = .slice (some ⟨q1, r1, none⟩) 18 c1 := hd.1 rfl _ rfl
            have f81 : (ev (.tmp 81)) = .int .i64 (i : Int) := hd.2.1 rfl _ rfl
            have f79 : (ev (.tmp 79)) = .bool true := hd.2.2.1 rfl _ rfl
            clear hin hd
            refine step_on (guard_some rfl rfl f79) fun K hK => ?_
            unfold YieldsG
            go_simp
            exact hK _ _ rfl (Grow.refl hB)
        · as_aux_lemma =>
            intro ev w1 hg hin hc hgl hfn hd
            have hB := hg.top
            have f82 : (ev (.tmp 82)) = .pointer (some ⟨q1, r1 + i * 32, none⟩) := hd.1 rfl _ rfl
            have f79 : (ev (.tmp 79)) = .bool true := hd.2.1 rfl _ rfl
            clear hin hd
            refine step_on (guard_some rfl rfl f79) fun K hK => ?_
            refine yg_load_mid 23 (.tmp 82) rfl q1 (r1 + i * 32) f82 (dx.map B8) _ (range_below e1 (by rw [eB]; exact hg.bl)) Tryd.underD rfl (by rw [List.length_map, L1.out]; exact Tryd.sizeD) ?_
            exact hK _ _ rfl (Grow.refl hB)
        · as_aux_lemma =>
            intro ev w1 hg hin hc hgl hfn hd
            have hB := hg.top
            have f79 : (ev (.tmp 79)) = .bool true := hd.1 rfl _ rfl
            have g14 : ev (.tmp 14) = .slice (some ⟨m2, o2, none⟩) 18 k2 := (hin 14 (by kernel_rfl)).trans i14
            clear hin hd
            refine step_on (guard_some rfl rfl f79) fun K hK => ?_
            unfold YieldsG
            go_simp
            exact hK _ _ rfl (Grow.refl hB)
        · as_aux_lemma =>
            intro ev w1 hg hin hc hgl hfn hd
            have hB := hg.top
            have f79 : (ev (.tmp 79)) = .bool true := hd.1 rfl _ rfl
            have g15 : ev (.tmp 15) = .int .i64 (i : Int) := (hin 15 (by kernel_rfl)).trans i15
            clear hin hd
            refine step_on (guard_some rfl rfl f79) fun K hK => ?_
            unfold YieldsG
            go_simp
            exact hK _ _ rfl (Grow.refl hB)
        · as_aux_lemma =>
            intro ev w1 hg hin hc hgl hfn hd
            have hB := hg.top
            have f84 : (ev (.tmp 84)) = .slice (some ⟨m2, o2, none⟩) 18 k2 := hd.1 rfl _ rfl
            have f85 : (ev (.tmp 85)) = .int .i64 (i : Int) := hd.2.1 rfl _ rfl
            have f79 : (ev (.tmp 79)) = .bool true := hd.2.2.1 rfl _ rfl
            clear hin hd
            refine step_on (guard_some rfl rfl f79) fun K hK => ?_
            unfold YieldsG
            go_simp
            exact hK _ _ rfl (Grow.refl hB)
        · as_aux_lemma =>
            intro ev w1 hg hin hc hgl hfn hd
            have hB := hg.top
            have f86 : (ev (.tmp 86)) = .pointer (some ⟨m2, o2 + i, none⟩) := hd.1 rfl _ rfl
            have f79 : (ev (.tmp 79)) = .bool true := hd.2.1 rfl _ rfl
            clear hin hd
            refine step_on (guard_some rfl rfl f79) fun K hK => ?_
            have hc1 := hg.cell g2
            unfold YieldsG
            go_simp
            exact hK _ _ rfl (Grow.refl hB)
        · as_aux_lemma =>
            intro ev w1 hg hin hc hgl hfn hd
            have hB := hg.top
            have f79 : (ev (.tmp 79)) = .bool true := hd.1 rfl _ rfl
            have g13 : ev (.tmp 13) = .slice (some ⟨m1, o1, none⟩) 18 k1 := (hin 13 (by kernel_rfl)).trans i13
            clear hin hd
            refine step_on (guard_some rfl rfl f79) fun K hK => ?_
            unfold YieldsG
            go_simp
            exact hK _ _ rfl (Grow.refl hB)
        · as_aux_lemma =>
            intro ev w1 hg hin hc hgl hfn hd
            have hB := hg.top
            have f79 : (ev (.tmp 79)) = .bool true := hd.1 rfl _ rfl
            have g15 : ev (.tmp 15) = .int .i64 (i : Int) := (hin 15 (by kernel_rfl)).trans i15
            clear hin hd
            refine step_on (guard_some rfl rfl f79) fun K hK => ?_
            unfold YieldsG
            go_simp
            exact hK _ _ rfl (Grow.refl hB)
        · as_aux_lemma =>
            intro ev w1 hg hin hc hgl hfn hd
            have hB := hg.top
            have f88 : (ev (.tmp 88)) = .slice (some ⟨m1, o1, none⟩) 18 k1 := hd.1 rfl _ rfl
            have f89 : (ev (.tmp 89)) = .int .i64 (i : Int) := hd.2.1 rfl _ rfl
            have f79 : (ev (.tmp 79)) = .bool true := hd.2.2.1 rfl _ rfl
            clear hin hd
            refine step_on (guard_some rfl rfl f79) fun K hK => ?_
            unfold YieldsG
            go_simp
            exact hK _ _ rfl (Grow.refl hB)
        · as_aux_lemma =>
            intro ev w1 hg hin hc hgl hfn hd
            have hB := hg.top
            have f90 : (ev (.tmp 90)) = .pointer (some ⟨m1, o1 + i, none⟩) := hd.1 rfl _ rfl
            have f79 : (ev (.tmp 79)) = .bool true := hd.2.1 rfl _ rfl
            clear hin hd
            refine step_on (guard_some rfl rfl f79) fun K hK => ?_
            have hc1 := hg.cell g1
            unfold YieldsG
            go_simp
            exact hK _ _ rfl (Grow.refl hB)
        · as_aux_lemma =>
            intro ev w1 hg hin hc hgl hfn hd
            have hB := hg.top
            have f87 : (ev (.tmp 87)) = .int .i64 (y : Int) := hd.1 rfl _ rfl
            have f91 : (ev (.tmp 91)) = .int .i64 (x : Int) := hd.2.1 rfl _ rfl
            have f79 : (ev (.tmp 79)) = .bool true := hd.2.2.1 rfl _ rfl
            clear hin hd
            refine step_on (guard_some rfl rfl f79) fun K hK => ?_
            unfold YieldsG
            go_simp
            exact hK _ _ rfl (Grow.refl hB)
        · as_aux_lemma =>
            intro ev w1 hg hin hc hgl hfn hd
            have hB := hg.top
            have f83 : (ev (.tmp 83)) = .agg (cellsB (dx)) := hd.1 rfl _ rfl
            have f92 : (ev (.tmp 92)) = .int .i64 ((y : Int) - (x : Int)) := hd.2.1 rfl _ rfl
            have f79 : (ev (.tmp 79)) = .bool true := hd.2.2.1 rfl _ rfl
            clear hin hd
            refine step_on (guard_some rfl rfl f79) fun K hK => ?_
            rw [HXZ.out] at f92
            unfold YieldsG
            go_simp
            refine (chain_any dx (z : Int) w1 L1.out (by omega) (by have := HZB.out; omega) (hKr.below hg.bl (by omega))).mono ?_
            rintro e w2 ⟨rfl, hb⟩
            exact ⟨_, rfl, hK _ _ (by show Value.agg _ = _; rw [Int.toNat_natCast, HCH.out]) (Grow.of hB hb)⟩
        · as_aux_lemma =>
            intro ev w1 hg hin hc hgl hfn hd
            have hB := hg.top
            have f79 : (ev (.tmp 79)) = .bool true := hd.1 rfl _ rfl
            have g11 : ev (.tmp 11) = .slice (some ⟨q2, r2, none⟩) 18 c2 := (hin 11 (by kernel_rfl)).trans i11
            clear hin hd
            refine step_on (guard_some rfl rfl f79) fun K hK => ?_
            unfold YieldsG
            go_simp
            exact hK _ _ rfl (Grow.refl hB)
        · as_aux_lemma =>
            intro ev w1 hg hin hc hgl hfn hd
            have hB := hg.top
            have f79 : (ev (.tmp 79)) = .bool true := hd.1 rfl _ rfl
            have g15 : ev (.tmp 15) = .int .i64 (i : Int) := (hin 15 (by kernel_rfl)).trans i15
            clear hin hd
            refine step_on (guard_some rfl rfl f79) fun K hK => ?_
            unfold YieldsG
            go_simp
            exact hK _ _ rfl (Grow.refl hB)
        · as_aux_lemma =>
            intro ev w1 hg hin hc hgl hfn hd
            have hB := hg.top
            have f94 : (ev (.tmp 94)) = .slice (some ⟨q2, r2, none⟩) 18 c2 := hd.1 rfl _ rfl
            have f95 : (ev (.tmp 95)) = .int .i64 (i : Int) := hd.2.1 rfl _ rfl
            have f79 : (ev (.tmp 79)) = .bool true := hd.2.2.1 rfl _ rfl
            clear hin hd
            refine step_on (guard_some rfl rfl f79) fun K hK => ?_
            unfold YieldsG
            go_simp
            exact hK _ _ rfl (Grow.refl hB)
        · as_aux_lemma =>
            intro ev w1 hg hin hc hgl hfn hd
            have hB := hg.top
            have f96 : (ev (.tmp 96)) = .pointer (some ⟨q2, r2 + i * 32, none⟩) := hd.1 rfl _ rfl
            have f79 : (ev (.tmp 79)) = .bool true := hd.2.1 rfl _ rfl
            clear hin hd
            refine step_on (guard_some rfl rfl f79) fun K hK => ?_
            refine yg_load_mid 23 (.tmp 96) rfl q2 (r2 + i * 32) f96 (Y.map B8) _ (range_below e2 (by rw [eB]; exact hg.bl)) Tryd.underD rfl (by rw [List.length_map, L2.out]; exact Tryd.sizeD) ?_
            exact hK _ _ rfl (Grow.refl hB)
        · as_aux_lemma =>
            intro ev w1 hg hin hc hgl hfn hd
            have hB := hg.top
            have f93 : (ev (.tmp 93)) = .agg (cellsB (Y)) := hd.1 rfl _ rfl
            have f97 : (ev (.tmp 97)) = .agg (cellsB (Y)) := hd.2.1 rfl _ rfl
            have f79 : (ev (.tmp 79)) = .bool true := hd.2.2.1 rfl _ rfl
            clear hin hd
            refine step_on (guard_some rfl rfl f79) fun K hK => ?_
            unfold YieldsG execOp
            simp only [f93, f97, Sem.run_bind, neq_digest Y Y L2.out L2.out]
            exact hK _ _ (by simp only [decide_true]; rfl) (Grow.refl hB)
        · as_aux_lemma =>
            intro ev w1 hg hin hc hgl hfn hd
            have hB := hg.top
            have f79 : (ev (.tmp 79)) = .bool true := hd.1 rfl _ rfl
            have f98 : (ev (.tmp 98)) = .bool false := hd.2.1 rfl _ rfl
            clear hin hd
            refine step_on (guard_none rfl) fun K hK => ?_
            unfold YieldsG
            go_simp
            exact hK _ _ rfl (Grow.refl hB)
        · as_aux_lemma =>
            intro ev w1 hg hin hc hgl hfn hd
            have hB := hg.top
            have f99 : (ev (.tmp 99)) = .bool false := hd.1 rfl _ rfl
            clear hin hd
            refine step_on (guard_none rfl) fun K hK => ?_
            unfold YieldsG
            go_simp
            exact hK _ _ rfl (Grow.refl hB)
        · as_aux_lemma =>
            intro ev w1 hg hin hc hgl hfn hd
            have hB := hg.top
            have f100 : (ev (.tmp 100)) = .bool false := hd.1 rfl _ rfl
            have g13 : ev (.tmp 13) = .slice (some ⟨m1, o1, none⟩) 18 k1 := (hin 13 (by kernel_rfl)).trans i13
            clear hin hd
            refine step_on (guard_some rfl rfl f100) fun K hK => ?_
            unfold YieldsG
            go_simp
            exact hK _ _ rfl (Grow.refl hB)
        · as_aux_lemma =>
            intro ev w1 hg hin hc hgl hfn hd
            have hB := hg.top
            have f100 : (ev (.tmp 100)) = .bool false := hd.1 rfl _ rfl
            have g15 : ev (.tmp 15) = .int .i64 (i : Int) := (hin 15 (by kernel_rfl)).trans i15
            clear hin hd
            refine step_on (guard_some rfl rfl f100) fun K hK => ?_
            unfold YieldsG
            go_simp
            exact hK _ _ rfl (Grow.refl hB)
        · as_aux_lemma =>
            intro ev w1 hg hin hc hgl hfn hd
            have hB := hg.top
            have f101 : (ev (.tmp 101)) = .slice (some ⟨m1, o1, none⟩) 18 k1 := hd.1 rfl _ rfl
            have f102 : (ev (.tmp 102)) = .int .i64 (i : Int) := hd.2.1 rfl _ rfl
            have f100 : (ev (.tmp 100)) = .bool false := hd.2.2.1 rfl _ rfl
            clear hin hd
            refine step_on (guard_some rfl rfl f100) fun K hK => ?_
            unfold YieldsG
            go_simp
            exact hK _ _ rfl (Grow.refl hB)
        · as_aux_lemma =>
            intro ev w1 hg hin hc hgl hfn hd
            have hB := hg.top
            have f103 : (ev (.tmp 103)) = .pointer (some ⟨m1, o1 + i, none⟩) := hd.1 rfl _ rfl
            have f100 : (ev (.tmp 100)) = .bool false := hd.2.1 rfl _ rfl
            clear hin hd
            refine step_on (guard_some rfl rfl f100) fun K hK => ?_
            have hc1 := hg.cell g1
            unfold YieldsG
            go_simp
            exact hK _ _ rfl (Grow.refl hB)
        · as_aux_lemma =>
            intro ev w1 hg hin hc hgl hfn hd
            have hB := hg.top
            have f100 : (ev (.tmp 100)) = .bool false := hd.1 rfl _ rfl
            have g14 : ev (.tmp 14) = .slice (some ⟨m2, o2, none⟩) 18 k2 := (hin 14 (by kernel_rfl)).trans i14
            clear hin hd
            refine step_on (guard_some rfl rfl f100) fun K hK => ?_
            unfold YieldsG
            go_simp
            exact hK _ _ rfl (Grow.refl hB)
        · as_aux_lemma =>
            intro ev w1 hg hin hc hgl hfn hd
            have hB := hg.top
            have f100 : (ev (.tmp 100)) = .bool false := hd.1 rfl _ rfl
            have g15 : ev (.tmp 15) = .int .i64 (i : Int) := (hin 15 (by kernel_rfl)).trans i15
            clear hin hd
            refine step_on (guard_some rfl rfl f100) fun K hK => ?_
            unfold YieldsG
            go_simp
            exact hK _ _ rfl (Grow.refl hB)
        · as_aux_lemma =>
            intro ev w1 hg hin hc hgl hfn hd
            have hB := hg.top
            have f105 : (ev (.tmp 105)) = .slice (some ⟨m2, o2, none⟩) 18 k2 := hd.1 rfl _ rfl
            have f106 : (ev (.tmp 106)) = .int .i64 (i : Int) := hd.2.1 rfl _ rfl
            have f100 : (ev (.tmp 100)) = .bool false := hd.2.2.1 rfl _ rfl
            clear hin hd
            refine step_on (guard_some rfl rfl f100) fun K hK => ?_
            unfold YieldsG
            go_simp
            exact hK _ _ rfl (Grow.refl hB)
        · as_aux_lemma =>
            intro ev w1 hg hin hc hgl hfn hd
            have hB := hg.top
            have f107 : (ev (.tmp 107)) = .pointer (some ⟨m2, o2 + i, none⟩) := hd.1 rfl _ rfl
            have f100 : (ev (.tmp 100)) = .bool false := hd.2.1 rfl _ rfl
            clear hin hd
            refine step_on (guard_some rfl rfl f100) fun K hK => ?_
            have hc1 := hg.cell g2
            unfold YieldsG
            go_simp
            exact hK _ _ rfl (Grow.refl hB)
        · as_aux_lemma =>
            intro ev w1 hg hin hc hgl hfn hd
            have hB := hg.top
            have f104 : (ev (.tmp 104)) = .int .i64 (x : Int) := hd.1 rfl _ rfl
            have f108 : (ev (.tmp 108)) = .int .i64 (y : Int) := hd.2.1 rfl _ rfl
            have f100 : (ev (.tmp 100)) = .bool false := hd.2.2.1 rfl _ rfl
            clear hin hd
            refine step_on (guard_some rfl rfl f100) fun K hK => ?_
            unfold YieldsG
            go_simp
            exact hK _ _ rfl (Grow.refl hB)
        · as_aux_lemma =>
            intro ev w1 hg hin hc hgl hfn hd
            have hB := hg.top
            have f109 : (ev (.tmp 109)) = .bool false := hd.1 rfl _ rfl
            have f100 : (ev (.tmp 100)) = .bool false := hd.2.1 rfl _ rfl
            clear hin hd
            refine step_on (guard_some rfl rfl f100) fun K hK => ?_
            unfold YieldsG
            go_simp
            exact hK _ _ rfl (Grow.refl hB)
        · as_aux_lemma =>
            intro ev w1 hg hin hc hgl hfn hd
            have hB := hg.top
            have f110 : (ev (.tmp 110)) = .bool false := hd.1 rfl _ rfl
            have g11 : ev (.tmp 11) = .slice (some ⟨q2, r2, none⟩) 18 c2 := (hin 11 (by kernel_rfl)).trans i11
            clear hin hd
            exact step_off (guard_off rfl rfl f110 (by decide)) trivial
        · as_aux_lemma =>
            intro ev w1 hg hin hc hgl hfn hd
            have hB := hg.top
            have f110 : (ev (.tmp 110)) = .bool false := hd.1 rfl _ rfl
            have g15 : ev (.tmp 15) = .int .i64 (i : Int) := (hin 15 (by kernel_rfl)).trans i15
            clear hin hd
            exact step_off (guard_off rfl rfl f110 (by decide)) trivial
        · as_aux_lemma =>
            intro ev w1 hg hin hc hgl hfn hd
            have hB := hg.top
            have f110 : (ev (.tmp 110)) = .bool false := hd.2.2.1 rfl _ rfl
            clear hin hd
            exact step_off (guard_off rfl rfl f110 (by decide)) trivial
        · as_aux_lemma =>
            intro ev w1 hg hin hc hgl hfn hd
            have hB := hg.top
            have f110 : (ev (.tmp 110)) = .bool false := hd.2.1 rfl _ rfl
            clear hin hd
            exact step_off (guard_off rfl rfl f110 (by decide)) trivial
        · as_aux_lemma =>
            intro ev w1 hg hin hc hgl hfn hd
            have hB := hg.top
            have f110 : (ev (.tmp 110)) = .bool false := hd.1 rfl _ rfl
            have g13 : ev (.tmp 13) = .slice (some ⟨m1, o1, none⟩) 18 k1 := (hin 13 (by kernel_rfl)).trans i13
            clear hin hd
            exact step_off (guard_off rfl rfl f110 (by decide)) trivial
        · as_aux_lemma =>
            intro ev w1 hg hin hc hgl hfn hd
            have hB := hg.top
            have f110 : (ev (.tmp 110)) = .bool false := hd.1 rfl _ rfl
            have g15 : ev (.tmp 15) = .int .i64 (i : Int) := (hin 15 (by kernel_rfl)).trans i15
            clear hin hd
            exact step_off (guard_off rfl rfl f110 (by decide)) trivial
        · as_aux_lemma =>
            intro ev w1 hg hin hc hgl hfn hd
            have hB := hg.top
            have f110 : (ev (.tmp 110)) = .bool false := hd.2.2.1 rfl _ rfl
            clear hin hd
            exact step_off (guard_off rfl rfl f110 (by decide)) trivial
        · as_aux_lemma =>
            intro ev w1 hg hin hc hgl hfn hd
            have hB := hg.top
            have f110 : (ev (.tmp 110)) = .bool false := hd.2.1 rfl _ rfl
            clear hin hd
            exact step_off (guard_off rfl rfl f110 (by decide)) trivial
        · as_aux_lemma =>
            intro ev w1 hg hin hc hgl hfn hd
            have hB := hg.top
            have f110 : (ev (.tmp 110)) = .bool false := hd.1 rfl _ rfl
            have g14 : ev (.tmp 14) = .slice (some ⟨m2, o2, none⟩) 18 k2 := (hin 14 (by kernel_rfl)).trans i14
            clear hin hd
            exact step_off (guard_off rfl rfl f110 (by decide)) trivial
        · as_aux_lemma =>
            intro ev w1 hg hin hc hgl hfn hd
            have hB := hg.top
            have f110 : (ev (.tmp 110)) = .bool false := hd.1 rfl _ rfl
            have g15 : ev (.tmp 15) = .int .i64 (i : Int) := (hin 15 (by kernel_rfl)).trans i15
            clear hin hd
            exact step_off (guard_off rfl rfl f110 (by decide)) trivial
        · as_aux_lemma =>
            intro ev w1 hg hin hc hgl hfn hd
            have hB := hg.top
            have f110 : (ev (.tmp 110)) = .bool false := hd.2.2.1 rfl _ rfl
            clear hin hd
            exact step_off (guard_off rfl rfl f110 (by decide)) trivial
        · as_aux_lemma =>
            intro ev w1 hg hin hc hgl hfn hd
            have hB := hg.top
            have f110 : (ev (.tmp 110)) = .bool false := hd.2.1 rfl _ rfl
            clear hin hd
            exact step_off (guard_off rfl rfl f110 (by decide)) trivial
        · as_aux_lemma =>
            intro ev w1 hg hin hc hgl hfn hd
            have hB := hg.top
            have f110 : (ev (.tmp 110)) = .bool false := hd.2.2.1 rfl _ rfl
            clear hin hd
            exact step_off (guard_off rfl rfl f110 (by decide)) trivial
        · as_aux_lemma =>
            intro ev w1 hg hin hc hgl hfn hd
            have hB := hg.top
            have f110 : (ev (.tmp 110)) = .bool false := hd.2.2.1 rfl _ rfl
            clear hin hd
            exact step_off (guard_off rfl rfl f110 (by decide)) trivial
        · as_aux_lemma =>
            intro ev w1 hg hin hc hgl hfn hd
            have hB := hg.top
            have f110 : (ev (.tmp 110)) = .bool false := hd.1 rfl _ rfl
            have g9 : ev (.tmp 9) = .slice (some ⟨q1, r1, none⟩) 18 c1 := (hin 9 (by kernel_rfl)).trans i9
            clear hin hd
            exact step_off (guard_off rfl rfl f110 (by decide)) trivial
        · as_aux_lemma =>
            intro ev w1 hg hin hc hgl hfn hd
            have hB := hg.top
            have f110 : (ev (.tmp 110)) = .bool false := hd.1 rfl _ rfl
            have g15 : ev (.tmp 15) = .int .i64 (i : Int) := (hin 15 (by kernel_rfl)).trans i15
            clear hin hd
            exact step_off (guard_off rfl rfl f110 (by decide)) trivial
        · as_aux_lemma =>
            intro ev w1 hg hin hc hgl hfn hd
            have hB := hg.top
            have f110 : (ev (.tmp 110)) = .bool false := hd.2.2.1 rfl _ rfl
            clear hin hd
            exact step_off (guard_off rfl rfl f110 (by decide)) trivial
        · as_aux_lemma =>
            intro ev w1 hg hin hc hgl hfn hd
            have hB := hg.top
            have f110 : (ev (.tmp 110)) = .bool false := hd.2.1 rfl _ rfl
            clear hin hd
            exact step_off (guard_off rfl rfl f110 (by decide)) trivial
        · as_aux_lemma =>
            intro ev w1 hg hin hc hgl hfn hd
            have hB := hg.top
            have f110 : (ev (.tmp 110)) = .bool false := hd.2.2.1 rfl _ rfl
            clear hin hd
            exact step_off (guard_off rfl rfl f110 (by decide)) trivial
        · as_aux_lemma =>
            intro ev w1 hg hin hc hgl hfn hd
            have hB := hg.top
            have f110 : (ev (.tmp 110)) = .bool false := hd.1 rfl _ rfl
            have f100 : (ev (.tmp 100)) = .bool false := hd.2.2.1 rfl _ rfl
            clear hin hd
            refine step_on (guard_some rfl rfl f100) fun K hK => ?_
            unfold YieldsG
            go_simp
            exact hK _ _ rfl (Grow.refl hB)
        · as_aux_lemma =>
            intro ev w1 hg hin hc hgl hfn hd
            have hB := hg.top
            have f100 : (ev (.tmp 100)) = .bool false := hd.1 rfl _ rfl
            have f130 : (ev (.tmp 130)) = .bool false := hd.2.1 rfl _ rfl
            clear hin hd
            refine step_on (guard_none rfl) fun K hK => ?_
            unfold YieldsG
            go_simp
            exact hK _ _ rfl (Grow.refl hB)
        intro v w6 hg hall
        have hf61 : (v 61) = .bool false := hall.2.2.2.2.2.2.2.2.2.2.2.2.2.2.2.2.2.2.2.2.2.2.2.2.2.2.2.2.2.2.2.2.2.2.2.2.2.2.2.2.2.2.2.2.2.2.2.2.2.2.2.2.2.2.2.2.2.2.2.2.2.1 (by simp)
        clear hall i13 i14 i9 i11 i15 hsz
        rw [ha0]
        clear ha0
        simp only [putAll, Act.put, List.setIfInBounds_toArray, List.set_cons_zero, List.set_cons_succ, Nat.zero_add, Nat.reduceAdd]
        simp only [hf61]
        clear hf61
        have hb6 := hbr.trans (hg.below.mono hbr.size)
        clear hg
        go_wp2
        go_roundw
        case rel => exact ⟨i + 1, by omega, by go_num, hb6⟩
        case measure => simp [intOf]; omega
      · obtain ⟨z, hz⟩ : ∃ z, x - y = z := ⟨_, rfl⟩
        have hch := hch2 (by omega)
        rw [hz] at hch
        have HCH := Lib.hid hch
        have hz1 : IntKind.i64.wrap ((x : Int) - (y : Int)) = (x : Int) - (y : Int) := IntWalk.i64_in _ (by omega)
        have HXZ : Hid ((x : Int) - (y : Int) = (z : Int)) := Lib.hid (by omega)
        have HZB : Hid (z ≤ 15) := Lib.hid (by omega)
        have hxy1 : ¬ (x : Int) ≤ (y : Int) := by omega
        have hxy2 : (y : Int) < (x : Int) := by omega
        have hxy3 : y < x := by omega
        clear hch hch1 hch2 hz
        go_wp2
        obtain ⟨B, eB⟩ : ∃ B, wr.heap.size = B := ⟨_, rfl⟩
        have hltk := hKr.lt
        refine wp_gen fun a0 ha0 => ?_
        have i13 : a0.eval (.tmp 13) = .slice (some ⟨m1, o1, none⟩) 18 k1 := by rw [ha0]; rfl
        have i14 : a0.eval (.tmp 14) = .slice (some ⟨m2, o2, none⟩) 18 k2 := by rw [ha0]; rfl
        have i9 : a0.eval (.tmp 9) = .slice (some ⟨q1, r1, none⟩) 18 c1 := by rw [ha0]; rfl
        have i11 : a0.eval (.tmp 11) = .slice (some ⟨q2, r2, none⟩) 18 c2 := by rw [ha0]; rfl
        have i15 : a0.eval (.tmp 15) = .int .i64 (i : Int) := by rw [ha0]; rfl
        have hsz : a0.tmps.size = 132 := by rw [ha0]; rfl
        refine wp_region_inv (B := B) [some 70, some 71, some 72, some 73, some 74, some 75, some 76, some 77, some 78, some 79, some 80, some 81, some 82, some 83, some 84, some 85, some 86, some 87, some 88, some 89, some 90, some 91, some 92, some 93, some 94, some 95, some 96, some 97, some 98, some 99, some 100, some 101, some 102, some 103, some 104, some 105, some 106, some 107, some 108, some 109, some 110, some 111, some 112, some 113, some 114, some 115, some 116, some 117, some 118, some 119, some 120, some 121, some 122, some 123, some 124, some 125, some 126, some 127, some 128, some 129, some 130, some 131] [Asrt.eq (.slice (some ⟨m1, o1, none⟩) 18 k1), Asrt.eq (.int .i64 (i : Int)), Asrt.eq (.pointer (some ⟨m1, o1 + i, none⟩)), Asrt.eq (.int .i64 (x : Int)), Asrt.eq (.slice (some ⟨m2, o2, none⟩) 18 k2), Asrt.eq (.int .i64 (i : Int)), Asrt.eq (.pointer (some ⟨m2, o2 + i, none⟩)), Asrt.eq (.int .i64 (y : Int)), Asrt.eq (.bool false), Asrt.eq (.bool false), Asrt.any, Asrt.any, Asrt.any, Asrt.any, Asrt.any, Asrt.any, Asrt.any, Asrt.any, Asrt.any, Asrt.any, Asrt.any, Asrt.any, Asrt.any, Asrt.any, Asrt.any, Asrt.any, Asrt.any, Asrt.any, Asrt.any, Asrt.eq (.bool false), Asrt.eq (.bool false), Asrt.eq (.slice (some ⟨m1, o1, none⟩) 18 k1), Asrt.eq (.int .i64 (i : Int)), Asrt.eq (.pointer (some ⟨m1, o1 + i, none⟩)), Asrt.eq (.int .i64 (x : Int)), Asrt.eq (.slice (some ⟨m2, o2, none⟩) 18 k2), Asrt.eq (.int .i64 (i : Int)), Asrt.eq (.pointer (some ⟨m2, o2 + i, none⟩)), Asrt.eq (.int .i64 (y : Int)), Asrt.eq (.bool true), Asrt.eq (.bool true), Asrt.eq (.slice (some ⟨q2, r2, none⟩) 18 c2), Asrt.eq (.int .i64 (i : Int)), Asrt.eq (.pointer (some ⟨q2, r2 + i * 32, none⟩)), Asrt.eq (.agg (cellsB (Y))), Asrt.eq (.slice (some ⟨m1, o1, none⟩) 18 k1), Asrt.eq (.int .i64 (i : Int)), Asrt.eq (.pointer (some ⟨m1, o1 + i, none⟩)), Asrt.eq (.int .i64 (x : Int)), Asrt.eq (.slice (some ⟨m2, o2, none⟩) 18 k2), Asrt.eq (.int .i64 (i : Int)), Asrt.eq (.pointer (some ⟨m2, o2 + i, none⟩)), Asrt.eq (.int .i64 (y : Int)), Asrt.eq (.int .i64 ((x : Int) - (y : Int))), Asrt.eq (.agg (cellsB (dx))), Asrt.eq (.slice (some ⟨q1, r1, none⟩) 18 c1), Asrt.eq (.int .i64 (i : Int)), Asrt.eq (.pointer (some ⟨q1, r1 + i * 32, none⟩)), Asrt.eq (.agg (cellsB (dx))), Asrt.eq (.bool false), Asrt.eq (.bool false), Asrt.eq (.bool false)] rfl (by as_aux_lemma => kernel_rfl) (by rw [hsz]; as_aux_lemma => kernel_rfl) (by as_aux_lemma => kernel_rfl) (by omega) ⟨?_, ?_, ?_, ?_, ?_, ?_, ?_, ?_, ?_, ?_, ?_, ?_, ?_, ?_, ?_, ?_, ?_, ?_, ?_, ?_, ?_, ?_, ?_, ?_, ?_, ?_, ?_, ?_, ?_, ?_, ?_, ?_, ?_, ?_, ?_, ?_, ?_, ?_, ?_, ?_, ?_, ?_, ?_, ?_, ?_, ?_, ?_, ?_, ?_, ?_, ?_, ?_, ?_, ?_, ?_, ?_, ?_, ?_, ?_, ?_, ?_, ?_, trivial⟩ ?_
        · as_aux_lemma =>
            intro ev w1 hg hin hc hgl hfn hd
            have hB := hg.top
            have g13 : ev (.tmp 13) = .slice (some ⟨m1, o1, none⟩) 18 k1 := (hin 13 (by kernel_rfl)).trans i13
            clear hin hd
            refine step_on (guard_none rfl) fun K hK => ?_
            unfold YieldsG
            go_simp
            exact hK _ _ rfl (Grow.refl hB)
        · as_aux_lemma =>
            intro ev w1 hg hin hc hgl hfn hd
            have hB := hg.top
            have g15 : ev (.tmp 15) = .int .i64 (i : Int) := (hin 15 (by kernel_rfl)).trans i15
            clear hin hd
            refine step_on (guard_none rfl) fun K hK => ?_
            unfold YieldsG
            go_simp
            exact hK _ _ rfl (Grow.refl hB)
        · as_aux_lemma =>
            intro ev w1 hg hin hc hgl hfn hd
            have hB := hg.top
            have f70 : (ev (.tmp 70)) = .slice (some ⟨m1, o1, none⟩) 18 k1 := hd.1 rfl _ rfl
            have f71 : (ev (.tmp 71)) = .int .i64 (i : Int) := hd.2.1 rfl _ rfl
            clear hin hd
            refine step_on (guard_none rfl) fun K hK => ?_
            unfold YieldsG
            go_simp
            exact hK _ _ rfl (Grow.refl hB)
        · as_aux_lemma =>
            intro ev w1 hg hin hc hgl hfn hd
            have hB := hg.top
            have f72 : (ev (.tmp 72)) = .pointer (some ⟨m1, o1 + i, none⟩) := hd.1 rfl _ rfl
            clear hin hd
            refine step_on (guard_none rfl) fun K hK => ?_
            have hc1 := hg.cell g1
            unfold YieldsG
            go_simp
            exact hK _ _ rfl (Grow.refl hB)
        · as_aux_lemma =>
            intro ev w1 hg hin hc hgl hfn hd
            have hB := hg.top
            have g14 : ev (.tmp 14) = .slice (some ⟨m2, o2, none⟩) 18 k2 := (hin 14 (by kernel_rfl)).trans i14
            clear hin hd
            refine step_on (guard_none rfl) fun K hK => ?_
            unfold YieldsG
            go_simp
            exact hK _ _ rfl (Grow.refl hB)
        · as_aux_lemma =>
            intro ev w1 hg hin hc hgl hfn hd
            have hB := hg.top
            have g15 : ev (.tmp 15) = .int .i64 (i : Int) := (hin 15 (by kernel_rfl)).trans i15
            clear hin hd
            refine step_on (guard_none rfl) fun K hK => ?_
            unfold YieldsG
            go_simp
            exact hK _ _ rfl (Grow.refl hB)
        · as_aux_lemma =>
            intro ev w1 hg hin hc hgl hfn hd
            have hB := hg.top
            have f74 : (ev (.tmp 74)) = .slice (some ⟨m2, o2, none⟩) 18 k2 := hd.1 rfl _ rfl
            have f75 : (ev (.tmp 75)) = .int .i64 (i : Int) := hd.2.1 rfl _ rfl
            clear hin hd
            refine step_on (guard_none rfl) fun K hK => ?_
            unfold YieldsG
            go_simp
            exact hK _ _ rfl (Grow.refl hB)
        · as_aux_lemma =>
            intro ev w1 hg hin hc hgl hfn hd
            have hB := hg.top
            have f76 : (ev (.tmp 76)) = .pointer (some ⟨m2, o2 + i, none⟩) := hd.1 rfl _ rfl
            clear hin hd
            refine step_on (guard_none rfl) fun K hK => ?_
            have hc1 := hg.cell g2
            unfold YieldsG
            go_simp
            exact hK _ _ rfl (Grow.refl hB)
        · as_aux_lemma =>
            intro ev w1 hg hin hc hgl hfn hd
            have hB := hg.top
            have f73 : (ev (.tmp 73)) = .int .i64 (x : Int) := hd.1 rfl _ rfl
            have f77 : (ev (.tmp 77)) = .int .i64 (y : Int) := hd.2.1 rfl _ rfl
            clear hin hd
            refine step_on (guard_none rfl) fun K hK => ?_
            unfold YieldsG
            go_simp
            exact hK _ _ rfl (Grow.refl hB)
        · as_aux_lemma =>
            intro ev w1 hg hin hc hgl hfn hd
            have hB := hg.top
            have f78 : (ev (.tmp 78)) = .bool false := hd.1 rfl _ rfl
            clear hin hd
            refine step_on (guard_none rfl) fun K hK => ?_
            unfold YieldsG
            go_simp
            exact hK _ _ rfl (Grow.refl hB)
        · as_aux_lemma =>
            intro ev w1 hg hin hc hgl hfn hd
            have hB := hg.top
            have f79 : (ev (.tmp 79)) = .bool false := hd.1 rfl _ rfl
            have g9 : ev (.tmp 9) = .slice (some ⟨q1, r1, none⟩) 18 c1 := (hin 9 (by kernel_rfl)).trans i9
            clear hin hd
            exact step_off (guard_off rfl rfl f79 (by decide)) trivial
        · as_aux_lemma =>
            intro ev w1 hg hin hc hgl hfn hd
            have hB := hg.top
            have f79 : (ev (.tmp 79)) = .bool false := hd.1 rfl _ rfl
            have g15 : ev (.tmp 15) = .int .i64 (i : Int) := (hin 15 (by kernel_rfl)).trans i15
            clear hin hd
            exact step_off (guard_off rfl rfl f79 (by decide)) trivial
        · as_aux_lemma =>
            intro ev w1 hg hin hc hgl hfn hd
            have hB := hg.top
            have f79 : (ev (.tmp 79)) = .bool false := hd.2.2.1 rfl _ rfl
            clear hin hd
            exact step_off (guard_off rfl rfl f79 (by decide)) trivial
        · as_aux_lemma =>
            intro ev w1 hg hin hc hgl hfn hd
            have hB := hg.top
            have f79 : (ev (.tmp 79)) = .bool false := hd.2.1 rfl _ rfl
            clear hin hd
            exact step_off (guard_off rfl rfl f79 (by decide)) trivial
        · as_aux_lemma =>
            intro ev w1 hg hin hc hgl hfn hd
            have hB := hg.top
            have f79 : (ev (.tmp 79)) = .bool false := hd.1 rfl _ rfl
            have g14 : ev (.tmp 14) = .slice (some ⟨m2, o2, none⟩) 18 k2 := (hin 14 (by kernel_rfl)).trans i14
            clear hin hd
            exact step_off (guard_off rfl rfl f79 (by decide)) trivial
        · as_aux_lemma =>
            intro ev w1 hg hin hc hgl hfn hd
            have hB := hg.top
            have f79 : (ev (.tmp 79)) = .bool false := hd.1 rfl _ rfl
            have g15 : ev (.tmp 15) = .int .i64 (i : Int) := (hin 15 (by kernel_rfl)).trans i15
            clear hin hd
            exact step_off (guard_off rfl rfl f79 (by decide)) trivial
        · as_aux_lemma =>
            intro ev w1 hg hin hc hgl hfn hd
            have hB := hg.top
            have f79 : (ev (.tmp 79)) = .bool false := hd.2.2.1 rfl _ rfl
            clear hin hd
            exact step_off (guard_off rfl rfl f79 (by decide)) trivial
        · as_aux_lemma =>
            intro ev w1 hg hin hc hgl hfn hd
            have hB := hg.top
            have f79 : (ev (.tmp 79)) = .bool false := hd.2.1 rfl _ rfl
            clear hin hd
            exact step_off (guard_off rfl rfl f79 (by decide)) trivial
        · as_aux_lemma =>
            intro ev w1 hg hin hc hgl hfn hd
            have hB := hg.top
            have f79 : (ev (.tmp 79)) = .bool false := hd.1 rfl _ rfl
            have g13 : ev (.tmp 13) = .slice (some ⟨m1, o1, none⟩) 18 k1 := (hin 13 (by kernel_rfl)).trans i13
            clear hin hd
            exact step_off (guard_off rfl rfl f79 (by decide)) trivial
        · as_aux_lemma =>
            intro ev w1 hg hin hc hgl hfn hd
            have hB := hg.top
            have f79 : (ev (.tmp 79)) = .bool false := hd.1 rfl _ rfl
            have g15 : ev (.tmp 15) = .int .i64 (i : Int) := (hin 15 (by kernel_rfl)).trans i15
            clear hin hd
            exact step_off (guard_off rfl rfl f79 (by decide)) trivial
        · as_aux_lemma =>
            intro ev w1 hg hin hc hgl hfn hd
            have hB := hg.top
            have f79 : (ev (.tmp 79)) = .bool false := hd.2.2.1 rfl _ rfl
            clear hin hd
            exact step_off (guard_off rfl rfl f79 (by decide)) trivial
        · as_aux_lemma =>
            intro ev w1 hg hin hc hgl hfn hd
            have hB := hg.top
            have f79 : (ev (.tmp 79)) = .bool false := hd.2.1 rfl _ rfl
            clear hin hd
            exact step_off (guard_off rfl rfl f79 (by decide)) trivial
        · as_aux_lemma =>
            intro ev w1 hg hin hc hgl hfn hd
            have hB := hg.top
            have f79 : (ev (.tmp 79)) = .bool false := hd.2.2.1 rfl _ rfl
            clear hin hd
            exact step_off (guard_off rfl rfl f79 (by decide)) trivial
        · as_aux_lemma =>
            intro ev w1 hg hin hc hgl hfn hd
            have hB := hg.top
            have f79 : (ev (.tmp 79)) = .bool false := hd.2.2.1 rfl _ rfl
            clear hin hd
            exact step_off (guard_off rfl rfl f79 (by decide)) trivial
        · as_aux_lemma =>
            intro ev w1 hg hin hc hgl hfn hd
            have hB := hg.top
            have f79 : (ev (.tmp 79)) = .bool false := hd.1 rfl _ rfl
            have g11 : ev (.tmp 11) = .slice (some ⟨q2, r2, none⟩) 18 c2 := (hin 11 (by kernel_rfl)).trans i11
            clear hin hd
            exact step_off (guard_off rfl rfl f79 (by decide)) trivial
        · as_aux_lemma =>
            intro ev w1 hg hin hc hgl hfn hd
            have hB := hg.top
            have f79 : (ev (.tmp 79)) = .bool false := hd.1 rfl _ rfl
            have g15 : ev (.tmp 15) = .int .i64 (i : Int) := (hin 15 (by kernel_rfl)).trans i15
            clear hin hd
            exact step_off (guard_off rfl rfl f79 (by decide)) trivial
        · as_aux_lemma =>
            intro ev w1 hg hin hc hgl hfn hd
            have hB := hg.top
            have f79 : (ev (.tmp 79)) = .bool false := hd.2.2.1 rfl _ rfl
            clear hin hd
            exact step_off (guard_off rfl rfl f79 (by decide)) trivial
        · as_aux_lemma =>
            intro ev w1 hg hin hc hgl hfn hd
            have hB := hg.top
            have f79 : (ev (.tmp 79)) = .bool false := hd.2.1 rfl _ rfl
            clear hin hd
            exact step_off (guard_off rfl rfl f79 (by decide)) trivial
        · as_aux_lemma =>
            intro ev w1 hg hin hc hgl hfn hd
            have hB := hg.top
            have f79 : (ev (.tmp 79)) = .bool false := hd.2.2.1 rfl _ rfl
            clear hin hd
            exact step_off (guard_off rfl rfl f79 (by decide)) trivial
        · as_aux_lemma =>
            intro ev w1 hg hin hc hgl hfn hd
            have hB := hg.top
            have f79 : (ev (.tmp 79)) = .bool false := hd.1 rfl _ rfl
            clear hin hd
            refine step_on (guard_none rfl) fun K hK => ?_
            unfold YieldsG
            go_simp
            exact hK _ _ rfl (Grow.refl hB)
        · as_aux_lemma =>
            intro ev w1 hg hin hc hgl hfn hd
            have hB := hg.top
            have f99 : (ev (.tmp 99)) = .bool false := hd.1 rfl _ rfl
            clear hin hd
            refine step_on (guard_none rfl) fun K hK => ?_
            unfold YieldsG
            go_simp
            exact hK _ _ rfl (Grow.refl hB)
        · as_aux_lemma =>
            intro ev w1 hg hin hc hgl hfn hd
            have hB := hg.top
            have f100 : (ev (.tmp 100)) = .bool false := hd.1 rfl _ rfl
            have g13 : ev (.tmp 13) = .slice (some ⟨m1, o1, none⟩) 18 k1 := (hin 13 (by kernel_rfl)).trans i13
            clear hin hd
            refine step_on (guard_some rfl rfl f100) fun K hK => ?_
            unfold YieldsG
            go_simp
            exact hK _ _ rfl (Grow.refl hB)
        · as_aux_lemma =>
            intro ev w1 hg hin hc hgl hfn hd
            have hB := hg.top
            have f100 : (ev (.tmp 100)) = .bool false := hd.1 rfl _ rfl
            have g15 : ev (.tmp 15) = .int .i64 (i : Int) := (hin 15 (by kernel_rfl)).trans i15
            clear hin hd
            refine step_on (guard_some rfl rfl f100) fun K hK => ?_
            unfold YieldsG
            go_simp
            exact hK _ _ rfl (Grow.refl hB)
        · as_aux_lemma =>
            intro ev w1 hg hin hc hgl hfn hd
            have hB := hg.top
            have f101 : (ev (.tmp 101)) = .slice (some ⟨m1, o1, none⟩) 18 k1 := hd.1 rfl _ rfl
            have f102 : (ev (.tmp 102)) = .int .i64 (i : Int) := hd.2.1 rfl _ rfl
            have f100 : (ev (.tmp 100)) = .bool false := hd.2.2.1 rfl _ rfl
            clear hin hd
            refine step_on (guard_some rfl rfl f100) fun K hK => ?_
            unfold YieldsG
            go_simp
            exact hK _ _ rfl (Grow.refl hB)
        · as_aux_lemma =>
            intro ev w1 hg hin hc hgl hfn hd
            have hB := hg.top
            have f103 : (ev (.tmp 103)) = .pointer (some ⟨m1, o1 + i, none⟩) := hd.1 rfl _ rfl
            have f100 : (ev (.tmp 100)) = .bool false := hd.2.1 rfl _ rfl
            clear hin hd
            refine step_on (guard_some rfl rfl f100) fun K hK => ?_
            have hc1 := hg.cell g1
            unfold YieldsG
            go_simp
            exact hK _ _ rfl (Grow.refl hB)
        · as_aux_lemma =>
            intro ev w1 hg hin hc hgl hfn hd
            have hB := hg.top
            have f100 : (ev (.tmp 100)) = .bool false := hd.1 rfl _ rfl
            have g14 : ev (.tmp 14) = .slice (some ⟨m2, o2, none⟩) 18 k2 := (hin 14 (by kernel_rfl)).trans i14
            clear hin hd
            refine step_on (guard_some rfl rfl f100) fun K hK => ?_
            unfold YieldsG
            go_simp
            exact hK _ _ rfl (Grow.refl hB)
        · as_aux_lemma =>
            intro ev w1 hg hin hc hgl hfn hd
            have hB := hg.top
            have f100 : (ev (.tmp 100)) = .bool false := hd.1 rfl _ rfl
            have g15 : ev (.tmp 15) = .int .i64 (i : Int) := (hin 15 (by kernel_rfl)).trans i15
            clear hin hd
            refine step_on (guard_some rfl rfl f100) fun K hK => ?_
            unfold YieldsG
            go_simp
            exact hK _ _ rfl (Grow.refl hB)
        · as_aux_lemma =>
            intro ev w1 hg hin hc hgl hfn hd
            have hB := hg.top
            have f105 : (ev (.tmp 105)) = .slice (some ⟨m2, o2, none⟩) 18 k2 := hd.1 rfl _ rfl
            have f106 : (ev (.tmp 106)) = .int .i64 (i : Int) := hd.2.1 rfl _ rfl
            have f100 : (ev (.tmp 100)) = .bool false := hd.2.2.1 rfl _ rfl
            clear hin hd
            refine step_on (guard_some rfl rfl f100) fun K hK => ?_
            unfold YieldsG
            go_simp
            exact hK _ _ rfl (Grow.refl hB)
        · as_aux_lemma =>
            intro ev w1 hg hin hc hgl hfn hd
            have hB := hg.top
            have f107 : (ev (.tmp 107)) = .pointer (some ⟨m2, o2 + i, none⟩) := hd.1 rfl _ rfl
            have f100 : (ev (.tmp 100)) = .bool false := hd.2.1 rfl _ rfl
            clear hin hd
            refine step_on (guard_some rfl rfl f100) fun K hK => ?_
            have hc1 := hg.cell g2
            unfold YieldsG
            go_simp
            exact hK _ _ rfl (Grow.refl hB)
        · as_aux_lemma =>
            intro ev w1 hg hin hc hgl hfn hd
            have hB := hg.top
            have f104 : (ev (.tmp 104)) = .int .i64 (x : Int) := hd.1 rfl _ rfl
            have f108 : (ev (.tmp 108)) = .int .i64 (y : Int) := hd.2.1 rfl _ rfl
            have f100 : (ev (.tmp 100)) = .bool false := hd.2.2.1 rfl _ rfl
            clear hin hd
            refine step_on (guard_some rfl rfl f100) fun K hK => ?_
            unfold YieldsG
            go_simp
            exact hK _ _ rfl (Grow.refl hB)
        · as_aux_lemma =>
            intro ev w1 hg hin hc hgl hfn hd
            have hB := hg.top
            have f109 : (ev (.tmp 109)) = .bool true := hd.1 rfl _ rfl
            have f100 : (ev (.tmp 100)) = .bool false := hd.2.1 rfl _ rfl
            clear hin hd
            refine step_on (guard_some rfl rfl f100) fun K hK => ?_
            unfold YieldsG
            go_simp
            exact hK _ _ rfl (Grow.refl hB)
        · as_aux_lemma =>
            intro ev w1 hg hin hc hgl hfn hd
            have hB := hg.top
            have f110 : (ev (.tmp 110)) = .bool true := hd.1 rfl _ rfl
            have g11 : ev (.tmp 11) = .slice (some ⟨q2, r2, none⟩) 18 c2 := (hin 11 (by kernel_rfl)).trans i11
            clear hin hd
            refine step_on (guard_some rfl rfl f110) fun K hK => ?_
            unfold YieldsG
            go_simp
            exact hK _ _ rfl (Grow.refl hB)
        · as_aux_lemma =>
            intro ev w1 hg hin hc hgl hfn hd
            have hB := hg.top
            have f110 : (ev (.tmp 110)) = .bool true := hd.1 rfl _ rfl
            have g15 : ev (.tmp 15) = .int .i64 (i : Int) := (hin 15 (by kernel_rfl)).trans i15
            clear hin hd
            refine step_on (guard_some rfl rfl f110) fun K hK => ?_
            unfold YieldsG
            go_simp
            exact hK _ _ rfl (Grow.refl hB)
        · as_aux_lemma =>
            intro ev w1 hg hin hc hgl hfn hd
            have hB := hg.top
            have f111 : (ev (.tmp 111)) = .slice (some ⟨q2, r2, none⟩) 18 c2 := hd.1 rfl _ rfl
            have f112 : (ev (.tmp 112)) = .int .i64 (i : Int) := hd.2.1 rfl _ rfl
            have f110 : (ev (.tmp 110)) = .bool true := hd.2.2.1 rfl _ rfl
            clear hin hd
            refine step_on (guard_some rfl rfl f110) fun K hK => ?_
            unfold YieldsG
            go_simp
            exact hK _ _ rfl (Grow.refl hB)
        · as_aux_lemma =>
            intro ev w1 hg hin hc hgl hfn hd
            have hB := hg.top
            have f113 : (ev (.tmp 113)) = .pointer (some ⟨q2, r2 + i * 32, none⟩) := hd.1 rfl _ rfl
            have f110 : (ev (.tmp 110)) = .bool true := hd.2.1 rfl _ rfl
            clear hin hd
            refine step_on (guard_some rfl rfl f110) fun K hK => ?_
            refine yg_load_mid 23 (.tmp 113) rfl q2 (r2 + i * 32) f113 (Y.map B8) _ (range_below e2 (by rw [eB]; exact hg.bl)) Tryd.underD rfl (by rw [List.length_map, L2.out]; exact Tryd.sizeD) ?_
            exact hK _ _ rfl (Grow.refl hB)
        · as_aux_lemma =>
            intro ev w1 hg hin hc hgl hfn hd
            have hB := hg.top
            have f110 : (ev (.tmp 110)) = .bool true := hd.1 rfl _ rfl
            have g13 : ev (.tmp 13) = .slice (some ⟨m1, o1, none⟩) 18 k1 := (hin 13 (by kernel_rfl)).trans i13
            clear hin hd
            refine step_on (guard_some rfl rfl f110) fun K hK => ?_
            unfold YieldsG
            go_simp
            exact hK _ _ rfl (Grow.refl hB)
        · as_aux_lemma =>
            intro ev w1 hg hin hc hgl hfn hd
            have hB := hg.top
            have f110 : (ev (.tmp 110)) = .bool true := hd.1 rfl _ rfl
            have g15 : ev (.tmp 15) = .int .i64 (i : Int) := (hin 15 (by kernel_rfl)).trans i15
            clear hin hd
            refine step_on (guard_some rfl rfl f110) fun K hK => ?_
            unfold YieldsG
            go_simp
            exact hK _ _ rfl (Grow.refl hB)
        · as_aux_lemma =>
            intro ev w1 hg hin hc hgl hfn hd
            have hB := hg.top
            have f115 : (ev (.tmp 115)) = .slice (some ⟨m1, o1, none⟩) 18 k1 := hd.1 rfl _ rfl
            have f116 : (ev (.tmp 116)) = .int .i64 (i : Int) := hd.2.1 rfl _ rfl
            have f110 : (ev (.tmp 110)) = .bool true := hd.2.2.1 rfl _ rfl
            clear hin hd
            refine step_on (guard_some rfl rfl f110) fun K hK => ?_
            unfold YieldsG
            go_simp
            exact hK _ _ rfl (Grow.refl hB)
        · as_aux_lemma =>
            intro ev w1 hg hin hc hgl hfn hd
            have hB := hg.top
            have f117 : (ev (.tmp 117)) = .pointer (some ⟨m1, o1 + i, none⟩) := hd.1 rfl _ rfl
            have f110 : (ev (.tmp 110)) = .bool true := hd.2.1 rfl _ rfl
            clear hin hd
            refine step_on (guard_some rfl rfl f110) fun K hK => ?_
            have hc1 := hg.cell g1
            unfold YieldsG
            go_simp
            exact hK _ _ rfl (Grow.refl hB)
        · as_aux_lemma =>
            intro ev w1 hg hin hc hgl hfn hd
            have hB := hg.top
            have f110 : (ev (.tmp 110)) = .bool true := hd.1 rfl _ rfl
            have g14 : ev (.tmp 14) = .slice (some ⟨m2, o2, none⟩) 18 k2 := (hin 14 (by kernel_rfl)).trans i14
            clear hin hd
            refine step_on (guard_some rfl rfl f110) fun K hK => ?_
            unfold YieldsG
            go_simp
            exact hK _ _ rfl (Grow.refl hB)
        · as_aux_lemma =>
            intro ev w1 hg hin hc hgl hfn hd
            have hB := hg.top
            have f110 : (ev (.tmp 110)) = .bool true := hd.1 rfl _ rfl
            have g15 : ev (.tmp 15) = .int .i64 (i : Int) := (hin 15 (by kernel_rfl)).trans i15
            clear hin hd
            refine step_on (guard_some rfl rfl f110) fun K hK => ?_
            unfold YieldsG
            go_simp
            exact hK _ _ rfl (Grow.refl hB)
        · as_aux_lemma =>
            intro ev w1 hg hin hc hgl hfn hd
            have hB := hg.top
            have f119 : (ev (.tmp 119)) = .slice (some ⟨m2, o2, none⟩) 18 k2 := hd.1 rfl _ rfl
            have f120 : (ev (.tmp 120)) = .int .i64 (i : Int) := hd.2.1 rfl _ rfl
            have f110 : (ev (.tmp 110)) = .bool true := hd.2.2.1 rfl _ rfl
            clear hin hd
            refine step_on (guard_some rfl rfl f110) fun K hK => ?_
            unfold YieldsG
            go_simp
            exact hK _ _ rfl (Grow.refl hB)
        · as_aux_lemma =>
            intro ev w1 hg hin hc hgl hfn hd
            have hB := hg.top
            have f121 : (ev (.tmp 121)) = .pointer (some ⟨m2, o2 + i, none⟩) := hd.1 rfl _ rfl
            have f110 : (ev (.tmp 110)) = .bool true := hd.2.1 rfl _ rfl
            clear hin hd
            refine step_on (guard_some rfl rfl f110) fun K hK => ?_
            have hc1 := hg.cell g2
            unfold YieldsG
            go_simp
            exact hK _ _ rfl (Grow.refl hB)
        · as_aux_lemma =>
            intro ev w1 hg hin hc hgl hfn hd
            have hB := hg.top
            have f118 : (ev (.tmp 118)) = .int .i64 (x : Int) := hd.1 rfl _ rfl
            have f122 : (ev (.tmp 122)) = .int .i64 (y : Int) := hd.2.1 rfl _ rfl
            have f110 : (ev (.tmp 110)) = .bool true := hd.2.2.1 rfl _ rfl
            clear hin hd
            refine step_on (guard_some rfl rfl f110) fun K hK => ?_
            unfold YieldsG
            go_simp
            exact hK _ _ rfl (Grow.refl hB)
        · as_aux_lemma =>
            intro ev w1 hg hin hc hgl hfn hd
            have hB := hg.top
            have f114 : (ev (.tmp 114)) = .agg (cellsB (Y)) := hd.1 rfl _ rfl
            have f123 : (ev (.tmp 123)) = .int .i64 ((x : Int) - (y : Int)) := hd.2.1 rfl _ rfl
            have f110 : (ev (.tmp 110)) = .bool true := hd.2.2.1 rfl _ rfl
            clear hin hd
            refine step_on (guard_some rfl rfl f110) fun K hK => ?_
            rw [HXZ.out] at f123
            unfold YieldsG
            go_simp
            refine (chain_any Y (z : Int) w1 L2.out (by omega) (by have := HZB.out; omega) (hKr.below hg.bl (by omega))).mono ?_
            rintro e w2 ⟨rfl, hb⟩
            exact ⟨_, rfl, hK _ _ (by show Value.agg _ = _; rw [Int.toNat_natCast, HCH.out]) (Grow.of hB hb)⟩
        · as_aux_lemma =>
            intro ev w1 hg hin hc hgl hfn hd
            have hB := hg.top
            have f110 : (ev (.tmp 110)) = .bool true := hd.1 rfl _ rfl
            have g9 : ev (.tmp 9) = .slice (some ⟨q1, r1, none⟩) 18 c1 := (hin 9 (by kernel_rfl)).trans i9
            clear hin hd
            refine step_on (guard_some rfl rfl f110) fun K hK => ?_
            unfold YieldsG
            go_simp
            exact hK _ _ rfl (Grow.refl hB)
        · as_aux_lemma =>
            intro ev w1 hg hin hc hgl hfn hd
            have hB := hg.top
            have f110 : (ev (.tmp 110)) = .bool true := hd.1 rfl _ rfl
            have g15 : ev (.tmp 15) = .int .i64 (i : Int) := (hin 15 (by kernel_rfl)).trans i15
            clear hin hd
            refine step_on (guard_some rfl rfl f110) fun K hK => ?_
            unfold YieldsG
            go_simp
            exact hK _ _ rfl (Grow.refl hB)
        · as_aux_lemma =>
            intro ev w1 hg hin hc hgl hfn hd
            have hB := hg.top
            have f125 : (ev (.tmp 125)) = .slice (some ⟨q1, r1, none⟩) 18 c1 := hd.1 rfl _ rfl
            have f126 : (ev (.tmp 126)) = .int .i64 (i : Int) := hd.2.1 rfl _ rfl
            have f110 : (ev (.tmp 110)) = .bool true := hd.2.2.1 rfl _ rfl
            clear hin hd
            refine step_on (guard_some rfl rfl f110) fun K hK => ?_
            unfold YieldsG
            go_simp
            exact hK _ _ rfl (Grow.refl hB)
        · as_aux_lemma =>
            intro ev w1 hg hin hc hgl hfn hd
            have hB := hg.top
            have f127 : (ev (.tmp 127)) = .pointer (some ⟨q1, r1 + i * 32, none⟩) := hd.1 rfl _ rfl
            have f110 : (ev (.tmp 110)) = .bool true := hd.2.1 rfl _ rfl
            clear hin hd
            refine step_on (guard_some rfl rfl f110) fun K hK => ?_
            refine yg_load_mid 23 (.tmp 127) rfl q1 (r1 + i * 32) f127 (dx.map B8) _ (range_below e1 (by rw [eB]; exact hg.bl)) Tryd.underD rfl (by rw [List.length_map, L1.out]; exact Tryd.sizeD) ?_
            exact hK _ _ rfl (Grow.refl hB)
        · as_aux_lemma =>
            intro ev w1 hg hin hc hgl hfn hd
            have hB := hg.top
            have f124 : (ev (.tmp 124)) = .agg (cellsB (dx)) := hd.1 rfl _ rfl
            have f128 : (ev (.tmp 128)) = .agg (cellsB (dx)) := hd.2.1 rfl _ rfl
            have f110 : (ev (.tmp 110)) = .bool true := hd.2.2.1 rfl _ rfl
            clear hin hd
            refine step_on (guard_some rfl rfl f110) fun K hK => ?_
            unfold YieldsG execOp
            simp only [f124, f128, Sem.run_bind, neq_digest dx dx L1.out L1.out]
            exact hK _ _ (by simp only [decide_true]; rfl) (Grow.refl hB)
        · as_aux_lemma =>
            intro ev w1 hg hin hc hgl hfn hd
            have hB := hg.top
            have f110 : (ev (.tmp 110)) = .bool true := hd.1 rfl _ rfl
            have f129 : (ev (.tmp 129)) = .bool false := hd.2.1 rfl _ rfl
            have f100 : (ev (.tmp 100)) = .bool false := hd.2.2.1 rfl _ rfl
            clear hin hd
            refine step_on (guard_some rfl rfl f100) fun K hK => ?_
            unfold YieldsG
            go_simp
            exact hK _ _ rfl (Grow.refl hB)
        · as_aux_lemma =>
            intro ev w1 hg hin hc hgl hfn hd
            have hB := hg.top
            have f100 : (ev (.tmp 100)) = .bool false := hd.1 rfl _ rfl
            have f130 : (ev (.tmp 130)) = .bool false := hd.2.1 rfl _ rfl
            clear hin hd
            refine step_on (guard_none rfl) fun K hK => ?_
            unfold YieldsG
            go_simp
            exact hK _ _ rfl (Grow.refl hB)
        intro v w6 hg hall
        have hf61 : (v 61) = .bool false := hall.2.2.2.2.2.2.2.2.2.2.2.2.2.2.2.2.2.2.2.2.2.2.2.2.2.2.2.2.2.2.2.2.2.2.2.2.2.2.2.2.2.2.2.2.2.2.2.2.2.2.2.2.2.2.2.2.2.2.2.2.2.1 (by simp)
        clear hall i13 i14 i9 i11 i15 hsz
        rw [ha0]
        clear ha0
        simp only [putAll, Act.put, List.setIfInBounds_toArray, List.set_cons_zero, List.set_cons_succ, Nat.zero_add, Nat.reduceAdd]
        simp only [hf61]
        clear hf61
        have hb6 := hbr.trans (hg.below.mono hbr.size)
        clear hg
        go_wp2
        go_roundw
        case rel => exact ⟨i + 1, by omega, by go_num, hb6⟩
        case measure => simp [intOf]; omega
    · go_wp2
      go_ret
      exact ⟨rfl, hbl0.trans (hbr.mono hbl0.size)⟩
theorem chainsAdvance_any (v : Value) (seed : List UInt8) (idx : Int) (a b : List UInt8) (w : World) (hv : Bytes w v seed (fun _ => True)) (_hl : seed.length ≤ maxLen) (_h0 : -9223372036854775808 ≤ idx) (_h1 : idx ≤ 9223372036854775807) (ha : a.length = 32) (hb : b.length = 32) (hK : KFact w) :
    Calls Tryd.prog 8 #[v, .int .i64 idx, .agg (cellsB a), .agg (cellsB b)] w fun e w' => e = .returned (.bool true) ∧ Below w.heap.size w w' := by
  by_cases h : 200 < seed.length
  · exact ca_big seed v idx a b w hv ha hb hK h
  · cases hok : okSeed seed idx with
    | true => exact ca_ok seed v idx a b w hv ha hb hK h hok
    | false => exact ca_no seed v idx a b w hv ha hb hK h hok
end Go.Proofs.YthhlfcbkggahmaaDoor

/- crossbarlaw04.ends. Conditions: the digests have 32 bytes, the list has 18 of them. -/
import Derived.Test.YthhlfcbkggahmaaDoorWAsrt
namespace Go.Proofs.YthhlfcbkggahmaaDoor
open Go.RowKit
def Asrt.box {B : Nat} : Asrt B := ⟨fun v w => ∃ g, v = .pointer (some ⟨g, 0, none⟩) ∧ B ≤ g ∧ Row w g 23 (cellsB (List.replicate 32 0)), fun _ _ _ h hg => by
  obtain ⟨g, hv, hb, hr⟩ := h; exact ⟨g, hv, hb, hg.kept _ _ hr⟩⟩
theorem endsOf_get (d : List UInt8) (sig : List (List UInt8)) (i : Nat) (hi : i < 18) : (endsOf d sig).getD i [] = chainOf (sig.getD i []) (15 - nib d i) := tab_getD _ i hi
set_option maxRecDepth 100000 in
set_option maxHeartbeats 1000000 in
theorem ends_any (d : List UInt8) (sig : List (List UInt8)) (v : Value) (w : World) (hd : d.length = 32) (hv : Digs w v sig) (h32 : all32 sig) (hsl : sig.length = 18) (hK : KFact w) :
    Calls Tryd.prog 25 #[.agg (cellsB d), v] w fun e w' => ∃ r, e = .returned r ∧ Bytes w' r (endsOf d sig).flatten (fun _ => True) ∧ Below w.heap.size w w' := by
  have hkl := hK.lt
  have HD := Lib.hid hd
  have HSD := Lib.hid (Tryd.sizeD_of d hd)
  have HSL := Lib.hid hsl
  have H32 := Lib.hid h32
  clear hd
  obtain ⟨av, kv, rfl⟩ := hv.form
  rw [hsl] at hv ⊢
  clear hsl
  have hb0 : Below w.heap.size w (w.alloc (.cells (cellsB d) 23)) := (Below.refl _ _).alloc (Nat.le_refl _) _
  have hd0 : Row (w.alloc (.cells (cellsB d) 23)) w.heap.size 23 (cellsB d) := Row.new w _ _
  go_enter Tryd.func25, Tryd.ntmps25
  go_wp2_with (refine wpList_load_row rfl 23 (.tmp 2) rfl w.heap.size rfl 23 (cellsB d) (0, 0) _ hd0 Tryd.underD rfl HSD.out ?_)
  refine (nibbles_any d _ HD.out).mono ?_
  rintro e w2 ⟨u1, rfl, hu1, hb2⟩
  obtain ⟨m1, o1, k1, rfl, hk11, hk12, hbl1, hc1⟩ := hu1.cells (nibs_len _)
  have hB2 := hb0.trans (hb2.mono hb0.size)
  have hv2 := hv.later hB2
  obtain ⟨q1, r1, rfl, -, hkq1, hkq2, hat1⟩ := hv2.at (by decide)
  have hc13 : ∀ i, i < 18 → w2.cell? ⟨m1, o1 + i, none⟩ = some (.int .i64 (nib d i : Nat)) := fun i hi => by
    have h := hc1 i hi
    rwa [List.getD_eq_getElem?_getD, nibs_get d i hi] at h
  have HC1 := Lib.hid hc13
  have HT1 := Lib.hid hat1
  have HEG := Lib.hid (endsOf_get d sig)
  have HEL := Lib.hid (endsOf_len d sig)
  have HE32 := Lib.hid (endsOf_32 d sig h32 HSL.out)
  clear hb0 hd0 hb2 hu1 hc1 hc13 hbl1 hv hv2 hat1 h32
  obtain ⟨es, hes⟩ : ∃ es, endsOf d sig = es := ⟨_, rfl⟩
  have HES := Lib.hid hes
  rw [hes] at HEG HEL HE32
  clear hes
  have hK2 := hK.below hB2 hkl
  go_wp2
  go_loopw [7, 6] (fun t r wr => ∃ i : Nat, i ≤ 18 ∧ t = .int .i64 (i : Int) ∧ OwnB wr w2.heap.size r (pfx es i) ∧ Below w2.heap.size w2 wr) (fun t _ _ => 18 - (intOf t).toNat)
  case atStart => exact ⟨0, by omega, rfl, OwnB.nil _ _, Below.refl _ _⟩
  case round =>
    obtain ⟨i, hi, rfl, ho, hbr⟩ := hrel
    by_cases hlt : i < 18
    · have g1 : wr.cell? ⟨m1, o1 + i, none⟩ = some (.int .i64 (nib d i : Nat)) := (hbr.cell (p := ⟨m1, o1 + i, none⟩) (block_lt_of_cell (HC1.out i hlt))).trans (HC1.out i hlt)
      have e1 : wr.rangeAt q1 (r1 + i * 32) ((sig.getD i []).map B8) := range_below (HT1.out.elem H32.out i (by rw [HSL.out]; exact hlt)) hbr
      have l1 := all32_getD H32.out i (by rw [HSL.out]; exact hlt)
      have hxb := nib_le d i
      have hKr := hK2.below hbr hK2.lt
      have hi1 : (i : Int) < 18 := by omega
      have HP := Lib.hid (pfx_succ es i (by rw [HEL.out]; exact hlt))
      have HPL := Lib.hid (pfx_len es HE32.out i (by rw [HEL.out]; exact hi))
      have heg := HEG.out i hlt
      have hyl := all32_getD HE32.out i (by rw [HEL.out]; exact hlt)
      generalize es.getD i [] = y at *
      generalize sig.getD i [] = dx at *
      generalize nib d i = x at *
      have hx15 : IntKind.i64.wrap (15 - (x : Int)) = 15 - (x : Int) := IntWalk.i64_in _ (by omega)
      obtain ⟨z, hz⟩ : ∃ z, 15 - x = z := ⟨_, rfl⟩
      rw [hz] at heg
      have HZB : Hid (z ≤ 15) := Lib.hid (by omega)
      have HXZ : Hid ((15 : Int) - (x : Int) = (z : Int)) := Lib.hid (by omega)
      have HCH := Lib.hid heg.symm
      have L1 := Lib.hid l1
      have HYL := Lib.hid hyl
      have HSY := Lib.hid (Tryd.sizeD_of y hyl)
      have HCY : Hid ((cellsB y).size = (cellsB (List.replicate 32 0)).size) := Lib.hid (by rw [cellsB_size, hyl]; rfl)
      clear heg l1 hyl hz
      go_wp2
      obtain ⟨B, eB⟩ : ∃ B, wr.heap.size = B := ⟨_, rfl⟩
      have hltk := hKr.lt
      refine wp_gen fun a0 ha0 => ?_
      have i1 : a0.eval (.tmp 1) = .slice (some ⟨q1, r1, none⟩) 18 kv := by rw [ha0]; rfl
      have i5 : a0.eval (.tmp 5) = .slice (some ⟨m1, o1, none⟩) 18 k1 := by rw [ha0]; rfl
      have i7 : a0.eval (.tmp 7) = .int .i64 (i : Int) := by rw [ha0]; rfl
      have hsz : a0.tmps.size = 37 := by rw [ha0]; rfl
      refine wp_region_inv_tail (B := B) 11 [some 23, some 24, some 25, some 26, some 27, some 28, some 29, some 30, some 31, some 32, some 8, none] [Asrt.eq (.slice (some ⟨q1, r1, none⟩) 18 kv), Asrt.eq (.int .i64 (i : Int)), Asrt.eq (.pointer (some ⟨q1, r1 + i * 32, none⟩)), Asrt.eq (.agg (cellsB (dx))), Asrt.eq (.slice (some ⟨m1, o1, none⟩) 18 k1), Asrt.eq (.int .i64 (i : Int)), Asrt.eq (.pointer (some ⟨m1, o1 + i, none⟩)), Asrt.eq (.int .i64 (x : Int)), Asrt.eq (.int .i64 (15 - (x : Int))), Asrt.eq (.agg (cellsB (y))), Asrt.box] rfl (by as_aux_lemma => kernel_rfl) (by rw [hsz]; as_aux_lemma => kernel_rfl) (by as_aux_lemma => kernel_rfl) (by as_aux_lemma => kernel_rfl) (by as_aux_lemma => kernel_rfl) (by decide) (by as_aux_lemma => kernel_rfl) (by omega) ⟨?_, ?_, ?_, ?_, ?_, ?_, ?_, ?_, ?_, ?_, ?_, trivial⟩ ?_
      · as_aux_lemma =>
          intro ev w1 hg hin hc hgl hfn hd
          have hB := hg.top
          have g1 : ev (.tmp 1) = .slice (some ⟨q1, r1, none⟩) 18 kv := (hin 1 (by kernel_rfl)).trans i1
          clear hin hd
          refine step_on (guard_none rfl) fun K hK => ?_
          unfold YieldsG
          go_simp
          exact hK _ _ rfl (Grow.refl hB)
      · as_aux_lemma =>
          intro ev w1 hg hin hc hgl hfn hd
          have hB := hg.top
          have g7 : ev (.tmp 7) = .int .i64 (i : Int) := (hin 7 (by kernel_rfl)).trans i7
          clear hin hd
          refine step_on (guard_none rfl) fun K hK => ?_
          unfold YieldsG
          go_simp
          exact hK _ _ rfl (Grow.refl hB)
      · as_aux_lemma =>
          intro ev w1 hg hin hc hgl hfn hd
          have hB := hg.top
          have f23 : (ev (.tmp 23)) = .slice (some ⟨q1, r1, none⟩) 18 kv := hd.1 rfl _ rfl
          have f24 : (ev (.tmp 24)) = .int .i64 (i : Int) := hd.2.1 rfl _ rfl
          clear hin hd
          refine step_on (guard_none rfl) fun K hK => ?_
          unfold YieldsG
          go_simp
          exact hK _ _ rfl (Grow.refl hB)
      · as_aux_lemma =>
          intro ev w1 hg hin hc hgl hfn hd
          have hB := hg.top
          have f25 : (ev (.tmp 25)) = .pointer (some ⟨q1, r1 + i * 32, none⟩) := hd.1 rfl _ rfl
          clear hin hd
          refine step_on (guard_none rfl) fun K hK => ?_
          refine yg_load_mid 23 (.tmp 25) rfl q1 (r1 + i * 32) f25 (dx.map B8) _ (range_below e1 (by rw [eB]; exact hg.bl)) Tryd.underD rfl (by rw [List.length_map, L1.out]; exact Tryd.sizeD) ?_
          exact hK _ _ rfl (Grow.refl hB)
      · as_aux_lemma =>
          intro ev w1 hg hin hc hgl hfn hd
          have hB := hg.top
          have g5 : ev (.tmp 5) = .slice (some ⟨m1, o1, none⟩) 18 k1 := (hin 5 (by kernel_rfl)).trans i5
          clear hin hd
          refine step_on (guard_none rfl) fun K hK => ?_
          unfold YieldsG
          go_simp
          exact hK _ _ rfl (Grow.refl hB)
      · as_aux_lemma =>
          intro ev w1 hg hin hc hgl hfn hd
          have hB := hg.top
          have g7 : ev (.tmp 7) = .int .i64 (i : Int) := (hin 7 (by kernel_rfl)).trans i7
          clear hin hd
          refine step_on (guard_none rfl) fun K hK => ?_
          unfold YieldsG
          go_simp
          exact hK _ _ rfl (Grow.refl hB)
      · as_aux_lemma =>
          intro ev w1 hg hin hc hgl hfn hd
          have hB := hg.top
          have f27 : (ev (.tmp 27)) = .slice (some ⟨m1, o1, none⟩) 18 k1 := hd.1 rfl _ rfl
          have f28 : (ev (.tmp 28)) = .int .i64 (i : Int) := hd.2.1 rfl _ rfl
          clear hin hd
          refine step_on (guard_none rfl) fun K hK => ?_
          unfold YieldsG
          go_simp
          exact hK _ _ rfl (Grow.refl hB)
      · as_aux_lemma =>
          intro ev w1 hg hin hc hgl hfn hd
          have hB := hg.top
          have f29 : (ev (.tmp 29)) = .pointer (some ⟨m1, o1 + i, none⟩) := hd.1 rfl _ rfl
          clear hin hd
          refine step_on (guard_none rfl) fun K hK => ?_
          have hc1 := hg.cell g1
          unfold YieldsG
          go_simp
          exact hK _ _ rfl (Grow.refl hB)
      · as_aux_lemma =>
          intro ev w1 hg hin hc hgl hfn hd
          have hB := hg.top
          have f30 : (ev (.tmp 30)) = .int .i64 (x : Int) := hd.1 rfl _ rfl
          clear hin hd
          refine step_on (guard_none rfl) fun K hK => ?_
          unfold YieldsG
          go_simp
          exact hK _ _ rfl (Grow.refl hB)
      · as_aux_lemma =>
          intro ev w1 hg hin hc hgl hfn hd
          have hB := hg.top
          have f26 : (ev (.tmp 26)) = .agg (cellsB (dx)) := hd.1 rfl _ rfl
          have f31 : (ev (.tmp 31)) = .int .i64 (15 - (x : Int)) := hd.2.1 rfl _ rfl
          clear hin hd
          refine step_on (guard_none rfl) fun K hK => ?_
          rw [HXZ.out] at f31
          unfold YieldsG
          go_simp
          refine (chain_any dx (z : Int) w1 L1.out (by omega) (by have := HZB.out; omega) (hKr.below hg.bl (by omega))).mono ?_
          rintro e w2 ⟨rfl, hb⟩
          exact ⟨_, rfl, hK _ _ (by show Value.agg _ = _; rw [Int.toNat_natCast, HCH.out]) (Grow.of hB hb)⟩
      · as_aux_lemma =>
          intro ev w1 hg hin hc hgl hfn hd
          have hB := hg.top
          clear hin hd
          refine step_on (guard_none rfl) fun K hK => ?_
          unfold YieldsG
          go_simp
          exact hK _ _ ⟨_, rfl, hB, Row.new _ _ _⟩ (Grow.of hB ((Below.refl _ _).alloc (Nat.le_refl _) _))
      intro v w6 hg hall
      have hf0 : (v 0) = .slice (some ⟨q1, r1, none⟩) 18 kv := hall.1 (by simp)
      have hf1 : (v 1) = .int .i64 (i : Int) := hall.2.1 (by simp)
      have hf2 : (v 2) = .pointer (some ⟨q1, r1 + i * 32, none⟩) := hall.2.2.1 (by simp)
      have hf3 : (v 3) = .agg (cellsB (dx)) := hall.2.2.2.1 (by simp)
      have hf4 : (v 4) = .slice (some ⟨m1, o1, none⟩) 18 k1 := hall.2.2.2.2.1 (by simp)
      have hf5 : (v 5) = .int .i64 (i : Int) := hall.2.2.2.2.2.1 (by simp)
      have hf6 : (v 6) = .pointer (some ⟨m1, o1 + i, none⟩) := hall.2.2.2.2.2.2.1 (by simp)
      have hf7 : (v 7) = .int .i64 (x : Int) := hall.2.2.2.2.2.2.2.1 (by simp)
      have hf8 : (v 8) = .int .i64 (15 - (x : Int)) := hall.2.2.2.2.2.2.2.2.1 (by simp)
      have hf9 : (v 9) = .agg (cellsB (y)) := hall.2.2.2.2.2.2.2.2.2.1 (by simp)
      have hf10 : ∃ g, (v 10) = .pointer (some ⟨g, 0, none⟩) ∧ B ≤ g ∧ Row w6 g 23 (cellsB (List.replicate 32 0)) := hall.2.2.2.2.2.2.2.2.2.2.1 (by simp)
      clear hall i1 i5 i7 hsz
      rw [ha0]
      clear ha0
      simp only [List.take_succ_cons, List.take_zero, List.drop_succ_cons, List.drop_zero, putAll, Act.put, List.setIfInBounds_toArray, List.set_cons_zero, List.set_cons_succ, Nat.zero_add, Nat.reduceAdd]
      rw [hf0, hf1, hf2, hf3, hf4, hf5, hf6, hf7, hf8, hf9]
      generalize v 10 = x10 at *
      clear hf0 hf1 hf2 hf3 hf4 hf5 hf6 hf7 hf8 hf9
      obtain ⟨gb, hgb, hgB, hgr⟩ := hf10
      subst hgb
      have hbw := hg.below
      have hb6 := hbr.trans (hg.below.mono hbr.size)
      clear hg hKr g1 e1
      have hwB : w2.heap.size ≤ gb := Nat.le_trans hbr.size (by omega)
      go_wp2_with (first | (refine wpList_store_row rfl 23 (.tmp 8) (.tmp 32) rfl gb rfl (cellsB y) (cellsB (List.replicate 32 0)) 23 rfl hgr HCY.out HSY.out (cellsB_one _) ?_; intro w7 hg7 hrw7 hz7; clear hz7; have hb7 := hb6.grown hg7 hb6.size (fun k hk => (by cases hk; exact hwB)); have ho7 := ho.below (fun b _ hlt => (hg7.block b (Nat.lt_of_lt_of_le hlt hbw.size) (fun e => (by have := Option.some.inj e; omega))).trans (hbw.block b hlt)); have hs7 := hrw7.bytes HYL.out) | (at_builtin; refine wpList_append_bytes rfl (.tmp 33) (.tmp 34) rfl w2.heap.size _ _ (pfx es i) y _ rfl ho7 rfl hs7 (by rw [HPL.out, HYL.out]; omega) hb7.size ?_; intro v8 w8 ho8 hg8))
      rw [← HP.out] at ho8
      go_roundw
      case rel => exact ⟨i + 1, by omega, by go_num, ho8, hb7.grown hg8 hb7.size (fun k hk => ho7.ownBlock k hk)⟩
      case measure => simp [intOf]; omega
    · rw [pfx_all es i (by rw [HEL.out]; omega)] at ho
      have hm := ho.bytes (fun _ => True) fun _ _ => trivial
      go_wp2
      go_ret
      exact ⟨_, rfl, by rw [HES.out]; exact hm, hB2.trans (hbr.mono hB2.size)⟩
end Go.Proofs.YthhlfcbkggahmaaDoor

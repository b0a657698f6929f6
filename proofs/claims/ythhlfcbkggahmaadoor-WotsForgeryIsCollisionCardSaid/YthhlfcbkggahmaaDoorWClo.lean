/- The closures of wots.walk and wots.Recover. Conditions: what they have captured lies in its cells, the constants lie in their variable. -/
import Derived.Test.YthhlfcbkggahmaaDoorWLeb
import Derived.Test.YthhlfcbkggahmaaDoorWLen
import Derived.Test.YthhlfcbkggahmaaDoorInv2
namespace Go.Proofs.YthhlfcbkggahmaaDoor
open Go.RowKit
theorem wrap_u64_in (n : Int) (h0 : 0 ≤ n) (h1 : n < 18446744073709551616) : IntKind.u64.wrap n = n := by
  simp [IntKind.wrap, IntKind.bits, IntKind.signed]; omega
theorem OwnB.base {w : World} {b b' : Nat} {v : Value} {xs : List UInt8} (h : OwnB w b v xs) (hb : b' ≤ b) : OwnB w b' v xs := by
  obtain ⟨h1, h2 | ⟨g, cap, cur, rfl, hg, r⟩⟩ := h
  · exact ⟨h1, .inl h2⟩
  · exact ⟨h1, .inr ⟨g, cap, cur, rfl, Nat.le_trans hb hg, r⟩⟩
def Asrt.own {B : Nat} (l : List UInt8) : Asrt B := ⟨fun v w => OwnB w B v l, fun _ _ _ h hg => h.below fun b _ hlt => hg.below.block b hlt⟩
theorem range_below {w w' : World} {b o : Nat} {cs : List Value} (h : w.rangeAt b o cs) (hb : Below w.heap.size w w') : w'.rangeAt b o cs := fun j v hv => (hb.cell (p := ⟨b, o + j, none⟩) (block_lt_of_cell (h j v hv))).trans (h j v hv)
theorem cell_below {w w' : World} {b : Nat} {v : Value} (h : w.cell? ⟨b, 0, none⟩ = some v) (hb : Below w.heap.size w w') : w'.cell? ⟨b, 0, none⟩ = some v := (hb.cell (p := ⟨b, 0, none⟩) (block_lt_of_cell h)).trans h
set_option maxRecDepth 10000 in
set_option maxHeartbeats 2000000 in
theorem walk1_any (i : Nat) (pre seed : List UInt8) (vp vs : Value) (bp bs bn : Nat) (ns : List Nat) (x : Nat) (w : World) (hi : i < 18) (hpre : pre.length ≤ 1000) (hseed : seed.length ≤ 1000) (hvp : Bytes w vp pre (fun _ => True)) (hvs : Bytes w vs seed (fun _ => True))
    (cp : w.cell? ⟨bp, 0, none⟩ = some vp) (cs : w.cell? ⟨bs, 0, none⟩ = some vs) (hn : Row w bn 48 (cellsN ns)) (hns : ns.length = 18) (hnx : ns.getD i 0 = x) (hx : x ≤ 15) (hK : KFact w) :
    Calls Tryd.prog 40 #[.int .i64 (i : Int), .pointer (some ⟨bp, 0, none⟩), .pointer (some ⟨bs, 0, none⟩), .pointer (some ⟨bn, 0, none⟩)] w fun e w' => e = .returned (.agg (cellsB (chainOf (taggedOf wotsTag (pre ++ leb i ++ seed)) x))) ∧ Below w.heap.size w w' := by
  have hkl := hK.lt
  have hnlt := hn.lt
  have hi1 : (i : Int) < 18 := by omega
  have hi2 : IntKind.u64.wrap (i : Int) = (i : Int) := wrap_u64_in _ (by omega) (by omega)
  have hcn := hn.num i (by rw [hns]; exact hi)
  rw [hnx] at hcn
  clear hns hnx
  obtain ⟨ap, kp, rfl⟩ : ∃ a c, vp = .slice a pre.length c := by obtain ⟨a, c, h, _⟩ := hvp; exact ⟨a, c, h⟩
  obtain ⟨sd, ks, rfl⟩ : ∃ a c, vs = .slice a seed.length c := by obtain ⟨a, c, h, _⟩ := hvs; exact ⟨a, c, h⟩
  have hb0 : Below w.heap.size w (w.alloc (.cells (cellsB (List.replicate 32 0)) 23)) := (Below.refl _ _).alloc (Nat.le_refl _) _
  have hD0 : Row (w.alloc (.cells (cellsB (List.replicate 32 0)) 23)) w.heap.size 23 (cellsB (List.replicate 32 0)) := Row.new w _ _
  go_enter Tryd.func40, Tryd.ntmps40
  generalize hRR : Code.region 2 _ _ = RR
  go_wp2
  obtain ⟨w0, ew0⟩ : ∃ w0, w.alloc (.cells (cellsB (List.replicate 32 0)) 23) = w0 := ⟨_, rfl⟩
  rw [ew0] at hb0 hD0
  change Code.wp _ _ _ _ (w.alloc (.cells (cellsB (List.replicate 32 0)) 23))
  rw [ew0]
  clear ew0
  have cp0 := cell_below cp hb0
  have cs0 := cell_below cs hb0
  have hp0 := (hvp.later hb0).imp (ok' := fun _ => True) fun _ _ => trivial
  have hs0 := (hvs.later hb0).imp (ok' := fun _ => True) fun _ _ => trivial
  have hcn0 := (hb0.cell (p := ⟨bn, i, none⟩) (block_lt_of_cell hcn)).trans hcn
  have hK0 := hK.below hb0 hkl
  obtain ⟨B, eB⟩ : ∃ B, w0.heap.size = B := ⟨_, rfl⟩
  clear hvp hvs cp cs hn hcn
  refine wp_gen fun a0 ha0 => ?_
  have i0 : a0.eval (.tmp 0) = .int .i64 (i : Int) := by rw [ha0]; rfl
  have i1 : a0.eval (.tmp 1) = .pointer (some ⟨bp, 0, none⟩) := by rw [ha0]; rfl
  have i2 : a0.eval (.tmp 2) = .pointer (some ⟨bs, 0, none⟩) := by rw [ha0]; rfl
  have hsz : a0.tmps.size = 19 := by rw [ha0]; rfl
  refine wp_region_inv_tail (B := B) 5 [some 7, some 8, some 9, some 10, some 11, some 12, some 6] [Asrt.eq (.slice ap pre.length kp), Asrt.eq (.int .i64 (i : Int)), Asrt.eq (.int .u64 (i : Int)), Asrt.own (pre ++ leb i), Asrt.eq (.slice sd seed.length ks)] rfl (by as_aux_lemma => kernel_rfl) (by rw [hsz]; as_aux_lemma => kernel_rfl) (by as_aux_lemma => kernel_rfl) (by as_aux_lemma => kernel_rfl) (by as_aux_lemma => kernel_rfl) (by decide) (by as_aux_lemma => kernel_rfl) (by omega) ⟨?_, ?_, ?_, ?_, ?_, trivial⟩ ?_
  · as_aux_lemma =>
      intro ev w1 hg hin hc hgl hfn hd
      have hB := hg.top
      have g1 : ev (.tmp 1) = .pointer (some ⟨bp, 0, none⟩) := (hin 1 (by kernel_rfl)).trans i1
      clear hin hd
      refine step_on (guard_none rfl) fun K hK => ?_
      have hc1 := hg.cell cp0
      unfold YieldsG
      go_simp
      exact hK _ _ rfl (Grow.refl hB)
  · as_aux_lemma =>
      intro ev w1 hg hin hc hgl hfn hd
      have hB := hg.top
      have g0 : ev (.tmp 0) = .int .i64 (i : Int) := (hin 0 (by kernel_rfl)).trans i0
      clear hin hd
      refine step_on (guard_none rfl) fun K hK => ?_
      unfold YieldsG
      go_simp
      exact hK _ _ rfl (Grow.refl hB)
  · as_aux_lemma =>
      intro ev w1 hg hin hc hgl hfn hd
      have hB := hg.top
      have f8 : (ev (.tmp 8)) = .int .i64 (i : Int) := hd.1 rfl _ rfl
      clear hin hd
      refine step_on (guard_none rfl) fun K hK => ?_
      unfold YieldsG
      go_simp
      exact hK _ _ rfl (Grow.refl hB)
  · as_aux_lemma =>
      intro ev w1 hg hin hc hgl hfn hd
      have hB := hg.top
      have f7 : (ev (.tmp 7)) = .slice ap pre.length kp := hd.1 rfl _ rfl
      have f9 : (ev (.tmp 9)) = .int .u64 (i : Int) := hd.2.1 rfl _ rfl
      clear hin hd
      refine step_on (guard_none rfl) fun K hK => ?_
      unfold YieldsG
      go_simp
      refine (uint_any pre _ i _ w1 ((Asrt.bytes (B := B) pre).st _ _ _ hp0 hg) (by omega) (by omega)).mono ?_
      rintro e w2 ⟨v2, rfl, ho, hb⟩
      exact ⟨_, rfl, hK _ _ (ho.base hB) (Grow.of hB hb)⟩
  · as_aux_lemma =>
      intro ev w1 hg hin hc hgl hfn hd
      have hB := hg.top
      have g2 : ev (.tmp 2) = .pointer (some ⟨bs, 0, none⟩) := (hin 2 (by kernel_rfl)).trans i2
      clear hin hd
      refine step_on (guard_none rfl) fun K hK => ?_
      have hc1 := hg.cell cs0
      unfold YieldsG
      go_simp
      exact hK _ _ rfl (Grow.refl hB)
  intro v w2 hg hall
  have hf0 : (v 0) = .slice ap pre.length kp := hall.1 (by simp)
  have hf1 : (v 1) = .int .i64 (i : Int) := hall.2.1 (by simp)
  have hf2 : (v 2) = .int .u64 (i : Int) := hall.2.2.1 (by simp)
  have hf3 : OwnB w2 B (v 3) (pre ++ leb i) := hall.2.2.2.1 (by simp)
  have hf4 : (v 4) = .slice sd seed.length ks := hall.2.2.2.2.1 (by simp)
  clear hall i0 i1 i2 hsz
  rw [ha0]
  clear ha0
  simp only [List.take_succ_cons, List.take_zero, List.drop_succ_cons, List.drop_zero, putAll, Act.put, List.setIfInBounds_toArray, List.set_cons_zero, List.set_cons_succ, Nat.zero_add, Nat.reduceAdd]
  rw [hf0, hf1, hf2, hf4]
  generalize v 3 = x3 at *
  clear hf0 hf1 hf2 hf4
  have hs2 := (Asrt.bytes (B := B) seed).st _ _ _ hs0 hg
  have hbb2 : Below w.heap.size w w2 := hb0.trans (hg.bl.mono (by rw [← eB]; exact hb0.size))
  have hD2 : Row w2 w.heap.size 23 (cellsB (List.replicate 32 0)) := hg.kept _ _ hD0
  have hcn2 := hg.cell hcn0
  have hBt := hg.top
  have hBz : w.heap.size + 1 ≤ B := by have := hD0.lt; omega
  clear hg cp0 cs0 hp0 hs0 hcn0 hK0 hb0 hD0
  go_wp2_with (at_builtin; refine wpList_append_bytes rfl (.tmp 10) (.tmp 11) rfl B _ _ (pre ++ leb i) seed _ rfl hf3 rfl hs2 (by rw [List.length_append]; have := leb_len i; omega) hBt ?_; intro v6 w6 ho6 hg6)
  have hb6 : Below w.heap.size w w6 := hbb2.grown hg6 hbb2.size (fun k hk => by have := hf3.ownBlock k hk; omega)
  have hD6 := hD2.grown hg6 (fun e => by have := hf3.ownBlock _ e.symm; omega)
  have hcn6 : w6.cell? ⟨bn, i, none⟩ = some (.int .i64 (x : Int)) := by
    rw [World.cell?_of_block (w := w2) (hg6.block bn (block_lt_of_cell hcn2) (fun e => by have := hf3.ownBlock _ e.symm; omega))]; exact hcn2
  have hm6 : Bytes w6 v6 (pre ++ leb i ++ seed) (fun _ => True) := ho6.bytes _ fun _ _ => trivial
  have hml : (pre ++ leb i ++ seed).length ≤ 17592186044416 := by rw [List.length_append, List.length_append]; have := leb_len i; omega
  have hK6 := hK.below hb6 hkl
  obtain ⟨m, hm⟩ : ∃ m, pre ++ leb i ++ seed = m := ⟨_, rfl⟩
  rw [hm] at hm6 hml
  have HM := Lib.hid hm
  clear hm
  clear hf3 hs2 hbb2 hD2 hcn2 hBt hg6 ho6 hK
  rw [← hRR]
  clear hRR eB
  have hz6 := hb6.size
  obtain ⟨B, eB⟩ : ∃ B, w6.heap.size = B := ⟨_, rfl⟩
  have hkl6 := hK6.lt
  refine wp_gen fun a0 ha0 => ?_
  have i0 : a0.eval (.tmp 0) = .int .i64 (i : Int) := by rw [ha0]; rfl
  have i3 : a0.eval (.tmp 3) = .pointer (some ⟨bn, 0, none⟩) := by rw [ha0]; rfl
  have i6 : a0.eval (.tmp 6) = v6 := by rw [ha0]; rfl
  have hsz : a0.tmps.size = 19 := by rw [ha0]; rfl
  refine wp_region_inv_tail (B := B) 6 [some 13, some 14, some 15, some 16, some 17, some 18, none] [Asrt.eq (v6), Asrt.eq (.agg (cellsB (taggedOf wotsTag m))), Asrt.eq (.int .i64 (i : Int)), Asrt.eq (.pointer (some ⟨bn, i, none⟩)), Asrt.eq (.int .i64 (x : Int)), Asrt.eq (.agg (cellsB (chainOf (taggedOf wotsTag m) x)))] rfl (by as_aux_lemma => kernel_rfl) (by rw [hsz]; as_aux_lemma => kernel_rfl) (by as_aux_lemma => kernel_rfl) (by as_aux_lemma => kernel_rfl) (by as_aux_lemma => kernel_rfl) (by decide) (by as_aux_lemma => kernel_rfl) (by omega) ⟨?_, ?_, ?_, ?_, ?_, ?_, trivial⟩ ?_
  · as_aux_lemma =>
      intro ev w1 hg hin hc hgl hfn hd
      have hB := hg.top
      have g6 : ev (.tmp 6) = v6 := (hin 6 (by kernel_rfl)).trans i6
      clear hin hd
      refine step_on (guard_none rfl) fun K hK => ?_
      unfold YieldsG
      go_simp
      exact hK _ _ rfl (Grow.refl hB)
  · as_aux_lemma =>
      intro ev w1 hg hin hc hgl hfn hd
      have hB := hg.top
      have f13 : (ev (.tmp 13)) = v6 := hd.1 rfl _ rfl
      clear hin hd
      refine step_on (guard_none rfl) fun K hK => ?_
      unfold YieldsG
      go_simp
      refine (tagged_any (ByteArray.mk #[119, 111, 116, 115]) v6 m _ w1 (by decide) ((Asrt.bytes (B := B) m).st _ _ _ hm6 hg) (hK6.below hg.bl (by omega)) hml).mono ?_
      rintro e w2 ⟨rfl, hb⟩
      exact ⟨_, rfl, hK _ _ rfl (Grow.of hB hb)⟩
  · as_aux_lemma =>
      intro ev w1 hg hin hc hgl hfn hd
      have hB := hg.top
      have g0 : ev (.tmp 0) = .int .i64 (i : Int) := (hin 0 (by kernel_rfl)).trans i0
      clear hin hd
      refine step_on (guard_none rfl) fun K hK => ?_
      unfold YieldsG
      go_simp
      exact hK _ _ rfl (Grow.refl hB)
  · as_aux_lemma =>
      intro ev w1 hg hin hc hgl hfn hd
      have hB := hg.top
      have f15 : (ev (.tmp 15)) = .int .i64 (i : Int) := hd.1 rfl _ rfl
      have g3 : ev (.tmp 3) = .pointer (some ⟨bn, 0, none⟩) := (hin 3 (by kernel_rfl)).trans i3
      clear hin hd
      refine step_on (guard_none rfl) fun K hK => ?_
      unfold YieldsG
      go_simp
      exact hK _ _ rfl (Grow.refl hB)
  · as_aux_lemma =>
      intro ev w1 hg hin hc hgl hfn hd
      have hB := hg.top
      have f16 : (ev (.tmp 16)) = .pointer (some ⟨bn, i, none⟩) := hd.1 rfl _ rfl
      clear hin hd
      refine step_on (guard_none rfl) fun K hK => ?_
      have hc1 := hg.cell hcn6
      unfold YieldsG
      go_simp
      exact hK _ _ rfl (Grow.refl hB)
  · as_aux_lemma =>
      intro ev w1 hg hin hc hgl hfn hd
      have hB := hg.top
      have f14 : (ev (.tmp 14)) = .agg (cellsB (taggedOf wotsTag m)) := hd.1 rfl _ rfl
      have f17 : (ev (.tmp 17)) = .int .i64 (x : Int) := hd.2.1 rfl _ rfl
      clear hin hd
      refine step_on (guard_none rfl) fun K hK => ?_
      unfold YieldsG
      go_simp
      refine (chain_any (taggedOf wotsTag m) (x : Int) w1 (taggedOf_len _ _) (by omega) (by omega) (hK6.below hg.bl (by omega))).mono ?_
      rintro e w2 ⟨rfl, hb⟩
      exact ⟨_, rfl, hK _ _ rfl (Grow.of hB hb)⟩
  intro v w2 hg hall
  have hf0 : (v 0) = v6 := hall.1 (by simp)
  have hf1 : (v 1) = .agg (cellsB (taggedOf wotsTag m)) := hall.2.1 (by simp)
  have hf2 : (v 2) = .int .i64 (i : Int) := hall.2.2.1 (by simp)
  have hf3 : (v 3) = .pointer (some ⟨bn, i, none⟩) := hall.2.2.2.1 (by simp)
  have hf4 : (v 4) = .int .i64 (x : Int) := hall.2.2.2.2.1 (by simp)
  have hf5 : (v 5) = .agg (cellsB (chainOf (taggedOf wotsTag m) x)) := hall.2.2.2.2.2.1 (by simp)
  clear hall i0 i3 i6 hsz
  rw [ha0]
  clear ha0
  simp only [List.take_succ_cons, List.take_zero, List.drop_succ_cons, List.drop_zero, putAll, Act.put, List.setIfInBounds_toArray, List.set_cons_zero, List.set_cons_succ, Nat.zero_add, Nat.reduceAdd]
  rw [hf0, hf1, hf2, hf3, hf4, hf5]
  clear hf0 hf1 hf2 hf3 hf4 hf5
  have hD2 : Row w2 w.heap.size 23 (cellsB (List.replicate 32 0)) := hg.kept _ _ hD6
  have hbb2 : Below w.heap.size w w2 := hb6.trans (hg.bl.mono (by rw [← eB]; exact hb6.size))
  have HLN := chainOf_len (taggedOf wotsTag m) (taggedOf_len _ _) x
  have HSZ := Lib.hid (Tryd.sizeD_of _ HLN)
  have HCS : Hid ((cellsB (chainOf (taggedOf wotsTag m) x)).size = (cellsB (List.replicate 32 0)).size) := Lib.hid (by rw [cellsB_size, HLN]; rfl)
  clear HLN hg hD6 hb6 hm6 hml hK6
  go_wp2_with (refine wpList_store_row rfl 23 (.tmp 5) (.tmp 18) rfl w.heap.size rfl (cellsB (chainOf (taggedOf wotsTag m) x)) _ 23 rfl hD2 HCS.out HSZ.out (cellsB_one _) ?_; intro w9 hg9 hr9 hz9)
  refine bodyPost_ret (v := .agg (cellsB (chainOf (taggedOf wotsTag m) x))) (results_cell_row rfl _ _ w.heap.size 23 _ (0, 0) _ rfl hr9 Tryd.underD rfl HSZ.out) rfl ⟨by rw [HM.out], ?_⟩
  exact hbb2.grown hg9 hbb2.size (fun k hk => by cases hk; exact Nat.le_refl _)
set_option maxRecDepth 10000 in
set_option maxHeartbeats 2000000 in
theorem rec1_any (i : Nat) (sig : List (List UInt8)) (vs : Value) (bs bn : Nat) (ns : List Nat) (x : Nat) (w : World) (hi : i < 18) (h32 : all32 sig) (hsl : sig.length = 18) (hvs : Digs w vs sig)
    (cs : w.cell? ⟨bs, 0, none⟩ = some vs) (hn : Row w bn 48 (cellsN ns)) (hns : ns.length = 18) (hnx : ns.getD i 0 = x) (hx : x ≤ 15) (hK : KFact w) :
    Calls Tryd.prog 36 #[.int .i64 (i : Int), .pointer (some ⟨bs, 0, none⟩), .pointer (some ⟨bn, 0, none⟩)] w fun e w' => e = .returned (.agg (cellsB (chainOf (sig.getD i []) (15 - x)))) ∧ Below w.heap.size w w' := by
  have hkl := hK.lt
  have hnlt := hn.lt
  have hi1 : (i : Int) < 18 := by omega
  have hcn := hn.num i (by rw [hns]; exact hi)
  rw [hnx] at hcn
  clear hns hnx
  have hel := all32_getD h32 i (by omega)
  obtain ⟨av, ks, rfl⟩ := hvs.form
  rw [hsl] at hvs cs
  obtain ⟨sb, so, rfl, -, hk1, hk2, hat⟩ := hvs.at (by omega)
  have hce := hat.elem h32 i (by omega)
  clear hvs hat h32 hsl
  generalize sig.getD i [] = y at *
  have hx15 : (15 : Int) - (x : Int) = ((15 - x : Nat) : Int) := by omega
  have HX15 := Lib.hid hx15
  clear hx15
  have hw15 : IntKind.i64.wrap (15 - (x : Int)) = 15 - (x : Int) := IntWalk.i64_in _ (by omega)
  have hb0 : Below w.heap.size w (w.alloc (.cells (cellsB (List.replicate 32 0)) 23)) := (Below.refl _ _).alloc (Nat.le_refl _) _
  have hD0 : Row (w.alloc (.cells (cellsB (List.replicate 32 0)) 23)) w.heap.size 23 (cellsB (List.replicate 32 0)) := Row.new w _ _
  go_enter Tryd.func36, Tryd.ntmps36
  go_wp2
  obtain ⟨w0, ew0⟩ : ∃ w0, w.alloc (.cells (cellsB (List.replicate 32 0)) 23) = w0 := ⟨_, rfl⟩
  rw [ew0] at hb0 hD0
  change Code.wp _ _ _ _ (w.alloc (.cells (cellsB (List.replicate 32 0)) 23))
  rw [ew0]
  clear ew0
  have cs0 := cell_below cs hb0
  have hcn0 := (hb0.cell (p := ⟨bn, i, none⟩) (block_lt_of_cell hcn)).trans hcn
  have hce0 : w0.rangeAt sb (so + i * 32) (y.map B8) := range_below hce hb0
  have hK0 := hK.below hb0 hkl
  obtain ⟨B, eB⟩ : ∃ B, w0.heap.size = B := ⟨_, rfl⟩
  have hkl0 := hK0.lt
  clear cs hn hcn hce
  refine wp_gen fun a0 ha0 => ?_
  have i0 : a0.eval (.tmp 0) = .int .i64 (i : Int) := by rw [ha0]; rfl
  have i1 : a0.eval (.tmp 1) = .pointer (some ⟨bs, 0, none⟩) := by rw [ha0]; rfl
  have i2 : a0.eval (.tmp 2) = .pointer (some ⟨bn, 0, none⟩) := by rw [ha0]; rfl
  have hsz : a0.tmps.size = 14 := by rw [ha0]; rfl
  refine wp_region_inv_tail (B := B) 9 [some 5, some 6, some 7, some 8, some 9, some 10, some 11, some 12, some 13, none] [Asrt.eq (.slice (some ⟨sb, so, none⟩) 18 ks), Asrt.eq (.int .i64 (i : Int)), Asrt.eq (.pointer (some ⟨sb, so + i * 32, none⟩)), Asrt.eq (.agg (cellsB (y))), Asrt.eq (.int .i64 (i : Int)), Asrt.eq (.pointer (some ⟨bn, i, none⟩)), Asrt.eq (.int .i64 (x : Int)), Asrt.eq (.int .i64 (15 - (x : Int))), Asrt.eq (.agg (cellsB (chainOf y (15 - x))))] rfl (by as_aux_lemma => kernel_rfl) (by rw [hsz]; as_aux_lemma => kernel_rfl) (by as_aux_lemma => kernel_rfl) (by as_aux_lemma => kernel_rfl) (by as_aux_lemma => kernel_rfl) (by decide) (by as_aux_lemma => kernel_rfl) (by omega) ⟨?_, ?_, ?_, ?_, ?_, ?_, ?_, ?_, ?_, trivial⟩ ?_
  · as_aux_lemma =>
      intro ev w1 hg hin hc hgl hfn hd
      have hB := hg.top
      have g1 : ev (.tmp 1) = .pointer (some ⟨bs, 0, none⟩) := (hin 1 (by kernel_rfl)).trans i1
      clear hin hd
      refine step_on (guard_none rfl) fun K hK => ?_
      have hc1 := hg.cell cs0
      unfold YieldsG
      go_simp
      exact hK _ _ rfl (Grow.refl hB)
  · as_aux_lemma =>
      intro ev w1 hg hin hc hgl hfn hd
      have hB := hg.top
      have g0 : ev (.tmp 0) = .int .i64 (i : Int) := (hin 0 (by kernel_rfl)).trans i0
      clear hin hd
      refine step_on (guard_none rfl) fun K hK => ?_
      unfold YieldsG
      go_simp
      exact hK _ _ rfl (Grow.refl hB)
  · as_aux_lemma =>
      intro ev w1 hg hin hc hgl hfn hd
      have hB := hg.top
      have f5 : (ev (.tmp 5)) = .slice (some ⟨sb, so, none⟩) 18 ks := hd.1 rfl _ rfl
      have f6 : (ev (.tmp 6)) = .int .i64 (i : Int) := hd.2.1 rfl _ rfl
      clear hin hd
      refine step_on (guard_none rfl) fun K hK => ?_
      unfold YieldsG
      go_simp
      exact hK _ _ rfl (Grow.refl hB)
  · as_aux_lemma =>
      intro ev w1 hg hin hc hgl hfn hd
      have hB := hg.top
      have f7 : (ev (.tmp 7)) = .pointer (some ⟨sb, so + i * 32, none⟩) := hd.1 rfl _ rfl
      clear hin hd
      refine step_on (guard_none rfl) fun K hK => ?_
      refine yg_load_mid 23 (.tmp 7) rfl sb (so + i * 32) f7 (y.map B8) _ (range_below hce0 (by rw [eB]; exact hg.bl)) Tryd.underD rfl (by rw [List.length_map, hel]; exact Tryd.sizeD) ?_
      exact hK _ _ rfl (Grow.refl hB)
  · as_aux_lemma =>
      intro ev w1 hg hin hc hgl hfn hd
      have hB := hg.top
      have g0 : ev (.tmp 0) = .int .i64 (i : Int) := (hin 0 (by kernel_rfl)).trans i0
      clear hin hd
      refine step_on (guard_none rfl) fun K hK => ?_
      unfold YieldsG
      go_simp
      exact hK _ _ rfl (Grow.refl hB)
  · as_aux_lemma =>
      intro ev w1 hg hin hc hgl hfn hd
      have hB := hg.top
      have f9 : (ev (.tmp 9)) = .int .i64 (i : Int) := hd.1 rfl _ rfl
      have g2 : ev (.tmp 2) = .pointer (some ⟨bn, 0, none⟩) := (hin 2 (by kernel_rfl)).trans i2
      clear hin hd
      refine step_on (guard_none rfl) fun K hK => ?_
      unfold YieldsG
      go_simp
      exact hK _ _ rfl (Grow.refl hB)
  · as_aux_lemma =>
      intro ev w1 hg hin hc hgl hfn hd
      have hB := hg.top
      have f10 : (ev (.tmp 10)) = .pointer (some ⟨bn, i, none⟩) := hd.1 rfl _ rfl
      clear hin hd
      refine step_on (guard_none rfl) fun K hK => ?_
      have hc1 := hg.cell hcn0
      unfold YieldsG
      go_simp
      exact hK _ _ rfl (Grow.refl hB)
  · as_aux_lemma =>
      intro ev w1 hg hin hc hgl hfn hd
      have hB := hg.top
      have f11 : (ev (.tmp 11)) = .int .i64 (x : Int) := hd.1 rfl _ rfl
      clear hin hd
      refine step_on (guard_none rfl) fun K hK => ?_
      unfold YieldsG
      go_simp
      exact hK _ _ rfl (Grow.refl hB)
  · as_aux_lemma =>
      intro ev w1 hg hin hc hgl hfn hd
      have hB := hg.top
      have f8 : (ev (.tmp 8)) = .agg (cellsB (y)) := hd.1 rfl _ rfl
      have f12 : (ev (.tmp 12)) = .int .i64 (15 - (x : Int)) := hd.2.1 rfl _ rfl
      clear hin hd
      refine step_on (guard_none rfl) fun K hK => ?_
      rw [HX15.out] at f12
      unfold YieldsG
      go_simp
      refine (chain_any y ((15 - x : Nat) : Int) w1 hel (by omega) (by omega) (hK0.below hg.bl (by omega))).mono ?_
      rintro e w2 ⟨rfl, hb⟩
      exact ⟨_, rfl, hK _ _ rfl (Grow.of hB hb)⟩
  intro v w2 hg hall
  have hf0 : (v 0) = .slice (some ⟨sb, so, none⟩) 18 ks := hall.1 (by simp)
  have hf1 : (v 1) = .int .i64 (i : Int) := hall.2.1 (by simp)
  have hf2 : (v 2) = .pointer (some ⟨sb, so + i * 32, none⟩) := hall.2.2.1 (by simp)
  have hf3 : (v 3) = .agg (cellsB (y)) := hall.2.2.2.1 (by simp)
  have hf4 : (v 4) = .int .i64 (i : Int) := hall.2.2.2.2.1 (by simp)
  have hf5 : (v 5) = .pointer (some ⟨bn, i, none⟩) := hall.2.2.2.2.2.1 (by simp)
  have hf6 : (v 6) = .int .i64 (x : Int) := hall.2.2.2.2.2.2.1 (by simp)
  have hf7 : (v 7) = .int .i64 (15 - (x : Int)) := hall.2.2.2.2.2.2.2.1 (by simp)
  have hf8 : (v 8) = .agg (cellsB (chainOf y (15 - x))) := hall.2.2.2.2.2.2.2.2.1 (by simp)
  clear hall i0 i1 i2 hsz
  rw [ha0]
  clear ha0
  simp only [List.take_succ_cons, List.take_zero, List.drop_succ_cons, List.drop_zero, putAll, Act.put, List.setIfInBounds_toArray, List.set_cons_zero, List.set_cons_succ, Nat.zero_add, Nat.reduceAdd]
  rw [hf0, hf1, hf2, hf3, hf4, hf5, hf6, hf7, hf8]
  clear hf0 hf1 hf2 hf3 hf4 hf5 hf6 hf7 hf8
  have hD2 : Row w2 w.heap.size 23 (cellsB (List.replicate 32 0)) := hg.kept _ _ hD0
  have hbb2 : Below w.heap.size w w2 := hb0.trans (hg.bl.mono (by rw [← eB]; exact hb0.size))
  have HLN := chainOf_len y hel (15 - x)
  have HSZ := Lib.hid (Tryd.sizeD_of _ HLN)
  have HCS : Hid ((cellsB (chainOf y (15 - x))).size = (cellsB (List.replicate 32 0)).size) := Lib.hid (by rw [cellsB_size, HLN]; rfl)
  clear HLN hg hD0 hb0 hK0 hcn0 hce0 cs0
  go_wp2_with (refine wpList_store_row rfl 23 (.tmp 4) (.tmp 13) rfl w.heap.size rfl (cellsB (chainOf y (15 - x))) _ 23 rfl hD2 HCS.out HSZ.out (cellsB_one _) ?_; intro w9 hg9 hr9 hz9)
  refine bodyPost_ret (v := .agg (cellsB (chainOf y (15 - x)))) (results_cell_row rfl _ _ w.heap.size 23 _ (0, 0) _ rfl hr9 Tryd.underD rfl HSZ.out) rfl ⟨rfl, ?_⟩
  exact hbb2.grown hg9 hbb2.size (fun k hk => by cases hk; exact Nat.le_refl _)
end Go.Proofs.YthhlfcbkggahmaaDoor

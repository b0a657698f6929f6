/- crossbarlaw03.ShaChainSteps returns true. Conditions: the digest has 32 bytes, the constants lie in their variable. -/
import Derived.Test.YtibogbmpcahjcaaDoorLawCC
import Derived.Test.YtibogbmpcahjcaaDoorAppStr
namespace Go.Proofs.YtibogbmpcahjcaaDoor
open Go.RowKit
def stepMsg (y : List UInt8) : List UInt8 := [4, 115, 116, 101, 112] ++ y
theorem stepMsg_sum (x : List UInt8) (k : Nat) : sumOf (stepMsg (chainOf x k)) = chainOf x (k + 1) := rfl
set_option maxRecDepth 100000 in
set_option maxHeartbeats 2000000 in
theorem cs_big (x : List UInt8) (n : Int) (w : World) (hx : x.length = 32) (_hn0 : -9223372036854775808 ≤ n) (_hn1 : n ≤ 9223372036854775807) (hK : KFact w) (hc : n > 40) :
    Calls Tryd.prog 8 #[.agg (cellsB x), .int .i64 n] w fun e w' => e = .returned (.bool true) ∧ Below w.heap.size w w' := by
  have HX := Lib.hid hx
  clear hx
  have hltw := hK.lt
  have hba : Below w.heap.size w (w.alloc (.cells (cellsB x) 25)) := (Below.refl _ _).alloc (Nat.le_refl _) _
  have hra : Row (w.alloc (.cells (cellsB x) 25)) w.heap.size 25 (cellsB x) := Row.new w _ _
  go_enter Tryd.func8, Tryd.ntmps8
  generalize hR12 : Code.region 12 _ _ = R12
  go_wp2_with fail
  refine (sane_any _ (hK.below hba hltw)).mono ?_
  rintro e w0 ⟨rfl, hb0⟩
  have hbl0 : Below w.heap.size w w0 := hba.trans (hb0.mono hba.size)
  have hX0 : Row w0 w.heap.size 25 (cellsB x) := hra.below hb0 hra.lt
  clear hba hra hb0
  go_wp2
  go_ret
  exact ⟨rfl, hbl0⟩
set_option maxRecDepth 100000 in
set_option maxHeartbeats 2000000 in
theorem cs_main (x : List UInt8) (n : Int) (w : World) (hx : x.length = 32) (_hn0 : -9223372036854775808 ≤ n) (_hn1 : n ≤ 9223372036854775807) (hK : KFact w) (hc : ¬ n > 40) :
    Calls Tryd.prog 8 #[.agg (cellsB x), .int .i64 n] w fun e w' => e = .returned (.bool true) ∧ Below w.heap.size w w' := by
  have HX := Lib.hid hx
  clear hx
  have hltw := hK.lt
  have hba : Below w.heap.size w (w.alloc (.cells (cellsB x) 25)) := (Below.refl _ _).alloc (Nat.le_refl _) _
  have hra : Row (w.alloc (.cells (cellsB x) 25)) w.heap.size 25 (cellsB x) := Row.new w _ _
  go_enter Tryd.func8, Tryd.ntmps8
  generalize hR12 : Code.region 12 _ _ = R12
  go_wp2_with fail
  refine (sane_any _ (hK.below hba hltw)).mono ?_
  rintro e w0 ⟨rfl, hb0⟩
  have hbl0 : Below w.heap.size w w0 := hba.trans (hb0.mono hba.size)
  have hX0 : Row w0 w.heap.size 25 (cellsB x) := hra.below hb0 hra.lt
  clear hba hra hb0
  have hlx := hX0.lt
  have hcs : (cellsB x).size = (cellsB (List.replicate 32 0)).size := by rw [cellsB_size, cellsB_size, HX.out]; rfl
  have HC0 := Lib.hid hcs
  have HSX := Lib.hid (Tryd.sizeD_of _ HX.out)
  clear hcs
  go_wp2_with (first | (refine wpList_load_row rfl 25 (.tmp 2) rfl w.heap.size rfl 25 (cellsB x) (0, 0) _ hX0 Tryd.underD rfl HSX.out ?_) | (refine wpList_store_row rfl 25 (.tmp 5) (.tmp 12) rfl w0.heap.size rfl (cellsB x) (cellsB (List.replicate 32 0)) 25 rfl (Row.new w0 _ _) HC0.out HSX.out (cellsB_one _) ?_; intro wa hga hra hza; clear hza))
  have hbla : Below w.heap.size w wa := (hbl0.alloc hbl0.size _).grown hga (by have := hbl0.size; simp; omega) (fun k hk => by cases hk; exact hbl0.size)
  have hXa : Row wa w.heap.size 25 (cellsB x) := (hX0.alloc _).grown hga (fun e => by have := Option.some.inj e; omega)
  have hge := hbl0.size
  clear hga hX0 hbl0
  obtain ⟨n2, e2⟩ : ∃ n2, w0.heap.size = n2 := ⟨_, rfl⟩
  rw [e2] at hra hge hlx
  rw [e2]
  clear e2
  go_loopw [6, 7] (fun t _ wr => ∃ k : Nat, k ≤ n.toNat ∧ t = .int .i64 (k : Int) ∧ Row wr w.heap.size 25 (cellsB x) ∧ Row wr n2 25 (cellsB (chainOf x k)) ∧ Below w.heap.size w wr) (fun t _ _ => n.toNat - (intOf t).toNat)
  case atStart => exact ⟨0, by omega, rfl, hXa, hra, hbla⟩
  case round =>
    clear hra hXa hbla
    obtain ⟨k, hk, rfl, hX, hY, hb⟩ := hrel
    by_cases hlt : (k : Int) < n
    · have hlen := chainOf_len x HX.out k
      have HLN := Lib.hid hlen
      clear hlen
      have hltY := hY.lt
      have hown := OwnB.fresh wr [4, 115, 116, 101, 112] (by decide)
      have hs1 : Bytes (wr.alloc (.cells (cellsB [4, 115, 116, 101, 112]) 5)) (.slice (some ⟨n2, 0, none⟩) 32 32) (chainOf x k) (fun _ => True) := (hY.alloc _).bytes HLN.out
      go_wp2_with (at_builtin; refine wpList_append_bytes rfl (.tmp 19) (.tmp 20) rfl wr.heap.size _ _ [4, 115, 116, 101, 112] (chainOf x k) _ rfl hown rfl hs1 (by rw [HLN.out]; decide) (by simp) ?_; intro v1 w1 o1 g1)
      have hbl1 : Below wr.heap.size wr w1 := ((Below.refl _ _).alloc (Nat.le_refl _) _).grown g1 (by simp) (fun k hk => hown.ownBlock k hk)
      have hm1 : Bytes w1 v1 (stepMsg (chainOf x k)) (fun _ => True) := o1.bytes _ fun _ _ => trivial
      have hb1 := hb.trans (hbl1.mono hb.size)
      have hX1 := hX.below hbl1 hX.lt
      have hY1 := hY.below hbl1 hY.lt
      clear hown hs1 o1 g1 hbl1 hX hY hb
      refine (sum_any (stepMsg (chainOf x k)) v1 _ w1 hm1 (hK.below hb1 hltw) (by unfold stepMsg; rw [List.length_append, HLN.out]; decide)).mono ?_
      rintro e w5 ⟨rfl, hb5⟩
      have hX5 := hX1.below hb5 hX1.lt
      have hY5 := hY1.below hb5 hY1.lt
      have hB5 := hb1.trans (hb5.mono hb1.size)
      rw [stepMsg_sum]
      have hcs : (cellsB (chainOf x (k + 1))).size = (cellsB (chainOf x k)).size := by rw [cellsB_size, cellsB_size, chainOf_len x HX.out, HLN.out]
      have HCS := Lib.hid hcs
      have HSZ := Lib.hid (Tryd.sizeD_of _ (chainOf_len x HX.out (k + 1)))
      clear hcs hm1 hb1 hX1 hY1 hb5
      go_wp2_with (refine wpList_store_row rfl 25 (.tmp 5) (.tmp 23) rfl n2 rfl (cellsB (chainOf x (k + 1))) _ 25 rfl hY5 HCS.out HSZ.out (cellsB_one _) ?_; intro w6 hg6 hr6 hz6)
      go_roundw
      case rel => exact ⟨k + 1, by omega, by go_num, hX5.grown hg6 (fun e => by have := Option.some.inj e; omega), hr6, hB5.grown hg6 hB5.size (fun k hk => by cases hk; exact hge)⟩
      case measure => simp [intOf]; omega
    · obtain rfl : k = n.toNat := by omega
      go_wp2
      rw [← hR12]
      clear hR12
      have hbl' := hb
      have hK0 : KFact wr := hK.below hb hltw
      have hltk : 1 < wr.heap.size := hK0.lt
      have hltn1 := hX.lt
      have hltn2 := hY.lt
      clear hK hltw
      obtain ⟨n1, e1⟩ : ∃ n1, w.heap.size = n1 := ⟨_, rfl⟩
      have hXX := hX
      rw [e1] at hXX hltn1
      obtain ⟨B, eB⟩ : ∃ B, wr.heap.size = B := ⟨_, rfl⟩
      rw [eB] at hltk hltn1 hltn2
      refine wp_gen fun a0 ha0 => ?_
      have i1 : a0.eval (.tmp 1) = .int .i64 n := by rw [ha0]; rfl
      have i2 : a0.eval (.tmp 2) = .pointer (some ⟨n1, 0, none⟩) := by rw [ha0, ← e1]; rfl
      have i5 : a0.eval (.tmp 5) = .pointer (some ⟨n2, 0, none⟩) := by rw [ha0]; rfl
      have hsz : a0.tmps.size = 29 := by rw [ha0]; rfl
      have hdf0 : a0.defers = [] := by rw [ha0]
      clear ha0
      refine wp_region_inv (B := B) [some 24, some 25, some 26, some 27, some 28, some 4] [Asrt.eq (.agg (cellsB (x))), Asrt.eq (.int .i64 n), Asrt.eq (.agg (cellsB (chainOf x n.toNat))), Asrt.eq (.agg (cellsB (chainOf x n.toNat))), Asrt.eq (.bool true), Asrt.eq (.bool true)] rfl (by as_aux_lemma => kernel_rfl) (by rw [hsz]; as_aux_lemma => kernel_rfl) (by as_aux_lemma => kernel_rfl) (by omega) ⟨?_, ?_, ?_, ?_, ?_, ?_, trivial⟩ ?_
      · as_aux_lemma =>
          intro ev w1 hg hin hc hgl hfn hd
          have hB := hg.top
          have g2 : ev (.tmp 2) = .pointer (some ⟨n1, 0, none⟩) := (hin 2 (by kernel_rfl)).trans i2
          clear hin hd
          refine step_on (guard_none rfl) fun K hK => ?_
          refine yg_load_row 25 (.tmp 2) rfl n1 g2 25 (cellsB (x)) (0, 0) _ (hXX.below hg.bl hltn1) Tryd.underD rfl (Tryd.sizeD_of _ HX.out) ?_
          exact hK _ _ rfl (Grow.refl hB)
      · as_aux_lemma =>
          intro ev w1 hg hin hc hgl hfn hd
          have hB := hg.top
          have g1 : ev (.tmp 1) = .int .i64 n := (hin 1 (by kernel_rfl)).trans i1
          clear hin hd
          refine step_on (guard_none rfl) fun K hK => ?_
          unfold YieldsG
          go_simp
          exact hK _ _ rfl (Grow.refl hB)
      · as_aux_lemma =>
          intro ev w1 hg hin hc hgl hfn hd
          have hB := hg.top
          have f24 : (ev (.tmp 24)) = .agg (cellsB (x)) := hd.1 rfl _ rfl
          have f25 : (ev (.tmp 25)) = .int .i64 n := hd.2.1 rfl _ rfl
          clear hin hd
          refine step_on (guard_none rfl) fun K hK => ?_
          unfold YieldsG
          go_simp
          refine (chain_any x n w1 HX.out _hn0 _hn1 (hK0.below hg.bl hltk)).mono ?_
          rintro e w2 ⟨rfl, hb⟩
          exact ⟨_, rfl, hK _ _ rfl (Grow.of hB hb)⟩
      · as_aux_lemma =>
          intro ev w1 hg hin hc hgl hfn hd
          have hB := hg.top
          have g5 : ev (.tmp 5) = .pointer (some ⟨n2, 0, none⟩) := (hin 5 (by kernel_rfl)).trans i5
          clear hin hd
          refine step_on (guard_none rfl) fun K hK => ?_
          refine yg_load_row 25 (.tmp 5) rfl n2 g5 25 (cellsB (chainOf x n.toNat)) (0, 0) _ (hY.below hg.bl hltn2) Tryd.underD rfl (Tryd.sizeD_of _ (chainOf_len x HX.out _)) ?_
          exact hK _ _ rfl (Grow.refl hB)
      · as_aux_lemma =>
          intro ev w1 hg hin hc hgl hfn hd
          have hB := hg.top
          have f26 : (ev (.tmp 26)) = .agg (cellsB (chainOf x n.toNat)) := hd.1 rfl _ rfl
          have f27 : (ev (.tmp 27)) = .agg (cellsB (chainOf x n.toNat)) := hd.2.1 rfl _ rfl
          clear hin hd
          refine step_on (guard_none rfl) fun K hK => ?_
          have hq := eqlT (chainOf x n.toNat) (chainOf x n.toNat) (chainOf_len x HX.out _) rfl
          unfold YieldsG
          go_simp
          exact hK _ _ rfl (Grow.refl hB)
      · as_aux_lemma =>
          intro ev w1 hg hin hc hgl hfn hd
          have hB := hg.top
          have f28 : (ev (.tmp 28)) = .bool true := hd.1 rfl _ rfl
          clear hin hd
          refine step_on (guard_none rfl) fun K hK => ?_
          unfold YieldsG
          go_simp
          exact hK _ _ rfl (Grow.refl hB)
      · intro v w2 hg hall
        have hr : v 5 = .bool true := hall.2.2.2.2.2.1 (by simp)
        generalize hput : putAll _ v 0 _ = af
        have h0 : af.tmps.getD 4 undef = v 5 := by rw [← hput]; exact putAll_at (by rw [hsz]; as_aux_lemma => kernel_rfl) rfl rfl
        have hdf : af.defers = [] := by rw [← hput, putAll_defers]; exact hdf0
        clear hput hall
        go_wp2
        refine bodyPost_ret (results_tmp rfl _ _ _) hdf ⟨?_, hbl'.trans (hg.bl.mono (by rw [← eB]; exact hbl'.size))⟩
        rw [h0, hr]
theorem chainSteps_any (x : List UInt8) (n : Int) (w : World) (hx : x.length = 32) (hn0 : -9223372036854775808 ≤ n) (hn1 : n ≤ 9223372036854775807) (hK : KFact w) :
    Calls Tryd.prog 8 #[.agg (cellsB x), .int .i64 n] w fun e w' => e = .returned (.bool true) ∧ Below w.heap.size w w' := by
  by_cases h1 : n > 40
  · exact cs_big x n w hx hn0 hn1 hK h1
  exact cs_main x n w hx hn0 hn1 hK h1
end Go.Proofs.YtibogbmpcahjcaaDoor

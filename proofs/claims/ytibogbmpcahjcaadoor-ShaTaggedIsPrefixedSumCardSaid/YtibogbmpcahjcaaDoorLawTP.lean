/- crossbarlaw03.ShaTaggedIsPrefixedSum returns true. Conditions: the constants lie in their variable. -/
import Derived.Test.YtibogbmpcahjcaaDoorLawCC
import Derived.Test.YtibogbmpcahjcaaDoorAppStr
namespace Go.Proofs.YtibogbmpcahjcaaDoor
open Go.RowKit
def tagMsg (s : ByteArray) (b : List UInt8) : List UInt8 := [UInt8.ofNat s.size] ++ s.data.toList ++ b
theorem tagMsg_sum (s : ByteArray) (b : List UInt8) (h : s.size ≤ 255) : taggedOf s.data.toList b = sumOf (tagMsg s b) := by
  have hl : s.data.toList.length = s.size := rfl
  unfold taggedOf tagMsg
  rw [List.take_of_length_le (by omega)]
  show sumOf ([UInt8.ofNat s.data.toList.length] ++ s.data.toList ++ b) = _
  rw [hl]
set_option maxRecDepth 100000 in
set_option maxHeartbeats 2000000 in
theorem tp_big1 (s : ByteArray) (v : Value) (b : List UInt8) (w : World) (hv : Bytes w v b (fun _ => True)) (_hsz : s.size ≤ maxLen) (hK : KFact w) (hc : 255 < s.size) :
    Calls Tryd.prog 5 #[.string s, v] w fun e w' => e = .returned (.bool true) ∧ Below w.heap.size w w' := by
  have hmax : maxLen ≤ 9223372036854775807 := by decide
  have hltw := hK.lt
  obtain ⟨av, cv, rfl⟩ : ∃ a c, v = .slice a b.length c := by obtain ⟨a, c, h, _⟩ := hv; exact ⟨a, c, h⟩
  go_enter Tryd.func5, Tryd.ntmps5
  generalize hR8 : Code.region 8 _ _ = R8
  go_wp2_with fail
  refine (sane_any _ hK).mono ?_
  rintro e w0 ⟨rfl, hbl0⟩
  go_wp2
  go_ret
  exact ⟨rfl, hbl0⟩
set_option maxRecDepth 100000 in
set_option maxHeartbeats 2000000 in
theorem tp_big2 (s : ByteArray) (v : Value) (b : List UInt8) (w : World) (hv : Bytes w v b (fun _ => True)) (_hsz : s.size ≤ maxLen) (hK : KFact w) (hc0 : ¬ 255 < s.size) (hc : 1000 < b.length) :
    Calls Tryd.prog 5 #[.string s, v] w fun e w' => e = .returned (.bool true) ∧ Below w.heap.size w w' := by
  have hmax : maxLen ≤ 9223372036854775807 := by decide
  have hltw := hK.lt
  obtain ⟨av, cv, rfl⟩ : ∃ a c, v = .slice a b.length c := by obtain ⟨a, c, h, _⟩ := hv; exact ⟨a, c, h⟩
  go_enter Tryd.func5, Tryd.ntmps5
  generalize hR8 : Code.region 8 _ _ = R8
  go_wp2_with fail
  refine (sane_any _ hK).mono ?_
  rintro e w0 ⟨rfl, hbl0⟩
  go_wp2
  go_ret
  exact ⟨rfl, hbl0⟩
set_option maxRecDepth 100000 in
set_option maxHeartbeats 2000000 in
theorem tp_main (s : ByteArray) (v : Value) (b : List UInt8) (w : World) (hv : Bytes w v b (fun _ => True)) (_hsz : s.size ≤ maxLen) (hK : KFact w) (hc0 : ¬ 255 < s.size) (hc : ¬ 1000 < b.length) :
    Calls Tryd.prog 5 #[.string s, v] w fun e w' => e = .returned (.bool true) ∧ Below w.heap.size w w' := by
  have hmax : maxLen ≤ 9223372036854775807 := by decide
  have hltw := hK.lt
  obtain ⟨av, cv, rfl⟩ : ∃ a c, v = .slice a b.length c := by obtain ⟨a, c, h, _⟩ := hv; exact ⟨a, c, h⟩
  go_enter Tryd.func5, Tryd.ntmps5
  generalize hR8 : Code.region 8 _ _ = R8
  go_wp2_with fail
  refine (sane_any _ hK).mono ?_
  rintro e w0 ⟨rfl, hbl0⟩
  have hb0 : Bytes w0 (.slice av b.length cv) b (fun _ => True) := (hv.later hbl0).imp fun _ _ => trivial
  have hlen : (s.size : Int) = Y (UInt8.ofNat s.size) := by
    unfold Y; rw [UInt8.toNat_ofNat', Nat.mod_eq_of_lt (by omega)]
  have hown0 : OwnB (w0.alloc (.cells #[.int .u8 (s.size : Int)] 5)) w0.heap.size (.slice (some ⟨w0.heap.size, 0, none⟩) 1 1) [UInt8.ofNat s.size] := by
    have h := OwnB.fresh w0 [UInt8.ofNat s.size] (by simp)
    have e : cellsB [UInt8.ofNat s.size] = #[.int .u8 (s.size : Int)] := by rw [hlen]; rfl
    rw [e] at h
    exact h
  clear hlen
  go_wp2_with (at_builtin; first | (refine wpList_append_str rfl (.tmp 20) (.tmp 21) rfl w0.heap.size _ [UInt8.ofNat s.size] s rfl hown0 rfl (by simp; omega) (by simp) ?_; intro v1 w1 o1 g1; have hbl1 : Below w0.heap.size w0 w1 := ((Below.refl _ _).alloc (Nat.le_refl _) _).grown g1 (by simp) (fun k hk => hown0.ownBlock k hk); have hb1 : Bytes w1 (.slice av b.length cv) b (fun _ => True) := (hb0.later hbl1).imp fun _ _ => trivial; clear hown0 g1) | (refine wpList_append_bytes rfl (.tmp 23) (.tmp 24) rfl w0.heap.size _ _ ([UInt8.ofNat s.size] ++ s.data.toList) b _ rfl o1 rfl hb1 (by rw [List.length_append]; have hl : s.data.toList.length = s.size := rfl; simp; omega) hbl1.size ?_; intro v2 w2 o2 g2))
  have hbl2 : Below w0.heap.size w0 w2 := hbl1.grown g2 hbl1.size (fun k hk => o1.ownBlock k hk)
  have hall : Bytes w2 v2 (tagMsg s b) (fun _ => True) := o2.bytes _ fun _ _ => trivial
  have hb2 : Bytes w2 (.slice av b.length cv) b (fun _ => True) := (hb0.later hbl2).imp fun _ _ => trivial
  have hbl' : Below w.heap.size w w2 := hbl0.trans (hbl2.mono hbl0.size)
  have hK0 : KFact w2 := hK.below hbl' hltw
  have hltk : 1 < w2.heap.size := hK0.lt
  have hml : (tagMsg s b).length ≤ 35184372088832 := by
    unfold tagMsg
    have hl : s.data.toList.length = s.size := rfl
    rw [List.length_append, List.length_append, hl]
    simp; omega
  clear g2 o1 o2 hb0 hb1 hbl1 hbl2 hK hltw hv
  rw [← hR8]
  clear hR8
  have hblw := hbl'
  obtain ⟨B, eB⟩ : ∃ B, w2.heap.size = B := ⟨_, rfl⟩
  rw [eB] at hltk
  refine wp_gen fun a0 ha0 => ?_
  have i0 : a0.eval (.tmp 0) = .string s := by rw [ha0]; rfl
  have i1 : a0.eval (.tmp 1) = .slice av b.length cv := by rw [ha0]; rfl
  have i5 : a0.eval (.tmp 5) = v2 := by rw [ha0]; rfl
  have hsz : a0.tmps.size = 32 := by rw [ha0]; rfl
  have hdf0 : a0.defers = [] := by rw [ha0]
  clear ha0
  refine wp_region_inv_text (B := B) [some 26, some 27, some 28, some 29, some 30, some 31, some 4] [Asrt.eq (.string s), Asrt.eq (.slice av b.length cv), Asrt.eq (.agg (cellsB (taggedOf s.data.toList b))), Asrt.eq (v2), Asrt.eq (.agg (cellsB (sumOf (tagMsg s b)))), Asrt.eq (.bool true), Asrt.eq (.bool true)] rfl (by rw [hsz]; as_aux_lemma => kernel_rfl) (by as_aux_lemma => kernel_rfl) (by omega) ⟨?_, ?_, ?_, ?_, ?_, ?_, ?_, trivial⟩ ?_
  · as_aux_lemma =>
      intro ev w1 hg hin hc hgl hfn hd
      have hB := hg.top
      have g0 : ev (.tmp 0) = .string s := (hin 0 (by kernel_rfl)).trans i0
      clear hin hd
      refine step_on (guard_none rfl) fun K hK => ?_
      unfold YieldsG
      go_simp
      exact hK _ _ rfl (Grow.refl hB)
  · as_aux_lemma =>
      intro ev w1 hg hin hc hgl hfn hd
      have hB := hg.top
      have g1 : ev (.tmp 1) = .slice av b.length cv := (hin 1 (by kernel_rfl)).trans i1
      clear hin hd
      refine step_on (guard_none rfl) fun K hK => ?_
      unfold YieldsG
      go_simp
      exact hK _ _ rfl (Grow.refl hB)
  · as_aux_lemma =>
      intro ev w1 hg hin hc hgl hfn hd
      have hB := hg.top
      have f26 : (ev (.tmp 26)) = .string s := hd.1 rfl _ rfl
      have f27 : (ev (.tmp 27)) = .slice av b.length cv := hd.2.1 rfl _ rfl
      clear hin hd
      refine step_on (guard_none rfl) fun K hK => ?_
      unfold YieldsG
      go_simp
      refine (tagged_any s _ b _ w1 (by omega) ((Asrt.bytes (B := B) b).st _ _ _ hb2 hg) (hK0.below hg.bl hltk) (by omega)).mono ?_
      rintro e w2 ⟨rfl, hb⟩
      exact ⟨_, rfl, hK _ _ rfl (Grow.of hB hb)⟩
  · as_aux_lemma =>
      intro ev w1 hg hin hc hgl hfn hd
      have hB := hg.top
      have g5 : ev (.tmp 5) = v2 := (hin 5 (by kernel_rfl)).trans i5
      clear hin hd
      refine step_on (guard_none rfl) fun K hK => ?_
      unfold YieldsG
      go_simp
      exact hK _ _ rfl (Grow.refl hB)
  · as_aux_lemma =>
      intro ev w1 hg hin hc hgl hfn hd
      have hB := hg.top
      have f29 : (ev (.tmp 29)) = v2 := hd.1 rfl _ rfl
      clear hin hd
      refine step_on (guard_none rfl) fun K hK => ?_
      unfold YieldsG
      go_simp
      refine (sum_any (tagMsg s b) v2 _ w1 ((Asrt.bytes (B := B) _).st _ _ _ hall hg) (hK0.below hg.bl hltk) hml).mono ?_
      rintro e w2 ⟨rfl, hb⟩
      exact ⟨_, rfl, hK _ _ rfl (Grow.of hB hb)⟩
  · as_aux_lemma =>
      intro ev w1 hg hin hc hgl hfn hd
      have hB := hg.top
      have f28 : (ev (.tmp 28)) = .agg (cellsB (taggedOf s.data.toList b)) := hd.1 rfl _ rfl
      have f30 : (ev (.tmp 30)) = .agg (cellsB (sumOf (tagMsg s b))) := hd.2.1 rfl _ rfl
      clear hin hd
      refine step_on (guard_none rfl) fun K hK => ?_
      have hq := eqlT (taggedOf s.data.toList b) (sumOf (tagMsg s b)) (taggedOf_len _ _) (tagMsg_sum s b (by omega))
      unfold YieldsG
      go_simp
      exact hK _ _ rfl (Grow.refl hB)
  · as_aux_lemma =>
      intro ev w1 hg hin hc hgl hfn hd
      have hB := hg.top
      have f31 : (ev (.tmp 31)) = .bool true := hd.1 rfl _ rfl
      clear hin hd
      refine step_on (guard_none rfl) fun K hK => ?_
      unfold YieldsG
      go_simp
      exact hK _ _ rfl (Grow.refl hB)
  · intro v w2 hg hall
    have hr : v 6 = .bool true := hall.2.2.2.2.2.2.1 (by simp)
    generalize hput : putAll _ v 0 _ = af
    have h0 : af.tmps.getD 4 undef = v 6 := by rw [← hput]; exact putAll_at (by rw [hsz]; as_aux_lemma => kernel_rfl) rfl rfl
    have hdf : af.defers = [] := by rw [← hput, putAll_defers]; exact hdf0
    clear hput hall
    go_wp2
    refine bodyPost_ret (results_tmp rfl _ _ _) hdf ⟨?_, hbl'.trans (hg.bl.mono (by rw [← eB]; exact hbl'.size))⟩
    rw [h0, hr]
theorem taggedIsPrefixedSum_any (s : ByteArray) (v : Value) (b : List UInt8) (w : World) (hsz : s.size ≤ maxLen) (hv : Bytes w v b (fun _ => True)) (_hl : b.length ≤ maxLen) (hK : KFact w) :
    Calls Tryd.prog 5 #[.string s, v] w fun e w' => e = .returned (.bool true) ∧ Below w.heap.size w w' := by
  by_cases h1 : 255 < s.size
  · exact tp_big1 s v b w hv hsz hK h1
  by_cases h2 : 1000 < b.length
  · exact tp_big2 s v b w hv hsz hK h1 h2
  exact tp_main s v b w hv hsz hK h1 h2
end Go.Proofs.YtibogbmpcahjcaaDoor

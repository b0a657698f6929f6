/- crossbarlaw03.ShaTagIsTruncated returns true. Conditions: the constants lie in their variable. -/
import Derived.Test.YtibogbmpcahjcaaDoorLawCC
namespace Go.Proofs.YtibogbmpcahjcaaDoor
open Go.RowKit
theorem taggedOf_take (l m b : List UInt8) (h : l.take 255 = m.take 255) : taggedOf l b = taggedOf m b := by
  unfold taggedOf; rw [h]
theorem take_extract (s : ByteArray) : (s.extract 0 255).data.toList = s.data.toList.take 255 := by
  rw [ByteArray.data_extract, Array.toList_extract]; simp [List.extract]
def cutS (s : ByteArray) : ByteArray := s.extract 0 255
def catS (s t : ByteArray) : ByteArray := s ++ t
def strLen : Value → Nat | .string s => s.size | _ => 0
set_option maxRecDepth 100000 in
set_option maxHeartbeats 2000000 in
theorem tt_big1 (s : ByteArray) (v : Value) (b : List UInt8) (w : World) (hv : Bytes w v b (fun _ => True)) (_hsz : s.size ≤ maxLen) (hK : KFact w) (hc : 2000 < s.size) :
    Calls Tryd.prog 6 #[.string s, v] w fun e w' => e = .returned (.bool true) ∧ Below w.heap.size w w' := by
  have hmax : maxLen ≤ 9223372036854775807 := by decide
  have hltw := hK.lt
  obtain ⟨av, cv, rfl⟩ : ∃ a c, v = .slice a b.length c := by obtain ⟨a, c, h, _⟩ := hv; exact ⟨a, c, h⟩
  go_enter Tryd.func6, Tryd.ntmps6
  generalize hR8 : Code.region 8 _ _ = R8
  go_wp2_with fail
  refine (sane_any _ hK).mono ?_
  rintro e w0 ⟨rfl, hbl'⟩
  go_wp2
  go_ret
  exact ⟨rfl, hbl'⟩
set_option maxRecDepth 100000 in
set_option maxHeartbeats 2000000 in
theorem tt_big2 (s : ByteArray) (v : Value) (b : List UInt8) (w : World) (hv : Bytes w v b (fun _ => True)) (_hsz : s.size ≤ maxLen) (hK : KFact w) (hc0 : ¬ 2000 < s.size) (hc : 600 < b.length) :
    Calls Tryd.prog 6 #[.string s, v] w fun e w' => e = .returned (.bool true) ∧ Below w.heap.size w w' := by
  have hmax : maxLen ≤ 9223372036854775807 := by decide
  have hltw := hK.lt
  obtain ⟨av, cv, rfl⟩ : ∃ a c, v = .slice a b.length c := by obtain ⟨a, c, h, _⟩ := hv; exact ⟨a, c, h⟩
  go_enter Tryd.func6, Tryd.ntmps6
  generalize hR8 : Code.region 8 _ _ = R8
  go_wp2_with fail
  refine (sane_any _ hK).mono ?_
  rintro e w0 ⟨rfl, hbl'⟩
  go_wp2
  go_ret
  exact ⟨rfl, hbl'⟩
set_option maxRecDepth 100000 in
set_option maxHeartbeats 2000000 in
theorem tt_main (s : ByteArray) (v : Value) (b : List UInt8) (w : World) (hv : Bytes w v b (fun _ => True)) (_hsz : s.size ≤ maxLen) (hK : KFact w) (hc0 : ¬ 2000 < s.size) (hc : ¬ 600 < b.length) :
    Calls Tryd.prog 6 #[.string s, v] w fun e w' => e = .returned (.bool true) ∧ Below w.heap.size w w' := by
  have hmax : maxLen ≤ 9223372036854775807 := by decide
  have hltw := hK.lt
  obtain ⟨av, cv, rfl⟩ : ∃ a c, v = .slice a b.length c := by obtain ⟨a, c, h, _⟩ := hv; exact ⟨a, c, h⟩
  go_enter Tryd.func6, Tryd.ntmps6
  generalize hR8 : Code.region 8 _ _ = R8
  go_wp2_with fail
  refine (sane_any _ hK).mono ?_
  rintro e w0 ⟨rfl, hbl'⟩
  have hb2 : Bytes w0 (.slice av b.length cv) b (fun _ => True) := (hv.later hbl').imp fun _ _ => trivial
  have hK0 : KFact w0 := hK.below hbl' hltw
  have hltk : 1 < w0.heap.size := hK0.lt
  clear hK hltw hv
  go_wp2
  go_loopw [5] (fun t wr => ∃ tt : ByteArray, t = .string tt ∧ tt.size ≤ 2000 ∧ wr = w0) (fun t _ => 255 - strLen t)
  case atStart => exact ⟨s, rfl, by omega, rfl⟩
  case round =>
    obtain ⟨tt, rfl, ht, rfl⟩ := hrel
    by_cases hlt : tt.size < 255
    · go_wp2
      go_roundw
      case rel => exact ⟨_, rfl, by rw [ByteArray.size_append]; have h1 : (ByteArray.mk #[120]).size = 1 := rfl; omega, trivial⟩
      case measure => show 255 - (tt ++ ByteArray.mk #[120]).size < 255 - tt.size; rw [ByteArray.size_append]; have h1 : (ByteArray.mk #[120]).size = 1 := rfl; omega
    · go_wp2
      rw [← hR8]
      clear hR8
      have hblw := hbl'
      obtain ⟨B, eB⟩ : ∃ B, wr.heap.size = B := ⟨_, rfl⟩
      rw [eB] at hltk
      refine wp_gen fun a0 ha0 => ?_
      have i0 : a0.eval (.tmp 0) = .string s := by rw [ha0]; rfl
      have i1 : a0.eval (.tmp 1) = .slice av b.length cv := by rw [ha0]; rfl
      have i5 : a0.eval (.tmp 5) = .string tt := by rw [ha0]; rfl
      have hsz : a0.tmps.size = 41 := by rw [ha0]; rfl
      have hdf0 : a0.defers = [] := by rw [ha0]
      clear ha0
      refine wp_region_inv (B := B) [some 22, some 23, some 24, some 25, some 26, some 27, some 28, some 29, some 30, some 31, some 32, some 33, some 34, some 35, some 36, some 37, some 38, some 39, some 40, some 4] [Asrt.eq (.string tt), Asrt.eq (.slice av b.length cv), Asrt.eq (.agg (cellsB (taggedOf tt.data.toList b))), Asrt.eq (.string tt), Asrt.eq (.string (cutS tt)), Asrt.eq (.slice av b.length cv), Asrt.eq (.agg (cellsB (taggedOf (cutS tt).data.toList b))), Asrt.eq (.bool true), Asrt.eq (.bool true), Asrt.eq (.string tt), Asrt.eq (.string s), Asrt.eq (.string (catS tt s)), Asrt.eq (.slice av b.length cv), Asrt.eq (.agg (cellsB (taggedOf (catS tt s).data.toList b))), Asrt.eq (.string tt), Asrt.eq (.slice av b.length cv), Asrt.eq (.agg (cellsB (taggedOf tt.data.toList b))), Asrt.eq (.bool true), Asrt.eq (.bool true), Asrt.eq (.bool true)] rfl (by as_aux_lemma => kernel_rfl) (by rw [hsz]; as_aux_lemma => kernel_rfl) (by as_aux_lemma => kernel_rfl) (by omega) ⟨?_, ?_, ?_, ?_, ?_, ?_, ?_, ?_, ?_, ?_, ?_, ?_, ?_, ?_, ?_, ?_, ?_, ?_, ?_, ?_, trivial⟩ ?_
      · as_aux_lemma =>
          intro ev w1 hg hin hc hgl hfn hd
          have hB := hg.top
          have g5 : ev (.tmp 5) = .string tt := (hin 5 (by kernel_rfl)).trans i5
          clear hin hd
          refine step_on (guard_none rfl) fun K hK => ?_
          unfold YieldsG
          go_simp
          exact hK _ _ rfl (Grow.refl hB)
      · as_aux_lemma =>
          intro ev w1 hg hin hc hgl hfn hd
          have hB := hg.top
          have g1 : ev (.tmp 1) = .slice av b.length cv := (hin 1 (by kernel_rfl)).trans i1
          clear hin hd
          refine step_on (guard_none rfl) fun K hK => ?_
          unfold YieldsG
          go_simp
          exact hK _ _ rfl (Grow.refl hB)
      · as_aux_lemma =>
          intro ev w1 hg hin hc hgl hfn hd
          have hB := hg.top
          have f22 : (ev (.tmp 22)) = .string tt := hd.1 rfl _ rfl
          have f23 : (ev (.tmp 23)) = .slice av b.length cv := hd.2.1 rfl _ rfl
          clear hin hd
          refine step_on (guard_none rfl) fun K hK => ?_
          unfold YieldsG
          go_simp
          refine (tagged_any (tt) _ b _ w1 (by omega) ((Asrt.bytes (B := B) b).st _ _ _ hb2 hg) (hK0.below hg.bl hltk) (by omega)).mono ?_
          rintro e w2 ⟨rfl, hb⟩
          exact ⟨_, rfl, hK _ _ rfl (Grow.of hB hb)⟩
      · as_aux_lemma =>
          intro ev w1 hg hin hc hgl hfn hd
          have hB := hg.top
          have g5 : ev (.tmp 5) = .string tt := (hin 5 (by kernel_rfl)).trans i5
          clear hin hd
          refine step_on (guard_none rfl) fun K hK => ?_
          unfold YieldsG
          go_simp
          exact hK _ _ rfl (Grow.refl hB)
      · as_aux_lemma =>
          intro ev w1 hg hin hc hgl hfn hd
          have hB := hg.top
          have f25 : (ev (.tmp 25)) = .string tt := hd.1 rfl _ rfl
          clear hin hd
          refine step_on (guard_none rfl) fun K hK => ?_
          unfold YieldsG
          go_simp
          exact hK _ _ rfl (Grow.refl hB)
      · as_aux_lemma =>
          intro ev w1 hg hin hc hgl hfn hd
          have hB := hg.top
          have g1 : ev (.tmp 1) = .slice av b.length cv := (hin 1 (by kernel_rfl)).trans i1
          clear hin hd
          refine step_on (guard_none rfl) fun K hK => ?_
          unfold YieldsG
          go_simp
          exact hK _ _ rfl (Grow.refl hB)
      · as_aux_lemma =>
          intro ev w1 hg hin hc hgl hfn hd
          have hB := hg.top
          have f26 : (ev (.tmp 26)) = .string (cutS tt) := hd.1 rfl _ rfl
          have f27 : (ev (.tmp 27)) = .slice av b.length cv := hd.2.1 rfl _ rfl
          clear hin hd
          refine step_on (guard_none rfl) fun K hK => ?_
          unfold YieldsG
          go_simp
          refine (tagged_any (cutS tt) _ b _ w1 (by unfold cutS; rw [ByteArray.size_extract]; omega) ((Asrt.bytes (B := B) b).st _ _ _ hb2 hg) (hK0.below hg.bl hltk) (by omega)).mono ?_
          rintro e w2 ⟨rfl, hb⟩
          exact ⟨_, rfl, hK _ _ rfl (Grow.of hB hb)⟩
      · as_aux_lemma =>
          intro ev w1 hg hin hc hgl hfn hd
          have hB := hg.top
          have f24 : (ev (.tmp 24)) = .agg (cellsB (taggedOf tt.data.toList b)) := hd.1 rfl _ rfl
          have f28 : (ev (.tmp 28)) = .agg (cellsB (taggedOf (cutS tt).data.toList b)) := hd.2.1 rfl _ rfl
          clear hin hd
          refine step_on (guard_none rfl) fun K hK => ?_
          have hq := eqlT (taggedOf tt.data.toList b) (taggedOf (cutS tt).data.toList b) (taggedOf_len _ _) (taggedOf_take _ _ _ (by unfold cutS; rw [take_extract, List.take_take]; rfl))
          unfold YieldsG
          go_simp
          exact hK _ _ rfl (Grow.refl hB)
      · as_aux_lemma =>
          intro ev w1 hg hin hc hgl hfn hd
          have hB := hg.top
          have f29 : (ev (.tmp 29)) = .bool true := hd.1 rfl _ rfl
          clear hin hd
          refine step_on (guard_none rfl) fun K hK => ?_
          unfold YieldsG
          go_simp
          exact hK _ _ rfl (Grow.refl hB)
      · as_aux_lemma =>
          intro ev w1 hg hin hc hgl hfn hd
          have hB := hg.top
          have f30 : (ev (.tmp 30)) = .bool true := hd.1 rfl _ rfl
          have g5 : ev (.tmp 5) = .string tt := (hin 5 (by kernel_rfl)).trans i5
          clear hin hd
          refine step_on (guard_some rfl rfl f30) fun K hK => ?_
          unfold YieldsG
          go_simp
          exact hK _ _ rfl (Grow.refl hB)
      · as_aux_lemma =>
          intro ev w1 hg hin hc hgl hfn hd
          have hB := hg.top
          have f30 : (ev (.tmp 30)) = .bool true := hd.1 rfl _ rfl
          have g0 : ev (.tmp 0) = .string s := (hin 0 (by kernel_rfl)).trans i0
          clear hin hd
          refine step_on (guard_some rfl rfl f30) fun K hK => ?_
          unfold YieldsG
          go_simp
          exact hK _ _ rfl (Grow.refl hB)
      · as_aux_lemma =>
          intro ev w1 hg hin hc hgl hfn hd
          have hB := hg.top
          have f31 : (ev (.tmp 31)) = .string tt := hd.1 rfl _ rfl
          have f32 : (ev (.tmp 32)) = .string s := hd.2.1 rfl _ rfl
          have f30 : (ev (.tmp 30)) = .bool true := hd.2.2.1 rfl _ rfl
          clear hin hd
          refine step_on (guard_some rfl rfl f30) fun K hK => ?_
          have hadd := run_string_add_sum (P := Tryd.prog) w1 tt s (by omega)
          unfold YieldsG
          go_simp
          exact hK _ _ rfl (Grow.refl hB)
      · as_aux_lemma =>
          intro ev w1 hg hin hc hgl hfn hd
          have hB := hg.top
          have f30 : (ev (.tmp 30)) = .bool true := hd.1 rfl _ rfl
          have g1 : ev (.tmp 1) = .slice av b.length cv := (hin 1 (by kernel_rfl)).trans i1
          clear hin hd
          refine step_on (guard_some rfl rfl f30) fun K hK => ?_
          unfold YieldsG
          go_simp
          exact hK _ _ rfl (Grow.refl hB)
      · as_aux_lemma =>
          intro ev w1 hg hin hc hgl hfn hd
          have hB := hg.top
          have f33 : (ev (.tmp 33)) = .string (catS tt s) := hd.1 rfl _ rfl
          have f34 : (ev (.tmp 34)) = .slice av b.length cv := hd.2.1 rfl _ rfl
          have f30 : (ev (.tmp 30)) = .bool true := hd.2.2.1 rfl _ rfl
          clear hin hd
          refine step_on (guard_some rfl rfl f30) fun K hK => ?_
          unfold YieldsG
          go_simp
          refine (tagged_any (catS tt s) _ b _ w1 (by unfold catS; rw [ByteArray.size_append]; omega) ((Asrt.bytes (B := B) b).st _ _ _ hb2 hg) (hK0.below hg.bl hltk) (by omega)).mono ?_
          rintro e w2 ⟨rfl, hb⟩
          exact ⟨_, rfl, hK _ _ rfl (Grow.of hB hb)⟩
      · as_aux_lemma =>
          intro ev w1 hg hin hc hgl hfn hd
          have hB := hg.top
          have f30 : (ev (.tmp 30)) = .bool true := hd.1 rfl _ rfl
          have g5 : ev (.tmp 5) = .string tt := (hin 5 (by kernel_rfl)).trans i5
          clear hin hd
          refine step_on (guard_some rfl rfl f30) fun K hK => ?_
          unfold YieldsG
          go_simp
          exact hK _ _ rfl (Grow.refl hB)
      · as_aux_lemma =>
          intro ev w1 hg hin hc hgl hfn hd
          have hB := hg.top
          have f30 : (ev (.tmp 30)) = .bool true := hd.1 rfl _ rfl
          have g1 : ev (.tmp 1) = .slice av b.length cv := (hin 1 (by kernel_rfl)).trans i1
          clear hin hd
          refine step_on (guard_some rfl rfl f30) fun K hK => ?_
          unfold YieldsG
          go_simp
          exact hK _ _ rfl (Grow.refl hB)
      · as_aux_lemma =>
          intro ev w1 hg hin hc hgl hfn hd
          have hB := hg.top
          have f36 : (ev (.tmp 36)) = .string tt := hd.1 rfl _ rfl
          have f37 : (ev (.tmp 37)) = .slice av b.length cv := hd.2.1 rfl _ rfl
          have f30 : (ev (.tmp 30)) = .bool true := hd.2.2.2.1 rfl _ rfl
          clear hin hd
          refine step_on (guard_some rfl rfl f30) fun K hK => ?_
          unfold YieldsG
          go_simp
          refine (tagged_any (tt) _ b _ w1 (by omega) ((Asrt.bytes (B := B) b).st _ _ _ hb2 hg) (hK0.below hg.bl hltk) (by omega)).mono ?_
          rintro e w2 ⟨rfl, hb⟩
          exact ⟨_, rfl, hK _ _ rfl (Grow.of hB hb)⟩
      · as_aux_lemma =>
          intro ev w1 hg hin hc hgl hfn hd
          have hB := hg.top
          have f35 : (ev (.tmp 35)) = .agg (cellsB (taggedOf (catS tt s).data.toList b)) := hd.1 rfl _ rfl
          have f38 : (ev (.tmp 38)) = .agg (cellsB (taggedOf tt.data.toList b)) := hd.2.1 rfl _ rfl
          have f30 : (ev (.tmp 30)) = .bool true := hd.2.2.1 rfl _ rfl
          clear hin hd
          refine step_on (guard_some rfl rfl f30) fun K hK => ?_
          have hq := eqlT (taggedOf (catS tt s).data.toList b) (taggedOf tt.data.toList b) (taggedOf_len _ _) (taggedOf_take _ _ _ (by unfold catS; rw [ByteArray.data_append, Array.toList_append, List.take_append_of_le_length (by have hl : tt.data.toList.length = tt.size := rfl; omega)]))
          unfold YieldsG
          go_simp
          exact hK _ _ rfl (Grow.refl hB)
      · as_aux_lemma =>
          intro ev w1 hg hin hc hgl hfn hd
          have hB := hg.top
          have f30 : (ev (.tmp 30)) = .bool true := hd.1 rfl _ rfl
          have f39 : (ev (.tmp 39)) = .bool true := hd.2.1 rfl _ rfl
          clear hin hd
          refine step_on (guard_none rfl) fun K hK => ?_
          unfold YieldsG
          go_simp
          exact hK _ _ rfl (Grow.refl hB)
      · as_aux_lemma =>
          intro ev w1 hg hin hc hgl hfn hd
          have hB := hg.top
          have f40 : (ev (.tmp 40)) = .bool true := hd.1 rfl _ rfl
          clear hin hd
          refine step_on (guard_none rfl) fun K hK => ?_
          unfold YieldsG
          go_simp
          exact hK _ _ rfl (Grow.refl hB)
      · intro v w2 hg hall
        have hr : v 19 = .bool true := hall.2.2.2.2.2.2.2.2.2.2.2.2.2.2.2.2.2.2.2.1 (by simp)
        generalize hput : putAll _ v 0 _ = af
        have h0 : af.tmps.getD 4 undef = v 19 := by rw [← hput]; exact putAll_at (by rw [hsz]; as_aux_lemma => kernel_rfl) rfl rfl
        have hdf : af.defers = [] := by rw [← hput, putAll_defers]; exact hdf0
        clear hput hall
        go_wp2
        refine bodyPost_ret (results_tmp rfl _ _ _) hdf ⟨?_, hbl'.trans (hg.bl.mono (by rw [← eB]; exact hbl'.size))⟩
        rw [h0, hr]
theorem tagIsTruncated_any (s : ByteArray) (v : Value) (b : List UInt8) (w : World) (hsz : s.size ≤ maxLen) (hv : Bytes w v b (fun _ => True)) (_hl : b.length ≤ maxLen) (hK : KFact w) :
    Calls Tryd.prog 6 #[.string s, v] w fun e w' => e = .returned (.bool true) ∧ Below w.heap.size w w' := by
  by_cases h1 : 2000 < s.size
  · exact tt_big1 s v b w hv hsz hK h1
  by_cases h2 : 600 < b.length
  · exact tt_big2 s v b w hv hsz hK h1 h2
  exact tt_main s v b w hv hsz hK h1 h2
end Go.Proofs.YtibogbmpcahjcaaDoor

/- The law's examples hold: crossbarlaw03's sane returns true. Conditions: the constants lie in their variable. -/
import Derived.Test.YtibogbmpcahjcaaDoorSteps
import Derived.Test.YtibogbmpcahjcaaDoorVec1
namespace Go.Proofs.YtibogbmpcahjcaaDoor
open Go.RowKit
def emptyH : List UInt8 := [227, 176, 196, 66, 152, 252, 28, 20, 154, 251, 244, 200, 153, 111, 185, 36, 39, 174, 65, 228, 100, 155, 147, 76, 164, 149, 153, 27, 120, 82, 184, 85]
def abcH : List UInt8 := [186, 120, 22, 191, 143, 1, 207, 234, 65, 65, 64, 222, 93, 174, 34, 35, 176, 3, 97, 163, 150, 23, 122, 156, 180, 16, 255, 97, 242, 0, 21, 173]
theorem eqlT (x y : List UInt8) (hx : x.length = 32) (hxy : x = y) (w : World) : (binOp .eql 25 (.agg (cellsB x)) (.agg (cellsB y))).run Tryd.prog w = .ok (.bool true) w := by
  subst hxy; rw [eql_digest x x hx hx, decide_eq_true rfl]
theorem nil_bytes (w : World) : Bytes w (.slice none 0 0) [] (fun _ => True) := ⟨none, 0, rfl, Nat.le_refl _, by decide, .inl ⟨rfl, fun _ => rfl⟩⟩
theorem run_mark {P : Program} (w : World) (t e n k c : Nat) (cs : Array Value) (f : Nat × Nat) (ht : P.underlying t = some (.slice e)) (he : P.underlying e = some (.int .u8)) (h : w.heap[n]? = some (.cells cs e f)) :
    (convert t t (.slice (some ⟨n, 0, none⟩) k c)).run P w = .ok (.slice (some ⟨n, 0, none⟩) k c) (w.freeze ⟨n, cs.size, none⟩ 1) := by
  have hsh : w.shape? n = some (e, cs.size) := by unfold World.shape?; rw [h]
  simp [convert, run_underlying ht, run_underlying he, markStringish, hsh, Result.andThen]
theorem freeze_row {w : World} {n k : Nat} {cs : Array Value} {t : TypeId} {f : Nat × Nat} (h : w.heap[n]? = some (.cells cs t f)) : (w.freeze ⟨n, k, none⟩ 1).heap[n]? = some (.cells cs t (if f.1 == f.2 then (k, k + 1) else (min f.1 k, max f.2 (k + 1)))) := by
  simp [World.freeze, Array.getElem?_modify, h]
set_option maxRecDepth 100000 in
set_option maxHeartbeats 4000000 in
theorem sane_any (w : World) (hK0 : KFact w) : Calls Tryd.prog 11 #[] w fun e w' => e = .returned (.bool true) ∧ Below w.heap.size w w' := by
  have hltk0 := hK0.lt
  have hE : (cellsB emptyH).size = (cellsB (List.replicate 32 0)).size := rfl
  have hA : (cellsB abcH).size = (cellsB (List.replicate 32 0)).size := rfl
  have HE := Lib.hid hE
  have HA := Lib.hid hA
  clear hE hA
  go_enter Tryd.func11, Tryd.ntmps11
  go_wp2_with (first | (refine wpList_value (o := ⟨some 3, .build _ _, _, _, _, _⟩) rfl (.agg (cellsB emptyH)) (by as_aux_lemma => kernel_rfl) ?_) | (refine wpList_value (o := ⟨some 4, .build _ _, _, _, _, _⟩) rfl (.agg (cellsB abcH)) (by as_aux_lemma => kernel_rfl) ?_) | (refine wpList_store_row rfl 25 (.tmp 1) (.tmp 3) rfl w.heap.size rfl (cellsB emptyH) (cellsB (List.replicate 32 0)) 25 rfl (Row.new w _ _) HE.out (Tryd.sizeD_of _ rfl) (cellsB_one _) ?_; intro wa hga hra hza; clear hza) | (refine wpList_store_row rfl 25 (.tmp 2) (.tmp 4) rfl wa.heap.size rfl (cellsB abcH) (cellsB (List.replicate 32 0)) 25 rfl (Row.new wa _ _) HA.out (Tryd.sizeD_of _ rfl) (cellsB_one _) ?_; intro w0 hg0 h2 hz0; clear hz0))
  have hbla : Below w.heap.size w wa := ((Below.refl _ _).alloc (Nat.le_refl _) _).grown hga (by simp) (fun k hk => by cases hk; exact Nat.le_refl _)
  have hbl : Below w.heap.size w w0 := (hbla.alloc hbla.size _).grown hg0 (by have := hbla.size; simp; omega) (fun k hk => by cases hk; exact hbla.size)
  have h1 : Row w0 w.heap.size 25 (cellsB emptyH) := (hra.alloc _).grown hg0 (fun e => by have := hra.lt; have := Option.some.inj e; omega)
  obtain ⟨n1, e1⟩ : ∃ n1, w.heap.size = n1 := ⟨_, rfl⟩
  obtain ⟨n2, e2⟩ : ∃ n2, wa.heap.size = n2 := ⟨_, rfl⟩
  have hbl' : Below w.heap.size w w0 := hbl
  rw [e1] at h1
  rw [e2] at h2
  rw [e1, e2]
  replace hK0 := hK0.below hbl hltk0
  have hltk : 1 < w0.heap.size := hK0.lt
  have hltn1 := h1.lt
  have hltn2 := h2.lt
  clear e1 e2 hbl hltk0 hga hra hg0 hbla HE HA
  obtain ⟨B, eB⟩ : ∃ B, w0.heap.size = B := ⟨_, rfl⟩
  have hBk : 1 < B := by omega
  have hB1 : n1 < B := by omega
  have hB2 : n2 < B := by omega
  rw [eB] at hltk hltn1 hltn2
  clear hBk hB1 hB2
  generalize ha0 : Act.put (Act.mk _ _) none undef = a0
  have i1 : a0.eval (.tmp 1) = .pointer (some ⟨n1, 0, none⟩) := by rw [← ha0]; rfl
  have i2 : a0.eval (.tmp 2) = .pointer (some ⟨n2, 0, none⟩) := by rw [← ha0]; rfl
  have hsz : a0.tmps.size = 36 := by rw [← ha0]; rfl
  have hdf0 : a0.defers = [] := ha0 ▸ rfl
  clear ha0
  refine wp_region_inv (B := B) [some 5, some 6, some 7, some 8, some 9, some 10, some 11, some 12, some 13, some 14, some 15, some 16, some 17, some 18, some 19, some 20, some 21, some 22, some 23, some 24, some 25, some 26, some 27, some 28, some 29, some 30, some 31, some 32, some 33, some 34, some 35, some 0] [Asrt.eq (.agg (cellsB (sumOf []))), Asrt.eq (.agg (cellsB (emptyH))), Asrt.eq (.bool true), Asrt.eq (.bool true), Asrt.row [97, 98, 99], Asrt.row [97, 98, 99], Asrt.eq (.agg (cellsB (sumOf [97, 98, 99]))), Asrt.eq (.agg (cellsB (abcH))), Asrt.eq (.bool true), Asrt.eq (.bool true), Asrt.eq (.bool true), Asrt.row [98], Asrt.row [98], Asrt.eq (.agg (cellsB (taggedOf [97] [98]))), Asrt.row [1, 97, 98], Asrt.eq (.agg (cellsB (sumOf [1, 97, 98]))), Asrt.eq (.bool true), Asrt.eq (.bool true), Asrt.eq (.bool true), Asrt.eq (.agg (cellsB (abcH))), Asrt.eq (.agg (cellsB (chainOf abcH 0))), Asrt.eq (.agg (cellsB (abcH))), Asrt.eq (.bool true), Asrt.eq (.bool true), Asrt.eq (.bool true), Asrt.eq (.agg (cellsB (abcH))), Asrt.eq (.agg (cellsB (chainOf abcH 1))), Asrt.eq (.slice (some ⟨n2, 0, none⟩) 32 32), Asrt.eq (.agg (cellsB (taggedOf [115, 116, 101, 112] abcH))), Asrt.eq (.bool true), Asrt.eq (.bool true), Asrt.eq (.bool true)] rfl (by as_aux_lemma => kernel_rfl) (by rw [hsz]; as_aux_lemma => kernel_rfl) (by as_aux_lemma => kernel_rfl) (by omega) ⟨?_, ?_, ?_, ?_, ?_, ?_, ?_, ?_, ?_, ?_, ?_, ?_, ?_, ?_, ?_, ?_, ?_, ?_, ?_, ?_, ?_, ?_, ?_, ?_, ?_, ?_, ?_, ?_, ?_, ?_, ?_, ?_, trivial⟩ ?_
  · as_aux_lemma =>
      intro ev w1 hg hin hc hgl hfn hd
      have hB := hg.top
      clear hin hd
      refine step_on (guard_none rfl) fun K hK => ?_
      unfold YieldsG
      go_simp
      refine (sum_any [] _ (fun _ => True) w1 (nil_bytes w1) (hK0.below hg.bl hltk) (by decide)).mono ?_
      rintro e w2 ⟨rfl, hb⟩
      exact ⟨_, rfl, hK _ _ rfl (Grow.of hB hb)⟩
  · as_aux_lemma =>
      intro ev w1 hg hin hc hgl hfn hd
      have hB := hg.top
      have g1 : ev (.tmp 1) = .pointer (some ⟨n1, 0, none⟩) := (hin 1 (by kernel_rfl)).trans i1
      clear hin hd
      refine step_on (guard_none rfl) fun K hK => ?_
      refine yg_load_row 25 (.tmp 1) rfl n1 g1 25 (cellsB emptyH) (0, 0) _ (h1.below hg.bl hltn1) Tryd.underD rfl Tryd.sizeD ?_
      exact hK _ _ rfl (Grow.refl hB)
  · as_aux_lemma =>
      intro ev w1 hg hin hc hgl hfn hd
      have hB := hg.top
      have f5 : (ev (.tmp 5)) = .agg (cellsB (sumOf [])) := hd.1 rfl _ rfl
      have f6 : (ev (.tmp 6)) = .agg (cellsB (emptyH)) := hd.2.1 rfl _ rfl
      clear hin hd
      refine step_on (guard_none rfl) fun K hK => ?_
      have hq := eqlT (sumOf []) (emptyH) (sumOf_len _) sum_empty
      unfold YieldsG
      go_simp
      exact hK _ _ rfl (Grow.refl hB)
  · as_aux_lemma =>
      intro ev w1 hg hin hc hgl hfn hd
      have hB := hg.top
      have f7 : (ev (.tmp 7)) = .bool true := hd.1 rfl _ rfl
      clear hin hd
      refine step_on (guard_none rfl) fun K hK => ?_
      unfold YieldsG
      go_simp
      exact hK _ _ rfl (Grow.refl hB)
  · as_aux_lemma =>
      intro ev w1 hg hin hc hgl hfn hd
      have hB := hg.top
      have f8 : (ev (.tmp 8)) = .bool true := hd.1 rfl _ rfl
      clear hin hd
      refine step_on (guard_some rfl rfl f8) fun K hK => ?_
      unfold YieldsG
      go_simp
      refine hK _ _ ⟨w1.heap.size, (0, 0), rfl, hB, heap_alloc_new w1 _⟩ (Grow.of hB ((Below.refl _ _).alloc (Nat.le_refl _) _))
  · as_aux_lemma =>
      intro ev w1 hg hin hc hgl hfn hd
      have hB := hg.top
      have f9 : (Asrt.row (B := B) [97, 98, 99]).p (ev (.tmp 9)) w1 := hd.1 rfl _ rfl
      have f8 : (ev (.tmp 8)) = .bool true := hd.2.1 rfl _ rfl
      clear hin hd
      refine step_on (guard_some rfl rfl f8) fun K hK => ?_
      obtain ⟨n, f, hv, hn, hh⟩ := f9
      have hm := run_mark (P := Tryd.prog) w1 22 5 n 3 3 (cellsB _) f Tryd.underB Tryd.underU8 hh
      have hv2 : ev (.tmp 9) = .slice (some ⟨n, 0, none⟩) 3 3 := hv
      clear hv
      unfold YieldsG
      go_simp
      exact hK _ _ ⟨n, _, rfl, hn, freeze_row hh⟩ (grow_mark hB hn hh)
  · as_aux_lemma =>
      intro ev w1 hg hin hc hgl hfn hd
      have hB := hg.top
      have f10 : (Asrt.row (B := B) [97, 98, 99]).p (ev (.tmp 10)) w1 := hd.1 rfl _ rfl
      have f8 : (ev (.tmp 8)) = .bool true := hd.2.1 rfl _ rfl
      clear hin hd
      refine step_on (guard_some rfl rfl f8) fun K hK => ?_
      unfold YieldsG
      go_simp
      refine (sum_any [97, 98, 99] _ _ w1 (Asrt.row_bytes f10 (by decide)) (hK0.below hg.bl hltk) (by decide)).mono ?_
      rintro e w2 ⟨rfl, hb⟩
      exact ⟨_, rfl, hK _ _ rfl (Grow.of hB hb)⟩
  · as_aux_lemma =>
      intro ev w1 hg hin hc hgl hfn hd
      have hB := hg.top
      have f8 : (ev (.tmp 8)) = .bool true := hd.1 rfl _ rfl
      have g2 : ev (.tmp 2) = .pointer (some ⟨n2, 0, none⟩) := (hin 2 (by kernel_rfl)).trans i2
      clear hin hd
      refine step_on (guard_some rfl rfl f8) fun K hK => ?_
      refine yg_load_row 25 (.tmp 2) rfl n2 g2 25 (cellsB abcH) (0, 0) _ (h2.below hg.bl hltn2) Tryd.underD rfl Tryd.sizeD ?_
      exact hK _ _ rfl (Grow.refl hB)
  · as_aux_lemma =>
      intro ev w1 hg hin hc hgl hfn hd
      have hB := hg.top
      have f11 : (ev (.tmp 11)) = .agg (cellsB (sumOf [97, 98, 99])) := hd.1 rfl _ rfl
      have f12 : (ev (.tmp 12)) = .agg (cellsB (abcH)) := hd.2.1 rfl _ rfl
      have f8 : (ev (.tmp 8)) = .bool true := hd.2.2.1 rfl _ rfl
      clear hin hd
      refine step_on (guard_some rfl rfl f8) fun K hK => ?_
      have hq := eqlT (sumOf [97, 98, 99]) (abcH) (sumOf_len _) sum_abc
      unfold YieldsG
      go_simp
      exact hK _ _ rfl (Grow.refl hB)
  · as_aux_lemma =>
      intro ev w1 hg hin hc hgl hfn hd
      have hB := hg.top
      have f8 : (ev (.tmp 8)) = .bool true := hd.1 rfl _ rfl
      have f13 : (ev (.tmp 13)) = .bool true := hd.2.1 rfl _ rfl
      clear hin hd
      refine step_on (guard_none rfl) fun K hK => ?_
      unfold YieldsG
      go_simp
      exact hK _ _ rfl (Grow.refl hB)
  · as_aux_lemma =>
      intro ev w1 hg hin hc hgl hfn hd
      have hB := hg.top
      have f14 : (ev (.tmp 14)) = .bool true := hd.1 rfl _ rfl
      clear hin hd
      refine step_on (guard_none rfl) fun K hK => ?_
      unfold YieldsG
      go_simp
      exact hK _ _ rfl (Grow.refl hB)
  · as_aux_lemma =>
      intro ev w1 hg hin hc hgl hfn hd
      have hB := hg.top
      have f15 : (ev (.tmp 15)) = .bool true := hd.1 rfl _ rfl
      clear hin hd
      refine step_on (guard_some rfl rfl f15) fun K hK => ?_
      unfold YieldsG
      go_simp
      refine hK _ _ ⟨w1.heap.size, (0, 0), rfl, hB, heap_alloc_new w1 _⟩ (Grow.of hB ((Below.refl _ _).alloc (Nat.le_refl _) _))
  · as_aux_lemma =>
      intro ev w1 hg hin hc hgl hfn hd
      have hB := hg.top
      have f16 : (Asrt.row (B := B) [98]).p (ev (.tmp 16)) w1 := hd.1 rfl _ rfl
      have f15 : (ev (.tmp 15)) = .bool true := hd.2.1 rfl _ rfl
      clear hin hd
      refine step_on (guard_some rfl rfl f15) fun K hK => ?_
      obtain ⟨n, f, hv, hn, hh⟩ := f16
      have hm := run_mark (P := Tryd.prog) w1 22 5 n 1 1 (cellsB _) f Tryd.underB Tryd.underU8 hh
      have hv2 : ev (.tmp 16) = .slice (some ⟨n, 0, none⟩) 1 1 := hv
      clear hv
      unfold YieldsG
      go_simp
      exact hK _ _ ⟨n, _, rfl, hn, freeze_row hh⟩ (grow_mark hB hn hh)
  · as_aux_lemma =>
      intro ev w1 hg hin hc hgl hfn hd
      have hB := hg.top
      have f17 : (Asrt.row (B := B) [98]).p (ev (.tmp 17)) w1 := hd.1 rfl _ rfl
      have f15 : (ev (.tmp 15)) = .bool true := hd.2.1 rfl _ rfl
      clear hin hd
      refine step_on (guard_some rfl rfl f15) fun K hK => ?_
      unfold YieldsG
      go_simp
      refine (tagged_any _ _ [98] _ w1 (by decide) (Asrt.row_bytes f17 (by decide)) (hK0.below hg.bl hltk) (by decide)).mono ?_
      rintro e w2 ⟨rfl, hb⟩
      exact ⟨_, rfl, hK _ _ rfl (Grow.of hB hb)⟩
  · as_aux_lemma =>
      intro ev w1 hg hin hc hgl hfn hd
      have hB := hg.top
      have f15 : (ev (.tmp 15)) = .bool true := hd.1 rfl _ rfl
      clear hin hd
      refine step_on (guard_some rfl rfl f15) fun K hK => ?_
      unfold YieldsG
      go_simp
      refine hK _ _ ⟨w1.heap.size, (0, 0), rfl, hB, heap_alloc_new w1 _⟩ (Grow.of hB ((Below.refl _ _).alloc (Nat.le_refl _) _))
  · as_aux_lemma =>
      intro ev w1 hg hin hc hgl hfn hd
      have hB := hg.top
      have f19 : (Asrt.row (B := B) [1, 97, 98]).p (ev (.tmp 19)) w1 := hd.1 rfl _ rfl
      have f15 : (ev (.tmp 15)) = .bool true := hd.2.2.1 rfl _ rfl
      clear hin hd
      refine step_on (guard_some rfl rfl f15) fun K hK => ?_
      unfold YieldsG
      go_simp
      refine (sum_any [1, 97, 98] _ _ w1 (Asrt.row_bytes f19 (by decide)) (hK0.below hg.bl hltk) (by decide)).mono ?_
      rintro e w2 ⟨rfl, hb⟩
      exact ⟨_, rfl, hK _ _ rfl (Grow.of hB hb)⟩
  · as_aux_lemma =>
      intro ev w1 hg hin hc hgl hfn hd
      have hB := hg.top
      have f18 : (ev (.tmp 18)) = .agg (cellsB (taggedOf [97] [98])) := hd.1 rfl _ rfl
      have f20 : (ev (.tmp 20)) = .agg (cellsB (sumOf [1, 97, 98])) := hd.2.1 rfl _ rfl
      have f15 : (ev (.tmp 15)) = .bool true := hd.2.2.1 rfl _ rfl
      clear hin hd
      refine step_on (guard_some rfl rfl f15) fun K hK => ?_
      have hq := eqlT (taggedOf [97] [98]) (sumOf [1, 97, 98]) (taggedOf_len _ _) rfl
      unfold YieldsG
      go_simp
      exact hK _ _ rfl (Grow.refl hB)
  · as_aux_lemma =>
      intro ev w1 hg hin hc hgl hfn hd
      have hB := hg.top
      have f15 : (ev (.tmp 15)) = .bool true := hd.1 rfl _ rfl
      have f21 : (ev (.tmp 21)) = .bool true := hd.2.1 rfl _ rfl
      clear hin hd
      refine step_on (guard_none rfl) fun K hK => ?_
      unfold YieldsG
      go_simp
      exact hK _ _ rfl (Grow.refl hB)
  · as_aux_lemma =>
      intro ev w1 hg hin hc hgl hfn hd
      have hB := hg.top
      have f22 : (ev (.tmp 22)) = .bool true := hd.1 rfl _ rfl
      clear hin hd
      refine step_on (guard_none rfl) fun K hK => ?_
      unfold YieldsG
      go_simp
      exact hK _ _ rfl (Grow.refl hB)
  · as_aux_lemma =>
      intro ev w1 hg hin hc hgl hfn hd
      have hB := hg.top
      have f23 : (ev (.tmp 23)) = .bool true := hd.1 rfl _ rfl
      have g2 : ev (.tmp 2) = .pointer (some ⟨n2, 0, none⟩) := (hin 2 (by kernel_rfl)).trans i2
      clear hin hd
      refine step_on (guard_some rfl rfl f23) fun K hK => ?_
      refine yg_load_row 25 (.tmp 2) rfl n2 g2 25 (cellsB abcH) (0, 0) _ (h2.below hg.bl hltn2) Tryd.underD rfl Tryd.sizeD ?_
      exact hK _ _ rfl (Grow.refl hB)
  · as_aux_lemma =>
      intro ev w1 hg hin hc hgl hfn hd
      have hB := hg.top
      have f24 : (ev (.tmp 24)) = .agg (cellsB (abcH)) := hd.1 rfl _ rfl
      have f23 : (ev (.tmp 23)) = .bool true := hd.2.1 rfl _ rfl
      clear hin hd
      refine step_on (guard_some rfl rfl f23) fun K hK => ?_
      unfold YieldsG
      go_simp
      refine (chain_any abcH 0 w1 rfl (by decide) (by decide) (hK0.below hg.bl hltk)).mono ?_
      rintro e w2 ⟨rfl, hb⟩
      exact ⟨_, rfl, hK _ _ rfl (Grow.of hB hb)⟩
  · as_aux_lemma =>
      intro ev w1 hg hin hc hgl hfn hd
      have hB := hg.top
      have f23 : (ev (.tmp 23)) = .bool true := hd.1 rfl _ rfl
      have g2 : ev (.tmp 2) = .pointer (some ⟨n2, 0, none⟩) := (hin 2 (by kernel_rfl)).trans i2
      clear hin hd
      refine step_on (guard_some rfl rfl f23) fun K hK => ?_
      refine yg_load_row 25 (.tmp 2) rfl n2 g2 25 (cellsB abcH) (0, 0) _ (h2.below hg.bl hltn2) Tryd.underD rfl Tryd.sizeD ?_
      exact hK _ _ rfl (Grow.refl hB)
  · as_aux_lemma =>
      intro ev w1 hg hin hc hgl hfn hd
      have hB := hg.top
      have f25 : (ev (.tmp 25)) = .agg (cellsB (chainOf abcH 0)) := hd.1 rfl _ rfl
      have f26 : (ev (.tmp 26)) = .agg (cellsB (abcH)) := hd.2.1 rfl _ rfl
      have f23 : (ev (.tmp 23)) = .bool true := hd.2.2.1 rfl _ rfl
      clear hin hd
      refine step_on (guard_some rfl rfl f23) fun K hK => ?_
      have hq := eqlT (chainOf abcH 0) (abcH) rfl rfl
      unfold YieldsG
      go_simp
      exact hK _ _ rfl (Grow.refl hB)
  · as_aux_lemma =>
      intro ev w1 hg hin hc hgl hfn hd
      have hB := hg.top
      have f23 : (ev (.tmp 23)) = .bool true := hd.1 rfl _ rfl
      have f27 : (ev (.tmp 27)) = .bool true := hd.2.1 rfl _ rfl
      clear hin hd
      refine step_on (guard_none rfl) fun K hK => ?_
      unfold YieldsG
      go_simp
      exact hK _ _ rfl (Grow.refl hB)
  · as_aux_lemma =>
      intro ev w1 hg hin hc hgl hfn hd
      have hB := hg.top
      have f28 : (ev (.tmp 28)) = .bool true := hd.1 rfl _ rfl
      clear hin hd
      refine step_on (guard_none rfl) fun K hK => ?_
      unfold YieldsG
      go_simp
      exact hK _ _ rfl (Grow.refl hB)
  · as_aux_lemma =>
      intro ev w1 hg hin hc hgl hfn hd
      have hB := hg.top
      have f29 : (ev (.tmp 29)) = .bool true := hd.1 rfl _ rfl
      have g2 : ev (.tmp 2) = .pointer (some ⟨n2, 0, none⟩) := (hin 2 (by kernel_rfl)).trans i2
      clear hin hd
      refine step_on (guard_some rfl rfl f29) fun K hK => ?_
      refine yg_load_row 25 (.tmp 2) rfl n2 g2 25 (cellsB abcH) (0, 0) _ (h2.below hg.bl hltn2) Tryd.underD rfl Tryd.sizeD ?_
      exact hK _ _ rfl (Grow.refl hB)
  · as_aux_lemma =>
      intro ev w1 hg hin hc hgl hfn hd
      have hB := hg.top
      have f30 : (ev (.tmp 30)) = .agg (cellsB (abcH)) := hd.1 rfl _ rfl
      have f29 : (ev (.tmp 29)) = .bool true := hd.2.1 rfl _ rfl
      clear hin hd
      refine step_on (guard_some rfl rfl f29) fun K hK => ?_
      unfold YieldsG
      go_simp
      refine (chain_any abcH 1 w1 rfl (by decide) (by decide) (hK0.below hg.bl hltk)).mono ?_
      rintro e w2 ⟨rfl, hb⟩
      exact ⟨_, rfl, hK _ _ rfl (Grow.of hB hb)⟩
  · as_aux_lemma =>
      intro ev w1 hg hin hc hgl hfn hd
      have hB := hg.top
      have f29 : (ev (.tmp 29)) = .bool true := hd.1 rfl _ rfl
      have g2 : ev (.tmp 2) = .pointer (some ⟨n2, 0, none⟩) := (hin 2 (by kernel_rfl)).trans i2
      clear hin hd
      refine step_on (guard_some rfl rfl f29) fun K hK => ?_
      unfold YieldsG
      go_simp
      exact hK _ _ rfl (Grow.refl hB)
  · as_aux_lemma =>
      intro ev w1 hg hin hc hgl hfn hd
      have hB := hg.top
      have f32 : (ev (.tmp 32)) = .slice (some ⟨n2, 0, none⟩) 32 32 := hd.1 rfl _ rfl
      have f29 : (ev (.tmp 29)) = .bool true := hd.2.2.1 rfl _ rfl
      clear hin hd
      refine step_on (guard_some rfl rfl f29) fun K hK => ?_
      unfold YieldsG
      go_simp
      refine (tagged_any _ _ abcH _ w1 (by decide) ((h2.below hg.bl hltn2).bytes rfl) (hK0.below hg.bl hltk) (by decide)).mono ?_
      rintro e w2 ⟨rfl, hb⟩
      exact ⟨_, rfl, hK _ _ rfl (Grow.of hB hb)⟩
  · as_aux_lemma =>
      intro ev w1 hg hin hc hgl hfn hd
      have hB := hg.top
      have f31 : (ev (.tmp 31)) = .agg (cellsB (chainOf abcH 1)) := hd.1 rfl _ rfl
      have f33 : (ev (.tmp 33)) = .agg (cellsB (taggedOf [115, 116, 101, 112] abcH)) := hd.2.1 rfl _ rfl
      have f29 : (ev (.tmp 29)) = .bool true := hd.2.2.1 rfl _ rfl
      clear hin hd
      refine step_on (guard_some rfl rfl f29) fun K hK => ?_
      have hq := eqlT (chainOf abcH 1) (taggedOf [115, 116, 101, 112] abcH) (chainOf_len _ rfl 1) rfl
      unfold YieldsG
      go_simp
      exact hK _ _ rfl (Grow.refl hB)
  · as_aux_lemma =>
      intro ev w1 hg hin hc hgl hfn hd
      have hB := hg.top
      have f29 : (ev (.tmp 29)) = .bool true := hd.1 rfl _ rfl
      have f34 : (ev (.tmp 34)) = .bool true := hd.2.1 rfl _ rfl
      clear hin hd
      refine step_on (guard_none rfl) fun K hK => ?_
      unfold YieldsG
      go_simp
      exact hK _ _ rfl (Grow.refl hB)
  · as_aux_lemma =>
      intro ev w1 hg hin hc hgl hfn hd
      have hB := hg.top
      have f35 : (ev (.tmp 35)) = .bool true := hd.1 rfl _ rfl
      clear hin hd
      refine step_on (guard_none rfl) fun K hK => ?_
      unfold YieldsG
      go_simp
      exact hK _ _ rfl (Grow.refl hB)
  · intro v w2 hg hall
    have hr : v 31 = .bool true := hall.2.2.2.2.2.2.2.2.2.2.2.2.2.2.2.2.2.2.2.2.2.2.2.2.2.2.2.2.2.2.2.1 (by simp)
    generalize hput : putAll _ v 0 _ = af
    have h0 : af.tmps.getD 0 undef = v 31 := by rw [← hput]; exact putAll_at (by rw [hsz]; as_aux_lemma => kernel_rfl) rfl rfl
    have hdf : af.defers = [] := by rw [← hput, putAll_defers]; exact hdf0
    clear hput hall
    go_wp2
    refine bodyPost_ret (results_tmp rfl _ _ _) hdf ⟨?_, hbl'.trans (hg.bl.mono (by rw [← eB]; exact hbl'.size))⟩
    rw [h0, hr]
end Go.Proofs.YtibogbmpcahjcaaDoor

/- crossbarref04.key and crossbarref04.start. Conditions: the ends are at most a thousand digests, the tables lie in their variables. -/
import Derived.Test.YthhlfcbkggahmaaDoorWKey
import Derived.Test.YthhlfcbkggahmaaDoorWLeb
namespace Go.Proofs.YthhlfcbkggahmaaDoor
open Go.RowKit
set_option maxRecDepth 10000 in
set_option maxHeartbeats 2000000 in
theorem rkey_any (xs : List (List UInt8)) (v : Value) (w : World) (hv : Digs w v xs) (h32 : all32 xs) (hl : xs.length ≤ 1000) (hK : RKFact w) (hI : RIFact w) :
    Calls Tryd.prog 34 #[v] w fun e w' => e = .returned (.agg (cellsB (keyOf xs))) ∧ Below w.heap.size w w' := by
  have hkl := hK.lt
  have hil := hI.lt
  obtain ⟨a, c, rfl⟩ := hv.form
  obtain ⟨n, hn⟩ : ∃ n, xs.length = n := ⟨_, rfl⟩
  rw [hn] at hv hl ⊢
  have HN := Lib.hid hn
  have H32 := Lib.hid h32
  clear hn h32
  have hb0 : Below w.heap.size w (w.alloc (.cells (cellsB (List.replicate 32 0)) 23)) := (Below.refl _ _).alloc (Nat.le_refl _) _
  have hD0 : Row (w.alloc (.cells (cellsB (List.replicate 32 0)) 23)) w.heap.size 23 (cellsB (List.replicate 32 0)) := Row.new w _ _
  have hz0 : w.heap.size + 1 ≤ (w.alloc (.cells (cellsB (List.replicate 32 0)) 23)).heap.size := by simp
  go_enter Tryd.func34, Tryd.ntmps34
  go_wp2
  go_loopw [4, 3] (fun t q wr => ∃ i : Nat, i ≤ n ∧ t = .int .i64 (i : Int) ∧ OwnB wr (w.heap.size + 1) q (pfx xs i) ∧ Row wr w.heap.size 23 (cellsB (List.replicate 32 0)) ∧ Below w.heap.size w wr ∧ w.heap.size + 1 ≤ wr.heap.size) (fun t _ _ => n - (intOf t).toNat)
  case atStart => exact ⟨0, by omega, rfl, OwnB.nil _ _, hD0, hb0, hz0⟩
  case round =>
    clear hb0 hD0 hz0
    obtain ⟨i, hi, rfl, ho, hD, hb, hz⟩ := hrel
    by_cases hlt : i < n
    · obtain ⟨bv, ov, rfl, -, hc1, hc2, hat⟩ := (hv.later hb).at (by omega)
      have hi2 : i < xs.length := by rw [HN.out]; exact hlt
      have hce := hat.elem H32.out i hi2
      have hl32 := all32_getD H32.out i hi2
      have HP := Lib.hid (pfx_succ xs i hi2)
      have HL := Lib.hid (pfx_len xs H32.out i (by rw [HN.out]; exact hi))
      clear hat
      generalize xs.getD i [] = x at *
      have hs3 := range_bytes hce hl32
      have HX := Lib.hid hl32
      clear hl32
      go_wp2_with (at_builtin; refine wpList_append_bytes rfl (.tmp 11) (.tmp 15) rfl (w.heap.size + 1) _ _ (pfx xs i) x _ rfl ho rfl hs3 (by rw [HL.out, HX.out]; omega) (by omega) ?_; intro v6 w6 ho6 hg6)
      have hB6 := hb.grown hg6 hb.size (fun k hk => by have := ho.ownBlock k hk; omega)
      have hD6 := hD.grown hg6 (fun e => by have := ho.ownBlock _ e.symm; omega)
      have hz6 : w.heap.size + 1 ≤ w6.heap.size := by have := hg6.size; omega
      rw [← HP.out] at ho6
      go_roundw
      case rel => exact ⟨i + 1, by omega, by go_num, ho6, hD6, hB6, hz6⟩
      case measure => simp [intOf]; omega
    · rw [pfx_all xs i (by rw [HN.out]; omega)] at ho
      have hm := ho.bytes (fun _ => True) fun _ _ => trivial
      have hml : xs.flatten.length ≤ 8796093022208 := by rw [flat_len xs H32.out, HN.out]; omega
      have hKr := hK.below hb hkl
      have hIr := hI.below hb hil
      have HKO : Hid (taggedOf (ByteArray.mk #[119, 111, 116, 115, 112, 117, 98]).data.toList xs.flatten = keyOf xs) := rfl
      clear ho
      go_wp2_with fail
      refine (rtagged_any _ _ xs.flatten _ wr (by decide) hm hKr hIr hml).mono ?_
      rintro e w5 ⟨rfl, hb5⟩
      rw [HKO.out]
      have hD5 := hD.below hb5 hD.lt
      have hB5 := hb.trans (hb5.mono hb.size)
      have HSZ := Lib.hid (Tryd.sizeD_of _ (keyOf_len xs))
      have HCS : Hid ((cellsB (keyOf xs)).size = (cellsB (List.replicate 32 0)).size) := Lib.hid (by rw [cellsB_size, keyOf_len]; rfl)
      clear hD hb hb5 hm hml
      go_wp2_with (refine wpList_store_row rfl 23 (.tmp 2) (.tmp 18) rfl w.heap.size rfl (cellsB (keyOf xs)) _ 23 rfl hD5 HCS.out HSZ.out (cellsB_one _) ?_; intro w9 hg9 hr9 hz9)
      refine bodyPost_ret (v := .agg (cellsB (keyOf xs))) (results_cell_row rfl _ _ w.heap.size 23 _ (0, 0) _ rfl hr9 Tryd.underD rfl HSZ.out) rfl ⟨rfl, ?_⟩
      exact hB5.grown hg9 hB5.size (fun k hk => by cases hk; exact Nat.le_refl _)
theorem wrap_u64 (n : Nat) (h : n ≤ 1000000) : IntKind.u64.wrap (n : Int) = (n : Int) := IntWalk.u64_in _ (by omega)
set_option maxRecDepth 10000 in
set_option maxHeartbeats 2000000 in
theorem rstart_any (seed : List UInt8) (v : Value) (idx i : Nat) (w : World) (hv : Bytes w v seed (fun _ => True)) (hl : seed.length ≤ 1000) (hidx : idx ≤ 1023) (hi : i < 18) (hK : RKFact w) (hI : RIFact w) :
    Calls Tryd.prog 33 #[v, .int .i64 (idx : Int), .int .i64 (i : Int)] w fun e w' => e = .returned (.agg (cellsB (startOf seed idx i))) ∧ Below w.heap.size w w' := by
  have hkl := hK.lt
  have hil := hI.lt
  have hw1 := wrap_u64 idx (by omega)
  have hw2 := wrap_u64 i (by omega)
  obtain ⟨av, kv, rfl⟩ : ∃ a c, v = .slice a seed.length c := by obtain ⟨a, c, h, _⟩ := hv; exact ⟨a, c, h⟩
  have hb0 : Below w.heap.size w (w.alloc (.cells (cellsB (List.replicate 32 0)) 23)) := (Below.refl _ _).alloc (Nat.le_refl _) _
  have hD0 : Row (w.alloc (.cells (cellsB (List.replicate 32 0)) 23)) w.heap.size 23 (cellsB (List.replicate 32 0)) := Row.new w _ _
  have hz0 : w.heap.size + 1 ≤ (w.alloc (.cells (cellsB (List.replicate 32 0)) 23)).heap.size := by simp
  have hnil : ∀ w : World, Bytes w (.slice none 0 0) [] (fun _ => True) := fun w => ⟨none, 0, rfl, Nat.le_refl _, by decide, .inl ⟨rfl, fun _ => rfl⟩⟩
  have hll1 := leb_len idx
  have hll2 := leb_len i
  go_enter Tryd.func33, Tryd.ntmps33
  go_wp2_with fail
  refine (ruint_any [] _ idx _ _ (hnil _) (by decide) (by omega)).mono ?_
  rintro e w1 ⟨v1, rfl, ho1, hb1⟩
  rw [List.nil_append] at ho1
  have hB1 := hb0.trans (hb1.mono hb0.size)
  have hD1 := hD0.below hb1 hD0.lt
  have hz1 := Nat.le_trans hz0 hb1.size
  have hs1 := ho1.bytes (fun _ => True) fun _ _ => trivial
  clear ho1 hb0 hD0 hz0 hb1
  go_wp2_with fail
  refine (ruint_any (leb idx) _ i _ w1 hs1 (by omega) (by omega)).mono ?_
  rintro e w2 ⟨v2, rfl, ho2, hb2⟩
  have hB2 := hB1.trans (hb2.mono hB1.size)
  have hD2 := hD1.below hb2 hD1.lt
  have hz2 := Nat.le_trans hz1 hb2.size
  have hz12 := hb2.size
  have hs2 : Bytes w2 (.slice av seed.length kv) seed (fun _ => True) := (hv.later hB2).imp fun _ _ => trivial
  have hml2 : (leb idx ++ leb i).length ≤ 4 := by rw [List.length_append]; omega
  clear hB1 hD1 hs1 hb2
  go_wp2_with (at_builtin; refine wpList_append_bytes rfl (.tmp 15) (.tmp 16) rfl w1.heap.size _ _ (leb idx ++ leb i) seed _ rfl ho2 rfl hs2 (by omega) (by omega) ?_; intro v6 w6 ho6 hg6)
  have hB6 := hB2.grown hg6 hB2.size (fun k hk => by have := ho2.ownBlock k hk; omega)
  have hD6 := hD2.grown hg6 (fun e => by have := ho2.ownBlock _ e.symm; omega)
  have hm6 : Bytes w6 v6 (startMsg seed idx i) (fun _ => True) := ho6.bytes _ fun _ _ => trivial
  have hml6 : (startMsg seed idx i).length ≤ 8796093022208 := by unfold startMsg; rw [List.length_append]; omega
  have HST : Hid (taggedOf (ByteArray.mk #[119, 111, 116, 115]).data.toList (startMsg seed idx i) = startOf seed idx i) := rfl
  have hK6 := hK.below hB6 hkl
  have hI6 := hI.below hB6 hil
  clear hB2 hD2 ho2 hs2 hg6 ho6
  refine (rtagged_any _ _ (startMsg seed idx i) _ w6 (by decide) hm6 hK6 hI6 hml6).mono ?_
  rintro e w7 ⟨rfl, hb7⟩
  rw [HST.out]
  have hD7 := hD6.below hb7 hD6.lt
  have hB7 := hB6.trans (hb7.mono hB6.size)
  have HSZ := Lib.hid (Tryd.sizeD_of _ (startOf_len seed idx i))
  have HCS : Hid ((cellsB (startOf seed idx i)).size = (cellsB (List.replicate 32 0)).size) := Lib.hid (by rw [cellsB_size, startOf_len]; rfl)
  clear hm6 hml6 hK6 hI6 hb7 hB6 hD6
  go_wp2_with (refine wpList_store_row rfl 23 (.tmp 6) (.tmp 19) rfl w.heap.size rfl (cellsB (startOf seed idx i)) _ 23 rfl hD7 HCS.out HSZ.out (cellsB_one _) ?_; intro w9 hg9 hr9 hz9)
  refine bodyPost_ret (v := .agg (cellsB (startOf seed idx i))) (results_cell_row rfl _ _ w.heap.size 23 _ (0, 0) _ rfl hr9 Tryd.underD rfl HSZ.out) rfl ⟨rfl, ?_⟩
  exact hB7.grown hg9 hB7.size (fun k hk => by cases hk; exact Nat.le_refl _)
end Go.Proofs.YthhlfcbkggahmaaDoor

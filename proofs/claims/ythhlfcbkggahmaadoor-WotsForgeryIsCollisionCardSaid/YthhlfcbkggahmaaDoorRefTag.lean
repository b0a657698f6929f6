/- crossbarref03.Tagged returns the hash of the plain definition. Conditions: the bytes can be read, they are fewer than 2^43, the tables lie in their variables. -/
import Derived.Test.YthhlfcbkggahmaaDoorRefSum
import Derived.Test.YthhlfcbkggahmaaDoorTagged
namespace Go.Proofs.YthhlfcbkggahmaaDoor
open Go.RowKit
theorem tagged_msg (s t : ByteArray) (b : List UInt8) (htk : s.data.toList.take 255 = t.data.toList) : sumOf ([UInt8.ofNat t.size] ++ t.data.toList ++ b) = taggedOf s.data.toList b := by
  have hl : t.data.toList.length = t.size := rfl
  unfold taggedOf
  rw [htk]
  show _ = sumOf ([UInt8.ofNat t.data.toList.length] ++ t.data.toList ++ b)
  rw [hl]
set_option maxHeartbeats 1000000 in
theorem rtagged_any (s : ByteArray) (v : Value) (b : List UInt8) (ok : Nat → Prop) (w : World) (hs : s.size ≤ 9223372036854775807) (hv : Bytes w v b ok) (hK : RKFact w) (hI : RIFact w) (hl : b.length ≤ 8796093022208) :
    Calls Tryd.prog 41 #[.string s, v] w fun e w' => e = .returned (.agg (cellsB (taggedOf s.data.toList b))) ∧ Below w.heap.size w w' := by
  have hkl := hK.lt
  have hil := hI.lt
  obtain ⟨av, cv, rfl⟩ : ∃ a c, v = .slice a b.length c := by obtain ⟨a, c, h, _⟩ := hv; exact ⟨a, c, h⟩
  have hcase : ∃ t : ByteArray, t.size ≤ 255 ∧ s.data.toList.take 255 = t.data.toList ∧ ((s.size ≤ 255 ∧ s = t) ∨ (¬ s.size ≤ 255 ∧ s.extract 0 255 = t)) := by
    by_cases h : s.size ≤ 255
    · exact ⟨s, h, List.take_of_length_le h, .inl ⟨h, rfl⟩⟩
    · refine ⟨s.extract 0 255, by rw [ByteArray.size_extract]; omega, ?_, .inr ⟨h, rfl⟩⟩
      rw [ByteArray.data_extract, Array.toList_extract]; simp [List.extract]
  obtain ⟨t, h255, htk, hcase⟩ := hcase
  have HM := Lib.hid (tagged_msg s t b htk)
  have hlen : (t.size : Int) = Y (UInt8.ofNat t.size) := by
    unfold Y; rw [UInt8.toNat_ofNat', Nat.mod_eq_of_lt (by omega)]
  have hb1 : Below w.heap.size w (w.alloc (.cells (cellsB (List.replicate 32 0)) 23)) := (Below.refl _ _).alloc (Nat.le_refl _) _
  have hD1 : Row (w.alloc (.cells (cellsB (List.replicate 32 0)) 23)) w.heap.size 23 (cellsB (List.replicate 32 0)) := Row.new w _ _
  have hsz1 : (w.alloc (.cells (cellsB (List.replicate 32 0)) 23)).heap.size = w.heap.size + 1 := by simp
  have ho0 : OwnB ((w.alloc (.cells (cellsB (List.replicate 32 0)) 23)).alloc (.cells #[.int .u8 (t.size : Int)] 5)) (w.heap.size + 1) (.slice (some ⟨w.heap.size + 1, 0, none⟩) 1 1) [UInt8.ofNat t.size] := by
    have h := OwnB.fresh (w.alloc (.cells (cellsB (List.replicate 32 0)) 23)) [UInt8.ofNat t.size] (by simp)
    have e : cellsB [UInt8.ofNat t.size] = #[.int .u8 (t.size : Int)] := by rw [hlen]; rfl
    rw [hsz1, e] at h
    exact h
  have hb0 : Below w.heap.size w ((w.alloc (.cells (cellsB (List.replicate 32 0)) 23)).alloc (.cells #[.int .u8 (t.size : Int)] 5)) := hb1.alloc hb1.size _
  have hD0 := hD1.alloc (.cells #[.int .u8 (t.size : Int)] 5)
  clear hb1 hD1 hsz1 hlen htk
  rcases hcase with ⟨hc, rfl⟩ | ⟨hc, et⟩
  · obtain ⟨t, rfl⟩ : ∃ t, t = s := ⟨s, rfl⟩
    go_enter Tryd.func41, Tryd.ntmps41
    go_wp2_with (at_builtin; first | (refine wpList_append_str rfl (.tmp 15) (.tmp 16) rfl (w.heap.size + 1) _ [UInt8.ofNat t.size] t rfl ho0 rfl (by simp; omega) (by simp) ?_; intro v1 w1 o1 g1; have hB1 : Below w.heap.size w w1 := hb0.grown g1 hb0.size (fun k hk => by have := ho0.ownBlock k hk; omega); have hD1 := hD0.grown g1 (fun e => by have := ho0.ownBlock _ e.symm; omega); have hz1 : w.heap.size + 1 ≤ w1.heap.size := (by have := g1.size; simp at this; omega); have hs1 : Bytes w1 (.slice av b.length cv) b (fun _ => True) := (hv.later hB1).imp fun _ _ => trivial; clear ho0 hb0 hD0 g1) | (refine wpList_append_bytes rfl (.tmp 18) (.tmp 19) rfl (w.heap.size + 1) _ _ ([UInt8.ofNat t.size] ++ t.data.toList) b _ rfl o1 rfl hs1 (by rw [List.length_append]; have hl : t.data.toList.length = t.size := rfl; simp; omega) hz1 ?_; intro v3 w3 o3 g3))
    have hB3 := hB1.grown g3 hB1.size (fun k hk => by have := o1.ownBlock k hk; omega)
    have hD3 := hD1.grown g3 (fun e => by have := o1.ownBlock _ e.symm; omega)
    have hs3 : Bytes w3 v3 ([UInt8.ofNat t.size] ++ t.data.toList ++ b) (fun _ => True) := o3.bytes _ fun _ _ => trivial
    have hml : ([UInt8.ofNat t.size] ++ t.data.toList ++ b).length ≤ 17592186044416 := by
      have hl : t.data.toList.length = t.size := rfl
      rw [List.length_append, List.length_append, hl]; simp; omega
    clear g3 o1 o3 hs1 hB1 hD1 hv
    refine (rsum_any _ v3 _ w3 hs3 (hK.below hB3 hkl) (hI.below hB3 hil) hml).mono ?_
    rintro e w5 ⟨rfl, hb5⟩
    rw [HM.out]
    have hB5 := hB3.trans (hb5.mono hB3.size)
    have hD5 := hD3.below hb5 hD3.lt
    have HSZ := Lib.hid (Tryd.sizeD_of _ (taggedOf_len t.data.toList b))
    have HCD : Hid ((cellsB (taggedOf t.data.toList b)).size = (cellsB (List.replicate 32 0)).size) := Lib.hid (by rw [cellsB_size, taggedOf_len]; rfl)
    clear hB3 hD3 hb5 hs3 hml
    go_wp2_with (refine wpList_store_row rfl 23 (.tmp 4) (.tmp 22) rfl w.heap.size rfl (cellsB (taggedOf t.data.toList b)) _ 23 rfl hD5 HCD.out HSZ.out (cellsB_one _) ?_; intro w9 hg9 hr9 hz9)
    refine bodyPost_ret (v := .agg (cellsB (taggedOf t.data.toList b))) (results_cell_row rfl _ _ w.heap.size 23 _ (0, 0) _ rfl hr9 Tryd.underD rfl HSZ.out) rfl ⟨rfl, ?_⟩
    exact hB5.grown hg9 hB5.size (fun k hk => by cases hk; exact Nat.le_refl _)
  · have hc2 : 255 < s.size := by omega
    go_enter Tryd.func41, Tryd.ntmps41
    go_wp2_with (at_builtin; first | (refine wpList_append_str rfl (.tmp 15) (.tmp 16) rfl (w.heap.size + 1) _ [UInt8.ofNat t.size] t rfl ho0 rfl (by simp; omega) (by simp) ?_; intro v1 w1 o1 g1; have hB1 : Below w.heap.size w w1 := hb0.grown g1 hb0.size (fun k hk => by have := ho0.ownBlock k hk; omega); have hD1 := hD0.grown g1 (fun e => by have := ho0.ownBlock _ e.symm; omega); have hz1 : w.heap.size + 1 ≤ w1.heap.size := (by have := g1.size; simp at this; omega); have hs1 : Bytes w1 (.slice av b.length cv) b (fun _ => True) := (hv.later hB1).imp fun _ _ => trivial; clear ho0 hb0 hD0 g1) | (refine wpList_append_bytes rfl (.tmp 18) (.tmp 19) rfl (w.heap.size + 1) _ _ ([UInt8.ofNat t.size] ++ t.data.toList) b _ rfl o1 rfl hs1 (by rw [List.length_append]; have hl : t.data.toList.length = t.size := rfl; simp; omega) hz1 ?_; intro v3 w3 o3 g3))
    have hB3 := hB1.grown g3 hB1.size (fun k hk => by have := o1.ownBlock k hk; omega)
    have hD3 := hD1.grown g3 (fun e => by have := o1.ownBlock _ e.symm; omega)
    have hs3 : Bytes w3 v3 ([UInt8.ofNat t.size] ++ t.data.toList ++ b) (fun _ => True) := o3.bytes _ fun _ _ => trivial
    have hml : ([UInt8.ofNat t.size] ++ t.data.toList ++ b).length ≤ 17592186044416 := by
      have hl : t.data.toList.length = t.size := rfl
      rw [List.length_append, List.length_append, hl]; simp; omega
    clear g3 o1 o3 hs1 hB1 hD1 hv
    refine (rsum_any _ v3 _ w3 hs3 (hK.below hB3 hkl) (hI.below hB3 hil) hml).mono ?_
    rintro e w5 ⟨rfl, hb5⟩
    rw [HM.out]
    have hB5 := hB3.trans (hb5.mono hB3.size)
    have hD5 := hD3.below hb5 hD3.lt
    have HSZ := Lib.hid (Tryd.sizeD_of _ (taggedOf_len s.data.toList b))
    have HCD : Hid ((cellsB (taggedOf s.data.toList b)).size = (cellsB (List.replicate 32 0)).size) := Lib.hid (by rw [cellsB_size, taggedOf_len]; rfl)
    clear hB3 hD3 hb5 hs3 hml
    go_wp2_with (refine wpList_store_row rfl 23 (.tmp 4) (.tmp 22) rfl w.heap.size rfl (cellsB (taggedOf s.data.toList b)) _ 23 rfl hD5 HCD.out HSZ.out (cellsB_one _) ?_; intro w9 hg9 hr9 hz9)
    refine bodyPost_ret (v := .agg (cellsB (taggedOf s.data.toList b))) (results_cell_row rfl _ _ w.heap.size 23 _ (0, 0) _ rfl hr9 Tryd.underD rfl HSZ.out) rfl ⟨rfl, ?_⟩
    exact hB5.grown hg9 hB5.size (fun k hk => by cases hk; exact Nat.le_refl _)
end Go.Proofs.YthhlfcbkggahmaaDoor

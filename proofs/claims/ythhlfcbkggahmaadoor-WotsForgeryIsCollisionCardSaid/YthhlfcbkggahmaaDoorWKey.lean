/- wots.key and crossbarref04.key. Conditions: the ends are at most a thousand digests, the constants lie in their variables. -/
import Derived.Test.YthhlfcbkggahmaaDoorWMem
import Derived.Test.YthhlfcbkggahmaaDoorRefTag
namespace Go.Proofs.YthhlfcbkggahmaaDoor
open Go.RowKit
def pfx (xs : List (List UInt8)) (i : Nat) : List UInt8 := (xs.take i).flatten
theorem pfx_succ (xs : List (List UInt8)) (i : Nat) (h : i < xs.length) : pfx xs (i + 1) = pfx xs i ++ xs.getD i [] := by
  unfold pfx
  rw [List.take_add_one, List.getElem?_eq_getElem h, List.flatten_append, List.getD_eq_getElem?_getD, List.getElem?_eq_getElem h]; simp
theorem pfx_all (xs : List (List UInt8)) (i : Nat) (h : xs.length ≤ i) : pfx xs i = xs.flatten := by unfold pfx; rw [List.take_of_length_le h]
theorem pfx_len (xs : List (List UInt8)) (h : all32 xs) (i : Nat) (hi : i ≤ xs.length) : (pfx xs i).length = 32 * i := by
  unfold pfx
  rw [flat_len _ (fun x hx => h x (List.mem_of_mem_take hx)), List.length_take, Nat.min_eq_left hi]
theorem range_bytes {w : World} {b o : Nat} {x : List UInt8} (h : w.rangeAt b o (x.map B8)) (hx : x.length = 32) : Bytes w (.slice (some ⟨b, o, none⟩) 32 32) x (fun _ => True) :=
  ⟨_, 32, by rw [hx], by rw [hx]; omega, by decide, .inr ⟨b, o, rfl, trivial, fun i hi => by
    refine h i _ ?_
    rw [List.getElem?_map, List.getElem?_eq_getElem hi]
    unfold by8
    rw [List.getD_eq_getElem?_getD, List.getElem?_eq_getElem hi]; rfl⟩⟩
set_option maxRecDepth 10000 in
set_option maxHeartbeats 2000000 in
theorem key_any (xs : List (List UInt8)) (v : Value) (w : World) (hv : Digs w v xs) (h32 : all32 xs) (hl : xs.length ≤ 1000) (hK : KFact w) :
    Calls Tryd.prog 30 #[v] w fun e w' => e = .returned (.agg (cellsB (keyOf xs))) ∧ Below w.heap.size w w' := by
  have hkl := hK.lt
  obtain ⟨a, c, rfl⟩ := hv.form
  obtain ⟨n, hn⟩ : ∃ n, xs.length = n := ⟨_, rfl⟩
  rw [hn] at hv hl ⊢
  have HN := Lib.hid hn
  have H32 := Lib.hid h32
  clear hn h32
  have hb0 : Below w.heap.size w (w.alloc (.cells (cellsB (List.replicate 32 0)) 23)) := (Below.refl _ _).alloc (Nat.le_refl _) _
  have hD0 : Row (w.alloc (.cells (cellsB (List.replicate 32 0)) 23)) w.heap.size 23 (cellsB (List.replicate 32 0)) := Row.new w _ _
  have hz0 : w.heap.size + 1 ≤ (w.alloc (.cells (cellsB (List.replicate 32 0)) 23)).heap.size := by simp
  go_enter Tryd.func30, Tryd.ntmps30
  go_wp2
  go_loopw [8, 3] (fun t q wr => ∃ i : Nat, i ≤ n ∧ t = .int .i64 (i : Int) ∧ OwnB wr (w.heap.size + 1) q (pfx xs i) ∧ Row wr w.heap.size 23 (cellsB (List.replicate 32 0)) ∧ Below w.heap.size w wr ∧ w.heap.size + 1 ≤ wr.heap.size) (fun t _ _ => n - (intOf t).toNat)
  case atStart => exact ⟨0, by omega, rfl, OwnB.nil _ _, hD0, hb0, hz0⟩
  case round =>
    clear hb0 hD0 hz0
    obtain ⟨i, hi, rfl, ho, hD, hb, hz⟩ := hrel
    by_cases hlt : i < n
    · obtain ⟨bv, ov, rfl, -, hc1, hc2, hat⟩ := (hv.later hb).at (by omega)
      have hi2 : i < xs.length := by rw [HN.out]; exact hlt
      have hce := hat.elem H32.out i hi2
      have hl32 := all32_getD H32.out i hi2
      have HP := Lib.hid (pfx_succ xs i hi2)
      have HL := Lib.hid (pfx_len xs H32.out i (by rw [HN.out]; exact hi))
      clear hat
      generalize xs.getD i [] = x at *
      have HX := Lib.hid hl32
      have HSZ := Lib.hid (Tryd.sizeD_of _ hl32)
      have HCS : Hid ((cellsB x).size = (cellsB (List.replicate 32 0)).size) := Lib.hid (by rw [cellsB_size, hl32]; rfl)
      clear hl32
      go_wp2_with (first | (refine wpList_load_dig rfl (.tmp 10) rfl bv (ov + i * 32) rfl x HX.out hce ?_) | (refine wpList_store_row rfl 23 (.tmp 5) (.tmp 11) rfl wr.heap.size rfl (cellsB x) (cellsB (List.replicate 32 0)) 23 rfl (Row.new wr _ _) HCS.out HSZ.out (cellsB_one _) ?_; intro w3 hg3 hr3 hz3; have hz4 : w3.heap.size = wr.heap.size + 1 := (by simpa using hz3); have hb3 : Below wr.heap.size wr w3 := ((Below.refl _ _).alloc (Nat.le_refl _) _).grown hg3 (by simp) (fun k hk => by cases hk; exact Nat.le_refl _); have ho3 := ho.belowB hb3; have hs3 := hr3.bytes HX.out; have hD3 := hD.below hb3 hD.lt; have hB3 := hb.trans (hb3.mono hb.size); clear hg3 hb3) | (at_builtin; refine wpList_append_bytes rfl (.tmp 12) (.tmp 13) rfl (w.heap.size + 1) _ _ (pfx xs i) x _ rfl ho3 rfl hs3 (by rw [HL.out, HX.out]; omega) (by omega) ?_; intro v6 w6 ho6 hg6))
      have hB6 := hB3.grown hg6 hB3.size (fun k hk => by have := ho3.ownBlock k hk; omega)
      have hD6 := hD3.grown hg6 (fun e => by have := ho3.ownBlock _ e.symm; omega)
      have hz6 : w.heap.size + 1 ≤ w6.heap.size := by have := hg6.size; omega
      rw [← HP.out] at ho6
      go_roundw
      case rel => exact ⟨i + 1, by omega, by go_num, ho6, hD6, hB6, hz6⟩
      case measure => simp [intOf]; omega
    · rw [pfx_all xs i (by rw [HN.out]; omega)] at ho
      have hm := ho.bytes (fun _ => True) fun _ _ => trivial
      have hml : xs.flatten.length ≤ 17592186044416 := by rw [flat_len xs H32.out, HN.out]; omega
      have hKr := hK.below hb hkl
      have HKO : Hid (taggedOf (ByteArray.mk #[119, 111, 116, 115, 112, 117, 98]).data.toList xs.flatten = keyOf xs) := rfl
      clear ho
      go_wp2_with fail
      refine (tagged_any _ _ xs.flatten _ wr (by decide) hm hKr hml).mono ?_
      rintro e w5 ⟨rfl, hb5⟩
      rw [HKO.out]
      have hD5 := hD.below hb5 hD.lt
      have hB5 := hb.trans (hb5.mono hb.size)
      have HSZ := Lib.hid (Tryd.sizeD_of _ (keyOf_len xs))
      have HCS : Hid ((cellsB (keyOf xs)).size = (cellsB (List.replicate 32 0)).size) := Lib.hid (by rw [cellsB_size, keyOf_len]; rfl)
      clear hD hb hb5 hm hml
      go_wp2_with (refine wpList_store_row rfl 23 (.tmp 2) (.tmp 17) rfl w.heap.size rfl (cellsB (keyOf xs)) _ 23 rfl hD5 HCS.out HSZ.out (cellsB_one _) ?_; intro w9 hg9 hr9 hz9)
      refine bodyPost_ret (v := .agg (cellsB (keyOf xs))) (results_cell_row rfl _ _ w.heap.size 23 _ (0, 0) _ rfl hr9 Tryd.underD rfl HSZ.out) rfl ⟨rfl, ?_⟩
      exact hB5.grown hg9 hB5.size (fun k hk => by cases hk; exact Nat.le_refl _)
end Go.Proofs.YthhlfcbkggahmaaDoor

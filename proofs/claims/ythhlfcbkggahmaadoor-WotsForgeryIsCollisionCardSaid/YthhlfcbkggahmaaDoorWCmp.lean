/- crossbarref04.Ints and crossbarref04.Digests: whether two lists are the same. Conditions: the lists are no longer than a million, the digests have 32 bytes. -/
import Derived.Test.YthhlfcbkggahmaaDoorWMem
import Derived.Test.YthhlfcbkggahmaaDoorInv2
namespace Go.Proofs.YthhlfcbkggahmaaDoor
open Go.RowKit
theorem take_step {α : Type} (a b : List α) (z : α) (i : Nat) (ha : i < a.length) (hb : i < b.length) (h : a.take i = b.take i) (he : a.getD i z = b.getD i z) : a.take (i + 1) = b.take (i + 1) := by
  rw [List.getD_eq_getElem?_getD, List.getD_eq_getElem?_getD, List.getElem?_eq_getElem ha, List.getElem?_eq_getElem hb] at he
  rw [List.take_add_one, List.take_add_one, h, List.getElem?_eq_getElem ha, List.getElem?_eq_getElem hb]
  have he2 : a[i] = b[i] := he
  rw [he2]
theorem eqin_digest (x y : List UInt8) (hx : x.length = 32) (hy : y.length = 32) (w : World) : (Op.equalIn 10000 23 (.agg (List.map B8 x).toArray) (.agg (List.map B8 y).toArray)).run Tryd.prog w = .ok (decide (x = y)) w :=
  run_equalIn_bytes w 9998 23 5 32 Tryd.underD Tryd.underU8 Tryd.sizeU8 x y hx hy
theorem ne_of_elem {α : Type} (a b : List α) (z : α) (i : Nat) (he : ¬ a.getD i z = b.getD i z) : ¬ a = b := fun h => he (by rw [h])
theorem all_taken {α : Type} (a b : List α) (i : Nat) (hl : a.length = b.length) (hi : a.length ≤ i) (h : a.take i = b.take i) : a = b := by
  rwa [List.take_of_length_le hi, List.take_of_length_le (by omega)] at h
set_option maxHeartbeats 1000000 in
theorem ints_any (l k : List (Nat)) (u v : Value) (w : World) (hu : Nums w u l) (hv : Nums w v k) (hl : l.length ≤ 1000000) (hk : k.length ≤ 1000000) :
    Calls Tryd.prog 12 #[u, v] w fun e w' => e = .returned (.bool (decide (l = k))) ∧ Below w.heap.size w w' := by
  obtain ⟨a, c, rfl⟩ : ∃ a c, u = .slice a l.length c := by obtain ⟨a, c, h, _⟩ := hu; exact ⟨a, c, h⟩
  obtain ⟨b, e, rfl⟩ : ∃ a c, v = .slice a k.length c := by obtain ⟨a, c, h, _⟩ := hv; exact ⟨a, c, h⟩
  by_cases hlen : l.length = k.length
  · go_enter Tryd.func12, Tryd.ntmps12
    have HL := Lib.hid hlen
    rw [← hlen] at hv ⊢
    clear hlen
    obtain ⟨n, hn⟩ : ∃ n, l.length = n := ⟨_, rfl⟩
    rw [hn] at hu hv hl ⊢
    have HN := Lib.hid hn
    clear hn
    go_wp2
    go_loopw [5] (fun t wr => ∃ i : Nat, i ≤ n ∧ t = .int .i64 (i : Int) ∧ Hid (l.take i = k.take i) ∧ Below w.heap.size w wr ∧ Nums wr (.slice a n c) l ∧ Nums wr (.slice b n e) k) (fun t _ => n - (intOf t).toNat)
    case atStart => exact ⟨0, by omega, rfl, rfl, Below.refl _ _, hu, hv⟩
    case round =>
      clear hu hv
      obtain ⟨i, hi, rfl, ht, hb, hu, hv⟩ := hrel
      by_cases hlt : i < n
      · obtain ⟨bu, ou, rfl, -, hu1, hu2, cu⟩ := hu.at (by omega)
        obtain ⟨bv, ov, rfl, -, hv1, hv2, cv⟩ := hv.at (by omega)
        have hil : i < l.length := by rw [HN.out]; exact hlt
        have hik : i < k.length := by rw [← HL.out]; exact hil
        obtain ⟨w2, ew⟩ : ∃ w2, wr.drew = w2 := ⟨_, rfl⟩
        have hb2 : Below w.heap.size w w2 := by rw [← ew]; exact hb.drew
        have hub : Nums w2 (.slice (some ⟨bu, ou, none⟩) n c) l := by rw [← ew]; exact hu.later (Below.refl _ _).drew
        have hvb : Nums w2 (.slice (some ⟨bv, ov, none⟩) n e) k := by rw [← ew]; exact hv.later (Below.refl _ _).drew
        have c1 : w2.cell? ⟨bu, ou + i, none⟩ = some (.int .i64 (l.getD i 0 : Nat)) := by rw [← ew]; exact cu i hil
        have c2 : w2.cell? ⟨bv, ov + i, none⟩ = some (.int .i64 (k.getD i 0 : Nat)) := by rw [← ew]; exact cv i hik
        clear cu cv hu hv
        by_cases he : l.getD i 0 = k.getD i 0
        · have HT : Hid (l.take (i + 1) = k.take (i + 1)) := take_step l k 0 i hil hik ht.out he
          clear ht
          rw [← he] at c2
          generalize l.getD i 0 = x at *
          clear he
          go_wp2
          refine wp_region_still_tail 8 (by kernel_rfl) (by kernel_rfl) ?_
          simp only [List.take_succ_cons, List.take_zero, List.drop_succ_cons, List.drop_zero]
          change wpStill _ _ wr.drew (fun a' => wpList _ _ _ _ a' wr.drew) _ _
          rw [ew]
          clear ew
          repeat still_step
          refine wpStill_nil ?_
          go_wp2
          go_roundw
          case rel => exact ⟨i + 1, by omega, by go_num, HT, hb2, hub, hvb⟩
          case measure => simp [intOf]; omega
        · have HE : Hid (¬ l = k) := ne_of_elem l k 0 i he
          generalize l.getD i 0 = x at *
          generalize k.getD i 0 = y at *
          go_wp2
          refine wp_region_still_tail 8 (by kernel_rfl) (by kernel_rfl) ?_
          simp only [List.take_succ_cons, List.take_zero, List.drop_succ_cons, List.drop_zero]
          change wpStill _ _ wr.drew (fun a' => wpList _ _ _ _ a' wr.drew) _ _
          rw [ew]
          clear ew
          repeat still_step
          refine wpStill_nil ?_
          go_wp2
          go_ret
          exact ⟨by rw [decide_eq_false HE.out]; rfl, hb2⟩
      · have HE : Hid (l = k) := all_taken l k i HL.out (by rw [HN.out]; omega) ht.out
        go_wp2
        go_ret
        exact ⟨by rw [decide_eq_true HE.out]; rfl, hb⟩
  · go_enter Tryd.func12, Tryd.ntmps12
    have HE : Hid (¬ l = k) := fun h => hlen (by rw [h])
    go_wp2
    go_ret
    exact ⟨by rw [decide_eq_false HE.out]; rfl, Below.refl _ _⟩
set_option maxHeartbeats 1000000 in
theorem rdigests_any (l k : List (List UInt8)) (u v : Value) (w : World) (hu : Digs w u l) (hv : Digs w v k) (hl : l.length ≤ 1000000) (hk : k.length ≤ 1000000) (h1 : all32 l) (h2 : all32 k) :
    Calls Tryd.prog 19 #[u, v] w fun e w' => e = .returned (.bool (decide (l = k))) ∧ Below w.heap.size w w' := by
  obtain ⟨a, c, rfl⟩ : ∃ a c, u = .slice a l.length c := by obtain ⟨a, c, h, _⟩ := hu; exact ⟨a, c, h⟩
  obtain ⟨b, e, rfl⟩ : ∃ a c, v = .slice a k.length c := by obtain ⟨a, c, h, _⟩ := hv; exact ⟨a, c, h⟩
  by_cases hlen : l.length = k.length
  · go_enter Tryd.func19, Tryd.ntmps19
    have HL := Lib.hid hlen
    rw [← hlen] at hv ⊢
    clear hlen
    obtain ⟨n, hn⟩ : ∃ n, l.length = n := ⟨_, rfl⟩
    rw [hn] at hu hv hl ⊢
    have HN := Lib.hid hn
    clear hn
    go_wp2
    go_loopw [5] (fun t wr => ∃ i : Nat, i ≤ n ∧ t = .int .i64 (i : Int) ∧ Hid (l.take i = k.take i) ∧ Below w.heap.size w wr ∧ Digs wr (.slice a n c) l ∧ Digs wr (.slice b n e) k) (fun t _ => n - (intOf t).toNat)
    case atStart => exact ⟨0, by omega, rfl, rfl, Below.refl _ _, hu, hv⟩
    case round =>
      clear hu hv
      obtain ⟨i, hi, rfl, ht, hb, hu, hv⟩ := hrel
      by_cases hlt : i < n
      · obtain ⟨bu, ou, rfl, -, hu1, hu2, cu⟩ := hu.at (by omega)
        obtain ⟨bv, ov, rfl, -, hv1, hv2, cv⟩ := hv.at (by omega)
        have hil : i < l.length := by rw [HN.out]; exact hlt
        have hik : i < k.length := by rw [← HL.out]; exact hil
        obtain ⟨w2, ew⟩ : ∃ w2, wr.drew = w2 := ⟨_, rfl⟩
        have hb2 : Below w.heap.size w w2 := by rw [← ew]; exact hb.drew
        have hub : Digs w2 (.slice (some ⟨bu, ou, none⟩) n c) l := by rw [← ew]; exact hu.later (Below.refl _ _).drew
        have hvb : Digs w2 (.slice (some ⟨bv, ov, none⟩) n e) k := by rw [← ew]; exact hv.later (Below.refl _ _).drew
        have c1 : w2.rangeAt bu (ou + i * 32) ((l.getD i []).map B8) := by rw [← ew]; exact cu.elem h1 i hil
        have c2 : w2.rangeAt bv (ov + i * 32) ((k.getD i []).map B8) := by rw [← ew]; exact cv.elem h2 i hik
        have l1 := all32_getD h1 i hil
        have l2 := all32_getD h2 i hik
        clear cu cv hu hv
        by_cases he : l.getD i [] = k.getD i []
        · have HT : Hid (l.take (i + 1) = k.take (i + 1)) := take_step l k [] i hil hik ht.out he
          clear ht
          rw [← he] at c2 l2
          generalize l.getD i [] = x at *
          clear he
          go_wp2
          refine wp_region_still_tail 8 (by kernel_rfl) (by kernel_rfl) ?_
          simp only [List.take_succ_cons, List.take_zero, List.drop_succ_cons, List.drop_zero]
          change wpStill _ _ wr.drew (fun a' => wpList _ _ _ _ a' wr.drew) _ _
          rw [ew]
          clear ew
          have L1 := Lib.hid l1
          have L2 := Lib.hid l2
          have hq := eqin_digest x x l1 l2 w2
          rw [decide_eq_true rfl] at hq
          repeat (first | (refine still_load_mid rfl 23 (.tmp 19) rfl bu (ou + i * 32) rfl _ _ c1 Tryd.underD rfl (by rw [List.length_map, L1.out]; exact Tryd.sizeD) ?_) | (refine still_load_mid rfl 23 (.tmp 23) rfl bv (ov + i * 32) rfl _ _ c2 Tryd.underD rfl (by rw [List.length_map, L2.out]; exact Tryd.sizeD) ?_) | still_step)
          refine wpStill_nil ?_
          go_wp2
          go_roundw
          case rel => exact ⟨i + 1, by omega, by go_num, HT, hb2, hub, hvb⟩
          case measure => simp [intOf]; omega
        · have HE : Hid (¬ l = k) := ne_of_elem l k [] i he
          generalize l.getD i [] = x at *
          generalize k.getD i [] = y at *
          go_wp2
          refine wp_region_still_tail 8 (by kernel_rfl) (by kernel_rfl) ?_
          simp only [List.take_succ_cons, List.take_zero, List.drop_succ_cons, List.drop_zero]
          change wpStill _ _ wr.drew (fun a' => wpList _ _ _ _ a' wr.drew) _ _
          rw [ew]
          clear ew
          have L1 := Lib.hid l1
          have L2 := Lib.hid l2
          have hq := eqin_digest x y l1 l2 w2
          rw [decide_eq_false he] at hq
          repeat (first | (refine still_load_mid rfl 23 (.tmp 19) rfl bu (ou + i * 32) rfl _ _ c1 Tryd.underD rfl (by rw [List.length_map, L1.out]; exact Tryd.sizeD) ?_) | (refine still_load_mid rfl 23 (.tmp 23) rfl bv (ov + i * 32) rfl _ _ c2 Tryd.underD rfl (by rw [List.length_map, L2.out]; exact Tryd.sizeD) ?_) | still_step)
          refine wpStill_nil ?_
          go_wp2
          go_ret
          exact ⟨by rw [decide_eq_false HE.out]; rfl, hb2⟩
      · have HE : Hid (l = k) := all_taken l k i HL.out (by rw [HN.out]; omega) ht.out
        go_wp2
        go_ret
        exact ⟨by rw [decide_eq_true HE.out]; rfl, hb⟩
  · go_enter Tryd.func19, Tryd.ntmps19
    have HE : Hid (¬ l = k) := fun h => hlen (by rw [h])
    go_wp2
    go_ret
    exact ⟨by rw [decide_eq_false HE.out]; rfl, Below.refl _ _⟩
end Go.Proofs.YthhlfcbkggahmaaDoor

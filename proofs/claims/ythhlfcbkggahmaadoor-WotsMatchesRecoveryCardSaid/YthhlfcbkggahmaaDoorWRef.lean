/- crossbarref04.valid and Public. Conditions: the tables lie in their variables. -/
import Derived.Test.YthhlfcbkggahmaaDoorWPub
import Derived.Test.YthhlfcbkggahmaaDoorWNibR
import Derived.Test.YthhlfcbkggahmaaDoorWKeyR
import Derived.Test.YthhlfcbkggahmaaDoorRefChain
import Derived.Test.YthhlfcbkggahmaaDoorInv2
import Derived.Test.YthhlfcbkggahmaaDoorWBuild
namespace Go.Proofs.YthhlfcbkggahmaaDoor
open Go.RowKit
set_option maxHeartbeats 1000000 in
theorem rvalid_any (seed : List UInt8) (v : Value) (idx : Int) (w : World) (hv : Bytes w v seed (fun _ => True)) :
    Calls Tryd.prog 31 #[v, .int .i64 idx] w fun e w' => e = .returned (.bool (okSeed seed idx)) ∧ w' = w := by
  obtain ⟨av, kv, rfl⟩ : ∃ a c, v = .slice a seed.length c := by obtain ⟨a, c, h, _⟩ := hv; exact ⟨a, c, h⟩
  have hok : okSeed seed idx = (decide (1 ≤ (seed.length : Int)) && decide ((seed.length : Int) ≤ 64) && decide (0 ≤ idx) && decide (idx ≤ 1023)) := by
    unfold okSeed
    congr 3
    · exact decide_eq_decide.2 (by omega)
    · exact decide_eq_decide.2 (by omega)
  have HOK := Lib.hid hok
  clear hv hok
  generalize okSeed seed idx = r at *
  by_cases h1 : 1 ≤ (seed.length : Int)
  · by_cases h2 : (seed.length : Int) ≤ 64
    · by_cases h3 : 0 ≤ idx
      · by_cases h4 : idx ≤ 1023
        · rw [decide_eq_true h1, decide_eq_true h2, decide_eq_true h3, decide_eq_true h4] at HOK
          go_enter Tryd.func31, Tryd.ntmps31
          go_wp2
          go_ret
          exact ⟨by rw [HOK.out]; rfl, rfl⟩
        · rw [decide_eq_true h1, decide_eq_true h2, decide_eq_true h3, decide_eq_false h4] at HOK
          go_enter Tryd.func31, Tryd.ntmps31
          go_wp2
          go_ret
          exact ⟨by rw [HOK.out]; rfl, rfl⟩
      · rw [decide_eq_true h1, decide_eq_true h2, decide_eq_false h3] at HOK
        go_enter Tryd.func31, Tryd.ntmps31
        go_wp2
        go_ret
        exact ⟨by rw [HOK.out]; rfl, rfl⟩
    · rw [decide_eq_true h1, decide_eq_false h2] at HOK
      go_enter Tryd.func31, Tryd.ntmps31
      go_wp2
      go_ret
      exact ⟨by rw [HOK.out]; rfl, rfl⟩
  · rw [decide_eq_false h1] at HOK
    go_enter Tryd.func31, Tryd.ntmps31
    go_wp2
    go_ret
    exact ⟨by rw [HOK.out]; rfl, rfl⟩
def tabN (f : Nat → List UInt8) (i : Nat) : List (List UInt8) := (List.range i).map f
theorem tabN_succ (f : Nat → List UInt8) (i : Nat) : tabN f (i + 1) = tabN f i ++ [f i] := by unfold tabN; rw [List.range_succ]; simp
theorem tabN_len (f : Nat → List UInt8) (i : Nat) : (tabN f i).length = i := by simp [tabN]
set_option maxRecDepth 10000 in
set_option maxHeartbeats 2000000 in
theorem rpublic_any (seed : List UInt8) (v : Value) (idx : Int) (w : World) (hv : Bytes w v seed (fun _ => True)) (hK : RKFact w) (hI : RIFact w) :
    Calls Tryd.prog 16 #[v, .int .i64 idx] w fun e w' => e = .returned (.tuple #[.agg (cellsB (pubR seed idx)), .int .i64 (errR seed idx : Nat)]) ∧ Below w.heap.size w w' := by
  have hkl := hK.lt
  have hil := hI.lt
  obtain ⟨av, kv, rfl⟩ : ∃ a c, v = .slice a seed.length c := by obtain ⟨a, c, h, _⟩ := hv; exact ⟨a, c, h⟩
  have hb0 : Below w.heap.size w (w.alloc (.cells (cellsB (List.replicate 32 0)) 23)) := (Below.refl _ _).alloc (Nat.le_refl _) _
  have hD0 : Row (w.alloc (.cells (cellsB (List.replicate 32 0)) 23)) w.heap.size 23 (cellsB (List.replicate 32 0)) := Row.new w _ _
  have hz0 : w.heap.size + 1 ≤ (w.alloc (.cells (cellsB (List.replicate 32 0)) 23)).heap.size := by simp
  have hv0 := (hv.later hb0).imp (ok' := fun _ => True) fun _ _ => trivial
  go_enter Tryd.func16, Tryd.ntmps16
  go_wp2_with fail
  refine (rvalid_any seed _ idx _ hv0).mono ?_
  rintro e w1 ⟨rfl, rfl⟩
  cases hc : okSeed seed idx with
  | false =>
    have HE := Lib.hid (errR_bad hc)
    have HP : Hid (pubR seed idx = zeroD) := by show _ = _; unfold pubR; rw [if_neg (by rw [hc]; decide)]
    have HSZ := Lib.hid (Tryd.sizeD_of zeroD rfl)
    have HCS : Hid ((cellsB zeroD).size = (cellsB (List.replicate 32 0)).size) := rfl
    clear hc
    go_wp2_with (refine wpList_store_row rfl 23 (.tmp 4) (.tmp 12) rfl w.heap.size rfl (cellsB zeroD) _ 23 rfl hD0 HCS.out HSZ.out (cellsB_one _) ?_; intro w9 hg9 hr9 hz9)
    refine bodyPost_ret (results_cell_row_tmp rfl _ _ w.heap.size 23 (cellsB zeroD) (0, 0) _ rfl hr9 Tryd.underD rfl HSZ.out) rfl ⟨by rw [HP.out, HE.out]; rfl, ?_⟩
    exact hb0.grown hg9 hb0.size (fun k hk => by cases hk; exact Nat.le_refl _)
  | true =>
    have HE := Lib.hid (errR_ok hc)
    have HP : Hid (pubR seed idx = pubOf seed idx.toNat) := by show _ = _; unfold pubR; rw [if_pos hc]
    obtain ⟨h1, h2, h3, h4⟩ := (okSeed_iff seed idx).1 hc
    clear hc
    obtain ⟨n, en⟩ : ∃ n, idx.toNat = n := ⟨_, rfl⟩
    obtain rfl : idx = (n : Int) := by omega
    have hn : n ≤ 1023 := by omega
    rw [en] at HP
    have HF : Hid (pubOf seed n = keyOf (tabN (fun i => chainOf (startOf seed n i) 15) 18)) := rfl
    have HL1 : Hid (∀ i, (chainOf (startOf seed n i) 15).length = 32) := fun i => chainOf_len _ (startOf_len _ _ _) _
    have HST : Hid (∀ i, tabN (fun i => chainOf (startOf seed n i) 15) (i + 1) = tabN (fun i => chainOf (startOf seed n i) 15) i ++ [chainOf (startOf seed n i) 15]) := fun i => tabN_succ _ i
    have HTL : Hid (∀ i, (tabN (fun i => chainOf (startOf seed n i) 15) i).length = i) := fun i => tabN_len _ i
    have HT32 : Hid (all32 (tabN (fun i => chainOf (startOf seed n i) 15) 18)) := all32_range fun i _ => chainOf_len _ (startOf_len _ _ _) _
    generalize tabN (fun i => chainOf (startOf seed n i) 15) = xs at *
    clear en h3 h4
    go_wp2
    go_loopw [7, 6] (fun t r wr => ∃ i : Nat, i ≤ 18 ∧ t = .int .i64 (i : Int) ∧ OwnD wr (w.heap.size + 1) r (xs i) ∧ Below w.heap.size w wr ∧ w.heap.size + 1 ≤ wr.heap.size ∧ Row wr w.heap.size 23 (cellsB (List.replicate 32 0))) (fun t _ _ => 18 - (intOf t).toNat)
    case atStart =>
      have h0 : xs 0 = [] := List.eq_nil_of_length_eq_zero (HTL.out 0)
      exact ⟨0, by omega, rfl, by rw [h0]; exact OwnD.nil _ _, hb0, hz0, hD0⟩
    case round =>
      clear hb0 hD0 hz0 hv0
      obtain ⟨i, hi, rfl, ho, hb, hz, hD⟩ := hrel
      by_cases hlt : i < 18
      · have hvr := (hv.later hb).imp (ok' := fun _ => True) fun _ _ => trivial
        go_wp2_with fail
        refine (rstart_any seed _ n i wr hvr (by omega) hn hlt (hK.below hb hkl) (hI.below hb hil)).mono ?_
        rintro e w2 ⟨rfl, hb2⟩
        have hB2 := hb.trans (hb2.mono hb.size)
        have ho2 := ho.below hb2
        have hD2 := hD.below hb2 hD.lt
        have hz2 := Nat.le_trans hz hb2.size
        clear ho hD hvr hb2
        go_wp2_with fail
        refine (rchain_any (startOf seed n i) 15 w2 (startOf_len _ _ _) (by decide) (by decide) (hK.below hB2 hkl) (hI.below hB2 hil)).mono ?_
        rintro e w3 ⟨rfl, hb3⟩
        have hB3 := hB2.trans (hb3.mono hB2.size)
        have ho3 := ho2.below hb3
        have hD3 := hD2.below hb3 hD2.lt
        have hz3 := Nat.le_trans hz2 hb3.size
        have HY : Hid (xs (i + 1) = xs i ++ [chainOf (startOf seed n i) (15 : Int).toNat]) := HST.out i
        have hyl : (chainOf (startOf seed n i) (15 : Int).toNat).length = 32 := HL1.out i
        generalize chainOf (startOf seed n i) (15 : Int).toNat = y at *
        have HYL := Lib.hid hyl
        clear ho2 hD2 hb3 hyl
        go_wp2_with (first | (refine wpList_build_dig rfl (.tmp 22) rfl y rfl HYL.out ?_; intro w4 hr4 hb4 hz4; have ho4 := ho3.below hb4; have hD4 := hD3.below hb4 hD3.lt; have hB4 := hB3.trans (hb4.mono hB3.size)) | (at_builtin; refine wpList_append_dig rfl (.tmp 17) (.tmp 23) rfl (w.heap.size + 1) _ (xs i) y w3.heap.size 23 rfl ho4 rfl hr4 HYL.out (by rw [HTL.out]; omega) (by omega) ?_; intro v6 w6 ho6 hg6))
        have hB6 := hB4.grown hg6 hB4.size (fun k hk => by have := ho4.ownBlock k hk; omega)
        have hD6 := hD4.grown hg6 (fun e => by have := ho4.ownBlock _ e.symm; omega)
        have hz6 : w.heap.size + 1 ≤ w6.heap.size := by have := hg6.size; omega
        rw [← HY.out] at ho6
        go_roundw
        case rel => exact ⟨i + 1, by omega, by go_num, ho6, hB6, hz6, hD6⟩
        case measure => simp [intOf]; omega
      · obtain rfl : i = 18 := by omega
        have hxl := HTL.out 18
        have hdg := ho.digs
        clear ho
        obtain ⟨ys, hys⟩ : ∃ ys, xs 18 = ys := ⟨_, rfl⟩
        rw [hys] at hdg hxl HT32 HF
        go_wp2_with fail
        refine (rkey_any ys _ wr hdg HT32.out (by omega) (hK.below hb hkl) (hI.below hb hil)).mono ?_
        rintro e w3 ⟨rfl, hb3⟩
        have hB3 := hb.trans (hb3.mono hb.size)
        have hD3 := hD.below hb3 hD.lt
        have HSZ := Lib.hid (Tryd.sizeD_of _ (keyOf_len ys))
        have HCS : Hid ((cellsB (keyOf ys)).size = (cellsB (List.replicate 32 0)).size) := Lib.hid (by rw [cellsB_size, keyOf_len]; rfl)
        clear hb hD hb3 hdg hxl hys
        go_wp2_with (refine wpList_store_row rfl 23 (.tmp 4) (.tmp 26) rfl w.heap.size rfl (cellsB (keyOf ys)) _ 23 rfl hD3 HCS.out HSZ.out (cellsB_one _) ?_; intro w9 hg9 hr9 hz9)
        refine bodyPost_ret (results_cell_row_tmp rfl _ _ w.heap.size 23 (cellsB (keyOf ys)) (0, 0) _ rfl hr9 Tryd.underD rfl HSZ.out) rfl ⟨by rw [HP.out, HF.out, HE.out]; rfl, ?_⟩
        exact hB3.grown hg9 hB3.size (fun k hk => by cases hk; exact Nat.le_refl _)
end Go.Proofs.YthhlfcbkggahmaaDoor

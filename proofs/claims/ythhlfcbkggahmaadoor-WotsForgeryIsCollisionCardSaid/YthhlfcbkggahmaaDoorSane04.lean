/- crossbarlaw04's filled and sane. Conditions: the constants lie in their variable. -/
import Derived.Test.YthhlfcbkggahmaaDoorWVer
import Derived.Test.YthhlfcbkggahmaaDoorWNib
namespace Go.Proofs.YthhlfcbkggahmaaDoor
open Go.RowKit
def fRow (c : UInt8) (i : Nat) : List UInt8 := List.replicate i c ++ List.replicate (32 - i) 0
theorem fRow_len (c : UInt8) (i : Nat) (h : i ≤ 32) : (fRow c i).length = 32 := by unfold fRow; simp; omega
theorem fRow_set (c : UInt8) (i : Nat) (h : i < 32) : (fRow c i).set i c = fRow c (i + 1) := by
  unfold fRow
  rw [List.set_append_right _ _ (by simp)]
  simp only [List.length_replicate, Nat.sub_self]
  rw [show 32 - i = (32 - (i + 1)) + 1 by omega, List.replicate_succ, List.set_cons_zero, List.replicate_succ', List.append_assoc]
  rfl
def fillOf (c : UInt8) : List UInt8 := fRow c 32
set_option maxRecDepth 10000 in
set_option maxHeartbeats 1000000 in
theorem filled_any (c : UInt8) (w : World) : Calls Tryd.prog 27 #[.int .u8 (Y c)] w fun e w' => e = .returned (.agg (cellsB (fillOf c))) ∧ Below w.heap.size w w' := by
  have hb0 : Below w.heap.size w ((w.alloc (.cells (cellsB (List.replicate 32 0)) 23)).alloc (.cells (cellsB (fRow c 0)) 23)) := ((Below.refl _ _).alloc (Nat.le_refl _) _).alloc (by simp) _
  have hD0 : Row ((w.alloc (.cells (cellsB (List.replicate 32 0)) 23)).alloc (.cells (cellsB (fRow c 0)) 23)) w.heap.size 23 (cellsB (List.replicate 32 0)) := (Row.new w _ _).alloc _
  have hn0 : Row ((w.alloc (.cells (cellsB (List.replicate 32 0)) 23)).alloc (.cells (cellsB (fRow c 0)) 23)) (w.heap.size + 1) 23 (cellsB (fRow c 0)) := by
    have h := Row.new (w.alloc (.cells (cellsB (List.replicate 32 0)) 23)) (cellsB (fRow c 0)) 23
    rwa [show (w.alloc (.cells (cellsB (List.replicate 32 0)) 23)).heap.size = w.heap.size + 1 by simp] at h
  go_enter Tryd.func27, Tryd.ntmps27
  go_wp2
  go_loopw [4] (fun t wr => ∃ i : Nat, i ≤ 32 ∧ t = .int .i64 (i : Int) ∧ Below w.heap.size w wr ∧ Row wr w.heap.size 23 (cellsB (List.replicate 32 0)) ∧ Row wr (w.heap.size + 1) 23 (cellsB (fRow c i))) (fun t _ => 32 - (intOf t).toNat)
  case atStart => exact ⟨0, by omega, rfl, hb0, hD0, hn0⟩
  case round =>
    clear hb0 hD0 hn0
    obtain ⟨i, hi, rfl, hb, hD, hn⟩ := hrel
    by_cases hlt : i < 32
    · have f2 := hn.free i
      have c2 := hn.byte i (by rw [fRow_len c i hi]; exact hlt)
      have hset := hn.setB i c
      rw [fRow_set c i hlt] at hset
      go_wp2
      go_roundw
      case rel => exact ⟨i + 1, by omega, by go_num, hb.setCell (by simp) _, hD.other _ _ (by simp), hset⟩
      case measure => simp [intOf]; omega
    · obtain rfl : i = 32 := by omega
      have hfl : (fillOf c).length = 32 := fRow_len c 32 (by decide)
      have hn' : Row wr (w.heap.size + 1) 23 (cellsB (fillOf c)) := hn
      clear hn
      have HSZ := Lib.hid (Tryd.sizeD_of _ hfl)
      have HCS : Hid ((cellsB (fillOf c)).size = (cellsB (List.replicate 32 0)).size) := Lib.hid (by rw [cellsB_size, hfl]; rfl)
      clear hfl
      obtain ⟨l, hl⟩ : ∃ l, fillOf c = l := ⟨_, rfl⟩
      rw [hl] at hn' HSZ HCS
      have HLE := Lib.hid hl
      clear hl
      go_wp2_with (first | (refine wpList_load_row rfl 23 (.tmp 3) rfl (w.heap.size + 1) rfl 23 (cellsB l) (0, 0) _ hn' Tryd.underD rfl HSZ.out ?_) | (refine wpList_store_row rfl 23 (.tmp 2) (.tmp 12) rfl w.heap.size rfl (cellsB l) _ 23 rfl hD HCS.out HSZ.out (cellsB_one _) ?_; intro w9 hg9 hr9 hz9))
      refine bodyPost_ret (v := .agg (cellsB l)) (results_cell_row rfl _ _ w.heap.size 23 (cellsB l) (0, 0) _ rfl hr9 Tryd.underD rfl HSZ.out) rfl ⟨by rw [HLE.out], ?_⟩
      exact hb.grown hg9 hb.size (fun k hk => by cases hk; exact Nat.le_refl _)
theorem fillOf_len (c : UInt8) : (fillOf c).length = 32 := fRow_len c 32 (by decide)
theorem ver_sign {seed : List UInt8} {idx : Int} (d : List UInt8) (h : okSeed seed idx = true) : verB (pubR seed idx) d (signR seed idx d) = true := by
  have hs : signR seed idx d = signOf seed idx.toNat d := by unfold signR walkR; rw [if_pos h]; rfl
  have hl : (signOf seed idx.toNat d).length = 18 := walkOf_len _ _ _
  unfold verB errS recR pubR
  rw [hs, if_pos h, if_pos hl, if_pos hl, rec_sign]
  simp
theorem Nums.cells {w : World} {v : Value} {l : List Nat} (h : Nums w v l) (hl : l.length = 18) : ∃ b o c, v = .slice (some ⟨b, o, none⟩) 18 c ∧ 18 ≤ c ∧ c ≤ 9223372036854775807 ∧ b < w.heap.size ∧ ∀ i, i < 18 → w.cell? ⟨b, o + i, none⟩ = some (.int .i64 (l.getD i 0 : Nat)) := by
  obtain ⟨a, c, rfl⟩ : ∃ a c, v = .slice a l.length c := by obtain ⟨a, c, h, _⟩ := h; exact ⟨a, c, h⟩
  rw [hl] at h ⊢
  obtain ⟨b, o, rfl, -, h1, h2, hat⟩ := h.at (by decide)
  exact ⟨b, o, c, rfl, h1, h2, block_lt_of_cell (hat 0 (by rw [hl]; decide)), fun i hi => hat i (by rw [hl]; exact hi)⟩
set_option maxRecDepth 100000 in
set_option maxHeartbeats 4000000 in
theorem sane_any (w : World) (hK : KFact w) : Calls Tryd.prog 11 #[] w fun e w' => e = .returned (.bool true) ∧ Below w.heap.size w w' := by
  have hkl := hK.lt
  go_enter Tryd.func11, Tryd.ntmps11
  generalize hRR : Code.region 8 _ _ = RR
  go_wp2_with fail
  refine (nibbles_any zeroD w rfl).mono ?_
  rintro e w1 ⟨u1, rfl, hu1, hb1⟩
  obtain ⟨a1, o1, k1, rfl, hk11, hk12, hbl1, hc1⟩ := hu1.cells (nibs_len _)
  clear hu1
  go_wp2_with fail
  refine (filled_any 255 w1).mono ?_
  rintro e w2 ⟨rfl, hb2⟩
  go_wp2_with fail
  refine (nibbles_any (fillOf 255) w2 (fillOf_len _)).mono ?_
  rintro e w3 ⟨u3, rfl, hu3, hb3⟩
  obtain ⟨a3, o3, k3, rfl, hk31, hk32, hbl3, hc3⟩ := hu3.cells (nibs_len _)
  clear hu3
  have hb13 : Below w1.heap.size w1 w3 := hb2.trans (hb3.mono hb2.size)
  have hB3 : Below w.heap.size w w3 := hb1.trans (hb13.mono hb1.size)
  have g10 : w3.cell? ⟨a1, o1, none⟩ = some (.int .i64 0) := (hb13.cell (p := ⟨a1, o1, none⟩) hbl1).trans (hc1 0 (by decide))
  have g11 : w3.cell? ⟨a1, o1 + 15, none⟩ = some (.int .i64 0) := (hb13.cell (p := ⟨a1, o1 + 15, none⟩) hbl1).trans (hc1 15 (by decide))
  have g12 : w3.cell? ⟨a1, o1 + 16, none⟩ = some (.int .i64 15) := (hb13.cell (p := ⟨a1, o1 + 16, none⟩) hbl1).trans (hc1 16 (by decide))
  have g13 : w3.cell? ⟨a1, o1 + 17, none⟩ = some (.int .i64 0) := (hb13.cell (p := ⟨a1, o1 + 17, none⟩) hbl1).trans (hc1 17 (by decide))
  have g30 : w3.cell? ⟨a3, o3, none⟩ = some (.int .i64 15) := hc3 0 (by decide)
  have g31 : w3.cell? ⟨a3, o3 + 15, none⟩ = some (.int .i64 15) := hc3 15 (by decide)
  have g32 : w3.cell? ⟨a3, o3 + 16, none⟩ = some (.int .i64 0) := hc3 16 (by decide)
  have g33 : w3.cell? ⟨a3, o3 + 17, none⟩ = some (.int .i64 0) := hc3 17 (by decide)
  clear hc1 hc3 hb13 hb1 hb2 hb3 hbl1 hbl3
  have hK3 := hK.below hB3 hkl
  have hone : Bytes (w3.alloc (.cells #[.int .u8 1] 5)) (.slice (some ⟨w3.heap.size, 0, none⟩) 1 1) [1] (fun _ => True) := one_byte w3 1 1 rfl
  have hb4 : Below w3.heap.size w3 (w3.alloc (.cells #[.int .u8 1] 5)) := (Below.refl _ _).alloc (Nat.le_refl _) _
  go_wp2_with fail
  refine (public_any [1] _ 2 _ hone (hK3.below hb4 hK3.lt)).mono ?_
  rintro e w5 ⟨rfl, hb5⟩
  have hB5 := hB3.trans ((hb4.trans (hb5.mono hb4.size)).mono hB3.size)
  clear g10 g11 g12 g13 g30 g31 g32 g33 hone hb4 hb5 hk11 hk12 hk31 hk32 hK3 hB3
  have hok : okSeed [1] 2 = true := by decide
  have hpl := pubR_len [1] 2
  have HV := Lib.hid (ver_sign (fillOf 7) hok)
  have HSG := Lib.hid (show (signR [1] 2 (fillOf 7)).length = 18 by unfold signR walkR; rw [if_pos hok]; exact walkOf_len _ _ _)
  have HS32 : Hid (all32 (signR [1] 2 (fillOf 7))) := walkR_32 _ _ _
  rw [errR_ok hok]
  obtain ⟨x, hx⟩ : ∃ x, pubR [1] 2 = x := ⟨_, rfl⟩
  rw [hx] at hpl HV ⊢
  have HX := Lib.hid hpl
  have HSX := Lib.hid (Tryd.sizeD_of x hpl)
  have HCX : Hid ((cellsB x).size = (cellsB (List.replicate 32 0)).size) := Lib.hid (by rw [cellsB_size, hpl]; rfl)
  have HE := Lib.hid (errR_ok hok)
  clear hx hpl hok
  go_wp2_with (refine wpList_store_row rfl 23 (.tmp 3) (.tmp 72) rfl w5.heap.size rfl (cellsB x) (cellsB (List.replicate 32 0)) 23 rfl (Row.new w5 _ _) HCX.out HSX.out (cellsB_one _) ?_; intro w6 hg6 hr6 hz6; clear hz6)
  have hb6 : Below w5.heap.size w5 w6 := ((Below.refl _ _).alloc (Nat.le_refl _) _).grown hg6 (by simp) (fun k hk => by cases hk; exact Nat.le_refl _)
  have hB6 := hB5.trans (hb6.mono hB5.size)
  clear hg6
  have hone7 : Bytes (w6.alloc (.cells #[.int .u8 1] 5)) (.slice (some ⟨w6.heap.size, 0, none⟩) 1 1) [1] (fun _ => True) := one_byte w6 1 1 rfl
  have hb7 : Below w6.heap.size w6 (w6.alloc (.cells #[.int .u8 1] 5)) := (Below.refl _ _).alloc (Nat.le_refl _) _
  refine (filled_any 7 _).mono ?_
  rintro e w8 ⟨rfl, hb8⟩
  have hb68 := hb7.trans (hb8.mono hb7.size)
  have hone8 := (hone7.later hb8).imp (ok' := fun _ => True) fun _ _ => trivial
  have hB8 := hB6.trans (hb68.mono hB6.size)
  have hr8 := hr6.below hb68 hr6.lt
  have hK8 := hK.below hB8 hkl
  have HF7 := Lib.hid (fillOf_len 7)
  clear hone7 hb7 hb8 hb68 hr6 hB6 hb6
  obtain ⟨f7, hf7⟩ : ∃ f7, fillOf 7 = f7 := ⟨_, rfl⟩
  have HF7E := Lib.hid hf7
  rw [hf7] at HV HSG HS32 HF7 ⊢
  clear hf7
  go_wp2_with fail
  refine (sign_any [1] f7 _ 2 w8 hone8 HF7.out hK8).mono ?_
  rintro e w9 ⟨sg, rfl, hsg, hb9⟩
  rw [HE.out]
  have hB9 := hB8.trans (hb9.mono hB8.size)
  have hr9 := hr8.below hb9 hr8.lt
  have hK9 := hK8.below hb9 hK8.lt
  generalize signR [1] 2 f7 = sl at *
  obtain ⟨sgb, ks, hse⟩ := hsg.form
  rw [HSG.out] at hse
  subst hse
  clear hone8 hB8 hr8 hK8 hb9
  go_wp2_with fail
  have hnil : Bytes w9 (.slice none 0 0) [] (fun _ => True) := ⟨none, 0, rfl, Nat.le_refl _, by decide, .inl ⟨rfl, fun _ => rfl⟩⟩
  refine (public_any [] _ 0 w9 hnil hK9).mono ?_
  rintro e w10 ⟨rfl, hb10⟩
  have hB10 := hB9.trans (hb10.mono hB9.size)
  have hr10 := hr9.below hb10 hr9.lt
  have hsg10 := hsg.later hb10
  have hK10 := hK9.below hb10 hK9.lt
  rw [errR_bad (show okSeed [] 0 = false by decide)]
  have hpl := pubR_len [] 0
  generalize pubR [] 0 = z at *
  have HSZ := Lib.hid (Tryd.sizeD_of z hpl)
  have HCZ : Hid ((cellsB z).size = (cellsB (List.replicate 32 0)).size) := Lib.hid (by rw [cellsB_size, hpl]; rfl)
  clear hnil hB9 hr9 hsg hK9 hb10 hpl
  go_wp2_with (refine wpList_store_row rfl 23 (.tmp 7) (.tmp 82) rfl w10.heap.size rfl (cellsB z) (cellsB (List.replicate 32 0)) 23 rfl (Row.new w10 _ _) HCZ.out HSZ.out (cellsB_one _) ?_; intro w0 hg0 hr0 hz0; clear hz0)
  have hb0 : Below w10.heap.size w10 w0 := ((Below.refl _ _).alloc (Nat.le_refl _) _).grown hg0 (by simp) (fun k hk => by cases hk; exact Nat.le_refl _)
  have hbl' := hB10.trans (hb0.mono hB10.size)
  have hrx := hr10.below hb0 hr10.lt
  have hsg0 := hsg10.later hb0
  have hK0 := hK10.below hb0 hK10.lt
  clear hr0 hg0 hr10 hsg10 hK10 hB10 hb0
  rw [← hRR]
  clear hRR
  have hltk := hK0.lt
  have hltn := hrx.lt
  obtain ⟨n5, en5⟩ : ∃ n5, w5.heap.size = n5 := ⟨_, rfl⟩
  rw [en5] at hrx hltn ⊢
  have hblw := hbl'
  obtain ⟨B, eB⟩ : ∃ B, w0.heap.size = B := ⟨_, rfl⟩
  refine wp_gen fun a0 ha0 => ?_
  have i3 : a0.eval (.tmp 3) = .pointer (some ⟨n5, 0, none⟩) := by rw [ha0]; rfl
  have i4 : a0.eval (.tmp 4) = .int .i64 0 := by rw [ha0]; rfl
  have i5 : a0.eval (.tmp 5) = .slice sgb 18 ks := by rw [ha0]; rfl
  have i6 : a0.eval (.tmp 6) = .int .i64 0 := by rw [ha0]; rfl
  have i8 : a0.eval (.tmp 8) = .int .i64 1 := by rw [ha0]; rfl
  have hsz : a0.tmps.size = 105 := by rw [ha0]; rfl
  have hdf0 : a0.defers = [] := by rw [ha0]
  clear ha0
  refine wp_region_inv (B := B) [some 84, some 85, some 86, some 87, some 88, some 89, some 90, some 91, some 92, some 93, some 94, some 95, some 96, some 97, some 98, some 99, some 100, some 101, some 102, some 103, some 104, some 0] [Asrt.eq (.int .i64 0), Asrt.eq (.bool true), Asrt.eq (.bool true), Asrt.eq (.int .i64 0), Asrt.eq (.bool true), Asrt.eq (.bool true), Asrt.eq (.bool true), Asrt.eq (.slice sgb 18 ks), Asrt.eq (.int .i64 18), Asrt.eq (.bool true), Asrt.eq (.bool true), Asrt.eq (.bool true), Asrt.eq (.agg (cellsB (x))), Asrt.eq (.agg (cellsB (f7))), Asrt.eq (.slice sgb 18 ks), Asrt.eq (.bool true), Asrt.eq (.bool true), Asrt.eq (.bool true), Asrt.eq (.int .i64 1), Asrt.eq (.bool true), Asrt.eq (.bool true), Asrt.eq (.bool true)] rfl (by as_aux_lemma => kernel_rfl) (by rw [hsz]; as_aux_lemma => kernel_rfl) (by as_aux_lemma => kernel_rfl) (by omega) ⟨?_, ?_, ?_, ?_, ?_, ?_, ?_, ?_, ?_, ?_, ?_, ?_, ?_, ?_, ?_, ?_, ?_, ?_, ?_, ?_, ?_, ?_, trivial⟩ ?_
  · as_aux_lemma =>
      intro ev w1 hg hin hc hgl hfn hd
      have hB := hg.top
      have g4 : ev (.tmp 4) = .int .i64 0 := (hin 4 (by kernel_rfl)).trans i4
      clear hin hd
      refine step_on (guard_none rfl) fun K hK => ?_
      unfold YieldsG
      go_simp
      exact hK _ _ rfl (Grow.refl hB)
  · as_aux_lemma =>
      intro ev w1 hg hin hc hgl hfn hd
      have hB := hg.top
      have f84 : (ev (.tmp 84)) = .int .i64 0 := hd.1 rfl _ rfl
      clear hin hd
      refine step_on (guard_none rfl) fun K hK => ?_
      unfold YieldsG
      go_simp
      exact hK _ _ rfl (Grow.refl hB)
  · as_aux_lemma =>
      intro ev w1 hg hin hc hgl hfn hd
      have hB := hg.top
      have f85 : (ev (.tmp 85)) = .bool true := hd.1 rfl _ rfl
      clear hin hd
      refine step_on (guard_none rfl) fun K hK => ?_
      unfold YieldsG
      go_simp
      exact hK _ _ rfl (Grow.refl hB)
  · as_aux_lemma =>
      intro ev w1 hg hin hc hgl hfn hd
      have hB := hg.top
      have f86 : (ev (.tmp 86)) = .bool true := hd.1 rfl _ rfl
      have g6 : ev (.tmp 6) = .int .i64 0 := (hin 6 (by kernel_rfl)).trans i6
      clear hin hd
      refine step_on (guard_some rfl rfl f86) fun K hK => ?_
      unfold YieldsG
      go_simp
      exact hK _ _ rfl (Grow.refl hB)
  · as_aux_lemma =>
      intro ev w1 hg hin hc hgl hfn hd
      have hB := hg.top
      have f87 : (ev (.tmp 87)) = .int .i64 0 := hd.1 rfl _ rfl
      have f86 : (ev (.tmp 86)) = .bool true := hd.2.1 rfl _ rfl
      clear hin hd
      refine step_on (guard_some rfl rfl f86) fun K hK => ?_
      unfold YieldsG
      go_simp
      exact hK _ _ rfl (Grow.refl hB)
  · as_aux_lemma =>
      intro ev w1 hg hin hc hgl hfn hd
      have hB := hg.top
      have f86 : (ev (.tmp 86)) = .bool true := hd.1 rfl _ rfl
      have f88 : (ev (.tmp 88)) = .bool true := hd.2.1 rfl _ rfl
      clear hin hd
      refine step_on (guard_none rfl) fun K hK => ?_
      unfold YieldsG
      go_simp
      exact hK _ _ rfl (Grow.refl hB)
  · as_aux_lemma =>
      intro ev w1 hg hin hc hgl hfn hd
      have hB := hg.top
      have f89 : (ev (.tmp 89)) = .bool true := hd.1 rfl _ rfl
      clear hin hd
      refine step_on (guard_none rfl) fun K hK => ?_
      unfold YieldsG
      go_simp
      exact hK _ _ rfl (Grow.refl hB)
  · as_aux_lemma =>
      intro ev w1 hg hin hc hgl hfn hd
      have hB := hg.top
      have f90 : (ev (.tmp 90)) = .bool true := hd.1 rfl _ rfl
      have g5 : ev (.tmp 5) = .slice sgb 18 ks := (hin 5 (by kernel_rfl)).trans i5
      clear hin hd
      refine step_on (guard_some rfl rfl f90) fun K hK => ?_
      unfold YieldsG
      go_simp
      exact hK _ _ rfl (Grow.refl hB)
  · as_aux_lemma =>
      intro ev w1 hg hin hc hgl hfn hd
      have hB := hg.top
      have f91 : (ev (.tmp 91)) = .slice sgb 18 ks := hd.1 rfl _ rfl
      have f90 : (ev (.tmp 90)) = .bool true := hd.2.1 rfl _ rfl
      clear hin hd
      refine step_on (guard_some rfl rfl f90) fun K hK => ?_
      unfold YieldsG
      go_simp
      exact hK _ _ rfl (Grow.refl hB)
  · as_aux_lemma =>
      intro ev w1 hg hin hc hgl hfn hd
      have hB := hg.top
      have f92 : (ev (.tmp 92)) = .int .i64 18 := hd.1 rfl _ rfl
      have f90 : (ev (.tmp 90)) = .bool true := hd.2.1 rfl _ rfl
      clear hin hd
      refine step_on (guard_some rfl rfl f90) fun K hK => ?_
      unfold YieldsG
      go_simp
      exact hK _ _ rfl (Grow.refl hB)
  · as_aux_lemma =>
      intro ev w1 hg hin hc hgl hfn hd
      have hB := hg.top
      have f90 : (ev (.tmp 90)) = .bool true := hd.1 rfl _ rfl
      have f93 : (ev (.tmp 93)) = .bool true := hd.2.1 rfl _ rfl
      clear hin hd
      refine step_on (guard_none rfl) fun K hK => ?_
      unfold YieldsG
      go_simp
      exact hK _ _ rfl (Grow.refl hB)
  · as_aux_lemma =>
      intro ev w1 hg hin hc hgl hfn hd
      have hB := hg.top
      have f94 : (ev (.tmp 94)) = .bool true := hd.1 rfl _ rfl
      clear hin hd
      refine step_on (guard_none rfl) fun K hK => ?_
      unfold YieldsG
      go_simp
      exact hK _ _ rfl (Grow.refl hB)
  · as_aux_lemma =>
      intro ev w1 hg hin hc hgl hfn hd
      have hB := hg.top
      have f95 : (ev (.tmp 95)) = .bool true := hd.1 rfl _ rfl
      have g3 : ev (.tmp 3) = .pointer (some ⟨n5, 0, none⟩) := (hin 3 (by kernel_rfl)).trans i3
      clear hin hd
      refine step_on (guard_some rfl rfl f95) fun K hK => ?_
      refine yg_load_row 23 (.tmp 3) rfl n5 g3 23 (cellsB x) (0, 0) _ (hrx.below hg.bl (by omega)) Tryd.underD rfl HSX.out ?_
      exact hK _ _ rfl (Grow.refl hB)
  · as_aux_lemma =>
      intro ev w1 hg hin hc hgl hfn hd
      have hB := hg.top
      have f95 : (ev (.tmp 95)) = .bool true := hd.1 rfl _ rfl
      clear hin hd
      refine step_on (guard_some rfl rfl f95) fun K hK => ?_
      unfold YieldsG
      go_simp
      refine (filled_any 7 w1).mono ?_
      rintro e w2 ⟨rfl, hb⟩
      exact ⟨_, rfl, hK _ _ (by rw [HF7E.out]; rfl) (Grow.of hB hb)⟩
  · as_aux_lemma =>
      intro ev w1 hg hin hc hgl hfn hd
      have hB := hg.top
      have f95 : (ev (.tmp 95)) = .bool true := hd.1 rfl _ rfl
      have g5 : ev (.tmp 5) = .slice sgb 18 ks := (hin 5 (by kernel_rfl)).trans i5
      clear hin hd
      refine step_on (guard_some rfl rfl f95) fun K hK => ?_
      unfold YieldsG
      go_simp
      exact hK _ _ rfl (Grow.refl hB)
  · as_aux_lemma =>
      intro ev w1 hg hin hc hgl hfn hd
      have hB := hg.top
      have f96 : (ev (.tmp 96)) = .agg (cellsB (x)) := hd.1 rfl _ rfl
      have f97 : (ev (.tmp 97)) = .agg (cellsB (f7)) := hd.2.1 rfl _ rfl
      have f98 : (ev (.tmp 98)) = .slice sgb 18 ks := hd.2.2.1 rfl _ rfl
      have f95 : (ev (.tmp 95)) = .bool true := hd.2.2.2.2.1 rfl _ rfl
      clear hin hd
      refine step_on (guard_some rfl rfl f95) fun K hK => ?_
      unfold YieldsG
      go_simp
      refine (verify_any x f7 sl _ w1 HX.out HF7.out (hsg0.later (by rw [eB]; exact hg.bl)) HS32.out (hK0.below hg.bl (by omega))).mono ?_
      rintro e w2 ⟨rfl, hb⟩
      rw [HV.out]
      exact ⟨_, rfl, hK _ _ rfl (Grow.of hB hb)⟩
  · as_aux_lemma =>
      intro ev w1 hg hin hc hgl hfn hd
      have hB := hg.top
      have f95 : (ev (.tmp 95)) = .bool true := hd.1 rfl _ rfl
      have f99 : (ev (.tmp 99)) = .bool true := hd.2.1 rfl _ rfl
      clear hin hd
      refine step_on (guard_none rfl) fun K hK => ?_
      unfold YieldsG
      go_simp
      exact hK _ _ rfl (Grow.refl hB)
  · as_aux_lemma =>
      intro ev w1 hg hin hc hgl hfn hd
      have hB := hg.top
      have f100 : (ev (.tmp 100)) = .bool true := hd.1 rfl _ rfl
      clear hin hd
      refine step_on (guard_none rfl) fun K hK => ?_
      unfold YieldsG
      go_simp
      exact hK _ _ rfl (Grow.refl hB)
  · as_aux_lemma =>
      intro ev w1 hg hin hc hgl hfn hd
      have hB := hg.top
      have f101 : (ev (.tmp 101)) = .bool true := hd.1 rfl _ rfl
      have g8 : ev (.tmp 8) = .int .i64 1 := (hin 8 (by kernel_rfl)).trans i8
      clear hin hd
      refine step_on (guard_some rfl rfl f101) fun K hK => ?_
      unfold YieldsG
      go_simp
      exact hK _ _ rfl (Grow.refl hB)
  · as_aux_lemma =>
      intro ev w1 hg hin hc hgl hfn hd
      have hB := hg.top
      have f102 : (ev (.tmp 102)) = .int .i64 1 := hd.1 rfl _ rfl
      have f101 : (ev (.tmp 101)) = .bool true := hd.2.1 rfl _ rfl
      clear hin hd
      refine step_on (guard_some rfl rfl f101) fun K hK => ?_
      unfold YieldsG
      go_simp
      exact hK _ _ rfl (Grow.refl hB)
  · as_aux_lemma =>
      intro ev w1 hg hin hc hgl hfn hd
      have hB := hg.top
      have f101 : (ev (.tmp 101)) = .bool true := hd.1 rfl _ rfl
      have f103 : (ev (.tmp 103)) = .bool true := hd.2.1 rfl _ rfl
      clear hin hd
      refine step_on (guard_none rfl) fun K hK => ?_
      unfold YieldsG
      go_simp
      exact hK _ _ rfl (Grow.refl hB)
  · as_aux_lemma =>
      intro ev w1 hg hin hc hgl hfn hd
      have hB := hg.top
      have f104 : (ev (.tmp 104)) = .bool true := hd.1 rfl _ rfl
      clear hin hd
      refine step_on (guard_none rfl) fun K hK => ?_
      unfold YieldsG
      go_simp
      exact hK _ _ rfl (Grow.refl hB)
  · intro v w2 hg hall
    have hr : v 21 = .bool true := hall.2.2.2.2.2.2.2.2.2.2.2.2.2.2.2.2.2.2.2.2.2.1 (by simp)
    generalize hput : putAll _ v 0 _ = af
    have h0 : af.tmps.getD 0 undef = v 21 := by rw [← hput]; exact putAll_at (by rw [hsz]; as_aux_lemma => kernel_rfl) rfl rfl
    have hdf : af.defers = [] := by rw [← hput, putAll_defers]; exact hdf0
    clear hput hall
    go_wp2
    refine bodyPost_ret (results_tmp rfl _ _ _) hdf ⟨?_, hbl'.trans (hg.bl.mono (by rw [← eB]; exact hbl'.size))⟩
    rw [h0, hr]
end Go.Proofs.YthhlfcbkggahmaaDoor

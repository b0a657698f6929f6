/- crossbarref03.Sum returns the hash of the plain definition. Conditions: the slice's bytes can be read, it is shorter than 2^44 bytes, the constants and the first state lie in their variables. -/
import Derived.Test.YthhlfcbkggahmaaDoorRefDig
namespace Go.Proofs.YthhlfcbkggahmaaDoor
open Go.RowKit
/-- The first state lies in the reference's variable. -/
def RIFact (w : World) : Prop := ∃ t, Row w 1 t (cellsU St.init.list)
theorem RIFact.lt {w : World} (h : RIFact w) : 1 < w.heap.size := by obtain ⟨t, h⟩ := h; exact h.lt
theorem RIFact.below {w w' : World} (h : RIFact w) {n : Nat} (hb : Below n w w') (hn : 1 < n) : RIFact w' := by obtain ⟨t, h⟩ := h; exact ⟨t, h.below hb hn⟩
theorem lenBytes_len (n : Nat) : (lenBytes n).length = 8 := by simp [lenBytes]
theorem padding_len_le (n : Nat) : (padding n).length ≤ 72 := by
  unfold padding padZeros
  rw [List.length_append, List.length_append, lenBytes_len, List.length_replicate]
  simp; omega
theorem OwnB.belowB {w w' : World} {base : Nat} {v : Value} {xs : List UInt8} (h : OwnB w base v xs) (hb : Below w.heap.size w w') : OwnB w' base v xs := h.below fun b _ hlt => hb.block b hlt
set_option maxHeartbeats 1000000 in
theorem rsum_any (l : List UInt8) (v : Value) (ok : Nat → Prop) (w : World) (hv : Bytes w v l ok) (hK : RKFact w) (hI : RIFact w) (hl : l.length ≤ 17592186044416) :
    Calls Tryd.prog 48 #[v] w fun e w' => e = .returned (.agg (cellsB (sumOf l))) ∧ Below w.heap.size w w' := by
  have hkl := hK.lt
  have hil := hI.lt
  have hpl := padding_len_le l.length
  obtain ⟨av, cv, rfl⟩ : ∃ a c, v = .slice a l.length c := by obtain ⟨a, c, h, _⟩ := hv; exact ⟨a, c, h⟩
  have hb1 : Below w.heap.size w (w.alloc (.cells (cellsB (List.replicate 32 0)) 23)) := (Below.refl _ _).alloc (Nat.le_refl _) _
  have hD1 : Row (w.alloc (.cells (cellsB (List.replicate 32 0)) 23)) w.heap.size 23 (cellsB (List.replicate 32 0)) := Row.new w _ _
  have hsz1 : (w.alloc (.cells (cellsB (List.replicate 32 0)) 23)).heap.size = w.heap.size + 1 := by simp
  have ho0 : OwnB ((w.alloc (.cells (cellsB (List.replicate 32 0)) 23)).alloc (.cells (cellsB []) 5)) (w.heap.size + 1) (.slice (some ⟨w.heap.size + 1, 0, none⟩) 0 0) [] := by
    have h := OwnB.fresh (w.alloc (.cells (cellsB (List.replicate 32 0)) 23)) [] (by decide)
    rwa [hsz1] at h
  have hb0 : Below w.heap.size w ((w.alloc (.cells (cellsB (List.replicate 32 0)) 23)).alloc (.cells (cellsB []) 5)) := hb1.alloc hb1.size _
  have hD0 := hD1.alloc (.cells (cellsB []) 5)
  have hs0 : Bytes ((w.alloc (.cells (cellsB (List.replicate 32 0)) 23)).alloc (.cells (cellsB []) 5)) (.slice av l.length cv) l (fun _ => True) := (hv.later hb0).imp fun _ _ => trivial
  clear hb1 hD1 hsz1 hv
  go_enter Tryd.func48, Tryd.ntmps48
  go_wp2_with (at_builtin; refine wpList_append_bytes rfl (.tmp 4) (.tmp 5) rfl (w.heap.size + 1) _ _ [] l _ rfl ho0 rfl hs0 (by simp; omega) (by simp) ?_; intro v1 w1 o1 g1)
  have hB1 : Below w.heap.size w w1 := hb0.grown g1 hb0.size (fun k hk => by have := ho0.ownBlock k hk; omega)
  have hD1 := hD0.grown g1 (fun e => by have := ho0.ownBlock _ e.symm; omega)
  have hz1 : w.heap.size + 1 ≤ w1.heap.size := by have := g1.size; simp at this; omega
  clear ho0 hb0 hD0 hs0 g1
  refine (pad_any l.length w1 (by omega)).mono ?_
  rintro e w2 ⟨v2, rfl, o2, hb2⟩
  have hB2 := hB1.trans (hb2.mono hB1.size)
  have hD2 := hD1.below hb2 hD1.lt
  have o1' := o1.belowB hb2
  have hs2 : Bytes w2 v2 (padding l.length) (fun _ => True) := o2.bytes _ fun _ _ => trivial
  have hz2 : w.heap.size + 1 ≤ w2.heap.size := Nat.le_trans hz1 hb2.size
  obtain ⟨ti, hIr⟩ := hI
  clear hB1 hD1 o1 hb2 hz1
  go_wp2_with (first | (at_builtin; refine wpList_append_bytes rfl (.tmp 7) (.tmp 10) rfl (w.heap.size + 1) _ _ ([] ++ l) (padding l.length) _ rfl o1' rfl hs2 (by simp; omega) hz2 ?_; intro v3 w3 o3 g3; have hI3 := hIr.below (hB2.grown g3 hB2.size (fun k hk => by have := o1'.ownBlock k hk; omega)) hil) | (refine wpList_load_row rfl 62 (.global 1) rfl 1 rfl ti (cellsU St.init.list) (0, 0) _ hI3 Tryd.under8 rfl (Tryd.sizeSt _) ?_))
  have hB3 := hB2.grown g3 hB2.size (fun k hk => by have := o1'.ownBlock k hk; omega)
  have hD3 := hD2.grown g3 (fun e => by have := o1'.ownBlock _ e.symm; omega)
  have hs3 : Bytes w3 v3 (padded l) (fun _ => True) := o3.bytes _ fun _ _ => trivial
  have hpd : (padded l).length ≤ 35184372088832 := by unfold padded; rw [List.length_append]; omega
  clear g3 o1' hs2 hB2 hD2 o3 hI3 hIr
  refine (rblocks_any St.init (padded l) v3 w3 hs3 (hK.below hB3 hkl) hpd).mono ?_
  rintro e w4 ⟨rfl, hb4⟩
  have hB4 := hB3.trans (hb4.mono hB3.size)
  have hD4 := hD3.below hb4 hD3.lt
  clear hs3 hB3 hD3 hb4 hpd
  go_wp2_with fail
  refine (rdigest_any _ w4).mono ?_
  rintro e w5 ⟨rfl, hb5⟩
  have hB5 := hB4.trans (hb5.mono hB4.size)
  have hD5 := hD4.below hb5 hD4.lt
  obtain ⟨z, ez⟩ : ∃ z, digestOf (blocks ((padded l).length / 64) St.init (padded l)) = z := ⟨_, rfl⟩
  have hzl : z.length = 32 := by rw [← ez]; exact digestOf_len _
  rw [ez]
  have EZ : Hid (sumOf l = z) := Lib.hid ez
  have HCD : Hid ((cellsB z).size = (cellsB (List.replicate 32 0)).size) := Lib.hid (by rw [cellsB_size, hzl]; rfl)
  have HSZ := Lib.hid (Tryd.sizeD_of _ hzl)
  clear ez hzl hB4 hD4 hb5
  go_wp2_with (refine wpList_store_row rfl 23 (.tmp 2) (.tmp 15) rfl w.heap.size rfl (cellsB z) _ 23 rfl hD5 HCD.out HSZ.out (cellsB_one _) ?_; intro w9 hg9 hr9 hz9)
  refine bodyPost_ret (v := .agg (cellsB z)) (results_cell_row rfl _ _ w.heap.size 23 (cellsB z) (0, 0) _ rfl hr9 Tryd.underD rfl HSZ.out) rfl ⟨by rw [EZ.out], ?_⟩
  exact hB5.grown hg9 hB5.size (fun k hk => by cases hk; exact Nat.le_refl _)
end Go.Proofs.YthhlfcbkggahmaaDoor

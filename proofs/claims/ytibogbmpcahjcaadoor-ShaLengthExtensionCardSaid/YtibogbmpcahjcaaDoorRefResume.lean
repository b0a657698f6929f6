/- crossbarref03.Resume, and what the length extension says of it. Conditions: the digest has 32 bytes, the lengths stay below 2^40, the constants lie in their variable. -/
import Derived.Test.YtibogbmpcahjcaaDoorRefState
import Derived.Test.YtibogbmpcahjcaaDoorRefSum
namespace Go.Proofs.YtibogbmpcahjcaaDoor
open Go.RowKit
def resumeMsg (n : Nat) (more : List UInt8) : List UInt8 := more ++ padding (n + (padding n).length + more.length)
def resumeOf (x : List UInt8) (n : Nat) (more : List UInt8) : List UInt8 := digestOf (blocks ((resumeMsg n more).length / 64) (stateOf x) (resumeMsg n more))
theorem padding_len (n : Nat) : (padding n).length = 9 + padZeros n := by
  unfold padding
  rw [List.length_append, List.length_append, lenBytes_len, List.length_replicate]
  simp; omega
theorem padded_mod (b : List UInt8) : (padded b).length = 64 * ((padded b).length / 64) := by
  unfold padded
  rw [List.length_append, padding_len]
  unfold padZeros
  omega
/-- THE LENGTH EXTENSION. -/
theorem sum_extends (b more : List UInt8) : sumOf (b ++ padding b.length ++ more) = resumeOf (sumOf b) b.length more := by
  have hm := padded_mod b
  have hall : (b ++ padding b.length ++ more).length = b.length + (padding b.length).length + more.length := by rw [List.length_append, List.length_append]
  have hp : padded (b ++ padding b.length ++ more) = padded b ++ resumeMsg b.length more := by
    unfold padded resumeMsg
    rw [hall]; simp only [List.append_assoc]
  unfold resumeOf
  show digestOf (blocks ((padded (b ++ padding b.length ++ more)).length / 64) St.init (padded (b ++ padding b.length ++ more))) = digestOf (blocks _ (stateOf (digestOf (blocks ((padded b).length / 64) St.init (padded b)))) _)
  rw [hp, stateOf_digest]
  generalize resumeMsg b.length more = L at *
  generalize padded b = P at *
  obtain ⟨m, em⟩ : ∃ m, P.length / 64 = m := ⟨_, rfl⟩
  rw [em] at hm ⊢
  rw [List.length_append, hm, Nat.mul_add_div (by omega), blocks_add, blocks_append m St.init P L hm]
  rw [show 64 * m = P.length by omega, List.drop_left]
set_option maxHeartbeats 1000000 in
theorem resume_any (x : List UInt8) (n : Nat) (v : Value) (more : List UInt8) (ok : Nat → Prop) (w : World) (hx : x.length = 32) (hn : n ≤ 1099511627776) (hv : Bytes w v more ok) (hl : more.length ≤ 1099511627776) (hK : RKFact w) :
    Calls Tryd.prog 15 #[.agg (cellsB x), .int .i64 (n : Int), v] w fun e w' => e = .returned (.agg (cellsB (resumeOf x n more))) ∧ Below w.heap.size w w' := by
  have HX := Lib.hid hx
  clear hx
  have hkl := hK.lt
  have hpl := padding_len_le n
  obtain ⟨av, cv, rfl⟩ : ∃ a c, v = .slice a more.length c := by obtain ⟨a, c, h, _⟩ := hv; exact ⟨a, c, h⟩
  have hb1 : Below w.heap.size w ((w.alloc (.cells (cellsB x) 25)).alloc (.cells (cellsB (List.replicate 32 0)) 25)) := ((Below.refl _ _).alloc (Nat.le_refl _) _).alloc (by simp) _
  have hA1 := (Row.new w (cellsB x) 25).alloc (.cells (cellsB (List.replicate 32 0)) 25)
  have hD1 : Row ((w.alloc (.cells (cellsB x) 25)).alloc (.cells (cellsB (List.replicate 32 0)) 25)) (w.heap.size + 1) 25 (cellsB (List.replicate 32 0)) := by
    have h := Row.new (w.alloc (.cells (cellsB x) 25)) (cellsB (List.replicate 32 0)) 25
    rwa [show (w.alloc (.cells (cellsB x) 25)).heap.size = w.heap.size + 1 by simp] at h
  go_enter Tryd.func15, Tryd.ntmps15
  go_wp2_with fail
  refine (pad_any n _ (by omega)).mono ?_
  rintro e w2 ⟨v2, rfl, o2, hb2⟩
  obtain ⟨g2, c2, ev2, _⟩ := o2.form (by rw [padding_len]; omega)
  have hB2 := hb1.trans (hb2.mono hb1.size)
  have hA2 := hA1.below hb2 hA1.lt
  have hD2 := hD1.below hb2 hD1.lt
  obtain ⟨pl, epl⟩ : ∃ pl, (padding n).length = pl := ⟨_, rfl⟩
  rw [epl] at ev2 hpl
  have EPL := Lib.hid epl
  subst ev2
  have hv2 : Bytes w2 (.slice av more.length cv) more (fun _ => True) := (hv.later hB2).imp fun _ _ => trivial
  clear epl o2 hb1 hA1 hD1 hb2 hv
  have hltD := hD2.lt
  have ho0 := OwnB.fresh w2 [] (by decide)
  have hs0 : Bytes (w2.alloc (.cells (cellsB []) 5)) (.slice av more.length cv) more (fun _ => True) := (hv2.later ((Below.refl _ _).alloc (Nat.le_refl _) _)).imp fun _ _ => trivial
  go_wp2_with (at_builtin; refine wpList_append_bytes rfl (.tmp 17) (.tmp 18) rfl w2.heap.size _ _ [] more _ rfl ho0 rfl hs0 (by simp; omega) (by simp) ?_; intro v3 w3 o3 g3)
  have hb3 : Below w2.heap.size w2 w3 := ((Below.refl _ _).alloc (Nat.le_refl _) _).grown g3 (by simp) (fun k hk => ho0.ownBlock k hk)
  have hB3 := hB2.trans (hb3.mono hB2.size)
  have hA3 := hA2.below hb3 hA2.lt
  have hD3 := hD2.below hb3 hltD
  have hz3 : w2.heap.size ≤ w3.heap.size := hb3.size
  clear ho0 hs0 g3 hb3 hA2 hD2 hv2
  have hpd := pad_any (n + pl + more.length) w3 (by omega)
  rw [Int.natCast_add, Int.natCast_add] at hpd
  refine hpd.mono ?_
  rintro e w4 ⟨v4, rfl, o4, hb4⟩
  have hB4 := hB3.trans (hb4.mono hB3.size)
  have hA4 := hA3.below hb4 hA3.lt
  have hD4 := hD3.below hb4 hD3.lt
  have o3' := o3.belowB hb4
  have hs4 : Bytes w4 v4 (padding (n + pl + more.length)) (fun _ => True) := o4.bytes _ fun _ _ => trivial
  have hz4 : w2.heap.size ≤ w4.heap.size := Nat.le_trans hz3 hb4.size
  have hpl2 := padding_len_le (n + pl + more.length)
  have HSX := Lib.hid (Tryd.sizeD_of _ HX.out)
  clear hpd o4 hb4 hB3 hA3 hD3 o3
  go_wp2_with (first | (at_builtin; refine wpList_append_bytes rfl (.tmp 20) (.tmp 22) rfl w2.heap.size _ _ ([] ++ more) (padding (n + pl + more.length)) _ rfl o3' rfl hs4 (by simp; omega) hz4 ?_; intro v5 w5 o5 g5; have hB5 := hB4.grown g5 hB4.size (fun k hk => by have := o3'.ownBlock k hk; omega); have hA5 := hA4.grown g5 (fun e => by have := o3'.ownBlock _ e.symm; omega); have hD5 := hD4.grown g5 (fun e => by have := o3'.ownBlock _ e.symm; omega)) | (refine wpList_load_row rfl 25 (.tmp 3) rfl w.heap.size rfl 25 (cellsB x) (0, 0) _ hA5 Tryd.underD rfl HSX.out ?_))
  have hs5 : Bytes w5 v5 (resumeMsg n more) (fun _ => True) := by
    have h := o5.bytes (fun _ => True) fun _ _ => trivial
    rw [← EPL.out] at h
    exact h
  have hml : (resumeMsg n more).length ≤ 35184372088832 := by unfold resumeMsg; rw [List.length_append, EPL.out]; omega
  clear o5 g5 o3' hs4 hB4 hA4 hD4
  refine (state_any x w5 HX.out).mono ?_
  rintro e w6 ⟨rfl, hb6⟩
  have hB6 := hB5.trans (hb6.mono hB5.size)
  have hD6 := hD5.below hb6 hD5.lt
  have hs6 : Bytes w6 v5 (resumeMsg n more) (fun _ => True) := (hs5.later hb6).imp fun _ _ => trivial
  clear hs5 hB5 hD5 hb6 hA5
  go_wp2_with fail
  refine (rblocks_any (stateOf x) (resumeMsg n more) v5 w6 hs6 (hK.below hB6 hkl) hml).mono ?_
  rintro e w7 ⟨rfl, hb7⟩
  have hB7 := hB6.trans (hb7.mono hB6.size)
  have hD7 := hD6.below hb7 hD6.lt
  clear hs6 hB6 hD6 hb7 hml
  go_wp2_with fail
  refine (rdigest_any _ w7).mono ?_
  rintro e w8 ⟨rfl, hb8⟩
  have hB8 := hB7.trans (hb8.mono hB7.size)
  have hD8 := hD7.below hb8 hD7.lt
  obtain ⟨z, ez⟩ : ∃ z, digestOf (blocks ((resumeMsg n more).length / 64) (stateOf x) (resumeMsg n more)) = z := ⟨_, rfl⟩
  have hzl : z.length = 32 := by rw [← ez]; exact digestOf_len _
  rw [ez]
  have EZ : Hid (resumeOf x n more = z) := Lib.hid ez
  have HCD : Hid ((cellsB z).size = (cellsB (List.replicate 32 0)).size) := Lib.hid (by rw [cellsB_size, hzl]; rfl)
  have HSZ := Lib.hid (Tryd.sizeD_of _ hzl)
  clear ez hzl hB7 hD7 hb8
  go_wp2_with (refine wpList_store_row rfl 25 (.tmp 6) (.tmp 28) rfl (w.heap.size + 1) rfl (cellsB z) _ 25 rfl hD8 HCD.out HSZ.out (cellsB_one _) ?_; intro w9 hg9 hr9 hz9)
  refine bodyPost_ret (v := .agg (cellsB z)) (results_cell_row rfl _ _ (w.heap.size + 1) 25 (cellsB z) (0, 0) _ rfl hr9 Tryd.underD rfl HSZ.out) rfl ⟨by rw [EZ.out], ?_⟩
  exact hB8.grown hg9 hB8.size (fun k hk => by cases hk; omega)
end Go.Proofs.YtibogbmpcahjcaaDoor

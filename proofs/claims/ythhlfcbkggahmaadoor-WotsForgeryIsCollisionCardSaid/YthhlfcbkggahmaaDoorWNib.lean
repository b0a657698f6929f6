/- wots.Nibbles. Conditions: the digest has 32 bytes. -/
import Derived.Test.YthhlfcbkggahmaaDoorWLen
namespace Go.Proofs.YthhlfcbkggahmaaDoor
open Go.RowKit
set_option maxHeartbeats 1000000 in
theorem nibbles_any (d : List UInt8) (w : World) (hd : d.length = 32) :
    Calls Tryd.prog 13 #[.agg (cellsB d)] w fun e w' => ∃ v, e = .returned v ∧ Nums w' v (nibs d) ∧ Below w.heap.size w w' := by
  have HD := Lib.hid hd
  clear hd
  have hd1 : Row (w.alloc (.cells (cellsB d) 23)) w.heap.size 23 (cellsB d) := Row.new w _ _
  have hb1 : Below w.heap.size w (w.alloc (.cells (cellsB d) 23)) := (Below.refl _ _).alloc (Nat.le_refl _) _
  have HSD := Lib.hid (Tryd.sizeD_of d HD.out)
  have HSN := Lib.hid (Tryd.size18_of (nibs d) (nibs_len d))
  go_enter Tryd.func13, Tryd.ntmps13
  go_wp2_with (refine wpList_load_row rfl 23 (.tmp 1) rfl w.heap.size rfl 23 (cellsB d) (0, 0) _ hd1 Tryd.underD rfl HSD.out ?_)
  refine (lengths_any d _ HD.out).mono ?_
  rintro e w2 ⟨rfl, hb2⟩
  have hB2 := hb1.trans (hb2.mono hb1.size)
  clear hd1 hb1 hb2
  have hz : (cellsN (nibs d)).size = (cellsN (List.replicate 18 0)).size := by rw [cellsN_size, nibs_len]; rfl
  have HZ := Lib.hid hz
  clear hz
  go_wp2_with (refine wpList_store_row rfl 48 (.tmp 3) (.tmp 5) rfl w2.heap.size rfl (cellsN (nibs d)) (cellsN (List.replicate 18 0)) 48 rfl (Row.new w2 _ _) HZ.out HSN.out (cellsN_one _) ?_; intro w9 hg9 hr9 hz9)
  go_ret
  exact ⟨_, rfl, hr9.nums 18 (nibs_len d).symm (by decide), (hB2.alloc hB2.size _).grown hg9 (by have := hB2.size; simp; omega) (fun k hk => by cases hk; exact hB2.size)⟩
end Go.Proofs.YthhlfcbkggahmaaDoor

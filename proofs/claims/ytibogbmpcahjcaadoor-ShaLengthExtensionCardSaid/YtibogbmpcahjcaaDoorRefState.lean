/- crossbarref03.State: the state whose bytes are a digest; behind Digest it is the state itself. Conditions: the digest has 32 bytes. -/
import Derived.Test.YtibogbmpcahjcaaDoorRefDig
namespace Go.Proofs.YtibogbmpcahjcaaDoor
open Go.RowKit
def stateOf (x : List UInt8) : St := ⟨wordAt x 0, wordAt x 1, wordAt x 2, wordAt x 3, wordAt x 4, wordAt x 5, wordAt x 6, wordAt x 7⟩
theorem wordOf_bytes (x : W32) : wordOf (UInt8.ofNat (x.toNat / 16777216)) (UInt8.ofNat (x.toNat / 65536)) (UInt8.ofNat (x.toNat / 256)) (UInt8.ofNat x.toNat) = x := by
  have hx := x.isLt
  apply BitVec.eq_of_toNat_eq
  unfold wordOf
  simp only [BitVec.toNat_ofNat, UInt8.toNat_ofNat']
  omega
theorem stateOf_digest (s : St) : stateOf (digestOf s) = s := by
  obtain ⟨a, b, c, d, e, f, g, h⟩ := s
  have ea : wordAt (digestOf ⟨a, b, c, d, e, f, g, h⟩) 0 = a := wordOf_bytes a
  have eb : wordAt (digestOf ⟨a, b, c, d, e, f, g, h⟩) 1 = b := wordOf_bytes b
  have ec : wordAt (digestOf ⟨a, b, c, d, e, f, g, h⟩) 2 = c := wordOf_bytes c
  have ed : wordAt (digestOf ⟨a, b, c, d, e, f, g, h⟩) 3 = d := wordOf_bytes d
  have ee : wordAt (digestOf ⟨a, b, c, d, e, f, g, h⟩) 4 = e := wordOf_bytes e
  have ef : wordAt (digestOf ⟨a, b, c, d, e, f, g, h⟩) 5 = f := wordOf_bytes f
  have eg : wordAt (digestOf ⟨a, b, c, d, e, f, g, h⟩) 6 = g := wordOf_bytes g
  have eh : wordAt (digestOf ⟨a, b, c, d, e, f, g, h⟩) 7 = h := wordOf_bytes h
  unfold stateOf
  rw [ea, eb, ec, ed, ee, ef, eg, eh]
/-- The words so far. -/
def sRow (s : St) (i : Nat) : List W32 := s.list.take i ++ List.replicate (8 - i) 0
theorem sRow_len (s : St) (i : Nat) (h : i ≤ 8) : (sRow s i).length = 8 := by
  unfold sRow; rw [List.length_append, List.length_take, List.length_replicate, St.list_len]; omega
theorem sRow_set (x : List UInt8) (i : Nat) (h : i < 8) : (sRow (stateOf x) i).set i (wordAt x i) = sRow (stateOf x) (i + 1) := by
  match i, h with
  | 0, _ => rfl | 1, _ => rfl | 2, _ => rfl | 3, _ => rfl | 4, _ => rfl | 5, _ => rfl | 6, _ => rfl | 7, _ => rfl
theorem sRow_all (s : St) (i : Nat) (h : i = 8) : sRow s i = s.list := by subst h; rfl
set_option maxHeartbeats 1000000 in
theorem state_any (x : List UInt8) (w : World) (hx : x.length = 32) :
    Calls Tryd.prog 28 #[.agg (cellsB x)] w fun e w' => e = .returned (.agg (cellsU (stateOf x).list)) ∧ Below w.heap.size w w' := by
  have HX := Lib.hid hx
  clear hx
  have hs1 : Row (((w.alloc (.cells (cellsB x) 25)).alloc (.cells (cellsU (List.replicate 8 0)) 40)).alloc (.cells (cellsU (List.replicate 8 0)) 40)) w.heap.size 25 (cellsB x) := ((Row.new w _ _).alloc _).alloc _
  have hr1 : Row (((w.alloc (.cells (cellsB x) 25)).alloc (.cells (cellsU (List.replicate 8 0)) 40)).alloc (.cells (cellsU (List.replicate 8 0)) 40)) (w.heap.size + 1) 40 (cellsU (List.replicate 8 0)) := by
    have h := (Row.new (w.alloc (.cells (cellsB x) 25)) (cellsU (List.replicate 8 0)) 40).alloc (.cells (cellsU (List.replicate 8 0)) 40)
    rwa [show (w.alloc (.cells (cellsB x) 25)).heap.size = w.heap.size + 1 by simp] at h
  have hd1 : Row (((w.alloc (.cells (cellsB x) 25)).alloc (.cells (cellsU (List.replicate 8 0)) 40)).alloc (.cells (cellsU (List.replicate 8 0)) 40)) (w.heap.size + 1 + 1) 40 (cellsU (sRow (stateOf x) 0)) := by
    have h := Row.new ((w.alloc (.cells (cellsB x) 25)).alloc (.cells (cellsU (List.replicate 8 0)) 40)) (cellsU (sRow (stateOf x) 0)) 40
    rwa [show ((w.alloc (.cells (cellsB x) 25)).alloc (.cells (cellsU (List.replicate 8 0)) 40)).heap.size = w.heap.size + 1 + 1 by simp] at h
  have hb1 : Below w.heap.size w (((w.alloc (.cells (cellsB x) 25)).alloc (.cells (cellsU (List.replicate 8 0)) 40)).alloc (.cells (cellsU (List.replicate 8 0)) 40)) := (((Below.refl _ _).alloc (Nat.le_refl _) _).alloc (by simp) _).alloc (by simp; omega) _
  go_enter Tryd.func28, Tryd.ntmps28
  go_wp2
  go_loopw [4] (fun t wr => ∃ i : Nat, i ≤ 8 ∧ t = .int .i64 (i : Int) ∧ Below w.heap.size w wr ∧ Row wr w.heap.size 25 (cellsB x) ∧ Row wr (w.heap.size + 1) 40 (cellsU (List.replicate 8 0)) ∧ Row wr (w.heap.size + 1 + 1) 40 (cellsU (sRow (stateOf x) i))) (fun t _ => 8 - (intOf t).toNat)
  case atStart => exact ⟨0, by omega, rfl, hb1, hs1, hr1, hd1⟩
  case round =>
    clear hb1 hs1 hr1 hd1
    obtain ⟨i, hi, rfl, hb, hs, hr, hd⟩ := hrel
    by_cases hlt : i < 8
    · have hcell := hd.word i (by rw [sRow_len _ _ hi]; exact hlt)
      have hfree := hd.free i
      have hc4 : ∀ j, j < 4 → wr.cell? ⟨w.heap.size, 4 * i + j, none⟩ = some (.int .u8 (by8 x (4 * i + j))) := fun j hj => hs.byte _ (by rw [HX.out]; omega)
      have p0 : (0 : Int) ≤ 4 * i := by omega
      have l1 : (4 : Int) * i ≤ 32 := by omega
      have hal : Tryd.prog.arrayLen 25 = 32 := by kernel_rfl
      have l2 : (4 : Int) * i ≤ (Tryd.prog.arrayLen 25 : Nat) := by rw [hal]; exact l1
      go_wp2_with (go_at_call 33; refine (rword_any x w.heap.size (4 * i) (32 - 4 * i) (32 - 4 * i) i _ (by omega) (by omega) (by omega) hc4).mono ?_; rintro e w' ⟨rfl, m, rfl⟩)
      have hb2 : Below w.heap.size w (wr.drewN m) := Below.of_drewN hb m
      have hs2 : Row (wr.drewN m) w.heap.size 25 (cellsB x) := hs
      have hr2 : Row (wr.drewN m) (w.heap.size + 1) 40 (cellsU (List.replicate 8 0)) := hr
      have hset := (show Row (wr.drewN m) (w.heap.size + 1 + 1) 40 (cellsU (sRow (stateOf x) i)) from hd).setU i (wordAt x i)
      rw [sRow_set _ _ hlt] at hset
      go_roundw
      case rel => exact ⟨i + 1, by omega, by go_num, hb2.setCell (by simp; omega) _, hs2.other _ _ (by simp; omega), hr2.other _ _ (by simp), hset⟩
      case measure => simp [intOf]; omega
    · rw [sRow_all _ _ (show i = 8 by omega)] at hd
      have HSZ := Lib.hid (Tryd.sizeSt (stateOf x))
      have HCD : Hid ((cellsU (stateOf x).list).size = (cellsU (List.replicate 8 0)).size) := Lib.hid ((cellsSt_size _).trans rfl)
      go_wp2_with (first | (refine wpList_load_row rfl 40 (.tmp 3) rfl (w.heap.size + 1 + 1) rfl 40 (cellsU (stateOf x).list) (0, 0) _ hd Tryd.under8 rfl HSZ.out ?_) | (refine wpList_store_row rfl 40 (.tmp 2) (.tmp 15) rfl (w.heap.size + 1) rfl (cellsU (stateOf x).list) _ 40 rfl hr HCD.out HSZ.out (cellsU_one _) ?_; intro w9 hg9 hr9 hz9))
      refine bodyPost_ret (v := .agg (cellsU (stateOf x).list)) (results_cell_row rfl _ _ (w.heap.size + 1) 40 _ (0, 0) _ rfl hr9 Tryd.under8 rfl HSZ.out) rfl ⟨rfl, ?_⟩
      exact hb.grown hg9 hb.size (fun k hk => by cases hk; omega)
end Go.Proofs.YtibogbmpcahjcaaDoor

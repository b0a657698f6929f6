/- crossbarref03.Padding: the padding of a message of n bytes. Conditions: n is at most 2^45. -/
import Derived.Test.YthhlfcbkggahmaaDoorSum
import Derived.Test.YthhlfcbkggahmaaDoorAppStr
namespace Go.Proofs.YthhlfcbkggahmaaDoor
open Go.RowKit
set_option maxHeartbeats 1000000 in
theorem pad_any (n : Nat) (w : World) (hl : n ≤ 35184372088832) :
    Calls Tryd.prog 51 #[.int .i64 (n : Int)] w fun e w' => ∃ v', e = .returned v' ∧ OwnB w' w.heap.size v' (padding n) ∧ Below w.heap.size w w' := by
  have ho1 := OwnB.fresh w [128] (by decide)
  have hb1 : Below w.heap.size w (w.alloc (.cells (cellsB [128]) 5)) := (Below.refl _ _).alloc (Nat.le_refl _) _
  have hpz : padZeros n ≤ 63 := by unfold padZeros; omega
  go_enter Tryd.func51, Tryd.ntmps51
  go_wp2
  go_loopw [3] (fun v wr => ∃ z g c m : Nat, Hid (m = 1 + z) ∧ z ≤ padZeros n ∧ v = .slice (some ⟨g, 0, none⟩) m c ∧ OwnB wr w.heap.size v ([128] ++ List.replicate z 0) ∧ Below w.heap.size w wr) (fun v _ => 200 - lenOf v)
  case atStart => exact ⟨0, w.heap.size, 1, 1, rfl, by omega, rfl, ho1, hb1⟩
  case round =>
    clear ho1 hb1
    obtain ⟨z, g, c, m, hm, hz, rfl, ho, hb⟩ := hrel
    have hm2 : m ≤ 64 := by have := hm.out; omega
    by_cases hlt : z < padZeros n
    · have ht : ¬ ((n : Int) + (m : Int)) % 64 = 56 := by have := hm.out; unfold padZeros at hlt; omega
      go_wp2_with (at_builtin; refine wpList_append_bytes rfl (.tmp 13) (.tmp 14) rfl w.heap.size _ _ ([128] ++ List.replicate z 0) [0] (fun _ => True) rfl (ho.alloc _) rfl (one_byte _ 0 _ rfl) (by simp; omega) (by have := hb.size; simp; omega) ?_; intro v6 w6 ho6 hg6)
      have hb6 : Below w.heap.size w w6 := (hb.alloc hb.size _).grown hg6 (by have := hb.size; simp; omega) (fun k hk => ho.ownBlock k hk)
      rw [List.append_assoc _ _ [0], show List.replicate z (0 : UInt8) ++ [0] = List.replicate (z + 1) 0 by rw [List.replicate_succ']] at ho6
      obtain ⟨g6, c6, ev6, _⟩ := ho6.form (by simp)
      obtain ⟨n6, en6⟩ : ∃ x, ([128] ++ List.replicate (z + 1) (0 : UInt8)).length = x := ⟨_, rfl⟩
      rw [en6] at ev6
      subst ev6
      have hn6 : Hid (n6 = 1 + (z + 1)) := by
        show n6 = _
        simp only [List.length_append, List.length_cons, List.length_nil, List.length_replicate] at en6
        omega
      go_roundw
      case rel => exact ⟨z + 1, g6, c6, n6, hn6, by omega, rfl, ho6, hb6⟩
      case measure => have := hm.out; have := hn6.out; simp only [lenOf]; omega
    · have hze : z = padZeros n := by omega
      have ht : ((n : Int) + (m : Int)) % 64 = 56 := by have := hm.out; unfold padZeros at hze; omega
      obtain ⟨t0, et0⟩ : ∃ t0, [128] ++ List.replicate z (0 : UInt8) = t0 := ⟨_, rfl⟩
      have ht0 : Hid (t0 = [128] ++ List.replicate (padZeros n) 0) := by show t0 = _; rw [← et0, hze]
      rw [et0] at ho
      have hnn : Hid (m = t0.length) := by show m = _; rw [hm.out, ← et0]; simp; omega
      clear et0 hze
      go_wp2
      clear ht
      go_loopw [5, 3] (fun t v wr => ∃ i g c m : Nat, i ≤ 8 ∧ t = .int .i64 (7 - (i : Int)) ∧ Hid (m = t0.length + i) ∧ v = .slice (some ⟨g, 0, none⟩) m c ∧ OwnB wr w.heap.size v (t0 ++ (lenBytes n).take i) ∧ Below w.heap.size w wr) (fun t _ _ => (intOf t + 1).toNat)
      case atStart => exact ⟨0, g, c, m, by omega, rfl, hnn, rfl, by simpa using ho, hb⟩
      case round =>
        clear ho hb
        obtain ⟨i, g', c', m', hi, rfl, hn', rfl, ho, hb⟩ := hrel
        have hm2' : m' ≤ 200 := by have := hn'.out; have := hnn.out; omega
        have htl : t0.length ≤ 64 := by have := hnn.out; omega
        by_cases hlt8 : i < 8
        · obtain ⟨k, hk⟩ : ∃ k : Nat, i + k = 7 := ⟨7 - i, by omega⟩
          have ek : (7 : Int) - (i : Int) = (k : Int) := by omega
          rw [ek]
          have hE : (n : Int) * 8 / 2 ^ (8 * k) % 256 = Y (lenB n i) := by
            have h := lenB_eq n i hl
            rwa [show 56 - 8 * i = 8 * k by omega] at h
          have hk7 : k ≤ 7 := by omega
          have HK := Lib.hid hk
          have HEK := Lib.hid ek
          clear hk ek
          go_wp2_with (at_builtin; refine wpList_append_bytes rfl (.tmp 23) (.tmp 30) rfl w.heap.size _ _ (t0 ++ (lenBytes n).take i) [lenB n i] (fun _ => True) rfl (ho.alloc _) rfl (one_byte _ _ _ rfl) (by simp [lenBytes]; omega) (by have := hb.size; simp; omega) ?_; intro v6 w6 ho6 hg6)
          have hb6 : Below w.heap.size w w6 := (hb.alloc hb.size _).grown hg6 (by have := hb.size; simp; omega) (fun k hk => ho.ownBlock k hk)
          rw [List.append_assoc, ← lenBytes_take _ _ hlt8] at ho6
          obtain ⟨g6, c6, ev6, _⟩ := ho6.form (by rw [lenBytes_take _ _ hlt8]; simp; omega)
          obtain ⟨n6, en6⟩ : ∃ x, (t0 ++ (lenBytes n).take (i + 1)).length = x := ⟨_, rfl⟩
          rw [en6] at ev6
          subst ev6
          have hn6 : Hid (n6 = t0.length + (i + 1)) := by
            show n6 = _
            rw [← en6, List.length_append, List.length_take, show (lenBytes n).length = 8 from rfl]; omega
          go_roundw
          case rel => exact ⟨i + 1, g6, c6, n6, by omega, (by have := HK.out; refine congrArg (Value.int .i64) ?_; omega), hn6, rfl, ho6, hb6⟩
          case measure => simp only [intOf]; omega
        · obtain rfl : i = 8 := by omega
          rw [lenBytes_all _ _ rfl] at ho
          have hp : t0 ++ lenBytes n = padding n := by rw [ht0.out]; unfold padding; rfl
          rw [hp] at ho
          clear hp
          go_wp2
          go_ret
          exact ⟨_, rfl, ho, hb⟩
end Go.Proofs.YthhlfcbkggahmaaDoor

/- sha256's each with the state's block: all whole blocks are taken into the state, the rest is handed back. Conditions: the bytes don't lie in the state's row. -/
import Derived.Test.YthhlfcbkggahmaaDoorBlock
namespace Go.Proofs.YthhlfcbkggahmaaDoor
open Go.RowKit
/-- A slice value that reads as these bytes, which lie in no block that is shut out. -/
def Bytes (w : World) (v : Value) (l : List UInt8) (ok : Nat → Prop) : Prop :=
  ∃ a cap, v = .slice a l.length cap ∧ l.length ≤ cap ∧ cap ≤ 9223372036854775807 ∧ ((l = [] ∧ (a = none → cap = 0)) ∨ ∃ b off, a = some ⟨b, off, none⟩ ∧ ok b ∧ BytesAt w b off l)
def lenOf : Value → Nat | .slice _ n _ => n | _ => 0
theorem grown_bytesAt {w w' : World} {bs b off : Nat} {l : List UInt8} (h : BytesAt w b off l) (hg : w.grownBy w' (some bs)) (hne : b ≠ bs) : BytesAt w' b off l := fun i hi => by
  have hb : b < w.heap.size := block_lt_of_cell (h i hi)
  rw [World.cell?_of_block (w := w) (hg.block b hb (fun e => hne (Option.some.inj e)))]; exact h i hi
theorem grown_KFact {w w' : World} {bs : Nat} (h : KFact w) (hg : w.grownBy w' (some bs)) (hne : 0 ≠ bs) : KFact w' := fun t ht => by
  rw [World.cell?_of_block (w := w) (hg.block 0 h.lt (fun e => hne (Option.some.inj e)))]; exact h t ht
theorem grown_trans {w w1 w2 : World} {r : Option Nat} (h : w.grownBy w1 r) (k : w1.grownBy w2 r) : w.grownBy w2 r :=
  ⟨k.os.trans h.os, k.tape.trans h.tape, k.output.trans h.output, Nat.le_trans h.size k.size, fun i hi hne => (k.block i (Nat.lt_of_lt_of_le hi h.size) hne).trans (h.block i hi hne)⟩
theorem grown_refl (w : World) (r : Option Nat) : w.grownBy w r := ⟨rfl, rfl, rfl, Nat.le_refl _, fun _ _ _ => rfl⟩
theorem BytesAt.take {w : World} {b off : Nat} {l : List UInt8} (h : BytesAt w b off l) (n : Nat) : BytesAt w b off (l.take n) := fun i hi => by
  rw [List.length_take] at hi
  rw [h i (by omega)]; unfold by8
  rw [List.getD_eq_getElem?_getD, List.getD_eq_getElem?_getD, List.getElem?_take, if_pos (by omega)]
theorem BytesAt.drop {w : World} {b off : Nat} {l : List UInt8} (h : BytesAt w b off l) (n : Nat) : BytesAt w b (off + n) (l.drop n) := fun i hi => by
  rw [List.length_drop] at hi
  rw [Nat.add_assoc, h (n + i) (by omega)]; unfold by8
  rw [List.getD_eq_getElem?_getD, List.getD_eq_getElem?_getD, List.getElem?_drop]
theorem blocks_succ (n : Nat) (s : St) (b : List UInt8) : blocks (n + 1) s b = compress (blocks n s b) ((b.drop (64 * n)).take 64) := by
  induction n generalizing s b with
  | zero => simp [blocks]
  | succ n ih =>
    rw [blocks, ih, List.drop_drop, ← blocks]
    rw [show 64 + 64 * n = 64 * (n + 1) by omega]
set_option maxHeartbeats 400000 in
theorem each_any (s : St) (l : List UInt8) (v : Value) (bs : Nat) (w : World) (hv : Bytes w v l (· ≠ bs)) (hs : Row w bs 63 (cellsU s.list)) (hK : KFact w) (hk : 0 ≠ bs) :
    Calls Tryd.prog 46 #[v, .func (.func 44) #[.pointer (some ⟨bs, 0, none⟩)] #[]] w
      fun e w' => ∃ v', e = .returned v' ∧ Bytes w' v' (l.drop (64 * (l.length / 64))) (· ≠ bs) ∧ w.grownBy w' (some bs) ∧ Row w' bs 63 (cellsU (blocks (l.length / 64) s l).list) := by
  obtain ⟨a0, cap0, rfl, hc0, hc1, ha⟩ := hv
  go_enter Tryd.func46, Tryd.ntmps46
  go_wp2
  go_loopw [0] (fun v wr => ∃ m : Nat, 64 * m ≤ l.length ∧ Bytes wr v (l.drop (64 * m)) (· ≠ bs) ∧ w.grownBy wr (some bs) ∧ Row wr bs 63 (cellsU (blocks m s l).list)) (fun v _ => lenOf v)
  case atStart => exact ⟨0, by omega, ⟨_, _, rfl, hc0, hc1, ha⟩, grown_refl _ _, hs⟩
  case round =>
    clear ha hc0 hc1
    obtain ⟨m, hm, ⟨a, cap, rfl, hc0, hc1, ha⟩, hG, hs'⟩ := hrel
    have hlen : (l.drop (64 * m)).length = l.length - 64 * m := List.length_drop
    by_cases hlt : 64 ≤ (l.drop (64 * m)).length
    · rcases ha with ⟨ha, _⟩ | ⟨b, off, rfl, hne, hb⟩
      · rw [ha] at hlt; simp at hlt
      · obtain ⟨n, hn⟩ : ∃ n, (l.drop (64 * m)).length = n := ⟨_, rfl⟩
        rw [hn] at hlt hc0 ⊢
        have HN := Lib.hid hn
        have HL := Lib.hid hlen
        clear hn hlen
        have hKr := grown_KFact hK hG hk
        have hblk := hb.take 64
        have hblen : ((l.drop (64 * m)).take 64).length = 64 := by rw [List.length_take]; have := HN.out; omega
        have hdd : (l.drop (64 * m)).drop 64 = l.drop (64 * (m + 1)) := by rw [List.drop_drop, show 64 * m + 64 = 64 * (m + 1) by omega]
        have hdl : (l.drop (64 * (m + 1))).length = n - 64 := by rw [← hdd, List.length_drop, HN.out]
        have hm1 : 64 * (m + 1) ≤ l.length := by have := HN.out; have := HL.out; omega
        have HD := Lib.hid hdl
        have HDD := Lib.hid hdd
        have HB := Lib.hid hblen
        have HS := Lib.hid (blocks_succ m s l)
        clear hdl hdd hblen
        by_cases hcp : cap = 64
        · subst hcp
          obtain rfl : n = 64 := by omega
          go_wp2_with fail
          refine (block_any (blocks m s l) _ bs b off 64 _ HB.out (by omega) hc1 hs' hblk hKr).mono ?_
          rintro e w1 ⟨rfl, hg1, hs1⟩
          go_wp2
          go_roundw
          case rel =>
            refine ⟨m + 1, hm1, ⟨_, _, by rw [HD.out], by rw [HD.out]; omega, by omega, .inl ⟨List.eq_nil_of_length_eq_zero (by rw [HD.out]), fun h => by cases h⟩⟩, grown_trans hG hg1, by rw [HS.out]; exact hs1⟩
          case measure => simp [lenOf]
        · go_wp2_with fail
          refine (block_any (blocks m s l) _ bs b off cap _ HB.out (by omega) hc1 hs' hblk hKr).mono ?_
          rintro e w1 ⟨rfl, hg1, hs1⟩
          go_wp2
          go_roundw
          case rel =>
            refine ⟨m + 1, hm1, ⟨_, _, by rw [HD.out], by rw [HD.out]; omega, by omega, .inr ⟨b, off + 64, rfl, hne, ?_⟩⟩, grown_trans hG hg1, by rw [HS.out]; exact hs1⟩
            rw [← HDD.out]; exact grown_bytesAt (hb.drop 64) hg1 hne
          case measure => simp [lenOf]; omega
    · obtain ⟨n, hn⟩ : ∃ n, (l.drop (64 * m)).length = n := ⟨_, rfl⟩
      have HE : Hid (m = l.length / 64) := by show m = _; omega
      rw [hn] at hlt hc0 ⊢
      have HN := Lib.hid hn
      clear hn hlen
      go_wp2
      go_ret
      refine ⟨_, rfl, ?_, hG, ?_⟩
      · rw [← HE.out]; exact ⟨a, cap, by rw [HN.out]; rfl, by rw [HN.out]; exact hc0, hc1, ha⟩
      · rw [← HE.out]; exact hs'
end Go.Proofs.YthhlfcbkggahmaaDoor

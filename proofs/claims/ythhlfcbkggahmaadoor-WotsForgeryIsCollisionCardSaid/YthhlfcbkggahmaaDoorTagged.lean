/- sha256.Tagged, Pair and Chain return what the plain definitions say. Conditions: lengths below 2^44, the constants lie in their variable. -/
import Derived.Test.YthhlfcbkggahmaaDoorConcat
import Derived.Lib.ConvBytes
namespace Go.Proofs.YthhlfcbkggahmaaDoor
open Go.RowKit
theorem Tryd.underStr : Tryd.prog.underlying 9 = some .string := by kernel_rfl
theorem Tryd.underU8 : Tryd.prog.underlying 5 = some (.int .u8) := by kernel_rfl
/-- A string is made into bytes. -/
theorem wpList_conv_string {w : World} {ops : Array Oper} {rest : List Oper} {o : Oper} {a : Act} {Q : Exit → Act → World → Prop} (hgd : o.guard = none) (x : Operand)
    (ho : o.op = .convert 9 29 x) (s : ByteArray) (hx : a.eval x = .string s) (hs : s.size ≤ 9223372036854775807)
    (h : ∀ v' w', Bytes w' v' s.data.toList (fun _ => True) → Below w.heap.size w w' → w'.heap.size = w.heap.size + 1 → wpList Tryd.prog ops Q rest (a.put o.dst v') w') : wpList Tryd.prog ops Q (o :: rest) a w := by
  refine wpList_plain hgd fun K hK => ?_
  have hr := Lib.run_convert_string_bytes (P := Tryd.prog) w 9 29 5 s Tryd.underStr Tryd.underB Tryd.underU8
  unfold Oper.wp execOp
  simp only [ho, hx, Sem.run_bind, hr, Result.andThen_ok]
  have hsl : s.data.toList.length = s.size := rfl
  refine hK _ _ (h _ _ ⟨_, _, by rw [hsl], by rw [hsl]; exact grownCap_ge w s.size 0 _, by have := grownCap_le_maxLen w s.size 0 5 (by unfold maxLen; exact hs); unfold maxLen at this; exact this, .inr ⟨w.heap.size, 0, rfl, trivial, fun i hi => ?_⟩⟩ ?_ (Lib.bytesWorld_size w _ s))
  · rw [Nat.zero_add, Lib.bytesWorld_cell w _ s i (by rw [← hsl]; exact hi)]; rfl
  · exact ⟨rfl, rfl, rfl, by rw [Lib.bytesWorld_size]; omega, fun k hk => Lib.bytesWorld_at_old w _ s k hk⟩
theorem sumOf_len (l : List UInt8) : (sumOf l).length = 32 := digestOf_len _
theorem parts3 {w w2 : World} {x : UInt8} {c : Int} {v1 v2 v3 : Value} {t b : List UInt8} {ok : Nat → Prop} (hc : c = Y x) (hv1 : v1 = .slice (some ⟨w.heap.size, 0, none⟩) 1 1) (hv : Bytes w v3 b ok)
    (hb2 : Below (w.alloc (.cells #[.int .u8 c] 5)).heap.size (w.alloc (.cells #[.int .u8 c] 5)) w2) (hv2 : Bytes w2 v2 t (fun _ => True)) (o : Obj) :
    ∀ p ∈ [(v1, [x]), (v2, t), (v3, b)], Bytes (w2.alloc o) p.1 p.2 (fun _ => True) := by
  have h1 : Bytes w2 v1 [x] (fun _ => True) := by subst hv1; exact ((one_byte w x c hc).later hb2).imp fun _ _ => trivial
  have h3 : Bytes w2 v3 b (fun _ => True) := (hv.later (((Below.refl w.heap.size w).alloc (Nat.le_refl _) _).trans (hb2.mono (by simp)))).imp fun _ _ => trivial
  have hbl : Below w2.heap.size w2 (w2.alloc o) := (Below.refl _ _).alloc (Nat.le_refl _) _
  intro p hp
  simp only [List.mem_cons, List.not_mem_nil, or_false] at hp
  rcases hp with rfl | rfl | rfl
  · exact (h1.later hbl).imp fun _ _ => trivial
  · exact (hv2.later hbl).imp fun _ _ => trivial
  · exact (h3.later hbl).imp fun _ _ => trivial
theorem Tryd.sizeD_of (l : List UInt8) (h : l.length = 32) : (Tryd.prog.info? 23).map (·.size) = some (cellsB l).size := by rw [cellsB_size, h]; exact Tryd.sizeD
theorem taggedOf_len (t b : List UInt8) : (taggedOf t b).length = 32 := sumOf_len _
theorem pairOf_len (a b : List UInt8) : (pairOf a b).length = 32 := sumOf_len _
set_option maxHeartbeats 1000000 in
theorem tagged_any (s : ByteArray) (v : Value) (b : List UInt8) (ok : Nat → Prop) (w : World) (hs : s.size ≤ 9223372036854775807) (hv : Bytes w v b ok) (hK : KFact w) (hl : b.length ≤ 17592186044416) :
    Calls Tryd.prog 26 #[.string s, v] w fun e w' => e = .returned (.agg (cellsB (taggedOf s.data.toList b))) ∧ Below w.heap.size w w' := by
  have hKlt := hK.lt
  obtain ⟨av, cv, rfl⟩ : ∃ a c, v = .slice a b.length c := by obtain ⟨a, c, h, _⟩ := hv; exact ⟨a, c, h⟩
  have hrow0 := Row.new w (cellsB (List.replicate 32 0)) 23
  have hcase : ∃ t : ByteArray, t.size ≤ 255 ∧ s.data.toList.take 255 = t.data.toList ∧ ((s.size ≤ 255 ∧ s = t) ∨ (¬ s.size ≤ 255 ∧ s.extract 0 255 = t)) := by
    by_cases h : s.size ≤ 255
    · exact ⟨s, h, List.take_of_length_le h, .inl ⟨h, rfl⟩⟩
    · refine ⟨s.extract 0 255, by rw [ByteArray.size_extract]; omega, ?_, .inr ⟨h, rfl⟩⟩
      rw [ByteArray.data_extract, Array.toList_extract]; simp [List.extract]
  obtain ⟨t, h255, htk, hcase⟩ := hcase
  have HT := Lib.hid htk
  have hlen : (t.size : Int) = Y (UInt8.ofNat t.size) := by
    unfold Y; rw [UInt8.toNat_ofNat', Nat.mod_eq_of_lt (by omega)]
  have hv13 := one_byte (w.alloc (.cells (cellsB (List.replicate 32 0)) 23)) (UInt8.ofNat t.size) t.size hlen
  have HL := Lib.hid hlen
  clear hlen htk
  rcases hcase with ⟨hc, rfl⟩ | ⟨hc, et⟩
  · obtain ⟨t, rfl⟩ : ∃ t, t = s := ⟨s, rfl⟩
    go_enter Tryd.func26, Tryd.ntmps26
    go_wp2_with (refine wpList_conv_string rfl (.tmp 14) rfl t rfl (by omega) ?_; intro v2 w2 hv2 hb2 hz2; obtain ⟨a2, c2, rfl, _⟩ := id hv2)
    have hB2 : Below w.heap.size w w2 := (((Below.refl w.heap.size w).alloc (Nat.le_refl _) _).alloc (by simp) _).trans (hb2.mono (by simp; omega))
    have hD2 : Row w2 w.heap.size 23 (cellsB (List.replicate 32 0)) := (hrow0.alloc _).below hb2 (by simp; omega)
    have hps := parts3 (t := t.data.toList) (v1 := .slice (some ⟨w.heap.size + 1, 0, none⟩) 1 1) HL.out (by simp) (hv.later ((Below.refl _ w).alloc (Nat.le_refl _) (.cells (cellsB (List.replicate 32 0)) 23))) hb2 hv2 (.cells #[.slice (some ⟨w.heap.size + 1, 0, none⟩) 1 1, .slice a2 t.size c2, .slice av b.length cv] 29)
    have hrw : Row (w2.alloc (.cells #[.slice (some ⟨w.heap.size + 1, 0, none⟩) 1 1, .slice a2 t.size c2, .slice av b.length cv] 29)) (w.heap.size + 1 + 1 + 1) 29 #[.slice (some ⟨w.heap.size + 1, 0, none⟩) 1 1, .slice a2 t.size c2, .slice av b.length cv] := by
      have h := Row.new w2 #[.slice (some ⟨w.heap.size + 1, 0, none⟩) 1 1, .slice a2 t.size c2, .slice av b.length cv] 29
      rw [hz2] at h; simpa using h
    have hD3 := hD2.alloc (.cells #[.slice (some ⟨w.heap.size + 1, 0, none⟩) 1 1, .slice a2 t.size c2, .slice av b.length cv] 29)
    have hB3 := hB2.alloc hB2.size (.cells #[.slice (some ⟨w.heap.size + 1, 0, none⟩) 1 1, .slice a2 t.size c2, .slice av b.length cv] 29)
    have hsl : t.data.toList.length = t.size := rfl
    refine (concat_any [(Value.slice (some ⟨w.heap.size + 1, 0, none⟩) 1 1, [UInt8.ofNat t.size]), (Value.slice a2 t.size c2, t.data.toList), (Value.slice av b.length cv, b)] _ 3 _ rfl (by omega) hrw hps (by simp [sumLen]; omega)).mono ?_
    rintro e w4 ⟨v4, rfl, ho4, hb4⟩
    have hB4 := hB3.trans (hb4.mono hB3.size)
    have hD4 := hD3.below hb4 hD3.lt
    have hv4 := ho4.bytes (fun _ => True) (fun _ _ => trivial)
    have hfl : flatB [(Value.slice (some ⟨w.heap.size + 1, 0, none⟩) 1 1, [UInt8.ofNat t.size]), (Value.slice a2 t.size c2, t.data.toList), (Value.slice av b.length cv, b)] = [UInt8.ofNat t.size] ++ t.data.toList ++ b := by
      simp [flatB]
    rw [hfl] at hv4
    have hsum : Hid (sumOf ([UInt8.ofNat t.size] ++ t.data.toList ++ b) = taggedOf t.data.toList b) := by
      show _ = _; unfold taggedOf; rw [HT.out]; rfl
    have hll : ([UInt8.ofNat t.size] ++ t.data.toList ++ b).length ≤ 35184372088832 := by simp; omega
    clear hfl ho4 hb4 hps hrw hD3 hB3 hb2 hv2
    go_wp2_with fail
    refine (sum_any _ v4 _ w4 hv4 (hK.below hB4 hKlt) hll).mono ?_
    rintro e w5 ⟨rfl, hb5⟩
    rw [hsum.out]
    have hD5 := hD4.below hb5 hD4.lt
    have hB5 := hB4.trans (hb5.mono hB4.size)
    have hcs := cellsB_size (taggedOf t.data.toList b)
    rw [taggedOf_len] at hcs
    have HCS := Lib.hid hcs
    have HSZ := Lib.hid (Tryd.sizeD_of _ (taggedOf_len t.data.toList b))
    clear hcs hD4 hB4 hb5 hv4 hll
    go_wp2_with (refine wpList_store_row rfl 23 (.tmp 4) (.tmp 19) rfl w.heap.size rfl (cellsB (taggedOf t.data.toList b)) _ 23 rfl hD5 HCS.out HSZ.out (cellsB_one _) ?_; intro w6 hg6 hr6 hz6)
    refine bodyPost_ret (v := .agg (cellsB (taggedOf t.data.toList b))) (results_cell_row rfl _ _ w.heap.size 23 _ (0, 0) _ rfl hr6 Tryd.underD rfl HSZ.out) rfl ⟨rfl, ?_⟩
    exact hB5.grown hg6 hB5.size (fun k hk => by cases hk; exact Nat.le_refl _)
  · go_enter Tryd.func26, Tryd.ntmps26
    go_wp2_with (refine wpList_conv_string rfl (.tmp 14) rfl t rfl (by omega) ?_; intro v2 w2 hv2 hb2 hz2; obtain ⟨a2, c2, rfl, _⟩ := id hv2)
    have hB2 : Below w.heap.size w w2 := (((Below.refl w.heap.size w).alloc (Nat.le_refl _) _).alloc (by simp) _).trans (hb2.mono (by simp; omega))
    have hD2 : Row w2 w.heap.size 23 (cellsB (List.replicate 32 0)) := (hrow0.alloc _).below hb2 (by simp; omega)
    have hps := parts3 (t := t.data.toList) (v1 := .slice (some ⟨w.heap.size + 1, 0, none⟩) 1 1) HL.out (by simp) (hv.later ((Below.refl _ w).alloc (Nat.le_refl _) (.cells (cellsB (List.replicate 32 0)) 23))) hb2 hv2 (.cells #[.slice (some ⟨w.heap.size + 1, 0, none⟩) 1 1, .slice a2 t.size c2, .slice av b.length cv] 29)
    have hrw : Row (w2.alloc (.cells #[.slice (some ⟨w.heap.size + 1, 0, none⟩) 1 1, .slice a2 t.size c2, .slice av b.length cv] 29)) (w.heap.size + 1 + 1 + 1) 29 #[.slice (some ⟨w.heap.size + 1, 0, none⟩) 1 1, .slice a2 t.size c2, .slice av b.length cv] := by
      have h := Row.new w2 #[.slice (some ⟨w.heap.size + 1, 0, none⟩) 1 1, .slice a2 t.size c2, .slice av b.length cv] 29
      rw [hz2] at h; simpa using h
    have hD3 := hD2.alloc (.cells #[.slice (some ⟨w.heap.size + 1, 0, none⟩) 1 1, .slice a2 t.size c2, .slice av b.length cv] 29)
    have hB3 := hB2.alloc hB2.size (.cells #[.slice (some ⟨w.heap.size + 1, 0, none⟩) 1 1, .slice a2 t.size c2, .slice av b.length cv] 29)
    have hsl : t.data.toList.length = t.size := rfl
    refine (concat_any [(Value.slice (some ⟨w.heap.size + 1, 0, none⟩) 1 1, [UInt8.ofNat t.size]), (Value.slice a2 t.size c2, t.data.toList), (Value.slice av b.length cv, b)] _ 3 _ rfl (by omega) hrw hps (by simp [sumLen]; omega)).mono ?_
    rintro e w4 ⟨v4, rfl, ho4, hb4⟩
    have hB4 := hB3.trans (hb4.mono hB3.size)
    have hD4 := hD3.below hb4 hD3.lt
    have hv4 := ho4.bytes (fun _ => True) (fun _ _ => trivial)
    have hfl : flatB [(Value.slice (some ⟨w.heap.size + 1, 0, none⟩) 1 1, [UInt8.ofNat t.size]), (Value.slice a2 t.size c2, t.data.toList), (Value.slice av b.length cv, b)] = [UInt8.ofNat t.size] ++ t.data.toList ++ b := by
      simp [flatB]
    rw [hfl] at hv4
    have hsum : Hid (sumOf ([UInt8.ofNat t.size] ++ t.data.toList ++ b) = taggedOf s.data.toList b) := by
      show _ = _; unfold taggedOf; rw [HT.out]; rfl
    have hll : ([UInt8.ofNat t.size] ++ t.data.toList ++ b).length ≤ 35184372088832 := by simp; omega
    clear hfl ho4 hb4 hps hrw hD3 hB3 hb2 hv2
    go_wp2_with fail
    refine (sum_any _ v4 _ w4 hv4 (hK.below hB4 hKlt) hll).mono ?_
    rintro e w5 ⟨rfl, hb5⟩
    rw [hsum.out]
    have hD5 := hD4.below hb5 hD4.lt
    have hB5 := hB4.trans (hb5.mono hB4.size)
    have hcs := cellsB_size (taggedOf s.data.toList b)
    rw [taggedOf_len] at hcs
    have HCS := Lib.hid hcs
    have HSZ := Lib.hid (Tryd.sizeD_of _ (taggedOf_len s.data.toList b))
    clear hcs hD4 hB4 hb5 hv4 hll
    go_wp2_with (refine wpList_store_row rfl 23 (.tmp 4) (.tmp 19) rfl w.heap.size rfl (cellsB (taggedOf s.data.toList b)) _ 23 rfl hD5 HCS.out HSZ.out (cellsB_one _) ?_; intro w6 hg6 hr6 hz6)
    refine bodyPost_ret (v := .agg (cellsB (taggedOf s.data.toList b))) (results_cell_row rfl _ _ w.heap.size 23 _ (0, 0) _ rfl hr6 Tryd.underD rfl HSZ.out) rfl ⟨rfl, ?_⟩
    exact hB5.grown hg6 hB5.size (fun k hk => by cases hk; exact Nat.le_refl _)
end Go.Proofs.YthhlfcbkggahmaaDoor

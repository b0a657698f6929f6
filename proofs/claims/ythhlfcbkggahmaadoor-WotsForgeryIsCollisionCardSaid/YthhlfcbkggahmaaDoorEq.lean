/- == and != between two digests: whether their bytes are the same. Conditions: both have 32 bytes. -/
import Derived.Test.YthhlfcbkggahmaaDoorInv
import Derived.Test.YthhlfcbkggahmaaDoorChain
namespace Go.Proofs.YthhlfcbkggahmaaDoor
open Go.RowKit
section
variable {P : Program}
theorem run_part_byte (w : World) (e : TypeId) (l : List UInt8) (i : Nat) (he : P.underlying e = some (.int .u8)) (hi : i < l.length) :
    (part e (cellsB l) i).run P w = .ok (.int .u8 (by8 l i)) w := by
  have hagg : (isAgg e).run P w = .ok false w := by
    unfold isAgg; rw [Sem.run_bind, run_underlying he w]; rfl
  simp only [part, Sem.run_bind, hagg, Result.andThen_ok, Bool.false_eq_true, if_false, cellsB_get l i hi, Sem.run_pure]
theorem Y_inj {a b : UInt8} (h : Y a = Y b) : a = b := by
  unfold Y at h; exact UInt8.toNat_inj.1 (by omega)
theorem drop_step {l : List UInt8} {k : Nat} (h : k < l.length) : l.drop k = l.getD k 0 :: l.drop (k + 1) := by
  rw [List.drop_eq_getElem_cons h, List.getD_eq_getElem?_getD, List.getElem?_eq_getElem h]; rfl
theorem run_equalIn_bytes (w : World) (d : Nat) (t e : TypeId) (n : Nat) (ht : P.underlying t = some (.array n e)) (he : P.underlying e = some (.int .u8)) (hsz : (P.info? e).map (·.size) = some 1)
    (xs ys : List UInt8) (hx : xs.length = n) (hy : ys.length = n) : (Op.equalIn (d + 1 + 1) t (.agg (cellsB xs)) (.agg (cellsB ys))).run P w = .ok (decide (xs = ys)) w := by
  have hso : (sizeOf e).run P w = .ok 1 w := by
    cases hp : P.info? e with
    | none => simp [hp] at hsz
    | some i => have : i.size = 1 := by simpa [hp] using hsz
                simp [sizeOf, typeInfo, hp, this]
  rw [Op.equalIn]
  simp only [Sem.run_bind, run_underlying ht, Result.andThen_ok, hso]
  rw [Std.Legacy.Range.forIn_eq_forIn_range']
  simp only [Std.Legacy.Range.size, Nat.sub_zero, Nat.add_sub_cancel, Nat.div_one]
  have key : ∀ (m k : Nat), k + m = n → ((forIn (List.range' k m) ((none, ()) : Option Bool × PUnit) (fun i r => do
      let __do_lift ← part e (cellsB xs) (i * 1)
      let __do_lift_1 ← part e (cellsB ys) (i * 1)
      let __do_lift_2 ← Op.equalIn (d + 1) e __do_lift __do_lift_1
      if (!__do_lift_2) = true then pure (ForInStep.done (some false, ())) else pure (ForInStep.yield (none, ()))) : Sem (Option Bool × PUnit)).run P w)
      = .ok (if xs.drop k = ys.drop k then (none, ()) else (some false, ())) w := by
    intro m
    induction m with
    | zero =>
      intro k hk
      rw [List.drop_eq_nil_of_le (by omega), List.drop_eq_nil_of_le (by omega)]
      simp
    | succ m ih =>
      intro k hk
      rw [List.range'_succ, List.forIn_cons]
      have hkx : k < xs.length := by omega
      have hky : k < ys.length := by omega
      simp only [Sem.run_bind, Nat.mul_one, run_part_byte w e xs k he hkx, run_part_byte w e ys k he hky, Result.andThen_ok, run_equalIn_int w d e .u8 .u8 _ _ he, Sem.run_ite]
      have hd : (xs.drop k = ys.drop k) ↔ (by8 xs k = by8 ys k ∧ xs.drop (k + 1) = ys.drop (k + 1)) := by
        rw [drop_step hkx, drop_step hky, List.cons.injEq]
        exact ⟨fun ⟨h1, h2⟩ => ⟨by unfold by8; rw [h1], h2⟩, fun ⟨h1, h2⟩ => ⟨Y_inj h1, h2⟩⟩
      by_cases hb : by8 xs k = by8 ys k
      · have hbb : (!(by8 xs k == by8 ys k)) = false := by simp [hb]
        simp only [hbb, Bool.false_eq_true, if_false, Sem.run_pure, Result.andThen_ok]
        have := ih (k + 1) (by omega)
        simp only [Nat.mul_one] at this
        rw [this]
        by_cases h2 : xs.drop (k + 1) = ys.drop (k + 1)
        · rw [if_pos h2, if_pos (hd.2 ⟨hb, h2⟩)]
        · rw [if_neg h2, if_neg (fun h => h2 (hd.1 h).2)]
      · have hbb : (!(by8 xs k == by8 ys k)) = true := by simp [hb]
        simp only [hbb, if_true, Sem.run_pure, Result.andThen_ok]
        rw [if_neg (fun h => hb (hd.1 h).1)]
  have h0 := key n 0 (by omega)
  rw [h0]
  simp only [List.drop_zero, Result.andThen_ok]
  by_cases h : xs = ys
  · rw [if_pos h, decide_eq_true h]; rfl
  · rw [if_neg h, decide_eq_false h]; rfl
end
theorem Tryd.sizeU8 : (Tryd.prog.info? 5).map (·.size) = some 1 := by kernel_rfl
theorem eql_digest (xs ys : List UInt8) (hx : xs.length = 32) (hy : ys.length = 32) (w : World) :
    (binOp .eql 23 (.agg (cellsB xs)) (.agg (cellsB ys))).run Tryd.prog w = .ok (.bool (decide (xs = ys))) w := by
  rw [run_eql_struct, run_equalIn_bytes w 9998 23 5 32 Tryd.underD Tryd.underU8 Tryd.sizeU8 xs ys hx hy]; rfl
theorem neq_digest (xs ys : List UInt8) (hx : xs.length = 32) (hy : ys.length = 32) (w : World) :
    (binOp .neq 23 (.agg (cellsB xs)) (.agg (cellsB ys))).run Tryd.prog w = .ok (.bool (!decide (xs = ys))) w := by
  rw [run_neq_struct, run_equalIn_bytes w 9998 23 5 32 Tryd.underD Tryd.underU8 Tryd.sizeU8 xs ys hx hy]; rfl
end Go.Proofs.YthhlfcbkggahmaaDoor

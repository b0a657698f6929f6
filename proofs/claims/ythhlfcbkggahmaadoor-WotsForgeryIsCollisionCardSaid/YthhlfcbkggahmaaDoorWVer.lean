/- wots.Verify. Conditions: the digests have 32 bytes, the tables lie in their variables. -/
import Derived.Test.YthhlfcbkggahmaaDoorWPub
import Derived.Test.YthhlfcbkggahmaaDoorSteps
namespace Go.Proofs.YthhlfcbkggahmaaDoor
open Go.RowKit
def verB (pub d : List UInt8) (sig : List (List UInt8)) : Bool := decide (errS sig = 0) && decide (recR d sig = pub)
theorem wpList_load_row_on {P : Program} {ops : Array Oper} {rest : List Oper} {o : Oper} {a : Act} {w : World} {Q : Exit → Act → World → Prop} (ty : TypeId) (x : Operand) (ho : o.op = .load ty x) (hw : Region.wanted o (yielded ops a.tmps) = true) (g : Nat) (hx : a.eval x = .pointer (some ⟨g, 0, none⟩))
    (t : TypeId) (cs : Array Value) (fr : Nat × Nat) (d : TypeDesc) (hg : w.heap[g]? = some (.cells cs t fr)) (hu : P.underlying ty = some d) (hd : (match d with | .struct _ | .array _ _ => true | _ => false) = true) (hi : (P.info? ty).map (·.size) = some cs.size)
    (h : wpList P ops Q rest (a.put o.dst (.agg cs)) w) : wpList P ops Q (o :: rest) a w := by
  refine wpList_step fun K hK => ?_
  rw [if_pos hw]
  unfold Oper.wp execOp
  simp only [ho, hx, Instr.loadAt, Instr.sureAddr, Sem.run_bind, Sem.run_pure, Result.andThen_ok, run_loadVar_row w g t ty cs fr d hg hu hd hi]
  exact hK _ _ h
set_option maxRecDepth 10000 in
set_option maxHeartbeats 2000000 in
theorem verify_any (pub d : List UInt8) (sig : List (List UInt8)) (v : Value) (w : World) (hp : pub.length = 32) (hd : d.length = 32) (hv : Digs w v sig) (h32 : all32 sig) (hK : KFact w) :
    Calls Tryd.prog 22 #[.agg (cellsB pub), .agg (cellsB d), v] w fun e w' => e = .returned (.bool (verB pub d sig)) ∧ Below w.heap.size w w' := by
  have hlthK := hK.lt
  have hb0 : Below w.heap.size w ((w.alloc (.cells (cellsB pub) 23)).alloc (.cells (cellsB d) 23)) := ((Below.refl _ _).alloc (Nat.le_refl _) _).alloc (by simp) _
  have hp0 : Row ((w.alloc (.cells (cellsB pub) 23)).alloc (.cells (cellsB d) 23)) w.heap.size 23 (cellsB pub) := (Row.new w _ _).alloc _
  have hd0 : Row ((w.alloc (.cells (cellsB pub) 23)).alloc (.cells (cellsB d) 23)) (w.heap.size + 1) 23 (cellsB d) := by
    have h := Row.new (w.alloc (.cells (cellsB pub) 23)) (cellsB d) 23
    rwa [show (w.alloc (.cells (cellsB pub) 23)).heap.size = w.heap.size + 1 by simp] at h
  have HPU := Lib.hid hp
  have HD := Lib.hid hd
  have HSD := Lib.hid (Tryd.sizeD_of d hd)
  have HSP := Lib.hid (Tryd.sizeD_of pub hp)
  clear hp hd
  go_enter Tryd.func22, Tryd.ntmps22
  go_wp2_with (refine wpList_load_row rfl 23 (.tmp 4) rfl (w.heap.size + 1) rfl 23 (cellsB d) (0, 0) _ hd0 Tryd.underD rfl HSD.out ?_)
  refine (recover_any d sig v _ HD.out (hv.later hb0) h32 (hK.below hb0 hlthK)).mono ?_
  rintro e w1 ⟨rfl, hb1⟩
  have hB1 := hb0.trans (hb1.mono hb0.size)
  have hp1 := hp0.below hb1 hp0.lt
  clear hb0 hp0 hd0 hb1 hv
  have HV : Hid (verB pub d sig = (decide (errS sig = 0) && decide (recR d sig = pub))) := rfl
  have hrl := recR_len d sig
  obtain ⟨x, hx⟩ : ∃ x, recR d sig = x := ⟨_, rfl⟩
  obtain ⟨c, hc⟩ : ∃ c, errS sig = c := ⟨_, rfl⟩
  have hc1 : c = 0 ∨ c = 1 := by rw [← hc]; unfold errS; split <;> simp
  rw [hx] at hrl HV ⊢
  rw [hc] at HV ⊢
  have HX := Lib.hid hrl
  have HSX := Lib.hid (Tryd.sizeD_of x hrl)
  have HCX : Hid ((cellsB x).size = (cellsB (List.replicate 32 0)).size) := Lib.hid (by rw [cellsB_size, hrl]; rfl)
  clear hx hc hrl h32
  rcases hc1 with rfl | rfl
  · have hq := fun w => eqlB x pub HX.out HPU.out w
    generalize hbb : decide (x = pub) = bb at *
    clear hbb
    go_wp2_with (first | (refine wpList_store_row rfl 23 (.tmp 7) (.tmp 13) rfl w1.heap.size rfl (cellsB x) (cellsB (List.replicate 32 0)) 23 rfl (Row.new w1 _ _) HCX.out HSX.out (cellsB_one _) ?_; intro w2 hg2 hr2 hz2; have hp2 := (hp1.alloc (.cells (cellsB (List.replicate 32 0)) 23)).grown hg2 (fun e => (by have := Option.some.inj e; have := hp1.lt; omega)); have hq2 := hq w2) | (refine wpList_load_row_on 23 (.tmp 7) rfl rfl w1.heap.size rfl 23 (cellsB x) (0, 0) _ hr2 Tryd.underD rfl HSX.out ?_) | (refine wpList_load_row_on 23 (.tmp 3) rfl rfl w.heap.size rfl 23 (cellsB pub) (0, 0) _ hp2 Tryd.underD rfl HSP.out ?_))
    go_ret
    refine ⟨by rw [HV.out]; rfl, (hB1.alloc hB1.size _).grown hg2 (by have := hB1.size; simp; omega) (fun k hk => by cases hk; exact hB1.size)⟩
  · go_wp2_with (refine wpList_store_row rfl 23 (.tmp 7) (.tmp 13) rfl w1.heap.size rfl (cellsB x) (cellsB (List.replicate 32 0)) 23 rfl (Row.new w1 _ _) HCX.out HSX.out (cellsB_one _) ?_; intro w2 hg2 hr2 hz2)
    go_ret
    refine ⟨by rw [HV.out]; rfl, (hB1.alloc hB1.size _).grown hg2 (by have := hB1.size; simp; omega) (fun k hk => by cases hk; exact hB1.size)⟩
end Go.Proofs.YthhlfcbkggahmaaDoor

/- ShaPairIsTagged: the row and its tied card. No conditions of its own. -/
import Derived.Test.YtibogbmpcahjcaaDoorLawPT
import Derived.Test.YtibogbmpcahjcaaDoorRowWorld
import Derived.Test.YtibogbmpcahjcaaDoorTie
import Derived.Test.YtibogbmpcahjcaaDoorCards
import Derived.SevenTiedAt
import Derived.ChangeSame
import Derived.Carry
namespace Go.Proofs.YtibogbmpcahjcaaDoor
open Go.ChangeShapes Go.WideShapes Go.ChangeAt Go.RowKit
theorem shaPairIsTagged_met (os : Os) : laidMetH Tryd.prog [("crossbar/sha256.k", Rows.laid_crossbar_sha256_k)] ((laidWorld os).forCall (fun _ _ => 0) ⟨#[], #[.agg (cellsB (List.replicate 32 0)), .agg (cellsB (List.replicate 32 0))], []⟩).memory :=
  show laidMet Tryd.prog _ _ from laidMet_of_run' 8 (by kernel_rfl) (by kernel_rfl)
set_option maxRecDepth 100000 in
theorem shaPairIsTagged_lifted (os : Os) (started : os.Started) (H : Type) (enc : TypeId × Value → H) :
    ReturnsInHanded {} Tryd.checked os 10 .any (fun w args => (Rows.shaPairIsTaggedSpec.pre enc Tryd.prog Tryd.f10 [] false w args ∧ laidMetH Tryd.prog [("crossbar/sha256.k", Rows.laid_crossbar_sha256_k)] w) ∧ sizedMet enc Tryd.prog Tryd.f10 (OpenSpec.ofChange Rows.shaPairIsTaggedSpec) false w args)
      (Rows.shaPairIsTaggedSpec.post enc Tryd.prog Tryd.f10 false true false false) := by
  refine returnsInHanded_of_change_and (C := Tryd.checked) (X := fun w _ => laidMetH Tryd.prog [("crossbar/sha256.k", Rows.laid_crossbar_sha256_k)] w) (fun _ _ _ hh h => h.of_heap hh) Tryd.own started (by kernel_rfl) Tryd.func10
    (ChangeSpec.witness_at (enc := enc) (C := Tryd.checked) (os := os) (X := fun w _ => laidMetH Tryd.prog [("crossbar/sha256.k", Rows.laid_crossbar_sha256_k)] w) false (laidWorld os) #[.agg (cellsB (List.replicate 32 0)), .agg (cellsB (List.replicate 32 0))] 8 rfl (by kernel_rfl) (by kernel_rfl) (by kernel_rfl) (by kernel_rfl) (by kernel_rfl) (shaPairIsTagged_met os)) ?_
  intro W base args ds gs before hval0 hW _ _ hL _
  have hval : ∀ (j : Nat) t v, Tryd.f10.params[j]? = some t → args[j]? = some v → Value.okWide Tryd.prog W .any base t v := hval0
  have hW' := hW
  obtain ⟨p, q, hA0, hV, rfl, _, _⟩ := hW
  have hA : DataW.TrodAll enc Tryd.prog W 0 (fun _ => true) true Tryd.f10.params.toList args.toList ds p := hA0
  rw [Tryd.params10] at hA hval
  obtain ⟨rfl, rfl⟩ := trodVars_none hV
  obtain ⟨v0, v1, d0, d1, p0, p1, rfl, rfl, rfl, h0, h1⟩ := trodAll_two hA
  have hL' : laidMet Tryd.prog [("crossbar/sha256.k", Rows.laid_crossbar_sha256_k)] W := hL
  have hK := kfact_of_reads (Lib.laidMet.reads hL' (n := "crossbar/sha256.k") (d := Rows.laid_crossbar_sha256_k) (by simp))
  clear hA0 hval0 hV hL hL'
  obtain ⟨x0, rfl, hx0, _⟩ := open_digest h0
  obtain ⟨x1, rfl, hx1, _⟩ := open_digest h1
  refine (pairIsTagged_any x0 x1 W hx0 hx1 hK).mono fun e W' ⟨he, hw⟩ => ?_
  subst he
  exact ⟨_, rfl, law_post hW' rfl rfl (by rw [Tryd.params10]; simp only [List.mem_cons, List.not_mem_nil, or_false, forall_eq_or_imp, forall_eq]; exact ⟨⟨by kernel_rfl, of_decide_eq_true (by kernel_rfl)⟩, ⟨by kernel_rfl, of_decide_eq_true (by kernel_rfl)⟩⟩) rfl hw⟩
theorem shaPairIsTagged_row : Rows.ShaPairIsTaggedSaid :=
  OpenClaim.holds_of_wide 10 Tryd.f10 rfl rfl rfl rfl rfl rfl rfl ⟨rfl, rfl, rfl, rfl, rfl⟩ rfl rfl rfl rfl rfl (by kernel_rfl) Tryd.func10 (by kernel_rfl)
    (of_decide_eq_true (by kernel_rfl)) (by unfold Func.isWrapper; rw [if_neg (of_decide_eq_false (by kernel_rfl))]; exact ⟨rfl, rfl⟩)
    (fun os started H enc _ => shaPairIsTagged_lifted os started H enc)
theorem shaPairIsTagged_holds : Rows.ShaPairIsTaggedCardSaid :=
  Claim7.holds_tied_plain_at .later [] [.data] true Rows.shaPairIsTaggedCard.stood.harness false
    shaPairIsTagged_row (fun _ h => by cases h) (by kernel_rfl) (fun _ h => by cases h) shaPairIsTagged_row_tie rfl ⟨rfl, rfl⟩ (by kernel_rfl) rfl
    (fun f fn hf hfn => by
      obtain rfl : f = 10 := Option.some.inj ((show Tryd.prog.funcNamed "crossbar/crossbarlaw03.ShaPairIsTagged" = some 10 by kernel_rfl).symm.trans hf) |>.symm
      obtain rfl : fn = Tryd.f10 := (Option.some.inj (Tryd.func10.symm.trans hfn)).symm
      exact ⟨by kernel_rfl, fun j t ht => by
        rw [Tryd.params10] at ht
        have h3 : t ∈ [25, 25] := by
          have := Array.mem_of_getElem? ht
          simpa using this
        exact (show ∀ t ∈ [25, 25], Tryd.prog.wantsStandIn t = false by
          simp only [List.mem_cons, List.not_mem_nil, or_false, forall_eq_or_imp, forall_eq]; exact ⟨by kernel_rfl, by kernel_rfl⟩) t h3⟩)
    (by kernel_rfl)
#print axioms shaPairIsTagged_holds
end Go.Proofs.YtibogbmpcahjcaaDoor

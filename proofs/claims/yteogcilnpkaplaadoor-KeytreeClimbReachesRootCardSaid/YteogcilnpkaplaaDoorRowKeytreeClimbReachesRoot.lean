/- KeytreeClimbReachesRoot: the row and its tied card. No conditions of its own. -/
import Derived.Test.YteogcilnpkaplaaDoorLawCR
import Derived.Test.YteogcilnpkaplaaDoorM11
import Derived.Test.YteogcilnpkaplaaDoorTie
import Derived.Test.YteogcilnpkaplaaDoorCards
import Derived.SevenTiedAt
import Derived.ChangeSame
import Derived.Carry
namespace Go.Proofs.YteogcilnpkaplaaDoor
open Go.ChangeShapes Go.WideShapes Go.ChangeAt Go.RowKit
theorem keytreeClimbReachesRoot_met (os : Os) : laidMetH Tryd.prog [("crossbar/sha256.k", Rows.laid_crossbar_sha256_k)] ((laidWorld os).forCall (fun _ _ => 0) ⟨#[], #[.slice none 0 0], []⟩).memory :=
  show laidMet Tryd.prog _ _ from laidMet_of_run' 8 (by kernel_rfl) (by kernel_rfl)
set_option maxRecDepth 100000 in
theorem keytreeClimbReachesRoot_lifted (os : Os) (started : os.Started) (H : Type) (enc : TypeId × Value → H) :
    ReturnsInHanded {} Tryd.checked os 5 .any (fun w args => (Rows.keytreeClimbReachesRootSpec.pre enc Tryd.prog Tryd.f5 [] false w args ∧ laidMetH Tryd.prog [("crossbar/sha256.k", Rows.laid_crossbar_sha256_k)] w) ∧ sizedMet enc Tryd.prog Tryd.f5 (OpenSpec.ofChange Rows.keytreeClimbReachesRootSpec) false w args)
      (Rows.keytreeClimbReachesRootSpec.post enc Tryd.prog Tryd.f5 false true false false) := by
  refine returnsInHanded_of_change_and (C := Tryd.checked) (X := fun w _ => laidMetH Tryd.prog [("crossbar/sha256.k", Rows.laid_crossbar_sha256_k)] w) (fun _ _ _ hh h => h.of_heap hh) Tryd.own started (by kernel_rfl) Tryd.func5
    (ChangeSpec.witness_at (enc := enc) (C := Tryd.checked) (os := os) (X := fun w _ => laidMetH Tryd.prog [("crossbar/sha256.k", Rows.laid_crossbar_sha256_k)] w) false (laidWorld os) #[.slice none 0 0] 8 rfl (by kernel_rfl) (by kernel_rfl) (by kernel_rfl) (by kernel_rfl) (by kernel_rfl) (keytreeClimbReachesRoot_met os)) ?_
  intro W base args ds gs before hval0 hW _ _ hL _
  have hval : ∀ (j : Nat) t v, Tryd.f5.params[j]? = some t → args[j]? = some v → Value.okWide Tryd.prog W .any base t v := hval0
  have hW' := hW
  obtain ⟨p, q, hA0, hV, rfl, _, _⟩ := hW
  have hA : DataW.TrodAll enc Tryd.prog W 0 (fun _ => true) true Tryd.f5.params.toList args.toList ds p := hA0
  rw [Tryd.params5] at hA hval
  obtain ⟨rfl, rfl⟩ := trodVars_none hV
  obtain ⟨v0, d0, rfl, rfl, h0⟩ := trodAll_one hA
  have hL' : laidMet Tryd.prog [("crossbar/sha256.k", Rows.laid_crossbar_sha256_k)] W := hL
  have hK := kfact_of_reads (Lib.laidMet.reads hL' (n := "crossbar/sha256.k") (d := Rows.laid_crossbar_sha256_k) (by simp))
  clear hA0 hval0 hV hL hL'
  obtain ⟨x0, hx0, ha0, hl0⟩ := open_digs (hval 0 29 v0 rfl rfl) h0
  refine (climbReaches_any v0 x0 W hx0 ha0 hK).mono fun e W' ⟨he, hw⟩ => ?_
  subst he
  exact ⟨_, rfl, law_post hW' rfl rfl (by rw [Tryd.params5]; simp only [List.mem_cons, List.not_mem_nil, or_false, forall_eq]; exact ⟨by kernel_rfl, of_decide_eq_true (by kernel_rfl)⟩) rfl hw⟩
theorem keytreeClimbReachesRoot_row : Rows.KeytreeClimbReachesRootSaid :=
  OpenClaim.holds_of_wide 5 Tryd.f5 rfl rfl rfl rfl rfl rfl rfl ⟨rfl, rfl, rfl, rfl, rfl⟩ rfl rfl rfl rfl rfl (by kernel_rfl) Tryd.func5 (by kernel_rfl)
    (of_decide_eq_true (by kernel_rfl)) (by unfold Func.isWrapper; rw [if_neg (of_decide_eq_false (by kernel_rfl))]; exact ⟨rfl, rfl⟩)
    (fun os started H enc _ => keytreeClimbReachesRoot_lifted os started H enc)
theorem keytreeClimbReachesRoot_holds : Rows.KeytreeClimbReachesRootCardSaid :=
  Claim7.holds_tied_plain_at .later [] [.data] true Rows.keytreeClimbReachesRootCard.stood.harness false
    keytreeClimbReachesRoot_row (fun _ h => by cases h) (by kernel_rfl) (fun _ h => by cases h) keytreeClimbReachesRoot_row_tie rfl ⟨rfl, rfl⟩ (by kernel_rfl) rfl
    (fun f fn hf hfn => by
      obtain rfl : f = 5 := Option.some.inj ((show Tryd.prog.funcNamed "crossbar/crossbarlaw05.KeytreeClimbReachesRoot" = some 5 by kernel_rfl).symm.trans hf) |>.symm
      obtain rfl : fn = Tryd.f5 := (Option.some.inj (Tryd.func5.symm.trans hfn)).symm
      exact ⟨by kernel_rfl, fun j t ht => by
        rw [Tryd.params5] at ht
        have h3 : t ∈ [29] := by
          have := Array.mem_of_getElem? ht
          simpa using this
        exact (show ∀ t ∈ [29], Tryd.prog.wantsStandIn t = false by
          simp only [List.mem_cons, List.not_mem_nil, or_false, forall_eq]; kernel_rfl) t h3⟩)
    (by kernel_rfl)
#print axioms keytreeClimbReachesRoot_holds
end Go.Proofs.YteogcilnpkaplaaDoor

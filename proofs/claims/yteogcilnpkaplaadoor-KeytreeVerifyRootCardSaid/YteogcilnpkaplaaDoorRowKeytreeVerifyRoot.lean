/- KeytreeVerifyRoot: the row and its tied card. No conditions of its own. -/
import Derived.Test.YteogcilnpkaplaaDoorLawVR
import Derived.Test.YteogcilnpkaplaaDoorM11
import Derived.Test.YteogcilnpkaplaaDoorM15
import Derived.Test.YteogcilnpkaplaaDoorTie
import Derived.Test.YteogcilnpkaplaaDoorCards
import Derived.SevenTiedAt
import Derived.ChangeSame
import Derived.Carry
namespace Go.Proofs.YteogcilnpkaplaaDoor
open Go.ChangeShapes Go.WideShapes Go.ChangeAt Go.RowKit
theorem keytreeVerifyRoot_met (os : Os) : laidMetH Tryd.prog [("crossbar/sha256.k", Rows.laid_crossbar_sha256_k)] ((laidWorld os).forCall (fun _ _ => 0) ⟨#[], #[.agg (cellsB (List.replicate 32 0)), .slice none 0 0, .agg #[.int .i64 0, .slice none 0 0, .slice none 0 0]], []⟩).memory :=
  show laidMet Tryd.prog _ _ from laidMet_of_run' 8 (by kernel_rfl) (by kernel_rfl)
set_option maxRecDepth 100000 in
theorem keytreeVerifyRoot_lifted (os : Os) (started : os.Started) (H : Type) (enc : TypeId × Value → H) :
    ReturnsInHanded {} Tryd.checked os 10 .any (fun w args => (Rows.keytreeVerifyRootSpec.pre enc Tryd.prog Tryd.f10 [] false w args ∧ laidMetH Tryd.prog [("crossbar/sha256.k", Rows.laid_crossbar_sha256_k)] w) ∧ sizedMet enc Tryd.prog Tryd.f10 (OpenSpec.ofChange Rows.keytreeVerifyRootSpec) false w args)
      (Rows.keytreeVerifyRootSpec.post enc Tryd.prog Tryd.f10 false true false false) := by
  refine returnsInHanded_of_change_and (C := Tryd.checked) (X := fun w _ => laidMetH Tryd.prog [("crossbar/sha256.k", Rows.laid_crossbar_sha256_k)] w) (fun _ _ _ hh h => h.of_heap hh) Tryd.own started (by kernel_rfl) Tryd.func10
    (ChangeSpec.witness_at (enc := enc) (C := Tryd.checked) (os := os) (X := fun w _ => laidMetH Tryd.prog [("crossbar/sha256.k", Rows.laid_crossbar_sha256_k)] w) false (laidWorld os) #[.agg (cellsB (List.replicate 32 0)), .slice none 0 0, .agg #[.int .i64 0, .slice none 0 0, .slice none 0 0]] 8 rfl (by kernel_rfl) (by kernel_rfl) (by kernel_rfl) (by kernel_rfl) (by kernel_rfl) (keytreeVerifyRoot_met os)) ?_
  intro W base args ds gs before hval0 hW _ _ hL _
  have hval : ∀ (j : Nat) t v, Tryd.f10.params[j]? = some t → args[j]? = some v → Value.okWide Tryd.prog W .any base t v := hval0
  have hW' := hW
  obtain ⟨p, q, hA0, hV, rfl, _, _⟩ := hW
  have hA : DataW.TrodAll enc Tryd.prog W 0 (fun _ => true) true Tryd.f10.params.toList args.toList ds p := hA0
  rw [Tryd.params10] at hA hval
  obtain ⟨rfl, rfl⟩ := trodVars_none hV
  obtain ⟨v0, v1, v2, d0, d1, d2, p0, p1, p2, rfl, rfl, rfl, h0, h1, h2⟩ := trodAll_three hA
  have hL' : laidMet Tryd.prog [("crossbar/sha256.k", Rows.laid_crossbar_sha256_k)] W := hL
  have hK := kfact_of_reads (Lib.laidMet.reads hL' (n := "crossbar/sha256.k") (d := Rows.laid_crossbar_sha256_k) (by simp))
  clear hA0 hval0 hV hL hL'
  obtain ⟨x0, rfl, hx0, _⟩ := open_digest h0
  obtain ⟨x1, hx1, hl1⟩ := open_bytes (hval 1 22 v1 rfl rfl) h1
  obtain ⟨n2, cv2, pv2, cs2, qs2, rfl, hn2, hc2, h32c2, hq2, h32q2⟩ := open_sig h2
  have hb2 := bounds_i64 hn2
  refine (verifyRoot_any x0 v1 x1 n2 cv2 pv2 cs2 qs2 W hx0 hx1 hl1 hb2.1 hb2.2 hc2 h32c2 hq2 h32q2 hK).mono fun e W' ⟨he, hw⟩ => ?_
  subst he
  exact ⟨_, rfl, law_post hW' rfl rfl (by rw [Tryd.params10]; simp only [List.mem_cons, List.not_mem_nil, or_false, forall_eq_or_imp, forall_eq]; exact ⟨⟨by kernel_rfl, of_decide_eq_true (by kernel_rfl)⟩, ⟨by kernel_rfl, of_decide_eq_true (by kernel_rfl)⟩, ⟨by kernel_rfl, of_decide_eq_true (by kernel_rfl)⟩⟩) rfl hw⟩
theorem keytreeVerifyRoot_row : Rows.KeytreeVerifyRootSaid :=
  OpenClaim.holds_of_wide 10 Tryd.f10 rfl rfl rfl rfl rfl rfl rfl ⟨rfl, rfl, rfl, rfl, rfl⟩ rfl rfl rfl rfl rfl (by kernel_rfl) Tryd.func10 (by kernel_rfl)
    (of_decide_eq_true (by kernel_rfl)) (by unfold Func.isWrapper; rw [if_neg (of_decide_eq_false (by kernel_rfl))]; exact ⟨rfl, rfl⟩)
    (fun os started H enc _ => keytreeVerifyRoot_lifted os started H enc)
theorem keytreeVerifyRoot_holds : Rows.KeytreeVerifyRootCardSaid :=
  Claim7.holds_tied_plain_at .later [] [.data] true Rows.keytreeVerifyRootCard.stood.harness false
    keytreeVerifyRoot_row (fun _ h => by cases h) (by kernel_rfl) (fun _ h => by cases h) keytreeVerifyRoot_row_tie rfl ⟨rfl, rfl⟩ (by kernel_rfl) rfl
    (fun f fn hf hfn => by
      obtain rfl : f = 10 := Option.some.inj ((show Tryd.prog.funcNamed "crossbar/crossbarlaw05.KeytreeVerifyRoot" = some 10 by kernel_rfl).symm.trans hf) |>.symm
      obtain rfl : fn = Tryd.f10 := (Option.some.inj (Tryd.func10.symm.trans hfn)).symm
      exact ⟨by kernel_rfl, fun j t ht => by
        rw [Tryd.params10] at ht
        have h3 : t ∈ [25, 22, 31] := by
          have := Array.mem_of_getElem? ht
          simpa using this
        exact (show ∀ t ∈ [25, 22, 31], Tryd.prog.wantsStandIn t = false by
          simp only [List.mem_cons, List.not_mem_nil, or_false, forall_eq_or_imp, forall_eq]; exact ⟨by kernel_rfl, by kernel_rfl, by kernel_rfl⟩) t h3⟩)
    (by kernel_rfl)
#print axioms keytreeVerifyRoot_holds
end Go.Proofs.YteogcilnpkaplaaDoor

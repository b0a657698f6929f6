/- KeytreeSignSpec: the row and its tied card. No conditions of its own. -/
import Derived.Test.YteogcilnpkaplaaDoorLawSS
import Derived.Test.YteogcilnpkaplaaDoorM11
import Derived.Test.YteogcilnpkaplaaDoorTie
import Derived.Test.YteogcilnpkaplaaDoorCards
import Derived.SevenTiedAt
import Derived.ChangeSame
import Derived.Carry
namespace Go.Proofs.YteogcilnpkaplaaDoor
open Go.ChangeShapes Go.WideShapes Go.ChangeAt Go.RowKit
theorem keytreeSignSpec_met (os : Os) : laidMetH Tryd.prog [("crossbar/crossbarref03.k", Rows.laid_crossbar_crossbarref03_k), ("crossbar/crossbarref03.initial", Rows.laid_crossbar_crossbarref03_initial), ("crossbar/sha256.k", Rows.laid_crossbar_sha256_k)] ((laidWorld os).forCall (fun _ _ => 0) ⟨#[], #[.slice none 0 0, .int .i64 0, .slice none 0 0], []⟩).memory :=
  show laidMet Tryd.prog _ _ from laidMet_of_run' 8 (by kernel_rfl) (by kernel_rfl)
set_option maxRecDepth 100000 in
theorem keytreeSignSpec_lifted (os : Os) (started : os.Started) (H : Type) (enc : TypeId × Value → H) :
    ReturnsInHanded {} Tryd.checked os 3 .any (fun w args => (Rows.keytreeSignSpecSpec.pre enc Tryd.prog Tryd.f3 [] false w args ∧ laidMetH Tryd.prog [("crossbar/crossbarref03.k", Rows.laid_crossbar_crossbarref03_k), ("crossbar/crossbarref03.initial", Rows.laid_crossbar_crossbarref03_initial), ("crossbar/sha256.k", Rows.laid_crossbar_sha256_k)] w) ∧ sizedMet enc Tryd.prog Tryd.f3 (OpenSpec.ofChange Rows.keytreeSignSpecSpec) false w args)
      (Rows.keytreeSignSpecSpec.post enc Tryd.prog Tryd.f3 false true false false) := by
  refine returnsInHanded_of_change_and (C := Tryd.checked) (X := fun w _ => laidMetH Tryd.prog [("crossbar/crossbarref03.k", Rows.laid_crossbar_crossbarref03_k), ("crossbar/crossbarref03.initial", Rows.laid_crossbar_crossbarref03_initial), ("crossbar/sha256.k", Rows.laid_crossbar_sha256_k)] w) (fun _ _ _ hh h => h.of_heap hh) Tryd.own started (by kernel_rfl) Tryd.func3
    (ChangeSpec.witness_at (enc := enc) (C := Tryd.checked) (os := os) (X := fun w _ => laidMetH Tryd.prog [("crossbar/crossbarref03.k", Rows.laid_crossbar_crossbarref03_k), ("crossbar/crossbarref03.initial", Rows.laid_crossbar_crossbarref03_initial), ("crossbar/sha256.k", Rows.laid_crossbar_sha256_k)] w) false (laidWorld os) #[.slice none 0 0, .int .i64 0, .slice none 0 0] 8 rfl (by kernel_rfl) (by kernel_rfl) (by kernel_rfl) (by kernel_rfl) (by kernel_rfl) (keytreeSignSpec_met os)) ?_
  intro W base args ds gs before hval0 hW _ _ hL _
  have hval : ∀ (j : Nat) t v, Tryd.f3.params[j]? = some t → args[j]? = some v → Value.okWide Tryd.prog W .any base t v := hval0
  have hW' := hW
  obtain ⟨p, q, hA0, hV, rfl, _, _⟩ := hW
  have hA : DataW.TrodAll enc Tryd.prog W 0 (fun _ => true) true Tryd.f3.params.toList args.toList ds p := hA0
  rw [Tryd.params3] at hA hval
  obtain ⟨rfl, rfl⟩ := trodVars_none hV
  obtain ⟨v0, v1, v2, d0, d1, d2, p0, p1, p2, rfl, rfl, rfl, h0, h1, h2⟩ := trodAll_three hA
  have hL' : laidMet Tryd.prog [("crossbar/crossbarref03.k", Rows.laid_crossbar_crossbarref03_k), ("crossbar/crossbarref03.initial", Rows.laid_crossbar_crossbarref03_initial), ("crossbar/sha256.k", Rows.laid_crossbar_sha256_k)] W := hL
  have hR := rkfact_of_reads (Lib.laidMet.reads hL' (n := "crossbar/crossbarref03.k") (d := Rows.laid_crossbar_crossbarref03_k) (by simp))
  have hI := rifact_of_laid hL' (by simp)
  have hK := kfact_of_reads (Lib.laidMet.reads hL' (n := "crossbar/sha256.k") (d := Rows.laid_crossbar_sha256_k) (by simp))
  clear hA0 hval0 hV hL hL'
  obtain ⟨x0, hx0, hl0⟩ := open_bytes (hval 0 22 v0 rfl rfl) h0
  obtain ⟨n1, rfl, rfl, _, hn1⟩ := open_int Tryd.rowI (hval 1 3 v1 rfl rfl) h1
  have hb1 := bounds_i64 hn1
  obtain ⟨x2, hx2, hl2⟩ := open_bytes (hval 2 22 v2 rfl rfl) h2
  refine (signSpec_any v0 x0 n1 v2 x2 W hx0 hl0 hb1.1 hb1.2 hx2 hl2 hR hI hK).mono fun e W' ⟨he, hw⟩ => ?_
  subst he
  exact ⟨_, rfl, law_post hW' rfl rfl (by rw [Tryd.params3]; simp only [List.mem_cons, List.not_mem_nil, or_false, forall_eq_or_imp, forall_eq]; exact ⟨⟨by kernel_rfl, of_decide_eq_true (by kernel_rfl)⟩, ⟨by kernel_rfl, of_decide_eq_true (by kernel_rfl)⟩, ⟨by kernel_rfl, of_decide_eq_true (by kernel_rfl)⟩⟩) rfl hw⟩
theorem keytreeSignSpec_row : Rows.KeytreeSignSpecSaid :=
  OpenClaim.holds_of_wide 3 Tryd.f3 rfl rfl rfl rfl rfl rfl rfl ⟨rfl, rfl, rfl, rfl, rfl⟩ rfl rfl rfl rfl rfl (by kernel_rfl) Tryd.func3 (by kernel_rfl)
    (of_decide_eq_true (by kernel_rfl)) (by unfold Func.isWrapper; rw [if_neg (of_decide_eq_false (by kernel_rfl))]; exact ⟨rfl, rfl⟩)
    (fun os started H enc _ => keytreeSignSpec_lifted os started H enc)
theorem keytreeSignSpec_holds : Rows.KeytreeSignSpecCardSaid :=
  Claim7.holds_tied_plain_at .later [] [.data, .data, .data] true Rows.keytreeSignSpecCard.stood.harness false
    keytreeSignSpec_row (fun _ h => by cases h) (by kernel_rfl) (fun _ h => by cases h) keytreeSignSpec_row_tie rfl ⟨rfl, rfl⟩ (by kernel_rfl) rfl
    (fun f fn hf hfn => by
      obtain rfl : f = 3 := Option.some.inj ((show Tryd.prog.funcNamed "crossbar/crossbarlaw05.KeytreeSignSpec" = some 3 by kernel_rfl).symm.trans hf) |>.symm
      obtain rfl : fn = Tryd.f3 := (Option.some.inj (Tryd.func3.symm.trans hfn)).symm
      exact ⟨by kernel_rfl, fun j t ht => by
        rw [Tryd.params3] at ht
        have h3 : t ∈ [22, 3, 22] := by
          have := Array.mem_of_getElem? ht
          simpa using this
        exact (show ∀ t ∈ [22, 3, 22], Tryd.prog.wantsStandIn t = false by
          simp only [List.mem_cons, List.not_mem_nil, or_false, forall_eq_or_imp, forall_eq]; exact ⟨by kernel_rfl, by kernel_rfl, by kernel_rfl⟩) t h3⟩)
    (by kernel_rfl)
#print axioms keytreeSignSpec_holds
end Go.Proofs.YteogcilnpkaplaaDoor

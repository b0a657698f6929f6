/- KeytreeForgeryCollides: the row and its tied card. No conditions of its own. -/
import Derived.Test.YteogcilnpkaplaaDoorLawFG
import Derived.Test.YteogcilnpkaplaaDoorM11
import Derived.Test.YteogcilnpkaplaaDoorTie
import Derived.Test.YteogcilnpkaplaaDoorCards
import Derived.SevenTiedAt
import Derived.ChangeSame
import Derived.Carry
namespace Go.Proofs.YteogcilnpkaplaaDoor
open Go.ChangeShapes Go.WideShapes Go.ChangeAt Go.RowKit
theorem keytreeForgeryCollides_met (os : Os) : laidMetH Tryd.prog [("crossbar/sha256.k", Rows.laid_crossbar_sha256_k)] ((laidWorld os).forCall (fun _ _ => 0) ⟨#[], #[.agg (cellsB (List.replicate 32 0)), .agg (cellsB (List.replicate 32 0)), .int .i64 0, .slice none 0 0, .slice none 0 0], []⟩).memory :=
  show laidMet Tryd.prog _ _ from laidMet_of_run' 8 (by kernel_rfl) (by kernel_rfl)
set_option maxRecDepth 100000 in
theorem keytreeForgeryCollides_lifted (os : Os) (started : os.Started) (H : Type) (enc : TypeId × Value → H) :
    ReturnsInHanded {} Tryd.checked os 7 .any (fun w args => (Rows.keytreeForgeryCollidesSpec.pre enc Tryd.prog Tryd.f7 [] false w args ∧ laidMetH Tryd.prog [("crossbar/sha256.k", Rows.laid_crossbar_sha256_k)] w) ∧ sizedMet enc Tryd.prog Tryd.f7 (OpenSpec.ofChange Rows.keytreeForgeryCollidesSpec) false w args)
      (Rows.keytreeForgeryCollidesSpec.post enc Tryd.prog Tryd.f7 false true false false) := by
  refine returnsInHanded_of_change_and (C := Tryd.checked) (X := fun w _ => laidMetH Tryd.prog [("crossbar/sha256.k", Rows.laid_crossbar_sha256_k)] w) (fun _ _ _ hh h => h.of_heap hh) Tryd.own started (by kernel_rfl) Tryd.func7
    (ChangeSpec.witness_at (enc := enc) (C := Tryd.checked) (os := os) (X := fun w _ => laidMetH Tryd.prog [("crossbar/sha256.k", Rows.laid_crossbar_sha256_k)] w) false (laidWorld os) #[.agg (cellsB (List.replicate 32 0)), .agg (cellsB (List.replicate 32 0)), .int .i64 0, .slice none 0 0, .slice none 0 0] 8 rfl (by kernel_rfl) (by kernel_rfl) (by kernel_rfl) (by kernel_rfl) (by kernel_rfl) (keytreeForgeryCollides_met os)) ?_
  intro W base args ds gs before hval0 hW _ _ hL _
  have hval : ∀ (j : Nat) t v, Tryd.f7.params[j]? = some t → args[j]? = some v → Value.okWide Tryd.prog W .any base t v := hval0
  have hW' := hW
  obtain ⟨p, q, hA0, hV, rfl, _, _⟩ := hW
  have hA : DataW.TrodAll enc Tryd.prog W 0 (fun _ => true) true Tryd.f7.params.toList args.toList ds p := hA0
  rw [Tryd.params7] at hA hval
  obtain ⟨rfl, rfl⟩ := trodVars_none hV
  obtain ⟨v0, v1, v2, v3, v4, d0, d1, d2, d3, d4, p0, p1, p2, p3, p4, rfl, rfl, rfl, h0, h1, h2, h3, h4⟩ := trodAll_five_k hA
  have hL' : laidMet Tryd.prog [("crossbar/sha256.k", Rows.laid_crossbar_sha256_k)] W := hL
  have hK := kfact_of_reads (Lib.laidMet.reads hL' (n := "crossbar/sha256.k") (d := Rows.laid_crossbar_sha256_k) (by simp))
  clear hA0 hval0 hV hL hL'
  obtain ⟨x0, rfl, hx0, _⟩ := open_digest h0
  obtain ⟨x1, rfl, hx1, _⟩ := open_digest h1
  obtain ⟨n2, rfl, rfl, _, hn2⟩ := open_int Tryd.rowI (hval 2 3 v2 rfl rfl) h2
  have hb2 := bounds_i64 hn2
  obtain ⟨x3, hx3, ha3, hl3⟩ := open_digs (hval 3 29 v3 rfl rfl) h3
  obtain ⟨x4, hx4, ha4, hl4⟩ := open_digs (hval 4 29 v4 rfl rfl) h4
  refine (forgery_any x0 x1 n2 v3 x3 v4 x4 W hx0 hx1 hb2.1 hb2.2 hx3 ha3 hx4 ha4 hK).mono fun e W' ⟨he, hw⟩ => ?_
  subst he
  exact ⟨_, rfl, law_post hW' rfl rfl (by rw [Tryd.params7]; simp only [List.mem_cons, List.not_mem_nil, or_false, forall_eq_or_imp, forall_eq]; exact ⟨⟨by kernel_rfl, of_decide_eq_true (by kernel_rfl)⟩, ⟨by kernel_rfl, of_decide_eq_true (by kernel_rfl)⟩, ⟨by kernel_rfl, of_decide_eq_true (by kernel_rfl)⟩, ⟨by kernel_rfl, of_decide_eq_true (by kernel_rfl)⟩, ⟨by kernel_rfl, of_decide_eq_true (by kernel_rfl)⟩⟩) rfl hw⟩
theorem keytreeForgeryCollides_row : Rows.KeytreeForgeryCollidesSaid :=
  OpenClaim.holds_of_wide 7 Tryd.f7 rfl rfl rfl rfl rfl rfl rfl ⟨rfl, rfl, rfl, rfl, rfl⟩ rfl rfl rfl rfl rfl (by kernel_rfl) Tryd.func7 (by kernel_rfl)
    (of_decide_eq_true (by kernel_rfl)) (by unfold Func.isWrapper; rw [if_neg (of_decide_eq_false (by kernel_rfl))]; exact ⟨rfl, rfl⟩)
    (fun os started H enc _ => keytreeForgeryCollides_lifted os started H enc)
theorem keytreeForgeryCollides_holds : Rows.KeytreeForgeryCollidesCardSaid :=
  Claim7.holds_tied_plain_at .later [] [.data] true Rows.keytreeForgeryCollidesCard.stood.harness false
    keytreeForgeryCollides_row (fun _ h => by cases h) (by kernel_rfl) (fun _ h => by cases h) keytreeForgeryCollides_row_tie rfl ⟨rfl, rfl⟩ (by kernel_rfl) rfl
    (fun f fn hf hfn => by
      obtain rfl : f = 7 := Option.some.inj ((show Tryd.prog.funcNamed "crossbar/crossbarlaw05.KeytreeForgeryCollides" = some 7 by kernel_rfl).symm.trans hf) |>.symm
      obtain rfl : fn = Tryd.f7 := (Option.some.inj (Tryd.func7.symm.trans hfn)).symm
      exact ⟨by kernel_rfl, fun j t ht => by
        rw [Tryd.params7] at ht
        have h3 : t ∈ [25, 25, 3, 29, 29] := by
          have := Array.mem_of_getElem? ht
          simpa using this
        exact (show ∀ t ∈ [25, 25, 3, 29, 29], Tryd.prog.wantsStandIn t = false by
          simp only [List.mem_cons, List.not_mem_nil, or_false, forall_eq_or_imp, forall_eq]; exact ⟨by kernel_rfl, by kernel_rfl, by kernel_rfl, by kernel_rfl, by kernel_rfl⟩) t h3⟩)
    (by kernel_rfl)
#print axioms keytreeForgeryCollides_holds
end Go.Proofs.YteogcilnpkaplaaDoor

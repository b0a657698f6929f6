/- KeytreeTreeSpec: the row and its tied card. No conditions of its own. -/
import Derived.Test.YteogcilnpkaplaaDoorLawTS
import Derived.Test.YteogcilnpkaplaaDoorM11
import Derived.Test.YteogcilnpkaplaaDoorM15
import Derived.Test.YteogcilnpkaplaaDoorTie
import Derived.Test.YteogcilnpkaplaaDoorCards
import Derived.SevenTiedAt
import Derived.ChangeSame
import Derived.Carry
namespace Go.Proofs.YteogcilnpkaplaaDoor
open Go.ChangeShapes Go.WideShapes Go.ChangeAt Go.RowKit
theorem keytreeTreeSpec_met (os : Os) : laidMetH Tryd.prog [("crossbar/crossbarref03.k", Rows.laid_crossbar_crossbarref03_k), ("crossbar/crossbarref03.initial", Rows.laid_crossbar_crossbarref03_initial), ("crossbar/sha256.k", Rows.laid_crossbar_sha256_k)] ((laidWorld os).forCall (fun _ _ => 0) ⟨#[], #[.slice none 0 0, .int .i64 0, .agg (cellsB (List.replicate 32 0)), .slice none 0 0, .agg #[.int .i64 0, .slice none 0 0, .slice none 0 0]], []⟩).memory :=
  show laidMet Tryd.prog _ _ from laidMet_of_run' 8 (by kernel_rfl) (by kernel_rfl)
set_option maxRecDepth 100000 in
theorem keytreeTreeSpec_lifted (os : Os) (started : os.Started) (H : Type) (enc : TypeId × Value → H) :
    ReturnsInHanded {} Tryd.checked os 8 .any (fun w args => (Rows.keytreeTreeSpecSpec.pre enc Tryd.prog Tryd.f8 [] false w args ∧ laidMetH Tryd.prog [("crossbar/crossbarref03.k", Rows.laid_crossbar_crossbarref03_k), ("crossbar/crossbarref03.initial", Rows.laid_crossbar_crossbarref03_initial), ("crossbar/sha256.k", Rows.laid_crossbar_sha256_k)] w) ∧ sizedMet enc Tryd.prog Tryd.f8 (OpenSpec.ofChange Rows.keytreeTreeSpecSpec) false w args)
      (Rows.keytreeTreeSpecSpec.post enc Tryd.prog Tryd.f8 false true false false) := by
  refine returnsInHanded_of_change_and (C := Tryd.checked) (X := fun w _ => laidMetH Tryd.prog [("crossbar/crossbarref03.k", Rows.laid_crossbar_crossbarref03_k), ("crossbar/crossbarref03.initial", Rows.laid_crossbar_crossbarref03_initial), ("crossbar/sha256.k", Rows.laid_crossbar_sha256_k)] w) (fun _ _ _ hh h => h.of_heap hh) Tryd.own started (by kernel_rfl) Tryd.func8
    (ChangeSpec.witness_at (enc := enc) (C := Tryd.checked) (os := os) (X := fun w _ => laidMetH Tryd.prog [("crossbar/crossbarref03.k", Rows.laid_crossbar_crossbarref03_k), ("crossbar/crossbarref03.initial", Rows.laid_crossbar_crossbarref03_initial), ("crossbar/sha256.k", Rows.laid_crossbar_sha256_k)] w) false (laidWorld os) #[.slice none 0 0, .int .i64 0, .agg (cellsB (List.replicate 32 0)), .slice none 0 0, .agg #[.int .i64 0, .slice none 0 0, .slice none 0 0]] 8 rfl (by kernel_rfl) (by kernel_rfl) (by kernel_rfl) (by kernel_rfl) (by kernel_rfl) (keytreeTreeSpec_met os)) ?_
  intro W base args ds gs before hval0 hW _ _ hL _
  have hval : ∀ (j : Nat) t v, Tryd.f8.params[j]? = some t → args[j]? = some v → Value.okWide Tryd.prog W .any base t v := hval0
  have hW' := hW
  obtain ⟨p, q, hA0, hV, rfl, _, _⟩ := hW
  have hA : DataW.TrodAll enc Tryd.prog W 0 (fun _ => true) true Tryd.f8.params.toList args.toList ds p := hA0
  rw [Tryd.params8] at hA hval
  obtain ⟨rfl, rfl⟩ := trodVars_none hV
  obtain ⟨v0, v1, v2, v3, v4, d0, d1, d2, d3, d4, p0, p1, p2, p3, p4, rfl, rfl, rfl, h0, h1, h2, h3, h4⟩ := trodAll_five_k hA
  have hL' : laidMet Tryd.prog [("crossbar/crossbarref03.k", Rows.laid_crossbar_crossbarref03_k), ("crossbar/crossbarref03.initial", Rows.laid_crossbar_crossbarref03_initial), ("crossbar/sha256.k", Rows.laid_crossbar_sha256_k)] W := hL
  have hR := rkfact_of_reads (Lib.laidMet.reads hL' (n := "crossbar/crossbarref03.k") (d := Rows.laid_crossbar_crossbarref03_k) (by simp))
  have hI := rifact_of_laid hL' (by simp)
  have hK := kfact_of_reads (Lib.laidMet.reads hL' (n := "crossbar/sha256.k") (d := Rows.laid_crossbar_sha256_k) (by simp))
  clear hA0 hval0 hV hL hL'
  obtain ⟨x0, hx0, ha0, hl0⟩ := open_digs (hval 0 29 v0 rfl rfl) h0
  obtain ⟨n1, rfl, rfl, _, hn1⟩ := open_int Tryd.rowI (hval 1 3 v1 rfl rfl) h1
  have hb1 := bounds_i64 hn1
  obtain ⟨x2, rfl, hx2, _⟩ := open_digest h2
  obtain ⟨x3, hx3, hl3⟩ := open_bytes (hval 3 22 v3 rfl rfl) h3
  obtain ⟨n4, cv4, pv4, cs4, qs4, rfl, hn4, hc4, h32c4, hq4, h32q4⟩ := open_sig h4
  have hb4 := bounds_i64 hn4
  refine (treeSpec_any v0 x0 n1 x2 v3 x3 n4 cv4 pv4 cs4 qs4 W hx0 ha0 hb1.1 hb1.2 hx2 hx3 hl3 hb4.1 hb4.2 hc4 h32c4 hq4 h32q4 hR hI hK).mono fun e W' ⟨he, hw⟩ => ?_
  subst he
  exact ⟨_, rfl, law_post hW' rfl rfl (by rw [Tryd.params8]; simp only [List.mem_cons, List.not_mem_nil, or_false, forall_eq_or_imp, forall_eq]; exact ⟨⟨by kernel_rfl, of_decide_eq_true (by kernel_rfl)⟩, ⟨by kernel_rfl, of_decide_eq_true (by kernel_rfl)⟩, ⟨by kernel_rfl, of_decide_eq_true (by kernel_rfl)⟩, ⟨by kernel_rfl, of_decide_eq_true (by kernel_rfl)⟩, ⟨by kernel_rfl, of_decide_eq_true (by kernel_rfl)⟩⟩) rfl hw⟩
theorem keytreeTreeSpec_row : Rows.KeytreeTreeSpecSaid :=
  OpenClaim.holds_of_wide 8 Tryd.f8 rfl rfl rfl rfl rfl rfl rfl ⟨rfl, rfl, rfl, rfl, rfl⟩ rfl rfl rfl rfl rfl (by kernel_rfl) Tryd.func8 (by kernel_rfl)
    (of_decide_eq_true (by kernel_rfl)) (by unfold Func.isWrapper; rw [if_neg (of_decide_eq_false (by kernel_rfl))]; exact ⟨rfl, rfl⟩)
    (fun os started H enc _ => keytreeTreeSpec_lifted os started H enc)
theorem keytreeTreeSpec_holds : Rows.KeytreeTreeSpecCardSaid :=
  Claim7.holds_tied_plain_at .later [] [.data, .data, .data] true Rows.keytreeTreeSpecCard.stood.harness false
    keytreeTreeSpec_row (fun _ h => by cases h) (by kernel_rfl) (fun _ h => by cases h) keytreeTreeSpec_row_tie rfl ⟨rfl, rfl⟩ (by kernel_rfl) rfl
    (fun f fn hf hfn => by
      obtain rfl : f = 8 := Option.some.inj ((show Tryd.prog.funcNamed "crossbar/crossbarlaw05.KeytreeTreeSpec" = some 8 by kernel_rfl).symm.trans hf) |>.symm
      obtain rfl : fn = Tryd.f8 := (Option.some.inj (Tryd.func8.symm.trans hfn)).symm
      exact ⟨by kernel_rfl, fun j t ht => by
        rw [Tryd.params8] at ht
        have h3 : t ∈ [29, 3, 25, 22, 31] := by
          have := Array.mem_of_getElem? ht
          simpa using this
        exact (show ∀ t ∈ [29, 3, 25, 22, 31], Tryd.prog.wantsStandIn t = false by
          simp only [List.mem_cons, List.not_mem_nil, or_false, forall_eq_or_imp, forall_eq]; exact ⟨by kernel_rfl, by kernel_rfl, by kernel_rfl, by kernel_rfl, by kernel_rfl⟩) t h3⟩)
    (by kernel_rfl)
#print axioms keytreeTreeSpec_holds
end Go.Proofs.YteogcilnpkaplaaDoor

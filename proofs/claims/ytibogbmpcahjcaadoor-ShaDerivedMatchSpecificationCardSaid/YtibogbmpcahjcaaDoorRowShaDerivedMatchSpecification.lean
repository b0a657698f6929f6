/- ShaDerivedMatchSpecification: the row and its tied card. No conditions of its own. -/
import Derived.Test.YtibogbmpcahjcaaDoorLawDS
import Derived.Test.YtibogbmpcahjcaaDoorRowWorld
import Derived.Test.YtibogbmpcahjcaaDoorRowBase2
import Derived.Test.YtibogbmpcahjcaaDoorTie
import Derived.Test.YtibogbmpcahjcaaDoorCards
import Derived.SevenTiedAt
import Derived.ChangeSame
import Derived.Carry
namespace Go.Proofs.YtibogbmpcahjcaaDoor
open Go.ChangeShapes Go.WideShapes Go.ChangeAt Go.RowKit
theorem shaDerivedMatchSpecification_met (os : Os) : laidMetH Tryd.prog [("crossbar/crossbarref03.k", Rows.laid_crossbar_crossbarref03_k), ("crossbar/crossbarref03.initial", Rows.laid_crossbar_crossbarref03_initial), ("crossbar/sha256.k", Rows.laid_crossbar_sha256_k)] ((laidWorld os).forCall (fun _ _ => 0) ⟨#[], #[.string ByteArray.empty, .slice none 0 0, .agg (cellsB (List.replicate 32 0)), .agg (cellsB (List.replicate 32 0)), .int .i64 0], []⟩).memory :=
  show laidMet Tryd.prog _ _ from laidMet_of_run' 8 (by kernel_rfl) (by kernel_rfl)
set_option maxRecDepth 100000 in
theorem shaDerivedMatchSpecification_lifted (os : Os) (started : os.Started) (H : Type) (enc : TypeId × Value → H) :
    ReturnsInHanded {} Tryd.checked os 9 .any (fun w args => (Rows.shaDerivedMatchSpecificationSpec.pre enc Tryd.prog Tryd.f9 [] false w args ∧ laidMetH Tryd.prog [("crossbar/crossbarref03.k", Rows.laid_crossbar_crossbarref03_k), ("crossbar/crossbarref03.initial", Rows.laid_crossbar_crossbarref03_initial), ("crossbar/sha256.k", Rows.laid_crossbar_sha256_k)] w) ∧ sizedMet enc Tryd.prog Tryd.f9 (OpenSpec.ofChange Rows.shaDerivedMatchSpecificationSpec) false w args)
      (Rows.shaDerivedMatchSpecificationSpec.post enc Tryd.prog Tryd.f9 false true false false) := by
  refine returnsInHanded_of_change_and (C := Tryd.checked) (X := fun w _ => laidMetH Tryd.prog [("crossbar/crossbarref03.k", Rows.laid_crossbar_crossbarref03_k), ("crossbar/crossbarref03.initial", Rows.laid_crossbar_crossbarref03_initial), ("crossbar/sha256.k", Rows.laid_crossbar_sha256_k)] w) (fun _ _ _ hh h => h.of_heap hh) Tryd.own started (by kernel_rfl) Tryd.func9
    (ChangeSpec.witness_at (enc := enc) (C := Tryd.checked) (os := os) (X := fun w _ => laidMetH Tryd.prog [("crossbar/crossbarref03.k", Rows.laid_crossbar_crossbarref03_k), ("crossbar/crossbarref03.initial", Rows.laid_crossbar_crossbarref03_initial), ("crossbar/sha256.k", Rows.laid_crossbar_sha256_k)] w) false (laidWorld os) #[.string ByteArray.empty, .slice none 0 0, .agg (cellsB (List.replicate 32 0)), .agg (cellsB (List.replicate 32 0)), .int .i64 0] 8 rfl (by kernel_rfl) (by kernel_rfl) (by kernel_rfl) (by kernel_rfl) (by kernel_rfl) (shaDerivedMatchSpecification_met os)) ?_
  intro W base args ds gs before hval0 hW _ _ hL _
  have hval : ∀ (j : Nat) t v, Tryd.f9.params[j]? = some t → args[j]? = some v → Value.okWide Tryd.prog W .any base t v := hval0
  have hW' := hW
  obtain ⟨p, q, hA0, hV, rfl, _, _⟩ := hW
  have hA : DataW.TrodAll enc Tryd.prog W 0 (fun _ => true) true Tryd.f9.params.toList args.toList ds p := hA0
  rw [Tryd.params9] at hA hval
  obtain ⟨rfl, rfl⟩ := trodVars_none hV
  obtain ⟨v0, v1, v2, v3, v4, d0, d1, d2, d3, d4, p0, p1, p2, p3, p4, rfl, rfl, rfl, h0, h1, h2, h3, h4⟩ := trodAll_five_k hA
  have hL' : laidMet Tryd.prog [("crossbar/crossbarref03.k", Rows.laid_crossbar_crossbarref03_k), ("crossbar/crossbarref03.initial", Rows.laid_crossbar_crossbarref03_initial), ("crossbar/sha256.k", Rows.laid_crossbar_sha256_k)] W := hL
  have hR := rkfact_of_reads (Lib.laidMet.reads hL' (n := "crossbar/crossbarref03.k") (d := Rows.laid_crossbar_crossbarref03_k) (by simp))
  have hI := rifact_of_laid hL' (by simp)
  have hK := kfact_of_reads (Lib.laidMet.reads hL' (n := "crossbar/sha256.k") (d := Rows.laid_crossbar_sha256_k) (by simp))
  clear hA0 hval0 hV hL hL'
  obtain ⟨s0, rfl, rfl, _, hs0⟩ := Go.ChangeMaps.open_string Tryd.rowS (hval 0 9 v0 rfl rfl) h0
  obtain ⟨x1, hx1, hl1⟩ := open_bytes (hval 1 22 v1 rfl rfl) h1
  obtain ⟨x2, rfl, hx2, _⟩ := open_digest h2
  obtain ⟨x3, rfl, hx3, _⟩ := open_digest h3
  obtain ⟨n4, rfl, rfl, _, hn4⟩ := open_int Tryd.rowI (hval 4 3 v4 rfl rfl) h4
  have hb4 := bounds_i64 hn4
  refine (derived_any s0 v1 x1 x2 x3 n4 W hs0 hx1 hl1 hx2 hx3 hb4.1 hb4.2 hR hI hK).mono fun e W' ⟨he, hw⟩ => ?_
  subst he
  exact ⟨_, rfl, law_post hW' rfl rfl (by rw [Tryd.params9]; simp only [List.mem_cons, List.not_mem_nil, or_false, forall_eq_or_imp, forall_eq]; exact ⟨⟨by kernel_rfl, of_decide_eq_true (by kernel_rfl)⟩, ⟨by kernel_rfl, of_decide_eq_true (by kernel_rfl)⟩, ⟨by kernel_rfl, of_decide_eq_true (by kernel_rfl)⟩, ⟨by kernel_rfl, of_decide_eq_true (by kernel_rfl)⟩, ⟨by kernel_rfl, of_decide_eq_true (by kernel_rfl)⟩⟩) rfl hw⟩
theorem shaDerivedMatchSpecification_row : Rows.ShaDerivedMatchSpecificationSaid :=
  OpenClaim.holds_of_wide 9 Tryd.f9 rfl rfl rfl rfl rfl rfl rfl ⟨rfl, rfl, rfl, rfl, rfl⟩ rfl rfl rfl rfl rfl (by kernel_rfl) Tryd.func9 (by kernel_rfl)
    (of_decide_eq_true (by kernel_rfl)) (by unfold Func.isWrapper; rw [if_neg (of_decide_eq_false (by kernel_rfl))]; exact ⟨rfl, rfl⟩)
    (fun os started H enc _ => shaDerivedMatchSpecification_lifted os started H enc)
theorem shaDerivedMatchSpecification_holds : Rows.ShaDerivedMatchSpecificationCardSaid :=
  Claim7.holds_tied_plain_at .later [] [.data, .data, .data] true Rows.shaDerivedMatchSpecificationCard.stood.harness false
    shaDerivedMatchSpecification_row (fun _ h => by cases h) (by kernel_rfl) (fun _ h => by cases h) shaDerivedMatchSpecification_row_tie rfl ⟨rfl, rfl⟩ (by kernel_rfl) rfl
    (fun f fn hf hfn => by
      obtain rfl : f = 9 := Option.some.inj ((show Tryd.prog.funcNamed "crossbar/crossbarlaw03.ShaDerivedMatchSpecification" = some 9 by kernel_rfl).symm.trans hf) |>.symm
      obtain rfl : fn = Tryd.f9 := (Option.some.inj (Tryd.func9.symm.trans hfn)).symm
      exact ⟨by kernel_rfl, fun j t ht => by
        rw [Tryd.params9] at ht
        have h3 : t ∈ [9, 22, 25, 25, 3] := by
          have := Array.mem_of_getElem? ht
          simpa using this
        exact (show ∀ t ∈ [9, 22, 25, 25, 3], Tryd.prog.wantsStandIn t = false by
          simp only [List.mem_cons, List.not_mem_nil, or_false, forall_eq_or_imp, forall_eq]; exact ⟨by kernel_rfl, by kernel_rfl, by kernel_rfl, by kernel_rfl, by kernel_rfl⟩) t h3⟩)
    (by kernel_rfl)
#print axioms shaDerivedMatchSpecification_holds
end Go.Proofs.YtibogbmpcahjcaaDoor

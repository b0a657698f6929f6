/- Merged: blocks that a region makes differ. No conditions of its own beyond those that each law states. -/
import Derived.Test.YteogcilnpkaplaaDoorM4
namespace Go.Proofs.YteogcilnpkaplaaDoor
open Go.RowKit
/-- The operation makes a block behind all there are. -/
def FreshAt (P : Program) (o : Oper) : Prop := o.guard = none ∧ ∀ (ev : Operand → Value) (w : World), ∃ g w', (execOp ev o).run P w = .ok (.value (.pointer (some ⟨g, 0, none⟩))) w' ∧ w.heap.size ≤ g
section
variable {P : Program} {B : Nat} {ds : List (Option Tmp)} {As : List (Asrt B)} {a0 : Act} {w0 : World} {l : List Oper} {Q : Exit → Act → World → Prop} {I : World → Prop}
/-- The blocks made so far differ. -/
def ApartB (l : List Oper) (D : List Nat) (listed : Array Bool) (a : Act) : Prop :=
  ∀ i ∈ D, listed.getD i false = true → ∃ d g, (l[i]?).bind (·.dst) = some d ∧ a.eval (.tmp d) = .pointer (some ⟨g, 0, none⟩) ∧
    ∀ j ∈ D, j ≠ i → listed.getD j false = true → ∀ e, (l[j]?).bind (·.dst) = some e → a.eval (.tmp e) ≠ .pointer (some ⟨g, 0, none⟩)
theorem wpOp_keep {ops : Array Oper} {i : Nat} {K : Act → World → Prop} {a : Act} {w : World} (h : wpOp P ops Q i K a w) :
    wpOp P ops Q i (fun a' w' => K a' w' ∧ ∀ t, (ops[i]?).bind (·.dst) ≠ some t → a'.eval (.tmp t) = a.eval (.tmp t)) a w := by
  have hk : ∀ (d : Option Tmp) (v : Value) t, d ≠ some t → (a.put d v).eval (.tmp t) = a.eval (.tmp t) := fun d v t h => eval_put_ne a d t v h
  unfold wpOp at *
  cases ho : ops[i]? with
  | none => rw [ho] at h; exact ⟨h, fun t _ => rfl⟩
  | some o =>
    rw [ho] at h
    simp only at h ⊢
    have hb : (some o).bind (·.dst) = o.dst := rfl
    rw [hb]
    split
    · rename_i hw
      rw [if_pos hw] at h
      refine h.imp (fun h => ?_) id
      unfold Oper.wp at *
      generalize (execOp a.eval o).run P w = r at *
      cases r with
      | ok n w' =>
        cases n <;> simp only [Oper.upon] at h ⊢ <;>
          first
            | exact ⟨h, fun t ht => hk _ _ t ht⟩
            | exact Calls.mono h (fun e w'' he => by cases e <;> first | exact ⟨he, fun t ht => hk _ _ t ht⟩ | exact he)
            | exact Rows.mono h (fun _ _ he => ⟨he, fun t ht => hk _ _ t ht⟩)
            | exact ⟨h, fun t ht => (eval_put_ne _ _ _ _ ht).trans rfl⟩
      | halt x w' => cases x <;> simp only [Oper.upon] at h ⊢ <;> exact h
    · rename_i hw
      rw [if_neg hw] at h
      exact ⟨h, fun t ht => hk _ _ t ht⟩
theorem step_invA {D : List Nat} (hds : l.map (·.dst) = ds) (hd : dstsOk l.toArray a0.tmps.size = true) (hD : ∀ i ∈ D, ∀ o, l[i]? = some o → FreshAt P o ∧ o.dst.isSome = true) (hbox : ∀ i ∈ D, ∀ g w, ((As[i]?).getD Asrt.any).p (.pointer (some ⟨g, 0, none⟩)) w → g < w.heap.size) {listed : Array Bool} {a : Act} {w : World} (h : InvG l.toArray As a0 w0 listed a w) (hA : ApartB l D listed a) {i : Nat} {fs : List (Option Tmp)}
    (hfs : ∀ (j : Nat) oj, l.toArray[j]? = some oj → listed.getD j false = true → oj.dst ∈ fs) (hs : ∀ o, l.toArray[i]? = some o → StepH P ds fs As a0 w0 i o) (hi : i ∈ Region.ready .any l.toArray listed) :
    wpOp P l.toArray Q i (fun a' w' => InvG l.toArray As a0 w0 (listed.setIfInBounds i true) a' w' ∧ ApartB l D (listed.setIfInBounds i true) a') a w := by
  have h1 := step_inv1 (Q := Q) (by simpa using hds) hd h hfs hs hi
  obtain ⟨hun, o, ho, hdep⟩ := mem_ready.1 hi
  have hol : l[i]? = some o := by simpa using ho
  have hils : i < listed.size := by rw [h.lsize]; exact (Array.getElem?_eq_some_iff.1 ho).1
  have hne : ∀ {j : Nat} {e : Tmp}, j ≠ i → (l[j]?).bind (·.dst) = some e → o.dst ≠ some e := by
    intro j e hji hj he
    cases hjo : l[j]? with
    | none => rw [hjo] at hj; cases hj
    | some oj =>
      rw [hjo] at hj
      exact dstsOk_ne hd (show l.toArray[j]? = some oj by simpa using hjo) ho hj he hji rfl
  have hlt : ∀ {k g : Nat} {e : Tmp}, k ∈ D → listed.getD k false = true → (l[k]?).bind (·.dst) = some e → a.eval (.tmp e) = .pointer (some ⟨g, 0, none⟩) → g < w.heap.size := by
    intro k g e hk hkl he hee
    cases hko : l[k]? with
    | none => rw [hko] at he; cases he
    | some ok =>
      rw [hko] at he
      have h3 := h.done k ok e (by simpa using hko) hkl he
      rw [hee] at h3
      exact hbox k hk g w h3
  by_cases hiD : i ∈ D
  · obtain ⟨⟨hg, hfr⟩, hdo⟩ := hD i hiD o hol
    obtain ⟨d, hdd⟩ := Option.isSome_iff_exists.1 hdo
    obtain ⟨g, w', hr, hge⟩ := hfr a.eval w
    unfold wpOp at h1 ⊢
    simp only [ho] at h1 ⊢
    have hw : Region.wanted o (yielded l.toArray a.tmps) = true := by unfold Region.wanted; rw [hg]
    rw [if_pos hw] at h1 ⊢
    have h2 : InvG l.toArray As a0 w0 (listed.setIfInBounds i true) (a.put o.dst (.pointer (some ⟨g, 0, none⟩))) w' := by
      rcases h1 with h1 | ⟨h1, h2⟩
      · unfold Oper.wp at h1
        rw [hr] at h1
        exact h1
      · have hst := hs o ho a.eval w h.grow (fun t ht => h.keep t fun j oj hj hl hdj => by
          have hm : some t ∈ fs := by rw [← hdj]; exact hfs j oj hj hl
          have h1 := List.all_eq_true.1 ht _ hm
          simp at h1) (fun _ => rfl) (fun _ => rfl) (fun _ => rfl) (depFacts_of (by simpa using hds) h _ (fun e he => hdep e (by simpa using he)))
        rw [if_pos (by unfold guardOn; rw [hg])] at hst
        unfold YieldsG at hst
        rw [hr] at hst
        exact h.put hd ho hdep hst.2 hst.1
    left
    unfold Oper.wp
    rw [hr]
    refine ⟨h2, ?_⟩
    have hdlt : d < a.tmps.size := by rw [h.size]; exact dstsOk_lt hd ho hdd
    have hev : (a.put o.dst (.pointer (some ⟨g, 0, none⟩))).eval (.tmp d) = .pointer (some ⟨g, 0, none⟩) := by rw [hdd]; exact eval_put_same _ _ _ hdlt
    intro j hj hjl
    by_cases hji : j = i
    · subst hji
      refine ⟨d, g, by rw [hol]; exact hdd, hev, fun k hk hkj hkl e he hee => ?_⟩
      rw [getD_set_ne false (fun h => hkj h.symm)] at hkl
      rw [eval_put_ne _ _ _ _ (hne hkj he)] at hee
      have := hlt hk hkl he hee
      omega
    · rw [getD_set_ne false (fun h => hji h.symm)] at hjl
      obtain ⟨d2, g2, hd2, he2, hap⟩ := hA j hj hjl
      refine ⟨d2, g2, hd2, by rw [eval_put_ne _ _ _ _ (hne hji hd2)]; exact he2, fun k hk hkj hkl e he hee => ?_⟩
      by_cases hki : k = i
      · subst hki
        rw [hol] at he
        have : d = e := Option.some.inj (hdd.symm.trans he)
        subst this
        rw [hev] at hee
        have h1 : g = g2 := by injection hee with h; injection h with h; injection h
        have := hlt hj hjl hd2 he2
        omega
      · rw [getD_set_ne false (fun h => hki h.symm)] at hkl
        rw [eval_put_ne _ _ _ _ (hne hki he)] at hee
        exact hap k hk hkj hkl e he hee
  · refine wpOp_mono (fun a' w' h' => ⟨h'.1, ?_⟩) (wpOp_keep h1)
    intro j hj hjl
    have hji : j ≠ i := fun e => hiD (e ▸ hj)
    rw [getD_set_ne false (fun h => hji h.symm)] at hjl
    obtain ⟨d2, g2, hd2, he2, hap⟩ := hA j hj hjl
    have hkeep : ∀ {k : Nat} {e : Tmp}, k ≠ i → (l[k]?).bind (·.dst) = some e → a'.eval (.tmp e) = a.eval (.tmp e) := fun hk he => h'.2 _ (by rw [ho]; exact hne hk he)
    refine ⟨d2, g2, hd2, (hkeep hji hd2).trans he2, fun k hk hkj hkl e he hee => ?_⟩
    have hki : k ≠ i := fun e => hiD (e ▸ hk)
    rw [getD_set_ne false (fun h => hki h.symm)] at hkl
    rw [hkeep hki he] at hee
    exact hap k hk hkj hkl e he hee
theorem late_enterA {n : Nat} {O : List (Nat × Value)} (hd : dstsOk l.toArray a0.tmps.size = true) (hlate : lateB l n (O.map (·.1)) = true) (he : edgesOk l.toArray = true) (hn : n < l.length) (hAs : LateEqs As O)
    (fuel : Nat) (listed : Array Bool) (a : Act) (w : World) (hI : InvG l.toArray As a0 w0 listed a w) (hu : ∀ i, n ≤ i → listed.getD i false = false) (hc : (List.range l.length).countP (fun i => listed.getD i false == false) ≤ fuel)
    (hhd : ∀ i, i < n → i ∉ O.map (·.1) → listed.getD i false = true)
    (h : Grow B w0 w → AllG (l.take n) As (lateVal l O listed a) 0 w → ∃ I, LateRuns P I l (putAll (l.take n) (lateVal l O listed a) 0 a0).eval O ∧ wpListI P l.toArray I Q (l.drop n) (putAll (l.take n) (lateVal l O listed a) 0 a0) w) : wpAny P .any l.toArray Q fuel listed a w := by
  have hle : ∀ {i : Nat} {o : Oper}, (l.take n)[i]? = some o → i < n ∧ l[i]? = some o := fun h => take_get h
  have hput : ∀ {i : Nat} {o : Oper} {d : Tmp}, i < n → l[i]? = some o → o.dst = some d → (putAll (l.take n) (lateVal l O listed a) 0 a0).eval (.tmp d) = lateVal l O listed a i := by
    intro i o d hi ho hdo
    rw [putAll_some (l.take n) _ 0 a0 d i o (dstsOk_lt hd (show l.toArray[i]? = some o by simpa using ho) hdo) (by rw [List.getElem?_take, if_pos hi]; exact ho) hdo fun j' o' hj' hdj' => by
      by_cases hjj : j' = i
      · exact hjj
      · exact absurd rfl (dstsOk_ne hd (show l.toArray[j']? = some o' by simpa using (hle hj').2) (show l.toArray[i]? = some o by simpa using ho) hdj' hdo hjj), Nat.zero_add]
  have hlisted : ∀ {i : Nat} {o : Oper} {d : Tmp}, l[i]? = some o → o.dst = some d → listed.getD i false = true → lateVal l O listed a i = a.eval (.tmp d) := by
    intro i o d ho hdo hli
    unfold lateVal; rw [if_pos hli]; simp [ho, hdo]
  have hin : ∀ {i : Nat} {o : Oper}, l[i]? = some o → listed.getD i false = true → i < n := by
    intro i o ho hli
    rcases Nat.lt_or_ge i n with h' | h'
    · exact h'
    · rw [hu i h'] at hli; cases hli
  obtain ⟨I, hR, hw⟩ := h hI.grow (allG_of (l.take n) As _ 0 w fun i o ho hdo => by
    rw [Nat.zero_add]
    obtain ⟨hi, ho2⟩ := hle ho
    cases hd' : o.dst with
    | none => exact absurd hd' hdo
    | some d =>
      cases hli : listed.getD i false with
      | true => rw [hlisted ho2 hd' hli]; exact hI.done i o d (by simpa using ho2) hli hd'
      | false =>
        have him : i ∈ O.map (·.1) := by
          by_cases h : i ∈ O.map (·.1)
          · exact h
          · rw [hhd i hi h] at hli; cases hli
        obtain ⟨p, hp, rfl⟩ := List.mem_map.1 him
        rw [lateVal_of hAs hp hli, lateEqs_get hAs p hp]
        rfl)
  refine wpAny_late (k := 0) hlate he hn hR fuel listed a _ w ⟨by rw [hI.lsize]; simp, hhd, ?_, ?_, ?_, by rw [hI.size]; exact hd, ?_, ?_⟩ (fun _ _ _ _ _ _ => rfl) (Nat.zero_le _) (by rw [Nat.add_zero]; exact hw) hc
  · intro i hi _
    rw [hu i hi]
    exact ⟨fun h => (by cases h), fun h => (by omega)⟩
  · rw [putAll_size]; exact hI.size
  · rw [putAll_defers]; exact hI.defers
  · intro t ht
    by_cases hex : ∃ (j : Nat) (o : Oper), (l.take n)[j]? = some o ∧ o.dst = some t
    · obtain ⟨j, o, hj, hdj⟩ := hex
      obtain ⟨hjn, hjl⟩ := hle hj
      rw [hput hjn hjl hdj]
      cases hli : listed.getD j false with
      | true => rw [hlisted hjl hdj hli]
      | false =>
        have him : j ∈ O.map (·.1) := by
          by_cases h : j ∈ O.map (·.1)
          · exact h
          · rw [hhd j hjn h] at hli; cases hli
        exact absurd (by rw [hjl]; exact hdj) (ht j him hli)
    · rw [putAll_none (l.take n) _ 0 a0 t fun o ho hdo => hex (by obtain ⟨j, hj⟩ := List.getElem?_of_mem ho; exact ⟨j, o, hj, hdo⟩)]
      exact hI.keep t fun i o ho hli hdo => hex ⟨i, o, by
        have ho2 : l[i]? = some o := by simpa using ho
        rw [List.getElem?_take, if_pos (hin ho2 hli)]; exact ho2, hdo⟩
  · intro p hp d hdp
    cases hp1 : l[p.1]? with
    | none => rw [hp1] at hdp; cases hdp
    | some o =>
      rw [hp1] at hdp
      have hdp' : o.dst = some d := hdp
      have hb := hlate
      unfold lateB at hb
      rw [Bool.and_eq_true] at hb
      have hb1 := List.all_eq_true.1 hb.1 p.1 (List.mem_map.2 ⟨p, hp, rfl⟩)
      simp only [hp1, Bool.and_eq_true, decide_eq_true_eq] at hb1
      rw [hput hb1.1 hp1 hdp']
      cases hli : listed.getD p.1 false with
      | false => exact lateVal_of hAs hp hli
      | true =>
        rw [hlisted hp1 hdp' hli]
        have := hI.done p.1 o d (by simpa using hp1) hli hdp'
        rw [lateEqs_get hAs p hp] at this
        exact this
theorem wpAny_headA {n : Nat} {O : List (Nat × Value)} {D : List Nat} (hds : l.map (·.dst) = ds) (hd : dstsOk l.toArray a0.tmps.size = true) (hlate : lateB l n (O.map (·.1)) = true) (he : edgesOk l.toArray = true) (hn : n < l.length) (hAs : LateEqs As O)
    (hD : ∀ i ∈ D, ∀ o, l[i]? = some o → FreshAt P o ∧ o.dst.isSome = true) (hDn : ∀ i ∈ D, i < n ∧ i ∉ O.map (·.1)) (hbox : ∀ i ∈ D, ∀ g w, ((As[i]?).getD Asrt.any).p (.pointer (some ⟨g, 0, none⟩)) w → g < w.heap.size)
    (hs : ∀ i o, i < n → l[i]? = some o → StepH P ds (ds.take n) As a0 w0 i o)
    (h : ∀ (v : Nat → Value) w', Grow B w0 w' → AllG (l.take n) As v 0 w' → (∀ i ∈ D, ∀ j ∈ D, j ≠ i → v j ≠ v i) → ∃ I, LateRuns P I l (putAll (l.take n) v 0 a0).eval O ∧ wpListI P l.toArray I Q (l.drop n) (putAll (l.take n) v 0 a0) w') :
    ∀ (fuel : Nat) (listed : Array Bool) (a : Act) (w : World), InvG l.toArray As a0 w0 listed a w → ApartB l D listed a → (∀ i, n ≤ i → listed.getD i false = false) → (List.range l.length).countP (fun i => listed.getD i false == false) ≤ fuel → wpAny P .any l.toArray Q fuel listed a w := by
  intro fuel
  induction fuel with
  | zero =>
    intro listed a w hI hA hu hc
    have := countP_pos_of hn (hu n (Nat.le_refl _))
    omega
  | succ fuel ih =>
    intro listed a w hI hA hu hc
    have hsz : l.toArray.size = l.length := by simp
    refine ⟨fun hr => absurd hr (exists_ready he hI.lsize (by rw [hsz]; exact hn) (hu n (Nat.le_refl _))), fun j hj => ?_⟩
    rcases Nat.lt_or_ge j n with hjn | hjn
    · have hjl : j < listed.size := by rw [hI.lsize, hsz]; omega
      refine wpOp_mono (fun a' w' h' => ih _ _ _ h'.1 h'.2 (fun t ht => ?_) ?_) (step_invA (Q := Q) (D := D) hds hd hD hbox hI hA (fun k ok hk hlk => by
          have hkn : k < n := by
            rcases Nat.lt_or_ge k n with h' | h'
            · exact h'
            · rw [hu k h'] at hlk; cases hlk
          have hk2 : l[k]? = some ok := by simpa using hk
          refine List.mem_of_getElem? (i := k) ?_
          rw [List.getElem?_take, if_pos hkn, ← hds, List.getElem?_map, hk2]; rfl) (fun o ho => hs j o hjn (by simpa using ho)) hj)
      · rw [getD_set_ne false (by omega)]; exact hu t ht
      · obtain ⟨hjun, _⟩ := mem_ready.1 hj
        have hjunf : listed.getD j false = false := by simp [hjl] at hjun ⊢; exact hjun
        have := countP_set_lt (show j < l.length by omega) hjl hjunf
        omega
    · have hhd : ∀ i, i < n → i ∉ O.map (·.1) → listed.getD i false = true := by
        obtain ⟨hun, o, ho, hdep⟩ := mem_ready.1 hj
        have hol : l[j]? = some o := by simpa using ho
        have hjl : j < l.length := (List.getElem?_eq_some_iff.1 hol).1
        have hb := hlate
        unfold lateB at hb
        rw [Bool.and_eq_true] at hb
        have hb2 := List.all_eq_true.1 hb.2 j (List.mem_range.2 hjl)
        simp only [hol, Bool.or_eq_true, decide_eq_true_eq, Bool.and_eq_true] at hb2
        obtain ⟨⟨-, -⟩, hed⟩ := hb2.resolve_left (by omega)
        have hjn' : j = n := by
          rcases Nat.lt_or_ge n j with h' | h'
          · rw [if_neg (by simp; omega)] at hed
            have h2 := hasEdge_listed hed hdep
            rw [hu (j - 1) (by omega)] at h2; cases h2
          · omega
        rw [if_pos (by simp [hjn'])] at hed
        intro i hi hiO
        have h3 := List.all_eq_true.1 hed i (List.mem_range.2 hi)
        rw [Bool.or_eq_true] at h3
        rcases h3 with h3 | h3
        · exact absurd (List.contains_iff_mem.1 h3) hiO
        · exact hasEdge_listed h3 hdep
      have hap : ∀ i ∈ D, ∀ j ∈ D, j ≠ i → lateVal l O listed a j ≠ lateVal l O listed a i := by
        intro i hi k hk hki
        obtain ⟨hin, hiO⟩ := hDn i hi
        obtain ⟨hkn, hkO⟩ := hDn k hk
        obtain ⟨d, g, hdd, hev, hap⟩ := hA i hi (hhd i hin hiO)
        have hkl := hhd k hkn hkO
        have hko : l[k]? = some l[k] := List.getElem?_eq_getElem (by omega)
        obtain ⟨e, he'⟩ := Option.isSome_iff_exists.1 (hD k hk _ hko).2
        have hke : (l[k]?).bind (·.dst) = some e := by rw [hko]; exact he'
        have h1 : lateVal l O listed a k = a.eval (.tmp e) := by unfold lateVal; rw [if_pos hkl, hke]; rfl
        have h2 : lateVal l O listed a i = a.eval (.tmp d) := by unfold lateVal; rw [if_pos (hhd i hin hiO), hdd]; rfl
        rw [h1, h2, hev]
        exact hap k hk hki hkl e hke
      have hall := late_enterA hd hlate he hn hAs (fuel + 1) listed a w hI hu hc hhd (fun gw ha => h _ w gw ha hap)
      exact hall.2 j hj
/-- A region whose order is open, with several new blocks, with stores at its end and operations that may come behind them. -/
theorem wp_region_inv_apart {id : Nat} (n : Nat) (ds : List (Option Tmp)) (As : List (Asrt B)) (O : List (Nat × Value)) (D : List Nat) (hds : l.map (·.dst) = ds) (hm : P.follows .mixedOrders = true) (hd : dstsOk l.toArray a0.tmps.size = true) (he : edgesOk l.toArray = true) (hlate : lateB l n (O.map (·.1)) = true) (hn : n < l.length) (hAs : LateEqs As O)
    (hD : ∀ i ∈ D, ∀ o, l[i]? = some o → FreshAt P o ∧ o.dst.isSome = true) (hDn : ∀ i ∈ D, i < n ∧ i ∉ O.map (·.1)) (hbox : ∀ i ∈ D, ∀ g w, ((As[i]?).getD Asrt.any).p (.pointer (some ⟨g, 0, none⟩)) w → g < w.heap.size)
    (hB : B ≤ w0.heap.size) (hs : StepsH P ds (ds.take n) As a0 w0 0 (l.take n))
    (h : ∀ (v : Nat → Value) w', Grow B w0 w' → AllG (l.take n) As v 0 w' → (∀ i ∈ D, ∀ j ∈ D, j ≠ i → v j ≠ v i) → ∃ I, LateRuns P I l (putAll (l.take n) v 0 a0).eval O ∧ wpListI P l.toArray I Q (l.drop n) (putAll (l.take n) v 0 a0) w') : (Code.region id l.toArray true).wp P Q a0 w0 := by
  refine wp_region_any hm ?_
  change wpAny P .any l.toArray Q l.toArray.size (Array.replicate l.toArray.size false) a0 w0.drew
  refine wpAny_headA hds hd hlate he hn hAs hD hDn hbox (fun i o hin ho => by have := stepsH_get (l.take n) 0 hs i o (by rw [List.getElem?_take, if_pos hin]; exact ho); simpa using this) h _ _ _ _ ⟨Grow.drew hB, rfl, rfl, by simp, ?_, fun _ _ => rfl, ?_⟩ (fun i _ hl => by rw [getD_replicate_false] at hl; cases hl) (fun i _ => getD_replicate_false _ _) ?_
  · intro i o d _ hl; simp [Array.getElem?_replicate] at hl; split at hl <;> cases hl
  · intro i o _ hl; simp [Array.getElem?_replicate] at hl; split at hl <;> cases hl
  · have := List.countP_le_length (p := fun i => (Array.replicate l.toArray.size false).getD i false == false) (l := List.range l.length)
    simpa using this
end
end Go.Proofs.YteogcilnpkaplaaDoor

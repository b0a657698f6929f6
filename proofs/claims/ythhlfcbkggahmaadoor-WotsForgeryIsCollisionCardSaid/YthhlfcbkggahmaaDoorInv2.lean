/- A region whose order is open: a head of operations that only read or make memory, and a tail that waits for all of them and goes in the order of the text. No conditions. -/
import Derived.Test.YthhlfcbkggahmaaDoorSteps
import Derived.Deep.MidRow
namespace Go.Proofs.YthhlfcbkggahmaaDoor
open Go.RowKit
section
variable {P : Program} {B : Nat} {ds : List (Option Tmp)} {ops : Array Oper} {As : List (Asrt B)} {a0 : Act} {w0 : World}
/-- One step of the head: fs says which slots the head writes. -/
def StepH {B : Nat} (P : Program) (ds fs : List (Option Tmp)) (As : List (Asrt B)) (a0 : Act) (w0 : World) (i : Nat) (o : Oper) : Prop :=
  ∀ (ev : Operand → Value) (w : World), Grow B w0 w → (∀ t, freeD fs t = true → ev (.tmp t) = a0.eval (.tmp t)) → (∀ v, ev (.const v) = v) → (∀ g, ev (.global g) = .pointer (some ⟨g, 0, none⟩)) → (∀ f, ev (.func f) = .func (.func f) #[] #[]) →
    DepFacts ds As ev w o.after.toList →
    if guardOn ds ev o = true then YieldsG P o ev w (fun v w' => ((As[i]?).getD Asrt.any).p v w' ∧ Grow B w w') else ((As[i]?).getD Asrt.any).p undef w
def StepsH {B : Nat} (P : Program) (ds fs : List (Option Tmp)) (As : List (Asrt B)) (a0 : Act) (w0 : World) : Nat → List Oper → Prop
  | _, [] => True
  | i, o :: l => StepH P ds fs As a0 w0 i o ∧ StepsH P ds fs As a0 w0 (i + 1) l
theorem stepsH_get {fs : List (Option Tmp)} : ∀ (l : List Oper) (k : Nat), StepsH P ds fs As a0 w0 k l → ∀ i o, l[i]? = some o → StepH P ds fs As a0 w0 (k + i) o
  | [], _, _, i, o, h => by simp at h
  | o' :: l, k, hs, 0, o, h => by
    have : o' = o := by simpa using h
    subst this; exact hs.1
  | o' :: l, k, hs, i + 1, o, h => by
    have := stepsH_get l (k + 1) hs.2 i o (by simpa using h)
    rwa [show k + (i + 1) = k + 1 + i by omega]
theorem step_inv1 (hds : ops.toList.map (·.dst) = ds) (hd : dstsOk ops a0.tmps.size = true) {listed : Array Bool} {a : Act} {w : World} {Q : Exit → Act → World → Prop} (h : InvG ops As a0 w0 listed a w) {i : Nat} {fs : List (Option Tmp)} (hfs : ∀ (j : Nat) oj, ops[j]? = some oj → listed.getD j false = true → oj.dst ∈ fs) (hs : ∀ o, ops[i]? = some o → StepH P ds fs As a0 w0 i o)
    (hi : i ∈ Region.ready .any ops listed) : wpOp P ops Q i (fun a' w' => InvG ops As a0 w0 (listed.setIfInBounds i true) a' w') a w := by
  obtain ⟨_, o, ho, hdep⟩ := mem_ready.1 hi
  have hstep := hs o ho a.eval w h.grow (fun t ht => h.keep t fun j oj hj hl hdj => by
      have hm : some t ∈ fs := by rw [← hdj]; exact hfs j oj hj hl
      have h1 := List.all_eq_true.1 ht _ hm
      simp at h1) (fun _ => rfl) (fun _ => rfl) (fun _ => rfl) (depFacts_of hds h _ (fun e he => hdep e (by simpa using he)))
  unfold wpOp
  simp only [ho, wanted_eq hds]
  by_cases hg : guardOn ds a.eval o = true
  · rw [if_pos hg] at hstep ⊢
    left
    unfold YieldsG at hstep
    unfold Oper.wp
    generalize (execOp a.eval o).run P w = r at *
    cases r with
    | ok n w' =>
      cases n with
      | value v => exact h.put hd ho hdep hstep.2 hstep.1
      | skip => exact h.put hd ho hdep hstep.2 hstep.1
      | enter f args =>
        exact Calls.mono hstep fun e w'' ⟨v, he, hp, hg⟩ => by subst he; exact h.put hd ho hdep hg hp
      | defer d => exact hstep.elim
      | row r args => exact hstep.elim
      | _ => exact hstep.elim
    | halt x w' => exact hstep.elim
  · rw [if_neg hg] at hstep ⊢
    exact h.put hd ho hdep (Grow.refl h.grow.top) hstep
theorem wpAny_of_seq_ge {md : Region.Mode} {Q' : Exit → Act → World → Prop} : ∀ (l : List Oper) (fuel k : Nat) (listed : Array Bool) (a : Act) (w : World), l.length ≤ fuel → (∀ j, l[j]? = ops[k + j]?) →
    Region.seqB md ops l.length k listed = true → wpList P ops Q' l a w → wpAny P md ops Q' fuel listed a w
  | [], 0, _, _, _, _, _, _, hB, h => ⟨by simpa [Region.seqB] using hB, h⟩
  | [], f + 1, k, listed, a, w, _, _, hB, h => ⟨fun _ => h, fun i hi => by
      have : Region.ready md ops listed = [] := by simpa [Region.seqB] using hB
      rw [this] at hi; cases hi⟩
  | o :: l, 0, _, _, _, _, hf, _, _, _ => by simp at hf
  | o :: l, f + 1, k, listed, a, w, hf, hl, hB, h => by
    have h0 : ops[k]? = some o := by simpa using (hl 0).symm
    simp only [List.length_cons, Region.seqB, Bool.and_eq_true, decide_eq_true_eq] at hB
    refine ⟨fun h1 => (by rw [hB.1] at h1; cases h1), fun i hi => ?_⟩
    rw [hB.1] at hi
    have hik : i = k := by simpa using hi
    subst hik
    have hw : wpOp P ops Q' i (wpList P ops Q' l) a w := by unfold wpOp; simp only [h0]; exact h
    exact wpOp_mono (fun a' w' h' => wpAny_of_seq_ge l f (i + 1) _ a' w' (by simpa using hf) (fun j => by have := hl (j + 1); simpa [Nat.add_assoc, Nat.add_comm 1 j] using this) hB.2 h') hw
theorem take_get {α : Type} {l : List α} {n i : Nat} {o : α} (h : (l.take n)[i]? = some o) : i < n ∧ l[i]? = some o := by
  rw [List.getElem?_take] at h
  split at h
  · exact ⟨by assumption, h⟩
  · cases h
/-- Where the head is done the frame is the one written in the order of the text. -/
theorem inv_head {l : List Oper} {n : Nat} {R : Act → World → Prop} (hd : dstsOk l.toArray a0.tmps.size = true) (h : ∀ (v : Nat → Value) w', Grow B w0 w' → AllG (l.take n) As v 0 w' → R (putAll (l.take n) v 0 a0) w')
    (listed : Array Bool) (a : Act) (w : World) (hI : InvG l.toArray As a0 w0 listed a w) (hl : ∀ i, i < n → i < l.length → listed.getD i false = true) (hu : ∀ i, n ≤ i → listed.getD i false = false) : R a w := by
  have hv : ∀ (i : Nat) (o : Oper) (d : Tmp), l[i]? = some o → o.dst = some d → a.eval (.tmp d) = (fun i => a.eval (.tmp (((l[i]?).bind (·.dst)).getD 0))) i := by
    intro i o d ho hd'; simp [ho, hd']
  have hlen : ∀ (i : Nat) (o : Oper), l[i]? = some o → i < l.length := fun i o ho => (List.getElem?_eq_some_iff.1 ho).1
  have hfr : a = putAll (l.take n) (fun i => a.eval (.tmp (((l[i]?).bind (·.dst)).getD 0))) 0 a0 := by
    have h1 : a.defers = (putAll (l.take n) (fun i => a.eval (.tmp (((l[i]?).bind (·.dst)).getD 0))) 0 a0).defers := by rw [putAll_defers, hI.defers]
    have h2 : a.tmps = (putAll (l.take n) (fun i => a.eval (.tmp (((l[i]?).bind (·.dst)).getD 0))) 0 a0).tmps := by
      apply Array.ext
      · rw [putAll_size, hI.size]
      · intro t ht1 ht2
        have e : ∀ (b : Act) (hb : t < b.tmps.size), b.tmps[t] = b.eval (.tmp t) := fun b hb => by simp [Act.eval, hb]
        rw [e _ ht1, e _ ht2]
        by_cases hex : ∃ (j : Nat) (o : Oper), (l.take n)[j]? = some o ∧ o.dst = some t
        · obtain ⟨j, o, hj, hdj⟩ := hex
          have hj2 := (take_get hj).2
          rw [putAll_some (l.take n) _ 0 a0 t j o (by rw [← hI.size]; exact ht1) hj hdj fun j' o' hj' hdj' => by
            by_cases hjj : j' = j
            · exact hjj
            · exact absurd rfl (dstsOk_ne hd (by simpa using (take_get hj').2) (by simpa using hj2) hdj' hdj hjj)]
          rw [Nat.zero_add]; exact hv j o t hj2 hdj
        · rw [putAll_none (l.take n) _ 0 a0 t fun o ho hdo => hex (by obtain ⟨j, hj⟩ := List.getElem?_of_mem ho; exact ⟨j, o, hj, hdo⟩)]
          exact hI.keep t fun i o ho hli hdo => hex ⟨i, o, by
            have hin : i < n := by
              rcases Nat.lt_or_ge i n with h' | h'
              · exact h'
              · rw [hu i h'] at hli; cases hli
            rw [List.getElem?_take, if_pos hin]; simpa using ho, hdo⟩
    cases a; cases hq : putAll (l.take n) _ 0 a0
    simp only [hq] at h1 h2
    subst h1; subst h2; rfl
  rw [hfr]
  refine h _ w hI.grow (allG_of (l.take n) As _ 0 w fun i o ho hdo => ?_)
  rw [Nat.zero_add]
  obtain ⟨hin, ho2⟩ := take_get ho
  cases hd' : o.dst with
  | none => exact absurd hd' hdo
  | some d =>
    have := hI.done i o d (by simpa using ho2) (hl i hin (hlen i o ho2)) hd'
    rwa [hv i o d ho2 hd'] at this
theorem exists_ready (he : edgesOk ops = true) {listed : Array Bool} (hsz : listed.size = ops.size) {i : Nat} (hi : i < ops.size) (hl : listed.getD i false = false) : Region.ready .any ops listed ≠ [] := by
  intro hr
  have hall : ∀ i, i < ops.size → listed.getD i false = true := by
    intro i
    induction i using Nat.strongRecOn with
    | _ i ih =>
      intro hi
      cases hl : listed.getD i false with
      | true => rfl
      | false =>
        have hmem : i ∈ Region.ready .any ops listed := mem_ready.2 ⟨getD_in (by rw [hsz]; exact hi) hl, ops[i], Array.getElem?_eq_getElem hi, fun e hee hb => by
          have := edgesOk_lt he (Array.getElem?_eq_getElem hi) hee hb
          exact ih e.on this (by omega)⟩
        rw [hr] at hmem; cases hmem
  rw [hall i hi] at hl; cases hl
theorem countP_set_lt {listed : Array Bool} {i n : Nat} (hin : i < n) (hil : i < listed.size) (hunf : listed.getD i false = false) :
    (List.range n).countP (fun j => (listed.setIfInBounds i true).getD j false == false) < (List.range n).countP (fun j => listed.getD j false == false) := by
  have hmono : ∀ j, ((listed.setIfInBounds i true).getD j false == false) = true → (listed.getD j false == false) = true := fun j hj => by
    cases hl : listed.getD j false with
    | true => rw [getD_set_true hl] at hj; cases hj
    | false => rfl
  have hi0 : ((listed.setIfInBounds i true).getD i false == false) = false := by simp [hil]
  have key : ∀ (l : List Nat), i ∈ l → l.countP (fun j => (listed.setIfInBounds i true).getD j false == false) < l.countP (fun j => listed.getD j false == false) := by
    intro l
    induction l with
    | nil => intro hm; cases hm
    | cons j l ihl =>
      intro hm
      have hle : l.countP (fun j => (listed.setIfInBounds i true).getD j false == false) ≤ l.countP (fun j => listed.getD j false == false) := List.countP_mono_left fun x _ hx => hmono x hx
      rw [List.countP_cons, List.countP_cons]
      by_cases hij : j = i
      · subst hij
        rw [hi0, hunf, if_neg (by decide), if_pos (by decide)]
        omega
      · have hm' : i ∈ l := by
          rcases List.mem_cons.1 hm with h' | h'
          · exact absurd h'.symm hij
          · exact h'
        have := ihl hm'
        have e : (listed.setIfInBounds i true).getD j false = listed.getD j false := getD_set_ne false (fun h => hij h.symm)
        rw [e]
        exact Nat.add_lt_add_right this _
  exact key _ (List.mem_range.2 hin)
theorem wpAny_head {l : List Oper} {n : Nat} (hds : l.map (·.dst) = ds) (hd : dstsOk l.toArray a0.tmps.size = true) (he : edgesOk l.toArray = true) (hsk : Region.sinkB .any l.toArray n = true) (hch : Region.chainB .any l.toArray n = true) (hn : n < l.length)
    (hs : ∀ i o, i < n → l[i]? = some o → StepH P ds (ds.take n) As a0 w0 i o) {Q : Exit → Act → World → Prop}
    (hQ : ∀ listed a w fuel, InvG l.toArray As a0 w0 listed a w → (∀ i, i < n → listed.getD i false = true) → (∀ i, n ≤ i → listed.getD i false = false) → l.length - n ≤ fuel → wpAny P .any l.toArray Q fuel listed a w) :
    ∀ (c fuel : Nat) (listed : Array Bool) (a : Act) (w : World), InvG l.toArray As a0 w0 listed a w → (∀ i, n ≤ i → listed.getD i false = false) → (List.range n).countP (fun i => listed.getD i false == false) ≤ c → c + (l.length - n) ≤ fuel → wpAny P .any l.toArray Q fuel listed a w := by
  intro c
  induction c with
  | zero =>
    intro fuel listed a w h hu hc hf
    refine hQ listed a w fuel h (fun i hi => ?_) hu (by omega)
    cases hl : listed.getD i false with
    | true => rfl
    | false =>
      have : 0 < (List.range n).countP (fun i => listed.getD i false == false) := List.countP_pos_iff.2 ⟨i, List.mem_range.2 hi, by rw [hl]; rfl⟩
      omega
  | succ c ih =>
    intro fuel listed a w h hu hc hf
    by_cases hall : ∀ i, i < n → listed.getD i false = true
    · exact hQ listed a w fuel h hall hu (by omega)
    · obtain ⟨i, hi⟩ := Classical.not_forall.1 hall
      have hin : i < n := by
        rcases Nat.lt_or_ge i n with h' | h'
        · exact h'
        · exact absurd (fun hh => absurd hh (by omega)) hi
      have hun : listed.getD i false = false := by
        cases hl : listed.getD i false with
        | true => exact absurd (fun _ => hl) hi
        | false => rfl
      have hsz : l.toArray.size = l.length := by simp
      have hilt : i < listed.size := by rw [h.lsize, hsz]; omega
      have hinv : HeadInv .any l.toArray n listed := ⟨h.lsize, h.closed, fun t ht ht' => getD_in (by rw [h.lsize]; exact ht') (hu t ht)⟩
      cases fuel with
      | zero => omega
      | succ fuel =>
        refine ⟨fun hr => absurd hr (exists_ready he h.lsize (by rw [hsz]; omega) hun), fun j hj => ?_⟩
        have hjn : j < n := by
          rcases Nat.lt_or_ge j n with h' | h'
          · exact h'
          · exact absurd hj (tail_waits hsk hch (by rw [hsz]; exact hn) hinv _ i rfl hin (getD_in hilt hun) j h')
        refine wpOp_mono (fun a' w' h' => ih fuel _ _ _ h' (fun t ht => ?_) ?_ (by omega)) (step_inv1 (Q := Q) (by simpa using hds) hd h (fun k ok hk hlk => by
          have hkn : k < n := by
            rcases Nat.lt_or_ge k n with h' | h'
            · exact h'
            · rw [hu k h'] at hlk; cases hlk
          have hk2 : l[k]? = some ok := by simpa using hk
          refine List.mem_of_getElem? (i := k) ?_
          rw [List.getElem?_take, if_pos hkn, ← hds, List.getElem?_map, hk2]; rfl) (fun o ho => hs j o hjn (by simpa using ho)) hj)
        · rw [getD_set_ne false (by omega)]; exact hu t ht
        · obtain ⟨hjun, _⟩ := mem_ready.1 hj
          have hjl : j < listed.size := by rw [h.lsize, hsz]; omega
          have hjunf : listed.getD j false = false := by simp [hjl] at hjun ⊢; exact hjun
          have := countP_set_lt hjn hjl hjunf
          omega
/-- A region whose order is open, with a tail. -/
theorem wp_region_inv_tail {id : Nat} {l : List Oper} {Q : Exit → Act → World → Prop} (n : Nat) (ds : List (Option Tmp)) (As : List (Asrt B)) (hds : l.map (·.dst) = ds) (hm : P.follows .mixedOrders = true) (hd : dstsOk l.toArray a0.tmps.size = true) (he : edgesOk l.toArray = true)
    (hsk : Region.sinkB .any l.toArray n = true) (hch : Region.chainB .any l.toArray n = true) (hn : n < l.length) (hsq : Region.seqB .any l.toArray (l.length - n) n ((List.range l.length).map fun i => decide (i < n)).toArray = true)
    (hB : B ≤ w0.heap.size) (hs : StepsH P ds (ds.take n) As a0 w0 0 (l.take n)) (h : ∀ (v : Nat → Value) w', Grow B w0 w' → AllG (l.take n) As v 0 w' → wpList P l.toArray Q (l.drop n) (putAll (l.take n) v 0 a0) w') : (Code.region id l.toArray true).wp P Q a0 w0 := by
  refine wp_region_any hm ?_
  change wpAny P .any l.toArray Q l.toArray.size (Array.replicate l.toArray.size false) a0 w0.drew
  have hinit : InvG l.toArray As a0 w0 (Array.replicate l.toArray.size false) a0 w0.drew := by
    refine ⟨Grow.drew hB, rfl, rfl, by simp, ?_, fun _ _ => rfl, ?_⟩
    · intro i o d _ hl; simp [Array.getElem?_replicate] at hl; split at hl <;> cases hl
    · intro i o _ hl; simp [Array.getElem?_replicate] at hl; split at hl <;> cases hl
  have hdl : (l.drop n).length = l.length - n := by simp
  refine wpAny_head hds hd he hsk hch hn (fun i o hin ho => by have := stepsH_get (l.take n) 0 hs i o (by rw [List.getElem?_take, if_pos hin]; exact ho); simpa using this) ?_ n _ _ _ _ hinit (fun i _ => getD_replicate_false _ _) ?_ (by simp; omega)
  · intro listed a w fuel hI hl hu hf
    have hlist : listed = ((List.range l.length).map fun i => decide (i < n)).toArray := by
      apply Array.ext
      · rw [hI.lsize]; simp
      · intro i h1 h2
        have hi : i < l.length := by simpa using h2
        have e : listed[i] = listed.getD i false := by simp [h1]
        rw [e]
        simp only [List.getElem_toArray, List.getElem_map, List.getElem_range]
        by_cases hin : i < n
        · rw [hl i hin, decide_eq_true hin]
        · rw [hu i (by omega), decide_eq_false hin]
    refine wpAny_of_seq_ge (l.drop n) fuel n listed a w (by rw [hdl]; exact hf) (fun j => by simp [List.getElem?_drop]) (by rw [hdl, hlist]; exact hsq) ?_
    exact inv_head (R := fun a w => wpList P l.toArray Q (l.drop n) a w) hd h listed a w hI (fun i hi _ => hl i hi) hu
  · have := List.countP_le_length (p := fun i => (Array.replicate l.toArray.size false).getD i false == false) (l := List.range n)
    simpa using this
/-- An array is loaded out of the middle of a block. -/
theorem yg_load_mid {o : Oper} {ev : Operand → Value} {w : World} {K : Value → World → Prop} (ty : TypeId) (x : Operand) (ho : o.op = .load ty x) (b off : Nat) (hx : ev x = .pointer (some ⟨b, off, none⟩)) (cs : List Value) (d : TypeDesc)
    (hc : w.rangeAt b off cs) (hu : P.underlying ty = some d) (hd : d.isRow = true) (hi : (P.info? ty).map (·.size) = some cs.length) (hK : K (.agg cs.toArray) w) : YieldsG P o ev w K := by
  unfold YieldsG execOp
  simp only [ho, hx, Instr.loadAt, Instr.sureAddr, Sem.run_bind, Sem.run_pure, Result.andThen_ok, run_loadVar_mid w b off ty cs d hc hu hd hi]
  exact hK
end
end Go.Proofs.YthhlfcbkggahmaaDoor

/- A region whose order is open and whose operations only read or make memory: what each yields is said by an assertion of its own that no later growth of memory undoes; so every order comes to the same end. No conditions. -/
import Derived.Test.YthhlfcbkggahmaaDoorMem1
import Derived.StillTail
namespace Go.Proofs.YthhlfcbkggahmaaDoor
open Go.RowKit

/-- Memory has grown: nothing below B has turned, and what lay there lies there. -/
structure Grow (B : Nat) (w w' : World) : Prop where
  base : B ≤ w.heap.size
  bl : Below B w w'
  kept : ∀ (k : Nat) (o : Obj), w.heap[k]? = some o → w'.heap[k]? = some o
theorem Grow.refl {B : Nat} {w : World} (h : B ≤ w.heap.size) : Grow B w w := ⟨h, Below.refl _ _, fun _ _ h => h⟩
theorem Grow.trans {B : Nat} {a b c : World} (h : Grow B a b) (k : Grow B b c) : Grow B a c :=
  ⟨h.base, h.bl.trans k.bl, fun i o hi => k.kept i o (h.kept i o hi)⟩
theorem Grow.of {B : Nat} {w w' : World} (hB : B ≤ w.heap.size) (h : Below w.heap.size w w') : Grow B w w' :=
  ⟨hB, h.mono hB, fun k _ hk => (h.block k (Array.getElem?_eq_some_iff.1 hk).1).trans hk⟩
theorem Grow.below {B : Nat} {w w' : World} (h : Grow B w w') : Below w.heap.size w w' :=
  ⟨h.bl.os, h.bl.tape, h.bl.output, h.bl.size, fun k hk => by
    have h1 := h.kept k w.heap[k] (Array.getElem?_eq_getElem hk)
    rw [h1, Array.getElem?_eq_getElem hk]⟩
theorem Grow.top {B : Nat} {w w' : World} (h : Grow B w w') : B ≤ w'.heap.size := Nat.le_trans h.base h.bl.size
theorem Grow.drew {B : Nat} {w : World} (h : B ≤ w.heap.size) : Grow B w w.drew := .of h (Below.refl _ _).drew
theorem Grow.cell {B : Nat} {w w' : World} (h : Grow B w w') {b o : Nat} {v : Value} (hc : w.cell? ⟨b, o, none⟩ = some v) : w'.cell? ⟨b, o, none⟩ = some v := by
  unfold World.cell? at hc ⊢
  cases hb : w.heap[b]? with
  | none => simp [hb] at hc
  | some ob =>
    simp only [hb] at hc
    simp only [h.kept b ob hb]
    exact hc
/-- What is said of a value in a world, for good. -/
structure Asrt (B : Nat) where
  p : Value → World → Prop
  st : ∀ v w w', p v w → Grow B w w' → p v w'
def Asrt.eq {B : Nat} (x : Value) : Asrt B := ⟨fun v _ => v = x, fun _ _ _ h _ => h⟩
def Asrt.any {B : Nat} : Asrt B := ⟨fun _ _ => True, fun _ _ _ _ _ => trivial⟩

/-- An operation, run where its operands are as ev says, hands back a value of which K holds. -/
def YieldsG (P : Program) (o : Oper) (ev : Operand → Value) (w : World) (K : Value → World → Prop) : Prop :=
  match (execOp ev o).run P w with
  | .ok (.value v) w' => K v w'
  | .ok .skip w' => K undef w'
  | .ok (.enter f args) w' => Calls P f args w' fun e w'' => ∃ v, e = .returned v ∧ K v w''
  | _ => False
/-- The operation's guard, read off ev ('ds': which slot each operation writes). -/
def guardOn (ds : List (Option Tmp)) (ev : Operand → Value) (o : Oper) : Bool :=
  match o.guard with
  | none => true
  | some (j, want) => match (ds[j]?).join with
    | some d => (match ev (.tmp d) with | .bool b => b == want | _ => false)
    | none => false
def freeD (ds : List (Option Tmp)) (t : Nat) : Bool := ds.all fun d => d != some t
/-- What the operations that it waits for have yielded. -/
def DepFacts {B : Nat} (ds : List (Option Tmp)) (As : List (Asrt B)) (ev : Operand → Value) (w : World) : List Edge → Prop
  | [] => True
  | e :: l => (Region.binds .any e = true → ∀ d, (ds[e.on]?).join = some d → ((As[e.on]?).getD Asrt.any).p (ev (.tmp d)) w) ∧ DepFacts ds As ev w l
/-- One operation's step. -/
def StepG {B : Nat} (P : Program) (ds : List (Option Tmp)) (As : List (Asrt B)) (a0 : Act) (w0 : World) (i : Nat) (o : Oper) : Prop :=
  ∀ (ev : Operand → Value) (w : World), Grow B w0 w → (∀ t, freeD ds t = true → ev (.tmp t) = a0.eval (.tmp t)) → (∀ v, ev (.const v) = v) → (∀ g, ev (.global g) = .pointer (some ⟨g, 0, none⟩)) → (∀ f, ev (.func f) = .func (.func f) #[] #[]) →
    DepFacts ds As ev w o.after.toList →
    if guardOn ds ev o = true then YieldsG P o ev w (fun v w' => ((As[i]?).getD Asrt.any).p v w' ∧ Grow B w w') else ((As[i]?).getD Asrt.any).p undef w
def StepsG {B : Nat} (P : Program) (ds : List (Option Tmp)) (As : List (Asrt B)) (a0 : Act) (w0 : World) : Nat → List Oper → Prop
  | _, [] => True
  | i, o :: l => StepG P ds As a0 w0 i o ∧ StepsG P ds As a0 w0 (i + 1) l
/-- The frame behind all of them, written in the order of the text. -/
def putAll : List Oper → (Nat → Value) → Nat → Act → Act
  | [], _, _, a => a
  | o :: l, v, i, a => putAll l v (i + 1) (a.put o.dst (v i))
def dstsOk (ops : Array Oper) (n : Nat) : Bool :=
  (List.range ops.size).all fun i => (List.range ops.size).all fun j =>
    match (ops[i]?).bind (·.dst), (ops[j]?).bind (·.dst) with
    | some d, some e => (i == j || d != e) && decide (d < n)
    | some d, none => decide (d < n)
    | _, _ => true
def edgesOk (ops : Array Oper) : Bool := (List.range ops.size).all fun i => match ops[i]? with
  | some o => o.after.all fun e => !Region.binds .any e || decide (e.on < i)
  | none => true

/-- The state between two operations. -/
structure InvG {B : Nat} (ops : Array Oper) (As : List (Asrt B)) (a0 : Act) (w0 : World) (listed : Array Bool) (a : Act) (w : World) : Prop where
  grow : Grow B w0 w
  defers : a.defers = a0.defers
  size : a.tmps.size = a0.tmps.size
  lsize : listed.size = ops.size
  done : ∀ i o d, ops[i]? = some o → listed.getD i false = true → o.dst = some d → ((As[i]?).getD Asrt.any).p (a.eval (.tmp d)) w
  keep : ∀ t, (∀ i o, ops[i]? = some o → listed.getD i false = true → o.dst ≠ some t) → a.eval (.tmp t) = a0.eval (.tmp t)
  closed : ∀ i o, ops[i]? = some o → listed.getD i false = true → ∀ e ∈ o.after, Region.binds .any e = true → listed.getD e.on false = true
section
variable {P : Program} {B : Nat} {ds : List (Option Tmp)} {ops : Array Oper} {As : List (Asrt B)} {a0 : Act} {w0 : World}
theorem dstsOk_ne {n : Nat} (h : dstsOk ops n = true) {i j : Nat} {o o' : Oper} {d e : Tmp} (hi : ops[i]? = some o) (hj : ops[j]? = some o') (hd : o.dst = some d) (he : o'.dst = some e) (hij : i ≠ j) : d ≠ e := by
  have hi' := (Array.getElem?_eq_some_iff.1 hi).1
  have hj' := (Array.getElem?_eq_some_iff.1 hj).1
  have h1 := List.all_eq_true.1 (List.all_eq_true.1 h i (List.mem_range.2 hi')) j (List.mem_range.2 hj')
  simp only [hi, hj, Option.bind_some, hd, he, Bool.and_eq_true, Bool.or_eq_true, beq_iff_eq, bne_iff_ne] at h1
  exact h1.1.resolve_left hij
theorem dstsOk_lt {n : Nat} (h : dstsOk ops n = true) {i : Nat} {o : Oper} {d : Tmp} (hi : ops[i]? = some o) (hd : o.dst = some d) : d < n := by
  have hi' := (Array.getElem?_eq_some_iff.1 hi).1
  have h1 := List.all_eq_true.1 (List.all_eq_true.1 h i (List.mem_range.2 hi')) i (List.mem_range.2 hi')
  simp only [hi, Option.bind_some, hd, Bool.and_eq_true, decide_eq_true_eq] at h1
  exact h1.2
theorem edgesOk_lt (h : edgesOk ops = true) {i : Nat} {o : Oper} (hi : ops[i]? = some o) {e : Edge} (he : e ∈ o.after) (hb : Region.binds .any e = true) : e.on < i := by
  have hi' := (Array.getElem?_eq_some_iff.1 hi).1
  have h1 := List.all_eq_true.1 h i (List.mem_range.2 hi')
  simp only [hi] at h1
  have h2 := Array.all_eq_true'.1 h1 e he
  simpa [hb] using h2
theorem dst_at (hds : ops.toList.map (·.dst) = ds) (j : Nat) : (ds[j]?).join = (ops[j]?).bind (·.dst) := by
  rw [← hds, List.getElem?_map, Array.getElem?_toList]
  cases ops[j]? <;> rfl
theorem wanted_eq (hds : ops.toList.map (·.dst) = ds) (o : Oper) (a : Act) : Region.wanted o (yielded ops a.tmps) = guardOn ds a.eval o := by
  unfold Region.wanted guardOn yielded
  cases hg : o.guard with
  | none => rfl
  | some q =>
    obtain ⟨j, want⟩ := q
    simp only [dst_at hds]
    cases hd : (ops[j]?).bind (·.dst) with
    | none => simp
    | some d =>
      simp only [Option.bind_some, Act.eval, Array.getD_eq_getD_getElem?]
      cases ht : a.tmps[d]? with
      | none => simp [undef]
      | some v => cases v <;> simp
theorem eval_put_same (a : Act) (d : Tmp) (v : Value) (h : d < a.tmps.size) : (a.put (some d) v).eval (.tmp d) = v := by
  simp [Act.put, Act.eval, h]
theorem eval_put_ne (a : Act) (d : Option Tmp) (t : Tmp) (v : Value) (h : d ≠ some t) : (a.put d v).eval (.tmp t) = a.eval (.tmp t) :=
  Act.eval_put fun e he h' => h (by cases h'; exact he)
theorem put_size (a : Act) (d : Option Tmp) (v : Value) : (a.put d v).tmps.size = a.tmps.size := by
  cases d <;> simp [Act.put]
theorem put_defers (a : Act) (d : Option Tmp) (v : Value) : (a.put d v).defers = a.defers := by
  cases d <;> rfl
theorem InvG.put (hd : dstsOk ops a0.tmps.size = true) {listed : Array Bool} {a : Act} {w w' : World} (h : InvG ops As a0 w0 listed a w) {i : Nat} {o : Oper} {v : Value} (ho : ops[i]? = some o)
    (hdep : ∀ e ∈ o.after, Region.binds .any e = true → listed.getD e.on false = true) (hg : Grow B w w') (hp : ((As[i]?).getD Asrt.any).p v w') : InvG ops As a0 w0 (listed.setIfInBounds i true) (a.put o.dst v) w' := by
  have hilt := (Array.getElem?_eq_some_iff.1 ho).1
  refine ⟨h.grow.trans hg, (put_defers _ _ _).trans h.defers, (put_size _ _ _).trans h.size, by simp [h.lsize], ?_, ?_, ?_⟩
  · intro j oj d hj hl hdj
    by_cases hij : i = j
    · subst hij
      have : oj = o := Option.some.inj (hj.symm.trans ho)
      subst this
      rw [hdj, eval_put_same _ _ _ (by rw [h.size]; exact dstsOk_lt hd hj hdj)]
      exact hp
    · rw [getD_set_ne false hij] at hl
      rw [eval_put_ne]
      · exact ((As[j]?).getD Asrt.any).st _ _ _ (h.done j oj d hj hl hdj) hg
      · intro e; exact dstsOk_ne hd ho hj e hdj hij rfl
  · intro t ht
    rw [eval_put_ne _ _ _ _ (ht i o ho (by simp [h.lsize, hilt]))]
    refine h.keep t fun j oj hj hl => ht j oj hj ?_
    exact getD_set_true hl
  · intro j oj hj hl e he hb
    by_cases hij : i = j
    · subst hij
      have : oj = o := Option.some.inj (hj.symm.trans ho)
      subst this
      exact getD_set_true (hdep e he hb)
    · rw [getD_set_ne false hij] at hl
      exact getD_set_true (h.closed j oj hj hl e he hb)
theorem depFacts_of (hds : ops.toList.map (·.dst) = ds) {listed : Array Bool} {a : Act} {w : World} (h : InvG ops As a0 w0 listed a w) : ∀ (l : List Edge), (∀ e ∈ l, Region.binds .any e = true → listed.getD e.on false = true) → DepFacts ds As a.eval w l
  | [], _ => trivial
  | e :: l, hl => ⟨fun hb d hd => by
      rw [dst_at hds] at hd
      cases ho : ops[e.on]? with
      | none => rw [ho] at hd; cases hd
      | some oj => rw [ho] at hd; exact h.done e.on oj d ho (hl e (by simp) hb) hd, depFacts_of hds h l fun e' he' => hl e' (by simp [he'])⟩
theorem stepsG_get : ∀ (l : List Oper) (k : Nat), StepsG P ds As a0 w0 k l → ∀ i o, l[i]? = some o → StepG P ds As a0 w0 (k + i) o
  | [], _, _, i, o, h => by simp at h
  | o' :: l, k, hs, 0, o, h => by
    have : o' = o := by simpa using h
    subst this; exact hs.1
  | o' :: l, k, hs, i + 1, o, h => by
    have := stepsG_get l (k + 1) hs.2 i o (by simpa using h)
    rwa [show k + (i + 1) = k + 1 + i by omega]
theorem step_inv (hds : ops.toList.map (·.dst) = ds) (hd : dstsOk ops a0.tmps.size = true) (hs : ∀ i o, ops[i]? = some o → StepG P ds As a0 w0 i o) {listed : Array Bool} {a : Act} {w : World} {Q : Exit → Act → World → Prop} (h : InvG ops As a0 w0 listed a w) {i : Nat}
    (hi : i ∈ Region.ready .any ops listed) : wpOp P ops Q i (fun a' w' => InvG ops As a0 w0 (listed.setIfInBounds i true) a' w') a w := by
  obtain ⟨_, o, ho, hdep⟩ := mem_ready.1 hi
  have hstep := hs i o ho a.eval w h.grow (fun t ht => h.keep t fun j oj hj hl hdj => by
      have hm : some t ∈ ds := by rw [← hds, ← hdj]; exact List.mem_map.2 ⟨oj, Array.mem_toList_iff.2 (Array.mem_of_getElem? hj), rfl⟩
      have h1 := List.all_eq_true.1 ht _ hm
      simp at h1) (fun _ => rfl) (fun _ => rfl) (fun _ => rfl) (depFacts_of hds h _ (fun e he => hdep e (by simpa using he)))
  unfold wpOp
  simp only [ho, wanted_eq hds]
  by_cases hg : guardOn ds a.eval o = true
  · rw [if_pos hg] at hstep ⊢
    left
    unfold YieldsG at hstep
    unfold Oper.wp
    generalize (execOp a.eval o).run P w = r at *
    cases r with
    | ok n w' =>
      cases n with
      | value v => exact h.put hd ho hdep hstep.2 hstep.1
      | skip => exact h.put hd ho hdep hstep.2 hstep.1
      | enter f args =>
        exact Calls.mono hstep fun e w'' ⟨v, he, hp, hg⟩ => by subst he; exact h.put hd ho hdep hg hp
      | defer d => exact hstep.elim
      | row r args => exact hstep.elim
      | _ => exact hstep.elim
    | halt x w' => exact hstep.elim
  · rw [if_neg hg] at hstep ⊢
    exact h.put hd ho hdep (Grow.refl h.grow.top) hstep
theorem wpAny_inv (hds : ops.toList.map (·.dst) = ds) (hd : dstsOk ops a0.tmps.size = true) (hs : ∀ i o, ops[i]? = some o → StepG P ds As a0 w0 i o) {Q : Exit → Act → World → Prop} (he : edgesOk ops = true)
    (hQ : ∀ listed a w, InvG ops As a0 w0 listed a w → (∀ i, i < ops.size → listed.getD i false = true) → Q .normal a w) :
    ∀ (fuel : Nat) (listed : Array Bool) (a : Act) (w : World), InvG ops As a0 w0 listed a w → (List.range ops.size).countP (fun i => listed.getD i false == false) ≤ fuel → wpAny P .any ops Q fuel listed a w := by
  have hall : ∀ (listed : Array Bool), listed.size = ops.size → Region.ready .any ops listed = [] → ∀ i, i < ops.size → listed.getD i false = true := by
    intro listed hsz hr i
    induction i using Nat.strongRecOn with
    | _ i ih =>
      intro hi
      cases hl : listed.getD i false with
      | true => rfl
      | false =>
        have hmem : i ∈ Region.ready .any ops listed := mem_ready.2 ⟨getD_in (by rw [hsz]; exact hi) hl, ops[i], Array.getElem?_eq_getElem hi, fun e hee hb => by
          have := edgesOk_lt he (Array.getElem?_eq_getElem hi) hee hb
          exact ih e.on this (by omega)⟩
        rw [hr] at hmem; cases hmem
  intro fuel
  induction fuel with
  | zero =>
    intro listed a w h hc
    have h0 : ∀ i, i < ops.size → listed.getD i false = true := fun i hi => by
      cases hl : listed.getD i false with
      | true => rfl
      | false =>
        have : 0 < (List.range ops.size).countP (fun i => listed.getD i false == false) := List.countP_pos_iff.2 ⟨i, List.mem_range.2 hi, by rw [hl]; rfl⟩
        omega
    refine ⟨?_, hQ _ _ _ h h0⟩
    cases hr : Region.ready .any ops listed with
    | nil => rfl
    | cons i l =>
      obtain ⟨hun, o, ho, _⟩ := mem_ready.1 (show i ∈ Region.ready .any ops listed by rw [hr]; simp)
      have hi := (Array.getElem?_eq_some_iff.1 ho).1
      have h1 := h0 i hi
      have hl : i < listed.size := by rw [h.lsize]; exact hi
      simp [hl] at hun h1; rw [hun] at h1; cases h1
  | succ fuel ih =>
    intro listed a w h hc
    refine ⟨fun hr => hQ _ _ _ h (hall listed h.lsize hr), fun i hi => ?_⟩
    refine wpOp_mono (fun a' w' h' => ih _ _ _ h' ?_) (step_inv (Q := Q) hds hd hs h hi)
    obtain ⟨hun, o, ho, _⟩ := mem_ready.1 hi
    have hilt := (Array.getElem?_eq_some_iff.1 ho).1
    have hil : i < listed.size := by rw [h.lsize]; exact hilt
    have hunf : listed.getD i false = false := by simp [hil] at hun ⊢; exact hun
    have hlt : (List.range ops.size).countP (fun j => (listed.setIfInBounds i true).getD j false == false) < (List.range ops.size).countP (fun j => listed.getD j false == false) := by
      clear hc ih
      have hmono : ∀ j, ((listed.setIfInBounds i true).getD j false == false) = true → (listed.getD j false == false) = true := fun j hj => by
        cases hl : listed.getD j false with
        | true => rw [getD_set_true hl] at hj; cases hj
        | false => rfl
      have hi0 : ((listed.setIfInBounds i true).getD i false == false) = false := by simp [hil]
      have key : ∀ (l : List Nat), i ∈ l → l.countP (fun j => (listed.setIfInBounds i true).getD j false == false) < l.countP (fun j => listed.getD j false == false) := by
        intro l
        induction l with
        | nil => intro hm; cases hm
        | cons j l ihl =>
          intro hm
          have hle : l.countP (fun j => (listed.setIfInBounds i true).getD j false == false) ≤ l.countP (fun j => listed.getD j false == false) := List.countP_mono_left fun x _ hx => hmono x hx
          rw [List.countP_cons, List.countP_cons]
          by_cases hij : j = i
          · subst hij
            rw [hi0, hunf, if_neg (by decide), if_pos (by decide)]
            omega
          · have hm' : i ∈ l := by
              rcases List.mem_cons.1 hm with h' | h'
              · exact absurd h'.symm hij
              · exact h'
            have := ihl hm'
            have e : (listed.setIfInBounds i true).getD j false = listed.getD j false := getD_set_ne false (fun h => hij h.symm)
            rw [e]
            exact Nat.add_lt_add_right this _
      exact key _ (List.mem_range.2 hilt)
    omega
theorem putAll_size : ∀ (l : List Oper) (v : Nat → Value) (k : Nat) (a : Act), (putAll l v k a).tmps.size = a.tmps.size
  | [], _, _, _ => rfl
  | o :: l, v, k, a => by rw [putAll, putAll_size, put_size]
theorem putAll_defers : ∀ (l : List Oper) (v : Nat → Value) (k : Nat) (a : Act), (putAll l v k a).defers = a.defers
  | [], _, _, _ => rfl
  | o :: l, v, k, a => by rw [putAll, putAll_defers, put_defers]
theorem putAll_none : ∀ (l : List Oper) (v : Nat → Value) (k : Nat) (a : Act) (t : Tmp), (∀ o ∈ l, o.dst ≠ some t) → (putAll l v k a).eval (.tmp t) = a.eval (.tmp t)
  | [], _, _, _, _, _ => rfl
  | o :: l, v, k, a, t, h => by
    rw [putAll, putAll_none l v (k + 1) _ t fun o' ho' => h o' (by simp [ho']), eval_put_ne _ _ _ _ (h o (by simp))]
theorem putAll_some : ∀ (l : List Oper) (v : Nat → Value) (k : Nat) (a : Act) (t : Tmp) (j : Nat) (o : Oper), t < a.tmps.size → l[j]? = some o → o.dst = some t → (∀ j' o', l[j']? = some o' → o'.dst = some t → j' = j) → (putAll l v k a).eval (.tmp t) = v (k + j)
  | [], _, _, _, _, j, _, _, h, _, _ => by simp at h
  | o' :: l, v, k, a, t, 0, o, ht, h, hd, hu => by
    have : o' = o := by simpa using h
    subst this
    rw [putAll, putAll_none, hd, eval_put_same _ _ _ ht, Nat.add_zero]
    intro o2 ho2 hd2
    obtain ⟨j2, hj2⟩ := List.getElem?_of_mem ho2
    have := hu (j2 + 1) o2 (by simpa using hj2) hd2
    omega
  | o' :: l, v, k, a, t, j + 1, o, ht, h, hd, hu => by
    rw [putAll, putAll_some l v (k + 1) _ t j o (by rw [put_size]; exact ht) (by simpa using h) hd fun j' o2 hj' hd' => by have := hu (j' + 1) o2 (by simpa using hj') hd'; omega]
    congr 1; omega
/-- What all of them have yielded. -/
def AllG {B : Nat} : List Oper → List (Asrt B) → (Nat → Value) → Nat → World → Prop
  | [], _, _, _, _ => True
  | _ :: _, [], _, _, _ => True
  | o :: l, A :: As, v, k, w => (o.dst ≠ none → A.p (v k) w) ∧ AllG l As v (k + 1) w
theorem allG_of {B : Nat} : ∀ (l : List Oper) (As : List (Asrt B)) (v : Nat → Value) (k : Nat) (w : World), (∀ i o, l[i]? = some o → o.dst ≠ none → ((As[i]?).getD Asrt.any).p (v (k + i)) w) → AllG l As v k w
  | [], _, _, _, _, _ => trivial
  | _ :: _, [], _, _, _, _ => trivial
  | o :: l, A :: As, v, k, w, h => ⟨fun hd => by simpa using h 0 o rfl hd, allG_of l As v (k + 1) w fun i o' ho' hd => by
      have := h (i + 1) o' (by simpa using ho') hd
      rwa [show k + (i + 1) = k + 1 + i by omega, List.getElem?_cons_succ] at this⟩
/-- Where all are done the frame is the one written in the order of the text. -/
theorem inv_end {l : List Oper} {Q : Exit → Act → World → Prop} (hd : dstsOk l.toArray a0.tmps.size = true) (h : ∀ (v : Nat → Value) w', Grow B w0 w' → AllG l As v 0 w' → Q .normal (putAll l v 0 a0) w')
    (listed : Array Bool) (a : Act) (w : World) (hI : InvG l.toArray As a0 w0 listed a w) (hl : ∀ i, i < l.toArray.size → listed.getD i false = true) : Q .normal a w := by
  have hv : ∀ (i : Nat) (o : Oper) (d : Tmp), l[i]? = some o → o.dst = some d → a.eval (.tmp d) = (fun i => a.eval (.tmp (((l[i]?).bind (·.dst)).getD 0))) i := by
    intro i o d ho hd'; simp [ho, hd']
  have hfr : a = putAll l (fun i => a.eval (.tmp (((l[i]?).bind (·.dst)).getD 0))) 0 a0 := by
    have h1 : a.defers = (putAll l (fun i => a.eval (.tmp (((l[i]?).bind (·.dst)).getD 0))) 0 a0).defers := by rw [putAll_defers, hI.defers]
    have h2 : a.tmps = (putAll l (fun i => a.eval (.tmp (((l[i]?).bind (·.dst)).getD 0))) 0 a0).tmps := by
      apply Array.ext
      · rw [putAll_size, hI.size]
      · intro t ht1 ht2
        have e : ∀ (b : Act) (hb : t < b.tmps.size), b.tmps[t] = b.eval (.tmp t) := fun b hb => by simp [Act.eval, hb]
        rw [e _ ht1, e _ ht2]
        by_cases hex : ∃ (j : Nat) (o : Oper), l[j]? = some o ∧ o.dst = some t
        · obtain ⟨j, o, hj, hdj⟩ := hex
          rw [putAll_some l _ 0 a0 t j o (by rw [← hI.size]; exact ht1) hj hdj fun j' o' hj' hdj' => by
            by_cases hjj : j' = j
            · exact hjj
            · exact absurd rfl (dstsOk_ne hd (by simpa using hj') (by simpa using hj) hdj' hdj hjj)]
          rw [Nat.zero_add]; exact hv j o t hj hdj
        · rw [putAll_none l _ 0 a0 t fun o ho hdo => hex (by obtain ⟨j, hj⟩ := List.getElem?_of_mem ho; exact ⟨j, o, hj, hdo⟩)]
          exact hI.keep t fun i o ho _ hdo => hex ⟨i, o, by simpa using ho, hdo⟩
    cases a; cases hq : putAll l _ 0 a0
    simp only [hq] at h1 h2
    subst h1; subst h2; rfl
  rw [hfr]
  refine h _ w hI.grow (allG_of l As _ 0 w fun i o ho hdo => ?_)
  rw [Nat.zero_add]
  cases hd' : o.dst with
  | none => exact absurd hd' hdo
  | some d =>
    have := hI.done i o d (by simpa using ho) (hl i (by have := (List.getElem?_eq_some_iff.1 ho).1; simpa using this)) hd'
    rwa [hv i o d ho hd'] at this
/-- A region whose order is open: every order comes to an end at which all the assertions hold. -/
theorem wp_region_inv {id : Nat} {l : List Oper} {Q : Exit → Act → World → Prop} (ds : List (Option Tmp)) (As : List (Asrt B)) (hds : l.map (·.dst) = ds) (hm : P.follows .mixedOrders = true) (hd : dstsOk l.toArray a0.tmps.size = true) (he : edgesOk l.toArray = true)
    (hB : B ≤ w0.heap.size) (hs : StepsG P ds As a0 w0 0 l) (h : ∀ (v : Nat → Value) w', Grow B w0 w' → AllG l As v 0 w' → Q .normal (putAll l v 0 a0) w') : (Code.region id l.toArray true).wp P Q a0 w0 := by
  refine wp_region_any hm ?_
  change wpAny P .any l.toArray Q l.toArray.size (Array.replicate l.toArray.size false) a0 w0.drew
  have hinit : InvG l.toArray As a0 w0 (Array.replicate l.toArray.size false) a0 w0.drew := by
    refine ⟨Grow.drew hB, rfl, rfl, by simp, ?_, fun _ _ => rfl, ?_⟩
    · intro i o d _ hl; simp [Array.getElem?_replicate] at hl; split at hl <;> cases hl
    · intro i o _ hl; simp [Array.getElem?_replicate] at hl; split at hl <;> cases hl
  refine wpAny_inv (by simpa using hds) hd (fun i o ho => by have := stepsG_get l 0 hs i o (by simpa using ho); simpa using this) he ?_ _ _ _ _ hinit (by
    have := List.countP_le_length (p := fun i => (Array.replicate l.toArray.size false).getD i false == false) (l := List.range l.toArray.size)
    simpa using this)
  exact inv_end hd h
/-- In the order of the text. -/
theorem wpOps_inv (hds : ops.toList.map (·.dst) = ds) (hd : dstsOk ops a0.tmps.size = true) (hs : ∀ i o, ops[i]? = some o → StepG P ds As a0 w0 i o) {Q : Exit → Act → World → Prop} (he : edgesOk ops = true)
    (hQ : ∀ listed a w, InvG ops As a0 w0 listed a w → (∀ i, i < ops.size → listed.getD i false = true) → Q .normal a w) :
    ∀ (n k : Nat) (listed : Array Bool) (a : Act) (w : World), k + n = ops.size → (∀ i, i < ops.size → listed.getD i false = decide (i < k)) → InvG ops As a0 w0 listed a w → wpOps P ops Q (List.range' k n) a w := by
  intro n
  induction n with
  | zero =>
    intro k listed a w hk hl hI
    exact hQ _ _ _ hI fun i hi => by rw [hl i hi]; exact decide_eq_true (by omega)
  | succ n ih =>
    intro k listed a w hk hl hI
    rw [List.range'_succ, wpOps_cons]
    have hklt : k < ops.size := by omega
    have hmem : k ∈ Region.ready .any ops listed := mem_ready.2 ⟨getD_in (by rw [hI.lsize]; exact hklt) (by rw [hl k hklt]; exact decide_eq_false (Nat.lt_irrefl k)), ops[k], Array.getElem?_eq_getElem hklt, fun e hee hb => by
      have := edgesOk_lt he (Array.getElem?_eq_getElem hklt) hee hb
      rw [hl e.on (by omega)]; exact decide_eq_true this⟩
    refine wpOp_mono (fun a' w' h' => ih (k + 1) _ _ _ (by omega) (fun i hi => ?_) h') (step_inv (Q := Q) hds hd hs hI hmem)
    by_cases hik : k = i
    · subst hik
      have hkl : k < listed.size := by rw [hI.lsize]; exact hklt
      simp [hkl]
    · rw [getD_set_ne false hik, hl i hi]
      exact decide_eq_decide.2 ⟨fun h => by omega, fun h => by omega⟩
/-- A region whose order is the text's. -/
theorem wp_region_inv_text {id : Nat} {l : List Oper} {Q : Exit → Act → World → Prop} (ds : List (Option Tmp)) (As : List (Asrt B)) (hds : l.map (·.dst) = ds) (hd : dstsOk l.toArray a0.tmps.size = true) (he : edgesOk l.toArray = true)
    (hB : B ≤ w0.heap.size) (hs : StepsG P ds As a0 w0 0 l) (h : ∀ (v : Nat → Value) w', Grow B w0 w' → AllG l As v 0 w' → Q .normal (putAll l v 0 a0) w') : (Code.region id l.toArray false).wp P Q a0 w0 := by
  refine wp_region ?_
  have hinit : InvG l.toArray As a0 w0 (Array.replicate l.toArray.size false) a0 w0 := by
    refine ⟨Grow.refl hB, rfl, rfl, by simp, ?_, fun _ _ => rfl, ?_⟩
    · intro i o d _ hl; simp [Array.getElem?_replicate] at hl; split at hl <;> cases hl
    · intro i o _ hl; simp [Array.getElem?_replicate] at hl; split at hl <;> cases hl
  rw [List.range_eq_range']
  exact wpOps_inv (by simpa using hds) hd (fun i o ho => by have := stepsG_get l 0 hs i o (by simpa using ho); simpa using this) he (inv_end hd h) _ 0 _ _ _ (by simp) (fun i hi => by simp [Array.getElem?_replicate]; split <;> rfl) hinit
/-- A slot of the frame behind a region. -/
theorem putAll_at {l : List Oper} {v : Nat → Value} (hd : dstsOk l.toArray a0.tmps.size = true) {j : Nat} {o : Oper} {t : Tmp} (hj : l[j]? = some o) (ho : o.dst = some t) : (putAll l v 0 a0).tmps.getD t undef = v j := by
  have h := putAll_some l v 0 a0 t j o (dstsOk_lt hd (by simpa using hj) ho) hj ho fun j' o' hj' ho' => by
    by_cases hjj : j' = j
    · exact hjj
    · exact absurd rfl (dstsOk_ne hd (by simpa using hj') (by simpa using hj) ho' ho hjj)
  rwa [Nat.zero_add] at h
end
end Go.Proofs.YthhlfcbkggahmaaDoor

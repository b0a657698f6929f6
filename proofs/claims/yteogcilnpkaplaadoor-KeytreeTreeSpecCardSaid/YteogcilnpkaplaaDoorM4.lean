/- Merged: regions whose order is open come to one end. No conditions of its own beyond those that each law states. -/
import Derived.Test.YteogcilnpkaplaaDoorM1
import Derived.StillTail
import Derived.Test.YteogcilnpkaplaaDoorM3
import Derived.Deep.MidRow
import Derived.OrdersIn
import Derived.TacticsIn
import Derived.RangeFuncIn
import Derived.RangeFuncCalls
import Derived.RangeFuncLeaves
namespace Go.Proofs.YteogcilnpkaplaaDoor
open Go.RowKit

/-- Memory has grown: nothing below B has turned, and what lay there lies there. -/
structure Grow (B : Nat) (w w' : World) : Prop where
  base : B ≤ w.heap.size
  bl : Below B w w'
  kept : ∀ (k : Nat) (o : Obj), w.heap[k]? = some o → w'.heap[k]? = some o
theorem Grow.refl {B : Nat} {w : World} (h : B ≤ w.heap.size) : Grow B w w := ⟨h, Below.refl _ _, fun _ _ h => h⟩
theorem Grow.trans {B : Nat} {a b c : World} (h : Grow B a b) (k : Grow B b c) : Grow B a c :=
  ⟨h.base, h.bl.trans k.bl, fun i o hi => k.kept i o (h.kept i o hi)⟩
theorem Grow.of {B : Nat} {w w' : World} (hB : B ≤ w.heap.size) (h : Below w.heap.size w w') : Grow B w w' :=
  ⟨hB, h.mono hB, fun k _ hk => (h.block k (Array.getElem?_eq_some_iff.1 hk).1).trans hk⟩
theorem Grow.below {B : Nat} {w w' : World} (h : Grow B w w') : Below w.heap.size w w' :=
  ⟨h.bl.os, h.bl.tape, h.bl.output, h.bl.size, fun k hk => by
    have h1 := h.kept k w.heap[k] (Array.getElem?_eq_getElem hk)
    rw [h1, Array.getElem?_eq_getElem hk]⟩
theorem Grow.top {B : Nat} {w w' : World} (h : Grow B w w') : B ≤ w'.heap.size := Nat.le_trans h.base h.bl.size
theorem Grow.drew {B : Nat} {w : World} (h : B ≤ w.heap.size) : Grow B w w.drew := .of h (Below.refl _ _).drew
theorem Grow.cell {B : Nat} {w w' : World} (h : Grow B w w') {b o : Nat} {v : Value} (hc : w.cell? ⟨b, o, none⟩ = some v) : w'.cell? ⟨b, o, none⟩ = some v := by
  unfold World.cell? at hc ⊢
  cases hb : w.heap[b]? with
  | none => simp [hb] at hc
  | some ob =>
    simp only [hb] at hc
    simp only [h.kept b ob hb]
    exact hc
/-- What is said of a value in a world, for good. -/
structure Asrt (B : Nat) where
  p : Value → World → Prop
  st : ∀ v w w', p v w → Grow B w w' → p v w'
def Asrt.eq {B : Nat} (x : Value) : Asrt B := ⟨fun v _ => v = x, fun _ _ _ h _ => h⟩
def Asrt.any {B : Nat} : Asrt B := ⟨fun _ _ => True, fun _ _ _ _ _ => trivial⟩

/-- An operation, run where its operands are as ev says, hands back a value of which K holds. -/
def YieldsG (P : Program) (o : Oper) (ev : Operand → Value) (w : World) (K : Value → World → Prop) : Prop :=
  match (execOp ev o).run P w with
  | .ok (.value v) w' => K v w'
  | .ok .skip w' => K undef w'
  | .ok (.enter f args) w' => Calls P f args w' fun e w'' => ∃ v, e = .returned v ∧ K v w''
  | _ => False
/-- The operation's guard, read off ev ('ds': which slot each operation writes). -/
def guardOn (ds : List (Option Tmp)) (ev : Operand → Value) (o : Oper) : Bool :=
  match o.guard with
  | none => true
  | some (j, want) => match (ds[j]?).join with
    | some d => (match ev (.tmp d) with | .bool b => b == want | _ => false)
    | none => false
def freeD (ds : List (Option Tmp)) (t : Nat) : Bool := ds.all fun d => d != some t
/-- What the operations that it waits for have yielded. -/
def DepFacts {B : Nat} (ds : List (Option Tmp)) (As : List (Asrt B)) (ev : Operand → Value) (w : World) : List Edge → Prop
  | [] => True
  | e :: l => (Region.binds .any e = true → ∀ d, (ds[e.on]?).join = some d → ((As[e.on]?).getD Asrt.any).p (ev (.tmp d)) w) ∧ DepFacts ds As ev w l
/-- One operation's step. -/
def StepG {B : Nat} (P : Program) (ds : List (Option Tmp)) (As : List (Asrt B)) (a0 : Act) (w0 : World) (i : Nat) (o : Oper) : Prop :=
  ∀ (ev : Operand → Value) (w : World), Grow B w0 w → (∀ t, freeD ds t = true → ev (.tmp t) = a0.eval (.tmp t)) → (∀ v, ev (.const v) = v) → (∀ g, ev (.global g) = .pointer (some ⟨g, 0, none⟩)) → (∀ f, ev (.func f) = .func (.func f) #[] #[]) →
    DepFacts ds As ev w o.after.toList →
    if guardOn ds ev o = true then YieldsG P o ev w (fun v w' => ((As[i]?).getD Asrt.any).p v w' ∧ Grow B w w') else ((As[i]?).getD Asrt.any).p undef w
def StepsG {B : Nat} (P : Program) (ds : List (Option Tmp)) (As : List (Asrt B)) (a0 : Act) (w0 : World) : Nat → List Oper → Prop
  | _, [] => True
  | i, o :: l => StepG P ds As a0 w0 i o ∧ StepsG P ds As a0 w0 (i + 1) l
/-- The frame behind all of them, written in the order of the text. -/
def putAll : List Oper → (Nat → Value) → Nat → Act → Act
  | [], _, _, a => a
  | o :: l, v, i, a => putAll l v (i + 1) (a.put o.dst (v i))
def dstsOk (ops : Array Oper) (n : Nat) : Bool :=
  (List.range ops.size).all fun i => (List.range ops.size).all fun j =>
    match (ops[i]?).bind (·.dst), (ops[j]?).bind (·.dst) with
    | some d, some e => (i == j || d != e) && decide (d < n)
    | some d, none => decide (d < n)
    | _, _ => true
def edgesOk (ops : Array Oper) : Bool := (List.range ops.size).all fun i => match ops[i]? with
  | some o => o.after.all fun e => !Region.binds .any e || decide (e.on < i)
  | none => true

/-- The state between two operations. -/
structure InvG {B : Nat} (ops : Array Oper) (As : List (Asrt B)) (a0 : Act) (w0 : World) (listed : Array Bool) (a : Act) (w : World) : Prop where
  grow : Grow B w0 w
  defers : a.defers = a0.defers
  size : a.tmps.size = a0.tmps.size
  lsize : listed.size = ops.size
  done : ∀ i o d, ops[i]? = some o → listed.getD i false = true → o.dst = some d → ((As[i]?).getD Asrt.any).p (a.eval (.tmp d)) w
  keep : ∀ t, (∀ i o, ops[i]? = some o → listed.getD i false = true → o.dst ≠ some t) → a.eval (.tmp t) = a0.eval (.tmp t)
  closed : ∀ i o, ops[i]? = some o → listed.getD i false = true → ∀ e ∈ o.after, Region.binds .any e = true → listed.getD e.on false = true
section
variable {P : Program} {B : Nat} {ds : List (Option Tmp)} {ops : Array Oper} {As : List (Asrt B)} {a0 : Act} {w0 : World}
theorem dstsOk_ne {n : Nat} (h : dstsOk ops n = true) {i j : Nat} {o o' : Oper} {d e : Tmp} (hi : ops[i]? = some o) (hj : ops[j]? = some o') (hd : o.dst = some d) (he : o'.dst = some e) (hij : i ≠ j) : d ≠ e := by
  have hi' := (Array.getElem?_eq_some_iff.1 hi).1
  have hj' := (Array.getElem?_eq_some_iff.1 hj).1
  have h1 := List.all_eq_true.1 (List.all_eq_true.1 h i (List.mem_range.2 hi')) j (List.mem_range.2 hj')
  simp only [hi, hj, Option.bind_some, hd, he, Bool.and_eq_true, Bool.or_eq_true, beq_iff_eq, bne_iff_ne] at h1
  exact h1.1.resolve_left hij
theorem dstsOk_lt {n : Nat} (h : dstsOk ops n = true) {i : Nat} {o : Oper} {d : Tmp} (hi : ops[i]? = some o) (hd : o.dst = some d) : d < n := by
  have hi' := (Array.getElem?_eq_some_iff.1 hi).1
  have h1 := List.all_eq_true.1 (List.all_eq_true.1 h i (List.mem_range.2 hi')) i (List.mem_range.2 hi')
  simp only [hi, Option.bind_some, hd, Bool.and_eq_true, decide_eq_true_eq] at h1
  exact h1.2
theorem edgesOk_lt (h : edgesOk ops = true) {i : Nat} {o : Oper} (hi : ops[i]? = some o) {e : Edge} (he : e ∈ o.after) (hb : Region.binds .any e = true) : e.on < i := by
  have hi' := (Array.getElem?_eq_some_iff.1 hi).1
  have h1 := List.all_eq_true.1 h i (List.mem_range.2 hi')
  simp only [hi] at h1
  have h2 := Array.all_eq_true'.1 h1 e he
  simpa [hb] using h2
theorem dst_at (hds : ops.toList.map (·.dst) = ds) (j : Nat) : (ds[j]?).join = (ops[j]?).bind (·.dst) := by
  rw [← hds, List.getElem?_map, Array.getElem?_toList]
  cases ops[j]? <;> rfl
theorem wanted_eq (hds : ops.toList.map (·.dst) = ds) (o : Oper) (a : Act) : Region.wanted o (yielded ops a.tmps) = guardOn ds a.eval o := by
  unfold Region.wanted guardOn yielded
  cases hg : o.guard with
  | none => rfl
  | some q =>
    obtain ⟨j, want⟩ := q
    simp only [dst_at hds]
    cases hd : (ops[j]?).bind (·.dst) with
    | none => simp
    | some d =>
      simp only [Option.bind_some, Act.eval, Array.getD_eq_getD_getElem?]
      cases ht : a.tmps[d]? with
      | none => simp [undef]
      | some v => cases v <;> simp
theorem eval_put_same (a : Act) (d : Tmp) (v : Value) (h : d < a.tmps.size) : (a.put (some d) v).eval (.tmp d) = v := by
  simp [Act.put, Act.eval, h]
theorem eval_put_ne (a : Act) (d : Option Tmp) (t : Tmp) (v : Value) (h : d ≠ some t) : (a.put d v).eval (.tmp t) = a.eval (.tmp t) :=
  Act.eval_put fun e he h' => h (by cases h'; exact he)
theorem put_size (a : Act) (d : Option Tmp) (v : Value) : (a.put d v).tmps.size = a.tmps.size := by
  cases d <;> simp [Act.put]
theorem put_defers (a : Act) (d : Option Tmp) (v : Value) : (a.put d v).defers = a.defers := by
  cases d <;> rfl
theorem InvG.put (hd : dstsOk ops a0.tmps.size = true) {listed : Array Bool} {a : Act} {w w' : World} (h : InvG ops As a0 w0 listed a w) {i : Nat} {o : Oper} {v : Value} (ho : ops[i]? = some o)
    (hdep : ∀ e ∈ o.after, Region.binds .any e = true → listed.getD e.on false = true) (hg : Grow B w w') (hp : ((As[i]?).getD Asrt.any).p v w') : InvG ops As a0 w0 (listed.setIfInBounds i true) (a.put o.dst v) w' := by
  have hilt := (Array.getElem?_eq_some_iff.1 ho).1
  refine ⟨h.grow.trans hg, (put_defers _ _ _).trans h.defers, (put_size _ _ _).trans h.size, by simp [h.lsize], ?_, ?_, ?_⟩
  · intro j oj d hj hl hdj
    by_cases hij : i = j
    · subst hij
      have : oj = o := Option.some.inj (hj.symm.trans ho)
      subst this
      rw [hdj, eval_put_same _ _ _ (by rw [h.size]; exact dstsOk_lt hd hj hdj)]
      exact hp
    · rw [getD_set_ne false hij] at hl
      rw [eval_put_ne]
      · exact ((As[j]?).getD Asrt.any).st _ _ _ (h.done j oj d hj hl hdj) hg
      · intro e; exact dstsOk_ne hd ho hj e hdj hij rfl
  · intro t ht
    rw [eval_put_ne _ _ _ _ (ht i o ho (by simp [h.lsize, hilt]))]
    refine h.keep t fun j oj hj hl => ht j oj hj ?_
    exact getD_set_true hl
  · intro j oj hj hl e he hb
    by_cases hij : i = j
    · subst hij
      have : oj = o := Option.some.inj (hj.symm.trans ho)
      subst this
      exact getD_set_true (hdep e he hb)
    · rw [getD_set_ne false hij] at hl
      exact getD_set_true (h.closed j oj hj hl e he hb)
theorem depFacts_of (hds : ops.toList.map (·.dst) = ds) {listed : Array Bool} {a : Act} {w : World} (h : InvG ops As a0 w0 listed a w) : ∀ (l : List Edge), (∀ e ∈ l, Region.binds .any e = true → listed.getD e.on false = true) → DepFacts ds As a.eval w l
  | [], _ => trivial
  | e :: l, hl => ⟨fun hb d hd => by
      rw [dst_at hds] at hd
      cases ho : ops[e.on]? with
      | none => rw [ho] at hd; cases hd
      | some oj => rw [ho] at hd; exact h.done e.on oj d ho (hl e (by simp) hb) hd, depFacts_of hds h l fun e' he' => hl e' (by simp [he'])⟩
theorem stepsG_get : ∀ (l : List Oper) (k : Nat), StepsG P ds As a0 w0 k l → ∀ i o, l[i]? = some o → StepG P ds As a0 w0 (k + i) o
  | [], _, _, i, o, h => by simp at h
  | o' :: l, k, hs, 0, o, h => by
    have : o' = o := by simpa using h
    subst this; exact hs.1
  | o' :: l, k, hs, i + 1, o, h => by
    have := stepsG_get l (k + 1) hs.2 i o (by simpa using h)
    rwa [show k + (i + 1) = k + 1 + i by omega]
theorem step_inv (hds : ops.toList.map (·.dst) = ds) (hd : dstsOk ops a0.tmps.size = true) (hs : ∀ i o, ops[i]? = some o → StepG P ds As a0 w0 i o) {listed : Array Bool} {a : Act} {w : World} {Q : Exit → Act → World → Prop} (h : InvG ops As a0 w0 listed a w) {i : Nat}
    (hi : i ∈ Region.ready .any ops listed) : wpOp P ops Q i (fun a' w' => InvG ops As a0 w0 (listed.setIfInBounds i true) a' w') a w := by
  obtain ⟨_, o, ho, hdep⟩ := mem_ready.1 hi
  have hstep := hs i o ho a.eval w h.grow (fun t ht => h.keep t fun j oj hj hl hdj => by
      have hm : some t ∈ ds := by rw [← hds, ← hdj]; exact List.mem_map.2 ⟨oj, Array.mem_toList_iff.2 (Array.mem_of_getElem? hj), rfl⟩
      have h1 := List.all_eq_true.1 ht _ hm
      simp at h1) (fun _ => rfl) (fun _ => rfl) (fun _ => rfl) (depFacts_of hds h _ (fun e he => hdep e (by simpa using he)))
  unfold wpOp
  simp only [ho, wanted_eq hds]
  by_cases hg : guardOn ds a.eval o = true
  · rw [if_pos hg] at hstep ⊢
    left
    unfold YieldsG at hstep
    unfold Oper.wp
    generalize (execOp a.eval o).run P w = r at *
    cases r with
    | ok n w' =>
      cases n with
      | value v => exact h.put hd ho hdep hstep.2 hstep.1
      | skip => exact h.put hd ho hdep hstep.2 hstep.1
      | enter f args =>
        exact Calls.mono hstep fun e w'' ⟨v, he, hp, hg⟩ => by subst he; exact h.put hd ho hdep hg hp
      | defer d => exact hstep.elim
      | row r args => exact hstep.elim
      | _ => exact hstep.elim
    | halt x w' => exact hstep.elim
  · rw [if_neg hg] at hstep ⊢
    exact h.put hd ho hdep (Grow.refl h.grow.top) hstep
theorem wpAny_inv (hds : ops.toList.map (·.dst) = ds) (hd : dstsOk ops a0.tmps.size = true) (hs : ∀ i o, ops[i]? = some o → StepG P ds As a0 w0 i o) {Q : Exit → Act → World → Prop} (he : edgesOk ops = true)
    (hQ : ∀ listed a w, InvG ops As a0 w0 listed a w → (∀ i, i < ops.size → listed.getD i false = true) → Q .normal a w) :
    ∀ (fuel : Nat) (listed : Array Bool) (a : Act) (w : World), InvG ops As a0 w0 listed a w → (List.range ops.size).countP (fun i => listed.getD i false == false) ≤ fuel → wpAny P .any ops Q fuel listed a w := by
  have hall : ∀ (listed : Array Bool), listed.size = ops.size → Region.ready .any ops listed = [] → ∀ i, i < ops.size → listed.getD i false = true := by
    intro listed hsz hr i
    induction i using Nat.strongRecOn with
    | _ i ih =>
      intro hi
      cases hl : listed.getD i false with
      | true => rfl
      | false =>
        have hmem : i ∈ Region.ready .any ops listed := mem_ready.2 ⟨getD_in (by rw [hsz]; exact hi) hl, ops[i], Array.getElem?_eq_getElem hi, fun e hee hb => by
          have := edgesOk_lt he (Array.getElem?_eq_getElem hi) hee hb
          exact ih e.on this (by omega)⟩
        rw [hr] at hmem; cases hmem
  intro fuel
  induction fuel with
  | zero =>
    intro listed a w h hc
    have h0 : ∀ i, i < ops.size → listed.getD i false = true := fun i hi => by
      cases hl : listed.getD i false with
      | true => rfl
      | false =>
        have : 0 < (List.range ops.size).countP (fun i => listed.getD i false == false) := List.countP_pos_iff.2 ⟨i, List.mem_range.2 hi, by rw [hl]; rfl⟩
        omega
    refine ⟨?_, hQ _ _ _ h h0⟩
    cases hr : Region.ready .any ops listed with
    | nil => rfl
    | cons i l =>
      obtain ⟨hun, o, ho, _⟩ := mem_ready.1 (show i ∈ Region.ready .any ops listed by rw [hr]; simp)
      have hi := (Array.getElem?_eq_some_iff.1 ho).1
      have h1 := h0 i hi
      have hl : i < listed.size := by rw [h.lsize]; exact hi
      simp [hl] at hun h1; rw [hun] at h1; cases h1
  | succ fuel ih =>
    intro listed a w h hc
    refine ⟨fun hr => hQ _ _ _ h (hall listed h.lsize hr), fun i hi => ?_⟩
    refine wpOp_mono (fun a' w' h' => ih _ _ _ h' ?_) (step_inv (Q := Q) hds hd hs h hi)
    obtain ⟨hun, o, ho, _⟩ := mem_ready.1 hi
    have hilt := (Array.getElem?_eq_some_iff.1 ho).1
    have hil : i < listed.size := by rw [h.lsize]; exact hilt
    have hunf : listed.getD i false = false := by simp [hil] at hun ⊢; exact hun
    have hlt : (List.range ops.size).countP (fun j => (listed.setIfInBounds i true).getD j false == false) < (List.range ops.size).countP (fun j => listed.getD j false == false) := by
      clear hc ih
      have hmono : ∀ j, ((listed.setIfInBounds i true).getD j false == false) = true → (listed.getD j false == false) = true := fun j hj => by
        cases hl : listed.getD j false with
        | true => rw [getD_set_true hl] at hj; cases hj
        | false => rfl
      have hi0 : ((listed.setIfInBounds i true).getD i false == false) = false := by simp [hil]
      have key : ∀ (l : List Nat), i ∈ l → l.countP (fun j => (listed.setIfInBounds i true).getD j false == false) < l.countP (fun j => listed.getD j false == false) := by
        intro l
        induction l with
        | nil => intro hm; cases hm
        | cons j l ihl =>
          intro hm
          have hle : l.countP (fun j => (listed.setIfInBounds i true).getD j false == false) ≤ l.countP (fun j => listed.getD j false == false) := List.countP_mono_left fun x _ hx => hmono x hx
          rw [List.countP_cons, List.countP_cons]
          by_cases hij : j = i
          · subst hij
            rw [hi0, hunf, if_neg (by decide), if_pos (by decide)]
            omega
          · have hm' : i ∈ l := by
              rcases List.mem_cons.1 hm with h' | h'
              · exact absurd h'.symm hij
              · exact h'
            have := ihl hm'
            have e : (listed.setIfInBounds i true).getD j false = listed.getD j false := getD_set_ne false (fun h => hij h.symm)
            rw [e]
            exact Nat.add_lt_add_right this _
      exact key _ (List.mem_range.2 hilt)
    omega
theorem putAll_size : ∀ (l : List Oper) (v : Nat → Value) (k : Nat) (a : Act), (putAll l v k a).tmps.size = a.tmps.size
  | [], _, _, _ => rfl
  | o :: l, v, k, a => by rw [putAll, putAll_size, put_size]
theorem putAll_defers : ∀ (l : List Oper) (v : Nat → Value) (k : Nat) (a : Act), (putAll l v k a).defers = a.defers
  | [], _, _, _ => rfl
  | o :: l, v, k, a => by rw [putAll, putAll_defers, put_defers]
theorem putAll_none : ∀ (l : List Oper) (v : Nat → Value) (k : Nat) (a : Act) (t : Tmp), (∀ o ∈ l, o.dst ≠ some t) → (putAll l v k a).eval (.tmp t) = a.eval (.tmp t)
  | [], _, _, _, _, _ => rfl
  | o :: l, v, k, a, t, h => by
    rw [putAll, putAll_none l v (k + 1) _ t fun o' ho' => h o' (by simp [ho']), eval_put_ne _ _ _ _ (h o (by simp))]
theorem putAll_some : ∀ (l : List Oper) (v : Nat → Value) (k : Nat) (a : Act) (t : Tmp) (j : Nat) (o : Oper), t < a.tmps.size → l[j]? = some o → o.dst = some t → (∀ j' o', l[j']? = some o' → o'.dst = some t → j' = j) → (putAll l v k a).eval (.tmp t) = v (k + j)
  | [], _, _, _, _, j, _, _, h, _, _ => by simp at h
  | o' :: l, v, k, a, t, 0, o, ht, h, hd, hu => by
    have : o' = o := by simpa using h
    subst this
    rw [putAll, putAll_none, hd, eval_put_same _ _ _ ht, Nat.add_zero]
    intro o2 ho2 hd2
    obtain ⟨j2, hj2⟩ := List.getElem?_of_mem ho2
    have := hu (j2 + 1) o2 (by simpa using hj2) hd2
    omega
  | o' :: l, v, k, a, t, j + 1, o, ht, h, hd, hu => by
    rw [putAll, putAll_some l v (k + 1) _ t j o (by rw [put_size]; exact ht) (by simpa using h) hd fun j' o2 hj' hd' => by have := hu (j' + 1) o2 (by simpa using hj') hd'; omega]
    congr 1; omega
/-- What all of them have yielded. -/
def AllG {B : Nat} : List Oper → List (Asrt B) → (Nat → Value) → Nat → World → Prop
  | [], _, _, _, _ => True
  | _ :: _, [], _, _, _ => True
  | o :: l, A :: As, v, k, w => (o.dst ≠ none → A.p (v k) w) ∧ AllG l As v (k + 1) w
theorem allG_of {B : Nat} : ∀ (l : List Oper) (As : List (Asrt B)) (v : Nat → Value) (k : Nat) (w : World), (∀ i o, l[i]? = some o → o.dst ≠ none → ((As[i]?).getD Asrt.any).p (v (k + i)) w) → AllG l As v k w
  | [], _, _, _, _, _ => trivial
  | _ :: _, [], _, _, _, _ => trivial
  | o :: l, A :: As, v, k, w, h => ⟨fun hd => by simpa using h 0 o rfl hd, allG_of l As v (k + 1) w fun i o' ho' hd => by
      have := h (i + 1) o' (by simpa using ho') hd
      rwa [show k + (i + 1) = k + 1 + i by omega, List.getElem?_cons_succ] at this⟩
/-- Where all are done the frame is the one written in the order of the text. -/
theorem inv_end {l : List Oper} {Q : Exit → Act → World → Prop} (hd : dstsOk l.toArray a0.tmps.size = true) (h : ∀ (v : Nat → Value) w', Grow B w0 w' → AllG l As v 0 w' → Q .normal (putAll l v 0 a0) w')
    (listed : Array Bool) (a : Act) (w : World) (hI : InvG l.toArray As a0 w0 listed a w) (hl : ∀ i, i < l.toArray.size → listed.getD i false = true) : Q .normal a w := by
  have hv : ∀ (i : Nat) (o : Oper) (d : Tmp), l[i]? = some o → o.dst = some d → a.eval (.tmp d) = (fun i => a.eval (.tmp (((l[i]?).bind (·.dst)).getD 0))) i := by
    intro i o d ho hd'; simp [ho, hd']
  have hfr : a = putAll l (fun i => a.eval (.tmp (((l[i]?).bind (·.dst)).getD 0))) 0 a0 := by
    have h1 : a.defers = (putAll l (fun i => a.eval (.tmp (((l[i]?).bind (·.dst)).getD 0))) 0 a0).defers := by rw [putAll_defers, hI.defers]
    have h2 : a.tmps = (putAll l (fun i => a.eval (.tmp (((l[i]?).bind (·.dst)).getD 0))) 0 a0).tmps := by
      apply Array.ext
      · rw [putAll_size, hI.size]
      · intro t ht1 ht2
        have e : ∀ (b : Act) (hb : t < b.tmps.size), b.tmps[t] = b.eval (.tmp t) := fun b hb => by simp [Act.eval, hb]
        rw [e _ ht1, e _ ht2]
        by_cases hex : ∃ (j : Nat) (o : Oper), l[j]? = some o ∧ o.dst = some t
        · obtain ⟨j, o, hj, hdj⟩ := hex
          rw [putAll_some l _ 0 a0 t j o (by rw [← hI.size]; exact ht1) hj hdj fun j' o' hj' hdj' => by
            by_cases hjj : j' = j
            · exact hjj
            · exact absurd rfl (dstsOk_ne hd (by simpa using hj') (by simpa using hj) hdj' hdj hjj)]
          rw [Nat.zero_add]; exact hv j o t hj hdj
        · rw [putAll_none l _ 0 a0 t fun o ho hdo => hex (by obtain ⟨j, hj⟩ := List.getElem?_of_mem ho; exact ⟨j, o, hj, hdo⟩)]
          exact hI.keep t fun i o ho _ hdo => hex ⟨i, o, by simpa using ho, hdo⟩
    cases a; cases hq : putAll l _ 0 a0
    simp only [hq] at h1 h2
    subst h1; subst h2; rfl
  rw [hfr]
  refine h _ w hI.grow (allG_of l As _ 0 w fun i o ho hdo => ?_)
  rw [Nat.zero_add]
  cases hd' : o.dst with
  | none => exact absurd hd' hdo
  | some d =>
    have := hI.done i o d (by simpa using ho) (hl i (by have := (List.getElem?_eq_some_iff.1 ho).1; simpa using this)) hd'
    rwa [hv i o d ho hd'] at this
/-- A region whose order is open: every order comes to an end at which all the assertions hold. -/
theorem wp_region_inv {id : Nat} {l : List Oper} {Q : Exit → Act → World → Prop} (ds : List (Option Tmp)) (As : List (Asrt B)) (hds : l.map (·.dst) = ds) (hm : P.follows .mixedOrders = true) (hd : dstsOk l.toArray a0.tmps.size = true) (he : edgesOk l.toArray = true)
    (hB : B ≤ w0.heap.size) (hs : StepsG P ds As a0 w0 0 l) (h : ∀ (v : Nat → Value) w', Grow B w0 w' → AllG l As v 0 w' → Q .normal (putAll l v 0 a0) w') : (Code.region id l.toArray true).wp P Q a0 w0 := by
  refine wp_region_any hm ?_
  change wpAny P .any l.toArray Q l.toArray.size (Array.replicate l.toArray.size false) a0 w0.drew
  have hinit : InvG l.toArray As a0 w0 (Array.replicate l.toArray.size false) a0 w0.drew := by
    refine ⟨Grow.drew hB, rfl, rfl, by simp, ?_, fun _ _ => rfl, ?_⟩
    · intro i o d _ hl; simp [Array.getElem?_replicate] at hl; split at hl <;> cases hl
    · intro i o _ hl; simp [Array.getElem?_replicate] at hl; split at hl <;> cases hl
  refine wpAny_inv (by simpa using hds) hd (fun i o ho => by have := stepsG_get l 0 hs i o (by simpa using ho); simpa using this) he ?_ _ _ _ _ hinit (by
    have := List.countP_le_length (p := fun i => (Array.replicate l.toArray.size false).getD i false == false) (l := List.range l.toArray.size)
    simpa using this)
  exact inv_end hd h
/-- In the order of the text. -/
theorem wpOps_inv (hds : ops.toList.map (·.dst) = ds) (hd : dstsOk ops a0.tmps.size = true) (hs : ∀ i o, ops[i]? = some o → StepG P ds As a0 w0 i o) {Q : Exit → Act → World → Prop} (he : edgesOk ops = true)
    (hQ : ∀ listed a w, InvG ops As a0 w0 listed a w → (∀ i, i < ops.size → listed.getD i false = true) → Q .normal a w) :
    ∀ (n k : Nat) (listed : Array Bool) (a : Act) (w : World), k + n = ops.size → (∀ i, i < ops.size → listed.getD i false = decide (i < k)) → InvG ops As a0 w0 listed a w → wpOps P ops Q (List.range' k n) a w := by
  intro n
  induction n with
  | zero =>
    intro k listed a w hk hl hI
    exact hQ _ _ _ hI fun i hi => by rw [hl i hi]; exact decide_eq_true (by omega)
  | succ n ih =>
    intro k listed a w hk hl hI
    rw [List.range'_succ, wpOps_cons]
    have hklt : k < ops.size := by omega
    have hmem : k ∈ Region.ready .any ops listed := mem_ready.2 ⟨getD_in (by rw [hI.lsize]; exact hklt) (by rw [hl k hklt]; exact decide_eq_false (Nat.lt_irrefl k)), ops[k], Array.getElem?_eq_getElem hklt, fun e hee hb => by
      have := edgesOk_lt he (Array.getElem?_eq_getElem hklt) hee hb
      rw [hl e.on (by omega)]; exact decide_eq_true this⟩
    refine wpOp_mono (fun a' w' h' => ih (k + 1) _ _ _ (by omega) (fun i hi => ?_) h') (step_inv (Q := Q) hds hd hs hI hmem)
    by_cases hik : k = i
    · subst hik
      have hkl : k < listed.size := by rw [hI.lsize]; exact hklt
      simp [hkl]
    · rw [getD_set_ne false hik, hl i hi]
      exact decide_eq_decide.2 ⟨fun h => by omega, fun h => by omega⟩
/-- A region whose order is the text's. -/
theorem wp_region_inv_text {id : Nat} {l : List Oper} {Q : Exit → Act → World → Prop} (ds : List (Option Tmp)) (As : List (Asrt B)) (hds : l.map (·.dst) = ds) (hd : dstsOk l.toArray a0.tmps.size = true) (he : edgesOk l.toArray = true)
    (hB : B ≤ w0.heap.size) (hs : StepsG P ds As a0 w0 0 l) (h : ∀ (v : Nat → Value) w', Grow B w0 w' → AllG l As v 0 w' → Q .normal (putAll l v 0 a0) w') : (Code.region id l.toArray false).wp P Q a0 w0 := by
  refine wp_region ?_
  have hinit : InvG l.toArray As a0 w0 (Array.replicate l.toArray.size false) a0 w0 := by
    refine ⟨Grow.refl hB, rfl, rfl, by simp, ?_, fun _ _ => rfl, ?_⟩
    · intro i o d _ hl; simp [Array.getElem?_replicate] at hl; split at hl <;> cases hl
    · intro i o _ hl; simp [Array.getElem?_replicate] at hl; split at hl <;> cases hl
  rw [List.range_eq_range']
  exact wpOps_inv (by simpa using hds) hd (fun i o ho => by have := stepsG_get l 0 hs i o (by simpa using ho); simpa using this) he (inv_end hd h) _ 0 _ _ _ (by simp) (fun i hi => by simp [Array.getElem?_replicate]; split <;> rfl) hinit
/-- A slot of the frame behind a region. -/
theorem putAll_at {l : List Oper} {v : Nat → Value} (hd : dstsOk l.toArray a0.tmps.size = true) {j : Nat} {o : Oper} {t : Tmp} (hj : l[j]? = some o) (ho : o.dst = some t) : (putAll l v 0 a0).tmps.getD t undef = v j := by
  have h := putAll_some l v 0 a0 t j o (dstsOk_lt hd (by simpa using hj) ho) hj ho fun j' o' hj' ho' => by
    by_cases hjj : j' = j
    · exact hjj
    · exact absurd rfl (dstsOk_ne hd (by simpa using hj') (by simpa using hj) ho' ho hjj)
  rwa [Nat.zero_add] at h
end
end Go.Proofs.YteogcilnpkaplaaDoor

namespace Go.Proofs.YteogcilnpkaplaaDoor
open Go.RowKit
section
variable {P : Program}
theorem run_part_byte (w : World) (e : TypeId) (l : List UInt8) (i : Nat) (he : P.underlying e = some (.int .u8)) (hi : i < l.length) :
    (part e (cellsB l) i).run P w = .ok (.int .u8 (by8 l i)) w := by
  have hagg : (isAgg e).run P w = .ok false w := by
    unfold isAgg; rw [Sem.run_bind, run_underlying he w]; rfl
  simp only [part, Sem.run_bind, hagg, Result.andThen_ok, Bool.false_eq_true, if_false, cellsB_get l i hi, Sem.run_pure]
theorem Y_inj {a b : UInt8} (h : Y a = Y b) : a = b := by
  unfold Y at h; exact UInt8.toNat_inj.1 (by omega)
theorem drop_step {l : List UInt8} {k : Nat} (h : k < l.length) : l.drop k = l.getD k 0 :: l.drop (k + 1) := by
  rw [List.drop_eq_getElem_cons h, List.getD_eq_getElem?_getD, List.getElem?_eq_getElem h]; rfl
theorem run_equalIn_bytes (w : World) (d : Nat) (t e : TypeId) (n : Nat) (ht : P.underlying t = some (.array n e)) (he : P.underlying e = some (.int .u8)) (hsz : (P.info? e).map (·.size) = some 1)
    (xs ys : List UInt8) (hx : xs.length = n) (hy : ys.length = n) : (Op.equalIn (d + 1 + 1) t (.agg (cellsB xs)) (.agg (cellsB ys))).run P w = .ok (decide (xs = ys)) w := by
  have hso : (sizeOf e).run P w = .ok 1 w := by
    cases hp : P.info? e with
    | none => simp [hp] at hsz
    | some i => have : i.size = 1 := by simpa [hp] using hsz
                simp [sizeOf, typeInfo, hp, this]
  rw [Op.equalIn]
  simp only [Sem.run_bind, run_underlying ht, Result.andThen_ok, hso]
  rw [Std.Legacy.Range.forIn_eq_forIn_range']
  simp only [Std.Legacy.Range.size, Nat.sub_zero, Nat.add_sub_cancel, Nat.div_one]
  have key : ∀ (m k : Nat), k + m = n → ((forIn (List.range' k m) ((none, ()) : Option Bool × PUnit) (fun i r => do
      let __do_lift ← part e (cellsB xs) (i * 1)
      let __do_lift_1 ← part e (cellsB ys) (i * 1)
      let __do_lift_2 ← Op.equalIn (d + 1) e __do_lift __do_lift_1
      if (!__do_lift_2) = true then pure (ForInStep.done (some false, ())) else pure (ForInStep.yield (none, ()))) : Sem (Option Bool × PUnit)).run P w)
      = .ok (if xs.drop k = ys.drop k then (none, ()) else (some false, ())) w := by
    intro m
    induction m with
    | zero =>
      intro k hk
      rw [List.drop_eq_nil_of_le (by omega), List.drop_eq_nil_of_le (by omega)]
      simp
    | succ m ih =>
      intro k hk
      rw [List.range'_succ, List.forIn_cons]
      have hkx : k < xs.length := by omega
      have hky : k < ys.length := by omega
      simp only [Sem.run_bind, Nat.mul_one, run_part_byte w e xs k he hkx, run_part_byte w e ys k he hky, Result.andThen_ok, run_equalIn_int w d e .u8 .u8 _ _ he, Sem.run_ite]
      have hd : (xs.drop k = ys.drop k) ↔ (by8 xs k = by8 ys k ∧ xs.drop (k + 1) = ys.drop (k + 1)) := by
        rw [drop_step hkx, drop_step hky, List.cons.injEq]
        exact ⟨fun ⟨h1, h2⟩ => ⟨by unfold by8; rw [h1], h2⟩, fun ⟨h1, h2⟩ => ⟨Y_inj h1, h2⟩⟩
      by_cases hb : by8 xs k = by8 ys k
      · have hbb : (!(by8 xs k == by8 ys k)) = false := by simp [hb]
        simp only [hbb, Bool.false_eq_true, if_false, Sem.run_pure, Result.andThen_ok]
        have := ih (k + 1) (by omega)
        simp only [Nat.mul_one] at this
        rw [this]
        by_cases h2 : xs.drop (k + 1) = ys.drop (k + 1)
        · rw [if_pos h2, if_pos (hd.2 ⟨hb, h2⟩)]
        · rw [if_neg h2, if_neg (fun h => h2 (hd.1 h).2)]
      · have hbb : (!(by8 xs k == by8 ys k)) = true := by simp [hb]
        simp only [hbb, if_true, Sem.run_pure, Result.andThen_ok]
        rw [if_neg (fun h => hb (hd.1 h).1)]
  have h0 := key n 0 (by omega)
  rw [h0]
  simp only [List.drop_zero, Result.andThen_ok]
  by_cases h : xs = ys
  · rw [if_pos h, decide_eq_true h]; rfl
  · rw [if_neg h, decide_eq_false h]; rfl
end
theorem Tryd.sizeU8 : (Tryd.prog.info? 5).map (·.size) = some 1 := by kernel_rfl
theorem eql_digest (xs ys : List UInt8) (hx : xs.length = 32) (hy : ys.length = 32) (w : World) :
    (binOp .eql 25 (.agg (cellsB xs)) (.agg (cellsB ys))).run Tryd.prog w = .ok (.bool (decide (xs = ys))) w := by
  rw [run_eql_struct, run_equalIn_bytes w 9998 25 5 32 Tryd.underD Tryd.underU8 Tryd.sizeU8 xs ys hx hy]; rfl
theorem neq_digest (xs ys : List UInt8) (hx : xs.length = 32) (hy : ys.length = 32) (w : World) :
    (binOp .neq 25 (.agg (cellsB xs)) (.agg (cellsB ys))).run Tryd.prog w = .ok (.bool (!decide (xs = ys))) w := by
  rw [run_neq_struct, run_equalIn_bytes w 9998 25 5 32 Tryd.underD Tryd.underU8 Tryd.sizeU8 xs ys hx hy]; rfl
end Go.Proofs.YteogcilnpkaplaaDoor

namespace Go.Proofs.YteogcilnpkaplaaDoor
open Go.RowKit
section
variable {P : Program} {B : Nat}
theorem guard_none {ds : List (Option Tmp)} {ev : Operand → Value} {o : Oper} (h : o.guard = none) : guardOn ds ev o = true := by
  unfold guardOn; rw [h]
theorem guard_some {ds : List (Option Tmp)} {ev : Operand → Value} {o : Oper} {j : Nat} {want : Bool} {d : Tmp} (h : o.guard = some (j, want)) (hj : (ds[j]?).join = some d) (hf : ev (.tmp d) = .bool want) : guardOn ds ev o = true := by
  unfold guardOn; simp only [h, hj, hf, beq_self_eq_true]
theorem guard_off {ds : List (Option Tmp)} {ev : Operand → Value} {o : Oper} {j : Nat} {want got : Bool} {d : Tmp} (h : o.guard = some (j, want)) (hj : (ds[j]?).join = some d) (hf : ev (.tmp d) = .bool got) (hne : got ≠ want) : guardOn ds ev o = false := by
  unfold guardOn; simp only [h, hj, hf]; simpa using hne
theorem step_on {ds : List (Option Tmp)} {o : Oper} {ev : Operand → Value} {w : World} {A : Value → World → Prop} (hgd : guardOn ds ev o = true)
    (h : ∀ K : Value → World → Prop, (∀ v w', A v w' → Grow B w w' → K v w') → YieldsG P o ev w K) : if guardOn ds ev o = true then YieldsG P o ev w (fun v w' => A v w' ∧ Grow B w w') else A undef w := by
  rw [if_pos hgd]; exact h _ fun v w' h1 h2 => ⟨h1, h2⟩
theorem step_off {ds : List (Option Tmp)} {o : Oper} {ev : Operand → Value} {w : World} {A : Value → World → Prop} {K : Prop} (hgd : guardOn ds ev o = false) (h : A undef w) : if guardOn ds ev o = true then K else A undef w := by
  rw [hgd]; exact h
/-- A whole array is loaded. -/
theorem yg_load_row {o : Oper} {ev : Operand → Value} {w : World} {K : Value → World → Prop} (ty : TypeId) (x : Operand) (ho : o.op = .load ty x) (g : Nat) (hx : ev x = .pointer (some ⟨g, 0, none⟩)) (t : TypeId) (cs : Array Value) (fr : Nat × Nat) (d : TypeDesc)
    (hg : w.heap[g]? = some (.cells cs t fr)) (hu : P.underlying ty = some d) (hd : (match d with | .struct _ | .array _ _ => true | _ => false) = true) (hi : (P.info? ty).map (·.size) = some cs.size) (hK : K (.agg cs) w) : YieldsG P o ev w K := by
  unfold YieldsG execOp
  simp only [ho, hx, Instr.loadAt, Instr.sureAddr, Sem.run_bind, Sem.run_pure, Result.andThen_ok, run_loadVar_row w g t ty cs fr d hg hu hd hi]
  exact hK
end
/-- A slice that is a row of these bytes, made since B. -/
def Asrt.row {B : Nat} (l : List UInt8) : Asrt B :=
  ⟨fun v w => ∃ (n : Nat) (f : Nat × Nat), v = .slice (some ⟨n, 0, none⟩) l.length l.length ∧ B ≤ n ∧ w.heap[n]? = some (.cells (cellsB l) 5 f), fun v w w' h hg => by
    obtain ⟨n, f, hv, hn, hh⟩ := h
    exact ⟨n, f, hv, hn, hg.kept _ _ hh⟩⟩
theorem Asrt.row_bytes {B : Nat} {l : List UInt8} {v : Value} {w : World} (h : (Asrt.row (B := B) l).p v w) (hl : l.length ≤ 9223372036854775807) : Bytes w v l (fun _ => True) := by
  obtain ⟨n, f, rfl, _, hh⟩ := h
  exact ⟨_, _, rfl, Nat.le_refl _, hl, .inr ⟨n, 0, rfl, trivial, fun i hi => by rw [Nat.zero_add, cell_of_row w n i _ _ _ hh, cellsB_get l i hi]⟩⟩
/-- A slice that reads as these bytes. -/
def Asrt.bytes {B : Nat} (l : List UInt8) : Asrt B :=
  ⟨fun v w => Bytes w v l (fun _ => True), fun v w w' h hg => by
    obtain ⟨a, cap, hv, hc0, hc1, ha | ⟨b, off, rfl, hok, hat⟩⟩ := h
    · exact ⟨a, cap, hv, hc0, hc1, .inl ha⟩
    · exact ⟨_, cap, hv, hc0, hc1, .inr ⟨b, off, rfl, hok, fun i hi => hg.cell (hat i hi)⟩⟩⟩
/-- A digest of these bytes. -/
def D (l : List UInt8) : Value := .agg (cellsB l)
theorem wp_gen {P : Program} {c : Code} {Q : Exit → Act → World → Prop} {a : Act} {w : World} (h : ∀ a0, a0 = a → c.wp P Q a0 w) : c.wp P Q a w := h a rfl
theorem eqlT (x y : List UInt8) (hx : x.length = 32) (hxy : x = y) (w : World) : (binOp .eql 25 (.agg (cellsB x)) (.agg (cellsB y))).run Tryd.prog w = .ok (.bool true) w := by
  subst hxy; rw [eql_digest x x hx hx, decide_eq_true rfl]
theorem eqlB (x y : List UInt8) (hx : x.length = 32) (hy : y.length = 32) (w : World) : (binOp .eql 25 (.agg (cellsB x)) (.agg (cellsB y))).run Tryd.prog w = .ok (.bool (decide (x = y))) w := eql_digest x y hx hy w
theorem nil_bytes (w : World) : Bytes w (.slice none 0 0) [] (fun _ => True) := ⟨none, 0, rfl, Nat.le_refl _, by decide, .inl ⟨rfl, fun _ => rfl⟩⟩
end Go.Proofs.YteogcilnpkaplaaDoor

namespace Go.Proofs.YteogcilnpkaplaaDoor
open Go.RowKit
section
variable {P : Program} {B : Nat} {ds : List (Option Tmp)} {ops : Array Oper} {As : List (Asrt B)} {a0 : Act} {w0 : World}
/-- One step of the head: fs says which slots the head writes. -/
def StepH {B : Nat} (P : Program) (ds fs : List (Option Tmp)) (As : List (Asrt B)) (a0 : Act) (w0 : World) (i : Nat) (o : Oper) : Prop :=
  ∀ (ev : Operand → Value) (w : World), Grow B w0 w → (∀ t, freeD fs t = true → ev (.tmp t) = a0.eval (.tmp t)) → (∀ v, ev (.const v) = v) → (∀ g, ev (.global g) = .pointer (some ⟨g, 0, none⟩)) → (∀ f, ev (.func f) = .func (.func f) #[] #[]) →
    DepFacts ds As ev w o.after.toList →
    if guardOn ds ev o = true then YieldsG P o ev w (fun v w' => ((As[i]?).getD Asrt.any).p v w' ∧ Grow B w w') else ((As[i]?).getD Asrt.any).p undef w
def StepsH {B : Nat} (P : Program) (ds fs : List (Option Tmp)) (As : List (Asrt B)) (a0 : Act) (w0 : World) : Nat → List Oper → Prop
  | _, [] => True
  | i, o :: l => StepH P ds fs As a0 w0 i o ∧ StepsH P ds fs As a0 w0 (i + 1) l
theorem stepsH_get {fs : List (Option Tmp)} : ∀ (l : List Oper) (k : Nat), StepsH P ds fs As a0 w0 k l → ∀ i o, l[i]? = some o → StepH P ds fs As a0 w0 (k + i) o
  | [], _, _, i, o, h => by simp at h
  | o' :: l, k, hs, 0, o, h => by
    have : o' = o := by simpa using h
    subst this; exact hs.1
  | o' :: l, k, hs, i + 1, o, h => by
    have := stepsH_get l (k + 1) hs.2 i o (by simpa using h)
    rwa [show k + (i + 1) = k + 1 + i by omega]
theorem step_inv1 (hds : ops.toList.map (·.dst) = ds) (hd : dstsOk ops a0.tmps.size = true) {listed : Array Bool} {a : Act} {w : World} {Q : Exit → Act → World → Prop} (h : InvG ops As a0 w0 listed a w) {i : Nat} {fs : List (Option Tmp)} (hfs : ∀ (j : Nat) oj, ops[j]? = some oj → listed.getD j false = true → oj.dst ∈ fs) (hs : ∀ o, ops[i]? = some o → StepH P ds fs As a0 w0 i o)
    (hi : i ∈ Region.ready .any ops listed) : wpOp P ops Q i (fun a' w' => InvG ops As a0 w0 (listed.setIfInBounds i true) a' w') a w := by
  obtain ⟨_, o, ho, hdep⟩ := mem_ready.1 hi
  have hstep := hs o ho a.eval w h.grow (fun t ht => h.keep t fun j oj hj hl hdj => by
      have hm : some t ∈ fs := by rw [← hdj]; exact hfs j oj hj hl
      have h1 := List.all_eq_true.1 ht _ hm
      simp at h1) (fun _ => rfl) (fun _ => rfl) (fun _ => rfl) (depFacts_of hds h _ (fun e he => hdep e (by simpa using he)))
  unfold wpOp
  simp only [ho, wanted_eq hds]
  by_cases hg : guardOn ds a.eval o = true
  · rw [if_pos hg] at hstep ⊢
    left
    unfold YieldsG at hstep
    unfold Oper.wp
    generalize (execOp a.eval o).run P w = r at *
    cases r with
    | ok n w' =>
      cases n with
      | value v => exact h.put hd ho hdep hstep.2 hstep.1
      | skip => exact h.put hd ho hdep hstep.2 hstep.1
      | enter f args =>
        exact Calls.mono hstep fun e w'' ⟨v, he, hp, hg⟩ => by subst he; exact h.put hd ho hdep hg hp
      | defer d => exact hstep.elim
      | row r args => exact hstep.elim
      | _ => exact hstep.elim
    | halt x w' => exact hstep.elim
  · rw [if_neg hg] at hstep ⊢
    exact h.put hd ho hdep (Grow.refl h.grow.top) hstep
theorem wpAny_of_seq_ge {md : Region.Mode} {Q' : Exit → Act → World → Prop} : ∀ (l : List Oper) (fuel k : Nat) (listed : Array Bool) (a : Act) (w : World), l.length ≤ fuel → (∀ j, l[j]? = ops[k + j]?) →
    Region.seqB md ops l.length k listed = true → wpList P ops Q' l a w → wpAny P md ops Q' fuel listed a w
  | [], 0, _, _, _, _, _, _, hB, h => ⟨by simpa [Region.seqB] using hB, h⟩
  | [], f + 1, k, listed, a, w, _, _, hB, h => ⟨fun _ => h, fun i hi => by
      have : Region.ready md ops listed = [] := by simpa [Region.seqB] using hB
      rw [this] at hi; cases hi⟩
  | o :: l, 0, _, _, _, _, hf, _, _, _ => by simp at hf
  | o :: l, f + 1, k, listed, a, w, hf, hl, hB, h => by
    have h0 : ops[k]? = some o := by simpa using (hl 0).symm
    simp only [List.length_cons, Region.seqB, Bool.and_eq_true, decide_eq_true_eq] at hB
    refine ⟨fun h1 => (by rw [hB.1] at h1; cases h1), fun i hi => ?_⟩
    rw [hB.1] at hi
    have hik : i = k := by simpa using hi
    subst hik
    have hw : wpOp P ops Q' i (wpList P ops Q' l) a w := by unfold wpOp; simp only [h0]; exact h
    exact wpOp_mono (fun a' w' h' => wpAny_of_seq_ge l f (i + 1) _ a' w' (by simpa using hf) (fun j => by have := hl (j + 1); simpa [Nat.add_assoc, Nat.add_comm 1 j] using this) hB.2 h') hw
theorem take_get {α : Type} {l : List α} {n i : Nat} {o : α} (h : (l.take n)[i]? = some o) : i < n ∧ l[i]? = some o := by
  rw [List.getElem?_take] at h
  split at h
  · exact ⟨by assumption, h⟩
  · cases h
/-- Where the head is done the frame is the one written in the order of the text. -/
theorem inv_head {l : List Oper} {n : Nat} {R : Act → World → Prop} (hd : dstsOk l.toArray a0.tmps.size = true) (h : ∀ (v : Nat → Value) w', Grow B w0 w' → AllG (l.take n) As v 0 w' → R (putAll (l.take n) v 0 a0) w')
    (listed : Array Bool) (a : Act) (w : World) (hI : InvG l.toArray As a0 w0 listed a w) (hl : ∀ i, i < n → i < l.length → listed.getD i false = true) (hu : ∀ i, n ≤ i → listed.getD i false = false) : R a w := by
  have hv : ∀ (i : Nat) (o : Oper) (d : Tmp), l[i]? = some o → o.dst = some d → a.eval (.tmp d) = (fun i => a.eval (.tmp (((l[i]?).bind (·.dst)).getD 0))) i := by
    intro i o d ho hd'; simp [ho, hd']
  have hlen : ∀ (i : Nat) (o : Oper), l[i]? = some o → i < l.length := fun i o ho => (List.getElem?_eq_some_iff.1 ho).1
  have hfr : a = putAll (l.take n) (fun i => a.eval (.tmp (((l[i]?).bind (·.dst)).getD 0))) 0 a0 := by
    have h1 : a.defers = (putAll (l.take n) (fun i => a.eval (.tmp (((l[i]?).bind (·.dst)).getD 0))) 0 a0).defers := by rw [putAll_defers, hI.defers]
    have h2 : a.tmps = (putAll (l.take n) (fun i => a.eval (.tmp (((l[i]?).bind (·.dst)).getD 0))) 0 a0).tmps := by
      apply Array.ext
      · rw [putAll_size, hI.size]
      · intro t ht1 ht2
        have e : ∀ (b : Act) (hb : t < b.tmps.size), b.tmps[t] = b.eval (.tmp t) := fun b hb => by simp [Act.eval, hb]
        rw [e _ ht1, e _ ht2]
        by_cases hex : ∃ (j : Nat) (o : Oper), (l.take n)[j]? = some o ∧ o.dst = some t
        · obtain ⟨j, o, hj, hdj⟩ := hex
          have hj2 := (take_get hj).2
          rw [putAll_some (l.take n) _ 0 a0 t j o (by rw [← hI.size]; exact ht1) hj hdj fun j' o' hj' hdj' => by
            by_cases hjj : j' = j
            · exact hjj
            · exact absurd rfl (dstsOk_ne hd (by simpa using (take_get hj').2) (by simpa using hj2) hdj' hdj hjj)]
          rw [Nat.zero_add]; exact hv j o t hj2 hdj
        · rw [putAll_none (l.take n) _ 0 a0 t fun o ho hdo => hex (by obtain ⟨j, hj⟩ := List.getElem?_of_mem ho; exact ⟨j, o, hj, hdo⟩)]
          exact hI.keep t fun i o ho hli hdo => hex ⟨i, o, by
            have hin : i < n := by
              rcases Nat.lt_or_ge i n with h' | h'
              · exact h'
              · rw [hu i h'] at hli; cases hli
            rw [List.getElem?_take, if_pos hin]; simpa using ho, hdo⟩
    cases a; cases hq : putAll (l.take n) _ 0 a0
    simp only [hq] at h1 h2
    subst h1; subst h2; rfl
  rw [hfr]
  refine h _ w hI.grow (allG_of (l.take n) As _ 0 w fun i o ho hdo => ?_)
  rw [Nat.zero_add]
  obtain ⟨hin, ho2⟩ := take_get ho
  cases hd' : o.dst with
  | none => exact absurd hd' hdo
  | some d =>
    have := hI.done i o d (by simpa using ho2) (hl i hin (hlen i o ho2)) hd'
    rwa [hv i o d ho2 hd'] at this
theorem exists_ready (he : edgesOk ops = true) {listed : Array Bool} (hsz : listed.size = ops.size) {i : Nat} (hi : i < ops.size) (hl : listed.getD i false = false) : Region.ready .any ops listed ≠ [] := by
  intro hr
  have hall : ∀ i, i < ops.size → listed.getD i false = true := by
    intro i
    induction i using Nat.strongRecOn with
    | _ i ih =>
      intro hi
      cases hl : listed.getD i false with
      | true => rfl
      | false =>
        have hmem : i ∈ Region.ready .any ops listed := mem_ready.2 ⟨getD_in (by rw [hsz]; exact hi) hl, ops[i], Array.getElem?_eq_getElem hi, fun e hee hb => by
          have := edgesOk_lt he (Array.getElem?_eq_getElem hi) hee hb
          exact ih e.on this (by omega)⟩
        rw [hr] at hmem; cases hmem
  rw [hall i hi] at hl; cases hl
theorem countP_set_lt {listed : Array Bool} {i n : Nat} (hin : i < n) (hil : i < listed.size) (hunf : listed.getD i false = false) :
    (List.range n).countP (fun j => (listed.setIfInBounds i true).getD j false == false) < (List.range n).countP (fun j => listed.getD j false == false) := by
  have hmono : ∀ j, ((listed.setIfInBounds i true).getD j false == false) = true → (listed.getD j false == false) = true := fun j hj => by
    cases hl : listed.getD j false with
    | true => rw [getD_set_true hl] at hj; cases hj
    | false => rfl
  have hi0 : ((listed.setIfInBounds i true).getD i false == false) = false := by simp [hil]
  have key : ∀ (l : List Nat), i ∈ l → l.countP (fun j => (listed.setIfInBounds i true).getD j false == false) < l.countP (fun j => listed.getD j false == false) := by
    intro l
    induction l with
    | nil => intro hm; cases hm
    | cons j l ihl =>
      intro hm
      have hle : l.countP (fun j => (listed.setIfInBounds i true).getD j false == false) ≤ l.countP (fun j => listed.getD j false == false) := List.countP_mono_left fun x _ hx => hmono x hx
      rw [List.countP_cons, List.countP_cons]
      by_cases hij : j = i
      · subst hij
        rw [hi0, hunf, if_neg (by decide), if_pos (by decide)]
        omega
      · have hm' : i ∈ l := by
          rcases List.mem_cons.1 hm with h' | h'
          · exact absurd h'.symm hij
          · exact h'
        have := ihl hm'
        have e : (listed.setIfInBounds i true).getD j false = listed.getD j false := getD_set_ne false (fun h => hij h.symm)
        rw [e]
        exact Nat.add_lt_add_right this _
  exact key _ (List.mem_range.2 hin)
theorem wpAny_head {l : List Oper} {n : Nat} (hds : l.map (·.dst) = ds) (hd : dstsOk l.toArray a0.tmps.size = true) (he : edgesOk l.toArray = true) (hsk : Region.sinkB .any l.toArray n = true) (hch : Region.chainB .any l.toArray n = true) (hn : n < l.length)
    (hs : ∀ i o, i < n → l[i]? = some o → StepH P ds (ds.take n) As a0 w0 i o) {Q : Exit → Act → World → Prop}
    (hQ : ∀ listed a w fuel, InvG l.toArray As a0 w0 listed a w → (∀ i, i < n → listed.getD i false = true) → (∀ i, n ≤ i → listed.getD i false = false) → l.length - n ≤ fuel → wpAny P .any l.toArray Q fuel listed a w) :
    ∀ (c fuel : Nat) (listed : Array Bool) (a : Act) (w : World), InvG l.toArray As a0 w0 listed a w → (∀ i, n ≤ i → listed.getD i false = false) → (List.range n).countP (fun i => listed.getD i false == false) ≤ c → c + (l.length - n) ≤ fuel → wpAny P .any l.toArray Q fuel listed a w := by
  intro c
  induction c with
  | zero =>
    intro fuel listed a w h hu hc hf
    refine hQ listed a w fuel h (fun i hi => ?_) hu (by omega)
    cases hl : listed.getD i false with
    | true => rfl
    | false =>
      have : 0 < (List.range n).countP (fun i => listed.getD i false == false) := List.countP_pos_iff.2 ⟨i, List.mem_range.2 hi, by rw [hl]; rfl⟩
      omega
  | succ c ih =>
    intro fuel listed a w h hu hc hf
    by_cases hall : ∀ i, i < n → listed.getD i false = true
    · exact hQ listed a w fuel h hall hu (by omega)
    · obtain ⟨i, hi⟩ := Classical.not_forall.1 hall
      have hin : i < n := by
        rcases Nat.lt_or_ge i n with h' | h'
        · exact h'
        · exact absurd (fun hh => absurd hh (by omega)) hi
      have hun : listed.getD i false = false := by
        cases hl : listed.getD i false with
        | true => exact absurd (fun _ => hl) hi
        | false => rfl
      have hsz : l.toArray.size = l.length := by simp
      have hilt : i < listed.size := by rw [h.lsize, hsz]; omega
      have hinv : HeadInv .any l.toArray n listed := ⟨h.lsize, h.closed, fun t ht ht' => getD_in (by rw [h.lsize]; exact ht') (hu t ht)⟩
      cases fuel with
      | zero => omega
      | succ fuel =>
        refine ⟨fun hr => absurd hr (exists_ready he h.lsize (by rw [hsz]; omega) hun), fun j hj => ?_⟩
        have hjn : j < n := by
          rcases Nat.lt_or_ge j n with h' | h'
          · exact h'
          · exact absurd hj (tail_waits hsk hch (by rw [hsz]; exact hn) hinv _ i rfl hin (getD_in hilt hun) j h')
        refine wpOp_mono (fun a' w' h' => ih fuel _ _ _ h' (fun t ht => ?_) ?_ (by omega)) (step_inv1 (Q := Q) (by simpa using hds) hd h (fun k ok hk hlk => by
          have hkn : k < n := by
            rcases Nat.lt_or_ge k n with h' | h'
            · exact h'
            · rw [hu k h'] at hlk; cases hlk
          have hk2 : l[k]? = some ok := by simpa using hk
          refine List.mem_of_getElem? (i := k) ?_
          rw [List.getElem?_take, if_pos hkn, ← hds, List.getElem?_map, hk2]; rfl) (fun o ho => hs j o hjn (by simpa using ho)) hj)
        · rw [getD_set_ne false (by omega)]; exact hu t ht
        · obtain ⟨hjun, _⟩ := mem_ready.1 hj
          have hjl : j < listed.size := by rw [h.lsize, hsz]; omega
          have hjunf : listed.getD j false = false := by simp [hjl] at hjun ⊢; exact hjun
          have := countP_set_lt hjn hjl hjunf
          omega
/-- A region whose order is open, with a tail. -/
theorem wp_region_inv_tail {id : Nat} {l : List Oper} {Q : Exit → Act → World → Prop} (n : Nat) (ds : List (Option Tmp)) (As : List (Asrt B)) (hds : l.map (·.dst) = ds) (hm : P.follows .mixedOrders = true) (hd : dstsOk l.toArray a0.tmps.size = true) (he : edgesOk l.toArray = true)
    (hsk : Region.sinkB .any l.toArray n = true) (hch : Region.chainB .any l.toArray n = true) (hn : n < l.length) (hsq : Region.seqB .any l.toArray (l.length - n) n ((List.range l.length).map fun i => decide (i < n)).toArray = true)
    (hB : B ≤ w0.heap.size) (hs : StepsH P ds (ds.take n) As a0 w0 0 (l.take n)) (h : ∀ (v : Nat → Value) w', Grow B w0 w' → AllG (l.take n) As v 0 w' → wpList P l.toArray Q (l.drop n) (putAll (l.take n) v 0 a0) w') : (Code.region id l.toArray true).wp P Q a0 w0 := by
  refine wp_region_any hm ?_
  change wpAny P .any l.toArray Q l.toArray.size (Array.replicate l.toArray.size false) a0 w0.drew
  have hinit : InvG l.toArray As a0 w0 (Array.replicate l.toArray.size false) a0 w0.drew := by
    refine ⟨Grow.drew hB, rfl, rfl, by simp, ?_, fun _ _ => rfl, ?_⟩
    · intro i o d _ hl; simp [Array.getElem?_replicate] at hl; split at hl <;> cases hl
    · intro i o _ hl; simp [Array.getElem?_replicate] at hl; split at hl <;> cases hl
  have hdl : (l.drop n).length = l.length - n := by simp
  refine wpAny_head hds hd he hsk hch hn (fun i o hin ho => by have := stepsH_get (l.take n) 0 hs i o (by rw [List.getElem?_take, if_pos hin]; exact ho); simpa using this) ?_ n _ _ _ _ hinit (fun i _ => getD_replicate_false _ _) ?_ (by simp; omega)
  · intro listed a w fuel hI hl hu hf
    have hlist : listed = ((List.range l.length).map fun i => decide (i < n)).toArray := by
      apply Array.ext
      · rw [hI.lsize]; simp
      · intro i h1 h2
        have hi : i < l.length := by simpa using h2
        have e : listed[i] = listed.getD i false := by simp [h1]
        rw [e]
        simp only [List.getElem_toArray, List.getElem_map, List.getElem_range]
        by_cases hin : i < n
        · rw [hl i hin, decide_eq_true hin]
        · rw [hu i (by omega), decide_eq_false hin]
    refine wpAny_of_seq_ge (l.drop n) fuel n listed a w (by rw [hdl]; exact hf) (fun j => by simp [List.getElem?_drop]) (by rw [hdl, hlist]; exact hsq) ?_
    exact inv_head (R := fun a w => wpList P l.toArray Q (l.drop n) a w) hd h listed a w hI (fun i hi _ => hl i hi) hu
  · have := List.countP_le_length (p := fun i => (Array.replicate l.toArray.size false).getD i false == false) (l := List.range n)
    simpa using this
/-- An array is loaded out of the middle of a block. -/
theorem yg_load_mid {o : Oper} {ev : Operand → Value} {w : World} {K : Value → World → Prop} (ty : TypeId) (x : Operand) (ho : o.op = .load ty x) (b off : Nat) (hx : ev x = .pointer (some ⟨b, off, none⟩)) (cs : List Value) (d : TypeDesc)
    (hc : w.rangeAt b off cs) (hu : P.underlying ty = some d) (hd : d.isRow = true) (hi : (P.info? ty).map (·.size) = some cs.length) (hK : K (.agg cs.toArray) w) : YieldsG P o ev w K := by
  unfold YieldsG execOp
  simp only [ho, hx, Instr.loadAt, Instr.sureAddr, Sem.run_bind, Sem.run_pure, Result.andThen_ok, run_loadVar_mid w b off ty cs d hc hu hd hi]
  exact hK
end
end Go.Proofs.YteogcilnpkaplaaDoor

namespace Go.Proofs.YteogcilnpkaplaaDoor
open Go.RowKit
/-- The slots that a simple operation reads. -/
def readsOf : Op → Option (List Tmp)
  | .move (.tmp x) => some [x]
  | .assign (.tmp x) => some [x]
  | .extract (.tmp x) _ => some [x]
  | .load _ (.tmp x) => some [x]
  | .indexAddr _ (.tmp x) (.tmp y) => some [x, y]
  | .store _ (.tmp x) (.tmp y) => some [x, y]
  | _ => none
def isTailOp : Op → Bool
  | .assign _ => true
  | .store _ _ _ => true
  | _ => false
theorem exec_reads {ev ev' : Operand → Value} {o : Oper} {rs : List Tmp} (h : readsOf o.op = some rs) (he : ∀ t ∈ rs, ev (.tmp t) = ev' (.tmp t)) : execOp ev o = execOp ev' o := by
  obtain ⟨dst, op, type, pos, after, guard⟩ := o
  unfold readsOf at h
  split at h <;> (first | cases h) <;> simp_all [execOp]
theorem tail_run {P : Program} {ev : Operand → Value} {o : Oper} (h : isTailOp o.op = true) (w : World) :
    (∃ w', (execOp ev o).run P w = .ok .skip w') ∨ (∃ v w', (execOp ev o).run P w = .ok (.value v) w') ∨ ∃ x w', (execOp ev o).run P w = .halt x w' := by
  obtain ⟨dst, op, type, pos, after, guard⟩ := o
  unfold isTailOp at h
  split at h
  · rename_i x hh
    simp only at hh
    subst hh
    right; left; exact ⟨_, _, rfl⟩
  · rename_i ty x y hh
    simp only at hh
    subst hh
    unfold execOp
    simp only [Sem.run_bind]
    cases (Instr.storeAt ty (ev x) (ev y)).run P w with
    | ok u w' => left; exact ⟨w', rfl⟩
    | halt x w' => right; right; exact ⟨x, w', rfl⟩
  · cases h
def hasEdge (o : Oper) (j : Nat) : Bool := o.after.any fun e => Region.binds .any e && e.on == j
theorem hasEdge_listed {o : Oper} {j : Nat} {listed : Array Bool} (h : hasEdge o j = true) (hd : ∀ e ∈ o.after, Region.binds .any e = true → listed.getD e.on false = true) : listed.getD j false = true := by
  unfold hasEdge at h
  obtain ⟨e, he, hb⟩ := Array.any_eq_true'.1 h
  simp only [Bool.and_eq_true, beq_iff_eq] at hb
  rw [← hb.2]; exact hd e he hb.1
/-- What such an operation reads is there: a late operation that writes one of its slots is ahead of it. -/
def slotOk (l : List Oper) (O : List Nat) (o : Oper) : Bool :=
  o.guard.isNone && (match readsOf o.op with
    | none => false
    | some rs => rs.all fun t => O.all fun j => ((l[j]?).bind (·.dst)) != some t || hasEdge o j)
def lateB (l : List Oper) (n : Nat) (O : List Nat) : Bool :=
  (O.all fun j => decide (j < n) && (match l[j]? with
    | none => false
    | some o => slotOk l O o && o.dst.isSome && (((readsOf o.op).getD []).all fun t => (l.drop n).all fun p => p.dst != some t))) &&
  ((List.range l.length).all fun i => decide (i < n) || (match l[i]? with
    | none => false
    | some o => slotOk l O o && isTailOp o.op && (if i == n then (List.range n).all fun k => O.contains k || hasEdge o k else hasEdge o (i - 1))))
section
variable {P : Program} {B : Nat} {ds : List (Option Tmp)} {As : List (Asrt B)} {a0 : Act} {w0 : World} {l : List Oper} {Q : Exit → Act → World → Prop} {I : World → Prop}
/-- The tail's walk, with a fact of the world that stays. -/
def wpListI (P : Program) (ops : Array Oper) (I : World → Prop) (Q : Exit → Act → World → Prop) : List Oper → Act → World → Prop
  | [], a, w => I w ∧ wpList P ops Q [] a w
  | o :: l, a, w => I w ∧ wpList P ops (fun e a w => e = .normal ∧ wpListI P ops I Q l a w) [o] a w
def lateQ (P : Program) (ops : Array Oper) (I : World → Prop) (Q : Exit → Act → World → Prop) (l : List Oper) (e : Exit) (a : Act) (w : World) : Prop := e = .normal ∧ wpListI P ops I Q l a w
theorem wpListI_cons {ops : Array Oper} {o : Oper} {a : Act} {w : World} (hI : I w) (h : wpList P ops (lateQ P ops I Q l) [o] a w) : wpListI P ops I Q (o :: l) a w := ⟨hI, h⟩
theorem wpListI_nil {ops : Array Oper} {a : Act} {w : World} (hI : I w) (h : wpList P ops Q [] a w) : wpListI P ops I Q [] a w := ⟨hI, h⟩
theorem lateQ_intro {ops : Array Oper} {a : Act} {w : World} (h : wpListI P ops I Q l a w) : wpList P ops (lateQ P ops I Q l) [] a w := ⟨rfl, h⟩
theorem wpListI_here {ops : Array Oper} {a : Act} {w : World} (h : wpListI P ops I Q l a w) : I w := by
  cases l with
  | nil => exact h.1
  | cons o l => exact h.1
def LateRuns (P : Program) (I : World → Prop) (l : List Oper) (ev : Operand → Value) : List (Nat × Value) → Prop
  | [] => True
  | (j, x) :: r => (∀ o, l[j]? = some o → ∀ w, I w → (execOp ev o).run P w = .ok (.value x) w) ∧ LateRuns P I l ev r
def LateEqs (As : List (Asrt B)) : List (Nat × Value) → Prop
  | [] => True
  | (j, x) :: r => As[j]? = some (Asrt.eq x) ∧ LateEqs As r
theorem lateRuns_get {ev : Operand → Value} : ∀ {O : List (Nat × Value)}, LateRuns P I l ev O → ∀ p ∈ O, ∀ o, l[p.1]? = some o → ∀ w, I w → (execOp ev o).run P w = .ok (.value p.2) w
  | (j, x) :: r, h, p, hp, o, ho, w, hw => by
    rcases List.mem_cons.1 hp with e | hp
    · subst e; exact h.1 o ho w hw
    · exact lateRuns_get h.2 p hp o ho w hw
theorem lateEqs_get : ∀ {O : List (Nat × Value)}, LateEqs As O → ∀ p ∈ O, As[p.1]? = some (Asrt.eq p.2)
  | (j, x) :: r, h, p, hp => by
    rcases List.mem_cons.1 hp with e | hp
    · subst e; exact h.1
    · exact lateEqs_get h.2 p hp
theorem slotOk_agree {O : List Nat} {o : Oper} {listed : Array Bool} {a a' : Act} (hs : slotOk l O o = true)
    (hag : ∀ t, (∀ j ∈ O, listed.getD j false = false → ((l[j]?).bind (·.dst)) ≠ some t) → a.eval (.tmp t) = a'.eval (.tmp t)) (hdep : ∀ e ∈ o.after, Region.binds .any e = true → listed.getD e.on false = true) :
    o.guard = none ∧ execOp a.eval o = execOp a'.eval o := by
  unfold slotOk at hs
  rw [Bool.and_eq_true] at hs
  refine ⟨by simpa using hs.1, ?_⟩
  cases hr : readsOf o.op with
  | none => rw [hr] at hs; exact absurd hs.2 (by simp)
  | some rs =>
    rw [hr] at hs
    refine exec_reads hr fun t ht => hag t fun j hj hl hd => ?_
    have h1 := List.all_eq_true.1 (List.all_eq_true.1 hs.2 t ht) j hj
    rw [Bool.or_eq_true] at h1
    rcases h1 with h1 | h1
    · exact absurd hd (by simpa using h1)
    · rw [hasEdge_listed h1 hdep] at hl; cases hl
theorem act_ext {a a' : Act} (hs : a.tmps.size = a'.tmps.size) (hd : a.defers = a'.defers) (h : ∀ t, t < a.tmps.size → a.eval (.tmp t) = a'.eval (.tmp t)) : a = a' := by
  have h2 : a.tmps = a'.tmps := by
    apply Array.ext hs
    intro t h1 h2
    have e : ∀ (b : Act) (hb : t < b.tmps.size), b.tmps[t] = b.eval (.tmp t) := fun b hb => by simp [Act.eval, hb]
    rw [e _ h1, e _ h2]; exact h t h1
  cases a; cases a'
  simp only at hd h2
  subst hd; subst h2; rfl
/-- Between two operations of the tail: some late ones are still to come; a' is the frame in which they are done. -/
structure LateSt (l : List Oper) (n : Nat) (O : List (Nat × Value)) (k : Nat) (listed : Array Bool) (a a' : Act) : Prop where
  lsize : listed.size = l.length
  head : ∀ i, i < n → i ∉ O.map (·.1) → listed.getD i false = true
  tail : ∀ i, n ≤ i → i < l.length → (listed.getD i false = true ↔ i < n + k)
  size : a.tmps.size = a'.tmps.size
  defers : a.defers = a'.defers
  dlt : dstsOk l.toArray a.tmps.size = true
  agree : ∀ t, (∀ j ∈ O.map (·.1), listed.getD j false = false → ((l[j]?).bind (·.dst)) ≠ some t) → a.eval (.tmp t) = a'.eval (.tmp t)
  vals : ∀ p ∈ O, ∀ d, (l[p.1]?).bind (·.dst) = some d → a'.eval (.tmp d) = p.2
theorem countP_pos_of {listed : Array Bool} {m i : Nat} (hi : i < m) (h : listed.getD i false = false) : 0 < (List.range m).countP (fun i => listed.getD i false == false) :=
  List.countP_pos_iff.2 ⟨i, List.mem_range.2 hi, by rw [h]; rfl⟩
theorem wpAny_late {n : Nat} {O : List (Nat × Value)} (hlate : lateB l n (O.map (·.1)) = true) (he : edgesOk l.toArray = true) (hn : n < l.length) {b0 : Act} (hO : LateRuns P I l b0.eval O) :
    ∀ (fuel k : Nat) (listed : Array Bool) (a a' : Act) (w : World), LateSt l n O k listed a a' → (∀ p ∈ O, ∀ o, l[p.1]? = some o → ∀ t ∈ (readsOf o.op).getD [], a'.eval (.tmp t) = b0.eval (.tmp t)) → k ≤ l.length - n → wpListI P l.toArray I Q (l.drop (n + k)) a' w →
      (List.range l.length).countP (fun i => listed.getD i false == false) ≤ fuel → wpAny P .any l.toArray Q fuel listed a w := by
  unfold lateB at hlate
  rw [Bool.and_eq_true] at hlate
  obtain ⟨hL1, hL2⟩ := hlate
  have hend : ∀ {k : Nat} {listed : Array Bool} {a a' : Act} {w : World}, LateSt l n O k listed a a' → k ≤ l.length - n → (∀ i, i < l.length → listed.getD i false = true) → wpListI P l.toArray I Q (l.drop (n + k)) a' w → Q .normal a w := by
    intro k listed a a' w hst hk hall hw
    have hkk : n + k = l.length := by
      rcases Nat.lt_or_ge (n + k) l.length with h | h
      · have := (hst.tail (n + k) (by omega) h).1 (hall _ h); omega
      · omega
    rw [hkk, List.drop_length] at hw
    have : a = a' := act_ext hst.size hst.defers fun t _ => hst.agree t fun j hj hl => by
      rcases Nat.lt_or_ge j l.length with h | h
      · rw [hall j h] at hl; cases hl
      · rw [List.getElem?_eq_none h]; simp
    subst this
    exact hw.2
  intro fuel
  induction fuel with
  | zero =>
    intro k listed a a' w hst _ hk hw hc
    have hall : ∀ i, i < l.length → listed.getD i false = true := fun i hi => by
      cases hl : listed.getD i false with
      | true => rfl
      | false => have := countP_pos_of hi hl; omega
    refine ⟨?_, hend hst hk hall hw⟩
    cases hr : Region.ready .any l.toArray listed with
    | nil => rfl
    | cons i r =>
      obtain ⟨hun, o, ho, _⟩ := mem_ready.1 (show i ∈ Region.ready .any l.toArray listed by rw [hr]; simp)
      have hi : i < l.length := by simpa using (Array.getElem?_eq_some_iff.1 ho).1
      have h1 := hall i hi
      have hl : i < listed.size := by rw [hst.lsize]; exact hi
      simp [hl] at hun h1; rw [hun] at h1; cases h1
  | succ fuel ih =>
    intro k listed a a' w hst hrd hk hw hc
    refine ⟨fun hr => hend hst hk (fun i hi => ?_) hw, fun i hi => ?_⟩
    · cases hl : listed.getD i false with
      | true => rfl
      | false => exact absurd hr (exists_ready he (by rw [hst.lsize]; simp) (by simpa using hi) hl)
    obtain ⟨hun, o, ho, hdep⟩ := mem_ready.1 hi
    have hol : l[i]? = some o := by simpa using ho
    have hil : i < l.length := (List.getElem?_eq_some_iff.1 hol).1
    have hils : i < listed.size := by rw [hst.lsize]; exact hil
    have hunf : listed.getD i false = false := by simp [hils] at hun ⊢; exact hun
    have hcnt : (List.range l.length).countP (fun j => (listed.setIfInBounds i true).getD j false == false) ≤ fuel := by
      have := countP_set_lt hil hils hunf; omega
    have hI := wpListI_here hw
    have hopl : l.toArray[i]? = some o := ho
    rcases Nat.lt_or_ge i n with hin | hin
    · -- a late operation
      have him : i ∈ O.map (·.1) := by
        by_cases h : i ∈ O.map (·.1)
        · exact h
        · rw [hst.head i hin h] at hunf; cases hunf
      obtain ⟨p, hp, hpi⟩ := List.mem_map.1 him
      have hb := List.all_eq_true.1 hL1 i him
      simp only [hol, Bool.and_eq_true] at hb
      obtain ⟨-, ⟨hso, hds⟩, htl⟩ := hb
      obtain ⟨hg, hex⟩ := slotOk_agree hso hst.agree hdep
      obtain ⟨d, hd⟩ := Option.isSome_iff_exists.1 hds
      have hrun : (execOp a.eval o).run P w = .ok (.value p.2) w := by
        rw [hex]
        have h0 : execOp a'.eval o = execOp b0.eval o := by
          unfold slotOk at hso
          cases hr : readsOf o.op with
          | none => rw [hr] at hso; simp at hso
          | some rs => exact exec_reads hr fun t ht => hrd p hp o (by rw [hpi]; exact hol) t (by rw [hr]; exact ht)
        rw [h0]
        exact lateRuns_get hO p hp o (by rw [hpi]; exact hol) w hI
      unfold wpOp
      simp only [hopl]
      rw [if_pos (by unfold Region.wanted; rw [hg])]
      left
      unfold Oper.wp
      rw [hrun]
      refine ih k _ _ a' w ⟨by simp [hst.lsize], ?_, ?_, (put_size _ _ _).trans hst.size, (put_defers _ _ _).trans hst.defers, by rw [put_size]; exact hst.dlt, ?_, hst.vals⟩ hrd hk hw hcnt
      · intro j hj hjO; exact getD_set_true (hst.head j hj hjO)
      · intro j hj hjl; rw [getD_set_ne false (by omega)]; exact hst.tail j hj hjl
      · intro t ht
        rw [hd]
        by_cases hdt : d = t
        · subst hdt
          rw [eval_put_same _ _ _ (dstsOk_lt hst.dlt hopl hd)]
          exact (hst.vals p hp d (by rw [hpi, hol]; exact hd)).symm
        · rw [eval_put_ne _ _ _ _ (fun e => hdt (Option.some.inj e))]
          refine hst.agree t fun j hj hl hdj => ?_
          by_cases hij : i = j
          · subst hij; rw [hol] at hdj; exact hdt (Option.some.inj (hd.symm.trans hdj))
          · exact ht j hj (by rw [getD_set_ne false hij]; exact hl) hdj
    · -- an operation of the tail
      have hb := List.all_eq_true.1 hL2 i (List.mem_range.2 hil)
      simp only [hol, Bool.or_eq_true, decide_eq_true_eq, Bool.and_eq_true] at hb
      obtain ⟨⟨hso, hto⟩, hed⟩ := hb.resolve_left (by omega)
      have hik : i = n + k := by
        have h1 : ¬ i < n + k := fun h => by rw [(hst.tail i hin hil).2 h] at hunf; cases hunf
        rcases Nat.lt_or_ge (n + k) i with h | h
        · rw [if_neg (by simp; omega)] at hed
          have h2 := hasEdge_listed hed hdep
          have := (hst.tail (i - 1) (by omega) (by omega)).1 h2
          omega
        · omega
      obtain ⟨hg, hex⟩ := slotOk_agree hso hst.agree hdep
      have hdrop : l.drop (n + k) = o :: l.drop (n + (k + 1)) := by
        rw [← hik, List.drop_eq_getElem_cons hil]
        have : l[i] = o := by rw [List.getElem?_eq_getElem hil] at hol; exact Option.some.inj hol
        rw [this, hik, Nat.add_assoc]
      rw [hdrop] at hw
      have hw2 := hw.2
      unfold wpList at hw2
      have hwant : ∀ b : Act, Region.wanted o (yielded l.toArray b.tmps) = true := fun b => by unfold Region.wanted; rw [hg]
      rw [if_pos (hwant a')] at hw2
      have hw3 := hw2.resolve_right fun h => by obtain ⟨_, _, h, _⟩ := h.2; cases h
      unfold Oper.wp at hw3
      unfold wpOp
      simp only [hopl]
      rw [if_pos (hwant a)]
      left
      unfold Oper.wp
      rw [hex]
      have hgo : ∀ v w', wpListI P l.toArray I Q (l.drop (n + (k + 1))) (a'.put o.dst v) w' → wpAny P .any l.toArray Q fuel (listed.setIfInBounds i true) (a.put o.dst v) w' := by
        intro v w' hh
        refine ih (k + 1) _ _ (a'.put o.dst v) w' ⟨by simp [hst.lsize], ?_, ?_, ?_, ?_, by rw [put_size]; exact hst.dlt, ?_, ?_⟩ ?_ (by omega) hh hcnt
        · intro j hj hjO; exact getD_set_true (hst.head j hj hjO)
        · intro j hj hjl
          by_cases hij : i = j
          · subst hij
            refine ⟨fun _ => by omega, fun _ => ?_⟩
            simp [hils]
          · rw [getD_set_ne false hij, hst.tail j hj hjl]
            omega
        · rw [put_size, put_size]; exact hst.size
        · rw [put_defers, put_defers]; exact hst.defers
        · intro t ht
          cases hd : o.dst with
          | none => exact hst.agree t fun j hj hl hdj => ht j hj (by
              by_cases hij : i = j
              · subst hij; rw [hol] at hdj; rw [show (some o).bind (·.dst) = o.dst from rfl, hd] at hdj; cases hdj
              · rw [getD_set_ne false hij]; exact hl) hdj
          | some d =>
            by_cases hdt : d = t
            · subst hdt
              have h1 := dstsOk_lt hst.dlt hopl hd
              rw [eval_put_same _ _ _ h1, eval_put_same _ _ _ (by rw [← hst.size]; exact h1)]
            · rw [eval_put_ne _ _ _ _ (fun e => hdt (Option.some.inj e)), eval_put_ne _ _ _ _ (fun e => hdt (Option.some.inj e))]
              refine hst.agree t fun j hj hl hdj => ?_
              by_cases hij : i = j
              · subst hij; rw [hol] at hdj; exact hdt (Option.some.inj (hd.symm.trans hdj))
              · exact ht j hj (by rw [getD_set_ne false hij]; exact hl) hdj
        · intro p hp d hd
          rw [eval_put_ne]
          · exact hst.vals p hp d hd
          · intro e
            cases hp1 : l[p.1]? with
            | none => rw [hp1] at hd; cases hd
            | some o1 =>
              rw [hp1] at hd
              have hb1 := List.all_eq_true.1 hL1 p.1 (List.mem_map.2 ⟨p, hp, rfl⟩)
              simp only [hp1, Bool.and_eq_true, decide_eq_true_eq] at hb1
              have hne : i ≠ p.1 := by omega
              exact dstsOk_ne hst.dlt hopl (show l.toArray[p.1]? = some o1 by simpa using hp1) e hd hne rfl
        · intro p hp o1 ho1 t ht
          rw [eval_put_ne]
          · exact hrd p hp o1 ho1 t ht
          · intro e
            have hb1 := List.all_eq_true.1 hL1 p.1 (List.mem_map.2 ⟨p, hp, rfl⟩)
            simp only [ho1, Bool.and_eq_true] at hb1
            have h2 := List.all_eq_true.1 (List.all_eq_true.1 hb1.2.2 t ht) o (by
              refine List.mem_of_getElem? (i := k) ?_
              rw [List.getElem?_drop, ← hik]; exact hol)
            rw [e] at h2
            simp at h2
      rcases tail_run (P := P) (ev := a'.eval) hto w with ⟨w', hr⟩ | ⟨v, w', hr⟩ | ⟨x, w', hr⟩
      · rw [hr] at hw3 ⊢
        exact hgo _ _ hw3.2
      · rw [hr] at hw3 ⊢
        exact hgo _ _ hw3.2
      · rw [hr] at hw3 ⊢
        cases x <;> simp only [Oper.upon] at hw3 ⊢
        all_goals first | exact hw3.elim | (have := hw3.1; cases this)
theorem asrt_eq_inj {x y : Value} (h : (Asrt.eq x : Asrt B) = Asrt.eq y) : x = y := by
  have h1 : (Asrt.eq x : Asrt B).p x default := rfl
  rw [h] at h1; exact h1
/-- The value that an operation ahead of the tail has, or will have, handed back. -/
def lateVal (l : List Oper) (O : List (Nat × Value)) (listed : Array Bool) (a : Act) (i : Nat) : Value :=
  if listed.getD i false = true then a.eval (.tmp (((l[i]?).bind (·.dst)).getD 0)) else ((O.find? fun p => p.1 == i).map (·.2)).getD undef
theorem lateVal_of {O : List (Nat × Value)} {listed : Array Bool} {a : Act} (hAs : LateEqs As O) {p : Nat × Value} (hp : p ∈ O) (hl : listed.getD p.1 false = false) : lateVal l O listed a p.1 = p.2 := by
  unfold lateVal
  rw [if_neg (by rw [hl]; decide)]
  cases hf : O.find? fun q => q.1 == p.1 with
  | none => exact absurd (List.find?_eq_none.1 hf p hp) (by simp)
  | some q =>
    have h1 := List.find?_some hf
    have h2 := List.mem_of_find?_eq_some hf
    have h3 := lateEqs_get hAs q h2
    have h4 := lateEqs_get hAs p hp
    rw [eq_of_beq h1, h4] at h3
    exact (asrt_eq_inj (Option.some.inj h3)).symm
theorem late_enter {n : Nat} {O : List (Nat × Value)} (hd : dstsOk l.toArray a0.tmps.size = true) (hlate : lateB l n (O.map (·.1)) = true) (he : edgesOk l.toArray = true) (hn : n < l.length) (hAs : LateEqs As O)
    (h : ∀ (v : Nat → Value) w', Grow B w0 w' → AllG (l.take n) As v 0 w' → ∃ I, LateRuns P I l (putAll (l.take n) v 0 a0).eval O ∧ wpListI P l.toArray I Q (l.drop n) (putAll (l.take n) v 0 a0) w')
    (fuel : Nat) (listed : Array Bool) (a : Act) (w : World) (hI : InvG l.toArray As a0 w0 listed a w) (hu : ∀ i, n ≤ i → listed.getD i false = false) (hc : (List.range l.length).countP (fun i => listed.getD i false == false) ≤ fuel)
    (hhd : ∀ i, i < n → i ∉ O.map (·.1) → listed.getD i false = true) : wpAny P .any l.toArray Q fuel listed a w := by
  have hle : ∀ {i : Nat} {o : Oper}, (l.take n)[i]? = some o → i < n ∧ l[i]? = some o := fun h => take_get h
  have hput : ∀ {i : Nat} {o : Oper} {d : Tmp}, i < n → l[i]? = some o → o.dst = some d → (putAll (l.take n) (lateVal l O listed a) 0 a0).eval (.tmp d) = lateVal l O listed a i := by
    intro i o d hi ho hdo
    rw [putAll_some (l.take n) _ 0 a0 d i o (dstsOk_lt hd (show l.toArray[i]? = some o by simpa using ho) hdo) (by rw [List.getElem?_take, if_pos hi]; exact ho) hdo fun j' o' hj' hdj' => by
      by_cases hjj : j' = i
      · exact hjj
      · exact absurd rfl (dstsOk_ne hd (show l.toArray[j']? = some o' by simpa using (hle hj').2) (show l.toArray[i]? = some o by simpa using ho) hdj' hdo hjj), Nat.zero_add]
  have hlisted : ∀ {i : Nat} {o : Oper} {d : Tmp}, l[i]? = some o → o.dst = some d → listed.getD i false = true → lateVal l O listed a i = a.eval (.tmp d) := by
    intro i o d ho hdo hli
    unfold lateVal; rw [if_pos hli]; simp [ho, hdo]
  have hin : ∀ {i : Nat} {o : Oper}, l[i]? = some o → listed.getD i false = true → i < n := by
    intro i o ho hli
    rcases Nat.lt_or_ge i n with h' | h'
    · exact h'
    · rw [hu i h'] at hli; cases hli
  obtain ⟨I, hR, hw⟩ := h (lateVal l O listed a) w hI.grow (allG_of (l.take n) As _ 0 w fun i o ho hdo => by
    rw [Nat.zero_add]
    obtain ⟨hi, ho2⟩ := hle ho
    cases hd' : o.dst with
    | none => exact absurd hd' hdo
    | some d =>
      cases hli : listed.getD i false with
      | true => rw [hlisted ho2 hd' hli]; exact hI.done i o d (by simpa using ho2) hli hd'
      | false =>
        have him : i ∈ O.map (·.1) := by
          by_cases h : i ∈ O.map (·.1)
          · exact h
          · rw [hhd i hi h] at hli; cases hli
        obtain ⟨p, hp, rfl⟩ := List.mem_map.1 him
        rw [lateVal_of hAs hp hli, lateEqs_get hAs p hp]
        rfl)
  refine wpAny_late (k := 0) hlate he hn hR fuel listed a _ w ⟨by rw [hI.lsize]; simp, hhd, ?_, ?_, ?_, by rw [hI.size]; exact hd, ?_, ?_⟩ (fun _ _ _ _ _ _ => rfl) (Nat.zero_le _) (by rw [Nat.add_zero]; exact hw) hc
  · intro i hi _
    rw [hu i hi]
    exact ⟨fun h => (by cases h), fun h => (by omega)⟩
  · rw [putAll_size]; exact hI.size
  · rw [putAll_defers]; exact hI.defers
  · intro t ht
    by_cases hex : ∃ (j : Nat) (o : Oper), (l.take n)[j]? = some o ∧ o.dst = some t
    · obtain ⟨j, o, hj, hdj⟩ := hex
      obtain ⟨hjn, hjl⟩ := hle hj
      rw [hput hjn hjl hdj]
      cases hli : listed.getD j false with
      | true => rw [hlisted hjl hdj hli]
      | false =>
        have him : j ∈ O.map (·.1) := by
          by_cases h : j ∈ O.map (·.1)
          · exact h
          · rw [hhd j hjn h] at hli; cases hli
        exact absurd (by rw [hjl]; exact hdj) (ht j him hli)
    · rw [putAll_none (l.take n) _ 0 a0 t fun o ho hdo => hex (by obtain ⟨j, hj⟩ := List.getElem?_of_mem ho; exact ⟨j, o, hj, hdo⟩)]
      exact hI.keep t fun i o ho hli hdo => hex ⟨i, o, by
        have ho2 : l[i]? = some o := by simpa using ho
        rw [List.getElem?_take, if_pos (hin ho2 hli)]; exact ho2, hdo⟩
  · intro p hp d hdp
    cases hp1 : l[p.1]? with
    | none => rw [hp1] at hdp; cases hdp
    | some o =>
      rw [hp1] at hdp
      have hdp' : o.dst = some d := hdp
      have hb := hlate
      unfold lateB at hb
      rw [Bool.and_eq_true] at hb
      have hb1 := List.all_eq_true.1 hb.1 p.1 (List.mem_map.2 ⟨p, hp, rfl⟩)
      simp only [hp1, Bool.and_eq_true, decide_eq_true_eq] at hb1
      rw [hput hb1.1 hp1 hdp']
      cases hli : listed.getD p.1 false with
      | false => exact lateVal_of hAs hp hli
      | true =>
        rw [hlisted hp1 hdp' hli]
        have := hI.done p.1 o d (by simpa using hp1) hli hdp'
        rw [lateEqs_get hAs p hp] at this
        exact this
theorem wpAny_headL {n : Nat} {O : List (Nat × Value)} (hds : l.map (·.dst) = ds) (hd : dstsOk l.toArray a0.tmps.size = true) (hlate : lateB l n (O.map (·.1)) = true) (he : edgesOk l.toArray = true) (hn : n < l.length) (hAs : LateEqs As O)
    (hs : ∀ i o, i < n → l[i]? = some o → StepH P ds (ds.take n) As a0 w0 i o)
    (h : ∀ (v : Nat → Value) w', Grow B w0 w' → AllG (l.take n) As v 0 w' → ∃ I, LateRuns P I l (putAll (l.take n) v 0 a0).eval O ∧ wpListI P l.toArray I Q (l.drop n) (putAll (l.take n) v 0 a0) w') :
    ∀ (fuel : Nat) (listed : Array Bool) (a : Act) (w : World), InvG l.toArray As a0 w0 listed a w → (∀ i, n ≤ i → listed.getD i false = false) → (List.range l.length).countP (fun i => listed.getD i false == false) ≤ fuel → wpAny P .any l.toArray Q fuel listed a w := by
  intro fuel
  induction fuel with
  | zero =>
    intro listed a w hI hu hc
    have := countP_pos_of hn (hu n (Nat.le_refl _))
    omega
  | succ fuel ih =>
    intro listed a w hI hu hc
    have hsz : l.toArray.size = l.length := by simp
    refine ⟨fun hr => absurd hr (exists_ready he hI.lsize (by rw [hsz]; exact hn) (hu n (Nat.le_refl _))), fun j hj => ?_⟩
    rcases Nat.lt_or_ge j n with hjn | hjn
    · have hjl : j < listed.size := by rw [hI.lsize, hsz]; omega
      refine wpOp_mono (fun a' w' h' => ih _ _ _ h' (fun t ht => ?_) ?_) (step_inv1 (Q := Q) (by simpa using hds) hd hI (fun k ok hk hlk => by
          have hkn : k < n := by
            rcases Nat.lt_or_ge k n with h' | h'
            · exact h'
            · rw [hu k h'] at hlk; cases hlk
          have hk2 : l[k]? = some ok := by simpa using hk
          refine List.mem_of_getElem? (i := k) ?_
          rw [List.getElem?_take, if_pos hkn, ← hds, List.getElem?_map, hk2]; rfl) (fun o ho => hs j o hjn (by simpa using ho)) hj)
      · rw [getD_set_ne false (by omega)]; exact hu t ht
      · obtain ⟨hjun, _⟩ := mem_ready.1 hj
        have hjunf : listed.getD j false = false := by simp [hjl] at hjun ⊢; exact hjun
        have := countP_set_lt (show j < l.length by omega) hjl hjunf
        omega
    · have hall := late_enter hd hlate he hn hAs h (fuel + 1) listed a w hI hu hc (by
        obtain ⟨hun, o, ho, hdep⟩ := mem_ready.1 hj
        have hol : l[j]? = some o := by simpa using ho
        have hjl : j < l.length := (List.getElem?_eq_some_iff.1 hol).1
        have hb := hlate
        unfold lateB at hb
        rw [Bool.and_eq_true] at hb
        have hb2 := List.all_eq_true.1 hb.2 j (List.mem_range.2 hjl)
        simp only [hol, Bool.or_eq_true, decide_eq_true_eq, Bool.and_eq_true] at hb2
        obtain ⟨⟨-, -⟩, hed⟩ := hb2.resolve_left (by omega)
        have hjn' : j = n := by
          rcases Nat.lt_or_ge n j with h' | h'
          · rw [if_neg (by simp; omega)] at hed
            have h2 := hasEdge_listed hed hdep
            rw [hu (j - 1) (by omega)] at h2; cases h2
          · omega
        rw [if_pos (by simp [hjn'])] at hed
        intro i hi hiO
        have h3 := List.all_eq_true.1 hed i (List.mem_range.2 hi)
        rw [Bool.or_eq_true] at h3
        rcases h3 with h3 | h3
        · exact absurd (List.contains_iff_mem.1 h3) hiO
        · exact hasEdge_listed h3 hdep)
      exact hall.2 j hj
/-- A region whose order is open, with stores at its end and operations that may come behind them. -/
theorem wp_region_inv_late {id : Nat} (n : Nat) (ds : List (Option Tmp)) (As : List (Asrt B)) (O : List (Nat × Value)) (hds : l.map (·.dst) = ds) (hm : P.follows .mixedOrders = true) (hd : dstsOk l.toArray a0.tmps.size = true) (he : edgesOk l.toArray = true) (hlate : lateB l n (O.map (·.1)) = true) (hn : n < l.length) (hAs : LateEqs As O)
    (hB : B ≤ w0.heap.size) (hs : StepsH P ds (ds.take n) As a0 w0 0 (l.take n))
    (h : ∀ (v : Nat → Value) w', Grow B w0 w' → AllG (l.take n) As v 0 w' → ∃ I, LateRuns P I l (putAll (l.take n) v 0 a0).eval O ∧ wpListI P l.toArray I Q (l.drop n) (putAll (l.take n) v 0 a0) w') : (Code.region id l.toArray true).wp P Q a0 w0 := by
  refine wp_region_any hm ?_
  change wpAny P .any l.toArray Q l.toArray.size (Array.replicate l.toArray.size false) a0 w0.drew
  refine wpAny_headL hds hd hlate he hn hAs (fun i o hin ho => by have := stepsH_get (l.take n) 0 hs i o (by rw [List.getElem?_take, if_pos hin]; exact ho); simpa using this) h _ _ _ _ ⟨Grow.drew hB, rfl, rfl, by simp, ?_, fun _ _ => rfl, ?_⟩ (fun i _ => getD_replicate_false _ _) ?_
  · intro i o d _ hl; simp [Array.getElem?_replicate] at hl; split at hl <;> cases hl
  · intro i o _ hl; simp [Array.getElem?_replicate] at hl; split at hl <;> cases hl
  · have := List.countP_le_length (p := fun i => (Array.replicate l.toArray.size false).getD i false == false) (l := List.range l.length)
    simpa using this
end
end Go.Proofs.YteogcilnpkaplaaDoor

namespace Go.Proofs.YteogcilnpkaplaaDoor
open Go.RowKit
section
variable {P : Program} {Q : Exit → Act → World → Prop} {n : Nat} {l : Option Nat}
/-- The wide fence, in a round or in none. -/
abbrev RF (l : Option Nat) : Fence := { Fence.wide with round := l }
def noDefer (o : Oper) : Bool := match o.op with | .defer _ => false | _ => true
theorem noDefer_spec {o : Oper} (h : noDefer o = true) : ∀ c, o.op ≠ .defer c := fun c hc => by unfold noDefer at h; rw [hc] at h; cases h
theorem depthW : (RF l).depth.isSome = true → 1 ≤ n := fun h => by cases h
theorem operIn_of {o : Oper} {a : Act} {w : World} {K : Act → World → Prop} (hd : noDefer o = true) (h : o.wp P a w K Q) : o.wpIn (RF l) n P a w K Q := by
  refine ⟨fun _ _ => trivial, ?_⟩
  rw [show Oper.semAt (RF l).round a.eval o = execOp a.eval o from by cases l with | none => simp [Oper.semAt] | some l => exact Oper.semAt_some l _ _ (noDefer_spec hd)]
  unfold Oper.wp at h
  generalize (execOp a.eval o).run P w = r at *
  cases r with
  | ok nx w' =>
    cases nx with
    | value v => exact h
    | skip => exact h
    | defer d => exact h
    | enter f args => exact ⟨depthW, (show CallsIn Fence.wide (n - 1) P f args w' _ from callsIn_wide.2 h)⟩
    | row row args =>
      exact ⟨depthW, fun c cs _ => by obtain ⟨v, w2, hr, hs⟩ := h c cs; exact ⟨v, w2, hr, stepsIn_wide.2 hs⟩⟩
    | _ => exact h.elim
  | halt x w' =>
    cases x with
    | panic v => exact h
    | _ => exact h.elim
theorem wpOpIn_of {ops : Array Oper} {i : Nat} {K : Act → World → Prop} {a : Act} {w : World} (hd : ∀ o ∈ ops, noDefer o = true) (hout : ¬ LetsOut Q) (h : wpOp P ops Q i K a w) : wpOpIn (RF l) n P ops Q i K a w := by
  unfold wpOp at h
  unfold wpOpIn
  cases ho : ops[i]? with
  | none => simp only [ho] at h ⊢; exact h
  | some o =>
    simp only [ho] at h ⊢
    by_cases hw : Region.wanted o (yielded ops a.tmps) = true
    · rw [if_pos hw] at h ⊢
      rcases h with h | ⟨_, h⟩
      · exact operIn_of (hd o (Array.mem_of_getElem? ho)) h
      · exact absurd h hout
    · rw [if_neg hw] at h ⊢
      exact ⟨fun _ _ => trivial, h⟩
theorem wpAnyIn_of {ops : Array Oper} {md : Region.Mode} (hd : ∀ o ∈ ops, noDefer o = true) (hout : ¬ LetsOut Q) : ∀ (fuel : Nat) (listed : Array Bool) (a : Act) (w : World), wpAny P md ops Q fuel listed a w → wpAnyIn (RF l) n P md ops Q fuel listed a w
  | 0, _, _, _, h => h
  | fuel + 1, _, _, _, h => ⟨h.1, fun i hi => wpOpIn_of hd hout (wpOp_mono (fun a' w' h' => wpAnyIn_of hd hout fuel _ a' w' h') (h.2 i hi))⟩
theorem wpListIn_of {ops : Array Oper} (hout : ¬ LetsOut Q) : ∀ (k : List Oper) (a : Act) (w : World), (∀ o ∈ k, noDefer o = true) → wpList P ops Q k a w → wpListIn (RF l) n P ops Q k a w
  | [], _, _, _, h => h
  | o :: k, a, w, hd, h => by
    unfold wpList at h
    unfold wpListIn
    by_cases hw : Region.wanted o (yielded ops a.tmps) = true
    · rw [if_pos hw] at h ⊢
      rcases h with h | ⟨_, h⟩
      · exact operIn_of (hd o (by simp)) (Oper.wp_mono (fun a' w' h' => wpListIn_of hout k a' w' (fun o' ho' => hd o' (by simp [ho'])) h') h)
      · exact absurd h hout
    · rw [if_neg hw] at h ⊢
      exact ⟨fun _ _ => trivial, wpListIn_of hout k _ _ (fun o' ho' => hd o' (by simp [ho'])) h⟩
theorem regionIn_list {id : Nat} {k : List Oper} {a : Act} {w : World} (hd : k.all noDefer = true) (hout : ¬ LetsOut Q) (h : wpList P k.toArray Q k a w) : (Code.region id k.toArray false).wpIn (RF l) n P Q a w :=
  wpIn_region_lit (wpListIn_of hout k a w (fun o ho => List.all_eq_true.1 hd o ho) h)
theorem regionIn_any {id : Nat} {k : List Oper} {a : Act} {w : World} (hm : P.follows .mixedOrders = true) (hd : k.all noDefer = true) (hout : ¬ LetsOut Q) (h : wpAny P .any k.toArray Q k.toArray.size (Array.replicate k.toArray.size false) a w.drew) : (Code.region id k.toArray true).wpIn (RF l) n P Q a w :=
  wpIn_region_any hm (wpAnyIn_of (fun o ho => List.all_eq_true.1 hd o (by simpa using ho)) hout _ _ _ _ h)
end
section
variable {P : Program} {B : Nat} {As : List (Asrt B)} {a0 : Act} {w0 : World}
/-- The drawn region of Inv2, ahead of what makes it a statement's walk. -/
theorem any_inv_tail {l : List Oper} {Q : Exit → Act → World → Prop} (n : Nat) (ds : List (Option Tmp)) (As : List (Asrt B)) (hds : l.map (·.dst) = ds) (hd : dstsOk l.toArray a0.tmps.size = true) (he : edgesOk l.toArray = true)
    (hsk : Region.sinkB .any l.toArray n = true) (hch : Region.chainB .any l.toArray n = true) (hn : n < l.length) (hsq : Region.seqB .any l.toArray (l.length - n) n ((List.range l.length).map fun i => decide (i < n)).toArray = true)
    (hB : B ≤ w0.heap.size) (hs : StepsH P ds (ds.take n) As a0 w0 0 (l.take n)) (h : ∀ (v : Nat → Value) w', Grow B w0 w' → AllG (l.take n) As v 0 w' → wpList P l.toArray Q (l.drop n) (putAll (l.take n) v 0 a0) w') : wpAny P .any l.toArray Q l.toArray.size (Array.replicate l.toArray.size false) a0 w0.drew := by
  have hinit : InvG l.toArray As a0 w0 (Array.replicate l.toArray.size false) a0 w0.drew := by
    refine ⟨Grow.drew hB, rfl, rfl, by simp, ?_, fun _ _ => rfl, ?_⟩
    · intro i o d _ hl; simp [Array.getElem?_replicate] at hl; split at hl <;> cases hl
    · intro i o _ hl; simp [Array.getElem?_replicate] at hl; split at hl <;> cases hl
  have hdl : (l.drop n).length = l.length - n := by simp
  refine wpAny_head hds hd he hsk hch hn (fun i o hin ho => by have := stepsH_get (l.take n) 0 hs i o (by rw [List.getElem?_take, if_pos hin]; exact ho); simpa using this) ?_ n _ _ _ _ hinit (fun i _ => getD_replicate_false _ _) ?_ (by simp; omega)
  · intro listed a w fuel hI hl hu hf
    have hlist : listed = ((List.range l.length).map fun i => decide (i < n)).toArray := by
      apply Array.ext
      · rw [hI.lsize]; simp
      · intro i h1 h2
        have hi : i < l.length := by simpa using h2
        have e : listed[i] = listed.getD i false := by simp [h1]
        rw [e]
        simp only [List.getElem_toArray, List.getElem_map, List.getElem_range]
        by_cases hin : i < n
        · rw [hl i hin, decide_eq_true hin]
        · rw [hu i (by omega), decide_eq_false hin]
    refine wpAny_of_seq_ge (l.drop n) fuel n listed a w (by rw [hdl]; exact hf) (fun j => by simp [List.getElem?_drop]) (by rw [hdl, hlist]; exact hsq) ?_
    exact inv_head (R := fun a w => wpList P l.toArray Q (l.drop n) a w) hd h listed a w hI (fun i hi _ => hl i hi) hu
  · have := List.countP_le_length (p := fun i => (Array.replicate l.toArray.size false).getD i false == false) (l := List.range n)
    simpa using this
/-- .. in a round. -/
theorem wpIn_region_inv_tail {id m : Nat} {r : Option Nat} {l : List Oper} {Q : Exit → Act → World → Prop} (n : Nat) (ds : List (Option Tmp)) (As : List (Asrt B)) (hds : l.map (·.dst) = ds) (hm : P.follows .mixedOrders = true) (hnd : l.all noDefer = true) (hout : ¬ LetsOut Q) (hd : dstsOk l.toArray a0.tmps.size = true) (he : edgesOk l.toArray = true)
    (hsk : Region.sinkB .any l.toArray n = true) (hch : Region.chainB .any l.toArray n = true) (hn : n < l.length) (hsq : Region.seqB .any l.toArray (l.length - n) n ((List.range l.length).map fun i => decide (i < n)).toArray = true)
    (hB : B ≤ w0.heap.size) (hs : StepsH P ds (ds.take n) As a0 w0 0 (l.take n)) (h : ∀ (v : Nat → Value) w', Grow B w0 w' → AllG (l.take n) As v 0 w' → wpList P l.toArray Q (l.drop n) (putAll (l.take n) v 0 a0) w') : (Code.region id l.toArray true).wpIn (RF r) m P Q a0 w0 :=
  regionIn_any hm hnd hout (any_inv_tail n ds As hds hd he hsk hch hn hsq hB hs h)
end
end Go.Proofs.YteogcilnpkaplaaDoor

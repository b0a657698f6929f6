/- Merged: Path returns what the plain function says. No conditions of its own beyond those that each law states. -/
import Derived.Test.YteogcilnpkaplaaDoorM4
import Derived.Test.YteogcilnpkaplaaDoorM8
import Derived.Test.YteogcilnpkaplaaDoorM6
import Derived.RangeFuncSeq
import Derived.LoopIn
import Derived.Test.YteogcilnpkaplaaDoorM7
namespace Go.Proofs.YteogcilnpkaplaaDoor
open Go.RowKit
def rowsK : Nat → List Dg → List (List Dg)
  | 0, l => [l]
  | k + 1, l => l :: rowsK k (up l)
theorem up_32 (l : List Dg) : all32 (up l) := all32_range fun _ _ => pairOf_len _ _
/-- A list of n digests of which the first i are written. -/
def fRow (x : Nat → List UInt8) (n i : Nat) : List UInt8 := ((List.range i).map x).flatten ++ List.replicate ((n - i) * 32) 0
theorem fRow_flat (x : Nat → List UInt8) (n i : Nat) (hx : ∀ i, i < n → (x i).length = 32) (hi : i ≤ n) : ((List.range i).map x).flatten.length = i * 32 := by
  rw [flat_len _ (all32_range fun j hj => hx j (by omega)), List.length_map, List.length_range, Nat.mul_comm]
theorem fRow_len (x : Nat → List UInt8) (n i : Nat) (hx : ∀ i, i < n → (x i).length = 32) (hi : i ≤ n) : (fRow x n i).length = n * 32 := by
  unfold fRow
  rw [List.length_append, fRow_flat x n i hx hi, List.length_replicate, ← Nat.add_mul]; congr 1; omega
theorem fRow_splice (x : Nat → List UInt8) (n i : Nat) (hx : ∀ i, i < n → (x i).length = 32) (hi : i < n) : splice (fRow x n i) (i * 32) (x i) = fRow x n (i + 1) := by
  have hf := fRow_flat x n i hx (by omega)
  unfold splice fRow
  rw [← hf, List.take_left, hx i hi, List.range_succ, List.map_append, List.flatten_append, List.drop_append, List.drop_eq_nil_of_le (by omega), List.nil_append, Nat.add_sub_cancel_left, List.drop_replicate]
  rw [show (n - i) * 32 - 32 = (n - (i + 1)) * 32 by omega]
  simp
def upAt (l : List Dg) (i : Nat) : Dg := pairOf (l.getD (2 * i) []) (l.getD (2 * i + 1) [])
theorem fRow_up (l : List Dg) : fRow (upAt l) (l.length / 2) (l.length / 2) = (up l).flatten := by unfold fRow up; simp; rfl
/-- What is a round's own: blocks of the caller's, and those from base on. -/
def own (O : Nat → Prop) (base m k : Nat) : Prop := O k ∨ (base ≤ k ∧ k < m)
structure Kept (X : Nat → Prop) (W W' : World) : Prop where
  os : W'.os = W.os
  tape : W'.tape = W.tape
  output : W'.output = W.output
  size : W.heap.size ≤ W'.heap.size
  block : ∀ k, k < W.heap.size → ¬ X k → W'.heap[k]? = W.heap[k]?
def Apart (X : Nat → Prop) (v : Value) : Prop := ∀ b o n c, v = .slice (some ⟨b, o, none⟩) n c → ¬ X b
theorem Kept.row {X : Nat → Prop} {W W' : World} {b : Nat} {t : TypeId} {cs : Array Value} (h : Kept X W W') (hr : Row W b t cs) (hx : ¬ X b) : Row W' b t cs := (h.block b hr.lt hx).trans hr
theorem Kept.cell {X : Nat → Prop} {W W' : World} (h : Kept X W W') {b : Nat} (hb : b < W.heap.size) (hx : ¬ X b) (o : Nat) : W'.cell? ⟨b, o, none⟩ = W.cell? ⟨b, o, none⟩ := World.cell?_of_block (w := W) (a := ⟨b, o, none⟩) (h.block b hb hx)
theorem Kept.digs {X : Nat → Prop} {W W' : World} {v : Value} {xs : List Dg} (h : Kept X W W') (hd : Digs W v xs) (hx : Apart X v) : Digs W' v xs := by
  obtain ⟨a, cap, rfl, hc0, hc1, ha | ⟨b, off, rfl, hat⟩⟩ := hd
  · exact ⟨_, _, rfl, hc0, hc1, .inl ha⟩
  · exact ⟨_, _, rfl, hc0, hc1, .inr ⟨b, off, rfl, fun i hi => (h.cell (block_lt_of_cell (hat i hi)) (hx _ _ _ _ rfl) _).trans (hat i hi)⟩⟩
theorem Kept.kfact {X : Nat → Prop} {W W' : World} (h : Kept X W W') (hK : KFact W) (hx : ¬ X 1) : KFact W' := fun t ht => (h.cell hK.lt hx t).trans (hK t ht)
def lenAt : Option Value → Nat
  | some (.slice _ n _) => n
  | _ => 0
theorem digs_block {w : World} {a : Option Addr} {n cap : Nat} {xs : List Dg} (h : Digs w (.slice a n cap) xs) (h32 : all32 xs) {b o : Nat} (ha : a = some ⟨b, o, none⟩) (hn : 0 < xs.length) : b < w.heap.size := by
  obtain ⟨a', cap', he, hc0, hc1, ⟨h0, _⟩ | ⟨b', off, rfl, hat⟩⟩ := h
  · subst h0; simp at hn
  · obtain ⟨rfl, rfl, rfl⟩ := Value.slice.inj he
    cases ha
    have := hat 0 (by rw [flat_len xs h32]; omega)
    exact block_lt_of_cell this
theorem enters_rows1 : ∀ (args : Array Value) (w : World), (callFunc 50 args).run Tryd.prog w = .ok (.enter 50 args) w := enters_of Tryd.func50 (by kernel_rfl) rfl
theorem rows_any (a : Option Addr) (n c : Nat) (w : World) : Calls Tryd.prog 31 #[.slice a n c] w fun e w' => e = .returned (.func (.func 50) #[] #[.pointer (some ⟨w.heap.size, 0, none⟩)]) ∧ w' = w.alloc (.cells #[.slice a n c] 29) := by
  go_enter Tryd.func31, Tryd.ntmps31
  go_wp2
  go_ret
  exact ⟨rfl, rfl⟩
theorem pow_div2 {n k : Nat} (h : n = 2 ^ k) (h1 : 1 < n) : ∃ j, k = j + 1 ∧ n / 2 = 2 ^ j ∧ n = 2 * 2 ^ j := by
  cases k with
  | zero => simp at h; omega
  | succ j => exact ⟨j, rfl, by rw [h, Nat.pow_succ]; omega, by rw [h, Nat.pow_succ]; omega⟩
/-- A part of a code: the way to it, 0 and 1 at a sequence or a condition, 0 at a block and at a loop. -/
def subCode : Code → List Nat → Code
  | .seq x _, 0 :: p => subCode x p
  | .seq _ y, _ :: p => subCode y p
  | .cond _ x _, 0 :: p => subCode x p
  | .cond _ _ y, _ :: p => subCode y p
  | .block _ x, _ :: p => subCode x p
  | .loop x, _ :: p => subCode x p
  | .rangeFunc _ _ x _, 0 :: p => subCode x p
  | .rangeFunc _ _ _ y, _ :: p => subCode y p
  | c, _ => c
def bodyOf (f : Func) : Code := f.body.getD .skip
set_option maxRecDepth 10000 in
set_option maxHeartbeats 4000000 in
/-- A row from the row below it: the block that makes it and puts it into the box. -/
theorem up_block (bs sb so kv : Nat) (xs : List Dg) (w : World) (Q : Exit → Act → World → Prop) (t0 t2 u3 u4 u5 u6 u7 u8 u9 u10 u11 u12 u13 u14 u15 u16 u17 u18 u19 u20 u21 u22 u23 u24 u25 u26 u27 u28 u29 u30 u31 u32 u33 u34 u35 u36 u37 u38 : Value) (h32 : all32 xs) (hn : 1 < xs.length) (h64 : xs.length ≤ 64) (hev : xs.length % 2 = 0)
    (hbox : Row w bs 29 #[.slice (some ⟨sb, so, none⟩) xs.length kv]) (hk1 : xs.length ≤ kv) (hk2 : kv ≤ 9223372036854775807) (hat : BytesAt w sb so xs.flatten) (hK : KFact w)
    (hQ : ∀ (ab : Nat) (w' : World) (x3 x4 x13 x14 x15 x16 x17 x18 x19 x20 x21 x22 x23 x24 x25 x26 x27 x28 x29 x30 x31 x32 x33 x34 x35 x36 x37 x38 : Value), w.grownBy w' (some bs) → Row w' bs 29 #[.slice (some ⟨ab, 0, none⟩) (xs.length / 2) (xs.length / 2)] → w.heap.size ≤ ab → Digs w' (.slice (some ⟨ab, 0, none⟩) (xs.length / 2) (xs.length / 2)) (up xs) → Q .normal { tmps := #[t0, .pointer (some ⟨bs, 0, none⟩), t2, x3, x4, u5, u6, u7, u8, u9, u10, u11, u12, x13, x14, x15, x16, x17, x18, x19, x20, x21, x22, x23, x24, x25, x26, x27, x28, x29, x30, x31, x32, x33, x34, x35, x36, x37, x38], defers := [] } w') :
    (subCode (bodyOf Tryd.f50) [0, 0, 1]).wp Tryd.prog Q { tmps := #[t0, .pointer (some ⟨bs, 0, none⟩), t2, u3, u4, u5, u6, u7, u8, u9, u10, u11, u12, u13, u14, u15, u16, u17, u18, u19, u20, u21, u22, u23, u24, u25, u26, u27, u28, u29, u30, u31, u32, u33, u34, u35, u36, u37, u38], defers := [] } w := by
  show Code.wp _ (Code.block 1 _) _ _ _
  obtain ⟨n2, hn2⟩ : ∃ n2, xs.length / 2 = n2 := ⟨_, rfl⟩
  have hq2 : (xs.length : Int) / 2 = (n2 : Int) := by omega
  have HQ2 := Lib.hid hq2
  have HN2 := Lib.hid hn2
  rw [hn2] at hQ
  have hn32 : n2 ≤ 32 := by omega
  have H2N : Hid (xs.length = 2 * n2) := Lib.hid (by omega)
  have hbox0 := hbox
  have hsb0 : sb < w.heap.size := digs_block (w := w) (a := some ⟨sb, so, none⟩) (n := xs.length) (cap := kv) ⟨_, _, rfl, hk1, hk2, .inr ⟨_, _, rfl, hat⟩⟩ h32 rfl (by omega)
  have hc : w.cell? ⟨bs, 0, none⟩ = some (.slice (some ⟨sb, so, none⟩) xs.length kv) := hbox.cell 0
  clear hq2 hn2 hev
  go_wp2_with (refine wpList_make_digs rfl _ _ rfl n2 (by show Value.int _ _ = _; rw [HQ2.out]) (by show Value.int _ _ = _; rw [HQ2.out]) (by omega) ?_; intro w4 hr4 hb4 hz4)
  have hr4' : Row w4 w.heap.size 25 (cellsB (fRow (upAt xs) n2 0)) := by
    have e : fRow (upAt xs) n2 0 = List.replicate (n2 * 32) 0 := by unfold fRow; simp
    rw [e]; exact hr4
  clear hr4 hc hbox
  have hbsl : bs < w.heap.size := hbox0.lt
  go_loopw [19] (fun t wr => ∃ i : Nat, i ≤ n2 ∧ t = .int .i64 (i : Int) ∧ Row wr w.heap.size 25 (cellsB (fRow (upAt xs) n2 i)) ∧ Below w.heap.size w wr) (fun t _ => n2 - (intOf t).toNat)
  case atStart => exact ⟨0, by omega, rfl, hr4', hb4⟩
  case round =>
    clear hr4' hb4 hz4
    obtain ⟨i, hi, rfl, hr, hb⟩ := hrel
    have hbox := hbox0.below hb hbsl
    have hc : wr.cell? ⟨bs, 0, none⟩ = some (.slice (some ⟨sb, so, none⟩) xs.length kv) := hbox.cell 0
    by_cases hlt : i < n2
    · have HE := Lib.hid (fRow_len (upAt xs) n2 i (fun _ _ => pairOf_len _ _) hi)
      have HS := Lib.hid (fRow_splice (upAt xs) n2 i (fun _ _ => pairOf_len _ _) hlt)
      obtain ⟨e, he⟩ : ∃ e, 2 * i = e := ⟨_, rfl⟩
      obtain ⟨e1, he1⟩ : ∃ e1, e + 1 = e1 := ⟨_, rfl⟩
      have hxe := H2N.out
      have hw2 : IntKind.i64.wrap (2 * (i : Int)) = (e : Int) := by rw [← he]; exact (IntWalk.i64_in _ (by omega)).trans (by omega)
      have hw1 : IntKind.i64.wrap ((e : Int) + 1) = (e1 : Int) := by rw [← he1]; exact (IntWalk.i64_in _ (by omega)).trans (by omega)
      have hel : e < xs.length := by omega
      have hel1 : e1 < xs.length := by omega
      have hce := (hat.elem h32 e hel)
      have hce1 := (hat.elem h32 e1 hel1)
      have hxl := Lib.hid (all32_getD h32 e hel)
      have hyl := Lib.hid (all32_getD h32 e1 hel1)
      have HU : Hid (upAt xs i = pairOf (xs.getD e []) (xs.getD e1 [])) := Lib.hid (by unfold upAt; rw [← he1, ← he])
      have hsbl : sb < w.heap.size := hsb0
      have hce2 : wr.rangeAt sb (so + e * 32) ((xs.getD e []).map B8) := fun j v hv => (hb.cell (p := ⟨sb, _, none⟩) hsbl).trans (hce j v hv)
      have hce3 : wr.rangeAt sb (so + e1 * 32) ((xs.getD e1 []).map B8) := fun j v hv => (hb.cell (p := ⟨sb, _, none⟩) hsbl).trans (hce1 j v hv)
      have hK1 := hK.below hb hK.lt
      have hkl1 := hK1.lt
      have H1E := Lib.hid he1
      clear hxe he he1 hce hce1
      generalize xs.getD e [] = x at *
      generalize xs.getD e1 [] = y at *
      generalize hR5 : Code.region 5 _ _ = R5
      have HR5 := Lib.hid hR5
      clear hR5
      go_wp2
      rw [← HR5.out]
      clear HR5
      obtain ⟨B, eB⟩ : ∃ B, wr.heap.size = B := ⟨_, rfl⟩
      have hcc := hc
      refine wp_gen fun a0 ha0 => ?_
      have i1 : a0.eval (.tmp 1) = .pointer (some ⟨bs, 0, none⟩) := by rw [ha0]; rfl
      have i3 : a0.eval (.tmp 3) = .slice (some ⟨w.heap.size, 0, none⟩) n2 n2 := by rw [ha0]; rfl
      have i4 : a0.eval (.tmp 4) = .int .i64 (i : Int) := by rw [ha0]; rfl
      have hsz : a0.tmps.size = 39 := by rw [ha0]; rfl
      refine wp_region_inv_tail (B := B) 14 [some 22, some 23, some 24, some 25, some 26, some 27, some 28, some 29, some 30, some 31, some 32, some 33, some 34, some 35, some 36, none] [Asrt.eq (.slice (some ⟨w.heap.size, 0, none⟩) n2 n2), Asrt.eq (.int .i64 (i : Int)), Asrt.eq (.slice (some ⟨sb, so, none⟩) xs.length kv), Asrt.eq (.int .i64 (i : Int)), Asrt.eq (.int .i64 (e : Int)), Asrt.eq (.pointer (some ⟨sb, so + e * 32, none⟩)), Asrt.eq (.agg (cellsB (x))), Asrt.eq (.slice (some ⟨sb, so, none⟩) xs.length kv), Asrt.eq (.int .i64 (i : Int)), Asrt.eq (.int .i64 (e : Int)), Asrt.eq (.int .i64 (e1 : Int)), Asrt.eq (.pointer (some ⟨sb, so + e1 * 32, none⟩)), Asrt.eq (.agg (cellsB (y))), Asrt.eq (.agg (cellsB (pairOf x y)))] rfl (by as_aux_lemma => kernel_rfl) (by rw [hsz]; as_aux_lemma => kernel_rfl) (by as_aux_lemma => kernel_rfl) (by as_aux_lemma => kernel_rfl) (by as_aux_lemma => kernel_rfl) (by decide) (by as_aux_lemma => kernel_rfl) (by omega) ⟨?_, ?_, ?_, ?_, ?_, ?_, ?_, ?_, ?_, ?_, ?_, ?_, ?_, ?_, trivial⟩ ?_
      · as_aux_lemma =>
          intro ev w1 hg hin hc hgl hfn hd
          have hB := hg.top
          have g3 : ev (.tmp 3) = .slice (some ⟨w.heap.size, 0, none⟩) n2 n2 := (hin 3 (by kernel_rfl)).trans i3
          clear hin hd
          refine step_on (guard_none rfl) fun K hK => ?_
          unfold YieldsG
          go_simp
          exact hK _ _ rfl (Grow.refl hB)
      · as_aux_lemma =>
          intro ev w1 hg hin hc hgl hfn hd
          have hB := hg.top
          have g4 : ev (.tmp 4) = .int .i64 (i : Int) := (hin 4 (by kernel_rfl)).trans i4
          clear hin hd
          refine step_on (guard_none rfl) fun K hK => ?_
          unfold YieldsG
          go_simp
          exact hK _ _ rfl (Grow.refl hB)
      · as_aux_lemma =>
          intro ev w1 hg hin hc hgl hfn hd
          have hB := hg.top
          have g1 : ev (.tmp 1) = .pointer (some ⟨bs, 0, none⟩) := (hin 1 (by kernel_rfl)).trans i1
          clear hin hd
          refine step_on (guard_none rfl) fun K hK => ?_
          have hc1 := hg.cell hcc
          unfold YieldsG
          go_simp
          exact hK _ _ rfl (Grow.refl hB)
      · as_aux_lemma =>
          intro ev w1 hg hin hc hgl hfn hd
          have hB := hg.top
          have g4 : ev (.tmp 4) = .int .i64 (i : Int) := (hin 4 (by kernel_rfl)).trans i4
          clear hin hd
          refine step_on (guard_none rfl) fun K hK => ?_
          unfold YieldsG
          go_simp
          exact hK _ _ rfl (Grow.refl hB)
      · as_aux_lemma =>
          intro ev w1 hg hin hc hgl hfn hd
          have hB := hg.top
          have f25 : (ev (.tmp 25)) = .int .i64 (i : Int) := hd.1 rfl _ rfl
          clear hin hd
          refine step_on (guard_none rfl) fun K hK => ?_
          unfold YieldsG
          go_simp
          exact hK _ _ rfl (Grow.refl hB)
      · as_aux_lemma =>
          intro ev w1 hg hin hc hgl hfn hd
          have hB := hg.top
          have f24 : (ev (.tmp 24)) = .slice (some ⟨sb, so, none⟩) xs.length kv := hd.1 rfl _ rfl
          have f26 : (ev (.tmp 26)) = .int .i64 (e : Int) := hd.2.1 rfl _ rfl
          clear hin hd
          refine step_on (guard_none rfl) fun K hK => ?_
          unfold YieldsG
          go_simp
          exact hK _ _ rfl (Grow.refl hB)
      · as_aux_lemma =>
          intro ev w1 hg hin hc hgl hfn hd
          have hB := hg.top
          have f27 : (ev (.tmp 27)) = .pointer (some ⟨sb, so + e * 32, none⟩) := hd.1 rfl _ rfl
          clear hin hd
          refine step_on (guard_none rfl) fun K hK => ?_
          refine yg_load_mid 25 (.tmp 27) rfl sb (so + e * 32) f27 (x.map B8) _ (range_below hce2 (by rw [eB]; exact hg.bl)) Tryd.underD rfl (by rw [List.length_map, hxl.out]; exact Tryd.sizeD) ?_
          exact hK _ _ rfl (Grow.refl hB)
      · as_aux_lemma =>
          intro ev w1 hg hin hc hgl hfn hd
          have hB := hg.top
          have g1 : ev (.tmp 1) = .pointer (some ⟨bs, 0, none⟩) := (hin 1 (by kernel_rfl)).trans i1
          clear hin hd
          refine step_on (guard_none rfl) fun K hK => ?_
          have hc1 := hg.cell hcc
          unfold YieldsG
          go_simp
          exact hK _ _ rfl (Grow.refl hB)
      · as_aux_lemma =>
          intro ev w1 hg hin hc hgl hfn hd
          have hB := hg.top
          have g4 : ev (.tmp 4) = .int .i64 (i : Int) := (hin 4 (by kernel_rfl)).trans i4
          clear hin hd
          refine step_on (guard_none rfl) fun K hK => ?_
          unfold YieldsG
          go_simp
          exact hK _ _ rfl (Grow.refl hB)
      · as_aux_lemma =>
          intro ev w1 hg hin hc hgl hfn hd
          have hB := hg.top
          have f30 : (ev (.tmp 30)) = .int .i64 (i : Int) := hd.1 rfl _ rfl
          clear hin hd
          refine step_on (guard_none rfl) fun K hK => ?_
          unfold YieldsG
          go_simp
          exact hK _ _ rfl (Grow.refl hB)
      · as_aux_lemma =>
          intro ev w1 hg hin hc hgl hfn hd
          have hB := hg.top
          have f31 : (ev (.tmp 31)) = .int .i64 (e : Int) := hd.1 rfl _ rfl
          clear hin hd
          refine step_on (guard_none rfl) fun K hK => ?_
          unfold YieldsG
          go_simp
          exact hK _ _ rfl (Grow.refl hB)
      · as_aux_lemma =>
          intro ev w1 hg hin hc hgl hfn hd
          have hB := hg.top
          have f29 : (ev (.tmp 29)) = .slice (some ⟨sb, so, none⟩) xs.length kv := hd.1 rfl _ rfl
          have f32 : (ev (.tmp 32)) = .int .i64 (e1 : Int) := hd.2.1 rfl _ rfl
          clear hin hd
          refine step_on (guard_none rfl) fun K hK => ?_
          unfold YieldsG
          go_simp
          exact hK _ _ rfl (Grow.refl hB)
      · as_aux_lemma =>
          intro ev w1 hg hin hc hgl hfn hd
          have hB := hg.top
          have f33 : (ev (.tmp 33)) = .pointer (some ⟨sb, so + e1 * 32, none⟩) := hd.1 rfl _ rfl
          clear hin hd
          refine step_on (guard_none rfl) fun K hK => ?_
          refine yg_load_mid 25 (.tmp 33) rfl sb (so + e1 * 32) f33 (y.map B8) _ (range_below hce3 (by rw [eB]; exact hg.bl)) Tryd.underD rfl (by rw [List.length_map, hyl.out]; exact Tryd.sizeD) ?_
          exact hK _ _ rfl (Grow.refl hB)
      · as_aux_lemma =>
          intro ev w1 hg hin hc hgl hfn hd
          have hB := hg.top
          have f28 : (ev (.tmp 28)) = .agg (cellsB (x)) := hd.1 rfl _ rfl
          have f34 : (ev (.tmp 34)) = .agg (cellsB (y)) := hd.2.1 rfl _ rfl
          clear hin hd
          refine step_on (guard_none rfl) fun K hK => ?_
          unfold YieldsG
          go_simp
          refine (pair_any x y w1 hxl.out hyl.out (hK1.below hg.bl (by omega))).mono ?_
          rintro e w2 ⟨rfl, hb⟩
          exact ⟨_, rfl, hK _ _ rfl (Grow.of hB hb)⟩
      intro v w2 hg hall
      have hf0 : (v 0) = .slice (some ⟨w.heap.size, 0, none⟩) n2 n2 := hall.1 (by simp)
      have hf1 : (v 1) = .int .i64 (i : Int) := hall.2.1 (by simp)
      have hf2 : (v 2) = .slice (some ⟨sb, so, none⟩) xs.length kv := hall.2.2.1 (by simp)
      have hf3 : (v 3) = .int .i64 (i : Int) := hall.2.2.2.1 (by simp)
      have hf4 : (v 4) = .int .i64 (e : Int) := hall.2.2.2.2.1 (by simp)
      have hf5 : (v 5) = .pointer (some ⟨sb, so + e * 32, none⟩) := hall.2.2.2.2.2.1 (by simp)
      have hf6 : (v 6) = .agg (cellsB (x)) := hall.2.2.2.2.2.2.1 (by simp)
      have hf7 : (v 7) = .slice (some ⟨sb, so, none⟩) xs.length kv := hall.2.2.2.2.2.2.2.1 (by simp)
      have hf8 : (v 8) = .int .i64 (i : Int) := hall.2.2.2.2.2.2.2.2.1 (by simp)
      have hf9 : (v 9) = .int .i64 (e : Int) := hall.2.2.2.2.2.2.2.2.2.1 (by simp)
      have hf10 : (v 10) = .int .i64 (e1 : Int) := hall.2.2.2.2.2.2.2.2.2.2.1 (by simp)
      have hf11 : (v 11) = .pointer (some ⟨sb, so + e1 * 32, none⟩) := hall.2.2.2.2.2.2.2.2.2.2.2.1 (by simp)
      have hf12 : (v 12) = .agg (cellsB (y)) := hall.2.2.2.2.2.2.2.2.2.2.2.2.1 (by simp)
      have hf13 : (v 13) = .agg (cellsB (pairOf x y)) := hall.2.2.2.2.2.2.2.2.2.2.2.2.2.1 (by simp)
      clear hall i1 i3 i4 hsz
      rw [ha0]
      clear ha0
      simp only [List.take_succ_cons, List.take_zero, List.drop_succ_cons, List.drop_zero, putAll, Act.put, List.setIfInBounds_toArray, List.set_cons_zero, List.set_cons_succ, Nat.zero_add, Nat.reduceAdd]
      rw [hf0, hf1, hf2, hf3, hf4, hf5, hf6, hf7, hf8, hf9, hf10, hf11, hf12, hf13]
      clear hf0 hf1 hf2 hf3 hf4 hf5 hf6 hf7 hf8 hf9 hf10 hf11 hf12 hf13
      have hr2 := hg.kept _ _ hr
      have hB2 : Below w.heap.size w w2 := hb.trans (hg.bl.mono (by rw [← eB]; exact hb.size))
      have HPL := Lib.hid (pairOf_len x y)
      clear hg hr hb eB hK1 hkl1 hce2 hce3 hbox hc hcc
      go_wp2_with (refine wpList_store_dig rfl (.tmp 36) (.tmp 35) rfl w.heap.size (i * 32) (by first | rfl | simp [Act.eval]) (pairOf x y) HPL.out rfl (fRow (upAt xs) n2 i) 25 hr2 (by rw [HE.out]; omega) ?_; intro w6 hg6 hr6 hz6)
      rw [← HU.out, HS.out] at hr6
      go_roundw
      case rel => exact ⟨i + 1, by omega, by go_num, hr6, hB2.grown hg6 hB2.size (fun k hk => by cases hk; exact Nat.le_refl _)⟩
      case measure => simp [intOf]; omega
    · obtain rfl : i = n2 := by omega
      have hf := hbox.free 0
      have HT := Lib.hid (fRow_up xs)
      have hl2 := up_len xs
      rw [HN2.out] at HT hl2
      rw [HT.out] at hr
      have HL2 := Lib.hid hl2
      clear hl2
      go_wp2
      have hset := hbox.set 0 (.slice (some ⟨w.heap.size, 0, none⟩) i i)
      refine hQ _ _ _ _ _ _ _ _ _ _ _ _ _ _ _ _ _ _ _ _ _ _ _ _ _ _ _ _ _ _ ?_ (by simpa using hset) (Nat.le_refl _) ?_
      · exact grown_setCell (grown_of_below hb _) 0 _
      · exact (hr.other ⟨bs, 0, none⟩ _ (by show w.heap.size ≠ bs; omega)).digs i HL2.out.symm (by omega)
end Go.Proofs.YteogcilnpkaplaaDoor

namespace Go.Proofs.YteogcilnpkaplaaDoor
open Go.RowKit
set_option maxRecDepth 10000 in
set_option maxHeartbeats 4000000 in
/-- A row from the row below it: the block that is one round's, walked. -/
theorem rows1_in (l bs base : Nat) (O : Nat → Prop) (k0 : Nat) (l0 : List Dg) (v0 : Value) (J : List (List Dg) → Nat → World → Prop) (W : World)
    (hlen : l0.length = 2 ^ k0) (hk0 : k0 ≤ 6) (h32 : all32 l0) (hv : Digs W v0 l0) (hbox : Row W bs 29 #[v0]) (hK : KFact W)
    (hOb : ¬ O bs) (hbb : bs < base) (hOk : ¬ O 1) (hkb : 1 < base) (hbk : bs ≠ 1) (hO : ∀ k, O k → k < base) (hbase : base ≤ W.heap.size) (hap : Apart (own O base W.heap.size) v0)
    (hJ : ∀ pre A A', J pre A.heap.size A → A.grownBy A' (some bs) → J pre A.heap.size A')
    (hY : ∀ pre m v xs rest W1, rowsK k0 l0 = pre ++ xs :: rest → J pre m W1 → base ≤ m → m ≤ W1.heap.size → Row W1 bs 29 #[v] → Digs W1 v xs → all32 xs → 0 < xs.length → Apart (own O base m) v → KFact W1 →
      YieldAt Fence.wide 0 Tryd.prog l #[v] W1 fun e W' => e = .returned (.bool true) ∧ J (pre ++ [xs]) W'.heap.size W' ∧ Kept (own O base m) W1 W')
    (h0 : J [] W.heap.size W) :
    CallsIn Fence.wide 0 Tryd.prog 50 #[.func (.yield l) #[] #[], .pointer (some ⟨bs, 0, none⟩)] W fun e W' => e = .returned (.tuple #[]) ∧ J (rowsK k0 l0) W'.heap.size W' := by
  refine callsIn_of_wp Tryd.func50 rfl trivial ?_
  simp only [Tryd.ntmps50, List.size_toArray, List.length_cons, List.length_nil, Nat.reduceAdd, Nat.reduceSub, Array.replicate_succ, Array.replicate_zero, List.push_toArray, List.append_toArray, List.nil_append, List.cons_append]
  have HY := Lib.hid hY
  have HJ := Lib.hid hJ
  clear hY hJ
  gi_wp2
  gi_loopw [3] (fun _ wr => ∃ pre k xs v m, rowsK k0 l0 = pre ++ rowsK k xs ∧ xs.length = 2 ^ k ∧ k ≤ 6 ∧ all32 xs ∧ Row wr bs 29 #[v] ∧ Digs wr v xs ∧ Apart (own O base m) v ∧ base ≤ m ∧ m ≤ wr.heap.size ∧ J pre m wr ∧ KFact wr) (fun _ wr => lenAt (wr.cell? ⟨bs, 0, none⟩))
  case atStart => exact ⟨[], k0, l0, v0, _, rfl, hlen, hk0, h32, hbox, hv, hap, hbase, Nat.le_refl _, h0, hK⟩
  case round =>
    clear hap hK h0 hbox hv h32 hk0 hlen hbase
    obtain ⟨pre, k, xs, v, m, hrows, hlen, hk6, h32, hbox, hv, hap, hbm, hm, hJm, hK⟩ := hrel
    generalize hB1 : Code.block 1 _ = B1
    have HB1 := Lib.hid hB1
    clear hB1
    have hpos : 0 < xs.length := by rw [hlen]; exact Nat.two_pow_pos _
    have hx64 : xs.length ≤ 64 := by
      rw [hlen]; exact (Nat.pow_le_pow_right (by omega) hk6 : 2 ^ k ≤ 2 ^ 6)
    obtain ⟨rest, hrest⟩ : ∃ rest, rowsK k xs = xs :: rest := by cases k <;> exact ⟨_, rfl⟩
    obtain ⟨av, kv, rfl⟩ := hv.form
    obtain ⟨fn, tmps, assign, body, hy, hR⟩ := HY.out pre m _ xs rest wr (by rw [hrows, hrest]) hJm hbm hm hbox hv h32 hpos hap hK
    have hc := hbox.cell 0
    have hc' : wr.cell? ⟨bs, 0, none⟩ = some (.slice av xs.length kv) := hc
    clear hc
    have hown : ¬ own O base m bs := fun h => h.elim hOb (fun h => by omega)
    have hownk : ¬ own O base m 1 := fun h => h.elim hOk (fun h => by omega)
    have HL := Lib.hid hlen
    have HP := Lib.hid hpos
    have HR := Lib.hid hrows
    have HX := Lib.hid hx64
    clear hlen hrows hpos hx64
    gi_wp2
    refine ⟨rfl, hR.mono ?_⟩
    rintro e W3 ⟨rfl, hJ3, hk3⟩
    have hbox3 := hk3.row hbox hown
    have hv3 := hk3.digs hv hap
    have hK3 := hk3.kfact hK hownk
    have hc3 : W3.cell? ⟨bs, 0, none⟩ = some (.slice av xs.length kv) := hbox3.cell 0
    have hpos := HP.out
    obtain ⟨sb, so, rfl, -, hk1, hk2, hat⟩ := hv3.at hpos
    have hat0 := hat 0 (by rw [flat_len xs h32]; omega)
    have hsbl := block_lt_of_cell hat0
    have hsb : bs ≠ sb := fun e => by
      subst e
      rw [hbox3.cell] at hat0
      rw [Nat.add_zero] at hat0
      cases so with
      | zero => cases hat0
      | succ n => simp at hat0
    clear hat0
    have hms : m ≤ W3.heap.size := Nat.le_trans hm hk3.size
    clear hy hR hJm hbox hv hK hap hk3 hm
    by_cases hn1 : 1 < xs.length
    · have hn1' : decide ((1 : Int) < (xs.length : Int)) = true := decide_eq_true (by omega)
      gi_wp2
      refine wpIn_wide.2 ?_
      rw [← HB1.out]
      clear HB1 hn1'
      obtain ⟨j, hj, hd2, hd1⟩ := pow_div2 HL.out hn1
      refine up_block bs sb so kv xs W3 _ _ _ _ _ _ _ _ _ _ _ _ _ _ _ _ _ _ _ _ _ _ _ _ _ _ _ _ _ _ _ _ _ _ _ _ _ _ _ h32 hn1 HX.out (by omega) hbox3 hk1 hk2 hat hK3 ?_
      intro ab w' x3 x4 x13 x14 x15 x16 x17 x18 x19 x20 x21 x22 x23 x24 x25 x26 x27 x28 x29 x30 x31 x32 x33 x34 x35 x36 x37 x38 hg hb' hab hd
      have HE : Hid (rowsK k0 l0 = (pre ++ [xs]) ++ rowsK j (up xs)) := by
        show _ = _
        rw [HR.out, hj]; simp [rowsK]
      have HU : Hid ((up xs).length = 2 ^ j) := Lib.hid (by rw [up_len]; exact hd2)
      have hz3 := hg.size
      have hj6 : j ≤ 6 := by omega
      have hJ4 := HJ.out _ _ _ hJ3 hg
      have hK4 : KFact w' := grown_KFact hK3 hg (Ne.symm hbk)
      have hm3 : base ≤ W3.heap.size := Nat.le_trans hbm hms
      have hap4 : Apart (own O base W3.heap.size) (.slice (some ⟨ab, 0, none⟩) (xs.length / 2) (xs.length / 2)) := fun b o n c e => by
        obtain ⟨e1, -, -⟩ := Value.slice.inj e
        cases e1
        rintro (h | h)
        · have := hO _ h; omega
        · omega
      have hmu : lenAt (w'.cell? ⟨bs, 0, none⟩) < lenAt (wr.cell? ⟨bs, 0, none⟩) := by
        rw [hb'.cell 0, hc']
        show xs.length / 2 < xs.length
        omega
      simp only [Exit.then]
      go_roundw
      case rel => exact ⟨pre ++ [xs], j, up xs, _, _, HE.out, HU.out, hj6, up_32 xs, hb', hd, hap4, hm3, hz3, hJ4, hK4⟩
      case measure => exact hmu
    · have hn1' : decide ((1 : Int) < (xs.length : Int)) = false := decide_eq_false (by omega)
      gi_wp2
      go_end0
      refine ⟨rfl, ?_⟩
      have hk0 : k = 0 := by
        have := HL.out
        cases k with
        | zero => rfl
        | succ j => rw [Nat.pow_succ] at this; have := Nat.two_pow_pos j; omega
      subst hk0
      rw [HR.out]
      exact hJ3
end Go.Proofs.YteogcilnpkaplaaDoor

namespace Go.Proofs.YteogcilnpkaplaaDoor
open Go.RowKit
/-- How a round's body is left: off its end. -/
def rowPost (R : World → Prop) : Exit → Act → World → Prop
  | .normal, _, W => R W
  | _, _, _ => False
theorem not_letsOut_rowPost (R : World → Prop) : ¬ LetsOut (rowPost R) := fun ⟨_, _, h⟩ => h
theorem grown_putObj (W : World) (l : Nat) (o : Obj) : W.grownBy (W.putObj l o) (some l) :=
  ⟨rfl, rfl, rfl, by simp, fun k _ hk => World.putObj_heap_other (fun e => hk (by rw [e]))⟩
theorem Kept.of_grown {X : Nat → Prop} {W W' : World} {r : Nat} (h : W.grownBy W' (some r)) (hx : X r) : Kept X W W' :=
  ⟨h.os, h.tape, h.output, h.size, fun k hk hn => h.block k hk (fun e => hn (by cases e; exact hx))⟩
theorem Row.put {w : World} {b r : Nat} {t : TypeId} {cs : Array Value} (h : Row w b t cs) (o : Obj) (hne : b ≠ r) : Row (w.putObj r o) b t cs := (World.putObj_heap_other hne).trans h
set_option maxHeartbeats 2000000 in
theorem wpIn_range_rows {g : Operand} {p : Tmp} {assign body : Code} {Q : Exit → Act → World → Prop} {a : Act} {w : World} (bs : Nat) (O : Nat → Prop) (k0 : Nat) (l0 : List Dg) (v0 : Value) (J : List (List Dg) → Nat → World → Prop) (a1 : Value → Act)
    (hg : a.eval g = .func (.func 50) #[] #[.pointer (some ⟨bs, 0, none⟩)])
    (hlen : l0.length = 2 ^ k0) (hk0 : k0 ≤ 6) (h32 : all32 l0) (hv : Digs w v0 l0) (hbox : Row w bs 29 #[v0]) (hK : KFact w)
    (hOb : ¬ O bs) (hOk : ¬ O 1) (hbk : bs ≠ 1) (hO : ∀ k, O k → k < w.heap.size) (hap : Apart O v0)
    (hJ : ∀ pre m A A' r, J pre m A → m ≤ A.heap.size → A.grownBy A' (some r) → r = bs ∨ r = w.heap.size + 1 → J pre m A')
    (hJ0 : ∀ o o', J [] (w.heap.size + 2) ((w.alloc o).alloc o'))
    (hassign : ∀ (x : Value) (W : World) (K : Act → World → Prop), K (a1 x) W → assign.wpIn (RF (some (w.heap.size + 1))) 0 Tryd.prog (Exit.then K (fun _ _ _ => False)) { tmps := a.tmps.setIfInBounds p x, defers := [] } W)
    (hbody : ∀ pre m v xs rest W1, rowsK k0 l0 = pre ++ xs :: rest → J pre m W1 → w.heap.size + 2 ≤ m → m ≤ W1.heap.size → Row W1 bs 29 #[v] → Digs W1 v xs → all32 xs → 0 < xs.length → Apart (own O (w.heap.size + 2) m) v → KFact W1 →
      body.wpIn (RF (some (w.heap.size + 1))) 0 Tryd.prog (rowPost fun W' => J (pre ++ [xs]) W'.heap.size W' ∧ Kept (own O (w.heap.size + 2) m) W1 W') (a1 v) W1)
    (hdone : ∀ m W, m ≤ W.heap.size → J (rowsK k0 l0) m W → W.heap[w.heap.size]? = some (.deferred (some [])) → Q .normal { a with defers := { target := .collected w.heap.size, args := #[] } :: a.defers } W) :
    (Code.rangeFunc g #[p] assign body).wpIn Fence.wide 0 Tryd.prog Q a w := by
  refine wpIn_rangeFunc ?_
  intro fn hfn
  obtain ⟨rec, hrec⟩ : ∃ rec : LoopState → Option Code → Loop, rec = fun st pe => { state := st, pending := pe, fn, tmps := a.tmps, params := #[p], assign, body, defers := w.heap.size } := ⟨_, rfl⟩
  obtain ⟨W1, hW1⟩ : ∃ W1, (w.alloc (.deferred (some []))).alloc (.loop (rec .ready none)) = W1 := ⟨_, rfl⟩
  have hL1 : W1.heap[w.heap.size + 1]? = some (.loop (rec .ready none)) := by
    rw [← hW1]; have := World.alloc_heap_new (w.alloc (.deferred (some []))) (.loop (rec .ready none)); rwa [World.size_alloc] at this
  have hD1 : W1.heap[w.heap.size]? = some (.deferred (some [])) := by
    rw [← hW1]; exact (Below.heap_alloc _ _ _ (by simp)).trans (World.alloc_heap_new w _)
  have hz1 : W1.heap.size = w.heap.size + 2 := by rw [← hW1]; simp
  have hJ1 : J [] (w.heap.size + 2) W1 := by rw [← hW1]; exact hJ0 _ _
  have hb1 : Below w.heap.size w W1 := by rw [← hW1]; exact ((Below.refl _ w).alloc (Nat.le_refl _) _).alloc (by simp) _
  have hap1 : Apart (own O (w.heap.size + 2) W1.heap.size) v0 := fun b o n c e h => by
    rcases h with h | h
    · exact hap b o n c e h
    · omega
  refine ⟨w.heap.size + 1, [{ target := .collected w.heap.size, args := #[] }], W1, { target := .fn (.func 50) #[.pointer (some ⟨bs, 0, none⟩)], args := #[.func (.yield (w.heap.size + 1)) #[] #[]] }, W1, 50,
    #[.func (.yield (w.heap.size + 1)) #[] #[]] ++ #[.pointer (some ⟨bs, 0, none⟩)], W1, ?_, ?_, fun _ _ => trivial, ?_, (fun h => by cases h), ?_⟩
  · rw [← hW1, hrec]; exact run_enterLoop_outer _ _ _ _ _
  · simp only [resolve, hg]
    simp [go_sem]
  · simp [invoke, go_sem]
  · have hbsl := hbox.lt
    refine (rows1_in (w.heap.size + 1) bs (w.heap.size + 2) O k0 l0 v0
      (fun pre m W => J pre m W ∧ m ≤ W.heap.size ∧ w.heap.size + 2 ≤ W.heap.size ∧ W.heap[w.heap.size + 1]? = some (.loop (rec .ready none)) ∧ W.heap[w.heap.size]? = some (.deferred (some []))) W1
      hlen hk0 h32 (hv.later hb1) (hbox.below hb1 hbsl) (hK.below hb1 hK.lt) hOb (by omega) hOk (by have := hK.lt; omega) hbk (fun k h => by have := hO k h; omega) (by omega) hap1 ?_ ?_ ?_).mono ?_
    · rintro pre A A' ⟨h1, h2, h2', h3, h4⟩ hg'
      refine ⟨hJ _ _ _ _ _ h1 h2 hg' (.inl rfl), hg'.size, Nat.le_trans h2' hg'.size, (hg'.block _ (by omega) ?_).trans h3, (hg'.block _ (by omega) ?_).trans h4⟩ <;> exact fun e => by have := Option.some.inj e; omega
    · rintro pre m v xs rest W2 hrows ⟨h1, h2, h2', h3, h4⟩ hbm hm hbx hd h32' hpos hap2 hK2
      have hlt : w.heap.size + 1 < W2.heap.size := by omega
      have hy := run_yield (P := Tryd.prog) (args := #[v]) h3 (by rw [hrec]; rfl)
      rw [hrec] at hy
      have hown : ∀ m', ¬ own O (w.heap.size + 2) m' (w.heap.size + 1) := fun m' h => by
        rcases h with h | h
        · have := hO _ h; omega
        · omega
      have hownD : ∀ m', ¬ own O (w.heap.size + 2) m' w.heap.size := fun m' h => by
        rcases h with h | h
        · have := hO _ h; omega
        · omega
      have ez : (#[p].zip #[v]).foldl (fun tmps (t, a) => tmps.setIfInBounds t a) a.tmps = a.tmps.setIfInBounds p v := by simp
      refine ⟨fn, a.tmps.setIfInBounds p v, assign, body, by rw [← ez]; exact hy, roundIn_of_wpIn trivial (hassign v W2 _ ⟨_, run_beginRound h3 (by rw [hrec]), ?_⟩)⟩
      have hl2 : (W2.putObj (w.heap.size + 1) (.loop { rec .ready none with state := .busy })).heap[w.heap.size + 1]? = some (.loop { rec .ready none with state := .busy }) := World.putObj_heap_same hlt
      have hgp := grown_putObj W2 (w.heap.size + 1) (.loop { rec .ready none with state := .busy })
      have hapL : Apart (fun k => k = w.heap.size + 1) v := fun b o n c e h => by
        subst h
        subst e
        obtain ⟨_, _, e2, _, _, ⟨h0, _⟩ | ⟨b', o', e3, hat⟩⟩ := hd
        · subst h0; simp at hpos
        · obtain ⟨rfl, rfl, rfl⟩ := Value.slice.inj e2
          cases e3
          have := hat 0 (by rw [flat_len xs h32']; omega)
          unfold World.cell? at this
          rw [h3] at this
          cases this
      have hkp := Kept.of_grown (X := fun k => k = w.heap.size + 1) hgp rfl
      have hKp := hkp.kfact hK2 (by have := hK.lt; omega)
      refine wpIn_mono (hbody pre m v xs rest _ hrows (hJ _ _ _ _ _ h1 hm hgp (.inr rfl)) hbm (by simpa using hm) (hbx.put _ (by omega)) (hkp.digs hd hapL) h32' hpos hap2 hKp) ?_
      rintro e a3 W3 hp
      cases e with
      | normal =>
        obtain ⟨hj3, hk3⟩ := hp
        have hl3 := (hk3.block _ (by simpa using hlt) (hown m)).trans hl2
        have hz3 : w.heap.size + 2 ≤ W3.heap.size := by have := hk3.size; simp at this; omega
        have hd3 : W3.heap[w.heap.size]? = some (.deferred (some [])) := ((hk3.block _ (by simp; omega) (hownD m)).trans (World.putObj_heap_other (by omega))).trans h4
        have hend := run_endRound (P := Tryd.prog) none hl3
        have hg3 := grown_putObj W3 (w.heap.size + 1) (.loop (rec .ready none))
        have erec : ({ rec .ready none with state := .busy } : Loop) = rec .busy none := by rw [hrec]
        have hend2 : (Instr.endRound (w.heap.size + 1) none).run Tryd.prog W3 = .ok (.bool true) (W3.putObj (w.heap.size + 1) (.loop (rec .ready none))) := by
          rw [hend, hrec]; rfl
        refine ⟨_, _, hend2, rfl, ⟨?_, by simp, by simpa using hz3, World.putObj_heap_same (by omega), (World.putObj_heap_other (by omega)).trans hd3⟩, ?_⟩
        · have := hJ _ _ _ _ _ hj3 (Nat.le_refl _) hg3 (.inr rfl)
          simpa using this
        · refine ⟨hk3.os, hk3.tape, hk3.output, by have := hk3.size; simpa using this, fun k hk hx => ?_⟩
          by_cases hkl : k = w.heap.size + 1
          · subst hkl
            rw [h3]
            exact World.putObj_heap_same (by omega)
          · rw [World.putObj_heap_other hkl, hk3.block k (by simpa using hk) hx, World.putObj_heap_other hkl]
      | ret => exact hp.elim
      | exit id => exact hp.elim
      | goto t => exact hp.elim
      | panic ch => exact hp.elim
      | outgrown => exact hp.elim
    · exact ⟨by rw [hz1]; exact hJ1, Nat.le_refl _, by omega, hL1, hD1⟩
    · rintro e W2 ⟨rfl, h1, h2, h2', h3, h4⟩
      have hend := run_endLoop (P := Tryd.prog) h3 (by rw [hrec]; simp)
      have hend2 : (Instr.endLoop (w.heap.size + 1)).run Tryd.prog W2 = .ok none (W2.putObj (w.heap.size + 1) (.loop (rec .exhausted none))) := by
        rw [hend, hrec]
      refine ⟨none, _, hend2, hdone W2.heap.size _ (by simp) (hJ _ _ _ _ _ h1 h2 (grown_putObj W2 _ _) (.inr rfl)) ((World.putObj_heap_other (by omega)).trans h4)⟩
end Go.Proofs.YteogcilnpkaplaaDoor

namespace Go.Proofs.YteogcilnpkaplaaDoor
open Go.RowKit
def powB (n : Nat) : Bool := n == 1 || n == 2 || n == 4 || n == 8 || n == 16 || n == 32 || n == 64
theorem powB_iff (n : Nat) : powB n = true ↔ ∃ k, k ≤ 6 ∧ n = 2 ^ k := by
  constructor
  · intro h
    simp only [powB, Bool.or_eq_true, beq_iff_eq] at h
    rcases h with (((((rfl | rfl) | rfl) | rfl) | rfl) | rfl) | rfl
    · exact ⟨0, by omega, rfl⟩
    · exact ⟨1, by omega, rfl⟩
    · exact ⟨2, by omega, rfl⟩
    · exact ⟨3, by omega, rfl⟩
    · exact ⟨4, by omega, rfl⟩
    · exact ⟨5, by omega, rfl⟩
    · exact ⟨6, by omega, rfl⟩
  · rintro ⟨k, hk, rfl⟩
    rcases (show k = 0 ∨ k = 1 ∨ k = 2 ∨ k = 3 ∨ k = 4 ∨ k = 5 ∨ k = 6 by omega) with rfl | rfl | rfl | rfl | rfl | rfl | rfl <;> rfl
theorem powB_le {n : Nat} (h : powB n = true) : 1 ≤ n ∧ n ≤ 64 := by
  simp only [powB, Bool.or_eq_true, beq_iff_eq] at h; omega
def okPath (n : Nat) (idx : Int) : Bool := powB n && decide (0 ≤ idx) && decide (idx < n)
theorem okPath_iff (n : Nat) (idx : Int) : okPath n idx = true ↔ powB n = true ∧ 0 ≤ idx ∧ idx < n := by unfold okPath; simp [and_assoc]
def errP (n : Nat) (idx : Int) : Nat := if okPath n idx = true then 0 else 1
def pathR (l : List Dg) (idx : Int) : List Dg := if okPath l.length idx = true then pathOf (Nat.log2 l.length) l idx.toNat else []
theorem and_table (n : Nat) (h1 : 1 ≤ n) (h2 : n ≤ 64) : (bits .and .i64 (n : Int) ((n : Int) - 1) == 0) = powB n := by
  have hall : (List.range 65).all (fun n => n == 0 || ((bits .and .i64 (n : Int) ((n : Int) - 1) == 0) == powB n)) = true := by kernel_rfl
  have := List.all_eq_true.1 hall n (List.mem_range.2 (by omega))
  rw [Bool.or_eq_true] at this
  rcases this with h | h
  · simp at h; omega
  · simpa using h
theorem xor_table (i : Nat) (h : i < 64) : bits .xor .i64 (i : Int) 1 = ((sib i : Nat) : Int) := by
  have hall : (List.range 64).all (fun x => bits .xor .i64 (x : Int) 1 == ((sib x : Nat) : Int)) = true := by kernel_rfl
  simpa using List.all_eq_true.1 hall i (List.mem_range.2 h)
theorem pathOf_32 : ∀ (k : Nat) (l : List Dg) (i : Nat), l.length = 2 ^ k → i < 2 ^ k → all32 l → all32 (pathOf k l i)
  | 0, _, _, _, _, _ => fun _ h => absurd h List.not_mem_nil
  | k + 1, l, i, hl, hi, h => fun x hx => by
    have e : 2 ^ (k + 1) = 2 * 2 ^ k := by rw [Nat.pow_succ]; omega
    rcases List.mem_cons.1 hx with rfl | hx
    · exact all32_getD h _ (by rw [hl]; exact sib_lt hi (by omega))
    · exact pathOf_32 k (up l) (i / 2) (by rw [up_len, hl]; omega) (by omega) (up_32 l) x hx
theorem log2_pow (k : Nat) : Nat.log2 (2 ^ k) = k := Nat.log2_two_pow
theorem pathR_32 (l : List Dg) (idx : Int) (h : all32 l) : all32 (pathR l idx) := by
  unfold pathR
  split
  · rename_i hok
    obtain ⟨hp, h0, h1⟩ := (okPath_iff _ _).1 hok
    obtain ⟨k, hk, hl⟩ := (powB_iff _).1 hp
    rw [hl, log2_pow]
    exact pathOf_32 k l _ hl (by rw [← hl]; omega) h
  · exact fun _ h => absurd h List.not_mem_nil
set_option maxRecDepth 10000 in
set_option maxHeartbeats 4000000 in
theorem path_bad (l : List Dg) (v : Value) (idx : Int) (w : World) (hv : Digs w v l) (hok : okPath l.length idx = false) :
    Calls Tryd.prog 22 #[v, .int .i64 idx] w fun e w' => ∃ pv, e = .returned (.tuple #[pv, .int .i64 (errP l.length idx : Nat)]) ∧ Digs w' pv (pathR l idx) ∧ Below w.heap.size w w' := by
  have he : errP l.length idx = 1 := by unfold errP; rw [hok]; rfl
  have hr : pathR l idx = [] := by unfold pathR; rw [hok]; rfl
  rw [he, hr]
  clear he hr
  obtain ⟨av, cap, rfl, hc0, hc1, -⟩ := hv
  generalize l.length = n at *
  clear l
  refine callsIn_wide.1 (callsIn_of_wp_marks (F := Fence.wide) (n := 0) Tryd.func22 rfl trivial (wpIn_wide.2 ?_))
  simp only [Tryd.ntmps22, List.size_toArray, List.length_cons, List.length_nil, Nat.reduceAdd, Nat.reduceSub, Array.replicate_succ, Array.replicate_zero, List.push_toArray, List.append_toArray, List.nil_append, List.cons_append]
  have hb0 : Below w.heap.size w (w.alloc (.cells #[.int .i64 idx] 3)) := (Below.refl _ _).alloc (Nat.le_refl _) _
  have fin : ∀ (tmps : Array Value), tmps.getD 4 undef = .slice none 0 0 → tmps.getD 5 undef = .int .i64 1 → bodyPostM Fence.wide 0 Tryd.prog Tryd.f22 (fun e w' => ∃ pv, e = .returned (.tuple #[pv, .int .i64 ((1 : Nat) : Int)]) ∧ Digs w' pv [] ∧ Below w.heap.size w w') .ret { tmps := tmps, defers := [] } (w.alloc (.cells #[.int .i64 idx] 3)) := fun tmps h4 h5 => by
    have hr := results_tmp2 (fn := Tryd.f22) (t := 4) (u := 5) rfl tmps Tryd.prog (w.alloc (.cells #[.int .i64 idx] 3))
    rw [h4, h5] at hr
    exact ⟨_, hr, _, rfl, Digs.nil _, hb0⟩
  by_cases c0 : n = 0
  · subst c0
    go_wp2
    exact fin _ rfl rfl
  have c0' : ¬ (n : Int) = 0 := by omega
  by_cases c1 : 64 < n
  · have c1' : (64 : Int) < (n : Int) := by omega
    go_wp2
    exact fin _ rfl rfl
  have c1' : ¬ (64 : Int) < (n : Int) := by omega
  have hand := and_table n (by omega) (by omega)
  have hw1 : IntKind.i64.wrap ((n : Int) - 1) = (n : Int) - 1 := IntWalk.i64_in _ (by omega)
  have hn64 : n ≤ 64 := by omega
  have hn1 : 1 ≤ n := by omega
  clear c0 c1
  obtain ⟨q, hq⟩ : ∃ q, bits .and .i64 (n : Int) ((n : Int) - 1) = q := ⟨_, rfl⟩
  rw [hq] at hand
  by_cases cq : q = 0
  · have hp : powB n = true := by rw [← hand, cq]; rfl
    subst cq
    by_cases c2 : idx < 0
    · clear hok hand hp
      go_wp2
      exact fin _ rfl rfl
    · have c3 : (n : Int) ≤ idx := by
        rcases Int.lt_or_le idx n with h | h
        · rw [(okPath_iff n idx).2 ⟨hp, by omega, h⟩] at hok; cases hok
        · exact h
      clear hok hand hp
      go_wp2
      exact fin _ rfl rfl
  · clear hok hand
    go_wp2
    exact fin _ rfl rfl
end Go.Proofs.YteogcilnpkaplaaDoor

namespace Go.Proofs.YteogcilnpkaplaaDoor
open Go.RowKit
theorem rowsK_at : ∀ (pre : List (List Dg)) (k : Nat) (l : List Dg) (xs : List Dg) (rest : List (List Dg)), rowsK k l = pre ++ xs :: rest → xs = upN pre.length l ∧ pre.length ≤ k
  | [], 0, l, xs, rest, h => by simp [rowsK] at h; exact ⟨h.1.symm, Nat.le_refl _⟩
  | [], k + 1, l, xs, rest, h => by simp [rowsK] at h; exact ⟨h.1.symm, Nat.zero_le _⟩
  | p :: pre, 0, l, xs, rest, h => by simp [rowsK] at h
  | p :: pre, k + 1, l, xs, rest, h => by
    simp only [rowsK, List.cons_append, List.cons.injEq] at h
    obtain ⟨h1, h2⟩ := rowsK_at pre k (up l) xs rest h.2
    exact ⟨h1, by rw [List.length_cons]; omega⟩
theorem rowsK_len : ∀ (k : Nat) (l : List Dg), (rowsK k l).length = k + 1
  | 0, _ => rfl
  | k + 1, l => by show (rowsK k (up l)).length + 1 = _; rw [rowsK_len k]
theorem upN_pow (k j : Nat) (l : List Dg) (hl : l.length = 2 ^ k) (hj : j ≤ k) : (upN j l).length = 2 ^ (k - j) := by
  rw [upN_len, hl, Nat.pow_div hj (by omega)]
theorem take_path (k : Nat) (l : List Dg) (i j : Nat) (h : j < k) : (pathOf k l i).take (j + 1) = (pathOf k l i).take j ++ [(upN j l).getD (sib (i / 2 ^ j)) []] := by
  rw [← pathOf_get k l i j h, List.take_add_one, List.getD_eq_getElem?_getD, List.getElem?_eq_getElem (by rw [pathOf_len]; exact h)]
  rfl
theorem OwnD.grown {w w' : World} {base r : Nat} {v : Value} {xs : List Dg} (h : OwnD w base v xs) (hg : w.grownBy w' (some r)) (hr : r < base) : OwnD w' base v xs := by
  obtain ⟨h1, h2 | ⟨g, cap, cur, rfl, hgb, hh, r'⟩⟩ := h
  · exact ⟨h1, .inl h2⟩
  · exact ⟨h1, .inr ⟨g, cap, cur, rfl, hgb, (hg.block g (Array.getElem?_eq_some_iff.1 hh).1 (fun e => by have := Option.some.inj e; omega)).trans hh, r'⟩⟩
theorem wpIn_gen {F : Fence} {n : Nat} {P : Program} {c : Code} {Q : Exit → Act → World → Prop} {a : Act} {w : World} (h : ∀ a0, a0 = a → c.wpIn F n P Q a0 w) : c.wpIn F n P Q a w := h a rfl
set_option maxRecDepth 10000 in
set_option maxHeartbeats 4000000 in
/-- One round of Path's loop. -/
theorem path_round (L p0 p1 base sb so cap i : Nat) (xs path : List Dg) (pv : Value) (W : World) (R : World → Prop) (t0 t1 t2 t4 t5 t6 t9 t10 t11 t12 t13 t14 t15 t16 t17 t18 t19 t20 t21 t22 t23 t24 t25 t26 t27 t28 t29 t30 t31 t32 t33 t34 t35 t36 t37 t38 t39 t40 t41 t42 t43 t44 t45 t46 t47 t48 t49 : Value) (hI : Row W p0 3 #[.int .i64 (i : Int)]) (hP : Row W p1 29 #[pv]) (hown : OwnD W base pv path)
    (hat : BytesAt W sb so xs.flatten) (h32 : all32 xs) (hi : i < 64) (hin : i < xs.length) (hev : 1 < xs.length → xs.length % 2 = 0) (hne : p0 ≠ p1) (hp0 : p0 < base) (hp1 : p1 < base) (hbW : base ≤ W.heap.size) (hpl : path.length ≤ 1000)
    (hQ : ∀ pv' W', Row W' p0 3 #[.int .i64 ((i / 2 : Nat) : Int)] → Row W' p1 29 #[pv'] → OwnD W' base pv' (if 1 < xs.length then path ++ [xs.getD (sib i) []] else path) → Kept (fun k => k = p0 ∨ k = p1 ∨ pv.ownBlock = some k) W W' → R W') :
    (subCode (bodyOf Tryd.f22) [1, 1, 1, 1, 0, 1, 0, 1]).wpIn (RF (some L)) 0 Tryd.prog (rowPost R) { tmps := #[t0, t1, t2, .pointer (some ⟨p0, 0, none⟩), t4, t5, t6, .pointer (some ⟨p1, 0, none⟩), .slice (some ⟨sb, so, none⟩) xs.length cap, t9, t10, t11, t12, t13, t14, t15, t16, t17, t18, t19, t20, t21, t22, t23, t24, t25, t26, t27, t28, t29, t30, t31, t32, t33, t34, t35, t36, t37, t38, t39, t40, t41, t42, t43, t44, t45, t46, t47, t48, t49], defers := [] } W := by
  show Code.wpIn _ _ _ (Code.block 1 (Code.seq (Code.seq _ (Code.cond _ _ _)) _)) _ _ _
  have hout : ∀ (K : Act → World → Prop), ¬ LetsOut (Exit.then K (Exit.inBlock 1 (rowPost R))) := fun K ⟨_, _, h⟩ => h
  have hout2 : ∀ (K K' : Act → World → Prop), ¬ LetsOut (Exit.then K (Exit.then K' (Exit.inBlock 1 (rowPost R)))) := fun K K' ⟨_, _, h⟩ => h
  have hout1 : ¬ LetsOut (Exit.inBlock 1 (rowPost R)) := fun ⟨_, _, h⟩ => h
  refine wpIn_block ?_
  refine wpIn_seq ?_
  refine wpIn_seq ?_
  refine regionIn_list rfl (hout2 _ _) ?_
  by_cases hn1 : 1 < xs.length
  · have hcn : (1 : Int) < (xs.length : Int) := by omega
    have hcn' : decide ((1 : Int) < (xs.length : Int)) = true := decide_eq_true hcn
    generalize hCC : Code.cond _ _ _ = CC
    generalize hR9 : Code.region 9 _ _ = R9
    go_wp2
    rw [← hCC]
    clear hCC
    refine wpIn_cond_true rfl ?_
    have hev' := hev hn1
    have hsib := sib_lt hin hev'
    obtain ⟨sx, hsx⟩ : ∃ sx, sib i = sx := ⟨_, rfl⟩
    have hxor := xor_table i hi
    have hce := hat.elem h32 (sib i) hsib
    have hxl := all32_getD h32 (sib i) hsib
    rw [if_pos hn1] at hQ
    rw [hsx] at hsib hxor hce hxl hQ
    have HSX := Lib.hid hsx
    have HQ := Lib.hid hQ
    clear hsx hQ hev'
    obtain ⟨y, hy⟩ : ∃ y, xs.getD sx [] = y := ⟨_, rfl⟩
    rw [hy] at hce hxl HQ
    have HY := Lib.hid hy
    clear hy
    have hsx2 : (sx : Int) < (xs.length : Int) := by omega
    have hci := hI.cell 0
    have hcp := hP.cell 0
    obtain ⟨B, eB⟩ : ∃ B, W.heap.size = B := ⟨_, rfl⟩
    refine wpIn_gen fun a0 ha0 => ?_
    have i7 : a0.eval (.tmp 7) = .pointer (some ⟨p1, 0, none⟩) := by rw [ha0]; rfl
    have i8 : a0.eval (.tmp 8) = .slice (some ⟨sb, so, none⟩) xs.length cap := by rw [ha0]; rfl
    have i3 : a0.eval (.tmp 3) = .pointer (some ⟨p0, 0, none⟩) := by rw [ha0]; rfl
    have hsz : a0.tmps.size = 50 := by rw [ha0]; rfl
    refine wpIn_region_inv_tail (B := B) 7 [some 39, some 40, some 41, some 42, some 43, some 44, some 45, some 46, none] [Asrt.eq (pv), Asrt.eq (.slice (some ⟨sb, so, none⟩) xs.length cap), Asrt.eq (.int .i64 (i : Int)), Asrt.eq (.int .i64 (sx : Int)), Asrt.eq (.pointer (some ⟨sb, so + sx * 32, none⟩)), Asrt.eq (.agg (cellsB (y))), Asrt.one y] rfl (by as_aux_lemma => kernel_rfl) rfl (hout _) (by rw [hsz]; as_aux_lemma => kernel_rfl) (by as_aux_lemma => kernel_rfl) (by as_aux_lemma => kernel_rfl) (by as_aux_lemma => kernel_rfl) (by decide) (by as_aux_lemma => kernel_rfl) (by omega) ⟨?_, ?_, ?_, ?_, ?_, ?_, ?_, trivial⟩ ?_
    · as_aux_lemma =>
        intro ev w1 hg hin hc hgl hfn hd
        have hB := hg.top
        have g7 : ev (.tmp 7) = .pointer (some ⟨p1, 0, none⟩) := (hin 7 (by kernel_rfl)).trans i7
        clear hin hd
        refine step_on (guard_none rfl) fun K hK => ?_
        have hc1 := hg.cell hcp
        unfold YieldsG
        go_simp
        exact hK _ _ rfl (Grow.refl hB)
    · as_aux_lemma =>
        intro ev w1 hg hin hc hgl hfn hd
        have hB := hg.top
        have g8 : ev (.tmp 8) = .slice (some ⟨sb, so, none⟩) xs.length cap := (hin 8 (by kernel_rfl)).trans i8
        clear hin hd
        refine step_on (guard_none rfl) fun K hK => ?_
        unfold YieldsG
        go_simp
        exact hK _ _ rfl (Grow.refl hB)
    · as_aux_lemma =>
        intro ev w1 hg hin hc hgl hfn hd
        have hB := hg.top
        have g3 : ev (.tmp 3) = .pointer (some ⟨p0, 0, none⟩) := (hin 3 (by kernel_rfl)).trans i3
        clear hin hd
        refine step_on (guard_none rfl) fun K hK => ?_
        have hc1 := hg.cell hci
        unfold YieldsG
        go_simp
        exact hK _ _ rfl (Grow.refl hB)
    · as_aux_lemma =>
        intro ev w1 hg hin hc hgl hfn hd
        have hB := hg.top
        have f41 : (ev (.tmp 41)) = .int .i64 (i : Int) := hd.1 rfl _ rfl
        clear hin hd
        refine step_on (guard_none rfl) fun K hK => ?_
        unfold YieldsG
        go_simp
        exact hK _ _ rfl (Grow.refl hB)
    · as_aux_lemma =>
        intro ev w1 hg hin hc hgl hfn hd
        have hB := hg.top
        have f40 : (ev (.tmp 40)) = .slice (some ⟨sb, so, none⟩) xs.length cap := hd.1 rfl _ rfl
        have f42 : (ev (.tmp 42)) = .int .i64 (sx : Int) := hd.2.1 rfl _ rfl
        clear hin hd
        refine step_on (guard_none rfl) fun K hK => ?_
        unfold YieldsG
        go_simp
        exact hK _ _ rfl (Grow.refl hB)
    · as_aux_lemma =>
        intro ev w1 hg hin hc hgl hfn hd
        have hB := hg.top
        have f43 : (ev (.tmp 43)) = .pointer (some ⟨sb, so + sx * 32, none⟩) := hd.1 rfl _ rfl
        clear hin hd
        refine step_on (guard_none rfl) fun K hK => ?_
        refine yg_load_mid 25 (.tmp 43) rfl sb (so + sx * 32) f43 (y.map B8) _ (range_below hce (by rw [eB]; exact hg.bl)) Tryd.underD rfl (by rw [List.length_map, hxl]; exact Tryd.sizeD) ?_
        exact hK _ _ rfl (Grow.refl hB)
    · as_aux_lemma =>
        intro ev w1 hg hin hc hgl hfn hd
        have hB := hg.top
        have f44 : (ev (.tmp 44)) = .agg (cellsB (y)) := hd.1 rfl _ rfl
        clear hin hd
        refine step_on (guard_none rfl) fun K hK => ?_
        unfold YieldsG execOp
        simp only [List.map_toArray, List.map_cons, List.map_nil, f44, Sem.run_bind, run_build_dig w1 y hxl, Result.andThen_ok]
        exact hK _ _ ⟨_, rfl, Row.new _ _ _⟩ (Grow.of hB ((Below.refl _ _).alloc (Nat.le_refl _) _))
    intro v w2 hg hall
    have hf0 : (v 0) = pv := hall.1 (by simp)
    have hf1 : (v 1) = .slice (some ⟨sb, so, none⟩) xs.length cap := hall.2.1 (by simp)
    have hf2 : (v 2) = .int .i64 (i : Int) := hall.2.2.1 (by simp)
    have hf3 : (v 3) = .int .i64 (sx : Int) := hall.2.2.2.1 (by simp)
    have hf4 : (v 4) = .pointer (some ⟨sb, so + sx * 32, none⟩) := hall.2.2.2.2.1 (by simp)
    have hf5 : (v 5) = .agg (cellsB (y)) := hall.2.2.2.2.2.1 (by simp)
    have hf6 : ∃ g, (v 6) = .slice (some ⟨g, 0, none⟩) 1 1 ∧ Row w2 g 25 (cellsB y) := hall.2.2.2.2.2.2.1 (by simp)
    clear hall i7 i8 i3 hsz
    rw [ha0]
    clear ha0
    simp only [List.take_succ_cons, List.take_zero, List.drop_succ_cons, List.drop_zero, putAll, Act.put, List.setIfInBounds_toArray, List.set_cons_zero, List.set_cons_succ, Nat.zero_add, Nat.reduceAdd]
    rw [hf0, hf1, hf2, hf3, hf4, hf5]
    generalize v 6 = x6 at *
    clear hf0 hf1 hf2 hf3 hf4 hf5
    obtain ⟨gy, hgy, hry⟩ := hf6
    subst hgy
    have hown2 := hown.below hg.below
    have hI2 : Row w2 p0 3 #[.int .i64 (i : Int)] := hg.kept _ _ hI
    have hP2 : Row w2 p1 29 #[pv] := hg.kept _ _ hP
    have hb2 := hg.below
    have hbz := hb2.size
    have hob := hown.ownBlock
    clear hg hci hcp hce hat
    refine wpList_append_dig rfl (.tmp 39) (.tmp 45) rfl base pv path y gy 25 rfl hown2 rfl hry hxl (by omega) (by omega) ?_
    intro v7 w7 ho7 hg7
    have hP7 := hP2.grown hg7 (fun e => by have := hob _ e.symm; omega)
    have hI7 := hI2.grown hg7 (fun e => by have := hob _ e.symm; omega)
    have hc7 := hP7.cell 0
    have hf7 := hP7.free 0
    obtain ⟨g7, c7, e7, -⟩ := ho7.form (by simp)
    generalize (path ++ [y]).length = n7 at e7
    subst e7
    go_wp2
    rw [← hR9]
    clear hR9
    have hI8 := hI7.other ⟨p1, 0, none⟩ (.slice (some ⟨g7, 0, none⟩) n7 c7) hne
    have hP8 := hP7.set 0 (.slice (some ⟨g7, 0, none⟩) n7 c7)
    have ho8 : OwnD (w7.setCell ⟨p1, 0, none⟩ (.slice (some ⟨g7, 0, none⟩) n7 c7)) base (.slice (some ⟨g7, 0, none⟩) n7 c7) (path ++ [y]) := ho7.grown (grown_setCell (grown_refl _ _) 0 _) hp1
    have hk8 : Kept (fun k => k = p0 ∨ k = p1 ∨ pv.ownBlock = some k) W (w7.setCell ⟨p1, 0, none⟩ (.slice (some ⟨g7, 0, none⟩) n7 c7)) := by
      refine ⟨hg7.os.trans hb2.os, hg7.tape.trans hb2.tape, hg7.output.trans hb2.output, ?_, fun k hk hx => ?_⟩
      · have := hg7.size; have := hb2.size; simp [World.setCell]; omega
      · rw [heap_setCell_other _ ⟨p1, 0, none⟩ k _ (fun e => hx (.inr (.inl e))), hg7.block k (by omega) (fun e => hx (.inr (.inr e.symm))), hb2.block k hk]
    generalize w7.setCell ⟨p1, 0, none⟩ (.slice (some ⟨g7, 0, none⟩) n7 c7) = w8 at *
    have hci8 := hI8.cell 0
    have hcf8 := hI8.free 0
    refine regionIn_list rfl hout1 ?_
    clear hI hP hown hI2 hP2 hown2 hI7 hP7 ho7 hg7 hc7 hf7 hry hb2
    go_wp2
    have hset := hI8.set 0 (.int .i64 ((i / 2 : Nat) : Int))
    refine HQ.out (.slice (some ⟨g7, 0, none⟩) n7 c7) _ (by simpa using hset) ?_ (ho8.grown (grown_setCell (grown_refl _ _) 0 _) hp0) ?_
    · exact Row.other (by simpa using hP8) _ _ (Ne.symm hne)
    · refine ⟨hk8.os, hk8.tape, hk8.output, by have := hk8.size; simpa [World.setCell] using this, fun k hk hx => ?_⟩
      rw [heap_setCell_other _ ⟨p0, 0, none⟩ k _ (fun e => hx (.inl e))]
      exact hk8.block k hk hx
  · have hcn : (xs.length : Int) ≤ 1 := by omega
    have hcn' : decide ((1 : Int) < (xs.length : Int)) = false := decide_eq_false (by omega)
    generalize hCC : Code.cond _ _ _ = CC
    generalize hR9 : Code.region 9 _ _ = R9
    go_wp2
    rw [← hCC]
    clear hCC
    refine wpIn_cond_false rfl ?_
    refine wpIn_skip ?_
    show Code.wpIn _ _ _ R9 _ _ _
    rw [← hR9]
    clear hR9
    refine regionIn_list rfl hout1 ?_
    rw [if_neg hn1] at hQ
    have HQ := Lib.hid hQ
    have hci8 := hI.cell 0
    have hcf8 := hI.free 0
    clear hQ
    go_wp2
    have hset := hI.set 0 (.int .i64 ((i / 2 : Nat) : Int))
    refine HQ.out pv _ (by simpa using hset) (hP.other _ _ (Ne.symm hne)) (hown.grown (grown_setCell (grown_refl _ _) 0 _) hp0) ?_
    refine ⟨rfl, rfl, rfl, by simp [World.setCell], fun k hk hx => ?_⟩
    exact heap_setCell_other _ ⟨p0, 0, none⟩ k _ (fun e => hx (.inl e))
end Go.Proofs.YteogcilnpkaplaaDoor

namespace Go.Proofs.YteogcilnpkaplaaDoor
open Go.RowKit
set_option maxRecDepth 10000 in
set_option maxHeartbeats 4000000 in
theorem path_ok (k : Nat) (l : List Dg) (v : Value) (i : Nat) (w : World) (hv : Digs w v l) (h32 : all32 l) (hK : KFact w) (hl : l.length = 2 ^ k) (hk : k ≤ 6) (hi : i < 2 ^ k) :
    Calls Tryd.prog 22 #[v, .int .i64 (i : Int)] w fun e w' => ∃ pv, e = .returned (.tuple #[pv, .int .i64 ((0 : Nat) : Int)]) ∧ Digs w' pv (pathOf k l i) ∧ Below w.heap.size w w' := by
  have hkl := hK.lt
  have hn64 : l.length ≤ 64 := by rw [hl]; exact (Nat.pow_le_pow_right (by omega) hk : 2 ^ k ≤ 2 ^ 6)
  have hn1 : 1 ≤ l.length := by rw [hl]; exact Nat.two_pow_pos _
  have hin : i < l.length := by omega
  have hpb : powB l.length = true := (powB_iff _).2 ⟨k, hk, hl⟩
  have HL := Lib.hid hl
  obtain ⟨av, cap, rfl⟩ := hv.form
  have hvl : ∀ b o n c, Value.slice av l.length cap = .slice (some ⟨b, o, none⟩) n c → b < w.heap.size := fun b o n c e => by
    obtain ⟨e1, -, -⟩ := Value.slice.inj e
    exact digs_block hv h32 e1 hn1
  have HV := Lib.hid hv
  have HVL := Lib.hid hvl
  have H3 := Lib.hid h32
  clear hl hv hvl h32
  obtain ⟨n, hn⟩ : ∃ n, l.length = n := ⟨_, rfl⟩
  rw [hn] at hn64 hn1 hin hpb HV HVL
  rw [hn]
  have HN := Lib.hid hn
  clear hn
  have hand := and_table n hn1 hn64
  rw [hpb] at hand
  have hand0 : bits .and .i64 (n : Int) ((n : Int) - 1) = 0 := by simpa using hand
  have hw1 : IntKind.i64.wrap ((n : Int) - 1) = (n : Int) - 1 := IntWalk.i64_in _ (by omega)
  have c0 : ¬ (n : Int) = 0 := by omega
  have c0' : ((n : Int) == 0) = false := by simpa using c0
  have c1 : ¬ (64 : Int) < (n : Int) := by omega
  have c1' : decide ((64 : Int) < (n : Int)) = false := decide_eq_false c1
  have c2 : ¬ (i : Int) < 0 := by omega
  have c2' : decide ((i : Int) < 0) = false := decide_eq_false c2
  have c3 : ¬ n ≤ i := by omega
  have c3' : decide (n ≤ i) = false := decide_eq_false c3
  have e1 : (w.alloc (.cells #[.int .i64 (i : Int)] 3)).heap.size = w.heap.size + 1 := by simp
  have e2 : ∀ o, ((w.alloc (.cells #[.int .i64 (i : Int)] 3)).alloc o).heap.size = w.heap.size + 1 + 1 := by simp
  have hI0 : Row (((w.alloc (.cells #[.int .i64 (i : Int)] 3)).alloc (.cells #[.slice none 0 0] 29)).alloc (.cells #[.slice av n cap] 29)) w.heap.size 3 #[.int .i64 (i : Int)] := ((Row.new w _ _).alloc _).alloc _
  have hP0 : Row (((w.alloc (.cells #[.int .i64 (i : Int)] 3)).alloc (.cells #[.slice none 0 0] 29)).alloc (.cells #[.slice av n cap] 29)) (w.heap.size + 1) 29 #[.slice none 0 0] := by
    have h := (Row.new (w.alloc (.cells #[.int .i64 (i : Int)] 3)) #[.slice none 0 0] 29).alloc (.cells #[.slice av n cap] 29)
    rwa [e1] at h
  have hB0 : Row (((w.alloc (.cells #[.int .i64 (i : Int)] 3)).alloc (.cells #[.slice none 0 0] 29)).alloc (.cells #[.slice av n cap] 29)) (w.heap.size + 1 + 1) 29 #[.slice av n cap] := by
    have h := Row.new ((w.alloc (.cells #[.int .i64 (i : Int)] 3)).alloc (.cells #[.slice none 0 0] 29)) #[.slice av n cap] 29
    rwa [e2] at h
  have hb0 : Below w.heap.size w (((w.alloc (.cells #[.int .i64 (i : Int)] 3)).alloc (.cells #[.slice none 0 0] 29)).alloc (.cells #[.slice av n cap] 29)) := (((Below.refl _ _).alloc (Nat.le_refl _) _).alloc (by omega) _).alloc (by rw [e2]; omega) _
  have hz0 : (((w.alloc (.cells #[.int .i64 (i : Int)] 3)).alloc (.cells #[.slice none 0 0] 29)).alloc (.cells #[.slice av n cap] 29)).heap.size = w.heap.size + 3 := by simp
  have HZ := Lib.hid hz0
  clear e1 e2 hz0 hand hpb
  refine callsIn_wide.1 (callsIn_of_wp_marks (F := Fence.wide) (n := 0) Tryd.func22 rfl trivial (wpIn_wide.2 ?_))
  simp only [Tryd.ntmps22, List.size_toArray, List.length_cons, List.length_nil, Nat.reduceAdd, Nat.reduceSub, Array.replicate_succ, Array.replicate_zero, List.push_toArray, List.append_toArray, List.nil_append, List.cons_append]
  generalize hRF : Code.rangeFunc _ _ _ _ = RF0
  have HRF := Lib.hid hRF
  generalize hR10 : Code.region 10 _ _ = R10
  have HR10 := Lib.hid hR10
  clear hRF hR10
  go_wp2
  rw [← HRF.out]
  clear HRF hand0 hw1 c0 c0' c1 c1' c2 c2' c3 c3'
  obtain ⟨w0, ew0⟩ : ∃ w0, ((w.alloc (.cells #[.int .i64 (i : Int)] 3)).alloc (.cells #[.slice none 0 0] 29)).alloc (.cells #[.slice av n cap] 29) = w0 := ⟨_, rfl⟩
  rw [ew0] at hI0 hP0 hB0 hb0 HZ
  change Code.wp _ _ _ _ (((w.alloc (.cells #[.int .i64 (i : Int)] 3)).alloc (.cells #[.slice none 0 0] 29)).alloc (.cells #[.slice av n cap] 29))
  rw [ew0]
  clear ew0
  have hz0 := HZ.out
  refine (wpIn_wide (n := 0)).1 ?_
  refine wpIn_range_rows (w.heap.size + 1 + 1) (fun b => b = w.heap.size ∨ b = w.heap.size + 1) k l (.slice av n cap)
    (fun pre m W => ∃ pv, Row W w.heap.size 3 #[.int .i64 ((i / 2 ^ pre.length : Nat) : Int)] ∧ Row W (w.heap.size + 1) 29 #[pv] ∧ OwnD W (w.heap.size + 5) pv ((pathOf k l i).take pre.length) ∧ (∀ g, pv.ownBlock = some g → g < m) ∧ Below w.heap.size w W ∧ w.heap.size + 5 ≤ m)
    (fun x => { tmps := #[.slice av n cap, .int .i64 (i : Int), undef, .pointer (some ⟨w.heap.size, 0, none⟩), .slice none 0 0, .int .i64 0, .int .i64 (n : Int), .pointer (some ⟨w.heap.size + 1, 0, none⟩), x, .slice av n cap, .int .i64 (n : Int), .int .i64 (n : Int), .bool false, .bool false, .int .i64 (n : Int), .bool false, .bool false, .bool false, .int .i64 (n : Int), .int .i64 (n : Int), .int .i64 ((n : Int) - 1), .int .i64 0, .bool false, .bool false, .bool false, .int .i64 (i : Int), .bool false, .bool false, .bool false, .int .i64 (i : Int), .int .i64 (n : Int), .bool false, .bool false, .slice av n cap, .func (.func 50) #[] #[.pointer (some ⟨w.heap.size + 1 + 1, 0, none⟩)], x, undef, undef, undef, undef, undef, undef, undef, undef, undef, undef, undef, undef, undef, undef], defers := [] }) rfl HL.out hk H3.out (HV.out.later hb0) hB0 (hK.below hb0 hkl) (by omega) (by omega) (by omega) (fun b h => by omega) (fun b o n' c e h => by have := HVL.out b o n' c e; omega) ?_ ?_ ?_ ?_ ?_
  · rintro pre m A A' r ⟨pv, h1, h2, h3, h4, h5, h6⟩ hm hg hr
    have hr' : r = w.heap.size + 2 ∨ r = w.heap.size + 4 := by omega
    exact ⟨pv, h1.grown hg (fun e => by have := Option.some.inj e; omega), h2.grown hg (fun e => by have := Option.some.inj e; omega), h3.grown hg (by omega), h4, h5.grown hg h5.size (fun k hk => by have := Option.some.inj hk; omega), h6⟩
  · intro o o'
    refine ⟨.slice none 0 0, ?_, (hP0.alloc _).alloc _, OwnD.nil _ _, (fun g h => by cases h), (hb0.alloc (by omega) _).alloc (by simp; omega) _, by omega⟩
    simpa using (hI0.alloc o).alloc o'
  · intro x W K hKK
    refine regionIn_list rfl (fun ⟨_, _, h⟩ => h) ?_
    go_wp2
    exact hKK
  · rintro pre m v xs rest W1 hrows ⟨pv, h1, h2, h3, h4, h5, h6⟩ hbm hm hbx hd h32' hpos hap hK1
    obtain ⟨rfl, hj⟩ := rowsK_at pre k l xs rest hrows
    have hlen := upN_pow k pre.length l HL.out hj
    obtain ⟨j, hjj⟩ : ∃ j, pre.length = j := ⟨_, rfl⟩
    rw [hjj] at hj hlen h1 h3 hd h32' hpos ⊢
    have hi2 : i / 2 ^ j < 2 ^ (k - j) := by
      rw [Nat.div_lt_iff_lt_mul (Nat.two_pow_pos _), ← Nat.pow_add, Nat.sub_add_cancel hj]; exact hi
    have hi64 : i / 2 ^ j < 64 := Nat.lt_of_le_of_lt (Nat.div_le_self _ _) (by omega)
    obtain ⟨av', cap', rfl, hc1, hc2, ⟨h0, _⟩ | ⟨b, off, rfl, hat⟩⟩ := hd
    · rw [h0] at hpos; simp at hpos
    have hlj : (pre ++ [upN j l]).length = j + 1 := by simp [hjj]
    rw [hlj]
    refine path_round (w0.heap.size + 1) w.heap.size (w.heap.size + 1) (w.heap.size + 5) b off cap' (i / 2 ^ j) (upN j l) ((pathOf k l i).take j) pv W1 _ _ _ _ _ _ _ _ _ _ _ _ _ _ _ _ _ _ _ _ _ _ _ _ _ _ _ _ _ _ _ _ _ _ _ _ _ _ _ _ _ _ _ _ _ _ _ _ h1 h2 h3 hat h32' hi64 (by rw [hlen]; exact hi2) ?_ (by omega) (by omega) (by omega) (by omega) ?_ ?_
    · intro h1
      rw [hlen] at h1 ⊢
      obtain ⟨t, ht⟩ : ∃ t, k - j = t + 1 := by
        cases hkj : k - j with
        | zero => rw [hkj] at h1; simp at h1
        | succ t => exact ⟨t, rfl⟩
      rw [ht, Nat.pow_succ]; omega
    · rw [List.length_take, pathOf_len]; omega
    · intro pv' W' g1 g2 g3 g4
      have hpth : (if 1 < (upN j l).length then (pathOf k l i).take j ++ [(upN j l).getD (sib (i / 2 ^ j)) []] else (pathOf k l i).take j) = (pathOf k l i).take (j + 1) := by
        rw [hlen]
        by_cases hjk : j < k
        · have : 1 < 2 ^ (k - j) := Nat.one_lt_two_pow (by omega)
          rw [if_pos this, take_path k l i j hjk]
        · have : k - j = 0 := by omega
          rw [this, if_neg (by omega), List.take_of_length_le (by rw [pathOf_len]; omega), List.take_of_length_le (by rw [pathOf_len]; omega)]
      rw [hpth] at g3
      rw [Nat.div_div_eq_div_mul, ← Nat.pow_succ] at g1
      have hgb : ∀ g, pv'.ownBlock = some g → g < W'.heap.size := fun g hg => by
        obtain ⟨_, ⟨rfl, _⟩ | ⟨g', cap', cur, rfl, _, hh, _⟩⟩ := g3
        · cases hg
        · cases hg; exact (Array.getElem?_eq_some_iff.1 hh).1
      have hgs := g4.size
      have hob := h3.ownBlock
      refine ⟨⟨pv', g1, g2, g3, hgb, ⟨g4.os.trans h5.os, g4.tape.trans h5.tape, g4.output.trans h5.output, Nat.le_trans h5.size hgs, fun b hb => (g4.block b (by omega) ?_).trans (h5.block b hb)⟩, by omega⟩, g4.os, g4.tape, g4.output, hgs, fun b hb hx => g4.block b hb fun h => hx ?_⟩
      · rintro (h | h | h)
        · omega
        · omega
        · have := hob _ h; omega
      · rcases h with h | h | h
        · exact .inl (.inl h)
        · exact .inl (.inr h)
        · exact .inr ⟨by have := hob _ h; omega, h4 _ h⟩
  · rintro m W hm ⟨pv, h1, h2, h3, h4, h5, h6⟩ hD
    rw [rowsK_len, List.take_of_length_le (by rw [pathOf_len]; omega)] at h3
    have hdg := h3.digs
    obtain ⟨pa, pc, hpv⟩ := hdg.form
    rw [pathOf_len] at hpv
    subst hpv
    have hc2 := h2.cell 0
    have hc2' : W.cell? ⟨w.heap.size + 1, 0, none⟩ = some (.slice pa k pc) := hc2
    have hdl := h5
    have hds := h5.size
    clear hc2 h1 h2 hI0 hP0 hB0 hb0 hK h4 hdl
    go_wp2
    rw [← HR10.out]
    clear HR10
    go_wp2
    have hgp := grown_putObj W w0.heap.size (.deferred none)
    refine ⟨by simp, .inl ⟨_, _, rfl, run_takeDeferred hD, ?_⟩⟩
    exact ⟨_, results_tmp2 rfl _ _ _, _, rfl, (h3.grown hgp (by omega)).digs, h5.grown hgp hds (fun k hk => by have := Option.some.inj hk; omega)⟩
theorem path_any (l : List Dg) (v : Value) (idx : Int) (w : World) (hv : Digs w v l) (h32 : all32 l) (hK : KFact w) :
    Calls Tryd.prog 22 #[v, .int .i64 idx] w fun e w' => ∃ pv, e = .returned (.tuple #[pv, .int .i64 (errP l.length idx : Nat)]) ∧ Digs w' pv (pathR l idx) ∧ Below w.heap.size w w' := by
  cases hok : okPath l.length idx with
  | false => exact path_bad l v idx w hv hok
  | true =>
    obtain ⟨hp, h0, h1⟩ := (okPath_iff _ _).1 hok
    obtain ⟨k, hk, hl⟩ := (powB_iff _).1 hp
    obtain ⟨i, rfl⟩ := Int.eq_ofNat_of_zero_le h0
    have he : errP l.length (i : Int) = 0 := by unfold errP; rw [if_pos hok]
    have hr : pathR l (i : Int) = pathOf k l i := by unfold pathR; rw [if_pos hok, hl, log2_pow]; rfl
    rw [he, hr]
    exact path_ok k l v i w hv h32 hK hl hk (by rw [← hl]; omega)
end Go.Proofs.YteogcilnpkaplaaDoor

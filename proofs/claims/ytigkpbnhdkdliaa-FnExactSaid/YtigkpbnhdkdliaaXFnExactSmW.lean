/- The smoothest plan, walked by hand: what is found is given back. -/
import Derived.Test.YtigkpbnhdkdliaaXFnExactSmC
import Derived.Test.YtigkpbnhdkdliaaRvMapAll
import Derived.WalkKit
import Derived.Deep.LoopGhost
import Derived.Below
import Derived.OwnWalk
import Derived.Laws.StructEq
import Derived.WalkLawsBesides
namespace Go.Proofs.Ytigkpbnhdkdliaa.T
open Go.Rv Go.Rv.St Go.RowKit
set_option linter.unusedVariables false
set_option linter.unusedSimpArgs false
/-- what lay below, lies there still -/
structure Ext (w W : World) : Prop where
  size : w.heap.size ≤ W.heap.size
  same : ∀ b, b < w.heap.size → W.heap[b]? = w.heap[b]?
theorem Ext.refl (w : World) : Ext w w := ⟨Nat.le_refl _, fun _ _ => rfl⟩
theorem size_alloc (W : World) (o : Obj) : (W.alloc o).heap.size = W.heap.size + 1 := by
  show (W.heap.push o).size = _
  simp
theorem Ext.alloc {w W : World} (h : Ext w W) (o : Obj) : Ext w (W.alloc o) := ⟨by rw [size_alloc]; have := h.size; omega, fun b hb => by
  rw [← h.same b hb]
  have := h.size
  show (W.heap.push o)[b]? = _
  rw [Array.getElem?_push, if_neg (by omega)]⟩
theorem Ext.set {w W : World} (h : Ext w W) {a : Addr} (ha : w.heap.size ≤ a.block) (v : Value) : Ext w (W.setCell a v) := ⟨by rw [show (W.setCell a v).heap.size = W.heap.size by simp [World.setCell]]; exact h.size, fun b hb => by
  rw [← h.same b hb]
  exact Below.heap_setCell W a v b (by omega)⟩
theorem Ext.fresh {w W : World} (h : Ext w W) (h1 : W.os = w.os) (h2 : W.tape = w.tape) (h3 : W.output = w.output) : Fresh w W := ⟨h1, h2, h3, h.size, h.same⟩
theorem wpList_look {P : Program} {ops : Array Oper} {rest : List Oper} {o : Oper} {a : Act} {w : World} {Q : Exit → Act → World → Prop} (hgd : o.guard = none) (t : TypeId) (m k : Operand) (c : Bool) (ho : o.op = .lookup t m k c) (mv kv : Value) (hm : a.eval m = mv) (hk : a.eval k = kv) {v : Value}
    (hr : (Instr.lookup t mv kv c).run P w = .ok v w) (h : wpList P ops Q rest (a.put o.dst v) w) : wpList P ops Q (o :: rest) a w :=
  wpList_plain hgd fun _ hK => wp_value (v := v) (w' := w) (by simp only [execOp, ho, hm, hk, Sem.run_bind, hr, Result.andThen_ok, Sem.run_pure]) (hK _ _ h)
set_option maxHeartbeats 2000000 in
set_option maxRecDepth 100000 in
theorem smooth_hit (M H x y z n s : Int) (hn : (n == 0) = false) (kn mv : Value) (A : Option Addr) (len cap : Nat) (okb : Bool) (w : World) (h1 : ∀ W, Ext w W → (Instr.lookup 74 kn (.agg #[.int .i64 x, .int .i64 y, .int .i64 z]) false).run Try.prog W = .ok mv W)
    (h2 : ∀ W, Ext w W → (Instr.lookup 89 mv (.int .i64 n) true).run Try.prog W = .ok (.tuple #[.agg #[.int .i64 s, .slice A len cap, .bool okb], .bool true]) W) :
    Calls Try.prog 39 #[.agg #[.int .i64 M, .int .i64 H], .agg #[.int .i64 x, .int .i64 y, .int .i64 z], .int .i64 n, kn] w fun e w' => e = .returned (.agg #[.int .i64 s, .slice A len cap, .bool okb]) ∧ Fresh w w' := by
  go_enter Try.func39, Try.ntmps39
  go_wp2_with (first
    | (refine wpList_look rfl 74 (.tmp 25) (.tmp 26) false rfl kn (.agg #[.int .i64 x, .int .i64 y, .int .i64 z]) rfl rfl (h1 _ ?ee) ?_; case ee => (repeat (first | exact Ext.refl _ | refine Ext.alloc ?_ _ | refine Ext.set ?_ (by simp) _)))
    | (refine wpList_look rfl 89 (.tmp 27) (.tmp 28) true rfl mv (.int .i64 n) rfl rfl (h2 _ ?ee) ?_; case ee => (repeat (first | exact Ext.refl _ | refine Ext.alloc ?_ _ | refine Ext.set ?_ (by simp) _))))
  exact bodyPost_ret (v := .agg #[.int .i64 s, .slice A len cap, .bool okb]) (by simp [results, Try.results39, go_sem]) rfl ⟨rfl, Ext.fresh ((((Ext.refl w).alloc _).alloc _).alloc _ |>.alloc _) rfl rfl rfl⟩
/-! ### rows and plans that lie in told blocks -/
def RowD (D : Nat → Prop) (w : World) (xs : List Int) (v : Value) : Prop := ∃ A cap, v = .slice A xs.length cap ∧ xs.length ≤ cap ∧ ∀ i x, xs[i]? = some x → ∃ (b off : Nat) (arr : Array Value) (e : TypeId), A = some ⟨b, off, none⟩ ∧ D b ∧ w.heap[b]? = some (.cells arr e (0, 0)) ∧ arr[off + i]? = some (.int .i64 x)
def SolD (D : Nat → Prop) (w : World) (s : Sol) (v : Value) : Prop := ∃ rv, v = .agg #[.int .i64 s.1, rv, .bool s.2.2] ∧ RowD D w s.2.1 rv
def InnerD (D : Nat → Prop) (M H : Int) (w : World) (c : C) (b : Nat) : Prop := MapAll Try.prog 2 w b fun key val => ∃ n : Nat, n ≤ 8 ∧ key = .int .i64 n ∧ SolD D w (sm M H n c) val
def Memo (B : Nat) (D : Nat → Prop) (M H : Int) (w : World) (b0 : Nat) : Prop := B ≤ b0 ∧ ∃ γ : Nat → C, MapAll Try.prog 27 w b0 fun key val => ∃ b, val = .map (some b) ∧ key = cv (γ b) ∧ ins M (γ b) = true ∧ B ≤ b ∧ b ≠ b0 ∧ InnerD D M H w (γ b) b
/-- rows and maps that were, are what they were; what lies below B has not turned -/
structure Keep (B : Nat) (w w' : World) : Prop where
  os : w'.os = w.os
  tape : w'.tape = w.tape
  output : w'.output = w.output
  heap : w.heap.size ≤ w'.heap.size
  old : ∀ b, b < B → w'.heap[b]? = w.heap[b]?
  cells : ∀ (b : Nat) (arr : Array Value) (e : TypeId) (f : Nat × Nat), w.heap[b]? = some (.cells arr e f) → w'.heap[b]? = some (.cells arr e f)
theorem heap_lt {w : World} {b : Nat} {o : Obj} (h : w.heap[b]? = some o) : b < w.heap.size := (Array.getElem?_eq_some_iff.1 h).1
theorem Fresh.keep {w w' : World} (h : Fresh w w') {B : Nat} (hB : B ≤ w.heap.size) : Keep B w w' := ⟨h.os, h.tape, h.output, h.heap, fun b hb => h.old b (by omega), fun b arr e f hc => (h.old b (heap_lt hc)).trans hc⟩
theorem Keep.trans {B : Nat} {a b c : World} (h : Keep B a b) (k : Keep B b c) : Keep B a c := ⟨k.os.trans h.os, k.tape.trans h.tape, k.output.trans h.output, Nat.le_trans h.heap k.heap, fun x hx => (k.old x hx).trans (h.old x hx), fun x arr e f hc => k.cells x arr e f (h.cells x arr e f hc)⟩
theorem RowD.move {D D' : Nat → Prop} {w w' : World} {xs : List Int} {v : Value} (h : RowD D w xs v) (hD : ∀ b, D b → D' b) (hc : ∀ (b : Nat) (arr : Array Value) (e : TypeId), D b → w.heap[b]? = some (.cells arr e (0, 0)) → w'.heap[b]? = some (.cells arr e (0, 0))) : RowD D' w' xs v := by
  obtain ⟨A, cap, h1, h2, h3⟩ := h
  refine ⟨A, cap, h1, h2, fun i x hi => ?_⟩
  obtain ⟨b, off, arr, e, q1, q2, q3, q4⟩ := h3 i x hi
  exact ⟨b, off, arr, e, q1, hD b q2, hc b arr e q2 q3, q4⟩
theorem SolD.move {D D' : Nat → Prop} {w w' : World} {s : Sol} {v : Value} (h : SolD D w s v) (hD : ∀ b, D b → D' b) (hc : ∀ (b : Nat) (arr : Array Value) (e : TypeId), D b → w.heap[b]? = some (.cells arr e (0, 0)) → w'.heap[b]? = some (.cells arr e (0, 0))) : SolD D' w' s v := by
  obtain ⟨rv, h1, h2⟩ := h
  exact ⟨rv, h1, h2.move hD hc⟩
/-- maps and the rows of D are what they were -/
structure Same (D : Nat → Prop) (w w' : World) : Prop where
  maps : ∀ (b : Nat) (es : Array MapEntry) (cl : Nat), w.heap[b]? = some (.map es cl) → w'.heap[b]? = some (.map es cl)
  rows : ∀ (b : Nat) (arr : Array Value) (e : TypeId), D b → w.heap[b]? = some (.cells arr e (0, 0)) → w'.heap[b]? = some (.cells arr e (0, 0))
theorem InnerD.move {D D' : Nat → Prop} {M H : Int} {w w' : World} {c : C} {b : Nat} (h : InnerD D M H w c b) (hD : ∀ b, D b → D' b) (hs : Same D w w') : InnerD D' M H w' c b := by
  obtain ⟨es, cl, e1, en, e2⟩ := h
  refine ⟨es, cl, hs.maps b es cl e1, en, fun e he => ⟨(e2 e he).1, ?_⟩⟩
  obtain ⟨n, n1, n2, n3⟩ := (e2 e he).2
  exact ⟨n, n1, n2, n3.move hD hs.rows⟩
theorem Memo.move {B : Nat} {D D' : Nat → Prop} {M H : Int} {w w' : World} {b0 : Nat} (h : Memo B D M H w b0) (hD : ∀ b, D b → D' b) (hs : Same D w w') : Memo B D' M H w' b0 := by
  obtain ⟨hB, γ, es, cl, e1, en, e2⟩ := h
  refine ⟨hB, γ, es, cl, hs.maps b0 es cl e1, en, fun e he => ⟨(e2 e he).1, ?_⟩⟩
  obtain ⟨b, n1, n2, n3, n4, n5, n6⟩ := (e2 e he).2
  exact ⟨b, n1, n2, n3, n4, n5, n6.move hD hs⟩
theorem Fresh.same {w w' : World} (h : Fresh w w') (D : Nat → Prop) : Same D w w' := ⟨fun b es cl e => (h.old b (heap_lt e)).trans e, fun b arr e _ q => (h.old b (heap_lt q)).trans q⟩
theorem Ext.same' {w w' : World} (h : Ext w w') (D : Nat → Prop) : Same D w w' := ⟨fun b es cl e => (h.same b (heap_lt e)).trans e, fun b arr e _ q => (h.same b (heap_lt q)).trans q⟩
/-! ### one more turn ahead of a row -/
theorem RowD.rs {D : Nat → Prop} {w : World} {xs : List Int} {v : Value} (h : RowD D w xs v) : RS w (fun _ _ => True) (.int .i64) xs v := by
  obtain ⟨A, cap, h1, h2, h3⟩ := h
  refine ⟨A, cap, by rw [h1], h2, fun i x hi => ?_⟩
  obtain ⟨b, off, arr, e, q1, q2, q3, q4⟩ := h3 i x hi
  refine ⟨⟨b, off, none⟩, [.int .i64 x], q1, rfl, rfl, fun j u hj => ⟨trivial, ?_⟩⟩
  match j, hj with
  | 0, hj =>
    cases hj
    rw [cell_of_row w b _ arr e (0, 0) q3]
    simpa [Ty.cells] using q4
  | j + 1, hj => simp at hj
theorem app_row {D : Nat → Prop} {W : World} {X : Nat} {t : Int} {e0 : TypeId} {ys : List Int} {v : Value} (hX : W.heap[X]? = some (.cells #[.int .i64 t] e0 (0, 0))) (hv : RowD D W ys v) (hl : ys.length ≤ 100) (ty : TypeId) :
    ∃ b' cap' W', (Builtin.append_ #[33, 33] ty #[.slice (some ⟨X, 0, none⟩) 1 1, v]).run Try.prog W = .ok (.slice (some ⟨b', 0, none⟩) (ys.length + 1) cap') W' ∧ Fresh W W' ∧ X ≤ b' ∧ RowD (fun b => b = b') W' (t :: ys) (.slice (some ⟨b', 0, none⟩) (ys.length + 1) cap') := by
  have hXl := heap_lt hX
  obtain ⟨e, he, ⟨ii, z, e1, e2, e3, e4, e5⟩⟩ := ti_slice R0.tab (show R0.X.sl 33 = some (.int .i64) from rfl)
  have e2 : ii.size = 1 := e2
  obtain ⟨news, s1, s2, s3, s4⟩ := src_of (P := Try.prog) hv.rs
  have s2 : news.length = ys.length := by simpa [Ty.cells] using s2
  have s1 : Src Try.prog W ii.size ys.length v news := by rw [e2]; exact s1
  have hnews : ∀ (i : Nat) (x : Int), ys[i]? = some x → news[i]? = some (Value.int .i64 x) := fun i x hi => by
    obtain ⟨ecs, r1, r2⟩ := s4 i x hi
    have r1 : ecs = [.int .i64 x] := r1
    subst r1
    have := r2 0 _ rfl
    simpa [Ty.cells] using this
  by_cases hm : ys.length = 0
  · have hys : ys = [] := List.eq_nil_of_length_eq_zero hm
    subst hys
    have hn : news = [] := List.eq_nil_of_length_eq_zero (by simpa using s2)
    subst hn
    have hrun := run_append_in (ty := ty) (P := Try.prog) 33 e ii he e1 X 1 1 e0 #[.int .i64 t] hX s1 (by simp) (by simp) (by simp [e2])
    refine ⟨X, 1, _, by simpa using hrun, ?_, Nat.le_refl _, ?_⟩
    · have hrow := setRow_heap W X _ #[Value.int .i64 t] e0 (0, 0) hX
      refine ⟨rfl, rfl, rfl, by simp [World.setRow], fun b hb => ?_⟩
      by_cases hbx : b = X
      · subst hbx
        rw [hrow, hX]
      · exact setRow_other W X b _ hbx
    · have hh := setRow_heap W X _ #[Value.int .i64 t] e0 (0, 0) hX
      refine ⟨_, 1, rfl, by simp, fun i x hi => ⟨X, 0, _, e0, rfl, rfl, hh, ?_⟩⟩
      match i, hi with
      | 0, hi => cases hi; rfl
      | i + 1, hi => simp at hi
  · obtain ⟨olds, o1, o2, o3, o4⟩ := src_of (P := Try.prog) (show RS W (fun _ _ => True) (.int .i64) [t] (.slice (some ⟨X, 0, none⟩) 1 1) from RowD.rs (D := fun _ => True) ⟨_, 1, rfl, by simp, fun i x hi => ⟨X, 0, _, e0, rfl, trivial, hX, by
      match i, hi with
      | 0, hi => cases hi; rfl
      | i + 1, hi => simp at hi⟩⟩)
    have o2 : olds.length = 1 := by simpa [Ty.cells] using o2
    have o1 : Src Try.prog W ii.size 1 (.slice (some ⟨X, 0, none⟩) 1 1) olds := by rw [e2]; exact o1
    have hold : olds[0]? = some (.int .i64 t) := by
      obtain ⟨ecs, r1, r2⟩ := o4 0 t rfl
      have r1 : ecs = [.int .i64 t] := r1
      subst r1
      have := r2 0 _ rfl
      simpa [Ty.cells] using this
    have hlim : 1 + ys.length < lim (.int .i64) := by
      have : (200 : Nat) < lim (.int .i64) := by decide
      omega
    have hb48 := bytes_lim hlim e3
    have hg : 1 < 1 + ys.length := by omega
    have hrun := run_append_new (ty := ty) 33 e ii z he e1 e4 rfl o1 s1 hg (lim_max hlim) (growslice_fits hg hb48)
    have hge := grownCap_ge W (1 + ys.length) 1 e
    generalize grownCap W (1 + ys.length) 1 e = C at *
    obtain ⟨W', hW'⟩ : ∃ W', W' = W.drew.alloc (.cells (olds.toArray ++ news.toArray ++ Builtin.zeroCells z.cells (C - (1 + ys.length))) e) := ⟨_, rfl⟩
    rw [← hW'] at hrun
    have hh : W'.heap = W.heap.push (.cells (olds.toArray ++ news.toArray ++ Builtin.zeroCells z.cells (C - (1 + ys.length))) e) := by rw [hW']; rfl
    have h1 : W'.os = W.os ∧ W'.tape = W.tape ∧ W'.output = W.output := by rw [hW']; exact ⟨rfl, rfl, rfl⟩
    refine ⟨W.heap.size, C, W', by rw [Nat.add_comm ys.length 1]; exact hrun, ⟨h1.1, h1.2.1, h1.2.2, by rw [hh]; simp, fun b hb => ?_⟩, by omega, ?_⟩
    · rw [hh, Array.getElem?_push, if_neg (by omega)]
    · refine ⟨_, C, by rw [List.length_cons], by rw [List.length_cons]; omega, fun i x hi => ⟨W.heap.size, 0, _, e, rfl, rfl, (by rw [hh, Array.getElem?_push, if_pos rfl]), ?_⟩⟩
      rw [Nat.zero_add, ← Array.getElem?_toList]
      simp only [Array.toList_append, List.append_assoc]
      match i, hi with
      | 0, hi =>
        cases hi
        rw [List.getElem?_append_left (by omega)]
        exact hold
      | i + 1, hi =>
        have hi : ys[i]? = some x := by simpa using hi
        have hil := (List.getElem?_eq_some_iff.1 hi).1
        rw [List.getElem?_append_right (by omega), o2, Nat.add_sub_cancel, List.getElem?_append_left (by omega)]
        exact hnews i x hi
end Go.Proofs.Ytigkpbnhdkdliaa.T

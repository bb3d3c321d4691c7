/- The smoothest plan, walked by hand: what is not known is sought. -/
import Derived.Test.YtigkpbnhdkdliaaXFnExactSmW
namespace Go.Proofs.Ytigkpbnhdkdliaa.T
open Go.Rv Go.Rv.St Go.RowKit
set_option linter.unusedVariables false
set_option linter.unusedSimpArgs false
theorem wpList_app {P : Program} {ops : Array Oper} {rest : List Oper} {o : Oper} {a : Act} {w : World} {Q : Exit → Act → World → Prop} (hgd : o.guard = none) (d s : Operand) (t t' : TypeId)
    (ho : o.op = .call { callee := .builtin .append, args := #[d, s], argTypes := #[t, t'] }) (v u : Value) (hd : a.eval d = v) (hs : a.eval s = u) {Post : Value → World → Prop}
    (hr : ∃ v' w', (Builtin.append_ #[t, t'] o.type #[v, u]).run P w = .ok v' w' ∧ Post v' w') (h : ∀ v' w', Post v' w' → wpList P ops Q rest (a.put o.dst v') w') : wpList P ops Q (o :: rest) a w := by
  obtain ⟨v', w', hr, hp⟩ := hr
  refine wpList_plain hgd fun _ hK => ?_
  unfold Oper.wp execOp
  simp only [ho, resolve, invoke, builtin, Sem.run_bind, Sem.run_pure, Result.andThen_ok, List.map_toArray, List.map_cons, List.map_nil, hd, hs, hr]
  exact hK _ _ (h v' w' hp)
theorem wr64 (i : Int) (h0 : -9223372036854775808 ≤ i) (h1 : i ≤ 9223372036854775807) : RowKit.wrap64 i = i := by unfold RowKit.wrap64; omega
/-- the boxes of the walk -/
structure Bx (n0 : Nat) (M H x y z s : Int) (Ao : Option Addr) (lo co : Nat) (ok : Bool) (W : World) : Prop where
  bL : W.heap[n0]? = some (.cells #[.int .i64 M, .int .i64 H] 25 (0, 0))
  bC : W.heap[n0 + 1]? = some (.cells #[.int .i64 x, .int .i64 y, .int .i64 z] 27 (0, 0))
  bR : W.heap[n0 + 1 + 1]? = some (.cells #[.int .i64 0, .slice none 0 0, .bool false] 72 (0, 0))
  bO : W.heap[n0 + 1 + 1 + 1 + 1]? = some (.cells #[.int .i64 s, .slice Ao lo co, .bool ok] 72 (0, 0))
section
variable {n0 : Nat} {M H x y z s : Int} {Ao : Option Addr} {lo co : Nat} {ok : Bool} {W W' : World}
theorem Bx.of (h : Bx n0 M H x y z s Ao lo co ok W) (hc : ∀ (b : Nat) (arr : Array Value) (e : TypeId), W.heap[b]? = some (.cells arr e (0, 0)) → W'.heap[b]? = some (.cells arr e (0, 0))) : Bx n0 M H x y z s Ao lo co ok W' := ⟨hc _ _ _ h.bL, hc _ _ _ h.bC, hc _ _ _ h.bR, hc _ _ _ h.bO⟩
theorem Ext.cells {w W : World} (h : Ext w W) (b : Nat) (arr : Array Value) (e : TypeId) (hc : w.heap[b]? = some (.cells arr e (0, 0))) : W.heap[b]? = some (.cells arr e (0, 0)) := (h.same b (heap_lt hc)).trans hc
theorem Fresh.cells {w W : World} (h : Fresh w W) (b : Nat) (arr : Array Value) (e : TypeId) (hc : w.heap[b]? = some (.cells arr e (0, 0))) : W.heap[b]? = some (.cells arr e (0, 0)) := (h.old b (heap_lt hc)).trans hc
theorem Bx.cL (h : Bx n0 M H x y z s Ao lo co ok W) : W.cell? ⟨n0, 0, none⟩ = some (.int .i64 M) ∧ W.cell? ⟨n0, 1, none⟩ = some (.int .i64 H) := ⟨by rw [cell_of_row W _ _ _ _ _ h.bL]; rfl, by rw [cell_of_row W _ _ _ _ _ h.bL]; rfl⟩
theorem Bx.cC (h : Bx n0 M H x y z s Ao lo co ok W) : W.cell? ⟨n0 + 1, 0, none⟩ = some (.int .i64 x) ∧ W.cell? ⟨n0 + 1, 1, none⟩ = some (.int .i64 y) ∧ W.cell? ⟨n0 + 1, 2, none⟩ = some (.int .i64 z) := ⟨by rw [cell_of_row W _ _ _ _ _ h.bC]; rfl, by rw [cell_of_row W _ _ _ _ _ h.bC]; rfl, by rw [cell_of_row W _ _ _ _ _ h.bC]; rfl⟩
theorem Bx.cR (h : Bx n0 M H x y z s Ao lo co ok W) : W.cell? ⟨n0 + 1 + 1, 0, none⟩ = some (.int .i64 0) ∧ W.cell? ⟨n0 + 1 + 1, 1, none⟩ = some (.slice none 0 0) ∧ W.cell? ⟨n0 + 1 + 1, 2, none⟩ = some (.bool false) := ⟨by rw [cell_of_row W _ _ _ _ _ h.bR]; rfl, by rw [cell_of_row W _ _ _ _ _ h.bR]; rfl, by rw [cell_of_row W _ _ _ _ _ h.bR]; rfl⟩
theorem Bx.cO (h : Bx n0 M H x y z s Ao lo co ok W) : W.cell? ⟨n0 + 1 + 1 + 1 + 1, 0, none⟩ = some (.int .i64 s) ∧ W.cell? ⟨n0 + 1 + 1 + 1 + 1, 1, none⟩ = some (.slice Ao lo co) ∧ W.cell? ⟨n0 + 1 + 1 + 1 + 1, 2, none⟩ = some (.bool ok) := ⟨by rw [cell_of_row W _ _ _ _ _ h.bO]; rfl, by rw [cell_of_row W _ _ _ _ _ h.bO]; rfl, by rw [cell_of_row W _ _ _ _ _ h.bO]; rfl⟩
theorem frozen_of {b : Nat} {arr : Array Value} {e : TypeId} (h : W.heap[b]? = some (.cells arr e (0, 0))) (o : Nat) : W.frozen? ⟨b, o, none⟩ = false := by
  unfold World.frozen?
  simp [h]
end
theorem Fresh.refl (w : World) : Fresh w w := ⟨rfl, rfl, rfl, Nat.le_refl _, fun _ _ => rfl⟩
theorem Fresh.trans {a b c : World} (h : Fresh a b) (k : Fresh b c) : Fresh a c := ⟨k.os.trans h.os, k.tape.trans h.tape, k.output.trans h.output, Nat.le_trans h.heap k.heap, fun x hx => (k.old x (Nat.lt_of_lt_of_le hx h.heap)).trans (h.old x hx)⟩
theorem Fresh.alloc {w W : World} (h : Fresh w W) (o : Obj) : Fresh w (W.alloc o) := ⟨h.os, h.tape, h.output, by rw [size_alloc]; have := h.heap; omega, fun b hb => by
  rw [← h.old b hb]
  have := h.heap
  show (W.heap.push o)[b]? = _
  rw [Array.getElem?_push, if_neg (by omega)]⟩
theorem alloc_new (W : World) (o : Obj) (n : Nat) (hn : W.heap.size = n) : (W.alloc o).heap[n]? = some o := by
  show (W.heap.push o)[n]? = _
  rw [Array.getElem?_push, if_pos hn.symm]
theorem alloc_old (W : World) (o : Obj) (n : Nat) (hn : n < W.heap.size) : (W.alloc o).heap[n]? = W.heap[n]? := by
  show (W.heap.push o)[n]? = _
  rw [Array.getElem?_push, if_neg (by omega)]
theorem five (w : World) (o1 o2 o3 o4 o5 : Obj) : (((((w.alloc o1).alloc o2).alloc o3).alloc o4).alloc o5).heap[w.heap.size]? = some o1 ∧ (((((w.alloc o1).alloc o2).alloc o3).alloc o4).alloc o5).heap[w.heap.size + 1]? = some o2 ∧
    (((((w.alloc o1).alloc o2).alloc o3).alloc o4).alloc o5).heap[w.heap.size + 1 + 1]? = some o3 ∧ (((((w.alloc o1).alloc o2).alloc o3).alloc o4).alloc o5).heap[w.heap.size + 1 + 1 + 1 + 1]? = some o5 := by
  refine ⟨?_, ?_, ?_, ?_⟩
  · rw [alloc_old _ _ _ (by simp only [size_alloc]; omega), alloc_old _ _ _ (by simp only [size_alloc]; omega), alloc_old _ _ _ (by simp only [size_alloc]; omega), alloc_old _ _ _ (by simp only [size_alloc]; omega), alloc_new _ _ _ rfl]
  · rw [alloc_old _ _ _ (by simp only [size_alloc]; omega), alloc_old _ _ _ (by simp only [size_alloc]; omega), alloc_old _ _ _ (by simp only [size_alloc]; omega), alloc_new _ _ _ (size_alloc _ _)]
  · rw [alloc_old _ _ _ (by simp only [size_alloc]; omega), alloc_old _ _ _ (by simp only [size_alloc]; omega), alloc_new _ _ _ (by simp only [size_alloc])]
  · rw [alloc_new _ _ _ (by simp only [size_alloc])]
/-- what holds in the midst of the loop -/
structure Mid (B : Nat) (M H x y z : Int) (b0 : Nat) (w : World) (T : List Int) (A : Option Addr) (o : Sol) (D : Nat → Prop) (Ao : Option Addr) (lo co : Nat) (W : World) : Prop where
  hB : B ≤ w.heap.size
  keep : Keep B w W
  big : w.heap.size + 5 ≤ W.heap.size
  row : ∀ (i : Nat) (t : Int), T[i]? = some t → ∃ (b off : Nat) (arr : Array Value) (e : TypeId), A = some ⟨b, off, none⟩ ∧ W.heap[b]? = some (.cells arr e (0, 0)) ∧ arr[off + i]? = some (.int .i64 t)
  rowb : ∀ (b off : Nat), A = some ⟨b, off, none⟩ → 0 < T.length → w.heap.size + 5 ≤ b
  memo : Memo B D M H W b0
  dlt : ∀ b, D b → b < W.heap.size ∧ (b < w.heap.size ∨ w.heap.size + 5 ≤ b)
  bx : Bx w.heap.size M H x y z o.1 Ao lo co o.2.2 W
  rw : RowD D W o.2.1 (.slice Ao lo co)
section
variable {B : Nat} {M H x y z : Int} {b0 : Nat} {w : World} {T : List Int} {A : Option Addr} {o : Sol} {D D' : Nat → Prop} {Ao : Option Addr} {lo co : Nat} {W W' : World}
theorem Mid.call (h : Mid B M H x y z b0 w T A o D Ao lo co W) (hk : Keep B W W') (hm : Memo B D' M H W' b0) (hd : ∀ b, D' b → b < W'.heap.size) (h1 : ∀ b, D b → D' b) (h2 : ∀ b, D' b → D b ∨ W.heap.size ≤ b) : Mid B M H x y z b0 w T A o D' Ao lo co W' where
  hB := h.hB
  keep := h.keep.trans hk
  big := Nat.le_trans h.big hk.heap
  row := fun i t hi => by
    obtain ⟨b, off, arr, e, q1, q2, q3⟩ := h.row i t hi
    exact ⟨b, off, arr, e, q1, hk.cells _ _ _ _ q2, q3⟩
  rowb := h.rowb
  memo := hm
  dlt := fun b hb => ⟨hd b hb, by
    rcases h2 b hb with e | e
    · exact (h.dlt b e).2
    · have := h.big; omega⟩
  bx := h.bx.of fun b arr e => hk.cells b arr e (0, 0)
  rw := h.rw.move h1 fun b arr e _ => hk.cells b arr e (0, 0)
theorem Mid.fresh (h : Mid B M H x y z b0 w T A o D Ao lo co W) (hf : Fresh W W') : Mid B M H x y z b0 w T A o D Ao lo co W' :=
  h.call (Fresh.keep hf (Nat.le_trans h.hB (Nat.le_trans (by have := h.big; omega) (Nat.le_refl _)))) (h.memo.move (fun _ h => h) (Fresh.same hf D)) (fun b hb => Nat.lt_of_lt_of_le (h.dlt b hb).1 hf.heap) (fun _ h => h) (fun _ h => .inl h)
theorem Mid.more (h : Mid B M H x y z b0 w T A o D Ao lo co W) {b' : Nat} (hb : b' < W.heap.size) (h5 : w.heap.size + 5 ≤ b') : Mid B M H x y z b0 w T A o (fun b => D b ∨ b = b') Ao lo co W where
  hB := h.hB
  keep := h.keep
  big := h.big
  row := h.row
  rowb := h.rowb
  memo := h.memo.move (fun b hb => .inl hb) ⟨fun _ _ _ e => e, fun _ _ _ _ e => e⟩
  dlt := fun b e => by
    rcases e with e | rfl
    · exact h.dlt b e
    · exact ⟨hb, .inr h5⟩
  bx := h.bx
  rw := h.rw.move (fun b hb => .inl hb) fun _ _ _ _ e => e
theorem Mid.store (h : Mid B M H x y z b0 w T A o D Ao lo co W) {s' : Int} {ts : List Int} {A' : Option Addr} {l' c' : Nat} (hr : RowD D W ts (.slice A' l' c')) :
    Mid B M H x y z b0 w T A (s', ts, true) D A' l' c' (((W.setCell ⟨w.heap.size + 1 + 1 + 1 + 1, 0, none⟩ (.int .i64 s')).setCell ⟨w.heap.size + 1 + 1 + 1 + 1, 1, none⟩ (.slice A' l' c')).setCell ⟨w.heap.size + 1 + 1 + 1 + 1, 2, none⟩ (.bool true)) := by
  have e1 := heap_setCell_same W (w.heap.size + 1 + 1 + 1 + 1) 0 _ _ (.int .i64 s') h.bx.bO
  have e2 := heap_setCell_same _ (w.heap.size + 1 + 1 + 1 + 1) 1 _ _ (.slice A' l' c') e1
  have e3 := heap_setCell_same _ (w.heap.size + 1 + 1 + 1 + 1) 2 _ _ (.bool true) e2
  have oth : ∀ b, b ≠ w.heap.size + 1 + 1 + 1 + 1 → (((W.setCell ⟨w.heap.size + 1 + 1 + 1 + 1, 0, none⟩ (.int .i64 s')).setCell ⟨w.heap.size + 1 + 1 + 1 + 1, 1, none⟩ (.slice A' l' c')).setCell ⟨w.heap.size + 1 + 1 + 1 + 1, 2, none⟩ (.bool true)).heap[b]? = W.heap[b]? := fun b hb => by
    rw [Below.heap_setCell _ _ _ b hb, Below.heap_setCell _ _ _ b hb, Below.heap_setCell _ _ _ b hb]
  have hsz : (((W.setCell ⟨w.heap.size + 1 + 1 + 1 + 1, 0, none⟩ (.int .i64 s')).setCell ⟨w.heap.size + 1 + 1 + 1 + 1, 1, none⟩ (.slice A' l' c')).setCell ⟨w.heap.size + 1 + 1 + 1 + 1, 2, none⟩ (.bool true)).heap.size = W.heap.size := by simp [World.setCell]
  have hos : (((W.setCell ⟨w.heap.size + 1 + 1 + 1 + 1, 0, none⟩ (.int .i64 s')).setCell ⟨w.heap.size + 1 + 1 + 1 + 1, 1, none⟩ (.slice A' l' c')).setCell ⟨w.heap.size + 1 + 1 + 1 + 1, 2, none⟩ (.bool true)).os = W.os := rfl
  have htp : (((W.setCell ⟨w.heap.size + 1 + 1 + 1 + 1, 0, none⟩ (.int .i64 s')).setCell ⟨w.heap.size + 1 + 1 + 1 + 1, 1, none⟩ (.slice A' l' c')).setCell ⟨w.heap.size + 1 + 1 + 1 + 1, 2, none⟩ (.bool true)).tape = W.tape := rfl
  have hou : (((W.setCell ⟨w.heap.size + 1 + 1 + 1 + 1, 0, none⟩ (.int .i64 s')).setCell ⟨w.heap.size + 1 + 1 + 1 + 1, 1, none⟩ (.slice A' l' c')).setCell ⟨w.heap.size + 1 + 1 + 1 + 1, 2, none⟩ (.bool true)).output = W.output := rfl
  generalize (((W.setCell ⟨w.heap.size + 1 + 1 + 1 + 1, 0, none⟩ (.int .i64 s')).setCell ⟨w.heap.size + 1 + 1 + 1 + 1, 1, none⟩ (.slice A' l' c')).setCell ⟨w.heap.size + 1 + 1 + 1 + 1, 2, none⟩ (.bool true)) = W' at *
  have hB := h.hB
  have hrows : ∀ (b : Nat) (arr : Array Value) (e : TypeId), D b → W.heap[b]? = some (.cells arr e (0, 0)) → W'.heap[b]? = some (.cells arr e (0, 0)) := fun b arr e hb hc => by
    rw [oth b (by have := (h.dlt b hb).2; omega)]; exact hc
  have hsame : Same D W W' := ⟨fun b es cl hc => by
    rw [oth b (fun e => by rw [e, h.bx.bO] at hc; cases hc)]; exact hc, hrows⟩
  exact {
    hB := h.hB
    keep := ⟨hos.trans h.keep.os, htp.trans h.keep.tape, hou.trans h.keep.output, by rw [hsz]; exact h.keep.heap, fun b hb => (oth b (by omega)).trans (h.keep.old b hb), fun b arr e f hc => by
      have := heap_lt hc
      rw [oth b (by omega)]; exact h.keep.cells b arr e f hc⟩
    big := by rw [hsz]; exact h.big
    row := fun i t hi => by
      obtain ⟨b, off, arr, e, q1, q2, q3⟩ := h.row i t hi
      have hl : 0 < T.length := by have := (List.getElem?_eq_some_iff.1 hi).1; omega
      have := h.rowb b off q1 hl
      exact ⟨b, off, arr, e, q1, by rw [oth b (by omega)]; exact q2, q3⟩
    rowb := h.rowb
    memo := h.memo.move (fun _ h => h) hsame
    dlt := fun b hb => by rw [hsz]; exact h.dlt b hb
    bx := ⟨by rw [oth _ (by omega)]; exact h.bx.bL, by rw [oth _ (by omega)]; exact h.bx.bC, by rw [oth _ (by omega)]; exact h.bx.bR, e3⟩
    rw := hr.move (fun _ h => h) hrows }
theorem Mid.app (h : Mid B M H x y z b0 w T A o D Ao lo co W) {ts : List Int} {A' : Option Addr} {l c : Nat} (hr : RowD D W ts (.slice A' l c)) (hl : ts.length ≤ 100) {X : Nat} {e0 : TypeId} {t : Int} (hX : W.heap[X]? = some (.cells #[.int .i64 t] e0 (0, 0))) (h5 : w.heap.size + 5 ≤ X) (ty : TypeId) :
    ∃ v' W', (Builtin.append_ #[33, 33] ty #[.slice (some ⟨X, 0, none⟩) 1 1, .slice A' l c]).run Try.prog W = .ok v' W' ∧ ∃ (b' c' : Nat), v' = .slice (some ⟨b', 0, none⟩) (l + 1) c' ∧ w.heap.size ≤ b' ∧ Mid B M H x y z b0 w T A o (fun b => D b ∨ b = b') Ao lo co W' ∧ RowD (fun b => D b ∨ b = b') W' (t :: ts) v' := by
  have hll : l = ts.length := by
    obtain ⟨A1, c1, e1, _⟩ := hr
    simp only [Value.slice.injEq] at e1
    exact e1.2.1
  subst hll
  obtain ⟨b', c', W', q1, q2, q3, q4⟩ := app_row hX hr hl ty
  have hb' : b' < W'.heap.size := by
    obtain ⟨A1, c1, e1, _, e3⟩ := q4
    obtain ⟨b2, off, arr, e, f1, f2, f3, _⟩ := e3 0 t rfl
    have f2 : b2 = b' := f2
    subst f2
    exact heap_lt f3
  exact ⟨_, W', q1, b', c', rfl, by omega, (h.fresh q2).more hb' (by omega), q4.move (fun b hb => .inr hb) fun _ _ _ _ e => e⟩
theorem Mid.done (h : Mid B M H x y z b0 w T A o D Ao lo co W) (s' : Int) (A' : Option Addr) (l' c' : Nat) (k' : Bool) {W' : World} (hW : W' = (((W.setCell ⟨w.heap.size + 1 + 1, 0, none⟩ (.int .i64 s')).setCell ⟨w.heap.size + 1 + 1, 1, none⟩ (.slice A' l' c')).setCell ⟨w.heap.size + 1 + 1, 2, none⟩ (.bool k'))) :
    RowD D W' o.2.1 (.slice Ao lo co) ∧ Memo B D M H W' b0 ∧ Keep B w W' ∧ (∀ b, D b → b < W'.heap.size) ∧ W'.cell? ⟨w.heap.size + 1 + 1, 0, none⟩ = some (.int .i64 s') ∧ W'.cell? ⟨w.heap.size + 1 + 1, 1, none⟩ = some (.slice A' l' c') ∧ W'.cell? ⟨w.heap.size + 1 + 1, 2, none⟩ = some (.bool k') := by
  have e1 := heap_setCell_same W (w.heap.size + 1 + 1) 0 _ _ (.int .i64 s') h.bx.bR
  have e2 := heap_setCell_same _ (w.heap.size + 1 + 1) 1 _ _ (.slice A' l' c') e1
  have e3 := heap_setCell_same _ (w.heap.size + 1 + 1) 2 _ _ (.bool k') e2
  rw [← hW] at e3
  have oth : ∀ b, b ≠ w.heap.size + 1 + 1 → W'.heap[b]? = W.heap[b]? := fun b hb => by
    rw [hW, Below.heap_setCell _ _ _ b hb, Below.heap_setCell _ _ _ b hb, Below.heap_setCell _ _ _ b hb]
  have hsz : W'.heap.size = W.heap.size := by rw [hW]; simp [World.setCell]
  have hos : W'.os = W.os := by rw [hW]; rfl
  have htp : W'.tape = W.tape := by rw [hW]; rfl
  have hou : W'.output = W.output := by rw [hW]; rfl
  have hB := h.hB
  have hrows : ∀ (b : Nat) (arr : Array Value) (e : TypeId), D b → W.heap[b]? = some (.cells arr e (0, 0)) → W'.heap[b]? = some (.cells arr e (0, 0)) := fun b arr e hb hc => by
    rw [oth b (by have := (h.dlt b hb).2; omega)]; exact hc
  have hsame : Same D W W' := ⟨fun b es cl hc => by
    rw [oth b (fun e => by rw [e, h.bx.bR] at hc; cases hc)]; exact hc, hrows⟩
  exact ⟨h.rw.move (fun _ h => h) hrows, h.memo.move (fun _ h => h) hsame, ⟨hos.trans h.keep.os, htp.trans h.keep.tape, hou.trans h.keep.output, by rw [hsz]; exact h.keep.heap, fun b hb => (oth b (by omega)).trans (h.keep.old b hb), fun b arr e f hc => by
      have := heap_lt hc
      rw [oth b (by omega)]; exact h.keep.cells b arr e f hc⟩, fun b hb => by rw [hsz]; exact (h.dlt b hb).1, by rw [cell_of_row W' _ _ _ _ _ e3]; rfl, by rw [cell_of_row W' _ _ _ _ _ e3]; rfl, by rw [cell_of_row W' _ _ _ _ _ e3]; rfl⟩
end
/-- one told set grown from another -/
def Sub (D0 : Nat → Prop) (n : Nat) (D : Nat → Prop) : Prop := (∀ b, D0 b → D b) ∧ ∀ b, D b → D0 b ∨ n ≤ b
theorem Sub.trans {D0 D D' : Nat → Prop} {n m : Nat} (h : Sub D0 n D) (k : Sub D m D') (hm : n ≤ m) : Sub D0 n D' := ⟨fun b hb => k.1 b (h.1 b hb), fun b hb => by
  rcases k.2 b hb with e | e
  · exact h.2 b e
  · exact .inr (Nat.le_trans hm e)⟩
theorem Sub.more {D0 D : Nat → Prop} {n b' : Nat} (h : Sub D0 n D) (hb : n ≤ b') : Sub D0 n fun b => D b ∨ b = b' := ⟨fun b hb => .inl (h.1 b hb), fun b e => by
  rcases e with e | rfl
  · exact h.2 b e
  · exact .inr hb⟩
theorem Sub.refl {D : Nat → Prop} {n : Nat} : Sub D n D := ⟨fun _ h => h, fun _ h => .inl h⟩
theorem Mid.start {B : Nat} {M H x y z : Int} {b0 : Nat} {w W w4 : World} {T : List Int} {A : Option Addr} {D0 : Nat → Prop} {cap : Nat} (hF : Fresh W w4) (hB : B ≤ w.heap.size) (hE : Ext w W) (h1 : W.os = w.os) (h2 : W.tape = w.tape) (h3 : W.output = w.output) (hsz : W.heap.size = w.heap.size + 5)
    (hbx : Bx w.heap.size M H x y z 0 none 0 0 false W) (hR : RowI w4 T (.slice A T.length cap)) (hn : ∀ a l c, Value.slice A T.length cap = .slice (some a) l c → W.heap.size ≤ a.block) (hm : Memo B D0 M H w b0) (hD : ∀ b, D0 b → b < w.heap.size) :
    Mid B M H x y z b0 w T A (0, [], false) D0 none 0 0 w4 where
  hB := hB
  keep := (Fresh.keep (hE.fresh h1 h2 h3) hB).trans (Fresh.keep hF (by omega))
  big := by have := hF.heap; omega
  row := fun i t hi => by
    obtain ⟨A', cap', e1, e2, e3⟩ := hR
    simp only [Value.slice.injEq] at e1
    obtain ⟨rfl, _, rfl⟩ := e1
    obtain ⟨a, arr, e, rfl, q2, q3, q4⟩ := e3 i t hi
    obtain ⟨b, off, sp⟩ := a
    have q2 : sp = none := q2
    subst q2
    exact ⟨b, off, arr, e, rfl, q3, q4⟩
  rowb := fun b off e _ => by
    subst e
    have : W.heap.size ≤ b := hn _ _ _ rfl
    omega
  memo := (hm.move (fun _ h => h) (hE.same' D0)).move (fun _ h => h) (Fresh.same hF D0)
  dlt := fun b hb => ⟨by have := hD b hb; have := hF.heap; omega, .inl (hD b hb)⟩
  bx := hbx.of (Fresh.cells hF)
  rw := ⟨none, 0, rfl, Nat.le_refl _, fun i x hx => by simp at hx⟩
/-- what the loop has found -/
def Lp (B : Nat) (M H x y z : Int) (k b0 : Nat) (w : World) (D0 : Nat → Prop) (T : List Int) (A : Option Addr) (j : Nat) (wr : World) : Prop :=
  ∃ (D : Nat → Prop) (Ao : Option Addr) (lo co : Nat), Mid B M H x y z b0 w T A ((T.take j).foldl (upO (sm M H k) (x, y, z)) (0, [], false)) D Ao lo co wr ∧ Sub D0 w.heap.size D
/-- what a call gives -/
def Gives (B : Nat) (M H : Int) (k b0 : Nat) (c : C) (W : World) (D : Nat → Prop) (e : Ending) (w' : World) : Prop := ∃ (D' : Nat → Prop) (A : Option Addr) (l cap : Nat), e = .returned (.agg #[.int .i64 (sm M H k c).1, .slice A l cap, .bool (sm M H k c).2.2]) ∧ RowD D' w' (sm M H k c).2.1 (.slice A l cap) ∧
    Memo B D' M H w' b0 ∧ Keep B W w' ∧ (∀ b, D' b → b < w'.heap.size) ∧ Sub D W.heap.size D'
/-- the call one ring deeper -/
def Deep (B : Nat) (M H : Int) (k b0 : Nat) (m : Int) : Prop := ∀ (c : C), ins M c = true → ∀ (W : World) (D : Nat → Prop), B ≤ W.heap.size → (∀ b, D b → b < W.heap.size) → Memo B D M H W b0 →
  Calls Try.prog 39 #[.agg #[.int .i64 M, .int .i64 H], .agg #[.int .i64 c.1, .int .i64 c.2.1, .int .i64 c.2.2], .int .i64 m, .map (some b0)] W (Gives B M H k b0 c W D)
end Go.Proofs.Ytigkpbnhdkdliaa.T

/- The smoothest way home, walked by hand. -/
import Derived.Test.YtigkpbnhdkdliaaXFnExactSmZ
import Derived.Deep.RegionHeldLaw
namespace Go.Proofs.Ytigkpbnhdkdliaa.T
open Go.Rv Go.Rv.St Go.RowKit
set_option linter.unusedVariables false
set_option linter.unusedSimpArgs false
theorem wpList_mkO {P : Program} {ops : Array Oper} {rest : List Oper} {o : Oper} {a : Act} {w : World} {Q : Exit → Act → World → Prop} (hgd : o.guard = none) (t : TypeId) (ho : o.op = .makeMap t none)
    (h : wpList P ops Q rest (a.put o.dst (.map (some w.heap.size))) (w.alloc (.map #[] 0))) : wpList P ops Q (o :: rest) a w :=
  wpList_plain hgd fun _ hK => wp_value (v := .map (some w.heap.size)) (w' := w.alloc (.map #[] 0)) (by simp only [execOp, ho]; rfl) (hK _ _ h)
theorem fresh_keep {w W w' : World} (h : Fresh w W) (k : Keep w.heap.size W w') : Fresh w w' := ⟨k.os.trans h.os, k.tape.trans h.tape, k.output.trans h.output, Nat.le_trans h.heap k.heap, fun b hb => (k.old b hb).trans (h.old b hb)⟩
theorem Fresh.drew {w W : World} (h : Fresh w W) : Fresh w W.drew := ⟨h.os, h.tape, h.output, h.heap, h.old⟩
theorem two_of {w W : World} {o1 o2 : Obj} (h : Fresh ((w.alloc o1).alloc o2) W) : W.heap[w.heap.size]? = some o1 ∧ W.heap[w.heap.size + 1]? = some o2 := by
  refine ⟨?_, ?_⟩
  · rw [h.old _ (by simp only [size_alloc]; omega), alloc_old _ _ _ (by simp only [size_alloc]; omega), alloc_new _ _ _ rfl]
  · rw [h.old _ (by simp only [size_alloc]; omega), alloc_new _ _ _ (size_alloc _ _)]
theorem two_cells {w W : World} {M H x y z : Int} {e1 e2 : TypeId} (h : Fresh ((w.alloc (.cells #[.int .i64 M, .int .i64 H] e1)).alloc (.cells #[.int .i64 x, .int .i64 y, .int .i64 z] e2)) W) :
    (W.cell? ⟨w.heap.size, 0, none⟩ = some (.int .i64 M) ∧ W.cell? ⟨w.heap.size, 1, none⟩ = some (.int .i64 H)) ∧ W.cell? ⟨w.heap.size + 1, 0, none⟩ = some (.int .i64 x) ∧ W.cell? ⟨w.heap.size + 1, 1, none⟩ = some (.int .i64 y) ∧ W.cell? ⟨w.heap.size + 1, 2, none⟩ = some (.int .i64 z) := by
  obtain ⟨h1, h2⟩ := two_of h
  exact ⟨⟨by rw [cell_of_row W _ _ _ _ _ h1]; rfl, by rw [cell_of_row W _ _ _ _ _ h1]; rfl⟩, by rw [cell_of_row W _ _ _ _ _ h2]; rfl, by rw [cell_of_row W _ _ _ _ _ h2]; rfl, by rw [cell_of_row W _ _ _ _ _ h2]; rfl⟩
/-- a row of one's own -/
def OwnOut (n : Nat) (w : World) (xs : List Int) (v : Value) : Prop := ∃ (b cap : Nat) (cur : Array Value) (e : TypeId), v = .slice (some ⟨b, 0, none⟩) xs.length cap ∧ n ≤ b ∧ w.heap[b]? = some (.cells cur e (0, 0)) ∧ xs.length ≤ cap ∧ cap ≤ maxLen ∧ cur.size = cap ∧ (∀ (i : Nat) (x : Int), xs[i]? = some x → cur[i]? = some (Value.int .i64 x)) ∧ ∀ (o : Nat) (u : Value), o < xs.length → cur[o]? = some u → ∃ x, u = Value.int .i64 x
theorem app_own {D : Nat → Prop} {W : World} {X : Nat} {e0 : TypeId} {ys : List Int} {v : Value} (hX : W.heap[X]? = some (.cells #[] e0 (0, 0))) (hv : RowD D W ys v) (hl : ys.length ≤ 100) (ty : TypeId) :
    ∃ v' W', (Builtin.append_ #[33, 33] ty #[.slice (some ⟨X, 0, none⟩) 0 0, v]).run Try.prog W = .ok v' W' ∧ Fresh W W' ∧ OwnOut X W' ys v' := by
  have hXl := heap_lt hX
  obtain ⟨e, he, ⟨ii, z, e1, e2, e3, e4, e5⟩⟩ := ti_slice R0.tab (show R0.X.sl 33 = some (.int .i64) from rfl)
  have e2 : ii.size = 1 := e2
  obtain ⟨news, s1, s2, s3, s4⟩ := src_of (P := Try.prog) hv.rs
  have s2 : news.length = ys.length := by simpa [Ty.cells] using s2
  have s1 : Src Try.prog W ii.size ys.length v news := by rw [e2]; exact s1
  have hnews : ∀ (i : Nat) (x : Int), ys[i]? = some x → news[i]? = some (Value.int .i64 x) := fun i x hi => by
    obtain ⟨ecs, r1, r2⟩ := s4 i x hi
    have r1 : ecs = [.int .i64 x] := r1
    subst r1
    have := r2 0 _ rfl
    simpa [Ty.cells] using this
  by_cases hm : ys.length = 0
  · have hys : ys = [] := List.eq_nil_of_length_eq_zero hm
    subst hys
    have hn : news = [] := List.eq_nil_of_length_eq_zero (by simpa using s2)
    subst hn
    have hrun := run_append_in (ty := ty) (P := Try.prog) 33 e ii he e1 X 0 0 e0 #[] hX s1 (by simp) (by simp) (by simp [e2])
    have hrow := setRow_heap W X #[] #[] e0 (0, 0) hX
    refine ⟨.slice (some ⟨X, 0, none⟩) 0 0, W.setRow X #[], by simpa using hrun, ⟨rfl, rfl, rfl, by simp [World.setRow], fun b hb => ?_⟩, X, 0, #[], e0, rfl, Nat.le_refl _, hrow, Nat.le_refl _, Nat.zero_le _, rfl, fun i x hi => by simp at hi, fun o u ho hu => by simp at hu⟩
    by_cases hbx : b = X
    · subst hbx
      rw [hrow, hX]
    · exact setRow_other W X b _ hbx
  · obtain ⟨olds, o1, o2, o3, o4⟩ := src_of (P := Try.prog) (show RS W (fun _ _ => True) (.int .i64) [] (.slice (some ⟨X, 0, none⟩) 0 0) from RowD.rs (D := fun _ => True) ⟨_, 0, rfl, by simp, fun i x hi => by simp at hi⟩)
    have o2 : olds.length = 0 := by simpa [Ty.cells] using o2
    have holds : olds = [] := List.eq_nil_of_length_eq_zero o2
    subst holds
    have o1 : Src Try.prog W ii.size 0 (.slice (some ⟨X, 0, none⟩) 0 0) [] := by rw [e2]; exact o1
    have hlim : 0 + ys.length < lim (.int .i64) := by
      have : (200 : Nat) < lim (.int .i64) := by decide
      omega
    have hb48 := bytes_lim hlim e3
    have hg : 0 < 0 + ys.length := by omega
    have hfit := growslice_fits hg hb48
    have hrun := run_append_new (ty := ty) 33 e ii z he e1 e4 rfl o1 s1 hg (lim_max hlim) hfit
    have hge := grownCap_ge W (0 + ys.length) 0 e
    have hcm := grownCap_le_maxLen W (0 + ys.length) 0 e (lim_max hlim)
    have hz : z.cells.size = 1 := by
      have := congrArg List.length e5
      rw [zeroV_length] at this; simpa [Ty.cells] using this
    generalize grownCap W (0 + ys.length) 0 e = C at *
    obtain ⟨W', hW'⟩ : ∃ W', W' = W.drew.alloc (.cells (([] : List Value).toArray ++ news.toArray ++ Builtin.zeroCells z.cells (C - (0 + ys.length))) e) := ⟨_, rfl⟩
    rw [← hW'] at hrun
    have hh : W'.heap = W.heap.push (.cells (([] : List Value).toArray ++ news.toArray ++ Builtin.zeroCells z.cells (C - (0 + ys.length))) e) := by rw [hW']; rfl
    have h1 : W'.os = W.os ∧ W'.tape = W.tape ∧ W'.output = W.output := by rw [hW']; exact ⟨rfl, rfl, rfl⟩
    have hcur : ∀ (i : Nat) (x : Int), ys[i]? = some x → (([] : List Value).toArray ++ news.toArray ++ Builtin.zeroCells z.cells (C - (0 + ys.length)))[i]? = some (.int .i64 x) := fun i x hi => by
      have hil := (List.getElem?_eq_some_iff.1 hi).1
      rw [← Array.getElem?_toList]
      simp only [Array.toList_append, List.append_assoc, List.nil_append]
      rw [List.getElem?_append_left (by simpa [s2] using hil)]
      exact hnews i x hi
    refine ⟨_, W', hrun, ⟨h1.1, h1.2.1, h1.2.2, by rw [hh]; simp, fun b hb => ?_⟩, W.heap.size, C, _, e, by rw [Nat.zero_add], by omega, by rw [hh, Array.getElem?_push, if_pos rfl], by omega, hcm, ?_, hcur, fun o u ho hu => ?_⟩
    · rw [hh, Array.getElem?_push, if_neg (by omega)]
    · simp only [Array.size_append, List.size_toArray, s2, size_zeroCells, hz, List.length_nil]
      omega
    · obtain ⟨x, hx⟩ : ∃ x, ys[o]? = some x := ⟨_, List.getElem?_eq_getElem ho⟩
      rw [hcur o x hx] at hu
      exact ⟨x, by simpa using hu.symm⟩
theorem step_app {P : Program} {ops : Array Oper} {o : Oper} {a : Act} {w : World} {K : Act → World → Prop} {Q : Exit → Act → World → Prop} {E : Prop} (hgd : o.guard = none) (d s : Operand) (t t' : TypeId)
    (ho : o.op = .call { callee := .builtin .append, args := #[d, s], argTypes := #[t, t'] }) (v u : Value) (hd : a.eval d = v) (hs : a.eval s = u) {Post : Value → World → Prop}
    (hr : ∃ v' w', (Builtin.append_ #[t, t'] o.type #[v, u]).run P w = .ok v' w' ∧ Post v' w') (h : ∀ v' w', Post v' w' → K (a.put o.dst v') w') :
    if Region.wanted o (yielded ops a.tmps) = true then Oper.wp P o a w K Q else E := by
  have hw : Region.wanted o (yielded ops a.tmps) = true := by simp [Region.wanted, hgd]
  rw [if_pos hw]
  obtain ⟨v', w', hr, hp⟩ := hr
  unfold Oper.wp execOp
  simp only [ho, resolve, invoke, builtin, Sem.run_bind, Sem.run_pure, Result.andThen_ok, List.map_toArray, List.map_cons, List.map_nil, hd, hs, hr]
  exact h v' w' hp
set_option maxHeartbeats 4000000 in
set_option maxRecDepth 100000 in
theorem home_bad (M H x y z n : Int) (w : World) (b1 b2 : Bool) (hb : (b1 && b2) = false)
    (V32 : ∀ w, Calls Try.prog 32 #[.agg #[.int .i64 M, .int .i64 H], .agg #[.int .i64 x, .int .i64 y, .int .i64 z]] w fun e w' => e = .returned (.bool b1) ∧ Fresh w w')
    (W34 : ∀ w, Calls Try.prog 34 #[.int .i64 n, .int .i64 0, .int .i64 8] w fun e w' => e = .returned (.bool b2) ∧ Fresh w w') :
    Calls Try.prog 14 #[.agg #[.int .i64 M, .int .i64 H], .agg #[.int .i64 x, .int .i64 y, .int .i64 z], .int .i64 n] w fun e w' => e = .returned (.tuple #[.slice none 0 0, .int .i64 0, .bool false]) ∧ Fresh w w' := by
  go_enter Try.func14, Try.ntmps14
  have F0 : ∀ o1 o2, Fresh w ((w.alloc o1).alloc o2) := fun o1 o2 => Fresh.alloc (Fresh.alloc (Fresh.refl w) _) _
  cases b1
  · go_wp2_with (first
      | (go_at_call 32; refine (V32 _).mono ?_; rintro e w4 ⟨rfl, hF4⟩))
    refine bodyPost_ret (v := .tuple #[.slice none 0 0, .int .i64 0, .bool false]) (by simp [results, Try.results14, go_sem]) rfl ⟨rfl, ?_⟩
    exact Fresh.trans (F0 _ _) hF4
  · have hb : b2 = false := hb
    subst hb
    go_wp2_with (first
      | (go_at_call 32; refine (V32 _).mono ?_; rintro e w4 ⟨rfl, hF4⟩)
      | (go_at_call 34; refine (W34 _).mono ?_; rintro e w5 ⟨rfl, hF5⟩))
    refine bodyPost_ret (v := .tuple #[.slice none 0 0, .int .i64 0, .bool false]) (by simp [results, Try.results14, go_sem]) rfl ⟨rfl, ?_⟩
    exact Fresh.trans (Fresh.trans (F0 _ _) hF4) hF5
set_option maxHeartbeats 4000000 in
set_option maxRecDepth 100000 in
theorem home_good (M H x y z n s : Int) (ts : List Int) (ok : Bool) (hts : ts.length ≤ 100) (w : World)
    (V32 : ∀ w, Calls Try.prog 32 #[.agg #[.int .i64 M, .int .i64 H], .agg #[.int .i64 x, .int .i64 y, .int .i64 z]] w fun e w' => e = .returned (.bool true) ∧ Fresh w w')
    (W34 : ∀ w, Calls Try.prog 34 #[.int .i64 n, .int .i64 0, .int .i64 8] w fun e w' => e = .returned (.bool true) ∧ Fresh w w')
    (H39 : ∀ W, Fresh w W → Calls Try.prog 39 #[.agg #[.int .i64 M, .int .i64 H], .agg #[.int .i64 x, .int .i64 y, .int .i64 z], .int .i64 n, .map (some W.heap.size)] (W.alloc (.map #[] 0)) fun e w' => ∃ (D' : Nat → Prop) (A : Option Addr) (l cap : Nat), e = .returned (.agg #[.int .i64 s, .slice A l cap, .bool ok]) ∧ RowD D' w' ts (.slice A l cap) ∧ Keep w.heap.size (W.alloc (.map #[] 0)) w') :
    Calls Try.prog 14 #[.agg #[.int .i64 M, .int .i64 H], .agg #[.int .i64 x, .int .i64 y, .int .i64 z], .int .i64 n] w fun e w' => Fresh w w' ∧ if ok = true then ∃ v, e = .returned (.tuple #[v, .int .i64 s, .bool true]) ∧ OwnOut w.heap.size w' ts v else e = .returned (.tuple #[.slice none 0 0, .int .i64 0, .bool false]) := by
  go_enter Try.func14, Try.ntmps14
  have F0 : ∀ o1 o2, Fresh w ((w.alloc o1).alloc o2) := fun o1 o2 => Fresh.alloc (Fresh.alloc (Fresh.refl w) _) _
  cases ok
  · go_wp2_with (first
      | (go_at_call 32; refine (V32 _).mono ?_; rintro e w4 ⟨rfl, hF4⟩)
      | (go_at_call 34; refine (W34 _).mono ?_; rintro e w5 ⟨rfl, hF5⟩; have hW := Fresh.trans (Fresh.trans (F0 _ _) hF4) hF5; obtain ⟨⟨d1, d2⟩, d3, d4, d5⟩ := two_cells (Fresh.trans hF4 hF5); clear hF4)
      | (refine wpList_mkO rfl 74 rfl ?_)
      | (go_at_call 39; refine (H39 _ hW).mono ?_; rintro e w6 ⟨D6, A6, l6, cap6, rfl, r6, k6⟩))
    refine bodyPost_ret (v := .tuple #[.slice none 0 0, .int .i64 0, .bool false]) (by simp [results, Try.results14, go_sem]) rfl ⟨Fresh.alloc (fresh_keep (Fresh.alloc hW _) k6) _, rfl⟩
  · go_wp2_with (first
      | (go_at_call 32; refine (V32 _).mono ?_; rintro e w4 ⟨rfl, hF4⟩)
      | (go_at_call 34; refine (W34 _).mono ?_; rintro e w5 ⟨rfl, hF5⟩; have hW := Fresh.trans (Fresh.trans (F0 _ _) hF4) hF5; obtain ⟨⟨d1, d2⟩, d3, d4, d5⟩ := two_cells (Fresh.trans hF4 hF5); clear hF4)
      | (refine wpList_mkO rfl 74 rfl ?_)
      | (go_at_call 39; refine (H39 _ hW).mono ?_; rintro e w6 ⟨D6, A6, l6, cap6, rfl, r6, k6⟩))
    have F7 : Fresh w (w6.alloc (.cells #[.int .i64 s, .slice A6 l6 cap6, .bool true] 72)) := Fresh.alloc (fresh_keep (Fresh.alloc hW _) k6) _
    have r7 : RowD D6 (w6.alloc (.cells #[.int .i64 s, .slice A6 l6 cap6, .bool true] 72)) ts (.slice A6 l6 cap6) := r6.move (fun _ h => h) fun b arr e _ hc => Fresh.cells (Fresh.alloc (Fresh.refl w6) _) b arr e hc
    have b7 : (w6.alloc (.cells #[.int .i64 s, .slice A6 l6 cap6, .bool true] 72)).heap[w6.heap.size]? = some (.cells #[.int .i64 s, .slice A6 l6 cap6, .bool true] 72 (0, 0)) := alloc_new _ _ _ rfl
    have hwl : w.heap.size ≤ w6.heap.size := (fresh_keep (Fresh.alloc hW _) k6).heap
    generalize w6.alloc (.cells #[.int .i64 s, .slice A6 l6 cap6, .bool true] 72) = w7 at *
    generalize w6.heap.size = X9 at *
    have hS : ∀ W, Fresh w7 W → W.cell? ⟨X9, 0, none⟩ = some (.int .i64 s) ∧ W.cell? ⟨X9, 1, none⟩ = some (.slice A6 l6 cap6) ∧ Fresh w7 W := fun W hF => by
      have hb := Fresh.cells hF _ _ _ b7
      exact ⟨by rw [cell_of_row W _ _ _ _ _ hb]; rfl, by rw [cell_of_row W _ _ _ _ _ hb]; rfl, hF⟩
    have hA : ∀ W, Fresh w7 W → ∀ (X : Nat) (e0 ty : TypeId), w7.heap.size ≤ X → W.heap[X]? = some (.cells #[] e0 (0, 0)) → ∃ v' W', (Builtin.append_ #[33, 33] ty #[.slice (some ⟨X, 0, none⟩) 0 0, .slice A6 l6 cap6]).run Try.prog W = .ok v' W' ∧ Fresh w7 W' ∧ OwnOut w.heap.size W' ts v' := fun W hF X e0 ty hle hX => by
      obtain ⟨v', W', q1, q2, b, cap, cur, e, q3, q4, q5⟩ := app_own hX (r7.move (fun _ h => h) fun b arr e _ hc => Fresh.cells hF b arr e hc) hts ty
      exact ⟨v', W', q1, Fresh.trans hF q2, b, cap, cur, e, q3, by have := F7.heap; omega, q5⟩
    have hF8 : Fresh w7 (w7.alloc (.cells #[] 2)).drew := Fresh.drew (Fresh.alloc (Fresh.refl w7) _)
    have hX8 : (w7.alloc (.cells #[] 2)).drew.heap[w7.heap.size]? = some (.cells #[] 2 (0, 0)) := alloc_new w7 (.cells #[] 2) _ rfl
    go_region_held_law (fun w' => w'.cell? ⟨X9, 0, none⟩ = some (.int .i64 s) ∧ w'.cell? ⟨X9, 1, none⟩ = some (.slice A6 l6 cap6) ∧ Fresh w7 w')
      (first
        | (go_split_ands; refine hS _ ?_; repeat (first | assumption | exact Fresh.refl _ | refine Fresh.alloc ?_ _ | refine Fresh.drew ?_)))
      ((refine step_app rfl (.tmp 27) (.tmp 29) 33 33 rfl (.slice (some ⟨w7.heap.size, 0, none⟩) 0 0) (.slice A6 l6 cap6) rfl rfl (hA ((w7.alloc (.cells #[] 2)).drew) hF8 w7.heap.size 2 33 (Nat.le_refl _) hX8) ?_; rintro v8 w8 ⟨F8, O8⟩))
    go_wp2
    refine bodyPost_ret (v := .tuple #[v8, .int .i64 s, .bool true]) (by simp [results, Try.results14, go_sem]) rfl ⟨Fresh.trans F7 F8, v8, rfl, O8⟩
end Go.Proofs.Ytigkpbnhdkdliaa.T

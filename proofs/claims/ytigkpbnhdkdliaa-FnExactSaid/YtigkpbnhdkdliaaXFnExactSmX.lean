/- The smoothest plan, walked by hand: what is not known is sought. -/
import Derived.Test.YtigkpbnhdkdliaaXFnExactSmM
import Derived.StillTailTactics
namespace Go.Proofs.Ytigkpbnhdkdliaa.T
open Go.Rv Go.Rv.St Go.RowKit
set_option linter.unusedVariables false
set_option linter.unusedSimpArgs false
theorem wpList_put {P : Program} {ops : Array Oper} {rest : List Oper} {o : Oper} {a : Act} {w : World} {Q : Exit → Act → World → Prop} (hgd : o.guard = none) (t : TypeId) (m k x : Operand)
    (ho : o.op = .mapUpdate t m k x) (mv kv xv : Value) (hm : a.eval m = mv) (hk : a.eval k = kv) (hx : a.eval x = xv) {Post : World → Prop}
    (hr : ∃ w', (Instr.mapUpdate t mv kv xv).run P w = .ok () w' ∧ Post w') (h : ∀ w', Post w' → wpList P ops Q rest (a.put o.dst undef) w') : wpList P ops Q (o :: rest) a w := by
  obtain ⟨w', hr, hp⟩ := hr
  refine wpList_plain hgd fun _ hK => ?_
  unfold Oper.wp execOp
  simp only [ho, hm, hk, hx, Sem.run_bind, hr, Sem.run_pure, Result.andThen_ok]
  exact hK _ _ (h w' hp)
theorem wpList_mk {P : Program} {ops : Array Oper} {rest : List Oper} {o : Oper} {a : Act} {w : World} {Q : Exit → Act → World → Prop} (hgd : o.guard = none) (t : TypeId) (ho : o.op = .makeMap t none)
    (h : wpList P ops Q rest (a.put o.dst (.map (some w.heap.size))) (w.alloc (.map #[] 0))) : wpList P ops Q (o :: rest) a w :=
  wpList_plain hgd fun _ hK => wp_value (v := .map (some w.heap.size)) (w' := w.alloc (.map #[] 0)) (by simp only [execOp, ho]; rfl) (hK _ _ h)
theorem still_look {P : Program} {ops : Array Oper} {rest : List Oper} {o : Oper} {a : Act} {w : World} {Q : Act → Prop} (hgd : o.guard = none) (t : TypeId) (m k : Operand) (c : Bool) (ho : o.op = .lookup t m k c) (mv kv : Value) (hm : a.eval m = mv) (hk : a.eval k = kv) {v : Value}
    (hr : (Instr.lookup t mv kv c).run P w = .ok v w) (h : wpStill P ops w Q rest (a.put o.dst v)) : wpStill P ops w Q (o :: rest) a :=
  wpStill_step fun K hK => by
    have hw : Region.wanted o (yielded ops a.tmps) = true := by simp only [Region.wanted, hgd]
    rw [if_pos hw]
    unfold Oper.still execOp
    simp only [ho, hm, hk, Sem.run_bind, hr, Sem.run_pure, Result.andThen_ok]
    exact ⟨rfl, hK _ h⟩
set_option maxHeartbeats 4000000 in
set_option maxRecDepth 100000 in
theorem smooth_miss (M H x y z n : Int) (k : Nat) (hL : Lim M H) (hc : ins M (x, y, z) = true) (hn : (n == 0) = false) (hn1 : 1 ≤ n) (hn8 : n ≤ 8) (hnk : n.toNat = k + 1) (b0 : Nat) (mv : Value) (B : Nat) (w : World) (D0 : Nat → Prop) (T : List Int) (hTl : T.length ≤ 7) (hT : ∀ t ∈ T, nxo M H (x, y, z) t = true) (hTs : T.foldl (upO (sm M H k) (x, y, z)) (0, [], false) = sm M H (k + 1) (x, y, z))
    (h1 : ∀ W, Ext w W → (Instr.lookup 74 (.map (some b0)) (.agg #[.int .i64 x, .int .i64 y, .int .i64 z]) false).run Try.prog W = .ok mv W)
    (h2 : ∀ W, Ext w W → (Instr.lookup 89 mv (.int .i64 n) true).run Try.prog W = .ok (.tuple #[.agg #[.int .i64 0, .slice none 0 0, .bool false], .bool false]) W)
    (T35 : ∀ w, Calls Try.prog 35 #[.agg #[.int .i64 M, .int .i64 H], .agg #[.int .i64 x, .int .i64 y, .int .i64 z]] w fun e w' => ∃ v, e = .returned v ∧ Fresh w w' ∧ RowI w' T v ∧ ∀ a l c, v = .slice (some a) l c → w.heap.size ≤ a.block)
    (N33 : ∀ t, nxo M H (x, y, z) t = true → ∀ w, Calls Try.prog 33 #[.agg #[.int .i64 M, .int .i64 H], .agg #[.int .i64 x, .int .i64 y, .int .i64 z], .int .i64 t] w fun e w' => e = .returned (.tuple #[.agg #[.int .i64 (stp (x, y, z) t).1, .int .i64 (stp (x, y, z) t).2.1, .int .i64 (stp (x, y, z) t).2.2], .bool true]) ∧ Fresh w w')
    (hDp : Deep B M H k b0 (n - 1))
    (hB : B ≤ w.heap.size) (hm0 : Memo B D0 M H w b0) (hD0 : ∀ b, D0 b → b < w.heap.size) :
    Calls Try.prog 39 #[.agg #[.int .i64 M, .int .i64 H], .agg #[.int .i64 x, .int .i64 y, .int .i64 z], .int .i64 n, .map (some b0)] w (Gives B M H (k + 1) b0 (x, y, z) w D0) := by
  go_enter Try.func39, Try.ntmps39
  go_wp2_with (first
    | (refine wpList_look rfl 74 (.tmp 25) (.tmp 26) false rfl (.map (some b0)) (.agg #[.int .i64 x, .int .i64 y, .int .i64 z]) rfl rfl (h1 _ ?ee) ?_; case ee => (repeat (first | exact Ext.refl _ | refine Ext.alloc ?_ _ | refine Ext.set ?_ (by simp) _)))
    | (refine wpList_look rfl 89 (.tmp 27) (.tmp 28) true rfl mv (.int .i64 n) rfl rfl (h2 _ ?ee) ?_; case ee => (repeat (first | exact Ext.refl _ | refine Ext.alloc ?_ _ | refine Ext.set ?_ (by simp) _)))
    | (go_at_call 35; refine (T35 _).mono ?_; rintro e w4 ⟨v4, rfl, hF4, hR4, hn4⟩; obtain ⟨A4, cap4, rfl, hcap4, _⟩ := id hR4))
  have L0 : Lp B M H x y z k b0 w D0 T A4 0 w4 := ⟨D0, none, 0, 0, Mid.start hF4 hB (by (repeat (first | exact Ext.refl _ | refine Ext.alloc ?_ _ | refine Ext.set ?_ (by simp) _))) rfl rfl rfl (by simp [size_alloc]) ?bx hR4 hn4 hm0 hD0, Sub.refl⟩
  case bx => exact ⟨(five w _ _ _ _ _).1, (five w _ _ _ _ _).2.1, (five w _ _ _ _ _).2.2.1, (five w _ _ _ _ _).2.2.2⟩
  clear hF4 h1 h2 T35 hR4 hn4 hcap4 hm0 hD0
  go_loopg [39] T.length (fun g i wr => ∃ j : Nat, j ≤ T.length ∧ g = T.length - j ∧ i = .int .i64 j ∧ Lp B M H x y z k b0 w D0 T A4 j wr)
  case atStart => exact ⟨0, Nat.zero_le _, rfl, rfl, L0⟩
  case round =>
    clear L0
    obtain ⟨j, hj, rfl, rfl, hI⟩ := hrel
    by_cases hlt : j < T.length
    · obtain ⟨D, Ao, lo, co, hI, hS⟩ := hI
      obtain ⟨bt, ot, arr, e, rfl, q1, q2⟩ := hI.row j T[j] (List.getElem?_eq_getElem hlt)
      have hz : (j : Int) < (T.length : Int) := by omega
      have htn : nxo M H (x, y, z) T[j] = true := hT _ (List.getElem_mem _)
      have hstep : (T.take (j + 1)).foldl (upO (sm M H k) (x, y, z)) (0, [], false) = upO (sm M H k) (x, y, z) ((T.take j).foldl (upO (sm M H k) (x, y, z)) (0, [], false)) T[j] := by
        rw [List.take_add_one, List.getElem?_eq_getElem hlt, List.foldl_append]; rfl
      generalize hF : (T.take (j + 1)).foldl (upO (sm M H k) (x, y, z)) (0, [], false) = o2 at hstep
      have qc : wr.cell? ⟨bt, ot + j, none⟩ = some (.int .i64 T[j]) := by rw [cell_of_row wr _ _ _ _ _ q1]; exact q2
      generalize T[j] = t at *
      generalize (T.take j).foldl (upO (sm M H k) (x, y, z)) (0, [], false) = o at *
      obtain ⟨s, lo', okb⟩ := o
      have hnx := N33 t htn
      have hins : ins M (stp (x, y, z) t) = true := nxo_ins htn
      have hlen6 := (sm_bd hL k (stp (x, y, z) t)).2
      have hs6 := (sm_bd hL k (stp (x, y, z) t)).1
      have htz : -6 ≤ t - z ∧ t - z ≤ 6 := by
        have h2 := htn
        simp only [nxo, Bool.and_eq_true, inn_iff] at h2
        have := hL.d
        omega
      have hz2 : 0 ≤ (t - z) * (t - z) ∧ (t - z) * (t - z) ≤ 36 := nxo_sq hL htn
      unfold upO at hstep
      have hIH : ∀ W, Fresh wr W → Calls Try.prog 39 #[.agg #[.int .i64 M, .int .i64 H], .agg #[.int .i64 (stp (x, y, z) t).1, .int .i64 (stp (x, y, z) t).2.1, .int .i64 (stp (x, y, z) t).2.2], .int .i64 (n - 1), .map (some b0)] W fun e w' => ∃ (D' : Nat → Prop) (A : Option Addr) (l cap : Nat), e = .returned (.agg #[.int .i64 (sm M H k (stp (x, y, z) t)).1, .slice A l cap, .bool (sm M H k (stp (x, y, z) t)).2.2]) ∧ RowD D' w' (sm M H k (stp (x, y, z) t)).2.1 (.slice A l cap) ∧ Mid B M H x y z b0 w T (some ⟨bt, ot, none⟩) (s, lo', okb) D' Ao lo co w' ∧ Sub D0 w.heap.size D' := fun W hF => by
        have hW := hI.fresh hF
        refine (hDp _ hins W D (by have := hW.hB; have := hW.big; omega) (fun b hb => (hW.dlt b hb).1) hW.memo).mono ?_
        rintro e w' ⟨D', A, l, cap, r1, r2, r3, r4, r5, r6⟩
        exact ⟨D', A, l, cap, r1, r2, hW.call r4 r3 r5 r6.1 r6.2, hS.trans r6 (by have := hW.big; omega)⟩
      generalize sm M H k (stp (x, y, z) t) = o6 at *
      obtain ⟨s6, ts6, ok6⟩ := o6
      generalize hxs : (stp (x, y, z) t).1 = x' at *
      generalize hys : (stp (x, y, z) t).2.1 = y' at *
      generalize hzs : (stp (x, y, z) t).2.2 = z' at *
      obtain ⟨c1, c2⟩ := hI.bx.cL
      obtain ⟨c3, c4, c5⟩ := hI.bx.cC
      simp only at hIH hstep hlen6 hs6
      clear q1 q2 hins N33 hDp hT htn
      cases ok6
      · replace hstep : o2 = (s, lo', okb) := by rw [hstep]; simp
        go_wp2_with (first
          | (go_at_call 33; refine (hnx _).mono ?_; rintro e w5 ⟨rfl, hF5⟩; have d1 : ∀ o, (w5.alloc o).cell? ⟨w.heap.size, 0, none⟩ = some (.int .i64 M) := fun o => (hI.fresh (Fresh.alloc hF5 o)).bx.cL.1; have d2 : ∀ o, (w5.alloc o).cell? ⟨w.heap.size, 1, none⟩ = some (.int .i64 H) := fun o => (hI.fresh (Fresh.alloc hF5 o)).bx.cL.2)
          | (go_at_call 39; refine (hIH _ ?ee).mono ?_; (case ee => (repeat (first | exact hF5 | refine Fresh.alloc ?_ _))); rintro e w6 ⟨D6, A6, l6, cap6, rfl, r6, m6, u6⟩; have e5 : ∀ o, (w6.alloc o).cell? ⟨w.heap.size + 1, 2, none⟩ = some (.int .i64 z) := fun o => (m6.fresh (Fresh.alloc (Fresh.refl _) o)).bx.cC.2.2; have f1 : ∀ o, (w6.alloc o).cell? ⟨w.heap.size + 1 + 1 + 1 + 1, 0, none⟩ = some (.int .i64 s) := fun o => (m6.fresh (Fresh.alloc (Fresh.refl _) o)).bx.cO.1; have f3 : ∀ o, (w6.alloc o).cell? ⟨w.heap.size + 1 + 1 + 1 + 1, 2, none⟩ = some (.bool okb) := fun o => (m6.fresh (Fresh.alloc (Fresh.refl _) o)).bx.cO.2.2))
        go_roundg (T.length - (j + 1))
        case measure => omega
        case rel => exact ⟨j + 1, by omega, rfl, by first | rfl | (simp; done) | (simp; omega), D6, Ao, lo, co, by rw [hF, hstep]; exact ⟨m6.fresh (Fresh.alloc (Fresh.refl _) _), u6⟩⟩
      · cases okb
        · replace hstep : o2 = (s6 + (t - z) * (t - z), t :: ts6, true) := by rw [hstep]; simp
          go_wp2_with (first
            | (go_at_call 33; refine (hnx _).mono ?_; rintro e w5 ⟨rfl, hF5⟩; have d1 : ∀ o, (w5.alloc o).cell? ⟨w.heap.size, 0, none⟩ = some (.int .i64 M) := fun o => (hI.fresh (Fresh.alloc hF5 o)).bx.cL.1; have d2 : ∀ o, (w5.alloc o).cell? ⟨w.heap.size, 1, none⟩ = some (.int .i64 H) := fun o => (hI.fresh (Fresh.alloc hF5 o)).bx.cL.2)
            | (go_at_call 39; refine (hIH _ ?ee).mono ?_; (case ee => (repeat (first | exact hF5 | refine Fresh.alloc ?_ _))); rintro e w6 ⟨D6, A6, l6, cap6, rfl, r6, m6, u6⟩; have e5 : ∀ o, (w6.alloc o).cell? ⟨w.heap.size + 1, 2, none⟩ = some (.int .i64 z) := fun o => (m6.fresh (Fresh.alloc (Fresh.refl _) o)).bx.cC.2.2; have f1 : ∀ o, (w6.alloc o).cell? ⟨w.heap.size + 1 + 1 + 1 + 1, 0, none⟩ = some (.int .i64 s) := fun o => (m6.fresh (Fresh.alloc (Fresh.refl _) o)).bx.cO.1; have f3 : ∀ o, (w6.alloc o).cell? ⟨w.heap.size + 1 + 1 + 1 + 1, 2, none⟩ = some (.bool false) := fun o => (m6.fresh (Fresh.alloc (Fresh.refl _) o)).bx.cO.2.2; have hA : ∀ W, Fresh w6 W → ∀ (X : Nat) (e0 ty : TypeId), w6.heap.size ≤ X → W.heap[X]? = some (.cells #[.int .i64 t] e0 (0, 0)) → ∃ v' W', (Builtin.append_ #[33, 33] ty #[.slice (some ⟨X, 0, none⟩) 1 1, .slice A6 l6 cap6]).run Try.prog W = .ok v' W' ∧ ∃ (b' c' : Nat), v' = .slice (some ⟨b', 0, none⟩) (l6 + 1) c' ∧ w.heap.size ≤ b' ∧ Mid B M H x y z b0 w T (some ⟨bt, ot, none⟩) (s, lo', false) (fun b => D6 b ∨ b = b') Ao lo co W' ∧ RowD (fun b => D6 b ∨ b = b') W' (t :: ts6) v' := fun W hF X e0 ty hX1 hX2 => Mid.app (m6.fresh hF) (r6.move (fun _ h => h) (fun b arr e _ hc => Fresh.cells hF b arr e hc)) (by omega) hX2 (by have := m6.big; omega) ty)
            | (at_builtin; refine wpList_app rfl (.tmp 83) (.tmp 85) 33 33 rfl (.slice (some ⟨w6.heap.size + 1, 0, none⟩) 1 1) (.slice A6 l6 cap6) rfl rfl (hA _ ?ee (w6.heap.size + 1) 2 33 ?e1 ?e2) ?_; (case ee => (repeat (first | exact Fresh.refl _ | refine Fresh.alloc ?_ _))); (case e1 => exact Nat.le_succ _); (case e2 => exact alloc_new _ _ _ (size_alloc _ _)); rintro v7 w7 ⟨b7, c7, rfl, n7, m7, r7⟩; obtain ⟨g1, g2, g3⟩ := m7.bx.cO; have g4 := frozen_of m7.bx.bO 0; have g5 := frozen_of m7.bx.bO 1; have g6 := frozen_of m7.bx.bO 2))
          go_roundg (T.length - (j + 1))
          case measure => omega
          case rel =>
            refine ⟨j + 1, by omega, rfl, by first | rfl | (simp; done) | (simp; omega), fun b => D6 b ∨ b = b7, some ⟨b7, 0, none⟩, l6 + 1, c7, ?_⟩
            rw [hF, hstep]
            have hst := m7.store (s' := s6 + (t - z) * (t - z)) r7
            exact ⟨hst, u6.more n7⟩
        · by_cases hlo : s6 + (t - z) * (t - z) < s
          · replace hstep : o2 = (s6 + (t - z) * (t - z), t :: ts6, true) := by rw [hstep]; simp [hlo]
            go_wp2_with (first
              | (go_at_call 33; refine (hnx _).mono ?_; rintro e w5 ⟨rfl, hF5⟩; have d1 : ∀ o, (w5.alloc o).cell? ⟨w.heap.size, 0, none⟩ = some (.int .i64 M) := fun o => (hI.fresh (Fresh.alloc hF5 o)).bx.cL.1; have d2 : ∀ o, (w5.alloc o).cell? ⟨w.heap.size, 1, none⟩ = some (.int .i64 H) := fun o => (hI.fresh (Fresh.alloc hF5 o)).bx.cL.2)
              | (go_at_call 39; refine (hIH _ ?ee).mono ?_; (case ee => (repeat (first | exact hF5 | refine Fresh.alloc ?_ _))); rintro e w6 ⟨D6, A6, l6, cap6, rfl, r6, m6, u6⟩; have e5 : ∀ o, (w6.alloc o).cell? ⟨w.heap.size + 1, 2, none⟩ = some (.int .i64 z) := fun o => (m6.fresh (Fresh.alloc (Fresh.refl _) o)).bx.cC.2.2; have f1 : ∀ o, (w6.alloc o).cell? ⟨w.heap.size + 1 + 1 + 1 + 1, 0, none⟩ = some (.int .i64 s) := fun o => (m6.fresh (Fresh.alloc (Fresh.refl _) o)).bx.cO.1; have f3 : ∀ o, (w6.alloc o).cell? ⟨w.heap.size + 1 + 1 + 1 + 1, 2, none⟩ = some (.bool true) := fun o => (m6.fresh (Fresh.alloc (Fresh.refl _) o)).bx.cO.2.2; have hA : ∀ W, Fresh w6 W → ∀ (X : Nat) (e0 ty : TypeId), w6.heap.size ≤ X → W.heap[X]? = some (.cells #[.int .i64 t] e0 (0, 0)) → ∃ v' W', (Builtin.append_ #[33, 33] ty #[.slice (some ⟨X, 0, none⟩) 1 1, .slice A6 l6 cap6]).run Try.prog W = .ok v' W' ∧ ∃ (b' c' : Nat), v' = .slice (some ⟨b', 0, none⟩) (l6 + 1) c' ∧ w.heap.size ≤ b' ∧ Mid B M H x y z b0 w T (some ⟨bt, ot, none⟩) (s, lo', true) (fun b => D6 b ∨ b = b') Ao lo co W' ∧ RowD (fun b => D6 b ∨ b = b') W' (t :: ts6) v' := fun W hF X e0 ty hX1 hX2 => Mid.app (m6.fresh hF) (r6.move (fun _ h => h) (fun b arr e _ hc => Fresh.cells hF b arr e hc)) (by omega) hX2 (by have := m6.big; omega) ty)
              | (at_builtin; refine wpList_app rfl (.tmp 83) (.tmp 85) 33 33 rfl (.slice (some ⟨w6.heap.size + 1, 0, none⟩) 1 1) (.slice A6 l6 cap6) rfl rfl (hA _ ?ee (w6.heap.size + 1) 2 33 ?e1 ?e2) ?_; (case ee => (repeat (first | exact Fresh.refl _ | refine Fresh.alloc ?_ _))); (case e1 => exact Nat.le_succ _); (case e2 => exact alloc_new _ _ _ (size_alloc _ _)); rintro v7 w7 ⟨b7, c7, rfl, n7, m7, r7⟩; obtain ⟨g1, g2, g3⟩ := m7.bx.cO; have g4 := frozen_of m7.bx.bO 0; have g5 := frozen_of m7.bx.bO 1; have g6 := frozen_of m7.bx.bO 2))
            go_roundg (T.length - (j + 1))
            case measure => omega
            case rel =>
              refine ⟨j + 1, by omega, rfl, by first | rfl | (simp; done) | (simp; omega), fun b => D6 b ∨ b = b7, some ⟨b7, 0, none⟩, l6 + 1, c7, ?_⟩
              rw [hF, hstep]
              have hst := m7.store (s' := s6 + (t - z) * (t - z)) r7
              exact ⟨hst, u6.more n7⟩
          · replace hstep : o2 = (s, lo', true) := by rw [hstep]; simp [hlo]
            go_wp2_with (first
              | (go_at_call 33; refine (hnx _).mono ?_; rintro e w5 ⟨rfl, hF5⟩; have d1 : ∀ o, (w5.alloc o).cell? ⟨w.heap.size, 0, none⟩ = some (.int .i64 M) := fun o => (hI.fresh (Fresh.alloc hF5 o)).bx.cL.1; have d2 : ∀ o, (w5.alloc o).cell? ⟨w.heap.size, 1, none⟩ = some (.int .i64 H) := fun o => (hI.fresh (Fresh.alloc hF5 o)).bx.cL.2)
              | (go_at_call 39; refine (hIH _ ?ee).mono ?_; (case ee => (repeat (first | exact hF5 | refine Fresh.alloc ?_ _))); rintro e w6 ⟨D6, A6, l6, cap6, rfl, r6, m6, u6⟩; have e5 : ∀ o, (w6.alloc o).cell? ⟨w.heap.size + 1, 2, none⟩ = some (.int .i64 z) := fun o => (m6.fresh (Fresh.alloc (Fresh.refl _) o)).bx.cC.2.2; have f1 : ∀ o, (w6.alloc o).cell? ⟨w.heap.size + 1 + 1 + 1 + 1, 0, none⟩ = some (.int .i64 s) := fun o => (m6.fresh (Fresh.alloc (Fresh.refl _) o)).bx.cO.1; have f3 : ∀ o, (w6.alloc o).cell? ⟨w.heap.size + 1 + 1 + 1 + 1, 2, none⟩ = some (.bool true) := fun o => (m6.fresh (Fresh.alloc (Fresh.refl _) o)).bx.cO.2.2))
            go_roundg (T.length - (j + 1))
            case measure => omega
            case rel => exact ⟨j + 1, by omega, rfl, by first | rfl | (simp; done) | (simp; omega), D6, Ao, lo, co, by rw [hF, hstep]; exact ⟨m6.fresh (Fresh.alloc (Fresh.refl _) _), u6⟩⟩
    · obtain rfl : j = T.length := by omega
      obtain ⟨D, Ao, lo, co, hI, hS⟩ := hI
      rw [List.take_length, hTs] at hI
      have hz : ¬ (T.length : Int) < (T.length : Int) := by omega
      have qS : ∀ b w, (binOp .eql 89 (.map (some b)) (.map none)).run Try.prog w = .ok (.bool false) w := fun _ _ => by kernel_rfl
      have qN : ∀ w, (binOp .eql 89 (.map none) (.map none)).run Try.prog w = .ok (.bool true) w := fun _ => by kernel_rfl
      have hmem := look_outer hL hI.memo hc
      have hnn : ((k + 1 : Nat) : Int) = n := by omega
      have hout := hI.put_out hL hc
      have hin : ∀ {W : World} {b : Nat}, Mid B M H x y z b0 w T A4 (sm M H (k + 1) (x, y, z)) D Ao lo co W → (Instr.lookup 74 (.map (some b0)) (cv (x, y, z)) false).run Try.prog W = .ok (.map (some b)) W →
          ∃ w3, (Instr.mapUpdate 89 (.map (some b)) (.int .i64 n) (.agg #[.int .i64 (sm M H (k + 1) (x, y, z)).1, .slice Ao lo co, .bool (sm M H (k + 1) (x, y, z)).2.2])).run Try.prog W = .ok () w3 ∧ Mid B M H x y z b0 w T A4 (sm M H (k + 1) (x, y, z)) D Ao lo co w3 := fun hM hl => by
        have := hM.put_in hL hc hl (n := k + 1) (by omega) rfl
        rwa [hnn] at this
      clear hnn
      clear hDp N33 hT hTs
      generalize hos : sm M H (k + 1) (x, y, z) = o at *
      obtain ⟨s, lo', okb⟩ := o
      simp only at hin
      rcases hmem with ⟨_, q⟩ | ⟨b, _, _, _, q⟩
      · have q0 := q wr rfl
        obtain ⟨c3, c4, c5⟩ := hI.bx.cC
        go_wp2_with (first
          | (refine wpList_look rfl 74 (.tmp 89) (.tmp 90) false rfl (.map (some b0)) (.agg #[.int .i64 x, .int .i64 y, .int .i64 z]) rfl rfl q0 ?_)
          | (refine wpList_mk rfl 89 rfl ?_)
          | (refine wpList_put rfl 74 (.tmp 93) (.tmp 94) (.tmp 95) rfl (.map (some b0)) (.agg #[.int .i64 x, .int .i64 y, .int .i64 z]) (.map (some wr.heap.size)) rfl rfl rfl hout ?_; rintro w3 ⟨m3, b, q3⟩; obtain ⟨c3, c4, c5⟩ := m3.bx.cC; obtain ⟨o1, o2, o3⟩ := m3.bx.cO))
        have m4 := m3.fresh (W' := { w3 with drawn := w3.drawn + 1 }) ⟨rfl, rfl, rfl, Nat.le_refl _, fun _ _ => rfl⟩
        have q4 := q3 { w3 with drawn := w3.drawn + 1 } rfl
        have hput := hin m4 q4
        obtain ⟨o1, o2, o3⟩ := m3.bx.cO
        go_still_tail 5, (by kernel_rfl)
        refine still_look rfl 74 (.tmp 96) (.tmp 97) false rfl (.map (some b0)) (.agg #[.int .i64 x, .int .i64 y, .int .i64 z]) rfl rfl q4 ?_
        repeat still_step
        refine wpStill_nil ?_
        go_wp2_with (first
          | (refine wpList_put rfl 89 (.tmp 98) (.tmp 99) (.tmp 100) rfl (.map (some b)) (.int .i64 n) (.agg #[.int .i64 s, .slice Ao lo co, .bool okb]) rfl rfl rfl hput ?_; rintro w5 m5; obtain ⟨o1, o2, o3⟩ := m5.bx.cO; obtain ⟨r1, r2, r3⟩ := m5.bx.cR; have g4 := frozen_of m5.bx.bR 0; have g5 := frozen_of m5.bx.bR 1; have g6 := frozen_of m5.bx.bR 2))
        obtain ⟨d1, d2, d3, d4, x1, x2, x3⟩ := m5.done s Ao lo co okb rfl
        generalize ((w5.setCell ⟨w.heap.size + 1 + 1, 0, none⟩ (.int .i64 s)).setCell ⟨w.heap.size + 1 + 1, 1, none⟩ (.slice Ao lo co)).setCell ⟨w.heap.size + 1 + 1, 2, none⟩ (.bool okb) = W' at *
        refine bodyPost_ret (v := .agg #[.int .i64 s, .slice Ao lo co, .bool okb]) (by simp [results, Try.results39, go_sem, x1, x2, x3]) rfl ?_
        unfold Gives
        rw [hos]
        exact ⟨D, Ao, lo, co, rfl, d1, d2, d3, d4, hS⟩
      · have q0 := q wr rfl
        obtain ⟨c3, c4, c5⟩ := hI.bx.cC
        go_wp2_with (first
          | (refine wpList_look rfl 74 (.tmp 89) (.tmp 90) false rfl (.map (some b0)) (.agg #[.int .i64 x, .int .i64 y, .int .i64 z]) rfl rfl q0 ?_))
        have m4 := hI.fresh (W' := { wr with drawn := wr.drawn + 1 }) ⟨rfl, rfl, rfl, Nat.le_refl _, fun _ _ => rfl⟩
        have q4 := q { wr with drawn := wr.drawn + 1 } rfl
        have hput := hin m4 q4
        obtain ⟨o1, o2, o3⟩ := hI.bx.cO
        go_still_tail 5, (by kernel_rfl)
        refine still_look rfl 74 (.tmp 96) (.tmp 97) false rfl (.map (some b0)) (.agg #[.int .i64 x, .int .i64 y, .int .i64 z]) rfl rfl q4 ?_
        repeat still_step
        refine wpStill_nil ?_
        go_wp2_with (first
          | (refine wpList_put rfl 89 (.tmp 98) (.tmp 99) (.tmp 100) rfl (.map (some b)) (.int .i64 n) (.agg #[.int .i64 s, .slice Ao lo co, .bool okb]) rfl rfl rfl hput ?_; rintro w5 m5; obtain ⟨o1, o2, o3⟩ := m5.bx.cO; obtain ⟨r1, r2, r3⟩ := m5.bx.cR; have g4 := frozen_of m5.bx.bR 0; have g5 := frozen_of m5.bx.bR 1; have g6 := frozen_of m5.bx.bR 2))
        obtain ⟨d1, d2, d3, d4, x1, x2, x3⟩ := m5.done s Ao lo co okb rfl
        generalize ((w5.setCell ⟨w.heap.size + 1 + 1, 0, none⟩ (.int .i64 s)).setCell ⟨w.heap.size + 1 + 1, 1, none⟩ (.slice Ao lo co)).setCell ⟨w.heap.size + 1 + 1, 2, none⟩ (.bool okb) = W' at *
        refine bodyPost_ret (v := .agg #[.int .i64 s, .slice Ao lo co, .bool okb]) (by simp [results, Try.results39, go_sem, x1, x2, x3]) rfl ?_
        unfold Gives
        rw [hos]
        exact ⟨D, Ao, lo, co, rfl, d1, d2, d3, d4, hS⟩
end Go.Proofs.Ytigkpbnhdkdliaa.T

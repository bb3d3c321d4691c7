/- The operations that leave memory alone. -/
import Derived.Test.YtlkmjldhhoopcaaRvTab
namespace Go.Rv
set_option linter.unusedSimpArgs false
set_option linter.unusedVariables false

def Good {R : Type} (st : St) (K : Fr → Option R) (r : R) (a : Act) (w : World) : Prop := ∃ g fr, Ok st g fr a w ∧ K fr = some r
section
variable {P : Program} {st : St} {g : Gh} {fr : Fr} {a : Act} {w : World} {X : Env} {o : Oper} {R : Type} {K : Fr → Option R} {r : R} {Q : Exit → Act → World → Prop}
theorem wp_value {v : Value} {w' : World} {N : Act → World → Prop} (h : (execOp a.eval o).run P w = .ok (.value v) w') (hk : N (a.put o.dst v) w') : o.wp P a w N Q := by
  unfold Oper.wp; rw [h]; exact hk
theorem wp_skipped {w' : World} {N : Act → World → Prop} (h : (execOp a.eval o).run P w = .ok .skip w') (hk : N (a.put o.dst undef) w') : o.wp P a w N Q := by
  unfold Oper.wp; rw [h]; exact hk
theorem rel_int {w : World} {g : Gh} {bx : Nat → Bool} {p : Place} {k : IntKind} {n : Int} : rel w g bx p (.int k n) (.int k n) := rfl
theorem rel_bool {w : World} {g : Gh} {bx : Nat → Bool} {p : Place} {b : Bool} : rel w g bx p (.bool b) (.bool b) := rfl
theorem int_beq (x y : Int) : (x == y) = decide (x = y) := by
  by_cases h : x = y <;> simp [h]
theorem int_bne (x y : Int) : (x != y) = !decide (x = y) := by
  by_cases h : x = y <;> simp [h]
/-- arithmetic -/
theorem wr_eq (k : IntKind) (n : Int) : wr k n = k.wrap n := by
  cases k <;> simp only [wr, wrap64_eq]
  unfold RowKit.wrap64
  exact (IntKind.wrap_i64 n).symm
theorem arith_ok {op : BinOp} {k : IntKind} {x y : Int} {K : CV → Option R} {t : TypeId} (h : arith op k x y K = some r) : ∃ c v, (binOp op t (.int k x) (.int k y)).run P w = .ok v w ∧ free c = true ∧ (∀ (g : Gh) bx p, rel w g bx p c v) ∧ K c = some r := by
  cases op
  case add => exact ⟨_, .int k (k.wrap (x + y)), by simp [binOp, Op.intArith], rfl, fun g bx p => by simp only [rel, relP, relF, wr_eq], h⟩
  case sub => exact ⟨_, .int k (k.wrap (x - y)), by simp [binOp, Op.intArith], rfl, fun g bx p => by simp only [rel, relP, relF, wr_eq], h⟩
  case mul => exact ⟨_, .int k (k.wrap (x * y)), by simp [binOp, Op.intArith], rfl, fun g bx p => by simp only [rel, relP, relF, wr_eq], h⟩
  case quo =>
    simp only [arith] at h
    split at h
    · cases h
    · rename_i hy
      exact ⟨_, .int k (k.wrap (x.tdiv y)), by simp [binOp, Op.intDiv, hy], rfl, fun g bx p => by simp only [rel, relP, relF, wr_eq], h⟩
  case rem =>
    simp only [arith] at h
    split at h
    · cases h
    · rename_i hy
      exact ⟨_, .int k (x.tmod y), by simp [binOp, Op.intDiv, hy], rfl, fun g bx p => rel_int, h⟩
  case shr =>
    simp only [arith] at h
    split at h
    · cases h
    · rename_i hy
      exact ⟨_, .int k _, by simp [binOp, Op.shift, hy], rfl, fun g bx p => rel_int, h⟩
  case shl =>
    simp only [arith] at h
    split at h
    · cases h
    · rename_i hy
      exact ⟨_, .int k (k.wrap (x * 2 ^ min y.toNat k.bits)), by simp [binOp, Op.shift, hy], rfl, fun g bx p => by simp only [rel, relP, relF, wr_eq], h⟩
  case and => exact ⟨_, .int k _, by simp [binOp, Op.intBits], rfl, fun g bx p => rel_int, h⟩
  case or => exact ⟨_, .int k _, by simp [binOp, Op.intBits], rfl, fun g bx p => rel_int, h⟩
  case xor => exact ⟨_, .int k _, by simp [binOp, Op.intBits], rfl, fun g bx p => rel_int, h⟩
  case eql => exact ⟨_, .bool (decide (x = y)), by simp [binOp, Op.intCmp, int_beq], rfl, fun g bx p => rel_bool, h⟩
  case neq => exact ⟨_, .bool (!decide (x = y)), by simp [binOp, Op.intCmp, int_bne], rfl, fun g bx p => rel_bool, h⟩
  case lss => exact ⟨_, .bool (decide (x < y)), by simp [binOp, Op.intCmp], rfl, fun g bx p => rel_bool, h⟩
  case leq => exact ⟨_, .bool (decide (x ≤ y)), by simp [binOp, Op.intCmp], rfl, fun g bx p => rel_bool, h⟩
  case gtr => exact ⟨_, .bool (decide (y < x)), by simp [binOp, Op.intCmp], rfl, fun g bx p => rel_bool, h⟩
  case geq => exact ⟨_, .bool (decide (y ≤ x)), by simp [binOp, Op.intCmp], rfl, fun g bx p => rel_bool, h⟩
  all_goals (simp only [arith] at h; cases h)
theorem ok_move (h : Ok st g fr a w) (hX : Fits X st) {x : Operand} (ho : o.op = .move x) (hk : ∀ t vs, x = .tmp t → fr t ≠ .tup vs) (hf : fin X fr o.dst (.comp (opd fr x).1 (opd fr x).2) K = some r) : o.wp P a w (Good st K r) Q := by
  obtain ⟨g', fr', h1, h2⟩ := fin_free hX h (opd_ok h x) hf
  exact wp_value (by simp only [execOp, ho, Sem.run_pure]) ⟨g', fr', h1, h2⟩
theorem pick_ok (h : Ok st g fr a w) (hX : Fits X st) {c x y : Operand} (ho : o.op = .pick c x y) {b : Bool} (hc : opc fr c = .bool b)
    (hf : (if b = true then fin X fr o.dst (.comp (opd fr x).1 (opd fr x).2) K else fin X fr o.dst (.comp (opd fr y).1 (opd fr y).2) K) = some r) : o.wp P a w (Good st K r) Q := by
  have hb := (opc_rel h hc (by simp) (by simp)).2
  have hb' : a.eval c = .bool b := hb
  cases b with
  | true =>
    obtain ⟨g', fr', h1, h2⟩ := fin_free hX h (opd_ok h x) (by simpa using hf)
    exact wp_value (v := a.eval x) (w' := w) (by simp [execOp, ho, hb', asBool]) ⟨g', fr', h1, h2⟩
  | false =>
    obtain ⟨g', fr', h1, h2⟩ := fin_free hX h (opd_ok h y) (by simpa using hf)
    exact wp_value (v := a.eval y) (w' := w) (by simp [execOp, ho, hb', asBool]) ⟨g', fr', h1, h2⟩
theorem one_ok (h : Ok st g fr a w) (hX : Fits X st) {c : CV} {v : Value} (hrun : (execOp a.eval o).run P w = .ok (.value v) w) (hfr : free c = true) (hv : rel w g (isBox fr) (.air 0) c v)
    (hf : fin X fr o.dst (.comp false [c]) K = some r) : o.wp P a w (Good st K r) Q := by
  obtain ⟨g', fr', h1, h2⟩ := fin_one hX h hfr hv hf
  exact wp_value hrun ⟨g', fr', h1, h2⟩
theorem run_eqGuard_other {op : BinOp} {t : TypeId} {x y : Operand} {u v : Value} (h : (match u, v with | .nilIface, .nilIface => true | .agg _, .agg _ => true | _, _ => false) = false) : (eqGuard op t x y u v).run P w = .ok () w := by
  unfold eqGuard
  cases op <;> simp <;> (cases u <;> cases v <;> simp_all)
theorem eqCells_run (w : World) (g : Gh) (bx : Nat → Bool) (d : Nat) : ∀ (cs ds : List CV) (q : Bool), eqCells cs ds = some q → ∀ (xs ys : List Value) (s i k : Nat) (fs : List Field),
    (∀ (j : Nat) (c : CV), cs[j]? = some c → ∃ u : Value, xs[k + j]? = some u ∧ ∀ p, rel w g bx p c u) → (∀ (j : Nat) (c : CV), ds[j]? = some c → ∃ u : Value, ys[k + j]? = some u ∧ ∀ p, rel w g bx p c u) →
    fs.length = cs.length → fitEqF P k fs = true → (Op.eqFields (d + 1) xs.toArray ys.toArray fs).run P w = .ok q w := by
  intro cs
  induction cs with
  | nil =>
    intro ds q hq xs ys s i k fs hx hy hl hf
    have hfs : fs = [] := List.eq_nil_of_length_eq_zero (by simpa using hl)
    subst hfs
    cases ds with
    | nil => simp [eqCells] at hq; subst hq; simp [Op.eqFields]
    | cons c ds => cases c <;> simp [eqCells] at hq
  | cons c cs ih =>
    intro ds q hq xs ys s i k fs hx hy hl hf
    cases ds with
    | nil => cases c <;> simp [eqCells] at hq
    | cons e ds =>
      cases c <;> cases e <;> try (simp [eqCells] at hq; done)
      rename_i j1 n1 j2 n2
      simp only [eqCells] at hq
      split at hq
      · rename_i hj
        subst hj
        cases hq' : eqCells cs ds with
        | none => rw [hq'] at hq; cases hq
        | some q' =>
          rw [hq'] at hq
          simp only [Option.some.injEq] at hq
          subst hq
          cases fs with
          | nil => simp at hl
          | cons F fs =>
            simp only [fitEqF, Bool.and_eq_true] at hf
            obtain ⟨f1, f2, f3, f4⟩ := hf
            obtain ⟨u, hu, hru⟩ := hx 0 _ rfl
            obtain ⟨v, hv, hrv⟩ := hy 0 _ rfl
            have hru' : u = .int j1 n1 := hru (.air 0)
            have hrv' : v = .int j1 n2 := hrv (.air 0)
            subst hru' hrv'
            have hoff : F.offset = k := Nat.eq_of_beq_eq_true f2
            split at f3
            · rename_i kk hk
              have hag : (isAgg F.type).run P w = .ok false w := by unfold isAgg; rw [Sem.run_bind, run_underlying hk w]; rfl
              have hp1 : (part F.type xs.toArray F.offset).run P w = .ok (.int j1 n1) w := by
                simp only [part, Sem.run_bind, hag, Result.andThen_ok, Bool.false_eq_true, if_false, hoff]
                simp only [Nat.add_zero] at hu
                simp [hu]
              have hp2 : (part F.type ys.toArray F.offset).run P w = .ok (.int j1 n2) w := by
                simp only [part, Sem.run_bind, hag, Result.andThen_ok, Bool.false_eq_true, if_false, hoff]
                simp only [Nat.add_zero] at hv
                simp [hv]
              have hne : F.name ≠ "_" := by simpa using f1
              simp only [Op.eqFields, hne, ne_eq, not_false_eq_true, if_true, Sem.run_bind, hp1, hp2, Result.andThen_ok, run_equalIn_int w d F.type j1 kk n1 n2 hk]
              have hih := ih ds q' hq' xs ys s i (k + 1) fs (fun j c hj => by
                obtain ⟨u, hu, hr⟩ := hx (j + 1) c (by simpa using hj)
                exact ⟨u, by rw [show k + 1 + j = k + (j + 1) by omega]; exact hu, hr⟩) (fun j c hj => by
                obtain ⟨u, hu, hr⟩ := hy (j + 1) c (by simpa using hj)
                exact ⟨u, by rw [show k + 1 + j = k + (j + 1) by omega]; exact hu, hr⟩) (by simpa using hl) f4
              by_cases hn : n1 = n2
              · simp [hn, hih]
              · have : (n1 == n2) = false := by simp [hn]
                simp [this, hn]
            · cases f3
      · cases hq
theorem bifS {α : Type} {b : Bool} {x : Option α} {r : α} (h : (bif b then x else none) = some r) : b = true ∧ x = some r := by cases b <;> simp_all
theorem eqCells_length : ∀ (cs ds : List CV) (q : Bool), eqCells cs ds = some q → cs.length = ds.length
  | [], [], q, _ => rfl
  | [], d :: ds, q, h => by cases d <;> simp [eqCells] at h
  | c :: cs, [], q, h => by cases c <;> simp [eqCells] at h
  | c :: cs, d :: ds, q, h => by
    cases c <;> cases d <;> try (simp [eqCells] at h; done)
    simp only [eqCells] at h
    split at h
    · split at h
      · rename_i q' hq; simp [eqCells_length cs ds q' hq]
      · cases h
    · cases h
theorem eqCells_app : ∀ (cs ds cs' ds' : List CV) (q : Bool), cs.length = ds.length → eqCells (cs ++ cs') (ds ++ ds') = some q → ∃ q1 q2, eqCells cs ds = some q1 ∧ eqCells cs' ds' = some q2 ∧ q = (q1 && q2)
  | [], [], cs', ds', q, _, h => ⟨true, q, rfl, h, rfl⟩
  | [], d :: ds, cs', ds', q, hl, h => by simp at hl
  | c :: cs, [], cs', ds', q, hl, h => by simp at hl
  | c :: cs, d :: ds, cs', ds', q, hl, h => by
    simp only [List.cons_append] at h
    cases c <;> cases d <;> try (simp [eqCells] at h; done)
    simp only [eqCells] at h ⊢
    split at h
    · rename_i hj
      split at h
      · rename_i q' hq
        obtain ⟨q1, q2, h1, h2, rfl⟩ := eqCells_app cs ds cs' ds' q' (by simpa using hl) hq
        cases h
        exact ⟨_, q2, by rw [if_pos hj, h1], h2, by rw [Bool.and_assoc]⟩
      · cases h
    · cases h
theorem fitEqN_le (P : Program) : ∀ (fs : List Field) (k n : Nat), fitEqN P k fs = some n → k ≤ n
  | [], k, n, h => by cases h; exact Nat.le_refl _
  | F :: fs, k, n, h => by
    rw [fitEqN] at h
    obtain ⟨_, h⟩ := bifS h
    split at h
    · exact Nat.le_trans (Nat.le_succ k) (fitEqN_le P fs _ n h)
    · obtain ⟨_, h⟩ := bifS h
      exact Nat.le_trans (Nat.le_add_right k _) (fitEqN_le P fs _ n h)
    · cases h
theorem eqNest_run (w : World) (g : Gh) (bx : Nat → Bool) (d : Nat) : ∀ (fs : List Field) (k n : Nat), fitEqN P k fs = some n → ∀ (cs ds : List CV) (q : Bool), eqCells cs ds = some q → k + cs.length = n → ∀ (xs ys : List Value),
    (∀ (j : Nat) (c : CV), cs[j]? = some c → ∃ u : Value, xs[k + j]? = some u ∧ ∀ p, rel w g bx p c u) → (∀ (j : Nat) (c : CV), ds[j]? = some c → ∃ u : Value, ys[k + j]? = some u ∧ ∀ p, rel w g bx p c u) →
    (Op.eqFields (d + 1 + 1) xs.toArray ys.toArray fs).run P w = .ok q w := by
  intro fs
  induction fs with
  | nil =>
    intro k n hf cs ds q hq hl xs ys hx hy
    cases hf
    have : cs = [] := List.eq_nil_of_length_eq_zero (by omega)
    subst this
    cases ds with
    | nil => simp [eqCells] at hq; subst hq; simp [Op.eqFields]
    | cons c ds => cases c <;> simp [eqCells] at hq
  | cons F fs ih =>
    intro k n hf cs ds q hq hl xs ys hx hy
    rw [fitEqN] at hf
    obtain ⟨hno, hf⟩ := bifS hf
    simp only [Bool.and_eq_true] at hno
    obtain ⟨hna, hof⟩ := hno
    have hoff : F.offset = k := Nat.eq_of_beq_eq_true hof
    have hne : F.name ≠ "_" := by simpa using hna
    have hqn := eqCells_length cs ds q hq
    split at hf
    · rename_i kk hk
      have hle := fitEqN_le P fs _ n hf
      have hag : (isAgg F.type).run P w = .ok false w := by unfold isAgg; rw [Sem.run_bind, run_underlying hk w]; rfl
      cases cs with
      | nil => simp at hl; omega
      | cons c cs =>
        cases ds with
        | nil => simp at hqn
        | cons e ds =>
          cases c <;> cases e <;> try (simp [eqCells] at hq; done)
          rename_i j1 n1 j2 n2
          simp only [eqCells] at hq
          split at hq
          case isFalse => cases hq
          rename_i hj
          subst hj
          cases hq' : eqCells cs ds with
          | none => rw [hq'] at hq; cases hq
          | some q' =>
            rw [hq'] at hq
            simp only [Option.some.injEq] at hq
            subst hq
            obtain ⟨u, hu, hru⟩ := hx 0 _ rfl
            obtain ⟨v, hv, hrv⟩ := hy 0 _ rfl
            have hru' : u = .int j1 n1 := hru (.air 0)
            have hrv' : v = .int j1 n2 := hrv (.air 0)
            subst hru' hrv'
            have hp1 : (part F.type xs.toArray F.offset).run P w = .ok (.int j1 n1) w := by
              simp only [part, Sem.run_bind, hag, Result.andThen_ok, Bool.false_eq_true, if_false, hoff]
              simp only [Nat.add_zero] at hu
              simp [hu]
            have hp2 : (part F.type ys.toArray F.offset).run P w = .ok (.int j1 n2) w := by
              simp only [part, Sem.run_bind, hag, Result.andThen_ok, Bool.false_eq_true, if_false, hoff]
              simp only [Nat.add_zero] at hv
              simp [hv]
            simp only [Op.eqFields, hne, ne_eq, not_false_eq_true, if_true, Sem.run_bind, hp1, hp2, Result.andThen_ok, run_equalIn_int w (d + 1) F.type j1 kk n1 n2 hk]
            have hih := ih (k + 1) n hf cs ds q' hq' (by simp only [List.length_cons] at hl; omega) xs ys (fun j c hj => by
              obtain ⟨u, hu, hr⟩ := hx (j + 1) c (by simpa using hj)
              exact ⟨u, by rw [show k + 1 + j = k + (j + 1) by omega]; exact hu, hr⟩) (fun j c hj => by
              obtain ⟨u, hu, hr⟩ := hy (j + 1) c (by simpa using hj)
              exact ⟨u, by rw [show k + 1 + j = k + (j + 1) by omega]; exact hu, hr⟩)
            by_cases hn : n1 = n2
            · simp [hn, hih]
            · have : (n1 == n2) = false := by simp [hn]
              simp [this, hn]
    · rename_i gs hk
      obtain ⟨hst, hf⟩ := bifS hf
      simp only [Bool.and_eq_true, Bool.not_eq_true'] at hst
      obtain ⟨hst, hff, hsz⟩ := hst
      split at hsz
      case h_2 => cases hsz
      rename_i i hi
      have hsz : i.size = gs.toList.length := Nat.eq_of_beq_eq_true hsz
      have hle := fitEqN_le P fs _ n hf
      generalize hm : gs.toList.length = m at *
      have hsplit : ∀ l : List CV, l = l.take m ++ l.drop m := fun l => (List.take_append_drop m l).symm
      have hcl : (cs.take m).length = m := by simp; omega
      have hdl : (ds.take m).length = m := by simp; omega
      rw [hsplit cs, hsplit ds] at hq
      obtain ⟨q1, q2, h1, h2, rfl⟩ := eqCells_app _ _ _ _ q (by omega) hq
      have hag : (isAgg F.type).run P w = .ok true w := by unfold isAgg; rw [Sem.run_bind, run_underlying hk w]; rfl
      have hpart : ∀ zs : List Value, (part F.type zs.toArray F.offset).run P w = .ok (.agg ((zs.drop k).take m).toArray) w := by
        intro zs
        have hso : (sizeOf F.type).run P w = .ok i.size w := by simp [sizeOf, typeInfo, hi]
        simp only [part, Sem.run_bind, hag, Result.andThen_ok, if_true, hso, hoff, hsz, Sem.run_pure]
        congr 2
        apply Array.ext'
        simp [List.extract_eq_take_drop]
      have hin : (Op.equalIn (d + 1 + 1) F.type (.agg ((xs.drop k).take m).toArray) (.agg ((ys.drop k).take m).toArray)).run P w = .ok q1 w := by
        rw [run_equalIn_agg w (d + 1) F.type _ _ (by unfold Program.fieldsOf; rw [hk]) hst]
        refine eqCells_run w g bx d (cs.take m) (ds.take m) q1 h1 _ _ 0 0 0 _ (fun j c hj => ?_) (fun j c hj => ?_) ?_ ?_
        · have hjm : j < m := by have := (List.getElem?_eq_some_iff.1 hj).1; omega
          rw [List.getElem?_take_of_lt hjm] at hj
          obtain ⟨u, hu, hr⟩ := hx j c hj
          exact ⟨u, by rw [List.getElem?_take_of_lt (by omega), List.getElem?_drop]; simpa using hu, hr⟩
        · have hjm : j < m := by have := (List.getElem?_eq_some_iff.1 hj).1; omega
          rw [List.getElem?_take_of_lt hjm] at hj
          obtain ⟨u, hu, hr⟩ := hy j c hj
          exact ⟨u, by rw [List.getElem?_take_of_lt (by omega), List.getElem?_drop]; simpa using hu, hr⟩
        · simp only [Program.fieldsOf, hk]; omega
        · simp only [Program.fieldsOf, hk]; exact hff
      have hih := ih (k + m) n hf (cs.drop m) (ds.drop m) q2 h2 (by simp; omega) xs ys (fun j c hj => by
        rw [List.getElem?_drop] at hj
        obtain ⟨u, hu, hr⟩ := hx (m + j) c hj
        exact ⟨u, by rw [Nat.add_assoc]; exact hu, hr⟩) (fun j c hj => by
        rw [List.getElem?_drop] at hj
        obtain ⟨u, hu, hr⟩ := hy (m + j) c hj
        exact ⟨u, by rw [Nat.add_assoc]; exact hu, hr⟩)
      simp only [Op.eqFields, hne, ne_eq, not_false_eq_true, if_true, Sem.run_bind, hpart, Result.andThen_ok, hin]
      cases q1
      · simp
      · simp [hih]
    · cases hf
theorem equalIn_nil {w : World} {t : TypeId} {el : TypeId} {ad : Addr} {n c : Nat} (hu : P.underlying t = some (.slice el)) (d : Nat) : (Op.equalIn (d + 1) t (.slice (some ad) n c) (.slice none 0 0)).run P w = .ok false w := by
  simp [Op.equalIn, run_underlying hu]
theorem bin_ok (hT : TabOk P X) (h : Ok st g fr a w) (hX : Fits X st) {isB isS : Bool} {op : BinOp} {t ty : TypeId} {x y : Operand} (hB : isB = X.boolT t) (hS : isS = (X.sl t).isSome) (ho : o.op = .binOp op t x y ty)
    (hf : binop isB isS op (opc fr x) (opc fr y) (fun c => fin X fr o.dst (.comp false [c]) K) = some r) : o.wp P a w (Good st K r) Q := by
  cases hx : opc fr x <;> cases hy : opc fr y <;> rw [hx, hy] at hf <;> simp only [binop] at hf <;> first | (cases hf; done) | skip
  · rename_i j u k v
    split at hf
    · rename_i hjk
      subst hjk
      have h1 : a.eval x = .int j u := (opc_rel h hx (by simp) (by simp)).2
      have h2 : a.eval y = .int j v := (opc_rel h hy (by simp) (by simp)).2
      obtain ⟨c, z, e1, e2, e3, e4⟩ := arith_ok (P := P) (w := w) (t := t) hf
      refine one_ok h hX (v := z) (c := c) ?_ e2 (e3 g _ _) e4
      simp only [execOp, ho, h1, h2, Sem.run_bind, run_eqGuard_other (u := .int j u) (v := .int j v) rfl, Result.andThen_ok, e1, Sem.run_pure]
    · cases hf
  · rename_i u v
    have h1 : a.eval x = .bool u := (opc_rel h hx (by simp) (by simp)).2
    have h2 : a.eval y = .bool v := (opc_rel h hy (by simp) (by simp)).2
    cases hb : isB
    · simp [hb] at hf
    · rw [hb] at hf hB
      have hu := ti_bool hT hB.symm
      have he : (Op.equal t (.bool u) (.bool v)).run P w = .ok (u == v) w := by
        unfold Op.equal Op.maxDepth
        exact run_equalIn_bool' w _ t u v hu
      cases op <;> simp only [cond_true] at hf <;> first
        | (cases hf; done)
        | (refine one_ok (c := .bool _) h hX (hv := rfl) (hfr := rfl) (hf := hf) ?_
           simp only [execOp, ho, h1, h2, Sem.run_bind, run_eqGuard_other (u := .bool u) (v := .bool v) rfl, Result.andThen_ok, binOp, he, Sem.run_pure])
  · rename_i u xs
    obtain ⟨hSS, hf⟩ := bifS hf
    rw [hSS] at hS
    obtain ⟨e, he⟩ := Option.isSome_iff_exists.1 hS.symm
    obtain ⟨el, hu, -⟩ := ti_slice hT he
    have h1 : RS w g.Z u xs (a.eval x) := (opc_rel h hx (by simp) (by simp)).2
    have h2 : a.eval y = .slice none 0 0 := (opc_rel h hy (by simp) (by simp)).2
    simp only [rep, List.cons.injEq, and_true] at h1
    obtain ⟨A, cap, h1, -, h3⟩ := h1
    have key : 0 < xs.length → (Op.equal t (.slice A xs.length cap) (.slice none 0 0)).run P w = .ok false w := by
      intro hp
      obtain ⟨ad, -, rfl, -⟩ := h3 0 _ (List.getElem?_eq_getElem hp)
      unfold Op.equal Op.maxDepth
      exact equalIn_nil hu 9999
    cases op <;> simp only at hf <;> first
      | (cases hf; done)
      | (split at hf
         · rename_i hp
           refine one_ok (c := .bool _) h hX (hv := rfl) (hfr := rfl) (hf := hf) ?_
           simp only [execOp, ho, h1, h2, Sem.run_bind, run_eqGuard_other (u := .slice A xs.length cap) (v := .slice none 0 0) rfl, Result.andThen_ok, binOp, key hp, Sem.run_pure, Bool.not_false]
         · cases hf)
theorem struct_eq_ok (hT : TabOk P X) (h : Ok st g fr a w) (hX : Fits X st) {op : BinOp} {t ty : TypeId} {x y : Operand} (ho : o.op = .binOp op t x y ty) {cs ds : List CV} {i : TI} {q : Bool}
    (hx : opd fr x = (true, cs)) (hy : opd fr y = (true, ds)) (hi : X.ti t = some i) (hq : eqCells cs ds = some q) (he : (i.eq && i.agg && cs.length.beq i.ty.cells) = true)
    (hf : (match op with
          | .eql => fin X fr o.dst (.comp false [.bool q]) K
          | .neq => fin X fr o.dst (.comp false [.bool (!q)]) K
          | _ => none) = some r) : o.wp P a w (Good st K r) Q := by
  simp only [Bool.and_eq_true] at he
  obtain ⟨⟨he1, he2⟩, he3⟩ := he
  have hfe := ti_eq hT hi he1
  obtain ⟨fs, hfs, hff⟩ := ti_struct hT hi he2
  simp only [fitEq, Bool.and_eq_true, Bool.not_eq_true', hfs] at hfe
  obtain ⟨hst, hgd, hfq⟩ := hfe
  split at hfq
  case h_2 => cases hfq
  rename_i n hn
  have hn' : n = i.ty.cells := Nat.eq_of_beq_eq_true hfq
  have he3 : cs.length = i.ty.cells := Nat.eq_of_beq_eq_true he3
  obtain ⟨hxf, xs, hxv, hxc⟩ := (by have := opd_ok h x; rw [hx] at this; exact this : FRel w g (isBox fr) (true, cs) (a.eval x))
  obtain ⟨hyf, ys, hyv, hyc⟩ := (by have := opd_ok h y; rw [hy] at this; exact this : FRel w g (isBox fr) (true, ds) (a.eval y))
  have key : (Op.equalIn 10000 t (.agg xs.toArray) (.agg ys.toArray)).run P w = .ok q w := by
    rw [show (10000 : Nat) = 9997 + 1 + 1 + 1 from rfl, run_equalIn_agg w (9997 + 1 + 1) t _ _ (by unfold Program.fieldsOf; rw [hfs]) hst]
    have hfo : (P.fieldsOf t).toList = fs.toList := by simp only [Program.fieldsOf, hfs]
    rw [hfo]
    refine eqNest_run w g (isBox fr) 9997 fs.toList 0 n hn cs ds q hq (by omega) xs ys (fun j c hj => ?_) (fun j c hj => ?_)
    · obtain ⟨u, hu, hr⟩ := hxc.2 j c hj
      exact ⟨u, by simpa using hu, fun p => rel_place (List.all_eq_true.1 hxf c (List.mem_of_getElem? hj)) hr⟩
    · obtain ⟨u, hu, hr⟩ := hyc.2 j c hj
      exact ⟨u, by simpa using hu, fun p => rel_place (List.all_eq_true.1 hyf c (List.mem_of_getElem? hj)) hr⟩
  cases op <;> simp only at hf <;> first
    | (cases hf; done)
    | (refine one_ok (c := .bool _) h hX (hv := rfl) (hfr := rfl) (hf := hf) ?_
       simp only [execOp, ho, hxv, hyv, Sem.run_bind, run_eqGuard_agg w _ t x y _ _ hgd, Result.andThen_ok, run_eql_struct, run_neq_struct, key, Sem.run_pure])
end
end Go.Rv

/- Operations that read memory, and the last of those that do not touch it. -/
import Derived.Test.YtlkmjldhhoopcaaRvOps
namespace Go.Rv
set_option linter.unusedSimpArgs false
set_option linter.unusedVariables false
section
variable {P : Program} {st : St} {g : Gh} {fr : Fr} {a : Act} {w : World} {X : Env} {o : Oper} {R : Type} {K : Fr → Option R} {r : R} {Q : Exit → Act → World → Prop}
theorem not_ok (h : Ok st g fr a w) (hX : Fits X st) {t : TypeId} {x : Operand} (ho : o.op = .unOp .not t x) {b : Bool} (hx : opc fr x = .bool b) (hf : fin X fr o.dst (.comp false [.bool (!b)]) K = some r) : o.wp P a w (Good st K r) Q := by
  have h1 : a.eval x = .bool b := (opc_rel h hx (by simp) (by simp)).2
  exact one_ok (c := .bool (!b)) (v := .bool (!b)) h hX (by simp [execOp, ho, h1, Op.unary]) rfl rel_bool hf
theorem neg_ok (h : Ok st g fr a w) (hX : Fits X st) {t : TypeId} {x : Operand} (ho : o.op = .unOp .neg t x) {k : IntKind} {n : Int} (hx : opc fr x = .int k n) (hf : fin X fr o.dst (.comp false [.int k (wr k (0 - n))]) K = some r) : o.wp P a w (Good st K r) Q := by
  have h1 : a.eval x = .int k n := (opc_rel h hx (by simp) (by simp)).2
  exact one_ok (c := .int k (wr k (0 - n))) (v := .int k (wr k (0 - n))) h hX (by simp [execOp, ho, h1, Op.unary, Op.intArith, wr_eq]) rfl rel_int hf
theorem convert_ok (hT : TabOk P X) (h : Ok st g fr a w) (hX : Fits X st) {s t : TypeId} {x : Operand} (ho : o.op = .convert s t x) {i : TI} {k j : IntKind} {n : Int} (hs : X.ti s = some i) (ht : X.intK t = some k) (hx : opc fr x = .int j n)
    (hf : fin X fr o.dst (.comp false [.int k (wr k n)]) K = some r) : o.wp P a w (Good st K r) Q := by
  have h1 : a.eval x = .int j n := (opc_rel h hx (by simp) (by simp)).2
  obtain ⟨d, hd, _⟩ := ti_under hT hs
  exact one_ok (c := .int k (wr k n)) (v := .int k (wr k n)) h hX (by
    simp only [execOp, ho, h1, convert, Sem.run_bind, run_underlying hd, run_underlying (ti_int hT ht), Result.andThen_ok, Conv.intToInt, Sem.run_pure, wr_eq]) rfl rel_int hf
theorem len_ok (hT : TabOk P X) (h : Ok st g fr a w) (hX : Fits X st) {c : Call} {x : Operand} {t : TypeId} (ho : o.op = .call c) (hc : c.callee = .builtin .len) (hat : c.argTypes.toList = [t]) (ha : c.args.toList = [x]) {n : Int}
    (hn : lenOf (X.strT t) (X.sl t).isSome (opc fr x) = some n) (hf : fin X fr o.dst (.comp false [.int .i64 n]) K = some r) : o.wp P a w (Good st K r) Q := by
  obtain ⟨ce, ⟨as⟩, ⟨ts⟩⟩ := c
  simp only at hc hat ha
  subst hc hat ha
  have key : (Builtin.len_ #[t] o.type #[a.eval x]).run P w = .ok (.int .i64 n) w := by
    cases hx : opc fr x <;> rw [hx] at hn <;> simp only [lenOf] at hn <;> first | (cases hn; done) | skip
    case str s =>
      have h1 : a.eval x = .string s := (opc_rel h hx (by simp) (by simp)).2
      cases hs : X.strT t
      · simp [hs] at hn
      · simp only [hs, cond_true, Option.some.injEq] at hn
        subst hn
        simp [Builtin.len_, run_underlying (ti_str hT hs), h1, goInt]
    all_goals
      cases hs : X.sl t with
      | none => simp [hs] at hn
      | some u =>
        simp only [hs, Option.isSome_some, cond_true, Option.some.injEq] at hn
        subst hn
        obtain ⟨e, he, _⟩ := ti_slice hT hs
        have h1 := (opc_rel h hx (by simp) (by simp)).2
        first
          | (have h2 : a.eval x = .slice none 0 0 := h1
             simp [Builtin.len_, run_underlying he, h2, goInt]; done)
          | (obtain ⟨A, cap, hv, _⟩ := h1
             simp only [List.cons.injEq, and_true] at hv
             simp [Builtin.len_, run_underlying he, hv, goInt]; done)
          | (obtain ⟨⟨A, cap, hv, _⟩, _⟩ := h1
             simp only [List.cons.injEq, and_true] at hv
             simp [Builtin.len_, run_underlying he, hv, goInt]; done)
  exact one_ok (c := .int .i64 n) h hX (v := .int .i64 n) (by
    simp [execOp, ho, resolve, invoke, builtin, key, Result.andThen]) rfl rel_int hf
theorem min_ok (h : Ok st g fr a w) (hX : Fits X st) {c : Call} {x y : Operand} (ho : o.op = .call c) (hc : c.callee = .builtin .min) (ha : c.args.toList = [x, y]) {j : IntKind} {m n : Int}
    (hx : opc fr x = .int j m) (hy : opc fr y = .int j n) (hf : fin X fr o.dst (.comp false [.int j (if n < m then n else m)]) K = some r) : o.wp P a w (Good st K r) Q := by
  obtain ⟨ce, ⟨as⟩, ts⟩ := c
  simp only at hc ha
  subst hc ha
  have h1 : a.eval x = .int j m := (opc_rel h hx (by simp) (by simp)).2
  have h2 : a.eval y = .int j n := (opc_rel h hy (by simp) (by simp)).2
  exact one_ok (c := .int j (if n < m then n else m)) h hX (v := .int j (if n < m then n else m)) (by
    simp [execOp, ho, resolve, invoke, builtin, h1, h2, Builtin.min_, Builtin.min2, Result.andThen]) rfl rel_int hf
theorem max_ok (h : Ok st g fr a w) (hX : Fits X st) {c : Call} {x y : Operand} (ho : o.op = .call c) (hc : c.callee = .builtin .max) (ha : c.args.toList = [x, y]) {j : IntKind} {m n : Int}
    (hx : opc fr x = .int j m) (hy : opc fr y = .int j n) (hf : fin X fr o.dst (.comp false [.int j (if m < n then n else m)]) K = some r) : o.wp P a w (Good st K r) Q := by
  obtain ⟨ce, ⟨as⟩, ts⟩ := c
  simp only at hc ha
  subst hc ha
  have h1 : a.eval x = .int j m := (opc_rel h hx (by simp) (by simp)).2
  have h2 : a.eval y = .int j n := (opc_rel h hy (by simp) (by simp)).2
  exact one_ok (c := .int j (if m < n then n else m)) h hX (v := .int j (if m < n then n else m)) (by
    simp [execOp, ho, resolve, invoke, builtin, h1, h2, Builtin.max_, Builtin.max2, Result.andThen]) rfl rel_int hf
end
end Go.Rv

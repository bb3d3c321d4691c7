/- Arguments that are structs, or slices of structs, opened: what reads as data in memory is a plain value, in the printer's words (Kd). For every program. -/
import Derived.Test.YtlkmjldhhoopcaaVWords
import Derived.ChangeArms
import Derived.WideShapes
import Derived.DataElems
namespace Go.Proofs.Ytlkmjldhhoopcaa.K
open Go.RowKit Go.WideShapes Go.Proofs.YtlkmjldhhoopcaaW.PrintWords
set_option linter.unusedVariables false

def Opens {α : Type} (P : Program) (t : TypeId) (d : Kd α) (wf : α → Prop) : Prop :=
  ∀ (H : Type) (enc : TypeId × Value → H) (w : World) (spare : Nat → Bool) (held : Bool) (n : Nat) (cs : List Value) (x : DataW H × List MemPlace),
    DataW.trod enc P w 0 spare held n t cs = some x → ∃ a : α, d.K w a cs ∧ wf a
theorem opens_int {P : Program} {t : TypeId} {k : IntKind} (ht : P.underlying t = some (.int k)) : Opens P t (Kd.int k) (fun n => (Lit.int k n).wf = true) := by
  intro H enc w spare held n cs x h
  obtain ⟨m, rfl, _, hw⟩ := DataW.trod_int ht h
  exact ⟨m, rfl, hw⟩
theorem opens_bool {P : Program} {t : TypeId} (ht : P.underlying t = some .bool) : Opens P t Kd.bool (fun _ => True) := by
  intro H enc w spare held n cs x h
  obtain ⟨b, rfl, _⟩ := DataW.trod_bool ht h
  exact ⟨b, rfl, trivial⟩
theorem cons_of {n : Nat} {cs : List Value} (h : cs.length = n + 1) : ∃ c r, cs = c :: r ∧ r.length = n := by
  cases cs with
  | nil => simp at h
  | cons c r => exact ⟨c, r, rfl, by simpa using h⟩
/-- Elements one by one: a list of them. -/
theorem all_of {α : Type} (n : Nat) (Q : Nat → α → Prop) (h : ∀ i, i < n → ∃ a, Q i a) : ∃ xs : List α, xs.length = n ∧ ∀ i x, xs[i]? = some x → Q i x := by
  induction n with
  | zero => exact ⟨[], rfl, fun i x hx => by simp at hx⟩
  | succ n ih =>
    obtain ⟨xs, hl, hx⟩ := ih (fun i hi => h i (by omega))
    obtain ⟨a, ha⟩ := h n (by omega)
    refine ⟨xs ++ [a], by simp [hl], fun i x hi => ?_⟩
    rcases Nat.lt_trichotomy i n with c | c | c
    · rw [List.getElem?_append_left (by omega)] at hi
      exact hx i x hi
    · subst c
      rw [List.getElem?_append_right (by omega), hl] at hi
      simp at hi
      exact hi ▸ ha
    · rw [List.getElem?_eq_none (by simp; omega)] at hi
      cases hi
theorem opens_slice {α : Type} {P : Program} {t e : TypeId} {d : Kd α} {wf : α → Prop} (ht : P.underlying t = some (.slice e)) (hc : P.cellsOf e = d.sz) (ho : Opens P e d wf) :
    Opens P t (Kd.slice e d) (fun xs => ∀ x ∈ xs, wf x) := by
  intro H enc w spare held n cs x h
  rcases DataW.trod_slice ht h with ⟨rfl, _⟩ | ⟨a, len, cap, elems, rest, m, rfl, rfl, _, _, h1, h2, hl, he, _⟩
  · exact ⟨[], ⟨none, 0, rfl, Nat.le_refl _, Kd.C_nil d w⟩, fun x hx => by simp at hx⟩
  · have hel : ∀ i, i < len → ∃ x : α, (∃ c : List Value, c.length = d.sz ∧ d.K w x c ∧ ∀ j u, c[j]? = some u → w.cell? (a.add (i * d.sz + j)) = some u) ∧ wf x := by
      intro i hi
      have hi' := he i hi
      rw [List.getElem?_eq_getElem (by omega)] at hi'
      obtain ⟨row, hrow, htr⟩ := Option.bind_eq_some_iff.1 hi'
      obtain ⟨_, hlen, hcell⟩ := World.cells?_some hrow
      obtain ⟨y, hK, hw⟩ := ho H enc w spare held m row _ htr
      refine ⟨y, ⟨row, by rw [hlen, hc], hK, fun j u hu => ?_⟩, hw⟩
      have hj : j < row.length := (List.getElem?_eq_some_iff.1 hu).1
      have := hcell j (by omega)
      rw [Addr.add_add, hc] at this
      rw [this]; exact hu
    obtain ⟨xs, hxl, hxs⟩ := all_of len (fun i x => (∃ c : List Value, c.length = d.sz ∧ d.K w x c ∧ ∀ j u, c[j]? = some u → w.cell? (a.add (i * d.sz + j)) = some u) ∧ wf x) hel
    refine ⟨xs, ⟨some a, cap, by rw [hxl], by omega, rfl, ?_, fun _ => ⟨a, rfl, fun j p hj => (hxs j p hj).1⟩⟩, fun x hx => ?_⟩
    · simp only [maxLen] at h2; omega
    · obtain ⟨i, hi, rfl⟩ := List.getElem_of_mem hx
      exact (hxs i _ (List.getElem?_eq_getElem hi)).2
/-- A struct argument, by value: its cells. -/
theorem opens_arg {α : Type} {H : Type} {enc : TypeId × Value → H} {P : Program} {W : World} {r : Reach} {b0 : Nat} {t : TypeId} {fs : Array Field} {d : Kd α} {wf : α → Prop} {v : Value} {x : DataW H} {p : List MemPlace} {spare : Nat → Bool} {held : Bool}
    (ht : P.underlying t = some (.struct fs)) (ho : Opens P t d wf) (hv : Value.okWide P W r b0 t v) (h : DataW.Trod enc P W 0 spare held t v x p) :
    ∃ (a : α) (cs : List Value), v = .agg cs.toArray ∧ d.K W a cs ∧ wf a := by
  obtain ⟨cs, rfl, _⟩ := okWide_struct ht hv
  obtain ⟨n, hn⟩ := h
  obtain ⟨a, hK, hw⟩ := ho H enc W spare held n _ _ hn
  exact ⟨a, cs.toList, by simp, hK, hw⟩
/-- A slice argument: its address, its capacity. -/
theorem opens_arg_slice {α : Type} {H : Type} {enc : TypeId × Value → H} {P : Program} {W : World} {r : Reach} {b0 : Nat} {t e : TypeId} {d : Kd α} {wf : List α → Prop} {v : Value} {x : DataW H} {p : List MemPlace} {spare : Nat → Bool} {held : Bool}
    (ht : P.underlying t = some (.slice e)) (ho : Opens P t (Kd.slice e d) wf) (hv : Value.okWide P W r b0 t v) (h : DataW.Trod enc P W 0 spare held t v x p) :
    ∃ (a : List α) (A : Option Addr) (c : Nat), v = .slice A a.length c ∧ a.length ≤ c ∧ d.C W A a.length a ∧ wf a := by
  obtain ⟨A, n, c, rfl⟩ := okWide_slice ht hv
  obtain ⟨m, hm⟩ := h
  obtain ⟨a, ⟨A', c', hcs, hc, hC⟩, hw⟩ := ho H enc W spare held m _ _ hm
  simp [Value.cells] at hcs
  obtain ⟨rfl, rfl, rfl⟩ := hcs
  exact ⟨a, A, c, rfl, hc, hC, hw⟩
end Go.Proofs.Ytlkmjldhhoopcaa.K

/- Calls of functions whose arguments are numbers, out of what the evaluator says of them. -/
import Derived.Test.YtigkpbnhdkdliaaRvM3
namespace Go.Rv
set_option linter.unusedSimpArgs false
set_option linter.unusedVariables false
def ghN (w : World) : Gh := { B := w.heap.size, M := fun _ => False, Z := fun _ _ => False, S := fun _ _ => False, O := fun _ => none, H := fun _ _ => none, X := fun _ => none }
/-- a comp of numbers, and the value that it is -/
def NumC : Comp → Value → Prop
  | (true, cs), v => ∃ ns : List Int, cs = ns.map (CV.int .i64) ∧ v = .agg (ns.map (Value.int .i64)).toArray
  | (false, cs), v => ∃ n, cs = [.int .i64 n] ∧ v = .int .i64 n
theorem initN (w : World) {args : List Comp} {vs : List Value} (hl : vs.length = args.length) (h : ∀ (i : Nat) (p : Comp), args[i]? = some p → ∃ v : Value, vs[i]? = some v ∧ NumC p v) : InitOk w (ghN w) args vs where
  eB := rfl
  ero := rfl
  len := hl
  arg := fun i p hp => by
    obtain ⟨v, hv, hn⟩ := h i p hp
    refine ⟨v, hv, ?_⟩
    obtain ⟨b, cs⟩ := p
    cases b with
    | true =>
      obtain ⟨ns, rfl, rfl⟩ := hn
      refine ⟨_, rfl, by simp, fun j c hj => ?_⟩
      rw [List.getElem?_map] at hj
      cases hx : ns[j]? with
      | none => rw [hx] at hj; simp at hj
      | some x =>
        rw [hx] at hj
        simp at hj
        subst hj
        exact ⟨.int .i64 x, by rw [List.getElem?_map, hx]; rfl, rfl⟩
    | false =>
      obtain ⟨n, rfl, rfl⟩ := hn
      exact ⟨_, rfl, .inr (.inr rfl)⟩
  own := fun b p hp => by cases hp
  stab := fun b o hs => hs.elim
  nobox := fun b s e => by cases e
  zs := fun b o hz => hz.elim
  sz := fun b o _ _ hs => hs.elim
  hh := fun s c u hu => by cases hu
/-- nothing that was has turned -/
structure Fresh (w w' : World) : Prop where
  os : w'.os = w.os
  tape : w'.tape = w.tape
  output : w'.output = w.output
  heap : w.heap.size ≤ w'.heap.size
  old : ∀ b, b < w.heap.size → w'.heap[b]? = w.heap[b]?
theorem calls_num {P : Program} {f : FuncId} {F : Fn} (hF : FnOk P f F) (hm : F.muts = []) (w : World) {args : List Comp} {vs : List Value} (hl : vs.length = args.length) (h : ∀ (i : Nat) (p : Comp), args[i]? = some p → ∃ v : Value, vs[i]? = some v ∧ NumC p v)
    {res : List Comp} (hrun : F.run args some = some res) : Calls P f vs.toArray w fun e w' => ∃ v g', e = .returned v ∧ Fresh w w' ∧ (∀ b p, g'.O b = some p → w.heap.size ≤ b) ∧ RVal w' g' res v := by
  refine (hF w (ghN w) args vs some res (initN w hl h) hrun).mono ?_
  rintro e w' ⟨v, res', g', rfl, hr, hR⟩
  cases hr
  obtain ⟨rs, outs, e1, e2, _⟩ := hR.val
  rw [hm] at e1
  have e1 : res = rs := by simpa using e1
  subst e1
  exact ⟨v, g', rfl, ⟨hR.os, hR.tape, hR.output, hR.heap, fun b hb => hR.old b hb fun hf => hf⟩, fun b p hp => Nat.le_of_not_lt fun hlt => (hR.own b p hp).2 hlt, e2⟩
/-- a row of numbers, somewhere -/
def RowI (w : World) (xs : List Int) (v : Value) : Prop := ∃ A cap, v = .slice A xs.length cap ∧ xs.length ≤ cap ∧ ∀ i x, xs[i]? = some x → ∃ a arr e, A = some a ∧ a.spot = none ∧ w.heap[a.block]? = some (.cells arr e (0, 0)) ∧ arr[a.off + i]? = some (.int .i64 x)
theorem rowI_own {w : World} {g : Gh} {p : Place} {xs : List Int} {v : Value} (h : OwnR w g p (.int .i64) xs v) : RowI w xs v := by
  rcases h with ⟨rfl, rfl⟩ | ⟨b, cap, cur, e, rfl, hO, hb, h1, h2, hs, hx, hS⟩
  · exact ⟨none, 0, rfl, Nat.le_refl _, fun i x hx => by simp at hx⟩
  · refine ⟨_, cap, rfl, h1, fun i x hi => ?_⟩
    obtain ⟨ecs, hr, hc⟩ := hx i x hi
    have hr : ecs = [.int .i64 x] := hr
    subst hr
    have hc := hc 0 _ rfl
    exact ⟨⟨b, 0, none⟩, cur, e, rfl, rfl, hb, by simpa [Ty.cells] using hc⟩
theorem own_new {w : World} {g : Gh} {p : Place} {xs : List Int} {v : Value} {n : Nat} (h : OwnR w g p (.int .i64) xs v) (hn : ∀ b p, g.O b = some p → n ≤ b) (a : Addr) (l c : Nat) (hv : v = .slice (some a) l c) : n ≤ a.block := by
  rcases h with ⟨rfl, rfl⟩ | ⟨b, cap, cur, e, rfl, hO, hb, h1, h2, hs, hx, hS⟩
  · cases hv
  · cases hv
    exact hn _ _ hO
end Go.Rv

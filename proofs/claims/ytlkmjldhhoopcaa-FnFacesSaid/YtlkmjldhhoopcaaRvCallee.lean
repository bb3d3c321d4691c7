/- A call that writes nothing of its arguments: the caller's side. -/
import Derived.Test.YtlkmjldhhoopcaaRvCall
namespace Go.Rv
set_option linter.unusedSimpArgs false
set_option linter.unusedVariables false
section
variable {P : Program} {st : St} {g : Gh} {fr : Fr} {a : Act} {w : World} {X : Env} {o : Oper} {R : Type} {K : Fr → Option R} {r : R} {Q : Exit → Act → World → Prop}
/-- the ghost that a callee starts with -/
def Gh.callee (w : World) (Z : Nat → Nat → Prop) : Gh := { B := w.heap.size, M := fun _ => False, Z := Z, S := Z, O := fun _ => none, H := fun _ _ => none, X := fun _ => none }
theorem flatArg_rel {Z : Nat → Nat → Prop} (hZ : ∀ b o, g.Z b o → Z b o) {bx : Nat → Bool} {p q : Place} : ∀ {c : CV} {v : Value}, (isOldF c = true ∨ ∀ b o, g.S b o → Z b o) → rel w g bx p c v → rel w (Gh.callee w Z) (fun _ => false) q (flatArg c) v ∧ relF w (Gh.callee w Z) (flatArg c) v
  | .nils, _, _, h => ⟨h, h⟩
  | .int _ _, _, _, h => ⟨h, h⟩
  | .bool _, _, _, h => ⟨h, h⟩
  | .str _, _, _, h => ⟨h, h⟩
  | .lo t xs, v, _, h => by
    have : RS w Z t xs v := rep_mono (fun b o hz => ⟨hZ b o hz, rfl⟩) h
    exact ⟨this, this⟩
  | .hi t xs, v, ho, h => by
    rcases ho with ho | ho
    · simp [isOldF] at ho
    · have : RS w Z t xs v := rep_mono (fun b o hz => ⟨ho b o hz, rfl⟩) h
      exact ⟨this, this⟩
  | .own t xs, v, ho, h => by
    rcases ho with ho | ho
    · simp [isOldF] at ho
    · have : RS w Z t xs v := rep_mono (fun b o hz => ⟨ho b o hz, rfl⟩) h.1.reads
      exact ⟨this, this⟩
  | .tmpo t xs, v, ho, h => by
    rcases ho with ho | ho
    · simp [isOldF] at ho
    · have : RS w Z t xs v := rep_mono (fun b o hz => ⟨ho b o hz, rfl⟩) h.1.reads
      exact ⟨this, this⟩
  | .ref s c t xs, v, ho, h => by
    rcases ho with ho | ho
    · simp [isOldF] at ho
    · have : RS w Z t xs v := rep_mono (fun b o hz => ⟨ho b o hz, rfl⟩) h.1
      exact ⟨this, this⟩
  | .dead, v, _, h => ⟨h, h⟩
  | .undef, _, _, h => h.elim
  | .mbox _, _, _, h => h.elim
  | .ptr s c, v, _, h => by have := rel_one (c := .ptr s c) (w := w) (g := g) (bx := bx) (p := p) h; exact ⟨this, this⟩
  | .rptr cs, v, _, h => by have := rel_one (c := .rptr cs) (w := w) (g := g) (bx := bx) (p := p) h; exact ⟨this, this⟩
  | .hptr cs, v, _, h => by have := rel_one (c := .hptr cs) (w := w) (g := g) (bx := bx) (p := p) h; exact ⟨this, this⟩
  | .eptr s c t i k cs, v, _, h => by have := rel_one (c := .eptr s c t i k cs) (w := w) (g := g) (bx := bx) (p := p) h; exact ⟨this, this⟩
  | .fn f caps, v, _, h => by have := rel_one (c := .fn f caps) (w := w) (g := g) (bx := bx) (p := p) h; exact ⟨this, this⟩
theorem PL_arg {Z : Nat → Nat → Prop} (hZ : ∀ b o, g.Z b o → Z b o) {Q : Nat → Nat → Prop} {ad : Addr} {cs : List CV} (ho : cs.all isOldF = true ∨ ∀ b o, g.S b o → Z b o) (h : PL w g Q ad cs) : PL w (Gh.callee w Z) (fun b _ => (Gh.callee w Z).L b) ad (cs.map flatArg) := by
  refine ⟨h.1, fun j c hj => ?_⟩
  rw [List.getElem?_map] at hj
  cases hc : cs[j]? with
  | none => rw [hc] at hj; simp at hj
  | some c' =>
    rw [hc] at hj
    simp at hj
    subst hj
    obtain ⟨_, u, e1, e2⟩ := h.2 j c' hc
    refine ⟨⟨block_lt_of_cell (a := ⟨ad.block, ad.off + j, none⟩) e1, fun e => e⟩, u, e1, (flatArg_rel (p := .air 0) (q := .air 0) (bx := fun _ => false) hZ ?_ (rel_of_relF e2)).2⟩
    rcases ho with ho | ho
    · exact .inl (List.all_eq_true.1 ho c' (List.mem_of_getElem? hc))
    · exact .inr ho
theorem argP_rel (h : Ok st g fr a w) {Z : Nat → Nat → Prop} (hZ : ∀ b o, g.Z b o → Z b o) {p q : Place} {c : CV} {v : Value} (ho : isOldC c = true ∨ ∀ b o, g.S b o → Z b o) (hfn : ∀ f caps, c ≠ .fn f caps) (hr : rel w g (isBox fr) p c v) :
    rel w (Gh.callee w Z) (fun _ => false) q (argP fr c) v ∧ relP w (Gh.callee w Z) (fun _ => false) (argP fr c) v := by
  have hfl : ∀ {c : CV}, isOldC c = true → (∀ cs, c ≠ .rptr cs) → (∀ f caps, c ≠ .fn f caps) → isOldF c = true := by
    intro c h1 h2 h3
    cases c <;> first | rfl | (exact absurd rfl (h2 _)) | (exact absurd rfl (h3 _ _)) | (simp [isOldC] at h1)
  have flat : ∀ {c : CV}, argP fr c = flatArg c → (isOldF c = true ∨ ∀ b o, g.S b o → Z b o) → rel w g (isBox fr) p c v → rel w (Gh.callee w Z) (fun _ => false) q (argP fr c) v ∧ relP w (Gh.callee w Z) (fun _ => false) (argP fr c) v := by
    intro c e ho hr
    rw [e]
    obtain ⟨h1, h2⟩ := flatArg_rel (q := q) hZ ho hr
    refine ⟨h1, ?_⟩
    cases c <;> exact h2
  cases c
  case ptr s c =>
    have hsub : ∀ b o, g.S b o → Z b o := ho.resolve_left (by simp [isOldC])
    obtain ⟨hb, b, hX, rfl⟩ := hr
    have hs := h.slot s
    cases hf : fr s with
    | comp bb cs => unfold isBox at hb; rw [hf] at hb; cases hb
    | tup vs => unfold isBox at hb; rw [hf] at hb; cases hb
    | box cs =>
      rw [hf] at hs
      obtain ⟨⟨b', arr, ty, e1, e2, e3, e4⟩, _⟩ := hs
      rw [hX] at e1; cases e1
      have : PL w (Gh.callee w Z) (fun b _ => (Gh.callee w Z).L b) ⟨b, c, none⟩ ((cs.drop c).map flatArg) := by
        refine ⟨rfl, fun j x hj => ?_⟩
        rw [List.getElem?_map] at hj
        cases hx : (cs.drop c)[j]? with
        | none => rw [hx] at hj; simp at hj
        | some x' =>
          rw [hx] at hj
          simp at hj
          subst hj
          rw [List.getElem?_drop] at hx
          obtain ⟨u, f1, f2⟩ := e4.2 _ x' hx
          have hcell : w.cell? ⟨b, c + j, none⟩ = some u := by rw [cell_of_row w b _ arr ty (0, 0) e3]; simpa using f1
          exact ⟨⟨block_lt_of_cell (a := ⟨b, c + j, none⟩) hcell, fun e => e⟩, u, hcell, (flatArg_rel (q := .air 0) hZ (.inr hsub) f2).2⟩
      have hap : argP fr (.ptr s c) = .rptr ((cs.drop c).map flatArg) := by unfold argP; simp only [hf]
      rw [hap]
      exact ⟨⟨_, rfl, this⟩, ⟨_, rfl, this⟩⟩
  case rptr cs =>
    obtain ⟨ad, rfl, hp⟩ := hr
    have := PL_arg (Z := Z) hZ ho hp
    exact ⟨⟨_, rfl, this⟩, ⟨_, rfl, this⟩⟩
  case hptr cs =>
    obtain ⟨ad, rfl, hp⟩ := hr
    have := PL_arg (Z := Z) hZ (.inr (ho.resolve_left (by simp [isOldC]))) hp
    exact ⟨⟨_, rfl, this⟩, ⟨_, rfl, this⟩⟩
  case eptr s c t i k cs =>
    obtain ⟨ad, rfl, hp, _⟩ := hr
    have := PL_arg (Z := Z) hZ (.inr (ho.resolve_left (by simp [isOldC]))) hp
    exact ⟨⟨_, rfl, this⟩, ⟨_, rfl, this⟩⟩
  case fn f caps => exact absurd rfl (hfn f caps)
  all_goals
    refine flat rfl ?_ hr
    rcases ho with ho | ho
    · exact .inl (hfl ho (by simp) (by simp))
    · exact .inr ho
theorem relP_argP (h : Ok st g fr a w) {Z : Nat → Nat → Prop} (hZ : ∀ b o, g.Z b o → Z b o) {c : CV} {v : Value} (ho : ∀ b o, g.S b o → Z b o) (hr : relP w g (isBox fr) c v) : relP w (Gh.callee w Z) (fun _ => false) (argP fr c) v := by
  have : rel w g (isBox fr) (.air 0) c v ∧ ∀ f caps, c ≠ .fn f caps := by
    cases c <;> first | exact ⟨hr, by simp⟩ | exact hr.elim
  exact (argP_rel (q := .air 0) h hZ (.inr ho) this.2 this.1).2
theorem argCV_rel (h : Ok st g fr a w) {Z : Nat → Nat → Prop} (hZ : ∀ b o, g.Z b o → Z b o) {p q : Place} {c : CV} {v : Value} (ho : isOldC c = true ∨ ∀ b o, g.S b o → Z b o) (hr : rel w g (isBox fr) p c v) :
    rel w (Gh.callee w Z) (fun _ => false) q (argCV fr c) v := by
  cases c
  case fn f caps =>
    obtain ⟨cs, h1, h2, h3⟩ := hr
    refine ⟨cs, h1, by simpa using h2, fun j c hj => ?_⟩
    rw [List.getElem?_map] at hj
    cases hc : caps[j]? with
    | none => rw [hc] at hj; simp at hj
    | some c' =>
      rw [hc] at hj
      simp at hj
      subst hj
      obtain ⟨u, e1, e2⟩ := h3 j c' hc
      refine ⟨u, e1, ?_⟩
      rcases ho with ho | ho
      · have : caps = [] := by simpa [isOldC] using ho
        subst this; simp at hc
      · exact relP_argP h hZ ho e2
  all_goals exact (argP_rel h hZ ho (by simp) hr).1
theorem args_rel (h : Ok st g fr a w) {Z : Nat → Nat → Prop} (hZ : ∀ b o, g.Z b o → Z b o) {p : Comp} {v : Value} (ho : p.2.all isOldC = true ∨ ∀ b o, g.S b o → Z b o) (hr : FRel w g (isBox fr) p v) (i : Nat) :
    CRel w (Gh.callee w Z) (fun _ => false) i 0 (p.1, p.2.map (argCV fr)) v := by
  obtain ⟨b, cs⟩ := p
  obtain ⟨_, hr⟩ := hr
  have hoc : ∀ c ∈ cs, isOldC c = true ∨ ∀ b o, g.S b o → Z b o := fun c hc => by
    rcases ho with ho | ho
    · exact .inl (List.all_eq_true.1 ho c hc)
    · exact .inr ho
  cases b with
  | true =>
    obtain ⟨vs, h1, h2, h3⟩ := hr
    refine ⟨vs, h1, by simpa using h2, fun j c hj => ?_⟩
    rw [List.getElem?_map] at hj
    cases hc : cs[j]? with
    | none => rw [hc] at hj; simp at hj
    | some c' =>
      rw [hc] at hj
      simp at hj
      subst hj
      obtain ⟨u, e1, e2⟩ := h3 j c' hc
      exact ⟨u, e1, argCV_rel h hZ (hoc c' (List.mem_of_getElem? hc)) e2⟩
  | false =>
    obtain ⟨c, h1, h2⟩ := hr
    subst h1
    refine ⟨argCV fr c, rfl, ?_⟩
    rcases h2 with rfl | ⟨rfl, h2⟩ | h2
    · exact .inl rfl
    · exact .inl rfl
    · exact .inr (.inr (argCV_rel h hZ (hoc c (by simp)) h2))
end
end Go.Rv

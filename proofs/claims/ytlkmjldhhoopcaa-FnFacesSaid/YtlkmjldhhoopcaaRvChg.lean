/- How what is told of cells and slots outlives a step. -/
import Derived.Test.YtlkmjldhhoopcaaRvRel
namespace Go.Rv
set_option linter.unusedSimpArgs false
set_option linter.unusedVariables false

def mentions : CV → Nat → Bool
  | .ref s _ _ _, t | .eptr s _ _ _ _ _, t => s.beq t
  | .fn _ caps, t => caps.any fun c => match c with | .eptr s _ _ _ _ _ => s.beq t | _ => false
  | _, _ => false
structure Chg (g g' : Gh) (w w' : World) (bx bx' : Nat → Bool) (P : Place → Prop) (Hs : Nat → Prop) : Prop where
  cB : g'.B = g.B
  cM : g'.M = g.M
  cZ : g'.Z = g.Z
  zS : ∀ b o, g.Z b o → g.S b o
  cbx : ∀ s, bx s = true → bx' s = true
  cX : ∀ s, bx s = true → g'.X s = g.X s
  cS : ∀ b o, g.S b o → g'.S b o ∧ w'.cell? ⟨b, o, none⟩ = w.cell? ⟨b, o, none⟩
  cL : ∀ b, g.L b → w'.heap[b]? = w.heap[b]?
  cO : ∀ b p, P p → g.O b = some p → g'.O b = some p ∧ w'.heap[b]? = w.heap[b]? ∧ ∀ o, g'.S b o ↔ g.S b o
  cH : ∀ s c u, Hs s → g'.H s c = some u → g.H s c = some u
  cHp : ∀ s i c, P (.at s i c) → g'.H s c = g.H s c
section
variable {g g' : Gh} {w w' : World} {bx bx' : Nat → Bool} {P : Place → Prop} {Hs : Nat → Prop}
theorem Chg.kRep (h : Chg g g' w w' bx bx' P Hs) {t : Ty} {x : Den t} {cs : List Value} (hr : rep w g.S t x cs) : rep w' g'.S t x cs := rep_mono h.cS hr
theorem Chg.kRepZ (h : Chg g g' w w' bx bx' P Hs) {t : Ty} {x : Den t} {cs : List Value} (hr : Rv.rep w g.Z t x cs) : Rv.rep w' g'.Z t x cs :=
  rep_mono (fun b o hz => ⟨by rw [h.cZ]; exact hz, (h.cS b o (h.zS b o hz)).2⟩) hr
theorem Chg.kRelF (h : Chg g g' w w' bx bx' P Hs) : ∀ {c : CV} {v : Value}, relF w g c v → relF w' g' c v
  | .dead, _, hr => hr
  | .int _ _, _, hr => hr
  | .bool _, _, hr => hr
  | .str _, _, hr => hr
  | .nils, _, hr => hr
  | .lo _ _, _, hr => h.kRepZ hr
  | .hi _ _, _, hr => h.kRep hr
theorem Chg.kPL (h : Chg g g' w w' bx bx' P Hs) {Q Q' : Nat → Nat → Prop} (hQ : ∀ b o, Q b o → Q' b o ∧ w'.cell? ⟨b, o, none⟩ = w.cell? ⟨b, o, none⟩) {a : Addr} {cs : List CV} (hr : PL w g Q a cs) : PL w' g' Q' a cs := by
  refine ⟨hr.1, fun j c hj => ?_⟩
  obtain ⟨hq, u, hu, hc⟩ := hr.2 j c hj
  exact ⟨(hQ _ _ hq).1, u, by rw [(hQ _ _ hq).2]; exact hu, h.kRelF hc⟩
theorem Chg.kCell (h : Chg g g' w w' bx bx' P Hs) (b o : Nat) (hl : g.L b) : g'.L b ∧ w'.cell? ⟨b, o, none⟩ = w.cell? ⟨b, o, none⟩ := by
  refine ⟨?_, World.cell?_of_block (w := w) (h.cL b hl)⟩
  unfold Gh.L at *
  rw [h.cB, h.cM]
  exact hl
theorem Chg.kRelP (h : Chg g g' w w' bx bx' P Hs) : ∀ {c : CV} {v : Value}, (∀ s, (match c with | .eptr s' _ _ _ _ _ => s'.beq s | _ => false) = true → Hs s) → relP w g bx c v → relP w' g' bx' c v
  | .ptr s c, v, _, hr => by obtain ⟨h1, b, h2, h3⟩ := hr; exact ⟨h.cbx s h1, b, by rw [h.cX s h1]; exact h2, h3⟩
  | .rptr cs, v, _, hr => by obtain ⟨a, h1, h2⟩ := hr; exact ⟨a, h1, h.kPL (fun b o => h.kCell b o) h2⟩
  | .hptr cs, v, _, hr => by obtain ⟨a, h1, h2⟩ := hr; exact ⟨a, h1, h.kPL h.cS h2⟩
  | .eptr s c t i k cs, v, hm, hr => by
    obtain ⟨a, h1, h2, h3⟩ := hr
    exact ⟨a, h1, h.kPL h.cS h2, fun u hu => h3 u (h.cH s c u (hm s (by simp)) hu)⟩
  | .dead, _, _, hr => h.kRelF (c := .dead) hr
  | .int k n, _, _, hr => h.kRelF (c := .int k n) hr
  | .bool b, _, _, hr => h.kRelF (c := .bool b) hr
  | .str s, _, _, hr => h.kRelF (c := .str s) hr
  | .nils, _, _, hr => h.kRelF (c := .nils) hr
  | .lo t xs, _, _, hr => h.kRelF (c := .lo t xs) hr
  | .hi t xs, _, _, hr => h.kRelF (c := .hi t xs) hr
theorem Chg.kOwn (h : Chg g g' w w' bx bx' P Hs) {p : Place} (hp : P p) {t : Ty} {xs : List (Den t)} {v : Value} (hr : OwnR w g p t xs v) : OwnR w' g' p t xs v := by
  rcases hr with hr | ⟨b, cap, cur, e, h1, h2, h3, h4, h5, h6, h7, h8⟩
  · exact .inl hr
  · obtain ⟨o1, o2, o3⟩ := h.cO b p hp h2
    refine .inr ⟨b, cap, cur, e, h1, o1, by rw [o2]; exact h3, h4, h5, h6, fun i x hi => ?_, fun o => by rw [o3, h8]⟩
    obtain ⟨ecs, e1, e2⟩ := h7 i x hi
    exact ⟨ecs, h.kRep e1, e2⟩
theorem Chg.kRel (h : Chg g g' w w' bx bx' P Hs) {p : Place} (hp : P p) : ∀ {c : CV} {v : Value}, (∀ s, mentions c s = true → Hs s) → rel w g bx p c v → rel w' g' bx' p c v
  | .own t xs, v, _, hr => by
    refine ⟨h.kOwn hp hr.1, ?_⟩
    have h2 := hr.2
    cases p with
    | air j => exact h2
    | «at» s i c => exact ⟨h2.1, by rw [h.cHp s i c hp]; exact h2.2⟩
  | .tmpo t xs, v, _, hr => by
    refine ⟨h.kOwn hp hr.1, ?_⟩
    have h2 := hr.2
    cases p with
    | air j => trivial
    | «at» s i c =>
      show g'.H s c = none
      rw [h.cHp s i c hp]; exact h2
  | .ref s c t xs, v, hm, hr => ⟨h.kRep hr.1, fun u hu => hr.2 u (h.cH s c u (hm s (by simp [mentions])) hu)⟩
  | .fn f caps, v, hm, hr => by
    obtain ⟨cs, h1, h2, h3⟩ := hr
    refine ⟨cs, h1, h2, fun j c hj => ?_⟩
    obtain ⟨u, hu, hc⟩ := h3 j c hj
    refine ⟨u, hu, h.kRelP (fun s hs => hm s ?_) hc⟩
    simp only [mentions, List.any_eq_true]
    exact ⟨c, List.mem_of_getElem? hj, by cases c <;> simp_all⟩
  | .ptr s c, _, _, hr => h.kRelP (c := .ptr s c) (by simp) hr
  | .rptr cs, _, _, hr => h.kRelP (c := .rptr cs) (by simp) hr
  | .hptr cs, _, _, hr => h.kRelP (c := .hptr cs) (by simp) hr
  | .eptr s c t i k cs, _, hm, hr => h.kRelP (c := .eptr s c t i k cs) (fun s' hs => hm s' hs) hr
  | .dead, _, _, hr => h.kRelF (c := .dead) hr
  | .int k n, _, _, hr => h.kRelF (c := .int k n) hr
  | .bool b, _, _, hr => h.kRelF (c := .bool b) hr
  | .str s, _, _, hr => h.kRelF (c := .str s) hr
  | .nils, _, _, hr => h.kRelF (c := .nils) hr
  | .lo t xs, _, _, hr => h.kRelF (c := .lo t xs) hr
  | .hi t xs, _, _, hr => h.kRelF (c := .hi t xs) hr
def cellsM (cs : List CV) (s : Nat) : Bool := cs.any (mentions · s)
def mentionsS : SV → Nat → Bool
  | .comp _ cs, s | .box cs, s => cellsM cs s
  | .tup vs, s => vs.any fun p => cellsM p.2 s
theorem cellsM_of {cs : List CV} {s : Nat} {j : Nat} {c : CV} (hj : cs[j]? = some c) (h : mentions c s = true) : cellsM cs s = true :=
  List.any_eq_true.2 ⟨c, List.mem_of_getElem? hj, h⟩
theorem Chg.kCells (h : Chg g g' w w' bx bx' P Hs) {s i : Nat} (hp : ∀ c, P (.at s i c)) {cs : List CV} {vs : List Value} (hm : ∀ s, cellsM cs s = true → Hs s) (hr : cellsRel w g bx s i cs vs) : cellsRel w' g' bx' s i cs vs := by
  refine ⟨hr.1, fun j c hj => ?_⟩
  obtain ⟨u, hu, hc⟩ := hr.2 j c hj
  exact ⟨u, hu, h.kRel (hp _) (fun s' hs => hm s' (cellsM_of hj hs)) hc⟩
theorem Chg.kComp (h : Chg g g' w w' bx bx' P Hs) {s i : Nat} (hp : ∀ c, P (.at s i c)) : ∀ {p : Comp} {v : Value}, (∀ s, cellsM p.2 s = true → Hs s) → CRel w g bx s i p v → CRel w' g' bx' s i p v
  | (true, cs), v, hm, hr => by obtain ⟨vs, h1, h2⟩ := hr; exact ⟨vs, h1, h.kCells hp hm h2⟩
  | (false, cs), v, hm, hr => by
    obtain ⟨c, h1, h2⟩ := hr
    refine ⟨c, h1, ?_⟩
    rcases h2 with h2 | h2 | h2
    · exact .inl h2
    · exact .inr (.inl h2)
    · subst h1
      exact .inr (.inr (h.kRel (hp 1) (fun s' hs => hm s' (cellsM_of (j := 0) rfl hs)) h2))
theorem Chg.kSlot (h : Chg g g' w w' bx bx' P Hs) {s : Nat} {x : SV} (hp : ∀ i c, P (.at s i c)) (hbx : ∀ cs, (x : SV) = .box cs → bx s = true) {v : Value} (hm : ∀ s, mentionsS x s = true → Hs s) (hr : SRel w g bx s x v) : SRel w' g' bx' s x v := by
  cases x with
  | comp b cs => exact h.kComp (p := (b, cs)) (hp 0) hm hr
  | tup vs =>
    obtain ⟨us, h1, h2, h3⟩ := hr
    refine ⟨us, h1, h2, fun i p hi => ?_⟩
    obtain ⟨u, hu, hc⟩ := h3 i p hi
    exact ⟨u, hu, h.kComp (hp i) (fun s' hs => hm s' (List.any_eq_true.2 ⟨p, List.mem_of_getElem? hi, hs⟩)) hc⟩
  | box cs =>
    obtain ⟨⟨b, arr, ty, h1, h2, h3, h4⟩, h5⟩ := hr
    have hb := hbx cs rfl
    obtain ⟨o1, o2, o3⟩ := h.cO b _ (hp 0 0) h2
    obtain ⟨b', h6, h7⟩ := h5
    exact ⟨⟨b, arr, ty, by rw [h.cX s hb]; exact h1, o1, by rw [o2]; exact h3, h.kCells (hp 0) hm h4⟩, b', by rw [h.cX s hb]; exact h6, h7⟩
end

/-! ### Cells that own nothing -/
def free : CV → Bool
  | .own _ _ | .tmpo _ _ => false
  | _ => true
theorem rel_place {w : World} {g : Gh} {bx : Nat → Bool} {p q : Place} : ∀ {c : CV} {v : Value}, free c = true → rel w g bx p c v → rel w g bx q c v
  | .own _ _, _, hf, _ => by simp [free] at hf
  | .tmpo _ _, _, hf, _ => by simp [free] at hf
  | .ref _ _ _ _, _, _, h => h
  | .fn _ _, _, _, h => h
  | .ptr _ _, _, _, h => h
  | .rptr _, _, _, h => h
  | .hptr _, _, _, h => h
  | .eptr _ _ _ _ _ _, _, _, h => h
  | .dead, _, _, h => h
  | .undef, _, _, h => h
  | .mbox _, _, _, h => h
  | .int _ _, _, _, h => h
  | .bool _, _, _, h => h
  | .str _, _, _, h => h
  | .nils, _, _, h => h
  | .lo _ _, _, _, h => h
  | .hi _ _, _, _, h => h
theorem cells_place {w : World} {g : Gh} {bx : Nat → Bool} {s i s' i' : Nat} {cs : List CV} {vs : List Value} (hf : cs.all free = true) (h : cellsRel w g bx s i cs vs) : cellsRel w g bx s' i' cs vs := by
  refine ⟨h.1, fun j c hj => ?_⟩
  obtain ⟨u, hu, hc⟩ := h.2 j c hj
  exact ⟨u, hu, rel_place (List.all_eq_true.1 hf c (List.mem_of_getElem? hj)) hc⟩
theorem comp_place {w : World} {g : Gh} {bx : Nat → Bool} {s i s' i' : Nat} : ∀ {p : Comp} {v : Value}, p.2.all free = true → CRel w g bx s i p v → CRel w g bx s' i' p v
  | (true, cs), v, hf, h => by obtain ⟨vs, h1, h2⟩ := h; exact ⟨vs, h1, cells_place hf h2⟩
  | (false, cs), v, hf, h => by
    obtain ⟨c, h1, h2⟩ := h
    refine ⟨c, h1, ?_⟩
    rcases h2 with h2 | h2 | h2
    · exact .inl h2
    · exact .inr (.inl h2)
    · subst h1
      exact .inr (.inr (rel_place (by simpa using hf) h2))
/-- a view of a slot's cells -/
theorem view1_ok {w : World} {g : Gh} {bx : Nat → Bool} {s : Nat} : ∀ (cs : List CV) (c : Nat) (vs : List Value), vs.length = cs.length → (∀ (j : Nat) (x : CV), cs[j]? = some x → ∃ u : Value, vs[j]? = some u ∧ rel w g bx (.at s 0 (c + j)) x u) →
    (view1 s c cs).length = cs.length ∧ (view1 s c cs).all free = true ∧ ∀ (j : Nat) (x : CV), (view1 s c cs)[j]? = some x → ∃ u : Value, vs[j]? = some u ∧ ∀ p, rel w g bx p x u
  | [], c, vs, hl, h => by simp [view1]
  | x :: r, c, vs, hl, h => by
    cases vs with
    | nil => simp at hl
    | cons v vs =>
      have ih := view1_ok r (c + 1) vs (by simpa using hl) (fun j x hj => by
        obtain ⟨u, hu, hr⟩ := h (j + 1) x (by simpa using hj)
        exact ⟨u, by simpa using hu, by rw [show c + 1 + j = c + (j + 1) by omega]; exact hr⟩)
      obtain ⟨u0, hu0, hr0⟩ := h 0 x rfl
      simp at hu0
      subst hu0
      simp only [Nat.add_zero] at hr0
      have key : ∃ y, view1 s c (x :: r) = y :: view1 s (c + 1) r ∧ free y = true ∧ ∀ p, rel w g bx p y v := by
        cases x <;> first
          | exact ⟨_, rfl, rfl, fun p => rel_place rfl hr0⟩
          | exact ⟨_, rfl, rfl, fun p => ⟨hr0.1.reads, fun u hu => by have := hr0.2.2; rw [this] at hu; exact (Option.some.inj hu).symm⟩⟩
          | exact ⟨_, rfl, rfl, fun p => hr0.1.reads⟩
      obtain ⟨y, hy, hf, hp⟩ := key
      rw [hy]
      refine ⟨by simp [ih.1], by simp only [List.all_cons, hf, ih.2.1, Bool.and_self], fun j z hj => ?_⟩
      cases j with
      | zero => simp at hj; subst hj; exact ⟨v, rfl, hp⟩
      | succ j => simp at hj; obtain ⟨u, hu, hr⟩ := ih.2.2 j z hj; exact ⟨u, by simpa using hu, hr⟩
end Go.Rv

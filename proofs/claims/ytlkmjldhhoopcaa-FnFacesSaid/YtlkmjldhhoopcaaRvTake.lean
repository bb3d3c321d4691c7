/- Taking what a slot owns. -/
import Derived.Test.YtlkmjldhhoopcaaRvMem
namespace Go.Rv
set_option linter.unusedSimpArgs false
set_option linter.unusedVariables false
section
variable {P : Program} {st : St} {g : Gh} {fr : Fr} {a : Act} {w : World} {X : Env} {o : Oper} {R : Type} {K : Fr → Option R} {r : R} {Q : Exit → Act → World → Prop}
/-- the value that lies in cell c of slot s -/
def At (g : Gh) (fr : Fr) (a : Act) (w : World) (s c : Nat) (v : Value) : Prop :=
  match fr s with
  | .comp true _ => ∃ vs : List Value, a.tmps.getD s undef = .agg vs.toArray ∧ 0 < c ∧ vs[c - 1]? = some v
  | .comp false _ => c = 1 ∧ a.tmps.getD s undef = v
  | .box _ => ∃ b arr ty, g.X s = some b ∧ w.heap[b]? = some (.cells arr ty (0, 0)) ∧ 0 < c ∧ arr[c - 1]? = some v
  | .tup _ => False
theorem At.fun {s c : Nat} {u v : Value} (h1 : At g fr a w s c u) (h2 : At g fr a w s c v) : u = v := by
  unfold At at h1 h2
  cases hf : fr s with
  | tup vs => rw [hf] at h1; exact h1.elim
  | comp b cs =>
    rw [hf] at h1 h2
    cases b with
    | false => exact h1.2.symm.trans h2.2
    | true =>
      obtain ⟨vs, e1, _, e2⟩ := h1
      obtain ⟨us, f1, _, f2⟩ := h2
      rw [e1] at f1
      simp only [Value.agg.injEq] at f1
      have : vs = us := by simpa using congrArg Array.toList f1
      subst this
      rw [e2] at f2; exact Option.some.inj f2
  | box cs =>
    rw [hf] at h1 h2
    obtain ⟨b, arr, ty, e1, e2, _, e3⟩ := h1
    obtain ⟨b', arr', ty', f1, f2, _, f3⟩ := h2
    rw [e1] at f1; cases f1
    rw [e2] at f2; cases f2
    rw [e3] at f3; exact Option.some.inj f3
/-- what is told of a cell of a slot -/
theorem cell_rel (h : Ok st g fr a w) {s c : Nat} {x : CV} (hx : cellAt fr s c = x) (h1 : x ≠ .dead) (h2 : x ≠ .undef) : ∃ v, At g fr a w s c v ∧ rel w g (isBox fr) (.at s 0 c) x v := by
  unfold cellAt at hx
  have hs := h.slot s
  cases hf : fr s with
  | tup vs => rw [hf] at hx; exact absurd hx.symm h1
  | comp b cs =>
    rw [hf] at hx hs
    cases c with
    | zero => exact absurd hx.symm h1
    | succ c =>
      simp only [List.getD_eq_getElem?_getD] at hx
      cases hc : cs[c]? with
      | none => rw [hc] at hx; exact absurd hx.symm h1
      | some y =>
        rw [hc] at hx
        simp at hx
        subst hx
        cases b with
        | true =>
          obtain ⟨vs, e1, e2, e3⟩ := hs
          obtain ⟨u, e4, e5⟩ := e3 c y hc
          exact ⟨u, by unfold At; rw [hf]; exact ⟨vs, e1, by omega, by simpa using e4⟩, e5⟩
        | false =>
          obtain ⟨z, e1, e2⟩ := hs
          subst e1
          cases c with
          | succ c => simp at hc
          | zero =>
            simp at hc
            subst hc
            rcases e2 with e2 | ⟨e2, _⟩ | e2
            · exact absurd e2 h1
            · exact absurd e2 h2
            · exact ⟨_, by unfold At; rw [hf]; exact ⟨rfl, rfl⟩, e2⟩
  | box cs =>
    rw [hf] at hx hs
    cases c with
    | zero => exact absurd hx.symm h1
    | succ c =>
      simp only [List.getD_eq_getElem?_getD] at hx
      cases hc : cs[c]? with
      | none => rw [hc] at hx; exact absurd hx.symm h1
      | some y =>
        rw [hc] at hx
        simp at hx
        subst hx
        obtain ⟨⟨b, arr, ty, e1, e2, e3, e4⟩, _⟩ := hs
        obtain ⟨u, e5, e6⟩ := e4.2 c y hc
        exact ⟨u, by unfold At; rw [hf]; exact ⟨b, arr, ty, e1, e3, by omega, by simpa using e5⟩, e6⟩
theorem isBox_setCell (fr : Fr) (s c : Nat) (v : CV) : isBox (setCellAt fr s c v) = isBox fr := by
  funext j
  unfold isBox setCellAt
  cases hf : fr s with
  | tup vs => rfl
  | comp b cs =>
    cases c with
    | zero => rfl
    | succ c =>
      by_cases hj : j = s
      · subst hj; simp only [upd_same, hf]; rfl
      · simp only [upd_ne _ _ _ hj]
  | box cs =>
    cases c with
    | zero => rfl
    | succ c =>
      by_cases hj : j = s
      · subst hj; simp only [upd_same, hf]; rfl
      · simp only [upd_ne _ _ _ hj]
def Gh.dis (g : Gh) (s c j : Nat) : Gh := { g with
  O := fun b => if g.O b = some (.at s 0 c) then some (.air j) else g.O b
  H := fun s' c' => if s' = s ∧ c' = c then none else g.H s' c' }
theorem Chg.dis (h : Ok st g fr a w) (s c j : Nat) (bx : Nat → Bool) : Chg g (g.dis s c j) w w bx bx (fun p => ∀ i, p ≠ .at s i c) (fun _ => True) where
  cB := rfl
  cM := rfl
  cZ := rfl
  zS := fun b o hz => (h.zs b o (by rw [← h.eZ]; exact hz)).1
  cbx := fun s hs => hs
  cX := fun s _ => rfl
  cS := fun b o hs => ⟨hs, rfl⟩
  cL := fun b _ => rfl
  cO := fun b p hp hO => ⟨by
    simp only [Gh.dis]
    rw [if_neg]; · exact hO
    rw [hO]; intro e; cases e; exact hp 0 rfl, rfl, fun _ => Iff.rfl⟩
  cH := fun s' c' u _ hu => by
    simp only [Gh.dis] at hu
    split at hu
    · cases hu
    · exact hu
  cHp := fun s' i c' hp => by
    simp only [Gh.dis]
    rw [if_neg]
    rintro ⟨rfl, rfl⟩
    exact hp i rfl
/-- A cell that owns a row owns it no longer: the row hangs in the air. -/
theorem disown (h : Ok st g fr a w) {s c : Nat} {t : Ty} {xs : List (Den t)} (hx : cellAt fr s c = .own t xs ∨ cellAt fr s c = .tmpo t xs) (j : Nat) :
    ∃ v, At g fr a w s c v ∧ Ok st (g.dis s c j) (setCellAt fr s c (.hi t xs)) a w ∧ OwnR w (g.dis s c j) (.air j) t xs v ∧ (cellAt fr s c = .own t xs → g.H s c = some v) := by
  have hc := Chg.dis h s c j (isBox fr)
  obtain ⟨v, hat, hown, hH⟩ : ∃ v, At g fr a w s c v ∧ OwnR w g (.at s 0 c) t xs v ∧ (cellAt fr s c = .own t xs → g.H s c = some v) := by
    rcases hx with hx | hx
    · obtain ⟨v, h1, h2⟩ := cell_rel h hx (by simp) (by simp)
      exact ⟨v, h1, h2.1, fun _ => h2.2.2⟩
    · obtain ⟨v, h1, h2⟩ := cell_rel h hx (by simp) (by simp)
      exact ⟨v, h1, h2.1, fun e => by rw [hx] at e; cases e⟩
  have hown' : OwnR w (g.dis s c j) (.air j) t xs v := by
    rcases hown with e | ⟨b, cap, cur, e, h1, h2, h3, h4, h5, h6, h7, h8⟩
    · exact .inl e
    · exact .inr ⟨b, cap, cur, e, h1, by simp [Gh.dis, h2], h3, h4, h5, h6, h7, h8⟩
  have hread : RS w (g.dis s c j).S t xs v := hown.reads
  refine ⟨v, hat, ?_, hown', hH⟩
  have hbx := isBox_setCell fr s c (.hi t xs)
  exact {
    eB := h.eB, eM := h.eM, eZ := h.eZ, size := h.size, defers := h.defers, keep := h.keep, os := h.os, tape := h.tape, output := h.output, heap := h.heap, old := h.old
    own := fun b p hO => by
      simp only [Gh.dis] at hO
      split at hO
      · rename_i e; exact h.own b _ e
      · exact h.own b p hO
    stab := h.stab
    boxS := fun b s' hO => by
      simp only [Gh.dis] at hO
      split at hO
      · cases hO
      · exact h.boxS b s' hO
    zs := h.zs
    sz := h.sz
    hh := fun s' c' u hu => by
      simp only [Gh.dis] at hu
      split at hu
      · cases hu
      · exact h.hh s' c' u hu
    slot := fun q => by
      rw [hbx]
      have hs := h.slot q
      by_cases hq : q = s
      · subst hq
        unfold setCellAt
        have hx' : ∃ y, cellAt fr q c = y ∧ y ≠ .dead := by rcases hx with e | e <;> exact ⟨_, e, by simp⟩
        unfold cellAt at hx'
        cases hf : fr q with
        | tup vs => rw [hf] at hx'; obtain ⟨y, e, e'⟩ := hx'; exact absurd e.symm e'
        | comp b cs =>
          rw [hf] at hs hx'
          cases c with
          | zero => obtain ⟨y, e, e'⟩ := hx'; exact absurd e.symm e'
          | succ c =>
            simp only [upd_same]
            unfold At at hat
            rw [hf] at hat
            cases b with
            | true =>
              obtain ⟨vs, e1, e2, e3⟩ := hs
              obtain ⟨vs', f1, _, f2⟩ := hat
              rw [e1] at f1
              simp only [Value.agg.injEq] at f1
              have hvv : vs = vs' := by simpa using congrArg Array.toList f1
              subst hvv
              refine ⟨vs, e1, by simpa using e2, fun k y hk => ?_⟩
              by_cases hkc : k = c
              · subst hkc
                rw [List.getElem?_set] at hk
                simp at hk
                obtain ⟨_, rfl⟩ := hk
                exact ⟨v, by simpa using f2, hread⟩
              · rw [List.getElem?_set_ne (by omega)] at hk
                obtain ⟨u, e4, e5⟩ := e3 k y hk
                exact ⟨u, e4, hc.kRel (fun i e => by cases e; omega) (fun _ _ => trivial) e5⟩
            | false =>
              obtain ⟨z, e1, e2⟩ := hs
              subst e1
              obtain ⟨f1, f2⟩ := hat
              have : c = 0 := by omega
              subst this
              exact ⟨_, rfl, .inr (.inr (by rw [f2]; exact hread))⟩
        | box cs =>
          rw [hf] at hs hx'
          cases c with
          | zero => obtain ⟨y, e, e'⟩ := hx'; exact absurd e.symm e'
          | succ c =>
            simp only [upd_same]
            unfold At at hat
            rw [hf] at hat
            obtain ⟨⟨b, arr, ty, e1, e2, e3, e4⟩, e5⟩ := hs
            obtain ⟨b', arr', ty', f1, f2, _, f3⟩ := hat
            rw [e1] at f1; cases f1
            rw [e3] at f2; cases f2
            refine ⟨⟨b, arr, ty, e1, by simp [Gh.dis, e2], e3, by simpa using e4.1, fun k y hk => ?_⟩, e5⟩
            by_cases hkc : k = c
            · subst hkc
              rw [List.getElem?_set] at hk
              simp at hk
              obtain ⟨_, rfl⟩ := hk
              exact ⟨v, by simpa using f3, hread⟩
            · rw [List.getElem?_set_ne (by omega)] at hk
              obtain ⟨u, e6, e7⟩ := e4.2 k y hk
              exact ⟨u, e6, hc.kRel (fun i e => by cases e; omega) (fun _ _ => trivial) e7⟩
      · have : setCellAt fr s c (.hi t xs) q = fr q := by
          unfold setCellAt
          cases fr s with
          | tup vs => rfl
          | comp b cs => cases c <;> simp [upd_ne _ _ _ hq]
          | box cs => cases c <;> simp [upd_ne _ _ _ hq]
        rw [this]
        exact hc.kSlot (fun i c' i' e => by cases e; exact hq rfl) (fun cs e => by simp [isBox, e, notBox]) (fun _ _ => trivial) hs }
theorem At_set {g' : Gh} (hX : g'.X = g.X) {s c s' c' : Nat} {y : CV} {v : Value} (h : At g fr a w s c v) : At g' (setCellAt fr s' c' y) a w s c v := by
  have key : (∃ b cs, fr s = .comp b cs ∧ ∃ ds, setCellAt fr s' c' y s = .comp b ds) ∨ (∃ cs, fr s = .box cs ∧ ∃ ds, setCellAt fr s' c' y s = .box ds) := by
    unfold At at h
    cases hf : fr s with
    | tup vs => rw [hf] at h; exact h.elim
    | comp b cs =>
      refine .inl ⟨b, cs, rfl, ?_⟩
      unfold setCellAt
      by_cases hs : s = s'
      · subst hs; rw [hf]; cases c' with
        | zero => exact ⟨cs, hf⟩
        | succ c' => exact ⟨_, upd_same _ _ _⟩
      · cases fr s' with
        | tup vs => exact ⟨cs, hf⟩
        | comp b' cs' => cases c' with
          | zero => exact ⟨cs, hf⟩
          | succ c' => exact ⟨cs, by simp only [upd_ne _ _ _ hs]; exact hf⟩
        | box cs' => cases c' with
          | zero => exact ⟨cs, hf⟩
          | succ c' => exact ⟨cs, by simp only [upd_ne _ _ _ hs]; exact hf⟩
    | box cs =>
      refine .inr ⟨cs, rfl, ?_⟩
      unfold setCellAt
      by_cases hs : s = s'
      · subst hs; rw [hf]; cases c' with
        | zero => exact ⟨cs, hf⟩
        | succ c' => exact ⟨_, upd_same _ _ _⟩
      · cases fr s' with
        | tup vs => exact ⟨cs, hf⟩
        | comp b' cs' => cases c' with
          | zero => exact ⟨cs, hf⟩
          | succ c' => exact ⟨cs, by simp only [upd_ne _ _ _ hs]; exact hf⟩
        | box cs' => cases c' with
          | zero => exact ⟨cs, hf⟩
          | succ c' => exact ⟨cs, by simp only [upd_ne _ _ _ hs]; exact hf⟩
  rcases key with ⟨b, cs, e1, ds, e2⟩ | ⟨cs, e1, ds, e2⟩
  · unfold At at h ⊢
    rw [e1] at h; rw [e2]
    cases b <;> exact h
  · unfold At at h ⊢
    rw [e1] at h; rw [e2]
    obtain ⟨b, arr, ty, f1, f2⟩ := h
    exact ⟨b, arr, ty, by rw [hX]; exact f1, f2⟩
/-- how a taking leaves things -/
structure Took (st : St) (a : Act) (w : World) (g g1 : Gh) (fr fr1 : Fr) : Prop where
  ok : Ok st g1 fr1 a w
  bx : isBox fr1 = isBox fr
  X : g1.X = g.X
  air : ∀ k c v, rel w g (isBox fr) (.air k) c v → rel w g1 (isBox fr) (.air k) c v
  at_ : ∀ s c v, At g fr a w s c v → At g1 fr1 a w s c v
theorem Took.refl (h : Ok st g fr a w) : Took st a w g g fr fr := ⟨h, rfl, rfl, fun _ _ _ h => h, fun _ _ _ h => h⟩
theorem Took.trans {g1 g2 : Gh} {fr1 fr2 : Fr} (h1 : Took st a w g g1 fr fr1) (h2 : Took st a w g1 g2 fr1 fr2) : Took st a w g g2 fr fr2 :=
  ⟨h2.ok, h2.bx.trans h1.bx, h2.X.trans h1.X, fun k c v hr => by rw [← h1.bx]; exact h2.air k c v (by rw [h1.bx]; exact h1.air k c v hr), fun s c v hr => h2.at_ s c v (h1.at_ s c v hr)⟩
theorem takeAt_ok (h : Ok st g fr a w) {s c : Nat} {v : Value} (hat : At g fr a w s c v) (hrel : rel w g (isBox fr) (.at s 0 c) (cellAt fr s c) v) (j : Nat) {y : CV} {fr1 : Fr} (ht : takeAt fr s c = (y, fr1)) :
    ∃ g1, Took st a w g g1 fr fr1 ∧ rel w g1 (isBox fr) (.air j) y v := by
  have gen : ∀ (s' c' : Nat) (t : Ty) (xs : List (Den t)), (cellAt fr s' c' = .own t xs ∨ cellAt fr s' c' = .tmpo t xs) → (∀ v', At g fr a w s' c' v' → (cellAt fr s' c' = .own t xs → g.H s' c' = some v') → v' = v) →
      ∃ g1, Took st a w g g1 fr (setCellAt fr s' c' (.hi t xs)) ∧ rel w g1 (isBox fr) (.air j) (.tmpo t xs) v := by
    intro s' c' t xs hx hv
    obtain ⟨v', h1, h2, h3, h4⟩ := disown h hx j
    have := hv v' h1 h4
    subst this
    exact ⟨_, ⟨h2, isBox_setCell _ _ _ _, rfl, fun k c v hr => (Chg.dis h s' c' j (isBox fr)).kRel (fun i e => by cases e) (fun _ _ => trivial) hr, fun s c v hr => At_set rfl hr⟩, h3, trivial⟩
  unfold takeAt at ht
  split at ht
  · rename_i t xs hx
    cases ht
    exact gen s c t xs (.inl hx) fun v' h1 _ => h1.fun hat
  · rename_i t xs hx
    cases ht
    exact gen s c t xs (.inr hx) fun v' h1 _ => h1.fun hat
  · rename_i s' c' t xs hx
    rw [hx] at hrel
    obtain ⟨e2, e3⟩ := hrel
    split at ht
    · rename_i u ys hy
      cases ht
      exact gen s' c' u ys (.inl hy) fun v' h1 h2 => e3 v' (h2 hy)
    · cases ht
      exact ⟨g, Took.refl h, e2⟩
  · rename_i hn1 hn2 hn3
    cases ht
    have hfr : free (cellAt fr s c) = true := by
      cases hcc : cellAt fr s c <;> first | rfl | (exact absurd hcc (hn1 _ _)) | (exact absurd hcc (hn2 _ _))
    exact ⟨g, Took.refl h, rel_place hfr hrel⟩
/-- all cells of a slot that is no single value -/
theorem slot_cells (h : Ok st g fr a w) {s c : Nat} {v : Value} (hat : At g fr a w s c v) (hm : ∀ cs, fr s ≠ .comp false cs) {n : Nat} (hn : (match fr s with | .comp _ cs | .box cs => cs.length | _ => 0) = n) (hc : c ≤ n) :
    rel w g (isBox fr) (.at s 0 c) (cellAt fr s c) v := by
  unfold At at hat
  unfold cellAt
  have hs := h.slot s
  cases hf : fr s with
  | tup vs => rw [hf] at hat; exact hat.elim
  | comp b cs =>
    rw [hf] at hat hs hn
    cases b with
    | false => exact absurd hf (hm cs)
    | true =>
      obtain ⟨vs, e1, e2, e3⟩ := hs
      obtain ⟨us, f1, f2, f3⟩ := hat
      rw [e1] at f1
      simp only [Value.agg.injEq] at f1
      have : vs = us := by simpa using congrArg Array.toList f1
      subst this
      cases c with
      | zero => omega
      | succ c =>
        simp only [List.getD_eq_getElem?_getD]
        have hlt : c < cs.length := by simp only at hn; omega
        rw [List.getElem?_eq_getElem hlt]
        obtain ⟨u, g1, g2⟩ := e3 c cs[c] (List.getElem?_eq_getElem hlt)
        simp only [Nat.add_sub_cancel] at f3
        rw [f3] at g1
        cases g1
        exact g2
  | box cs =>
    rw [hf] at hat hs hn
    obtain ⟨⟨b, arr, ty, e1, e2, e3, e4⟩, _⟩ := hs
    obtain ⟨b', arr', ty', f1, f2, f4, f3⟩ := hat
    rw [e1] at f1; cases f1
    rw [e3] at f2; cases f2
    cases c with
    | zero => omega
    | succ c =>
      simp only [List.getD_eq_getElem?_getD]
      have hlt : c < cs.length := by simp only at hn; omega
      rw [List.getElem?_eq_getElem hlt]
      obtain ⟨u, g1, g2⟩ := e4.2 c cs[c] (List.getElem?_eq_getElem hlt)
      simp only [Nat.add_sub_cancel] at f3
      have g1' : arr[c]? = some u := by simpa using g1
      rw [f3] at g1'
      cases g1'
      exact g2
def many (x : SV) : Option Nat := match x with
  | .comp true cs | .box cs => some cs.length
  | _ => none
theorem many_set (fr : Fr) (s s' c : Nat) (y : CV) : many (setCellAt fr s' c y s) = many (fr s) := by
  unfold setCellAt
  by_cases hs : s = s'
  · subst hs
    cases hf : fr s with
    | tup vs => simp [hf]
    | comp b cs => cases c with
      | zero => simp [hf]
      | succ c => simp only [upd_same]; cases b <;> simp [many]
    | box cs => cases c with
      | zero => simp [hf]
      | succ c => simp only [upd_same]; simp [many]
  · cases fr s' with
    | tup vs => rfl
    | comp b cs => cases c <;> simp [upd_ne _ _ _ hs]
    | box cs => cases c <;> simp [upd_ne _ _ _ hs]
theorem many_take (fr : Fr) (s s' c : Nat) : many ((takeAt fr s' c).2 s) = many (fr s) := by
  unfold takeAt
  split
  · exact many_set _ _ _ _ _
  · exact many_set _ _ _ _ _
  · split
    · exact many_set _ _ _ _ _
    · rfl
  · rfl
theorem takeSlot_ok (n : Nat) : ∀ {g : Gh} {fr : Fr} (_ : Ok st g fr a w) {s c N : Nat}, many (fr s) = some N → 0 < c → c + n ≤ N + 1 → ∀ (vs : List Value), vs.length = n → (∀ k v, vs[k]? = some v → At g fr a w s (c + k) v) → ∀ (j : Nat) {ws : List CV} {fr1 : Fr}, takeSlot fr s n c = (ws, fr1) →
    ∃ g1, Took st a w g g1 fr fr1 ∧ ws.length = n ∧ ∀ k x, ws[k]? = some x → ∃ u : Value, vs[k]? = some u ∧ rel w g1 (isBox fr) (.air (j + k)) x u := by
  induction n with
  | zero =>
    intro g fr h s c N hN hc0 hcn vs hl hat j ws fr1 ht
    simp only [takeSlot] at ht
    cases ht
    exact ⟨g, Took.refl h, rfl, fun k x hk => by simp at hk⟩
  | succ n ih =>
    intro g fr h s c N hN hc0 hcn vs hl hat j ws fr1 ht
    cases vs with
    | nil => simp at hl
    | cons v vs =>
      simp only [takeSlot] at ht
      cases h1 : takeAt fr s c with
      | mk y fr2 =>
        rw [h1] at ht
        simp only at ht
        cases h2 : takeSlot fr2 s n (c + 1) with
        | mk ys fr3 =>
          rw [h2] at ht
          simp only at ht
          cases ht
          have hat0 : At g fr a w s c v := by simpa using hat 0 v rfl
          have hrel : rel w g (isBox fr) (.at s 0 c) (cellAt fr s c) v := by
            refine slot_cells h hat0 (fun cs e => by rw [e] at hN; simp [many] at hN) (n := N) ?_ (by omega)
            cases hf : fr s with
            | tup vs => rw [hf] at hN; simp [many] at hN
            | box cs => rw [hf] at hN; simpa [many] using hN
            | comp b cs => cases b <;> (rw [hf] at hN; simp [many] at hN); exact hN
          obtain ⟨g2, t1, r1⟩ := takeAt_ok h hat0 hrel j h1
          have hN2 : many (fr2 s) = some N := by have := many_take fr s s c; rw [h1] at this; rw [this]; exact hN
          obtain ⟨g3, t2, l2, r2⟩ := ih t1.ok hN2 (by omega) (by omega) vs (by simpa using hl) (fun k v hk => by
            have := t1.at_ _ _ _ (hat (k + 1) v (by simpa using hk))
            rw [show c + 1 + k = c + (k + 1) by omega]; exact this) (j + 1) h2
          refine ⟨g3, t1.trans t2, by simp [l2], fun k x hk => ?_⟩
          cases k with
          | zero =>
            simp at hk
            subst hk
            exact ⟨v, rfl, by rw [← t1.bx]; exact t2.air _ _ _ (by rw [t1.bx]; exact r1)⟩
          | succ k =>
            simp at hk
            obtain ⟨u, e1, e2⟩ := r2 k x hk
            rw [t1.bx] at e2
            exact ⟨u, by simpa using e1, by rw [show j + (k + 1) = j + 1 + k by omega]; exact e2⟩
/-- a comp in the air, from cell j on -/
def ARel (w : World) (g : Gh) (bx : Nat → Bool) (j : Nat) (p : Comp) (v : Value) : Prop :=
  match p with
  | (true, cs) => ∃ vs : List Value, v = .agg vs.toArray ∧ vs.length = cs.length ∧ ∀ (k : Nat) (c : CV), cs[k]? = some c → ∃ u : Value, vs[k]? = some u ∧ rel w g bx (.air (j + k)) c u
  | (false, cs) => ∃ c, cs = [c] ∧ (c = .dead ∨ c = .undef ∧ v = undef ∨ rel w g bx (.air j) c v)
theorem FRel.air {bx : Nat → Bool} {p : Comp} {v : Value} (h : FRel w g bx p v) (j : Nat) : ARel w g bx j p v := by
  obtain ⟨b, cs⟩ := p
  obtain ⟨hf, h⟩ := h
  cases b with
  | true =>
    obtain ⟨vs, h1, h2, h3⟩ := h
    refine ⟨vs, h1, h2, fun k c hk => ?_⟩
    obtain ⟨u, e1, e2⟩ := h3 k c hk
    exact ⟨u, e1, rel_place (List.all_eq_true.1 hf c (List.mem_of_getElem? hk)) e2⟩
  | false =>
    obtain ⟨c, h1, h2⟩ := h
    refine ⟨c, h1, ?_⟩
    rcases h2 with h2 | h2 | h2
    · exact .inl h2
    · exact .inr (.inl h2)
    · subst h1; exact .inr (.inr (rel_place (by simpa using hf) h2))
theorem takeOpd_ok (h : Ok st g fr a w) {x : Operand} {p : Comp} {fr1 : Fr} (ht : takeOpd fr x = (p, fr1)) (j : Nat) : ∃ g1, Took st a w g g1 fr fr1 ∧ ARel w g1 (isBox fr) j p (a.eval x) := by
  have plain : (opd fr x, fr) = (p, fr1) → ∃ g1, Took st a w g g1 fr fr1 ∧ ARel w g1 (isBox fr) j p (a.eval x) := by
    intro e; cases e
    exact ⟨g, Took.refl h, (opd_ok h x).air j⟩
  unfold takeOpd at ht
  cases x with
  | const v => exact plain ht
  | global n => exact plain ht
  | func f => exact plain ht
  | tmp t =>
    simp only at ht
    cases hf : fr t with
    | tup vs => rw [hf] at ht; exact plain ht
    | box cs => rw [hf] at ht; exact plain ht
    | comp b cs =>
      rw [hf] at ht
      simp only at ht
      cases hts : takeSlot fr t cs.length 1 with
      | mk ws fr2 =>
        rw [hts] at ht
        simp only at ht
        cases ht
        have hs := h.slot t
        rw [hf] at hs
        cases b with
        | true =>
          obtain ⟨vs, e1, e2, e3⟩ := hs
          obtain ⟨g1, t1, l1, r1⟩ := takeSlot_ok cs.length h (s := t) (c := 1) (N := cs.length) (by rw [hf]; rfl) (by omega) (by omega) vs e2 (fun k v hk => by
            unfold At; rw [hf]; exact ⟨vs, e1, by omega, by rw [show 1 + k - 1 = k by omega]; exact hk⟩) j hts
          exact ⟨g1, t1, vs, e1, by rw [l1]; exact e2, r1⟩
        | false =>
          obtain ⟨c, e1, e2⟩ := hs
          subst e1
          simp only [List.length_singleton, takeSlot] at hts
          cases h1 : takeAt fr t 1 with
          | mk y fr3 =>
            rw [h1] at hts
            cases hts
            have hca : cellAt fr t 1 = c := by unfold cellAt; rw [hf]; rfl
            rcases e2 with rfl | ⟨rfl, e2⟩ | e2
            · unfold takeAt at h1
              rw [hca] at h1
              cases h1
              exact ⟨g, Took.refl h, _, rfl, .inl rfl⟩
            · unfold takeAt at h1
              rw [hca] at h1
              cases h1
              exact ⟨g, Took.refl h, _, rfl, .inr (.inl ⟨rfl, e2⟩)⟩
            · obtain ⟨g1, t1, r1⟩ := takeAt_ok h (v := a.tmps.getD t undef) (by unfold At; rw [hf]; exact ⟨rfl, rfl⟩) (by rw [hca]; exact e2) j h1
              exact ⟨g1, t1, y, rfl, .inr (.inr r1)⟩
end
end Go.Rv

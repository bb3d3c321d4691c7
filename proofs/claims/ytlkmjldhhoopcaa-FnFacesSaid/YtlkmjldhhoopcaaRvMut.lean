/- A call that writes some of its arguments: the caller's side. -/
import Derived.Test.YtlkmjldhhoopcaaRvCallOp
namespace Go.Rv
set_option linter.unusedSimpArgs false
set_option linter.unusedVariables false
section
variable {P : Program} {st : St} {g : Gh} {fr : Fr} {a : Act} {w : World} {X : Env} {o : Oper} {R : Type} {K : Fr → Option R} {r : R} {Q : Exit → Act → World → Prop}
theorem bif_some' {b : Bool} {α : Type} {x : Option α} {y : α} (h : (bif b then x else none) = some y) : b = true ∧ x = some y := by
  cases b
  · cases h
  · exact ⟨rfl, h⟩
/-! ### one cell, told anew -/
theorem setCell_ok (h : Ok st g fr a w) {s c : Nat} {v : Value} (hat : At g fr a w s c v) {y : CV} (hy : rel w g (isBox fr) (.at s 0 c) y v) : Ok st g (setCellAt fr s c y) a w := by
  have hbx := isBox_setCell fr s c y
  exact { h with
    slot := fun q => by
      rw [hbx]
      have hs := h.slot q
      by_cases hq : q = s
      · subst hq
        unfold setCellAt
        unfold At at hat
        cases hf : fr q with
        | tup vs => rw [hf] at hat; exact hat.elim
        | comp b cs =>
          rw [hf] at hs hat
          cases c with
          | zero => simp only; rw [hf]; exact hs
          | succ c =>
            simp only [upd_same]
            cases b with
            | true =>
              obtain ⟨vs, e1, e2, e3⟩ := hs
              obtain ⟨vs', f1, _, f2⟩ := hat
              rw [e1] at f1
              simp only [Value.agg.injEq] at f1
              have hvv : vs = vs' := by simpa using congrArg Array.toList f1
              subst hvv
              refine ⟨vs, e1, by simpa using e2, fun k z hk => ?_⟩
              by_cases hkc : k = c
              · subst hkc
                rw [List.getElem?_set] at hk
                simp at hk
                obtain ⟨_, rfl⟩ := hk
                exact ⟨v, by simpa using f2, hy⟩
              · rw [List.getElem?_set_ne (by omega)] at hk
                exact e3 k z hk
            | false =>
              obtain ⟨z, e1, e2⟩ := hs
              subst e1
              obtain ⟨f1, f2⟩ := hat
              have : c = 0 := by omega
              subst this
              exact ⟨_, rfl, .inr (.inr (by rw [f2]; exact hy))⟩
        | box cs =>
          rw [hf] at hs hat
          cases c with
          | zero => simp only; rw [hf]; exact hs
          | succ c =>
            simp only [upd_same]
            obtain ⟨⟨b, arr, ty, e1, e2, e3, e4⟩, e5⟩ := hs
            obtain ⟨b', arr', ty', f1, f2, _, f3⟩ := hat
            rw [e1] at f1; cases f1
            rw [e3] at f2; cases f2
            refine ⟨⟨b, arr, ty, e1, e2, e3, by simpa using e4.1, fun k z hk => ?_⟩, e5⟩
            by_cases hkc : k = c
            · subst hkc
              rw [List.getElem?_set] at hk
              simp at hk
              obtain ⟨_, rfl⟩ := hk
              exact ⟨v, by simpa using f3, hy⟩
            · rw [List.getElem?_set_ne (by omega)] at hk
              exact e4.2 k z hk
      · have : setCellAt fr s c y q = fr q := by
          unfold setCellAt
          cases fr s with
          | tup vs => rfl
          | comp b cs => cases c <;> simp [upd_ne _ _ _ hq]
          | box cs => cases c <;> simp [upd_ne _ _ _ hq]
        rw [this]
        exact hs }
theorem cellAt_set_dead (s c s' c' : Nat) : cellAt (setCellAt fr s' c' .dead) s c = .dead ∨ cellAt (setCellAt fr s' c' .dead) s c = cellAt fr s c := by
  by_cases hs : s = s'
  · subst hs
    unfold setCellAt
    cases hf : fr s with
    | tup vs => exact .inr rfl
    | comp b cs =>
      cases c' with
      | zero => exact .inr rfl
      | succ c' =>
        unfold cellAt
        simp only [upd_same, hf]
        cases c with
        | zero => exact .inl rfl
        | succ c =>
          by_cases hc : c = c'
          · subst hc
            left
            simp only [List.getD_eq_getElem?_getD, List.getElem?_set]
            by_cases hl : c < cs.length <;> simp [hl]
          · right; simp [List.getD_eq_getElem?_getD, List.getElem?_set_ne (Ne.symm hc)]
    | box cs =>
      cases c' with
      | zero => exact .inr rfl
      | succ c' =>
        unfold cellAt
        simp only [upd_same, hf]
        cases c with
        | zero => exact .inl rfl
        | succ c =>
          by_cases hc : c = c'
          · subst hc
            left
            simp only [List.getD_eq_getElem?_getD, List.getElem?_set]
            by_cases hl : c < cs.length <;> simp [hl]
          · right; simp [List.getD_eq_getElem?_getD, List.getElem?_set_ne (Ne.symm hc)]
  · right
    unfold cellAt
    have : setCellAt fr s' c' .dead s = fr s := by
      unfold setCellAt
      cases fr s' with
      | tup vs => rfl
      | comp b cs => cases c' <;> simp [upd_ne _ _ _ hs]
      | box cs => cases c' <;> simp [upd_ne _ _ _ hs]
    rw [this]
theorem cellAt_set_self (s c : Nat) : cellAt (setCellAt fr s c .dead) s c = .dead := by
  unfold setCellAt
  cases hf : fr s with
  | tup vs => unfold cellAt; simp only [hf]
  | comp b cs =>
    cases c with
    | zero => unfold cellAt; simp only [hf]
    | succ c =>
      unfold cellAt
      simp only [upd_same, List.getD_eq_getElem?_getD, List.getElem?_set]
      by_cases hl : c < cs.length <;> simp [hl]
  | box cs =>
    cases c with
    | zero => unfold cellAt; simp only [hf]
    | succ c =>
      unfold cellAt
      simp only [upd_same, List.getD_eq_getElem?_getD, List.getElem?_set]
      by_cases hl : c < cs.length <;> simp [hl]
theorem bury_keep : ∀ (ps : List (Option (Nat × Nat))) {fr : Fr} {s c : Nat}, cellAt fr s c = .dead → cellAt (bury fr ps) s c = .dead
  | [], fr, s, c, h => h
  | none :: r, fr, s, c, h => bury_keep r (fr := fr) h
  | some (s', c') :: r, fr, s, c, h => by
    refine bury_keep r ?_
    rcases cellAt_set_dead (fr := fr) s c s' c' with e | e
    · exact e
    · exact e.trans h
theorem bury_dead : ∀ (ps : List (Option (Nat × Nat))) {fr : Fr} {s c : Nat}, some (s, c) ∈ ps → cellAt (bury fr ps) s c = .dead
  | none :: r, fr, s, c, h => bury_dead r (fr := fr) (by simpa using h)
  | some (s', c') :: r, fr, s, c, h => by
    rcases List.mem_cons.1 h with h | h
    · cases h
      exact bury_keep r (cellAt_set_self _ _)
    · exact bury_dead r h
theorem bury_at : ∀ (ps : List (Option (Nat × Nat))) {fr : Fr} {s c : Nat} {v : Value}, At g fr a w s c v → At g (bury fr ps) a w s c v
  | [], fr, s, c, v, h => h
  | none :: r, fr, s, c, v, h => bury_at r (fr := fr) h
  | some (s', c') :: r, fr, s, c, v, h => bury_at r (At_set rfl h)
theorem bury_box : ∀ (ps : List (Option (Nat × Nat))) {fr : Fr}, isBox (bury fr ps) = isBox fr
  | [], fr => rfl
  | none :: r, fr => bury_box r (fr := fr)
  | some (s', c') :: r, fr => (bury_box r).trans (isBox_setCell fr s' c' .dead)
theorem bury_ok : ∀ (ps : List (Option (Nat × Nat))) {fr : Fr}, Ok st g fr a w → (∀ s c, some (s, c) ∈ ps → ∃ v, At g fr a w s c v ∧ v.oneCell' = true) → Ok st g (bury fr ps) a w
  | [], fr, h, hv => h
  | none :: r, fr, h, hv => bury_ok r (fr := fr) h fun s c hm => hv s c (List.mem_cons_of_mem _ hm)
  | some (s', c') :: r, fr, h, hv => by
    obtain ⟨v, h1, h2⟩ := hv s' c' List.mem_cons_self
    refine bury_ok r (setCell_ok h h1 (y := .dead) h2) fun s c hm => ?_
    obtain ⟨u, q1, q2⟩ := hv s c (List.mem_cons_of_mem _ hm)
    exact ⟨u, At_set rfl q1, q2⟩
/-! ### behind the call -/
theorem Kld.cells' {g g' : Gh} {w w' : World} {bx bx' : Nat → Bool} {Pl : Place → Prop} (h : Kld g g' w w' bx bx' Pl) {s i : Nat} {cs : List CV} {vs : List Value} (hp : ∀ c y, cs[c]? = some y → Pl (.at s i (c + 1)) ∨ y = .dead) (hr : cellsRel w g bx s i cs vs) : cellsRel w' g' bx' s i (cs.map kill1) vs := by
  refine ⟨by simpa using hr.1, fun j c hj => ?_⟩
  rw [List.getElem?_map] at hj
  cases hc : cs[j]? with
  | none => rw [hc] at hj; simp at hj
  | some c' =>
    rw [hc] at hj
    simp at hj
    subst hj
    obtain ⟨u, e1, e2⟩ := hr.2 j c' hc
    rcases hp j c' hc with q | q
    · exact ⟨u, e1, h.rel q e2⟩
    · subst q; exact ⟨u, e1, e2⟩
theorem Kld.slot' {g g' : Gh} {w w' : World} {bx bx' : Nat → Bool} {Pl : Place → Prop} (h : Kld g g' w w' bx bx' Pl) {s : Nat} (h0 : Pl (.at s 0 0)) : ∀ {x : SV} {v : Value}, (∀ cs, ((∃ b, x = .comp b cs) ∨ x = .box cs) → ∀ c y, cs[c]? = some y → Pl (.at s 0 (c + 1)) ∨ y = .dead) → (∀ cs, x = .box cs → bx s = true) → SRel w g bx s x v → SRel w' g' bx' s (killS x) v
  | .comp true cs, v, hp, _, hr => by
    obtain ⟨vs, h1, h2⟩ := hr
    exact ⟨vs, h1, h.cells' (hp cs (.inl ⟨true, rfl⟩)) h2⟩
  | .comp false cs, v, hp, _, hr => by
    obtain ⟨c, h1, h2⟩ := hr
    subst h1
    refine ⟨kill1 c, rfl, ?_⟩
    rcases h2 with rfl | ⟨rfl, h2⟩ | h2
    · exact .inl rfl
    · exact .inr (.inl ⟨rfl, h2⟩)
    · rcases hp [c] (.inl ⟨false, rfl⟩) 0 c rfl with q | q
      · exact .inr (.inr (h.rel q h2))
      · subst q; exact .inl rfl
  | .tup vs, v, _, _, hr => ⟨.dead, rfl, .inl rfl⟩
  | .box cs, v, hp, hb, hr => by
    obtain ⟨⟨b, arr, ty, h1, h2, h3, h4⟩, b', h5, h6⟩ := hr
    have hbx := hb cs rfl
    obtain ⟨o1, o2, _⟩ := h.kO b _ h0 h2
    exact ⟨⟨b, arr, ty, by rw [h.kX s hbx]; exact h1, o1, by rw [o2]; exact h3, h.cells' (hp cs (.inr rfl)) h4⟩, b', by rw [h.kX s hbx]; exact h5, h6⟩
theorem At_kill {s c : Nat} {v : Value} (h : At g fr a w s c v) : At g (kill fr) a w s c v := by
  unfold At at h ⊢
  unfold kill
  cases hf : fr s with
  | tup vs => rw [hf] at h; exact h.elim
  | comp b cs => rw [hf] at h; cases b <;> exact h
  | box cs => rw [hf] at h; exact h
/-! ### what is given to be written -/
def MutRef (muts : List Nat) (args : List Comp) (i k s c : Nat) : Prop := i ∈ muts ∧ ∃ (p : Comp) (t : Ty) (xs : List (Den t)), args[i]? = some p ∧ p.2[k]? = some (.ref s c t xs)
theorem mutCells_spec : ∀ {cs cs' : List CV} {qs : List (Option (Nat × Nat))}, mutCells fr cs = some (cs', qs) → cs'.length = cs.length ∧ qs.length = cs.length ∧
    ∀ (k : Nat) (x : CV), cs[k]? = some x → (∃ s c t xs u ys, x = .ref s c t xs ∧ (cellAt fr s c = .own u ys ∧ u.flat = true) ∧ cs'[k]? = some (.own u ys) ∧ qs[k]? = some (some (s, c))) ∨ (isScalar x = true ∧ cs'[k]? = some x ∧ qs[k]? = some none)
  | [], cs', qs, h => by
    simp only [mutCells, Option.some.injEq, Prod.mk.injEq] at h
    obtain ⟨rfl, rfl⟩ := h
    exact ⟨rfl, rfl, fun k x hk => by simp at hk⟩
  | x :: cs, cs', qs, h => by
    have key : ∃ y q cs1 qs1, mutCells fr cs = some (cs1, qs1) ∧ cs' = y :: cs1 ∧ qs = q :: qs1 ∧ ((∃ s c t xs u ys, x = .ref s c t xs ∧ (cellAt fr s c = .own u ys ∧ u.flat = true) ∧ y = .own u ys ∧ q = some (s, c)) ∨ (isScalar x = true ∧ y = x ∧ q = none)) := by
      by_cases hx : ∃ s c t xs, x = .ref s c t xs
      · obtain ⟨s, c, t, xs, rfl⟩ := hx
        simp only [mutCells] at h
        split at h
        · rename_i u ys cs1 qs1 e1 e2
          obtain ⟨hfl, h⟩ := bif_some' h
          cases h
          exact ⟨_, _, cs1, qs1, e2, rfl, rfl, .inl ⟨s, c, t, xs, u, ys, rfl, ⟨e1, hfl⟩, rfl, rfl⟩⟩
        · cases h
      · have h : (bif isScalar x then (match mutCells fr cs with | some (cs, ps) => some (x :: cs, none :: ps) | none => none) else none) = some (cs', qs) := by
          cases x <;> first | exact h | exact (hx ⟨_, _, _, _, rfl⟩).elim
        obtain ⟨h1, h⟩ := bif_some' h
        split at h
        · rename_i cs1 qs1 e
          cases h
          exact ⟨_, _, cs1, qs1, e, rfl, rfl, .inr ⟨h1, rfl, rfl⟩⟩
        · cases h
    obtain ⟨y, q, cs1, qs1, e, rfl, rfl, hy⟩ := key
    obtain ⟨i1, i2, i3⟩ := mutCells_spec e
    refine ⟨by simp [i1], by simp [i2], fun k z hk => ?_⟩
    cases k with
    | zero =>
      simp at hk
      subst hk
      rcases hy with ⟨s, c, t, xs, u, ys, h1, h2, rfl, rfl⟩ | ⟨h1, rfl, rfl⟩
      · exact .inl ⟨s, c, t, xs, u, ys, h1, h2, rfl, rfl⟩
      · exact .inr ⟨h1, rfl, rfl⟩
    | succ k => simp at hk; simpa using i3 k z hk
theorem argsConv_spec {muts : List Nat} : ∀ {args l : List Comp} {i0 : Nat}, argsConv fr muts i0 args = some l → l.length = args.length ∧
    ∀ (i : Nat) (p : Comp), args[i]? = some p → (i0 + i ∈ muts ∧ ∃ cs' qs, mutCells fr p.2 = some (cs', qs) ∧ l[i]? = some (p.1, cs')) ∨ (i0 + i ∉ muts ∧ l[i]? = some (p.1, p.2.map (argCV fr)))
  | [], l, i0, h => by
    simp only [argsConv, Option.some.injEq] at h
    subst h
    exact ⟨rfl, fun i p hi => by simp at hi⟩
  | (gg, cs) :: args, l, i0, h => by
    simp only [argsConv] at h
    split at h
    · cases h
    · rename_i l1 hl1
      obtain ⟨i1, i2⟩ := argsConv_spec hl1
      have rest : ∀ (x : Comp) (i : Nat) (p : Comp), args[i]? = some p → (i0 + (i + 1) ∈ muts ∧ ∃ cs' qs, mutCells fr p.2 = some (cs', qs) ∧ (x :: l1)[i + 1]? = some (p.1, cs')) ∨ (i0 + (i + 1) ∉ muts ∧ (x :: l1)[i + 1]? = some (p.1, p.2.map (argCV fr))) := fun x i p hi => by
        have := i2 i p hi
        rw [show i0 + 1 + i = i0 + (i + 1) by omega] at this
        simpa using this
      cases hc : muts.contains i0
      · rw [hc] at h
        simp only [cond_false, Option.some.injEq] at h
        subst h
        refine ⟨by simp [i1], fun i p hi => ?_⟩
        cases i with
        | zero => simp at hi; subst hi; exact .inr ⟨by simpa using hc, rfl⟩
        | succ i => simp at hi; exact rest _ i p hi
      · rw [hc] at h
        simp only [cond_true] at h
        split at h
        · rename_i cs' qs hm
          simp only [Option.some.injEq] at h
          subst h
          refine ⟨by simp [i1], fun i p hi => ?_⟩
          cases i with
          | zero => simp at hi; subst hi; exact .inl ⟨by simpa using hc, cs', qs, hm, rfl⟩
          | succ i => simp at hi; exact rest _ i p hi
        · cases h
theorem places_mem {args : List Comp} : ∀ {muts : List Nat} {ps : List (Option (Nat × Nat))}, placesOf fr args muts = some ps → ∀ {i k s c : Nat}, MutRef muts args i k s c → some (s, c) ∈ ps
  | [], ps, h, i, k, s, c, hm => by cases hm.1
  | j :: r, ps, h, i, k, s, c, hm => by
    obtain ⟨hi, p, t, xs, h1, h2⟩ := hm
    simp only [placesOf] at h
    split at h
    case h_2 => cases h
    rename_i p' ps' hj hr
    split at h
    case h_2 => cases h
    rename_i cs' qs hq
    cases h
    rcases List.mem_cons.1 hi with rfl | hi
    · rw [h1] at hj
      cases hj
      obtain ⟨_, _, i3⟩ := mutCells_spec hq
      rcases i3 k _ h2 with ⟨s', c', t', xs', u, ys, e, _, _, e2⟩ | ⟨e, _⟩
      · cases e; exact List.mem_append_left _ (List.mem_of_getElem? e2)
      · cases e
    · exact List.mem_append_right _ (places_mem hr ⟨hi, p, t, xs, h1, h2⟩)
theorem noDup_app : ∀ {qs ps : List (Option (Nat × Nat))}, noDup (qs ++ ps) = true → noDup qs = true ∧ noDup ps = true ∧ ∀ x, some x ∈ qs → some x ∉ ps
  | [], ps, h => ⟨rfl, h, fun x hx => by cases hx⟩
  | none :: qs, ps, h => by
    obtain ⟨i1, i2, i3⟩ := noDup_app (qs := qs) h
    exact ⟨i1, i2, fun x hx => i3 x (by simpa using hx)⟩
  | some y :: qs, ps, h => by
    simp only [List.cons_append, noDup, Bool.and_eq_true] at h
    obtain ⟨i1, i2, i3⟩ := noDup_app (qs := qs) h.2
    have hn : some y ∉ qs ++ ps := by simpa using h.1
    refine ⟨?_, i2, fun x hx => ?_⟩
    · simp only [noDup, Bool.and_eq_true]
      exact ⟨by simpa using fun e => hn (List.mem_append_left _ e), i1⟩
    · rcases List.mem_cons.1 hx with e | hx
      · cases e; exact fun e => hn (List.mem_append_right _ e)
      · exact i3 x hx
theorem noDup_get : ∀ {qs : List (Option (Nat × Nat))}, noDup qs = true → ∀ {x : Nat × Nat} {k k' : Nat}, qs[k]? = some (some x) → qs[k']? = some (some x) → k = k'
  | [], _, x, k, k', h, _ => by simp at h
  | y :: qs, hn, x, k, k', h1, h2 => by
    have htail : noDup qs = true ∧ ∀ z, y = some z → some z ∉ qs := by
      cases y with
      | none => exact ⟨hn, fun z e => by cases e⟩
      | some y =>
        simp only [noDup, Bool.and_eq_true] at hn
        exact ⟨hn.2, fun z e => by cases e; simpa using hn.1⟩
    cases k with
    | zero => cases k' with
      | zero => rfl
      | succ k' =>
        simp at h1 h2
        exact (htail.2 x h1 (List.mem_of_getElem? h2)).elim
    | succ k => cases k' with
      | zero =>
        simp at h1 h2
        exact (htail.2 x h2 (List.mem_of_getElem? h1)).elim
      | succ k' =>
        simp at h1 h2
        rw [noDup_get htail.1 h1 h2]
theorem places_fun {args : List Comp} : ∀ {muts : List Nat} {ps : List (Option (Nat × Nat))}, placesOf fr args muts = some ps → noDup ps = true → ∀ {i k i' k' s c : Nat}, MutRef muts args i k s c → MutRef muts args i' k' s c → i = i' ∧ k = k'
  | [], ps, h, hn, i, k, i', k', s, c, hm, _ => by cases hm.1
  | j :: r, ps, h, hn, i, k, i', k', s, c, hm, hm' => by
    obtain ⟨hi, p, t, xs, h1, h2⟩ := hm
    obtain ⟨hi', p', t', xs', h1', h2'⟩ := hm'
    simp only [placesOf] at h
    split at h
    case h_2 => cases h
    rename_i pj ps' hj hr
    split at h
    case h_2 => cases h
    rename_i cs' qs hq
    cases h
    obtain ⟨n1, n2, n3⟩ := noDup_app hn
    obtain ⟨_, _, i3⟩ := mutCells_spec hq
    have atj : ∀ {i k : Nat} {p : Comp} {t : Ty} {xs : List (Den t)}, i = j → args[i]? = some p → p.2[k]? = some (.ref s c t xs) → qs[k]? = some (some (s, c)) := by
      intro i k p t xs e h1 h2
      subst e
      rw [h1] at hj
      cases hj
      rcases i3 k _ h2 with ⟨s', c', t', xs', u, ys, e, _, _, e2⟩ | ⟨e, _⟩
      · cases e; exact e2
      · cases e
    by_cases e : i = j
    · by_cases e' : i' = j
      · exact ⟨e.trans e'.symm, noDup_get n1 (atj e h1 h2) (atj e' h1' h2')⟩
      · have hi'' : i' ∈ r := (List.mem_cons.1 hi').resolve_left e'
        exact (n3 _ (List.mem_of_getElem? (atj e h1 h2)) (places_mem hr ⟨hi'', p', t', xs', h1', h2'⟩)).elim
    · have hi2 : i ∈ r := (List.mem_cons.1 hi).resolve_left e
      by_cases e' : i' = j
      · exact (n3 _ (List.mem_of_getElem? (atj e' h1' h2')) (places_mem hr ⟨hi2, p, t, xs, h1, h2⟩)).elim
      · have hi'' : i' ∈ r := (List.mem_cons.1 hi').resolve_left e'
        exact places_fun hr n2 ⟨hi2, p, t, xs, h1, h2⟩ ⟨hi'', p', t', xs', h1', h2'⟩
theorem places_own {args : List Comp} : ∀ {muts : List Nat} {ps : List (Option (Nat × Nat))}, placesOf fr args muts = some ps → ∀ {s c : Nat}, some (s, c) ∈ ps → ∃ i k u ys, MutRef muts args i k s c ∧ cellAt fr s c = .own u ys
  | [], ps, h, s, c, hm => by
    simp only [placesOf, Option.some.injEq] at h
    subst h
    cases hm
  | j :: r, ps, h, s, c, hm => by
    simp only [placesOf] at h
    split at h
    case h_2 => cases h
    rename_i pj ps' hj hr
    split at h
    case h_2 => cases h
    rename_i cs' qs hq
    cases h
    rcases List.mem_append.1 hm with hm | hm
    · obtain ⟨i1, i2, i3⟩ := mutCells_spec hq
      obtain ⟨k, hk, e⟩ := List.getElem_of_mem hm
      have hkc : k < pj.2.length := by omega
      rcases i3 k _ (List.getElem?_eq_getElem hkc) with ⟨s', c', t, xs, u, ys, e1, e2, _, e3⟩ | ⟨_, _, e3⟩
      · rw [List.getElem?_eq_getElem hk, e] at e3
        cases e3
        exact ⟨j, k, u, ys, ⟨List.mem_cons_self, pj, t, xs, hj, by rw [List.getElem?_eq_getElem hkc, e1]⟩, e2.1⟩
      · rw [List.getElem?_eq_getElem hk, e] at e3
        cases e3
    · obtain ⟨i, k, u, ys, ⟨h1, h2⟩, h3⟩ := places_own hr hm
      exact ⟨i, k, u, ys, ⟨List.mem_cons_of_mem _ h1, h2⟩, h3⟩
theorem MutRef.fun {muts : List Nat} {args : List Comp} {i k s c s' c' : Nat} (h : MutRef muts args i k s c) (h' : MutRef muts args i k s' c') : s = s' ∧ c = c' := by
  obtain ⟨_, p, t, xs, h1, h2⟩ := h
  obtain ⟨_, p', t', xs', h1', h2'⟩ := h'
  rw [h1] at h1'
  cases h1'
  rw [h2] at h2'
  cases h2'
  exact ⟨rfl, rfl⟩
/-! ### the ghosts -/
def MutB (g : Gh) (muts : List Nat) (args : List Comp) (b : Nat) : Prop := ∃ i k s c, MutRef muts args i k s c ∧ g.O b = some (.at s 0 c)
open Classical
noncomputable def Gh.mut (g : Gh) (w : World) (muts : List Nat) (args : List Comp) : Gh := {
  B := w.heap.size
  M := MutB g muts args
  Z := g.Z
  S := fun b o => g.Z b o ∨ (MutB g muts args b ∧ g.S b o)
  O := fun b => if h : MutB g muts args b then some (.at h.choose 0 (h.choose_spec.choose + 1)) else none
  H := fun i k => if h : ∃ s c, 0 < k ∧ MutRef muts args i (k - 1) s c then g.H h.choose h.choose_spec.choose else none
  X := fun _ => none }
noncomputable def Gh.back (g : Gh) (w : World) (muts : List Nat) (args : List Comp) (g' : Gh) : Gh := { g with
  S := fun b o => if b < w.heap.size ∧ ¬ MutB g muts args b then g.S b o else g'.S b o
  O := fun b => if b < w.heap.size ∧ ¬ MutB g muts args b then g.O b else match g'.O b with
    | some (.air m) => some (.air m)
    | _ => if b < w.heap.size then g.O b else none }
theorem mut_O {muts : List Nat} {args : List Comp} {ps : List (Option (Nat × Nat))} (hp : placesOf fr args muts = some ps) (hn : noDup ps = true) {i k s c b : Nat} (hm : MutRef muts args i k s c) (hO : g.O b = some (.at s 0 c)) : (g.mut w muts args).O b = some (.at i 0 (k + 1)) := by
  have hB : MutB g muts args b := ⟨i, k, s, c, hm, hO⟩
  simp only [Gh.mut]
  rw [dif_pos hB]
  obtain ⟨s', c', h1, h2⟩ := hB.choose_spec.choose_spec
  rw [hO] at h2
  cases h2
  obtain ⟨e1, e2⟩ := places_fun hp hn h1 hm
  have key : ∀ x y : Nat, x = i → y = k → some (Place.at x 0 (y + 1)) = some (Place.at i 0 (k + 1)) := by rintro _ _ rfl rfl; rfl
  exact key _ _ e1 e2
theorem mut_H {muts : List Nat} {args : List Comp} {i k s c : Nat} (hm : MutRef muts args i k s c) : (g.mut w muts args).H i (k + 1) = g.H s c := by
  have hex : ∃ s c, 0 < k + 1 ∧ MutRef muts args i (k + 1 - 1) s c := ⟨s, c, by omega, hm⟩
  simp only [Gh.mut]
  rw [dif_pos hex]
  obtain ⟨_, h2⟩ := hex.choose_spec.choose_spec
  obtain ⟨e1, e2⟩ := hm.fun h2
  have key : ∀ x y : Nat, s = x → c = y → g.H x y = g.H s c := by rintro _ _ rfl rfl; rfl
  exact key _ _ e1 e2
theorem mut_notM (h : Ok st g fr a w) {muts : List Nat} {args : List Comp} {b : Nat} (hb : b < st.B) (hm : ¬ st.M b) : ¬ MutB g muts args b := fun ⟨i, k, s, c, _, hO⟩ => hm ((h.own b _ hO).2 hb)
/-- an owner, as the callee sees it -/
theorem mut_own (h : Ok st g fr a w) {muts : List Nat} {args : List Comp} {ps : List (Option (Nat × Nat))} (hp : placesOf fr args muts = some ps) (hn : noDup ps = true) {i k s c : Nat} (hm : MutRef muts args i k s c) {t : Ty} (hfl : t.flat = true) {xs : List (Den t)} {v : Value} (hr : OwnR w g (.at s 0 c) t xs v) : OwnR w (g.mut w muts args) (.at i 0 (k + 1)) t xs v := by
  rcases hr with e | ⟨b, cap, cur, e, h1, hO, h3, h4, h5, h6, h7, h8⟩
  · exact .inl e
  · refine .inr ⟨b, cap, cur, e, h1, mut_O hp hn hm hO, h3, h4, h5, h6, fun j x hj => ?_, fun oo => ?_⟩
    · obtain ⟨ecs, q1, q2⟩ := h7 j x hj
      exact ⟨ecs, rep_flat hfl q1, q2⟩
    · rw [← h8]
      constructor
      · rintro (e | e)
        · exact (h.zs b oo (by rw [← h.eZ]; exact e)).1
        · exact e.2
      · exact fun e => .inr ⟨⟨i, k, s, c, hm, hO⟩, e⟩
/-- the value of a cell that is to be written -/
theorem mut_val (h : Ok st g fr a w) {s c : Nat} {t u : Ty} {xs : List (Den t)} {ys : List (Den u)} {bx : Nat → Bool} {p : Place} {v : Value} (hr : rel w g bx p (.ref s c t xs) v) (hc : cellAt fr s c = .own u ys) : At g fr a w s c v ∧ OwnR w g (.at s 0 c) u ys v ∧ g.H s c = some v := by
  obtain ⟨v0, hat, h1, _, h3⟩ := cell_rel h hc (by simp) (by simp)
  have := hr.2 v0 h3
  subst this
  exact ⟨hat, h1, h3⟩
theorem mut_init (h : Ok st g fr a w) {muts : List Nat} {args l : List Comp} {vs : List Value} {ps : List (Option (Nat × Nat))} (hl : argsConv fr muts 0 args = some l) (hp : placesOf fr args muts = some ps) (hn : noDup ps = true) (hold : othersOld muts 0 args = true)
    (hlen : vs.length = args.length) (hargs : ∀ (i : Nat) (p : Comp), args[i]? = some p → ∃ v : Value, vs[i]? = some v ∧ FRel w g (isBox fr) p v) : InitOk w (g.mut w muts args) l vs where
  eB := rfl
  len := by rw [hlen, (argsConv_spec hl).1]
  arg := fun i p hi => by
    obtain ⟨l1, l2⟩ := argsConv_spec hl
    have hil : i < args.length := by rw [← l1]; exact (List.getElem?_eq_some_iff.1 hi).1
    have hai := List.getElem?_eq_getElem hil
    obtain ⟨v, hv, hrel⟩ := hargs i _ hai
    refine ⟨v, hv, ?_⟩
    generalize args[i] = p0 at hai hrel
    rcases l2 i p0 hai with ⟨hmem, cs', qs, hm, e⟩ | ⟨hmem, e⟩
    · rw [Nat.zero_add] at hmem
      rw [hi] at e
      cases e
      obtain ⟨i1, i2, i3⟩ := mutCells_spec hm
      have cell : ∀ (k : Nat) (y x : CV) (u : Value) (bx : Nat → Bool) (pl : Place), p0.2[k]? = some x → cs'[k]? = some y → rel w g bx pl x u → rel w (g.mut w muts args) (fun _ => false) (.at i 0 (k + 1)) y u := by
        intro k y x u bx pl hx hy hr
        rcases i3 k x hx with ⟨s, c, t, xs, u', ys, rfl, ⟨e2, e3⟩, e4, _⟩ | ⟨e2, e4, _⟩
        · rw [hy] at e4
          cases e4
          obtain ⟨_, q2, q3⟩ := mut_val h hr e2
          have hmr : MutRef muts args i k s c := ⟨hmem, p0, t, xs, hai, hx⟩
          exact ⟨mut_own h hp hn hmr e3 q2, rfl, (mut_H hmr).trans q3⟩
        · rw [hy] at e4
          cases e4
          cases y <;> simp [isScalar] at e2 <;> exact hr
      obtain ⟨gg, cs⟩ := p0
      obtain ⟨_, hrel⟩ := hrel
      cases gg with
      | true =>
        obtain ⟨us, e1, e2, e3⟩ := hrel
        refine ⟨us, e1, by rw [e2, i1], fun k y hk => ?_⟩
        have hkl : k < cs.length := by rw [← i1]; exact (List.getElem?_eq_some_iff.1 hk).1
        obtain ⟨u, u1, u2⟩ := e3 k _ (List.getElem?_eq_getElem hkl)
        exact ⟨u, u1, cell k y _ u _ _ (List.getElem?_eq_getElem hkl) hk u2⟩
      | false =>
        obtain ⟨x, rfl, hx⟩ := hrel
        have hc1 : cs'.length = 1 := by rw [i1]; rfl
        obtain ⟨y, rfl⟩ := List.length_eq_one_iff.1 hc1
        refine ⟨y, rfl, ?_⟩
        have hx0 := i3 0 x rfl
        rcases hx with hx | hx | hx
        · subst hx
          rcases hx0 with ⟨s, c, t, xs, u', ys, e, _⟩ | ⟨e, _⟩ <;> cases e
        · rw [hx.1] at hx0
          rcases hx0 with ⟨s, c, t, xs, u', ys, e, _⟩ | ⟨e, _⟩ <;> cases e
        · exact .inr (.inr (cell 0 y x v _ _ rfl rfl hx))
    · rw [Nat.zero_add] at hmem
      rw [hi] at e
      cases e
      have holdi : p0.2.all isOldF = true := by
        have key : ∀ (args : List Comp) (i0 : Nat), othersOld muts i0 args = true → ∀ i p, args[i]? = some p → i0 + i ∉ muts → p.2.all isOldF = true := by
          intro args
          induction args with
          | nil => intro i0 _ i p hi; simp at hi
          | cons q args ih =>
            intro i0 ho i p hi hnm
            simp only [othersOld, Bool.and_eq_true, Bool.or_eq_true] at ho
            cases i with
            | zero =>
              simp at hi
              subst hi
              rcases ho.1 with e | e
              · exact (hnm (by simpa using e)).elim
              · exact e
            | succ i => simp at hi; exact ih (i0 + 1) ho.2 i p hi (by rwa [show i0 + 1 + i = i0 + (i + 1) by omega])
        exact key args 0 hold i p0 hai (by simpa using hmem)
      have cell : ∀ (k : Nat) (x : CV) (u : Value) (bx : Nat → Bool) (pl : Place), isOldF x = true → rel w g bx pl x u → rel w (g.mut w muts args) (fun _ => false) (.at i 0 (k + 1)) (argCV fr x) u := by
        intro k x u bx pl hx hr
        cases x <;> simp [isOldF] at hx <;> exact hr
      obtain ⟨gg, cs⟩ := p0
      obtain ⟨_, hrel⟩ := hrel
      cases gg with
      | true =>
        obtain ⟨us, e1, e2, e3⟩ := hrel
        refine ⟨us, e1, by simpa using e2, fun k y hk => ?_⟩
        rw [List.getElem?_map] at hk
        cases hc : cs[k]? with
        | none => rw [hc] at hk; simp at hk
        | some x =>
          rw [hc] at hk
          simp at hk
          subst hk
          obtain ⟨u, u1, u2⟩ := e3 k x hc
          exact ⟨u, u1, cell k x u _ _ (List.all_eq_true.1 holdi x (List.mem_of_getElem? hc)) u2⟩
      | false =>
        obtain ⟨x, rfl, hx⟩ := hrel
        refine ⟨argCV fr x, rfl, ?_⟩
        have hox : isOldF x = true := List.all_eq_true.1 holdi x (by simp)
        rcases hx with hx | hx | hx
        · subst hx; exact .inl rfl
        · rw [hx.1] at hox; cases hox
        · exact .inr (.inr (cell 0 x v _ _ hox hx))
  own := fun b p hO => by
    simp only [Gh.mut] at hO
    split at hO
    · rename_i hB
      obtain ⟨i, k, s, c, h1, h2⟩ := hB
      exact ⟨(h.own b _ h2).1, ⟨i, k, s, c, h1, h2⟩⟩
    · cases hO
  stab := fun b oo hs => by
    rcases hs with hs | hs
    · exact h.stab b oo (h.zs b oo (by rw [← h.eZ]; exact hs)).1
    · exact h.stab b oo hs.2
  nobox := fun b s hO => by
    simp only [Gh.mut] at hO
    split at hO
    · simp at hO
    · cases hO
  zs := fun b oo hz => by
    have hz' : g.Z b oo := hz
    obtain ⟨q1, q2, q3⟩ := h.zs b oo (by rw [← h.eZ]; exact hz')
    exact ⟨.inl hz', Nat.lt_of_lt_of_le q2 h.heap, mut_notM h q2 q3⟩
  sz := fun b oo hb hm hs => by
    rcases hs with hs | hs
    · exact hs
    · exact (hm hs.1).elim
  hh := fun s c u hu => by
    simp only [Gh.mut] at hu
    split at hu
    · exact h.hh _ _ u hu
    · cases hu
end
end Go.Rv

/- What hangs in the air lands in a slot. -/
import Derived.Test.YtlkmjldhhoopcaaRvTake
namespace Go.Rv
set_option linter.unusedSimpArgs false
set_option linter.unusedVariables false
section
variable {P : Program} {st : St} {g : Gh} {fr : Fr} {a : Act} {w : World} {X : Env} {o : Oper} {R : Type} {K : Fr → Option R} {r : R} {Q : Exit → Act → World → Prop}
/-! ### References are forgotten -/
theorem demP_rel {bx : Nat → Bool} {s : Nat} : ∀ {c : CV} {v : Value}, relP w g bx c v → relP w g bx (match c with | .eptr s' c t i k cs => bif s'.beq s then .hptr cs else .eptr s' c t i k cs | x => x) v
  | .eptr s' c t i k cs, v, h => by
    simp only
    cases s'.beq s
    · exact h
    · obtain ⟨ad, h1, h2, _⟩ := h; exact ⟨ad, h1, h2⟩
  | .ptr _ _, _, h => h
  | .rptr _, _, h => h
  | .hptr _, _, h => h
  | .dead, _, h => h
  | .int _ _, _, h => h
  | .bool _, _, h => h
  | .str _, _, h => h
  | .nils, _, h => h
  | .lo _ _, _, h => h
  | .hi _ _, _, h => h
theorem dem1_rel {bx : Nat → Bool} {p : Place} {s : Nat} : ∀ {c : CV} {v : Value}, rel w g bx p c v → rel w g bx p (dem1 s c) v
  | .ref s' c t xs, v, h => by
    simp only [dem1]
    cases s'.beq s
    · exact h
    · exact h.1
  | .eptr s' c t i k cs, v, h => by
    simp only [dem1]
    cases s'.beq s
    · exact h
    · obtain ⟨ad, h1, h2, _⟩ := h; exact ⟨ad, h1, h2⟩
  | .fn f caps, v, h => by
    obtain ⟨cs, h1, h2, h3⟩ := h
    refine ⟨cs, h1, by simpa [dem1] using h2, fun j c hj => ?_⟩
    rw [List.getElem?_map] at hj
    cases hc : caps[j]? with
    | none => rw [hc] at hj; simp at hj
    | some c' =>
      rw [hc] at hj
      simp at hj
      subst hj
      obtain ⟨u, e1, e2⟩ := h3 j c' hc
      exact ⟨u, e1, demP_rel e2⟩
  | .own _ _, _, h => h
  | .tmpo _ _, _, h => h
  | .ptr _ _, _, h => h
  | .rptr _, _, h => h
  | .hptr _, _, h => h
  | .dead, _, h => h
  | .int _ _, _, h => h
  | .bool _, _, h => h
  | .str _, _, h => h
  | .nils, _, h => h
  | .lo _ _, _, h => h
  | .hi _ _, _, h => h
theorem dem1_mentions (s : Nat) (c : CV) : mentions (dem1 s c) s = false := by
  cases c <;> try rfl
  case ref s' c t xs => simp only [dem1]; cases h : s'.beq s <;> simp [mentions, h]
  case eptr s' c t i k cs => simp only [dem1]; cases h : s'.beq s <;> simp [mentions, h]
  case fn f caps =>
    simp only [dem1, mentions, List.any_map]
    rw [List.any_eq_false]
    intro c _
    simp only [Function.comp]
    cases c <;> first | (intro e; cases e; done) | skip
    rename_i s' _ _ _ _ _ _
    cases h : s'.beq s
    · simp [h]
    · simp [h]
theorem dem1_free (s : Nat) (c : CV) : free (dem1 s c) = free c := by
  cases c <;> try rfl
  case ref s' c t xs => simp only [dem1]; cases s'.beq s <;> rfl
  case eptr s' c t i k cs => simp only [dem1]; cases s'.beq s <;> rfl
theorem cells_dem {bx : Nat → Bool} {s i d : Nat} {cs : List CV} {vs : List Value} (h : cellsRel w g bx s i cs vs) : cellsRel w g bx s i (cs.map (dem1 d)) vs := by
  refine ⟨by simpa using h.1, fun j c hj => ?_⟩
  rw [List.getElem?_map] at hj
  cases hc : cs[j]? with
  | none => rw [hc] at hj; simp at hj
  | some c' =>
    rw [hc] at hj
    simp at hj
    subst hj
    obtain ⟨u, e1, e2⟩ := h.2 j c' hc
    exact ⟨u, e1, dem1_rel e2⟩
theorem comp_dem {bx : Nat → Bool} {s i d : Nat} : ∀ {p : Comp} {v : Value}, CRel w g bx s i p v → CRel w g bx s i (p.1, p.2.map (dem1 d)) v
  | (true, cs), v, h => by obtain ⟨vs, h1, h2⟩ := h; exact ⟨vs, h1, cells_dem h2⟩
  | (false, cs), v, h => by
    obtain ⟨c, h1, h2⟩ := h
    subst h1
    refine ⟨dem1 d c, rfl, ?_⟩
    rcases h2 with rfl | ⟨rfl, h2⟩ | h2
    · exact .inl rfl
    · exact .inr (.inl ⟨rfl, h2⟩)
    · exact .inr (.inr (dem1_rel h2))
theorem slot_dem {bx : Nat → Bool} {s d : Nat} : ∀ {x : SV} {v : Value}, SRel w g bx s x v → SRel w g bx s (demS d x) v
  | .comp b cs, v, h => comp_dem (p := (b, cs)) h
  | .tup vs, v, h => by
    obtain ⟨us, h1, h2, h3⟩ := h
    refine ⟨us, h1, by simpa using h2, fun i p hi => ?_⟩
    rw [List.getElem?_map] at hi
    cases hc : vs[i]? with
    | none => rw [hc] at hi; simp at hi
    | some q =>
      rw [hc] at hi
      simp at hi
      subst hi
      obtain ⟨u, e1, e2⟩ := h3 i q hc
      exact ⟨u, e1, comp_dem e2⟩
  | .box cs, v, h => by
    obtain ⟨⟨b, arr, ty, h1, h2, h3, h4⟩, h5⟩ := h
    exact ⟨⟨b, arr, ty, h1, h2, h3, cells_dem h4⟩, h5⟩
theorem isBox_dem (d : Nat) (fr : Fr) : isBox (dem d fr) = isBox fr := by
  funext j
  unfold isBox dem
  cases fr j <;> rfl
theorem Ok.dem (h : Ok st g fr a w) (d : Nat) : Ok st g (dem d fr) a w :=
  { h with slot := fun s => by rw [isBox_dem]; exact slot_dem (h.slot s) }
theorem demS_mentions (d : Nat) (x : SV) : mentionsS (demS d x) d = false := by
  have hc : ∀ cs : List CV, cellsM (cs.map (dem1 d)) d = false := fun cs => by
    unfold cellsM
    rw [List.any_map, List.any_eq_false]
    intro c _
    simp [Function.comp, dem1_mentions]
  cases x with
  | comp b cs => exact hc cs
  | box cs => exact hc cs
  | tup vs =>
    simp only [demS, mentionsS, List.any_map]
    rw [List.any_eq_false]
    intro p _
    simp [Function.comp, hc]

/-! ### Landing -/
def Gh.land (g : Gh) (d lo : Nat) (D : Nat → Bool) (Hn : Nat → Option Value) : Gh := { g with
  O := fun b => match g.O b with
    | some (.air k) => if D (lo + k + 1) = true then some (.at d 0 (lo + k + 1)) else none
    | some (.at s i c) => if s = d ∧ D c = true then none else some (.at s i c)
    | none => none
  H := fun s c => if s = d ∧ D c = true then Hn c else g.H s c }
def keptAt (d : Nat) (D : Nat → Bool) : Place → Prop
  | .at s _ c => ¬ (s = d ∧ D c = true)
  | .air _ => False
theorem Chg.land (h : Ok st g fr a w) (d lo : Nat) (D : Nat → Bool) (Hn : Nat → Option Value) (bx : Nat → Bool) : Chg g (g.land d lo D Hn) w w bx bx (keptAt d D) (fun s => s = d → ∀ c, Hn c = none) where
  cB := rfl
  cM := rfl
  cZ := rfl
  zS := fun b o hz => (h.zs b o (by rw [← h.eZ]; exact hz)).1
  cbx := fun s hs => hs
  cX := fun s _ => rfl
  cS := fun b o hs => ⟨hs, rfl⟩
  cL := fun b _ => rfl
  cO := fun b p hp hO => ⟨by
    simp only [Gh.land, hO]
    cases p with
    | air k => exact hp.elim
    | «at» s i c => simp only; rw [if_neg hp], rfl, fun _ => Iff.rfl⟩
  cH := fun s c u hs hu => by
    simp only [Gh.land] at hu
    split at hu
    · rename_i e
      rw [hs e.1 c] at hu; cases hu
    · exact hu
  cHp := fun s i c hp => by
    simp only [Gh.land]
    rw [if_neg hp]
theorem land_own {d lo k : Nat} {D : Nat → Bool} {Hn : Nat → Option Value} (hD : D (lo + k + 1) = true) {t : Ty} {xs : List (Den t)} {v : Value} (h : OwnR w g (.air k) t xs v) : OwnR w (g.land d lo D Hn) (.at d 0 (lo + k + 1)) t xs v := by
  rcases h with e | ⟨b, cap, cur, e, h1, h2, h3, h4, h5, h6, h7, h8⟩
  · exact .inl e
  · exact .inr ⟨b, cap, cur, e, h1, by simp [Gh.land, h2, hD], h3, h4, h5, h6, h7, h8⟩
/-- a cell of the air in its place -/
theorem land_rel (h : Ok st g fr a w) {d lo k : Nat} {D : Nat → Bool} {Hn : Nat → Option Value} (hD : D (lo + k + 1) = true) {bx : Nat → Bool} {c : CV} {v : Value} (hn : Hn (lo + k + 1) = none) (hm : mentions c d = true → ∀ c, Hn c = none)
    (hr : rel w g bx (.air k) c v) : rel w (g.land d lo D Hn) bx (.at d 0 (lo + k + 1)) c v := by
  by_cases hf : free c = true
  · have h1 : rel w g bx (.at (d + 1) 0 0) c v := rel_place hf hr
    exact rel_place hf ((Chg.land h d lo D Hn bx).kRel (p := .at (d + 1) 0 0) (by show ¬ (d + 1 = d ∧ _); omega) (fun s hs e => by subst e; exact hm hs) h1)
  · cases c <;> simp [free] at hf
    case own t xs => exact hr.2.elim
    case tmpo t xs =>
      refine ⟨land_own hD hr.1, ?_⟩
      show (if d = d ∧ D (lo + k + 1) = true then Hn (lo + k + 1) else g.H d (lo + k + 1)) = none
      rw [if_pos ⟨rfl, hD⟩]; exact hn
theorem land_toOwn (h : Ok st g fr a w) {d lo k : Nat} {D : Nat → Bool} {Hn : Nat → Option Value} (hD : D (lo + k + 1) = true) {bx : Nat → Bool} {c : CV} {v : Value} (hn : Hn (lo + k + 1) = some v)
    (hc : ∃ t xs, c = .tmpo t xs) (hr : rel w g bx (.air k) c v) : rel w (g.land d lo D Hn) bx (.at d 0 (lo + k + 1)) (toOwn c) v := by
  obtain ⟨t, xs, rfl⟩ := hc
  refine ⟨land_own hD hr.1, rfl, ?_⟩
  show (if d = d ∧ D (lo + k + 1) = true then Hn (lo + k + 1) else g.H d (lo + k + 1)) = some v
  rw [if_pos ⟨rfl, hD⟩]; exact hn
theorem OwnR.head {p : Place} {t : Ty} {xs : List (Den t)} {v : Value} (h : OwnR w g p t xs v) : v = .slice none 0 0 ∨ ∃ b n cap, v = .slice (some ⟨b, 0, none⟩) n cap := by
  rcases h with ⟨e, _⟩ | ⟨b, cap, cur, e, h1, _⟩
  · exact .inl e
  · exact .inr ⟨b, _, cap, h1⟩
theorem land_own_field (h : Ok st g fr a w) {d lo : Nat} {D : Nat → Bool} {Hn : Nat → Option Value} (b : Nat) (p : Place) (hO : (g.land d lo D Hn).O b = some p) : b < w.heap.size ∧ (b < st.B → st.M b) := by
  simp only [Gh.land] at hO
  cases hb : g.O b with
  | none => rw [hb] at hO; cases hO
  | some q => exact h.own b q hb
theorem land_box (h : Ok st g fr a w) {d lo : Nat} {D : Nat → Bool} {Hn : Nat → Option Value} (b s : Nat) (hO : (g.land d lo D Hn).O b = some (.at s 0 0)) (oo : Nat) : ¬ g.S b oo := by
  simp only [Gh.land] at hO
  cases hb : g.O b with
  | none => rw [hb] at hO; cases hO
  | some q =>
    rw [hb] at hO
    cases q with
    | air k => simp only at hO; split at hO <;> cases hO
    | «at» s' i c =>
      simp only at hO
      split at hO
      · cases hO
      · cases hO
        exact h.boxS b _ hb oo
/-- Slot d takes what hangs in the air. -/
theorem Ok.landSet (h : Ok st g fr a w) {d : Nat} (hd : d < st.n) (hb : notBox (fr d) = true) (hk : d ∉ st.keep) {x : SV} (hx : notBox x = true) {v : Value} {Hn : Nat → Option Value}
    (hH : ∀ c u, Hn c = some u → u = .slice none 0 0 ∨ ∃ b n cap, u = .slice (some ⟨b, 0, none⟩) n cap)
    (hm : ∀ s, s ≠ d → mentionsS (fr s) d = true → ∀ c, Hn c = none) (hv : SRel w (g.land d 0 (fun _ => true) Hn) (isBox fr) d x v) :
    Ok st (g.land d 0 (fun _ => true) Hn) (upd fr d x) (a.put (some d) v) w where
  eB := h.eB
  eM := h.eM
  eZ := h.eZ
  size := by rw [put_tmps]; simp [h.size]
  defers := h.defers
  slot := fun s => by
    rw [isBox_upd fr d x hb hx]
    by_cases hs : s = d
    · subst hs
      rw [upd_same, put_getD_same v (by rw [h.size]; exact hd)]
      exact hv
    · rw [upd_ne fr d x hs, put_getD_ne a v hs]
      exact (Chg.land h d 0 _ Hn (isBox fr)).kSlot (fun i c e => hs e.1) (fun cs hc => by simp [isBox, hc, notBox]) (fun s' hs' e => by subst e; exact hm s hs hs') (h.slot s)
  keep := fun j hj => by
    have : j ≠ d := fun e => hk (e ▸ hj)
    rw [put_tmps, Array.getElem?_setIfInBounds_ne (Ne.symm this)]
    exact h.keep j hj
  os := h.os
  tape := h.tape
  output := h.output
  heap := h.heap
  old := h.old
  own := land_own_field h
  stab := h.stab
  boxS := land_box h
  zs := h.zs
  sz := h.sz
  hh := fun s c u hu => by
    simp only [Gh.land] at hu
    split at hu
    · exact hH c u hu
    · exact h.hh s c u hu
/-- A comp of the air, temporaries as they are. -/
theorem land_comp (h : Ok st g fr a w) {d : Nat} {bx : Nat → Bool} : ∀ {p : Comp} {v : Value}, ARel w g bx 0 p v → CRel w (g.land d 0 (fun _ => true) (fun _ => none)) bx d 0 p v
  | (true, cs), v, hr => by
    obtain ⟨vs, h1, h2, h3⟩ := hr
    refine ⟨vs, h1, h2, fun k c hk => ?_⟩
    obtain ⟨u, e1, e2⟩ := h3 k c hk
    refine ⟨u, e1, ?_⟩
    have := land_rel h (d := d) (lo := 0) (k := k) (D := fun _ => true) (Hn := fun _ => none) rfl rfl (fun _ _ => rfl) (by simpa using e2)
    simpa [Nat.add_comm] using this
  | (false, cs), v, hr => by
    obtain ⟨c, h1, h2⟩ := hr
    refine ⟨c, h1, ?_⟩
    rcases h2 with h2 | h2 | h2
    · exact .inl h2
    · exact .inr (.inl h2)
    · exact .inr (.inr (by
        have := land_rel h (d := d) (lo := 0) (k := 0) (D := fun _ => true) (Hn := fun _ => none) rfl rfl (fun _ _ => rfl) h2
        simpa using this))
theorem fin_land (hX : Fits X st) (h : Ok st g fr a w) {p : Comp} {v : Value} {dst : Option Nat} (hv : ARel w g (isBox fr) 0 p v) (hf : fin X fr dst (.comp p.1 p.2) K = some r) : Good st K r (a.put dst v) w := by
  cases dst with
  | none => exact ⟨g, fr, h, hf⟩
  | some d =>
    simp only [fin] at hf
    cases hs : setD X fr d (.comp p.1 p.2) with
    | none => rw [hs] at hf; cases hf
    | some fr1 =>
      rw [hs] at hf
      obtain ⟨h1, h2, h3, rfl⟩ := setD_some hX hs
      exact ⟨_, _, h.landSet (x := .comp p.1 p.2) h1 h2 h3 rfl (fun c u hu => by cases hu) (fun s _ _ c => rfl) (land_comp (d := d) h hv), hf⟩
end
end Go.Rv

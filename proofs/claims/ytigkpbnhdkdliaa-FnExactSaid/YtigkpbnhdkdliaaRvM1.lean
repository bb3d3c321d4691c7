/- A verified evaluator of the form: texts Land, Own, Make, App, App2, Box, Deep, MapB, MapC, MapD, MapE, MapF, Store, Kill. -/
import Derived.Test.YtigkpbnhdkdliaaRvM0
import Derived.Great.BuildSlice
set_option linter.unusedSimpArgs false
set_option linter.unusedVariables false
namespace Go.Rv
section
variable {P : Program} {st : St} {g : Gh} {fr : Fr} {a : Act} {w : World} {X : Env} {o : Oper} {R : Type} {K : Fr → Option R} {r : R} {Q : Exit → Act → World → Prop}
theorem demP_rel {bx : Nat → Bool} {s : Nat} : ∀ {c : CV} {v : Value}, relP w g bx c v → relP w g bx (match c with | .eptr s' c t i k cs => bif s'.beq s then .hptr cs else .eptr s' c t i k cs | x => x) v
  | .eptr s' c t i k cs, v, h => by
    simp only
    cases s'.beq s
    · exact h
    · obtain ⟨ad, h1, h2, _⟩ := h; exact ⟨ad, h1, h2⟩
  | .ptr _ _, _, h => h
  | .mptr _, _, h => h
  | .rptr _, _, h => h
  | .hptr _, _, h => h
  | .dead, _, h => h
  | .int _ _, _, h => h
  | .bool _, _, h => h
  | .str _, _, h => h
  | .nils, _, h => h
  | .lo _ _, _, h => h
  | .hi _ _, _, h => h
theorem dem1_rel {bx : Nat → Bool} {p : Place} {s : Nat} : ∀ {c : CV} {v : Value}, rel w g bx p c v → rel w g bx p (dem1 s c) v
  | .ref s' c t xs, v, h => by
    simp only [dem1]
    cases s'.beq s
    · exact h
    · exact h.1
  | .eptr s' c t i k cs, v, h => by
    simp only [dem1]
    cases s'.beq s
    · exact h
    · obtain ⟨ad, h1, h2, _⟩ := h; exact ⟨ad, h1, h2⟩
  | .fn f caps, v, h => by
    obtain ⟨cs, h1, h2, h3⟩ := h
    refine ⟨cs, h1, by simpa [dem1] using h2, fun j c hj => ?_⟩
    rw [List.getElem?_map] at hj
    cases hc : caps[j]? with
    | none => rw [hc] at hj; simp at hj
    | some c' =>
      rw [hc] at hj
      simp at hj
      subst hj
      obtain ⟨u, e1, e2⟩ := h3 j c' hc
      exact ⟨u, e1, demP_rel e2⟩
  | .own _ _, _, h => h
  | .tmpo _ _, _, h => h
  | .ptr _ _, _, h => h
  | .mptr _, _, h => h
  | .rptr _, _, h => h
  | .hptr _, _, h => h
  | .dead, _, h => h
  | .int _ _, _, h => h
  | .bool _, _, h => h
  | .str _, _, h => h
  | .nils, _, h => h
  | .lo _ _, _, h => h
  | .hi _ _, _, h => h
theorem dem1_mentions (s : Nat) (c : CV) : mentions (dem1 s c) s = false := by
  cases c <;> try rfl
  case ref s' c t xs => simp only [dem1]; cases h : s'.beq s <;> simp [mentions, h]
  case eptr s' c t i k cs => simp only [dem1]; cases h : s'.beq s <;> simp [mentions, h]
  case fn f caps =>
    simp only [dem1, mentions, List.any_map]
    rw [List.any_eq_false]
    intro c _
    simp only [Function.comp]
    cases c <;> first | (intro e; cases e; done) | skip
    rename_i s' _ _ _ _ _ _
    cases h : s'.beq s
    · simp [h]
    · simp [h]
theorem dem1_free (s : Nat) (c : CV) : free (dem1 s c) = free c := by
  cases c <;> try rfl
  case ref s' c t xs => simp only [dem1]; cases s'.beq s <;> rfl
  case eptr s' c t i k cs => simp only [dem1]; cases s'.beq s <;> rfl
theorem cells_dem {bx : Nat → Bool} {s i d : Nat} {cs : List CV} {vs : List Value} (h : cellsRel w g bx s i cs vs) : cellsRel w g bx s i (cs.map (dem1 d)) vs := by
  refine ⟨by simpa using h.1, fun j c hj => ?_⟩
  rw [List.getElem?_map] at hj
  cases hc : cs[j]? with
  | none => rw [hc] at hj; simp at hj
  | some c' =>
    rw [hc] at hj
    simp at hj
    subst hj
    obtain ⟨u, e1, e2⟩ := h.2 j c' hc
    exact ⟨u, e1, dem1_rel e2⟩
theorem comp_dem {bx : Nat → Bool} {s i d : Nat} : ∀ {p : Comp} {v : Value}, CRel w g bx s i p v → CRel w g bx s i (p.1, p.2.map (dem1 d)) v
  | (true, cs), v, h => by obtain ⟨vs, h1, h2⟩ := h; exact ⟨vs, h1, cells_dem h2⟩
  | (false, cs), v, h => by
    obtain ⟨c, h1, h2⟩ := h
    subst h1
    refine ⟨dem1 d c, rfl, ?_⟩
    rcases h2 with rfl | ⟨rfl, h2⟩ | h2
    · exact .inl rfl
    · exact .inr (.inl ⟨rfl, h2⟩)
    · exact .inr (.inr (dem1_rel h2))
theorem slot_dem {bx : Nat → Bool} {s d : Nat} : ∀ {x : SV} {v : Value}, SRel w g bx s x v → SRel w g bx s (demS d x) v
  | .comp b cs, v, h => comp_dem (p := (b, cs)) h
  | .tup vs, v, h => by
    obtain ⟨us, h1, h2, h3⟩ := h
    refine ⟨us, h1, by simpa using h2, fun i p hi => ?_⟩
    rw [List.getElem?_map] at hi
    cases hc : vs[i]? with
    | none => rw [hc] at hi; simp at hi
    | some q =>
      rw [hc] at hi
      simp at hi
      subst hi
      obtain ⟨u, e1, e2⟩ := h3 i q hc
      exact ⟨u, e1, comp_dem e2⟩
  | .box cs, v, h => by
    obtain ⟨⟨b, arr, ty, h1, h2, h3, h4⟩, h5⟩ := h
    exact ⟨⟨b, arr, ty, h1, h2, h3, cells_dem h4⟩, h5⟩
  | .mapb _ _ _ _, v, h => h
theorem isBox_dem (d : Nat) (fr : Fr) : isBox (dem d fr) = isBox fr := by
  funext j
  unfold isBox dem
  cases fr j <;> rfl
theorem Ok.dem (h : Ok st g fr a w) (d : Nat) : Ok st g (dem d fr) a w :=
  { h with slot := fun s => by rw [isBox_dem]; exact slot_dem (h.slot s) }
theorem demS_mentions (d : Nat) (x : SV) : mentionsS (demS d x) d = false := by
  have hc : ∀ cs : List CV, cellsM (cs.map (dem1 d)) d = false := fun cs => by
    unfold cellsM
    rw [List.any_map, List.any_eq_false]
    intro c _
    simp [Function.comp, dem1_mentions]
  cases x with
  | comp b cs => exact hc cs
  | box cs => exact hc cs
  | mapb k v xs it => rfl
  | tup vs =>
    simp only [demS, mentionsS, List.any_map]
    rw [List.any_eq_false]
    intro p _
    simp [Function.comp, hc]
def Gh.land (g : Gh) (d lo : Nat) (D : Nat → Bool) (Hn : Nat → Option Value) : Gh := { g with
  O := fun b => match g.O b with
    | some (.air k) => if D (lo + k + 1) = true then some (.at d 0 (lo + k + 1)) else none
    | some (.at s i c) => if s = d ∧ D c = true then none else some (.at s i c)
    | none => none
  H := fun s c => if s = d ∧ D c = true then Hn c else g.H s c }
def keptAt (d : Nat) (D : Nat → Bool) : Place → Prop
  | .at s _ c => ¬ (s = d ∧ D c = true)
  | .air _ => False
theorem Chg.land (h : Ok st g fr a w) (d lo : Nat) (D : Nat → Bool) (Hn : Nat → Option Value) (bx : Nat → Bool) : Chg g (g.land d lo D Hn) w w bx bx (keptAt d D) (fun s => s = d → ∀ c, Hn c = none) where
  cB := rfl
  cR := rfl
  cM := rfl
  cZ := rfl
  zS := fun b o hz => (h.zs b o (by rw [← h.eZ]; exact hz)).1
  cbx := fun s hs => hs
  cX := fun s _ => rfl
  cS := fun b o hs => ⟨hs, rfl⟩
  cL := fun b _ => rfl
  cO := fun b p hp hO => ⟨by
    simp only [Gh.land, hO]
    cases p with
    | air k => exact hp.elim
    | «at» s i c => simp only; rw [if_neg hp], rfl, fun _ => Iff.rfl⟩
  cH := fun s c u hs hu => by
    simp only [Gh.land] at hu
    split at hu
    · rename_i e
      rw [hs e.1 c] at hu; cases hu
    · exact hu
  cHp := fun s i c hp => by
    simp only [Gh.land]
    rw [if_neg hp]
theorem land_own {d lo k : Nat} {D : Nat → Bool} {Hn : Nat → Option Value} (hD : D (lo + k + 1) = true) {t : Ty} {xs : List (Den t)} {v : Value} (h : OwnR w g (.air k) t xs v) : OwnR w (g.land d lo D Hn) (.at d 0 (lo + k + 1)) t xs v := by
  rcases h with e | ⟨b, cap, cur, e, h1, h2, h3, h4, h5, h6, h7, h8⟩
  · exact .inl e
  · exact .inr ⟨b, cap, cur, e, h1, by simp [Gh.land, h2, hD], h3, h4, h5, h6, OwnR.elems (g := g) (g' := g.land d lo D Hn) (p := .air k) (q := .at d 0 (lo + k + 1)) (fun b o hs => ⟨⟨hs.1, by simp [Gh.land, hs.2.1, hD], hs.2.2⟩, rfl⟩) h7, h8⟩
theorem land_rel (h : Ok st g fr a w) {d lo k : Nat} {D : Nat → Bool} {Hn : Nat → Option Value} (hD : D (lo + k + 1) = true) {bx : Nat → Bool} {c : CV} {v : Value} (hn : Hn (lo + k + 1) = none) (hm : mentions c d = true → ∀ c, Hn c = none)
    (hr : rel w g bx (.air k) c v) : rel w (g.land d lo D Hn) bx (.at d 0 (lo + k + 1)) c v := by
  by_cases hf : free c = true
  · have h1 : rel w g bx (.at (d + 1) 0 0) c v := rel_place hf hr
    exact rel_place hf ((Chg.land h d lo D Hn bx).kRel (p := .at (d + 1) 0 0) (by show ¬ (d + 1 = d ∧ _); omega) (fun s hs e => by subst e; exact hm hs) h1)
  · cases c <;> simp [free] at hf
    case own t xs => exact hr.2.elim
    case tmpo t xs =>
      refine ⟨land_own hD hr.1, ?_⟩
      show (if d = d ∧ D (lo + k + 1) = true then Hn (lo + k + 1) else g.H d (lo + k + 1)) = none
      rw [if_pos ⟨rfl, hD⟩]; exact hn
theorem land_toOwn (h : Ok st g fr a w) {d lo k : Nat} {D : Nat → Bool} {Hn : Nat → Option Value} (hD : D (lo + k + 1) = true) {bx : Nat → Bool} {c : CV} {v : Value} (hn : Hn (lo + k + 1) = some v)
    (hc : ∃ t xs, c = .tmpo t xs) (hr : rel w g bx (.air k) c v) : rel w (g.land d lo D Hn) bx (.at d 0 (lo + k + 1)) (toOwn c) v := by
  obtain ⟨t, xs, rfl⟩ := hc
  refine ⟨land_own hD hr.1, rfl, ?_⟩
  show (if d = d ∧ D (lo + k + 1) = true then Hn (lo + k + 1) else g.H d (lo + k + 1)) = some v
  rw [if_pos ⟨rfl, hD⟩]; exact hn
theorem OwnR.head {p : Place} {t : Ty} {xs : List (Den t)} {v : Value} (h : OwnR w g p t xs v) : v = .slice none 0 0 ∨ ∃ b n cap, v = .slice (some ⟨b, 0, none⟩) n cap := by
  rcases h with ⟨e, _⟩ | ⟨b, cap, cur, e, h1, _⟩
  · exact .inl e
  · exact .inr ⟨b, _, cap, h1⟩
theorem land_own_field (h : Ok st g fr a w) {d lo : Nat} {D : Nat → Bool} {Hn : Nat → Option Value} (b : Nat) (p : Place) (hO : (g.land d lo D Hn).O b = some p) : b < w.heap.size ∧ (b < st.B → st.M b) := by
  simp only [Gh.land] at hO
  cases hb : g.O b with
  | none => rw [hb] at hO; cases hO
  | some q => exact h.own b q hb
theorem land_box (h : Ok st g fr a w) {d lo : Nat} {D : Nat → Bool} {Hn : Nat → Option Value} (b s : Nat) (hO : (g.land d lo D Hn).O b = some (.at s 0 0)) (oo : Nat) : ¬ g.S b oo := by
  simp only [Gh.land] at hO
  cases hb : g.O b with
  | none => rw [hb] at hO; cases hO
  | some q =>
    rw [hb] at hO
    cases q with
    | air k => simp only at hO; split at hO <;> cases hO
    | «at» s' i c =>
      simp only at hO
      split at hO
      · cases hO
      · cases hO
        exact h.boxS b _ hb oo
theorem Ok.landSet (h : Ok st g fr a w) {d : Nat} (hd : d < st.n) (hb : notBox (fr d) = true) (hk : d ∉ st.keep) {x : SV} (hx : notBox x = true) {v : Value} {Hn : Nat → Option Value}
    (hH : ∀ c u, Hn c = some u → u = .slice none 0 0 ∨ ∃ b n cap, u = .slice (some ⟨b, 0, none⟩) n cap)
    (hm : ∀ s, s ≠ d → mentionsS (fr s) d = true → ∀ c, Hn c = none) (hv : SRel w (g.land d 0 (fun _ => true) Hn) (isBox fr) d x v) :
    Ok st (g.land d 0 (fun _ => true) Hn) (upd fr d x) (a.put (some d) v) w where
  eB := h.eB
  eR := h.eR
  eM := h.eM
  eZ := h.eZ
  size := by rw [put_tmps]; simp [h.size]
  defers := h.defers
  slot := fun s => by
    rw [isBox_upd fr d x hb hx]
    by_cases hs : s = d
    · subst hs
      rw [upd_same, put_getD_same v (by rw [h.size]; exact hd)]
      exact hv
    · rw [upd_ne fr d x hs, put_getD_ne a v hs]
      exact (Chg.land h d 0 _ Hn (isBox fr)).kSlot (fun i c e => hs e.1) (fun hc => by simp [isBox, hc]) (fun s' hs' e => by subst e; exact hm s hs hs') (h.slot s)
  keep := fun j hj => by
    have : j ≠ d := fun e => hk (e ▸ hj)
    rw [put_tmps, Array.getElem?_setIfInBounds_ne (Ne.symm this)]
    exact h.keep j hj
  os := h.os
  tape := h.tape
  output := h.output
  heap := h.heap
  old := h.old
  own := land_own_field h
  stab := h.stab
  boxS := land_box h
  zs := h.zs
  sz := h.sz
  hh := fun s c u hu => by
    simp only [Gh.land] at hu
    split at hu
    · exact hH c u hu
    · exact h.hh s c u hu
theorem land_comp (h : Ok st g fr a w) {d : Nat} {bx : Nat → Bool} : ∀ {p : Comp} {v : Value}, ARel w g bx 0 p v → CRel w (g.land d 0 (fun _ => true) (fun _ => none)) bx d 0 p v
  | (true, cs), v, hr => by
    obtain ⟨vs, h1, h2, h3⟩ := hr
    refine ⟨vs, h1, h2, fun k c hk => ?_⟩
    obtain ⟨u, e1, e2⟩ := h3 k c hk
    refine ⟨u, e1, ?_⟩
    have := land_rel h (d := d) (lo := 0) (k := k) (D := fun _ => true) (Hn := fun _ => none) rfl rfl (fun _ _ => rfl) (by simpa using e2)
    simpa [Nat.add_comm] using this
  | (false, cs), v, hr => by
    obtain ⟨c, h1, h2⟩ := hr
    refine ⟨c, h1, ?_⟩
    rcases h2 with h2 | h2 | h2
    · exact .inl h2
    · exact .inr (.inl h2)
    · exact .inr (.inr (by
        have := land_rel h (d := d) (lo := 0) (k := 0) (D := fun _ => true) (Hn := fun _ => none) rfl rfl (fun _ _ => rfl) h2
        simpa using this))
theorem fin_land (hX : Fits X st) (h : Ok st g fr a w) {p : Comp} {v : Value} {dst : Option Nat} (hv : ARel w g (isBox fr) 0 p v) (hf : fin X fr dst (.comp p.1 p.2) K = some r) : Good st K r (a.put dst v) w := by
  cases dst with
  | none => exact ⟨g, fr, h, hf⟩
  | some d =>
    simp only [fin] at hf
    cases hs : setD X fr d (.comp p.1 p.2) with
    | none => rw [hs] at hf; cases hf
    | some fr1 =>
      rw [hs] at hf
      obtain ⟨h1, h2, h3, rfl⟩ := setD_some hX hs
      exact ⟨_, _, h.landSet (x := .comp p.1 p.2) h1 h2 h3 rfl (fun c u hu => by cases hu) (fun s _ _ c => rfl) (land_comp (d := d) h hv), hf⟩
end
end Go.Rv
namespace Go.Rv
section
variable {P : Program} {st : St} {g : Gh} {fr : Fr} {a : Act} {w : World} {X : Env} {o : Oper} {R : Type} {K : Fr → Option R} {r : R} {Q : Exit → Act → World → Prop}
theorem good_of_fin_free (hX : Fits X st) (h : Ok st g fr a w) {p : Comp} {v : Value} {dst : Option Nat} (hv : FRel w g (isBox fr) p v) (hf : fin X fr dst (.comp p.1 p.2) K = some r) : Good st K r (a.put dst v) w := by
  obtain ⟨g', fr', h1, h2⟩ := fin_free hX h hv hf; exact ⟨g', fr', h1, h2⟩
theorem assign_ok (h : Ok st g fr a w) (hX : Fits X st) {x : Operand} (ho : o.op = .assign x) {gg : Bool} {ws : List CV} {fr1 : Fr} (ht : takeOpd fr x = ((gg, ws), fr1)) {d : Nat} (hd : o.dst = some d)
    (hf : (bif X.dr || ws.all isScalar then fin X fr1 (some d) (.comp gg ws) K else fin X (dem d fr1) (some d) (.comp gg (ws.map fun c => dem1 d (toOwn c))) K) = some r) : o.wp P a w (Good st K r) Q := by
  obtain ⟨g1, t1, hv⟩ := takeOpd_ok h ht 0
  refine wp_value (v := a.eval x) (w' := w) (by simp only [execOp, ho, Sem.run_pure]) ?_
  rw [hd]
  rw [← t1.bx] at hv
  cases hs : (X.dr || ws.all isScalar)
  · rw [hs] at hf
    simp only [cond_false, fin] at hf
    cases hsd : setD X (dem d fr1) d (.comp gg (ws.map fun c => dem1 d (toOwn c))) with
    | none => rw [hsd] at hf; cases hf
    | some fr2 =>
      rw [hsd] at hf
      obtain ⟨h1, h2, h3, rfl⟩ := setD_some hX hsd
      have h0 := t1.ok.dem d
      have hbx : isBox (dem d fr1) = isBox fr1 := isBox_dem d fr1
      have hmm : ∀ s, s ≠ d → mentionsS (dem d fr1 s) d = true → ∀ (Hn : Nat → Option Value) c, Hn c = none := fun s _ hm => by
        have : mentionsS (demS d (fr1 s)) d = true := hm
        rw [demS_mentions] at this; cases this
      -- the header of what is owned
      cases gg with
      | true =>
        obtain ⟨vs, e1, e2, e3⟩ := hv
        let Hn : Nat → Option Value := fun c => match c with
          | 0 => none
          | k + 1 => match ws[k]? with
            | some (.tmpo _ _) => vs[k]?
            | _ => none
        refine ⟨_, _, h0.landSet (Hn := Hn) h1 h2 h3 rfl (fun c u hu => ?_) (fun s hs hm c => hmm s hs hm Hn c) ?_, hf⟩
        · cases c with
          | zero => cases hu
          | succ k =>
            simp only [Hn] at hu
            split at hu
            · rename_i t xs hk
              obtain ⟨u', f1, f2⟩ := e3 k _ hk
              rw [f1] at hu; cases hu
              exact f2.1.head
            · cases hu
        · refine ⟨vs, e1, by simpa using e2, fun k c hk => ?_⟩
          rw [List.getElem?_map] at hk
          cases hc : ws[k]? with
          | none => rw [hc] at hk; simp at hk
          | some c' =>
            rw [hc] at hk
            simp at hk
            subst hk
            obtain ⟨u, f1, f2⟩ := e3 k c' hc
            refine ⟨u, f1, ?_⟩
            rw [hbx]
            rw [show (0 : Nat) + k = k by omega] at f2
            by_cases hto : ∃ t xs, c' = .tmpo t xs
            · have hn : Hn (0 + k + 1) = some u := by
                obtain ⟨t, xs, rfl⟩ := hto
                simp only [Hn, Nat.zero_add, hc, f1]
              have := land_toOwn h0 (d := d) (lo := 0) (k := k) (D := fun _ => true) (Hn := Hn) rfl hn hto f2
              rw [show 0 + k + 1 = k + 1 by omega] at this
              exact dem1_rel this
            · have hto' : toOwn c' = c' := by cases c' <;> first | rfl | exact absurd ⟨_, _, rfl⟩ hto
              rw [hto']
              have hn : Hn (0 + k + 1) = none := by
                simp only [Hn, Nat.zero_add, hc]
                cases c' <;> first | rfl | exact absurd ⟨_, _, rfl⟩ hto
              have := land_rel h0 (d := d) (lo := 0) (k := k) (D := fun _ => true) (Hn := Hn) rfl hn (fun hm => by rw [dem1_mentions] at hm; cases hm) (dem1_rel (s := d) f2)
              rw [show 0 + k + 1 = k + 1 by omega] at this
              exact this
      | false =>
        obtain ⟨c', e1, e2⟩ := hv
        subst e1
        by_cases hto : ∃ t xs, c' = .tmpo t xs
        · obtain ⟨t, xs, rfl⟩ := hto
          have e3 : rel w g1 (isBox fr1) (.air 0) (.tmpo t xs) (a.eval x) := by
            rcases e2 with e2 | ⟨e2, _⟩ | e2
            · cases e2
            · cases e2
            · exact e2
          let Hn : Nat → Option Value := fun c => if c = 1 then some (a.eval x) else none
          refine ⟨_, _, h0.landSet (Hn := Hn) h1 h2 h3 rfl (fun c u hu => ?_) (fun s hs hm c => hmm s hs hm Hn c) ?_, hf⟩
          · simp only [Hn] at hu
            split at hu
            · cases hu; exact e3.1.head
            · cases hu
          · refine ⟨_, rfl, .inr (.inr ?_)⟩
            rw [hbx]
            have := land_toOwn h0 (d := d) (lo := 0) (k := 0) (D := fun _ => true) (Hn := Hn) rfl (by simp [Hn]) ⟨t, xs, rfl⟩ e3
            exact dem1_rel this
        · have hto' : toOwn c' = c' := by cases c' <;> first | rfl | exact absurd ⟨_, _, rfl⟩ hto
          refine ⟨_, _, h0.landSet (Hn := fun _ => none) h1 h2 h3 rfl (fun c u hu => by cases hu) (fun s hs hm c => rfl) ?_, hf⟩
          refine ⟨_, rfl, ?_⟩
          show dem1 d (toOwn c') = .dead ∨ dem1 d (toOwn c') = .undef ∧ a.eval x = undef ∨ rel w _ (isBox (dem d fr1)) _ (dem1 d (toOwn c')) (a.eval x)
          rw [hto', hbx]
          rcases e2 with rfl | ⟨rfl, e2⟩ | e2
          · exact .inl rfl
          · exact .inr (.inl ⟨rfl, e2⟩)
          · exact .inr (.inr (land_rel h0 (d := d) (lo := 0) (k := 0) (D := fun _ => true) (Hn := fun _ => none) rfl rfl (fun _ _ => rfl) (dem1_rel (s := d) e2)))
  · rw [hs] at hf
    exact fin_land (p := (gg, ws)) hX t1.ok hv hf
def Gh.mv (g : Gh) (d : Nat) (f : Place → Option Place) : Gh := { g with
  O := fun b => (g.O b).bind f
  H := fun s c => if s = d then none else g.H s c }
theorem Chg.mv (h : Ok st g fr a w) (d : Nat) (f : Place → Option Place) (bx : Nat → Bool) : Chg g (g.mv d f) w w bx bx (fun p => f p = some p ∧ notAt d p) (fun _ => True) where
  cB := rfl
  cR := rfl
  cM := rfl
  cZ := rfl
  zS := fun b o hz => (h.zs b o (by rw [← h.eZ]; exact hz)).1
  cbx := fun s hs => hs
  cX := fun s _ => rfl
  cS := fun b o hs => ⟨hs, rfl⟩
  cL := fun b _ => rfl
  cO := fun b p hp hO => ⟨by simp [Gh.mv, hO, hp.1], rfl, fun _ => Iff.rfl⟩
  cH := fun s c u _ hu => by
    simp only [Gh.mv] at hu
    split at hu
    · cases hu
    · exact hu
  cHp := fun s i c hp => by
    have hp' : s ≠ d := hp.2
    simp [Gh.mv, hp']
theorem reloc {g g' : Gh} {w w' : World} {bx bx' : Nat → Bool} {P : Place → Prop} {Hs : Nat → Prop} (hc : Chg g g' w w' bx bx' P Hs) {p0 : Place} (hp0 : P p0) {p q : Place}
    (hO : ∀ b, g.O b = some p → g'.O b = some q ∧ w'.heap[b]? = w.heap[b]? ∧ ∀ o, g'.S b o ↔ g.S b o) (hH : match q with | .at s _ c => g'.H s c = none | .air _ => True)
    {c : CV} {v : Value} (ho : isOwn c = false) (hm : ∀ s, mentions c s = true → Hs s) (hr : rel w g bx p c v) : rel w' g' bx' q c v := by
  by_cases hf : free c = true
  · exact rel_place hf (hc.kRel hp0 hm (rel_place hf hr))
  · cases c <;> simp [free] at hf
    case own t xs => simp [isOwn] at ho
    case tmpo t xs =>
      refine ⟨?_, ?_⟩
      · rcases hr.1 with e | ⟨b, cap, cur, e, h1, h2, h3, h4, h5, h6, h7, h8⟩
        · exact .inl e
        · obtain ⟨o1, o2, o3⟩ := hO b h2
          refine .inr ⟨b, cap, cur, e, h1, o1, by rw [o2]; exact h3, h4, h5, h6, fun i x hi => ?_, fun o => by rw [o3, h8.1], h8.2⟩
          obtain ⟨ecs, e1, e2⟩ := h7 i x hi
          exact ⟨ecs, rep_mono (fun b' o hs => by
            obtain ⟨p1, p2, p3⟩ := hO b' hs.2.1
            exact ⟨⟨(p3 o).2 hs.1, p1, by rw [p2]; exact hs.2.2⟩, by unfold World.cell?; simp only [p2]⟩) e1, e2⟩
      · cases q with
        | air k => trivial
        | «at» s i c => exact hH
theorem reloc_comp {g g' : Gh} {w w' : World} {bx bx' : Nat → Bool} {P : Place → Prop} {Hs : Nat → Prop} (hc : Chg g g' w w' bx bx' P Hs) {p0 : Place} (hp0 : P p0) {s i s' i' : Nat}
    (hO : ∀ b c, 0 < c → g.O b = some (.at s i c) → g'.O b = some (.at s' i' c) ∧ w'.heap[b]? = w.heap[b]? ∧ ∀ o, g'.S b o ↔ g.S b o) (hH : ∀ c, g'.H s' c = none) :
    ∀ {p : Comp} {v : Value}, p.2.all (fun c => !isOwn c) = true → (∀ s, cellsM p.2 s = true → Hs s) → CRel w g bx s i p v → CRel w' g' bx' s' i' p v
  | (true, cs), v, ho, hm, hr => by
    obtain ⟨vs, h1, h2, h3⟩ := hr
    refine ⟨vs, h1, h2, fun j c hj => ?_⟩
    obtain ⟨u, e1, e2⟩ := h3 j c hj
    exact ⟨u, e1, reloc hc hp0 (fun b => hO b _ (by omega)) (hH _) (by simpa using List.all_eq_true.1 ho c (List.mem_of_getElem? hj)) (fun s hs => hm s (cellsM_of hj hs)) e2⟩
  | (false, cs), v, ho, hm, hr => by
    obtain ⟨c, h1, h2⟩ := hr
    subst h1
    refine ⟨c, rfl, ?_⟩
    rcases h2 with h2 | h2 | h2
    · exact .inl h2
    · exact .inr (.inl h2)
    · exact .inr (.inr (reloc hc hp0 (fun b => hO b _ (by omega)) (hH _) (by simpa using ho) (fun s hs => hm s (cellsM_of (j := 0) rfl hs)) h2))
theorem Ok.mv (h : Ok st g fr a w) {t d : Nat} (f : Place → Option Place) (hf : ∀ s i c, s ≠ t → s ≠ d → f (.at s i c) = some (.at s i c)) (hfb : ∀ s i c s', f (.at s i c) = some (.at s' 0 0) → s = s' ∧ i = 0 ∧ c = 0) (hfa : ∀ k s, f (.air k) ≠ some (.at s 0 0))
    (hd : d < st.n) (hb : notBox (fr d) = true) (hbt : notBox (fr t) = true) (hk : d ∉ st.keep) (htd : t ≠ d) {y x : SV} (hy : notBox y = true) (hx : notBox x = true) {v : Value}
    (hvt : SRel w (g.mv d f) (isBox fr) t y (a.tmps.getD t undef)) (hv : SRel w (g.mv d f) (isBox fr) d x v) : Ok st (g.mv d f) (upd (upd fr t y) d x) (a.put (some d) v) w where
  eB := h.eB
  eR := h.eR
  eM := h.eM
  eZ := h.eZ
  size := by rw [put_tmps]; simp [h.size]
  defers := h.defers
  slot := fun s => by
    have hb' : notBox (upd fr t y d) = true := by rw [upd_ne fr t y (Ne.symm htd)]; exact hb
    rw [isBox_upd _ d x hb' hx, isBox_upd fr t y hbt hy]
    by_cases hs : s = d
    · subst hs
      rw [upd_same, put_getD_same v (by rw [h.size]; exact hd)]
      exact hv
    · rw [upd_ne _ d x hs, put_getD_ne a v hs]
      by_cases hst : s = t
      · subst hst; rw [upd_same]; exact hvt
      · rw [upd_ne fr t y hst]
        exact (Chg.mv h d f (isBox fr)).kSlot (fun i c => ⟨hf s i c hst hs, hs⟩) (fun hc => by simp [isBox, hc]) (fun _ _ => trivial) (h.slot s)
  keep := fun j hj => by
    have : j ≠ d := fun e => hk (e ▸ hj)
    rw [put_tmps, Array.getElem?_setIfInBounds_ne (Ne.symm this)]
    exact h.keep j hj
  os := h.os
  tape := h.tape
  output := h.output
  heap := h.heap
  old := h.old
  own := fun b p hO => by
    simp only [Gh.mv] at hO
    cases hb : g.O b with
    | none => rw [hb] at hO; cases hO
    | some q => exact h.own b q hb
  stab := h.stab
  boxS := fun b s hO => by
    simp only [Gh.mv] at hO
    cases hb : g.O b with
    | none => rw [hb] at hO; cases hO
    | some q =>
      rw [hb] at hO
      simp at hO
      cases q with
      | air k => exact absurd hO (hfa k s)
      | «at» s' i c =>
        obtain ⟨rfl, rfl, rfl⟩ := hfb s' i c s hO
        exact h.boxS b _ hb
  zs := h.zs
  sz := h.sz
  hh := fun s c u hu => by
    simp only [Gh.mv] at hu
    split at hu
    · cases hu
    · exact h.hh s c u hu
theorem moveTup_ok (h : Ok st g fr a w) (hX : Fits X st) {t d : Nat} {vs : List (Bool × List CV)} (ho : o.op = .move (.tmp t)) (ht : fr t = .tup vs) (hd : o.dst = some d)
    (hf : (bif d.beq t || !vs.all (fun p => p.2.all fun c => !isOwn c) then none else fin X (upd fr t .dead) (some d) (.tup vs) K) = some r) : o.wp P a w (Good st K r) Q := by
  cases hc : (d.beq t || !vs.all (fun p => p.2.all fun c => !isOwn c))
  case true => rw [hc] at hf; cases hf
  rw [hc] at hf
  simp only [cond_false, fin] at hf
  simp only [Bool.or_eq_false_iff, Bool.not_eq_false'] at hc
  obtain ⟨hdt, hall⟩ := hc
  have hne : t ≠ d := fun e => by subst e; simp at hdt
  refine wp_value (v := a.eval (.tmp t)) (w' := w) (by simp only [execOp, ho, Sem.run_pure]) ?_
  rw [hd]
  cases hsd : setD X (upd fr t .dead) d (.tup vs) with
  | none => rw [hsd] at hf; cases hf
  | some fr2 =>
    rw [hsd] at hf
    obtain ⟨h1, h2, h3, rfl⟩ := setD_some hX hsd
    rw [upd_ne fr t _ (Ne.symm hne)] at h2
    let f : Place → Option Place := fun p => match p with
      | .at s i c => if s = t then (if c = 0 then none else some (.at d i c)) else if s = d then none else some p
      | .air k => some (.air k)
    have hs := h.slot t
    rw [ht] at hs
    obtain ⟨us, e1, e2, e3⟩ := hs
    refine ⟨_, _, h.mv (t := t) (d := d) f (fun s i c q1 q2 => by simp [f, q1, q2]) (fun s i c s' e => ?_) (fun k s e => by simp [f] at e) h1 h2 (by rw [ht]; rfl) h3 hne (y := .dead) (x := .tup vs) rfl rfl ⟨.dead, rfl, .inl rfl⟩ ?_, hf⟩
    · simp only [f] at e
      split at e
      · split at e
        · cases e
        · rename_i hc; simp at e; exact absurd e.2.2 hc
      · split at e
        · cases e
        · simp at e; exact ⟨e.1, e.2.1, e.2.2⟩
    · refine ⟨us, e1, e2, fun i p hi => ?_⟩
      obtain ⟨u, q1, q2⟩ := e3 i p hi
      refine ⟨u, q1, reloc_comp (Chg.mv h d f (isBox fr)) (p0 := .air 0) ⟨rfl, trivial⟩ (fun b c hc hO => ⟨?_, rfl, fun _ => Iff.rfl⟩) (fun c => by simp [Gh.mv]) (List.all_eq_true.1 hall p (List.mem_of_getElem? hi)) (fun _ _ => trivial) q2⟩
      have : c ≠ 0 := by omega
      simp [Gh.mv, hO, f, this]
theorem plain_free {c : CV} (h : isPlain c = true) : free c = true := by cases c <;> first | rfl | simp [isPlain] at h
theorem extract_ok (h : Ok st g fr a w) (hX : Fits X st) {t d i : Nat} {vs : List (Bool × List CV)} (ho : o.op = .extract (.tmp t) i) (ht : fr t = .tup vs) {gg : Bool} {cs : List CV} (hi : vs[i]? = some (gg, cs)) (hd : o.dst = some d)
    (hf : (bif d.beq t || !cs.all (fun c => !isOwn c) then none else bif cs.all isPlain then fin X fr (some d) (.comp gg cs) K else fin X (upd fr t (.tup (vs.set i (false, [.dead])))) (some d) (.comp gg cs) K) = some r) : o.wp P a w (Good st K r) Q := by
  cases hc : (d.beq t || !cs.all (fun c => !isOwn c))
  case true => rw [hc] at hf; cases hf
  rw [hc] at hf
  simp only [cond_false] at hf
  cases hpl : cs.all isPlain
  case true =>
    rw [hpl] at hf
    simp only [cond_true] at hf
    have hs := h.slot t
    rw [ht] at hs
    obtain ⟨us, e1, e2, e3⟩ := hs
    obtain ⟨u, q1, q2⟩ := e3 i _ hi
    have hev : a.eval (.tmp t) = .tuple us.toArray := e1
    have hfree : (cs.all free) = true := List.all_eq_true.2 fun c hc => plain_free (List.all_eq_true.1 hpl c hc)
    obtain ⟨g', fr', h1, h2⟩ := fin_free (p := (gg, cs)) (v := u) hX h ⟨hfree, comp_place hfree q2⟩ hf
    rw [← hd] at h1
    exact wp_value (v := u) (w' := w) (by simp [execOp, ho, hev, Instr.extract, q1]) ⟨g', fr', h1, h2⟩
  rw [hpl] at hf
  simp only [cond_false, fin] at hf
  simp only [Bool.or_eq_false_iff, Bool.not_eq_false'] at hc
  obtain ⟨hdt, hall⟩ := hc
  have hne : t ≠ d := fun e => by subst e; simp at hdt
  have hs := h.slot t
  rw [ht] at hs
  obtain ⟨us, e1, e2, e3⟩ := hs
  obtain ⟨u, q1, q2⟩ := e3 i _ hi
  have hev : a.eval (.tmp t) = .tuple us.toArray := e1
  refine wp_value (v := u) (w' := w) (by simp [execOp, ho, hev, Instr.extract, q1]) ?_
  rw [hd]
  cases hsd : setD X (upd fr t (.tup (vs.set i (false, [.dead])))) d (.comp gg cs) with
  | none => rw [hsd] at hf; cases hf
  | some fr2 =>
    rw [hsd] at hf
    obtain ⟨h1, h2, h3, rfl⟩ := setD_some hX hsd
    rw [upd_ne fr t _ (Ne.symm hne)] at h2
    let f : Place → Option Place := fun p => match p with
      | .at s i' c => if s = t then (if i' = i then (if c = 0 then none else some (.at d 0 c)) else some p) else if s = d then none else some p
      | .air k => some (.air k)
    refine ⟨_, _, h.mv (t := t) (d := d) f (fun s i c q1 q2 => by simp [f, q1, q2]) (fun s i' c s' e => ?_) (fun k s e => by simp [f] at e) h1 h2 (by rw [ht]; rfl) h3 hne (y := .tup (vs.set i (false, [.dead]))) (x := .comp gg cs) rfl rfl ?_ ?_, hf⟩
    · simp only [f] at e
      split at e
      · split at e
        · split at e
          · cases e
          · rename_i hc; simp at e; exact absurd e.2 hc
        · simp at e; exact ⟨e.1, e.2.1, e.2.2⟩
      · split at e
        · cases e
        · simp at e; exact ⟨e.1, e.2.1, e.2.2⟩
    · refine ⟨us, e1, by simpa using e2, fun k p hk => ?_⟩
      by_cases hki : k = i
      · subst hki
        rw [List.getElem?_set] at hk
        simp at hk
        obtain ⟨_, rfl⟩ := hk
        exact ⟨u, q1, .dead, rfl, .inl rfl⟩
      · rw [List.getElem?_set_ne (by omega)] at hk
        obtain ⟨u', p1, p2⟩ := e3 k p hk
        exact ⟨u', p1, (Chg.mv h d f (isBox fr)).kComp (fun c => ⟨by simp [f, hki], hne⟩) (fun _ _ => trivial) p2⟩
    · have := reloc_comp (p := (gg, cs)) (s' := d) (i' := 0) (Chg.mv h d f (isBox fr)) (p0 := .air 0) ⟨rfl, trivial⟩ (fun b c hc hO => ⟨(by
        have : c ≠ 0 := by omega
        simp [Gh.mv, hO, f, this]), rfl, fun _ => Iff.rfl⟩) (fun c => by simp [Gh.mv]) hall (fun _ _ => trivial) q2
      exact this
end
end Go.Rv
namespace Go.Rv
section
variable {P : Program} {st : St} {g : Gh} {fr : Fr} {a : Act} {w : World} {X : Env} {o : Oper} {R : Type} {K : Fr → Option R} {r : R} {Q : Exit → Act → World → Prop}
def Gh.newRow (g : Gh) (b n : Nat) : Gh := { g with
  O := fun b' => if b' = b then some (.air 0) else g.O b'
  S := fun b' o => g.S b' o ∨ (b' = b ∧ o < n) }
theorem heap_push_old {w w' : World} {ob : Obj} (hh : w'.heap = w.heap.push ob) {b : Nat} (hb : b < w.heap.size) : w'.heap[b]? = w.heap[b]? := by
  rw [hh, Array.getElem?_push, if_neg (by omega)]
theorem heap_push_new {w w' : World} {ob : Obj} (hh : w'.heap = w.heap.push ob) : w'.heap[w.heap.size]? = some ob := by
  rw [hh, Array.getElem?_push, if_pos rfl]
theorem Chg.newRow (h : Ok st g fr a w) {w' : World} {ob : Obj} (hh : w'.heap = w.heap.push ob) (n : Nat) (bx : Nat → Bool) : Chg g (g.newRow w.heap.size n) w w' bx bx (fun _ => True) (fun _ => True) where
  cB := rfl
  cR := rfl
  cM := rfl
  cZ := rfl
  zS := fun b o hz => (h.zs b o (by rw [← h.eZ]; exact hz)).1
  cbx := fun s hs => hs
  cX := fun s _ => rfl
  cS := fun b o hs => ⟨.inl hs, World.cell?_of_block (w := w) (heap_push_old hh (h.stab b o hs))⟩
  cL := fun b hl => heap_push_old hh (by have := h.heap; have := hl.1; rw [h.eB] at this; omega)
  cO := fun b p _ hO => by
    have hb := (h.own b p hO).1
    refine ⟨by simp only [Gh.newRow]; rw [if_neg (by omega)]; exact hO, heap_push_old hh hb, fun oo => ?_⟩
    simp only [Gh.newRow]
    constructor
    · rintro (e | ⟨e, _⟩)
      · exact e
      · omega
    · exact .inl
  cH := fun s c u _ hu => hu
  cHp := fun s i c hp => rfl
theorem newRow_okD (h : Ok st g fr a w) {w' : World} {arr : Array Value} {e : TypeId} (hh : w'.heap = w.heap.push (.cells arr e (0, 0))) (hos : w'.os = w.os) (htp : w'.tape = w.tape) (hout : w'.output = w.output)
    {t : Ty} {xs : List (Den t)} {cap : Nat} (h1 : xs.length ≤ cap) (h2 : cap ≤ maxLen) (h3 : arr.size = cap * t.cells)
    (hx : ∀ i x, xs[i]? = some x → ∃ ecs, rep w (g.SO w (.air 0)) t x ecs ∧ ∀ (j : Nat) (u : Value), ecs[j]? = some u → arr[i * t.cells + j]? = some u)  (hap : Apart arr (xs.length * t.cells) w.heap.size) :
    Ok st (g.newRow w.heap.size (xs.length * t.cells)) fr a w' ∧ rel w' (g.newRow w.heap.size (xs.length * t.cells)) (isBox fr) (.air 0) (.tmpo t xs) (.slice (some ⟨w.heap.size, 0, none⟩) xs.length cap) := by
  have hc := Chg.newRow h hh (xs.length * t.cells) (isBox fr)
  have hnew := heap_push_new hh
  refine ⟨?_, .inr ⟨w.heap.size, cap, arr, e, rfl, by simp [Gh.newRow], hnew, h1, h2, h3, fun i x hi => ?_, fun oo => ?_, hap⟩, trivial⟩
  · exact {
      eB := h.eB, eR := h.eR, eM := h.eM, eZ := h.eZ, size := h.size, defers := h.defers, keep := h.keep
      slot := fun s => hc.kSlot (fun _ _ => trivial) (fun e => by simp [isBox, e]) (fun _ _ => trivial) (h.slot s)
      os := hos.trans h.os, tape := htp.trans h.tape, output := hout.trans h.output
      heap := by rw [hh]; simp; have := h.heap; omega
      old := fun b hb hm => (heap_push_old hh (by have := h.heap; omega)).trans (h.old b hb hm)
      own := fun b p hO => by
        simp only [Gh.newRow] at hO
        split at hO
        · rename_i e; subst e
          exact ⟨by rw [hh]; simp, fun hlt => by have := h.heap; omega⟩
        · have := h.own b p hO
          exact ⟨by rw [hh]; simp; omega, this.2⟩
      stab := fun b oo hs => by
        rcases hs with hs | ⟨e, _⟩
        · have := h.stab b oo hs; rw [hh]; simp; omega
        · rw [hh]; simp; omega
      boxS := fun b s hO oo hs => by
        simp only [Gh.newRow] at hO
        split at hO
        · cases hO
        · rename_i hne
          rcases hs with hs | ⟨e, _⟩
          · exact h.boxS b s hO oo hs
          · exact hne e
      zs := fun b oo hz => ⟨.inl (h.zs b oo hz).1, (h.zs b oo hz).2⟩
      sz := fun b oo hb hm hs => by
        rcases hs with hs | ⟨e, _⟩
        · exact h.sz b oo hb hm hs
        · have := h.heap; omega
      hh := h.hh }
  · obtain ⟨ecs, q1, q2⟩ := hx i x hi
    refine ⟨ecs, rep_mono (fun b o hs => ⟨⟨.inl hs.1, ?_, ?_⟩, World.cell?_of_block (w := w) (heap_push_old hh (h.stab b o hs.1))⟩) q1, q2⟩
    · have := h.stab b o hs.1
      simp only [Gh.newRow]; rw [if_neg (by omega)]; exact hs.2.1
    · rw [heap_push_old hh (h.stab b o hs.1)]; exact hs.2.2
  · simp only [Gh.newRow]
    constructor
    · rintro (e | ⟨_, e⟩)
      · have := h.stab _ _ e; omega
      · exact e
    · intro e; exact .inr ⟨by trivial, e⟩
theorem newRow_ok (h : Ok st g fr a w) {w' : World} {arr : Array Value} {e : TypeId} (hh : w'.heap = w.heap.push (.cells arr e (0, 0))) (hos : w'.os = w.os) (htp : w'.tape = w.tape) (hout : w'.output = w.output)
    {t : Ty} (hfl : t.flat = true) {xs : List (Den t)} {cap : Nat} (h1 : xs.length ≤ cap) (h2 : cap ≤ maxLen) (h3 : arr.size = cap * t.cells)
    (hx : ∀ i x, xs[i]? = some x → ∃ ecs, rep w g.S t x ecs ∧ ∀ (j : Nat) (u : Value), ecs[j]? = some u → arr[i * t.cells + j]? = some u) :
    Ok st (g.newRow w.heap.size (xs.length * t.cells)) fr a w' ∧ rel w' (g.newRow w.heap.size (xs.length * t.cells)) (isBox fr) (.air 0) (.tmpo t xs) (.slice (some ⟨w.heap.size, 0, none⟩) xs.length cap) :=
  newRow_okD h hh hos htp hout h1 h2 h3 (fun i x hi => by
    obtain ⟨ecs, q1, q2⟩ := hx i x hi
    exact ⟨ecs, rep_flat hfl q1, q2⟩) (apart_flat hfl hx _)
theorem fin_row (hX : Fits X st) (h : Ok st g fr a w) {c : CV} {v : Value} {dst : Option Nat} (hv : rel w g (isBox fr) (.air 0) c v) (hf : fin X fr dst (.comp false [c]) K = some r) : Good st K r (a.put dst v) w :=
  fin_land (p := (false, [c])) hX h ⟨c, rfl, .inr (.inr hv)⟩ hf
theorem listAs_rel (h : Ok st g fr a w) {bx : Nat → Bool} {p : Place} {t : Ty} {c : CV} {xs : List (Den t)} {v : Value} (hl : listAs t c = some xs) (hr : rel w g bx p c v) : RS w g.S t xs v := by
  have mono : ∀ {xs : List (Den t)}, RS w g.Z t xs v → RS w g.S t xs v := fun hz => rep_mono (fun b o hz => ⟨(h.zs b o (by rw [← h.eZ]; exact hz)).1, rfl⟩) hz
  cases c <;> simp only [listAs] at hl <;> first | (cases hl; done) | skip
  case nils =>
    cases hl
    have hv : v = .slice none 0 0 := hr
    subst hv
    exact ⟨none, 0, rfl, Nat.le_refl _, fun i x hx => by simp at hx⟩
  all_goals
    split at hl
    case isFalse => cases hl
    rename_i hu
    subst hu
    cases hl
  case lo => exact mono hr
  case hi => exact hr
  case own => exact hr.1.reads
  case tmpo => exact hr.1.reads
  case ref => exact hr.1
theorem pack_rel (h : Ok st g fr a w) {bx : Nat → Bool} : ∀ (t : Ty) (cs : List CV) (vs : List Value) (y : Den t) (rest : List CV), vs.length = cs.length → (∀ (j : Nat) (c : CV), cs[j]? = some c → ∃ u : Value, vs[j]? = some u ∧ ∃ p, rel w g bx p c u) →
    pack t cs = some (y, rest) → t.cells ≤ cs.length ∧ rest = cs.drop t.cells ∧ rep w g.S t y (vs.take t.cells)
  | .pair s t, cs, vs, y, rest, hl, hr, hp => by
    simp only [pack] at hp
    cases h1 : pack s cs with
    | none => rw [h1] at hp; cases hp
    | some q =>
      obtain ⟨x, r1⟩ := q
      rw [h1] at hp
      simp only at hp
      cases h2 : pack t r1 with
      | none => rw [h2] at hp; cases hp
      | some q =>
        obtain ⟨z, r2⟩ := q
        rw [h2] at hp
        simp only at hp
        cases hp
        obtain ⟨l1, e1, p1⟩ := pack_rel h s cs vs x r1 hl hr h1
        subst e1
        obtain ⟨l2, e2, p2⟩ := pack_rel h t (cs.drop s.cells) (vs.drop s.cells) z _ (by simp [hl]) (fun j c hj => by
          rw [List.getElem?_drop] at hj
          obtain ⟨u, q1, q2⟩ := hr _ c hj
          exact ⟨u, by rw [List.getElem?_drop]; exact q1, q2⟩) h2
        rw [List.length_drop] at l2
        refine ⟨by simp only [Ty.cells]; omega, by rw [e2, List.drop_drop]; rfl, vs.take s.cells, (vs.drop s.cells).take t.cells, ?_, p1, p2⟩
        simp only [Ty.cells]
        rw [List.take_add]
  | .int k, [], vs, y, rest, hl, hr, hp => by simp [pack] at hp
  | .bool, [], vs, y, rest, hl, hr, hp => by simp [pack] at hp
  | .str, [], vs, y, rest, hl, hr, hp => by simp [pack] at hp
  | .sl t, [], vs, y, rest, hl, hr, hp => by simp [pack] at hp
  | .int k, c :: cs, vs, y, rest, hl, hr, hp => by
    cases c <;> simp only [pack] at hp <;> first | (cases hp; done) | skip
    rename_i j n
    split at hp
    · rename_i hj; subst hj
      cases hp
      obtain ⟨u, q1, p, q2⟩ := hr 0 _ rfl
      cases vs with
      | nil => simp at q1
      | cons v vs =>
        simp at q1; subst q1
        obtain rfl : v = .int j _ := q2
        exact ⟨by simp [Ty.cells], rfl, rfl⟩
    · cases hp
  | .bool, c :: cs, vs, y, rest, hl, hr, hp => by
    cases c <;> simp only [pack] at hp <;> first | (cases hp; done) | skip
    cases hp
    obtain ⟨u, q1, p, q2⟩ := hr 0 _ rfl
    cases vs with
    | nil => simp at q1
    | cons v vs =>
      simp at q1; subst q1
      obtain rfl : v = .bool _ := q2
      exact ⟨by simp [Ty.cells], rfl, rfl⟩
  | .str, c :: cs, vs, y, rest, hl, hr, hp => by
    cases c <;> simp only [pack] at hp <;> first | (cases hp; done) | skip
    cases hp
    obtain ⟨u, q1, p, q2⟩ := hr 0 _ rfl
    cases vs with
    | nil => simp at q1
    | cons v vs =>
      simp at q1; subst q1
      obtain rfl : v = .string _ := q2
      exact ⟨by simp [Ty.cells], rfl, rfl⟩
  | .sl t, c :: cs, vs, y, rest, hl, hr, hp => by
    simp only [pack] at hp
    cases h1 : listAs t c with
    | none => rw [h1] at hp; cases hp
    | some xs =>
      rw [h1] at hp
      simp only at hp
      cases hp
      obtain ⟨u, q1, p, q2⟩ := hr 0 _ rfl
      cases vs with
      | nil => simp at q1
      | cons v vs =>
        simp at q1; subst q1
        exact ⟨by simp [Ty.cells], rfl, listAs_rel h h1 q2⟩
theorem comp_cells {bx : Nat → Bool} {p : Comp} {v : Value} (h : FRel w g bx p v) (hs : p.1 = true ∨ p.2.all sure = true) : v.cells.toList.length = p.2.length ∧ ∀ (j : Nat) (c : CV), p.2[j]? = some c → ∃ u : Value, v.cells.toList[j]? = some u ∧ ∀ q, rel w g bx q c u := by
  obtain ⟨b, cs⟩ := p
  obtain ⟨hf, h⟩ := h
  cases b with
  | true =>
    obtain ⟨vs, rfl, h1, h2⟩ := h
    refine ⟨by simpa [Value.cells] using h1, fun j c hj => ?_⟩
    obtain ⟨u, e1, e2⟩ := h2 j c hj
    exact ⟨u, by simpa [Value.cells] using e1, fun q => rel_place (List.all_eq_true.1 hf c (List.mem_of_getElem? hj)) e2⟩
  | false =>
    obtain ⟨c, e, h⟩ := h
    subst e
    have hsure : sure c = true := by simpa using hs
    rcases h with rfl | ⟨rfl, _⟩ | h
    · simp [sure] at hsure
    · simp [sure] at hsure
    · have h1 := rel_one h
      have hc : v.cells = #[v] := by cases v <;> first | rfl | simp [Value.oneCell'] at h1
      refine ⟨by simp [hc], fun j c' hj => ?_⟩
      cases j with
      | zero => simp at hj; subst hj; exact ⟨v, by simp [hc], fun q => rel_place (by simpa using hf) h⟩
      | succ j => simp at hj
def headSure : List CV → Bool
  | c :: _ => sure c
  | [] => false
theorem pack_sure {t : Ty} {cs : List CV} {y : Den t} {rest : List CV} (h : pack t cs = some (y, rest)) : headSure cs = true := by
  induction t generalizing cs rest with
  | pair a b iha ihb =>
    simp only [pack] at h
    cases h1 : pack a cs with
    | none => rw [h1] at h; cases h
    | some q => obtain ⟨x, r⟩ := q; exact iha h1
  | _ => cases cs with
    | nil => simp [pack] at h
    | cons c cs => cases c <;> first | rfl | (simp [pack, listAs] at h)
theorem rowParts_ok (h : Ok st g fr a w) {t : Ty} : ∀ (ps : List (Nat × Operand)) (k : Nat) (xs : List (Den t)), rowParts fr t k ps = some xs →
    ∃ vs : List Value, ps.map (fun p => (p.1, a.eval p.2)) = (vs.zipIdx k).map (fun x => (x.2, x.1)) ∧ vs.length = ps.length ∧ xs.length = ps.length ∧ (∀ v ∈ vs, v.cells.size = t.cells) ∧ ∀ (i : Nat) (x : Den t), xs[i]? = some x → ∃ v : Value, vs[i]? = some v ∧ rep w g.S t x v.cells.toList
  | [], k, xs, hp => by
    simp only [rowParts] at hp; cases hp
    exact ⟨[], rfl, rfl, rfl, fun v hv => by simp at hv, fun i x hx => by simp at hx⟩
  | (i, x) :: ps, k, xs, hp => by
    simp only [rowParts] at hp
    cases hk : i.beq k
    case false => rw [hk] at hp; cases hp
    have := Nat.eq_of_beq_eq_true hk
    subst this
    simp only [hk, cond_true] at hp
    split at hp
    · rename_i y hy
      cases h2 : rowParts fr t (i + 1) ps with
      | none => rw [h2] at hp; cases hp
      | some ys =>
        rw [h2] at hp
        cases hp
        obtain ⟨vs, e1, e2, e3, e4, e5⟩ := rowParts_ok h ps (i + 1) ys h2
        have hF := opd_ok h x
        have hsure := pack_sure hy
        have hs : (opd fr x).1 = true ∨ (opd fr x).2.all sure = true := by
          cases hb : (opd fr x).1
          · refine .inr ?_
            obtain ⟨c, hc, _⟩ := (by have := hF.2; rw [show opd fr x = ((opd fr x).1, (opd fr x).2) from rfl, hb] at this; exact this : CRel w g (isBox fr) 0 0 (false, (opd fr x).2) (a.eval x))
            rw [hc] at hsure ⊢
            simpa [headSure] using hsure
          · exact .inl rfl
        obtain ⟨c1, c2⟩ := comp_cells hF hs
        obtain ⟨l1, l2, l3⟩ := pack_rel h t _ _ y [] c1 (fun j c hj => by obtain ⟨u, q1, q2⟩ := c2 j c hj; exact ⟨u, q1, .air 0, q2 _⟩) hy
        have hlen : (opd fr x).2.length = t.cells := by
          have := congrArg List.length l2
          simp at this; omega
        have hcl : (a.eval x).cells.toList.length = t.cells := by rw [c1, hlen]
        rw [List.take_of_length_le (by omega)] at l3
        refine ⟨a.eval x :: vs, by simp [List.zipIdx_cons, e1], by simp [e2], by simp [e3], fun v hv => ?_, fun k z hz => ?_⟩
        · rcases List.mem_cons.1 hv with rfl | hv
          · simpa using hcl
          · exact e4 v hv
        · cases k with
          | zero => simp at hz; subst hz; exact ⟨_, rfl, l3⟩
          | succ k => simp at hz; obtain ⟨v, q1, q2⟩ := e5 k z hz; exact ⟨v, by simpa using q1, q2⟩
    · cases hp
theorem cells_pos (t : Ty) : 0 < t.cells := by induction t <;> simp_all [Ty.cells]; omega
theorem buildSlice_ok (hT : TabOk P X) (h : Ok st g fr a w) (hX : Fits X st) {t : TypeId} {n : Nat} {ps : Array (Nat × Operand)} (ho : o.op = .buildSlice t n ps) {u : Ty} (hu0 : X.slf t = some u) {xs : List (Den u)} (hp : rowParts fr u 0 ps.toList = some xs)
    (hn : (ps.toList.length.beq n && (n * u.cells).ble 16777216) = true) (hf : fin X fr o.dst (.comp false [.tmpo u xs]) K = some r) : o.wp P a w (Good st K r) Q := by
  obtain ⟨e, he, ⟨ii, z, e1, e2, e3, e4, e5⟩⟩ := ti_slice hT (Env.slf_some hu0).1
  simp only [Bool.and_eq_true] at hn
  have hn1 : ps.toList.length = n := Nat.eq_of_beq_eq_true hn.1
  have hn2 : n * u.cells ≤ 16777216 := Nat.le_of_ble_eq_true hn.2
  obtain ⟨vs, v1, v2, v3, v4, v5⟩ := rowParts_ok h ps.toList 0 xs hp
  have hparts : (ps.map fun (i, x) => (i, a.eval x)).toList = (vs.zipIdx 0).map (fun x => (x.2, x.1)) := by
    rw [Array.toList_map]; exact v1
  have hvn : vs.length = n := by rw [v2, hn1]
  have hxn : xs.length = n := by rw [v3, hn1]
  have key : ∃ arr, (execOp a.eval o).run P w = .ok (.value (.slice (some ⟨w.heap.size, 0, none⟩) n n)) (w.alloc (.cells arr e)) ∧ arr.size = n * u.cells ∧ ∀ i x, xs[i]? = some x → ∃ ecs, rep w g.S u x ecs ∧ ∀ (j : Nat) (c : Value), ecs[j]? = some c → arr[i * u.cells + j]? = some c := by
    by_cases h0 : n = 0
    · subst h0
      have hvs : vs = [] := List.eq_nil_of_length_eq_zero hvn
      have hxs : xs = [] := List.eq_nil_of_length_eq_zero hxn
      subst hvs hxs
      refine ⟨#[], ?_, by simp, fun i x hx => by simp at hx⟩
      have hps : ps.toList = [] := List.eq_nil_of_length_eq_zero hn1
      simp only [execOp, ho, Sem.run_bind]
      simp [Instr.buildSlice, run_underlying he, sizeOf, typeInfo, e1, hps, Instr.fill, newRow, Array.range_zero', Result.andThen]
    · have hpos := cells_pos u
      have hne : n * u.cells ≠ 0 := by have := Nat.mul_pos (Nat.pos_of_ne_zero h0) hpos; omega
      have hfill := Great.fill_whole hpos vs ((Array.range (n * ii.size)).map (z.cells[· % z.cells.size]!)) v4 (by simp [hvn, e2])
      refine ⟨(vs.flatMap fun v => v.cells.toList).toArray, ?_, ?_, fun i x hx => ?_⟩
      · simp only [execOp, ho, Sem.run_bind]
        rw [run_buildSlice w t e n _ _ ii z he e1 e4 (by rw [e2]; omega) (by rw [e2]; exact hne) (by rw [hparts, e2, ← hfill, e2])]
        rfl
      · simp only [List.size_toArray]
        rw [← hvn]
        clear hparts hfill v5 v2 hvn v1
        induction vs with
        | nil => simp
        | cons v vs ih =>
          rw [List.flatMap_cons, List.length_append, ih (fun v hv => v4 v (List.mem_cons_of_mem _ hv)), List.length_cons, Nat.add_mul]
          have := v4 v List.mem_cons_self
          simp only [Array.length_toList]
          omega
      · obtain ⟨v, q1, q2⟩ := v5 i x hx
        refine ⟨_, q2, fun j c hj => ?_⟩
        have hjl : j < u.cells := by
          have := (List.getElem?_eq_some_iff.1 hj).1
          rw [rep_length q2] at this; exact this
        simp only [List.getElem?_toArray]
        rw [Great.flat_get hpos vs v4]
        have d1 : (i * u.cells + j) / u.cells = i := by
          rw [Nat.mul_comm, Nat.mul_add_div hpos, Nat.div_eq_of_lt hjl]; omega
        have d2 : (i * u.cells + j) % u.cells = j := by
          rw [Nat.mul_comm, Nat.mul_add_mod, Nat.mod_eq_of_lt hjl]
        rw [d1, d2, q1]
        simpa using hj
  obtain ⟨arr, k1, k2, k3⟩ := key
  have hmax : n ≤ maxLen := by
    have := Nat.le_mul_of_pos_right n (cells_pos u)
    simp only [maxLen]; omega
  obtain ⟨ok, hr⟩ := newRow_ok (w' := w.alloc (.cells arr e)) (e := e) h rfl rfl rfl rfl (t := u) (Env.slf_some hu0).2 (xs := xs) (cap := n) (by omega) hmax k2 k3
  rw [hxn] at hr ok
  exact wp_value k1 (fin_row hX ok hr hf)
end
end Go.Rv
namespace Go.Rv
section
variable {P : Program} {st : St} {g : Gh} {fr : Fr} {a : Act} {w : World} {X : Env} {o : Oper} {R : Type} {K : Fr → Option R} {r : R} {Q : Exit → Act → World → Prop}
theorem lim_cells {t : Ty} {m : Nat} (h : m < lim t) : m * t.cells ≤ 1099511627776 := by
  have h1 := Nat.div_mul_le_self 1099511627776 t.cells
  have h2 : m * t.cells ≤ lim t * t.cells := Nat.mul_le_mul_right _ (by omega)
  unfold lim at h2
  omega
theorem lim_max {t : Ty} {m : Nat} (h : m < lim t) : m ≤ maxLen := by
  have := lim_cells h
  have h2 := Nat.le_mul_of_pos_right m (cells_pos t)
  simp only [maxLen]; omega
theorem bytes_lim {t : Ty} {m b : Nat} (h : m < lim t) (hb : b ≤ 24 * t.cells) : m * b ≤ 140737488355328 := by
  have h1 := lim_cells h
  have h2 : m * b ≤ m * (24 * t.cells) := Nat.mul_le_mul_left _ hb
  have h3 : m * (24 * t.cells) = 24 * (m * t.cells) := by rw [Nat.mul_left_comm]
  omega
theorem makeSlice_ok (hT : TabOk P X) (h : Ok st g fr a w) (hX : Fits X st) {t : TypeId} {l m : Operand} (ho : o.op = .makeSlice t l m) {u : Ty} (hu0 : X.slf t = some u) {n k : Int} (hl : opc fr l = .int .i64 n) (hm : opc fr m = .int .i64 k)
    (h0 : 0 ≤ n) (h1 : n ≤ k) (h2 : k < (lim u : Int)) (hf : fin X fr o.dst (.comp false [.tmpo u (List.replicate n.toNat u.zero)]) K = some r) : o.wp P a w (Good st K r) Q := by
  obtain ⟨e, he, ⟨ii, z, e1, e2, e3, e4, e5⟩⟩ := ti_slice hT (Env.slf_some hu0).1
  have hlv : a.eval l = .int .i64 n := (opc_rel h hl (by simp) (by simp)).2
  have hmv : a.eval m = .int .i64 k := (opc_rel h hm (by simp) (by simp)).2
  have hk : k.toNat < lim u := by omega
  have hb := bytes_lim hk e3
  have hbk : (ii.bytes : Int) * k ≤ 281474976710656 := by
    have : ((ii.bytes * k.toNat : Nat) : Int) ≤ 140737488355328 := by rw [Nat.mul_comm]; omega
    rw [Int.natCast_mul] at this
    have e : ((k.toNat : Nat) : Int) = k := by omega
    rw [e] at this; omega
  have hmx := lim_max hk
  have hrun := run_make (P := P) w t e ii z he e1 e4 .i64 .i64 n k h0 h1 hbk (by simp only [maxLen] at hmx; omega)
  have hz : z.cells.size = u.cells := by
    have := congrArg List.length e5
    rw [zeroV_length] at this; simpa using this
  obtain ⟨ok, hr⟩ := newRow_ok (w' := w.alloc (.cells (madeCells z.cells (k.toNat * ii.size)) e)) (e := e) h rfl rfl rfl rfl (t := u) (Env.slf_some hu0).2 (xs := List.replicate n.toNat u.zero) (cap := k.toNat) (by simp; omega) hmx (by rw [size_madeCells, e2]) (fun i x hi => by
    have hi2 := List.getElem?_replicate (n := n.toNat) (a := u.zero) (i := i)
    rw [hi] at hi2
    split at hi2
    · rename_i hlt
      cases hi2
      refine ⟨zeroV u, rep_zero w _ u, fun j c hj => ?_⟩
      have hjl : j < u.cells := by have := (List.getElem?_eq_some_iff.1 hj).1; rw [zeroV_length] at this; exact this
      have hin : i * u.cells + j < k.toNat * u.cells := by
        have : (i + 1) * u.cells ≤ k.toNat * u.cells := Nat.mul_le_mul_right _ (by omega)
        rw [Nat.add_mul] at this; omega
      have d2 : (i * u.cells + j) % u.cells = j := by rw [Nat.mul_comm, Nat.mul_add_mod, Nat.mod_eq_of_lt hjl]
      rw [← e5] at hj
      simp only [madeCells, e2, hz, Array.getElem?_map]
      rw [Array.getElem?_eq_getElem (by simpa using hin)]
      simp only [Array.getElem_range, Option.map_some, d2]
      have : z.cells[j]? = some c := by simpa using hj
      rw [getElem!_pos z.cells j (by omega)]
      rw [Array.getElem?_eq_getElem (by omega)] at this
      exact this
    · cases hi2)
  refine wp_value (v := .slice (some ⟨w.heap.size, 0, none⟩) n.toNat k.toNat) (w' := w.alloc (.cells (madeCells z.cells (k.toNat * ii.size)) e)) ?_ (fin_row hX ok (by simpa using hr) hf)
  simp only [execOp, ho, hlv, hmv, Sem.run_bind, hrun, Result.andThen_ok, Sem.run_pure]
theorem exists_flat {c : Nat} : ∀ (m : Nat) (Q : Nat → List Value → Prop), (∀ i, i < m → ∃ e : List Value, e.length = c ∧ Q i e) → ∃ news : List Value, news.length = m * c ∧ ∀ i, i < m → Q i ((news.drop (i * c)).take c)
  | 0, Q, h => ⟨[], by simp, fun i hi => by omega⟩
  | m + 1, Q, h => by
    obtain ⟨news, h1, h2⟩ := exists_flat m Q (fun i hi => h i (by omega))
    obtain ⟨e, e1, e2⟩ := h m (by omega)
    refine ⟨news ++ e, by rw [List.length_append, h1, e1, Nat.add_mul]; omega, fun i hi => ?_⟩
    by_cases him : i < m
    · have hle : (i + 1) * c ≤ m * c := Nat.mul_le_mul_right _ him
      rw [Nat.add_mul] at hle
      rw [List.drop_append_of_le_length (by omega), List.take_append_of_le_length (by rw [List.length_drop]; omega)]
      exact h2 i him
    · have : i = m := by omega
      subst this
      rw [← h1, List.drop_left, ← e1, List.take_length]
      exact e2
theorem RS_cells {S : Nat → Nat → Prop} {t : Ty} {ys : List (Den t)} {v : Value} (h : RS w S t ys v) : ∃ A cap, v = .slice A ys.length cap ∧ ys.length ≤ cap ∧ ∃ news : List Value, news.length = ys.length * t.cells ∧
    (∀ i y, ys[i]? = some y → ∃ ecs, rep w S t y ecs ∧ ∀ (j : Nat) (u : Value), ecs[j]? = some u → news[i * t.cells + j]? = some u) ∧
    (ys ≠ [] → ∃ ad, A = some ad ∧ ad.spot = none ∧ ∀ (j : Nat) (u : Value), news[j]? = some u → S ad.block (ad.off + j) ∧ w.cell? ⟨ad.block, ad.off + j, none⟩ = some u) := by
  obtain ⟨A, cap, hv, hc, hx⟩ := h
  simp only [List.cons.injEq, and_true] at hv
  refine ⟨A, cap, hv, hc, ?_⟩
  obtain ⟨news, n1, n2⟩ := exists_flat (c := t.cells) ys.length (fun i e => ∀ y, ys[i]? = some y → ∃ ad, A = some ad ∧ ad.spot = none ∧ rep w S t y e ∧ ∀ (j : Nat) (u : Value), e[j]? = some u → S ad.block (ad.off + (i * t.cells + j)) ∧ w.cell? ⟨ad.block, ad.off + (i * t.cells + j), none⟩ = some u) (fun i hi => by
    obtain ⟨ad, ecs, q1, q2, q3, q4⟩ := hx i _ (List.getElem?_eq_getElem hi)
    refine ⟨ecs, rep_length q3, fun y hy => ?_⟩
    rw [List.getElem?_eq_getElem hi] at hy
    cases hy
    exact ⟨ad, q1, q2, q3, q4⟩)
  refine ⟨news, n1, fun i y hy => ?_, fun hne => ?_⟩
  · obtain ⟨ad, q1, q2, q3, q4⟩ := n2 i (List.getElem?_eq_some_iff.1 hy).1 y hy
    refine ⟨_, q3, fun j u hj => ?_⟩
    rw [List.getElem?_take] at hj
    split at hj
    · rw [List.getElem?_drop] at hj; exact hj
    · cases hj
  · have h0 : 0 < ys.length := by cases ys with | nil => exact absurd rfl hne | cons _ _ => simp
    obtain ⟨ad, q1, q2, _, _⟩ := n2 0 h0 _ (List.getElem?_eq_getElem h0)
    refine ⟨ad, q1, q2, fun j u hj => ?_⟩
    have hjl : j < ys.length * t.cells := by have := (List.getElem?_eq_some_iff.1 hj).1; rw [n1] at this; exact this
    have hpos := cells_pos t
    have hi : j / t.cells < ys.length := (Nat.div_lt_iff_lt_mul hpos).2 hjl
    obtain ⟨ad', p1, p2, p3, p4⟩ := n2 (j / t.cells) hi _ (List.getElem?_eq_getElem hi)
    rw [q1] at p1; cases p1
    have hmod : j / t.cells * t.cells + j % t.cells = j := by rw [Nat.mul_comm]; exact Nat.div_add_mod j t.cells
    have := p4 (j % t.cells) u (by
      rw [List.getElem?_take, if_pos (Nat.mod_lt _ hpos), List.getElem?_drop, hmod]; exact hj)
    rw [hmod] at this
    exact this
def Src (P : Program) (w : World) (size m : Nat) (v : Value) (news : List Value) : Prop :=
  ∃ A cap, v = .slice A m cap ∧ ∀ w' : World, w'.heap = w.heap → (Builtin.firstCells size m v).run P w' = .ok news.toArray w'
theorem cell_of_heap {w w' : World} (h : w'.heap = w.heap) (ad : Addr) : w'.cell? ad = w.cell? ad := by simp [World.cell?, h]
theorem src_of {S : Nat → Nat → Prop} {t : Ty} {ys : List (Den t)} {v : Value} (h : RS w S t ys v) : ∃ news, Src P w t.cells ys.length v news ∧ news.length = ys.length * t.cells ∧ (∀ u ∈ news, u.oneCell' = true) ∧
    ∀ i y, ys[i]? = some y → ∃ ecs, rep w S t y ecs ∧ ∀ (j : Nat) (u : Value), ecs[j]? = some u → news[i * t.cells + j]? = some u := by
  obtain ⟨A, cap, hv, hc, news, n1, n2, n3⟩ := RS_cells h
  refine ⟨news, ⟨A, cap, hv, fun w' hw => ?_⟩, n1, fun u hu => ?_, n2⟩
  · cases hys : ys with
    | nil =>
      subst hys
      have hn : news = [] := List.eq_nil_of_length_eq_zero (by simpa using n1)
      subst hn
      subst hv
      cases A with
      | none => simp [Builtin.firstCells]
      | some ad => simp [Builtin.firstCells, loadCells, loadCellsFrom]
    | cons y0 ys' =>
      obtain ⟨ad, rfl, hsp, hcell⟩ := n3 (by rw [hys]; simp)
      rw [hys] at n1 hv
      subst hv
      exact run_firstCells_some (P := P) w' t.cells _ ad _ _ news n1 (fun j u hj => by rw [add_mid ad hsp, cell_of_heap hw]; exact (hcell j u hj).2)
  · obtain ⟨k, hk, rfl⟩ := List.getElem_of_mem hu
    have hpos := cells_pos t
    rw [n1] at hk
    have hi : k / t.cells < ys.length := (Nat.div_lt_iff_lt_mul hpos).2 hk
    obtain ⟨ecs, e1, e2⟩ := n2 _ _ (List.getElem?_eq_getElem hi)
    have hl : k % t.cells < ecs.length := by rw [rep_length e1]; exact Nat.mod_lt _ hpos
    have := e2 _ _ (List.getElem?_eq_getElem hl)
    have hmod : k / t.cells * t.cells + k % t.cells = k := by rw [Nat.mul_comm]; exact Nat.div_add_mod k t.cells
    rw [hmod, List.getElem?_eq_getElem (by rw [n1]; exact hk)] at this
    simp only [Option.some.injEq] at this
    rw [this]
    exact rep_one e1 _ (List.getElem_mem hl)
theorem run_append_in (t ty e : TypeId) (i : TypeInfo) (ht : P.underlying t = some (.slice e)) (hi : P.info? e = some i) (b sLen sCap : Nat) (e' : TypeId) (cur : Array Value) (hb : w.heap[b]? = some (.cells cur e' (0, 0)))
    {v : Value} {m : Nat} {news : List Value} (hs : Src P w i.size m v news) (h1 : ∀ u ∈ news, u.oneCell' = true) (hroom : sLen + m ≤ sCap) (hfit : sLen * i.size + news.length ≤ cur.size) :
    (Builtin.append_ #[t, t] ty #[.slice (some ⟨b, 0, none⟩) sLen sCap, v]).run P w =
      .ok (.slice (some ⟨b, 0, none⟩) (sLen + m) sCap) (w.setRow b (cur.toList.take (sLen * i.size) ++ news ++ cur.toList.drop (sLen * i.size + news.length)).toArray) := by
  obtain ⟨A, cap, rfl, hf⟩ := hs
  have hf := hf w rfl
  have hst := run_storeCells_at P b (sLen * i.size) e' news 0 cur w hb (by simpa using hfit) h1
  simp only [Nat.add_zero] at hst
  simp [Builtin.append_, run_underlying ht, sizeOf, typeInfo, hi, Builtin.lenOf, hroom, hf, Addr.add_lit, hst]
theorem run_append_new (t ty e : TypeId) (i : TypeInfo) (z : Value) (ht : P.underlying t = some (.slice e)) (hi : P.info? e = some i) (hz : i.zero = some z) {s : Value} {A : Option Addr} {sLen sCap : Nat} (hsv : s = .slice A sLen sCap) {olds : List Value} (hso : Src P w i.size sLen s olds)
    {v : Value} {m : Nat} {news : List Value} (hs : Src P w i.size m v news) (hg : sCap < sLen + m) (h63 : sLen + m ≤ maxLen) (hfit : Builtin.nextslicecap (sLen + m) sCap * i.bytes ≤ 281474976710656) :
    (Builtin.append_ #[t, t] ty #[s, v]).run P w =
      .ok (.slice (some ⟨w.heap.size, 0, none⟩) (sLen + m) (grownCap w (sLen + m) sCap e))
        (w.drew.alloc (.cells (olds.toArray ++ news.toArray ++ Builtin.zeroCells z.cells (grownCap w (sLen + m) sCap e - (sLen + m))) e)) := by
  obtain ⟨A', cap, rfl, hf⟩ := hs
  obtain ⟨A2, cap2, e2, hfo⟩ := hso
  have hf := hf w.drew rfl
  have hfo := hfo w.drew rfl
  subst hsv
  have hn : ¬ (sLen + m ≤ sCap) := by omega
  have h63' : ¬ (9223372036854775807 < ((sLen : Int) + (m : Int))) := by simp only [maxLen] at h63; omega
  have h48' : ¬ (281474976710656 < Builtin.nextslicecap (sLen + m) sCap * i.bytes) := by omega
  simp [Builtin.append_, run_underlying ht, sizeOf, typeInfo, zeroValue, hi, hz, Builtin.lenOf, hn, h63', h48', Question.forced, hf, hfo, newRow, grownCap]
  congr 2
  apply Array.ext'
  simp [List.append_assoc]
theorem run_append_nilnil (t ty e : TypeId) (i : TypeInfo) (ht : P.underlying t = some (.slice e)) (hi : P.info? e = some i) {v : Value} {news : List Value} (hs : Src P w i.size 0 v news) (hn : news = []) :
    (Builtin.append_ #[t, t] ty #[.slice none 0 0, v]).run P w = .ok (.slice none 0 0) w := by
  obtain ⟨A, cap, rfl, hf⟩ := hs
  have hf := hf w rfl
  subst hn
  simp [Builtin.append_, run_underlying ht, sizeOf, typeInfo, hi, Builtin.lenOf, hf]
theorem elems_append {w w' : World} {S S' : Nat → Nat → Prop} {t : Ty} {xs ys : List (Den t)} {olds news rest : List Value} (ho : olds.length = xs.length * t.cells) (hn : news.length = ys.length * t.cells)
    (hx : ∀ i x, xs[i]? = some x → ∃ ecs, rep w S t x ecs ∧ ∀ (j : Nat) (u : Value), ecs[j]? = some u → olds[i * t.cells + j]? = some u)
    (hy : ∀ i y, ys[i]? = some y → ∃ ecs, rep w S t y ecs ∧ ∀ (j : Nat) (u : Value), ecs[j]? = some u → news[i * t.cells + j]? = some u) :
    ∀ i x, (xs ++ ys)[i]? = some x → ∃ ecs, rep w S t x ecs ∧ ∀ (j : Nat) (u : Value), ecs[j]? = some u → (olds ++ news ++ rest)[i * t.cells + j]? = some u := by
  intro i x hi
  by_cases hlt : i < xs.length
  · rw [List.getElem?_append_left hlt] at hi
    obtain ⟨ecs, e1, e2⟩ := hx i x hi
    refine ⟨ecs, e1, fun j u hj => ?_⟩
    have := e2 j u hj
    have hl := (List.getElem?_eq_some_iff.1 this).1
    rw [List.append_assoc, List.getElem?_append_left hl]; exact this
  · rw [List.getElem?_append_right (by omega)] at hi
    obtain ⟨ecs, e1, e2⟩ := hy _ x hi
    refine ⟨ecs, e1, fun j u hj => ?_⟩
    have := e2 j u hj
    have hl := (List.getElem?_eq_some_iff.1 this).1
    have hmul : i * t.cells = xs.length * t.cells + (i - xs.length) * t.cells := by rw [← Nat.add_mul]; congr 1; omega
    rw [List.append_assoc, List.getElem?_append_right (by omega), List.getElem?_append_left (by rw [ho, hmul]; omega)]
    rw [show i * t.cells + j - olds.length = (i - xs.length) * t.cells + j by rw [ho, hmul]; omega]
    exact this
end
end Go.Rv
namespace Go.Rv
section
variable {P : Program} {st : St} {g : Gh} {fr : Fr} {a : Act} {w : World} {X : Env} {o : Oper} {R : Type} {K : Fr → Option R} {r : R} {Q : Exit → Act → World → Prop}
def Gh.more (g : Gh) (b n : Nat) : Gh := { g with S := fun b' o => g.S b' o ∨ (b' = b ∧ o < n) }
theorem moreRow_okD (h : Ok st g fr a w) {b : Nat} {cur : Array Value} {e' : TypeId} (hO : g.O b = some (.air 0)) (hb : w.heap[b]? = some (.cells cur e' (0, 0))) {t : Ty} {xs zs : List (Den t)} {cap : Nat} (hS : ∀ o, g.S b o ↔ o < xs.length * t.cells)
    {arr : Array Value} (hsz : arr.size = cur.size) (hlow : ∀ o, o < xs.length * t.cells → arr[o]? = cur[o]?) (hcap : zs.length ≤ cap) (hxz : xs.length ≤ zs.length) (hmax : cap ≤ maxLen) (hcs : cur.size = cap * t.cells)
    (hz : ∀ i x, zs[i]? = some x → ∃ ecs, rep w (g.SO w (.air 0)) t x ecs ∧ ∀ (j : Nat) (u : Value), ecs[j]? = some u → arr[i * t.cells + j]? = some u) (hap : Apart arr (zs.length * t.cells) b) :
    Ok st (g.more b (zs.length * t.cells)) fr a (w.setRow b arr) ∧ rel (w.setRow b arr) (g.more b (zs.length * t.cells)) (isBox fr) (.air 0) (.tmpo t zs) (.slice (some ⟨b, 0, none⟩) zs.length cap) := by
  have hown := h.own b _ hO
  have hne : ∀ b', b' < st.B → ¬ st.M b' → b' ≠ b := fun b' h1 h2 e => by subst e; exact h2 (hown.2 h1)
  have hnew := setRow_heap w b cur arr e' (0, 0) hb
  have hoth := fun b' hb' => setRow_other w b b' arr hb'
  have hmul : xs.length * t.cells ≤ zs.length * t.cells := Nat.mul_le_mul_right _ hxz
  have hc : Chg g (g.more b (zs.length * t.cells)) w (w.setRow b arr) (isBox fr) (isBox fr) (fun p => p ≠ .air 0) (fun _ => True) := {
    cB := rfl, cR := rfl, cM := rfl, cZ := rfl
    zS := fun b o hz => (h.zs b o (by rw [← h.eZ]; exact hz)).1
    cbx := fun s hs => hs
    cX := fun s _ => rfl
    cS := fun b' o hs => ⟨.inl hs, by
      by_cases hbb : b' = b
      · subst hbb
        rw [cell_of_row _ _ _ arr e' (0, 0) hnew, cell_of_row _ _ _ cur e' (0, 0) hb]
        exact hlow o ((hS o).1 hs)
      · exact World.cell?_of_block (w := w) (hoth b' hbb)⟩
    cL := fun b' hl => hoth b' (hne b' (by rw [← h.eB]; exact hl.1) (by rw [← h.eM]; exact hl.2))
    cO := fun b' p hp hO' => by
      have hbb : b' ≠ b := fun e => by subst e; rw [hO] at hO'; cases hO'; exact hp rfl
      refine ⟨hO', hoth b' hbb, fun oo => ?_⟩
      simp only [Gh.more]
      constructor
      · rintro (e | ⟨e, _⟩)
        · exact e
        · exact absurd e hbb
      · exact .inl
    cH := fun s c u _ hu => hu
    cHp := fun s i c hp => rfl }
  refine ⟨?_, .inr ⟨b, cap, arr, e', rfl, hO, hnew, hcap, hmax, by rw [hsz, hcs], fun i x hi => ?_, fun oo => ?_, hap⟩, trivial⟩
  · exact {
      eB := h.eB, eR := h.eR, eM := h.eM, eZ := h.eZ, size := h.size, defers := h.defers, keep := h.keep
      slot := fun s => hc.kSlot (fun _ _ e => by cases e) (fun e => by simp [isBox, e]) (fun _ _ => trivial) (h.slot s)
      os := h.os, tape := h.tape, output := h.output
      heap := by simpa using h.heap
      old := fun b' hb' hm => (hoth b' (hne b' hb' hm)).trans (h.old b' hb' hm)
      own := fun b' p hO' => by simpa using h.own b' p hO'
      stab := fun b' oo hs => by
        rcases hs with hs | ⟨e, _⟩
        · simpa using h.stab b' oo hs
        · subst e; simpa using hown.1
      boxS := fun b' s hO' oo hs => by
        rcases hs with hs | ⟨e, _⟩
        · exact h.boxS b' s hO' oo hs
        · subst e
          have : g.O b' = some (.at s 0 0) := hO'
          rw [hO] at this; cases this
      zs := fun b oo hz => ⟨.inl (h.zs b oo hz).1, (h.zs b oo hz).2⟩
      sz := fun b' oo hb' hm hs => by
        rcases hs with hs | ⟨e, _⟩
        · exact h.sz b' oo hb' hm hs
        · exact absurd e (hne b' hb' hm)
      hh := h.hh }
  · obtain ⟨ecs, q1, q2⟩ := hz i x hi
    refine ⟨ecs, rep_mono (fun b' o hs => ⟨⟨.inl hs.1, hs.2.1, ?_⟩, (hc.cS b' o hs.1).2⟩) q1, q2⟩
    by_cases hbb : b' = b
    · subst hbb; exact ⟨arr, e', hnew⟩
    · rw [hoth b' hbb]; exact hs.2.2
  · simp only [Gh.more]
    constructor
    · rintro (e | ⟨_, e⟩)
      · have := (hS oo).1 e; omega
      · exact e
    · intro e; exact .inr ⟨by trivial, e⟩
theorem moreRow_ok (h : Ok st g fr a w) {b : Nat} {cur : Array Value} {e' : TypeId} (hO : g.O b = some (.air 0)) (hb : w.heap[b]? = some (.cells cur e' (0, 0))) {t : Ty} {xs zs : List (Den t)} {cap : Nat} (hS : ∀ o, g.S b o ↔ o < xs.length * t.cells)
    (hfl : t.flat = true) {arr : Array Value} (hsz : arr.size = cur.size) (hlow : ∀ o, o < xs.length * t.cells → arr[o]? = cur[o]?) (hcap : zs.length ≤ cap) (hxz : xs.length ≤ zs.length) (hmax : cap ≤ maxLen) (hcs : cur.size = cap * t.cells)
    (hz : ∀ i x, zs[i]? = some x → ∃ ecs, rep w g.S t x ecs ∧ ∀ (j : Nat) (u : Value), ecs[j]? = some u → arr[i * t.cells + j]? = some u) :
    Ok st (g.more b (zs.length * t.cells)) fr a (w.setRow b arr) ∧ rel (w.setRow b arr) (g.more b (zs.length * t.cells)) (isBox fr) (.air 0) (.tmpo t zs) (.slice (some ⟨b, 0, none⟩) zs.length cap) :=
  moreRow_okD h hO hb hS hsz hlow hcap hxz hmax hcs (fun i x hi => by
    obtain ⟨ecs, q1, q2⟩ := hz i x hi
    exact ⟨ecs, rep_flat hfl q1, q2⟩) (apart_flat hfl hz b)
theorem append_run (hT : TabOk P X) (h : Ok st g fr a w) {t : TypeId} {u : Ty} (hu0 : X.slf t = some u) {ty : TypeId} {xs ys : List (Den u)} {vs vy : Value} (hs : OwnR w g (.air 0) u xs vs) (hy : RS w g.S u ys vy) (hlim : xs.length + ys.length < lim u) :
    ∃ v' w' g', (Builtin.append_ #[t, t] ty #[vs, vy]).run P w = .ok v' w' ∧ Ok st g' fr a w' ∧ rel w' g' (isBox fr) (.air 0) (.tmpo u (xs ++ ys)) v' := by
  obtain ⟨e, he, ⟨ii, z, e1, e2, e3, e4, e5⟩⟩ := ti_slice hT (Env.slf_some hu0).1
  obtain ⟨news, s1, s2, s3, s4⟩ := src_of (P := P) hy
  have hpos := cells_pos u
  have hb48 := bytes_lim hlim e3
  have hmx := lim_max hlim
  have hz : z.cells.size = u.cells := by
    have := congrArg List.length e5
    rw [zeroV_length] at this; simpa using this
  rw [← e2] at s1
  -- a new row
  have grow : ∀ (A : Option Addr) (cap : Nat) (olds : List Value), vs = .slice A xs.length cap → Src P w ii.size xs.length vs olds → olds.length = xs.length * u.cells →
      (∀ i x, xs[i]? = some x → ∃ ecs, rep w g.S u x ecs ∧ ∀ (j : Nat) (c : Value), ecs[j]? = some c → olds[i * u.cells + j]? = some c) → cap < xs.length + ys.length →
      ∃ v' w' g', (Builtin.append_ #[t, t] ty #[vs, vy]).run P w = .ok v' w' ∧ Ok st g' fr a w' ∧ rel w' g' (isBox fr) (.air 0) (.tmpo u (xs ++ ys)) v' := by
    intro A cap olds hv hso hol hox hg
    have hfit := growslice_fits hg hb48
    have hrun := run_append_new (ty := ty) t e ii z he e1 e4 hv hso s1 hg hmx hfit
    have hge := grownCap_ge w (xs.length + ys.length) cap e
    have hcm := grownCap_le_maxLen w (xs.length + ys.length) cap e hmx
    generalize grownCap w (xs.length + ys.length) cap e = C at *
    have hlist : (xs ++ ys).length = xs.length + ys.length := List.length_append
    obtain ⟨ok, hr⟩ := newRow_ok (w' := w.drew.alloc (.cells (olds.toArray ++ news.toArray ++ Builtin.zeroCells z.cells (C - (xs.length + ys.length))) e)) (e := e) h rfl rfl rfl rfl (t := u) (Env.slf_some hu0).2 (xs := xs ++ ys) (cap := C) (by omega) hcm
      (by
        simp only [Array.size_append, List.size_toArray, hol, s2, size_zeroCells, hz]
        rw [← Nat.add_mul, ← Nat.add_mul]
        congr 1; omega)
      (fun i x hi => by
        obtain ⟨ecs, q1, q2⟩ := elems_append (w' := w) (S' := g.S) (rest := (Builtin.zeroCells z.cells (C - (xs.length + ys.length))).toList) hol s2 hox s4 i x hi
        refine ⟨ecs, q1, fun j c hj => ?_⟩
        rw [← q2 j c hj, ← Array.getElem?_toList]
        simp)
    rw [hlist] at hr
    exact ⟨_, _, _, hrun, ok, by rw [hlist]; exact hr⟩
  rcases hs with ⟨rfl, rfl⟩ | ⟨b, cap, cur, e', rfl, hO, hb, h1, h2, h3, h4, h5⟩
  · by_cases hm : ys.length = 0
    · have hys : ys = [] := List.eq_nil_of_length_eq_zero hm
      subst hys
      refine ⟨_, _, g, run_append_nilnil (ty := ty) t e ii he e1 s1 (List.eq_nil_of_length_eq_zero (by simpa using s2)), h, .inl ⟨rfl, rfl⟩, trivial⟩
    · exact grow none 0 [] rfl ⟨none, 0, rfl, fun w' _ => by simp [Builtin.firstCells]⟩ (by simp) (fun i x hx => by simp at hx) (by simp; omega)
  · have hol : (cur.toList.take (xs.length * u.cells)).length = xs.length * u.cells := by
      have : xs.length * u.cells ≤ cap * u.cells := Nat.mul_le_mul_right _ h1
      have hcl : cur.toList.length = cap * u.cells := by rw [Array.length_toList]; exact h3
      rw [List.length_take, hcl]; omega
    have hox : ∀ i x, xs[i]? = some x → ∃ ecs, rep w g.S u x ecs ∧ ∀ (j : Nat) (c : Value), ecs[j]? = some c → (cur.toList.take (xs.length * u.cells))[i * u.cells + j]? = some c := fun i x hi => by
      obtain ⟨ecs, q1, q2⟩ := h4 i x hi
      refine ⟨ecs, rep_flat (Env.slf_some hu0).2 q1, fun j c hj => ?_⟩
      have hjl : j < u.cells := by have := (List.getElem?_eq_some_iff.1 hj).1; rw [rep_length q1] at this; exact this
      have hil := (List.getElem?_eq_some_iff.1 hi).1
      have : (i + 1) * u.cells ≤ xs.length * u.cells := Nat.mul_le_mul_right _ hil
      rw [Nat.add_mul] at this
      rw [List.getElem?_take, if_pos (by omega)]
      simpa using q2 j c hj
    by_cases hroom : xs.length + ys.length ≤ cap
    · have hcapm : (xs.length + ys.length) * u.cells ≤ cap * u.cells := Nat.mul_le_mul_right _ hroom
      rw [Nat.add_mul] at hcapm
      have hfit : xs.length * ii.size + news.length ≤ cur.size := by rw [e2, s2, h3]; omega
      have hrun := run_append_in (ty := ty) (P := P) t e ii he e1 b xs.length cap e' cur hb s1 s3 hroom hfit
      rw [e2] at hrun
      have hlist : (xs ++ ys).length = xs.length + ys.length := List.length_append
      obtain ⟨ok, hr⟩ := moreRow_ok (t := u) (xs := xs) (zs := xs ++ ys) (cap := cap) (arr := (cur.toList.take (xs.length * u.cells) ++ news ++ cur.toList.drop (xs.length * u.cells + news.length)).toArray) h hO hb h5.1 (Env.slf_some hu0).2
        (by
          have hcl : cur.toList.length = cap * u.cells := by rw [Array.length_toList]; exact h3
          simp only [List.size_toArray, List.length_append, hol, List.length_drop, hcl, h3, s2]; omega)
        (fun oo ho => by
          have : (cur.toList.take (xs.length * u.cells) ++ news ++ cur.toList.drop (xs.length * u.cells + news.length))[oo]? = cur.toList[oo]? := by
            rw [List.append_assoc, List.getElem?_append_left (by rw [hol]; exact ho), List.getElem?_take, if_pos ho]
          simpa using this)
        (by omega) (by omega) h2 h3
        (fun i x hi => by
          obtain ⟨ecs, q1, q2⟩ := elems_append (w' := w) (S' := g.S) (rest := cur.toList.drop (xs.length * u.cells + news.length)) hol s2 hox s4 i x hi
          refine ⟨ecs, q1, fun j c hj => ?_⟩
          rw [← q2 j c hj]; simp)
      rw [hlist] at hr ok
      exact ⟨_, _, _, hrun, ok, hr⟩
    · have hcell : ∀ w' : World, w'.heap = w.heap → (Builtin.firstCells ii.size xs.length (.slice (some ⟨b, 0, none⟩) xs.length cap)).run P w' = .ok (cur.toList.take (xs.length * u.cells)).toArray w' := fun w' hw => by
        refine run_firstCells_some (P := P) w' ii.size xs.length ⟨b, 0, none⟩ _ _ _ (by rw [e2]; exact hol) (fun j v hj => ?_)
        rw [List.getElem?_take] at hj
        split at hj
        · rw [Addr.add_mid, Nat.zero_add, cell_of_heap hw, cell_of_row w b j cur e' (0, 0) hb]
          simpa using hj
        · cases hj
      exact grow (some ⟨b, 0, none⟩) cap _ rfl ⟨_, _, rfl, hcell⟩ hol hox (by omega)
theorem append_ok (hT : TabOk P X) (h : Ok st g fr a w) (hX : Fits X st) {c : Call} (ho : o.op = .call c) (hc : c.callee = .builtin .append) {t : TypeId} (hat : c.argTypes.toList = [t, t]) {x y : Operand} (ha : c.args.toList = [x, y]) {u : Ty} (hu0 : X.slf t = some u)
    {ys : List (Den u)} (hy : listAs u (opc fr y) = some ys) {cv : CV} {fr1 : Fr} (ht : takeOpd fr x = ((false, [cv]), fr1)) {xs : List (Den u)} (hcv : cv = .tmpo u xs ∨ (cv = .nils ∧ xs = [])) (hlim : xs.length + ys.length < lim u)
    (hf : fin X fr1 o.dst (.comp false [.tmpo u (xs ++ ys)]) K = some r) : o.wp P a w (Good st K r) Q := by
  obtain ⟨ce, ⟨as⟩, ⟨ts⟩⟩ := c
  simp only at hc hat ha
  subst hc hat ha
  obtain ⟨g1, t1, hv⟩ := takeOpd_ok h ht 0
  have hny : opc fr y ≠ .dead ∧ opc fr y ≠ .undef := by constructor <;> (intro e; rw [e] at hy; simp [listAs] at hy)
  have hyr := t1.air 0 _ _ (opc_rel h rfl hny.1 hny.2).2
  have hyS : RS w g1.S u ys (a.eval y) := listAs_rel t1.ok hy hyr
  obtain ⟨c', e1, e2⟩ := hv
  simp only [List.cons.injEq, and_true] at e1
  subst e1
  have hown : OwnR w g1 (.air 0) u xs (a.eval x) := by
    rcases hcv with rfl | ⟨rfl, rfl⟩
    · rcases e2 with e2 | ⟨e2, _⟩ | e2
      · cases e2
      · cases e2
      · exact e2.1
    · rcases e2 with e2 | ⟨e2, _⟩ | e2
      · cases e2
      · cases e2
      · exact .inl ⟨e2, rfl⟩
  obtain ⟨v', w', g', k1, k2, k3⟩ := append_run (ty := o.type) hT t1.ok hu0 hown hyS hlim
  refine wp_value (v := v') (w' := w') ?_ (fin_row hX k2 k3 hf)
  simp [execOp, ho, resolve, invoke, builtin, k1, Result.andThen]
end
end Go.Rv
namespace Go.Rv
section
variable {P : Program} {st : St} {g : Gh} {fr : Fr} {a : Act} {w : World} {X : Env} {o : Oper} {R : Type} {K : Fr → Option R} {r : R} {Q : Exit → Act → World → Prop}
def Gh.newBox (g : Gh) (b d : Nat) : Gh := { g with
  O := fun b' => if b' = b then some (.at d 0 0) else match g.O b' with
    | some (.at s i c) => if s = d then none else some (.at s i c)
    | x => x
  H := fun s c => if s = d then none else g.H s c
  X := fun s => if s = d then some b else g.X s }
theorem Chg.newBox (h : Ok st g fr a w) {w' : World} {ob : Obj} (hh : w'.heap = w.heap.push ob) {d : Nat} (hd : notBox (fr d) = true) {cs : List CV} : Chg g (g.newBox w.heap.size d) w w' (isBox fr) (isBox (upd fr d (.box cs))) (notAt d) (fun _ => True) where
  cB := rfl
  cR := rfl
  cM := rfl
  cZ := rfl
  zS := fun b o hz => (h.zs b o (by rw [← h.eZ]; exact hz)).1
  cbx := fun s hs => by
    unfold isBox at *
    by_cases hsd : s = d
    · subst hsd; rw [upd_same]; rfl
    · rw [upd_ne _ _ _ hsd]; exact hs
  cX := fun s hs => by
    have : s ≠ d := fun e => by subst e; unfold isBox at hs; rw [hd] at hs; cases hs
    simp [Gh.newBox, this]
  cS := fun b o hs => ⟨hs, World.cell?_of_block (w := w) (heap_push_old hh (h.stab b o hs))⟩
  cL := fun b hl => heap_push_old hh (by have := h.heap; have := hl.1; rw [h.eB] at this; omega)
  cO := fun b p hp hO => by
    have hb := (h.own b p hO).1
    refine ⟨?_, heap_push_old hh hb, fun oo => Iff.rfl⟩
    simp only [Gh.newBox]
    rw [if_neg (by omega), hO]
    cases p with
    | air k => rfl
    | «at» s i c => have : s ≠ d := hp; simp [this]
  cH := fun s c u _ hu => by
    simp only [Gh.newBox] at hu
    split at hu
    · cases hu
    · exact hu
  cHp := fun s i c hp => by
    have : s ≠ d := hp
    simp [Gh.newBox, this]
theorem newBox_ok (h : Ok st g fr a w) {w' : World} {arr : Array Value} {e : TypeId} (hh : w'.heap = w.heap.push (.cells arr e (0, 0))) (hos : w'.os = w.os) (htp : w'.tape = w.tape) (hout : w'.output = w.output)
    {d : Nat} (hd : d < st.n) (hb : notBox (fr d) = true) (hk : d ∉ st.keep) {cs : List CV} (hl : arr.toList.length = cs.length) (hcs : ∀ (j : Nat) (c : CV), cs[j]? = some c → free c = true ∧ ∃ u : Value, arr.toList[j]? = some u ∧ ∀ p, rel w g (isBox fr) p c u) :
    Ok st (g.newBox w.heap.size d) (upd fr d (.box cs)) (a.put (some d) (.pointer (some ⟨w.heap.size, 0, none⟩))) w' := by
  have hc := Chg.newBox (cs := cs) h hh hb
  have hnew := heap_push_new hh
  exact {
    eB := h.eB, eR := h.eR, eM := h.eM, eZ := h.eZ
    size := by rw [put_tmps]; simp [h.size]
    defers := h.defers
    slot := fun s => by
      by_cases hs : s = d
      · subst hs
        rw [upd_same, put_getD_same _ (by rw [h.size]; exact hd)]
        refine ⟨⟨w.heap.size, arr, e, by simp [Gh.newBox], ⟨fun hm => (hk (h.eR.2 _ (h.eR.1 ▸ hm))).elim, fun _ => by simp [Gh.newBox]⟩, hnew, hl, fun j c hj => ?_⟩, w.heap.size, by simp [Gh.newBox], rfl⟩
        obtain ⟨hf, u, q1, q2⟩ := hcs j c hj
        exact ⟨u, q1, rel_place hf (hc.kRel (p := .air 0) trivial (fun _ _ => trivial) (q2 _))⟩
      · rw [upd_ne fr d _ hs, put_getD_ne a _ hs]
        exact hc.kSlot (fun i c => hs) (fun e => by simp [isBox, e]) (fun _ _ => trivial) (h.slot s)
    keep := fun j hj => by
      have : j ≠ d := fun e => hk (e ▸ hj)
      rw [put_tmps, Array.getElem?_setIfInBounds_ne (Ne.symm this)]
      exact h.keep j hj
    os := hos.trans h.os, tape := htp.trans h.tape, output := hout.trans h.output
    heap := by rw [hh]; simp; have := h.heap; omega
    old := fun b hb hm => (heap_push_old hh (by have := h.heap; omega)).trans (h.old b hb hm)
    own := fun b p hO => by
      simp only [Gh.newBox] at hO
      split at hO
      · rename_i e; subst e
        exact ⟨by rw [hh]; simp, fun hlt => by have := h.heap; omega⟩
      · cases hOb : g.O b with
        | none => rw [hOb] at hO; cases hO
        | some q =>
          have := h.own b q hOb
          exact ⟨by rw [hh]; simp; omega, this.2⟩
    stab := fun b oo hs => by have := h.stab b oo hs; rw [hh]; simp; omega
    boxS := fun b s hO oo hs => by
      have hlt := h.stab b oo hs
      simp only [Gh.newBox] at hO
      rw [if_neg (by omega)] at hO
      cases hOb : g.O b with
      | none => rw [hOb] at hO; cases hO
      | some q =>
        rw [hOb] at hO
        cases q with
        | air k => cases hO
        | «at» s' i c =>
          simp only at hO
          split at hO
          · cases hO
          · cases hO
            exact h.boxS b s hOb oo hs
    zs := h.zs
    sz := h.sz
    hh := fun s c u hu => by
      simp only [Gh.newBox] at hu
      split at hu
      · cases hu
      · exact h.hh s c u hu }
theorem fin_box (hX : Fits X st) (h : Ok st g fr a w) {w' : World} {arr : Array Value} {e : TypeId} (hh : w'.heap = w.heap.push (.cells arr e (0, 0))) (hos : w'.os = w.os) (htp : w'.tape = w.tape) (hout : w'.output = w.output)
    {cs : List CV} (hl : arr.toList.length = cs.length) (hcs : ∀ (j : Nat) (c : CV), cs[j]? = some c → free c = true ∧ ∃ u : Value, arr.toList[j]? = some u ∧ ∀ p, rel w g (isBox fr) p c u)
    {d : Nat} (hf : fin X fr (some d) (.box cs) K = some r) : Good st K r (a.put (some d) (.pointer (some ⟨w.heap.size, 0, none⟩))) w' := by
  simp only [fin] at hf
  cases hs : setD X fr d (.box cs) with
  | none => rw [hs] at hf; cases hf
  | some fr1 =>
    rw [hs] at hf
    obtain ⟨h1, h2, h3, rfl⟩ := setD_some hX hs
    exact ⟨_, _, newBox_ok h hh hos htp hout h1 h2 h3 hl hcs, hf⟩
theorem alloc_ok (hT : TabOk P X) (h : Ok st g fr a w) (hX : Fits X st) {t : TypeId} (ho : o.op = .alloc t) {i : TI} (hi : X.ti t = some i) {d : Nat} (hd : o.dst = some d) (hf : fin X fr (some d) (.box (bif i.fn then [.dead] else zeroCV i.ty)) K = some r) : o.wp P a w (Good st K r) Q := by
  cases hfn : i.fn
  case true =>
    rw [hfn] at hf
    obtain ⟨_, _, _, ii, dd, z, u, e1, _, _, _, _, e4, e5, e6⟩ := ti_fitFn hT hi hfn
    refine wp_value (v := .pointer (some ⟨w.heap.size, 0, none⟩)) (w' := w.alloc (.cells z.cells t)) ?_ ?_
    · simp only [execOp, ho, Instr.alloc, Sem.run_bind]
      simp [zeroValue, typeInfo, e1, e4, newVar, newRow]
    · rw [hd]
      refine fin_box (w' := w.alloc (.cells z.cells t)) (arr := z.cells) (e := t) (cs := [.dead]) hX h rfl rfl rfl rfl (by rw [e5]; rfl) (fun j c hj => ?_) hf
      cases j with
      | zero => simp at hj; subst hj; exact ⟨rfl, u, by rw [e5]; rfl, fun p => e6⟩
      | succ j => simp at hj
  rw [hfn] at hf
  simp only [cond_false] at hf
  obtain ⟨ii, z, e1, e2, e3, e4, e5⟩ := (ti_elem hT hi hfn).ex
  refine wp_value (v := .pointer (some ⟨w.heap.size, 0, none⟩)) (w' := w.alloc (.cells z.cells t)) ?_ ?_
  · simp only [execOp, ho, Instr.alloc, Sem.run_bind]
    simp [zeroValue, typeInfo, e1, e4, newVar, newRow]
  · rw [hd]
    refine fin_box (w' := w.alloc (.cells z.cells t)) (arr := z.cells) (e := t) hX h rfl rfl rfl rfl (by rw [e5, zeroV_length, zeroCV_length]) (fun j c hj => ?_) hf
    obtain ⟨f1, _, u, f2, f3⟩ := zeroCV_rel w g (isBox fr) i.ty j c hj
    exact ⟨f1, u, by rw [e5]; exact f2, f3⟩
theorem box_ok (h : Ok st g fr a w) (hX : Fits X st) {t : TypeId} {x : Operand} (ho : o.op = .box t x) (hs : (opd fr x).1 = true ∨ (opd fr x).2.all sure = true) {d : Nat} (hd : o.dst = some d) (hf : fin X fr (some d) (.box (opd fr x).2) K = some r) : o.wp P a w (Good st K r) Q := by
  have hF := opd_ok h x
  obtain ⟨c1, c2⟩ := comp_cells hF hs
  refine wp_value (v := .pointer (some ⟨w.heap.size, 0, none⟩)) (w' := w.alloc (.cells (a.eval x).cells t)) ?_ ?_
  · simp only [execOp, ho, Instr.box, Sem.run_bind]
    simp [newVar, newRow]
  · rw [hd]
    refine fin_box (w' := w.alloc (.cells (a.eval x).cells t)) (arr := (a.eval x).cells) (e := t) hX h rfl rfl rfl rfl c1 (fun j c hj => ?_) hf
    obtain ⟨u, q1, q2⟩ := c2 j c hj
    exact ⟨List.all_eq_true.1 hF.1 c (List.mem_of_getElem? hj), u, q1, q2⟩
theorem fillCells_some {cs new cs' : List CV} {off : Nat} (h : fillCells cs off new = some cs') : off + new.length ≤ cs.length ∧ cs'.length = cs.length ∧ ∀ j, cs'[j]? = if off ≤ j ∧ j < off + new.length then new[j - off]? else cs[j]? := by
  unfold fillCells at h
  cases hb : (off + new.length).ble cs.length
  · rw [hb] at h; cases h
  · rw [hb] at h
    simp only [cond_true, Option.some.injEq] at h
    have hle := Nat.le_of_ble_eq_true hb
    subst h
    refine ⟨hle, by simp [List.length_take]; omega, fun j => ?_⟩
    by_cases h1 : j < off
    · rw [if_neg (by omega), List.append_assoc, List.getElem?_append_left (by simp [List.length_take]; omega), List.getElem?_take, if_pos h1]
    · by_cases h2 : j < off + new.length
      · rw [if_pos (by omega), List.append_assoc, List.getElem?_append_right (by simp [List.length_take]; omega), List.getElem?_append_left (by simp [List.length_take]; omega)]
        congr 1
        simp [List.length_take]; omega
      · rw [if_neg (by omega), List.getElem?_append_right (by simp [List.length_take]; omega), List.getElem?_drop]
        congr 1
        simp [List.length_take]; omega
theorem air_cells {bx : Nat → Bool} {j : Nat} {p : Comp} {v : Value} (h : ARel w g bx j p v) (hs : p.1 = true ∨ p.2.all sure = true) : v.cells.toList.length = p.2.length ∧ ∀ (k : Nat) (c : CV), p.2[k]? = some c → ∃ u : Value, v.cells.toList[k]? = some u ∧ rel w g bx (.air (j + k)) c u := by
  obtain ⟨b, cs⟩ := p
  cases b with
  | true =>
    obtain ⟨vs, rfl, h1, h2⟩ := h
    refine ⟨by simpa [Value.cells] using h1, fun k c hk => ?_⟩
    obtain ⟨u, e1, e2⟩ := h2 k c hk
    exact ⟨u, by simpa [Value.cells] using e1, e2⟩
  | false =>
    obtain ⟨c, e, h⟩ := h
    subst e
    have hsure : sure c = true := by simpa using hs
    rcases h with rfl | ⟨rfl, _⟩ | h
    · simp [sure] at hsure
    · simp [sure] at hsure
    · have h1 := rel_one h
      have hc : v.cells = #[v] := by cases v <;> first | rfl | simp [Value.oneCell'] at h1
      refine ⟨by simp [hc], fun k c' hk => ?_⟩
      cases k with
      | zero => simp at hk; subst hk; exact ⟨v, by simp [hc], h⟩
      | succ k => simp at hk
theorem buildParts_ok (places : Nat → Option (Nat × Nat)) {offs : List (Nat × Nat × Bool)} (hpl : ∀ i off n g, offs[i]? = some (off, n, g) → places i = some (off, n)) : ∀ (ps : List (Nat × Operand)) {g : Gh} {fr : Fr} (_ : Ok st g fr a w) (cs : List CV) (C : Array Value) {cs' : List CV} {fr1 : Fr},
    C.toList.length = cs.length → (∀ (k : Nat) (c : CV), cs[k]? = some c → ∃ u : Value, C.toList[k]? = some u ∧ rel w g (isBox fr) (.air k) c u) → buildParts fr offs cs ps = some (cs', fr1) →
    ∃ g1 C', Took st a w g g1 fr fr1 ∧ Instr.fill places C (ps.map fun p => (p.1, a.eval p.2)) = some C' ∧ C'.toList.length = cs'.length ∧ ∀ (k : Nat) (c : CV), cs'[k]? = some c → ∃ u : Value, C'.toList[k]? = some u ∧ rel w g1 (isBox fr) (.air k) c u
  | [], g, fr, h, cs, C, cs', fr1, hl, hr, hb => by
    simp only [buildParts] at hb
    cases hb
    exact ⟨g, C, Took.refl h, rfl, hl, hr⟩
  | (i, x) :: ps, g, fr, h, cs, C, cs', fr1, hl, hr, hb => by
    simp only [buildParts] at hb
    cases ho : offs[i]? with
    | none => rw [ho] at hb; cases hb
    | some q =>
      obtain ⟨off, n, gg⟩ := q
      cases ht : takeOpd fr x with
      | mk p fr2 =>
        obtain ⟨b, ws⟩ := p
        rw [ho, ht] at hb
        simp only at hb
        cases hcond : (ws.length.beq n && (b || ws.all sure))
        · rw [hcond] at hb; cases hb
        · rw [hcond] at hb
          simp only [cond_true] at hb
          simp only [Bool.and_eq_true, Bool.or_eq_true] at hcond
          have hn := Nat.eq_of_beq_eq_true hcond.1
          cases hfl : fillCells cs off ws with
          | none => rw [hfl] at hb; cases hb
          | some cs2 =>
            rw [hfl] at hb
            simp only at hb
            obtain ⟨g2, t1, hv⟩ := takeOpd_ok h ht off
            obtain ⟨v1, v2⟩ := air_cells hv (by simpa using hcond.2)
            obtain ⟨f1, f2, f3⟩ := fillCells_some hfl
            have hsz : (a.eval x).cells.size = n := by rw [← Array.length_toList, v1]; exact hn
            have hfold := Great.foldl_set off (a.eval x).cells.toList 0 C
            have hCs : C.size = cs.length := by rw [← hl, Array.length_toList]
            obtain ⟨g3, C', t2, r1, r2, r3⟩ := buildParts_ok places hpl ps t1.ok cs2 (((a.eval x).cells.toList.zipIdx 0).foldl (fun cs (x : Value × Nat) => cs.setIfInBounds (off + x.2) x.1) C) (by
              rw [Array.length_toList, hfold.1, f2, hCs]) (fun k c hk => by
              rw [f3] at hk
              rw [Array.getElem?_toList, hfold.2 k]
              simp only [Nat.add_zero, v1]
              split at hk
              · rename_i hin
                have hlen := (List.getElem?_eq_some_iff.1 hk).1
                rw [if_pos ⟨hin.1, hin.2, by rw [hCs]; omega⟩]
                obtain ⟨u, q1, q2⟩ := v2 (k - off) c hk
                refine ⟨u, q1, ?_⟩
                rw [t1.bx]
                rw [show off + (k - off) = k by omega] at q2
                exact q2
              · rename_i hin
                rw [if_neg (by omega)]
                obtain ⟨u, q1, q2⟩ := hr k c hk
                refine ⟨u, by rw [← Array.getElem?_toList]; exact q1, ?_⟩
                rw [t1.bx]
                exact t1.air _ _ _ q2) hb
            refine ⟨g3, C', t1.trans t2, ?_, r2, fun k c hk => ?_⟩
            · simp only [List.map_cons]
              unfold Instr.fill
              rw [hpl i off n gg ho]
              simp only [hsz]
              rw [if_neg (by
                have : off + n ≤ C.size := by rw [hCs]; omega
                simp; omega)]
              rw [← r1]
              simp only [← Array.foldl_toList, Array.toList_zipIdx]
            · obtain ⟨u, q1, q2⟩ := r3 k c hk
              exact ⟨u, q1, by rw [t1.bx] at q2; exact q2⟩
theorem build_ok (hT : TabOk P X) (h : Ok st g fr a w) (hX : Fits X st) {t : TypeId} {ps : Array (Nat × Operand)} (ho : o.op = .build t ps) {i : TI} (hi : X.ti t = some i) (ha : i.agg = true) {cs : List CV} {fr1 : Fr}
    (hb : buildParts fr i.offs (zeroCV i.ty) ps.toList = some (cs, fr1)) (hf : fin X fr1 o.dst (.comp true cs) K = some r) : o.wp P a w (Good st K r) Q := by
  obtain ⟨ii, z, e1, e2, e3, e4, e5⟩ := (ti_elem hT hi (ti_notFn hT hi ha)).ex
  obtain ⟨fs, hfs, hff⟩ := ti_struct hT hi ha
  obtain ⟨p1, p2⟩ := fitFields_spec _ _ hff
  have hmap : ∃ places, fs.toList.mapM (fun f => (P.info? f.type).map fun i => (f.offset, i.size)) = some places ∧ ∀ (k off n : Nat) (gg : Bool), i.offs[k]? = some (off, n, gg) → places[k]? = some (off, n) := by
    have gen : ∀ (l : List Field) (os : List (Nat × Nat × Bool)), fitFields P os l = true → ∃ places, l.mapM (fun f => (P.info? f.type).map fun i => (f.offset, i.size)) = some places ∧ ∀ (k off n : Nat) (gg : Bool), os[k]? = some (off, n, gg) → places[k]? = some (off, n) := by
      intro l
      induction l with
      | nil => intro os hfo; cases os with
        | nil => exact ⟨[], rfl, fun k off n gg hk => by simp at hk⟩
        | cons _ _ => simp [fitFields] at hfo
      | cons F l ih =>
        intro os hfo
        cases os with
        | nil => simp [fitFields] at hfo
        | cons q os =>
          obtain ⟨F', i', d', q1, q2, q3, q4, _⟩ := (fitFields_spec _ _ hfo).2 0 q.1 q.2.1 q.2.2 rfl
          simp at q1
          subst q1
          obtain ⟨off, n, gg⟩ := q
          have hfo' : fitFields P os l = true := by simp only [fitFields, Bool.and_eq_true] at hfo; exact hfo.2.2.2
          obtain ⟨pl, r1, r2⟩ := ih os hfo'
          refine ⟨(off, n) :: pl, ?_, fun k off' n' gg' hk => ?_⟩
          · simp only [List.mapM_cons, q3, Option.map_some, r1]
            simp only at q2 q4
            rw [q2, q4]; rfl
          · cases k with
            | zero => simp at hk; obtain ⟨rfl, rfl, rfl⟩ := hk; rfl
            | succ k => simp at hk; simpa using r2 k off' n' gg' hk
    exact gen fs.toList i.offs hff
  obtain ⟨places, m1, m2⟩ := hmap
  obtain ⟨g1, C', t1, f1, f2, f3⟩ := buildParts_ok (fun k => places[k]?) m2 ps.toList h (zeroCV i.ty) z.cells (by rw [e5, zeroV_length, zeroCV_length]) (fun k c hk => by
    obtain ⟨q0, _, u, q1, q2⟩ := zeroCV_rel w g (isBox fr) i.ty k c hk
    exact ⟨u, by rw [e5]; exact q1, q2 _⟩) hb
  have hbuilt : P.built t (ps.map fun (i, x) => (i, a.eval x)).toList = some C' := by
    unfold Program.built
    simp only [e1, hfs, e4, m1]
    rw [Array.toList_map]
    simpa using f1
  refine wp_value (v := .agg C') (w' := w) (by simp only [execOp, ho, Sem.run_bind, run_build w t _ C' hbuilt, Result.andThen_ok, Sem.run_pure]) ?_
  refine fin_land (p := (true, cs)) hX t1.ok ⟨C'.toList, by simp, f2, fun k c hk => ?_⟩ hf
  obtain ⟨u, q1, q2⟩ := f3 k c hk
  exact ⟨u, q1, by rw [t1.bx, Nat.zero_add]; exact q2⟩
end
end Go.Rv
namespace Go.Rv
section
variable {P : Program} {st : St} {g : Gh} {fr : Fr} {a : Act} {w : World} {X : Env} {o : Oper} {R : Type} {K : Fr → Option R} {r : R} {Q : Exit → Act → World → Prop}
theorem OwnR.readsO {w : World} {g : Gh} {p : Place} {t : Ty} {xs : List (Den t)} {v : Value} (h : OwnR w g p t xs v) : RS w (g.SO w p) t xs v := by
  rcases h with ⟨rfl, rfl⟩ | ⟨b, cap, cur, e, rfl, hO, hb, h1, h2, hs, hx, hS⟩
  · exact ⟨none, 0, rfl, Nat.le_refl _, fun i x hx => by simp at hx⟩
  · refine ⟨some ⟨b, 0, none⟩, cap, rfl, h1, fun i x hi => ?_⟩
    obtain ⟨ecs, hr, hj⟩ := hx i x hi
    refine ⟨_, ecs, rfl, rfl, hr, fun j u hu => ?_⟩
    have hlt : i < xs.length := (List.getElem?_eq_some_iff.1 hi).1
    have hjl : j < ecs.length := (List.getElem?_eq_some_iff.1 hu).1
    rw [rep_length hr] at hjl
    have hm : (i + 1) * t.cells ≤ xs.length * t.cells := Nat.mul_le_mul_right _ hlt
    rw [Nat.add_mul] at hm
    simp only [Nat.zero_add]
    exact ⟨⟨(hS.1 _).2 (by omega), hO, _, _, hb⟩, by rw [cell_of_row w b _ cur e (0, 0) hb]; exact hj j u hu⟩
def Gh.fuse (g : Gh) : Gh := { g with O := fun b => match g.O b with | some (.air _) => some (.air 0) | p => p }
theorem fuse_air {k b : Nat} (h : g.O b = some (.air k)) : g.fuse.O b = some (.air 0) := by simp [Gh.fuse, h]
theorem fuse_at {s i c b : Nat} (h : g.O b = some (.at s i c)) : g.fuse.O b = some (.at s i c) := by simp [Gh.fuse, h]
theorem fuse_inv {b : Nat} {p : Place} (h : g.fuse.O b = some p) : ∃ q, g.O b = some q ∧ (q = p ∨ (p = .air 0 ∧ ∃ k, q = .air k)) := by
  simp only [Gh.fuse] at h
  cases hO : g.O b with
  | none => rw [hO] at h; cases h
  | some q =>
    cases q with
    | air k => rw [hO] at h; cases h; exact ⟨_, rfl, .inr ⟨rfl, k, rfl⟩⟩
    | «at» s i c => rw [hO] at h; cases h; exact ⟨_, rfl, .inl rfl⟩
theorem fuse_SO {k b o : Nat} (h : g.SO w (.air k) b o) : g.fuse.SO w (.air 0) b o := ⟨h.1, fuse_air h.2.1, h.2.2⟩
theorem Chg.fuse (h : Ok st g fr a w) (bx : Nat → Bool) : Chg g g.fuse w w bx bx (fun p => ∀ k, p ≠ .air k) (fun _ => True) where
  cB := rfl
  cR := rfl
  cM := rfl
  cZ := rfl
  zS := fun b o hz => (h.zs b o (by rw [← h.eZ]; exact hz)).1
  cbx := fun s hs => hs
  cX := fun s _ => rfl
  cS := fun b o hs => ⟨hs, rfl⟩
  cL := fun b _ => rfl
  cO := fun b p hp hO => ⟨by
    cases p with
    | air k => exact (hp k rfl).elim
    | «at» s i c => exact fuse_at hO, rfl, fun _ => Iff.rfl⟩
  cH := fun s' c' u _ hu => hu
  cHp := fun s' i c' hp => rfl
theorem fuse_ok (h : Ok st g fr a w) : Ok st g.fuse fr a w :=
  have hc := Chg.fuse h (isBox fr)
  { eB := h.eB, eR := h.eR, eM := h.eM, eZ := h.eZ, size := h.size, defers := h.defers, keep := h.keep, os := h.os, tape := h.tape, output := h.output, heap := h.heap, old := h.old
    slot := fun s => hc.kSlot (fun i c k e => by cases e) (fun e => by simp [isBox, e]) (fun _ _ => trivial) (h.slot s)
    own := fun b p hO => by obtain ⟨q, hq, _⟩ := fuse_inv hO; exact h.own b q hq
    stab := h.stab
    boxS := fun b s hO => by
      obtain ⟨q, hq, e | ⟨e, _⟩⟩ := fuse_inv hO
      · subst e; exact h.boxS b s hq
      · cases e
    zs := h.zs
    sz := h.sz
    hh := h.hh }
theorem OwnR.fuse {k : Nat} {t : Ty} {xs : List (Den t)} {v : Value} (h : OwnR w g (.air k) t xs v) : OwnR w g.fuse (.air 0) t xs v := by
  rcases h with e | ⟨b, cap, cur, e, h1, h2, h3, h4, h5, h6, h7, h8⟩
  · exact .inl e
  · exact .inr ⟨b, cap, cur, e, h1, fuse_air h2, h3, h4, h5, h6, OwnR.elems (g := g) (g' := g.fuse) (p := .air k) (q := .air 0) (fun b o hs => ⟨fuse_SO hs, rfl⟩) h7, h8⟩
theorem ownAs_rel {bx : Nat → Bool} {k : Nat} {t : Ty} {c : CV} {xs : List (Den t)} {v : Value} (hl : ownAs t c = some xs) (hr : rel w g bx (.air k) c v) : OwnR w g (.air k) t xs v := by
  cases c <;> simp only [ownAs] at hl <;> first | (cases hl; done) | skip
  case nils => cases hl; exact .inl ⟨hr, rfl⟩
  case own u ys =>
    split at hl
    · rename_i e; subst e; cases hl; exact hr.1
    · cases hl
  case tmpo u ys =>
    split at hl
    · rename_i e; subst e; cases hl; exact hr.1
    · cases hl
theorem packO_rel {bx : Nat → Bool} : ∀ (t : Ty) (cs : List CV) (vs : List Value) (y : Den t) (rest : List CV), vs.length = cs.length → (∀ (j : Nat) (c : CV), cs[j]? = some c → ∃ u : Value, vs[j]? = some u ∧ ∃ k, rel w g bx (.air k) c u) →
    packO t cs = some (y, rest) → t.cells ≤ cs.length ∧ rest = cs.drop t.cells ∧ rep w (g.fuse.SO w (.air 0)) t y (vs.take t.cells)
  | .pair s t, cs, vs, y, rest, hl, hr, hp => by
    simp only [packO] at hp
    cases h1 : packO s cs with
    | none => rw [h1] at hp; cases hp
    | some q =>
      obtain ⟨x, r1⟩ := q
      rw [h1] at hp
      simp only at hp
      cases h2 : packO t r1 with
      | none => rw [h2] at hp; cases hp
      | some q =>
        obtain ⟨z, r2⟩ := q
        rw [h2] at hp
        simp only at hp
        cases hp
        obtain ⟨l1, e1, p1⟩ := packO_rel s cs vs x r1 hl hr h1
        subst e1
        obtain ⟨l2, e2, p2⟩ := packO_rel t (cs.drop s.cells) (vs.drop s.cells) z _ (by simp [hl]) (fun j c hj => by
          rw [List.getElem?_drop] at hj
          obtain ⟨u, q1, q2⟩ := hr _ c hj
          exact ⟨u, by rw [List.getElem?_drop]; exact q1, q2⟩) h2
        rw [List.length_drop] at l2
        refine ⟨by simp only [Ty.cells]; omega, by rw [e2, List.drop_drop]; rfl, vs.take s.cells, (vs.drop s.cells).take t.cells, ?_, p1, p2⟩
        simp only [Ty.cells]
        rw [List.take_add]
  | .int k, [], vs, y, rest, hl, hr, hp => by simp [packO] at hp
  | .bool, [], vs, y, rest, hl, hr, hp => by simp [packO] at hp
  | .str, [], vs, y, rest, hl, hr, hp => by simp [packO] at hp
  | .sl t, [], vs, y, rest, hl, hr, hp => by simp [packO] at hp
  | .int k, c :: cs, vs, y, rest, hl, hr, hp => by
    cases c <;> simp only [packO] at hp <;> first | (cases hp; done) | skip
    rename_i j n
    split at hp
    · rename_i hj; subst hj
      cases hp
      obtain ⟨u, q1, p, q2⟩ := hr 0 _ rfl
      cases vs with
      | nil => simp at q1
      | cons v vs =>
        simp at q1; subst q1
        obtain rfl : v = .int j _ := q2
        exact ⟨by simp [Ty.cells], rfl, rfl⟩
    · cases hp
  | .bool, c :: cs, vs, y, rest, hl, hr, hp => by
    cases c <;> simp only [packO] at hp <;> first | (cases hp; done) | skip
    cases hp
    obtain ⟨u, q1, p, q2⟩ := hr 0 _ rfl
    cases vs with
    | nil => simp at q1
    | cons v vs =>
      simp at q1; subst q1
      obtain rfl : v = .bool _ := q2
      exact ⟨by simp [Ty.cells], rfl, rfl⟩
  | .str, c :: cs, vs, y, rest, hl, hr, hp => by
    cases c <;> simp only [packO] at hp <;> first | (cases hp; done) | skip
    cases hp
    obtain ⟨u, q1, p, q2⟩ := hr 0 _ rfl
    cases vs with
    | nil => simp at q1
    | cons v vs =>
      simp at q1; subst q1
      obtain rfl : v = .string _ := q2
      exact ⟨by simp [Ty.cells], rfl, rfl⟩
  | .sl t, c :: cs, vs, y, rest, hl, hr, hp => by
    simp only [packO] at hp
    cases h1 : ownAs t c with
    | none => rw [h1] at hp; cases hp
    | some xs =>
      rw [h1] at hp
      simp only at hp
      cases hp
      obtain ⟨u, q1, p, q2⟩ := hr 0 _ rfl
      cases vs with
      | nil => simp at q1
      | cons v vs =>
        simp at q1; subst q1
        exact ⟨by simp [Ty.cells], rfl, (ownAs_rel h1 q2).fuse.readsO⟩
def cellO : CV → Bool
  | .int _ _ | .bool _ | .str _ | .nils | .own _ _ | .tmpo _ _ => true
  | _ => false
theorem packO_cells : ∀ (t : Ty) (cs : List CV) (y : Den t) (rest : List CV), packO t cs = some (y, rest) → t.cells ≤ cs.length ∧ rest = cs.drop t.cells ∧ ∀ j, j < t.cells → ∃ c, cs[j]? = some c ∧ cellO c = true
  | .pair s t, cs, y, rest, hp => by
    simp only [packO] at hp
    cases h1 : packO s cs with
    | none => rw [h1] at hp; cases hp
    | some q =>
      obtain ⟨x, r1⟩ := q
      rw [h1] at hp
      simp only at hp
      cases h2 : packO t r1 with
      | none => rw [h2] at hp; cases hp
      | some q =>
        obtain ⟨z, r2⟩ := q
        rw [h2] at hp
        simp only at hp
        cases hp
        obtain ⟨l1, e1, p1⟩ := packO_cells s cs x r1 h1
        subst e1
        obtain ⟨l2, e2, p2⟩ := packO_cells t _ z _ h2
        rw [List.length_drop] at l2
        refine ⟨by simp only [Ty.cells]; omega, by rw [e2, List.drop_drop]; rfl, fun j hj => ?_⟩
        simp only [Ty.cells] at hj
        by_cases hs : j < s.cells
        · exact p1 j hs
        · obtain ⟨c, q1, q2⟩ := p2 (j - s.cells) (by omega)
          rw [List.getElem?_drop, show s.cells + (j - s.cells) = j by omega] at q1
          exact ⟨c, q1, q2⟩
  | .int k, [], y, rest, hp => by simp [packO] at hp
  | .bool, [], y, rest, hp => by simp [packO] at hp
  | .str, [], y, rest, hp => by simp [packO] at hp
  | .sl t, [], y, rest, hp => by simp [packO] at hp
  | .int k, c :: cs, y, rest, hp => by
    cases c <;> simp only [packO] at hp <;> first | (cases hp; done) | skip
    split at hp
    · cases hp
      exact ⟨by simp [Ty.cells], rfl, fun j hj => by have : j = 0 := by simp only [Ty.cells] at hj; omega
                                                     subst this; exact ⟨_, rfl, rfl⟩⟩
    · cases hp
  | .bool, c :: cs, y, rest, hp => by
    cases c <;> simp only [packO] at hp <;> first | (cases hp; done) | skip
    cases hp
    exact ⟨by simp [Ty.cells], rfl, fun j hj => by have : j = 0 := by simp only [Ty.cells] at hj; omega
                                                   subst this; exact ⟨_, rfl, rfl⟩⟩
  | .str, c :: cs, y, rest, hp => by
    cases c <;> simp only [packO] at hp <;> first | (cases hp; done) | skip
    cases hp
    exact ⟨by simp [Ty.cells], rfl, fun j hj => by have : j = 0 := by simp only [Ty.cells] at hj; omega
                                                   subst this; exact ⟨_, rfl, rfl⟩⟩
  | .sl t, c :: cs, y, rest, hp => by
    simp only [packO] at hp
    cases h1 : ownAs t c with
    | none => rw [h1] at hp; cases hp
    | some xs =>
      rw [h1] at hp
      simp only at hp
      cases hp
      have hc : cellO c = true := by cases c <;> first | rfl | simp [ownAs] at h1
      exact ⟨by simp [Ty.cells], rfl, fun j hj => by have : j = 0 := by simp only [Ty.cells] at hj; omega
                                                     subst this; exact ⟨_, rfl, hc⟩⟩
theorem cellO_block {bx : Nat → Bool} {k : Nat} {c : CV} {a : Addr} {n cap : Nat} (hc : cellO c = true) (hr : rel w g bx (.air k) c (.slice (some a) n cap)) : g.O a.block = some (.air k) := by
  cases c <;> simp only [cellO] at hc <;> first | (cases hc; done) | skip
  case int => cases (show Value.slice (some a) n cap = .int _ _ from hr)
  case bool => cases (show Value.slice (some a) n cap = .bool _ from hr)
  case str => cases (show Value.slice (some a) n cap = .string _ from hr)
  case nils => cases (show Value.slice (some a) n cap = .slice none 0 0 from hr)
  case own t xs =>
    rcases hr.1 with ⟨e, _⟩ | ⟨b, cap', cur, e, h1, h2, _⟩
    · cases e
    · cases h1; exact h2
  case tmpo t xs =>
    rcases hr.1 with ⟨e, _⟩ | ⟨b, cap', cur, e, h1, h2, _⟩
    · cases e
    · cases h1; exact h2
theorem rowPartsO_ok {t : Ty} : ∀ (ps : List (Nat × Operand)) (k : Nat) {g : Gh} {fr fr1 : Fr} {xs : List (Den t)} (h : Ok st g fr a w), rowPartsO t fr k ps = some (xs, fr1) →
    ∃ (g1 : Gh) (vs : List Value), Ok st g1 fr1 a w ∧ (∀ b o, g.SO w (.air 0) b o → g1.SO w (.air 0) b o) ∧ ps.map (fun p => (p.1, a.eval p.2)) = (vs.zipIdx k).map (fun x => (x.2, x.1)) ∧ vs.length = ps.length ∧ xs.length = ps.length ∧ (∀ v ∈ vs, v.cells.size = t.cells) ∧ (∀ (i : Nat) (x : Den t), xs[i]? = some x → ∃ v : Value, vs[i]? = some v ∧ rep w (g1.SO w (.air 0)) t x v.cells.toList) ∧
      (∀ (i1 j1 i2 j2 : Nat) (v1 v2 : Value) (a1 a2 : Addr) (n1 c1 n2 c2 : Nat), vs[i1]? = some v1 → vs[i2]? = some v2 → (i1 ≠ i2 ∨ j1 ≠ j2) → v1.cells.toList[j1]? = some (.slice (some a1) n1 c1) → v2.cells.toList[j2]? = some (.slice (some a2) n2 c2) → a1.block ≠ a2.block) ∧
      ∀ (i j : Nat) (v : Value) (a : Addr) (n c : Nat), vs[i]? = some v → v.cells.toList[j]? = some (.slice (some a) n c) → g.O a.block ≠ some (.air 0) ∧ a.block < w.heap.size
  | [], k, g, fr, fr1, xs, h, hp => by
    simp only [rowPartsO, Option.some.injEq, Prod.mk.injEq] at hp
    obtain ⟨rfl, rfl⟩ := hp
    exact ⟨g, [], h, fun _ _ h => h, rfl, rfl, rfl, fun v hv => by simp at hv, fun i x hx => by simp at hx, fun i1 j1 i2 j2 v1 v2 a1 a2 n1 c1 n2 c2 h1 => by simp at h1, fun i j v a n c h1 => by simp at h1⟩
  | (i, x) :: ps, k, g, fr, fr1, xs, h, hp => by
    simp only [rowPartsO] at hp
    cases hk : i.beq k
    case false => rw [hk] at hp; cases hp
    have := Nat.eq_of_beq_eq_true hk
    subst this
    simp only [hk, cond_true] at hp
    generalize ht : takeOpd fr x = q at hp
    obtain ⟨⟨b, ws⟩, fr2⟩ := q
    simp only at hp
    cases hsu : (b || ws.all sure)
    case false => rw [hsu] at hp; cases hp
    rw [hsu] at hp
    simp only [cond_true] at hp
    split at hp
    · rename_i y hy
      cases h2 : rowPartsO t fr2 (i + 1) ps with
      | none => rw [h2] at hp; cases hp
      | some q =>
        obtain ⟨ys, fr3⟩ := q
        rw [h2] at hp
        cases hp
        obtain ⟨g2, t1, hv⟩ := takeOpd_ok h ht 1
        obtain ⟨c1, c2⟩ := air_cells hv (by simpa [Bool.or_eq_true] using hsu)
        obtain ⟨l1, l2, l3⟩ := packO_rel t ws _ y [] c1 (fun j c hj => by obtain ⟨u, q1, q2⟩ := c2 j c hj; exact ⟨u, q1, _, q2⟩) hy
        obtain ⟨g3, vs, ok3, so3, e1, e2, e3, e4, e5, e6, e7⟩ := rowPartsO_ok ps (i + 1) (fuse_ok t1.ok) h2
        have hlen : ws.length = t.cells := by
          have := congrArg List.length l2
          simp at this; omega
        have hcl : (a.eval x).cells.toList.length = t.cells := by rw [c1, hlen]
        rw [List.take_of_length_le (by omega)] at l3
        obtain ⟨_, _, hcO⟩ := packO_cells t ws y [] hy
        have hblk : ∀ (j : Nat) (ad : Addr) (n cp : Nat), (a.eval x).cells.toList[j]? = some (.slice (some ad) n cp) → g2.O ad.block = some (.air (1 + j)) := fun j ad n cp hj => by
          have hjl : j < t.cells := by have := (List.getElem?_eq_some_iff.1 hj).1; omega
          obtain ⟨c, q1, q2⟩ := hcO j hjl
          obtain ⟨u, q3, q4⟩ := c2 j c q1
          rw [hj] at q3
          cases q3
          exact cellO_block q2 q4
        refine ⟨g3, a.eval x :: vs, ok3, fun b o hs => so3 b o (fuse_SO (t1.so 0 b o hs)), by simp [List.zipIdx_cons, e1], by simp [e2], by simp [e3], fun v hv => ?_, fun k z hz => ?_, ?_, ?_⟩
        · rcases List.mem_cons.1 hv with rfl | hv
          · simpa using hcl
          · exact e4 v hv
        · cases k with
          | zero => simp at hz; subst hz; exact ⟨_, rfl, rep_mono (fun b o hs => ⟨so3 b o hs, rfl⟩) l3⟩
          | succ k => simp at hz; obtain ⟨v, q1, q2⟩ := e5 k z hz; exact ⟨v, by simpa using q1, q2⟩
        · intro i1 j1 i2 j2 v1 v2 a1 a2 n1 c1 n2 c2 h1 h2 hne k1 k2
          cases i1 with
          | zero =>
            simp at h1; subst h1
            have hb1 := hblk j1 a1 n1 c1 k1
            cases i2 with
            | zero =>
              simp at h2; subst h2
              have hb2 := hblk j2 a2 n2 c2 k2
              intro e
              rw [e, hb2] at hb1
              simp only [Option.some.injEq, Place.air.injEq] at hb1
              rcases hne with hne | hne
              · exact hne rfl
              · omega
            | succ i2 =>
              intro e
              exact (e7 i2 j2 v2 a2 n2 c2 (by simpa using h2) k2).1 (by rw [← e]; exact fuse_air hb1)
          | succ i1 =>
            cases i2 with
            | zero =>
              simp at h2; subst h2
              have hb2 := hblk j2 a2 n2 c2 k2
              intro e
              exact (e7 i1 j1 v1 a1 n1 c1 (by simpa using h1) k1).1 (by rw [e]; exact fuse_air hb2)
            | succ i2 => exact e6 i1 j1 i2 j2 v1 v2 a1 a2 n1 c1 n2 c2 (by simpa using h1) (by simpa using h2) (by omega) k1 k2
        · intro i j v ad n cp h1 k1
          cases i with
          | zero =>
            simp at h1; subst h1
            have hb1 := hblk j ad n cp k1
            exact ⟨fun e => by have := t1.oo 0 _ e; rw [hb1] at this; simp at this, (t1.ok.own _ _ hb1).1⟩
          | succ i =>
            obtain ⟨q1, q2⟩ := e7 i j v ad n cp (by simpa using h1) k1
            exact ⟨fun e => q1 (fuse_air (t1.oo 0 _ e)), q2⟩
    · cases hp
theorem buildSlice_okD (hT : TabOk P X) (h : Ok st g fr a w) (hX : Fits X st) {t : TypeId} {n : Nat} {ps : Array (Nat × Operand)} (ho : o.op = .buildSlice t n ps) {u : Ty} (hu0 : X.sl t = some u) {xs : List (Den u)} {fr1 : Fr} (hp : rowPartsO u fr 0 ps.toList = some (xs, fr1))
    (hn : (ps.toList.length.beq n && (n * u.cells).ble 16777216) = true) (hf : fin X fr1 o.dst (.comp false [.tmpo u xs]) K = some r) : o.wp P a w (Good st K r) Q := by
  obtain ⟨e, he, ⟨ii, z, e1, e2, e3, e4, e5⟩⟩ := ti_slice hT hu0
  simp only [Bool.and_eq_true] at hn
  have hn1 : ps.toList.length = n := Nat.eq_of_beq_eq_true hn.1
  have hn2 : n * u.cells ≤ 16777216 := Nat.le_of_ble_eq_true hn.2
  obtain ⟨g1, vs, h1, hso, v1, v2, v3, v4, v5, v6, v7⟩ := rowPartsO_ok ps.toList 0 h hp
  have hparts : (ps.map fun (i, x) => (i, a.eval x)).toList = (vs.zipIdx 0).map (fun x => (x.2, x.1)) := by
    rw [Array.toList_map]; exact v1
  have hvn : vs.length = n := by rw [v2, hn1]
  have hxn : xs.length = n := by rw [v3, hn1]
  have key : ∃ arr, (execOp a.eval o).run P w = .ok (.value (.slice (some ⟨w.heap.size, 0, none⟩) n n)) (w.alloc (.cells arr e)) ∧ arr.size = n * u.cells ∧ (∀ i x, xs[i]? = some x → ∃ ecs, rep w (g1.SO w (.air 0)) u x ecs ∧ ∀ (j : Nat) (c : Value), ecs[j]? = some c → arr[i * u.cells + j]? = some c) ∧ Apart arr (n * u.cells) w.heap.size := by
    by_cases h0 : n = 0
    · subst h0
      have hvs : vs = [] := List.eq_nil_of_length_eq_zero hvn
      have hxs : xs = [] := List.eq_nil_of_length_eq_zero hxn
      subst hvs hxs
      refine ⟨#[], ?_, by simp, fun i x hx => by simp at hx, fun o1 o2 a1 a2 n1 c1 n2 c2 h1 => by omega, fun o ad n1 c1 h1 => by omega⟩
      have hps : ps.toList = [] := List.eq_nil_of_length_eq_zero hn1
      simp only [execOp, ho, Sem.run_bind]
      simp [Instr.buildSlice, run_underlying he, sizeOf, typeInfo, e1, hps, Instr.fill, newRow, Array.range_zero', Result.andThen]
    · have hpos := cells_pos u
      have hne : n * u.cells ≠ 0 := by have := Nat.mul_pos (Nat.pos_of_ne_zero h0) hpos; omega
      have hfill := Great.fill_whole hpos vs ((Array.range (n * ii.size)).map (z.cells[· % z.cells.size]!)) v4 (by simp [hvn, e2])
      refine ⟨(vs.flatMap fun v => v.cells.toList).toArray, ?_, ?_, fun i x hx => ?_, ?_⟩
      · simp only [execOp, ho, Sem.run_bind]
        rw [run_buildSlice w t e n _ _ ii z he e1 e4 (by rw [e2]; omega) (by rw [e2]; exact hne) (by rw [hparts, e2, ← hfill, e2])]
        rfl
      · simp only [List.size_toArray]
        rw [← hvn]
        clear hparts hfill v5 v6 v7 v2 hvn v1
        induction vs with
        | nil => simp
        | cons v vs ih =>
          rw [List.flatMap_cons, List.length_append, ih (fun v hv => v4 v (List.mem_cons_of_mem _ hv)), List.length_cons, Nat.add_mul]
          have := v4 v List.mem_cons_self
          simp only [Array.length_toList]
          omega
      · obtain ⟨v, q1, q2⟩ := v5 i x hx
        refine ⟨_, q2, fun j c hj => ?_⟩
        have hjl : j < u.cells := by
          have := (List.getElem?_eq_some_iff.1 hj).1
          rw [rep_length q2] at this; exact this
        simp only [List.getElem?_toArray]
        rw [Great.flat_get hpos vs v4]
        have d1 : (i * u.cells + j) / u.cells = i := by
          rw [Nat.mul_comm, Nat.mul_add_div hpos, Nat.div_eq_of_lt hjl]; omega
        have d2 : (i * u.cells + j) % u.cells = j := by
          rw [Nat.mul_comm, Nat.mul_add_mod, Nat.mod_eq_of_lt hjl]
        rw [d1, d2, q1]
        simpa using hj
      · have at_ : ∀ (o : Nat) (v : Value), (vs.flatMap fun v => v.cells.toList).toArray[o]? = some v → ∃ v0, vs[o / u.cells]? = some v0 ∧ v0.cells.toList[o % u.cells]? = some v := fun o v ho => by
          simp only [List.getElem?_toArray] at ho
          rw [Great.flat_get hpos vs v4] at ho
          cases hv : vs[o / u.cells]? with
          | none => rw [hv] at ho; simp at ho
          | some v0 => rw [hv] at ho; exact ⟨v0, rfl, by simpa using ho⟩
        refine ⟨fun o1 o2 a1 a2 n1 c1 n2 c2 _ _ hne k1 k2 _ _ => ?_, fun o ad n1 c1 _ k1 _ => ?_⟩
        · obtain ⟨w1, p1, p2⟩ := at_ o1 _ k1
          obtain ⟨w2, p3, p4⟩ := at_ o2 _ k2
          refine v6 _ _ _ _ w1 w2 a1 a2 n1 c1 n2 c2 p1 p3 ?_ p2 p4
          by_cases e1 : o1 / u.cells = o2 / u.cells
          · right
            intro e2
            exact hne (by rw [← Nat.div_add_mod o1 u.cells, ← Nat.div_add_mod o2 u.cells, e1, e2])
          · exact .inl e1
        · obtain ⟨w1, p1, p2⟩ := at_ o _ k1
          have := (v7 _ _ w1 ad n1 c1 p1 p2).2
          omega
  obtain ⟨arr, k1, k2, k3, k4⟩ := key
  have hmax : n ≤ maxLen := by
    have := Nat.le_mul_of_pos_right n (cells_pos u)
    simp only [maxLen]; omega
  obtain ⟨ok, hr⟩ := newRow_okD (w' := w.alloc (.cells arr e)) (e := e) h1 rfl rfl rfl rfl (t := u) (xs := xs) (cap := n) (by omega) hmax k2 k3 (by rw [hxn]; exact k4)
  rw [hxn] at hr ok
  exact wp_value k1 (fin_row hX ok hr hf)
theorem rep_head {S : Nat → Nat → Prop} : ∀ {t : Ty} {x : Den t} {cs : List Value}, rep w S t x cs → ∀ u ∈ cs, ∀ (ad : Addr) (n c : Nat), u = .slice (some ad) n c → 0 < n → ∃ oo, S ad.block oo
  | .int _, _, _, h, u, hu, ad, n, c, e, _ => by simp only [rep] at h; subst h; simp at hu; subst hu; cases e
  | .bool, _, _, h, u, hu, ad, n, c, e, _ => by simp only [rep] at h; subst h; simp at hu; subst hu; cases e
  | .str, _, _, h, u, hu, ad, n, c, e, _ => by simp only [rep] at h; subst h; simp at hu; subst hu; cases e
  | .pair a b, _, _, h, u, hu, ad, n, c, e, hn => by
    simp only [rep] at h
    obtain ⟨c1, d1, rfl, h1, h2⟩ := h
    rcases List.mem_append.1 hu with hu | hu
    · exact rep_head h1 u hu ad n c e hn
    · exact rep_head h2 u hu ad n c e hn
  | .sl t, xs, _, h, u, hu, ad, n, c, e, hn => by
    simp only [rep] at h
    obtain ⟨A, cap, rfl, _, h⟩ := h
    simp at hu
    rw [hu] at e
    cases e
    obtain ⟨a', ecs, hA, _, hr, hj⟩ := h 0 xs[0] (List.getElem?_eq_getElem hn)
    cases hA
    have hl : 0 < ecs.length := by rw [rep_length hr]; exact cells_pos t
    exact ⟨_, (hj 0 ecs[0] (List.getElem?_eq_getElem hl)).1⟩
def Heads (g : Gh) (p : Place) (l : List Value) : Prop :=
  (∀ (o1 o2 : Nat) (a1 a2 : Addr) (n1 c1 n2 c2 : Nat), o1 ≠ o2 → l[o1]? = some (.slice (some a1) n1 c1) → l[o2]? = some (.slice (some a2) n2 c2) → 0 < n1 → 0 < n2 → a1.block ≠ a2.block) ∧
  (∀ (o : Nat) (ad : Addr) (n c : Nat), l[o]? = some (.slice (some ad) n c) → 0 < n → g.O ad.block = some p)
theorem heads_src {p : Place} {u : Ty} {ys : List (Den u)} {vy : Value} {news : List Value} (hy : OwnR w g p u ys vy) (hs : Src P w u.cells ys.length vy news) (hl : news.length = ys.length * u.cells) : Heads g p news ∧ ∀ (b cap : Nat), vy = .slice (some ⟨b, 0, none⟩) ys.length cap → ∀ (o : Nat) (ad : Addr) (n c : Nat), news[o]? = some (.slice (some ad) n c) → 0 < n → ad.block ≠ b := by
  rcases hy with ⟨rfl, rfl⟩ | ⟨b, cap, cur, e, rfl, hO, hb, h1, h2, h3, h4, h5⟩
  · have : news = [] := List.eq_nil_of_length_eq_zero (by simpa using hl)
    subst this
    exact ⟨⟨fun o1 o2 a1 a2 n1 c1 n2 c2 _ e => by simp at e, fun o ad n c e => by simp at e⟩, fun b cap _ o ad n c e => by simp at e⟩
  · have hcapm : ys.length * u.cells ≤ cap * u.cells := Nat.mul_le_mul_right _ h1
    have hol : (cur.toList.take (ys.length * u.cells)).length = ys.length * u.cells := by
      have hcl : cur.toList.length = cap * u.cells := by rw [Array.length_toList]; exact h3
      rw [List.length_take, hcl]; omega
    have hrun := run_firstCells_some (P := P) w u.cells ys.length ⟨b, 0, none⟩ ys.length cap (cur.toList.take (ys.length * u.cells)) hol (fun j v hj => by
      rw [List.getElem?_take] at hj
      split at hj
      · rw [Addr.add_mid, Nat.zero_add, cell_of_row w b j cur e (0, 0) hb]
        simpa using hj
      · cases hj)
    obtain ⟨A, cap', hv, hrun2⟩ := hs
    have hrun2 := hrun2 w rfl
    rw [hrun] at hrun2
    have hnews : news = cur.toList.take (ys.length * u.cells) := by
      simp only [Result.ok.injEq] at hrun2
      have := congrArg Array.toList hrun2.1
      simpa using this.symm
    have hcur : ∀ (o : Nat) (v : Value), news[o]? = some v → o < ys.length * u.cells ∧ cur[o]? = some v := fun o v ho => by
      rw [hnews, List.getElem?_take] at ho
      split at ho
      · rename_i hlt; exact ⟨hlt, by simpa using ho⟩
      · cases ho
    refine ⟨⟨fun o1 o2 a1 a2 n1 c1 n2 c2 hne k1 k2 p1 p2 => ?_, fun o ad n c k1 p1 => ?_⟩, fun b' cap' hb' o ad n c k1 p1 => ?_⟩
    · obtain ⟨l1, q1⟩ := hcur _ _ k1
      obtain ⟨l2, q2⟩ := hcur _ _ k2
      exact h5.2.1 o1 o2 a1 a2 n1 c1 n2 c2 l1 l2 hne q1 q2 p1 p2
    · obtain ⟨l1, q1⟩ := hcur _ _ k1
      have hp := cells_pos u
      have hi : o / u.cells < ys.length := (Nat.div_lt_iff_lt_mul hp).2 l1
      obtain ⟨ecs, hr, hc⟩ := h4 (o / u.cells) ys[o / u.cells] (List.getElem?_eq_getElem hi)
      have hj : o % u.cells < ecs.length := by rw [rep_length hr]; exact Nat.mod_lt _ hp
      have hcc := hc (o % u.cells) ecs[o % u.cells] (List.getElem?_eq_getElem hj)
      rw [Nat.mul_comm, Nat.div_add_mod] at hcc
      rw [hcc] at q1
      obtain ⟨oo, hso⟩ := rep_head hr _ (List.getElem_mem hj) ad n c (Option.some.inj q1) p1
      exact hso.2.1
    · obtain ⟨l1, q1⟩ := hcur _ _ k1
      cases hb'
      exact h5.2.2 o ad n c l1 q1 p1
theorem apart_cat {olds news : List Value} {arr : Array Value} {nx ny b : Nat} (h1 : Heads g (.air 0) olds) (h2 : Heads g (.air 1) news) (l1 : olds.length = nx) (l2 : news.length = ny) (ha : ∀ o, o < nx + ny → arr[o]? = (olds ++ news)[o]?)
    (hb : ∀ (o : Nat) (ad : Addr) (n c : Nat), (olds ++ news)[o]? = some (.slice (some ad) n c) → 0 < n → ad.block ≠ b) : Apart arr (nx + ny) b := by
  refine ⟨fun o1 o2 a1 a2 n1 c1 n2 c2 q1 q2 hne k1 k2 p1 p2 => ?_, fun o ad n c q k p => hb o ad n c (by rw [← ha o q]; exact k) p⟩
  rw [ha o1 q1] at k1
  rw [ha o2 q2] at k2
  by_cases e1 : o1 < nx <;> by_cases e2 : o2 < nx
  · rw [List.getElem?_append_left (by omega)] at k1 k2
    exact h1.1 o1 o2 a1 a2 n1 c1 n2 c2 hne k1 k2 p1 p2
  · rw [List.getElem?_append_left (by omega)] at k1
    rw [List.getElem?_append_right (by omega)] at k2
    have f1 := h1.2 _ _ _ _ k1 p1
    have f2 := h2.2 _ _ _ _ k2 p2
    intro e; rw [e, f2] at f1; simp at f1
  · rw [List.getElem?_append_right (by omega)] at k1
    rw [List.getElem?_append_left (by omega)] at k2
    have f1 := h2.2 _ _ _ _ k1 p1
    have f2 := h1.2 _ _ _ _ k2 p2
    intro e; rw [e, f2] at f1; simp at f1
  · rw [List.getElem?_append_right (by omega)] at k1 k2
    exact h2.1 (o1 - olds.length) (o2 - olds.length) a1 a2 n1 c1 n2 c2 (by omega) k1 k2 p1 p2
theorem append_runD (hT : TabOk P X) {g0 : Gh} (h0 : Ok st g0 fr a w) {t : TypeId} {u : Ty} (hu0 : X.sl t = some u) {ty : TypeId} {xs ys : List (Den u)} {vs vy : Value} (hsA : OwnR w g0 (.air 0) u xs vs) (hyA : OwnR w g0 (.air 1) u ys vy) (hlim : xs.length + ys.length < lim u) :
    ∃ v' w' g', (Builtin.append_ #[t, t] ty #[vs, vy]).run P w = .ok v' w' ∧ Ok st g' fr a w' ∧ rel w' g' (isBox fr) (.air 0) (.tmpo u (xs ++ ys)) v' := by
  obtain ⟨g, hg⟩ : ∃ g, g = g0.fuse := ⟨_, rfl⟩
  have h : Ok st g fr a w := by rw [hg]; exact fuse_ok h0
  have hs : OwnR w g (.air 0) u xs vs := by rw [hg]; exact hsA.fuse
  have hyo : OwnR w g (.air 0) u ys vy := by rw [hg]; exact hyA.fuse
  have hy : RS w (g.SO w (.air 0)) u ys vy := hyo.readsO
  obtain ⟨e, he, ⟨ii, z, e1, e2, e3, e4, e5⟩⟩ := ti_slice hT hu0
  obtain ⟨news, s1, s2, s3, s4⟩ := src_of (P := P) hy
  have hpos := cells_pos u
  have hb48 := bytes_lim hlim e3
  have hmx := lim_max hlim
  have hz : z.cells.size = u.cells := by
    have := congrArg List.length e5
    rw [zeroV_length] at this; simpa using this
  obtain ⟨hN, _⟩ := heads_src (P := P) hyA s1 s2
  rw [← e2] at s1
  -- a new row
  have grow : ∀ (A : Option Addr) (cap : Nat) (olds : List Value), vs = .slice A xs.length cap → Src P w ii.size xs.length vs olds → olds.length = xs.length * u.cells →
      (∀ i x, xs[i]? = some x → ∃ ecs, rep w (g.SO w (.air 0)) u x ecs ∧ ∀ (j : Nat) (c : Value), ecs[j]? = some c → olds[i * u.cells + j]? = some c) → cap < xs.length + ys.length →
      ∃ v' w' g', (Builtin.append_ #[t, t] ty #[vs, vy]).run P w = .ok v' w' ∧ Ok st g' fr a w' ∧ rel w' g' (isBox fr) (.air 0) (.tmpo u (xs ++ ys)) v' := by
    intro A cap olds hv hso hol hox hg
    have hfit := growslice_fits hg hb48
    have hrun := run_append_new (ty := ty) t e ii z he e1 e4 hv hso s1 hg hmx hfit
    have hge := grownCap_ge w (xs.length + ys.length) cap e
    have hcm := grownCap_le_maxLen w (xs.length + ys.length) cap e hmx
    generalize grownCap w (xs.length + ys.length) cap e = C at *
    have hlist : (xs ++ ys).length = xs.length + ys.length := List.length_append
    obtain ⟨ok, hr⟩ := newRow_okD (w' := w.drew.alloc (.cells (olds.toArray ++ news.toArray ++ Builtin.zeroCells z.cells (C - (xs.length + ys.length))) e)) (e := e) h rfl rfl rfl rfl (t := u) (xs := xs ++ ys) (cap := C) (by omega) hcm
      (by
        simp only [Array.size_append, List.size_toArray, hol, s2, size_zeroCells, hz]
        rw [← Nat.add_mul, ← Nat.add_mul]
        congr 1; omega)
      (fun i x hi => by
        obtain ⟨ecs, q1, q2⟩ := elems_append (w' := w) (S' := g.SO w (.air 0)) (rest := (Builtin.zeroCells z.cells (C - (xs.length + ys.length))).toList) hol s2 hox s4 i x hi
        refine ⟨ecs, q1, fun j c hj => ?_⟩
        rw [← q2 j c hj, ← Array.getElem?_toList]
        simp)
      (by
        obtain ⟨hO, _⟩ := heads_src (P := P) hsA (by rw [← e2]; exact hso) hol
        rw [hlist, Nat.add_mul]
        refine apart_cat hO hN hol s2 (fun oo hoo => ?_) (fun oo ad n c k p => ?_)
        · rw [← Array.getElem?_toList]
          simp only [Array.toList_append, List.toList_toArray]
          rw [List.getElem?_append_left (by simp [hol, s2]; omega)]
        · have : ∃ q, g0.O ad.block = some q := by
            by_cases e : oo < olds.length
            · rw [List.getElem?_append_left e] at k; exact ⟨_, hO.2 _ _ _ _ k p⟩
            · rw [List.getElem?_append_right (by omega)] at k; exact ⟨_, hN.2 _ _ _ _ k p⟩
          obtain ⟨q, hq⟩ := this
          have := (h0.own _ _ hq).1
          omega)
    rw [hlist] at hr
    exact ⟨_, _, _, hrun, ok, by rw [hlist]; exact hr⟩
  rcases hs with ⟨rfl, rfl⟩ | ⟨b, cap, cur, e', rfl, hO, hb, h1, h2, h3, h4, h5⟩
  · by_cases hm : ys.length = 0
    · have hys : ys = [] := List.eq_nil_of_length_eq_zero hm
      subst hys
      refine ⟨_, _, g, run_append_nilnil (ty := ty) t e ii he e1 s1 (List.eq_nil_of_length_eq_zero (by simpa using s2)), h, .inl ⟨rfl, rfl⟩, trivial⟩
    · exact grow none 0 [] rfl ⟨none, 0, rfl, fun w' _ => by simp [Builtin.firstCells]⟩ (by simp) (fun i x hx => by simp at hx) (by simp; omega)
  · have hol : (cur.toList.take (xs.length * u.cells)).length = xs.length * u.cells := by
      have : xs.length * u.cells ≤ cap * u.cells := Nat.mul_le_mul_right _ h1
      have hcl : cur.toList.length = cap * u.cells := by rw [Array.length_toList]; exact h3
      rw [List.length_take, hcl]; omega
    have hox : ∀ i x, xs[i]? = some x → ∃ ecs, rep w (g.SO w (.air 0)) u x ecs ∧ ∀ (j : Nat) (c : Value), ecs[j]? = some c → (cur.toList.take (xs.length * u.cells))[i * u.cells + j]? = some c := fun i x hi => by
      obtain ⟨ecs, q1, q2⟩ := h4 i x hi
      refine ⟨ecs, q1, fun j c hj => ?_⟩
      have hjl : j < u.cells := by have := (List.getElem?_eq_some_iff.1 hj).1; rw [rep_length q1] at this; exact this
      have hil := (List.getElem?_eq_some_iff.1 hi).1
      have : (i + 1) * u.cells ≤ xs.length * u.cells := Nat.mul_le_mul_right _ hil
      rw [Nat.add_mul] at this
      rw [List.getElem?_take, if_pos (by omega)]
      simpa using q2 j c hj
    by_cases hroom : xs.length + ys.length ≤ cap
    · have hcapm : (xs.length + ys.length) * u.cells ≤ cap * u.cells := Nat.mul_le_mul_right _ hroom
      rw [Nat.add_mul] at hcapm
      have hfit : xs.length * ii.size + news.length ≤ cur.size := by rw [e2, s2, h3]; omega
      have hrun := run_append_in (ty := ty) (P := P) t e ii he e1 b xs.length cap e' cur hb s1 s3 hroom hfit
      rw [e2] at hrun
      have hlist : (xs ++ ys).length = xs.length + ys.length := List.length_append
      obtain ⟨ok, hr⟩ := moreRow_okD (t := u) (xs := xs) (zs := xs ++ ys) (cap := cap) (arr := (cur.toList.take (xs.length * u.cells) ++ news ++ cur.toList.drop (xs.length * u.cells + news.length)).toArray) h hO hb h5.1
        (by
          have hcl : cur.toList.length = cap * u.cells := by rw [Array.length_toList]; exact h3
          simp only [List.size_toArray, List.length_append, hol, List.length_drop, hcl, h3, s2]; omega)
        (fun oo ho => by
          have : (cur.toList.take (xs.length * u.cells) ++ news ++ cur.toList.drop (xs.length * u.cells + news.length))[oo]? = cur.toList[oo]? := by
            rw [List.append_assoc, List.getElem?_append_left (by rw [hol]; exact ho), List.getElem?_take, if_pos ho]
          simpa using this)
        (by omega) (by omega) h2 h3
        (fun i x hi => by
          obtain ⟨ecs, q1, q2⟩ := elems_append (w' := w) (S' := g.SO w (.air 0)) (rest := cur.toList.drop (xs.length * u.cells + news.length)) hol s2 hox s4 i x hi
          refine ⟨ecs, q1, fun j c hj => ?_⟩
          rw [← q2 j c hj]; simp)
        (by
          have hcell0 : Src P w u.cells xs.length (.slice (some ⟨b, 0, none⟩) xs.length cap) (cur.toList.take (xs.length * u.cells)) := ⟨_, _, rfl, fun w' hw => by
            refine run_firstCells_some (P := P) w' u.cells xs.length ⟨b, 0, none⟩ _ _ _ hol (fun j v hj => ?_)
            rw [List.getElem?_take] at hj
            split at hj
            · rw [Addr.add_mid, Nat.zero_add, cell_of_heap hw, cell_of_row w b j cur e' (0, 0) hb]
              simpa using hj
            · cases hj⟩
          obtain ⟨hO2, hb2⟩ := heads_src (P := P) hsA hcell0 hol
          have hOb : g0.O b = some (.air 0) := by
            rcases hsA with ⟨e, _⟩ | ⟨b', cap', cur', e'', k1, k2, _⟩
            · cases e
            · cases k1; exact k2
          rw [hlist, Nat.add_mul]
          refine apart_cat hO2 hN hol s2 (fun oo hoo => ?_) (fun oo ad n c k p => ?_)
          · simp only [List.getElem?_toArray]
            rw [List.getElem?_append_left (by simp only [List.length_append, hol, s2]; omega)]
          · by_cases e : oo < (cur.toList.take (xs.length * u.cells)).length
            · rw [List.getElem?_append_left e] at k; exact hb2 _ _ rfl _ _ _ _ k p
            · rw [List.getElem?_append_right (by omega)] at k
              have := hN.2 _ _ _ _ k p
              intro e2; rw [e2, hOb] at this; simp at this)
      rw [hlist] at hr ok
      exact ⟨_, _, _, hrun, ok, hr⟩
    · have hcell : ∀ w' : World, w'.heap = w.heap → (Builtin.firstCells ii.size xs.length (.slice (some ⟨b, 0, none⟩) xs.length cap)).run P w' = .ok (cur.toList.take (xs.length * u.cells)).toArray w' := fun w' hw => by
        refine run_firstCells_some (P := P) w' ii.size xs.length ⟨b, 0, none⟩ _ _ _ (by rw [e2]; exact hol) (fun j v hj => ?_)
        rw [List.getElem?_take] at hj
        split at hj
        · rw [Addr.add_mid, Nat.zero_add, cell_of_heap hw, cell_of_row w b j cur e' (0, 0) hb]
          simpa using hj
        · cases hj
      exact grow (some ⟨b, 0, none⟩) cap _ rfl ⟨_, _, rfl, hcell⟩ hol hox (by omega)
theorem append_okD (hT : TabOk P X) (h : Ok st g fr a w) (hX : Fits X st) {c : Call} (ho : o.op = .call c) (hc : c.callee = .builtin .append) {t : TypeId} (hat : c.argTypes.toList = [t, t]) {x y : Operand} (ha : c.args.toList = [x, y]) {u : Ty} (hu0 : X.sl t = some u)
    {cx cy : CV} {fr1 fr2 : Fr} (ht : takeOpd fr x = ((false, [cx]), fr1)) (ht2 : takeOpd fr1 y = ((false, [cy]), fr2)) {xs ys : List (Den u)} (hx : ownAs u cx = some xs) (hy : ownAs u cy = some ys) (hlim : xs.length + ys.length < lim u)
    (hf : fin X fr2 o.dst (.comp false [.tmpo u (xs ++ ys)]) K = some r) : o.wp P a w (Good st K r) Q := by
  obtain ⟨ce, ⟨as⟩, ⟨ts⟩⟩ := c
  simp only at hc hat ha
  subst hc hat ha
  have hsure : ∀ {c : CV} {zs : List (Den u)}, ownAs u c = some zs → c ≠ .dead ∧ c ≠ .undef := fun {c zs} e => by constructor <;> (intro e2; rw [e2] at e; simp [ownAs] at e)
  obtain ⟨g1, t1, hv⟩ := takeOpd_ok h ht 0
  obtain ⟨g2, t2, hv2⟩ := takeOpd_ok t1.ok ht2 1
  have hvx : rel w g1 (isBox fr) (.air 0) cx (a.eval x) := by
    obtain ⟨c', e1, e2⟩ := hv
    simp only [List.cons.injEq, and_true] at e1
    subst e1
    rcases e2 with e2 | ⟨e2, _⟩ | e2
    · exact ((hsure hx).1 e2).elim
    · exact ((hsure hx).2 e2).elim
    · exact e2
  have hvy : rel w g2 (isBox fr1) (.air 1) cy (a.eval y) := by
    obtain ⟨c', e1, e2⟩ := hv2
    simp only [List.cons.injEq, and_true] at e1
    subst e1
    rcases e2 with e2 | ⟨e2, _⟩ | e2
    · exact ((hsure hy).1 e2).elim
    · exact ((hsure hy).2 e2).elim
    · exact e2
  rw [← t1.bx] at hvx
  have hox := ownAs_rel hx (t2.air 0 _ _ hvx)
  have hoy := ownAs_rel hy hvy
  obtain ⟨v', w', g', k1, k2, k3⟩ := append_runD (ty := o.type) hT t2.ok hu0 hox hoy hlim
  refine wp_value (v := v') (w' := w') ?_ (fin_row hX k2 k3 hf)
  simp [execOp, ho, resolve, invoke, builtin, k1, Result.andThen]
end
end Go.Rv
namespace Go.Rv
section
variable {P : Program} {st : St} {g : Gh} {fr : Fr} {a : Act} {w : World} {X : Env} {o : Oper} {R : Type} {K : Fr → Option R} {r : R} {Q : Exit → Act → World → Prop}
theorem Chg.newMap (h : Ok st g fr a w) {w' : World} {ob : Obj} (hh : w'.heap = w.heap.push ob) {d : Nat} (hd : notBox (fr d) = true) {kt vt : Ty} : Chg g (g.newBox w.heap.size d) w w' (isBox fr) (isBox (upd fr d (.mapb kt vt [] none))) (notAt d) (fun _ => True) where
  cB := rfl
  cR := rfl
  cM := rfl
  cZ := rfl
  zS := fun b o hz => (h.zs b o (by rw [← h.eZ]; exact hz)).1
  cbx := fun s hs => by
    unfold isBox at *
    by_cases hsd : s = d
    · subst hsd; rw [upd_same]; rfl
    · rw [upd_ne _ _ _ hsd]; exact hs
  cX := fun s hs => by
    have : s ≠ d := fun e => by subst e; unfold isBox at hs; rw [hd] at hs; cases hs
    simp [Gh.newBox, this]
  cS := fun b o hs => ⟨hs, World.cell?_of_block (w := w) (heap_push_old hh (h.stab b o hs))⟩
  cL := fun b hl => heap_push_old hh (by have := h.heap; have := hl.1; rw [h.eB] at this; omega)
  cO := fun b p hp hO => by
    have hb := (h.own b p hO).1
    refine ⟨?_, heap_push_old hh hb, fun oo => Iff.rfl⟩
    simp only [Gh.newBox]
    rw [if_neg (by omega), hO]
    cases p with
    | air k => rfl
    | «at» s i c => have : s ≠ d := hp; simp [this]
  cH := fun s c u _ hu => by
    simp only [Gh.newBox] at hu
    split at hu
    · cases hu
    · exact hu
  cHp := fun s i c hp => by
    have : s ≠ d := hp
    simp [Gh.newBox, this]
theorem newMap_ok (h : Ok st g fr a w) {w' : World} (hh : w'.heap = w.heap.push (.map #[] 0)) (hos : w'.os = w.os) (htp : w'.tape = w.tape) (hout : w'.output = w.output)
    {d : Nat} (hd : d < st.n) (hb : notBox (fr d) = true) (hk : d ∉ st.keep) {kt vt : Ty} :
    Ok st (g.newBox w.heap.size d) (upd fr d (.mapb kt vt [] none)) (a.put (some d) (.map (some w.heap.size))) w' := by
  have hc := Chg.newMap (kt := kt) (vt := vt) h hh hb
  have hnew := heap_push_new hh
  exact {
    eB := h.eB, eR := h.eR, eM := h.eM, eZ := h.eZ
    size := by rw [put_tmps]; simp [h.size]
    defers := h.defers
    slot := fun s => by
      by_cases hs : s = d
      · subst hs
        rw [upd_same, put_getD_same _ (by rw [h.size]; exact hd)]
        exact ⟨w.heap.size, by simp [Gh.newBox], by simp [Gh.newBox], ⟨#[], 0, hnew, rfl, List.nodup_nil, fun p hp => by simp at hp, List.nodup_nil, fun p hp => by simp at hp⟩, rfl⟩
      · rw [upd_ne fr d _ hs, put_getD_ne a _ hs]
        exact hc.kSlot (fun i c => hs) (fun e => by simp [isBox, e]) (fun _ _ => trivial) (h.slot s)
    keep := fun j hj => by
      have : j ≠ d := fun e => hk (e ▸ hj)
      rw [put_tmps, Array.getElem?_setIfInBounds_ne (Ne.symm this)]
      exact h.keep j hj
    os := hos.trans h.os, tape := htp.trans h.tape, output := hout.trans h.output
    heap := by rw [hh]; simp; have := h.heap; omega
    old := fun b hb hm => (heap_push_old hh (by have := h.heap; omega)).trans (h.old b hb hm)
    own := fun b p hO => by
      simp only [Gh.newBox] at hO
      split at hO
      · rename_i e; subst e
        exact ⟨by rw [hh]; simp, fun hlt => by have := h.heap; omega⟩
      · cases hOb : g.O b with
        | none => rw [hOb] at hO; cases hO
        | some q =>
          have := h.own b q hOb
          exact ⟨by rw [hh]; simp; omega, this.2⟩
    stab := fun b oo hs => by have := h.stab b oo hs; rw [hh]; simp; omega
    boxS := fun b s hO oo hs => by
      have hlt := h.stab b oo hs
      simp only [Gh.newBox] at hO
      rw [if_neg (by omega)] at hO
      cases hOb : g.O b with
      | none => rw [hOb] at hO; cases hO
      | some q =>
        rw [hOb] at hO
        cases q with
        | air k => cases hO
        | «at» s' i c =>
          simp only at hO
          split at hO
          · cases hO
          · cases hO
            exact h.boxS b s hOb oo hs
    zs := h.zs
    sz := h.sz
    hh := fun s c u hu => by
      simp only [Gh.newBox] at hu
      split at hu
      · cases hu
      · exact h.hh s c u hu }
theorem fin_map (hX : Fits X st) (h : Ok st g fr a w) {w' : World} (hh : w'.heap = w.heap.push (.map #[] 0)) (hos : w'.os = w.os) (htp : w'.tape = w.tape) (hout : w'.output = w.output)
    {kt vt : Ty}
    {d : Nat} (hf : fin X fr (some d) (.mapb kt vt [] none) K = some r) : Good st K r (a.put (some d) (.map (some w.heap.size))) w' := by
  simp only [fin] at hf
  cases hs : setD X fr d (.mapb kt vt [] none) with
  | none => rw [hs] at hf; cases hf
  | some fr1 =>
    rw [hs] at hf
    obtain ⟨h1, h2, h3, rfl⟩ := setD_some hX hs
    exact ⟨_, _, newMap_ok h hh hos htp hout h1 h2 h3, hf⟩
theorem makeMap_ok (h : Ok st g fr a w) (hX : Fits X st) {t : TypeId} (ho : o.op = .makeMap t none) {kt vt : Ty} {d : Nat} (hd : o.dst = some d) (hf : fin X fr (some d) (.mapb kt vt [] none) K = some r) : o.wp P a w (Good st K r) Q := by
  refine wp_value (v := .map (some w.heap.size)) (w' := w.alloc (.map #[] 0)) ?_ ?_
  · simp only [execOp, ho, Option.map_none]
    rfl
  · rw [hd]
    exact fin_map (w' := w.alloc (.map #[] 0)) hX h rfl rfl rfl rfl hf
theorem mapSet_ok (h : Ok st g fr a w) {s b : Nat} {k v : Ty} {xs ys : List (Den k × Den v)} (hs : fr s = .mapb k v xs none) (hX : g.X s = some b) (hO : g.O b = some (.at s 0 0)) {w' : World} (hoth : ∀ b', b' ≠ b → w'.heap[b']? = w.heap[b']?)
    (hsz : w'.heap.size = w.heap.size) (hos : w'.os = w.os) (htp : w'.tape = w.tape) (hout : w'.output = w.output) (hm : MapIs w' b k v ys) : Ok st g (upd fr s (.mapb k v ys none)) a w' := by
  have hown := h.own b _ hO
  have hne : ∀ b', b' < st.B → ¬ st.M b' → b' ≠ b := fun b' h1 h2 e => by subst e; exact h2 (hown.2 h1)
  have hbx : isBox (upd fr s (.mapb k v ys none)) = isBox fr := by
    funext q
    unfold isBox
    by_cases hq : q = s
    · subst hq; rw [upd_same, hs]; rfl
    · rw [upd_ne _ _ _ hq]
  have hc : Chg g g w w' (isBox fr) (isBox fr) (fun p => p ≠ .at s 0 0) (fun _ => True) := {
    cB := rfl, cR := rfl, cM := rfl, cZ := rfl
    zS := fun b o hz => (h.zs b o (by rw [← h.eZ]; exact hz)).1
    cbx := fun s hs => hs
    cX := fun s _ => rfl
    cS := fun b' oo hs' => ⟨hs', World.cell?_of_block (w := w) (hoth b' (fun e => by subst e; exact h.boxS _ s hO oo hs'))⟩
    cL := fun b' hl => hoth b' (hne b' (by rw [← h.eB]; exact hl.1) (by rw [← h.eM]; exact hl.2))
    cO := fun b' p hp hO' => by
      have hbb : b' ≠ b := fun e => by subst e; rw [hO] at hO'; cases hO'; exact hp rfl
      exact ⟨hO', hoth b' hbb, fun _ => Iff.rfl⟩
    cH := fun _ _ _ _ hu => hu
    cHp := fun _ _ _ _ => rfl }
  exact {
    eB := h.eB, eR := h.eR, eM := h.eM, eZ := h.eZ, size := h.size, defers := h.defers, keep := h.keep
    slot := fun q => by
      rw [hbx]
      by_cases hq : q = s
      · subst hq
        rw [upd_same]
        have hsl := h.slot q
        rw [hs] at hsl
        obtain ⟨b', q1, q2, _, q4⟩ := hsl
        rw [hX] at q1
        cases q1
        exact ⟨b, hX, hO, hm, q4⟩
      · rw [upd_ne _ _ _ hq]
        exact hc.kSlot (fun i k e => by cases e; exact hq rfl) (fun e => by simp [isBox, e]) (fun _ _ => trivial) (h.slot q)
    os := hos.trans h.os, tape := htp.trans h.tape, output := hout.trans h.output
    heap := by rw [hsz]; exact h.heap
    old := fun b' hb' hm' => (hoth b' (hne b' hb' hm')).trans (h.old b' hb' hm')
    own := fun b' p hO' => by rw [hsz]; exact h.own b' p hO'
    stab := fun b' oo hs' => by rw [hsz]; exact h.stab b' oo hs'
    boxS := h.boxS
    zs := h.zs
    sz := h.sz
    hh := h.hh }
end
end Go.Rv
namespace Go.Rv
variable {w : World} {g : Gh} {bx : Nat → Bool}
theorem pack_enc {pl : Nat → Place} : ∀ {t : Ty}, kflat t = true → ∀ {cs rest : List CV} {y : Den t} {vs : List Value}, pack t cs = some (y, rest) → vs.length = cs.length → (∀ (j : Nat) (c : CV), cs[j]? = some c → ∃ u : Value, vs[j]? = some u ∧ ∃ p, rel w g bx p c u) →
    ∃ ws, vs = encF t y ++ ws ∧ ws.length = rest.length ∧ ∀ (j : Nat) (c : CV), rest[j]? = some c → ∃ u : Value, ws[j]? = some u ∧ ∃ p, rel w g bx p c u
  | .pair a b, hf, cs, rest, y, vs, hp, hl, hr => by
    simp only [kflat, Bool.and_eq_true] at hf
    simp only [pack] at hp
    split at hp
    case h_2 => cases hp
    rename_i x1 r1 h1
    split at hp
    case h_2 => cases hp
    rename_i x2 r2 h2
    cases hp
    obtain ⟨ws1, rfl, l1, q1⟩ := pack_enc (pl := pl) hf.1 h1 hl hr
    obtain ⟨ws2, rfl, l2, q2⟩ := pack_enc (pl := pl) hf.2 h2 l1 q1
    exact ⟨ws2, by simp [encF], l2, q2⟩
  | .int k, _, cs, rest, y, vs, hp, hl, hr => by
    cases cs with
    | nil => simp [pack] at hp
    | cons c cs =>
      cases vs with
      | nil => simp at hl
      | cons v vs =>
        obtain ⟨u, e1, p, e2⟩ := hr 0 c rfl
        simp at e1; subst e1
        cases c <;> simp only [pack] at hp <;> first | (cases hp; done) | skip
        split at hp
        case isFalse => cases hp
        rename_i e
        subst e
        cases hp
        have e2 : v = _ := e2
        subst e2
        exact ⟨vs, rfl, by simpa using hl, fun j c hj => by simpa using hr (j + 1) c (by simpa using hj)⟩
  | .bool, _, cs, rest, y, vs, hp, hl, hr => by
    cases cs with
    | nil => simp [pack] at hp
    | cons c cs =>
      cases vs with
      | nil => simp at hl
      | cons v vs =>
        obtain ⟨u, e1, p, e2⟩ := hr 0 c rfl
        simp at e1; subst e1
        cases c <;> simp only [pack] at hp <;> first | (cases hp; done) | skip
        cases hp
        have e2 : v = _ := e2
        subst e2
        exact ⟨vs, rfl, by simpa using hl, fun j c hj => by simpa using hr (j + 1) c (by simpa using hj)⟩
  | .str, _, cs, rest, y, vs, hp, hl, hr => by
    cases cs with
    | nil => simp [pack] at hp
    | cons c cs =>
      cases vs with
      | nil => simp at hl
      | cons v vs =>
        obtain ⟨u, e1, p, e2⟩ := hr 0 c rfl
        simp at e1; subst e1
        cases c <;> simp only [pack] at hp <;> first | (cases hp; done) | skip
        cases hp
        have e2 : v = _ := e2
        subst e2
        exact ⟨vs, rfl, by simpa using hl, fun j c hj => by simpa using hr (j + 1) c (by simpa using hj)⟩
theorem FRel_enc {t : Ty} (hf : kflat t = true) {p : Comp} {v : Value} (h : FRel w g bx p v) {y : Den t} (hp : pack t p.2 = some (y, [])) (hb : p.1 = isPairT t) : v = encV t y := by
  have hs : p.1 = true ∨ p.2.all sure = true := by
    cases t with
    | pair a b => exact .inl hb
    | sl => cases hf
    | _ =>
      refine .inr ?_
      obtain ⟨b, cs⟩ := p
      cases cs with
      | nil => rfl
      | cons c r => cases c <;> simp only [pack] at hp <;> first | (cases hp; done) | skip
                    all_goals first | (cases hp; rfl) | (split at hp <;> cases hp; rfl)
  obtain ⟨c1, c2⟩ := comp_cells h hs
  obtain ⟨ws, e1, e2, _⟩ := pack_enc (pl := fun _ => .air 0) hf hp c1 (fun j c hj => by obtain ⟨u, q1, q2⟩ := c2 j c hj; exact ⟨u, q1, .air 0, q2 _⟩)
  have hws : ws = [] := by cases ws with | nil => rfl | cons => simp at e2
  subst hws
  obtain ⟨b, cs⟩ := p
  obtain ⟨_, h⟩ := h
  cases t with
  | sl => cases hf
  | pair a b' =>
    simp only [isPairT] at hb
    subst hb
    obtain ⟨vs, rfl, _, _⟩ := h
    have : vs = encF (.pair a b') y := by simpa [Value.cells] using e1
    subst this
    rfl
  | int k =>
    simp only [isPairT] at hb
    subst hb
    cases cs with
    | nil => simp [pack] at hp
    | cons c r =>
      obtain ⟨c', e, h⟩ := h
      cases e
      cases c <;> simp only [pack] at hp <;> first | (cases hp; done) | skip
      split at hp
      case isFalse => cases hp
      rename_i e
      subst e
      cases hp
      rcases h with h | h | h
      · cases h
      · cases h.1
      · exact h
  | bool =>
    simp only [isPairT] at hb
    subst hb
    cases cs with
    | nil => simp [pack] at hp
    | cons c r =>
      obtain ⟨c', e, h⟩ := h
      cases e
      cases c <;> simp only [pack] at hp <;> first | (cases hp; done) | skip
      cases hp
      rcases h with h | h | h
      · cases h
      · cases h.1
      · exact h
  | str =>
    simp only [isPairT] at hb
    subst hb
    cases cs with
    | nil => simp [pack] at hp
    | cons c r =>
      obtain ⟨c', e, h⟩ := h
      cases e
      cases c <;> simp only [pack] at hp <;> first | (cases hp; done) | skip
      cases hp
      rcases h with h | h | h
      · cases h
      · cases h.1
      · exact h
end Go.Rv
namespace Go.Rv
variable {P : Program} {st : St} {g : Gh} {fr : Fr} {a : Act} {w : World} {X : Env} {o : Oper} {R : Type} {K : Fr → Option R} {r : R} {Q : Exit → Act → World → Prop}
theorem insert_ok {t : TypeId} {k v : Ty} (hM : MapTyOk P t k v) (hf : kflat k = true) (hfv : kflat v = true) (h : Ok st g fr a w) {m kx vx : Operand} (ho : o.op = .insert t m kx vx ∨ o.op = .mapUpdate t m kx vx) (hd : o.dst = none) {s : Nat} {xs : List (Den k × Den v)} (hm : opc fr m = .mptr s) (hs : fr s = .mapb k v xs none)
    {x : Den k} (hk : pack k (opd fr kx).2 = some (x, [])) (hk1 : (opd fr kx).1 = isPairT k) {y : Den v} (hv : pack v (opd fr vx).2 = some (y, [])) (hv1 : (opd fr vx).1 = isPairT v) (hkw : kwf k x = true) (hK : K (upd fr s (.mapb k v (mput x y xs) none)) = some r) : o.wp P a w (Good st K r) Q := by
  have hsl := h.slot s
  rw [hs] at hsl
  obtain ⟨b, q1, q2, q3, q4⟩ := hsl
  obtain ⟨_, hmr⟩ := opc_rel h hm (by simp) (by simp)
  obtain ⟨_, b', q1', hmv⟩ := hmr
  rw [q1] at q1'
  cases q1'
  obtain ⟨es', clock', e1, e2⟩ := run_put hM hf q3 x hkw y
  have hb : b < w.heap.size := by obtain ⟨es, c, z, _⟩ := q3; exact (Array.getElem?_eq_some_iff.1 z).1
  have hkv := FRel_enc hf (opd_ok h kx) hk hk1
  have hvv := FRel_enc hfv (opd_ok h vx) hv hv1
  refine wp_skipped (w' := Go.ChangeMaps.setBlock w b (.map es' clock')) (by rcases ho with ho | ho <;> simp only [execOp, ho, hmv, hkv, hvv, Sem.run_bind, e1, Result.andThen_ok, Sem.run_pure]) ?_
  rw [hd]
  exact ⟨g, _, mapSet_ok h hs q1 q2 (fun b' hb' => by simp [Go.ChangeMaps.setBlock, Array.getElem?_setIfInBounds_ne (Ne.symm hb')]) (by simp [Go.ChangeMaps.setBlock]) rfl rfl rfl e2, hK⟩
theorem putOp_ok (hT : TabOk P X) {t : TypeId} (h : Ok st g fr a w) {m kx vx : Operand} (ho : o.op = .insert t m kx vx ∨ o.op = .mapUpdate t m kx vx) (hs : putOp X t fr m kx vx o.dst K = some r) : o.wp P a w (Good st K r) Q := by
  unfold putOp at hs
  split at hs
  next s hm =>
    split at hs
    next k v xs hf =>
      split at hs
      next x y hk hv =>
        cases hb : (decide (X.mp.lookup t = some (k, v)) && ((opd fr kx).1 == isPairT k && ((opd fr vx).1 == isPairT v && o.dst.isNone)))
        · rw [hb] at hs; cases hs
        · rw [hb] at hs
          simp only [Bool.and_eq_true, decide_eq_true_eq, beq_iff_eq, Option.isNone_iff_eq_none] at hb
          obtain ⟨b1, b2, b3, b4⟩ := hb
          obtain ⟨c1, c2, c3⟩ := hT.maps t k v b1
          simp only [cond_true] at hs
          split at hs
          case isFalse => cases hs
          rename_i hkw
          exact insert_ok c1 c2 c3 h ho b4 hm hf hk b2 hv b3 hkw hs
      next => cases hs
    next => cases hs
  next => cases hs
end Go.Rv
namespace Go.Rv
theorem unpackF_len {o : Bool} : ∀ {t : Ty}, kflat t = true → ∀ (x : Den t), (unpack o t x).length = (encF t x).length
  | .int _, _, _ => rfl
  | .bool, _, _ => rfl
  | .str, _, _ => rfl
  | .pair a b, hf, x => by
    simp only [kflat, Bool.and_eq_true] at hf
    simp [unpack, encF, unpackF_len hf.1, unpackF_len hf.2]
theorem enc_cells {w : World} {g : Gh} {bx : Nat → Bool} {p : Nat → Place} {o : Bool} : ∀ {t : Ty}, kflat t = true → ∀ (x : Den t) (j : Nat) (c : CV), (unpack o t x)[j]? = some c → ∃ u : Value, (encF t x)[j]? = some u ∧ ∀ q, rel w g bx q c u
  | .int _, _, x, j, c, h => by cases j <;> simp [unpack] at h; subst h; exact ⟨_, rfl, fun q => rfl⟩
  | .bool, _, x, j, c, h => by cases j <;> simp [unpack] at h; subst h; exact ⟨_, rfl, fun q => rfl⟩
  | .str, _, x, j, c, h => by cases j <;> simp [unpack] at h; subst h; exact ⟨_, rfl, fun q => rfl⟩
  | .pair a b, hf, x, j, c, h => by
    simp only [kflat, Bool.and_eq_true] at hf
    simp only [unpack, encF] at h ⊢
    by_cases hj : j < (unpack o a x.1).length
    · rw [List.getElem?_append_left hj] at h
      rw [List.getElem?_append_left (by rw [← unpackF_len (o := o) hf.1]; exact hj)]
      exact enc_cells (p := p) hf.1 x.1 j c h
    · rw [List.getElem?_append_right (by omega)] at h
      rw [List.getElem?_append_right (by rw [← unpackF_len (o := o) hf.1]; omega), ← unpackF_len (o := o) hf.1]
      exact enc_cells (p := p) hf.2 x.2 _ c h
theorem enc_CRel {w : World} {g : Gh} {bx : Nat → Bool} {s i : Nat} {o : Bool} {t : Ty} (hf : kflat t = true) (x : Den t) : CRel w g bx s i (isPairT t, unpack o t x) (encV t x) := by
  cases t with
  | int k => exact ⟨_, rfl, .inr (.inr rfl)⟩
  | bool => exact ⟨_, rfl, .inr (.inr rfl)⟩
  | str => exact ⟨_, rfl, .inr (.inr rfl)⟩
  | sl => cases hf
  | pair a b =>
    refine ⟨encF (.pair a b) x, rfl, (unpackF_len hf x).symm, fun j c hj => ?_⟩
    obtain ⟨u, h1, h2⟩ := enc_cells (w := w) (g := g) (bx := bx) (p := fun _ => .air 0) hf x j c hj
    exact ⟨u, h1, h2 _⟩
variable {P : Program} {st : St} {g : Gh} {fr : Fr} {a : Act} {w : World} {X : Env} {o : Oper} {R : Type} {K : Fr → Option R} {r : R} {Q : Exit → Act → World → Prop}
theorem lookup_ok {t : TypeId} {k v : Ty} (hM : MapTyOk P t k v) (hf : kflat k = true) (hfv : kflat v = true) (h : Ok st g fr a w) (hX : Fits X st) {m kx : Operand} (ho : o.op = .lookup t m kx true) {s : Nat} {xs : List (Den k × Den v)} (hm : opc fr m = .mptr s) (hs : fr s = .mapb k v xs none)
    {x : Den k} (hk : pack k (opd fr kx).2 = some (x, [])) (hk1 : (opd fr kx).1 = isPairT k) (hkw : kwf k x = true) (hK : fin X fr o.dst (.tup [(isPairT v, unpack true v ((mget x xs).getD v.zero)), (false, [.bool (mget x xs).isSome])]) K = some r) : o.wp P a w (Good st K r) Q := by
  have hsl := h.slot s
  rw [hs] at hsl
  obtain ⟨b, q1, q2, q3, q4⟩ := hsl
  obtain ⟨_, hmr⟩ := opc_rel h hm (by simp) (by simp)
  obtain ⟨_, b', q1', hmv⟩ := hmr
  rw [q1] at q1'
  cases q1'
  have hkv := FRel_enc hf (opd_ok h kx) hk hk1
  have hrun := run_look hM hf q3 x hkw
  refine wp_value (v := .tuple #[encV v ((mget x xs).getD v.zero), .bool (mget x xs).isSome]) (w' := w) (by simp only [execOp, ho, hmv, hkv, Sem.run_bind, hrun, Result.andThen_ok, Sem.run_pure]) ?_
  refine fin_ok hX h rfl (fun d _ => ?_) hK
  refine ⟨[encV v ((mget x xs).getD v.zero), .bool (mget x xs).isSome], rfl, rfl, fun i p hi => ?_⟩
  match i with
  | 0 => cases hi; exact ⟨_, rfl, enc_CRel hfv _⟩
  | 1 => cases hi; exact ⟨_, rfl, _, rfl, .inr (.inr rfl)⟩
  | i + 2 => simp at hi
theorem getOp_ok (hT : TabOk P X) {t : TypeId} (h : Ok st g fr a w) (hX : Fits X st) {m kx : Operand} (ho : o.op = .lookup t m kx true) (hs : getOp X t fr m kx o.dst K = some r) : o.wp P a w (Good st K r) Q := by
  unfold getOp at hs
  split at hs
  next s hm =>
    split at hs
    next k v xs hf =>
      split at hs
      next x hk =>
        cases hb : (decide (X.mp.lookup t = some (k, v)) && (opd fr kx).1 == isPairT k)
        · rw [hb] at hs; cases hs
        · rw [hb] at hs
          simp only [Bool.and_eq_true, decide_eq_true_eq, beq_iff_eq] at hb
          obtain ⟨b1, b2⟩ := hb
          obtain ⟨c1, c2, c3⟩ := hT.maps t k v b1
          simp only [cond_true] at hs
          split at hs
          case isFalse => cases hs
          rename_i hkw
          exact lookup_ok c1 c2 c3 h hX ho hm hf hk b2 hkw hs
      next => cases hs
    next => cases hs
  next => cases hs
end Go.Rv
namespace Go.Rv
open Go.ChangeMaps (setBlock)
section
variable {P : Program} {st : St} {g : Gh} {fr : Fr} {a : Act} {w : World} {X : Env} {o : Oper} {R : Type} {K : Fr → Option R} {r : R} {Q : Exit → Act → World → Prop}
def dropP (s : Nat) : CV → CV
  | .ptr s' c => bif s'.beq s then .dead else .ptr s' c
  | .mptr s' => bif s'.beq s then .dead else .mptr s'
  | x => x
theorem dropP_rel {bx bx' : Nat → Bool} {s : Nat} (hb : ∀ q, q ≠ s → bx q = true → bx' q = true) : ∀ {c : CV} {v : Value}, relP w g bx c v → relP w g bx' (dropP s c) v
  | .ptr s' c, v, h => by
    simp only [dropP]
    cases hs : s'.beq s
    · exact ⟨hb s' (fun e => by subst e; rw [Nat.beq_refl] at hs; cases hs) h.1, h.2⟩
    · exact relP_one h
  | .mptr s', v, h => by
    simp only [dropP]
    cases hs : s'.beq s
    · exact ⟨hb s' (fun e => by subst e; rw [Nat.beq_refl] at hs; cases hs) h.1, h.2⟩
    · exact relP_one h
  | .rptr _, _, h => h
  | .hptr _, _, h => h
  | .eptr _ _ _ _ _ _, _, h => h
  | .dead, _, h => h
  | .undef, _, h => h
  | .int _ _, _, h => h
  | .bool _, _, h => h
  | .str _, _, h => h
  | .nils, _, h => h
  | .lo _ _, _, h => h
  | .hi _ _, _, h => h
  | .own _ _, _, h => h
  | .tmpo _ _, _, h => h
  | .ref _ _ _ _, _, h => h
  | .fn _ _, _, h => h
  | .mbox _, _, h => h
  | .mmap _ _ _, _, h => h
theorem drop1_rel {bx bx' : Nat → Bool} {s : Nat} (hb : ∀ q, q ≠ s → bx q = true → bx' q = true) {p : Place} : ∀ {c : CV} {v : Value}, rel w g bx p c v → rel w g bx' p (drop1 s c) v
  | .ptr s' c, v, h => by
    have h1 := dropP_rel (w := w) (g := g) (c := .ptr s' c) hb h
    simp only [dropP] at h1
    simp only [drop1]
    cases hs : s'.beq s <;> rw [hs] at h1 <;> exact h1
  | .mptr s', v, h => by
    have h1 := dropP_rel (w := w) (g := g) (c := .mptr s') hb h
    simp only [dropP] at h1
    simp only [drop1]
    cases hs : s'.beq s <;> rw [hs] at h1 <;> exact h1
  | .fn f caps, v, h => by
    obtain ⟨cs, h1, h2, h3⟩ := h
    refine ⟨cs, h1, by simpa [drop1] using h2, fun j c hj => ?_⟩
    rw [List.getElem?_map] at hj
    cases hc : caps[j]? with
    | none => rw [hc] at hj; simp at hj
    | some c' =>
      rw [hc] at hj
      simp at hj
      subst hj
      obtain ⟨u, e1, e2⟩ := h3 j c' hc
      refine ⟨u, e1, ?_⟩
      have := dropP_rel (w := w) (g := g) hb e2
      cases c' <;> exact this
  | .rptr _, _, h => h
  | .hptr _, _, h => h
  | .eptr _ _ _ _ _ _, _, h => h
  | .dead, _, h => h
  | .undef, _, h => h
  | .int _ _, _, h => h
  | .bool _, _, h => h
  | .str _, _, h => h
  | .nils, _, h => h
  | .lo _ _, _, h => h
  | .hi _ _, _, h => h
  | .own _ _, _, h => h
  | .tmpo _ _, _, h => h
  | .ref _ _ _ _, _, h => h
  | .mbox _, _, h => h
  | .mmap _ _ _, _, h => h
theorem cells_drop {bx bx' : Nat → Bool} {s q i : Nat} (hb : ∀ q, q ≠ s → bx q = true → bx' q = true) {cs : List CV} {vs : List Value} (h : cellsRel w g bx q i cs vs) : cellsRel w g bx' q i (cs.map (drop1 s)) vs := by
  refine ⟨by simpa using h.1, fun j c hj => ?_⟩
  rw [List.getElem?_map] at hj
  cases hc : cs[j]? with
  | none => rw [hc] at hj; simp at hj
  | some c' =>
    rw [hc] at hj
    simp at hj
    subst hj
    obtain ⟨u, e1, e2⟩ := h.2 j c' hc
    exact ⟨u, e1, drop1_rel hb e2⟩
theorem comp_drop {bx bx' : Nat → Bool} {s q i : Nat} (hb : ∀ q, q ≠ s → bx q = true → bx' q = true) : ∀ {p : Comp} {v : Value}, CRel w g bx q i p v → CRel w g bx' q i (p.1, p.2.map (drop1 s)) v
  | (true, cs), v, h => by obtain ⟨vs, h1, h2⟩ := h; exact ⟨vs, h1, cells_drop hb h2⟩
  | (false, cs), v, h => by
    obtain ⟨c, h1, h2⟩ := h
    subst h1
    refine ⟨drop1 s c, rfl, ?_⟩
    rcases h2 with rfl | ⟨rfl, h2⟩ | h2
    · exact .inl rfl
    · exact .inr (.inl ⟨rfl, h2⟩)
    · exact .inr (.inr (drop1_rel hb h2))
theorem slot_drop {bx bx' : Nat → Bool} {s q : Nat} (hb : ∀ q, q ≠ s → bx q = true → bx' q = true) : ∀ {x : SV} {v : Value}, SRel w g bx q x v → SRel w g bx' q (dropS s x) v
  | .comp b cs, v, h => comp_drop (p := (b, cs)) hb h
  | .tup vs, v, h => by
    obtain ⟨us, h1, h2, h3⟩ := h
    refine ⟨us, h1, by simpa using h2, fun i p hi => ?_⟩
    rw [List.getElem?_map] at hi
    cases hc : vs[i]? with
    | none => rw [hc] at hi; simp at hi
    | some p' =>
      rw [hc] at hi
      simp at hi
      subst hi
      obtain ⟨u, e1, e2⟩ := h3 i p' hc
      exact ⟨u, e1, comp_drop hb e2⟩
  | .box cs, v, h => by
    obtain ⟨⟨b, arr, ty, h1, h2, h3, h4⟩, h5⟩ := h
    exact ⟨⟨b, arr, ty, h1, h2, h3, cells_drop hb h4⟩, h5⟩
  | .mapb _ _ _ none, v, h => h
  | .mapb _ _ _ (some _), v, h => h
theorem notBox_drop (s : Nat) (x : SV) : notBox (dropS s x) = notBox x := by
  cases x <;> first | rfl | (rename_i it; cases it <;> rfl)
theorem isBox_giveUp (s : Nat) (fr : Fr) {q : Nat} (hq : q ≠ s) : isBox (giveUp s fr) q = isBox fr q := by
  unfold isBox giveUp
  rw [upd_ne _ _ _ hq, notBox_drop]
theorem giveUp_slot (h : Ok st g fr a w) (s q : Nat) : SRel w g (isBox (giveUp s fr)) q (giveUp s fr q) (a.tmps.getD q undef) := by
  by_cases hq : q = s
  · subst hq
    unfold giveUp
    rw [upd_same]
    exact ⟨.dead, rfl, .inl rfl⟩
  · have := slot_drop (s := s) (bx' := isBox (giveUp s fr)) (fun q' hq' hb => by rw [isBox_giveUp s fr hq']; exact hb) (h.slot q)
    have e : giveUp s fr q = dropS s (fr q) := by
      unfold giveUp
      rw [upd_ne _ _ _ hq]
    rw [e]
    exact this
theorem giveUp_ok (h : Ok st g fr a w) (s : Nat) : Ok st g (giveUp s fr) a w := { h with slot := giveUp_slot h s }
def Gh.mvS (g : Gh) (b d : Nat) : Gh := { g with O := fun b' => if b' = b then some (.at d 0 0) else g.O b', X := fun q => if q = d then some b else g.X q, H := fun q c => if q = d then none else g.H q c }
theorem mv_ok (h : Ok st g fr a w) {s d b : Nat} (hs : fr s = .dead) (hd : d < st.n) (hbx : notBox (fr d) = true) (hk : d ∉ st.keep) (hds : d ≠ s) (hO : g.O b = some (.at s 0 0)) {k v : Ty} {xs : List (Den k × Den v)} (hm : MapIs w b k v xs) :
    Ok st (g.mvS b d) (upd fr d (.mapb k v xs none)) (a.put (some d) (.map (some b))) w := by
  have hc : Chg g (g.mvS b d) w w (isBox fr) (isBox (upd fr d (.mapb k v xs none))) (fun p => notAt d p ∧ p ≠ .at s 0 0) (fun _ => True) := {
    cB := rfl, cR := rfl, cM := rfl, cZ := rfl
    zS := fun b o hz => (h.zs b o (by rw [← h.eZ]; exact hz)).1
    cbx := fun q hq => by
      unfold isBox at *
      by_cases e : q = d
      · subst e; rw [upd_same]; rfl
      · rw [upd_ne _ _ _ e]; exact hq
    cX := fun q hq => by
      have : q ≠ d := fun e => by subst e; unfold isBox at hq; rw [hbx] at hq; cases hq
      simp [Gh.mvS, this]
    cS := fun b o hs => ⟨hs, rfl⟩
    cL := fun b _ => rfl
    cO := fun b' p hp hO' => by
      have hb : b' ≠ b := fun e => by subst e; rw [hO] at hO'; cases hO'; exact hp.2 rfl
      exact ⟨by simp only [Gh.mvS]; rw [if_neg hb]; exact hO', rfl, fun _ => Iff.rfl⟩
    cH := fun q c u _ hu => by
      simp only [Gh.mvS] at hu
      split at hu
      · cases hu
      · exact hu
    cHp := fun q i c hp => by
      have : q ≠ d := hp.1
      simp [Gh.mvS, this] }
  exact {
    eB := h.eB, eR := h.eR, eM := h.eM, eZ := h.eZ
    size := by rw [put_tmps]; simp [h.size]
    defers := h.defers
    slot := fun q => by
      by_cases hq : q = d
      · subst hq
        rw [upd_same, put_getD_same _ (by rw [h.size]; exact hd)]
        exact ⟨b, by simp [Gh.mvS], by simp [Gh.mvS], hm, rfl⟩
      · rw [upd_ne _ _ _ hq, put_getD_ne a _ hq]
        by_cases hqs : q = s
        · subst hqs
          rw [hs]
          exact ⟨.dead, rfl, .inl rfl⟩
        · exact hc.kSlot (fun i c => ⟨hq, fun e => by cases e; exact hqs rfl⟩) (fun e => by simp [isBox, e]) (fun _ _ => trivial) (h.slot q)
    keep := fun j hj => by
      have : j ≠ d := fun e => hk (e ▸ hj)
      rw [put_tmps, Array.getElem?_setIfInBounds_ne (Ne.symm this)]
      exact h.keep j hj
    os := h.os, tape := h.tape, output := h.output, heap := h.heap, old := h.old
    own := fun b' p hO' => by
      simp only [Gh.mvS] at hO'
      split at hO'
      · rename_i e; subst e; exact h.own _ _ hO
      · exact h.own b' p hO'
    stab := h.stab
    boxS := fun b' q hO' oo hs' => by
      simp only [Gh.mvS] at hO'
      split at hO'
      · rename_i e; subst e; exact h.boxS _ s hO oo hs'
      · exact h.boxS b' q hO' oo hs'
    zs := h.zs
    sz := h.sz
    hh := fun q c u hu => by
      simp only [Gh.mvS] at hu
      split at hu
      · cases hu
      · exact h.hh q c u hu }
theorem map_at (h : Ok st g fr a w) {m : Operand} {s : Nat} (hm : opc fr m = .mptr s) {k v : Ty} {xs : List (Den k × Den v)} (hs : fr s = .mapb k v xs none) : ∃ b, g.O b = some (.at s 0 0) ∧ MapIs w b k v xs ∧ a.eval m = .map (some b) := by
  have hsl := h.slot s
  rw [hs] at hsl
  obtain ⟨b, q1, q2, q3, q4⟩ := hsl
  obtain ⟨_, hmr⟩ := opc_rel h hm (by simp) (by simp)
  obtain ⟨_, b', q1', hmv⟩ := hmr
  rw [q1] at q1'
  cases q1'
  exact ⟨b, q2, q3, hmv⟩
theorem ne_of_nbeq {d s : Nat} (h : d.beq s = false) : d ≠ s := fun e => by subst e; rw [Nat.beq_refl] at h; cases h
theorem moveMap_ok (h : Ok st g fr a w) (hX : Fits X st) {x : Operand} (ho : o.op = .assign x) {s : Nat} (hm : opc fr x = .mptr s) (hf : moveMap X fr s o.dst K = some r) : o.wp P a w (Good st K r) Q := by
  unfold moveMap at hf
  split at hf
  case h_2 => cases hf
  rename_i k v xs d hs hd
  cases hb : (X.dr || d.beq s)
  case true => rw [hb] at hf; cases hf
  rw [hb] at hf
  simp only [Bool.or_eq_false_iff] at hb
  obtain ⟨b, q2, q3, q4⟩ := map_at h hm hs
  simp only [cond_false, fin] at hf
  cases hsd : setD X (giveUp s fr) d (.mapb k v xs none) with
  | none => rw [hsd] at hf; cases hf
  | some fr1 =>
    rw [hsd] at hf
    obtain ⟨h1, h2, h3, rfl⟩ := setD_some hX hsd
    refine wp_value (v := .map (some b)) (w' := w) (by simp only [execOp, ho, q4]; rfl) ?_
    rw [hd]
    exact ⟨_, _, mv_ok (s := s) (giveUp_ok h s) (by unfold giveUp; rw [upd_same]) h1 h2 h3 (ne_of_nbeq hb.2) q2 q3, hf⟩
def Gh.rg (g : Gh) (b bm d : Nat) : Gh := { g with O := fun b' => if b' = b then some (.at d 0 1) else if b' = bm then some (.at d 0 2) else g.O b', H := fun q c => if q = d then none else g.H q c }
theorem rg_ok (h : Ok st g fr a w) {s d bm : Nat} (hs : fr s = .dead) (hd : d < st.n) (hbx : notBox (fr d) = true) (hk : d ∉ st.keep) (hO : g.O bm = some (.at s 0 0)) {k v : Ty} {xs : List (Den k × Den v)} {w' : World} {ob : Obj} (hh : w'.heap = w.heap.push ob) (hos : w'.os = w.os) (htp : w'.tape = w.tape) (hout : w'.output = w.output) (hm : IterIs w' w.heap.size bm k v xs none) :
    Ok st (g.rg w.heap.size bm d) (upd fr d (.mapb k v xs (some none))) (a.put (some d) (.pointer (some ⟨w.heap.size, 0, none⟩))) w' := by
  have hbm := h.own bm _ hO
  have hbxE : isBox (upd fr d (.mapb k v xs (some none))) = isBox fr := by
    funext q
    unfold isBox
    by_cases hq : q = d
    · subst hq; rw [upd_same, hbx]; rfl
    · rw [upd_ne _ _ _ hq]
  have hc : Chg g (g.rg w.heap.size bm d) w w' (isBox fr) (isBox fr) (fun p => notAt d p ∧ p ≠ .at s 0 0) (fun _ => True) := {
    cB := rfl, cR := rfl, cM := rfl, cZ := rfl
    zS := fun b o hz => (h.zs b o (by rw [← h.eZ]; exact hz)).1
    cbx := fun q hq => hq
    cX := fun q _ => rfl
    cS := fun b o hs => ⟨hs, World.cell?_of_block (w := w) (heap_push_old hh (h.stab b o hs))⟩
    cL := fun b hl => heap_push_old hh (by have := h.heap; have := hl.1; rw [h.eB] at this; omega)
    cO := fun b' p hp hO' => by
      have hlt := (h.own b' p hO').1
      have hb : b' ≠ bm := fun e => by subst e; rw [hO] at hO'; cases hO'; exact hp.2 rfl
      exact ⟨by simp only [Gh.rg]; rw [if_neg (by omega), if_neg hb]; exact hO', heap_push_old hh hlt, fun _ => Iff.rfl⟩
    cH := fun q c u _ hu => by
      simp only [Gh.rg] at hu
      split at hu
      · cases hu
      · exact hu
    cHp := fun q i c hp => by
      have : q ≠ d := hp.1
      simp [Gh.rg, this] }
  exact {
    eB := h.eB, eR := h.eR, eM := h.eM, eZ := h.eZ
    size := by rw [put_tmps]; simp [h.size]
    defers := h.defers
    slot := fun q => by
      rw [hbxE]
      by_cases hq : q = d
      · subst hq
        rw [upd_same, put_getD_same _ (by rw [h.size]; exact hd)]
        exact ⟨w.heap.size, bm, by simp [Gh.rg], by simp only [Gh.rg]; rw [if_neg (by omega)]; simp, hm, rfl⟩
      · rw [upd_ne _ _ _ hq, put_getD_ne a _ hq]
        by_cases hqs : q = s
        · subst hqs
          rw [hs]
          exact ⟨.dead, rfl, .inl rfl⟩
        · exact hc.kSlot (fun i c => ⟨hq, fun e => by cases e; exact hqs rfl⟩) (fun e => by simp [isBox, e]) (fun _ _ => trivial) (h.slot q)
    keep := fun j hj => by
      have : j ≠ d := fun e => hk (e ▸ hj)
      rw [put_tmps, Array.getElem?_setIfInBounds_ne (Ne.symm this)]
      exact h.keep j hj
    os := hos.trans h.os, tape := htp.trans h.tape, output := hout.trans h.output
    heap := by rw [hh]; simp; have := h.heap; omega
    old := fun b hb hm => (heap_push_old hh (by have := h.heap; omega)).trans (h.old b hb hm)
    own := fun b' p hO' => by
      simp only [Gh.rg] at hO'
      split at hO'
      · rename_i e; subst e; exact ⟨by rw [hh]; simp, fun hlt => by have := h.heap; omega⟩
      · split at hO'
        · rename_i e; subst e; exact ⟨by rw [hh]; simp; omega, hbm.2⟩
        · have := h.own b' p hO'; exact ⟨by rw [hh]; simp; omega, this.2⟩
    stab := fun b oo hs => by have := h.stab b oo hs; rw [hh]; simp; omega
    boxS := fun b' q hO' oo hs' => by
      simp only [Gh.rg] at hO'
      split at hO'
      · cases hO'
      · split at hO'
        · cases hO'
        · exact h.boxS b' q hO' oo hs'
    zs := h.zs
    sz := h.sz
    hh := fun q c u hu => by
      simp only [Gh.rg] at hu
      split at hu
      · cases hu
      · exact h.hh q c u hu }
theorem rangeOp_ok (hT : TabOk P X) (h : Ok st g fr a w) (hX : Fits X st) {t : TypeId} {m : Operand} (ho : o.op = .range t m) {s : Nat} (hm : opc fr m = .mptr s) (hf : rangeOp X t fr s o.dst K = some r) : o.wp P a w (Good st K r) Q := by
  unfold rangeOp at hf
  split at hf
  case h_2 => cases hf
  rename_i k v xs d hs hd
  cases hb : (X.dr || (d.beq s || !decide (X.mp.lookup t = some (k, v))))
  case true => rw [hb] at hf; cases hf
  rw [hb] at hf
  simp only [Bool.or_eq_false_iff, Bool.not_eq_false', decide_eq_true_eq] at hb
  obtain ⟨b, q2, q3, q4⟩ := map_at h hm hs
  obtain ⟨⟨kt, vt, u1, _⟩, _⟩ := hT.maps t k v hb.2.2
  simp only [cond_false, fin] at hf
  cases hsd : setD X (giveUp s fr) d (.mapb k v xs (some none)) with
  | none => rw [hsd] at hf; cases hf
  | some fr1 =>
    rw [hsd] at hf
    obtain ⟨h1, h2, h3, rfl⟩ := setD_some hX hsd
    obtain ⟨es, clock, e1, e2, e3, e4, e5, e6⟩ := q3
    have hlt : b < w.heap.size := (Array.getElem?_eq_some_iff.1 e1).1
    have hrun := run_range_map (P := P) w t kt vt b es clock u1 e1
    refine wp_value (v := .pointer (some ⟨w.heap.size, 0, none⟩)) (w' := w.alloc (.mapIter (some b) clock #[] clock)) (by simp only [execOp, ho, q4, Sem.run_bind, hrun, Result.andThen_ok, Sem.run_pure]) ?_
    rw [hd]
    refine ⟨_, _, rg_ok (w' := w.alloc (.mapIter (some b) clock #[] clock)) (s := s) (giveUp_ok h s) (by unfold giveUp; rw [upd_same]) h1 h2 h3 q2 rfl rfl rfl rfl ?_, hf⟩
    refine ⟨es, clock, clock, #[], clock, ?_, heap_alloc_new w _, ?_, e5, e6, Nat.le_refl _, Nat.le_refl _, fun c hc => by cases hc⟩
    · rw [heap_alloc_old w _ hlt]; exact e1
    · rw [← e2]
      congr 1
      simp only [leftOf, Array.toList_filter]
      exact List.filter_eq_self.2 fun x _ => by simp
theorem allSame_some {α R : Type} {l : List α} {f : α → Option R} {r : R} (h : allSame l f = some r) : ∀ x ∈ l, f x = some r := by
  unfold allSame at h
  split at h
  case isFalse => cases h
  rename_i hh
  cases h
  exact Classical.choose_spec hh.2
theorem picks_mem {α : Type} : ∀ {l : List α} {j : Nat} {x : α}, l[j]? = some x → (x, l.eraseIdx j) ∈ picks l
  | [], _, _, h => by simp at h
  | y :: l, 0, x, h => by simp at h; subst h; simp [picks]
  | y :: l, j + 1, x, h => by
    simp at h
    exact List.mem_cons_of_mem _ (List.mem_map.2 ⟨_, picks_mem h, rfl⟩)
theorem filter_erase : ∀ {l : List MapEntry} {j : Nat} {e : MapEntry}, (l.map (·.born)).Nodup → l[j]? = some e → l.filter (fun x => !(x.born == e.born)) = l.eraseIdx j
  | [], _, _, _, h => by simp at h
  | y :: l, 0, e, hn, h => by
    simp at h
    subst h
    simp only [List.map_cons, List.nodup_cons] at hn
    rw [List.filter_cons_of_neg (by simp)]
    simp only [List.eraseIdx_zero, List.tail_cons]
    refine List.filter_eq_self.2 fun x hx => ?_
    have : x.born ≠ y.born := fun e => hn.1 (List.mem_map.2 ⟨x, hx, e⟩)
    simp [this]
  | y :: l, j + 1, e, hn, h => by
    simp at h
    simp only [List.map_cons, List.nodup_cons] at hn
    have : y.born ≠ e.born := fun e' => hn.1 (List.mem_map.2 ⟨e, List.mem_of_getElem? h, e'.symm⟩)
    rw [List.filter_cons_of_pos (by simp [this]), filter_erase hn.2 h]
    rfl
theorem left_push {es : Array MapEntry} {seen : Array Nat} (hn : (es.toList.map (·.born)).Nodup) {j : Nat} {e : MapEntry} (hj : (leftOf es seen).toList[j]? = some e) : (leftOf es (seen.push e.born)).toList = (leftOf es seen).toList.eraseIdx j := by
  rw [← filter_erase (l := (leftOf es seen).toList) ?_ hj]
  · simp only [leftOf, Array.toList_filter, List.filter_filter]
    congr 1
    funext x
    rw [contains_push]
    cases seen.contains x.born <;> cases (x.born == e.born) <;> rfl
  · simp only [leftOf, Array.toList_filter]
    exact (List.filter_sublist.map _).nodup hn
theorem iterSet_ok (h : Ok st g fr a w) {t b bm : Nat} {k v : Ty} {xs ys : List (Den k × Den v)} {c0 : Option (Den k × Den v)} {c1 : Option (Den k × Den v)} (ht : fr t = .mapb k v xs (some c0)) (hO : g.O b = some (.at t 0 1)) (hOm : g.O bm = some (.at t 0 2)) (hv : a.tmps.getD t undef = .pointer (some ⟨b, 0, none⟩)) {w' : World} (hoth : ∀ b', b' ≠ b → w'.heap[b']? = w.heap[b']?)
    (hno : ∀ o, w.cell? ⟨b, o, none⟩ = none ∧ w'.cell? ⟨b, o, none⟩ = none) (hsz : w'.heap.size = w.heap.size) (hos : w'.os = w.os) (htp : w'.tape = w.tape) (hout : w'.output = w.output) (hm : IterIs w' b bm k v ys c1) : Ok st g (upd fr t (.mapb k v ys (some c1))) a w' := by
  have hown := h.own b _ hO
  have hne : ∀ b', b' < st.B → ¬ st.M b' → b' ≠ b := fun b' h1 h2 e => by subst e; exact h2 (hown.2 h1)
  have hbx : isBox (upd fr t (.mapb k v ys (some c1))) = isBox fr := by
    funext q
    unfold isBox
    by_cases hq : q = t
    · subst hq; rw [upd_same, ht]; rfl
    · rw [upd_ne _ _ _ hq]
  have hc : Chg g g w w' (isBox fr) (isBox fr) (fun p => p ≠ .at t 0 1) (fun _ => True) := {
    cB := rfl, cR := rfl, cM := rfl, cZ := rfl
    zS := fun b o hz => (h.zs b o (by rw [← h.eZ]; exact hz)).1
    cbx := fun s hs => hs
    cX := fun s _ => rfl
    cS := fun b' oo hs' => ⟨hs', by
      by_cases e : b' = b
      · subst e; rw [(hno oo).1, (hno oo).2]
      · exact World.cell?_of_block (w := w) (hoth b' e)⟩
    cL := fun b' hl => hoth b' (hne b' (by rw [← h.eB]; exact hl.1) (by rw [← h.eM]; exact hl.2))
    cO := fun b' p hp hO' => by
      have hbb : b' ≠ b := fun e => by subst e; rw [hO] at hO'; cases hO'; exact hp rfl
      exact ⟨hO', hoth b' hbb, fun _ => Iff.rfl⟩
    cH := fun _ _ _ _ hu => hu
    cHp := fun _ _ _ _ => rfl }
  exact {
    eB := h.eB, eR := h.eR, eM := h.eM, eZ := h.eZ, size := h.size, defers := h.defers, keep := h.keep
    slot := fun q => by
      rw [hbx]
      by_cases hq : q = t
      · subst hq
        rw [upd_same]
        exact ⟨b, bm, hO, hOm, hm, hv⟩
      · rw [upd_ne _ _ _ hq]
        exact hc.kSlot (fun i k e => by cases e; exact hq rfl) (fun e => by simp [isBox, e]) (fun _ _ => trivial) (h.slot q)
    os := hos.trans h.os, tape := htp.trans h.tape, output := hout.trans h.output
    heap := by rw [hsz]; exact h.heap
    old := fun b' hb' hm' => (hoth b' (hne b' hb' hm')).trans (h.old b' hb' hm')
    own := fun b' p hO' => by rw [hsz]; exact h.own b' p hO'
    stab := fun b' oo hs' => by rw [hsz]; exact h.stab b' oo hs'
    boxS := h.boxS
    zs := h.zs
    sz := h.sz
    hh := h.hh }
theorem nextOp_ok (h : Ok st g fr a w) (hX : Fits X st) {t : Nat} (ho : o.op = .next (.tmp t) false) (hf : nextOp X fr t o.dst K = some r) : o.wp P a w (Good st K r) Q := by
  unfold nextOp at hf
  split at hf
  case h_2 => cases hf
  rename_i k v xs c0 ht
  cases hb : (X.dr || !(kflat k && kflat v))
  case true => rw [hb] at hf; cases hf
  rw [hb] at hf
  simp only [cond_false] at hf
  simp only [Bool.or_eq_false_iff, Bool.not_eq_false', Bool.and_eq_true] at hb
  obtain ⟨_, hk, hv⟩ := hb
  have hsl := h.slot t
  rw [ht] at hsl
  obtain ⟨b, bm, o1, o2, ⟨es, clock, since, seen, cc, i1, i2, i3, i4, i5, i6, i7, _⟩, hval⟩ := hsl
  have heval : a.eval (.tmp t) = .pointer (some ⟨b, 0, none⟩) := hval
  have hnb : bm ≠ b := fun e => by subst e; rw [i1] at i2; cases i2
  rcases run_next_at (P := P) w o.type b bm since cc seen es clock i2 i1 i5 i6 with ⟨h0, hrun⟩ | ⟨e, he, w1, hw1, hrun⟩
  · have hx : xs = [] := by
      have : (leftOf es seen).toList = [] := List.eq_nil_of_length_eq_zero (by simpa using h0)
      rw [this] at i3
      exact List.map_eq_nil_iff.1 i3.symm
    subst hx
    refine wp_value (v := .tuple #[.bool false]) (w' := w) (by simp only [execOp, ho, heval, Sem.run_bind, hrun, Result.andThen_ok, Sem.run_pure]) ?_
    refine fin_ok hX h rfl (fun d _ => ?_) (show fin X fr o.dst (.tup [(false, [.bool false])]) K = some r from hf)
    exact ⟨[.bool false], rfl, rfl, fun i p hi => by
      match i with
      | 0 => cases hi; exact ⟨_, rfl, _, rfl, .inr (.inr rfl)⟩
      | i + 1 => simp at hi⟩
  · obtain ⟨j, hj⟩ := List.getElem?_of_mem he
    have hxj : ∃ p, xs[j]? = some p ∧ e.key = encV k p.1 ∧ e.val = encV v p.2 := by
      have h1 := congrArg (fun l => l[j]?) i3
      simp only [List.getElem?_map, hj, Option.map_some] at h1
      cases hx : xs[j]? with
      | none => rw [hx] at h1; cases h1
      | some p =>
        rw [hx] at h1
        simp only [Option.map_some, Option.some.injEq, Prod.mk.injEq] at h1
        exact ⟨p, rfl, h1.1, h1.2⟩
    obtain ⟨p, hp, hk1, hv1⟩ := hxj
    cases hxs : xs with
    | nil => rw [hxs] at hp; simp at hp
    | cons x0 r0 =>
      rw [hxs] at hf
      have hf := allSame_some (show allSame (picks (x0 :: r0)) _ = some r from hf) (p, xs.eraseIdx j) (by rw [← hxs]; exact picks_mem hp)
      have hw : w1.heap = w.heap ∧ w1.os = w.os ∧ w1.tape = w.tape ∧ w1.output = w.output := by rcases hw1 with rfl | rfl <;> exact ⟨rfl, rfl, rfl, rfl⟩
      obtain ⟨w2, hw2⟩ : ∃ w2, w2 = setBlock w1 b (.mapIter (some bm) since (seen.push e.born) clock) := ⟨_, rfl⟩
      have hblt : b < w.heap.size := (Array.getElem?_eq_some_iff.1 i2).1
      have hheap : w2.heap = w.heap.setIfInBounds b (.mapIter (some bm) since (seen.push e.born) clock) := by rw [hw2]; show w1.heap.setIfInBounds _ _ = _; rw [hw.1]
      have hat : w2.heap[b]? = some (.mapIter (some bm) since (seen.push e.born) clock) := by rw [hheap]; simp [hblt]
      have hoth : ∀ b', b' ≠ b → w2.heap[b']? = w.heap[b']? := fun b' hb' => by rw [hheap, Array.getElem?_setIfInBounds_ne (Ne.symm hb')]
      have hok := iterSet_ok (w' := w2) (ys := xs.eraseIdx j) (c1 := some p) h ht o1 o2 hval hoth (fun oo => ⟨by simp [World.cell?, i2], by simp [World.cell?, hat]⟩) (by rw [hheap]; simp) (by rw [hw2]; exact hw.2.1) (by rw [hw2]; exact hw.2.2.1) (by rw [hw2]; exact hw.2.2.2) (by
        refine ⟨es, clock, since, seen.push e.born, clock, by rw [hoth bm hnb]; exact i1, hat, ?_, i4, i5, i7, i7, fun c hc => ?_⟩
        · rw [left_push i4 hj, Go.ChangeMaps.map_eraseIdx, i3, ← Go.ChangeMaps.map_eraseIdx]
        · cases hc; exact ⟨e, seen, (mem_left he).1, rfl, rfl, hk1, hv1⟩)
      refine wp_value (v := .tuple #[.bool true, e.key, e.val]) (w' := w2) (by simp only [execOp, ho, heval, Sem.run_bind, hrun, Result.andThen_ok, Sem.run_pure, hw2]) ?_
      refine fin_ok hX hok rfl (fun d _ => ?_) hf
      refine ⟨[.bool true, e.key, e.val], rfl, rfl, fun i q hi => ?_⟩
      match i with
      | 0 => cases hi; exact ⟨_, rfl, _, rfl, .inr (.inr rfl)⟩
      | 1 => cases hi; rw [hk1]; exact ⟨_, rfl, enc_CRel hk _⟩
      | 2 => cases hi; rw [hv1]; exact ⟨_, rfl, enc_CRel hv _⟩
      | i + 3 => simp at hi
theorem mapEntry_ok (h : Ok st g fr a w) (hX : Fits X st) {t : Nat} (ho : o.op = .entry (.tmp t)) {k v : Ty} {xs : List (Den k × Den v)} {p : Den k × Den v} (ht : fr t = .mapb k v xs (some (some p))) (hk : kflat k = true) (hv : kflat v = true) (hf : fin X fr o.dst (.tup [(isPairT k, unpack true k p.1), (isPairT v, unpack true v p.2)]) K = some r) : o.wp P a w (Good st K r) Q := by
  have hsl := h.slot t
  rw [ht] at hsl
  obtain ⟨b, bm, o1, o2, ⟨es, clock, since, seen, cc, i1, i2, i3, i4, i5, i6, i7, i8⟩, hval⟩ := hsl
  have heval : a.eval (.tmp t) = .pointer (some ⟨b, 0, none⟩) := hval
  obtain ⟨e, s0, e1, rfl, rfl, e4, e5⟩ := i8 p rfl
  have hrun := run_entry_at (P := P) w b bm since s0 es cc e i2 i1 e1 i4
  refine wp_value (v := .tuple #[e.key, e.val]) (w' := w) (by simp only [execOp, ho, heval, Sem.run_bind, hrun, Result.andThen_ok, Sem.run_pure]) ?_
  refine fin_ok hX h rfl (fun d _ => ?_) hf
  refine ⟨[e.key, e.val], rfl, rfl, fun i q hi => ?_⟩
  match i with
  | 0 => cases hi; rw [e4]; exact ⟨_, rfl, enc_CRel hk _⟩
  | 1 => cases hi; rw [e5]; exact ⟨_, rfl, enc_CRel hv _⟩
  | i + 2 => simp at hi
end
end Go.Rv
namespace Go.Rv
section
variable {P : Program} {st : St} {g : Gh} {fr : Fr} {a : Act} {w : World} {X : Env} {o : Oper} {R : Type} {K : Fr → Option R} {r : R} {Q : Exit → Act → World → Prop}
def seg (arr : Array Value) (c : Nat) (vs : List Value) : Array Value := (arr.toList.take c ++ vs ++ arr.toList.drop (c + vs.length)).toArray
theorem seg_size {arr : Array Value} {c : Nat} {vs : List Value} (h : c + vs.length ≤ arr.size) : (seg arr c vs).size = arr.size := by
  simp [seg, List.length_take]; omega
theorem seg_get {arr : Array Value} {c : Nat} {vs : List Value} (h : c + vs.length ≤ arr.size) (j : Nat) : (seg arr c vs)[j]? = if c ≤ j ∧ j < c + vs.length then vs[j - c]? else arr[j]? := by
  have hl : arr.toList.length = arr.size := Array.length_toList
  unfold seg
  rw [List.getElem?_toArray]
  by_cases h1 : j < c
  · rw [if_neg (by omega), List.append_assoc, List.getElem?_append_left (by simp [List.length_take]; omega), List.getElem?_take, if_pos h1, Array.getElem?_toList]
  · by_cases h2 : j < c + vs.length
    · rw [if_pos (by omega), List.append_assoc, List.getElem?_append_right (by simp [List.length_take]; omega), List.getElem?_append_left (by simp [List.length_take]; omega)]
      congr 1
      simp [List.length_take]; omega
    · rw [if_neg (by omega), List.getElem?_append_right (by simp [List.length_take]; omega), List.getElem?_drop, ← Array.getElem?_toList]
      congr 1
      simp [List.length_take]; omega
theorem store_run (hT : TabOk P X) {t : TypeId} {i : TI} (hi : X.ti t = some i) {b c : Nat} {arr : Array Value} {ty : TypeId} (hb : w.heap[b]? = some (.cells arr ty (0, 0))) {v : Value} (hl : v.cells.toList.length = i.ty.cells) (h1 : ∀ u ∈ v.cells.toList, u.oneCell' = true)
    (hfit : c + v.cells.toList.length ≤ arr.size) : (Instr.storeAt t (.pointer (some ⟨b, c, none⟩)) v).run P w = .ok () (w.setRow b (seg arr c v.cells.toList)) := by
  obtain ⟨ii, e1, e2⟩ := ti_size hT hi
  have hsz : (sizeOf t).run P w = .ok ii.size w := by simp [sizeOf, typeInfo, e1]
  have hst := run_storeCells_at P b c ty v.cells.toList 0 arr w hb (by simpa using hfit) h1
  have hs : v.cells.size = ii.size := by rw [e2, ← hl, Array.length_toList]
  simp only [Nat.add_zero] at hst
  simp only [Instr.storeAt, Instr.sureAddr, storeVar, Sem.run_bind, Sem.run_pure, Result.andThen_ok, hsz, hs, ne_eq, not_true_eq_false, if_false, hst]
  rfl
def inSeg (c n : Nat) (k : Nat) : Bool := decide (c < k ∧ k ≤ c + n)
theorem boxStore_ok (h : Ok st g fr a w) {s c b : Nat} {cs cs' : List CV} {arr : Array Value} {ty : TypeId} (hs : fr s = .box cs) (hX : g.X s = some b) (hO : g.O b = some (.at s 0 0)) (hb : w.heap[b]? = some (.cells arr ty (0, 0))) (hcr : cellsRel w g (isBox fr) s 0 cs arr.toList)
    {vs : List Value} (hfit : c + vs.length ≤ cs.length) {Hn : Nat → Option Value} (hH : ∀ k u, Hn k = some u → u = .slice none 0 0 ∨ ∃ b n cap, u = .slice (some ⟨b, 0, none⟩) n cap)
    (hm : ∀ q, mentionsS (fr q) s = true → ∀ k, Hn k = none) (hl' : cs'.length = cs.length)
    (hout : ∀ j, ¬ (c ≤ j ∧ j < c + vs.length) → cs'[j]? = cs[j]?) (hin : ∀ (j : Nat) (x : CV), j < vs.length → cs'[c + j]? = some x → ∃ u : Value, vs[j]? = some u ∧ rel w (g.land s c (inSeg c vs.length) Hn) (isBox fr) (.at s 0 (c + j + 1)) x u):
    Ok st (g.land s c (inSeg c vs.length) Hn) (upd fr s (.box cs')) a (w.setRow b (seg arr c vs)) := by
  have harr : arr.size = cs.length := by rw [← Array.length_toList]; exact hcr.1
  have hown := h.own b _ hO
  have hne : ∀ b', b' < st.B → ¬ st.M b' → b' ≠ b := fun b' h1 h2 e => by subst e; exact h2 (hown.2 h1)
  have hnew := setRow_heap w b arr (seg arr c vs) ty (0, 0) hb
  have hoth := fun b' hb' => setRow_other w b b' (seg arr c vs) hb'
  have hbx : isBox (upd fr s (.box cs')) = isBox fr := by
    funext q
    unfold isBox
    by_cases hq : q = s
    · subst hq; rw [upd_same, hs]; rfl
    · rw [upd_ne _ _ _ hq]
  have hD0 : inSeg c vs.length 0 = false := by simp [inSeg]
  have hc : Chg g (g.land s c (inSeg c vs.length) Hn) w (w.setRow b (seg arr c vs)) (isBox fr) (isBox fr) (fun p => keptAt s (inSeg c vs.length) p ∧ p ≠ .at s 0 0) (fun q => q = s → ∀ k, Hn k = none) := {
    cB := rfl, cR := rfl, cM := rfl, cZ := rfl
    zS := fun b o hz => (h.zs b o (by rw [← h.eZ]; exact hz)).1
    cbx := fun s hs => hs
    cX := fun s _ => rfl
    cS := fun b' oo hs' => ⟨hs', World.cell?_of_block (w := w) (hoth b' (fun e => by subst e; exact h.boxS _ s hO oo hs'))⟩
    cL := fun b' hl => hoth b' (hne b' (by rw [← h.eB]; exact hl.1) (by rw [← h.eM]; exact hl.2))
    cO := fun b' p hp hO' => by
      have hbb : b' ≠ b := fun e => by subst e; rw [hO] at hO'; cases hO'; exact hp.2 rfl
      obtain ⟨q1, _, q3⟩ := (Chg.land h s c (inSeg c vs.length) Hn (isBox fr)).cO b' p hp.1 hO'
      exact ⟨q1, hoth b' hbb, q3⟩
    cH := (Chg.land h s c (inSeg c vs.length) Hn (isBox fr)).cH
    cHp := fun q i k hp => (Chg.land h s c (inSeg c vs.length) Hn (isBox fr)).cHp q i k hp.1 }
  have hmove : ∀ {p : Place} {x : CV} {u : Value}, p ≠ .at s 0 0 → rel w (g.land s c (inSeg c vs.length) Hn) (isBox fr) p x u → rel (w.setRow b (seg arr c vs)) (g.land s c (inSeg c vs.length) Hn) (isBox fr) p x u := by
    intro p x u hp hr
    -- from the landed ghost to itself, over the write
    have hc2 : Chg (g.land s c (inSeg c vs.length) Hn) (g.land s c (inSeg c vs.length) Hn) w (w.setRow b (seg arr c vs)) (isBox fr) (isBox fr) (fun p => p ≠ .at s 0 0) (fun _ => True) := {
      cB := rfl, cR := rfl, cM := rfl, cZ := rfl
      zS := hc.zS
      cbx := fun s hs => hs
      cX := fun s _ => rfl
      cS := fun b' oo hs' => ⟨hs', (hc.cS b' oo hs').2⟩
      cL := fun b' hl => hc.cL b' hl
      cO := fun b' p hp hO' => by
        have hbb : b' ≠ b := fun e => by
          subst e
          have : (g.land s c (inSeg c vs.length) Hn).O b' = some (.at s 0 0) := by simp [Gh.land, hO, hD0]
          rw [this] at hO'; cases hO'; exact hp rfl
        exact ⟨hO', hoth b' hbb, fun _ => Iff.rfl⟩
      cH := fun _ _ _ _ hu => hu
      cHp := fun _ _ _ _ => rfl }
    exact hc2.kRel hp (fun _ _ => trivial) hr
  exact {
    eB := h.eB, eR := h.eR, eM := h.eM, eZ := h.eZ, size := h.size, defers := h.defers, keep := h.keep
    slot := fun q => by
      rw [hbx]
      by_cases hq : q = s
      · subst hq
        rw [upd_same]
        have hsl := h.slot q
        rw [hs] at hsl
        obtain ⟨⟨b2, _, _, y1, y2, _⟩, b', q1, q2⟩ := hsl
        refine ⟨⟨b, _, ty, hX, ⟨fun hm => by have := y2.1 hm; rw [hX] at y1; cases y1; exact this, fun _ => by simp [Gh.land, hO, hD0]⟩, hnew, by rw [Array.length_toList, seg_size (by rw [harr]; exact hfit), harr, hl'], fun j x hj => ?_⟩, b', q1, q2⟩
        rw [Array.getElem?_toList, seg_get (by rw [harr]; exact hfit)]
        by_cases hjs : c ≤ j ∧ j < c + vs.length
        · rw [if_pos hjs]
          have hj' : cs'[c + (j - c)]? = some x := by rw [show c + (j - c) = j by omega]; exact hj
          obtain ⟨u, e1, e2⟩ := hin (j - c) x (by omega) hj'
          refine ⟨u, e1, ?_⟩
          rw [show c + (j - c) + 1 = j + 1 by omega] at e2
          exact hmove (by simp) e2
        · rw [if_neg hjs]
          rw [hout j hjs] at hj
          obtain ⟨u, e1, e2⟩ := hcr.2 j x hj
          refine ⟨u, by rw [← Array.getElem?_toList]; exact e1, hc.kRel ⟨?_, by simp⟩ (fun q' hq' e => ?_) e2⟩
          · intro e
            have := e.2
            simp only [inSeg, decide_eq_true_eq] at this
            omega
          · subst e
            exact hm q' (by rw [hs]; exact cellsM_of hj hq')
      · rw [upd_ne _ _ _ hq]
        exact hc.kSlot (fun i k => ⟨fun e => hq e.1, fun e => by cases e; exact hq rfl⟩) (fun e => by simp [isBox, e]) (fun q' hq' e => by subst e; exact hm q hq') (h.slot q)
    os := h.os, tape := h.tape, output := h.output
    heap := by simpa using h.heap
    old := fun b' hb' hm' => (hoth b' (hne b' hb' hm')).trans (h.old b' hb' hm')
    own := fun b' p hO' => by simpa using land_own_field h b' p hO'
    stab := fun b' oo hs' => by simpa using h.stab b' oo hs'
    boxS := land_box h
    zs := h.zs
    sz := h.sz
    hh := fun q k u hu => by
      simp only [Gh.land] at hu
      split at hu
      · exact hH k u hu
      · exact h.hh q k u hu }
theorem scalar_rel {g' : Gh} {bx bx' : Nat → Bool} {p q : Place} : ∀ {c : CV} {v : Value}, isScalar c = true → rel w g bx p c v → rel w g' bx' q c v
  | .int _ _, _, _, h => h
  | .bool _, _, _, h => h
  | .str _, _, _, h => h
  | .dead, _, h, _ => by simp [isScalar] at h
  | .undef, _, h, _ => by simp [isScalar] at h
  | .nils, _, h, _ => by simp [isScalar] at h
  | .lo _ _, _, h, _ => by simp [isScalar] at h
  | .hi _ _, _, h, _ => by simp [isScalar] at h
  | .own _ _, _, h, _ => by simp [isScalar] at h
  | .tmpo _ _, _, h, _ => by simp [isScalar] at h
  | .ref _ _ _ _, _, h, _ => by simp [isScalar] at h
  | .ptr _ _, _, h, _ => by simp [isScalar] at h
  | .rptr _, _, h, _ => by simp [isScalar] at h
  | .hptr _, _, h, _ => by simp [isScalar] at h
  | .eptr _ _ _ _ _ _, _, h, _ => by simp [isScalar] at h
  | .fn _ _, _, h, _ => by simp [isScalar] at h
  | .mbox _, _, h, _ => by simp [isScalar] at h
theorem scalar_own {c : CV} (h : isScalar c = true) : toOwn c = c := by cases c <;> first | rfl | simp [isScalar] at h
theorem scalar_sure {c : CV} (h : isScalar c = true) : sure c = true := by cases c <;> first | rfl | simp [isScalar] at h
theorem plain_rel {g' : Gh} (hS : g'.S = g.S) (hZ : g'.Z = g.Z) {bx bx' : Nat → Bool} {p q : Place} : ∀ {c : CV} {v : Value}, isPlain c = true → rel w g bx p c v → rel w g' bx' q c v
  | .int _ _, _, _, h => h
  | .bool _, _, _, h => h
  | .str _, _, _, h => h
  | .nils, _, _, h => h
  | .lo t xs, v, _, h => by
    show RS w g'.Z t xs v
    rw [hZ]; exact h
  | .hi t xs, v, _, h => by
    show RS w g'.S t xs v
    rw [hS]; exact h
  | .dead, _, h, _ => by simp [isPlain] at h
  | .undef, _, h, _ => by simp [isPlain] at h
  | .own _ _, _, h, _ => by simp [isPlain] at h
  | .tmpo _ _, _, h, _ => by simp [isPlain] at h
  | .ref _ _ _ _, _, h, _ => by simp [isPlain] at h
  | .ptr _ _, _, h, _ => by simp [isPlain] at h
  | .rptr _, _, h, _ => by simp [isPlain] at h
  | .hptr _, _, h, _ => by simp [isPlain] at h
  | .eptr _ _ _ _ _ _, _, h, _ => by simp [isPlain] at h
  | .fn _ _, _, h, _ => by simp [isPlain] at h
  | .mbox _, _, h, _ => by simp [isPlain] at h
theorem plain_own {c : CV} (h : isPlain c = true) : toOwn c = c := by cases c <;> first | rfl | simp [isPlain] at h
theorem plain_sure {c : CV} (h : isPlain c = true) : sure c = true := by cases c <;> first | rfl | simp [isPlain] at h
theorem storePtr_ok (hT : TabOk P X) (h : Ok st g fr a w) (hX : Fits X st) {t : TypeId} {p x : Operand} (ho : o.op = .store t p x) {i : TI} (hi : X.ti t = some i) {gg : Bool} {ws : List CV} {fr1 : Fr} (ht : takeOpd fr x = ((gg, ws), fr1)) (hl : ws.length = i.ty.cells)
    {s c : Nat} (hp : opc fr p = .ptr s c) {fr2 : Fr} (hs : store X.dr (.ptr s c) gg ws fr1 = some fr2) (hro : roPtr X (opc fr p) = false) (hd : o.dst = none) (hf : K fr2 = some r) : o.wp P a w (Good st K r) Q := by
  obtain ⟨g1, t1, hv⟩ := takeOpd_ok h ht 0
  have hnr : s ∉ g1.ro := fun hm => by
    rw [hp] at hro
    simp only [roPtr] at hro
    rw [t1.ok.eR.1, ← hX.ro] at hm
    rw [List.contains_eq_mem] at hro
    simp [hm] at hro
  rw [← t1.bx] at hv
  obtain ⟨hb1, b, hb2, hpv⟩ := (opc_rel h hp (by simp) (by simp)).2
  simp only [store] at hs
  cases hfs : fr1 s <;> rw [hfs] at hs <;> simp only at hs <;> first | (cases hs; done) | skip
  rename_i cs
  cases hdr : X.dr
  case true =>
    rw [hdr] at hs
    simp only [cond_true] at hs
    obtain ⟨hsu, hs⟩ : (gg || ws.all sure) = true ∧ (match fillCells cs c ws with | some cs' => some (upd fr1 s (.box cs')) | none => none) = some fr2 := by
      cases hq : (gg || ws.all sure)
      · rw [hq] at hs; cases hs
      · rw [hq] at hs; exact ⟨rfl, hs⟩
    have hsure : gg = true ∨ ws.all sure = true := by simpa using hsu
    cases hfl : fillCells cs c ws with
    | none => rw [hfl] at hs; cases hs
    | some cs' =>
    rw [hfl] at hs
    simp only [Option.some.injEq] at hs
    subst hs
    obtain ⟨f1, f2, f3⟩ := fillCells_some hfl
    have hsl := t1.ok.slot s
    rw [hfs] at hsl
    obtain ⟨⟨b', arr, ty, q1, q2, q3, q4⟩, _⟩ := hsl
    have q2 := q2.2 hnr
    have hbb : b' = b := by rw [t1.X, hb2] at q1; exact (Option.some.inj q1).symm
    subst hbb
    have harr : arr.size = cs.length := by rw [← Array.length_toList]; exact q4.1
    obtain ⟨v1, v2⟩ := air_cells hv hsure
    simp only at v1 v2
    have hone : ∀ u ∈ (a.eval x).cells.toList, u.oneCell' = true := fun u hu => by
      obtain ⟨k, hk, rfl⟩ := List.getElem_of_mem hu
      obtain ⟨u', e1, e2⟩ := v2 k _ (List.getElem?_eq_getElem (by rw [← v1]; exact hk))
      rw [List.getElem?_eq_getElem hk] at e1
      simp only [Option.some.injEq] at e1
      rw [e1]; exact rel_one e2
    have hrun := store_run (P := P) hT hi q3 (v := a.eval x) (c := c) (by rw [v1, hl]) hone (by rw [v1, harr]; exact f1)
    refine wp_skipped (w' := w.setRow b' (seg arr c (a.eval x).cells.toList)) (by simp only [execOp, ho, hpv, Sem.run_bind, hrun, Result.andThen_ok, Sem.run_pure]) ?_
    rw [hd]
    show Good st K r a _
    refine ⟨_, _, boxStore_ok (Hn := fun _ => none) t1.ok hfs q1 q2 q3 q4 (cs' := cs') (vs := (a.eval x).cells.toList) (by rw [v1]; exact f1) (fun k u hu => by cases hu) (fun q _ k => rfl) f2 (fun j hj => by rw [f3, if_neg (by rw [v1] at hj; exact hj)]) (fun j y hj hy => ?_), hf⟩
    rw [f3, if_pos (by rw [v1] at hj; omega), show c + j - c = j by omega] at hy
    obtain ⟨u, e1, e2⟩ := v2 j y hy
    refine ⟨u, e1, ?_⟩
    rw [Nat.zero_add] at e2
    exact land_rel t1.ok (d := s) (lo := c) (k := j) (by simp only [inSeg, decide_eq_true_eq]; omega) rfl (fun _ _ => rfl) e2
  rw [hdr] at hs
  simp only [cond_false] at hs
  cases hfl : fillCells cs c (ws.map toOwn) with
  | none => rw [hfl] at hs; cases hs
  | some cs' =>
    rw [hfl] at hs
    simp only at hs
    obtain ⟨f1, f2, f3⟩ := fillCells_some hfl
    rw [List.length_map] at f1 f3
    have hsl := t1.ok.slot s
    rw [hfs] at hsl
    obtain ⟨⟨b', arr, ty, q1, q2, q3, q4⟩, _⟩ := hsl
    have q2 := q2.2 hnr
    have hbb : b' = b := by rw [t1.X, hb2] at q1; exact (Option.some.inj q1).symm
    subst hbb
    have harr : arr.size = cs.length := by rw [← Array.length_toList]; exact q4.1
    have hsure : gg = true ∨ ws.all sure = true := by
      cases hsc : ws.all isPlain
      · rw [hsc] at hs
        simp only [cond_false] at hs
        cases hgs : (gg || ws.all sure)
        · rw [hgs] at hs; cases hs
        · simpa using hgs
      · refine .inr ?_
        rw [List.all_eq_true] at hsc ⊢
        exact fun c hc => plain_sure (hsc c hc)
    obtain ⟨v1, v2⟩ := air_cells hv hsure
    simp only at v1 v2
    have hone : ∀ u ∈ (a.eval x).cells.toList, u.oneCell' = true := fun u hu => by
      obtain ⟨k, hk, rfl⟩ := List.getElem_of_mem hu
      obtain ⟨u', e1, e2⟩ := v2 k _ (List.getElem?_eq_getElem (by rw [← v1]; exact hk))
      rw [List.getElem?_eq_getElem hk] at e1
      simp only [Option.some.injEq] at e1
      rw [e1]; exact rel_one e2
    have hrun := store_run (P := P) hT hi q3 (v := a.eval x) (c := c) (by rw [v1, hl]) hone (by rw [v1, harr]; exact f1)
    refine wp_skipped (w' := w.setRow b' (seg arr c (a.eval x).cells.toList)) (by simp only [execOp, ho, hpv, Sem.run_bind, hrun, Result.andThen_ok, Sem.run_pure]) ?_
    rw [hd]
    show Good st K r a _
    have hout : ∀ j, ¬ (c ≤ j ∧ j < c + (a.eval x).cells.toList.length) → cs'[j]? = cs[j]? := fun j hj => by
      rw [f3, if_neg (by rw [v1] at hj; exact hj)]
    have hinx : ∀ (j : Nat) (y : CV), j < (a.eval x).cells.toList.length → cs'[c + j]? = some y → ∃ z, ws[j]? = some z ∧ y = toOwn z := fun j y hj hy => by
      rw [f3, if_pos (by rw [v1] at hj; omega), show c + j - c = j by omega, List.getElem?_map] at hy
      cases hz : ws[j]? with
      | none => rw [hz] at hy; simp at hy
      | some z => rw [hz] at hy; simp at hy; exact ⟨z, rfl, hy.symm⟩
    cases hsc : ws.all isPlain
    · rw [hsc] at hs
      simp only [cond_false] at hs
      have hgs : (gg || ws.all sure) = true := by simpa using hsure
      rw [hgs] at hs
      simp only [cond_true, Option.some.injEq] at hs
      subst hs
      have h0 := t1.ok.dem s
      let Hn : Nat → Option Value := fun k => match ws[k - (c + 1)]? with
        | some (.tmpo _ _) => (a.eval x).cells.toList[k - (c + 1)]?
        | _ => none
      have hbd : isBox (dem s fr1) = isBox fr1 := isBox_dem s fr1
      have hdem : dem s fr1 s = .box (cs.map (dem1 s)) := by unfold dem; rw [hfs]; rfl
      have hcr : cellsRel w g1 (isBox (dem s fr1)) s 0 (cs.map (dem1 s)) arr.toList := by rw [hbd]; exact cells_dem q4
      refine ⟨_, _, boxStore_ok (Hn := Hn) h0 hdem q1 q2 q3 hcr (cs' := cs'.map (dem1 s)) (vs := (a.eval x).cells.toList) (by rw [List.length_map, v1]; exact f1) (fun k u hu => ?_) (fun q hq => ?_) (by simp [f2]) (fun j hj => ?_) (fun j y hj hy => ?_), hf⟩
      · simp only [Hn] at hu
        split at hu
        · rename_i tt xs hk
          obtain ⟨u', e1, e2⟩ := v2 _ _ hk
          rw [e1] at hu; cases hu
          exact e2.1.head
        · cases hu
      · have : mentionsS (demS s (fr1 q)) s = true := hq
        rw [demS_mentions] at this; cases this
      · rw [List.getElem?_map, List.getElem?_map, hout j hj]
      · rw [List.getElem?_map] at hy
        cases hy' : cs'[c + j]? with
        | none => rw [hy'] at hy; simp at hy
        | some y' =>
          rw [hy'] at hy
          simp at hy
          subst hy
          obtain ⟨z, z1, rfl⟩ := hinx j y' hj hy'
          obtain ⟨u, e1, e2⟩ := v2 j z z1
          refine ⟨u, e1, ?_⟩
          rw [Nat.zero_add] at e2
          rw [hbd]
          have hD : inSeg c (a.eval x).cells.toList.length (c + j + 1) = true := by
            simp only [inSeg, decide_eq_true_eq]; omega
          by_cases hto : ∃ t xs, z = .tmpo t xs
          · have hn : Hn (c + j + 1) = some u := by
              obtain ⟨tt, xs, rfl⟩ := hto
              simp only [Hn]
              rw [show c + j + 1 - (c + 1) = j by omega, z1]
              simp only [e1]
            exact dem1_rel (land_toOwn h0 (d := s) (lo := c) (k := j) (Hn := Hn) hD hn hto e2)
          · have hto' : toOwn z = z := by cases z <;> first | rfl | exact absurd ⟨_, _, rfl⟩ hto
            rw [hto']
            have hn : Hn (c + j + 1) = none := by
              simp only [Hn]
              rw [show c + j + 1 - (c + 1) = j by omega, z1]
              cases z <;> first | rfl | exact absurd ⟨_, _, rfl⟩ hto
            exact land_rel h0 (d := s) (lo := c) (k := j) (Hn := Hn) hD hn (fun hm => by rw [dem1_mentions] at hm; cases hm) (dem1_rel (s := s) e2)
    · rw [hsc] at hs
      simp only [cond_true, Option.some.injEq] at hs
      subst hs
      refine ⟨_, _, boxStore_ok (Hn := fun _ => none) t1.ok hfs q1 q2 q3 q4 (cs' := cs') (vs := (a.eval x).cells.toList) (by rw [v1]; exact f1) (fun k u hu => by cases hu) (fun q _ k => rfl) f2 hout (fun j y hj hy => ?_), hf⟩
      obtain ⟨z, z1, rfl⟩ := hinx j y hj hy
      obtain ⟨u, e1, e2⟩ := v2 j z z1
      have hz := List.all_eq_true.1 hsc z (List.mem_of_getElem? z1)
      exact ⟨u, e1, by rw [plain_own hz]; refine plain_rel (g := g1) ?_ ?_ hz e2 <;> rfl⟩
end
end Go.Rv
namespace Go.Rv
structure Kld (g g' : Gh) (w w' : World) (bx bx' : Nat → Bool) (P : Place → Prop) : Prop where
  kB : g'.B = g.B
  kM : g'.M = g.M
  kZ : g'.Z = g.Z
  kbx : ∀ s, bx s = true → bx' s = true
  kX : ∀ s, bx s = true → g'.X s = g.X s
  kZc : ∀ b o, g.Z b o → w'.cell? ⟨b, o, none⟩ = w.cell? ⟨b, o, none⟩
  kR : g'.ro = g.ro
  kL : ∀ b, g.L b → w'.heap[b]? = w.heap[b]?
  kO : ∀ b p, P p → g.O b = some p → g'.O b = some p ∧ w'.heap[b]? = w.heap[b]? ∧ ∀ o, g'.S b o ↔ g.S b o
  kH : ∀ s i c, P (.at s i c) → g'.H s c = g.H s c
section
variable {g g' : Gh} {w w' : World} {bx bx' : Nat → Bool} {Pl : Place → Prop}
theorem Kld.kBO (h : Kld g g' w w' bx bx' Pl) {s b : Nat} (hp : Pl (.at s 0 0)) (hb : BO g s b) : BO g' s b ∧ w'.heap[b]? = w.heap[b]? := by
  by_cases hr : s ∈ g.ro
  · exact ⟨⟨fun _ => by have := hb.1 hr; unfold Gh.L at *; rw [h.kB, h.kM]; exact this, fun hn => (hn (h.kR ▸ hr)).elim⟩, h.kL b (hb.1 hr)⟩
  · obtain ⟨o1, o2, _⟩ := h.kO b _ hp (hb.2 hr)
    exact ⟨⟨fun hm => (hr (h.kR ▸ hm)).elim, fun _ => o1⟩, o2⟩
theorem Kld.relF (h : Kld g g' w w' bx bx' Pl) : ∀ {c : CV} {v : Value}, relF w g c v → relF w' g' (killF c) v
  | .dead, _, hr => hr
  | .int _ _, _, hr => hr
  | .bool _, _, hr => hr
  | .str _, _, hr => hr
  | .nils, _, hr => hr
  | .lo _ _, _, hr => rep_mono (fun b o hz => ⟨by rw [h.kZ]; exact hz, h.kZc b o hz⟩) hr
  | .hi t xs, v, hr => relF_one (w := w) (g := g) (c := .hi t xs) hr
theorem Kld.relP (h : Kld g g' w w' bx bx' Pl) : ∀ {c : CV} {v : Value}, relP w g bx c v → relP w' g' bx' (killP c) v
  | .ptr s c, v, hr => by obtain ⟨h1, b, h2, h3⟩ := hr; exact ⟨h.kbx s h1, b, by rw [h.kX s h1]; exact h2, h3⟩
  | .rptr cs, v, hr => by
    obtain ⟨ad, h1, h2, h3⟩ := hr
    refine ⟨ad, h1, h2, fun j c hj => ?_⟩
    rw [List.getElem?_map] at hj
    cases hc : cs[j]? with
    | none => rw [hc] at hj; simp at hj
    | some c' =>
      rw [hc] at hj
      simp at hj
      subst hj
      obtain ⟨hl, u, e1, e2⟩ := h3 j c' hc
      exact ⟨by unfold Gh.L at *; rw [h.kB, h.kM]; exact hl, u, (World.cell?_of_block (w := w) (a := ⟨ad.block, ad.off + j, none⟩) (h.kL _ hl)).trans e1, h.relF e2⟩
  | .mptr s, v, hr => relP_one (c := .mptr s) (w := w) (g := g) (bx := bx) hr
  | .hptr cs, v, hr => relP_one (c := .hptr cs) (w := w) (g := g) (bx := bx) hr
  | .eptr s c t i k cs, v, hr => relP_one (c := .eptr s c t i k cs) (w := w) (g := g) (bx := bx) hr
  | .dead, _, hr => h.relF (c := .dead) hr
  | .int k n, _, hr => h.relF (c := .int k n) hr
  | .bool b, _, hr => h.relF (c := .bool b) hr
  | .str s, _, hr => h.relF (c := .str s) hr
  | .nils, _, hr => h.relF (c := .nils) hr
  | .lo t xs, _, hr => h.relF (c := .lo t xs) hr
  | .hi t xs, _, hr => h.relF (c := .hi t xs) hr
theorem Kld.own (h : Kld g g' w w' bx bx' Pl) {p : Place} (hp : Pl p) {t : Ty} {xs : List (Den t)} {v : Value} (hr : OwnR w g p t xs v) : OwnR w' g' p t xs v := by
  rcases hr with e | ⟨b, cap, cur, e, h1, h2, h3, h4, h5, h6, h7, h8⟩
  · exact .inl e
  · obtain ⟨o1, o2, o3⟩ := h.kO b p hp h2
    refine .inr ⟨b, cap, cur, e, h1, o1, by rw [o2]; exact h3, h4, h5, h6, OwnR.elems (g := g) (g' := g') (p := p) (q := p) (fun b o hs => ?_) h7, fun o => by rw [o3, h8.1], h8.2⟩
    obtain ⟨q1, q2, q3⟩ := h.kO b p hp hs.2.1
    exact ⟨⟨(q3 o).2 hs.1, q1, by rw [q2]; exact hs.2.2⟩, World.cell?_of_block (w := w) q2⟩
theorem Kld.rel (h : Kld g g' w w' bx bx' Pl) {p : Place} (hp : Pl p) : ∀ {c : CV} {v : Value}, rel w g bx p c v → rel w' g' bx' p (kill1 c) v
  | .own t xs, v, hr => by
    refine ⟨h.own hp hr.1, ?_⟩
    have h2 := hr.2
    cases p with
    | air j => exact h2
    | «at» s i c => exact ⟨h2.1, by rw [h.kH s i c hp]; exact h2.2⟩
  | .tmpo t xs, v, hr => by
    refine ⟨h.own hp hr.1, ?_⟩
    have h2 := hr.2
    cases p with
    | air j => trivial
    | «at» s i c =>
      show g'.H s c = none
      rw [h.kH s i c hp]; exact h2
  | .ref s c t xs, v, hr => rel_one (c := .ref s c t xs) (w := w) (g := g) (bx := bx) (p := p) hr
  | .fn f caps, v, hr => by
    obtain ⟨cs, h1, h2, h3⟩ := hr
    refine ⟨cs, h1, by simpa using h2, fun j c hj => ?_⟩
    rw [List.getElem?_map] at hj
    cases hc : caps[j]? with
    | none => rw [hc] at hj; simp at hj
    | some c' =>
      rw [hc] at hj
      simp at hj
      subst hj
      obtain ⟨u, e1, e2⟩ := h3 j c' hc
      exact ⟨u, e1, h.relP e2⟩
  | .ptr s c, v, hr => by obtain ⟨h1, b, h2, h3⟩ := hr; exact ⟨h.kbx s h1, b, by rw [h.kX s h1]; exact h2, h3⟩
  | .mptr s, v, hr => by obtain ⟨h1, b, h2, h3⟩ := hr; exact ⟨h.kbx s h1, b, by rw [h.kX s h1]; exact h2, h3⟩
  | .rptr cs, v, hr => by
    obtain ⟨ad, h1, h2, h3⟩ := hr
    refine ⟨ad, h1, h2, fun j c hj => ?_⟩
    rw [List.getElem?_map] at hj
    cases hc : cs[j]? with
    | none => rw [hc] at hj; simp at hj
    | some c' =>
      rw [hc] at hj
      simp at hj
      subst hj
      obtain ⟨hl, u, e1, e2⟩ := h3 j c' hc
      exact ⟨by unfold Gh.L at *; rw [h.kB, h.kM]; exact hl, u, (World.cell?_of_block (w := w) (a := ⟨ad.block, ad.off + j, none⟩) (h.kL _ hl)).trans e1, h.relF e2⟩
  | .hptr cs, v, hr => rel_one (c := .hptr cs) (w := w) (g := g) (bx := bx) (p := p) hr
  | .eptr s c t i k cs, v, hr => rel_one (c := .eptr s c t i k cs) (w := w) (g := g) (bx := bx) (p := p) hr
  | .dead, _, hr => hr
  | .int k n, _, hr => hr
  | .bool b, _, hr => hr
  | .str s, _, hr => hr
  | .nils, _, hr => hr
  | .lo t xs, _, hr => rep_mono (fun b o hz => ⟨by rw [h.kZ]; exact hz, h.kZc b o hz⟩) hr
  | .hi t xs, v, hr => rel_one (c := .hi t xs) (w := w) (g := g) (bx := bx) (p := p) hr
theorem Kld.cells (h : Kld g g' w w' bx bx' Pl) {s i : Nat} (hp : ∀ c, Pl (.at s i (c + 1))) {cs : List CV} {vs : List Value} (hr : cellsRel w g bx s i cs vs) : cellsRel w' g' bx' s i (cs.map kill1) vs := by
  refine ⟨by simpa using hr.1, fun j c hj => ?_⟩
  rw [List.getElem?_map] at hj
  cases hc : cs[j]? with
  | none => rw [hc] at hj; simp at hj
  | some c' =>
    rw [hc] at hj
    simp at hj
    subst hj
    obtain ⟨u, e1, e2⟩ := hr.2 j c' hc
    exact ⟨u, e1, h.rel (hp j) e2⟩
theorem Kld.comp (h : Kld g g' w w' bx bx' Pl) {s i : Nat} (hp : ∀ c, Pl (.at s i (c + 1))) : ∀ {p : Comp} {v : Value}, CRel w g bx s i p v → CRel w' g' bx' s i (p.1, p.2.map kill1) v
  | (true, cs), v, hr => by obtain ⟨vs, h1, h2⟩ := hr; exact ⟨vs, h1, h.cells hp h2⟩
  | (false, cs), v, hr => by
    obtain ⟨c, h1, h2⟩ := hr
    subst h1
    refine ⟨kill1 c, rfl, ?_⟩
    rcases h2 with rfl | ⟨rfl, h2⟩ | h2
    · exact .inl rfl
    · exact .inr (.inl ⟨rfl, h2⟩)
    · exact .inr (.inr (h.rel (hp 0) h2))
theorem Kld.slot (h : Kld g g' w w' bx bx' Pl) {s : Nat} (hp : ∀ c, Pl (.at s 0 c)) : ∀ {x : SV} {v : Value}, (notBox x = false → bx s = true) → SRel w g bx s x v → SRel w' g' bx' s (killS x) v
  | .comp b cs, v, _, hr => h.comp (p := (b, cs)) (fun c => hp _) hr
  | .tup vs, v, _, hr => ⟨.dead, rfl, .inl rfl⟩
  | .box cs, v, hb, hr => by
    obtain ⟨⟨b, arr, ty, h1, h2, h3, h4⟩, b', h5, h6⟩ := hr
    have hbx := hb rfl
    obtain ⟨o1, o2⟩ := h.kBO (hp 0) h2
    exact ⟨⟨b, arr, ty, by rw [h.kX s hbx]; exact h1, o1, by rw [o2]; exact h3, h.cells (fun c => hp _) h4⟩, b', by rw [h.kX s hbx]; exact h5, h6⟩
  | .mapb k t xs (some _), v, hb, hr => ⟨.dead, rfl, .inl rfl⟩
  | .mapb k t xs none, v, hb, hr => by
    obtain ⟨b, h1, h2, ⟨es, clock, h3, h4⟩, h5⟩ := hr
    have hbx := hb rfl
    obtain ⟨o1, o2, _⟩ := h.kO b _ (hp 0) h2
    exact ⟨b, by rw [h.kX s hbx]; exact h1, o1, ⟨es, clock, by rw [o2]; exact h3, h4⟩, h5⟩
end
theorem isBox_kill (fr : Fr) : isBox (kill fr) = isBox fr := by
  funext j
  unfold isBox kill
  cases fr j <;> first | rfl | (rename_i it; cases it <;> rfl)
section
variable {P : Program} {st : St} {g : Gh} {fr : Fr} {a : Act} {w : World} {X : Env} {o : Oper} {R : Type} {K : Fr → Option R} {r : R} {Q : Exit → Act → World → Prop}
theorem unpack_length (old : Bool) : ∀ (t : Ty) (x : Den t), (unpack old t x).length = t.cells
  | .int _, _ => rfl
  | .bool, _ => rfl
  | .str, _ => rfl
  | .sl _, _ => rfl
  | .pair a b, x => by simp [unpack, Ty.cells, unpack_length old a x.1, unpack_length old b x.2]
theorem setElem_rel (h : Ok st g fr a w) {t : Ty} (hfl : t.flat = true) {x y : Den t} {k : Nat} {new : List CV} (hs : setElem t x k new = some y) {ecs : List Value} (hr : rep w g.S t x ecs) {vs : List Value} (hvl : vs.length = new.length)
    (hv : ∀ (j : Nat) (c : CV), new[j]? = some c → ∃ u : Value, vs[j]? = some u ∧ isScalar c = true ∧ rel w g (isBox fr) (.air 0) c u) :
    k + new.length ≤ t.cells ∧ rep w g.S t y (seg ecs.toArray k vs).toList := by
  unfold setElem at hs
  cases hfi : fillCells (unpack false t x) k new with
  | none => rw [hfi] at hs; cases hs
  | some cs =>
    rw [hfi] at hs
    simp only at hs
    split at hs
    · rename_i y' hp
      cases hs
      obtain ⟨f1, f2, f3⟩ := fillCells_some hfi
      have hl := unpack_length false t x
      have hel := rep_length hr
      have hfit : k + vs.length ≤ ecs.toArray.size := by simp only [List.size_toArray, hel, hvl]; omega
      have hsl : (seg ecs.toArray k vs).toList.length = cs.length := by
        rw [Array.length_toList, seg_size hfit, f2, hl]; simpa using hel
      obtain ⟨p1, p2, p3⟩ := pack_rel h t cs (seg ecs.toArray k vs).toList _ [] hsl (fun j c hj => by
        rw [f3] at hj
        rw [Array.getElem?_toList, seg_get hfit]
        rw [hvl]
        split at hj
        · rename_i hin
          rw [if_pos hin]
          obtain ⟨u, e1, e2, e3⟩ := hv _ c hj
          exact ⟨u, e1, .air 0, e3⟩
        · rename_i hin
          rw [if_neg hin]
          obtain ⟨u, e1, e2⟩ := unpack_rel (g := g) false (.inr ⟨rfl, rfl⟩) t x ecs hr j c hj
          exact ⟨u, by simpa using e1, .air 0, rel_of_relF e2⟩) hp
      refine ⟨by rw [← hl]; exact f1, ?_⟩
      rw [List.take_of_length_le (by rw [hsl, f2, hl]; omega)] at p3
      exact p3
    · cases hs
theorem storeElem_ok (hT : TabOk P X) (h : Ok st g fr a w) (hX : Fits X st) {t : TypeId} {p x : Operand} (ho : o.op = .store t p x) {i : TI} (hi : X.ti t = some i) {gg : Bool} {ws : List CV} {fr1 : Fr} (ht : takeOpd fr x = ((gg, ws), fr1)) (hl : ws.length = i.ty.cells)
    {s c : Nat} {u : Ty} {ix : Int} {k : Nat} {ecs0 : List CV} (hp : opc fr p = .eptr s c u ix k ecs0) {fr2 : Fr} (hs : store X.dr (.eptr s c u ix k ecs0) gg ws fr1 = some fr2) (hd : o.dst = none) (hf : K fr2 = some r) : o.wp P a w (Good st K r) Q := by
  obtain ⟨g1, t1, hv⟩ := takeOpd_ok h ht 0
  rw [← t1.bx] at hv
  have hp0 := t1.air 0 _ _ (opc_rel h hp (by simp) (by simp)).2
  rw [← t1.bx] at hp0
  obtain ⟨ad, hpv, hpl, hpH⟩ := hp0
  simp only [store] at hs
  cases hsc : ws.all isScalar
  case false => rw [hsc] at hs; cases hs
  rw [hsc] at hs
  simp only [cond_true] at hs
  cases hca : cellAt fr1 s c <;> rw [hca] at hs <;> simp only at hs <;> first | (cases hs; done) | skip
  rename_i t0 xs
  cases hcond : (t0.flat && decide (u = t0))
  · rw [hcond] at hs; cases hs
  rw [hcond] at hs
  simp only [cond_true] at hs
  simp only [Bool.and_eq_true, decide_eq_true_eq] at hcond
  obtain ⟨hfl, rfl⟩ := hcond
  cases hse : setElem u (rd u.zero xs ix) k ws with
  | none => rw [hse] at hs; cases hs
  | some y =>
    rw [hse] at hs
    simp only [Option.some.injEq] at hs
    subst hs
    obtain ⟨v0, hat, hrel⟩ := cell_rel t1.ok hca (by simp) (by simp)
    obtain ⟨hown, hi0, hH⟩ := hrel
    obtain ⟨n, cap', hv0, hix0, hix1, hoff⟩ := hpH v0 hH
    rcases hown with ⟨e, _⟩ | ⟨b, cap, cur, e', h1, hO, hb, h4, h5, h6, h7, h8⟩
    · rw [e] at hv0; cases hv0
    rw [h1] at hv0
    simp only [Value.slice.injEq, Option.some.injEq, Addr.mk.injEq, and_true] at hv0
    obtain ⟨hbb, hn, _⟩ := hv0
    subst hbb
    have hixl : ix < (xs.length : Int) := by omega
    obtain ⟨ecs, q1, q2⟩ := h7 ix.toNat _ (rd_get u.zero xs ix hix0 hixl)
    have hsure : gg = true ∨ ws.all sure = true := .inr (by
      rw [List.all_eq_true] at hsc ⊢; exact fun c hc => scalar_sure (hsc c hc))
    obtain ⟨v1, v2⟩ := air_cells hv hsure
    simp only at v1 v2
    have hone : ∀ u ∈ (a.eval x).cells.toList, u.oneCell' = true := fun u hu => by
      obtain ⟨k, hk, rfl⟩ := List.getElem_of_mem hu
      obtain ⟨u', e1, e2⟩ := v2 k _ (List.getElem?_eq_getElem (by rw [← v1]; exact hk))
      rw [List.getElem?_eq_getElem hk] at e1
      simp only [Option.some.injEq] at e1
      rw [e1]; exact rel_one e2
    obtain ⟨s1, s2⟩ := setElem_rel t1.ok hfl hse (rep_flat hfl q1) v1 (fun j c hj => by
      obtain ⟨z, e1, e2⟩ := v2 j c hj
      have hz := List.all_eq_true.1 hsc c (List.mem_of_getElem? hj)
      exact ⟨z, e1, hz, scalar_rel hz e2⟩)
    have hlt : ix.toNat < xs.length := by omega
    have hmul : (ix.toNat + 1) * u.cells ≤ xs.length * u.cells := Nat.mul_le_mul_right _ hlt
    have hmul2 : xs.length * u.cells ≤ cap * u.cells := Nat.mul_le_mul_right _ h4
    rw [Nat.add_mul] at hmul
    have hfit : ad.off + (a.eval x).cells.toList.length ≤ cur.size := by rw [v1, hoff, h6]; omega
    have hrun := store_run (P := P) hT hi hb (v := a.eval x) (c := ad.off) (by rw [v1, hl]) hone hfit
    have hadx : ad = ⟨ad.block, ad.off, none⟩ := addr_eta ad hpl.1
    rw [← hadx] at hrun
    refine wp_skipped (w' := w.setRow ad.block (seg cur ad.off (a.eval x).cells.toList)) (by simp only [execOp, ho, hpv, Sem.run_bind, hrun, Result.andThen_ok, Sem.run_pure]) ?_
    rw [hd]
    show Good st K r a _
    -- the killed frame
    have hownb := t1.ok.own _ _ hO
    have hne : ∀ b', b' < st.B → ¬ st.M b' → b' ≠ ad.block := fun b' h1 h2 e => by subst e; exact h2 (hownb.2 h1)
    have hnew := setRow_heap w ad.block cur (seg cur ad.off (a.eval x).cells.toList) e' (0, 0) hb
    have hoth := fun b' hb' => setRow_other w ad.block b' (seg cur ad.off (a.eval x).cells.toList) hb'
    have hk : Kld g1 g1 w (w.setRow ad.block (seg cur ad.off (a.eval x).cells.toList)) (isBox fr1) (isBox fr1) (fun p => p ≠ .at s 0 c) := {
      kB := rfl, kR := rfl, kM := rfl, kZ := rfl
      kbx := fun s hs => hs
      kX := fun s _ => rfl
      kZc := fun b' oo hz => World.cell?_of_block (w := w) (hoth b' (by
        have := t1.ok.zs b' oo (by rw [← t1.ok.eZ]; exact hz)
        exact hne b' this.2.1 this.2.2))
      kL := fun b' hl => hoth b' (hne b' (by rw [← t1.ok.eB]; exact hl.1) (by rw [← t1.ok.eM]; exact hl.2))
      kO := fun b' p hp hO' => ⟨hO', hoth b' (fun e => by subst e; rw [hO] at hO'; cases hO'; exact hp rfl), fun _ => Iff.rfl⟩
      kH := fun _ _ _ _ => rfl }
    have hnewrel : rel (w.setRow ad.block (seg cur ad.off (a.eval x).cells.toList)) g1 (isBox fr1) (.at s 0 c) (.own u (xs.set ix.toNat y)) v0 := by
      have hels : ∀ (i : Nat) (z : Den u), (xs.set ix.toNat y)[i]? = some z → ∃ ecs, rep (w.setRow ad.block (seg cur ad.off (a.eval x).cells.toList)) (g1.SO (w.setRow ad.block (seg cur ad.off (a.eval x).cells.toList)) (.at s 0 c)) u z ecs ∧ ∀ (j : Nat) (v : Value), ecs[j]? = some v → (seg cur ad.off (a.eval x).cells.toList)[i * u.cells + j]? = some v := by
        intro i z hz
        by_cases hiz : i = ix.toNat
        · subst hiz
          rw [List.getElem?_set] at hz
          simp [hlt] at hz
          subst hz
          refine ⟨_, rep_flat hfl s2, fun j c hj => ?_⟩
          have hel := rep_length q1
          have hfe : k + (a.eval x).cells.toList.length ≤ ecs.toArray.size := by simp only [List.size_toArray, hel, v1]; omega
          have hjl := (List.getElem?_eq_some_iff.1 hj).1
          rw [Array.length_toList, seg_size hfe] at hjl
          simp only [List.size_toArray, hel] at hjl
          rw [Array.getElem?_toList, seg_get hfe] at hj
          rw [seg_get hfit, hoff]
          split at hj
          · rename_i hin
            rw [if_pos (by omega)]
            rw [show ix.toNat * u.cells + j - (ix.toNat * u.cells + k) = j - k by omega]
            exact hj
          · rename_i hin
            rw [if_neg (by omega)]
            exact q2 j c (by simpa using hj)
        · rw [List.getElem?_set_ne (Ne.symm hiz)] at hz
          obtain ⟨ecs', e1, e2⟩ := h7 i z hz
          refine ⟨ecs', rep_flat hfl e1, fun j c hj => ?_⟩
          have hjl : j < u.cells := by have := (List.getElem?_eq_some_iff.1 hj).1; rw [rep_length e1] at this; exact this
          have hil := (List.getElem?_eq_some_iff.1 hz).1
          rw [seg_get hfit, hoff, if_neg]
          · exact e2 j c hj
          · rw [v1]
            rintro ⟨a1, a2⟩
            rcases Nat.lt_or_gt_of_ne hiz with hlt' | hgt
            · have : (i + 1) * u.cells ≤ ix.toNat * u.cells := Nat.mul_le_mul_right _ hlt'
              rw [Nat.add_mul] at this; omega
            · have : (ix.toNat + 1) * u.cells ≤ i * u.cells := Nat.mul_le_mul_right _ hgt
              rw [Nat.add_mul] at this; omega
      exact ⟨.inr ⟨ad.block, cap, _, e', by rw [List.length_set]; exact h1, hO, hnew, by simpa using h4, h5, by rw [seg_size hfit, h6], hels, fun oo => by rw [List.length_set]; exact h8.1 oo, apart_flat hfl hels _⟩, rfl, hH⟩
    have hbk : isBox (setCellAt (kill fr1) s c (.own u (xs.set ix.toNat y))) = isBox fr1 := (isBox_setCell _ _ _ _).trans (isBox_kill fr1)
    refine ⟨g1, _, ?_, hf⟩
    have h1o := t1.ok
    exact {
      eB := h1o.eB, eR := h1o.eR, eM := h1o.eM, eZ := h1o.eZ, size := h1o.size, defers := h1o.defers, keep := h1o.keep
      os := h1o.os, tape := h1o.tape, output := h1o.output
      heap := by simpa using h1o.heap
      old := fun b' hb' hm' => (hoth b' (hne b' hb' hm')).trans (h1o.old b' hb' hm')
      own := fun b' p hO' => by simpa using h1o.own b' p hO'
      stab := fun b' oo hs' => by simpa using h1o.stab b' oo hs'
      boxS := h1o.boxS
      zs := h1o.zs
      sz := h1o.sz
      hh := h1o.hh
      slot := fun q => by
        rw [hbk]
        have hsl := h1o.slot q
        by_cases hq : q = s
        · subst hq
          unfold setCellAt
          unfold cellAt at hca
          unfold At at hat
          cases hfs : fr1 q with
          | tup vs => rw [hfs] at hca; cases hca
          | mapb kk vv xx ii => rw [hfs] at hca; cases hca
          | comp bb cs =>
            rw [hfs] at hca hat hsl
            have hkq : kill fr1 q = .comp bb (cs.map kill1) := by unfold kill; rw [hfs]; rfl
            rw [hkq]
            cases c with
            | zero => cases hca
            | succ c =>
              simp only [upd_same]
              simp only [List.getD_eq_getElem?_getD] at hca
              have hcl : cs[c]? = some (.own u xs) := by
                cases hcc : cs[c]? with
                | none => rw [hcc] at hca; cases hca
                | some z => rw [hcc] at hca; simp at hca; rw [hca]
              cases bb with
              | true =>
                obtain ⟨vs, e1, e2, e3⟩ := hsl
                obtain ⟨vs', f1, _, f2⟩ := hat
                rw [e1] at f1
                simp only [Value.agg.injEq] at f1
                have hvv : vs = vs' := by simpa using congrArg Array.toList f1
                subst hvv
                refine ⟨vs, e1, by simpa using e2, fun m z hm => ?_⟩
                by_cases hmc : m = c
                · subst hmc
                  rw [List.getElem?_set] at hm
                  simp at hm
                  obtain ⟨_, rfl⟩ := hm
                  exact ⟨v0, by simpa using f2, hnewrel⟩
                · rw [List.getElem?_set_ne (Ne.symm hmc), List.getElem?_map] at hm
                  cases hcm : cs[m]? with
                  | none => rw [hcm] at hm; simp at hm
                  | some z' =>
                    rw [hcm] at hm
                    simp at hm
                    subst hm
                    obtain ⟨zz, e4, e5⟩ := e3 m z' hcm
                    exact ⟨zz, e4, hk.rel (by intro e; cases e; exact hmc rfl) e5⟩
              | false =>
                obtain ⟨z, e1, _⟩ := hsl
                subst e1
                obtain ⟨f1, f2⟩ := hat
                have : c = 0 := by omega
                subst this
                exact ⟨_, rfl, .inr (.inr (by rw [f2]; exact hnewrel))⟩
          | box cs =>
            rw [hfs] at hca hat hsl
            have hkq : kill fr1 q = .box (cs.map kill1) := by unfold kill; rw [hfs]; rfl
            rw [hkq]
            cases c with
            | zero => cases hca
            | succ c =>
              simp only [upd_same]
              obtain ⟨⟨b1, arr, ty, e1, e2, e3, e4⟩, e5⟩ := hsl
              obtain ⟨b2, arr2, ty2, f1, f2, _, f3⟩ := hat
              rw [e1] at f1; cases f1
              rw [e3] at f2; cases f2
              have hb1 : b1 ≠ ad.block := fun e => by subst e; cases h1o.boxO e2 hO
              refine ⟨⟨b1, arr, ty, e1, e2, by rw [hoth b1 hb1]; exact e3, by simpa using e4.1, fun m z hm => ?_⟩, e5⟩
              by_cases hmc : m = c
              · subst hmc
                rw [List.getElem?_set] at hm
                simp at hm
                obtain ⟨_, rfl⟩ := hm
                exact ⟨v0, by simpa using f3, hnewrel⟩
              · rw [List.getElem?_set_ne (Ne.symm hmc), List.getElem?_map] at hm
                cases hcm : cs[m]? with
                | none => rw [hcm] at hm; simp at hm
                | some z' =>
                  rw [hcm] at hm
                  simp at hm
                  subst hm
                  obtain ⟨zz, e6, e7⟩ := e4.2 m z' hcm
                  exact ⟨zz, e6, hk.rel (by intro e; cases e; exact hmc rfl) e7⟩
        · have : setCellAt (kill fr1) s c (.own u (xs.set ix.toNat y)) q = killS (fr1 q) := by
            unfold setCellAt
            cases kill fr1 s with
            | tup vs => rfl
            | mapb kk vv xx ii => rfl
            | comp b cs => cases c <;> simp [upd_ne _ _ _ hq, kill]
            | box cs => cases c <;> simp [upd_ne _ _ _ hq, kill]
          rw [this]
          exact hk.slot (fun c e => by cases e; exact hq rfl) (fun e => by simp [isBox, e]) hsl }
end
end Go.Rv

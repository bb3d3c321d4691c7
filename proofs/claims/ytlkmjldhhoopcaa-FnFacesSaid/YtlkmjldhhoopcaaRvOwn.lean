/- Operations that make, move or take rows. -/
import Derived.Test.YtlkmjldhhoopcaaRvLand
namespace Go.Rv
set_option linter.unusedSimpArgs false
set_option linter.unusedVariables false
section
variable {P : Program} {st : St} {g : Gh} {fr : Fr} {a : Act} {w : World} {X : Env} {o : Oper} {R : Type} {K : Fr → Option R} {r : R} {Q : Exit → Act → World → Prop}
theorem good_of_fin_free (hX : Fits X st) (h : Ok st g fr a w) {p : Comp} {v : Value} {dst : Option Nat} (hv : FRel w g (isBox fr) p v) (hf : fin X fr dst (.comp p.1 p.2) K = some r) : Good st K r (a.put dst v) w := by
  obtain ⟨g', fr', h1, h2⟩ := fin_free hX h hv hf; exact ⟨g', fr', h1, h2⟩
/-! ### assign -/
theorem assign_ok (h : Ok st g fr a w) (hX : Fits X st) {x : Operand} (ho : o.op = .assign x) {gg : Bool} {ws : List CV} {fr1 : Fr} (ht : takeOpd fr x = ((gg, ws), fr1)) {d : Nat} (hd : o.dst = some d)
    (hf : (bif X.dr || ws.all isScalar then fin X fr1 (some d) (.comp gg ws) K else fin X (dem d fr1) (some d) (.comp gg (ws.map fun c => dem1 d (toOwn c))) K) = some r) : o.wp P a w (Good st K r) Q := by
  obtain ⟨g1, t1, hv⟩ := takeOpd_ok h ht 0
  refine wp_value (v := a.eval x) (w' := w) (by simp only [execOp, ho, Sem.run_pure]) ?_
  rw [hd]
  rw [← t1.bx] at hv
  cases hs : (X.dr || ws.all isScalar)
  · rw [hs] at hf
    simp only [cond_false, fin] at hf
    cases hsd : setD X (dem d fr1) d (.comp gg (ws.map fun c => dem1 d (toOwn c))) with
    | none => rw [hsd] at hf; cases hf
    | some fr2 =>
      rw [hsd] at hf
      obtain ⟨h1, h2, h3, rfl⟩ := setD_some hX hsd
      have h0 := t1.ok.dem d
      have hbx : isBox (dem d fr1) = isBox fr1 := isBox_dem d fr1
      have hmm : ∀ s, s ≠ d → mentionsS (dem d fr1 s) d = true → ∀ (Hn : Nat → Option Value) c, Hn c = none := fun s _ hm => by
        have : mentionsS (demS d (fr1 s)) d = true := hm
        rw [demS_mentions] at this; cases this
      -- the header of what is owned
      cases gg with
      | true =>
        obtain ⟨vs, e1, e2, e3⟩ := hv
        let Hn : Nat → Option Value := fun c => match c with
          | 0 => none
          | k + 1 => match ws[k]? with
            | some (.tmpo _ _) => vs[k]?
            | _ => none
        refine ⟨_, _, h0.landSet (Hn := Hn) h1 h2 h3 rfl (fun c u hu => ?_) (fun s hs hm c => hmm s hs hm Hn c) ?_, hf⟩
        · cases c with
          | zero => cases hu
          | succ k =>
            simp only [Hn] at hu
            split at hu
            · rename_i t xs hk
              obtain ⟨u', f1, f2⟩ := e3 k _ hk
              rw [f1] at hu; cases hu
              exact f2.1.head
            · cases hu
        · refine ⟨vs, e1, by simpa using e2, fun k c hk => ?_⟩
          rw [List.getElem?_map] at hk
          cases hc : ws[k]? with
          | none => rw [hc] at hk; simp at hk
          | some c' =>
            rw [hc] at hk
            simp at hk
            subst hk
            obtain ⟨u, f1, f2⟩ := e3 k c' hc
            refine ⟨u, f1, ?_⟩
            rw [hbx]
            rw [show (0 : Nat) + k = k by omega] at f2
            by_cases hto : ∃ t xs, c' = .tmpo t xs
            · have hn : Hn (0 + k + 1) = some u := by
                obtain ⟨t, xs, rfl⟩ := hto
                simp only [Hn, Nat.zero_add, hc, f1]
              have := land_toOwn h0 (d := d) (lo := 0) (k := k) (D := fun _ => true) (Hn := Hn) rfl hn hto f2
              rw [show 0 + k + 1 = k + 1 by omega] at this
              exact dem1_rel this
            · have hto' : toOwn c' = c' := by cases c' <;> first | rfl | exact absurd ⟨_, _, rfl⟩ hto
              rw [hto']
              have hn : Hn (0 + k + 1) = none := by
                simp only [Hn, Nat.zero_add, hc]
                cases c' <;> first | rfl | exact absurd ⟨_, _, rfl⟩ hto
              have := land_rel h0 (d := d) (lo := 0) (k := k) (D := fun _ => true) (Hn := Hn) rfl hn (fun hm => by rw [dem1_mentions] at hm; cases hm) (dem1_rel (s := d) f2)
              rw [show 0 + k + 1 = k + 1 by omega] at this
              exact this
      | false =>
        obtain ⟨c', e1, e2⟩ := hv
        subst e1
        by_cases hto : ∃ t xs, c' = .tmpo t xs
        · obtain ⟨t, xs, rfl⟩ := hto
          have e3 : rel w g1 (isBox fr1) (.air 0) (.tmpo t xs) (a.eval x) := by
            rcases e2 with e2 | ⟨e2, _⟩ | e2
            · cases e2
            · cases e2
            · exact e2
          let Hn : Nat → Option Value := fun c => if c = 1 then some (a.eval x) else none
          refine ⟨_, _, h0.landSet (Hn := Hn) h1 h2 h3 rfl (fun c u hu => ?_) (fun s hs hm c => hmm s hs hm Hn c) ?_, hf⟩
          · simp only [Hn] at hu
            split at hu
            · cases hu; exact e3.1.head
            · cases hu
          · refine ⟨_, rfl, .inr (.inr ?_)⟩
            rw [hbx]
            have := land_toOwn h0 (d := d) (lo := 0) (k := 0) (D := fun _ => true) (Hn := Hn) rfl (by simp [Hn]) ⟨t, xs, rfl⟩ e3
            exact dem1_rel this
        · have hto' : toOwn c' = c' := by cases c' <;> first | rfl | exact absurd ⟨_, _, rfl⟩ hto
          refine ⟨_, _, h0.landSet (Hn := fun _ => none) h1 h2 h3 rfl (fun c u hu => by cases hu) (fun s hs hm c => rfl) ?_, hf⟩
          refine ⟨_, rfl, ?_⟩
          show dem1 d (toOwn c') = .dead ∨ dem1 d (toOwn c') = .undef ∧ a.eval x = undef ∨ rel w _ (isBox (dem d fr1)) _ (dem1 d (toOwn c')) (a.eval x)
          rw [hto', hbx]
          rcases e2 with rfl | ⟨rfl, e2⟩ | e2
          · exact .inl rfl
          · exact .inr (.inl ⟨rfl, e2⟩)
          · exact .inr (.inr (land_rel h0 (d := d) (lo := 0) (k := 0) (D := fun _ => true) (Hn := fun _ => none) rfl rfl (fun _ _ => rfl) (dem1_rel (s := d) e2)))
  · rw [hs] at hf
    exact fin_land (p := (gg, ws)) hX t1.ok hv hf
/-! ### moving between slots -/
def Gh.mv (g : Gh) (d : Nat) (f : Place → Option Place) : Gh := { g with
  O := fun b => (g.O b).bind f
  H := fun s c => if s = d then none else g.H s c }
theorem Chg.mv (h : Ok st g fr a w) (d : Nat) (f : Place → Option Place) (bx : Nat → Bool) : Chg g (g.mv d f) w w bx bx (fun p => f p = some p ∧ notAt d p) (fun _ => True) where
  cB := rfl
  cM := rfl
  cZ := rfl
  zS := fun b o hz => (h.zs b o (by rw [← h.eZ]; exact hz)).1
  cbx := fun s hs => hs
  cX := fun s _ => rfl
  cS := fun b o hs => ⟨hs, rfl⟩
  cL := fun b _ => rfl
  cO := fun b p hp hO => ⟨by simp [Gh.mv, hO, hp.1], rfl, fun _ => Iff.rfl⟩
  cH := fun s c u _ hu => by
    simp only [Gh.mv] at hu
    split at hu
    · cases hu
    · exact hu
  cHp := fun s i c hp => by
    have hp' : s ≠ d := hp.2
    simp [Gh.mv, hp']
/-- a cell that is no owner, at another place -/
theorem reloc {g g' : Gh} {w w' : World} {bx bx' : Nat → Bool} {P : Place → Prop} {Hs : Nat → Prop} (hc : Chg g g' w w' bx bx' P Hs) {p0 : Place} (hp0 : P p0) {p q : Place}
    (hO : ∀ b, g.O b = some p → g'.O b = some q ∧ w'.heap[b]? = w.heap[b]? ∧ ∀ o, g'.S b o ↔ g.S b o) (hH : match q with | .at s _ c => g'.H s c = none | .air _ => True)
    {c : CV} {v : Value} (ho : isOwn c = false) (hm : ∀ s, mentions c s = true → Hs s) (hr : rel w g bx p c v) : rel w' g' bx' q c v := by
  by_cases hf : free c = true
  · exact rel_place hf (hc.kRel hp0 hm (rel_place hf hr))
  · cases c <;> simp [free] at hf
    case own t xs => simp [isOwn] at ho
    case tmpo t xs =>
      refine ⟨?_, ?_⟩
      · rcases hr.1 with e | ⟨b, cap, cur, e, h1, h2, h3, h4, h5, h6, h7, h8⟩
        · exact .inl e
        · obtain ⟨o1, o2, o3⟩ := hO b h2
          refine .inr ⟨b, cap, cur, e, h1, o1, by rw [o2]; exact h3, h4, h5, h6, fun i x hi => ?_, fun o => by rw [o3, h8]⟩
          obtain ⟨ecs, e1, e2⟩ := h7 i x hi
          exact ⟨ecs, hc.kRep e1, e2⟩
      · cases q with
        | air k => trivial
        | «at» s i c => exact hH
theorem reloc_comp {g g' : Gh} {w w' : World} {bx bx' : Nat → Bool} {P : Place → Prop} {Hs : Nat → Prop} (hc : Chg g g' w w' bx bx' P Hs) {p0 : Place} (hp0 : P p0) {s i s' i' : Nat}
    (hO : ∀ b c, 0 < c → g.O b = some (.at s i c) → g'.O b = some (.at s' i' c) ∧ w'.heap[b]? = w.heap[b]? ∧ ∀ o, g'.S b o ↔ g.S b o) (hH : ∀ c, g'.H s' c = none) :
    ∀ {p : Comp} {v : Value}, p.2.all (fun c => !isOwn c) = true → (∀ s, cellsM p.2 s = true → Hs s) → CRel w g bx s i p v → CRel w' g' bx' s' i' p v
  | (true, cs), v, ho, hm, hr => by
    obtain ⟨vs, h1, h2, h3⟩ := hr
    refine ⟨vs, h1, h2, fun j c hj => ?_⟩
    obtain ⟨u, e1, e2⟩ := h3 j c hj
    exact ⟨u, e1, reloc hc hp0 (fun b => hO b _ (by omega)) (hH _) (by simpa using List.all_eq_true.1 ho c (List.mem_of_getElem? hj)) (fun s hs => hm s (cellsM_of hj hs)) e2⟩
  | (false, cs), v, ho, hm, hr => by
    obtain ⟨c, h1, h2⟩ := hr
    subst h1
    refine ⟨c, rfl, ?_⟩
    rcases h2 with h2 | h2 | h2
    · exact .inl h2
    · exact .inr (.inl h2)
    · exact .inr (.inr (reloc hc hp0 (fun b => hO b _ (by omega)) (hH _) (by simpa using ho) (fun s hs => hm s (cellsM_of (j := 0) rfl hs)) h2))
/-- Slots t and d change; the rest stands. -/
theorem Ok.mv (h : Ok st g fr a w) {t d : Nat} (f : Place → Option Place) (hf : ∀ s i c, s ≠ t → s ≠ d → f (.at s i c) = some (.at s i c)) (hfb : ∀ s i c s', f (.at s i c) = some (.at s' 0 0) → s = s' ∧ i = 0 ∧ c = 0) (hfa : ∀ k s, f (.air k) ≠ some (.at s 0 0))
    (hd : d < st.n) (hb : notBox (fr d) = true) (hbt : notBox (fr t) = true) (hk : d ∉ st.keep) (htd : t ≠ d) {y x : SV} (hy : notBox y = true) (hx : notBox x = true) {v : Value}
    (hvt : SRel w (g.mv d f) (isBox fr) t y (a.tmps.getD t undef)) (hv : SRel w (g.mv d f) (isBox fr) d x v) : Ok st (g.mv d f) (upd (upd fr t y) d x) (a.put (some d) v) w where
  eB := h.eB
  eM := h.eM
  eZ := h.eZ
  size := by rw [put_tmps]; simp [h.size]
  defers := h.defers
  slot := fun s => by
    have hb' : notBox (upd fr t y d) = true := by rw [upd_ne fr t y (Ne.symm htd)]; exact hb
    rw [isBox_upd _ d x hb' hx, isBox_upd fr t y hbt hy]
    by_cases hs : s = d
    · subst hs
      rw [upd_same, put_getD_same v (by rw [h.size]; exact hd)]
      exact hv
    · rw [upd_ne _ d x hs, put_getD_ne a v hs]
      by_cases hst : s = t
      · subst hst; rw [upd_same]; exact hvt
      · rw [upd_ne fr t y hst]
        exact (Chg.mv h d f (isBox fr)).kSlot (fun i c => ⟨hf s i c hst hs, hs⟩) (fun cs hc => by simp [isBox, hc, notBox]) (fun _ _ => trivial) (h.slot s)
  keep := fun j hj => by
    have : j ≠ d := fun e => hk (e ▸ hj)
    rw [put_tmps, Array.getElem?_setIfInBounds_ne (Ne.symm this)]
    exact h.keep j hj
  os := h.os
  tape := h.tape
  output := h.output
  heap := h.heap
  old := h.old
  own := fun b p hO => by
    simp only [Gh.mv] at hO
    cases hb : g.O b with
    | none => rw [hb] at hO; cases hO
    | some q => exact h.own b q hb
  stab := h.stab
  boxS := fun b s hO => by
    simp only [Gh.mv] at hO
    cases hb : g.O b with
    | none => rw [hb] at hO; cases hO
    | some q =>
      rw [hb] at hO
      simp at hO
      cases q with
      | air k => exact absurd hO (hfa k s)
      | «at» s' i c =>
        obtain ⟨rfl, rfl, rfl⟩ := hfb s' i c s hO
        exact h.boxS b _ hb
  zs := h.zs
  sz := h.sz
  hh := fun s c u hu => by
    simp only [Gh.mv] at hu
    split at hu
    · cases hu
    · exact h.hh s c u hu
theorem moveTup_ok (h : Ok st g fr a w) (hX : Fits X st) {t d : Nat} {vs : List (Bool × List CV)} (ho : o.op = .move (.tmp t)) (ht : fr t = .tup vs) (hd : o.dst = some d)
    (hf : (bif d.beq t || !vs.all (fun p => p.2.all fun c => !isOwn c) then none else fin X (upd fr t .dead) (some d) (.tup vs) K) = some r) : o.wp P a w (Good st K r) Q := by
  cases hc : (d.beq t || !vs.all (fun p => p.2.all fun c => !isOwn c))
  case true => rw [hc] at hf; cases hf
  rw [hc] at hf
  simp only [cond_false, fin] at hf
  simp only [Bool.or_eq_false_iff, Bool.not_eq_false'] at hc
  obtain ⟨hdt, hall⟩ := hc
  have hne : t ≠ d := fun e => by subst e; simp at hdt
  refine wp_value (v := a.eval (.tmp t)) (w' := w) (by simp only [execOp, ho, Sem.run_pure]) ?_
  rw [hd]
  cases hsd : setD X (upd fr t .dead) d (.tup vs) with
  | none => rw [hsd] at hf; cases hf
  | some fr2 =>
    rw [hsd] at hf
    obtain ⟨h1, h2, h3, rfl⟩ := setD_some hX hsd
    rw [upd_ne fr t _ (Ne.symm hne)] at h2
    let f : Place → Option Place := fun p => match p with
      | .at s i c => if s = t then (if c = 0 then none else some (.at d i c)) else if s = d then none else some p
      | .air k => some (.air k)
    have hs := h.slot t
    rw [ht] at hs
    obtain ⟨us, e1, e2, e3⟩ := hs
    refine ⟨_, _, h.mv (t := t) (d := d) f (fun s i c q1 q2 => by simp [f, q1, q2]) (fun s i c s' e => ?_) (fun k s e => by simp [f] at e) h1 h2 (by rw [ht]; rfl) h3 hne (y := .dead) (x := .tup vs) rfl rfl ⟨.dead, rfl, .inl rfl⟩ ?_, hf⟩
    · simp only [f] at e
      split at e
      · split at e
        · cases e
        · rename_i hc; simp at e; exact absurd e.2.2 hc
      · split at e
        · cases e
        · simp at e; exact ⟨e.1, e.2.1, e.2.2⟩
    · refine ⟨us, e1, e2, fun i p hi => ?_⟩
      obtain ⟨u, q1, q2⟩ := e3 i p hi
      refine ⟨u, q1, reloc_comp (Chg.mv h d f (isBox fr)) (p0 := .air 0) ⟨rfl, trivial⟩ (fun b c hc hO => ⟨?_, rfl, fun _ => Iff.rfl⟩) (fun c => by simp [Gh.mv]) (List.all_eq_true.1 hall p (List.mem_of_getElem? hi)) (fun _ _ => trivial) q2⟩
      have : c ≠ 0 := by omega
      simp [Gh.mv, hO, f, this]
theorem plain_free {c : CV} (h : isPlain c = true) : free c = true := by cases c <;> first | rfl | simp [isPlain] at h
theorem extract_ok (h : Ok st g fr a w) (hX : Fits X st) {t d i : Nat} {vs : List (Bool × List CV)} (ho : o.op = .extract (.tmp t) i) (ht : fr t = .tup vs) {gg : Bool} {cs : List CV} (hi : vs[i]? = some (gg, cs)) (hd : o.dst = some d)
    (hf : (bif d.beq t || !cs.all (fun c => !isOwn c) then none else bif cs.all isPlain then fin X fr (some d) (.comp gg cs) K else fin X (upd fr t (.tup (vs.set i (false, [.dead])))) (some d) (.comp gg cs) K) = some r) : o.wp P a w (Good st K r) Q := by
  cases hc : (d.beq t || !cs.all (fun c => !isOwn c))
  case true => rw [hc] at hf; cases hf
  rw [hc] at hf
  simp only [cond_false] at hf
  cases hpl : cs.all isPlain
  case true =>
    rw [hpl] at hf
    simp only [cond_true] at hf
    have hs := h.slot t
    rw [ht] at hs
    obtain ⟨us, e1, e2, e3⟩ := hs
    obtain ⟨u, q1, q2⟩ := e3 i _ hi
    have hev : a.eval (.tmp t) = .tuple us.toArray := e1
    have hfree : (cs.all free) = true := List.all_eq_true.2 fun c hc => plain_free (List.all_eq_true.1 hpl c hc)
    obtain ⟨g', fr', h1, h2⟩ := fin_free (p := (gg, cs)) (v := u) hX h ⟨hfree, comp_place hfree q2⟩ hf
    rw [← hd] at h1
    exact wp_value (v := u) (w' := w) (by simp [execOp, ho, hev, Instr.extract, q1]) ⟨g', fr', h1, h2⟩
  rw [hpl] at hf
  simp only [cond_false, fin] at hf
  simp only [Bool.or_eq_false_iff, Bool.not_eq_false'] at hc
  obtain ⟨hdt, hall⟩ := hc
  have hne : t ≠ d := fun e => by subst e; simp at hdt
  have hs := h.slot t
  rw [ht] at hs
  obtain ⟨us, e1, e2, e3⟩ := hs
  obtain ⟨u, q1, q2⟩ := e3 i _ hi
  have hev : a.eval (.tmp t) = .tuple us.toArray := e1
  refine wp_value (v := u) (w' := w) (by simp [execOp, ho, hev, Instr.extract, q1]) ?_
  rw [hd]
  cases hsd : setD X (upd fr t (.tup (vs.set i (false, [.dead])))) d (.comp gg cs) with
  | none => rw [hsd] at hf; cases hf
  | some fr2 =>
    rw [hsd] at hf
    obtain ⟨h1, h2, h3, rfl⟩ := setD_some hX hsd
    rw [upd_ne fr t _ (Ne.symm hne)] at h2
    let f : Place → Option Place := fun p => match p with
      | .at s i' c => if s = t then (if i' = i then (if c = 0 then none else some (.at d 0 c)) else some p) else if s = d then none else some p
      | .air k => some (.air k)
    refine ⟨_, _, h.mv (t := t) (d := d) f (fun s i c q1 q2 => by simp [f, q1, q2]) (fun s i' c s' e => ?_) (fun k s e => by simp [f] at e) h1 h2 (by rw [ht]; rfl) h3 hne (y := .tup (vs.set i (false, [.dead]))) (x := .comp gg cs) rfl rfl ?_ ?_, hf⟩
    · simp only [f] at e
      split at e
      · split at e
        · split at e
          · cases e
          · rename_i hc; simp at e; exact absurd e.2 hc
        · simp at e; exact ⟨e.1, e.2.1, e.2.2⟩
      · split at e
        · cases e
        · simp at e; exact ⟨e.1, e.2.1, e.2.2⟩
    · refine ⟨us, e1, by simpa using e2, fun k p hk => ?_⟩
      by_cases hki : k = i
      · subst hki
        rw [List.getElem?_set] at hk
        simp at hk
        obtain ⟨_, rfl⟩ := hk
        exact ⟨u, q1, .dead, rfl, .inl rfl⟩
      · rw [List.getElem?_set_ne (by omega)] at hk
        obtain ⟨u', p1, p2⟩ := e3 k p hk
        exact ⟨u', p1, (Chg.mv h d f (isBox fr)).kComp (fun c => ⟨by simp [f, hki], hne⟩) (fun _ _ => trivial) p2⟩
    · have := reloc_comp (p := (gg, cs)) (s' := d) (i' := 0) (Chg.mv h d f (isBox fr)) (p0 := .air 0) ⟨rfl, trivial⟩ (fun b c hc hO => ⟨(by
        have : c ≠ 0 := by omega
        simp [Gh.mv, hO, f, this]), rfl, fun _ => Iff.rfl⟩) (fun c => by simp [Gh.mv]) hall (fun _ _ => trivial) q2
      exact this
end
end Go.Rv

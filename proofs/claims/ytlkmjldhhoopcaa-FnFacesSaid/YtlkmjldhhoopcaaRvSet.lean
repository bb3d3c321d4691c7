/- Operands, and the setting of a slot. -/
import Derived.Test.YtlkmjldhhoopcaaRvChg
namespace Go.Rv
set_option linter.unusedSimpArgs false
set_option linter.unusedVariables false

/-- a comp that owns nothing -/
def FRel (w : World) (g : Gh) (bx : Nat → Bool) (p : Comp) (v : Value) : Prop := p.2.all free = true ∧ CRel w g bx 0 0 p v
theorem FRel.at {w : World} {g : Gh} {bx : Nat → Bool} {p : Comp} {v : Value} (h : FRel w g bx p v) (s i : Nat) : CRel w g bx s i p v := comp_place h.1 h.2
theorem FRel.one {w : World} {g : Gh} {bx : Nat → Bool} {c : CV} {v : Value} (hf : free c = true) (h : rel w g bx (.air 0) c v) : FRel w g bx (false, [c]) v :=
  ⟨by simp [hf], c, rfl, .inr (.inr (rel_place hf h))⟩
theorem FRel.dead {w : World} {g : Gh} {bx : Nat → Bool} {v : Value} : FRel w g bx (false, [.dead]) v := ⟨rfl, _, rfl, .inl rfl⟩
theorem one_rel {w : World} {g : Gh} {bx : Nat → Bool} : ∀ {p : Comp} {v : Value}, FRel w g bx p v → one p ≠ .dead → one p ≠ .undef → free (one p) = true ∧ rel w g bx (.air 0) (one p) v
  | (true, _), v, _, h, _ => absurd rfl h
  | (false, []), v, _, h, _ => absurd rfl h
  | (false, _ :: _ :: _), v, _, h, _ => absurd rfl h
  | (false, [c]), v, hF, h1, h2 => by
    obtain ⟨hf, c', hc, h⟩ := hF
    cases hc
    have hfc : free c = true := by simpa using hf
    rcases h with h | ⟨h, _⟩ | h
    · exact absurd h h1
    · exact absurd h h2
    · exact ⟨hfc, rel_place hfc h⟩
section
variable {st : St} {g : Gh} {fr : Fr} {a : Act} {w : World}
theorem constCV_rel {w : World} {g : Gh} {bx : Nat → Bool} {p : Place} (v : Value) (h : notDead (constCV v) = true) : free (constCV v) = true ∧ rel w g bx p (constCV v) v := by
  unfold constCV at *
  split at h <;> first | exact ⟨rfl, rfl⟩ | simp [notDead] at h
theorem constC_ok {w : World} {g : Gh} {bx : Nat → Bool} (v : Value) : FRel w g bx (constC v) v := by
  unfold constC
  split
  · rename_i cs
    cases hall : cs.toList.all (fun v => notDead (constCV v))
    · exact FRel.dead
    · simp only [cond_true]
      rw [List.all_eq_true] at hall
      refine ⟨?_, cs.toList, by simp, by simp, fun j c hj => ?_⟩
      · rw [List.all_eq_true]
        intro c hc
        obtain ⟨v, hv, rfl⟩ := List.mem_map.1 hc
        exact (constCV_rel (w := w) (g := g) (bx := bx) (p := .air 0) v (hall v hv)).1
      · rw [List.getElem?_map] at hj
        cases hv : cs.toList[j]? with
        | none => simp [hv] at hj
        | some u =>
          simp [hv] at hj
          subst hj
          exact ⟨u, rfl, (constCV_rel u (hall u (List.mem_of_getElem? hv))).2⟩
  · cases hd : notDead (constCV v)
    · have : constCV v = .dead := by unfold notDead at hd; split at hd <;> simp_all
      rw [this]; exact FRel.dead
    · obtain ⟨h1, h2⟩ := constCV_rel (w := w) (g := g) (bx := bx) (p := .air 0) v hd
      exact FRel.one h1 h2
theorem opd_ok (h : Ok st g fr a w) (x : Operand) : FRel w g (isBox fr) (opd fr x) (a.eval x) := by
  cases x with
  | const v => exact constC_ok v
  | global n => exact FRel.dead
  | func f => exact FRel.one rfl ⟨[], rfl, rfl, fun j c hj => by simp at hj⟩
  | tmp t =>
    have hs := h.slot t
    show FRel w g (isBox fr) (viewS t (fr t)) (a.tmps.getD t undef)
    cases hx : fr t with
    | tup vs => exact FRel.dead
    | box cs =>
      rw [hx] at hs
      obtain ⟨_, b, hb, hv⟩ := hs
      refine FRel.one rfl ⟨?_, b, hb, hv⟩
      simp [isBox, hx, notBox]
    | comp gg cs =>
      rw [hx] at hs
      cases gg with
      | true =>
        obtain ⟨vs, hv, hc⟩ := hs
        obtain ⟨v1, v2, v3⟩ := view1_ok cs 1 vs hc.1 (fun j x hj => by rw [Nat.add_comm]; exact hc.2 j x hj)
        refine ⟨v2, vs, hv, ?_, fun j c hj => ?_⟩
        · show vs.length = (view1 t 1 cs).length
          rw [v1]; exact hc.1
        · obtain ⟨u, hu, hr⟩ := v3 j c hj
          exact ⟨u, hu, hr _⟩
      | false =>
        obtain ⟨c, hc, hr⟩ := hs
        cases hc
        rcases hr with rfl | ⟨rfl, hu⟩ | hr
        · exact FRel.dead
        · exact ⟨rfl, _, rfl, .inr (.inl ⟨rfl, hu⟩)⟩
        · obtain ⟨v1, v2, v3⟩ := view1_ok [c] 1 [a.tmps.getD t undef] rfl (fun j x hj => by
            cases j with
            | zero => simp at hj; subst hj; exact ⟨_, rfl, hr⟩
            | succ j => simp at hj)
          cases hy : view1 t 1 [c] with
          | nil => simp [hy] at v1
          | cons y r =>
            have hr0 : r = [] := List.eq_nil_of_length_eq_zero (by simpa [hy] using v1)
            subst hr0
            obtain ⟨u, hu, hp⟩ := v3 0 y (by simp [hy])
            simp only [List.getElem?_cons_zero, Option.some.injEq] at hu
            subst hu
            have hvs : viewS t (.comp false [c]) = (false, [y]) := by show (false, view1 t 1 [c]) = _; rw [hy]
            rw [hvs]
            exact FRel.one (by rw [hy] at v2; simpa using v2) (hp _)
theorem opc_rel (h : Ok st g fr a w) {x : Operand} {c : CV} (hc : opc fr x = c) (h1 : c ≠ .dead) (h2 : c ≠ .undef) : free c = true ∧ rel w g (isBox fr) (.air 0) c (a.eval x) := by
  subst hc
  exact one_rel (opd_ok h x) h1 h2

/-! ### Setting -/
def Gh.clr (g : Gh) (d : Nat) : Gh := { g with H := fun s c => if s = d then none else g.H s c }
def notAt (d : Nat) : Place → Prop
  | .at s _ _ => s ≠ d
  | .air _ => True
theorem isBox_upd (fr : Fr) (d : Nat) (x : SV) (h : notBox (fr d) = true) (hx : notBox x = true) : isBox (upd fr d x) = isBox fr := by
  funext j
  unfold isBox upd
  cases hj : j.beq d
  · rfl
  · have := Nat.eq_of_beq_eq_true hj
    subst this
    simp [h, hx]
theorem upd_same (fr : Fr) (d : Nat) (x : SV) : upd fr d x d = x := by unfold upd; simp
theorem upd_ne (fr : Fr) (d : Nat) (x : SV) {j : Nat} (h : j ≠ d) : upd fr d x j = fr j := by
  unfold upd
  have : j.beq d = false := by
    cases hb : j.beq d
    · rfl
    · exact absurd (Nat.eq_of_beq_eq_true hb) h
  rw [this]; rfl
theorem put_tmps (a : Act) (d : Nat) (v : Value) : (a.put (some d) v).tmps = a.tmps.setIfInBounds d v := rfl
theorem put_getD_same {a : Act} {d : Nat} (v : Value) (hd : d < a.tmps.size) : (a.put (some d) v).tmps.getD d undef = v := by
  simp [put_tmps, Array.getD_eq_getD_getElem?, hd]
theorem put_getD_ne (a : Act) {d j : Nat} (v : Value) (h : j ≠ d) : (a.put (some d) v).tmps.getD j undef = a.tmps.getD j undef := by
  simp [put_tmps, Array.getD_eq_getD_getElem?, Array.getElem?_setIfInBounds_ne (Ne.symm h)]
theorem Chg.clr (h : Ok st g fr a w) (d : Nat) (bx : Nat → Bool) : Chg g (g.clr d) w w bx bx (notAt d) (fun _ => True) where
  cB := rfl
  cM := rfl
  cZ := rfl
  zS := fun b o hz => (h.zs b o (by rw [← h.eZ]; exact hz)).1
  cbx := fun s hs => hs
  cX := fun s _ => rfl
  cS := fun b o hs => ⟨hs, rfl⟩
  cL := fun b _ => rfl
  cO := fun b p _ hO => ⟨hO, rfl, fun _ => Iff.rfl⟩
  cH := fun s c u _ hu => by
    simp only [Gh.clr] at hu
    split at hu
    · cases hu
    · exact hu
  cHp := fun s i c hp => by
    have hp' : s ≠ d := hp
    simp [Gh.clr, hp']
theorem FRel.clr (h : Ok st g fr a w) {bx : Nat → Bool} (d : Nat) {p : Comp} {v : Value} (hp : FRel w g bx p v) : FRel w (g.clr d) bx p v :=
  ⟨hp.1, comp_place hp.1 ((Chg.clr h d bx).kComp (s := d + 1) (i := 0) (fun c => by show d + 1 ≠ d; omega) (fun _ _ => trivial) (hp.at (d + 1) 0))⟩
/-- What is told stands when slot d is set: the world is as it was. -/
theorem Ok.set (h : Ok st g fr a w) {d : Nat} (hd : d < st.n) (hb : notBox (fr d) = true) (hk : d ∉ st.keep) {x : SV} (hx : notBox x = true) {v : Value} (hv : SRel w (g.clr d) (isBox fr) d x v) :
    Ok st (g.clr d) (upd fr d x) (a.put (some d) v) w where
  eB := h.eB
  eM := h.eM
  eZ := h.eZ
  size := by rw [put_tmps]; simp [h.size]
  defers := h.defers
  slot := fun s => by
    rw [isBox_upd fr d x hb hx]
    by_cases hs : s = d
    · subst hs
      rw [upd_same, put_getD_same v (by rw [h.size]; exact hd)]
      exact hv
    · rw [upd_ne fr d x hs, put_getD_ne a v hs]
      exact (Chg.clr h d (isBox fr)).kSlot (fun i c => hs) (fun cs hc => by simp [isBox, hc, notBox]) (fun _ _ => trivial) (h.slot s)
  keep := fun j hj => by
    have : j ≠ d := fun e => hk (e ▸ hj)
    rw [put_tmps, Array.getElem?_setIfInBounds_ne (Ne.symm this)]
    exact h.keep j hj
  os := h.os
  tape := h.tape
  output := h.output
  heap := h.heap
  old := h.old
  own := h.own
  stab := h.stab
  boxS := h.boxS
  zs := h.zs
  sz := h.sz
  hh := fun s c u hu => by
    simp only [Gh.clr] at hu
    split at hu
    · cases hu
    · exact h.hh s c u hu
structure Fits (X : Env) (st : St) : Prop where
  n : X.n = st.n
  keep : X.keep = st.keep
theorem setD_some {X : Env} {st : St} (hX : Fits X st) {fr fr' : Fr} {d : Nat} {x : SV} (h : setD X fr d x = some fr') : d < st.n ∧ notBox (fr d) = true ∧ d ∉ st.keep ∧ fr' = upd fr d x := by
  unfold setD at h
  cases hc : (d.blt X.n && (notBox (fr d) && !X.keep.contains d))
  · rw [hc] at h; cases h
  · rw [hc] at h
    simp only [cond_true, Option.some.injEq] at h
    simp only [Bool.and_eq_true, Bool.not_eq_true'] at hc
    refine ⟨?_, hc.2.1, ?_, h.symm⟩
    · rw [← hX.n]; exact Nat.le_of_ble_eq_true hc.1
    · rw [← hX.keep]; intro hm
      have := hc.2.2
      rw [List.contains_eq_mem] at this
      simp [hm] at this
/-- The end of most operations. -/
theorem fin_ok {R : Type} {X : Env} (hX : Fits X st) (h : Ok st g fr a w) {x : SV} (hx : notBox x = true) {v : Value} {dst : Option Nat} (hv : ∀ d, dst = some d → SRel w (g.clr d) (isBox fr) d x v)
    {K : Fr → Option R} {r : R} (hf : fin X fr dst x K = some r) : ∃ g' fr', Ok st g' fr' (a.put dst v) w ∧ K fr' = some r := by
  cases dst with
  | none => exact ⟨g, fr, h, hf⟩
  | some d =>
    simp only [fin] at hf
    cases hs : setD X fr d x with
    | none => rw [hs] at hf; cases hf
    | some fr1 =>
      rw [hs] at hf
      obtain ⟨h1, h2, h3, rfl⟩ := setD_some hX hs
      exact ⟨_, _, h.set h1 h2 h3 hx (hv d rfl), hf⟩
theorem fin_free {R : Type} {X : Env} (hX : Fits X st) (h : Ok st g fr a w) {p : Comp} {v : Value} {dst : Option Nat} (hv : FRel w g (isBox fr) p v)
    {K : Fr → Option R} {r : R} (hf : fin X fr dst (.comp p.1 p.2) K = some r) : ∃ g' fr', Ok st g' fr' (a.put dst v) w ∧ K fr' = some r :=
  fin_ok (x := .comp p.1 p.2) (v := v) hX h rfl (fun d _ => (hv.clr h d).at d 0) hf
theorem fin_one {R : Type} {X : Env} (hX : Fits X st) (h : Ok st g fr a w) {c : CV} {v : Value} {dst : Option Nat} (hfr : free c = true) (hv : rel w g (isBox fr) (.air 0) c v)
    {K : Fr → Option R} {r : R} (hf : fin X fr dst (.comp false [c]) K = some r) : ∃ g' fr', Ok st g' fr' (a.put dst v) w ∧ K fr' = some r :=
  fin_free hX h (FRel.one hfr hv) hf
end
end Go.Rv

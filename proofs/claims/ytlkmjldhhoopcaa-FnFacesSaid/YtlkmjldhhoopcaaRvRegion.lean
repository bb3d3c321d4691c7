/- Regions that draw no order. -/
import Derived.Test.YtlkmjldhhoopcaaRvStep
import Derived.Tactics
namespace Go.Rv
set_option linter.unusedSimpArgs false
set_option linter.unusedVariables false
section
variable {P : Program} {st : St} {g : Gh} {fr : Fr} {a : Act} {w : World} {X : Env} {o : Oper} {R : Type} {K : Fr → Option R} {r : R} {Q : Exit → Act → World → Prop}
theorem upd_idem (fr : Fr) (d : Nat) {v : SV} (h : fr d = v) : upd fr d v = fr := by
  funext j
  by_cases hj : j = d
  · subst hj; rw [upd_same, h]
  · rw [upd_ne fr d _ hj]
theorem getD_some {v : Value} {d : Nat} (h : a.tmps.getD d undef = v) (hv : v ≠ undef) : a.tmps[d]? = some v := by
  rw [Array.getD_eq_getD_getElem?] at h
  cases hc : a.tmps[d]? with
  | none => rw [hc] at h; exact (hv h.symm).elim
  | some u => rw [hc] at h; simp at h; rw [h]
theorem guardK_ok (h : Ok st g fr a w) {ops : List Oper} {no yes : Fr → Option R} (hk : guardK ops o fr no yes = some r) :
    (Region.wanted o (yielded ops.toArray a.tmps) = true ∧ yes fr = some r) ∨ (Region.wanted o (yielded ops.toArray a.tmps) = false ∧ no fr = some r) := by
  unfold guardK at hk
  unfold Region.wanted
  split at hk
  next hg => rw [hg]; exact .inl ⟨rfl, hk⟩
  next j want hg =>
    rw [hg]
    split at hk
    next oj hj =>
      split at hk
      next d hd =>
        split at hk
        next b hb =>
          have hs := h.slot d
          rw [hb] at hs
          obtain ⟨c, hc, hv⟩ := hs
          cases hc
          rcases hv with hv | hv | hv
          · cases hv
          · cases hv.1
          · have hv : a.tmps.getD d undef = .bool b := hv
            have hv := getD_some hv (by simp [undef])
            have hy : yielded ops.toArray a.tmps j = some b := by unfold yielded; simp [hj, hd, hv]
            simp only [hy]
            rw [show upd fr d (.comp false [.bool true]) = (if b = true then fr else upd fr d (.comp false [.bool true])) by
              split
              · rename_i e; subst e; exact upd_idem fr d hb
              · rfl] at hk
            rw [show upd fr d (.comp false [.bool false]) = (if b = true then upd fr d (.comp false [.bool false]) else fr) by
              split
              · rfl
              · rename_i e; simp at e; subst e; exact upd_idem fr d hb] at hk
            cases b <;> cases want
            · exact .inl ⟨rfl, hk⟩
            · exact .inr ⟨rfl, hk⟩
            · exact .inr ⟨rfl, hk⟩
            · exact .inl ⟨rfl, hk⟩
        next hb =>
          have hs := h.slot d
          rw [hb] at hs
          obtain ⟨c, hc, hv⟩ := hs
          cases hc
          have hv : a.tmps.getD d undef = undef := by
            rcases hv with hv | hv | hv
            · cases hv
            · exact hv.2
            · exact hv.elim
          have hy : yielded ops.toArray a.tmps j = none := by
            unfold yielded; simp only [List.getElem?_toArray, hj, Option.bind_some, hd]
            rw [Array.getD_eq_getD_getElem?] at hv
            cases hc : a.tmps[d]? with
            | none => rfl
            | some u => rw [hc] at hv; simp at hv; rw [hv]; rfl
          simp only [hy]
          exact .inr ⟨rfl, hk⟩
        next => cases hk
      next => cases hk
    next => cases hk
theorem skip_ok (h : Ok st g fr a w) (hX : Fits X st) {d : Option Nat} (hf : fin X fr d (.comp false [.undef]) K = some r) : Good st K r (a.put d undef) w :=
  fin_ok (x := .comp false [.undef]) hX h rfl (fun d _ => ⟨.undef, rfl, .inr (.inl ⟨rfl, rfl⟩)⟩) hf
theorem runOps_ok (hT : TabOk P X) {E : FuncId → Option Fn} (hE : EnvOk P E) (hX : Fits X st) {ops : List Oper} (hQ : ∀ g fr a w, Ok st g fr a w → K fr = some r → Q .normal a w) :
    ∀ (l : List Oper) {g : Gh} {fr : Fr} {a : Act} {w : World}, Ok st g fr a w → runOps X E ops l fr K = some r → wpList P ops.toArray Q l a w
  | [], g, fr, a, w, h, hk => hQ g fr a w h hk
  | o :: l, g, fr, a, w, h, hk => by
    unfold wpList
    rcases guardK_ok h hk with ⟨h1, h2⟩ | ⟨h1, h2⟩
    · rw [h1, if_pos rfl]
      refine .inl (Oper.wp_mono ?_ (step_ok hT hE h hX h2))
      rintro a' w' ⟨g', fr', ok, hk'⟩
      exact runOps_ok hT hE hX hQ l ok hk'
    · rw [h1]
      simp only [Bool.false_eq_true, if_false]
      obtain ⟨g', fr', ok, hk'⟩ := skip_ok h hX h2
      exact runOps_ok hT hE hX hQ l ok hk'
theorem region_ok (hT : TabOk P X) {E : FuncId → Option Fn} (hE : EnvOk P E) (hX : Fits X st) {ops : Array Oper} {id : Nat} (hQ : ∀ g fr a w, Ok st g fr a w → K fr = some r → Q .normal a w)
    (h : Ok st g fr a w) (hk : runOps X E ops.toList ops.toList fr K = some r) : (Code.region id ops false).wp P Q a w := by
  have := wp_region_list (P := P) (id := id) (runOps_ok hT hE hX hQ ops.toList h hk)
  simpa using this
end
end Go.Rv

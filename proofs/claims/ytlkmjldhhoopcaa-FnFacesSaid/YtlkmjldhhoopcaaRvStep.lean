/- One operation, whichever it is. -/
import Derived.Test.YtlkmjldhhoopcaaRvMut2
import Derived.Test.YtlkmjldhhoopcaaRvBoxCall
namespace Go.Rv
set_option linter.unusedSimpArgs false
set_option linter.unusedVariables false
section
variable {P : Program} {st : St} {g : Gh} {fr : Fr} {a : Act} {w : World} {X : Env} {o : Oper} {R : Type} {K : Fr → Option R} {r : R} {Q : Exit → Act → World → Prop}
theorem ti_agg (h : TabOk P X) {t : TypeId} {i : TI} (hi : X.ti t = some i) {f : Nat} {x : Nat × Nat × Bool} (hf : i.offs[f]? = some x) : i.agg = true := by
  have := ti_fit h hi
  unfold fitB at this
  simp only [Bool.and_eq_true] at this
  have hne : i.offs.isEmpty = false := by
    cases ho : i.offs with
    | nil => rw [ho] at hf; simp at hf
    | cons => rfl
  have h2 := this.2
  split at h2
  · exact (Bool.and_eq_true _ _ ▸ h2).1
  all_goals first
    | (split at h2
       · simp [hne] at h2
       · cases h2)
    | (cases h2)
/-- what is entered keeps its contract -/
def EnvOk (P : Program) (E : FuncId → Option Fn) : Prop := ∀ f F, E f = some F → EntOk P f F
theorem bif_some {b : Bool} {α : Type} {x : Option α} {y : α} (h : (bif b then x else none) = some y) : b = true ∧ x = some y := by
  cases b
  · cases h
  · exact ⟨rfl, h⟩
theorem ite_some {p : Prop} [Decidable p] {α : Type} {x : Option α} {y : α} (h : (if p then x else none) = some y) : p ∧ x = some y := by
  split at h
  · exact ⟨‹_›, h⟩
  · cases h
theorem step_ok (hT : TabOk P X) {E : FuncId → Option Fn} (hE : EnvOk P E) (h : Ok st g fr a w) (hX : Fits X st) (hs : stepOp X E o fr K = some r) : o.wp P a w (Good st K r) Q := by
  unfold stepOp at hs
  split at hs
  next x ho =>
    split at hs
    next t =>
      split at hs
      next vs ht =>
        split at hs
        next d hd => exact moveTup_ok h hX ho ht hd hs
        next => cases hs
      next v hn =>
        exact ok_move h hX ho (fun t' vs e => by cases e; exact fun e2 => hn vs e2) (by simpa only [opd] using hs)
    next hx => exact ok_move h hX ho (fun t' vs e => (hx t' e).elim) hs
  next x ho =>
    generalize ht : takeOpd fr x = q at hs
    obtain ⟨⟨gg, ws⟩, fr1⟩ := q
    simp only at hs
    split at hs
    next d hd => exact assign_ok h hX ho ht hd hs
    next => cases hs
  next c x y ho =>
    split at hs
    next q hc => exact pick_ok h hX ho hc hs
    next => cases hs
  next t ho =>
    split at hs
    next i d hi hd => exact alloc_ok hT h hX ho hi hd hs
    next => cases hs
  next t x ho =>
    split at hs
    next d hd =>
      obtain ⟨hb, hs⟩ := bif_some hs
      exact box_ok h hX ho (by simpa using hb) hd hs
    next => cases hs
  next t ps ho =>
    split at hs
    next i hi =>
      obtain ⟨ha, hs⟩ := bif_some hs
      split at hs
      next cs fr1 hb => exact build_ok hT h hX ho hi ha hb hs
      next => cases hs
    next => cases hs
  next t n ps ho =>
    split at hs
    next u hu =>
      split at hs
      next xs hp =>
        obtain ⟨hn, hs⟩ := bif_some hs
        exact buildSlice_ok hT h hX ho hu hp hn hs
      next => cases hs
    next => cases hs
  next t l m ho =>
    split at hs
    next u hu =>
      split at hs
      next n k hl hm =>
        obtain ⟨h0, hs⟩ := ite_some hs
        obtain ⟨h1, hs⟩ := ite_some hs
        obtain ⟨h2, hs⟩ := ite_some hs
        exact makeSlice_ok hT h hX ho hu hl hm h0 h1 h2 hs
      next => cases hs
    next => cases hs
  next t x ho =>
    split at hs
    next i hi =>
      split at hs
      next cs hl => exact load_ok hT h hX ho hi hl hs
      next => cases hs
    next => cases hs
  next t p x ho =>
    generalize ht : takeOpd fr x = q at hs
    obtain ⟨⟨gg, ws⟩, fr1⟩ := q
    split at hs
    next i c ws' fr1' hi he =>
      cases he
      obtain ⟨hl, hs⟩ := bif_some hs
      simp only [Bool.and_eq_true] at hl
      have hl1 := Nat.eq_of_beq_eq_true hl.1
      split at hs
      next fr2 hst =>
        obtain ⟨hd, hs⟩ := bif_some hs
        have hd : o.dst = none := by simpa using hd
        have hst' := hst
        unfold store at hst'
        split at hst'
        next s c hp => rw [hp] at hst; exact storePtr_ok hT h hX ho hi ht hl1 hp hst hd hs
        next s c u ix k ecs hp => rw [hp] at hst; exact storeElem_ok hT h hX ho hi ht hl1 hp hst hd hs
        next => cases hst'
      next => cases hs
    next => cases hs
  next x ho =>
    split at hs
    next s c hx => exact nil_ok h hX ho hx rfl hs
    next cs hx => exact nil_ok h hX ho hx rfl hs
    next cs hx => exact nil_ok h hX ho hx rfl hs
    next s c t i k cs hx => exact nil_ok h hX ho hx rfl hs
    next => cases hs
  next op t x y ty ho =>
    split at hs
    next cs ds hx hy =>
      split at hs
      next i q hi hq =>
        obtain ⟨he, hs⟩ := bif_some hs
        exact struct_eq_ok hT h hX ho hx hy hi hq he (by cases op <;> first | exact hs | cases hs)
      next => cases hs
    next => exact bin_ok hT h hX rfl rfl ho hs
  next op t x ho =>
    split at hs
    next b hx => exact not_ok h hX ho hx hs
    next k n hx => exact neg_ok h hX ho hx hs
    next => cases hs
  next s t x ho =>
    split at hs
    next i k j n hs' ht hx => exact convert_ok hT h hX ho hs' ht hx hs
    next => cases hs
  next f first caps ho =>
    obtain ⟨hc, hs⟩ := bif_some hs
    exact makeFunc_ok h hX ho hc hs
  next t x lo hi mx ho =>
    split at hs
    next u xs l hx =>
      split at hs
      next k n hn =>
        obtain ⟨hu, hs⟩ := bif_some hs
        have hu := of_decide_eq_true hu
        obtain ⟨h0, hs⟩ := ite_some hs
        obtain ⟨h1, hs⟩ := ite_some hs
        exact slice_ok hT h hX ho hn hu (.inl ⟨rfl, hx⟩) h0 h1 (.inl ⟨rfl, rfl⟩) hs
      next => cases hs
    next u xs l hx =>
      split at hs
      next k n hn =>
        obtain ⟨hu, hs⟩ := bif_some hs
        have hu := of_decide_eq_true hu
        obtain ⟨h0, hs⟩ := ite_some hs
        obtain ⟨h1, hs⟩ := ite_some hs
        exact slice_ok hT h hX ho hn hu (.inr ⟨rfl, .inl hx⟩) h0 h1 (.inr ⟨rfl, rfl⟩) hs
      next => cases hs
    next s k u xs l hx =>
      split at hs
      next k n hn =>
        obtain ⟨hu, hs⟩ := bif_some hs
        have hu := of_decide_eq_true hu
        obtain ⟨h0, hs⟩ := ite_some hs
        obtain ⟨h1, hs⟩ := ite_some hs
        exact slice_ok hT h hX ho hn hu (.inr ⟨rfl, .inr ⟨_, _, hx⟩⟩) h0 h1 (.inr ⟨rfl, rfl⟩) hs
      next => cases hs
    next hb _ _ _ =>
      split at hs
      next l k n hl hn => exact slice2_ok hT h hX ho hl hn hs
      next => cases hs
    next => cases hs
  next t x f ho =>
    split at hs
    next i hi =>
      split at hs
      next off n gg hf =>
        split at hs
        next c hc => exact fieldAddr_ok hT h hX ho hi (ti_agg hT hi hf) hf hc hs
        next => cases hs
      next => cases hs
    next => cases hs
  next t x f ho =>
    split at hs
    next i cs hi hx =>
      split at hs
      next off n gg hf =>
        split at hs
        next vs hv => exact field_ok hT h hX ho hi (ti_agg hT hi hf) hf hx hv hs
        next => cases hs
      next => cases hs
    next => cases hs
  next t x ix ho =>
    split at hs
    next k i hi => exact index_ok hT h hX ho hi hs
    next => cases hs
  next x i ho =>
    split at hs
    next t =>
      split at hs
      next vs ht =>
        split at hs
        next gg cs hi =>
          split at hs
          next d hd => exact extract_ok h hX ho ht hi hd hs
          next => cases hs
        next => cases hs
      next => cases hs
    next => cases hs
  next c ho =>
    split at hs
    next hc =>
      split at hs
      next t x hat ha =>
        split at hs
        next n hn => exact len_ok hT h hX ho hc hat ha hn hs
        next => cases hs
      next => cases hs
    next hc =>
      split at hs
      next t u x y hat ha =>
        have hb := bif_some hs
        clear hs
        obtain ⟨he, hs⟩ := hb
        have he := Nat.eq_of_beq_eq_true he
        subst he
        split at hs
        next u hu =>
          generalize ht : takeOpd fr x = q at hs
          split at hs
          next ys u' xs fr1 hy =>
            split at hs
            next hh =>
              subst hh
              obtain ⟨hl, hs⟩ := ite_some hs
              exact append_ok hT h hX ho hc hat ha hu hy ht (.inl rfl) hl hs
            next => cases hs
          next ys fr1 hy =>
            obtain ⟨hl, hs⟩ := ite_some hs
            exact append_ok hT h hX ho hc hat ha hu hy ht (xs := []) (.inr ⟨rfl, rfl⟩) (by simpa using hl) (by simpa using hs)
          next => cases hs
        next => cases hs
      next => cases hs
    next hc =>
      split at hs
      next x y ha =>
        split at hs
        next j p k q hx hy =>
          split at hs
          next e => subst e; exact min_ok h hX ho hc ha hx hy hs
          next => cases hs
        next => cases hs
      next => cases hs
    next hc =>
      split at hs
      next x y ha =>
        split at hs
        next j p k q hx hy =>
          split at hs
          next e => subst e; exact max_ok h hX ho hc ha hx hy hs
          next => cases hs
        next => cases hs
      next => cases hs
    next f hc =>
      split at hs
      next fid caps hf =>
        split at hs
        next F hF =>
          cases hb : F.box
          · rw [hb] at hs
            simp only [cond_false] at hs
            by_cases hm : F.muts = []
            · exact call_ok h hX ho hc hf (hE _ _ hF) hb hm hs
            · exact callMut_ok h hX ho hc hf (hE _ _ hF) hb hm hs
          · rw [hb] at hs
            simp only [cond_true] at hs
            obtain ⟨hcaps, hs⟩ := bif_some hs
            exact callBox_ok h hX ho hc hf hcaps (hE _ _ hF) hb hs
        next => cases hs
      next => cases hs
    next => cases hs
  next => cases hs
end
end Go.Rv

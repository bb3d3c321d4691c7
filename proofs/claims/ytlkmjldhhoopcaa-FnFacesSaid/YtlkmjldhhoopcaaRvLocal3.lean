/- Where an operation looks, and where it writes: what is taken. -/
import Derived.Test.YtlkmjldhhoopcaaRvLocal2
namespace Go.Rv
set_option linter.unusedSimpArgs false
set_option linter.unusedVariables false
section
variable {X : Env} {E : FuncId → Option Fn} {fr fr' fr1 : Fr} {o : Oper}
/-! ### nothing is owned -/
theorem view_plain {s : Nat} : ∀ {cs : List CV} {c : Nat}, cs.any hasOwner = false → view1 s c cs = cs
  | [], c, _ => rfl
  | x :: cs, c, h => by
    simp only [List.any_cons, Bool.or_eq_false_iff] at h
    have ih := view_plain (s := s) (c := c + 1) h.2
    cases x <;> simp only [view1, ih] <;> simp [hasOwner] at h
theorem takeSlot_plain {s : Nat} {gg : Bool} {cs : List CV} (hs : fr s = .comp gg cs) (h : cs.any hasOwner = false) : ∀ (n c : Nat), c + n = cs.length → takeSlot fr s n (c + 1) = (cs.drop c, fr)
  | 0, c, hc => by simp only [takeSlot]; rw [List.drop_of_length_le (by omega)]
  | n + 1, c, hc => by
    have hlt : c < cs.length := by omega
    have hcell : cellAt fr s (c + 1) = cs[c] := by unfold cellAt; rw [hs]; simp [List.getD_eq_getElem?_getD, hlt]
    have hno : hasOwner cs[c] = false := by
      rw [Bool.eq_false_iff]
      intro e
      rw [Bool.eq_false_iff] at h
      exact h (List.any_eq_true.2 ⟨_, List.getElem_mem hlt, e⟩)
    have ht : takeAt fr s (c + 1) = (cs[c], fr) := by
      unfold takeAt
      rw [hcell]
      cases hq : cs[c] <;> rw [hq] at hno <;> first | rfl | (simp [hasOwner] at hno)
    simp only [takeSlot, ht]
    rw [takeSlot_plain hs h n (c + 1) (by omega), List.drop_eq_getElem_cons hlt]
theorem take_plain {x : Operand} (h : ownOp fr x = false) : takeOpd fr x = (opd fr x, fr) := by
  unfold takeOpd
  cases x with
  | tmp t =>
    simp only
    simp only [ownOp] at h
    cases hs : fr t with
    | comp gg cs =>
      rw [hs] at h
      simp only [takeSlot_plain hs h cs.length 0 (by omega), List.drop_zero, opd, viewS, hs, view_plain h]
    | box cs => rfl
    | tup vs => rfl
  | _ => rfl
theorem own_of_scalar {x : Operand} (h : (opd fr x).2.all isScalar = true) : ownOp fr x = false := by
  cases x with
  | tmp t =>
    simp only [ownOp]
    cases hs : fr t with
    | comp gg cs =>
      simp only [opd, viewS, hs] at h
      simp only
      have key : ∀ (cs : List CV) (c : Nat), (view1 t c cs).all isScalar = true → cs.any hasOwner = false := by
        intro cs
        induction cs with
        | nil => intro c _; rfl
        | cons y cs ih =>
          intro c h
          cases y <;> simp only [view1, List.all_cons, Bool.and_eq_true] at h <;> first | (simp [isScalar] at h; done) | simp only [List.any_cons, hasOwner, Bool.false_or, ih _ h.2]
      exact key cs 1 h
    | box cs => rfl
    | tup vs => rfl
  | _ => rfl
theorem ownOp_eq {x : Operand} {L : List Loc} (ha : Agr fr fr' L) (hx : ∀ t, x = .tmp t → Loc.shape t ∈ L) : ownOp fr' x = ownOp fr x := by
  cases x with
  | tmp t =>
    have hsh := ha.shape (hx t rfl)
    simp only [ownOp]
    cases hs : fr t with
    | comp gg cs => rw [hs] at hsh; rw [shape_eq (x := .comp gg cs) hsh rfl]
    | tup vs => rw [hs] at hsh; obtain ⟨us, hd, _⟩ := shape_tup hsh; rw [hd]
    | box cs => rw [hs] at hsh; obtain ⟨ds, hd⟩ := shape_box (x := fr' t) (cs := []) hsh.symm; rw [hd]
  | _ => rfl
/-! ### stores into boxes -/
theorem toOwn_scalar {cs : List CV} (h : cs.all isScalar = true) : cs.map toOwn = cs := by
  induction cs with
  | nil => rfl
  | cons c cs ih =>
    simp only [List.all_cons, Bool.and_eq_true] at h
    simp only [List.map_cons, ih h.2]
    cases c <;> first | rfl | simp [isScalar] at h
theorem toOwn_plain {cs : List CV} (h : cs.all isPlain = true) : cs.map toOwn = cs := by
  induction cs with
  | nil => rfl
  | cons c cs ih =>
    simp only [List.all_cons, Bool.and_eq_true] at h
    simp only [List.map_cons, ih h.2]
    cases c <;> first | rfl | simp [isPlain] at h
theorem fill_get {cs new cs' : List CV} {c : Nat} (h : fillCells cs c new = some cs') (k : Nat) : cs'[k]? = if c ≤ k ∧ k < c + new.length then new[k - c]? else cs[k]? := by
  unfold fillCells at h
  obtain ⟨hl, h⟩ := bif_some h
  have hl := Nat.le_of_ble_eq_true hl
  cases h
  by_cases h1 : k < c
  · rw [if_neg (by omega), List.append_assoc, List.getElem?_append_left (by simp; omega), List.getElem?_take, if_pos h1]
  · by_cases h2 : k < c + new.length
    · rw [if_pos ⟨by omega, h2⟩, List.append_assoc, List.getElem?_append_right (by simp; omega), List.getElem?_append_left (by simp; omega)]
      simp only [List.length_take]
      rw [show k - min c cs.length = k - c by omega]
    · rw [if_neg (by omega), List.getElem?_append_right (by simp; omega), List.getElem?_drop]
      congr 1
      simp only [List.length_append, List.length_take]; omega
theorem store_plain {dr gg : Bool} {s c : Nat} {ws : List CV} (h : ws.all isPlain = true) (fr : Fr) : store dr (.ptr s c) gg ws fr = match fr s with
    | .box cs => match fillCells cs c ws with
      | some cs' => some (upd fr s (.box cs'))
      | none => none
    | _ => none := by
  have hs : ws.all sure = true := List.all_eq_true.2 fun x hx => by
    have := List.all_eq_true.1 h x hx
    cases x <;> first | rfl | simp [isPlain] at this
  unfold store
  cases hf : fr s with
  | comp _ _ => simp only [hf]
  | tup _ => simp only [hf]
  | box cs =>
    simp only [hf]
    cases dr
    · simp only [cond_false, toOwn_plain h, h, cond_true]
      cases fillCells cs c ws <;> rfl
    · simp only [cond_true, hs, Bool.or_true]
      cases fillCells cs c ws <;> rfl
/-! ### what is taken -/
def Refs (S : Nat → Prop) (x : SV) : Prop := ∀ gg cs, x = .comp gg cs → ∀ s c t xs, CV.ref s c t xs ∈ cs → S s
structure Twin (S : Nat → Prop) (fr fr' fr1 fr1' : Fr) : Prop where
  on : ∀ s, S s → fr1 s = fr1' s
  off : ∀ s, ¬ S s → fr1 s = fr s ∧ fr1' s = fr' s
  refs : ∀ s, Refs S (fr s) → Refs S (fr1 s)
theorem Twin.refl {S : Nat → Prop} (h : ∀ s, S s → fr s = fr' s) : Twin S fr fr' fr fr' := ⟨h, fun _ _ => ⟨rfl, rfl⟩, fun _ h => h⟩
theorem Twin.trans {S : Nat → Prop} {fr2 fr2' fr1' : Fr} (h1 : Twin S fr fr' fr1 fr1') (h2 : Twin S fr1 fr1' fr2 fr2') : Twin S fr fr' fr2 fr2' :=
  ⟨h2.on, fun s hs => ⟨(h2.off s hs).1.trans (h1.off s hs).1, (h2.off s hs).2.trans (h1.off s hs).2⟩, fun s h => h2.refs s (h1.refs s h)⟩
theorem setCell_twin {S : Nat → Prop} (h : ∀ s, S s → fr s = fr' s) {s c : Nat} (hs : S s) {t : Ty} {xs : List (Den t)} : Twin S fr fr' (setCellAt fr s c (.hi t xs)) (setCellAt fr' s c (.hi t xs)) := by
  have key : setCellAt fr s c (.hi t xs) = fr ∧ setCellAt fr' s c (.hi t xs) = fr' ∨ ∃ v, setCellAt fr s c (.hi t xs) = upd fr s v ∧ setCellAt fr' s c (.hi t xs) = upd fr' s v ∧ (Refs S (fr s) → Refs S v) := by
    unfold setCellAt
    rw [← h s hs]
    cases hf : fr s with
    | tup vs => exact .inl ⟨rfl, rfl⟩
    | comp gg cs =>
      cases c with
      | zero => exact .inl ⟨rfl, rfl⟩
      | succ c =>
        refine .inr ⟨_, rfl, rfl, fun hr gg' cs' e s' c' t' xs' hm => ?_⟩
        cases e
        rcases List.mem_or_eq_of_mem_set hm with hm | hm
        · exact hr gg cs rfl s' c' t' xs' hm
        · cases hm
    | box cs =>
      cases c with
      | zero => exact .inl ⟨rfl, rfl⟩
      | succ c => exact .inr ⟨_, rfl, rfl, fun hr gg' cs' e => by cases e⟩
  rcases key with ⟨e1, e2⟩ | ⟨v, e1, e2, e3⟩
  · rw [e1, e2]; exact Twin.refl h
  · rw [e1, e2]
    refine ⟨fun j hj => ?_, fun j hj => ?_, fun j hr => ?_⟩
    · by_cases hjs : j = s
      · subst hjs; rw [upd_same, upd_same]
      · rw [upd_ne _ _ _ hjs, upd_ne _ _ _ hjs]; exact h j hj
    · have hjs : j ≠ s := fun e => hj (e ▸ hs)
      exact ⟨upd_ne _ _ _ hjs, upd_ne _ _ _ hjs⟩
    · by_cases hjs : j = s
      · subst hjs; rw [upd_same]; exact e3 hr
      · rw [upd_ne _ _ _ hjs]; exact hr
theorem cellAt_twin {s c : Nat} (h : fr s = fr' s) : cellAt fr' s c = cellAt fr s c := by unfold cellAt; rw [h]
theorem cellAt_ref {S : Nat → Prop} {s c s' c' : Nat} {t : Ty} {xs : List (Den t)} {gg : Bool} {cs : List CV} (hs : fr s = .comp gg cs) (hr : Refs S (fr s)) (h : cellAt fr s c = .ref s' c' t xs) : S s' := by
  unfold cellAt at h
  rw [hs] at h
  cases c with
  | zero => cases h
  | succ c =>
    simp only [List.getD_eq_getElem?_getD] at h
    cases hc : cs[c]? with
    | none => rw [hc] at h; cases h
    | some y => rw [hc] at h; simp at h; subst h; exact hr gg cs hs _ _ _ _ (List.mem_of_getElem? hc)
theorem takeAt_twin {S : Nat → Prop} (h : ∀ s, S s → fr s = fr' s) {s c : Nat} (hs : S s) {gg : Bool} {cs : List CV} (hf : fr s = .comp gg cs) (hr : Refs S (fr s)) {y : CV} (ht : takeAt fr s c = (y, fr1)) :
    ∃ fr1', takeAt fr' s c = (y, fr1') ∧ Twin S fr fr' fr1 fr1' := by
  unfold takeAt at ht ⊢
  rw [cellAt_twin (h s hs)]
  split at ht
  next t xs e => cases ht; exact ⟨_, rfl, setCell_twin h hs⟩
  next t xs e => cases ht; exact ⟨_, rfl, setCell_twin h hs⟩
  next s' c' t xs e =>
    have hs' : S s' := cellAt_ref hf hr e
    try simp only
    rw [cellAt_twin (h s' hs')]
    split at ht
    next u ys e' => cases ht; exact ⟨_, rfl, setCell_twin h hs'⟩
    next => cases ht; exact ⟨_, rfl, Twin.refl h⟩
  next => cases ht; exact ⟨_, rfl, Twin.refl h⟩
theorem comp_take {s s' c : Nat} {gg : Bool} {cs : List CV} (h : fr s = .comp gg cs) : ∃ ds, (takeAt fr s' c).2 s = .comp gg ds := by
  have hset : ∀ (j k : Nat) (v : CV), ∃ ds, setCellAt fr j k v s = .comp gg ds := by
    intro j k v
    unfold setCellAt
    by_cases hj : s = j
    · subst hj
      rw [h]
      cases k with
      | zero => exact ⟨_, h⟩
      | succ k => exact ⟨_, upd_same _ _ _⟩
    · cases fr j with
      | tup vs => exact ⟨_, h⟩
      | comp b ds => cases k with
        | zero => exact ⟨_, h⟩
        | succ k => exact ⟨_, (upd_ne _ _ _ hj).trans h⟩
      | box ds => cases k with
        | zero => exact ⟨_, h⟩
        | succ k => exact ⟨_, (upd_ne _ _ _ hj).trans h⟩
  unfold takeAt
  split
  · exact hset _ _ _
  · exact hset _ _ _
  · split
    · exact hset _ _ _
    · exact ⟨_, h⟩
  · exact ⟨_, h⟩
theorem takeSlot_twin {S : Nat → Prop} {s : Nat} (hs : S s) : ∀ (n c : Nat) {fr fr' fr1 : Fr} (h : ∀ s, S s → fr s = fr' s) {gg : Bool} {cs : List CV} (hf : fr s = .comp gg cs) (hr : Refs S (fr s)) {ws : List CV} (ht : takeSlot fr s n c = (ws, fr1)),
    ∃ fr1', takeSlot fr' s n c = (ws, fr1') ∧ Twin S fr fr' fr1 fr1'
  | 0, c, fr, fr', fr1, h, gg, cs, hf, hr, ws, ht => by
    simp only [takeSlot] at ht
    cases ht
    exact ⟨fr', rfl, Twin.refl h⟩
  | n + 1, c, fr, fr', fr1, h, gg, cs, hf, hr, ws, ht => by
    simp only [takeSlot] at ht
    generalize h1 : takeAt fr s c = q at ht
    obtain ⟨y, fr2⟩ := q
    try simp only at ht
    generalize h2 : takeSlot fr2 s n (c + 1) = q at ht
    obtain ⟨ys, fr3⟩ := q
    cases ht
    obtain ⟨fr2', e1, t1⟩ := takeAt_twin h hs hf hr h1
    obtain ⟨ds, hd⟩ := comp_take (s' := s) (c := c) hf
    rw [h1] at hd
    obtain ⟨fr3', e2, t2⟩ := takeSlot_twin hs n (c + 1) t1.on hd (t1.refs s hr) h2
    exact ⟨fr3', by simp only [takeSlot, e1, e2], t1.trans t2⟩
theorem takeOpd_twin {S : Nat → Prop} (h : ∀ s, S s → fr s = fr' s) {x : Operand} (hs : ∀ t, x = .tmp t → S t ∧ Refs S (fr t)) {p : Comp} (ht : takeOpd fr x = (p, fr1)) : ∃ fr1', takeOpd fr' x = (p, fr1') ∧ Twin S fr fr' fr1 fr1' := by
  cases x with
  | tmp t =>
    obtain ⟨h1, h2⟩ := hs t rfl
    unfold takeOpd at ht ⊢
    simp only at ht ⊢
    have e := h t h1
    cases hf : fr t with
    | tup vs => rw [hf] at ht e; rw [← e]; cases ht; exact ⟨fr', by simp only [opd, hf, ← e], Twin.refl h⟩
    | box vs => rw [hf] at ht e; rw [← e]; cases ht; exact ⟨fr', by simp only [opd, hf, ← e], Twin.refl h⟩
    | comp gg cs =>
      rw [hf] at ht e
      rw [← e]
      simp only at ht ⊢
      generalize h3 : takeSlot fr t cs.length 1 = q at ht
      obtain ⟨ws, fr2⟩ := q
      cases ht
      obtain ⟨fr2', e1, t1⟩ := takeSlot_twin h1 cs.length 1 h hf h2 h3
      exact ⟨fr2', by simp only [e1], t1⟩
  | const v => unfold takeOpd at ht ⊢; cases ht; exact ⟨fr', rfl, Twin.refl h⟩
  | global v => unfold takeOpd at ht ⊢; cases ht; exact ⟨fr', rfl, Twin.refl h⟩
  | func v => unfold takeOpd at ht ⊢; cases ht; exact ⟨fr', rfl, Twin.refl h⟩
theorem buildParts_twin {S : Nat → Prop} {offs : List (Nat × Nat × Bool)} : ∀ (ps : List (Nat × Operand)) {fr fr' fr1 : Fr} (h : ∀ s, S s → fr s = fr' s) (hs : ∀ x ∈ ps.map (fun p => p.2), ∀ t, x = .tmp t → S t ∧ Refs S (fr t)) {cs cs' : List CV} (ht : buildParts fr offs cs ps = some (cs', fr1)),
    ∃ fr1', buildParts fr' offs cs ps = some (cs', fr1') ∧ Twin S fr fr' fr1 fr1'
  | [], fr, fr', fr1, h, hs, cs, cs', ht => by
    simp only [buildParts, Option.some.injEq, Prod.mk.injEq] at ht
    obtain ⟨rfl, rfl⟩ := ht
    exact ⟨fr', rfl, Twin.refl h⟩
  | (i, x) :: ps, fr, fr', fr1, h, hs, cs, cs', ht => by
    simp only [buildParts] at ht
    generalize h1 : takeOpd fr x = q at ht
    obtain ⟨⟨b, ws⟩, fr2⟩ := q
    obtain ⟨fr2', e1, t1⟩ := takeOpd_twin h (hs x (by simp)) h1
    cases hof : offs[i]? with
    | none => rw [hof] at ht; cases ht
    | some q =>
      obtain ⟨off, n, gg⟩ := q
      rw [hof] at ht
      simp only at ht
      obtain ⟨hb, ht⟩ := bif_some ht
      cases hfc : fillCells cs off ws with
      | none => rw [hfc] at ht; cases ht
      | some cs2 =>
        rw [hfc] at ht
        simp only at ht
        obtain ⟨fr3', e2, t2⟩ := buildParts_twin ps t1.on (fun y hy t ey => by
          obtain ⟨q1, q2⟩ := hs y (List.mem_cons_of_mem _ hy) t ey
          exact ⟨q1, t1.refs t q2⟩) ht
        exact ⟨fr3', by simp only [buildParts, e1, hof, hb, cond_true, hfc, e2], t1.trans t2⟩
/-- after what was taken, a value is set -/
theorem twin_fin {S : Nat → Prop} {fr1' fr2 : Fr} {L : List Loc} (hL : ∀ s c, Inn s c L ↔ S s) (ht : Twin S fr fr' fr1 fr1') {d : Option Nat} {v : SV} (h : fin X fr1 d v some = some fr2) (ha : Agr fr fr' (dstR d)) : Like (fin X fr1' d v some) fr' fr2 (L ++ dstW d) := by
  have ha1 : Agr fr1 fr1' (dstR d) := fun s c hi => by
    by_cases hs : S s
    · rw [ht.on s hs]
    · rw [(ht.off s hs).1, (ht.off s hs).2]; exact ha s c hi
  obtain ⟨fr2', e1, e2, e3⟩ := (fin_like h ha1).ex
  obtain ⟨fr2'', e4, _, e5⟩ := (fin_like (fr' := fr1) h (fun _ _ _ => rfl)).ex
  rw [h] at e4
  cases e4
  refine ⟨fr2', e1, fun s c hi => ?_, fun s c hi => ?_⟩
  · by_cases hd : Inn s c (dstW d)
    · exact e2 s c hd
    · rcases hi.or with hi | hi
      · rw [e5 s c hd, e3 s c hd, ht.on s ((hL s c).1 hi)]
      · exact (hd hi).elim
  · rw [e3 s c (fun e => hi e.right), (ht.off s fun e => hi ((hL s c).2 e).left).2]
end
end Go.Rv

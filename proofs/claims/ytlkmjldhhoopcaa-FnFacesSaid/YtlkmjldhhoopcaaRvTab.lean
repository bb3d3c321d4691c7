/- The table of types, checked against the program's. -/
import Derived.Test.YtlkmjldhhoopcaaRvSet
namespace Go.Rv
set_option linter.unusedSimpArgs false
set_option linter.unusedVariables false

def zeroV : Ty → List Value
  | .int k => [.int k 0] | .bool => [.bool false] | .str => [.string ByteArray.empty]
  | .pair a b => zeroV a ++ zeroV b
  | .sl _ => [.slice none 0 0]
def zeroB : Ty → List Value → Option (List Value)
  | .int k, .int j n :: r => bif j == k && n == 0 then some r else none
  | .bool, .bool b :: r => bif b then none else some r
  | .str, .string s :: r => bif s.size == 0 then some r else none
  | .pair a b, l => match zeroB a l with
    | some r => zeroB b r
    | none => none
  | .sl _, .slice none 0 0 :: r => some r
  | _, _ => none
theorem zeroB_spec : ∀ (t : Ty) (l r : List Value), zeroB t l = some r → l = zeroV t ++ r
  | .int k, [], r, h => by simp [zeroB] at h
  | .int k, v :: l, r, h => by
    cases v <;> try (simp [zeroB] at h; done)
    rename_i j n
    simp only [zeroB] at h
    cases hc : (j == k && n == 0)
    · simp [hc] at h
    · simp only [hc, cond_true, Option.some.injEq] at h
      simp only [Bool.and_eq_true, beq_iff_eq] at hc
      obtain ⟨rfl, rfl⟩ := hc
      simp [zeroV, h]
  | .bool, [], r, h => by simp [zeroB] at h
  | .bool, v :: l, r, h => by
    cases v <;> try (simp [zeroB] at h; done)
    rename_i b
    cases b <;> simp_all [zeroB, zeroV]
  | .str, [], r, h => by simp [zeroB] at h
  | .str, v :: l, r, h => by
    cases v <;> try (simp [zeroB] at h; done)
    rename_i s
    simp only [zeroB] at h
    cases hc : (s.size == 0)
    · simp [hc] at h
    · simp only [hc, cond_true, Option.some.injEq] at h
      obtain ⟨⟨x⟩⟩ := s
      simp [ByteArray.size] at hc
      subst hc
      simp [zeroV, h]
      rfl
  | .pair a b, l, r, h => by
    simp only [zeroB] at h
    cases ha : zeroB a l with
    | none => rw [ha] at h; cases h
    | some m =>
      rw [ha] at h
      rw [zeroB_spec a l m ha, zeroB_spec b m r h]
      simp [zeroV]
  | .sl t, [], r, h => by simp [zeroB] at h
  | .sl t, v :: l, r, h => by
    cases v <;> try (simp [zeroB] at h; done)
    rename_i a n c
    cases a <;> try (simp [zeroB] at h; done)
    cases n <;> try (simp [zeroB] at h; done)
    cases c <;> try (simp [zeroB] at h; done)
    simp [zeroB] at h
    simp [zeroV, h]
theorem zeroV_length (t : Ty) : (zeroV t).length = t.cells := by
  induction t <;> simp_all [zeroV, Ty.cells]
theorem rep_zero (w : World) (S : Nat → Nat → Prop) : ∀ t : Ty, rep w S t t.zero (zeroV t)
  | .int _ => rfl
  | .bool => rfl
  | .str => rfl
  | .pair a b => ⟨_, _, rfl, rep_zero w S a, rep_zero w S b⟩
  | .sl t => ⟨none, 0, rfl, Nat.le_refl _, fun i x hx => by simp [Ty.zero] at hx⟩
theorem zeroCV_rel (w : World) (g : Gh) (bx : Nat → Bool) : ∀ (t : Ty) (j : Nat) (c : CV), (zeroCV t)[j]? = some c → free c = true ∧ notDead c = true ∧ ∃ u : Value, (zeroV t)[j]? = some u ∧ ∀ p, rel w g bx p c u
  | .int k, j, c, h => by cases j <;> simp_all [zeroCV, zeroV]; subst h; exact ⟨rfl, rfl, fun p => rfl⟩
  | .bool, j, c, h => by cases j <;> simp_all [zeroCV, zeroV]; subst h; exact ⟨rfl, rfl, fun p => rfl⟩
  | .str, j, c, h => by cases j <;> simp_all [zeroCV, zeroV]; subst h; exact ⟨rfl, rfl, fun p => rfl⟩
  | .sl _, j, c, h => by cases j <;> simp_all [zeroCV, zeroV]; subst h; exact ⟨rfl, rfl, fun p => rfl⟩
  | .pair a b, j, c, h => by
    have hl : ∀ t : Ty, (zeroCV t).length = (zeroV t).length := fun t => by induction t <;> simp_all [zeroCV, zeroV]
    simp only [zeroCV, zeroV] at h ⊢
    by_cases hj : j < (zeroCV a).length
    · rw [List.getElem?_append_left hj] at h
      rw [List.getElem?_append_left (by rw [← hl]; exact hj)]
      exact zeroCV_rel w g bx a j c h
    · rw [List.getElem?_append_right (by omega)] at h
      rw [List.getElem?_append_right (by rw [← hl]; omega), ← hl]
      exact zeroCV_rel w g bx b _ c h
theorem zeroCV_length (t : Ty) : (zeroCV t).length = t.cells := by
  induction t <;> simp_all [zeroCV, Ty.cells]

def fitElem (P : Program) (e : TypeId) (u : Ty) : Bool :=
  match P.info? e with
  | some i => i.size.beq u.cells && (i.bytes.ble (24 * u.cells) && match i.zero with
    | some z => match zeroB u z.cells.toList with
      | some [] => true
      | _ => false
    | none => false)
  | none => false
def fitFields (P : Program) : List (Nat × Nat × Bool) → List Field → Bool
  | [], [] => true
  | (off, n, g) :: r, F :: fs => F.offset.beq off && ((match P.info? F.type with | some i => i.size.beq n && (Nat.blt 0 n && (g || n.beq 1)) | none => false) && ((match P.underlying F.type with | some d => d.isRow == g | none => false) && fitFields P r fs))
  | _, _ => false
def fitEqF (P : Program) : Nat → List Field → Bool
  | _, [] => true
  | k, F :: fs => F.name != "_" && (F.offset.beq k && ((match P.underlying F.type with | some (.int _) => true | _ => false) && fitEqF P (k + 1) fs))
/-- fields that are numbers or records of numbers; the place behind them -/
def fitEqN (P : Program) : Nat → List Field → Option Nat
  | k, [] => some k
  | k, F :: fs => bif F.name != "_" && F.offset.beq k then match P.underlying F.type with
    | some (.int _) => fitEqN P (k + 1) fs
    | some (.struct gs) => bif !P.stoodInHeld F.type && (fitEqF P 0 gs.toList && match P.info? F.type with | some i => i.size.beq gs.toList.length | none => false) then fitEqN P (k + gs.toList.length) fs else none
    | _ => none
    else none
def fitEq (P : Program) (t : TypeId) (n : Nat) : Bool :=
  !P.stoodInHeld t && (!P.eqGuardType P.depth t && match P.underlying t with
  | some (.struct fs) => match fitEqN P 0 fs.toList with
    | some m => m.beq n
    | none => false
  | _ => false)
def fitB (P : Program) (t : TypeId) (i : TI) : Bool :=
  fitElem P t i.ty && (!i.eq || fitEq P t i.ty.cells) && match P.underlying t with
  | some (.struct fs) => i.agg && fitFields P i.offs fs.toList
  | some (.slice e) => match i.ty with
    | .sl u => !i.agg && (i.offs.isEmpty && fitElem P e u)
    | _ => false
  | some (.int k) => match i.ty with
    | .int j => !i.agg && (i.offs.isEmpty && decide (j = k))
    | _ => false
  | some .bool => match i.ty with
    | .bool => !i.agg && i.offs.isEmpty
    | _ => false
  | some .string => match i.ty with
    | .str => !i.agg && i.offs.isEmpty
    | _ => false
  | _ => false
def fitAll (P : Program) : List (Nat × TI) → Bool
  | [] => true
  | p :: r => fitB P p.1 p.2 && fitAll P r
structure ElemOk (P : Program) (e : TypeId) (u : Ty) : Prop where
  ex : ∃ i z, P.info? e = some i ∧ i.size = u.cells ∧ i.bytes ≤ 24 * u.cells ∧ i.zero = some z ∧ z.cells.toList = zeroV u
theorem fitElem_spec {P : Program} {e : TypeId} {u : Ty} (h : fitElem P e u = true) : ElemOk P e u := by
  unfold fitElem at h
  split at h
  · rename_i i hi
    simp only [Bool.and_eq_true] at h
    obtain ⟨h1, h2, h3⟩ := h
    split at h3
    · rename_i z hz
      split at h3
      · rename_i hb
        have := zeroB_spec _ _ _ hb
        exact ⟨i, z, hi, Nat.eq_of_beq_eq_true h1, Nat.le_of_ble_eq_true h2, hz, by simpa using this⟩
      · cases h3
    · cases h3
  · cases h
theorem fitFields_spec {P : Program} : ∀ (offs : List (Nat × Nat × Bool)) (fs : List Field), fitFields P offs fs = true → fs.length = offs.length ∧
    ∀ (f off n : Nat) (g : Bool), offs[f]? = some (off, n, g) → ∃ (F : Field) (i : TypeInfo) (d : TypeDesc), fs[f]? = some F ∧ F.offset = off ∧ P.info? F.type = some i ∧ i.size = n ∧ 0 < n ∧ P.underlying F.type = some d ∧ d.isRow = g ∧ (g = false → n = 1)
  | [], [], _ => ⟨rfl, fun f off n g h => by simp at h⟩
  | (off, n, g) :: r, F :: fs, h => by
    simp only [fitFields, Bool.and_eq_true] at h
    obtain ⟨h1, h2, h3, h4⟩ := h
    obtain ⟨i1, i2⟩ := fitFields_spec r fs h4
    refine ⟨by simp [i1], fun f off' n' g' hf => ?_⟩
    cases f with
    | zero =>
      simp at hf
      obtain ⟨rfl, rfl, rfl⟩ := hf
      split at h2
      · rename_i i hi
        simp only [Bool.and_eq_true] at h2
        split at h3
        · rename_i d hd
          exact ⟨F, i, d, rfl, Nat.eq_of_beq_eq_true h1, hi, Nat.eq_of_beq_eq_true h2.1, Nat.le_of_ble_eq_true h2.2.1, hd, by simpa using h3, fun hg => by have := h2.2.2; rw [hg] at this; exact Nat.eq_of_beq_eq_true (by simpa using this)⟩
        · cases h3
      · cases h2
    | succ f =>
      simp at hf
      simpa using i2 f off' n' g' hf
  | [], _ :: _, h => by simp [fitFields] at h
  | _ :: _, [], h => by simp [fitFields] at h
structure TabOk (P : Program) (X : Env) : Prop where
  mixed : P.follows .mixedOrders = true
  fit : fitAll P X.tab = true
theorem ti_fit {P : Program} {X : Env} (h : TabOk P X) {t : TypeId} {i : TI} (hi : X.ti t = some i) : fitB P t i = true := by
  have := h.fit
  unfold Env.ti at hi
  generalize X.tab = l at *
  induction l with
  | nil => simp at hi
  | cons p r ih =>
    simp only [fitAll, Bool.and_eq_true] at this
    obtain ⟨q, j⟩ := p
    simp only [List.lookup_cons] at hi
    split at hi
    · rename_i hq
      have := beq_iff_eq.1 hq
      subst this
      cases hi
      exact this.1
    · exact ih hi this.2
theorem ti_eq {P : Program} {X : Env} (h : TabOk P X) {t : TypeId} {i : TI} (hi : X.ti t = some i) (he : i.eq = true) : fitEq P t i.ty.cells = true := by
  have := ti_fit h hi
  simp only [fitB, Bool.and_eq_true, he] at this
  simpa using this.1.2
theorem ti_bool {P : Program} {X : Env} (h : TabOk P X) {t : TypeId} (hi : X.boolT t = true) : P.underlying t = some .bool := by
  unfold Env.boolT at hi
  split at hi
  · rename_i i hti
    cases ha : i.agg
    · rw [ha] at hi
      simp only [cond_false] at hi
      split at hi
      · rename_i hu
        have := ti_fit h hti
        simp only [fitB, Bool.and_eq_true, ha, hu] at this
        have h2 := this.2
        split at h2
        · simp at h2
        all_goals simp_all
      · cases hi
    · simp [ha] at hi
  · cases hi
theorem ti_str {P : Program} {X : Env} (h : TabOk P X) {t : TypeId} (hi : X.strT t = true) : P.underlying t = some .string := by
  unfold Env.strT at hi
  split at hi
  · rename_i i hti
    cases ha : i.agg
    · rw [ha] at hi
      simp only [cond_false] at hi
      split at hi
      · rename_i hu
        have := ti_fit h hti
        simp only [fitB, Bool.and_eq_true, ha, hu] at this
        have h2 := this.2
        split at h2
        · simp at h2
        all_goals simp_all
      · cases hi
    · simp [ha] at hi
  · cases hi
theorem ti_elem {P : Program} {X : Env} (h : TabOk P X) {t : TypeId} {i : TI} (hi : X.ti t = some i) : ElemOk P t i.ty := by
  have := ti_fit h hi
  simp only [fitB, Bool.and_eq_true] at this
  exact fitElem_spec this.1.1
theorem ti_struct {P : Program} {X : Env} (h : TabOk P X) {t : TypeId} {i : TI} (hi : X.ti t = some i) (ha : i.agg = true) : ∃ fs, P.underlying t = some (.struct fs) ∧ fitFields P i.offs fs.toList = true := by
  have := ti_fit h hi
  simp only [fitB, Bool.and_eq_true] at this
  have h2 := this.2
  split at h2
  · rename_i fs hf
    simp only [Bool.and_eq_true] at h2
    exact ⟨fs, hf, h2.2⟩
  all_goals (first | (split at h2 <;> simp_all) | simp_all)
theorem ti_under {P : Program} {X : Env} (h : TabOk P X) {t : TypeId} {i : TI} (hi : X.ti t = some i) : ∃ d, P.underlying t = some d ∧ d.isRow = i.agg ∧ (∀ m, d ≠ .interface m) := by
  have := ti_fit h hi
  simp only [fitB, Bool.and_eq_true] at this
  have h2 := this.2
  split at h2
  · rename_i fs hf
    simp only [Bool.and_eq_true] at h2
    exact ⟨_, hf, by rw [h2.1], by simp⟩
  all_goals (first | (rename_i hf; refine ⟨_, hf, ?_, by simp⟩; split at h2 <;> simp_all) | simp_all)
theorem ti_slice {P : Program} {X : Env} (h : TabOk P X) {t : TypeId} {u : Ty} (hi : X.sl t = some u) : ∃ e, P.underlying t = some (.slice e) ∧ ElemOk P e u := by
  unfold Env.sl at hi
  split at hi
  · rename_i i hti
    cases ha : i.agg
    · rw [ha] at hi
      simp only [cond_false] at hi
      split at hi
      · rename_i u' hu
        cases hi
        have := ti_fit h hti
        simp only [fitB, Bool.and_eq_true, ha, hu] at this
        have h2 := this.2
        split at h2
        · simp at h2
        · rename_i e he
          simp only [Bool.not_false, Bool.true_and, Bool.and_eq_true] at h2
          exact ⟨e, he, fitElem_spec h2.2⟩
        all_goals simp_all
      · cases hi
    · simp [ha] at hi
  · cases hi
theorem ti_int {P : Program} {X : Env} (h : TabOk P X) {t : TypeId} {k : IntKind} (hi : X.intK t = some k) : P.underlying t = some (.int k) := by
  unfold Env.intK at hi
  split at hi
  · rename_i i hti
    cases ha : i.agg
    · rw [ha] at hi
      simp only [cond_false] at hi
      split at hi
      · rename_i u' hu
        cases hi
        have := ti_fit h hti
        simp only [fitB, Bool.and_eq_true, ha, hu] at this
        have h2 := this.2
        split at h2
        · simp at h2
        all_goals simp_all
      · cases hi
    · simp [ha] at hi
  · cases hi
end Go.Rv

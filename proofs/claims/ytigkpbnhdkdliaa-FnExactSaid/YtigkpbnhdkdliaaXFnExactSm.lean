/- Plans with exactly so many rings, the smoothest of them; what the fewest rings home are. Plain words. No program. -/
import Derived.Test.YtigkpbnhdkdliaaXFnExactSt2
namespace Go.Rv.St
set_option linter.unusedVariables false
set_option linter.unusedSimpArgs false
abbrev home : C := (0, 0, 0)
/-- turns that lead home -/
def ends (M H : Int) : C → List Int → Prop
  | c, [] => c = home
  | c, t :: r => nxo M H c t = true ∧ ends M H (stp c t) r
def cst : C → List Int → Int
  | _, [] => 0
  | c, t :: r => (t - c.2.2) * (t - c.2.2) + cst (stp c t) r
abbrev Sol := Int × List Int × Bool
def upO (r : C → Sol) (c : C) (o : Sol) (t : Int) : Sol :=
  if (r (stp c t)).2.2 = true ∧ (o.2.2 = false ∨ (r (stp c t)).1 + (t - c.2.2) * (t - c.2.2) < o.1) then ((r (stp c t)).1 + (t - c.2.2) * (t - c.2.2), t :: (r (stp c t)).2.1, true) else o
def sm (M H : Int) : Nat → C → Sol
  | 0, c => (0, [], decide (c = home))
  | n + 1, c => ((tn M).filter (nxo M H c)).foldl (upO (sm M H n) c) (0, [], false)
theorem foldP {α β : Type} {P : α → Prop} {f : α → β → α} : ∀ (l : List β), (∀ s a, a ∈ l → P s → P (f s a)) → ∀ s, P s → P (l.foldl f s)
  | [], _, s, h => h
  | a :: l, hf, s, h => foldP l (fun s b hb => hf s b (List.mem_cons_of_mem _ hb)) _ (hf s a List.mem_cons_self h)
theorem sq_le {x : Int} (h : -6 ≤ x ∧ x ≤ 6) : 0 ≤ x * x ∧ x * x ≤ 36 := by
  obtain ⟨h1, h2⟩ := h
  have : x = -6 ∨ x = -5 ∨ x = -4 ∨ x = -3 ∨ x = -2 ∨ x = -1 ∨ x = 0 ∨ x = 1 ∨ x = 2 ∨ x = 3 ∨ x = 4 ∨ x = 5 ∨ x = 6 := by omega
  rcases this with h | h | h | h | h | h | h | h | h | h | h | h | h <;> subst h <;> decide
theorem nxo_sq {M H : Int} (hL : Lim M H) {c : C} {t : Int} (h : nxo M H c t = true) : 0 ≤ (t - c.2.2) * (t - c.2.2) ∧ (t - c.2.2) * (t - c.2.2) ≤ 36 := by
  simp only [nxo, Bool.and_eq_true, inn_iff] at h
  have h1 := hL.c
  have h2 := hL.d
  exact sq_le (by omega)
theorem sm_ok {M H : Int} : ∀ (n : Nat) (c : C), (sm M H n c).2.2 = true → (sm M H n c).2.1.length = n ∧ ends M H c (sm M H n c).2.1 ∧ (sm M H n c).1 = cst c (sm M H n c).2.1
  | 0, c, h => by
    simp only [sm, decide_eq_true_eq] at h
    subst h
    exact ⟨rfl, rfl, rfl⟩
  | n + 1, c, h => by
    have key : ∀ s : Sol, (s.2.2 = true → s.2.1.length = n + 1 ∧ ends M H c s.2.1 ∧ s.1 = cst c s.2.1) → _ := foldP (P := fun s : Sol => s.2.2 = true → s.2.1.length = n + 1 ∧ ends M H c s.2.1 ∧ s.1 = cst c s.2.1) (f := upO (sm M H n) c) ((tn M).filter (nxo M H c)) (fun s t ht hs => by
      unfold upO
      split
      · rename_i hk
        intro _
        obtain ⟨q1, q2, q3⟩ := sm_ok n _ hk.1
        have hn := (List.mem_filter.1 ht).2
        refine ⟨by simp [q1], ⟨hn, q2⟩, ?_⟩
        simp only [cst]
        omega
      · exact hs)
    exact key (0, [], false) (fun e => by cases e) h
theorem sm_bd {M H : Int} (hL : Lim M H) : ∀ (n : Nat) (c : C), (0 ≤ (sm M H n c).1 ∧ (sm M H n c).1 ≤ 36 * (n : Int)) ∧ (sm M H n c).2.1.length ≤ n
  | 0, c => by simp [sm]
  | n + 1, c => by
    have key := foldP (P := fun s : Sol => (0 ≤ s.1 ∧ s.1 ≤ 36 * ((n + 1 : Nat) : Int)) ∧ s.2.1.length ≤ n + 1) (f := upO (sm M H n) c) ((tn M).filter (nxo M H c)) (fun s t ht hs => by
      have hq := nxo_sq hL (List.mem_filter.1 ht).2
      have hb := sm_bd hL n (stp c t)
      unfold upO
      split
      · exact ⟨by simp only; omega, by simp only [List.length_cons]; omega⟩
      · exact hs)
    exact key (0, [], false) (by simp only [List.length_nil]; omega)
theorem upO_le (r : C → Sol) (c : C) (o : Sol) (t : Int) : o.2.2 = true → (upO r c o t).2.2 = true ∧ (upO r c o t).1 ≤ o.1 := fun h => by
  unfold upO
  split
  · rename_i hk
    refine ⟨rfl, ?_⟩
    rcases hk.2 with e | e
    · rw [h] at e; cases e
    · simp only; omega
  · exact ⟨h, Int.le_refl _⟩
theorem fold_le (r : C → Sol) (c : C) : ∀ (l : List Int) (o : Sol), o.2.2 = true → (l.foldl (upO r c) o).2.2 = true ∧ (l.foldl (upO r c) o).1 ≤ o.1
  | [], o, h => ⟨h, Int.le_refl _⟩
  | t :: l, o, h => by
    have h1 := upO_le r c o t h
    have h2 := fold_le r c l _ h1.1
    exact ⟨h2.1, Int.le_trans h2.2 h1.2⟩
theorem sm_le {M H : Int} (hL : Lim M H) : ∀ (n : Nat) (c : C) (l : List Int), l.length = n → ends M H c l → (sm M H n c).2.2 = true ∧ (sm M H n c).1 ≤ cst c l
  | 0, c, [], _, h => by
    have h : c = home := h
    subst h
    simp [sm, cst]
  | n + 1, c, t :: l, hl, h => by
    obtain ⟨h1, h2⟩ := sm_le hL n (stp c t) l (by simpa using hl) h.2
    have hm : t ∈ (tn M).filter (nxo M H c) := List.mem_filter.2 ⟨nxo_tn hL h.1, h.1⟩
    obtain ⟨L1, L2, e⟩ := List.append_of_mem hm
    rw [sm, e, List.foldl_append, List.foldl_cons]
    generalize L1.foldl (upO (sm M H n) c) (0, [], false) = o
    have hu : (upO (sm M H n) c o t).2.2 = true ∧ (upO (sm M H n) c o t).1 ≤ (sm M H n (stp c t)).1 + (t - c.2.2) * (t - c.2.2) := by
      unfold upO
      split
      · exact ⟨rfl, Int.le_refl _⟩
      · rename_i hk
        have ho : o.2.2 = true := by
          cases hh : o.2.2
          · exact (hk ⟨h1, .inl hh⟩).elim
          · rfl
        refine ⟨ho, ?_⟩
        have : ¬ (sm M H n (stp c t)).1 + (t - c.2.2) * (t - c.2.2) < o.1 := fun hh => hk ⟨h1, .inr hh⟩
        omega
    have hf := fold_le (sm M H n) c L2 _ hu.1
    refine ⟨hf.1, ?_⟩
    simp only [cst]
    omega
  | 0, _, _ :: _, hl, _ => by simp at hl
  | _ + 1, _, [], hl, _ => by simp at hl
/-! ### waiting at home -/
theorem ends_app {M H : Int} : ∀ (l r : List Int) (c : C), ends M H c l → ends M H home r → ends M H c (l ++ r)
  | [], r, c, h, hr => by have h : c = home := h; subst h; exact hr
  | t :: l, r, c, h, hr => ⟨h.1, ends_app l r _ h.2 hr⟩
theorem ends_wait {M H : Int} (hL : Lim M H) : ∀ n : Nat, ends M H home (List.replicate n 0) ∧ cst home (List.replicate n 0) = 0
  | 0 => ⟨rfl, rfl⟩
  | n + 1 => by
    have h1 := hL.a
    have h2 := hL.b
    have h3 := hL.c
    have h4 := hL.d
    obtain ⟨q1, q2⟩ := ends_wait hL n
    have hst : stp home 0 = home := rfl
    have hnx : nxo M H home 0 = true := by
      simp only [nxo, Bool.and_eq_true, inn_iff, hst, ins_iff]
      refine ⟨?_, ?_, ?_, ?_, ?_⟩ <;> first | omega | (simp only [home]; omega)
    refine ⟨?_, ?_⟩
    · rw [List.replicate_succ]
      exact ⟨hnx, by rw [hst]; exact q1⟩
    · rw [List.replicate_succ]
      simp only [cst, hst, q2]
      rfl
theorem cst_app {M H : Int} : ∀ (l r : List Int) (c : C), ends M H c l → cst c (l ++ r) = cst c l + cst home r
  | [], r, c, h => by have h : c = home := h; subst h; simp [cst]
  | t :: l, r, c, h => by simp only [List.cons_append, cst, cst_app l r _ h.2]; omega
/-! ### the fewest rings -/
theorem prevS (c : C) (b : Int) : stp (prev c b) c.2.2 = c := by
  obtain ⟨x, y, z⟩ := c
  simp only [prev, stp, Prod.mk.injEq]
  refine ⟨?_, ?_, trivial⟩ <;> omega
theorem prevB {c d : C} {t : Int} (h : d = stp c t) : prev d c.2.2 = c := by
  obtain ⟨x, y, z⟩ := c
  subst h
  simp only [prev, stp, Prod.mk.injEq]
  refine ⟨?_, ?_, trivial⟩ <;> omega
theorem goesN {M H : Int} {c : C} (hc : ins M c = true) {b : Int} (h : goes M H c b = true) : nxo M H (prev c b) c.2.2 = true := by
  simp only [goes, Bool.and_eq_true] at h
  simp only [nxo, Bool.and_eq_true, prevS]
  rw [ins_iff] at hc
  exact ⟨inn_iff.2 hc.2.2, h.2, by rw [ins_iff]; exact hc⟩
theorem nxoG {M H : Int} {c : C} (hc : ins M c = true) {t : Int} (h : nxo M H c t = true) : goes M H (stp c t) c.2.2 = true := by
  simp only [nxo, Bool.and_eq_true] at h
  simp only [goes, Bool.and_eq_true, prevB (d := stp c t) rfl]
  exact ⟨hc, h.2.1⟩
theorem add_mget {M H : Int} {c : C} {n : Int} {s : S} {b : Int} {x : C} {v : Int} (h : mget x s.1 = some v) : mget x (add M H c n s b).1 = some v := by
  unfold add
  split
  · rw [mget_app, h]
  · exact h
theorem fold_mget {α : Type} {f : S → α → S} (hf : ∀ s a x v, mget x s.1 = some v → mget x (f s a).1 = some v) : ∀ (l : List α) (s : S) {x : C} {v : Int}, mget x s.1 = some v → mget x (l.foldl f s).1 = some v
  | [], _, _, _, h => h
  | a :: l, s, x, v, h => fold_mget hf l _ (hf s a x v h)
theorem proc_mget {M H n : Int} {s : S} {c x : C} {v : Int} (h : mget x s.1 = some v) : mget x (proc M H n s c).1 = some v := fold_mget (fun s b x v h => add_mget h) _ _ h
theorem lev_mget1 {M H : Int} {k : Nat} {x : C} {v : Int} (h : mget x (lev M H k).1 = some v) : mget x (lev M H (k + 1)).1 = some v :=
  fold_mget (fun s c x v h => proc_mget h) (lev M H k).2 ((lev M H k).1, []) h
theorem lev_mget {M H : Int} {k j : Nat} (hkj : k ≤ j) {x : C} {v : Int} (h : mget x (lev M H k).1 = some v) : mget x (lev M H j).1 = some v := by
  induction j with
  | zero =>
    have e : k = 0 := Nat.le_zero.1 hkj
    rw [e] at h
    exact h
  | succ j ih =>
    by_cases e : k = j + 1
    · subst e; exact h
    · exact lev_mget1 (ih (by omega))
theorem add_new {M H : Int} {c : C} {n : Int} {s : S} {b : Int} {x : C} {v : Int} (h : mget x (add M H c n s b).1 = some v) : mget x s.1 = some v ∨ (v = n ∧ x ∈ (add M H c n s b).2 ∧ x = prev c b ∧ goes M H c b = true) := by
  unfold add at h ⊢
  split at h
  · rename_i hk
    rw [if_pos hk]
    rw [mget_app] at h
    cases hm : mget x s.1 with
    | some w => rw [hm] at h; exact .inl h
    | none =>
      rw [hm] at h
      rcases mget_one (x := x) (y := prev c b) (v := n) with e | ⟨e1, e2⟩
      · rw [e] at h; cases h
      · rw [e2] at h
        cases h
        exact .inr ⟨rfl, by rw [e1]; exact List.mem_append_right _ (List.mem_singleton.2 rfl), e1, hk.1⟩
  · rename_i hk
    exact .inl h
theorem add_keep {M H : Int} {c : C} {n : Int} {s : S} {b : Int} {x : C} (h : x ∈ s.2) : x ∈ (add M H c n s b).2 := by
  unfold add
  split
  · exact List.mem_append_left _ h
  · exact h
/-- what holds of the table while level k + 1 is made: entries have what comes next; new ones are in the second row -/
structure Lv (M H : Int) (k : Nat) (old : Mp) (s : S) : Prop where
  keep : ∀ x v, mget x old = some v → mget x s.1 = some v
  nx : ∀ x v, mget x s.1 = some v → (v = 0 ∧ x = home) ∨ ∃ t, nxo M H x t = true ∧ mget (stp x t) s.1 = some (v - 1)
  new : ∀ x v, mget x s.1 = some v → mget x old = some v ∨ (v = (k : Int) + 1 ∧ x ∈ s.2)
  val : ∀ x, x ∈ s.2 → mget x s.1 = some ((k : Int) + 1)
theorem add_lv {M H : Int} {k : Nat} {old : Mp} {s : S} (h : Lv M H k old s) {c : C} (hc : ins M c = true) (hck : mget c old = some (k : Int)) (b : Int) : Lv M H k old (add M H c ((k : Int) + 1) s b) where
  keep := fun x v hx => add_mget (h.keep x v hx)
  nx := fun x v hx => by
    rcases add_new hx with h1 | ⟨rfl, h2, rfl, h3⟩
    · rcases h.nx x v h1 with e | ⟨t, t1, t2⟩
      · exact .inl e
      · exact .inr ⟨t, t1, add_mget t2⟩
    · refine .inr ⟨c.2.2, goesN hc h3, ?_⟩
      rw [prevS, show (k : Int) + 1 - 1 = k by omega]
      exact add_mget (h.keep c _ hck)
  new := fun x v hx => by
    rcases add_new hx with h1 | ⟨h1, h2, _, _⟩
    · rcases h.new x v h1 with e | ⟨e1, e2⟩
      · exact .inl e
      · exact .inr ⟨e1, add_keep e2⟩
    · exact .inr ⟨h1, h2⟩
  val := fun x hx => by
    by_cases hs : x ∈ s.2
    · exact add_mget (h.val x hs)
    · unfold add at hx ⊢
      split at hx
      · rename_i hk
        rw [if_pos hk]
        rcases List.mem_append.1 hx with hx | hx
        · exact (hs hx).elim
        · have e : x = prev c b := List.mem_singleton.1 hx
          subst e
          rw [mget_app, hk.2, mget_same]
      · exact (hs hx).elim
/-- the table of level k -/
structure Lk (M H : Int) (k : Nat) : Prop where
  nx : ∀ x v, mget x (lev M H k).1 = some v → (v = 0 ∧ x = home) ∨ ∃ t, nxo M H x t = true ∧ mget (stp x t) (lev M H k).1 = some (v - 1)
  at_ : ∀ x v, mget x (lev M H k).1 = some v → ∃ j : Nat, j ≤ k ∧ v = (j : Int) ∧ x ∈ (lev M H j).2
  val : ∀ x, x ∈ (lev M H k).2 → mget x (lev M H k).1 = some (k : Int)
theorem lk {M H : Int} (hL : Lim M H) : ∀ k : Nat, Lk M H k
  | 0 => by
    have e : lev M H 0 = ([(home, 0)], [home]) := rfl
    refine ⟨fun x v h => ?_, fun x v h => ?_, fun x h => ?_⟩
    · rw [e] at h
      rcases mget_one (x := x) (y := home) (v := (0 : Int)) with q | ⟨q1, q2⟩
      · rw [q] at h; cases h
      · rw [q2] at h; cases h; exact .inl ⟨rfl, q1⟩
    · rw [e] at h
      rcases mget_one (x := x) (y := home) (v := (0 : Int)) with q | ⟨q1, q2⟩
      · rw [q] at h; cases h
      · rw [q2] at h; cases h
        exact ⟨0, Nat.le_refl _, rfl, by rw [e, q1]; exact List.mem_singleton.2 rfl⟩
    · rw [e] at h ⊢
      have : x = home := List.mem_singleton.1 h
      subst this
      exact mget_same
  | k + 1 => by
    have ih := lk hL k
    have hinv := lev_inv (H := H) hL k
    have h0 : Lv M H k (lev M H k).1 ((lev M H k).1, []) := ⟨fun _ _ h => h, ih.nx, fun _ _ h => .inl h, fun x h => (by cases h)⟩
    have h1 : Lv M H k (lev M H k).1 (lev M H (k + 1)) := foldP (P := Lv M H k (lev M H k).1) (f := proc M H ((k : Int) + 1)) (lev M H k).2 (fun s c hc hs => by
      have hck := ih.val c hc
      exact foldP (P := Lv M H k (lev M H k).1) (f := add M H c ((k : Int) + 1)) (tn M) (fun s b _ hs => add_lv hs (mget_ins hinv hck).1 hck b) s hs) _ h0
    refine ⟨h1.nx, fun x v h => ?_, fun x h => by rw [h1.val x h]; rfl⟩
    rcases h1.new x v h with e | ⟨e1, e2⟩
    · obtain ⟨j, j1, j2, j3⟩ := ih.at_ x v e
      exact ⟨j, by omega, j2, j3⟩
    · exact ⟨k + 1, Nat.le_refl _, by rw [e1]; rfl, e2⟩
theorem add_adds {M H : Int} {c : C} {n : Int} {s : S} {b : Int} (h : goes M H c b = true) : ∃ v, mget (prev c b) (add M H c n s b).1 = some v := by
  cases hm : mget (prev c b) s.1 with
  | some v => exact ⟨v, add_mget hm⟩
  | none =>
    refine ⟨n, ?_⟩
    unfold add
    rw [if_pos ⟨h, hm⟩]
    show mget (prev c b) (s.1 ++ [(prev c b, n)]) = some n
    rw [mget_app, hm]
    exact mget_same
theorem proc_adds {M H n : Int} {s : S} {c : C} {b : Int} (hb : b ∈ tn M) (h : goes M H c b = true) : ∃ v, mget (prev c b) (proc M H n s c).1 = some v := by
  obtain ⟨L1, L2, e⟩ := List.append_of_mem hb
  unfold proc
  rw [e, List.foldl_append, List.foldl_cons]
  obtain ⟨v, hv⟩ := add_adds (n := n) (s := L1.foldl (add M H c n) s) h
  exact ⟨v, fold_mget (fun s b x v h => add_mget h) L2 _ hv⟩
theorem lev_has {M H : Int} {k : Nat} {d : C} (hd : d ∈ (lev M H k).2) {b : Int} (hb : b ∈ tn M) (h : goes M H d b = true) : ∃ v, mget (prev d b) (lev M H (k + 1)).1 = some v := by
  obtain ⟨L1, L2, e⟩ := List.append_of_mem hd
  simp only [lev]
  rw [e, List.foldl_append, List.foldl_cons]
  obtain ⟨v, hv⟩ := proc_adds (n := (k : Int) + 1) (s := L1.foldl (proc M H ((k : Int) + 1)) ((lev M H k).1, [])) hb h
  exact ⟨v, fold_mget (fun s c x v h => proc_mget h) L2 _ hv⟩
/-- what leads home is known, with no more rings -/
theorem lev_all {M H : Int} (hL : Lim M H) : ∀ (m : Nat) (c : C) (l : List Int), l.length = m → ends M H c l → ins M c = true → ∃ v, mget c (lev M H m).1 = some v ∧ 0 ≤ v ∧ v ≤ (m : Int)
  | 0, c, [], _, h, _ => by
    have h : c = home := h
    subst h
    exact ⟨0, mget_same, by omega, by omega⟩
  | m + 1, c, t :: l, hl, h, hc => by
    obtain ⟨v, v1, v2, v3⟩ := lev_all hL m (stp c t) l (by simpa using hl) h.2 (nxo_ins h.1)
    obtain ⟨j, j1, j2, j3⟩ := (lk hL m).at_ _ _ v1
    have hct : c.2.2 ∈ tn M := by
      rw [tn_mem hL]
      rw [ins_iff] at hc
      exact hc.2.2
    obtain ⟨w, hw⟩ := lev_has j3 hct (nxoG hc h.1)
    rw [prevB (d := stp c t) rfl] at hw
    have hw2 := lev_mget (show j + 1 ≤ m + 1 by omega) hw
    have hb := (mget_ins (lev_inv (H := H) hL (j + 1)) hw).2
    exact ⟨w, hw2, hb.1, by omega⟩
  | 0, _, _ :: _, hl, _, _ => by simp at hl
  | _ + 1, _, [], hl, _, _ => by simp at hl
theorem find_ex {M H : Int} {m : Mp} {c : C} {n t : Int} : ∀ {l : List Int}, t ∈ l → nxt? M H m c n t → ∃ t', find M H m c n l = some t'
  | x :: l, h, hn => by
    simp only [find]
    split
    · exact ⟨_, rfl⟩
    · rename_i hx
      rcases List.mem_cons.1 h with rfl | h
      · exact (hx hn).elim
      · exact find_ex h hn
theorem go_ends {M H : Int} (hL : Lim M H) (k : Nat) : ∀ (n : Nat) (c : C), mget c (lev M H k).1 = some (n : Int) → ends M H c (go M H (lev M H k).1 n c) ∧ (go M H (lev M H k).1 n c).length = n
  | 0, c, h => by
    rcases (lk hL k).nx c _ h with ⟨_, e⟩ | ⟨t, _, t2⟩
    · exact ⟨e, rfl⟩
    · have := (mget_ins (lev_inv (H := H) hL k) t2).2.1
      omega
  | n + 1, c, h => by
    rcases (lk hL k).nx c _ h with ⟨e, _⟩ | ⟨t, t1, t2⟩
    · omega
    · rw [show ((n + 1 : Nat) : Int) - 1 = (n : Int) by omega] at t2
      obtain ⟨t', ht'⟩ := find_ex (nxo_tn hL t1) (show nxt? M H (lev M H k).1 c (n : Int) t from ⟨t1, t2⟩)
      obtain ⟨q1, q2⟩ := find_some ht'
      simp only [go, ht']
      obtain ⟨r1, r2⟩ := go_ends hL k n _ q2
      exact ⟨⟨q1, r1⟩, by simp [r2]⟩
end Go.Rv.St

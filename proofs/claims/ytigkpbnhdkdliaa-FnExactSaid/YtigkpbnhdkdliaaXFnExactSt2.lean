/- Courses that can be reached, rows that rise: plain words. No program. -/
import Derived.Test.YtigkpbnhdkdliaaXFnExactSt
import Derived.Test.YtigkpbnhdkdliaaRvSortH
import Derived.Lib.SlicesCompact
namespace Go.Rv.St
set_option linter.unusedVariables false
set_option linter.unusedSimpArgs false
/-- d is a course behind n rings -/
def reach (M H : Int) (c : C) : Nat → C → Prop
  | 0, d => d = c
  | n + 1, d => ∃ e t, reach M H c n e ∧ nxo M H e t = true ∧ d = stp e t
theorem reach_ins {M H : Int} {c : C} (hc : ins M c = true) : ∀ {n : Nat} {d : C}, reach M H c n d → ins M d = true
  | 0, d, h => by cases h; exact hc
  | n + 1, d, h => by obtain ⟨e, t, _, h1, rfl⟩ := h; exact nxo_ins h1
theorem nxo_tn {M H : Int} (hL : Lim M H) {e : C} {t : Int} (h : nxo M H e t = true) : t ∈ tn M := by
  rw [tn_mem hL]
  simp only [nxo, Bool.and_eq_true, inn_iff] at h
  exact h.1
/-! ### Rows that rise -/
def rises (l : List Int) : Prop := l.Pairwise (· < ·)
theorem rises_ext : ∀ {l m : List Int}, rises l → rises m → (∀ x, x ∈ l ↔ x ∈ m) → l = m
  | [], [], _, _, _ => rfl
  | [], y :: m, _, _, h => by have := (h y).2 List.mem_cons_self; cases this
  | x :: l, [], _, _, h => by have := (h x).1 List.mem_cons_self; cases this
  | x :: l, y :: m, hl, hm, h => by
    obtain ⟨h1, h2⟩ := List.pairwise_cons.1 hl
    obtain ⟨h3, h4⟩ := List.pairwise_cons.1 hm
    have e : x = y := by
      rcases List.mem_cons.1 ((h x).1 List.mem_cons_self) with e | hx
      · exact e
      · rcases List.mem_cons.1 ((h y).2 List.mem_cons_self) with e | hy
        · exact e.symm
        · have := h1 y hy; have := h3 x hx; omega
    subst e
    congr 1
    refine rises_ext h2 h4 fun z => ⟨fun hz => ?_, fun hz => ?_⟩
    · rcases List.mem_cons.1 ((h z).1 (List.mem_cons_of_mem _ hz)) with e | hz'
      · have := h1 z hz; omega
      · exact hz'
    · rcases List.mem_cons.1 ((h z).2 (List.mem_cons_of_mem _ hz)) with e | hz'
      · have := h3 z hz; omega
      · exact hz'
def putL (x : Int) : List Int → List Int
  | [] => [x]
  | y :: r => if x ≤ y then (if x < y then x :: y :: r else y :: r) else y :: putL x r
theorem putL_mem {x : Int} : ∀ {l : List Int} {z : Int}, z ∈ putL x l ↔ z = x ∨ z ∈ l
  | [], z => by simp [putL]
  | y :: r, z => by
    simp only [putL]
    split
    · split
      · simp
      · have : x = y := by omega
        subst this
        simp
    · simp only [List.mem_cons, putL_mem (l := r)]
      exact ⟨fun h => by rcases h with h | h | h <;> simp [h], fun h => by rcases h with h | h | h <;> simp [h]⟩
theorem putL_len (x : Int) : ∀ l : List Int, (putL x l).length ≤ l.length + 1
  | [] => by simp [putL]
  | y :: r => by
    simp only [putL]
    split
    · split <;> simp
    · simp only [List.length_cons]; have := putL_len x r; omega
theorem putL_rises {x : Int} : ∀ {l : List Int}, rises l → rises (putL x l)
  | [], _ => List.pairwise_singleton _ _
  | y :: r, h => by
    obtain ⟨h1, h2⟩ := List.pairwise_cons.1 h
    simp only [putL]
    split
    · split
      · refine List.pairwise_cons.2 ⟨fun z hz => ?_, h⟩
        rcases List.mem_cons.1 hz with rfl | hz
        · assumption
        · have := h1 z hz; omega
      · exact h
    · refine List.pairwise_cons.2 ⟨fun z hz => ?_, putL_rises h2⟩
      rcases putL_mem.1 hz with rfl | hz
      · omega
      · exact h1 z hz
theorem compact_rises {zs : List Int} (h : zs.Pairwise (· ≤ ·)) : rises (Lib.compact zs) ∧ ∀ x, x ∈ Lib.compact zs ↔ x ∈ zs := by
  have hget : ∀ j (hj : j < zs.length), zs.toArray[j]! = zs[j] := fun j hj => by simp [hj]
  have key : ∀ m, m ≤ zs.length → rises (Lib.compactUpTo zs.toArray m) ∧ (∀ x, x ∈ Lib.compactUpTo zs.toArray m ↔ ∃ j, j < m ∧ ∃ h : j < zs.length, zs[j] = x) := by
    intro m
    induction m with
    | zero => intro _; exact ⟨List.Pairwise.nil, fun x => by simp [Lib.compactUpTo]⟩
    | succ m ih =>
      intro hm
      obtain ⟨i1, i2⟩ := ih (by omega)
      have hlt : m < zs.length := by omega
      rw [Lib.compactUpTo_succ]
      by_cases hk : Lib.keeps zs.toArray m = true
      · rw [if_pos hk, hget m hlt]
        refine ⟨List.pairwise_append.2 ⟨i1, List.pairwise_singleton _ _, fun x hx y hy => ?_⟩, fun x => ?_⟩
        · simp only [List.mem_singleton] at hy
          subst hy
          obtain ⟨j, hj, hj2, rfl⟩ := (i2 x).1 hx
          have hm0 : 0 < m := by omega
          simp only [Lib.keeps, decide_eq_true_eq] at hk
          rcases hk with hk | hk
          · omega
          · rw [hget m hlt, hget (m - 1) (by omega)] at hk
            have h1 : zs[m - 1]'(by omega) ≤ zs[m] := List.pairwise_iff_getElem.1 h (m - 1) m (by omega) hlt (by omega)
            have h2 : zs[j] ≤ zs[m - 1]'(by omega) := by
              rcases Nat.lt_or_ge j (m - 1) with hl | hl
              · exact List.pairwise_iff_getElem.1 h j (m - 1) hj2 (by omega) hl
              · have : j = m - 1 := by omega
                subst this
                exact Int.le_refl _
            omega
        · simp only [List.mem_append, List.mem_singleton, i2]
          constructor
          · rintro (⟨j, hj, hj2, rfl⟩ | rfl)
            · exact ⟨j, by omega, hj2, rfl⟩
            · exact ⟨m, by omega, hlt, rfl⟩
          · rintro ⟨j, hj, hj2, rfl⟩
            rcases Nat.lt_or_ge j m with hl | hl
            · exact .inl ⟨j, hl, hj2, rfl⟩
            · have : j = m := by omega
              subst this
              exact .inr rfl
      · rw [if_neg hk, List.append_nil]
        refine ⟨i1, fun x => ?_⟩
        rw [i2]
        constructor
        · rintro ⟨j, hj, hj2, rfl⟩; exact ⟨j, by omega, hj2, rfl⟩
        · rintro ⟨j, hj, hj2, rfl⟩
          rcases Nat.lt_or_ge j m with hl | hl
          · exact ⟨j, hl, hj2, rfl⟩
          · have : j = m := by omega
            subst this
            simp only [Lib.keeps, decide_eq_true_eq, not_or, Classical.not_not] at hk
            rw [hget j hlt, hget (j - 1) (by omega)] at hk
            exact ⟨j - 1, by omega, by omega, hk.2.symm⟩
  obtain ⟨k1, k2⟩ := key zs.length (Nat.le_refl _)
  refine ⟨k1, fun x => ?_⟩
  unfold Lib.compact
  rw [k2]
  constructor
  · rintro ⟨j, _, hj, rfl⟩; exact List.getElem_mem hj
  · intro hx
    obtain ⟨j, hj, rfl⟩ := List.getElem_of_mem hx
    exact ⟨j, hj, hj, rfl⟩
theorem sorted_le (xs : List Int) : (sorted xs).Pairwise (· ≤ ·) := by
  have := List.pairwise_mergeSort (le := fun x y : Int => decide (x ≤ y)) (fun a b c h1 h2 => by simp only [decide_eq_true_eq] at *; omega) (fun a b => by simp only [Bool.or_eq_true, decide_eq_true_eq]; omega) xs
  exact this.imp fun h => by simpa using h
theorem sorted_mem (xs : List Int) (x : Int) : x ∈ sorted xs ↔ x ∈ xs := List.mem_mergeSort
theorem picks_perm {α : Type} : ∀ {l : List α} {p : α × List α}, p ∈ picks l → l.Perm (p.1 :: p.2)
  | [], _, h => by cases h
  | x :: l, p, h => by
    simp only [picks, List.mem_cons, List.mem_map] at h
    rcases h with rfl | ⟨q, hq, rfl⟩
    · exact List.Perm.refl _
    · exact ((picks_perm hq).cons x).trans (List.Perm.swap _ _ _)
/-! ### Sets of courses -/
abbrev Ms := List (C × Bool)
theorem mput_keys {x : C} : ∀ {m : Ms}, (∀ d, d ∈ (mput x true m).map (·.1) ↔ d = x ∨ d ∈ m.map (·.1)) ∧ ((m.map (·.1)).Nodup → ((mput x true m).map (·.1)).Nodup)
  | [] => by simp [mput]
  | p :: m => by
    simp only [mput]
    split
    · rename_i e
      subst e
      refine ⟨fun d => by simp, fun h => h⟩
    · rename_i e
      obtain ⟨i1, i2⟩ := mput_keys (x := x) (m := m)
      refine ⟨fun d => ?_, fun h => ?_⟩
      · simp only [List.map_cons, List.mem_cons, i1]
        exact ⟨fun h => by rcases h with h | h | h <;> simp [h], fun h => by rcases h with h | h | h <;> simp [h]⟩
      · simp only [List.map_cons, List.nodup_cons] at h ⊢
        refine ⟨fun hm => ?_, i2 h.2⟩
        rcases (i1 _).1 hm with h' | h'
        · exact e h'
        · exact h.1 h'
theorem keys_len {M H : Int} (hL : Lim M H) {m : List C} (hn : m.Nodup) (hi : ∀ d ∈ m, ins M d = true) : m.length ≤ 11907 := by
  have := inv_len (M := M) (H := H) (n := 0) hL (s := (m.map fun c => (c, 0), [])) ⟨fun p hp => by
    obtain ⟨c, hc, rfl⟩ := List.mem_map.1 hp
    exact hi c hc, fun p hp => by
    obtain ⟨c, hc, rfl⟩ := List.mem_map.1 hp
    simp, by simpa [Function.comp_def] using hn, fun c hc => by cases hc⟩
  simpa using this
end Go.Rv.St

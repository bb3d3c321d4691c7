/- No sequence of rings has a greater excess than the told one, and with the least allowance no alarm is raised, but with 1 less one is: the plain statement. No condition beyond the row's own bounds. -/
import Derived.Test.YtbabgpkfppdfnaaLawA
import Derived.Test.YtbabgpkfppdfnaaMuckE
import Derived.Test.YtbabgpkfppdfnaaMuckL
import Derived.Test.YtbabgpkfppdfnaaGx12
namespace Go.Proofs.Ytbabgpkfppdfnaa.Pure
open Go.RowKit Go.Proofs.Ytbabgpkfppdfnaa.G Go.Proofs.Ytbabgpkfppdfnaa.K Go.Proofs.YtbabgpkfppdfnaaW.PrintWords Go.Proofs.YtbabgpkfppdfnaaW.PrintLast
set_option linter.unusedVariables false
set_option linter.unusedSimpArgs false

/-- All runs that begin at i, and all runs: where they begin, where they end, their sums. -/
def runsIn (a i : Int) : Int → Int → List Int → List (Int × Int × Int)
  | _, _, [] => []
  | j, s, n :: r => (i, j, s + (n - a)) :: runsIn a i (j + 1) (s + (n - a)) r
def runs (a : Int) : Int → List Int → List (Int × Int × Int)
  | _, [] => []
  | i, n :: r => runsIn a i i 0 (n :: r) ++ runs a (i + 1) r
def step (t r : Int × Int × Int) : Int × Int × Int := if r.2.2 > t.2.2 then r else t
theorem exIn_eq (a i : Int) : ∀ (l : List Int) (j s : Int) (t : Int × Int × Int), exIn a i j s t l = (runsIn a i j s l).foldl step t := by
  intro l
  induction l with
  | nil => intro j s t; rfl
  | cons n r ih =>
    intro j s t
    simp only [exIn, runsIn, List.foldl_cons, step]
    split <;> exact ih _ _ _
theorem exOut_eq (a : Int) : ∀ (l : List Int) (i : Int) (t : Int × Int × Int), exOut a i t l = (runs a i l).foldl step t := by
  intro l
  induction l with
  | nil => intro i t; rfl
  | cons n r ih =>
    intro i t
    simp only [exOut, runs, List.foldl_append]
    rw [exIn_eq, ih]
theorem fold_le : ∀ (R : List (Int × Int × Int)) (t : Int × Int × Int), t.2.2 ≤ (R.foldl step t).2.2 ∧ (∀ r ∈ R, r.2.2 ≤ (R.foldl step t).2.2) ∧ ((R.foldl step t).2.2 = t.2.2 → R.foldl step t = t) := by
  intro R
  induction R with
  | nil => intro t; exact ⟨Int.le_refl _, fun r h => by simp at h, fun _ => rfl⟩
  | cons x R ih =>
    intro t
    obtain ⟨i1, i2, i3⟩ := ih (step t x)
    simp only [List.foldl_cons]
    have hs : t.2.2 ≤ (step t x).2.2 ∧ x.2.2 ≤ (step t x).2.2 := by
      unfold step; split <;> constructor <;> omega
    refine ⟨by omega, fun r hr => ?_, fun h => ?_⟩
    · rw [List.mem_cons] at hr
      rcases hr with hr | hr
      · subst hr; omega
      · exact i2 r hr
    · have e : step t x = t := by
        unfold step at hs h i1 ⊢
        split
        · rename_i c; rw [if_pos c] at i1 h; omega
        · rfl
      rw [e] at i3 ⊢
      rw [e] at h
      exact i3 h
/-- The law's look at the runs. -/
def chk (T : Int × Int × Int) : Bool → List (Int × Int × Int) → Option Bool
  | b, [] => some b
  | b, r :: R => if r.2.2 > T.2.2 then none else if r.2.2 = T.2.2 ∧ b = false then (if r.1 = T.1 ∧ r.2.1 = T.2.1 then chk T true R else none) else chk T b R
theorem chk_true (T : Int × Int × Int) : ∀ R, (∀ r ∈ R, r.2.2 ≤ T.2.2) → chk T true R = some true := by
  intro R
  induction R with
  | nil => intro _; rfl
  | cons x R ih =>
    intro h
    have := h x (by simp)
    simp only [chk]
    rw [if_neg (by omega), if_neg (by simp)]
    exact ih fun r hr => h r (by simp [hr])
theorem chk_false : ∀ (R : List (Int × Int × Int)) (t : Int × Int × Int), t.2.2 < (R.foldl step t).2.2 → chk (R.foldl step t) false R = some true := by
  intro R
  induction R with
  | nil => intro t h; simp at h
  | cons x R ih =>
    intro t h
    simp only [List.foldl_cons] at h ⊢
    by_cases c2 : x.2.2 > t.2.2
    · have e : step t x = x := by unfold step; rw [if_pos c2]
      rw [e] at h ⊢
      obtain ⟨i1, i2, i3⟩ := fold_le R x
      rw [chk, if_neg (by omega)]
      by_cases c : x.2.2 = (R.foldl step x).2.2
      · have e3 := i3 c.symm
        rw [e3] at i2 ⊢
        rw [if_pos ⟨rfl, rfl⟩, if_pos ⟨rfl, rfl⟩]
        exact chk_true x R i2
      · rw [if_neg (by intro h'; exact c h'.1)]
        exact ih x (by omega)
    · have e : step t x = t := by unfold step; rw [if_neg c2]
      rw [e] at h ⊢
      rw [chk, if_neg (by omega), if_neg (by intro h'; omega)]
      exact ih t h
theorem chk_append (T : Int × Int × Int) : ∀ (R R' : List (Int × Int × Int)) (b : Bool), chk T b (R ++ R') = (chk T b R).bind fun b' => chk T b' R' := by
  intro R
  induction R with
  | nil => intro R' b; rfl
  | cons x R ih =>
    intro R' b
    simp only [List.cons_append, chk]
    split
    · rfl
    · split
      · split
        · exact ih R' true
        · rfl
      · exact ih R' b
theorem chk_all (a : Int) (n : Int) (r : List Int) : chk (exOut a 0 (0, 0, n - a) (n :: r)) false (runs a 0 (n :: r)) = some true := by
  rw [exOut_eq]
  have e : ∃ R, runs a 0 (n :: r) = (0, 0, n - a) :: R := by
    simp only [runs, runsIn]
    exact ⟨_, by rw [show (0 : Int) + (n - a) = n - a by omega]; rfl⟩
  obtain ⟨R, e⟩ := e
  rw [e]
  have e2 : ((0, 0, n - a) :: R : List (Int × Int × Int)).foldl step (0, 0, n - a) = R.foldl step (0, 0, n - a) := by
    simp only [List.foldl_cons]
    rw [show step (0, 0, n - a) (0, 0, n - a) = (0, 0, n - a) by unfold step; simp]
  obtain ⟨i1, i2, i3⟩ := fold_le R (0, 0, n - a)
  rw [e2]
  by_cases c : (R.foldl step (0, 0, n - a)).2.2 = n - a
  · have := i3 c
    rw [this]
    rw [this] at i2
    simp only [chk]
    rw [if_neg (by omega)]
    rw [if_pos ⟨trivial, trivial⟩, if_pos ⟨trivial, trivial⟩]
    exact chk_true _ R i2
  · have hlt : (n - a) < (R.foldl step (0, 0, n - a)).2.2 := by simp only at i1; omega
    have := chk_false ((0, 0, n - a) :: R) (0, 0, n - a) (by rw [e2]; exact hlt)
    rw [e2] at this
    exact this

section
variable (l : List Int) (a : Int) (T : Int × Int × Int) (ha : 0 ≤ a ∧ a < 12) (hl : l.length ≤ 10) (hm : ∀ x ∈ l, -20 ≤ x ∧ x ≤ 20)
include ha hl hm
theorem in_ev (i : Nat) (hi : i ≤ 10) : ∀ (rest pre : List Int) (s : Int) (b b' : Bool), l = pre ++ rest → -40 * pre.length ≤ s → s ≤ 40 * pre.length → chk T b (runsIn a i pre.length s rest) = some b' →
    (∃ K, ∀ k, K ≤ k → laws_FnExcess.l0 k l a T.1 T.2.1 T.2.2 b' ((i : Int) + 1) = some true) →
    ∃ K, ∀ k, K ≤ k → laws_FnExcess.l1 k l a T.1 T.2.1 T.2.2 b i s pre.length = some true := by
  intro rest
  induction rest with
  | nil =>
    intro pre s b b' e h1 h2 hc ⟨K, hK⟩
    refine ⟨K + 1, fun k hk => ?_⟩
    obtain ⟨k, rfl⟩ : ∃ q, k = q + 1 := ⟨k - 1, by omega⟩
    rw [laws_FnExcess.l1, if_neg (by rw [e]; simp), w64 (by omega) (by omega)]
    simp only [runsIn, chk, Option.some.injEq] at hc
    rw [hc]
    exact hK k (by omega)
  | cons x rest ih =>
    intro pre s b b' e h1 h2 hc hK
    have hlen : l.length = pre.length + (rest.length + 1) := by rw [e]; simp
    have hx := hm x (by rw [e]; simp)
    have e1 : rd l (pre.length : Int) = x := by rw [e]; exact rd_mid _ _ _
    simp only [runsIn, chk] at hc
    have hgo : ∀ b1, chk T b1 (runsIn a i (pre.length + 1) (s + (x - a)) rest) = some b' → ∃ K, ∀ k, K ≤ k → laws_FnExcess.l1 k l a T.1 T.2.1 T.2.2 b1 i (s + (x - a)) ((pre.length : Int) + 1) = some true := by
      intro b1 hb1
      have := ih (pre ++ [x]) (s + (x - a)) b1 b' (by simp [e]) (by simp; omega) (by simp; omega) (by simpa using hb1) hK
      simpa using this
    by_cases c1 : s + (x - a) > T.2.2
    · rw [if_pos c1] at hc; cases hc
    rw [if_neg c1] at hc
    have hopen : ∀ k, laws_FnExcess.l1 (k + 1) l a T.1 T.2.1 T.2.2 b i s pre.length = if s + (x - a) = T.2.2 then laws_FnExcess.j4 k l a T.1 T.2.1 T.2.2 b i (s + (x - a)) pre.length (!b) else laws_FnExcess.j4 k l a T.1 T.2.1 T.2.2 b i (s + (x - a)) pre.length false := by
      intro k
      rw [laws_FnExcess.l1, if_pos (by omega), if_pos (by omega), e1, w64 (i := x - a) (by omega) (by omega), w64 (i := s + (x - a)) (by omega) (by omega), if_neg c1]
    by_cases c2 : s + (x - a) = T.2.2 ∧ b = false
    · rw [if_pos c2] at hc
      by_cases c3 : (i : Int) = T.1 ∧ (pre.length : Int) = T.2.1
      · rw [if_pos c3] at hc
        obtain ⟨K, hK'⟩ := hgo true hc
        refine ⟨K + 2, fun k hk => ?_⟩
        obtain ⟨k, rfl⟩ : ∃ q, k = q + 1 + 1 := ⟨k - 2, by omega⟩
        rw [hopen, if_pos c2.1, c2.2, laws_FnExcess.j4, if_pos (by rfl), if_pos c3.1, if_pos c3.2, w64 (by omega) (by omega)]
        exact hK' k (by omega)
      · rw [if_neg c3] at hc; cases hc
    · rw [if_neg c2] at hc
      obtain ⟨K, hK'⟩ := hgo b hc
      refine ⟨K + 2, fun k hk => ?_⟩
      obtain ⟨k, rfl⟩ : ∃ q, k = q + 1 + 1 := ⟨k - 2, by omega⟩
      have hb : (if s + (x - a) = T.2.2 then laws_FnExcess.j4 (k + 1) l a T.1 T.2.1 T.2.2 b i (s + (x - a)) pre.length (!b) else laws_FnExcess.j4 (k + 1) l a T.1 T.2.1 T.2.2 b i (s + (x - a)) pre.length false) = laws_FnExcess.j4 (k + 1) l a T.1 T.2.1 T.2.2 b i (s + (x - a)) pre.length false := by
        by_cases c4 : s + (x - a) = T.2.2
        · have : b = true := by cases b with
            | true => rfl
            | false => exact absurd ⟨c4, rfl⟩ c2
          rw [if_pos c4, this]; rfl
        · rw [if_neg c4]
      rw [hopen, hb, laws_FnExcess.j4, if_neg (by simp), w64 (by omega) (by omega)]
      exact hK' k (by omega)
theorem out_ev : ∀ (rest pre : List Int) (b : Bool), l = pre ++ rest → chk T b (runs a pre.length rest) = some true → ∃ K, ∀ k, K ≤ k → laws_FnExcess.l0 k l a T.1 T.2.1 T.2.2 b pre.length = some true := by
  intro rest
  induction rest with
  | nil =>
    intro pre b e hc
    refine ⟨1, fun k hk => ?_⟩
    obtain ⟨k, rfl⟩ : ∃ q, k = q + 1 := ⟨k - 1, by omega⟩
    simp only [runs, chk, Option.some.injEq] at hc
    rw [laws_FnExcess.l0, if_neg (by rw [e]; simp), hc]
  | cons x rest ih =>
    intro pre b e hc
    have hlen : l.length = pre.length + (rest.length + 1) := by rw [e]; simp
    simp only [runs] at hc
    rw [chk_append] at hc
    obtain ⟨b', hb, hc⟩ := Option.bind_eq_some_iff.1 hc
    have h1 := ih (pre ++ [x]) b' (by simp [e]) (by simpa using hc)
    have en : ((pre ++ [x]).length : Int) = (pre.length : Int) + 1 := by simp
    rw [en] at h1
    obtain ⟨K, hK⟩ := in_ev l a T ha hl hm pre.length (by omega) (x :: rest) pre 0 b b' e (by omega) (by omega) hb h1
    refine ⟨K + 1, fun k hk => ?_⟩
    obtain ⟨k, rfl⟩ : ∃ q, k = q + 1 := ⟨k - 1, by omega⟩
    rw [laws_FnExcess.l0, if_pos (by omega)]
    exact hK k (by omega)
end
theorem FnExcess : laws_FnExcess.Pure := by
  intro l0 l1 _ _ hw0 _ _ hw1
  by_cases h0 : 48 < l0.length
  · refine ⟨0, ?_⟩
    unfold laws_FnExcess.f
    rw [r8Long_eq]
    simp [h0]
  by_cases h1 : 48 < l1.length
  · refine ⟨0, ?_⟩
    unfold laws_FnExcess.f
    rw [r8Long_eq]
    simp [h1]
  obtain ⟨l, hl, hm, hB⟩ := balance_ex l0 (bytes_of h0 hw0)
  obtain ⟨a, ea, a0, a1⟩ := r8At_ex l1 (bytes_of h1 hw1) 0 12 (by omega) (by omega)
  obtain ⟨lim, el, lim0, lim1⟩ := r8At_ex l1 (bytes_of h1 hw1) 1 30 (by omega) (by omega)
  have hf := few_of hl hm
  have hra : inR 0 1000000 a = true := inR_iff.2 ⟨a0, by omega⟩
  have hrl : inR 0 1000000 lim = true := inR_iff.2 ⟨lim0, by omega⟩
  obtain ⟨r, ok, hok, hr, hL⟩ := least_both l lim (by omega)
  have eok : ok = true := hok.2 ⟨hf, hrl⟩
  obtain ⟨r0, r1, r2, r3⟩ := hr eok
  obtain ⟨K1, hE⟩ := implExcess_ev l a (by omega)
  -- the loops of the law
  have hloop : ∃ K, ∀ k, K ≤ k → laws_FnExcess.l0 k l a (excV l a).1 (excV l a).2.1 (excV l a).2.2.1 (!(excV l a).2.2.2) 0 = some true := by
    cases l with
    | nil =>
      refine ⟨1, fun k hk => ?_⟩
      obtain ⟨k, rfl⟩ : ∃ q, k = q + 1 := ⟨k - 1, by omega⟩
      rw [laws_FnExcess.l0, if_neg (by simp)]
      simp [excV]
    | cons n rest =>
      have e : excV (n :: rest) a = ((exOut a 0 (0, 0, n - a) (n :: rest)).1, (exOut a 0 (0, 0, n - a) (n :: rest)).2.1, (exOut a 0 (0, 0, n - a) (n :: rest)).2.2, true) := by
        unfold excV; rw [hf, hra]; simp
      rw [e]
      exact out_ev (n :: rest) a (exOut a 0 (0, 0, n - a) (n :: rest)) ⟨a0, a1⟩ hl hm (n :: rest) [] false rfl (chk_all a n rest)
  obtain ⟨K2, hK2⟩ := hloop
  obtain ⟨k, hk⟩ : ∃ k, k = K1 + K2 + 2048600 := ⟨_, rfl⟩
  refine ⟨k + 1 + 1, ?_⟩
  unfold laws_FnExcess.f
  rw [r8Long_eq]
  simp only [Option.bind_some, h0, h1, decide_false, Bool.or_self]
  rw [if_neg (by simp), hB _ (by omega), ea, el]
  simp only [Option.bind_some]
  rw [(hL (k + 1 + 1) (by omega)).1]
  simp only [Option.bind_some]
  rw [implAlarm_eq l r lim (k + 1 + 1) (by omega) (by omega)]
  simp only [Option.bind_some, eok, if_true, r3]
  rw [if_neg (by simp), decide_eq_false (by omega), laws_FnExcess.j0, if_neg (by simp)]
  have hj1 : laws_FnExcess.j1 (k + 1) l a = some true := by
    rw [laws_FnExcess.j1, hE k (by omega)]
    simp only [Option.bind_some]
    have e : ((excV l a).2.2.2 != decide ((l.length : Int) > 0)) = false := by
      unfold excV
      rw [hf, hra]
      cases l with
      | nil => simp
      | cons n rest => simp
    rw [e, if_neg (by simp)]
    exact hK2 k (by omega)
  by_cases c : r > 0
  · rw [if_pos c, w64 (by omega) (by omega), implAlarm_eq l (r - 1) lim (k + 1) (by omega) (by omega)]
    have r2' : (alarmV l (r - 1) lim).2.2 = true := by
      rcases r2 with r2 | r2
      · omega
      · exact r2
    simp only [Option.bind_some, r2', if_true]
    exact hj1
  · rw [if_neg c]
    exact hj1
end Go.Proofs.Ytbabgpkfppdfnaa.Pure

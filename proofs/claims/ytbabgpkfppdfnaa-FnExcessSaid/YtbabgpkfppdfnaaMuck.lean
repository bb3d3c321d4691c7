/- What the program's and the reference's functions on muck answer: balances, sums, alarms, the greatest excess, in plain words on lists. -/
import Derived.Test.YtbabgpkfppdfnaaKit
import Derived.Test.YtbabgpkfppdfnaaGx1
import Derived.Test.YtbabgpkfppdfnaaGx2
import Derived.Test.YtbabgpkfppdfnaaGx5
import Derived.Test.YtbabgpkfppdfnaaGx7
import Derived.Test.YtbabgpkfppdfnaaGx9
import Derived.Test.YtbabgpkfppdfnaaGx6
import Derived.Test.YtbabgpkfppdfnaaGx4
import Derived.Test.YtbabgpkfppdfnaaGx11
import Derived.Test.YtbabgpkfppdfnaaGx13
namespace Go.Proofs.Ytbabgpkfppdfnaa.K
open Go.RowKit Go.Proofs.Ytbabgpkfppdfnaa.G Go.Proofs.YtbabgpkfppdfnaaW.PrintWords Go.Proofs.YtbabgpkfppdfnaaW.PrintLast Go.Proofs.YtbabgpkfppdfnaaW.PrintMore
set_option linter.unusedVariables false
set_option linter.unusedSimpArgs false

def inR (lo hi x : Int) : Bool := decide (lo ≤ x) && decide (x ≤ hi)
theorem inR_iff {lo hi x : Int} : inR lo hi x = true ↔ lo ≤ x ∧ x ≤ hi := by simp [inR]
theorem within_eq (x lo hi : Int) : impl_within.f x lo hi = some (inR lo hi x) := by
  unfold impl_within.f inR
  by_cases h : lo ≤ x <;> simp [h]
theorem l00In_eq (x lo hi : Int) : spec_l00In.f x lo hi = some (inR lo hi x) := by
  unfold spec_l00In.f inR
  by_cases h : lo ≤ x <;> simp [h]
def allIn (lo hi : Int) (l : List Int) : Bool := l.all (inR lo hi)
theorem areWithin_eq (l : List Int) (lo hi : Int) : impl_areWithin.f l lo hi = some (allIn lo hi l) := rfl
def few (lo hi : Int) (l : List Int) : Bool := allIn lo hi l && decide (l.length ≤ 60)
theorem l06Within_eq (l : List Int) (lo hi : Int) (k : Nat) (hl : l.length ≤ 1048576) (hk : l.length < k) : spec_l06Within.f k l lo hi = some (few lo hi l) := by
  unfold spec_l06Within.f few allIn
  refine loop_all 0 l (fun k (_ : Unit) i => spec_l06Within.l0 k l lo hi i) (fun _ r => r.all (inR lo hi) && decide (l.length ≤ 60)) (fun _ _ => True) ?_ ?_ k () hk trivial
  · intro k s _ _
    simp only [spec_l06Within.l0]
    rw [if_neg (by omega)]
    simp
    omega
  · intro k s pre x rest _ e _ ih
    have hlen : l.length = pre.length + (rest.length + 1) := by rw [e]; simp
    simp only [spec_l06Within.l0]
    have e1 : rd l (pre.length : Int) = x := by rw [e]; exact rd_mid _ _ _
    rw [if_pos (by omega), if_pos (by omega), w64 (by omega) (by omega), e1, l00In_eq]
    simp only [Option.bind_some, List.all_cons]
    cases h : inR lo hi x with
    | true => simp only [if_true, Bool.true_and]; exact ih () trivial
    | false => simp
theorem l06Balance_eq (l : List Int) (k : Nat) (hl : l.length ≤ 1048576) (hk : l.length < k) : spec_l06Balance.f k l = some (few (-1000000) 1000000 l) := by
  unfold spec_l06Balance.f
  rw [l06Within_eq l _ _ k hl hk]; rfl
theorem l06Bound_eq (a : Int) : spec_l06Bound.f a = some (inR 0 1000000 a) := by
  unfold spec_l06Bound.f
  rw [l00In_eq]; rfl
theorem isBalance_eq (l : List Int) (a : Int) : impl_isBalance.f l a = some (few (-1000000) 1000000 l && inR 0 1000000 a) := by
  unfold impl_isBalance.f few
  rw [areWithin_eq, within_eq]
  simp only [Option.bind_some]
  by_cases h : (l.length : Int) ≤ 60
  · rw [if_pos h]
    have : l.length ≤ 60 := by omega
    cases allIn (-1000000) 1000000 l <;> simp [this]
  · rw [if_neg h]
    have : ¬ l.length ≤ 60 := by omega
    simp [this]

/-- The running sums. -/
def sumsL (a : Int) : Int → List Int → List Int
  | _, [] => []
  | s, n :: r => max (s + n - a) 0 :: sumsL a (max (s + n - a) 0) r
theorem sumsL_length (a s : Int) (l : List Int) : (sumsL a s l).length = l.length := by
  induction l generalizing s with
  | nil => rfl
  | cons n r ih => simp [sumsL, ih]
theorem few_len {lo hi : Int} {l : List Int} (h : few lo hi l = true) : l.length ≤ 60 := by
  unfold few at h; simp at h; exact h.2
theorem few_mem {lo hi : Int} {l : List Int} (h : few lo hi l = true) : ∀ x ∈ l, lo ≤ x ∧ x ≤ hi := by
  unfold few allIn at h
  simp only [Bool.and_eq_true, List.all_eq_true] at h
  exact fun x hx => inR_iff.1 (h.1 x hx)
theorem implSums_eq (l : List Int) (a : Int) (k : Nat) (hl : few (-1000000) 1000000 l = true) (ha : inR 0 1000000 a = true) (hk : l.length < k) : impl_sums.f k l a = some (sumsL a 0 l) := by
  have h60 := few_len hl
  have hm := few_mem hl
  rw [inR_iff] at ha
  unfold impl_sums.f
  refine (loop_all 0 l (fun k (s : List Int × Int) i => impl_sums.l0 k a s.1 s.2 l (l.length : Int) i) (fun s r => s.1 ++ sumsL a s.2 r) (fun s i => s.1.length = i ∧ 0 ≤ s.2 ∧ s.2 ≤ 1000000 * i) ?_ ?_ k ([], 0) hk ⟨rfl, by simp, by simp⟩).trans (by simp)
  · intro k s _ _
    simp only [impl_sums.l0]
    rw [if_neg (by omega)]
    simp [sumsL]
  · intro k s pre x rest _ e ⟨h1, h2, h3⟩ ih
    have hlen : l.length = pre.length + (rest.length + 1) := by rw [e]; simp
    have hx := hm x (by rw [e]; simp)
    simp only [impl_sums.l0]
    have e1 : rd l (pre.length : Int) = x := by rw [e]; exact rd_mid _ _ _
    rw [if_pos (by omega), if_pos (by omega), if_pos (by omega), if_pos (by omega), e1, w64 (i := (pre.length : Int) + 1) (by omega) (by omega), w64 (i := s.2 + x) (by omega) (by omega), w64 (by omega) (by omega), mx_eq]
    rw [ih (s.1 ++ [max (s.2 + x - a) 0], max (s.2 + x - a) 0) ⟨by simp [h1], by simp only; omega, by simp only; omega⟩]
    simp [sumsL]
theorem specSums_eq (l : List Int) (a : Int) (k : Nat) (hl : few (-1000000) 1000000 l = true) (ha : inR 0 1000000 a = true) (hk : l.length < k) : spec_l06Sums.f k l a = some (sumsL a 0 l) := by
  have h60 := few_len hl
  have hm := few_mem hl
  rw [inR_iff] at ha
  unfold spec_l06Sums.f
  refine (loop_all 0 l (fun k (s : List Int × Int) i => spec_l06Sums.l0 k l a s.1 s.2 i) (fun s r => s.1 ++ sumsL a s.2 r) (fun s i => s.1.length = i ∧ 0 ≤ s.2 ∧ s.2 ≤ 1000000 * i) ?_ ?_ k ([], 0) hk ⟨rfl, by simp, by simp⟩).trans (by simp)
  · intro k s _ _
    simp only [spec_l06Sums.l0]
    rw [if_neg (by omega)]
    simp [sumsL]
  · intro k s pre x rest _ e ⟨h1, h2, h3⟩ ih
    have hlen : l.length = pre.length + (rest.length + 1) := by rw [e]; simp
    have hx := hm x (by rw [e]; simp)
    simp only [spec_l06Sums.l0]
    have e1 : rd l (pre.length : Int) = x := by rw [e]; exact rd_mid _ _ _
    have e2 : spec_l00Max.f 0 (s.2 + x - a) = some (max (s.2 + x - a) 0) := by
      unfold spec_l00Max.f
      split <;> (congr 1; omega)
    rw [if_pos (by omega), if_pos (by omega), e1, w64 (i := (pre.length : Int) + 1) (by omega) (by omega), w64 (i := s.2 + x) (by omega) (by omega), w64 (by omega) (by omega), e2]
    simp only [Option.bind_some]
    rw [if_pos (by omega)]
    rw [ih (s.1 ++ [max (s.2 + x - a) 0], max (s.2 + x - a) 0) ⟨by simp [h1], by simp only; omega, by simp only; omega⟩]
    simp [sumsL]

/-- Where an alarm is raised: 'from' and i are where the search stands. -/
def alarmL (lim : Int) : Int → Int → List Int → Int × Int × Bool
  | _, _, [] => (0, 0, false)
  | fr, i, s :: r => if s > lim then (fr, i, true) else if s = 0 then alarmL lim (i + 1) (i + 1) r else alarmL lim fr (i + 1) r
theorem specAlarm_eq (l : List Int) (a lim : Int) (k : Nat) (hl : few (-1000000) 1000000 l = true) (ha : inR 0 1000000 a = true) (hk : l.length < k) : spec_l06Alarm.f k l a lim = some (alarmL lim 0 0 (sumsL a 0 l)) := by
  have h60 := few_len hl
  unfold spec_l06Alarm.f
  rw [specSums_eq l a k hl ha hk]
  simp only [Option.bind_some]
  have hs := sumsL_length a 0 l
  generalize sumsL a 0 l = ss at hs
  refine loop_all 0 ss (fun k (s : Int) i => spec_l06Alarm.l0 k lim ss s i) (fun s r => alarmL lim s (ss.length - r.length) r) (fun s i => 0 ≤ s ∧ s ≤ i) ?_ ?_ k 0 (by omega) ⟨by simp, by simp⟩ |>.trans (by simp)
  · intro k s _ _
    simp only [spec_l06Alarm.l0]
    rw [if_neg (by omega)]
    simp [alarmL]
  · intro k s pre x rest _ e ⟨h1, h2⟩ ih
    have hlen : ss.length = pre.length + (rest.length + 1) := by rw [e]; simp
    simp only [spec_l06Alarm.l0]
    have e1 : rd ss (pre.length : Int) = x := by rw [e]; exact rd_mid _ _ _
    have e3 : (ss.length : Int) - ((x :: rest).length : Int) = pre.length := by simp; omega
    have e4 : (ss.length : Int) - (rest.length : Int) = pre.length + 1 := by omega
    rw [if_pos (by omega), if_pos (by omega), e1, w64 (by omega) (by omega), e3]
    rw [e4] at ih
    simp only [alarmL]
    split
    · rfl
    · split
      · exact ih _ ⟨by omega, by omega⟩
      · exact ih _ ⟨by omega, by omega⟩
def alarmV (l : List Int) (a lim : Int) : Int × Int × Bool := if few (-1000000) 1000000 l && inR 0 1000000 a && inR 0 1000000 lim then alarmL lim 0 0 (sumsL a 0 l) else (0, 0, false)
theorem implAlarm_eq (l : List Int) (a lim : Int) (k : Nat) (hl : l.length ≤ 1048576) (hk : l.length + 1 < k) : impl_AlarmOf.f k l a lim = some (alarmV l a lim) := by
  unfold impl_AlarmOf.f alarmV
  rw [isBalance_eq, within_eq]
  simp only [Option.bind_some]
  obtain ⟨k, rfl⟩ : ∃ j, k = j + 1 := ⟨k - 1, by omega⟩
  have bad : impl_AlarmOf.j0 (k + 1) l a lim true = some (0, 0, false) := by simp [impl_AlarmOf.j0]
  by_cases h : (few (-1000000) 1000000 l && inR 0 1000000 a) = true
  · rw [if_pos h]
    cases hL : inR 0 1000000 lim with
    | false => simp [bad]
    | true =>
      rw [h]
      simp only [Bool.and_eq_true] at h
      have h60 := few_len h.1
      simp only [Bool.not_true, Bool.and_true, if_true, impl_AlarmOf.j0]
      rw [if_neg (by simp), implSums_eq l a k h.1 h.2 (by omega)]
      simp only [Option.bind_some]
      have hs := sumsL_length a 0 l
      generalize sumsL a 0 l = ss at hs
      refine loop_all 0 ss (fun k (s : Int) i => impl_AlarmOf.l0 k lim s ss (ss.length : Int) i) (fun s r => alarmL lim s (ss.length - r.length) r) (fun s i => 0 ≤ s ∧ s ≤ i) ?_ ?_ k 0 (by omega) ⟨by simp, by simp⟩ |>.trans (by simp)
      · intro k s _ _
        simp only [impl_AlarmOf.l0]
        rw [if_neg (by omega)]
        simp [alarmL]
      · intro k s pre x rest _ e ⟨h1, h2⟩ ih
        have hlen : ss.length = pre.length + (rest.length + 1) := by rw [e]; simp
        simp only [impl_AlarmOf.l0]
        have e1 : rd ss (pre.length : Int) = x := by rw [e]; exact rd_mid _ _ _
        have e3 : (ss.length : Int) - ((x :: rest).length : Int) = pre.length := by simp; omega
        have e4 : (ss.length : Int) - (rest.length : Int) = pre.length + 1 := by omega
        rw [if_pos (by omega), if_pos (by omega), if_pos (by omega), e1, w64 (by omega) (by omega), e3]
        rw [e4] at ih
        simp only [alarmL]
        split
        · rfl
        · split
          · exact ih _ ⟨by omega, by omega⟩
          · exact ih _ ⟨by omega, by omega⟩
  · rw [if_neg h, bad]
    simp only [Bool.not_eq_true] at h
    simp [h]
theorem specAlarmOf_eq (l : List Int) (a lim : Int) (k : Nat) (hl : l.length ≤ 1048576) (hk : l.length + 1 < k) : spec_AlarmOf.f k l a lim = some (alarmV l a lim) := by
  unfold spec_AlarmOf.f alarmV
  rw [l06Balance_eq l k hl (by omega), l06Bound_eq, l06Bound_eq]
  simp only [Option.bind_some]
  cases h1 : few (-1000000) 1000000 l <;> cases h2 : inR 0 1000000 a <;> cases h3 : inR 0 1000000 lim <;> simp
  rw [specAlarm_eq l a lim k h1 h2 (by omega)]
  rfl

def sumsV (l : List Int) (a : Int) : List Int × Bool := if few (-1000000) 1000000 l && inR 0 1000000 a then (sumsL a 0 l, true) else ([], false)
theorem implSumsOf_eq (l : List Int) (a : Int) (k : Nat) (hl : l.length ≤ 1048576) (hk : l.length + 1 < k) : impl_SumsOf.f k l a = some (sumsV l a) := by
  unfold impl_SumsOf.f sumsV
  rw [isBalance_eq]
  simp only [Option.bind_some]
  by_cases h : (few (-1000000) 1000000 l && inR 0 1000000 a) = true
  · rw [if_pos h, if_pos h]
    simp only [Bool.and_eq_true] at h
    rw [implSums_eq l a k h.1 h.2 (by omega)]; rfl
  · rw [if_neg h, if_neg h]
theorem specSumsOf_eq (l : List Int) (a : Int) (k : Nat) (hl : l.length ≤ 1048576) (hk : l.length + 1 < k) : spec_SumsOf.f k l a = some (sumsV l a) := by
  unfold spec_SumsOf.f sumsV
  rw [l06Balance_eq l k hl (by omega), l06Bound_eq]
  simp only [Option.bind_some]
  cases h1 : few (-1000000) 1000000 l <;> cases h2 : inR 0 1000000 a <;> simp
  rw [specSums_eq l a k h1 h2 (by omega)]
  rfl
theorem sumsV_length (l : List Int) (a : Int) : (sumsV l a).1.length ≤ 60 := by
  unfold sumsV
  split
  · rename_i h
    simp only [Bool.and_eq_true] at h
    simp only [sumsL_length]
    exact few_len h.1
  · simp
end Go.Proofs.Ytbabgpkfppdfnaa.K

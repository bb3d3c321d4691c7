/- The frame of the laws on grounds: sizes, copies, equality with itself. -/
import Derived.Test.YtlkmjldhhoopcaaEvKit
import Derived.Test.YtlkmjldhhoopcaaGy0
import Derived.Test.YtlkmjldhhoopcaaGy2
import Derived.Test.YtlkmjldhhoopcaaGy3
import Derived.Test.YtlkmjldhhoopcaaGy4
namespace Go.Proofs.Ytlkmjldhhoopcaa.K
open Go.RowKit Go.Proofs.Ytlkmjldhhoopcaa.G Go.Proofs.YtlkmjldhhoopcaaW.PrintWords Go.Proofs.YtlkmjldhhoopcaaW.PrintLast
set_option linter.unusedVariables false
set_option linter.unusedSimpArgs false

def toH (x : S96) : S40 := ⟨x.f0, x.f1⟩
theorem szInts_eq (l : List Int) (n : Int) (h0 : 0 ≤ n) (hn : n ≤ 1048576) (hl : l.length ≤ 9223372036854775807) : laws_szInt64S.f l n = some (if (l.length : Int) ≤ n then n - l.length else -1) := by
  unfold laws_szInt64S.f
  rw [w64 (by omega) (by omega)]
  by_cases h : (l.length : Int) ≤ n
  · rw [if_neg (by omega), if_pos h]
  · rw [if_pos (by omega), if_neg h]
theorem szHoleS_ev (l : List S96) (hl : l.length ≤ 9223372036854775807) (hw : ∀ x ∈ l, x.f1.length ≤ 9223372036854775807) (n : Int) (h0 : 0 ≤ n) (hn : n ≤ 1048576) :
    ∃ R, Ev (fun k => laws_szHoleS.f k l n) R ∧ (0 ≤ R → l.length ≤ 1048576 ∧ ∀ x ∈ l, x.f1.length ≤ 1048576) := by
  have key : ∀ (rest pre : List S96) (t : Int), l = pre ++ rest → l.length ≤ 1048576 → 0 ≤ t → t ≤ 1048576 → ∃ R, Ev (fun k => laws_szHoleS.l0 k l t pre.length) R ∧ (0 ≤ R → ∀ x ∈ rest, x.f1.length ≤ 1048576) := by
    intro rest
    induction rest with
    | nil =>
      intro pre t e hll h0 h1
      refine ⟨t, Ev.step (fun k => ?_) (Ev.now _), by simp⟩
      rw [laws_szHoleS.l0, if_neg (by rw [e]; simp)]
    | cons x rest ih =>
      intro pre t e hll h0 h1
      have hlen : l.length = pre.length + (rest.length + 1) := by rw [e]; simp
      have e1 : rd_T96 l (pre.length : Int) = x := by rw [e]; simp [rd_T96]
      have hx := hw x (by rw [e]; simp)
      have ew : wrap64 ((pre.length : Int) + 1) = ((pre ++ [x]).length : Int) := by rw [w64 (by omega) (by omega)]; simp
      by_cases hc : (x.f1.length : Int) ≤ t
      · obtain ⟨R, hR, hb⟩ := ih (pre ++ [x]) (t - x.f1.length) (by simp [e]) hll (by omega) (by omega)
        refine ⟨R, Ev.step (fun k => ?_) hR, fun h y hy => ?_⟩
        · rw [laws_szHoleS.l0, if_pos (by omega), if_pos (by omega), e1]
          unfold laws_szHole.f
          rw [szInts_eq _ _ h0 h1 hx, if_pos hc]
          simp only [Option.bind_some]
          rw [if_neg (by omega)]
          simp only [Option.bind_some]
          rw [if_neg (by omega), ew]
        · rw [List.mem_cons] at hy
          rcases hy with rfl | hy
          · omega
          · exact hb h y hy
      · refine ⟨-1, Ev.step (f := fun _ => some (-1)) (fun k => ?_) (Ev.now _), fun h => by omega⟩
        rw [laws_szHoleS.l0, if_pos (by omega), if_pos (by omega), e1]
        unfold laws_szHole.f
        rw [szInts_eq _ _ h0 h1 hx, if_neg hc]
        rfl
  unfold laws_szHoleS.f
  rw [w64 (by omega) (by omega)]
  by_cases hc : (l.length : Int) ≤ n
  · obtain ⟨R, hR, hb⟩ := key l [] (n - l.length) rfl (by omega) (by omega) (by omega)
    exact ⟨R, ite_ev_neg (by omega) (by simpa using hR), fun h => ⟨by omega, hb h⟩⟩
  · exact ⟨-1, ite_ev_pos (by omega) (Ev.now _), fun h => by omega⟩
theorem szGround_case (d : List Int) (l : List S96) (hd : d.length ≤ 9223372036854775807) (hl : l.length ≤ 9223372036854775807) (hw : ∀ x ∈ l, x.f1.length ≤ 9223372036854775807) {g : Nat → Option Bool}
    (h : d.length ≤ 1048576 → l.length ≤ 1048576 → (∀ x ∈ l, x.f1.length ≤ 1048576) → Ev g true) : Ev (fun k => (laws_szGround.f k d l 1048576).bind fun t => if t < 0 then some true else g k) true := by
  by_cases hc : (d.length : Int) ≤ 1048576
  · obtain ⟨R, hR, hb⟩ := szHoleS_ev l hl hw (1048576 - d.length) (by omega) (by omega)
    have hsz : Ev (fun k => laws_szGround.f k d l 1048576) (if R < 0 then -1 else R) := by
      unfold laws_szGround.f
      rw [szInts_eq _ _ (by omega) (by omega) hd, if_pos hc]
      simp only [Option.bind_some]
      refine ite_ev_neg (by omega) ?_
      refine Ev.bind hR ?_
      by_cases hr : R < 0
      · rw [if_pos hr, if_pos hr]; exact Ev.now _
      · rw [if_neg hr, if_neg hr]; exact Ev.now _
    refine Ev.bind hsz ?_
    by_cases hr : R < 0
    · rw [if_pos hr]; exact ite_ev_pos (by omega) (Ev.now _)
    · rw [if_neg hr]
      obtain ⟨b1, b2⟩ := hb (by omega)
      exact ite_ev_neg hr (h (by omega) b1 b2)
  · have hsz : Ev (fun k => laws_szGround.f k d l 1048576) (-1) := by
      unfold laws_szGround.f
      rw [szInts_eq _ _ (by omega) (by omega) hd, if_neg hc]
      exact Ev.now _
    exact Ev.bind hsz (ite_ev_pos (by omega) (Ev.now _))
theorem toInts_ev (l : List Int) (hl : l.length ≤ 1048576) : Ev (fun k => laws_toInt64S.f k l) l := by
  unfold laws_toInt64S.f
  refine ite_ev_pos (by omega) (ite_ev_pos (by omega) ?_)
  have key : ∀ (rest pre acc : List Int), l = pre ++ rest → acc.length = l.length → acc.take pre.length = pre → Ev (fun k => laws_toInt64S.l0 k l acc pre.length) l := by
    intro rest
    induction rest with
    | nil =>
      intro pre acc e h1 h2
      refine Ev.step (fun k => ?_) (Ev.now _)
      rw [laws_toInt64S.l0, if_neg (by rw [e]; simp)]
      have : acc = l := by
        rw [e, List.append_nil] at h1 ⊢
        rw [← h2, ← h1, List.take_length]
      rw [this]
    | cons x rest ih =>
      intro pre acc e h1 h2
      have hlen : l.length = pre.length + (rest.length + 1) := by rw [e]; simp
      have e1 : rd l (pre.length : Int) = x := by rw [e]; exact rd_mid _ _ _
      have e2 : ((pre.length : Int)).toNat = pre.length := by omega
      have ew : wrap64 ((pre.length : Int) + 1) = ((pre ++ [x]).length : Int) := by rw [w64 (by omega) (by omega)]; simp
      refine Ev.step (fun k => ?_) (ih (pre ++ [x]) (acc.set pre.length x) (by simp [e]) (by simpa using h1) ?_)
      · rw [laws_toInt64S.l0, if_pos (by omega), if_pos (by omega), if_pos (by omega), e1, e2, ew]
      · rw [List.length_append, List.length_singleton, List.take_add_one, List.take_set_of_le (Nat.le_refl _), h2, List.getElem?_set_self (by omega)]
        rfl
  simpa using key l [] (List.replicate ((l.length : Int) : Int).toNat 0) rfl (by simp) rfl
theorem toHoleS_ev (l : List S96) (hl : l.length ≤ 1048576) (hs : ∀ x ∈ l, x.f1.length ≤ 1048576) : Ev (fun k => laws_toHoleS.f k l) (l.map toH) := by
  unfold laws_toHoleS.f
  refine ite_ev_pos (by omega) (ite_ev_pos (by omega) ?_)
  have key : ∀ (rest pre : List S96) (acc : List S40), l = pre ++ rest → acc.length = l.length → acc.take pre.length = pre.map toH → Ev (fun k => laws_toHoleS.l0 k l acc pre.length) (l.map toH) := by
    intro rest
    induction rest with
    | nil =>
      intro pre acc e h1 h2
      refine Ev.step (fun k => ?_) (Ev.now _)
      rw [laws_toHoleS.l0, if_neg (by rw [e]; simp)]
      have : acc = l.map toH := by
        rw [e, List.append_nil] at h1 ⊢
        rw [← h2, ← h1, List.take_length]
      rw [this]
    | cons x rest ih =>
      intro pre acc e h1 h2
      have hlen : l.length = pre.length + (rest.length + 1) := by rw [e]; simp
      have e1 : rd_T96 l (pre.length : Int) = x := by rw [e]; simp [rd_T96]
      have e2 : ((pre.length : Int)).toNat = pre.length := by omega
      have ew : wrap64 ((pre.length : Int) + 1) = ((pre ++ [x]).length : Int) := by rw [w64 (by omega) (by omega)]; simp
      have hto : Ev (fun k => laws_toHole.f k x.f0 x.f1) (x.f0, x.f1) := by
        unfold laws_toHole.f
        exact Ev.bind (toInts_ev x.f1 (hs x (by rw [e]; simp))) (Ev.now _)
      refine Ev.step (f := fun k => (laws_toHole.f k x.f0 x.f1).bind fun b => if (pre.length : Int) < (acc.length : Int) then laws_toHoleS.l0 k l (acc.set pre.length ⟨b.1, b.2⟩) ((pre ++ [x]).length : Nat) else none) (fun k => ?_) ?_
      · rw [laws_toHoleS.l0, if_pos (by omega), if_pos (by omega), e1, e2, ew]
      · refine Ev.bind hto (ite_ev_pos (by omega) ?_)
        refine (ih (pre ++ [x]) (acc.set pre.length ⟨x.f0, x.f1⟩) (by simp [e]) (by simpa using h1) ?_)
        rw [List.length_append, List.length_singleton, List.take_add_one, List.take_set_of_le (Nat.le_refl _), h2, List.getElem?_set_self (by omega)]
        simp [toH]
  simpa using key l [] (List.replicate ((l.length : Int) : Int).toNat z40) rfl (by simp) rfl
theorem toGround_ev (d : List Int) (l : List S96) (hd : d.length ≤ 1048576) (hl : l.length ≤ 1048576) (hs : ∀ x ∈ l, x.f1.length ≤ 1048576) : Ev (fun k => laws_toGround.f k d l) (d, l.map toH) := by
  unfold laws_toGround.f
  exact Ev.bind (toInts_ev d hd) (Ev.bind (toHoleS_ev l hl hs) (Ev.now _))
theorem eqInts_ev (l : List Int) (hl : l.length ≤ 1048576) : Ev (fun k => laws_eqInt64S.f k l l) true := by
  unfold laws_eqInt64S.f
  refine ite_ev_pos rfl ?_
  have key : ∀ (rest pre : List Int), l = pre ++ rest → Ev (fun k => laws_eqInt64S.l0 k l l pre.length) true := by
    intro rest
    induction rest with
    | nil =>
      intro pre e
      refine Ev.step (fun k => ?_) (Ev.now _)
      rw [laws_eqInt64S.l0, if_neg (by rw [e]; simp)]
    | cons x rest ih =>
      intro pre e
      have hlen : l.length = pre.length + (rest.length + 1) := by rw [e]; simp
      have ew : wrap64 ((pre.length : Int) + 1) = ((pre ++ [x]).length : Int) := by rw [w64 (by omega) (by omega)]; simp
      refine Ev.step (fun k => ?_) (ih (pre ++ [x]) (by simp [e]))
      rw [laws_eqInt64S.l0, if_pos (by omega), if_pos (by omega), if_pos (by omega), if_pos rfl, ew]
  exact key l [] rfl
theorem eqHole_ev (x : S40) (hl : x.f1.length ≤ 1048576) : Ev (fun k => laws_eqHole.f k x.f0 x.f1 x.f0 x.f1) true := by
  unfold laws_eqHole.f
  refine ite_ev_pos rfl ?_
  exact Ev.bind (eqInts_ev x.f1 hl) (Ev.now _)
theorem eqHoleS_ev (l : List S40) (hl : l.length ≤ 1048576) (hs : ∀ x ∈ l, x.f1.length ≤ 1048576) : Ev (fun k => laws_eqHoleS.f k l l) true := by
  unfold laws_eqHoleS.f
  refine ite_ev_pos rfl ?_
  have key : ∀ (rest pre : List S40), l = pre ++ rest → Ev (fun k => laws_eqHoleS.l0 k l l pre.length) true := by
    intro rest
    induction rest with
    | nil =>
      intro pre e
      refine Ev.step (fun k => ?_) (Ev.now _)
      rw [laws_eqHoleS.l0, if_neg (by rw [e]; simp)]
    | cons x rest ih =>
      intro pre e
      have hlen : l.length = pre.length + (rest.length + 1) := by rw [e]; simp
      have e1 : rd_T40 l (pre.length : Int) = x := by rw [e]; simp [rd_T40]
      have ew : wrap64 ((pre.length : Int) + 1) = ((pre ++ [x]).length : Int) := by rw [w64 (by omega) (by omega)]; simp
      refine Ev.step (f := fun k => (laws_eqHole.f k x.f0 x.f1 x.f0 x.f1).bind fun t => if t = true then laws_eqHoleS.l0 k l l ((pre ++ [x]).length : Nat) else some false) (fun k => ?_) ?_
      · rw [laws_eqHoleS.l0, if_pos (by omega), if_pos (by omega), if_pos (by omega), e1, ew]
      · exact Ev.bind (eqHole_ev x (hs x (by rw [e]; simp))) (by simpa using ih (pre ++ [x]) (by simp [e]))
  exact key l [] rfl
theorem eqGround_ev (d : List Int) (l : List S40) (hd : d.length ≤ 1048576) (hl : l.length ≤ 1048576) (hs : ∀ x ∈ l, x.f1.length ≤ 1048576) : Ev (fun k => laws_eqGround.f k d l d l) true := by
  unfold laws_eqGround.f
  exact Ev.bind (eqInts_ev d hd) (Ev.bind (eqHoleS_ev l hl hs) (Ev.now _))
end Go.Proofs.Ytlkmjldhhoopcaa.K

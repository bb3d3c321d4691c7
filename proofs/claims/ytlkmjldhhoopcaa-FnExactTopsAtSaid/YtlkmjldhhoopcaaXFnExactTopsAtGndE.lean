/- Grounds as arguments of a row: their size, their copies, equality with themselves. -/
import Derived.Test.YtlkmjldhhoopcaaXFnExactTopsAtGnd0
import Derived.Test.YtlkmjldhhoopcaaXFnExactTopsAtFr
namespace Go.Proofs.Ytlkmjldhhoopcaa.R
open Go.Rv Go.Rv.Ax
set_option linter.unusedVariables false
set_option linter.unusedSimpArgs false
theorem szHoles_w (H : List Ho) (n : Int) (hn : 0 ≤ n ∧ n ≤ 1048576) (hl : H.length ≤ 9223372036854775807) (hw : ∀ h ∈ H, h.2.length ≤ 9223372036854775807) :
    W (fun k _ => laws_szHoleS.f k H n) (fun (t : Int) => t < 0 ∨ (0 ≤ t ∧ H.length ≤ 1048576 ∧ ∀ h ∈ H, h.2.length ≤ 1048576)) := by
  refine laws_szHoleS.w ?_
  rw [w64 (i := n - (H.length : Int)) (by omega) (by omega)]
  refine W.di (fun _ => W.ret (.inl (by omega))) (fun hq => ?_)
  have key : ∀ (rest pre : List Ho) (t : Int), H = pre ++ rest → 0 ≤ t ∧ t ≤ 1048576 → (∀ h ∈ pre, h.2.length ≤ 1048576) → W (fun k m => (laws_szHoleS.cs k m) H t (pre.length : Int)) (fun (t : Int) => t < 0 ∨ (0 ≤ t ∧ H.length ≤ 1048576 ∧ ∀ h ∈ H, h.2.length ≤ 1048576)) := by
    intro rest
    induction rest with
    | nil =>
      intro pre t e ht ho
      rw [List.append_nil] at e
      exact laws_szHoleS.w0 (W.de (by rw [e]; omega) (W.ret (.inr ⟨ht.1, by omega, by rw [e]; exact ho⟩)))
    | cons x rest ih =>
      intro pre t e ht ho
      have hlen : H.length = pre.length + (rest.length + 1) := by rw [e]; simp
      have hx : rd (0, []) H (pre.length : Int) = x := by rw [e]; exact rd_mid _ _ _
      have hxl := hw x (by rw [e]; simp)
      refine laws_szHoleS.w0 (W.dt (by omega) (W.t (by omega) (W.t (by omega) ?_)))
      rw [hx, w64 (i := (pre.length : Int) + 1) (by omega) (by omega)]
      by_cases hc : (x.2.length : Int) ≤ t
      · refine W.bindE (t := t - (x.2.length : Int)) (laws_szHole.w (W.bindN (fun k => szInt64S_eq k _ _ (by omega) hxl) ?_)) (W.de (by omega) ?_)
        · exact W.de (by rw [if_neg (by omega)]; omega) (W.ret (by rw [if_neg (by omega)]))
        · have := ih (pre ++ [x]) (t - (x.2.length : Int)) (by simp [e]) (by omega) (fun h hm => by
            rcases List.mem_append.1 hm with hm | hm
            · exact ho h hm
            · rw [List.mem_singleton] at hm; subst hm; omega)
          rw [show ((pre ++ [x]).length : Int) = (pre.length : Int) + 1 by simp] at this
          exact this
      · refine W.bindE (t := -1) (laws_szHole.w (W.bindN (fun k => szInt64S_eq k _ _ (by omega) hxl) ?_)) (W.dt (by omega) (W.ret (.inl (by omega))))
        exact W.dt (by rw [if_pos (by omega)]; omega) (W.ret rfl)
  exact key H [] _ rfl (by omega) (by simp)
theorem szGround_w (D : List Int) (H : List Ho) (hD : D.length ≤ 9223372036854775807) (hl : H.length ≤ 9223372036854775807) (hw : ∀ h ∈ H, h.2.length ≤ 9223372036854775807) :
    W (fun k _ => laws_szGround.f k D H 1048576) (fun (t : Int) => t < 0 ∨ (D.length ≤ 1048576 ∧ H.length ≤ 1048576 ∧ ∀ h ∈ H, h.2.length ≤ 1048576)) := by
  refine laws_szGround.w (W.bindN (fun k => szInt64S_eq k _ _ (by omega) hD) ?_)
  by_cases hc : (D.length : Int) ≤ 1048576
  · refine W.de (by rw [if_neg (by omega)]; omega) ?_
    rw [if_neg (by omega)]
    refine (W.bind (szHoles_w H _ (by omega) hl hw) fun (t : Int) ht => W.di (fun h => W.ret (.inl (by omega))) (fun h => W.ret ?_))
    rcases ht with ht | ht
    · exact (h ht).elim
    · exact .inr ⟨by omega, ht.2⟩
  · exact W.dt (by rw [if_pos (by omega)]; omega) (W.ret (.inl (by omega)))
theorem toGround_w (D : List Int) (H : List Ho) (hD : D.length ≤ 1048576) (hH : H.length ≤ 1048576) (hh : ∀ h ∈ H, h.2.length ≤ 1048576) : W (fun k _ => laws_toGround.f k D H) (· = (D, H)) := by
  refine laws_toGround.w (W.bindE (toInt64S_w D hD) (W.bindE (t := H) (laws_toHoleS.w ?_) (W.ret rfl)))
  unfold T.toHoleF
  refine W.t ?_ (W.ret rfl)
  simp only [T.hok, Bool.and_eq_true, decide_eq_true_eq, List.all_eq_true]
  exact ⟨hH, fun x hx => hh x hx⟩
theorem eqHoles_w (H : List Ho) (hH : H.length ≤ 1048576) (hh : ∀ h ∈ H, h.2.length ≤ 1048576) : W (fun k _ => laws_eqHoleS.f k H H) (· = true) := by
  refine laws_eqHoleS.w (W.nde rfl ?_)
  have key : ∀ (rest pre : List Ho), H = pre ++ rest → W (fun k m => (laws_eqHoleS.cs k m) H H (pre.length : Int)) (· = true) := by
    intro rest
    induction rest with
    | nil => intro pre e; exact laws_eqHoleS.w0 (W.de (by rw [e]; simp) (W.ret rfl))
    | cons x rest ih =>
      intro pre e
      have hlen : H.length = pre.length + (rest.length + 1) := by rw [e]; simp
      have hx : rd (0, []) H (pre.length : Int) = x := by rw [e]; exact rd_mid _ _ _
      refine laws_eqHoleS.w0 (W.dt (by omega) (W.t (by omega) (W.t (by omega) (W.t (by omega) (W.t (by omega) ?_)))))
      rw [hx, w64 (i := (pre.length : Int) + 1) (by omega) (by omega)]
      refine W.bindE (laws_eqHole.w (W.nde rfl (W.bindE (eqInt64S_w x.2 (hh x (by rw [e]; simp))) (W.ne rfl (W.ret rfl))))) (W.ne rfl ?_)
      have := ih (pre ++ [x]) (by simp [e])
      rw [show ((pre ++ [x]).length : Int) = (pre.length : Int) + 1 by simp] at this
      exact this
  exact key H [] rfl
theorem eqGround_w (D : List Int) (H : List Ho) (hD : D.length ≤ 1048576) (hH : H.length ≤ 1048576) (hh : ∀ h ∈ H, h.2.length ≤ 1048576) : W (fun k _ => laws_eqGround.f k D H D H) (· = true) :=
  laws_eqGround.w (W.bindE (eqInt64S_w D hD) (W.ne rfl (W.bindE (eqHoles_w H hH hh) (W.ne rfl (W.ret rfl)))))
end Go.Proofs.Ytlkmjldhhoopcaa.R

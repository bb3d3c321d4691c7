/- Rings: the reference's joints, meetings and tubes. -/
import Derived.Test.YtmgelocefebldaaXFnExactOffsetsBehindRng
import Derived.Test.YtmgelocefebldaaXFnExactOffsetsBehindTrn
import Derived.Test.YtmgelocefebldaaXFnExactOffsetsBehindPut
namespace Go.Proofs.Ytmgelocefebldaa.R
open Go.Rv Go.Rv.Ax
set_option linter.unusedVariables false
set_option linter.unusedSimpArgs false
theorem specJoints_w (a : Int) (ha : 0 ≤ a ∧ a ≤ 15) : W (fun k _ => spec_l03Joints.f k a) (fun l => l.length ≤ 6 ∧ ∀ y, y ∈ l ↔ y ∈ jl a) := by
  refine spec_l03Joints.w ?_
  have key : ∀ (ps pre out : List Int), steps = pre ++ ps → out.length ≤ pre.length → (∀ y, y ∈ out ↔ y ∈ pre.map fun d => (a + d).tmod 16) → W (fun k m => (spec_l03Joints.cs k m) a out steps (pre.length : Int)) (fun l => l.length ≤ 6 ∧ ∀ y, y ∈ l ↔ y ∈ jl a) := by
    intro ps
    induction ps with
    | nil =>
      intro pre out e ho hm
      have e : steps = pre := by simpa using e
      have h6 : steps.length = 6 := rfl
      refine spec_l03Joints.w0 (W.de (by rw [e]; omega) (W.ret ⟨by rw [← e] at ho; omega, fun y => ?_⟩))
      rw [hm y, ← e]; rfl
    | cons p ps ih =>
      intro pre out e ho hm
      have h1 : steps.length = pre.length + (ps.length + 1) := by rw [e]; simp
      have h2 : steps.length = 6 := rfl
      have hx : rd 0 steps (pre.length : Int) = p := by rw [e]; exact rd_mid _ _ _
      have hp := steps_ok p (by rw [e]; simp)
      refine spec_l03Joints.w0 (W.dt (by omega) (W.t (by omega) (W.t (by omega) (W.e (by omega) ?_))))
      rw [hx, w64 (i := a + p) (by omega) (by omega), w64 (i := (pre.length : Int) + 1) (by omega) (by omega)]
      refine W.bind (put_w out _ (by omega)) fun r hr => ?_
      have := ih (pre ++ [p]) r (by simp [e]) (by simp; omega) (fun y => by rw [hr.2 y, hm y]; simp [or_comm])
      simpa using this
  exact key steps [] [] rfl (by simp) (by simp)
theorem has_w (l : List Int) (x : Int) (hl : l.length ≤ 1000) : W (fun k _ => spec_l00Has.f k l x) (· = decide (x ∈ l)) := by
  refine spec_l00Has.w ?_
  have key : ∀ (rest pre : List Int), l = pre ++ rest → x ∉ pre → W (fun k m => (spec_l00Has.cs k m) l x (pre.length : Int)) (· = decide (x ∈ l)) := by
    intro rest
    induction rest with
    | nil =>
      intro pre e hn
      refine spec_l00Has.w0 (W.de (by rw [e]; simp) (W.ret ?_))
      have : x ∉ l := by rw [e]; simpa using hn
      simp [this]
    | cons y rest ih =>
      intro pre e hn
      have hlen : l.length = pre.length + (rest.length + 1) := by rw [e]; simp
      have hx : rd 0 l (pre.length : Int) = y := by rw [e]; exact rd_mid _ _ _
      refine spec_l00Has.w0 (W.dt (by omega) (W.t (by omega) (W.t (by omega) ?_)))
      rw [hx, w64 (by omega) (by omega)]
      refine W.di (fun h => W.ret ?_) (fun h => ?_)
      · have : x ∈ l := by rw [e, h]; simp
        simp [this]
      · have := ih (pre ++ [y]) (by simp [e]) (by simp; exact ⟨hn, fun q => h q.symm⟩)
        simpa using this
  exact key l [] rfl (by simp)
theorem specMeet_w (a b : Int) (ha : 0 ≤ a ∧ a ≤ 15) (hb : 0 ≤ b ∧ b ≤ 15) : W (fun k _ => spec_l03Meet.f k a b) (fun t => decide (0 < (t.length : Int)) = meets a b) := by
  refine spec_l03Meet.w (W.bind (specJoints_w a ha) fun J hJ => W.bind (specJoints_w b hb) fun Y hY => ?_)
  have hm : meets a b = J.any fun x => decide (x ∈ jl b) := by
    unfold meets
    rw [Bool.eq_iff_iff, List.any_eq_true, List.any_eq_true]
    simp only [hJ.2]
  rw [hm]
  have hJ6 := hJ.1
  have key : ∀ (rest pre out : List Int), J = pre ++ rest → out.length ≤ pre.length → (decide (0 < (out.length : Int)) = pre.any fun x => decide (x ∈ jl b)) → W (fun k m => (spec_l03Meet.cs k m) out J Y (pre.length : Int)) (fun t => decide (0 < (t.length : Int)) = J.any fun x => decide (x ∈ jl b)) := by
    intro rest
    induction rest with
    | nil =>
      intro pre out e hl ho
      have e : J = pre := by simpa using e
      exact spec_l03Meet.w0 (W.de (by rw [e]; omega) (W.ret (by rw [e]; exact ho)))
    | cons x rest ih =>
      intro pre out e hl ho
      have hlen : J.length = pre.length + (rest.length + 1) := by rw [e]; simp
      have hx : rd 0 J (pre.length : Int) = x := by rw [e]; exact rd_mid _ _ _
      have hp : ((pre ++ [x]).length : Int) = (pre.length : Int) + 1 := by simp
      refine spec_l03Meet.w0 (W.dt (by omega) (W.t (by omega) (W.t (by omega) ?_)))
      rw [hx, w64 (by omega) (by omega)]
      refine W.bindE (has_w Y x (by have := hY.1; omega)) ?_
      have hs : decide (x ∈ Y) = decide (x ∈ jl b) := decide_eq_decide.2 (hY.2 x)
      rw [hs]
      refine W.di (fun h => W.t (by omega) (W.t (by omega) (W.t (by omega) ?_))) (fun h => ?_)
      · have := ih (pre ++ [x]) (out ++ [x]) (by simp [e]) (by simp; omega) (by simp [h])
        rw [hp] at this; exact this
      · have := ih (pre ++ [x]) out (by simp [e]) (by simp; omega) (by rw [ho, List.any_append]; simp [h])
        rw [hp] at this; exact this
  exact key J [] [] rfl (by simp) (by simp)
theorem specTube_w (t : List Ri) (hl : t.length ≤ 1048576) : W (fun k _ => spec_l03Tube.f k t) (· = tubeB t) := by
  refine spec_l03Tube.w ?_
  have key : ∀ (rest pre : List Ri), t = pre ++ rest → (∀ r ∈ pre, ringB r.1 r.2 = true) → (tubeB t = (chn (lastK pre) rest && decide ((t.length : Int) ≤ 60))) → W (fun k m => (spec_l03Tube.cs k m) t (pre.length : Int)) (· = tubeB t) := by
    intro rest
    induction rest with
    | nil =>
      intro pre e hv ht
      refine spec_l03Tube.w0 (W.de (by rw [e]; simp) (W.ret ?_))
      rw [ht]; simp [chn]
    | cons x rest ih =>
      intro pre e hv ht
      have hlen : t.length = pre.length + (rest.length + 1) := by rw [e]; simp
      have hx : rd (0, 0) t (pre.length : Int) = x := by rw [e]; exact rd_mid _ _ _
      have hp : ((pre ++ [x]).length : Int) = (pre.length : Int) + 1 := by simp
      refine spec_l03Tube.w0 (W.dt (by omega) (W.t (by omega) (W.t (by omega) ?_)))
      rw [hx, w64 (i := (pre.length : Int) + 1) (by omega) (by omega), w64 (i := (pre.length : Int) - 1) (by omega) (by omega)]
      refine W.bindN (fun k => (ring_eq k x.1 x.2).1) ?_
      rw [chn_cons] at ht
      cases hr : ringB x.1 x.2
      · rw [hr] at ht
        exact W.nt rfl (W.ret (by rw [ht]; rfl))
      rw [hr] at ht
      refine W.ne rfl ?_
      have next : mtk (lastK pre) x.2 = true → W (fun k m => (spec_l03Tube.cs k m) t ((pre.length : Int) + 1)) (· = tubeB t) := fun hm => by
        rw [hm] at ht
        have := ih (pre ++ [x]) (by simp [e]) (fun r hrm => by
          rcases List.mem_append.1 hrm with h | h
          · exact hv r h
          · simp at h; subst h; exact hr) (by rw [ht]; simp [lastK])
        rw [hp] at this; exact this
      rcases List.eq_nil_or_concat pre with rfl | ⟨q, y, rfl⟩
      · exact W.de (by simp) (next rfl)
      · rw [List.concat_eq_append] at *
        have hy : rd (0, 0) t (((q ++ [y]).length : Int) - 1) = y := by
          rw [show ((q ++ [y]).length : Int) - 1 = (q.length : Int) by simp, e, List.append_assoc]; exact rd_mid _ _ _
        have hk : lastK (q ++ [y]) = some y.2 := by simp [lastK]
        rw [hk] at ht next
        rw [hy]
        refine W.dt (by simp) (W.t (by simp) (W.t (by omega) (W.t (by omega) (W.t (by omega) (W.bind (specMeet_w y.2 x.2 (keyB (hv y (by simp))) (keyB hr)) fun u hu => ?_)))))
        rw [hu]
        cases hm : meets y.2 x.2
        · exact W.e (by simp) (next (by simp [mtk, hm]))
        · simp only [mtk, hm] at ht
          exact W.t rfl (W.ret (by rw [ht]; simp))
  exact key t [] rfl (by simp) (by simp [tubeB, lastK])
end Go.Proofs.Ytmgelocefebldaa.R

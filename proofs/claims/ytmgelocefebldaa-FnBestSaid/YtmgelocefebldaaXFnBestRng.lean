/- Rings: joints that meet, valid tubes. -/
import Derived.Test.YtmgelocefebldaaXFnBestTrnI
import Derived.Test.YtmgelocefebldaaRvSortH
namespace Go.Proofs.Ytmgelocefebldaa.R
open Go.Rv Go.Rv.Ax
set_option linter.unusedVariables false
set_option linter.unusedSimpArgs false
abbrev Ri := Int × Int
def steps : List Int := [0, 1, 4, 7, 10, 13]
/-- the joints of a ring with a key -/
def jl (a : Int) : List Int := steps.map fun d => (a + d).tmod 16
def meets (a b : Int) : Bool := (jl a).any fun x => decide (x ∈ jl b)
theorem meets_iff {a b : Int} : meets a b = true ↔ ∃ x ∈ jl a, x ∈ jl b := by simp [meets, List.any_eq_true]
theorem steps_ok : ∀ d ∈ steps, 0 ≤ d ∧ d ≤ 13 := by unfold steps; simp
theorem sorted_length (l : List Int) : (sorted l).length = l.length := by simp [sorted]
theorem sorted_mem {l : List Int} {x : Int} : x ∈ sorted l ↔ x ∈ l := by simp [sorted]
theorem sort_eq (k : Nat) (l : List Int) (h : l.length ≤ 1000) : slices_Sort_int64.f k l = some (sorted l) := by
  unfold slices_Sort_int64.f sortF
  rw [if_pos (by omega)]
theorem jl_length (a : Int) : (jl a).length = 6 := rfl
theorem joints_w (kd a : Int) (ha : 0 ≤ a ∧ a ≤ 15) : W (fun k _ => impl_Ring_joints.f k kd a) (· = sorted (jl a)) := by
  refine impl_Ring_joints.w ?_
  have key : ∀ (ps pre : List Int), steps = pre ++ ps → W (fun k m => (impl_Ring_joints.cs k m) kd a (pre.map fun d => (a + d).tmod 16) steps 6 (pre.length : Int)) (· = sorted (jl a)) := by
    intro ps
    induction ps with
    | nil =>
      intro pre e
      have e : steps = pre := by simpa using e
      have h6 : steps.length = 6 := rfl
      refine impl_Ring_joints.w0 (W.de (by rw [← e]; omega) (W.bindN (fun k => sort_eq k _ (by simp; rw [← e]; omega)) (W.ret ?_)))
      rw [← e]; rfl
    | cons p ps ih =>
      intro pre e
      have h1 : steps.length = pre.length + (ps.length + 1) := by rw [e]; simp
      have h2 : steps.length = 6 := rfl
      have hx : rd 0 steps (pre.length : Int) = p := by rw [e]; exact rd_mid _ _ _
      have hp := steps_ok p (by rw [e]; simp)
      refine impl_Ring_joints.w0 (W.dt (by omega) (W.t (by omega) (W.t (by omega) (W.e (by omega) ?_))))
      rw [hx, w64 (i := a + p) (by omega) (by omega), w64 (i := (pre.length : Int) + 1) (by omega) (by omega)]
      refine W.t (by simp; omega) ?_
      have := ih (pre ++ [p]) (by simp [e])
      simpa using this
  exact key steps [] rfl
theorem contains_w (l : List Int) (x : Int) (hl : l.length ≤ 1000) : W (fun k _ => slices_Contains_int64.f k l x) (· = decide (x ∈ l)) := by
  have hi : W (fun k _ => slices_Index_int64.f k l x) (fun (i : Int) => decide (0 ≤ i) = decide (x ∈ l)) := by
    refine slices_Index_int64.w ?_
    have key : ∀ (rest pre : List Int), l = pre ++ rest → x ∉ pre → W (fun k m => (slices_Index_int64.cs k m) l x (l.length : Int) (pre.length : Int)) (fun (i : Int) => decide (0 ≤ i) = decide (x ∈ l)) := by
      intro rest
      induction rest with
      | nil =>
        intro pre e hn
        refine slices_Index_int64.w0 (W.de (by rw [e]; simp) (W.ret ?_))
        have : x ∉ l := by rw [e]; simpa using hn
        simp [this]
      | cons y rest ih =>
        intro pre e hn
        have hlen : l.length = pre.length + (rest.length + 1) := by rw [e]; simp
        have hx : rd 0 l (pre.length : Int) = y := by rw [e]; exact rd_mid _ _ _
        refine slices_Index_int64.w0 (W.dt (by omega) (W.t (by omega) (W.t (by omega) ?_)))
        rw [hx, w64 (by omega) (by omega)]
        refine W.di (fun h => W.ret ?_) (fun h => ?_)
        · have : x ∈ l := by rw [e, h]; simp
          simp [this]
        · have := ih (pre ++ [y]) (by simp [e]) (by simp; exact ⟨hn, h⟩)
          simpa using this
    exact key l [] rfl (by simp)
  exact slices_Contains_int64.w (W.bind hi fun (i : Int) h => W.ret h)
theorem meeting_w (ka a kb b : Int) (ha : 0 ≤ a ∧ a ≤ 15) (hb : 0 ≤ b ∧ b ≤ 15) : W (fun k _ => impl_meeting.f k ka a kb b) (fun t => decide (0 < (t.length : Int)) = meets a b) := by
  refine impl_meeting.w (W.bindE (joints_w ka a ha) ?_)
  have hJ : (sorted (jl a)).length = 6 := sorted_length _
  have hm : meets a b = (sorted (jl a)).any fun x => decide (x ∈ jl b) := by
    unfold meets
    rw [Bool.eq_iff_iff, List.any_eq_true, List.any_eq_true]
    simp only [sorted_mem]
  rw [hm]
  generalize sorted (jl a) = J at *
  have key : ∀ (rest pre out : List Int), J = pre ++ rest → out.length ≤ pre.length → (decide (0 < (out.length : Int)) = pre.any fun x => decide (x ∈ jl b)) → W (fun k m => (impl_meeting.cs k m) kb b out J (J.length : Int) (pre.length : Int)) (fun t => decide (0 < (t.length : Int)) = J.any fun x => decide (x ∈ jl b)) := by
    intro rest
    induction rest with
    | nil =>
      intro pre out e hl ho
      have e : J = pre := by simpa using e
      exact impl_meeting.w0 (W.de (by rw [e]; omega) (W.ret (by rw [e]; exact ho)))
    | cons x rest ih =>
      intro pre out e hl ho
      have hlen : J.length = pre.length + (rest.length + 1) := by rw [e]; simp
      have hx : rd 0 J (pre.length : Int) = x := by rw [e]; exact rd_mid _ _ _
      have hp : ((pre ++ [x]).length : Int) = (pre.length : Int) + 1 := by simp
      refine impl_meeting.w0 (W.dt (by omega) (W.t (by omega) (W.t (by omega) (W.bindE (joints_w kb b hb) ?_))))
      rw [hx, w64 (by omega) (by omega)]
      refine W.bindE (contains_w _ _ (by rw [sorted_length, jl_length]; omega)) ?_
      have hs : decide (x ∈ sorted (jl b)) = decide (x ∈ jl b) := decide_eq_decide.2 sorted_mem
      rw [hs]
      refine W.di (fun h => W.t (by omega) ?_) (fun h => ?_)
      · have := ih (pre ++ [x]) (out ++ [x]) (by simp [e]) (by simp; omega) (by simp [h])
        rw [hp] at this; exact this
      · have := ih (pre ++ [x]) out (by simp [e]) (by simp; omega) (by rw [ho, List.any_append]; simp [h])
        rw [hp] at this; exact this
  exact key J [] [] rfl (by simp) (by simp)
/-- is a list of rings a tube behind a ring with a key? -/
def chn : Option Int → List Ri → Bool
  | _, [] => true
  | none, r :: t => ringB r.1 r.2 && chn (some r.2) t
  | some a, r :: t => ringB r.1 r.2 && (!meets a r.2 && chn (some r.2) t)
def tubeB (t : List Ri) : Bool := chn none t && decide ((t.length : Int) ≤ 60)
def lastK (pre : List Ri) : Option Int := pre.getLast?.map fun r => r.2
def mtk (q : Option Int) (b : Int) : Bool := match q with
  | none => true
  | some a => !meets a b
theorem chn_cons (q : Option Int) (r : Ri) (t : List Ri) : chn q (r :: t) = (ringB r.1 r.2 && (mtk q r.2 && chn (some r.2) t)) := by
  cases q <;> simp [chn, mtk]
theorem keyB {x y : Int} (h : ringB x y = true) : 0 ≤ y ∧ y ≤ 15 := by
  simp only [ringB, Bool.and_eq_true, inR_iff] at h
  exact h.2
theorem validTube_w (t : List Ri) (hl : t.length ≤ 1048576) : W (fun k _ => impl_ValidTube.f k t) (· = tubeB t) := by
  refine impl_ValidTube.w ?_
  have key : ∀ (rest pre : List Ri), t = pre ++ rest → (∀ r ∈ pre, ringB r.1 r.2 = true) → (tubeB t = (chn (lastK pre) rest && decide ((t.length : Int) ≤ 60))) → W (fun k m => (impl_ValidTube.cs k m) t t (t.length : Int) (pre.length : Int)) (· = tubeB t) := by
    intro rest
    induction rest with
    | nil =>
      intro pre e hv ht
      refine impl_ValidTube.w0 (W.de (by rw [e]; simp) (W.ret ?_))
      rw [ht]; simp [chn]
    | cons x rest ih =>
      intro pre e hv ht
      have hlen : t.length = pre.length + (rest.length + 1) := by rw [e]; simp
      have hx : rd (0, 0) t (pre.length : Int) = x := by rw [e]; exact rd_mid _ _ _
      have hp : ((pre ++ [x]).length : Int) = (pre.length : Int) + 1 := by simp
      refine impl_ValidTube.w0 (W.dt (by omega) (W.t (by omega) (W.t (by omega) ?_)))
      rw [hx, w64 (i := (pre.length : Int) + 1) (by omega) (by omega), w64 (i := (pre.length : Int) - 1) (by omega) (by omega)]
      refine W.bindN (fun k => ringI_eq k x.1 x.2) ?_
      rw [chn_cons] at ht
      cases hr : ringB x.1 x.2
      · rw [hr] at ht
        exact W.nt rfl (W.ret (by rw [ht]; rfl))
      rw [hr] at ht
      refine W.ne rfl ?_
      have next : mtk (lastK pre) x.2 = true → W (fun k m => (impl_ValidTube.cs k m) t t (t.length : Int) ((pre.length : Int) + 1)) (· = tubeB t) := fun hm => by
        rw [hm] at ht
        have := ih (pre ++ [x]) (by simp [e]) (fun r hrm => by
          rcases List.mem_append.1 hrm with h | h
          · exact hv r h
          · simp at h; subst h; exact hr) (by rw [ht]; simp [lastK])
        rw [hp] at this; exact this
      rcases List.eq_nil_or_concat pre with rfl | ⟨q, y, rfl⟩
      · exact W.de (by simp) (next rfl)
      · rw [List.concat_eq_append] at *
        have hy : rd (0, 0) t (((q ++ [y]).length : Int) - 1) = y := by
          rw [show ((q ++ [y]).length : Int) - 1 = (q.length : Int) by simp, e, List.append_assoc]; exact rd_mid _ _ _
        have hk : lastK (q ++ [y]) = some y.2 := by simp [lastK]
        rw [hk] at ht next
        rw [hy]
        refine W.dt (by simp) (W.t (by simp) (W.t (by omega) (W.bind (meeting_w y.1 y.2 x.1 x.2 (keyB (hv y (by simp))) (keyB hr)) fun u hu => ?_)))
        rw [hu]
        cases hm : meets y.2 x.2
        · exact W.e (by simp) (next (by simp [mtk, hm]))
        · simp only [mtk, hm] at ht
          exact W.t rfl (W.ret (by rw [ht]; simp))
  exact key t [] rfl (by simp) (by simp [tubeB, lastK])
end Go.Proofs.Ytmgelocefebldaa.R

/- What the program's and the reference's functions on axes answer: validity, poses, turns, merging. -/
import Derived.Test.YtmgelocefebldaaXFnBestAxV
namespace Go.Proofs.Ytmgelocefebldaa.R
open Go.Rv Go.Rv.Ax
set_option linter.unusedVariables false
set_option linter.unusedSimpArgs false
/-! ### the reference's validity -/
theorem tl_pre {l pre rest : List Cu} {c : Cu} (e : l = pre ++ c :: rest) {j : Nat} (hj : j < c.1.toNat) : ∃ z, tl l = (tl pre ++ List.replicate j (un c)) ++ un c :: z := by
  refine ⟨List.replicate (c.1.toNat - j - 1) (un c) ++ tl rest, ?_⟩
  rw [e, tl_app, tl_cons, List.append_assoc]
  congr 1
  rw [← List.cons_append, ← List.replicate_succ, ← List.append_assoc, List.replicate_append_replicate]
  congr 2
  omega
theorem tl_full {pre : List Cu} {c : Cu} : tl (pre ++ [c]) = tl pre ++ List.replicate c.1.toNat (un c) := by rw [tl_app, tl_one]
theorem notOk {p : Po} {l pre rest : List Cu} {c : Cu} (e : l = pre ++ c :: rest) {j : Nat} (hj : j < c.1.toNat) (h : okP (nxt (endP p (tl pre ++ List.replicate j (un c))) (un c)) = false) : ¬Ok p l := by
  intro ho
  obtain ⟨z, hz⟩ := tl_pre e hj
  have := ho.2.2.2.2 (nxt (endP p (tl pre ++ List.replicate j (un c))) (un c)) (by rw [hz, scan_app]; simp [scan])
  rw [h] at this
  cases this
theorem snocOk {p : Po} {pre : List Cu} {c : Cu} {j : Nat} (h : ∀ q ∈ scan p (tl pre ++ List.replicate j (un c)), okP q = true) (hn : okP (nxt (endP p (tl pre ++ List.replicate j (un c))) (un c)) = true) : ∀ q ∈ scan p (tl pre ++ List.replicate (j + 1) (un c)), okP q = true := by
  rw [List.replicate_succ', ← List.append_assoc, scan_snoc]
  intro q hq
  rcases List.mem_append.1 hq with hq | hq
  · exact h q hq
  · simp only [List.mem_singleton] at hq; subst hq; exact hn
theorem endSucc {p : Po} {pre : List Cu} {c : Cu} {j : Nat} : nxt (endP p (tl pre ++ List.replicate j (un c))) (un c) = endP p (tl pre ++ List.replicate (j + 1) (un c)) := by
  rw [List.replicate_succ', ← List.append_assoc, endP_snoc]
theorem isRing_w {P : Bool → Prop} (p : Po) (l pre rest : List Cu) (c : Cu) (e : l = pre ++ c :: rest) (hp : okP p = true) (hc : okC c = true) (hs : 0 ≤ sumR pre ∧ sumR pre + c.1 ≤ 60) (hl : l.length ≤ 1048576)
    (bad : ¬Ok p l → P false) (next : (∀ q ∈ scan p (tl (pre ++ [c])), okP q = true) → W (fun k m => (spec_l02Is.cs k m).2.1 p.1 p.2.1 p.2.2.1 p.2.2.2 l (sumR pre + c.1) (endP p (tl (pre ++ [c]))).1 (endP p (tl (pre ++ [c]))).2.1 (endP p (tl (pre ++ [c]))).2.2.1 (endP p (tl (pre ++ [c]))).2.2.2 ((pre ++ [c]).length : Int)) P) :
    ∀ (n j : Nat), j + n = c.1.toNat → (∀ q ∈ scan p (tl pre ++ List.replicate j (un c)), okP q = true) →
    W (fun k m => (spec_l02Is.cs k m).2.2.2 p.1 p.2.1 p.2.2.1 p.2.2.2 l (sumR pre + c.1) (endP p (tl pre ++ List.replicate j (un c))).1 (endP p (tl pre ++ List.replicate j (un c))).2.1 (endP p (tl pre ++ List.replicate j (un c))).2.2.1 (endP p (tl pre ++ List.replicate j (un c))).2.2.2 (pre.length : Int) c.1 c.2.1 c.2.2 (j : Int)) P := by
  have hc' := okC_iff.1 hc
  have hlen : l.length = pre.length + (rest.length + 1) := by rw [e]; simp
  intro n
  induction n with
  | zero =>
    intro j hj h
    refine spec_l02Is.w3 (W.de (by omega) ?_)
    rw [show j = c.1.toNat by omega] at h ⊢
    have := next (by rw [tl_full]; exact h)
    rw [tl_full] at this
    rw [w64 (by omega) (by omega)]
    simpa using this
  | succ n ih =>
    intro j hj h
    refine spec_l02Is.w3 (W.dt (by omega) ?_)
    refine W.bindN (fun k => specNext_eq k (c := un c) (endP_mem _ _ h hp) hc'.2) ?_
    refine W.bindN (fun k => specPose_eq k _) ?_
    refine W.ni (fun hb => W.ret (bad (notOk e (by omega) hb))) (fun hb => ?_)
    rw [w64 (by omega) (by omega)]
    have := ih (j + 1) (by omega) (snocOk h hb)
    rw [← endSucc] at this
    simpa using this
theorem isCurves_w {P : Bool → Prop} (p : Po) (l : List Cu) (hp : okP p = true) (h8 : 1 ≤ l.length ∧ l.length ≤ 8) (bad : ¬Ok p l → P false) (good : Ok p l → P true) : ∀ (rest pre : List Cu), l = pre ++ rest → (∀ c ∈ pre, okC c = true) → sumR pre ≤ 60 → (∀ q ∈ scan p (tl pre), okP q = true) →
    W (fun k m => (spec_l02Is.cs k m).2.1 p.1 p.2.1 p.2.2.1 p.2.2.2 l (sumR pre) (endP p (tl pre)).1 (endP p (tl pre)).2.1 (endP p (tl pre)).2.2.1 (endP p (tl pre)).2.2.2 (pre.length : Int)) P := by
  intro rest
  induction rest with
  | nil =>
    intro pre e h1 h2 h3
    have e : l = pre := by simpa using e
    refine spec_l02Is.w1 (W.de (by rw [e]; omega) (W.ret (good ⟨hp, h8, ?_⟩)))
    rw [e]; exact ⟨h1, h2, h3⟩
  | cons c rest ih =>
    intro pre e h1 h2 h3
    have hlen : l.length = pre.length + (rest.length + 1) := by rw [e]; simp
    have hx : rd (0, (0, 0)) l (pre.length : Int) = c := by rw [e]; exact rd_mid _ _ _
    have hpos := sumR_pos (l := pre) fun d hd => by have := (okC_iff.1 (h1 d hd)).1; omega
    refine spec_l02Is.w1 (W.dt (by omega) (W.t (by omega) (W.t (by omega) ?_)))
    rw [hx, w64 (by omega) (by omega)]
    refine W.bindN (fun k => l00In_eq k _ _ _) ?_
    refine W.ni (fun hb => W.ret (bad fun ho => ?_)) (fun hb => ?_)
    · have hc := (ho.c (c := c) (by rw [e]; simp)).1
      have hs := ho.2.2.2.1
      have hr := sumR_pos (l := rest) fun d hd => ho.nn d (by rw [e]; simp [hd])
      rw [e, sumR_app, sumR_cons] at hs
      rw [inR_no] at hb
      omega
    have hb := inR_iff.1 hb
    refine W.bindN (fun k => specTurn_eq k _ _) ?_
    refine W.ni (fun hb => W.ret (bad fun ho => ?_)) (fun ht => ?_)
    · have := (ho.c (c := c) (by rw [e]; simp)).2
      rw [this] at hb; cases hb
    have hc : okC c = true := okC_iff.2 ⟨hb.1, ht⟩
    refine spec_l02Is.w2 ?_
    rw [w64 (by omega) (by omega)]
    have hs : sumR (pre ++ [c]) = sumR pre + c.1 := by rw [sumR_app, sumR_cons, sumR_nil]; omega
    have := isRing_w (P := P) p l pre rest c e hp hc ⟨hpos, by omega⟩ (by omega) bad (fun hq => by
      have := ih (pre ++ [c]) (by simp [e]) (fun d hd => by
        rcases List.mem_append.1 hd with hd | hd
        · exact h1 d hd
        · simp only [List.mem_singleton] at hd; subst hd; exact hc) (by omega) hq
      rw [hs] at this
      exact this) c.1.toNat 0 (by omega) (by simpa using h3)
    simpa using this
theorem specIs_w (p : Po) (l : List Cu) : W (fun k _ => spec_l02Is.f k p.1 p.2.1 p.2.2.1 p.2.2.2 l) (· = decide (Ok p l)) := by
  refine spec_l02Is.w (W.bindN (fun k => specPose_eq k _) ?_)
  refine W.ni (fun hb => W.ret ?_) (fun hp => W.bindN (fun k => l00In_eq k _ _ _) ?_)
  · symm; rw [decide_eq_false_iff_not]; intro h; rw [h.1] at hb; cases hb
  refine W.ni (fun hb => W.ret ?_) (fun h8 => ?_)
  · symm; rw [decide_eq_false_iff_not]; intro h; rw [inR_no] at hb; have := h.2.1; omega
  have h8 := inR_iff.1 h8
  refine spec_l02Is.w0 ?_
  exact isCurves_w p l hp (by omega) (fun h => by simp [h]) (fun h => by simp [h]) l [] rfl (by simp) (by simp [sumR]) (by simp [tl, scan])
/-! ### the program's poses -/
/-- what the program's poses answer -/
def posesV (p : Po) (l : List Cu) : List Po × Bool := if Ok p l then (poses p l, true) else ([], false)
theorem posesV_ok {p : Po} {l : List Cu} (h : Ok p l) : posesV p l = (poses p l, true) := if_pos h
theorem posesV_no {p : Po} {l : List Cu} (h : ¬Ok p l) : posesV p l = ([], false) := if_neg h
theorem implRing_w {P : List Po × Bool → Prop} (p : Po) (l pre rest : List Cu) (c : Cu) (e : l = pre ++ c :: rest) (hp : okP p = true) (hc : okC c = true) (hs : 0 ≤ sumR pre ∧ sumR pre + c.1 ≤ 60) (hpre : ∀ d ∈ pre, okC d = true) (hl : l.length ≤ 1048576)
    (bad : ¬Ok p l → P ([], false)) (next : (∀ q ∈ scan p (tl (pre ++ [c])), okP q = true) → W (fun k m => (impl_Axis_poses.cs k m).2.1 (poses p (pre ++ [c])) l (l.length : Int) ((pre ++ [c]).length : Int)) P) :
    ∀ (n j : Nat), j + n = c.1.toNat → (∀ q ∈ scan p (tl pre ++ List.replicate j (un c)), okP q = true) →
    W (fun k m => (impl_Axis_poses.cs k m).2.2.2 (p :: scan p (tl pre ++ List.replicate j (un c))) c.1 c.2.1 c.2.2 l (l.length : Int) (pre.length : Int) c.1 (j : Int)) P := by
  have hc' := okC_iff.1 hc
  have hlen : l.length = pre.length + (rest.length + 1) := by rw [e]; simp
  have htl := tl_length (l := pre) fun d hd => by have := (okC_iff.1 (hpre d hd)).1; omega
  intro n
  induction n with
  | zero =>
    intro j hj h
    refine impl_Axis_poses.w3 (W.de (by omega) ?_)
    rw [show j = c.1.toNat by omega] at h ⊢
    have := next (by rw [tl_full]; exact h)
    rw [poses, tl_full] at this
    rw [w64 (by omega) (by omega)]
    simpa using this
  | succ n ih =>
    intro j hj h
    obtain ⟨z, hz, hzl⟩ := last_scan p (tl pre ++ List.replicate j (un c))
    have hn : (p :: scan p (tl pre ++ List.replicate j (un c))).length = z.length + 1 := by rw [hz]; simp
    have hzj : (z.length : Int) = sumR pre + j := by rw [hzl]; simp; omega
    have ew : wrap64 (((p :: scan p (tl pre ++ List.replicate j (un c))).length : Int) - 1) = (z.length : Int) := by
      rw [hn, w64 (by omega) (by omega)]; omega
    have hx : rd (0, (0, (0, 0))) (p :: scan p (tl pre ++ List.replicate j (un c))) (z.length : Int) = endP p (tl pre ++ List.replicate j (un c)) := by rw [hz]; exact rd_mid _ _ _
    refine impl_Axis_poses.w3 (W.dt (by omega) ?_)
    rw [ew, hx, hn]
    refine W.t (by omega) (W.t (by omega) ?_)
    refine W.bindN (fun k => implNext_eq k (c := un c) (endP_mem _ _ h hp) hc'.2) ?_
    refine W.bindE (validPose_w _) ?_
    refine W.ni (fun hb => W.ret (bad (notOk e (by omega) hb))) (fun hb => W.t (by omega) ?_)
    rw [w64 (by omega) (by omega)]
    have := ih (j + 1) (by omega) (snocOk h hb)
    rw [List.replicate_succ', ← List.append_assoc, scan_snoc] at this
    simpa using this
theorem implCurves_w {P : List Po × Bool → Prop} (p : Po) (l : List Cu) (hp : okP p = true) (h8 : 1 ≤ l.length ∧ l.length ≤ 8) (bad : ¬Ok p l → P ([], false)) (good : Ok p l → P (poses p l, true)) : ∀ (rest pre : List Cu), l = pre ++ rest → (∀ c ∈ pre, okC c = true) → sumR pre ≤ 60 → (∀ q ∈ scan p (tl pre), okP q = true) →
    W (fun k m => (impl_Axis_poses.cs k m).2.1 (poses p pre) l (l.length : Int) (pre.length : Int)) P := by
  intro rest
  induction rest with
  | nil =>
    intro pre e h1 h2 h3
    have e : l = pre := by simpa using e
    subst e
    exact impl_Axis_poses.w1 (W.de (by omega) (W.ret (good ⟨hp, h8, h1, h2, h3⟩)))
  | cons c rest ih =>
    intro pre e h1 h2 h3
    have hlen : l.length = pre.length + (rest.length + 1) := by rw [e]; simp
    have hx : rd (0, (0, 0)) l (pre.length : Int) = c := by rw [e]; exact rd_mid _ _ _
    have hnn : ∀ d ∈ pre, 0 ≤ d.1 := fun d hd => by have := (okC_iff.1 (h1 d hd)).1; omega
    have hpos := sumR_pos hnn
    have htl := tl_length hnn
    have hpl := poses_length p pre
    refine impl_Axis_poses.w1 (W.dt (by omega) (W.t (by omega) (W.t (by omega) ?_)))
    rw [hx]
    refine W.bindN (fun k => within_eq k _ _ _) ?_
    have hs : Ok p l → 1 ≤ c.1 ∧ sumR pre + c.1 ≤ 60 := fun ho => by
      have hc := (ho.c (c := c) (by rw [e]; simp)).1
      have hs := ho.2.2.2.1
      have hr := sumR_pos (l := rest) fun d hd => ho.nn d (by rw [e]; simp [hd])
      rw [e, sumR_app, sumR_cons] at hs
      omega
    refine W.ni (fun hb => W.ret (bad fun ho => ?_)) (fun hb => ?_)
    · have := hs ho; rw [inR_no] at hb; omega
    have hb := inR_iff.1 hb
    refine W.bindE (isTurn_w _ _) ?_
    refine W.ni (fun hb => W.ret (bad fun ho => ?_)) (fun ht => ?_)
    · have := (ho.c (c := c) (by rw [e]; simp)).2
      rw [this] at hb; cases hb
    have hc : okC c = true := okC_iff.2 ⟨hb.1, ht⟩
    rw [w64 (by omega) (by omega)]
    refine W.di (fun hb => W.ret (bad fun ho => ?_)) (fun hb => ?_)
    · have := hs ho; omega
    refine impl_Axis_poses.w2 ?_
    have hs2 : sumR (pre ++ [c]) = sumR pre + c.1 := by rw [sumR_app, sumR_cons, sumR_nil]; omega
    have := implRing_w (P := P) p l pre rest c e hp hc ⟨hpos, by omega⟩ h1 (by omega) bad (fun hq => by
      exact ih (pre ++ [c]) (by simp [e]) (fun d hd => by
        rcases List.mem_append.1 hd with hd | hd
        · exact h1 d hd
        · simp only [List.mem_singleton] at hd; subst hd; exact hc) (by omega) hq) c.1.toNat 0 (by omega) (by simpa using h3)
    simpa [poses] using this
theorem implPoses_w (p : Po) (l : List Cu) : W (fun k _ => impl_Axis_poses.f k p.1 p.2.1 p.2.2.1 p.2.2.2 l) (· = posesV p l) := by
  refine impl_Axis_poses.w (W.bindE (validPose_w _) ?_)
  refine W.ni (fun hb => W.ret ?_) (fun hp => W.bindN (fun k => within_eq k _ _ _) ?_)
  · rw [posesV_no]; intro h; rw [h.1] at hb; cases hb
  refine W.ni (fun hb => W.ret ?_) (fun h8 => ?_)
  · rw [posesV_no]; intro h; rw [inR_no] at hb; have := h.2.1; omega
  have h8 := inR_iff.1 h8
  refine impl_Axis_poses.w0 ?_
  exact implCurves_w p l hp (by omega) (fun h => by rw [posesV_no h]) (fun h => by rw [posesV_ok h]) l [] rfl (by simp) (by simp [sumR]) (by simp [tl, scan])
end Go.Proofs.Ytmgelocefebldaa.R

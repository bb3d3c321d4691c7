/- The program's FarthestOffset answers what the reference's does, for all arguments: the plain statement. -/
import Derived.Test.YtigkpbnhdkdliaaXFnExactFarthestOffsetStS
import Derived.Test.YtigkpbnhdkdliaaRvPuFnExactFarthestOffset
namespace Go.Proofs.Ytigkpbnhdkdliaa.Pure
open Go.Rv Go.Rv.St R
set_option linter.unusedVariables false
set_option linter.unusedSimpArgs false
theorem go_mem {M H : Int} {m : Mp} : ∀ {n : Nat} {c : C} {t : Int}, t ∈ go M H m n c → -M ≤ t ∧ t ≤ M
  | n + 1, c, t, h => by
    simp only [go] at h
    split at h
    · rename_i u hu
      rcases List.mem_cons.1 h with rfl | h
      · have := (find_some hu).1
        simp only [nxo, Bool.and_eq_true, inn_iff] at this
        exact this.1
      · exact go_mem h
    · exact go_mem h
theorem planV_mem {M H : Int} {c : C} {t : Int} (h : t ∈ (planV M H c).1) : -M ≤ t ∧ t ≤ M := by
  unfold planV at h
  split at h
  · exact go_mem h
  · cases h
theorem runI_w {M H : Int} (hL : Lim M H) {c : C} (hc : ins M c = true) (ts : List Int) (hl : ts.length ≤ 40) (ht : ∀ t ∈ ts, -M ≤ t ∧ t ≤ M) : W (fun k _ => impl_RunCourse.f k M H c.1 c.2.1 c.2.2 ts) (· = runB (runV M H c ts)) := by
  have hM2 := hL.b
  refine impl_RunCourse.w (W.bindE (validI_w M H c) (W.ne (by rw [lim_iff.2 hL, hc]; rfl) (W.de (by omega) (impl_RunCourse.w0 ?_))))
  have key : ∀ (rest pre : List Int) (c : C) (acc : List C), ts = pre ++ rest → ins M c = true → acc.length = pre.length → W (fun k m => (impl_RunCourse.cs k m).2 M H c.1 c.2.1 c.2.2 acc ts (ts.length : Int) (pre.length : Int)) (· = runB ((runV M H c rest).map (acc ++ ·))) := by
    intro rest
    induction rest with
    | nil => intro pre c acc e hc ha; exact impl_RunCourse.w1 (W.de (by rw [e]; simp) (W.ret (by simp [runV, runB])))
    | cons t rest ih =>
      intro pre c acc e hc ha
      have hlen : ts.length = pre.length + (rest.length + 1) := by rw [e]; simp
      have hx : rd 0 ts (pre.length : Int) = t := by rw [e]; exact rd_mid _ _ _
      have htt := ht t (by rw [e]; simp)
      refine impl_RunCourse.w1 (W.dt (by omega) (W.t (by omega) (W.t (by omega) ?_)))
      rw [hx, w64 (i := (pre.length : Int) + 1) (by omega) (by omega)]
      refine W.bindE (nextI_w hL (small_ins hL hc) (t := t) (by omega)) ?_
      unfold nxV
      cases hq : nxo M H c t with
      | false => exact W.nt (by simp) (W.ret (by simp [runV, hq, runB]))
      | true =>
        refine W.ne rfl (W.t (by omega) ?_)
        have := ih (pre ++ [t]) (stp c t) (acc ++ [stp c t]) (by simp [e]) (nxo_ins hq) (by simp [ha])
        have e1 : ((pre ++ [t]).length : Int) = (pre.length : Int) + 1 := by simp
        rw [e1] at this
        refine this.mono fun v hv => hv.trans ?_
        simp only [runV, if_pos hq]
        cases runV M H (stp c t) rest <;> simp
  have := key ts [] c [] rfl hc rfl
  refine this.mono fun v hv => hv.trans ?_
  cases runV M H c ts <;> rfl
theorem runS_w {M H : Int} (hL : Lim M H) {c : C} (hc : ins M c = true) (ts : List Int) (hl : ts.length ≤ 40) (ht : ∀ t ∈ ts, -M ≤ t ∧ t ≤ M) : W (fun k _ => spec_l05Run.f k M H c.1 c.2.1 c.2.2 ts) (· = runB (runV M H c ts)) := by
  have hM2 := hL.b
  refine spec_l05Run.w ?_
  have key : ∀ (rest pre : List Int) (c : C) (acc : List C), ts = pre ++ rest → ins M c = true → acc.length = pre.length → W (fun k m => (spec_l05Run.cs k m) ts M H c.1 c.2.1 c.2.2 acc (pre.length : Int)) (· = runB ((runV M H c rest).map (acc ++ ·))) := by
    intro rest
    induction rest with
    | nil => intro pre c acc e hc ha; exact spec_l05Run.w0 (W.de (by rw [e]; simp) (W.ret (by simp [runV, runB])))
    | cons t rest ih =>
      intro pre c acc e hc ha
      have hlen : ts.length = pre.length + (rest.length + 1) := by rw [e]; simp
      have hx : rd 0 ts (pre.length : Int) = t := by rw [e]; exact rd_mid _ _ _
      have htt := ht t (by rw [e]; simp)
      refine spec_l05Run.w0 (W.dt (by omega) (W.t (by omega) (W.t (by omega) ?_)))
      rw [hx, w64 (i := (pre.length : Int) + 1) (by omega) (by omega)]
      refine W.bindE (nextS_w hL (small_ins hL hc) (t := t) (by omega)) ?_
      unfold nxV
      cases hq : nxo M H c t with
      | false => exact W.nt (by simp) (W.ret (by simp [runV, hq, runB]))
      | true =>
        refine W.ne rfl (W.t (by omega) ?_)
        have := ih (pre ++ [t]) (stp c t) (acc ++ [stp c t]) (by simp [e]) (nxo_ins hq) (by simp [ha])
        have e1 : ((pre ++ [t]).length : Int) = (pre.length : Int) + 1 := by simp
        rw [e1] at this
        refine this.mono fun v hv => hv.trans ?_
        simp only [runV, if_pos hq]
        cases runV M H (stp c t) rest <;> simp
  have := key ts [] c [] rfl hc rfl
  refine this.mono fun v hv => hv.trans ?_
  cases runV M H c ts <;> rfl
theorem abS_eq (k : Nat) {x : Int} (h : -100000 ≤ x ∧ x ≤ 100000) : spec_l03Abs.f k x = some (ab x) := by
  have : spec_l03Abs.f k x = (spec_l00Max.f k x (wrap64 (0 - x))).bind fun t => some t := rfl
  rw [this, w64 (by omega) (by omega)]
  unfold spec_l00Max.f ab
  by_cases h' : x < 0 - x
  · rw [if_pos h', if_neg (by simp; omega)]; rfl
  · rw [if_neg h']
    by_cases h2 : 0 - x < x
    · rw [if_pos (by simpa using h2)]; rfl
    · rw [if_neg (by simpa using h2)]
      have : x = 0 := by omega
      subst this
      rfl
theorem maxS_eq (k : Nat) (a x : Int) : spec_l00Max.f k a x = some (if a < x then x else a) := by
  unfold spec_l00Max.f
  by_cases h : x < a
  · rw [if_pos (by simpa using h), if_neg (by omega)]
  · rw [if_neg (by simpa using h)]
    by_cases h2 : a < x
    · rw [if_pos h2]
    · rw [if_neg h2, show x = a by omega]
noncomputable def farV (M H : Int) (c : C) : Int × Bool := if (limB M H && ins M c) = true then (if (planV M H c).2 = true then (far (ab c.1) (runB (runV M H c (planV M H c).1)).1, true) else (0, false)) else (0, false)
theorem runB_ins {M H : Int} {c : C} {ts : List Int} (hl : ts.length ≤ 40) : (runB (runV M H c ts)).1.length ≤ 40 ∧ ∀ d ∈ (runB (runV M H c ts)).1, ins M d = true := by
  cases h : runV M H c ts with
  | none => simp [runB]
  | some r =>
    have := runV_ins h
    exact ⟨by show r.length ≤ 40; omega, this.2⟩
theorem farI_w (M H : Int) (c : C) : W (fun k _ => impl_FarthestOffset.f k M H c.1 c.2.1 c.2.2) (· = farV M H c) := by
  refine impl_FarthestOffset.w (W.bindE (planHomeI_w M H c) ?_)
  unfold farV
  cases hv : (limB M H && ins M c) with
  | false => exact W.nt (by simp) (W.ret (by simp))
  | true =>
    simp only [if_true]
    simp only [Bool.and_eq_true] at hv
    have hL := lim_iff.1 hv.1
    have hc := ins_iff.1 hv.2
    have hpl := planV_len hL c
    have hpm : ∀ t ∈ (planV M H c).1, -M ≤ t ∧ t ≤ M := fun t h => planV_mem h
    generalize planV M H c = p at *
    refine W.ni (fun h => W.ret (by rw [h]; rfl)) (fun h => ?_)
    rw [if_pos h]
    refine W.bindN (fun k => abI_eq k (by omega)) (W.bindE (runI_w hL hv.2 p.1 hpl hpm) ?_)
    have hr := runB_ins (M := M) (H := H) (c := c) hpl
    generalize (runB (runV M H c p.1)).1 = L at *
    have key : ∀ (rest pre : List C) (a : Int), L = pre ++ rest → W (fun k m => (impl_FarthestOffset.cs k m) a L L (L.length : Int) (pre.length : Int)) (· = (far a rest, true)) := by
      intro rest
      induction rest with
      | nil => intro pre a e; exact impl_FarthestOffset.w0 (W.de (by rw [e]; simp) (W.ret rfl))
      | cons d rest ih =>
        intro pre a e
        have hlen : L.length = pre.length + (rest.length + 1) := by rw [e]; simp
        have hx : rd (0, (0, 0)) L (pre.length : Int) = d := by rw [e]; exact rd_mid _ _ _
        have hd := ins_iff.1 (hr.2 d (by rw [e]; simp))
        have hlL := hr.1
        refine impl_FarthestOffset.w0 (W.dt (by omega) (W.t (by omega) (W.t (by omega) ?_)))
        rw [hx, w64 (i := (pre.length : Int) + 1) (by omega) (by omega)]
        refine W.bindN (fun k => abI_eq k (by omega)) ?_
        have := ih (pre ++ [d]) (if a < ab d.1 then ab d.1 else a) (by simp [e])
        have e1 : ((pre ++ [d]).length : Int) = (pre.length : Int) + 1 := by simp
        rw [e1] at this
        exact this
    exact key L [] _ rfl
theorem farS_w (M H : Int) (c : C) : W (fun k _ => spec_FarthestOffset.f k M H c.1 c.2.1 c.2.2) (· = farV M H c) := by
  refine spec_FarthestOffset.w (W.bindE (isS_w M H c) ?_)
  unfold farV
  cases hv : (limB M H && ins M c) with
  | false => exact W.nt (by simp) (W.ret (by simp))
  | true =>
    refine W.ne rfl ?_
    simp only [if_true]
    simp only [Bool.and_eq_true] at hv
    have hL := lim_iff.1 hv.1
    have hc := ins_iff.1 hv.2
    have hpl := planV_len hL c
    have hpm : ∀ t ∈ (planV M H c).1, -M ≤ t ∧ t ≤ M := fun t h => planV_mem h
    refine W.bindE (planS_w hL hv.2) ?_
    generalize planV M H c = p at *
    refine W.ni (fun h => W.ret (by rw [h]; rfl)) (fun h => ?_)
    rw [if_pos h]
    refine W.bindN (fun k => abS_eq k (by omega)) (W.bindE (runS_w hL hv.2 p.1 hpl hpm) ?_)
    have hr := runB_ins (M := M) (H := H) (c := c) hpl
    generalize (runB (runV M H c p.1)).1 = L at *
    have key : ∀ (rest pre : List C) (a : Int), L = pre ++ rest → W (fun k m => (spec_FarthestOffset.cs k m) a L (pre.length : Int)) (· = (far a rest, true)) := by
      intro rest
      induction rest with
      | nil => intro pre a e; exact spec_FarthestOffset.w0 (W.de (by rw [e]; simp) (W.ret rfl))
      | cons d rest ih =>
        intro pre a e
        have hlen : L.length = pre.length + (rest.length + 1) := by rw [e]; simp
        have hx : rd (0, (0, 0)) L (pre.length : Int) = d := by rw [e]; exact rd_mid _ _ _
        have hd := ins_iff.1 (hr.2 d (by rw [e]; simp))
        have hlL := hr.1
        refine spec_FarthestOffset.w0 (W.dt (by omega) (W.t (by omega) (W.t (by omega) ?_)))
        rw [hx, w64 (i := (pre.length : Int) + 1) (by omega) (by omega)]
        refine W.bindN (fun k => abS_eq k (by omega)) (W.bindN (fun k => maxS_eq k _ _) ?_)
        have := ih (pre ++ [d]) (if a < ab d.1 then ab d.1 else a) (by simp [e])
        have e1 : ((pre ++ [d]).length : Int) = (pre.length : Int) + 1 := by simp
        rw [e1] at this
        exact this
    exact key L [] _ rfl
theorem FnExactFarthestOffset : PureFnExactFarthestOffset := by
  rintro ⟨M, H⟩ ⟨o, h, t⟩ _ _
  show ∃ k, laws_FnExactFarthestOffset.f k M H o h t = some true
  refine W.yes (laws_FnExactFarthestOffset.w (W.bindN (fun k => rfl) (W.bindN (fun k => rfl) (W.bindE (farS_w M H (o, h, t)) (W.bindN (fun k => rfl) (W.bindN (fun k => rfl) (W.bindE (farI_w M H (o, h, t)) ?_)))))))
  exact W.e (by simp) (W.e (by simp) (W.ret rfl))
end Go.Proofs.Ytigkpbnhdkdliaa.Pure

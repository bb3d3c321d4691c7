/- Axes: plain words on lists of poses and curves. No program. -/
import Derived.Test.YtmgelocefebldaaRvM6
namespace Go.Rv.Ax
set_option linter.unusedVariables false
set_option linter.unusedSimpArgs false
/-- a pose: side, height, yaw, pitch -/
abbrev Po := Int × Int × Int × Int
/-- a curve: rings, bend, rise -/
abbrev Cu := Int × Int × Int
def inR (lo hi x : Int) : Bool := decide (lo ≤ x) && decide (x ≤ hi)
theorem inR_iff {lo hi x : Int} : inR lo hi x = true ↔ lo ≤ x ∧ x ≤ hi := by simp [inR]
theorem inR_no {lo hi x : Int} : inR lo hi x = false ↔ ¬(lo ≤ x ∧ x ≤ hi) := by rw [← Bool.not_eq_true, inR_iff]
def okP (p : Po) : Bool := inR (-100000) 100000 p.1 && (inR (-100000) 100000 p.2.1 && (inR (-400) 400 p.2.2.1 && inR (-400) 400 p.2.2.2))
theorem okP_iff {p : Po} : okP p = true ↔ (-100000 ≤ p.1 ∧ p.1 ≤ 100000) ∧ (-100000 ≤ p.2.1 ∧ p.2.1 ≤ 100000) ∧ (-400 ≤ p.2.2.1 ∧ p.2.2.1 ≤ 400) ∧ (-400 ≤ p.2.2.2 ∧ p.2.2.2 ≤ 400) := by
  simp only [okP, Bool.and_eq_true, inR_iff]
def okT (b r : Int) : Bool := inR (-12) 12 b && inR (-12) 12 r
theorem okT_iff {b r : Int} : okT b r = true ↔ (-12 ≤ b ∧ b ≤ 12) ∧ (-12 ≤ r ∧ r ≤ 12) := by simp only [okT, Bool.and_eq_true, inR_iff]
def nxt (p : Po) (c : Cu) : Po := (p.1 + p.2.2.1, p.2.1 + p.2.2.2, p.2.2.1 + c.2.1, p.2.2.2 + c.2.2)
/-- the poses behind p along unit turns -/
def scan (p : Po) : List Cu → List Po
  | [] => []
  | c :: l => nxt p c :: scan (nxt p c) l
def endP (p : Po) (l : List Cu) : Po := l.foldl nxt p
theorem scan_app (p : Po) (a b : List Cu) : scan p (a ++ b) = scan p a ++ scan (endP p a) b := by
  induction a generalizing p with
  | nil => rfl
  | cons c a ih => simp only [List.cons_append, scan, ih]; rfl
theorem endP_app (p : Po) (a b : List Cu) : endP p (a ++ b) = endP (endP p a) b := List.foldl_append
theorem scan_snoc (p : Po) (a : List Cu) (c : Cu) : scan p (a ++ [c]) = scan p a ++ [nxt (endP p a) c] := by rw [scan_app]; rfl
theorem endP_snoc (p : Po) (a : List Cu) (c : Cu) : endP p (a ++ [c]) = nxt (endP p a) c := by rw [endP_app]; rfl
theorem scan_length (p : Po) (l : List Cu) : (scan p l).length = l.length := by
  induction l generalizing p with
  | nil => rfl
  | cons c l ih => simp [scan, ih]
theorem endP_mem (p : Po) (l : List Cu) (h : ∀ q ∈ scan p l, okP q = true) (hp : okP p = true) : okP (endP p l) = true := by
  rcases List.eq_nil_or_concat l with rfl | ⟨a, c, rfl⟩
  · exact hp
  · rw [List.concat_eq_append] at *
    rw [endP_snoc]
    exact h _ (by rw [scan_snoc]; simp)
theorem last_scan (p : Po) (l : List Cu) : ∃ pre, p :: scan p l = pre ++ [endP p l] ∧ pre.length = l.length := by
  rcases List.eq_nil_or_concat l with rfl | ⟨a, c, rfl⟩
  · exact ⟨[], rfl, rfl⟩
  · rw [List.concat_eq_append]
    exact ⟨p :: scan p a, by rw [endP_snoc, scan_snoc]; simp, by simp [scan_length]⟩
/-- the turns of curves, one ring each -/
def un (c : Cu) : Cu := (1, c.2.1, c.2.2)
def tl (l : List Cu) : List Cu := l.flatMap fun c => List.replicate c.1.toNat (un c)
theorem tl_app (a b : List Cu) : tl (a ++ b) = tl a ++ tl b := by simp [tl]
theorem tl_cons (c : Cu) (l : List Cu) : tl (c :: l) = List.replicate c.1.toNat (un c) ++ tl l := rfl
theorem tl_one (c : Cu) : tl [c] = List.replicate c.1.toNat (un c) := by simp [tl]
def sumR (l : List Cu) : Int := (l.map fun c => c.1).sum
theorem sumR_app (a b : List Cu) : sumR (a ++ b) = sumR a + sumR b := by simp [sumR]
theorem sumR_cons (c : Cu) (l : List Cu) : sumR (c :: l) = c.1 + sumR l := by simp [sumR]
theorem sumR_nil : sumR [] = 0 := rfl
theorem sumR_pos {l : List Cu} (h : ∀ c ∈ l, 0 ≤ c.1) : 0 ≤ sumR l := by
  induction l with
  | nil => simp [sumR]
  | cons c l ih => rw [sumR_cons]; have := h c (by simp); have := ih fun d hd => h d (by simp [hd]); omega
theorem sumR_mem {l : List Cu} (h : ∀ c ∈ l, 0 ≤ c.1) {c : Cu} (hc : c ∈ l) : c.1 ≤ sumR l := by
  induction l with
  | nil => cases hc
  | cons d l ih =>
    rw [sumR_cons]
    have h1 := h d (by simp)
    have h2 := sumR_pos (l := l) fun e he => h e (by simp [he])
    rcases List.mem_cons.1 hc with rfl | hc
    · omega
    · have := ih (fun e he => h e (by simp [he])) hc; omega
theorem tl_length {l : List Cu} (h : ∀ c ∈ l, 0 ≤ c.1) : ((tl l).length : Int) = sumR l := by
  induction l with
  | nil => rfl
  | cons c l ih =>
    rw [tl_cons, sumR_cons, ← ih fun d hd => h d (by simp [hd])]
    have := h c (by simp)
    simp; omega
def okC (c : Cu) : Bool := decide (1 ≤ c.1) && okT c.2.1 c.2.2
theorem okC_iff {c : Cu} : okC c = true ↔ 1 ≤ c.1 ∧ okT c.2.1 c.2.2 = true := by simp [okC]
/-- a valid axis -/
def Ok (p : Po) (l : List Cu) : Prop := okP p = true ∧ (1 ≤ l.length ∧ l.length ≤ 8) ∧ (∀ c ∈ l, okC c = true) ∧ sumR l ≤ 60 ∧ ∀ q ∈ scan p (tl l), okP q = true
instance (p : Po) (l : List Cu) : Decidable (Ok p l) := by unfold Ok; infer_instance
theorem Ok.c {p : Po} {l : List Cu} (h : Ok p l) {c : Cu} (hc : c ∈ l) : 1 ≤ c.1 ∧ okT c.2.1 c.2.2 = true := okC_iff.1 (h.2.2.1 c hc)
theorem Ok.nn {p : Po} {l : List Cu} (h : Ok p l) : ∀ c ∈ l, 0 ≤ c.1 := fun c hc => by have := (h.c hc).1; omega
theorem Ok.len {p : Po} {l : List Cu} (h : Ok p l) : 1 ≤ (tl l).length ∧ (tl l).length ≤ 60 := by
  have h1 := tl_length h.nn
  have h2 := h.2.2.2.1
  obtain ⟨⟨h3, _⟩, _⟩ := h.2
  cases l with
  | nil => simp at h3
  | cons c l =>
    have := (h.c (c := c) (by simp)).1
    rw [sumR_cons] at h1 h2
    have := sumR_pos (l := l) fun e he => h.nn e (by simp [he])
    omega
/-- the poses of an axis -/
def poses (p : Po) (l : List Cu) : List Po := p :: scan p (tl l)
theorem Ok.poses {p : Po} {l : List Cu} (h : Ok p l) : ∀ q ∈ poses p l, okP q = true := by
  intro q hq
  rcases List.mem_cons.1 hq with rfl | hq
  · exact h.1
  · exact h.2.2.2.2 q hq
theorem poses_length (p : Po) (l : List Cu) : (poses p l).length = (tl l).length + 1 := by simp [poses, scan_length]
/-! ### merging -/
def mstep (acc : List Cu) (c : Cu) : List Cu := match acc.getLast? with
  | none => [c]
  | some d => if d.2 = c.2 then acc.dropLast ++ [(d.1 + c.1, d.2)] else acc ++ [c]
theorem mstep_nil (c : Cu) : mstep [] c = [c] := rfl
theorem mstep_snoc (i : List Cu) (d c : Cu) : mstep (i ++ [d]) c = if d.2 = c.2 then i ++ [(d.1 + c.1, d.2)] else i ++ [d] ++ [c] := by simp [mstep]
def merge (l : List Cu) : List Cu := l.foldl mstep []
theorem mstep_length (acc : List Cu) (c : Cu) : (mstep acc c).length ≤ acc.length + 1 := by
  rcases List.eq_nil_or_concat acc with rfl | ⟨i, d, rfl⟩
  · simp [mstep_nil]
  · rw [List.concat_eq_append, mstep_snoc]; split <;> simp
theorem merge_length (l : List Cu) : (merge l).length ≤ l.length := by
  have : ∀ (l acc : List Cu), (l.foldl mstep acc).length ≤ acc.length + l.length := by
    intro l
    induction l with
    | nil => intro acc; simp
    | cons c l ih => intro acc; have h1 := ih (mstep acc c); have h2 := mstep_length acc c; simp only [List.foldl_cons, List.length_cons]; omega
  simpa [merge] using this l []
theorem un_eq {c d : Cu} (h : d.2 = c.2) : un c = un d := by unfold un; rw [h]
theorem mstep_spec (acc : List Cu) (c : Cu) (ha : ∀ d ∈ acc, 0 ≤ d.1) (hc : 0 ≤ c.1) : tl (mstep acc c) = tl acc ++ tl [c] ∧ (∀ d ∈ mstep acc c, 0 ≤ d.1) ∧ sumR (mstep acc c) = sumR acc + c.1 := by
  rcases List.eq_nil_or_concat acc with rfl | ⟨i, d, rfl⟩
  · refine ⟨rfl, fun d hd => ?_, by simp [mstep_nil, sumR]⟩
    simp only [mstep_nil, List.mem_singleton] at hd; subst hd; exact hc
  · rw [List.concat_eq_append] at *
    rw [mstep_snoc]
    have hd := ha d (by simp)
    split
    · rename_i e
      refine ⟨?_, fun x hx => ?_, by simp [sumR]; omega⟩
      · rw [tl_app, tl_app, tl_one, tl_one, tl_one, List.append_assoc]
        congr 1
        have : (d.1 + c.1).toNat = d.1.toNat + c.1.toNat := by omega
        simp only [this, ← List.replicate_append_replicate]
        rw [un_eq e]
        rfl
      · rcases List.mem_append.1 hx with hx | hx
        · exact ha x (by simp [hx])
        · simp only [List.mem_singleton] at hx; subst hx; simp only; omega
    · refine ⟨by rw [tl_app], fun x hx => ?_, by simp [sumR]; omega⟩
      rcases List.mem_append.1 hx with hx | hx
      · exact ha x hx
      · simp only [List.mem_singleton] at hx; subst hx; exact hc
theorem fold_spec : ∀ (l acc : List Cu), (∀ d ∈ acc, 0 ≤ d.1) → (∀ d ∈ l, 0 ≤ d.1) → tl (l.foldl mstep acc) = tl acc ++ tl l ∧ (∀ d ∈ l.foldl mstep acc, 0 ≤ d.1) ∧ sumR (l.foldl mstep acc) = sumR acc + sumR l
  | [], acc, ha, _ => ⟨by simp [tl], ha, by simp [sumR]⟩
  | c :: l, acc, ha, hl => by
    obtain ⟨h1, h2, h3⟩ := mstep_spec acc c ha (hl c (by simp))
    obtain ⟨i1, i2, i3⟩ := fold_spec l (mstep acc c) h2 fun d hd => hl d (by simp [hd])
    refine ⟨?_, i2, ?_⟩
    · rw [List.foldl_cons, i1, h1, List.append_assoc, ← tl_app]; rfl
    · rw [List.foldl_cons, i3, h3, sumR_cons]; omega
theorem tl_merge (l : List Cu) (h : ∀ d ∈ l, 0 ≤ d.1) : tl (merge l) = tl l := by simpa [merge, tl] using (fold_spec l [] (by simp) h).1
theorem merge_nn (l : List Cu) (h : ∀ d ∈ l, 0 ≤ d.1) : ∀ d ∈ merge l, 0 ≤ d.1 := (fold_spec l [] (by simp) h).2.1
theorem sumR_merge (l : List Cu) (h : ∀ d ∈ l, 0 ≤ d.1) : sumR (merge l) = sumR l := by simpa [merge, sumR] using (fold_spec l [] (by simp) h).2.2
/-- what every curve of a merged list has of the curves that were merged -/
theorem merge_all (Q : Cu → Prop) (h0 : ∀ c d : Cu, Q c → Q d → c.2 = d.2 → Q (c.1 + d.1, c.2)) (l : List Cu) (h : ∀ d ∈ l, Q d) : ∀ d ∈ merge l, Q d := by
  have step : ∀ acc c, (∀ d ∈ acc, Q d) → Q c → ∀ d ∈ mstep acc c, Q d := by
    intro acc c ha hc d hd
    rcases List.eq_nil_or_concat acc with rfl | ⟨i, e, rfl⟩
    · simp only [mstep_nil, List.mem_singleton] at hd; subst hd; exact hc
    · rw [List.concat_eq_append] at *
      rw [mstep_snoc] at hd
      split at hd
      · rename_i e2
        rcases List.mem_append.1 hd with hd | hd
        · exact ha d (by simp [hd])
        · simp only [List.mem_singleton] at hd; subst hd; exact h0 e c (ha e (by simp)) hc e2
      · rcases List.mem_append.1 hd with hd | hd
        · exact ha d hd
        · simp only [List.mem_singleton] at hd; subst hd; exact hc
  have : ∀ (l acc : List Cu), (∀ d ∈ acc, Q d) → (∀ d ∈ l, Q d) → ∀ d ∈ l.foldl mstep acc, Q d := by
    intro l
    induction l with
    | nil => intro acc ha _; exact ha
    | cons c l ih => intro acc ha hl; exact ih _ (step acc c ha (hl c (by simp))) fun d hd => hl d (by simp [hd])
  exact this l [] (by simp) h
theorem tl_unit : ∀ (l : List Cu), (∀ c ∈ l, c.1 = 1) → tl l = l
  | [], _ => rfl
  | c :: l, h => by
    have h1 := h c (by simp)
    rw [tl_cons, tl_unit l fun d hd => h d (by simp [hd]), h1]
    obtain ⟨a, b, d⟩ := c
    simp only at h1
    subst h1
    rfl
theorem un_tl (l : List Cu) : ∀ c ∈ tl l, c.1 = 1 := by
  intro c hc
  simp only [tl, List.mem_flatMap, List.mem_replicate] at hc
  obtain ⟨d, _, _, rfl⟩ := hc
  rfl
theorem okT_tl {p : Po} {l : List Cu} (h : Ok p l) : ∀ c ∈ tl l, okT c.2.1 c.2.2 = true := by
  intro c hc
  simp only [tl, List.mem_flatMap, List.mem_replicate] at hc
  obtain ⟨d, hd, _, rfl⟩ := hc
  exact (h.c hd).2
theorem sumR_one : ∀ (l : List Cu), (∀ c ∈ l, c.1 = 1) → sumR l = l.length
  | [], _ => rfl
  | c :: l, h => by rw [sumR_cons, sumR_one l fun d hd => h d (by simp [hd]), h c (by simp)]; simp; omega
/-! ### the axis of poses -/
/-- the turns between poses -/
def turns : Po → List Po → List Cu
  | _, [] => []
  | p, q :: l => (1, q.2.2.1 - p.2.2.1, q.2.2.2 - p.2.2.2) :: turns q l
theorem turns_length : ∀ (l : List Po) (p : Po), (turns p l).length = l.length
  | [], _ => rfl
  | q :: l, p => by simp [turns, turns_length l q]
theorem turns_one : ∀ (l : List Po) (p : Po), ∀ c ∈ turns p l, c.1 = 1
  | [], p, c, hc => by cases hc
  | q :: l, p, c, hc => by
    rcases List.mem_cons.1 hc with rfl | hc
    · rfl
    · exact turns_one l q c hc
theorem turns_scan : ∀ (l : List Cu) (p : Po), (∀ c ∈ l, c.1 = 1) → turns p (scan p l) = l
  | [], _, _ => rfl
  | c :: l, p, h => by
    have h1 := h c (by simp)
    obtain ⟨a, b, d⟩ := c
    simp only at h1
    subst h1
    simp only [scan, turns, turns_scan l _ fun d hd => h d (by simp [hd])]
    congr 1
    simp only [nxt, Prod.mk.injEq, true_and]
    omega
/-- each pose is valid and the next one of the pose before it -/
def Stp : Po → List Po → Prop
  | _, [] => True
  | p, q :: l => okP q = true ∧ okT (q.2.2.1 - p.2.2.1) (q.2.2.2 - p.2.2.2) = true ∧ nxt p (1, q.2.2.1 - p.2.2.1, q.2.2.2 - p.2.2.2) = q ∧ Stp q l
theorem steps_iff : ∀ (l : List Po) (p : Po), Stp p l ↔ (scan p (turns p l) = l ∧ (∀ q ∈ l, okP q = true) ∧ ∀ c ∈ turns p l, okT c.2.1 c.2.2 = true)
  | [], p => by simp [Stp, scan, turns]
  | q :: l, p => by
    simp only [Stp, steps_iff l q, turns, scan, List.cons.injEq, List.mem_cons, forall_eq_or_imp]
    constructor
    · rintro ⟨h1, h2, h3, h4, h5, h6⟩
      exact ⟨⟨h3, by rw [h3]; exact h4⟩, ⟨h1, h5⟩, h2, h6⟩
    · rintro ⟨⟨h3, h4⟩, ⟨h1, h5⟩, h2, h6⟩
      rw [h3] at h4
      exact ⟨h1, h2, h3, h4, h5, h6⟩
/-- what AxisOf finds -/
def Of (p : Po) (l : List Po) : Prop := Ok p (merge (turns p l)) ∧ Stp p l
theorem of_iff (p : Po) (l : List Po) (hl : l.length ≤ 60) (hok : ∀ q ∈ l, okP q = true) : Of p l ↔ Ok p (merge (turns p l)) ∧ poses p (merge (turns p l)) = p :: l := by
  have h1 := turns_one l p
  have ht : tl (merge (turns p l)) = turns p l := by
    rw [tl_merge _ fun c hc => by rw [h1 c hc]; omega, tl_unit _ h1]
  unfold Of
  constructor
  · rintro ⟨ha, hs⟩
    refine ⟨ha, ?_⟩
    unfold poses
    rw [ht, ((steps_iff l p).1 hs).1]
  · rintro ⟨ha, hs⟩
    refine ⟨ha, (steps_iff l p).2 ⟨?_, hok, fun c hc => ?_⟩⟩
    · unfold poses at hs
      rw [ht] at hs
      exact (List.cons.inj hs).2
    · rw [← ht] at hc
      exact okT_tl ha c hc
end Go.Rv.Ax

/- The search for the best tube, as a plain function. -/
import Derived.Test.YtmgelocefebldaaXFnBestNxtM
import Derived.Test.YtmgelocefebldaaXFnBestOffs
namespace Go.Proofs.Ytmgelocefebldaa.R
open Go.Rv Go.Rv.Ax
set_option linter.unusedVariables false
set_option linter.unusedSimpArgs false
abbrev zP : Po := (0, (0, (0, 0)))
/-! ### the sum of squares, ring by ring -/
def sqd (q g : Po) : Int := (q.1 - g.1) * (q.1 - g.1) + (q.2.1 - g.2.1) * (q.2.1 - g.2.1)
theorem msq (a : Int) : 0 ≤ a * a := by
  rcases Int.le_total 0 a with h | h
  · exact Int.mul_nonneg h h
  · rw [← Int.neg_mul_neg]; exact Int.mul_nonneg (by omega) (by omega)
theorem sqd_pos (q g : Po) : 0 ≤ sqd q g := by
  have h1 := msq (q.1 - g.1)
  have h2 := msq (q.2.1 - g.2.1)
  unfold sqd; omega
def runT (G : List Po) : Nat → Po → Int → List Ri → Option Int
  | _, _, s, [] => some s
  | n, p, s, r :: t => if okP (nxt p (cuOf r)) then runT G (n + 1) (nxt p (cuOf r)) (s + sqd (nxt p (cuOf r)) (rd zP G (n : Int))) t else none
theorem runT_le {G : List Po} : ∀ (t : List Ri) {n : Nat} {p : Po} {s v : Int}, runT G n p s t = some v → s ≤ v
  | [], n, p, s, v, h => by simp only [runT, Option.some.injEq] at h; omega
  | r :: t, n, p, s, v, h => by
    rw [runT] at h
    split at h
    · have := runT_le t h
      have := sqd_pos (nxt p (cuOf r)) (rd zP G (n : Int))
      omega
    · cases h
/-- the pose and the sum behind a tube -/
def runP (G : List Po) : Nat → Po → Int → List Ri → Option (Po × Int)
  | _, p, s, [] => some (p, s)
  | n, p, s, r :: t => if okP (nxt p (cuOf r)) then runP G (n + 1) (nxt p (cuOf r)) (s + sqd (nxt p (cuOf r)) (rd zP G (n : Int))) t else none
theorem runT_app {G : List Po} : ∀ (t x : List Ri) {n : Nat} {p q : Po} {s v : Int}, runP G n p s t = some (q, v) → runT G n p s (t ++ x) = runT G (n + t.length) q v x
  | [], x, n, p, q, s, v, h => by
    simp only [runP, Option.some.injEq, Prod.mk.injEq] at h
    obtain ⟨rfl, rfl⟩ := h
    rfl
  | r :: t, x, n, p, q, s, v, h => by
    rw [runP] at h
    rw [List.cons_append, runT]
    split at h
    · rename_i hk
      rw [if_pos hk, runT_app t x h, List.length_cons, show n + 1 + t.length = n + (t.length + 1) by omega]
    · cases h
theorem runP_snoc {G : List Po} : ∀ (t : List Ri) (r : Ri) {n : Nat} {p q : Po} {s v : Int}, runP G n p s t = some (q, v) → okP (nxt q (cuOf r)) = true → runP G n p s (t ++ [r]) = some (nxt q (cuOf r), v + sqd (nxt q (cuOf r)) (rd zP G ((n + t.length : Nat) : Int)))
  | [], r, n, p, q, s, v, h, hk => by
    simp only [runP, Option.some.injEq, Prod.mk.injEq] at h
    obtain ⟨rfl, rfl⟩ := h
    simp only [List.nil_append, runP, hk, if_true]; rfl
  | y :: t, r, n, p, q, s, v, h, hk => by
    rw [runP] at h
    rw [List.cons_append, runP]
    split at h
    · rename_i hy
      rw [if_pos hy, runP_snoc t r h hk, List.length_cons, show n + 1 + t.length = n + (t.length + 1) by omega]
    · cases h
theorem runT_P {G : List Po} : ∀ (t : List Ri) {n : Nat} {p : Po} {s : Int}, runT G n p s t = (runP G n p s t).map (·.2)
  | [], n, p, s => rfl
  | r :: t, n, p, s => by
    rw [runT, runP]
    split
    · exact runT_P t
    · rfl
theorem sq1_off (own ax : List Po) (b : Int) (i : Nat) : sq1 (off own ax b i) = sqd (rd zP own ((i : Int) + 1)) (rd zP ax (b + (i : Int) + 1)) := rfl
theorem tgo_run {ax G : List Po} {b : Int} (hG : ∀ j : Nat, rd zP G (j : Int) = rd zP ax (b + (j : Int) + 1)) : ∀ (t : List Ri) (acc : List Po) (q : Po) (S : Int) (i : Nat), acc.length = i + 1 →
    (tgo acc q t).2 = (runT G i q S t).isSome ∧ ((tgo acc q t).2 = true → (∃ post, (tgo acc q t).1 = acc ++ post) ∧ runT G i q S t = some (S + sqs ((List.range' i t.length).map (off (tgo acc q t).1 ax b))))
  | [], acc, q, S, i, hl => ⟨rfl, fun _ => ⟨⟨[], by simp [tgo]⟩, by simp [runT, sqs]⟩⟩
  | r :: t, acc, q, S, i, hl => by
    rw [tgo, runT]
    cases hk : okP (nxt q (cuOf r))
    · exact ⟨rfl, fun h => by cases h⟩
    · simp only [if_true]
      obtain ⟨h1, h2⟩ := tgo_run hG t (acc ++ [nxt q (cuOf r)]) (nxt q (cuOf r)) (S + sqd (nxt q (cuOf r)) (rd zP G (i : Int))) (i + 1) (by simp; omega)
      refine ⟨h1, fun h => ?_⟩
      obtain ⟨⟨post, e⟩, h3⟩ := h2 h
      refine ⟨⟨nxt q (cuOf r) :: post, by rw [e]; simp⟩, ?_⟩
      rw [h3, List.length_cons, List.range'_succ, List.map_cons, sqs, sq1_off, e]
      have hx : rd zP (acc ++ [nxt q (cuOf r)] ++ post) ((i : Int) + 1) = nxt q (cuOf r) := by
        rw [show ((i : Int) + 1) = (acc.length : Int) by omega, List.append_assoc, List.singleton_append]
        exact rd_mid _ _ _
      rw [hx, ← hG i, Int.add_assoc]
/-- what a tube costs: the sum of its squares, if its poses are valid -/
def costT (G : List Po) (s : Po) (t : List Ri) : Option Int := runT G 0 s 0 t
def costV : Option Int → Int × Bool
  | some v => (v, true)
  | none => (0, false)
theorem sqV_run {p : Po} {l : List Cu} {b : Int} {s : Po} {t : List Ri} {G : List Po} (h : Ok p l) (hs : okP s = true) (hb : 0 ≤ b) (hbt : b + (t.length : Int) ≤ ((tl l).length : Int)) (ht : tubeB t = true)
    (hG : ∀ j : Nat, rd zP G (j : Int) = rd zP (poses p l) (b + (j : Int) + 1)) : sqV p l b s t = costV (costT G s t) := by
  have e : tubePV s t = tgo [s] s t := by unfold tubePV tubeP; rw [ht, hs]; rfl
  obtain ⟨h1, h2⟩ := tgo_run (ax := poses p l) (b := b) hG t [s] s 0 0 rfl
  rw [← e] at h1 h2
  unfold sqV costT
  cases hv : (tubePV s t).2
  · rw [hv] at h1
    have hn : runT G 0 s 0 t = none := by
      cases hr : runT G 0 s 0 t with
      | none => rfl
      | some v => rw [hr] at h1; cases h1
    rw [hn]
    have ho : offV p l b s t = ([], false) := by
      unfold offV
      rw [if_neg]
      intro hk
      rw [okOff_iff, hv] at hk
      cases hk.2.1
    rw [ho]; rfl
  · obtain ⟨_, h3⟩ := h2 hv
    rw [h3]
    have ho : offV p l b s t = (offL (tubePV s t).1 (poses p l) b t.length, true) := by
      unfold offV
      rw [if_pos (okOff_iff.2 ⟨h, hv, hb, hbt⟩)]
    rw [ho]
    simp only [if_true, Int.zero_add, offL, List.range_eq_range', costV]
/-! ### the search -/
abbrev SB := Bool × Int × List Ri
def upS (cost : List Ri → Option Int) (s : SB) (t : List Ri) : SB := match cost t with
  | some v => if s.1 = true ∧ s.2.1 ≤ v then s else (true, v, t)
  | none => s
def rowR (kd ky : Int) (m : Nat) : List Ri := (List.range m).map fun (j : Nat) => ((kd, ky + (j : Int)) : Ri)
theorem rowR_zero (kd ky : Int) : rowR kd ky 0 = [] := rfl
theorem rowR_succ (kd ky : Int) (m : Nat) : rowR kd ky (m + 1) = (kd, ky) :: rowR kd (ky + 1) m := by
  unfold rowR
  rw [List.range_succ_eq_map, List.map_cons, List.map_map]
  congr 1
  · simp
  · apply List.map_congr_left
    intro j _
    simp only [Function.comp, Prod.mk.injEq, true_and]
    omega
def stpS (go : Int → List Ri → SB → SB) (b : Int) (t : List Ri) (s : SB) (r : Ri) : SB := if meets b r.2 = true then s else go r.2 (t ++ [r]) s
def srch (cost : List Ri → Option Int) : Nat → Int → List Ri → SB → SB
  | 0, _, t, s => upS cost s t
  | d + 1, b, t, s => (rowR 0 0 16 ++ rowR 1 0 16).foldl (stpS (srch cost d) b t) s
theorem foldl_fix {α β : Type} {f : α → β → α} {s : α} : ∀ (l : List β), (∀ r ∈ l, f s r = s) → l.foldl f s = s
  | [], _ => rfl
  | r :: l, h => by rw [List.foldl_cons, h r List.mem_cons_self]; exact foldl_fix l fun x hx => h x (List.mem_cons_of_mem _ hx)
/-- nothing is found where all costs as much as is found already -/
theorem srch_none {cost : List Ri → Option Int} : ∀ (d : Nat) (b : Int) (t : List Ri) (s : SB), (∀ (x : List Ri) (v : Int), x.length = d → cost (t ++ x) = some v → s.1 = true ∧ s.2.1 ≤ v) → srch cost d b t s = s
  | 0, b, t, s, h => by
    unfold srch upS
    cases hc : cost t with
    | none => rfl
    | some v => simp only; rw [if_pos (h [] v rfl (by simpa using hc))]
  | d + 1, b, t, s, h => by
    unfold srch
    refine foldl_fix _ fun r _ => ?_
    unfold stpS
    split
    · rfl
    · exact srch_none d _ _ s fun x v hx hv => h (r :: x) v (by simp; omega) (by simpa using hv)
/-- what is found has the length, follows the ring, and costs what is told -/
structure Fnd (cost : List Ri → Option Int) (b : Int) (c : Nat) (s : SB) : Prop where
  yes : s.1 = true → s.2.2.length = c ∧ chn (some b) s.2.2 = true ∧ cost s.2.2 = some s.2.1
  no : s.1 = false → s.2 = (0, [])
theorem mem_rows {r : Ri} (h : r ∈ rowR 0 0 16 ++ rowR 1 0 16) : ringB r.1 r.2 = true := by
  simp only [rowR, List.mem_append, List.mem_map, List.mem_range] at h
  simp only [ringB, Bool.and_eq_true, inR_iff]
  rcases h with ⟨j, hj, rfl⟩ | ⟨j, hj, rfl⟩
  · constructor <;> constructor <;> simp only <;> omega
  · constructor <;> constructor <;> simp only <;> omega
theorem mem_rowsT {r : Ri} (h : ringB r.1 r.2 = true) : r ∈ rowR 0 0 16 ++ rowR 1 0 16 := by
  simp only [ringB, Bool.and_eq_true, inR_iff] at h
  obtain ⟨r1, r2⟩ := r
  simp only at h
  simp only [rowR, List.mem_append, List.mem_map, List.mem_range, Prod.mk.injEq]
  rcases (show r1 = 0 ∨ r1 = 1 by omega) with e | e
  · exact .inl ⟨r2.toNat, by omega, by omega, by omega⟩
  · exact .inr ⟨r2.toNat, by omega, by omega, by omega⟩
theorem srch_fnd {cost : List Ri → Option Int} {b : Int} {c : Nat} : ∀ (d : Nat) (l : Int) (t : List Ri) (s : SB), t.length + d = c → chn (some b) t = true → lastOr (some b) t = some l → Fnd cost b c s → Fnd cost b c (srch cost d l t s)
  | 0, l, t, s, hl, ht, hq, hs => by
    unfold srch upS
    cases hc : cost t with
    | none => exact hs
    | some v =>
      simp only
      split
      · exact hs
      · exact ⟨fun _ => ⟨by simp only; omega, ht, hc⟩, fun e => by cases e⟩
  | d + 1, l, t, s, hl, ht, hq, hs => by
    unfold srch
    have key : ∀ (L : List Ri), (∀ r ∈ L, ringB r.1 r.2 = true) → ∀ s, Fnd cost b c s → Fnd cost b c (L.foldl (stpS (srch cost d) l t) s) := by
      intro L
      induction L with
      | nil => intro _ s hs; exact hs
      | cons r L ih =>
        intro hL s hs
        rw [List.foldl_cons]
        refine ih (fun x hx => hL x (List.mem_cons_of_mem _ hx)) _ ?_
        unfold stpS
        split
        · exact hs
        · rename_i hm
          exact srch_fnd d _ _ s (by simp; omega) (chn_snoc t (some b) r ht (hL r List.mem_cons_self) (by rw [hq]; simp only [mtk]; simpa using hm)) (lastOr_snoc t _ r) hs
    exact key _ (fun r hr => mem_rows hr) s hs
def LeB (s s' : SB) : Prop := s.1 = true → s'.1 = true ∧ s'.2.1 ≤ s.2.1
theorem LeB.refl (s : SB) : LeB s s := fun h => ⟨h, Int.le_refl _⟩
theorem LeB.trans {a b c : SB} (h : LeB a b) (h' : LeB b c) : LeB a c := fun e => ⟨(h' (h e).1).1, Int.le_trans (h' (h e).1).2 (h e).2⟩
theorem srch_le {cost : List Ri → Option Int} : ∀ (d : Nat) (l : Int) (t : List Ri) (s : SB), LeB s (srch cost d l t s)
  | 0, l, t, s => by
    unfold srch upS
    cases hc : cost t with
    | none => exact LeB.refl s
    | some v =>
      simp only
      split
      · exact LeB.refl s
      · rename_i hn
        exact fun e => ⟨rfl, by have h0 : ¬ s.2.1 ≤ v := fun h => hn ⟨e, h⟩; simp only; omega⟩
  | d + 1, l, t, s => by
    unfold srch
    have key : ∀ (L : List Ri) (s : SB), LeB s (L.foldl (stpS (srch cost d) l t) s) := by
      intro L
      induction L with
      | nil => intro s; exact LeB.refl s
      | cons r L ih =>
        intro s
        rw [List.foldl_cons]
        refine LeB.trans ?_ (ih _)
        unfold stpS
        split
        · exact LeB.refl s
        · exact srch_le d _ _ s
    exact key _ s
/-- nothing that follows the ring costs less -/
theorem srch_all {cost : List Ri → Option Int} : ∀ (d : Nat) (l : Int) (t : List Ri) (s : SB) (x : List Ri) (v : Int), x.length = d → chn (some l) x = true → cost (t ++ x) = some v → (srch cost d l t s).1 = true ∧ (srch cost d l t s).2.1 ≤ v
  | 0, l, t, s, x, v, hx, hc, hv => by
    have : x = [] := List.length_eq_zero_iff.1 hx
    subst this
    rw [List.append_nil] at hv
    unfold srch upS
    rw [hv]
    simp only
    split
    · rename_i h; exact h
    · exact ⟨rfl, Int.le_refl _⟩
  | d + 1, l, t, s, [], v, hx, _, _ => by simp at hx
  | d + 1, l, t, s, r :: x, v, hx, hc, hv => by
    rw [chn_cons, Bool.and_eq_true, Bool.and_eq_true] at hc
    obtain ⟨hr, hm, hc⟩ := hc
    unfold srch
    obtain ⟨L1, L2, e⟩ := List.append_of_mem (mem_rowsT hr)
    rw [e, List.foldl_append, List.foldl_cons]
    have key : ∀ (L : List Ri) (s : SB), LeB s (L.foldl (stpS (srch cost d) l t) s) := by
      intro L
      induction L with
      | nil => intro s; exact LeB.refl s
      | cons r L ih =>
        intro s
        rw [List.foldl_cons]
        refine LeB.trans ?_ (ih _)
        unfold stpS
        split
        · exact LeB.refl s
        · exact srch_le d _ _ s
    have h1 : stpS (srch cost d) l t (L1.foldl (stpS (srch cost d) l t) s) r = srch cost d r.2 (t ++ [r]) (L1.foldl (stpS (srch cost d) l t) s) := by
      unfold stpS
      rw [if_neg]
      simp only [mtk] at hm
      simpa using hm
    have h2 := srch_all d r.2 (t ++ [r]) (L1.foldl (stpS (srch cost d) l t) s) x v (by simpa using hx) hc (by simpa using hv)
    have h3 := key L2 (srch cost d r.2 (t ++ [r]) (L1.foldl (stpS (srch cost d) l t) s)) h2.1
    rw [h1]
    exact ⟨h3.1, by omega⟩
end Go.Proofs.Ytmgelocefebldaa.R

/- The search for the best tube (the program). -/
import Derived.Test.YtmgelocefebldaaXFnBestBest
import Derived.Test.YtmgelocefebldaaXFnBestW3
namespace Go.Proofs.Ytmgelocefebldaa.R
open Go.Rv Go.Rv.Ax
set_option linter.unusedVariables false
set_option linter.unusedSimpArgs false
set_option maxRecDepth 100000
theorem cloneR_w (t : List Ri) (h : t.length ≤ 1000) : W (fun k _ => slices_Clone_Ring.f k t) (· = t) := by
  refine slices_Clone_Ring.w (W.i (fun hp => W.t (by simp; omega) (W.ret (by simp))) fun hp => ?_)
  have ht : t = [] := List.length_eq_zero_iff.1 (by omega)
  subst ht
  refine W.allSame_w (by simp) fun b _ => ?_
  cases b
  · exact W.e (by simp) (W.t (by simp) (W.ret rfl))
  · exact W.t rfl (W.ret rfl)
open impl_search_1_BestTube_1_search_1 in
theorem searchB_w (p1 p2 p3 p4 : Int) (L : List Cu) (bb q1 q2 q3 q4 : Int) (cost : List Ri → Option Int) (c : Nat) (hc : c ≤ 4) (bk b : Int) (hb : 0 ≤ b ∧ b ≤ 15)
    (hcost : ∀ t : List Ri, t.length = c → chn (some b) t = true → W (fun k _ => impl_SquaresOf.f k p1 p2 p3 p4 L bb q1 q2 q3 q4 t) (· = costV (cost t))) :
    ∀ (d : Nat) (t : List Ri) (s : SB) (l : Int), t.length + d = c → chn (some b) t = true → lastOr (some b) t = some l →
    W (fun k n => fr k n t (c : Int) p1 p2 p3 p4 L bb q1 q2 q3 q4 s.1 s.2.1 s.2.2 bk b) (· = srch cost d l t s) := by
  intro d
  induction d with
  | zero =>
    intro t s l hl ht hq
    refine W.step (g' := fun k n => body k (fr k n) t (c : Int) p1 p2 p3 p4 L bb q1 q2 q3 q4 s.1 s.2.1 s.2.2 bk b) (fun _ _ => rfl) ?_
    unfold body srch upS
    have hb1 : W (fun k _ => impl_BestTube_1.f k t p1 p2 p3 p4 L bb q1 q2 q3 q4) (· = costV (cost t)) := impl_BestTube_1.w (W.bindE (hcost t (by omega) ht) (W.ret rfl))
    refine W.dt (by omega) (W.bindE hb1 ?_)
    cases hct : cost t with
    | none => exact W.e (by simp [costV]) (W.ret rfl)
    | some v =>
      refine W.t rfl ?_
      simp only [costV]
      refine W.ni (fun h0 => W.bindE (cloneR_w t (by omega)) (W.ret ?_)) fun h1 => W.di (fun hlt => W.bindE (cloneR_w t (by omega)) (W.ret ?_)) fun hge => W.ret ?_
      · rw [if_neg (fun h => by rw [h0] at h; cases h.1)]
      · rw [if_neg (fun h => by omega)]
      · rw [if_pos ⟨h1, by omega⟩]
  | succ d ih =>
    intro t s l hl ht hq
    have hr := chn_rings t _ ht
    refine W.step (g' := fun k n => body k (fr k n) t (c : Int) p1 p2 p3 p4 L bb q1 q2 q3 q4 s.1 s.2.1 s.2.2 bk b) (fun _ _ => rfl) ?_
    unfold body
    refine W.de (by omega) ?_
    -- the loops
    have loops : ∀ (lk : Int), 0 ≤ l ∧ l ≤ 15 → W3 (fun k n r => (cs k (fr k n) r).1 t (c : Int) p1 p2 p3 p4 L bb q1 q2 q3 q4 s.1 s.2.1 s.2.2 bk b lk l) (· = srch cost (d + 1) l t s) := by
      intro lk hl15
      have inner : ∀ (F : SB → SB) (kd : Int), 0 ≤ kd ∧ kd ≤ 1 → (∀ s' : SB, W3 (fun k n r => (cs k (fr k n) r).2.1 t (c : Int) p1 p2 p3 p4 L bb q1 q2 q3 q4 s'.1 s'.2.1 s'.2.2 bk b lk l (kd + 1)) (· = F s')) →
          ∀ (m : Nat) (ky : Int) (s' : SB), 0 ≤ ky → ky + m = 16 → W3 (fun k n r => (cs k (fr k n) r).2.2 t (c : Int) p1 p2 p3 p4 L bb q1 q2 q3 q4 s'.1 s'.2.1 s'.2.2 bk b lk l kd ky) (· = F ((rowR kd ky m).foldl (stpS (srch cost d) l t) s')) := by
        intro F kd hkd hnext m
        induction m with
        | zero =>
          intro ky s' h0 h16
          refine W3.step (g' := fun k n r => (impl_search_1_BestTube_1_search_1.step k (fr k n) (cs k (fr k n) r)).2.2 t (c : Int) p1 p2 p3 p4 L bb q1 q2 q3 q4 s'.1 s'.2.1 s'.2.2 bk b lk l kd ky) (fun _ _ _ => rfl) ?_
          unfold impl_search_1_BestTube_1_search_1.step
          refine W3.de (by omega) ?_
          rw [w64 (i := kd + 1) (by omega) (by omega)]
          exact hnext s'
        | succ m ihm =>
          intro ky s' h0 h16
          refine W3.step (g' := fun k n r => (impl_search_1_BestTube_1_search_1.step k (fr k n) (cs k (fr k n) r)).2.2 t (c : Int) p1 p2 p3 p4 L bb q1 q2 q3 q4 s'.1 s'.2.1 s'.2.2 bk b lk l kd ky) (fun _ _ _ => rfl) ?_
          unfold impl_search_1_BestTube_1_search_1.step
          have hring : ringB kd ky = true := by simp only [ringB, Bool.and_eq_true, inR_iff]; omega
          rw [rowR_succ, List.foldl_cons]
          refine W3.dt (by omega) (W3.bind (meeting_w lk l kd ky hl15 (by omega)) fun q hq' => ?_)
          cases hm : meets l ky
          · rw [hm] at hq'
            have hq0 : (q.length : Int) = 0 := by have := of_decide_eq_false hq'; omega
            have hst : stpS (srch cost d) l t s' (kd, ky) = srch cost d ky (t ++ [(kd, ky)]) s' := by unfold stpS; rw [if_neg (by simp [hm])]
            rw [hst]
            refine W3.dt hq0 (W3.bind (cloneR_w t (by omega)) fun t5 e5 => ?_)
            subst e5
            refine W3.t (by simp; omega) ?_
            have hch : chn (some b) (t5 ++ [(kd, ky)]) = true := chn_snoc t5 (some b) (kd, ky) ht hring (by rw [hq]; simp [mtk, hm])
            refine W3.call (ih (t5 ++ [(kd, ky)]) s' ky (by simp; omega) hch (lastOr_snoc t5 _ _)) fun s2 hs2 => ?_
            subst hs2
            rw [w64 (i := ky + 1) (by omega) (by omega)]
            exact ihm (ky + 1) _ (by omega) (by omega)
          · rw [hm] at hq'
            have hq0 : ¬ (q.length : Int) = 0 := by have := of_decide_eq_true hq'; omega
            have hst : stpS (srch cost d) l t s' (kd, ky) = s' := by unfold stpS; rw [if_pos hm]
            rw [hst]
            refine W3.de hq0 ?_
            rw [w64 (i := ky + 1) (by omega) (by omega)]
            exact ihm (ky + 1) s' (by omega) (by omega)
      have c2 : ∀ (kd : Int) (s' : SB), kd = 2 → W3 (fun k n r => (cs k (fr k n) r).2.1 t (c : Int) p1 p2 p3 p4 L bb q1 q2 q3 q4 s'.1 s'.2.1 s'.2.2 bk b lk l kd) (· = s') := fun kd s' hkd => by
        refine W3.step (g' := fun k n r => (impl_search_1_BestTube_1_search_1.step k (fr k n) (cs k (fr k n) r)).2.1 t (c : Int) p1 p2 p3 p4 L bb q1 q2 q3 q4 s'.1 s'.2.1 s'.2.2 bk b lk l kd) (fun _ _ _ => rfl) ?_
        unfold impl_search_1_BestTube_1_search_1.step
        exact W3.de (by omega) (W3.ret rfl)
      have c1 : ∀ (kd : Int) (s' : SB), kd = 1 → W3 (fun k n r => (cs k (fr k n) r).2.1 t (c : Int) p1 p2 p3 p4 L bb q1 q2 q3 q4 s'.1 s'.2.1 s'.2.2 bk b lk l kd) (· = (rowR 1 0 16).foldl (stpS (srch cost d) l t) s') := fun kd s' hkd => by
        refine W3.step (g' := fun k n r => (impl_search_1_BestTube_1_search_1.step k (fr k n) (cs k (fr k n) r)).2.1 t (c : Int) p1 p2 p3 p4 L bb q1 q2 q3 q4 s'.1 s'.2.1 s'.2.2 bk b lk l kd) (fun _ _ _ => rfl) ?_
        unfold impl_search_1_BestTube_1_search_1.step
        refine W3.dt (by omega) ?_
        have := inner id kd (by omega) (fun s' => c2 (kd + 1) s' (by omega)) 16 0 s' (by omega) (by omega)
        rw [hkd] at this ⊢
        exact this
      have c0 : ∀ (kd : Int) (s' : SB), kd = 0 → W3 (fun k n r => (cs k (fr k n) r).2.1 t (c : Int) p1 p2 p3 p4 L bb q1 q2 q3 q4 s'.1 s'.2.1 s'.2.2 bk b lk l kd) (· = (rowR 1 0 16).foldl (stpS (srch cost d) l t) ((rowR 0 0 16).foldl (stpS (srch cost d) l t) s')) := fun kd s' hkd => by
        refine W3.step (g' := fun k n r => (impl_search_1_BestTube_1_search_1.step k (fr k n) (cs k (fr k n) r)).2.1 t (c : Int) p1 p2 p3 p4 L bb q1 q2 q3 q4 s'.1 s'.2.1 s'.2.2 bk b lk l kd) (fun _ _ _ => rfl) ?_
        unfold impl_search_1_BestTube_1_search_1.step
        refine W3.dt (by omega) ?_
        have := inner (fun s => (rowR 1 0 16).foldl (stpS (srch cost d) l t) s) kd (by omega) (fun s' => c1 (kd + 1) s' (by omega)) 16 0 s' (by omega) (by omega)
        rw [hkd] at this ⊢
        exact this
      refine W3.step (g' := fun k n r => (impl_search_1_BestTube_1_search_1.step k (fr k n) (cs k (fr k n) r)).1 t (c : Int) p1 p2 p3 p4 L bb q1 q2 q3 q4 s.1 s.2.1 s.2.2 bk b lk l) (fun _ _ _ => rfl) ?_
      unfold impl_search_1_BestTube_1_search_1.step
      have := c0 0 s rfl
      rw [show srch cost (d + 1) l t s = (rowR 1 0 16).foldl (stpS (srch cost d) l t) ((rowR 0 0 16).foldl (stpS (srch cost d) l t) s) by rw [srch, List.foldl_append]]
      exact this
    rcases List.eq_nil_or_concat t with rfl | ⟨pre, y, rfl⟩
    · have : b = l := by simpa [lastOr] using hq
      subst this
      exact W.de (by simp) (W3.diag (loops bk hb))
    · rw [List.concat_eq_append] at *
      have hy : rd (0, 0) (pre ++ [y]) (((pre ++ [y]).length : Int) - 1) = y := by
        rw [show ((pre ++ [y]).length : Int) - 1 = (pre.length : Int) by simp]; exact rd_mid _ _ _
      have hlen : (pre ++ [y]).length ≤ 4 := by omega
      have hpos : 0 < (pre ++ [y]).length := by simp
      have hyl : y.2 = l := by rw [lastOr_snoc] at hq; simpa using hq
      subst hyl
      rw [w64 (i := ((pre ++ [y]).length : Int) - 1) (by omega) (by omega), hy]
      exact W.dt (by omega) (W.t (by omega) (W.t (by omega) (W3.diag (loops y.1 (keyB (hr y (by simp)))))))
/-! ### what BestTube answers -/
def bestGo (p : Po) (l : List Cu) (b : Int) (s : Po) (key : Int) (c : Nat) : SB := srch (costT ((poses p l).drop (b + 1).toNat) s) c key [] (false, 0, [])
def bestOk (p : Po) (l : List Cu) (b : Int) (s : Po) (kd key c : Int) : Bool := ringB kd key && (okP s && (inR 1 4 c && (decide (Ok p l) && (decide (0 ≤ b) && decide (b + c ≤ ((tl l).length : Int))))))
def bestV (p : Po) (l : List Cu) (b : Int) (s : Po) (kd key c : Int) : List Ri × Int × Bool :=
  if bestOk p l b s kd key c = true then (if (bestGo p l b s key c.toNat).1 = true then ((bestGo p l b s key c.toNat).2.2, (bestGo p l b s key c.toNat).2.1, true) else ([], 0, false)) else ([], 0, false)
theorem bestOk_iff {p : Po} {l : List Cu} {b : Int} {s : Po} {kd key c : Int} : bestOk p l b s kd key c = true ↔ ringB kd key = true ∧ okP s = true ∧ (1 ≤ c ∧ c ≤ 4) ∧ Ok p l ∧ 0 ≤ b ∧ b + c ≤ ((tl l).length : Int) := by
  simp [bestOk, inR_iff]
theorem chn_none0 {b : Int} {t : List Ri} (h : chn (some b) t = true) : chn none t = true := by
  cases t with
  | nil => rfl
  | cons r t =>
    rw [chn_cons, Bool.and_eq_true, Bool.and_eq_true] at h
    rw [chn_cons, h.1, h.2.2]
    rfl
theorem goal_at (p : Po) (l : List Cu) {b : Int} (hb : 0 ≤ b) (j : Nat) : rd zP ((poses p l).drop (b + 1).toNat) (j : Int) = rd zP (poses p l) (b + (j : Int) + 1) := by
  unfold rd
  rw [List.getD_eq_getElem?_getD, List.getD_eq_getElem?_getD, List.getElem?_drop]
  congr 2
  omega
theorem implBest_w (p : Po) (l : List Cu) (b : Int) (s : Po) (kd key c : Int) : W (fun k _ => impl_BestTube.f k p.1 p.2.1 p.2.2.1 p.2.2.2 l b s.1 s.2.1 s.2.2.1 s.2.2.2 kd key c) (· = bestV p l b s kd key c) := by
  have no : bestOk p l b s kd key c ≠ true → bestV p l b s kd key c = ([], 0, false) := fun h => by unfold bestV; rw [if_neg h]
  refine impl_BestTube.w (W.bindE (implPoses_w p l) ?_)
  by_cases h1 : Ok p l
  case neg =>
    rw [posesV_no h1]
    exact W.nt rfl (W.ret (no fun h => h1 (bestOk_iff.1 h).2.2.2.1).symm)
  rw [posesV_ok h1]
  have hpl := poses_length p l
  have hlen := h1.len
  refine W.ne rfl ?_
  dsimp only
  rw [w64 (i := ((poses p l).length : Int) - 1) (by omega) (by omega)]
  refine W.bindN (fun k => within_eq k _ _ _) ?_
  by_cases h3 : 0 ≤ b ∧ b ≤ ((poses p l).length : Int) - 1
  case neg => exact W.nt (inR_no.2 h3) (W.ret (no fun h => h3 (by have := bestOk_iff.1 h; omega)).symm)
  refine W.ne (inR_iff.2 h3) (W.bindE (validPose_w s) ?_)
  by_cases h4 : okP s = true
  case neg => exact W.nt (by simpa using h4) (W.ret (no fun h => h4 (bestOk_iff.1 h).2.1).symm)
  refine W.ne h4 (W.bindN (fun k => within_eq k _ _ _) ?_)
  by_cases h5 : 1 ≤ c ∧ c ≤ 4
  case neg => exact W.nt (inR_no.2 h5) (W.ret (no fun h => h5 (bestOk_iff.1 h).2.2.1).symm)
  refine W.ne (inR_iff.2 h5) ?_
  rw [w64 (i := b + c) (by omega) (by omega)]
  refine W.di (fun h6 => W.ret (no fun h => by have := bestOk_iff.1 h; omega).symm) fun h6 => ?_
  obtain ⟨n, rfl⟩ : ∃ n : Nat, c = (n : Int) := ⟨c.toNat, by omega⟩
  have hS : W (fun k _ => impl_search_BestTube_1.f k kd key (n : Int) p.1 p.2.1 p.2.2.1 p.2.2.2 l b s.1 s.2.1 s.2.2.1 s.2.2.2) (fun r => (ringB kd key = true → r = ((bestGo p l b s key n).2.2, (bestGo p l b s key n).2.1, (bestGo p l b s key n).1)) ∧ (ringB kd key = false → r = ([], 0, false))) := by
    refine impl_search_BestTube_1.w (W.bindN (fun k => ringI_eq k kd key) ?_)
    cases hr : ringB kd key
    · exact W.nt rfl (W.ret ⟨fun e => (by cases e), fun _ => rfl⟩)
    refine W.ne rfl (W.bindN (fun k => within_eq k _ _ _) (W.ne (inR_iff.2 h5) (impl_search_BestTube_1.w0 ?_)))
    have hcost : ∀ t : List Ri, t.length = n → chn (some key) t = true → W (fun k _ => impl_SquaresOf.f k p.1 p.2.1 p.2.2.1 p.2.2.2 l b s.1 s.2.1 s.2.2.1 s.2.2.2 t) (· = costV (costT ((poses p l).drop (b + 1).toNat) s t)) := fun t ht hch => by
      have hv : tubeB t = true := by unfold tubeB; rw [chn_none0 hch]; simp; omega
      rw [← sqV_run (b := b) h1 h4 h3.1 (by omega) hv (goal_at p l h3.1)]
      exact implSq_w p l b s t (by omega)
    have hf : W (fun k _ => impl_search_1_BestTube_1_search_1.f k [] (n : Int) p.1 p.2.1 p.2.2.1 p.2.2.2 l b s.1 s.2.1 s.2.2.1 s.2.2.2 false 0 ([] : List (Int × Int)) kd key) _ := W.diag (searchB_w p.1 p.2.1 p.2.2.1 p.2.2.2 l b s.1 s.2.1 s.2.2.1 s.2.2.2 (costT ((poses p l).drop (b + 1).toNat) s) n (by omega) kd key (keyB hr) hcost n [] (false, 0, []) key (by simp) rfl rfl)
    refine W.bindE hf (W.ret ⟨fun _ => rfl, fun e => by cases e⟩)
  refine W.bind hS ?_
  rintro r ⟨hy, hn⟩
  by_cases hr : ringB kd key = true
  case neg =>
    rw [hn (by simpa using hr)]
    refine W.bindE (impl_found.w (W.nt rfl (W.ret rfl))) (W.ret ?_)
    exact (no fun h => hr (bestOk_iff.1 h).1).symm
  rw [hy hr]
  have hok : bestOk p l b s kd key (n : Int) = true := bestOk_iff.2 ⟨hr, h4, h5, h1, h3.1, by omega⟩
  have hbv : bestV p l b s kd key (n : Int) = (if (bestGo p l b s key n).1 = true then ((bestGo p l b s key n).2.2, (bestGo p l b s key n).2.1, true) else ([], 0, false)) := by unfold bestV; rw [if_pos hok]; rfl
  rw [hbv]
  cases hg : (bestGo p l b s key n).1
  · exact W.bindE (impl_found.w (W.nt rfl (W.ret rfl))) (W.ret (by simp))
  · exact W.bindE (impl_found.w (W.ne rfl (W.ret rfl))) (W.ret (by simp))
end Go.Proofs.Ytmgelocefebldaa.R

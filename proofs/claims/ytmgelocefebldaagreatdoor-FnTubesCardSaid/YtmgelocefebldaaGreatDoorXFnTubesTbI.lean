/- Tubes: their poses, total turns, texts, images (the program). -/
import Derived.Test.YtmgelocefebldaaGreatDoorXFnTubesRngP
import Derived.Test.YtmgelocefebldaaGreatDoorXFnTubesTxF
import Derived.Test.YtmgelocefebldaaGreatDoorXFnTubesTxR
import Derived.Test.YtmgelocefebldaaGreatDoorRvTxP
namespace Go.Proofs.YtmgelocefebldaaGreatDoor.R
open Go.Rv Go.Rv.Ax Go.Rv.Tx
set_option linter.unusedVariables false
set_option linter.unusedSimpArgs false
/-! ### poses -/
theorem turn_in {r : Ri} (h : ringB r.1 r.2 = true) : (-12 ≤ (turnV r.1 r.2).1 ∧ (turnV r.1 r.2).1 ≤ 12) ∧ (-12 ≤ (turnV r.1 r.2).2 ∧ (turnV r.1 r.2).2 ≤ 12) := okT_iff.1 (turn_ok h)
theorem tgo_yes (t : List Ri) : ∀ (acc : List Po) (p : Po), (∀ r ∈ t, ringB r.1 r.2 = true) → t.length ≤ 6 →
    (p.2.2.1 ≤ 300 - 12 * (t.length : Int) ∧ -p.2.2.1 ≤ 300 - 12 * (t.length : Int)) → (p.2.2.2 ≤ 300 - 12 * (t.length : Int) ∧ -p.2.2.2 ≤ 300 - 12 * (t.length : Int)) →
    (p.1 ≤ 10000 - 400 * (t.length : Int) ∧ -p.1 ≤ 10000 - 400 * (t.length : Int)) → (p.2.1 ≤ 10000 - 400 * (t.length : Int) ∧ -p.2.1 ≤ 10000 - 400 * (t.length : Int)) →
    tgo acc p t = (acc ++ scan p (t.map cuOf), true) ∧ ∀ q ∈ scan p (t.map cuOf), okP q = true := by
  induction t with
  | nil => intro acc p _ _ _ _ _ _; simp [tgo, scan]
  | cons r t ih =>
    intro acc p hr hl h1 h2 h3 h4
    have hr0 := turn_in (hr r (by simp))
    simp only [List.length_cons] at h1 h2 h3 h4 hl
    have e1 : (nxt p (cuOf r)).1 = p.1 + p.2.2.1 := rfl
    have e2 : (nxt p (cuOf r)).2.1 = p.2.1 + p.2.2.2 := rfl
    have e3 : (nxt p (cuOf r)).2.2.1 = p.2.2.1 + (turnV r.1 r.2).1 := rfl
    have e4 : (nxt p (cuOf r)).2.2.2 = p.2.2.2 + (turnV r.1 r.2).2 := rfl
    have hok : okP (nxt p (cuOf r)) = true := by rw [okP_iff]; omega
    have ih := ih (acc ++ [nxt p (cuOf r)]) (nxt p (cuOf r)) (fun x hx => hr x (by simp [hx])) (by omega) (by omega) (by omega) (by omega) (by omega)
    rw [tgo, if_pos hok, ih.1]
    simp only [List.map_cons, scan]
    refine ⟨by simp, fun q hq => ?_⟩
    rcases List.mem_cons.1 hq with rfl | hq
    · exact hok
    · exact ih.2 q hq
theorem tubePoses_yes (a b : Int) (t : List Ri) (ht : tubeB t = true) (hl : t.length ≤ 6) (ha : -100 ≤ a ∧ a ≤ 100) (hb : -100 ≤ b ∧ b ≤ 100) :
    tubePV (0, 0, a, b) t = ((0, 0, a, b) :: scan (0, 0, a, b) (t.map cuOf), true) ∧ ∀ q ∈ (0, 0, a, b) :: scan (0, 0, a, b) (t.map cuOf), okP q = true := by
  have hr := (tube_rings ht).2
  have hp : okP (0, 0, a, b) = true := by rw [okP_iff]; simp only; omega
  have h := tgo_yes t [(0, 0, a, b)] (0, 0, a, b) hr hl (by simp only; omega) (by simp only; omega) (by simp only; omega) (by simp only; omega)
  unfold tubePV tubeP
  rw [if_pos ht, if_pos hp, h.1]
  refine ⟨rfl, fun q hq => ?_⟩
  rcases List.mem_cons.1 hq with rfl | hq
  · exact hp
  · exact h.2 q hq
/-! ### total turns -/
theorem total_w (t : List Ri) (ht : tubeB t = true) (hl : t.length ≤ 6) (a b : Int) : W (fun k _ => impl_TotalTurn.f k t) (fun v => v.2.2 = true ∧ (endP (0, 0, a, b) (t.map cuOf)).2.2.1 = a + v.1 ∧ (endP (0, 0, a, b) (t.map cuOf)).2.2.2 = b + v.2.1 ∧ (-72 ≤ v.1 ∧ v.1 ≤ 72) ∧ (-72 ≤ v.2.1 ∧ v.2.1 ≤ 72)) := by
  have hr := (tube_rings ht).2
  have key : ∀ (rest pre : List Ri) (x y : Int), t = pre ++ rest → (endP (0, 0, a, b) (pre.map cuOf)).2.2.1 = a + x → (endP (0, 0, a, b) (pre.map cuOf)).2.2.2 = b + y → (-12 * (pre.length : Int) ≤ x ∧ x ≤ 12 * (pre.length : Int)) → (-12 * (pre.length : Int) ≤ y ∧ y ≤ 12 * (pre.length : Int)) →
      W (fun k m => (impl_totalTurn.cs k m) x y t (t.length : Int) (pre.length : Int)) (fun v => (endP (0, 0, a, b) (t.map cuOf)).2.2.1 = a + v.1 ∧ (endP (0, 0, a, b) (t.map cuOf)).2.2.2 = b + v.2 ∧ (-72 ≤ v.1 ∧ v.1 ≤ 72) ∧ (-72 ≤ v.2 ∧ v.2 ≤ 72)) := by
    intro rest
    induction rest with
    | nil =>
      intro pre x y e h1 h2 h3 h4
      have e : t = pre := by simpa using e
      exact impl_totalTurn.w0 (W.de (by rw [e]; omega) (W.ret ⟨by rw [e]; exact h1, by rw [e]; exact h2, by rw [← e] at h3; omega, by rw [← e] at h4; omega⟩))
    | cons r rest ih =>
      intro pre x y e h1 h2 h3 h4
      have hlen : t.length = pre.length + (rest.length + 1) := by rw [e]; simp
      have hx : rd (0, 0) t (pre.length : Int) = r := by rw [e]; exact rd_mid _ _ _
      have hr0 := hr r (by rw [e]; simp)
      have hi := turn_in hr0
      refine impl_totalTurn.w0 (W.dt (by omega) (W.t (by omega) (W.t (by omega) ?_)))
      rw [hx]
      refine W.bindN (fun k => turnI_eq k r.1 r.2 hr0) ?_
      rw [w64 (i := x + (turnV r.1 r.2).1) (by omega) (by omega), w64 (i := y + (turnV r.1 r.2).2) (by omega) (by omega), w64 (i := (pre.length : Int) + 1) (by omega) (by omega)]
      have e5 : endP (0, 0, a, b) ((pre ++ [r]).map cuOf) = nxt (endP (0, 0, a, b) (pre.map cuOf)) (cuOf r) := by rw [List.map_append, List.map_singleton, endP_snoc]
      have := ih (pre ++ [r]) (x + (turnV r.1 r.2).1) (y + (turnV r.1 r.2).2) (by rw [e]; simp) (by rw [e5]; show _ + (turnV r.1 r.2).1 = _; rw [h1]; omega) (by rw [e5]; show _ + (turnV r.1 r.2).2 = _; rw [h2]; omega) (by simp; omega) (by simp; omega)
      simpa using this
  refine impl_TotalTurn.w (W.bindE (validTube_w t (by omega)) (W.ne ht (W.bind (impl_totalTurn.w (key t [] 0 0 rfl (by simp [endP]) (by simp [endP]) (by simp) (by simp))) fun v hv => W.ret ⟨rfl, hv⟩)))
/-! ### texts -/
def ringT (r : Ri) : List UInt8 := (if r.1 = 0 then [115] else [116]) ++ Lib.itoa r.2
theorem ringText_w (r : Ri) (h : ringB r.1 r.2 = true) : W (fun k _ => impl_ringText.f k r.1 r.2) (· = bs (ringT r)) := by
  simp only [ringB, Bool.and_eq_true, inR_iff] at h
  obtain ⟨x, y⟩ := r
  dsimp only at h
  have hlen := itoa_len y (by omega) (by omega)
  refine impl_ringText.w ?_
  rw [show ByteArray.mk #[115, 116] = bs [115, 116] from rfl, len_bs, w64 (i := x + 1) (by omega) (by omega)]
  refine W.t (by omega) (W.t (by omega) (W.t (by simp only [List.length_cons, List.length_nil]; omega) (W.bindN (fun k => fmt_eq k y (by omega) (by omega)) ?_)))
  have hx : x = 0 ∨ x = 1 := by omega
  rcases hx with rfl | rfl
  · rw [show ((0 : Int) + 1) = ((1 : Nat) : Int) from rfl, show (0 : Int) = ((0 : Nat) : Int) from rfl, cut_bs, fit_bs _ _ (by simp; omega), cat_bs]
    exact W.t rfl (W.ret rfl)
  · rw [show ((1 : Int) + 1) = ((2 : Nat) : Int) from rfl, show (1 : Int) = ((1 : Nat) : Int) from rfl, cut_bs, fit_bs _ _ (by simp; omega), cat_bs]
    exact W.t rfl (W.ret rfl)
theorem ringT_len {r : Ri} (h : ringB r.1 r.2 = true) : (ringT r).length ≤ 22 ∧ 1 ≤ (ringT r).length := by
  simp only [ringB, Bool.and_eq_true, inR_iff] at h
  have := itoa_len r.2 (by omega) (by omega)
  unfold ringT
  split <;> simp <;> omega
def tubeT (t : List Ri) : List UInt8 := Lib.join (t.map ringT) [32]
theorem tubeT_len (t : List Ri) (hr : ∀ r ∈ t, ringB r.1 r.2 = true) (hl : t.length ≤ 6) : (tubeT t).length ≤ 200 := by
  unfold tubeT
  cases t with
  | nil => simp [Lib.join_nil]
  | cons r t =>
    have hs : ∀ l : List Ri, (∀ r ∈ l, ringB r.1 r.2 = true) → Lib.lens (l.map ringT) ≤ 22 * l.length := by
      intro l
      induction l with
      | nil => intro _; simp [Lib.lens]
      | cons x l ih =>
        intro h
        have h1 := ih fun y hy => h y (by simp [hy])
        have h2 := (ringT_len (h x (by simp))).1
        simp only [List.map_cons, Lib.lens, List.length_cons, List.map, List.sum_cons] at *
        omega
    have := hs (r :: t) hr
    rw [List.map_cons] at this ⊢
    rw [Lib.join_length, List.length_map]
    simp only [List.length_cons, List.length_nil] at *
    omega
theorem tubeText_w (t : List Ri) (ht : tubeB t = true) (hl : t.length ≤ 6) : W (fun k _ => impl_TubeText.f k t) (· = (bs (tubeT t), true)) := by
  have hr := (tube_rings ht).2
  have key : ∀ (rest pre : List Ri), t = pre ++ rest → W (fun k m => (impl_TubeText.cs k m) (pre.map fun r => bs (ringT r)) t (t.length : Int) (pre.length : Int)) (· = (bs (tubeT t), true)) := by
    intro rest
    induction rest with
    | nil =>
      intro pre e
      have e : t = pre := by simpa using e
      refine impl_TubeText.w0 (W.de (by rw [e]; omega) ?_)
      refine W.bindN (t := bs (tubeT t)) (fun k => ?_) (W.ret rfl)
      unfold strings_Join.f T.joinF T.joinS
      have e2 : (pre.map fun r => bs (ringT r)).map (·.data.toList) = t.map ringT := by rw [List.map_map, e]; rfl
      have e3 : (ByteArray.mk #[32]).data.toList = [32] := rfl
      have e4 : Lib.join (t.map ringT) [32] = tubeT t := rfl
      rw [e2, e3, if_pos (by rw [List.length_map, ← e]; omega), e4, if_pos (by have := tubeT_len t hr hl; omega)]
      rfl
    | cons r rest ih =>
      intro pre e
      have hlen : t.length = pre.length + (rest.length + 1) := by rw [e]; simp
      have hx : rd (0, 0) t (pre.length : Int) = r := by rw [e]; exact rd_mid _ _ _
      refine impl_TubeText.w0 (W.dt (by omega) (W.t (by omega) (W.t (by omega) ?_)))
      rw [hx]
      refine W.bindE (ringText_w r (hr r (by rw [e]; simp))) ?_
      refine W.t (by simp; omega) ?_
      rw [w64 (by omega) (by omega)]
      have := ih (pre ++ [r]) (by simp [e])
      simpa using this
  exact impl_TubeText.w (W.bindE (validTube_w t (by omega)) (W.ne ht (key t [] rfl)))
theorem readRing_w (r : Ri) (h : ringB r.1 r.2 = true) : W (fun k _ => impl_readRing.f k (bs (ringT r))) (· = (r.1, r.2, true)) := by
  have hlen := ringT_len h
  have h' := h
  simp only [ringB, Bool.and_eq_true, inR_iff] at h'
  obtain ⟨x, y⟩ := r
  dsimp only at h h' hlen
  have e0 : ByteArray.empty = bs [] := rfl
  have hne : ringT (x, y) ≠ [] := by intro e; rw [e] at hlen; simp at hlen
  have hcut : sCut (bs (ringT (x, y))) 1 ((ringT (x, y)).length : Int) = bs (Lib.itoa y) := by
    rw [show (1 : Int) = ((1 : Nat) : Int) from rfl, cut_bs, List.take_length]
    unfold ringT
    split <;> rfl
  have hl1 := itoa_len y (by omega) (by omega)
  have hdec : ∀ k, impl_ReadDecimal.f k (bs (Lib.itoa y)) = some (y, true) := fun k => by
    unfold impl_ReadDecimal.f impl_readIn.f
    rw [readIn_eq (Lib.itoa y) _ _ (by omega) (by decide), rdIn_yes (v := y) (by decide) ⟨rfl, by omega, by omega⟩]
    rfl
  have hat : sAt (bs (ringT (x, y))) 0 = if x = 0 then 115 else 116 := by
    rw [show (0 : Int) = ((0 : Nat) : Int) from rfl, at_bs _ 0 (by omega)]
    by_cases hx : x = 0
    · simp [ringT, hx]
    · have hx : x = 1 := by omega
      simp [ringT, hx]
  have tail : W (fun k m => (impl_readRing.cs k m) (bs (ringT (x, y))) 0 0) (· = (x, y, true)) := by
    refine impl_readRing.w0 ?_
    rw [len_bs, hcut, hat]
    refine W.t (by decide) (W.t (by omega) (W.t (by omega) (W.bindN hdec (W.t (by decide) (W.t (by omega) ?_)))))
    have hx : x = 0 ∨ x = 1 := by omega
    rcases hx with rfl | rfl
    · exact W.de (by simp) (W.t rfl (W.bindN (fun k => ringI_eq k 0 y) (W.ret (by rw [h]))))
    · exact W.dt (by simp) (W.t rfl (W.bindN (fun k => ringI_eq k 1 y) (W.ret (by rw [h]))))
  refine impl_readRing.w ?_
  rw [e0, eq_bs, len_bs, hat]
  refine W.de hne (W.t (by decide) (W.t (by omega) ?_))
  have hx : x = 0 ∨ x = 1 := by omega
  rcases hx with rfl | rfl
  · exact W.nde (by simp) tail
  · exact W.ndt (by simp) (W.t (by decide) (W.t (by omega) (W.nde (by simp) tail)))
theorem readTube_w (t : List Ri) (ht : tubeB t = true) (hl : 1 ≤ t.length ∧ t.length ≤ 6) : W (fun k _ => impl_ReadTube.f k (bs (tubeT t))) (· = (t, true)) := by
  have hr := (tube_rings ht).2
  have hlen := tubeT_len t hr hl.2
  have hp : pcs 32 (tubeT t) = t.map ringT := by
    cases t with
    | nil => simp at hl
    | cons r t =>
      unfold tubeT
      rw [List.map_cons, pcs_join 32 _ _ fun y hy => ?_]
      rw [← List.map_cons] at hy
      obtain ⟨v, _, rfl⟩ := List.mem_map.1 hy
      unfold ringT
      rw [List.mem_append, not_or]
      exact ⟨by split <;> decide, itoa_no v.2 32 (by decide)⟩
  have hne : tubeT t ≠ [] := by
    intro e
    rw [e] at hp
    cases t with
    | nil => simp at hl
    | cons r t =>
      have h1 := List.cons.inj hp
      have := (ringT_len (hr r (by simp))).2
      rw [← h1.1] at this
      simp at this
  have key : ∀ (rest pre : List Ri), t = pre ++ rest → W (fun k m => (impl_ReadTube.cs k m) pre ((t.map ringT).map bs) (((t.map ringT).map bs).length : Int) (pre.length : Int)) (· = (t, true)) := by
    intro rest
    induction rest with
    | nil =>
      intro pre e
      have e : t = pre := by simpa using e
      refine impl_ReadTube.w0 (W.de (by rw [e]; simp) ?_)
      rw [← e]
      exact W.bindE (validTube_w t (by omega)) (W.ne ht (W.ret rfl))
    | cons r rest ih =>
      intro pre e
      have hlen : t.length = pre.length + (rest.length + 1) := by rw [e]; simp
      have hx : rd ByteArray.empty ((t.map ringT).map bs) (pre.length : Int) = bs (ringT r) := by
        have := rd_mid (d := ByteArray.empty) ((pre.map ringT).map bs) (bs (ringT r)) ((rest.map ringT).map bs)
        rw [List.length_map, List.length_map] at this
        rw [e]
        simpa using this
      refine impl_ReadTube.w0 (W.dt (by simp; omega) (W.t (by omega) (W.t (by simp; omega) ?_)))
      rw [hx]
      refine W.bindE (readRing_w r (hr r (by rw [e]; simp))) (W.ne rfl (W.t (show pre.length + 1 < 549755813888 by omega) ?_))
      rw [w64 (by omega) (by omega)]
      have := ih (pre ++ [r]) (by simp [e])
      simpa using this
  refine impl_ReadTube.w ?_
  rw [show ByteArray.empty = bs [] from rfl, show ByteArray.mk #[32] = bs [32] from rfl, eq_bs]
  refine W.de hne (W.bindN (t := (t.map ringT).map bs) (fun k => ?_) (key t [] rfl))
  unfold strings_Split.f T.splitF T.splitS
  rw [bs_size, bs_size, if_pos (by omega), if_pos (by simp), split_bs, hp]
end Go.Proofs.YtmgelocefebldaaGreatDoor.R

/- The clearance of an axis is the least one and is told at its first place; own poses deviate nowhere: the plain statement. -/
import Derived.Test.YtkmnllcccgnliaaXFnClearanceAxM
import Derived.Test.YtkmnllcccgnliaaXFnClearanceAxG
import Derived.Test.YtkmnllcccgnliaaXFnClearanceDr2
import Derived.Test.YtkmnllcccgnliaaRvPuFnClearance
namespace Go.Proofs.Ytkmnllcccgnliaa.Pure
open Go.Rv Go.Rv.Ax R
open RowKit (wrap64)
set_option linter.unusedVariables false
set_option linter.unusedSimpArgs false
def ab (n : Int) : Int := if n < 0 then -n else n
def mx (a b : Int) : Int := if a < b then b else a
def far (a b : Int) (q : Po) : Int := mx (ab (q.1 - a)) (ab (q.2.1 - b))
def dev (q r : Po) : Int := far r.1 r.2.1 q
theorem far_self (q : Po) : dev q q = 0 := by simp [dev, far, mx, ab]
theorem far_le {a b : Int} {q : Po} (hq : okP q = true) (ha : -100000 ≤ a ∧ a ≤ 100000) (hb : -100000 ≤ b ∧ b ≤ 100000) : 0 ≤ far a b q ∧ far a b q ≤ 200000 := by
  rw [okP_iff] at hq
  unfold far mx ab
  repeat' split
  all_goals omega
theorem abs_eq (k : Nat) (n : Int) (h : -1000000 ≤ n ∧ n ≤ 1000000) : impl_abs.f k n = some (ab n) := by
  unfold impl_abs.f ab; rw [w64 (by omega) (by omega)]
  by_cases hn : n < 0
  · rw [if_pos (by omega), if_pos hn, Int.zero_sub]
  · rw [if_neg (by omega), if_neg hn]
theorem dev_eq (k : Nat) {q : Po} {a b c d : Int} (hq : okP q = true) (ha : -100000 ≤ a ∧ a ≤ 100000) (hb : -100000 ≤ b ∧ b ≤ 100000) : impl_deviation.f k q.1 q.2.1 q.2.2.1 q.2.2.2 a b c d = some (far a b q) := by
  rw [okP_iff] at hq
  unfold impl_deviation.f
  rw [w64 (by omega) (by omega), w64 (by omega) (by omega), abs_eq k _ (by omega), abs_eq k _ (by omega)]; rfl
theorem cut_at {α : Type} (l : List α) (i : Int) (h : 0 ≤ i ∧ i < l.length) : ∃ A u B, l = A ++ u :: B ∧ (A.length : Int) = i :=
  ⟨l.take i.toNat, l[i.toNat]'(by omega), l.drop (i.toNat + 1), by simp, by simp; omega⟩
theorem devs_w {p : Po} {l : List Cu} (h : Ok p l) (xs : List Po) (hx : ∀ q ∈ xs, okP q = true) (hl : xs.length ≤ (poses p l).length) :
    W (fun k _ => impl_DeviationsOf.f k p.1 p.2.1 p.2.2.1 p.2.2.2 l xs) (· = (List.zipWith dev xs (poses p l), true)) := by
  have hlen := h.len
  have hpl := poses_length p l
  have hok := h.poses
  refine impl_DeviationsOf.w (W.bindE (implPoses_w p l) ?_)
  rw [posesV_ok h]
  refine W.ne rfl (W.de (by simp only; omega) (impl_DeviationsOf.w0 ?_))
  have key : ∀ (rest pre qre qest : List Po), xs = pre ++ rest → poses p l = qre ++ qest → pre.length = qre.length →
      W (fun k m => (impl_DeviationsOf.cs k m).2 (poses p l) (List.zipWith dev pre qre) xs (xs.length : Int) (pre.length : Int)) (· = (List.zipWith dev xs (poses p l), true)) := by
    intro rest
    induction rest with
    | nil =>
      intro pre qre qest e e' hp
      refine impl_DeviationsOf.w1 (W.de (by rw [e]; simp) (W.ret ?_))
      rw [e, e', List.zipWith_append hp]; simp
    | cons x rest ih =>
      intro pre qre qest e e' hp
      have h1 : xs.length = pre.length + (rest.length + 1) := by rw [e]; simp
      have h2 : (poses p l).length = qre.length + qest.length := by rw [e']; simp
      obtain ⟨y, qest, rfl⟩ : ∃ y z, qest = y :: z := by
        cases qest with
        | nil => simp at h2; omega
        | cons y z => exact ⟨y, z, rfl⟩
      have hrx : rd (0, (0, (0, 0))) xs (pre.length : Int) = x := by rw [e]; exact rd_mid _ _ _
      have hry : rd (0, (0, (0, 0))) (poses p l) (pre.length : Int) = y := by rw [e', hp]; exact rd_mid _ _ _
      have hxo := hx x (by rw [e]; simp)
      have hyo := hok y (by rw [e']; simp)
      have hyi := okP_iff.1 hyo
      have hz : (List.zipWith dev pre qre).length = pre.length := by simp; omega
      refine impl_DeviationsOf.w1 (W.dt (by omega) (W.t (by omega) (W.t (by omega) ?_)))
      rw [hrx, hry]
      refine W.bindE (validPose_w x) (W.ne hxo (W.t (by omega) (W.t (by omega) (W.bindN (fun k => dev_eq k hxo hyi.1 hyi.2.1) (W.t (by simp; omega) ?_)))))
      have := ih (pre ++ [x]) (qre ++ [y]) qest (by simp [e]) (by simp [e']) (by simp [hp])
      rw [w64 (by omega) (by omega)]
      rw [List.zipWith_append hp] at this
      simpa [dev] using this
  exact key xs [] [] (poses p l) rfl rfl rfl
theorem zone_w {c : List Int} (h : ∀ b ∈ c, 0 ≤ b ∧ b ≤ 255) (n : Int) (hn : 1 ≤ n ∧ n ≤ 60) : W (fun k _ => spec_R8Zone.f k c n) (fun r => (0 ≤ r.1 ∧ r.1 ≤ r.2.1 ∧ r.2.1 ≤ n) ∧ (-100 ≤ r.2.2.1 ∧ r.2.2.1 ≤ 100) ∧ (-100 ≤ r.2.2.2.1 ∧ r.2.2.2.1 ≤ 100) ∧ 0 ≤ r.2.2.2.2 ∧ r.2.2.2.2 ≤ 100) := by
  refine spec_R8Zone.w (W.bind (from_w h) ?_)
  rintro ⟨c0, a0, s0⟩ g0
  refine W.bind (pick_w g0 (by omega)) ?_
  rintro ⟨r1, c1, a1, s1⟩ ⟨q1, g1⟩
  refine W.bind (pick_w g1 (by omega)) ?_
  rintro ⟨r2, c2, a2, s2⟩ ⟨q2, g2⟩
  refine W.bind (pick_w g2 (by omega)) ?_
  rintro ⟨r3, c3, a3, s3⟩ ⟨q3, g3⟩
  refine W.bind (pick_w g3 (by omega)) ?_
  rintro ⟨r4, c4, a4, s4⟩ ⟨q4, g4⟩
  refine W.bind (pick_w g4 (by omega)) ?_
  rintro ⟨r5, c5, a5, s5⟩ ⟨q5, g5⟩
  refine W.ret ?_
  dsimp only at *
  rw [w64 (i := n + 1) (by omega) (by omega)] at q1
  rw [w64 (i := n - r1) (by omega) (by omega), w64 (i := n - r1 + 1) (by omega) (by omega)] at q2
  rw [w64 (i := r1 + r2) (by omega) (by omega), w64 (i := r3 - 100) (by omega) (by omega), w64 (i := r4 - 100) (by omega) (by omega)]
  omega
theorem clear_w {p : Po} {l : List Cu} (h : Ok p l) (f u s t w : Int) (hf : 0 ≤ f ∧ f ≤ u ∧ u < (poses p l).length) (hs : -100 ≤ s ∧ s ≤ 100) (ht : -100 ≤ t ∧ t ≤ 100) (hw : 0 ≤ w ∧ w ≤ 100) :
    W (fun k _ => impl_ClearanceOf.f k p.1 p.2.1 p.2.2.1 p.2.2.2 l f u s t w) (fun r => r.2.2 = true ∧ (f ≤ r.2.1 ∧ r.2.1 ≤ u) ∧ ∀ j, f ≤ j → j ≤ u → r.1 ≤ far s t (rd (0, (0, (0, 0))) (poses p l) j) - w ∧ (j < r.2.1 → r.1 < far s t (rd (0, (0, (0, 0))) (poses p l) j) - w) ∧ (j = r.2.1 → r.1 = far s t (rd (0, (0, (0, 0))) (poses p l) j) - w)) := by
  have hlen := h.len
  have hpl := poses_length p l
  have hok := h.poses
  refine impl_ClearanceOf.w (W.bindE (implPoses_w p l) ?_)
  rw [posesV_ok h]
  refine W.ne rfl (W.bindN (fun k => within_eq k _ _ _) (W.ne ?_ (W.bindN (fun k => within_eq k _ _ _) (W.ne ?_ (W.bindE (areWithin_w _ _ _ (by simp)) (W.ne ?_ (W.bindN (fun k => within_eq k _ _ _) (W.ne ?_ (impl_ClearanceOf.w0 ?_)))))))))
  · rw [w64 (by simp only; omega) (by simp only; omega), inR_iff]; simp only; omega
  · rw [inR_iff]; omega
  · simp [inR]; omega
  · rw [inR_iff]; omega
  have key : ∀ (n : Nat) (j b a : Int), j + n = u + 1 → f ≤ j → ((a = -1 ∧ j = f) ∨ (f ≤ a ∧ a < j ∧ b = far s t (rd (0, (0, (0, 0))) (poses p l) a) - w ∧ ∀ i, f ≤ i → i < j → b ≤ far s t (rd (0, (0, (0, 0))) (poses p l) i) - w ∧ (i < a → b < far s t (rd (0, (0, (0, 0))) (poses p l) i) - w))) →
      W (fun k m => (impl_ClearanceOf.cs k m).2 f u s t w (poses p l) b a j) (fun r => r.2.2 = true ∧ (f ≤ r.2.1 ∧ r.2.1 ≤ u) ∧ ∀ j, f ≤ j → j ≤ u → r.1 ≤ far s t (rd (0, (0, (0, 0))) (poses p l) j) - w ∧ (j < r.2.1 → r.1 < far s t (rd (0, (0, (0, 0))) (poses p l) j) - w) ∧ (j = r.2.1 → r.1 = far s t (rd (0, (0, (0, 0))) (poses p l) j) - w)) := by
    intro n
    induction n with
    | zero =>
      intro j b a hj hfj hi
      refine impl_ClearanceOf.w1 (W.de (by omega) (W.ret ⟨rfl, ?_⟩))
      rcases hi with ⟨h1, h2⟩ | ⟨h1, h2, h3, h4⟩
      · omega
      · refine ⟨⟨h1, by simp only; omega⟩, fun i hi1 hi2 => ?_⟩
        have := h4 i hi1 (by omega)
        refine ⟨this.1, this.2, fun e => ?_⟩
        simp only at e; rw [e]; exact h3
    | succ n ih =>
      intro j b a hj hfj hi
      obtain ⟨A, q, B, e, hA⟩ := cut_at (poses p l) j (by omega)
      have hq : rd (0, (0, (0, 0))) (poses p l) j = q := by rw [e, ← hA]; exact rd_mid _ _ _
      have hqo := hok q (by rw [e]; simp)
      have hfar := far_le (a := s) (b := t) hqo (by omega) (by omega)
      refine impl_ClearanceOf.w1 (W.dt (by omega) (W.t (by omega) (W.t (by omega) ?_)))
      rw [hq, w64 (i := j + 1) (by omega) (by omega)]
      refine W.bindN (fun k => dev_eq k hqo (by omega) (by omega)) ?_
      rw [w64 (i := far s t q - w) (by omega) (by omega)]
      have put : (∀ i, f ≤ i → i < j → far s t q - w < far s t (rd (0, (0, (0, 0))) (poses p l) i) - w) → W (fun k m => (impl_ClearanceOf.cs k m).2 f u s t w (poses p l) (far s t q - w) j (j + 1)) _ := fun hall => ih (j + 1) _ j (by omega) (by omega) (.inr ⟨hfj, by omega, by rw [hq], fun i h1 h2 => by
        by_cases e : i = j
        · subst e; rw [hq]; exact ⟨by omega, fun h => by omega⟩
        · have := hall i h1 (by omega); exact ⟨by omega, fun _ => this⟩⟩)
      refine W.di (fun hneg => put fun i h1 h2 => ?_) (fun hpos => W.di (fun hlt => put fun i h1 h2 => ?_) (fun hge => ?_))
      · rcases hi with ⟨h1, h2⟩ | ⟨h1, h2, h3, h4⟩ <;> omega
      · rcases hi with ⟨h3, h4⟩ | ⟨h3, h4, h5, h6⟩
        · omega
        · have := (h6 i h1 h2).1; omega
      · rcases hi with ⟨h3, h4⟩ | ⟨h3, h4, h5, h6⟩
        · omega
        · refine ih (j + 1) b a (by omega) (by omega) (.inr ⟨h3, by omega, h5, fun i h1 h2 => ?_⟩)
          by_cases e : i = j
          · subst e; rw [hq]; exact ⟨by omega, fun h => by omega⟩
          · exact h6 i h1 (by omega)
  exact key (u + 1 - f).toNat f 0 (-1) (by omega) (by omega) (.inl ⟨rfl, rfl⟩)
theorem r8Abs_eq (k : Nat) (n : Int) (h : -1000000 ≤ n ∧ n ≤ 1000000) : laws_r8Abs.f k n = some (ab n) := by
  unfold laws_r8Abs.f ab; rw [w64 (by omega) (by omega)]
  by_cases hn : n < 0
  · rw [if_pos (by simpa using hn), if_pos hn, Int.zero_sub]
  · rw [if_neg (by simpa using hn), if_neg hn]
theorem r8Most_eq (k : Nat) (a b : Int) : laws_r8Most2.f k a b = some (mx a b) := by
  unfold laws_r8Most2.f mx
  by_cases h : b < a
  · rw [if_pos (by simpa using h), if_neg (by omega)]
  · rw [if_neg (by simpa using h)]
    by_cases h' : a < b
    · rw [if_pos h']
    · rw [if_neg h']; exact congrArg some (show b = a by omega)
theorem r8At_w {c : List Int} (h : ∀ b ∈ c, 0 ≤ b ∧ b ≤ 255) (j n : Int) (hj : 0 ≤ j) (hn : 1 ≤ n) : W (fun k _ => laws_r8At.f k c j n) (fun (r : Int) => 0 ≤ r ∧ r < n) := by
  refine laws_r8At.w (W.di (fun _ => W.ret ⟨Int.le_refl 0, by omega⟩) (fun h1 => W.di (fun _ => W.ret ⟨Int.le_refl 0, by omega⟩) (fun h2 => W.t hj (W.t (by omega) (W.e (by omega) (W.ret ?_))))))
  obtain ⟨A, q, B, e, hA⟩ := cut_at c j (by omega)
  have hq : rd 0 c j = q := by rw [e, ← hA]; exact rd_mid _ _ _
  have := h q (by rw [e]; simp)
  rw [hq, w64 (by omega) (by omega)]
  exact ⟨Int.tmod_nonneg _ (by omega), Int.tmod_lt_of_pos _ (by omega)⟩
theorem moved_w {p : Po} {l : List Cu} (h : Ok p l) {c : List Int} (hc : ∀ b ∈ c, 0 ≤ b ∧ b ≤ 255) (own : List Int) (ho : ∀ x ∈ own, x = 0) (hol : own.length ≤ 1000) :
    W (fun k m => (laws_FnClearance.cs k m).2.2.2 c p.1 p.2.1 p.2.2.1 p.2.2.2 l ((tl l).length : Int) (poses p l) own 0) (· = true) := by
  have hlen := h.len
  have hpl := poses_length p l
  have hok := h.poses
  have key : ∀ (rest pre : List Int), own = pre ++ rest → W (fun k m => (laws_FnClearance.cs k m).2.2.2 c p.1 p.2.1 p.2.2.1 p.2.2.2 l ((tl l).length : Int) (poses p l) own (pre.length : Int)) (· = true) := by
    intro rest
    induction rest with
    | nil =>
      intro pre e
      refine laws_FnClearance.w3 (W.de (by rw [e]; simp) ?_)
      simp only [List.nil_append]
      refine W.t (by simp only [List.length_nil]; omega) (W.bind (r8At_w hc 1 ((poses p l).length : Int) (by omega) (by omega)) fun (t : Int) ht => ?_)
      obtain ⟨A, q, B, e, hA⟩ := cut_at (poses p l) t ht
      have hq : rd (0, (0, (0, 0))) (poses p l) t = q := by rw [e, ← hA]; exact rd_mid _ _ _
      have hqo := hok q (by rw [e]; simp)
      have hqi := okP_iff.1 hqo
      have hset : ∀ q', (poses p l).set t.toNat q' = A ++ q' :: B := fun q' => by
        rw [e, ← hA, Int.toNat_natCast, List.set_append_right _ _ (Nat.le_refl _)]; simp
      have hrd : ∀ q', rd (0, (0, (0, 0))) (A ++ q' :: B) t = q' := fun q' => by rw [← hA]; exact rd_mid _ _ _
      have hl : (poses p l).length = A.length + (B.length + 1) := by rw [e]; simp
      have hwq : wrap64 (q.2.1 + 1) = q.2.1 + 1 := w64 (by omega) (by omega)
      simp only [hq, hwq, hset, hrd]
      refine W.t (by omega) (W.t (by omega) (W.t (by omega) (W.t (by omega) (W.t (by omega) (W.t (by simp; omega) (W.di (fun _ => W.ret rfl) (fun hle => ?_)))))))
      refine W.bindE (devs_w h _ (fun x hx => ?_) (by simp; omega)) ?_
      · rcases List.mem_append.1 hx with hx | hx
        · exact hok x (by rw [e]; simp [hx])
        · rcases List.mem_cons.1 hx with rfl | hx
          · rw [okP_iff]; simp only; omega
          · exact hok x (by rw [e]; simp [hx])
      · have hz : List.zipWith dev (A ++ (q.1, q.2.1 + 1, q.2.2.1, q.2.2.2) :: B) (poses p l) = List.zipWith dev A A ++ 1 :: List.zipWith dev B B := by
          rw [e, List.zipWith_append rfl, List.zipWith_cons_cons]
          congr 2
          simp only [dev, far, mx, ab]
          have h1 : q.1 - q.1 = 0 := by omega
          have h2 : q.2.1 + 1 - q.2.1 = 1 := by omega
          rw [h1, h2]; rfl
        have hzl : (List.zipWith dev A A ++ 1 :: List.zipWith dev B B).length = A.length + (B.length + 1) := by simp
        rw [hz]
        refine W.t rfl (W.dt (by rw [w64 (by omega) (by omega)]; dsimp only; omega) (W.t (by omega) (W.t (by dsimp only; omega) (W.ret ?_))))
        have := rd_mid (d := (0 : Int)) (List.zipWith dev A A) 1 (List.zipWith dev B B)
        rw [show ((List.zipWith dev A A).length : Int) = t by simp; omega] at this
        simp only [this]; rfl
    | cons x rest ih =>
      intro pre e
      have hlen' : own.length = pre.length + (rest.length + 1) := by rw [e]; simp
      have hx : rd 0 own (pre.length : Int) = x := by rw [e]; exact rd_mid _ _ _
      have hx0 := ho x (by rw [e]; simp)
      refine laws_FnClearance.w3 (W.dt (by omega) (W.t (by omega) (W.t (by omega) ?_)))
      rw [hx, w64 (by omega) (by omega)]
      refine W.nde hx0 ?_
      have := ih (pre ++ [x]) (by simp [e])
      simpa using this
  exact key own [] rfl
theorem FnClearance : PureFnClearance := by
  intro c0 c1 h0 h1
  refine W.yes (laws_FnClearance.w ?_)
  refine W.bind (laws_r8Long.w (W.di (fun h => W.ret (P := fun _ => True) trivial) (fun h => W.ret trivial))) fun b _ => ?_
  refine W.bi (fun h => W.ret rfl) (fun h => ?_)
  refine W.bind (r8Axis_w fun b hb => wf_u8 (h0.2 b hb)) ?_
  rintro ⟨a, b, c, d, l⟩ (h : Ok (a, b, c, d) l)
  have hlen := h.len
  have hpl := poses_length (a, b, c, d) l
  have hok := h.poses
  have hc1 : ∀ b ∈ c1, 0 ≤ b ∧ b ≤ 255 := fun b hb => wf_u8 (h1.2 b hb)
  refine W.bindE (ringsOf_w h) (W.bindE (posesOf_w (a, b, c, d) l) ?_)
  rw [posesV_ok h]
  refine W.ne rfl (W.ne rfl (W.de (by simp only; omega) (W.nde ?_ (laws_FnClearance.w0 ?_))))
  · rw [w64 (by simp only; omega) (by simp only; omega)]; simp only; omega
  refine W.bind (zone_w hc1 ((tl l).length : Int) (by omega)) ?_
  rintro ⟨f, u, s, t, w⟩ ⟨⟨hf0, hfu, hu⟩, hs, ht, hw⟩
  dsimp only at hf0 hfu hu hs ht hw ⊢
  refine W.bind (clear_w h f u s t w (by omega) hs ht hw) ?_
  rintro ⟨least, at', okk⟩ ⟨hk, hat, hall⟩
  dsimp only at hk hat hall ⊢
  refine W.bindE (devs_w h (poses (a, b, c, d) l) hok (Nat.le_refl _)) ?_
  refine W.ne hk (W.ne rfl (W.de (by omega) (W.de (by omega) (W.nde (by simp) (laws_FnClearance.w1 ?_)))))
  have ends : W (fun k m => (laws_FnClearance.cs k m).2.2.2 c1 a b c d l ((tl l).length : Int) (poses (a, b, c, d) l) (List.zipWith dev (poses (a, b, c, d) l) (poses (a, b, c, d) l)) 0) (· = true) :=
    moved_w h hc1 _ (fun x hx => by
      rw [List.zipWith_self] at hx
      obtain ⟨q, _, rfl⟩ := List.mem_map.1 hx
      exact far_self q) (by simp; omega)
  have key : ∀ (n : Nat) (j : Int), j + n = u + 1 → f ≤ j → W (fun k m => (laws_FnClearance.cs k m).2.2.1 c1 a b c d l ((tl l).length : Int) (poses (a, b, c, d) l) f u s t w least at' (List.zipWith dev (poses (a, b, c, d) l) (poses (a, b, c, d) l)) j) (· = true) := by
    intro n
    induction n with
    | zero => intro j hj hfj; exact laws_FnClearance.w2 (W.de (by omega) ends)
    | succ n ih =>
      intro j hj hfj
      obtain ⟨A, q, B, e, hA⟩ := cut_at (poses (a, b, c, d) l) j (by omega)
      have hq : rd (0, (0, (0, 0))) (poses (a, b, c, d) l) j = q := by rw [e, ← hA]; exact rd_mid _ _ _
      have hqo := hok q (by rw [e]; simp)
      have hqi := okP_iff.1 hqo
      have hfar := far_le (a := s) (b := t) hqo (by omega) (by omega)
      obtain ⟨g1, g2, g3⟩ := hall j hfj (by omega)
      rw [hq] at g1 g2 g3
      have next := ih (j + 1) (by omega) (by omega)
      refine laws_FnClearance.w2 (W.dt (by omega) (W.t (by omega) (W.t (by omega) ?_)))
      rw [hq, w64 (i := j + 1) (by omega) (by omega), w64 (i := q.1 - s) (by omega) (by omega), w64 (i := q.2.1 - t) (by omega) (by omega)]
      refine W.bindN (fun k => r8Abs_eq k _ (by omega)) (W.t (by omega) (W.t (by omega) (W.bindN (fun k => r8Abs_eq k _ (by omega)) (W.bindN (fun k => r8Most_eq k _ _) ?_))))
      have hw' : wrap64 (mx (ab (q.1 - s)) (ab (q.2.1 - t)) - w) = far s t q - w := w64 (i := far s t q - w) (by omega) (by omega)
      simp only [hw']
      refine W.de (by omega) (W.di (fun h1 => W.de (by have := g2 h1; omega) (W.de (by omega) next)) (fun h1 => W.di (fun h2 => W.nde (g3 h2).symm next) (fun _ => next)))
  exact key (u + 1 - f).toNat f (by omega) (by omega)
end Go.Proofs.Ytkmnllcccgnliaa.Pure

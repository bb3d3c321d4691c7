/- The search for a tube: what it answers. -/
import Derived.Test.YtmgelocefebldaaXFnNearestNxtM
namespace Go.Proofs.Ytmgelocefebldaa.R
open Go.Rv Go.Rv.Ax
set_option linter.unusedVariables false
set_option linter.unusedSimpArgs false
set_option maxRecDepth 100000
/-- from some round on, with rounds for the depth (n) and for the loops (r) -/
def W3 {α : Type} (g : Nat → Nat → Nat → Option α) (P : α → Prop) : Prop := ∃ v, P v ∧ ∃ N, ∀ k n r, N ≤ k → N ≤ n → N ≤ r → g k n r = some v
namespace W3
variable {α β : Type} {P : α → Prop}
theorem ret {v : α} (h : P v) : W3 (fun _ _ _ => some v) P := ⟨v, h, 0, fun _ _ _ _ _ _ => rfl⟩
theorem mono {g : Nat → Nat → Nat → Option α} {Q : α → Prop} (h : W3 g Q) (h' : ∀ v, Q v → P v) : W3 g P := by
  obtain ⟨v, hv, hn⟩ := h
  exact ⟨v, h' v hv, hn⟩
theorem bind {f : Nat → Option β} {Q : β → Prop} {g : Nat → Nat → Nat → β → Option α} (h : W (fun k _ => f k) Q) (h' : ∀ t, Q t → W3 (fun k n r => g k n r t) P) : W3 (fun k n r => (f k).bind fun t => g k n r t) P := by
  obtain ⟨t, hq, n, hn⟩ := h
  obtain ⟨v, hp, n', hn'⟩ := h' t hq
  refine ⟨v, hp, max n n', fun k m r hk hm hr => ?_⟩
  show (f k).bind _ = _
  rw [show f k = some t from hn k k (by omega) (by omega)]
  exact hn' k m r (by omega) (by omega) (by omega)
theorem call {f : Nat → Nat → Option β} {Q : β → Prop} {g : Nat → Nat → Nat → β → Option α} (h : W f Q) (h' : ∀ t, Q t → W3 (fun k n r => g k n r t) P) : W3 (fun k n r => (f k n).bind fun t => g k n r t) P := by
  obtain ⟨t, hq, n, hn⟩ := h
  obtain ⟨v, hp, n', hn'⟩ := h' t hq
  refine ⟨v, hp, max n n', fun k m r hk hm hr => ?_⟩
  show (f k m).bind _ = _
  rw [show f k m = some t from hn k m (by omega) (by omega)]
  exact hn' k m r (by omega) (by omega) (by omega)
theorem step {g g' : Nat → Nat → Nat → Option α} (h : ∀ k n r, g k n (r + 1) = g' k n r) (h' : W3 g' P) : W3 g P := by
  obtain ⟨v, hp, n, hn⟩ := h'
  refine ⟨v, hp, n + 1, fun k m r hk hm hr => ?_⟩
  obtain ⟨j, rfl⟩ : ∃ j, r = j + 1 := ⟨r - 1, by omega⟩
  rw [h]
  exact hn k m j (by omega) (by omega) (by omega)
theorem diag {g : Nat → Nat → Nat → Option α} (h : W3 g P) : W (fun k n => g k n k) P := by
  obtain ⟨v, hp, n, hn⟩ := h
  exact ⟨v, hp, n, fun k m hk hm => hn k m k hk hm hk⟩
variable {x y : Nat → Nat → Nat → Option α} {c : Prop} [Decidable c]
theorem t (h : c) (h' : W3 x P) : W3 (fun k n r => if c then x k n r else y k n r) P := by simpa only [h, if_true] using h'
theorem e (h : ¬c) (h' : W3 y P) : W3 (fun k n r => if c then x k n r else y k n r) P := by simpa only [h, if_false] using h'
theorem dt (h : c) (h' : W3 x P) : W3 (fun k n r => if decide c = true then x k n r else y k n r) P := t (decide_eq_true h) h'
theorem de (h : ¬c) (h' : W3 y P) : W3 (fun k n r => if decide c = true then x k n r else y k n r) P := e (by simpa using h) h'
end W3
/-! ### what a tube costs -/
def totG (s : Int × Int) (t : List Ri) : Int × Int := t.foldl (fun s r => (s.1 + (turnV r.1 r.2).1, s.2 + (turnV r.1 r.2).2)) s
def absI (n : Int) : Int := if 0 ≤ n then n else -n
def cst (u v : Int) (t : List Ri) : Int := absI (u - (totG (0, 0) t).1) + absI (v - (totG (0, 0) t).2)
theorem turn_in {r : Ri} (h : ringB r.1 r.2 = true) : (-12 ≤ (turnV r.1 r.2).1 ∧ (turnV r.1 r.2).1 ≤ 12) ∧ (-12 ≤ (turnV r.1 r.2).2 ∧ (turnV r.1 r.2).2 ≤ 12) := okT_iff.1 (turn_ok h)
theorem totG_snoc (s : Int × Int) (t : List Ri) (r : Ri) : totG s (t ++ [r]) = ((totG s t).1 + (turnV r.1 r.2).1, (totG s t).2 + (turnV r.1 r.2).2) := by simp [totG]
theorem total_w (t : List Ri) (hr : ∀ r ∈ t, ringB r.1 r.2 = true) (hl : t.length ≤ 100) : W (fun k _ => impl_totalTurn.f k t) (fun v => v = totG (0, 0) t ∧ (-1200 ≤ v.1 ∧ v.1 ≤ 1200) ∧ (-1200 ≤ v.2 ∧ v.2 ≤ 1200)) := by
  have key : ∀ (rest pre : List Ri), t = pre ++ rest → (-12 * (pre.length : Int) ≤ (totG (0, 0) pre).1 ∧ (totG (0, 0) pre).1 ≤ 12 * (pre.length : Int)) → (-12 * (pre.length : Int) ≤ (totG (0, 0) pre).2 ∧ (totG (0, 0) pre).2 ≤ 12 * (pre.length : Int)) →
      W (fun k m => (impl_totalTurn.cs k m) (totG (0, 0) pre).1 (totG (0, 0) pre).2 t (t.length : Int) (pre.length : Int)) (fun v => v = totG (0, 0) t ∧ (-1200 ≤ v.1 ∧ v.1 ≤ 1200) ∧ (-1200 ≤ v.2 ∧ v.2 ≤ 1200)) := by
    intro rest
    induction rest with
    | nil =>
      intro pre e h3 h4
      have e : t = pre := by simpa using e
      subst e
      exact impl_totalTurn.w0 (W.de (by omega) (W.ret ⟨rfl, by simp only; omega, by simp only; omega⟩))
    | cons r rest ih =>
      intro pre e h3 h4
      have hlen : t.length = pre.length + (rest.length + 1) := by rw [e]; simp
      have hx : rd (0, 0) t (pre.length : Int) = r := by rw [e]; exact rd_mid _ _ _
      have hr0 := hr r (by rw [e]; simp)
      have hi := turn_in hr0
      refine impl_totalTurn.w0 (W.dt (by omega) (W.t (by omega) (W.t (by omega) ?_)))
      rw [hx]
      refine W.bindN (fun k => turnI_eq k r.1 r.2 hr0) ?_
      rw [w64 (i := (totG (0, 0) pre).1 + (turnV r.1 r.2).1) (by omega) (by omega), w64 (i := (totG (0, 0) pre).2 + (turnV r.1 r.2).2) (by omega) (by omega), w64 (i := (pre.length : Int) + 1) (by omega) (by omega)]
      have := ih (pre ++ [r]) (by rw [e]; simp) (by rw [totG_snoc]; simp only [List.length_append, List.length_singleton]; omega) (by rw [totG_snoc]; simp only [List.length_append, List.length_singleton]; omega)
      rw [totG_snoc] at this
      simpa using this
  exact impl_totalTurn.w (key t [] rfl (by simp [totG]) (by simp [totG]))
theorem abs_w (n : Int) (h : -1000000 ≤ n ∧ n ≤ 1000000) : W (fun k _ => impl_abs.f k n) (· = absI n) := by
  refine impl_abs.w (W.ret ?_)
  rw [w64 (i := 0 - n) (by omega) (by omega)]
  show (if n < 0 - n then 0 - n else n) = (if 0 ≤ n then n else -n : Int)
  split <;> split <;> omega
theorem cost_w (t : List Ri) (u v : Int) (hr : ∀ r ∈ t, ringB r.1 r.2 = true) (hl : t.length ≤ 100) (hu : -1000 ≤ u ∧ u ≤ 1000) (hv : -1000 ≤ v ∧ v ≤ 1000) : W (fun k _ => impl_NearestTurn_1.f k t u v) (· = (cst u v t, true)) := by
  refine impl_NearestTurn_1.w (W.bind (total_w t hr hl) fun p hp => ?_)
  obtain ⟨rfl, h1, h2⟩ := hp
  rw [w64 (i := u - (totG (0, 0) t).1) (by omega) (by omega), w64 (i := v - (totG (0, 0) t).2) (by omega) (by omega)]
  refine W.bindE (abs_w _ (by omega)) (W.bindE (abs_w _ (by omega)) (W.ret ?_))
  have a1 : ∀ n : Int, -10000 ≤ n → n ≤ 10000 → 0 ≤ absI n ∧ absI n ≤ 10000 := fun n _ _ => by unfold absI; split <;> omega
  have b1 := a1 (u - (totG (0, 0) t).1) (by omega) (by omega)
  have b2 := a1 (v - (totG (0, 0) t).2) (by omega) (by omega)
  rw [w64 (by omega) (by omega)]
  rfl
theorem clone_w (t : List Ri) (h : t.length ≤ 1000) : W (fun k _ => slices_Clone_Ring.f k t) (· = t) := by
  refine slices_Clone_Ring.w (W.i (fun hp => W.t (by simp; omega) (W.ret (by simp))) fun hp => ?_)
  have ht : t = [] := List.length_eq_zero_iff.1 (by omega)
  subst ht
  refine W.allSame_w (by simp) fun b _ => ?_
  cases b
  · exact W.e (by simp) (W.t (by simp) (W.ret rfl))
  · exact W.t rfl (W.ret rfl)
/-! ### the search -/
abbrev SS := Bool × Int × List Ri
def Good (u v : Int) (c : Nat) (q : Option Int) (s : SS) : Prop := s.1 = true → s.2.2.length = c ∧ chn q s.2.2 = true ∧ s.2.1 = cst u v s.2.2
def LeS (s s' : SS) : Prop := s.1 = true → s'.1 = true ∧ s'.2.1 ≤ s.2.1
theorem LeS.refl (s : SS) : LeS s s := fun h => ⟨h, Int.le_refl _⟩
theorem LeS.trans {a b c : SS} (h : LeS a b) (h' : LeS b c) : LeS a c := fun e => ⟨(h' (h e).1).1, Int.le_trans (h' (h e).1).2 (h e).2⟩
/-- all that begins with 'pre' and goes on with a ring of H is seen -/
def Seen (u v : Int) (c : Nat) (t : List Ri) (q : Option Int) (H : Ri → Prop) (s : SS) : Prop := ∀ (r : Ri) (x : List Ri), H r → t.length + (x.length + 1) = c → chn q (r :: x) = true → s.1 = true ∧ s.2.1 ≤ cst u v (t ++ r :: x)
theorem Seen.le {u v : Int} {c : Nat} {t : List Ri} {q : Option Int} {H : Ri → Prop} {s s' : SS} (h : Seen u v c t q H s) (hl : LeS s s') : Seen u v c t q H s' := fun r x hr hx hc => by
  obtain ⟨h1, h2⟩ := h r x hr hx hc
  exact ⟨(hl h1).1, Int.le_trans (hl h1).2 h2⟩
def Covers (u v : Int) (c : Nat) (t : List Ri) (q : Option Int) (s : SS) : Prop := ∀ x : List Ri, t.length + x.length = c → chn q x = true → s.1 = true ∧ s.2.1 ≤ cst u v (t ++ x)
theorem chn_rings : ∀ {t : List Ri} {q : Option Int}, chn q t = true → ∀ r ∈ t, ringB r.1 r.2 = true
  | [], _, _, r, hr => by cases hr
  | x :: t, q, h, r, hr => by
    rw [chn_cons, Bool.and_eq_true, Bool.and_eq_true] at h
    rcases List.mem_cons.1 hr with rfl | hr
    · exact h.1
    · exact chn_rings h.2.2 r hr
def Hd (kd ky : Int) (r : Ri) : Prop := r.1 < kd ∨ r.1 = kd ∧ r.2 < ky
open impl_search_1_NearestTurn_1_search_1 in
theorem search_w (u v : Int) (hu : -1000 ≤ u ∧ u ≤ 1000) (hv : -1000 ≤ v ∧ v ≤ 1000) (c : Nat) (hc : c ≤ 4) (bk b : Int) (hb : 0 ≤ b ∧ b ≤ 15) : ∀ (d : Nat) (t : List Ri) (s : SS), t.length + d = c → chn (some b) t = true → Good u v c (some b) s →
    W (fun k n => fr k n t (c : Int) u v s.1 s.2.1 s.2.2 bk b) (fun s' => Good u v c (some b) s' ∧ LeS s s' ∧ Covers u v c t (lastOr (some b) t) s') := by
  intro d
  induction d with
  | zero =>
    intro t s hl ht hg
    have hr := chn_rings ht
    have hcov : ∀ s' : SS, s'.1 = true → s'.2.1 ≤ cst u v t → Covers u v c t (lastOr (some b) t) s' := fun s' h1 h2 x hx _ => by
      have : x = [] := List.length_eq_zero_iff.1 (by omega)
      subst this
      exact ⟨h1, by simpa using h2⟩
    refine W.step (g' := fun k n => body k (fr k n) t (c : Int) u v s.1 s.2.1 s.2.2 bk b) (fun _ _ => rfl) ?_
    unfold body
    refine W.dt (by omega) (W.bindE (cost_w t u v hr (by omega) hu hv) (W.t rfl ?_))
    have new : W (fun k n => (slices_Clone_Ring.f k t).bind fun t2 => some (true, cst u v t, t2)) (fun s' => (Good u v c (some b) s' ∧ (s'.1 = true ∧ s'.2.1 = cst u v t))) :=
      W.bindE (clone_w t (by omega)) (W.ret ⟨fun _ => ⟨by simp only; omega, ht, rfl⟩, rfl, rfl⟩)
    refine W.ni (fun h0 => W.mono new fun s' hs => ⟨hs.1, fun e => (by rw [h0] at e; cases e), hcov s' hs.2.1 (by rw [hs.2.2]; exact Int.le_refl _)⟩) fun h1 => ?_
    refine W.di (fun hlt => W.mono new fun s' hs => ⟨hs.1, fun _ => ⟨hs.2.1, by rw [hs.2.2]; exact Int.le_of_lt hlt⟩, hcov s' hs.2.1 (by rw [hs.2.2]; exact Int.le_refl _)⟩) fun hge => ?_
    exact W.ret ⟨hg, LeS.refl s, hcov s h1 (by exact Int.not_lt.1 hge)⟩
  | succ d ih =>
    intro t s hl ht hg
    have hr := chn_rings ht
    refine W.step (g' := fun k n => body k (fr k n) t (c : Int) u v s.1 s.2.1 s.2.2 bk b) (fun _ _ => rfl) ?_
    unfold body
    refine W.de (by omega) ?_
    -- the loops
    have loops : ∀ (lk l : Int), lastOr (some b) t = some l → 0 ≤ l ∧ l ≤ 15 → W3 (fun k n r => (cs k (fr k n) r).1 t (c : Int) u v s.1 s.2.1 s.2.2 bk b lk l) (fun s' => Good u v c (some b) s' ∧ LeS s s' ∧ Covers u v c t (lastOr (some b) t) s') := by
      intro lk l hlast hl15
      have post : ∀ s' : SS, Good u v c (some b) s' → LeS s s' → Seen u v c t (some l) (Hd 2 0) s' → Good u v c (some b) s' ∧ LeS s s' ∧ Covers u v c t (lastOr (some b) t) s' := fun s' h1 h2 h3 => by
        refine ⟨h1, h2, fun x hx hcx => ?_⟩
        rw [hlast] at hcx
        cases x with
        | nil => simp at hx; omega
        | cons r x =>
          refine h3 r x ?_ (by simpa using hx) hcx
          have := chn_rings hcx r List.mem_cons_self
          simp only [ringB, Bool.and_eq_true, inR_iff] at this
          exact .inl (by omega)
      have inner : ∀ (kd : Int), 0 ≤ kd ∧ kd ≤ 1 → (∀ s' : SS, Good u v c (some b) s' → LeS s s' → Seen u v c t (some l) (Hd (kd + 1) 0) s' → W3 (fun k n r => (cs k (fr k n) r).2.1 t (c : Int) u v s'.1 s'.2.1 s'.2.2 bk b lk l (kd + 1)) (fun s' => Good u v c (some b) s' ∧ LeS s s' ∧ Covers u v c t (lastOr (some b) t) s')) →
          ∀ (m : Nat) (ky : Int) (s' : SS), 0 ≤ ky → ky + m = 16 → Good u v c (some b) s' → LeS s s' → Seen u v c t (some l) (Hd kd ky) s' →
          W3 (fun k n r => (cs k (fr k n) r).2.2 t (c : Int) u v s'.1 s'.2.1 s'.2.2 bk b lk l kd ky) (fun s' => Good u v c (some b) s' ∧ LeS s s' ∧ Covers u v c t (lastOr (some b) t) s') := by
        intro kd hkd hnext m
        induction m with
        | zero =>
          intro ky s' h0 h16 h1 h2 h3
          refine W3.step (g' := fun k n r => (impl_search_1_NearestTurn_1_search_1.step k (fr k n) (cs k (fr k n) r)).2.2 t (c : Int) u v s'.1 s'.2.1 s'.2.2 bk b lk l kd ky) (fun _ _ _ => rfl) ?_
          unfold impl_search_1_NearestTurn_1_search_1.step
          refine W3.de (by omega) ?_
          rw [w64 (i := kd + 1) (by omega) (by omega)]
          refine hnext s' h1 h2 fun r x hr hx hcx => h3 r x ?_ hx hcx
          have := chn_rings hcx r List.mem_cons_self
          simp only [ringB, Bool.and_eq_true, inR_iff] at this
          rcases hr with hr | hr
          · rcases Int.lt_or_eq_of_le (show r.1 ≤ kd by omega) with h | h
            · exact .inl h
            · exact .inr ⟨h, by omega⟩
          · omega
        | succ m ihm =>
          intro ky s' h0 h16 h1 h2 h3
          refine W3.step (g' := fun k n r => (impl_search_1_NearestTurn_1_search_1.step k (fr k n) (cs k (fr k n) r)).2.2 t (c : Int) u v s'.1 s'.2.1 s'.2.2 bk b lk l kd ky) (fun _ _ _ => rfl) ?_
          unfold impl_search_1_NearestTurn_1_search_1.step
          have hring : ringB kd ky = true := by simp only [ringB, Bool.and_eq_true, inR_iff]; omega
          have hsucc : ∀ s2 : SS, LeS s' s2 → (meets l ky = false → ∀ x : List Ri, t.length + (x.length + 1) = c → chn (some l) ((kd, ky) :: x) = true → s2.1 = true ∧ s2.2.1 ≤ cst u v (t ++ (kd, ky) :: x)) → Seen u v c t (some l) (Hd kd (ky + 1)) s2 := fun s2 hle hnew r x hr hx hcx => by
            by_cases hh : Hd kd ky r
            · exact (h3.le hle) r x hh hx hcx
            · have : r = (kd, ky) := by
                obtain ⟨r1, r2⟩ := r
                simp only [Hd] at hr hh
                have e1 : r1 = kd := by omega
                have e2 : r2 = ky := by omega
                rw [e1, e2]
              subst this
              refine hnew ?_ x hx hcx
              rw [chn_cons, Bool.and_eq_true, Bool.and_eq_true] at hcx
              simpa [mtk] using hcx.2.1
          refine W3.dt (by omega) (W3.bind (meeting_w lk l kd ky hl15 (by omega)) fun q hq => ?_)
          cases hm : meets l ky
          · rw [hm] at hq
            have hq0 : (q.length : Int) = 0 := by have := of_decide_eq_false hq; omega
            refine W3.dt hq0 (W3.bind (clone_w t (by omega)) fun t5 e5 => ?_)
            subst e5
            refine W3.t (by simp; omega) ?_
            have hch : chn (some b) (t5 ++ [(kd, ky)]) = true := chn_snoc t5 (some b) (kd, ky) ht hring (by rw [hlast]; simp [mtk, hm])
            refine W3.call (ih (t5 ++ [(kd, ky)]) s' (by simp; omega) hch h1) fun s2 hs2 => ?_
            rw [w64 (i := ky + 1) (by omega) (by omega)]
            refine ihm (ky + 1) s2 (by omega) (by omega) hs2.1 (h2.trans hs2.2.1) (hsucc s2 hs2.2.1 fun _ x hx hcx => ?_)
            have hcv := hs2.2.2 x (by simp; omega) (by
              rw [lastOr_snoc]
              rw [chn_cons, Bool.and_eq_true, Bool.and_eq_true] at hcx
              exact hcx.2.2)
            simpa using hcv
          · rw [hm] at hq
            have hq0 : ¬ (q.length : Int) = 0 := by have := of_decide_eq_true hq; omega
            refine W3.de hq0 ?_
            rw [w64 (i := ky + 1) (by omega) (by omega)]
            exact ihm (ky + 1) s' (by omega) (by omega) h1 h2 (hsucc s' (LeS.refl s') fun e => by rw [hm] at e; cases e)
      have c25 : ∀ (j : Nat) (kd : Int) (s' : SS), 0 ≤ kd → kd + j = 2 → Good u v c (some b) s' → LeS s s' → Seen u v c t (some l) (Hd kd 0) s' → W3 (fun k n r => (cs k (fr k n) r).2.1 t (c : Int) u v s'.1 s'.2.1 s'.2.2 bk b lk l kd) (fun s' => Good u v c (some b) s' ∧ LeS s s' ∧ Covers u v c t (lastOr (some b) t) s') := by
        intro j
        induction j with
        | zero =>
          intro kd s' h0 h2' h1 h2 h3
          have hk2 : kd = 2 := by omega
          refine W3.step (g' := fun k n r => (impl_search_1_NearestTurn_1_search_1.step k (fr k n) (cs k (fr k n) r)).2.1 t (c : Int) u v s'.1 s'.2.1 s'.2.2 bk b lk l kd) (fun _ _ _ => rfl) ?_
          unfold impl_search_1_NearestTurn_1_search_1.step
          exact W3.de (by omega) (W3.ret (post s' h1 h2 (by rw [hk2] at h3; exact h3)))
        | succ j ihj =>
          intro kd s' h0 h2' h1 h2 h3
          refine W3.step (g' := fun k n r => (impl_search_1_NearestTurn_1_search_1.step k (fr k n) (cs k (fr k n) r)).2.1 t (c : Int) u v s'.1 s'.2.1 s'.2.2 bk b lk l kd) (fun _ _ _ => rfl) ?_
          unfold impl_search_1_NearestTurn_1_search_1.step
          exact W3.dt (by omega) (inner kd (by omega) (fun s2 => ihj (kd + 1) s2 (by omega) (by omega)) 16 0 s' (by omega) (by omega) h1 h2 h3)
      refine W3.step (g' := fun k n r => (impl_search_1_NearestTurn_1_search_1.step k (fr k n) (cs k (fr k n) r)).1 t (c : Int) u v s.1 s.2.1 s.2.2 bk b lk l) (fun _ _ _ => rfl) ?_
      unfold impl_search_1_NearestTurn_1_search_1.step
      exact c25 2 0 s (by omega) (by omega) hg (LeS.refl s) fun r x hr hx hcx => by
        have := chn_rings hcx r List.mem_cons_self
        simp only [ringB, Bool.and_eq_true, inR_iff] at this
        rcases hr with hr | hr <;> omega
    rcases List.eq_nil_or_concat t with rfl | ⟨pre, y, rfl⟩
    · exact W.de (by simp) (W3.diag (loops bk b rfl hb))
    · rw [List.concat_eq_append] at *
      have hy : rd (0, 0) (pre ++ [y]) (((pre ++ [y]).length : Int) - 1) = y := by
        rw [show ((pre ++ [y]).length : Int) - 1 = (pre.length : Int) by simp]; exact rd_mid _ _ _
      have hlen : (pre ++ [y]).length ≤ 4 := by omega
      have hpos : 0 < (pre ++ [y]).length := by simp
      rw [w64 (i := ((pre ++ [y]).length : Int) - 1) (by omega) (by omega), hy]
      exact W.dt (by omega) (W.t (by omega) (W.t (by omega) (W3.diag (loops y.1 y.2 (lastOr_snoc pre (some b) y) (keyB (hr y (by simp)))))))
theorem follow_w {c : List Int} (h : ∀ b ∈ c, 0 ≤ b ∧ b ≤ 255) (N : Nat) (hN : N ≤ 100) (kd b : Int) (hb : 0 ≤ b ∧ b ≤ 15) : W (fun k _ => spec_B10Follow.f k c (N : Int) kd b) (fun t => t.length = N ∧ chn (some b) t = true) := by
  have draw : ∀ (n N : Nat) (t : List Ri) (c : List Int) (a s m key : Int), t.length + n = N → N ≤ 100 → Sr c a m → m + 10 * n ≤ 1000000 → 0 ≤ key ∧ key ≤ 15 → chn (some b) t = true → (∀ y, meets key y = false → mtk (lastOr (some b) t) y = true) → W (fun k m => (spec_l03DrawOk.cs k m) c a s (n : Int) key t) (fun r => r.1.length = N ∧ chn (some b) r.1 = true) := by
    intro n
    induction n with
    | zero =>
      intro N t c a s m key hl hN g hm hk ht hq
      exact spec_l03DrawOk.w0 (W.de (by omega) (W.ret ⟨by simp only; omega, ht⟩))
    | succ n ih =>
      intro N t c a s m key hl hN g hm hk ht hq
      have hm0 : 0 ≤ m := by have := g.2.1; have := g.2.2; omega
      have htn : t.length + n + 1 = N := by omega
      refine spec_l03DrawOk.w0 (W.dt (by omega) (W.bind (specNextM_w key hk) fun L hL => W.bind (among_w g (by omega) hL.1) ?_))
      rintro ⟨r1, c1, a1, s1⟩ ⟨q1, g1⟩
      refine W.bind (pick_w g1 (by omega)) ?_
      rintro ⟨r2, c2, a2, s2⟩ ⟨q2, g2⟩
      dsimp only at q1 q2 g1 g2 ⊢
      have h1 := hL.2 r1 q1
      refine W.bindN (t := if 1 < r2 then 1 else r2) (fun k => by unfold spec_l00Min.f; by_cases h : 1 < r2 <;> simp [h]) (W.t ?_ ?_)
      · have : t.length ≤ 1000000 := by omega
        simp; omega
      rw [w64 (i := ((n + 1 : Nat) : Int) - 1) (by omega) (by omega), show ((n + 1 : Nat) : Int) - 1 = (n : Int) by omega]
      have hring : ringB (if 1 < r2 then 1 else r2) r1 = true := by
        simp only [ringB, Bool.and_eq_true, inR_iff]
        split <;> omega
      exact ih N _ c2 a2 s2 _ r1 (by simp; omega) hN g2 (by omega) h1.1 (chn_snoc t (some b) _ ht hring (hq r1 h1.2)) (fun y hy => by rw [lastOr_snoc]; simp [mtk, hy])
  refine spec_B10Follow.w (W.bind (from_w h) fun t1 g1 => ?_)
  exact W.bind (spec_l03DrawOk.w (draw N N [] _ _ _ _ b (by simp) hN g1 (by omega) hb rfl (fun y hy => by simp [mtk, lastOr, hy]))) fun r hr => W.ret hr
theorem chn_none {b : Int} {t : List Ri} (h : chn (some b) t = true) : chn none t = true := by
  cases t with
  | nil => rfl
  | cons r t =>
    rw [chn_cons, Bool.and_eq_true, Bool.and_eq_true] at h
    rw [chn_cons, h.1, h.2.2]
    rfl
theorem totalV_w {b : Int} {t : List Ri} (h : chn (some b) t = true) (hl : t.length ≤ 10) : W (fun k _ => impl_TotalTurn.f k t) (fun v => v = ((totG (0, 0) t).1, (totG (0, 0) t).2, true) ∧ (-1200 ≤ (totG (0, 0) t).1 ∧ (totG (0, 0) t).1 ≤ 1200) ∧ (-1200 ≤ (totG (0, 0) t).2 ∧ (totG (0, 0) t).2 ≤ 1200)) := by
  have hv : tubeB t = true := by unfold tubeB; rw [chn_none h]; simp; omega
  refine impl_TotalTurn.w (W.bindE (validTube_w t (by omega)) (W.ne hv (W.bind (total_w t (chn_rings h) (by omega)) fun p hp => ?_)))
  obtain ⟨rfl, h1, h2⟩ := hp
  exact W.ret ⟨rfl, h1, h2⟩
theorem babs_w (n : Int) (h : -1000000 ≤ n ∧ n ≤ 1000000) : W (fun k _ => laws_b10Abs.f k n) (· = absI n) := by
  refine laws_b10Abs.w (W.di (fun h0 => W.ret ?_) (fun h0 => W.ret ?_))
  · rw [w64 (by omega) (by omega)]
    show (0 - n : Int) = if 0 ≤ n then n else -n
    split <;> omega
  · show (n : Int) = if 0 ≤ n then n else -n
    split <;> omega
theorem absI_in {n : Int} (h : -10000 ≤ n ∧ n ≤ 10000) : 0 ≤ absI n ∧ absI n ≤ 10000 := by unfold absI; split <;> omega
theorem nearest_w (kd b : Int) (hk : 0 ≤ kd ∧ kd ≤ 1) (hb : 0 ≤ b ∧ b ≤ 15) (c : Nat) (hc : 1 ≤ c ∧ c ≤ 4) (u v : Int) (hu : -1000 ≤ u ∧ u ≤ 1000) (hv : -1000 ≤ v ∧ v ≤ 1000) : W (fun k _ => impl_NearestTurn.f k kd b (c : Int) u v) (fun r => ∃ s : SS, Good u v c (some b) s ∧ Covers u v c [] (some b) s ∧ (s.1 = true → r = (s.2.2, s.2.1, true))) := by
  have hin : [u, v].all (inR (-100000) 100000) = true := by
    have e1 : inR (-100000) 100000 u = true := inR_iff.2 (by omega)
    have e2 : inR (-100000) 100000 v = true := inR_iff.2 (by omega)
    simp [e1, e2]
  refine impl_NearestTurn.w (W.bindE (areWithin_w _ _ _ (by simp)) (W.ne hin ?_))
  have hS : W (fun k _ => impl_search_NearestTurn_1.f k kd b (c : Int) u v) (fun r => ∃ s : SS, Good u v c (some b) s ∧ Covers u v c [] (some b) s ∧ r = (s.2.2, s.2.1, s.1)) := by
    refine impl_search_NearestTurn_1.w (W.bindN (fun k => ringI_eq k kd b) (W.ne (by simp only [ringB, Bool.and_eq_true, inR_iff]; omega) (W.bindN (fun k => within_eq k _ _ _) (W.ne (inR_iff.2 (by omega)) (impl_search_NearestTurn_1.w0 ?_)))))
    have hf : W (fun k _ => impl_search_1_NearestTurn_1_search_1.f k [] (c : Int) u v false 0 ([] : List (Int × Int)) kd b) _ := W.diag (search_w u v hu hv c hc.2 kd b hb c [] (false, 0, []) (by simp) rfl (fun e => by cases e))
    exact W.bind hf fun s hs => W.ret ⟨s, hs.1, hs.2.2, rfl⟩
  refine W.bind hS ?_
  rintro r ⟨s, h1, h2, rfl⟩
  dsimp only
  have hF : W (fun k _ => impl_found.f k s.2.2 s.2.1 s.1) (fun r => s.1 = true → r = (s.2.2, s.2.1, true)) := impl_found.w (W.ni (fun h0 => W.ret fun e => by rw [h0] at e; cases e) (fun h1 => W.ret fun _ => rfl))
  exact W.bind hF fun r hr => W.ret ⟨s, h1, h2, fun e => by rw [hr e]⟩
end Go.Proofs.Ytmgelocefebldaa.R

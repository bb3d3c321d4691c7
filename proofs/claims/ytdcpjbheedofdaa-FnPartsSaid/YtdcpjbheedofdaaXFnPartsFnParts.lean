/- Even parts, the middle of a list and its longest run: the plain statement. -/
import Derived.Test.YtdcpjbheedofdaaXFnPartsParts
import Derived.Test.YtdcpjbheedofdaaRvPuFnParts
namespace Go.Proofs.Ytdcpjbheedofdaa.Pure
open Go.Rv Go.Rv.Ax R
set_option linter.unusedVariables false
set_option linter.unusedSimpArgs false
theorem run_law {l : List Int} {v b n : Int} (hl : l.length ≤ 1000) (hn : 1 ≤ n) (R : Run l v b n (l.length : Int)) (hr : b + n = (l.length : Int) ∨ rd 0 l (b + n) < v) : W (fun k m => (laws_FnParts.cs k m).2.2.2.2.2 l v b n b) (· = true) := by
  have b0 := R.b0
  have top := R.top
  have key : ∀ (d : Nat) (j : Int), j + d = b + n → b ≤ j → W (fun k m => (laws_FnParts.cs k m).2.2.2.2.2 l v b n j) (· = true) := by
    intro d
    induction d with
    | zero =>
      intro j hj hb
      have fin : ∀ {P : Prop}, W (fun k m => if decide (b + n = (l.length : Int)) = true then some true else if 0 ≤ b + n then if b + n < (l.length : Int) then some (decide (rd 0 l (b + n) < v)) else none else none) (· = true) := by
        intro P
        refine W.di (fun _ => W.ret rfl) (fun hne => W.t (by omega) (W.t (by omega) (W.ret ?_)))
        rcases hr with h | h
        · exact (hne h).elim
        · exact decide_eq_true h
      refine laws_FnParts.w5 ?_
      rw [w64 (i := b + n) (by omega) (by omega), w64 (i := b - 1) (by omega) (by omega)]
      refine W.de (by omega) (W.di (fun h0 => fin (P := True)) (fun h0 => W.t (by omega) (W.t (by omega) (W.dt ?_ (fin (P := True))))))
      rcases R.left with h | h
      · exact (h0 h).elim
      · exact h
    | succ d ih =>
      intro j hj hb
      have ha := R.all j hb (by omega)
      refine laws_FnParts.w5 ?_
      rw [w64 (i := b + n) (by omega) (by omega), w64 (i := j + 1) (by omega) (by omega)]
      exact W.dt (by omega) (W.t (by omega) (W.t (by omega) (W.de (by omega) (ih (j + 1) (by omega) (by omega)))))
  exact key n.toNat b (by omega) (Int.le_refl _)
theorem tail_law {l : List Int} (h : lOk l) : W (fun k m => (laws_FnParts.cs k m).2.2.1 l (midL l) true 0 0 0) (· = true) := by
  have hl := h.1
  obtain ⟨m1, m2, m3⟩ := mid_facts hl.1
  generalize midL l = v at *
  have key : ∀ (rest pre : List Int), l = pre ++ rest → W (fun k m => (laws_FnParts.cs k m).2.2.1 l v true (pre.countP (fun x => decide (x < v)) : Int) (pre.countP (fun x => decide (v < x)) : Int) (pre.length : Int)) (· = true) := by
    intro rest
    induction rest with
    | nil =>
      intro pre e
      rw [List.append_nil] at e
      subst e
      refine laws_FnParts.w2 (W.de (by omega) (W.ne rfl (W.bindE (has_w m1 (by omega)) (W.ne rfl ?_))))
      rw [w64 (i := (l.length : Int) - 1) (by omega) (by omega), w64 (i := 2 * (l.countP (fun x => decide (x < v)) : Int)) (by omega) (by omega), w64 (i := 2 * (l.countP (fun x => decide (v < x)) : Int)) (by omega) (by omega)]
      refine W.de (by omega) (W.de (by omega) (laws_FnParts.w3 (W.bind (run_w h m1) ?_)))
      rintro ⟨b, n, ok⟩ ⟨r1, r2, R, r4⟩
      dsimp only at r1 r2 R r4 ⊢
      have := R.b0
      have := R.top
      rw [w64 (i := b + n) (by omega) (by omega)]
      exact W.ne r1 (W.de (by omega) (W.de (by omega) (W.de (by omega) (laws_FnParts.w4 (run_law (by omega) r2 R r4)))))
    | cons x rest ih =>
      intro pre e
      have hlen : l.length = pre.length + (rest.length + 1) := by rw [e]; simp
      have hr : rd 0 l (pre.length : Int) = x := by rw [e]; exact rd_mid _ _ _
      have hp : ((pre ++ [x]).length : Int) = (pre.length : Int) + 1 := by simp
      have c1 := List.countP_le_length (p := fun x => decide (x < v)) (l := pre)
      have c2 := List.countP_le_length (p := fun x => decide (v < x)) (l := pre)
      have := ih (pre ++ [x]) (by simp [e])
      rw [hp, List.countP_append, List.countP_append] at this
      refine laws_FnParts.w2 (W.dt (by omega) (W.t (by omega) (W.t (by omega) ?_)))
      rw [hr, w64 (i := (pre.length : Int) + 1) (by omega) (by omega), w64 (i := (pre.countP (fun x => decide (x < v)) : Int) + 1) (by omega) (by omega), w64 (i := (pre.countP (fun x => decide (v < x)) : Int) + 1) (by omega) (by omega)]
      refine W.di (fun h1 => W.t (by omega) (W.t (by omega) (W.de (by omega) ?_))) (fun h1 => W.t (by omega) (W.t (by omega) (W.di (fun h2 => ?_) (fun h2 => ?_))))
      · rw [List.countP_cons_of_pos (by simpa using h1), List.countP_cons_of_neg (by simp; omega)] at this
        simpa using this
      · rw [List.countP_cons_of_neg (by simpa using h1), List.countP_cons_of_pos (by simpa using h2)] at this
        simpa using this
      · rw [List.countP_cons_of_neg (by simpa using h1), List.countP_cons_of_neg (by simpa using h2)] at this
        simpa using this
  exact key l [] rfl
theorem FnParts : PureFnParts := by
  intro c0 c1 h0 h1
  have hc0 : ∀ b ∈ c0, 0 ≤ b ∧ b ≤ 255 := fun b hb => wfu (h0.2 b hb)
  have hc1 : ∀ b ∈ c1, 0 ≤ b ∧ b ≤ 255 := fun b hb => wfu (h1.2 b hb)
  refine W.yes (laws_FnParts.w ?_)
  refine W.bind (laws_b10Long.w (W.di (fun h => W.ret (P := fun _ => True) trivial) (fun h => W.ret trivial))) fun b _ => ?_
  refine W.bi (fun h => W.ret rfl) (fun h => ?_)
  refine W.bind (b10At_w hc1 0 256 (by omega) (by omega)) fun (t2 : Int) h2 => W.bind (b10At_w hc1 1 256 (by omega) (by omega)) fun (t3 : Int) h3 => W.bind (b10At_w hc1 2 64 (by omega) (by omega)) fun (t4 : Int) h4 => ?_
  rw [w64 (i := 256 * t2) (by omega) (by omega), w64 (i := 256 * t2 + t3) (by omega) (by omega), w64 (i := 1 + t4) (by omega) (by omega)]
  obtain ⟨M, hM⟩ : ∃ M, M = 256 * t2 + t3 := ⟨_, rfl⟩
  obtain ⟨n, hn⟩ : ∃ n : Nat, 1 + t4 = (n : Int) := ⟨(1 + t4).toNat, by omega⟩
  rw [← hM, hn]
  have hn1 : 1 ≤ n ∧ n ≤ 64 := by omega
  have hM1 : 0 ≤ M ∧ M ≤ 65535 := by omega
  have hmem := sp_mem M (n : Int) (by omega) n
  have hlen := sp_length M (n : Int) n
  have hsum : (sp M (n : Int) n).sum = M := by rw [sp_sum, eS_top M n hn1.1, eS_zero]; omega
  have q0 := Int.ediv_nonneg hM1.1 (show (0 : Int) ≤ (n : Int) by omega)
  have q1 := Int.ediv_le_self (n : Int) hM1.1
  refine W.bindE (split_w M n hM1 hn1) (W.ne rfl (W.nde (by dsimp only; rw [hlen]) ?_))
  dsimp only
  refine W.bindE (sum_w _ (by omega) fun x hx => by rcases hmem x hx with h | h <;> omega) (W.nde hsum (laws_FnParts.w0 ?_))
  generalize sp M (n : Int) n = L at *
  have key : ∀ (rest pre : List Int), L = pre ++ rest → W (fun k m => (laws_FnParts.cs k m).2.1 c0 M (n : Int) L (pre.length : Int)) (· = true) := by
    intro rest
    induction rest with
    | nil =>
      intro pre e
      refine laws_FnParts.w1 (W.de (by rw [e]; simp) (W.bind (b10List_w hc0) fun l hl => ?_))
      exact W.bindE (middle_w hl) (tail_law hl)
    | cons x rest ih =>
      intro pre e
      have hl2 : L.length = pre.length + (rest.length + 1) := by rw [e]; simp
      have hr : rd 0 L (pre.length : Int) = x := by rw [e]; exact rd_mid _ _ _
      have hp : ((pre ++ [x]).length : Int) = (pre.length : Int) + 1 := by simp
      have next := ih (pre ++ [x]) (by simp [e])
      rw [hp] at next
      have hx := hmem x (by rw [e]; simp)
      refine laws_FnParts.w1 (W.dt (by omega) (W.t (by omega) (W.t (by omega) (W.e (by omega) ?_))))
      rw [hr, Int.tdiv_eq_ediv_of_nonneg hM1.1, w64 (i := M / (n : Int)) (by omega) (by omega), w64 (i := M / (n : Int) + 1) (by omega) (by omega), w64 (i := (pre.length : Int) + 1) (by omega) (by omega)]
      refine W.ndi (fun h1 => W.t (by omega) (W.t (by omega) (W.e (by omega) (W.nde (by omega) next)))) (fun h1 => next)
  exact key L [] rfl
end Go.Proofs.Ytdcpjbheedofdaa.Pure

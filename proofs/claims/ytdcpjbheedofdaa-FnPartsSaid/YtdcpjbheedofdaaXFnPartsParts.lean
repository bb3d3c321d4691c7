/- Even parts, drawn lists, sums, the middle of a list, the longest run. -/
import Derived.Test.YtdcpjbheedofdaaXFnPartsSrcN
import Derived.Test.YtdcpjbheedofdaaXFnPartsAxB
import Derived.Test.YtdcpjbheedofdaaRvM3
namespace Go.Proofs.Ytdcpjbheedofdaa.R
open Go.Rv Go.Rv.Ax
set_option linter.unusedVariables false
set_option linter.unusedSimpArgs false
theorem wfu {n : Int} (h : Go.Rv.Wf (.int .u8) n) : 0 ≤ n ∧ n ≤ 255 := by
  have h : (Lit.int .u8 n).wf = true := h
  simp only [Lit.wf, Bool.and_eq_true] at h
  have h1 : (0 : Int) ≤ n := of_decide_eq_true h.1
  have h2 : n ≤ (255 : Int) := of_decide_eq_true h.2
  exact ⟨h1, h2⟩
theorem b10At_w {c : List Int} (h : ∀ b ∈ c, 0 ≤ b ∧ b ≤ 255) (j n : Int) (hj : 0 ≤ j ∧ j ≤ 1000) (hn : 2 ≤ n ∧ n ≤ 1000) : W (fun k _ => laws_b10At.f k c j n) (fun (r : Int) => 0 ≤ r ∧ r < n) := by
  refine laws_b10At.w (W.de (by omega) (W.di (fun h1 => W.t hj.1 (W.t h1 (W.e (by omega) (W.ret ?_)))) (fun h1 => W.e (by omega) (W.ret ?_))))
  · rw [rd_ofNat hj.1 h1]
    have hb := h c[j.toNat] (List.getElem_mem _)
    rw [w64 (by omega) (by omega)]
    exact ⟨Int.tmod_nonneg _ (by omega), Int.tmod_lt_of_pos _ (by omega)⟩
  · rw [w64 (i := j * 37) (by omega) (by omega), w64 (i := j * 37 + 11) (by omega) (by omega)]
    exact ⟨Int.tmod_nonneg _ (by omega), Int.tmod_lt_of_pos _ (by omega)⟩
/-! ### even parts -/
def eS (M K : Int) (j : Nat) : Int := ((j : Int) * M) / K
def sp (M K : Int) : Nat → List Int
  | 0 => []
  | j + 1 => sp M K j ++ [eS M K (j + 1) - eS M K j]
theorem sp_length (M K : Int) : ∀ n, (sp M K n).length = n
  | 0 => rfl
  | n + 1 => by simp [sp, sp_length M K n]
theorem sp_sum (M K : Int) : ∀ n, (sp M K n).sum = eS M K n - eS M K 0
  | 0 => by simp [sp]
  | n + 1 => by simp only [sp, List.sum_append, List.sum_cons, List.sum_nil, sp_sum M K n]; omega
theorem eS_step (M K : Int) (hK : 0 < K) (j : Nat) : eS M K (j + 1) - eS M K j = M / K ∨ eS M K (j + 1) - eS M K j = M / K + 1 := by
  have e : (((j + 1 : Nat) : Int)) * M = (j : Int) * M + M := by rw [show ((j + 1 : Nat) : Int) = (j : Int) + 1 by omega, Int.add_mul, Int.one_mul]
  unfold eS
  rw [e]
  generalize (j : Int) * M = a
  have h1 := Int.mul_ediv_add_emod a K
  have h2 := Int.mul_ediv_add_emod M K
  have r1 := Int.emod_nonneg a (show K ≠ 0 by omega)
  have r2 := Int.emod_nonneg M (show K ≠ 0 by omega)
  have r3 := Int.emod_lt_of_pos a hK
  have r4 := Int.emod_lt_of_pos M hK
  generalize a % K = x at *
  generalize M % K = y at *
  generalize hA : a / K = A at *
  generalize hB : M / K = B at *
  by_cases hc : x + y < K
  · left
    have := ((Int.ediv_emod_unique (a := a + M) (b := K) (q := A + B) (r := x + y) (by omega)).2 ⟨by rw [Int.mul_add]; omega, by omega, hc⟩).1
    omega
  · right
    have := ((Int.ediv_emod_unique (a := a + M) (b := K) (q := A + B + 1) (r := x + y - K) (by omega)).2 ⟨by rw [Int.mul_add, Int.mul_add, Int.mul_one]; omega, by omega, by omega⟩).1
    omega
theorem sp_mem (M K : Int) (hK : 0 < K) : ∀ n, ∀ x ∈ sp M K n, x = M / K ∨ x = M / K + 1
  | 0, x, hx => by simp [sp] at hx
  | n + 1, x, hx => by
    rcases List.mem_append.1 hx with hx | hx
    · exact sp_mem M K hK n x hx
    · rw [List.mem_singleton] at hx
      subst hx
      exact eS_step M K hK n
theorem eS_top (M : Int) (n : Nat) (h : 1 ≤ n) : eS M (n : Int) n = M := by
  unfold eS; exact Int.mul_ediv_cancel_left M (by omega)
theorem eS_zero (M K : Int) : eS M K 0 = 0 := by simp [eS]
theorem within_b (k : Nat) (x lo hi : Int) (h : lo ≤ x ∧ x ≤ hi) : impl_within.f k x lo hi = some true := by
  rw [within_eq, inR_iff.2 h]
theorem split_w (M : Int) (n : Nat) (hM : 0 ≤ M ∧ M ≤ 65535) (hn : 1 ≤ n ∧ n ≤ 64) : W (fun k _ => impl_SplitEven.f k M (n : Int)) (· = (sp M (n : Int) n, true)) := by
  refine impl_SplitEven.w (W.bindN (fun k => within_b k _ _ _ (by omega)) (W.ne rfl (W.bindN (fun k => within_b k _ _ _ (by omega)) (W.ne rfl (impl_SplitEven.w0 ?_)))))
  have key : ∀ (d j : Nat), j + d = n → W (fun k m => (impl_SplitEven.cs k m).2 M (n : Int) (sp M (n : Int) j) (n : Int) (j : Int)) (· = (sp M (n : Int) n, true)) := by
    intro d
    induction d with
    | zero => intro j h; rw [Nat.add_zero] at h; subst h; exact impl_SplitEven.w1 (W.de (by omega) (W.ret rfl))
    | succ d ih =>
      intro j h
      have b1 : 0 ≤ (j : Int) * M ∧ (j : Int) * M ≤ 64 * 65535 := ⟨Int.mul_nonneg (by omega) hM.1, Int.mul_le_mul (by omega) hM.2 hM.1 (by omega)⟩
      have b2 : 0 ≤ ((j + 1 : Nat) : Int) * M ∧ ((j + 1 : Nat) : Int) * M ≤ 64 * 65535 := ⟨Int.mul_nonneg (by omega) hM.1, Int.mul_le_mul (by omega) hM.2 hM.1 (by omega)⟩
      have d1 := Int.ediv_nonneg b1.1 (show (0 : Int) ≤ (n : Int) by omega)
      have d2 := Int.ediv_nonneg b2.1 (show (0 : Int) ≤ (n : Int) by omega)
      have d3 := Int.ediv_le_self (n : Int) b1.1
      have d4 := Int.ediv_le_self (n : Int) b2.1
      refine impl_SplitEven.w1 (W.dt (by omega) ?_)
      rw [w64 (i := (j : Int) + 1) (by omega) (by omega), show (j : Int) + 1 = ((j + 1 : Nat) : Int) by omega, w64 (i := ((j + 1 : Nat) : Int) * M) (by omega) (by omega), w64 (i := (j : Int) * M) (by omega) (by omega),
        Int.tdiv_eq_ediv_of_nonneg b1.1, Int.tdiv_eq_ediv_of_nonneg b2.1, w64 (i := (j : Int) * M / (n : Int)) (by omega) (by omega), w64 (i := ((j + 1 : Nat) : Int) * M / (n : Int)) (by omega) (by omega),
        w64 (i := ((j + 1 : Nat) : Int) * M / (n : Int) - (j : Int) * M / (n : Int)) (by omega) (by omega)]
      exact W.e (by omega) (W.e (by omega) (W.t (by rw [sp_length]; omega) (ih (j + 1) (by omega))))
  exact key n 0 (by omega)
theorem sum_w (l : List Int) (hl : l.length ≤ 1000) (hx : ∀ x ∈ l, 0 ≤ x ∧ x ≤ 1000000) : W (fun k _ => laws_b10Sum.f k l) (· = l.sum) := by
  refine laws_b10Sum.w ?_
  have key : ∀ (rest pre : List Int) (acc : Int), l = pre ++ rest → 0 ≤ acc ∧ acc ≤ 1000000 * (pre.length : Int) → W (fun k m => (laws_b10Sum.cs k m) l acc (pre.length : Int)) (· = acc + rest.sum) := by
    intro rest
    induction rest with
    | nil => intro pre acc e ha; exact laws_b10Sum.w0 (W.de (by rw [e]; simp) (W.ret (by simp)))
    | cons x rest ih =>
      intro pre acc e ha
      have hlen : l.length = pre.length + (rest.length + 1) := by rw [e]; simp
      have hr : rd 0 l (pre.length : Int) = x := by rw [e]; exact rd_mid _ _ _
      have hb := hx x (by rw [e]; simp)
      have hp : ((pre ++ [x]).length : Int) = (pre.length : Int) + 1 := by simp
      refine laws_b10Sum.w0 (W.dt (by omega) (W.t (by omega) (W.t (by omega) ?_)))
      rw [hr, w64 (i := acc + x) (by omega) (by omega), w64 (i := (pre.length : Int) + 1) (by omega) (by omega)]
      have := ih (pre ++ [x]) (acc + x) (by simp [e]) (by rw [hp]; omega)
      rw [hp] at this
      rw [List.sum_cons, ← Int.add_assoc]
      exact this
  have := key l [] 0 rfl (by simp)
  rw [Int.zero_add] at this
  exact this
/-! ### drawn lists -/
def lOk (l : List Int) : Prop := (1 ≤ l.length ∧ l.length ≤ 64) ∧ ∀ x ∈ l, -1000 ≤ x ∧ x ≤ 1000
theorem b10List_w {c : List Int} (h : ∀ b ∈ c, 0 ≤ b ∧ b ≤ 255) : W (fun k _ => spec_B10List.f k c) lOk := by
  refine spec_B10List.w (W.bind (from_w h) fun t1 h1 => W.bind (pick_w h1 (by omega)) fun t2 h2 => W.bind (pick_w h2.2 (by omega)) fun t3 h3 => ?_)
  have key : ∀ (n : Nat) (l c : List Int) (a s m : Int), Sr c a m → m + 2 * n ≤ 1000 → n + l.length ≤ 64 → lOk l → W (fun k i => (spec_B10List.cs k i) l (n : Int) c a s) lOk := by
    intro n
    induction n with
    | zero => intro l c a s m hS hm hl ho; exact spec_B10List.w0 (W.de (by omega) (W.ret ho))
    | succ n ih =>
      intro l c a s m hS hm hl ho
      refine spec_B10List.w0 (W.dt (by omega) (W.bind (pick_w hS (by omega)) fun t4 h4 => W.t (by omega) ?_))
      rw [w64 (i := ((n + 1 : Nat) : Int) - 1) (by omega) (by omega), show ((n + 1 : Nat) : Int) - 1 = (n : Int) by omega, w64 (i := t4.1 - 10) (by omega) (by omega)]
      refine ih _ _ _ _ (m + 2) h4.2 (by omega) (by simp; omega) ⟨⟨by simp, by simp; omega⟩, fun x hx => ?_⟩
      rcases List.mem_append.1 hx with hx | hx
      · exact ho.2 x hx
      · rw [List.mem_singleton] at hx; omega
  obtain ⟨n, hn⟩ : ∃ n : Nat, t3.1 = (n : Int) := ⟨t3.1.toNat, by omega⟩
  rw [hn, w64 (i := t2.1 - 10) (by omega) (by omega)]
  refine key n _ _ _ _ (0 + 2 + 2) h3.2 (by omega) (by simp; omega) ⟨⟨by simp, by simp⟩, fun x hx => ?_⟩
  rw [List.mem_singleton] at hx; omega
theorem isList_w {l : List Int} (h : lOk l) : W (fun k _ => impl_isList.f k l) (· = true) :=
  impl_isList.w (W.dt (by have := h.1; omega) (W.bindE (areWithin_w l _ _ (by have := h.1; omega)) (W.ret (List.all_eq_true.2 fun x hx => inR_iff.2 (by have := h.2 x hx; omega)))))
/-! ### the middle -/
def midL (l : List Int) : Int := (T.sortedL l)[(l.length - 1) / 2]?.getD 0
theorem middle_w {l : List Int} (h : lOk l) : W (fun k _ => impl_MiddleOf.f k l) (· = (midL l, true)) := by
  refine impl_MiddleOf.w ?_
  unfold T.middleF
  exact W.t h.1.1 (W.t (by have := h.1; omega) (W.bindE (isList_w h) (W.t rfl (W.ret rfl))))
theorem mid_facts {l : List Int} (h : 1 ≤ l.length) : midL l ∈ l ∧ 2 * l.countP (fun x => decide (x < midL l)) ≤ l.length - 1 ∧ 2 * l.countP (fun x => decide (midL l < x)) ≤ l.length := by
  have hp : (T.sortedL l).Perm l := List.mergeSort_perm _ _
  have hs : (T.sortedL l).Pairwise (fun x y => x ≤ y) := by
    have := List.pairwise_mergeSort (le := fun x y : Int => decide (x ≤ y)) (fun a b c h1 h2 => by simp at *; omega) (fun a b => by simp; omega) l
    exact this.imp fun h => of_decide_eq_true h
  have hlen : (T.sortedL l).length = l.length := hp.length_eq
  have hm : (l.length - 1) / 2 < (T.sortedL l).length := by omega
  have hv : midL l = (T.sortedL l)[(l.length - 1) / 2] := by unfold midL; rw [List.getElem?_eq_getElem hm]; rfl
  have hcut : T.sortedL l = (T.sortedL l).take ((l.length - 1) / 2) ++ midL l :: (T.sortedL l).drop ((l.length - 1) / 2 + 1) := by rw [hv]; simp
  generalize T.sortedL l = S at *
  generalize midL l = v at *
  have ht : (S.take ((l.length - 1) / 2)).length = (l.length - 1) / 2 := by rw [List.length_take]; omega
  have hd : (S.drop ((l.length - 1) / 2 + 1)).length = l.length - ((l.length - 1) / 2 + 1) := by rw [List.length_drop]; omega
  rw [hcut, List.pairwise_append] at hs
  obtain ⟨_, s2, s3⟩ := hs
  rw [List.pairwise_cons] at s2
  refine ⟨hp.subset (by rw [hcut]; simp), ?_, ?_⟩
  · rw [← hp.countP_eq, hcut, List.countP_append, List.countP_cons_of_neg (by simp), List.countP_eq_zero (l := S.drop ((l.length - 1) / 2 + 1)).2 fun x hx => by have := s2.1 x hx; simp; omega]
    have := List.countP_le_length (p := fun x => decide (x < v)) (l := S.take ((l.length - 1) / 2))
    omega
  · rw [← hp.countP_eq, hcut, List.countP_append, List.countP_cons_of_neg (by simp), List.countP_eq_zero (l := S.take ((l.length - 1) / 2)).2 fun x hx => by have := s3 x hx v (by simp); simp; omega]
    have := List.countP_le_length (p := fun x => decide (v < x)) (l := S.drop ((l.length - 1) / 2 + 1))
    omega
theorem has_w {l : List Int} {v : Int} (hv : v ∈ l) (hl : l.length ≤ 1000) : W (fun k _ => laws_b10Has.f k l v) (· = true) := by
  refine laws_b10Has.w ?_
  have key : ∀ (rest pre : List Int), l = pre ++ rest → v ∈ rest → W (fun k m => (laws_b10Has.cs k m) l v (pre.length : Int)) (· = true) := by
    intro rest
    induction rest with
    | nil => intro pre e h; cases h
    | cons x rest ih =>
      intro pre e h
      have hlen : l.length = pre.length + (rest.length + 1) := by rw [e]; simp
      have hr : rd 0 l (pre.length : Int) = x := by rw [e]; exact rd_mid _ _ _
      refine laws_b10Has.w0 (W.dt (by omega) (W.t (by omega) (W.t (by omega) ?_)))
      rw [hr, w64 (i := (pre.length : Int) + 1) (by omega) (by omega)]
      refine W.di (fun _ => W.ret rfl) (fun hne => ?_)
      have := ih (pre ++ [x]) (by simp [e]) (by
        rcases List.mem_cons.1 h with rfl | h
        · exact (hne rfl).elim
        · exact h)
      rw [show ((pre ++ [x]).length : Int) = (pre.length : Int) + 1 by simp] at this
      exact this
  exact key l [] rfl hv
/-! ### the longest run -/
structure Run (l : List Int) (v b n i : Int) : Prop where
  b0 : 0 ≤ b
  left : b = 0 ∨ rd 0 l (b - 1) < v
  all : ∀ j : Int, b ≤ j → j < b + n → v ≤ rd 0 l j
  top : b + n ≤ i
theorem run_w {l : List Int} {v : Int} (h : lOk l) (hv : v ∈ l) : W (fun k _ => impl_LongestRun.f k l v) (fun r => r.2.2 = true ∧ 1 ≤ r.2.1 ∧ Run l v r.1 r.2.1 (l.length : Int) ∧ (r.1 + r.2.1 = (l.length : Int) ∨ rd 0 l (r.1 + r.2.1) < v)) := by
  refine impl_LongestRun.w (W.bindE (isList_w h) (W.ne rfl ?_))
  have hl := h.1
  have key : ∀ (rest pre : List Int) (b n s : Int), l = pre ++ rest → Run l v s ((pre.length : Int) - s) (pre.length : Int) → 0 ≤ n ∧ n ≤ (pre.length : Int) → 0 ≤ b → (pre.length : Int) - s ≤ n → s ≤ (pre.length : Int) →
      (n = 0 → ∀ x ∈ pre, x < v) → (1 ≤ n → Run l v b n (pre.length : Int) ∧ ((b = s ∧ b + n = (pre.length : Int)) ∨ (b + n < (pre.length : Int) ∧ rd 0 l (b + n) < v))) →
      W (fun k m => (impl_LongestRun.cs k m) v b n s l (l.length : Int) (pre.length : Int)) (fun r => r.2.2 = true ∧ 1 ≤ r.2.1 ∧ Run l v r.1 r.2.1 (l.length : Int) ∧ (r.1 + r.2.1 = (l.length : Int) ∨ rd 0 l (r.1 + r.2.1) < v)) := by
    intro rest
    induction rest with
    | nil =>
      intro pre b n s e R hn hb hsn hsl hz hbest
      rw [List.append_nil] at e
      refine impl_LongestRun.w0 (W.de (by rw [e]; omega) (W.di (fun h0 => ?_) (fun h0 => ?_)))
      · have := hz h0 v (by rw [← e]; exact hv); omega
      · obtain ⟨B, hB⟩ := hbest (by omega)
        have el : (l.length : Int) = (pre.length : Int) := by rw [e]
        rw [el]
        refine W.ret ⟨rfl, by dsimp only; omega, B, ?_⟩
        dsimp only
        rcases hB with ⟨_, hB⟩ | ⟨_, hB⟩
        · left; exact hB
        · right; exact hB
    | cons x rest ih =>
      intro pre b n s e R hn hb hsn hsl hz hbest
      have hlen : l.length = pre.length + (rest.length + 1) := by rw [e]; simp
      have hr : rd 0 l (pre.length : Int) = x := by rw [e]; exact rd_mid _ _ _
      have hp : ((pre ++ [x]).length : Int) = (pre.length : Int) + 1 := by simp
      have e' : l = (pre ++ [x]) ++ rest := by simp [e]
      have s0 := R.b0
      refine impl_LongestRun.w0 (W.dt (by omega) (W.t (by omega) (W.t (by omega) ?_)))
      rw [hr, w64 (i := (pre.length : Int) + 1) (by omega) (by omega), w64 (i := (pre.length : Int) + 1 - s) (by omega) (by omega)]
      have snoc : ∀ {y : Int}, y ∈ pre ++ [x] → y ∈ pre ∨ y = x := fun hy => by
        rcases List.mem_append.1 hy with hy | hy
        · exact .inl hy
        · exact .inr (List.mem_singleton.1 hy)
      refine W.di (fun hlt => ?_) (fun hge => W.di (fun hgt => ?_) (fun hle => ?_))
      · have := ih (pre ++ [x]) b n ((pre.length : Int) + 1) e' (by
          rw [hp]
          exact ⟨by omega, .inr (by rw [show (pre.length : Int) + 1 - 1 = (pre.length : Int) by omega, hr]; exact hlt), fun j h1 h2 => by omega, by omega⟩) (by rw [hp]; omega) hb (by rw [hp]; omega) (by rw [hp]; omega)
          (fun h0 y hy => by rcases snoc hy with hy | rfl; exact hz h0 y hy; exact hlt)
          (fun h1 => by
            obtain ⟨B, hB⟩ := hbest h1
            rw [hp]
            refine ⟨⟨B.b0, B.left, B.all, by have := B.top; omega⟩, .inr ?_⟩
            rcases hB with ⟨_, hB⟩ | ⟨h2, hB⟩
            · rw [hB, hr]; exact ⟨by omega, hlt⟩
            · exact ⟨by omega, hB⟩)
        rw [hp] at this
        exact this
      · have R' : Run l v s ((pre.length : Int) + 1 - s) ((pre.length : Int) + 1) := ⟨s0, R.left, fun j h1 h2 => by
          by_cases hj : j = (pre.length : Int)
          · rw [hj, hr]; omega
          · exact R.all j h1 (by omega), by omega⟩
        have := ih (pre ++ [x]) s ((pre.length : Int) + 1 - s) s e' (by rw [hp]; exact R') (by rw [hp]; omega) s0 (by rw [hp]; omega) (by rw [hp]; omega) (fun h0 => by omega)
          (fun _ => by rw [hp]; exact ⟨R', .inl ⟨rfl, by omega⟩⟩)
        rw [hp] at this
        exact this
      · have R' : Run l v s ((pre.length : Int) + 1 - s) ((pre.length : Int) + 1) := ⟨s0, R.left, fun j h1 h2 => by
          by_cases hj : j = (pre.length : Int)
          · rw [hj, hr]; omega
          · exact R.all j h1 (by omega), by omega⟩
        have := ih (pre ++ [x]) b n s e' (by rw [hp]; exact R') (by rw [hp]; omega) hb (by rw [hp]; omega) (by rw [hp]; omega) (fun h0 => by omega)
          (fun h1 => by
            obtain ⟨B, hB⟩ := hbest h1
            rw [hp]
            refine ⟨⟨B.b0, B.left, B.all, by have := B.top; omega⟩, ?_⟩
            rcases hB with ⟨h3, h4⟩ | ⟨h2, hB⟩
            · omega
            · exact .inr ⟨by omega, hB⟩)
        rw [hp] at this
        exact this
  exact key l [] 0 0 0 rfl ⟨by omega, .inl rfl, fun j h1 h2 => by simp at h2; omega, by simp⟩ (by simp) (by omega) (by simp) (by simp) (fun _ x hx => by simp at hx) (fun h1 => by omega)
end Go.Proofs.Ytdcpjbheedofdaa.R

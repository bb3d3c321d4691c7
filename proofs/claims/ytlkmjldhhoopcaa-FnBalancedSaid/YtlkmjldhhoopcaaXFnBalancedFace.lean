/- The ground: faces and weights. -/
import Derived.Test.YtlkmjldhhoopcaaXFnBalancedGnd6
namespace Go.Proofs.Ytlkmjldhhoopcaa.R
open Go.Rv Go.Rv.Ax
set_option linter.unusedVariables false
set_option linter.unusedSimpArgs false
def clF (T : List Int) (ht : Int) : Int := if clsR ht T 0 (-1) < 0 then (T.length : Int) else clsR ht T 0 (-1)
theorem clsR_range (ht : Int) : ∀ (T : List Int) (k c : Int), -1 ≤ c → c < k → 0 ≤ k → -1 ≤ clsR ht T k c ∧ clsR ht T k c < k + (T.length : Int)
  | [], k, c, h1, h2, h3 => by simp only [clsR, List.length_nil]; omega
  | x :: T, k, c, h1, h2, h3 => by
    simp only [clsR, List.length_cons]
    have := clsR_range ht T (k + 1) (if ht < x then k else c) (by split <;> omega) (by split <;> omega) (by omega)
    omega
theorem clsR_all (ht : Int) : ∀ (T : List Int) (k c : Int), (∀ x ∈ T, ht < x) → T ≠ [] → clsR ht T k c = k + (T.length : Int) - 1
  | [], k, c, _, h => (h rfl).elim
  | [x], k, c, h, _ => by
    have := h x (by simp)
    simp only [clsR, if_pos this, List.length_singleton]; omega
  | x :: y :: T, k, c, h, _ => by
    rw [clsR, clsR_all ht (y :: T) (k + 1) _ (fun z hz => h z (List.mem_cons_of_mem _ hz)) (by simp)]
    simp only [List.length_cons]; omega
theorem clsR_none (ht : Int) : ∀ (T : List Int) (k c : Int), (∀ x ∈ T, ¬ht < x) → clsR ht T k c = c
  | [], k, c, _ => rfl
  | x :: T, k, c, h => by rw [clsR, if_neg (h x (by simp))]; exact clsR_none ht T _ c fun z hz => h z (List.mem_cons_of_mem _ hz)
theorem clF_range (T : List Int) (ht : Int) : 0 ≤ clF T ht ∧ clF T ht ≤ (T.length : Int) := by
  have := clsR_range ht T 0 (-1) (by omega) (by omega) (by omega)
  unfold clF; split <;> omega
def parts : List Int := [52, 90, 111, 122, 125, 125, 122, 111, 90, 52]
def faceGo (T : List Int) (h : Int) : Int → List Int → List Int → List Int
  | _, [], out => out
  | i, p :: ps, out => faceGo T h (i + 1) ps (out.set (clF T (h + 300 * (2 * i - 9))).toNat (rd 0 out (clF T (h + 300 * (2 * i - 9))) + p))
def face (T : List Int) (h : Int) : List Int := faceGo T h 0 parts (List.replicate (T.length + 1) 0)
theorem rd_nn {l : List Int} {m : Int} (h : ∀ x ∈ l, 0 ≤ x ∧ x ≤ m) (hm : 0 ≤ m) (i : Int) : 0 ≤ rd 0 l i ∧ rd 0 l i ≤ m := by
  unfold rd
  rw [List.getD_eq_getElem?_getD]
  cases hc : l[i.toNat]? with
  | none => simp; omega
  | some x => exact h x (List.mem_of_getElem? hc)
theorem sum_set : ∀ (l : List Int) (i : Nat) (p : Int), i < l.length → (l.set i (l.getD i 0 + p)).sum = l.sum + p
  | x :: l, 0, p, _ => by simp; omega
  | x :: l, i + 1, p, h => by
    have := sum_set l i p (by simpa using h)
    simp at this ⊢; omega
theorem faceGo_len (T : List Int) (h : Int) : ∀ (ps : List Int) (i : Int) (out : List Int), (faceGo T h i ps out).length = out.length
  | [], _, _ => rfl
  | p :: ps, i, out => by rw [faceGo, faceGo_len]; simp
theorem faceGo_nn (T : List Int) (h : Int) : ∀ (ps : List Int) (i m : Int) (out : List Int), (∀ p ∈ ps, 0 ≤ p ∧ p ≤ 200) → 0 ≤ m → (∀ x ∈ out, 0 ≤ x ∧ x ≤ m) → ∀ x ∈ faceGo T h i ps out, 0 ≤ x ∧ x ≤ m + 200 * (ps.length : Int)
  | [], i, m, out, _, _, ho, x, hx => by have := ho x hx; simp; omega
  | p :: ps, i, m, out, hp, hm, ho, x, hx => by
    have hpp := hp p (by simp)
    have := faceGo_nn T h ps (i + 1) (m + 200) _ (fun q hq => hp q (List.mem_cons_of_mem _ hq)) (by omega) (fun y hy => by
      rcases List.mem_or_eq_of_mem_set hy with hy | hy
      · have := ho y hy; omega
      · have := rd_nn ho hm (clF T (h + 300 * (2 * i - 9))); omega) x hx
    simp only [List.length_cons]; omega
theorem faceGo_sum (T : List Int) (h : Int) : ∀ (ps : List Int) (i : Int) (out : List Int), out.length = T.length + 1 → (faceGo T h i ps out).sum = out.sum + ps.sum
  | [], i, out, _ => by simp [faceGo]
  | p :: ps, i, out, hl => by
    have hc := clF_range T (h + 300 * (2 * i - 9))
    rw [faceGo, faceGo_sum T h ps (i + 1) _ (by simpa using hl)]
    have := sum_set out (clF T (h + 300 * (2 * i - 9))).toNat p (by omega)
    unfold rd
    rw [this]; simp; omega
theorem faceGo_all (T : List Int) (h c : Int) : ∀ (ps : List Int) (i : Int) (out : List Int), out.length = T.length + 1 → (∀ j, i ≤ j → j < i + (ps.length : Int) → clF T (h + 300 * (2 * j - 9)) = c) → 0 ≤ c ∧ c ≤ (T.length : Int) → rd 0 (faceGo T h i ps out) c = rd 0 out c + ps.sum
  | [], i, out, _, _, _ => by simp [faceGo]
  | p :: ps, i, out, hl, hc, hr => by
    rw [faceGo, hc i (by omega) (by simp only [List.length_cons]; omega), faceGo_all T h c ps (i + 1) _ (by simpa using hl) (fun j h1 h2 => hc j (by omega) (by simp only [List.length_cons]; omega)) hr]
    have hlt : c.toNat < out.length := by omega
    have e : rd 0 (out.set c.toNat (rd 0 out c + p)) c = rd 0 out c + p := by
      conv => lhs; unfold rd
      rw [List.getD_eq_getElem?_getD, List.getElem?_set_self hlt]; rfl
    rw [e]; simp; omega
theorem parts_ok : ∀ p ∈ parts, 0 ≤ p ∧ p ≤ 200 := by unfold parts; simp
theorem rep_ok (n : Nat) : ∀ x ∈ List.replicate n (0 : Int), 0 ≤ x ∧ x ≤ 0 := fun x hx => by have := (List.mem_replicate.1 hx).2; omega
theorem rep_sum (n : Nat) : (List.replicate n (0 : Int)).sum = 0 := by
  induction n with
  | zero => rfl
  | succ n ih => rw [List.replicate_succ, List.sum_cons, ih]; rfl
structure FaceP (T F : List Int) : Prop where
  len : F.length = T.length + 1
  nn : ∀ x ∈ F, 0 ≤ x ∧ x ≤ 2000
  sum : F.sum = 1000
theorem faceP (T : List Int) (h : Int) : FaceP T (face T h) where
  len := by unfold face; rw [faceGo_len]; simp
  nn := by have := faceGo_nn T h parts 0 0 (List.replicate (T.length + 1) 0) parts_ok (by omega) (rep_ok _); simpa [face, parts] using this
  sum := by unfold face; rw [faceGo_sum _ _ _ _ _ (by simp), rep_sum]; rfl
theorem face_all (T : List Int) (h c : Int) (hc : ∀ j, 0 ≤ j → j < 10 → clF T (h + 300 * (2 * j - 9)) = c) : rd 0 (face T h) c = 1000 := by
  have hr := clF_range T (h + 300 * (2 * 0 - 9))
  rw [hc 0 (by omega) (by omega)] at hr
  unfold face
  rw [faceGo_all T h c parts 0 _ (by simp) (fun j h1 h2 => hc j h1 (by simpa [parts] using h2)) hr]
  have : rd 0 (List.replicate (T.length + 1) (0 : Int)) c = 0 := by
    have := rd_nn (rep_ok (T.length + 1)) (by omega) c; omega
  rw [this]; rfl
theorem face_w {D : List Int} {H : List Ho} (g : gOk D H) (r : Int) (hr : 0 ≤ r ∧ r ≤ 60) (h : Int) (hh : -200000 ≤ h ∧ h ≤ 200000) : W (fun k _ => impl_Ground_face.f k D H r h) (· = face (topsGo none H r) h) := by
  have hT := (topsP g r).len
  have hD := g.1
  have hcl := fun ht => class_w g r hr ht
  refine impl_Ground_face.w ?_
  rw [w64 (i := (D.length : Int) + 1) (by omega) (by omega), show ((D.length : Int) + 1).toNat = D.length + 1 by omega]
  unfold face
  generalize topsGo none H r = T at *
  refine W.t (by omega) (W.t (by omega) (W.t (by omega) ?_))
  rw [← hT]
  have key : ∀ (ps pre out : List Int), parts = pre ++ ps → out.length = T.length + 1 → (∀ x ∈ out, 0 ≤ x ∧ x ≤ 200 * (pre.length : Int)) →
      W (fun k j => (impl_Ground_face.cs k j) r h D H out parts 10 (pre.length : Int)) (· = faceGo T h (pre.length : Int) ps out) := by
    intro ps
    induction ps with
    | nil =>
      intro pre out e hl ho
      have : parts.length = pre.length := by rw [e]; simp
      have : parts.length = 10 := rfl
      exact impl_Ground_face.w0 (W.de (by omega) (W.ret rfl))
    | cons p ps ih =>
      intro pre out e hl ho
      have h1 : parts.length = pre.length + (ps.length + 1) := by rw [e]; simp
      have h2 : parts.length = 10 := rfl
      have hx : rd 0 parts (pre.length : Int) = p := by rw [e]; exact rd_mid _ _ _
      have hp := parts_ok p (by rw [e]; simp)
      have hpl : ((pre ++ [p]).length : Int) = (pre.length : Int) + 1 := by simp
      refine impl_Ground_face.w0 (W.dt (by omega) (W.t (by omega) (W.t (by omega) ?_)))
      rw [hx, w64 (i := 2 * (pre.length : Int)) (by omega) (by omega), w64 (i := 2 * (pre.length : Int) - 9) (by omega) (by omega), w64 (i := 300 * (2 * (pre.length : Int) - 9)) (by omega) (by omega), w64 (i := h + 300 * (2 * (pre.length : Int) - 9)) (by omega) (by omega), w64 (i := (pre.length : Int) + 1) (by omega) (by omega)]
      refine W.bindE (hcl _) ?_
      have hcr := clsR_range (h + 300 * (2 * (pre.length : Int) - 9)) T 0 (-1) (by omega) (by omega) (by omega)
      have step : ∀ c : Int, clF T (h + 300 * (2 * (pre.length : Int) - 9)) = c → W (fun k j => (impl_Ground_face.cs k j) r h D H (out.set c.toNat (wrap64 (rd 0 out c + p))) parts 10 ((pre.length : Int) + 1)) (· = faceGo T h (pre.length : Int) (p :: ps) out) := by
        intro c hc
        have hb := rd_nn ho (by omega) c
        rw [w64 (i := rd 0 out c + p) (by omega) (by omega)]
        have := ih (pre ++ [p]) (out.set c.toNat (rd 0 out c + p)) (by simp [e]) (by simpa using hl) (fun x hxm => by
          rw [hpl]
          rcases List.mem_or_eq_of_mem_set hxm with hxm | hxm
          · have := ho x hxm; omega
          · omega)
        rw [hpl] at this
        rw [faceGo, hc]
        exact this
      refine W.di (fun hneg => W.t (by omega) (W.t (by omega) (W.t (by omega) (W.t (by omega) ?_)))) (fun hpos => W.t (by omega) (W.t (by omega) (W.t (by omega) (W.t (by omega) ?_))))
      · rw [← hT]; exact step _ (by unfold clF; rw [if_pos hneg])
      · exact step _ (by unfold clF; rw [if_neg hpos])
  exact key parts [] _ rfl (by simp) (fun x hx => by have := rep_ok _ x hx; simp; omega)
/-! ### weights -/
def dot : List Int → List Int → Int
  | x :: xs, y :: ys => x * y + dot xs ys
  | _, _ => 0
def er : List Int → List Int → Int
  | x :: xs, _ :: ys => x + er xs ys
  | _, _ => 0
theorem er_sum : ∀ (D F : List Int), F.length = D.length + 1 → er F D = F.sum - rd 0 F (D.length : Int)
  | [], [z], _ => by simp [er, rd]
  | d :: D, f :: F, h => by
    have ih := er_sum D F (by simpa using h)
    have : rd 0 (f :: F) (((d :: D).length : Nat) : Int) = rd 0 F (D.length : Int) := by simp [rd]
    rw [er, ih, this]; simp; omega
  | [], [], h => by simp at h
  | [], _ :: _ :: _, h => by simp at h
  | _ :: _, [], h => by simp at h
theorem dot_bd (lo hi : Int) : ∀ (D F : List Int), (∀ x ∈ F, 0 ≤ x) → (∀ d ∈ D, lo ≤ d ∧ d ≤ hi) → lo * er F D ≤ dot F D ∧ dot F D ≤ hi * er F D
  | [], F, _, _ => by cases F <;> simp [er, dot]
  | d :: D, [], _, _ => by simp [er, dot]
  | d :: D, f :: F, hF, hD => by
    have ih := dot_bd lo hi D F (fun x hx => hF x (List.mem_cons_of_mem _ hx)) (fun x hx => hD x (List.mem_cons_of_mem _ hx))
    have h1 := hF f (by simp)
    have h2 := hD d (by simp)
    have a1 := Int.mul_le_mul_of_nonneg_right h2.1 h1
    have a2 := Int.mul_le_mul_of_nonneg_right h2.2 h1
    simp only [er, dot, Int.mul_add]
    rw [Int.mul_comm f d]
    omega
theorem round_w (S : Int) (hS : 0 ≤ S ∧ S ≤ 100000000) : W (fun k _ => impl_roundOf.f k S 20) (fun (w : Int) => 0 ≤ w ∧ -10 ≤ 20 * w - S ∧ 20 * w - S ≤ 10) := by
  refine impl_roundOf.w (impl_roundOf.wr (W.de (by omega) (W.e (by omega) (W.e (by omega) ?_))))
  rw [Int.tdiv_eq_ediv_of_nonneg hS.1, Int.tmod_eq_emod_of_nonneg hS.1, w64 (i := S / 20) (by omega) (by omega), w64 (i := S / 20 + 1) (by omega) (by omega), w64 (i := 20 - S % 20) (by omega) (by omega)]
  exact W.di (fun _ => W.ret (by omega)) (fun _ => W.ret (by omega))
theorem mul_bd {x y m n : Int} (hx : 0 ≤ x ∧ x ≤ m) (hy : 0 ≤ y ∧ y ≤ n) : 0 ≤ x * y ∧ x * y ≤ m * n := by
  refine ⟨Int.mul_nonneg hx.1 hy.1, ?_⟩
  exact Int.mul_le_mul hx.2 hy.2 hy.1 (by omega)
theorem weight_w {D : List Int} {H : List Ho} (g : gOk D H) (r : Int) (hr : 0 ≤ r ∧ r ≤ 60) (h : Int) (hh : -200000 ≤ h ∧ h ≤ 200000) : W (fun k _ => impl_Ground_weight.f k D H r h) (fun (w : Int) => 0 ≤ w ∧ w ≤ 2000000 ∧ -10 ≤ 20 * w - dot (face (topsGo none H r) h) D ∧ 20 * w - dot (face (topsGo none H r) h) D ≤ 10) := by
  have hT := (topsP g r).len
  have hD := g.1
  have hDx := g.2.1
  refine impl_Ground_weight.w (W.bindE (face_w g r hr h hh) ?_)
  have hF := faceP (topsGo none H r) h
  generalize face (topsGo none H r) h = F at *
  obtain ⟨f1, f2, f3⟩ := hF
  rw [hT] at f1
  have key : ∀ (rest pre fs fpre : List Int) (acc : Int), D = pre ++ rest → F = fpre ++ fs → fpre.length = pre.length → acc + dot fs rest = dot F D → (0 ≤ acc ∧ acc ≤ 6000000 * (pre.length : Int)) →
      W (fun k j => (impl_Ground_weight.cs k j) acc F D (D.length : Int) (pre.length : Int)) (fun (w : Int) => 0 ≤ w ∧ w ≤ 2000000 ∧ -10 ≤ 20 * w - dot F D ∧ 20 * w - dot F D ≤ 10) := by
    intro rest
    induction rest with
    | nil =>
      intro pre fs fpre acc e1 e2 el ha hb
      have hp : D.length = pre.length := by rw [e1]; simp
      have hz : dot fs [] = 0 := by cases fs <;> rfl
      refine impl_Ground_weight.w0 (W.de (by omega) (W.bind (round_w acc (by omega)) fun (w : Int) hw => W.ret ?_))
      omega
    | cons d rest ih =>
      intro pre fs fpre acc e1 e2 el ha hb
      have h1 : D.length = pre.length + (rest.length + 1) := by rw [e1]; simp
      have h2 : F.length = fpre.length + fs.length := by rw [e2]; simp
      obtain ⟨f, fs, rfl⟩ : ∃ y z, fs = y :: z := by
        cases fs with
        | nil => simp at h2; omega
        | cons y z => exact ⟨y, z, rfl⟩
      have hx : rd 0 D (pre.length : Int) = d := by rw [e1]; exact rd_mid _ _ _
      have hy : rd 0 F (pre.length : Int) = f := by rw [e2, ← el]; exact rd_mid _ _ _
      have b1 := hDx d (by rw [e1]; simp)
      have b2 := f2 f (by rw [e2]; simp)
      have b3 := mul_bd (x := f) (y := d) b2 ⟨by omega, b1.2⟩
      have hpl : ((pre ++ [d]).length : Int) = (pre.length : Int) + 1 := by simp
      refine impl_Ground_weight.w0 (W.dt (by omega) (W.t (by omega) (W.t (by omega) (W.t (by omega) (W.t (by omega) ?_)))))
      rw [hx, hy, w64 (i := f * d) (by omega) (by omega), w64 (i := acc + f * d) (by omega) (by omega), w64 (i := (pre.length : Int) + 1) (by omega) (by omega)]
      have := ih (pre ++ [d]) fs (fpre ++ [f]) (acc + f * d) (by simp [e1]) (by simp [e2]) (by simp [el]) (by rw [← ha, dot]; omega) (by rw [hpl]; omega)
      rw [hpl] at this
      exact this
  exact key D [] F [] 0 rfl rfl rfl (by omega) (by simp)
end Go.Proofs.Ytlkmjldhhoopcaa.R

/- The faces of a ground: the plain statement. -/
import Derived.Test.YtlkmjldhhoopcaaXFnFacesFace
import Derived.Test.YtlkmjldhhoopcaaXFnFacesLm
import Derived.Test.YtlkmjldhhoopcaaRvPuFnFaces
namespace Go.Proofs.Ytlkmjldhhoopcaa.Pure
open Go.Rv Go.Rv.Ax R
set_option linter.unusedVariables false
set_option linter.unusedSimpArgs false
theorem place_w {r h : Int} (hr : 0 ≤ r ∧ r ≤ 60) (hh : -100000 ≤ h ∧ h ≤ 100000) : W (fun k _ => impl_isPlace.f k r h) (· = true) :=
  impl_isPlace.w (W.bindN (fun k => within_eq k _ _ _) (W.t (inR_iff.2 hr) (W.bindN (fun k => within_eq k _ _ _) (W.ret (inR_iff.2 hh)))))
theorem faceOf_w {D : List Int} {H : List Ho} (g : gOk D H) (r : Int) (hr : 0 ≤ r ∧ r ≤ 60) (h : Int) (hh : -100000 ≤ h ∧ h ≤ 100000) : W (fun k _ => impl_FaceOf.f k D H r h) (· = (face (topsGo none H r) h, true)) :=
  impl_FaceOf.w (W.bindE (valid_w g) (W.ne rfl (W.bindE (place_w hr hh) (W.ne rfl (W.bindE (face_w g r hr h (by omega)) (W.ret rfl))))))
theorem weightOf_w {D : List Int} {H : List Ho} (g : gOk D H) (r : Int) (hr : 0 ≤ r ∧ r ≤ 60) (h : Int) (hh : -100000 ≤ h ∧ h ≤ 100000) : W (fun k _ => impl_WeightOf.f k D H r h) (fun p => p.2 = true ∧ 0 ≤ p.1 ∧ p.1 ≤ 2000000 ∧ -10 ≤ 20 * p.1 - dot (face (topsGo none H r) h) D ∧ 20 * p.1 - dot (face (topsGo none H r) h) D ≤ 10) :=
  impl_WeightOf.w (W.bindE (valid_w g) (W.ne rfl (W.bindE (place_w hr hh) (W.ne rfl (W.bind (weight_w g r hr h (by omega)) fun (w : Int) hw => W.ret ⟨rfl, hw⟩)))))
theorem sum_w (l : List Int) (hl : l.length ≤ 10) (hb : ∀ x ∈ l, 0 ≤ x ∧ x ≤ 2000) : W (fun k _ => laws_r8Sum.f k l) (· = l.sum) := by
  refine laws_r8Sum.w ?_
  have key : ∀ (rest pre : List Int) (acc : Int), l = pre ++ rest → acc + rest.sum = l.sum → (0 ≤ acc ∧ acc ≤ 2000 * (pre.length : Int)) → W (fun k j => (laws_r8Sum.cs k j) l acc (pre.length : Int)) (· = l.sum) := by
    intro rest
    induction rest with
    | nil =>
      intro pre acc e ha hb
      exact laws_r8Sum.w0 (W.de (by rw [e]; simp) (W.ret (by simp at ha; omega)))
    | cons x rest ih =>
      intro pre acc e ha hacc
      have hlen : l.length = pre.length + (rest.length + 1) := by rw [e]; simp
      have hx : rd 0 l (pre.length : Int) = x := by rw [e]; exact rd_mid _ _ _
      have hp : ((pre ++ [x]).length : Int) = (pre.length : Int) + 1 := by simp
      have b := hb x (by rw [e]; simp)
      refine laws_r8Sum.w0 (W.dt (by omega) (W.t (by omega) (W.t (by omega) ?_)))
      rw [hx, w64 (i := acc + x) (by omega) (by omega), w64 (i := (pre.length : Int) + 1) (by omega) (by omega)]
      have := ih (pre ++ [x]) (acc + x) (by simp [e]) (by simp at ha; omega) (by rw [hp]; omega)
      rw [hp] at this
      exact this
  exact key l [] 0 rfl (by omega) (by simp)
theorem FnFaces : PureFnFaces := by
  intro c0 c1 h0 h1
  refine W.yes (laws_FnFaces.w ?_)
  refine W.bind (laws_r8Long.w (W.di (fun h => W.ret (P := fun _ => True) trivial) (fun h => W.ret trivial))) fun b _ => ?_
  refine W.bi (fun h => W.ret rfl) (fun h => ?_)
  have hc1 : ∀ b ∈ c1, 0 ≤ b ∧ b ≤ 255 := fun b hb => wf_u8' (h1.2 b hb)
  refine W.bind (r8GroundT_w fun b hb => wf_u8' (h0.2 b hb)) ?_
  rintro ⟨D, H⟩ ⟨(g : gOk D H), ht⟩
  dsimp only at ht ⊢
  have hD := g.1
  refine W.bind (r8At_w hc1 0 61 (by omega) (by omega)) fun (r : Int) hr => ?_
  refine W.bind (r8At_w hc1 1 200 (by omega) (by omega)) fun (t : Int) htt => ?_
  rw [w64 (i := 50 * t) (by omega) (by omega), w64 (i := 50 * t - 1000) (by omega) (by omega), w64 (i := (D.length : Int) + 1) (by omega) (by omega), w64 (i := (D.length : Int) - 1) (by omega) (by omega)]
  have hT := topsP g r
  have hlen := hT.len
  have hTb := hT.ok (-40000) 8000 ht
  have hF := faceP (topsGo none H r) (50 * t - 1000)
  have hG := faceP (topsGo none H r) (-100000)
  have hK := faceP (topsGo none H r) 100000
  have hne : topsGo none H r ≠ [] := fun e => by rw [e] at hlen; simp at hlen; omega
  have deep : rd 0 (face (topsGo none H r) (-100000)) ((D.length : Int) - 1) = 1000 := face_all _ _ _ fun j j1 j2 => by
    unfold clF
    rw [clsR_all _ _ _ _ (fun x hx => by have := hTb x hx; omega) hne, if_neg (by omega), hlen]; omega
  have high : rd 0 (face (topsGo none H r) 100000) (D.length : Int) = 1000 := face_all _ _ _ fun j j1 j2 => by
    unfold clF
    rw [clsR_none _ _ _ _ (fun x hx => by have := hTb x hx; omega), if_pos (by omega), hlen]
  refine W.bindE (faceOf_w g r (by omega) _ (by omega)) (W.bind (weightOf_w g r (by omega) _ (by omega)) ?_)
  rintro ⟨w, q⟩ ⟨hq, w0, w1, w2, w3⟩
  dsimp only at hq w0 w1 w2 w3
  subst hq
  refine W.bindE (faceOf_w g r (by omega) _ (by omega)) (W.bindE (faceOf_w g r (by omega) _ (by omega)) ?_)
  dsimp only
  rw [deep, high]
  have l1 := hF.len
  have l2 := hG.len
  have l3 := hK.len
  refine W.ne rfl (W.ne rfl (W.ne rfl (W.ne rfl (W.nde (by omega) (W.nde (by omega) (W.nde (by omega) (W.bindE (sum_w _ (by omega) hF.nn) ?_)))))))
  refine W.nde hF.sum (W.t (by omega) (W.t (by omega) (W.nde rfl (W.t (by omega) (W.t (by omega) (W.nde rfl (laws_FnFaces.w0 ?_)))))))
  generalize face (topsGo none H r) (50 * t - 1000) = F at *
  obtain ⟨f1, f2, f3⟩ := hF
  refine W.t (by omega) (W.t (by omega) (W.t (by omega) (W.t (by omega) ?_)))
  have key : ∀ (rest pre : List Int) (lo hi : Int), D = pre ++ rest → (1 ≤ lo ∧ lo ≤ hi ∧ hi ≤ 3000) → (∀ x ∈ pre, lo ≤ x ∧ x ≤ hi) → W (fun k j => (laws_FnFaces.cs k j).2 D H (D.length : Int) F w lo hi (pre.length : Int)) (· = true) := by
    intro rest
    induction rest with
    | nil =>
      intro pre lo hi e hb hp
      have e : D = pre := by simpa using e
      have he := er_sum D F (by omega)
      have hd := dot_bd lo hi D F (fun x hx => (f2 x hx).1) (by rw [e]; exact hp)
      have hz := rd_nn f2 (by omega) (D.length : Int)
      have he0 : 0 ≤ er F D ∧ er F D ≤ 1000 := by
        refine ⟨?_, by omega⟩
        have h1 := dot_bd 1 1 (D.map fun _ => 1) F (fun x hx => (f2 x hx).1) (fun d hd => by obtain ⟨_, _, rfl⟩ := List.mem_map.1 hd; omega)
        have h2 : ∀ (D F : List Int), (∀ x ∈ F, 0 ≤ x) → 0 ≤ er F D := by
          intro D
          induction D with
          | nil => intro F _; cases F <;> simp [er]
          | cons d D ih =>
            intro F hF
            cases F with
            | nil => simp [er]
            | cons f F =>
              have := ih F fun x hx => hF x (List.mem_cons_of_mem _ hx)
              have := hF f (by simp)
              simp only [er]; omega
        exact h2 D F fun x hx => (f2 x hx).1
      have hE : 1000 - rd 0 F (D.length : Int) = er F D := by omega
      have m1 := mul_bd (x := lo) (y := er F D) (m := 3000) (n := 1000) (by omega) he0
      have m2 := mul_bd (x := hi) (y := er F D) (m := 3000) (n := 1000) (by omega) he0
      refine laws_FnFaces.w1 (W.de (by rw [e]; omega) (W.t (by omega) (W.t (by omega) ?_)))
      rw [w64 (i := 1000 - rd 0 F (D.length : Int)) (by omega) (by omega), hE, w64 (i := lo * er F D) (by omega) (by omega), w64 (i := lo * er F D - 20) (by omega) (by omega), w64 (i := hi * er F D) (by omega) (by omega), w64 (i := hi * er F D + 20) (by omega) (by omega), w64 (i := 20 * w) (by omega) (by omega)]
      exact W.dt (by omega) (W.ret (decide_eq_true (by omega)))
    | cons x rest ih =>
      intro pre lo hi e hb hp
      have hl : D.length = pre.length + (rest.length + 1) := by rw [e]; simp
      have hx : rd 0 D (pre.length : Int) = x := by rw [e]; exact rd_mid _ _ _
      have hpl : ((pre ++ [x]).length : Int) = (pre.length : Int) + 1 := by simp
      have b := g.2.1 x (by rw [e]; simp)
      refine laws_FnFaces.w1 (W.dt (by omega) (W.t (by omega) (W.t (by omega) (W.bindN (fun k => least_eq k _ _) (W.t (by omega) (W.t (by omega) (W.bindN (fun k => most_eq k _ _) ?_)))))))
      rw [hx, w64 (i := (pre.length : Int) + 1) (by omega) (by omega)]
      have := ih (pre ++ [x]) (if lo < x then lo else x) (if x < hi then hi else x) (by simp [e]) (by split <;> split <;> omega) (fun y hy => by
        rcases List.mem_append.1 hy with hy | hy
        · have := hp y hy; split <;> split <;> omega
        · simp at hy; subst hy; split <;> split <;> omega)
      rw [hpl] at this
      exact this
  have hb := g.2.1 (rd 0 D 0) (by rw [rd_ofNat (by omega) (by omega)]; exact List.getElem_mem _)
  exact key D [] _ _ rfl (by omega) (by simp)
end Go.Proofs.Ytlkmjldhhoopcaa.Pure

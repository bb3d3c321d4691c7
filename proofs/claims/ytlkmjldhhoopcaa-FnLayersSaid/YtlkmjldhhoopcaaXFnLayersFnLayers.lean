/- The layers of a ground: the plain statement. -/
import Derived.Test.YtlkmjldhhoopcaaXFnLayersGnd6
import Derived.Test.YtlkmjldhhoopcaaXFnLayersLm
import Derived.Test.YtlkmjldhhoopcaaRvPuFnLayers
namespace Go.Proofs.Ytlkmjldhhoopcaa.Pure
open Go.Rv Go.Rv.Ax R
set_option linter.unusedVariables false
set_option linter.unusedSimpArgs false
theorem same_w (l : List Int) (hl : l.length ≤ 1000) : W (fun k _ => laws_r8Same.f k l l) (· = true) := by
  refine laws_r8Same.w (W.nde rfl ?_)
  have key : ∀ (rest pre : List Int), l = pre ++ rest → W (fun k i => (laws_r8Same.cs k i) l l (pre.length : Int)) (· = true) := by
    intro rest
    induction rest with
    | nil => intro pre e; exact laws_r8Same.w0 (W.de (by rw [e]; simp) (W.ret rfl))
    | cons x rest ih =>
      intro pre e
      have hlen : l.length = pre.length + (rest.length + 1) := by rw [e]; simp
      refine laws_r8Same.w0 (W.dt (by omega) (W.t (by omega) (W.t (by omega) (W.t (by omega) (W.t (by omega) (W.nde rfl ?_))))))
      have := ih (pre ++ [x]) (by simp [e])
      rw [w64 (by omega) (by omega)]
      simpa using this
  exact key l [] rfl
theorem classAt_w {D : List Int} {H : List Ho} (g : gOk D H) (r : Int) (hr : 0 ≤ r ∧ r ≤ 60) (ht : Int) (hh : -100000 ≤ ht ∧ ht ≤ 100000) : W (fun k _ => impl_ClassAt.f k D H r ht) (· = (clsR ht (topsGo none H r) 0 (-1), true)) :=
  impl_ClassAt.w (W.bindE (valid_w g) (W.ne rfl (W.bindE (impl_isPlace.w (W.bindN (fun k => within_eq k _ _ _) (W.t (inR_iff.2 hr) (W.bindN (fun k => within_eq k _ _ _) (W.ret (inR_iff.2 hh)))))) (W.ne rfl (W.bindE (class_w g r hr ht) (W.ret rfl))))))
theorem bef_len {n : Nat} (r : Int) : ∀ (H : List Ho) (b : List Int), (∀ h ∈ H, h.2.length = n) → b.length = n → (H.foldl (bef r) b).length = n
  | [], b, _, hb => hb
  | h :: H, b, hH, hb => bef_len r H _ (fun g hg => hH g (by simp [hg])) (by unfold bef; split; exact hH h (by simp); exact hb)
theorem beh_len {n : Nat} (r : Int) : ∀ (H : List Ho) (b : List Int), (∀ h ∈ H, h.2.length = n) → b.length = n → (H.foldl (beh r) b).length = n
  | [], b, _, hb => hb
  | h :: H, b, hH, hb => beh_len r H _ (fun g hg => hH g (by simp [hg])) (by unfold beh; split; exact hH h (by simp); exact hb)
theorem last_w {D : List Int} {H : List Ho} (g : gOk D H) (r : Int) (hr : 0 ≤ r ∧ r ≤ 60) (x y : List Int) (hx : x.length = D.length) (hy : y.length = D.length) (hb : btw x y (topsGo none H r)) (ht : Int) (hh : -100000 ≤ ht ∧ ht ≤ 100000) :
    W (fun k i => (laws_FnLayers.cs k i).2.2.2.2 D H r (topsGo none H r) x y ht (-1) 0) (· = true) := by
  have hT := topsP g r
  have hD := g.1
  have hcl := classAt_w g r hr ht hh
  generalize topsGo none H r = T at *
  have hTl := hT.len
  have hTd := hT.dn
  have key : ∀ (rest pre : List Int) (c : Int), T = pre ++ rest → clsR ht rest (pre.length : Int) c = clsR ht T 0 (-1) → W (fun k i => (laws_FnLayers.cs k i).2.2.2.2 D H r T x y ht c (pre.length : Int)) (· = true) := by
    intro rest
    induction rest with
    | nil =>
      intro pre c e hc
      exact laws_FnLayers.w4 (W.de (by rw [e]; simp) (W.bindE hcl (W.t rfl (W.ret (by simp only [decide_eq_true_eq]; exact hc.symm)))))
    | cons z rest ih =>
      intro pre c e hc
      have hlen : T.length = pre.length + (rest.length + 1) := by rw [e]; simp
      have hz : rd 0 T (pre.length : Int) = z := by rw [e]; exact rd_mid _ _ _
      have hp : ((pre ++ [z]).length : Int) = (pre.length : Int) + 1 := by simp
      have hbk := hb pre.length (by omega)
      rw [hz] at hbk
      have lo : ¬z < (if rd 0 x (pre.length : Int) < rd 0 y (pre.length : Int) then rd 0 x (pre.length : Int) else rd 0 y (pre.length : Int)) := by split <;> omega
      have hi : ¬(if rd 0 y (pre.length : Int) < rd 0 x (pre.length : Int) then rd 0 x (pre.length : Int) else rd 0 y (pre.length : Int)) < z := by split <;> omega
      have nexty : ht < z → W (fun k i => (laws_FnLayers.cs k i).2.2.2.2 D H r T x y ht (pre.length : Int) ((pre.length : Int) + 1)) (· = true) := fun h => by
        have := ih (pre ++ [z]) (pre.length : Int) (by simp [e]) (by rw [hp, ← hc, clsR, if_pos h])
        rw [hp] at this; exact this
      have nextn : ¬ht < z → W (fun k i => (laws_FnLayers.cs k i).2.2.2.2 D H r T x y ht c ((pre.length : Int) + 1)) (· = true) := fun h => by
        have := ih (pre ++ [z]) c (by simp [e]) (by rw [hp, ← hc, clsR, if_neg h])
        rw [hp] at this; exact this
      refine laws_FnLayers.w4 (W.dt (by omega) ?_)
      rw [w64 (i := (pre.length : Int) - 1) (by omega) (by omega), w64 (i := (pre.length : Int) + 1) (by omega) (by omega), hz]
      refine W.di (fun hk => W.t (by omega) (W.t (by omega) (W.t (by omega) (W.t (by omega) (W.de ?_ ?_))))) (fun hk => ?_)
      · have := dn_at hTd (i := pre.length - 1) (j := pre.length) (by omega) (by omega)
        rw [show ((pre.length - 1 : Nat) : Int) = (pre.length : Int) - 1 by omega, hz] at this
        omega
      all_goals
        refine W.t (by omega) (W.t (by omega) (W.t (by omega) (W.t (by omega) (W.t (by omega) (W.t (by omega) (W.bindN (fun k => least_eq k _ _) (W.de lo ?_)))))))
        refine W.t (by omega) (W.t (by omega) (W.t (by omega) (W.t (by omega) (W.t (by omega) (W.t (by omega) (W.bindN (fun k => most_eq k _ _) (W.de hi ?_)))))))
        exact W.t (by omega) (W.t (by omega) (W.di nexty nextn))
  exact key T [] (-1) rfl rfl
theorem FnLayers : PureFnLayers := by
  intro c0 c1 h0 h1
  refine W.yes (laws_FnLayers.w ?_)
  refine W.bind (laws_r8Long.w (W.di (fun h => W.ret (P := fun _ => True) trivial) (fun h => W.ret trivial))) fun b _ => ?_
  refine W.bi (fun h => W.ret rfl) (fun h => ?_)
  have hc1 : ∀ b ∈ c1, 0 ≤ b ∧ b ≤ 255 := fun b hb => wf_u8' (h1.2 b hb)
  refine W.bind (r8Ground_w fun b hb => wf_u8' (h0.2 b hb)) ?_
  rintro ⟨D, H⟩ (g : gOk D H)
  dsimp only
  have hD := g.1
  have hH := g.2.2.1
  have hlens : ∀ h ∈ H, h.2.length = D.length := fun h hh => (g.2.2.2.1 h hh).2.1
  have hrings : ∀ h ∈ H, 0 ≤ h.1 ∧ h.1 ≤ 60 := fun h hh => (g.2.2.2.1 h hh).1
  obtain ⟨hd, tl, eH⟩ : ∃ a l, H = a :: l := by
    cases H with
    | nil => simp at hH
    | cons a l => exact ⟨a, l, rfl⟩
  obtain ⟨q, lst, eL⟩ : ∃ q p, H = q ++ [p] := by
    rcases List.eq_nil_or_concat H with e | ⟨q, p, e⟩
    · rw [e] at hH; simp at hH
    · exact ⟨q, p, by rw [e, List.concat_eq_append]⟩
  have hqs : H.length = q.length + 1 := by rw [eL]; simp
  have r0 : rd (0, []) H 0 = hd := by rw [eH]; rfl
  have rl : rd (0, []) H ((H.length : Int) - 1) = lst := by
    rw [show (H.length : Int) - 1 = (q.length : Int) by omega, eL]; exact rd_mid _ _ _
  have walk : ∀ (r : Int), 0 ≤ r ∧ r ≤ 60 → ∀ (rest pre rrest rpre : List Ho), H = pre ++ rest → H.reverse = rpre ++ rrest → rpre.length = pre.length →
      W (fun k i => (laws_FnLayers.cs k i).2.2.1 c1 D H r (topsGo none H r) (pre.foldl (bef r) hd.2) (rpre.foldl (beh r) lst.2) (pre.length : Int)) (· = true) := by
    intro r hr rest
    induction rest with
    | nil =>
      intro pre rrest rpre e1 e2 el
      have ep : H = pre := by simpa using e1
      have er : H.reverse = rpre := by
        have h1 : H.length = rpre.length + rrest.length := by rw [← List.length_reverse, e2]; simp
        have h2 : rrest = [] := List.eq_nil_of_length_eq_zero (by rw [ep] at h1; omega)
        rw [e2, h2]; simp
      refine laws_FnLayers.w2 (W.de (by rw [ep]; omega) (W.bind (r8At_w hc1 1 200 (by omega) (by omega)) fun (t : Int) ht => ?_))
      rw [w64 (i := 50 * t) (by omega) (by omega), w64 (i := 50 * t - 1000) (by omega) (by omega), ← ep, ← er]
      exact last_w g r hr _ _ (bef_len r H _ hlens (hlens hd (by rw [eH]; simp))) (beh_len r _ _ (fun h hh => hlens h (List.mem_reverse.1 hh)) (hlens lst (by rw [eL]; simp))) ((topsP g r).btw _ _) _ (by omega)
    | cons x rest ih =>
      intro pre rrest rpre e1 e2 el
      have hlen : H.length = pre.length + (rest.length + 1) := by rw [e1]; simp
      have hx : rd (0, []) H (pre.length : Int) = x := by rw [e1]; exact rd_mid _ _ _
      have hrl : H.length = rpre.length + rrest.length := by rw [← List.length_reverse, e2]; simp
      obtain ⟨y, rr, e3⟩ : ∃ y z, rrest = y :: z := by
        cases rrest with
        | nil => simp at hrl; omega
        | cons y z => exact ⟨y, z, rfl⟩
      subst e3
      have hy : rd (0, []) H ((H.length : Int) - 1 - (pre.length : Int)) = y := by
        have e4 : H = rr.reverse ++ y :: rpre.reverse := by
          have := congrArg List.reverse e2
          rw [List.reverse_reverse] at this
          rw [this]; simp
        have hl2 : H.length = rr.length + (rpre.length + 1) := by rw [e4]; simp
        rw [show (H.length : Int) - 1 - (pre.length : Int) = (rr.reverse.length : Int) by simp; omega]
        rw [e4]; exact rd_mid _ _ _
      have hp : ((pre ++ [x]).length : Int) = (pre.length : Int) + 1 := by simp
      have next := ih (pre ++ [x]) rr (rpre ++ [y]) (by simp [e1]) (by simp [e2]) (by simp [el])
      rw [hp, List.foldl_append, List.foldl_append, List.foldl_cons, List.foldl_nil, List.foldl_cons, List.foldl_nil] at next
      have back : ∀ b, W (fun k i => (laws_FnLayers.cs k i).2.2.1 c1 D H r (topsGo none H r) b (beh r (rpre.foldl (beh r) lst.2) y) ((pre.length : Int) + 1)) (· = true) → W (fun k i => (laws_FnLayers.cs k i).2.2.2.1 c1 D H r (topsGo none H r) b (rpre.foldl (beh r) lst.2) (pre.length : Int)) (· = true) := by
        intro b hnext
        refine laws_FnLayers.w3 ?_
        rw [w64 (i := (H.length : Int) - 1) (by omega) (by omega), w64 (i := (H.length : Int) - 1 - (pre.length : Int)) (by omega) (by omega), w64 (i := (pre.length : Int) + 1) (by omega) (by omega), hy]
        refine W.t (by omega) (W.t (by omega) (W.di (fun h => W.t (by omega) (W.t (by omega) ?_)) (fun h => ?_)))
        · rw [beh, if_pos h] at hnext; exact hnext
        · rw [beh, if_neg h] at hnext; exact hnext
      refine laws_FnLayers.w2 (W.dt (by omega) (W.t (by omega) (W.t (by omega) ?_)))
      rw [hx]
      refine W.di (fun h => W.t (by omega) (W.t (by omega) ?_)) (fun h => ?_)
      · rw [bef, if_pos h] at next; exact back _ next
      · rw [bef, if_neg h] at next; exact back _ next
  have key : ∀ (rest pre : List Ho), H = pre ++ rest → W (fun k i => (laws_FnLayers.cs k i).1 c1 D H (pre.length : Int)) (· = true) := by
    intro rest
    induction rest with
    | nil =>
      intro pre e
      refine laws_FnLayers.w0 (W.de (by rw [e]; simp) (W.bind (r8At_w hc1 0 61 (by omega) (by omega)) fun (r : Int) hr => ?_))
      refine W.bindE (topsAt_w g r (by omega)) (W.ne rfl (W.nde (by rw [(topsP g r).len]) (laws_FnLayers.w1 ?_)))
      rw [w64 (i := (H.length : Int) - 1) (by omega) (by omega), r0, rl]
      exact W.t (by omega) (W.t (by omega) (W.t (by omega) (W.t (by omega) (walk r (by omega) H [] H.reverse [] rfl rfl rfl))))
    | cons x rest ih =>
      intro pre e
      have hlen : H.length = pre.length + (rest.length + 1) := by rw [e]; simp
      have hx : rd (0, []) H (pre.length : Int) = x := by rw [e]; exact rd_mid _ _ _
      have hxm : x ∈ H := by rw [e]; simp
      have hp : ((pre ++ [x]).length : Int) = (pre.length : Int) + 1 := by simp
      have next := ih (pre ++ [x]) (by simp [e])
      rw [hp] at next
      refine laws_FnLayers.w0 (W.dt (by omega) (W.t (by omega) (W.t (by omega) ?_)))
      rw [hx, w64 (by omega) (by omega)]
      refine W.bindE (topsAt_w g x.1 (hrings x hxm)) (W.ne rfl ?_)
      rw [tops_at g e]
      have := hlens x hxm
      exact W.t (by omega) (W.t (by omega) (W.bindE (same_w x.2 (by omega)) (W.ne rfl next)))
  exact key H [] rfl
end Go.Proofs.Ytlkmjldhhoopcaa.Pure

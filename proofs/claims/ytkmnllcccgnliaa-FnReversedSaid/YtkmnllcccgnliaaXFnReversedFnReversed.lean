/- The reversed and the mirrored axis lie where they should: the plain statement. -/
import Derived.Test.YtkmnllcccgnliaaXFnReversedAxM
import Derived.Test.YtkmnllcccgnliaaXFnReversedDr2
import Derived.Test.YtkmnllcccgnliaaRvPuFnReversed
namespace Go.Proofs.Ytkmnllcccgnliaa.R
open Go.Rv Go.Rv.Ax
open RowKit (wrap64)
set_option linter.unusedVariables false
def xy (p : Po) : Int × Int := (p.1, p.2.1)
theorem back_xy (p : Po) (ts : List Cu) : ((p :: scan p ts).dropLast.map back).map xy = (scan p ts).map xy := by
  induction ts generalizing p with
  | nil => rfl
  | cons t ts ih =>
    show (p :: (nxt p t :: scan (nxt p t) ts).dropLast |>.map back |>.map xy) = _
    simp only [List.map_cons, scan]
    rw [ih]; rfl
theorem revPoses {p : Po} {l : List Cu} (h : Ok p l) : poses (revS p (tl l)) (merge (revR p (tl l))) = ((poses p l).dropLast.reverse.map back) ++ [fin0 p] := by
  have hone := revR_one p _ (un_tl l)
  have h0 : ∀ c ∈ revR p (tl l), 0 ≤ c.1 := fun c hc => by rw [hone c hc]; omega
  have hlen := h.len
  have hd : (poses p l).dropLast = p :: scan p (tl l).dropLast := by
    rcases List.eq_nil_or_concat (tl l) with e | ⟨a, t, e⟩
    · rw [e] at hlen; simp at hlen
    · rw [List.concat_eq_append] at e
      rw [poses, e, scan_snoc, ← List.cons_append, List.dropLast_concat, List.dropLast_concat]
  rw [poses, tl_merge _ h0, tl_unit _ hone, hd]
  exact (scan_back p (tl l).dropLast).symm
theorem revXy {p : Po} {l : List Cu} (h : Ok p l) : (poses (revS p (tl l)) (merge (revR p (tl l)))).map xy = ((poses p l).map xy).reverse := by
  rw [revPoses h, poses, List.map_append, List.map_cons, List.map_cons, List.reverse_cons, ← back_xy, List.map_reverse, List.map_reverse]; rfl
end Go.Proofs.Ytkmnllcccgnliaa.R
namespace Go.Proofs.Ytkmnllcccgnliaa.Pure
open Go.Rv Go.Rv.Ax R
open RowKit (wrap64)
set_option linter.unusedVariables false
theorem revEnd_w {p : Po} {l : List Cu} {a b : List Po} (hl : a.length ≤ 100) (e : b.map xy = (a.map xy).reverse) : W (fun k m => (laws_FnReversed.cs k m).2.2.1 a b) (· = true) := by
  have hbl : b.length = a.length := by simpa using congrArg List.length e
  have key : ∀ (rest pre : List Po), b = pre ++ rest → W (fun k m => (laws_FnReversed.cs k m).2.2.2 a b (pre.length : Int)) (· = true) := by
    intro rest
    induction rest with
    | nil => intro pre e'; exact laws_FnReversed.w3 (W.de (by rw [← hbl, e']; simp) (W.ret rfl))
    | cons x rest ih =>
      intro pre e'
      have hlen : b.length = pre.length + (rest.length + 1) := by rw [e']; simp
      have hx : rd (0, (0, (0, 0))) b (pre.length : Int) = x := by rw [e']; exact rd_mid _ _ _
      have h1 : pre.length < b.length := by omega
      have h2 : a.length - 1 - pre.length < a.length := by omega
      have hy : xy (rd (0, (0, (0, 0))) a ((a.length : Int) - 1 - pre.length)) = xy x := by
        rw [show (a.length : Int) - 1 - pre.length = ((a.length - 1 - pre.length : Nat) : Int) by omega, rd_at h2]
        have : (b.map xy)[pre.length]? = some (xy x) := by rw [e']; simp
        rw [e, List.getElem?_reverse (by simp; omega), List.length_map, List.getElem?_map, List.getElem?_eq_getElem h2] at this
        exact Option.some.inj this
      have hy1 : x.1 = (rd (0, (0, (0, 0))) a ((a.length : Int) - 1 - pre.length)).1 := (congrArg Prod.fst hy).symm
      have hy2 : x.2.1 = (rd (0, (0, (0, 0))) a ((a.length : Int) - 1 - pre.length)).2.1 := (congrArg Prod.snd hy).symm
      refine laws_FnReversed.w3 (W.dt (by omega) ?_)
      rw [w64 (i := (a.length : Int) - 1) (by omega) (by omega), w64 (i := (a.length : Int) - 1 - pre.length) (by omega) (by omega), w64 (i := (pre.length : Int) + 1) (by omega) (by omega), hx]
      refine W.t (by omega) (W.t (by omega) (W.t (by omega) (W.t (by omega) (W.nde hy1 (W.t (by omega) (W.t (by omega) (W.nde hy2 ?_)))))))
      have := ih (pre ++ [x]) (by simp [e'])
      simpa using this
  exact laws_FnReversed.w2 (key b [] rfl)
theorem FnReversed : PureFnReversed := by
  intro c0 c1 h0 h1
  refine W.yes (laws_FnReversed.w ?_)
  refine W.bind (laws_r8Long.w (W.di (fun h => W.ret (P := fun _ => True) trivial) (fun h => W.ret trivial))) fun b _ => ?_
  refine W.bi (fun h => W.ret rfl) (fun h => ?_)
  refine W.bind (r8Axis_w fun b hb => wf_u8 (h0.2 b hb)) ?_
  rintro ⟨a, b, c, d, l⟩ (h : Ok (a, b, c, d) l)
  have hlen := h.len
  have hpl := poses_length (a, b, c, d) l
  have hm := mir_ok h
  have hml := mir_poses (a, b, c, d) l
  refine W.bindE (posesOf_w (a, b, c, d) l) (W.bindE (mirror_w h) (W.bindE (posesOf_w (mirP (a, b, c, d)) (l.map mirC)) ?_))
  rw [posesV_ok h, posesV_ok hm, hml]
  refine W.ne rfl (W.ne rfl (W.ne rfl (W.de (by simp only; omega) (W.nde (by simp) ?_))))
  refine laws_FnReversed.w0 ?_
  have hok := h.poses
  have key : ∀ (rest pre : List Po), poses (a, b, c, d) l = pre ++ rest → W (fun k m => (laws_FnReversed.cs k m).2.1 a b c d l (poses (a, b, c, d) l) ((poses (a, b, c, d) l).map mirP) (pre.length : Int)) (· = true) := by
    intro rest
    induction rest with
    | nil =>
      intro pre e'
      refine laws_FnReversed.w1 (W.de (by rw [e']; simp) ?_)
      refine W.bindE (implRev_w (a, b, c, d) l) ?_
      rw [revV, if_pos h, revOk]
      by_cases hr : Ok (revS (a, b, c, d) (tl l)) (merge (revR (a, b, c, d) (tl l)))
      · rw [if_pos hr]
        have hx := revXy h
        have hxl : (poses (revS (a, b, c, d) (tl l)) (merge (revR (a, b, c, d) (tl l)))).length = (poses (a, b, c, d) l).length := by simpa using congrArg List.length hx
        refine W.ne rfl (W.bindE (posesOf_w (revS (a, b, c, d) (tl l)) _) ?_)
        rw [posesV_ok hr]
        refine W.ne rfl (W.nde (by simp only; omega) ?_)
        exact revEnd_w (p := (a, b, c, d)) (l := l) (by omega) hx
      · rw [if_neg hr]
        have := rev_many h hr
        exact W.nt rfl (W.ret (by simp; omega))
    | cons x rest ih =>
      intro pre e'
      have hlen' : (poses (a, b, c, d) l).length = pre.length + (rest.length + 1) := by rw [e']; simp
      have hx : rd (0, (0, (0, 0))) (poses (a, b, c, d) l) (pre.length : Int) = x := by rw [e']; exact rd_mid _ _ _
      have hy : rd (0, (0, (0, 0))) ((poses (a, b, c, d) l).map mirP) (pre.length : Int) = mirP x := by
        have := rd_mid (d := (0, (0, (0, 0)))) (pre.map mirP) (mirP x) (rest.map mirP)
        rw [e']; simpa using this
      have hxo := hok x (by rw [e']; simp)
      rw [okP_iff] at hxo
      refine laws_FnReversed.w1 (W.dt (by omega) (W.t (by omega) (W.t (by omega) (W.t (by omega) (W.t (by simp; omega) ?_)))))
      rw [hx, hy, w64 (i := 0 - x.1) (by omega) (by omega), w64 (i := 0 - x.2.2.1) (by omega) (by omega), w64 (i := (pre.length : Int) + 1) (by omega) (by omega)]
      refine W.ne (by simp [mirP]) ?_
      have := ih (pre ++ [x]) (by simp [e'])
      simpa using this
  exact key _ [] rfl
end Go.Proofs.Ytkmnllcccgnliaa.Pure

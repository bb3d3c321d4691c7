/- The plain statement of the law on tubes. -/
import Derived.Test.YtmgelocefebldaaGreatDoorXFnTubesTbI
import Derived.Test.YtmgelocefebldaaGreatDoorXFnTubesTbD
import Derived.Test.YtmgelocefebldaaGreatDoorXFnTubesBAt
import Derived.Test.YtmgelocefebldaaGreatDoorRvPuFnTubes
namespace Go.Proofs.YtmgelocefebldaaGreatDoor.Pure
open Go.Rv Go.Rv.Tx Go.Rv.Ax Go.Proofs.YtmgelocefebldaaGreatDoor.R
set_option linter.unusedVariables false
set_option linter.unusedSimpArgs false
/-! ### images -/
def mK (a : Int) : Int := (8 - a + 16).tmod 16
def qK (a : Int) : Int := (a + 4 + 16).tmod 16
theorem mK_in {a : Int} (h : 0 ≤ a ∧ a ≤ 15) : 0 ≤ mK a ∧ mK a ≤ 15 := by unfold mK; rw [Int.tmod_eq_emod_of_nonneg (by omega)]; omega
theorem qK_in {a : Int} (h : 0 ≤ a ∧ a ≤ 15) : 0 ≤ qK a ∧ qK a ≤ 15 := by unfold qK; rw [Int.tmod_eq_emod_of_nonneg (by omega)]; omega
theorem keys_ok : ((List.range 16).all fun a => (List.range 16).all fun b => (meets (mK a) (mK b) == meets a b) && (meets (qK a) (qK b) == meets a b)) = true := by decide
theorem keys {a b : Int} (ha : 0 ≤ a ∧ a ≤ 15) (hb : 0 ≤ b ∧ b ≤ 15) : meets (mK a) (mK b) = meets a b ∧ meets (qK a) (qK b) = meets a b := by
  obtain ⟨n, hn, rfl⟩ := in16 ha
  obtain ⟨m, hm, rfl⟩ := in16 hb
  have := List.all_eq_true.1 (List.all_eq_true.1 keys_ok n hn) m hm
  simpa using this
theorem turns_ok : ((List.range 2).all fun x => (List.range 16).all fun a => decide (turnV x (mK a) = (-(turnV x a).1, (turnV x a).2)) && decide (turnV x (qK a) = (-(turnV x a).2, (turnV x a).1))) = true := by decide
theorem turns_im {r : Ri} (h : ringB r.1 r.2 = true) : turnV r.1 (mK r.2) = (-(turnV r.1 r.2).1, (turnV r.1 r.2).2) ∧ turnV r.1 (qK r.2) = (-(turnV r.1 r.2).2, (turnV r.1 r.2).1) := by
  simp only [ringB, Bool.and_eq_true, inR_iff] at h
  obtain ⟨x, y⟩ := r
  dsimp only at h ⊢
  obtain ⟨m, hm, rfl⟩ := in16 h.2
  have hx : ∃ n ∈ List.range 2, x = (n : Int) := ⟨x.toNat, by rw [List.mem_range]; omega, by omega⟩
  obtain ⟨n, hn, rfl⟩ := hx
  have := List.all_eq_true.1 (List.all_eq_true.1 turns_ok n hn) m hm
  simpa using this
def im (f : Int → Int) (t : List Ri) : List Ri := t.map fun r => (r.1, f r.2)
theorem chn_im (f : Int → Int) (hf : ∀ a, 0 ≤ a ∧ a ≤ 15 → 0 ≤ f a ∧ f a ≤ 15) (hm : ∀ a b, 0 ≤ a ∧ a ≤ 15 → 0 ≤ b ∧ b ≤ 15 → meets (f a) (f b) = meets a b) : ∀ (t : List Ri) (q : Option Int), (∀ a, q = some a → 0 ≤ a ∧ a ≤ 15) → chn q t = true → chn (q.map f) (im f t) = true
  | [], q, _, _ => by cases q <;> rfl
  | r :: t, q, hq, h => by
    rw [chn_cons, Bool.and_eq_true, Bool.and_eq_true] at h
    have hk := keyB h.1
    have hr : ringB r.1 (f r.2) = true := by
      have h1 := h.1
      have h2 := hf _ hk
      simp only [ringB, Bool.and_eq_true, inR_iff] at h1 ⊢
      exact ⟨h1.1, h2⟩
    have ih := chn_im f hf hm t (some r.2) (fun a e => by cases e; exact hk) h.2.2
    have e : im f (r :: t) = (r.1, f r.2) :: im f t := rfl
    rw [e, chn_cons, hr]
    have hmt : mtk (q.map f) (f r.2) = true := by
      cases q with
      | none => rfl
      | some a =>
        have := h.2.1
        simp only [mtk, Option.map] at this ⊢
        rw [hm a r.2 (hq a rfl) hk]; exact this
    have ih : chn (some (f r.2)) (im f t) = true := ih
    simp only [hmt, ih]; rfl
theorem tube_im (f : Int → Int) (hf : ∀ a, 0 ≤ a ∧ a ≤ 15 → 0 ≤ f a ∧ f a ≤ 15) (hm : ∀ a b, 0 ≤ a ∧ a ≤ 15 → 0 ≤ b ∧ b ≤ 15 → meets (f a) (f b) = meets a b) {t : List Ri} (ht : tubeB t = true) : tubeB (im f t) = true := by
  unfold tubeB at ht ⊢
  rw [Bool.and_eq_true] at ht
  have := chn_im f hf hm t none (fun a e => by cases e) ht.1
  have this : chn none (im f t) = true := this
  rw [this]
  simpa [im] using ht.2
theorem scan_im (g : Po → Po) (h : Cu → Cu) (e : ∀ p c, nxt (g p) (h c) = g (nxt p c)) : ∀ (l : List Cu) (p : Po), scan (g p) (l.map h) = (scan p l).map g
  | [], _ => rfl
  | c :: l, p => by simp only [List.map_cons, scan, e, scan_im g h e l]
def gM (p : Po) : Po := (-p.1, p.2.1, -p.2.2.1, p.2.2.2)
def hM (c : Cu) : Cu := (c.1, -c.2.1, c.2.2)
def gQ (p : Po) : Po := (-p.2.1, p.1, -p.2.2.2, p.2.2.1)
def hQ (c : Cu) : Cu := (c.1, -c.2.2, c.2.1)
theorem eM (p : Po) (c : Cu) : nxt (gM p) (hM c) = gM (nxt p c) := by simp [nxt, gM, hM, Prod.mk.injEq]; omega
theorem eQ (p : Po) (c : Cu) : nxt (gQ p) (hQ c) = gQ (nxt p c) := by simp [nxt, gQ, hQ, Prod.mk.injEq]; omega
theorem cu_im {t : List Ri} (hr : ∀ r ∈ t, ringB r.1 r.2 = true) : (im mK t).map cuOf = (t.map cuOf).map hM ∧ (im qK t).map cuOf = (t.map cuOf).map hQ := by
  unfold im
  rw [List.map_map, List.map_map, List.map_map, List.map_map]
  refine ⟨List.map_congr_left fun r h => ?_, List.map_congr_left fun r h => ?_⟩
  · show ((1 : Int), turnV r.1 (mK r.2)) = _
    rw [(turns_im (hr r h)).1]; rfl
  · show ((1 : Int), turnV r.1 (qK r.2)) = _
    rw [(turns_im (hr r h)).2]; rfl
theorem mirror_w (t : List Ri) (ht : tubeB t = true) (hl : t.length ≤ 6) : W (fun k _ => impl_MirrorTube.f k t) (· = (im mK t, true)) := by
  have hr := (tube_rings ht).2
  have key : ∀ (rest pre : List Ri), t = pre ++ rest → W (fun k m => (impl_turned_MirrorTube_1.cs k m) (im mK pre) t (t.length : Int) (pre.length : Int)) (· = (im mK t, true)) := by
    intro rest
    induction rest with
    | nil =>
      intro pre e
      have e : t = pre := by simpa using e
      exact impl_turned_MirrorTube_1.w0 (W.de (by rw [e]; omega) (W.ret (by rw [e])))
    | cons r rest ih =>
      intro pre e
      have hlen : t.length = pre.length + (rest.length + 1) := by rw [e]; simp
      have hx : rd (0, 0) t (pre.length : Int) = r := by rw [e]; exact rd_mid _ _ _
      have hk := keyB (hr r (by rw [e]; simp))
      have hil : (im mK pre).length = pre.length := by simp [im]
      refine impl_turned_MirrorTube_1.w0 (W.dt (by omega) (W.t (by omega) (W.t (by omega) ?_)))
      rw [hx]
      refine W.bindN (fun k => rfl) (W.e (by decide) (W.t (show (im mK pre).length + 1 < 549755813888 by omega) ?_))
      rw [w64 (i := 8 - r.2) (by omega) (by omega), w64 (i := 8 - r.2 + 16) (by omega) (by omega), w64 (i := (pre.length : Int) + 1) (by omega) (by omega)]
      have := ih (pre ++ [r]) (by simp [e])
      simpa [im, mK] using this
  refine impl_MirrorTube.w (W.bindE (impl_turned_MirrorTube_1.w (W.bindE (validTube_w t (by omega)) (W.ne ht (key t [] rfl)))) (W.ret rfl))
theorem quarter_w (t : List Ri) (ht : tubeB t = true) (hl : t.length ≤ 6) : W (fun k _ => impl_QuarterTube.f k t) (· = (im qK t, true)) := by
  have hr := (tube_rings ht).2
  have key : ∀ (rest pre : List Ri), t = pre ++ rest → W (fun k m => (impl_turned_QuarterTube_1.cs k m) (im qK pre) t (t.length : Int) (pre.length : Int)) (· = (im qK t, true)) := by
    intro rest
    induction rest with
    | nil =>
      intro pre e
      have e : t = pre := by simpa using e
      exact impl_turned_QuarterTube_1.w0 (W.de (by rw [e]; omega) (W.ret (by rw [e])))
    | cons r rest ih =>
      intro pre e
      have hlen : t.length = pre.length + (rest.length + 1) := by rw [e]; simp
      have hx : rd (0, 0) t (pre.length : Int) = r := by rw [e]; exact rd_mid _ _ _
      have hk := keyB (hr r (by rw [e]; simp))
      have hil : (im qK pre).length = pre.length := by simp [im]
      refine impl_turned_QuarterTube_1.w0 (W.dt (by omega) (W.t (by omega) (W.t (by omega) ?_)))
      rw [hx]
      refine W.bindN (fun k => rfl) (W.e (by decide) (W.t (show (im qK pre).length + 1 < 549755813888 by omega) ?_))
      rw [w64 (i := r.2 + 4) (by omega) (by omega), w64 (i := r.2 + 4 + 16) (by omega) (by omega), w64 (i := (pre.length : Int) + 1) (by omega) (by omega)]
      have := ih (pre ++ [r]) (by simp [e])
      simpa [im, qK] using this
  refine impl_QuarterTube.w (W.bindE (impl_turned_QuarterTube_1.w (W.bindE (validTube_w t (by omega)) (W.ne ht (key t [] rfl)))) (W.ret rfl))
theorem rings_refl (l : List Ri) (hl : l.length ≤ 1048576) : W (fun k _ => laws_b10Rings.f k l l) (· = true) := by
  have key : ∀ (rest pre : List Ri), l = pre ++ rest → W (fun k m => (laws_b10Rings.cs k m) l l (pre.length : Int)) (· = true) := by
    intro rest
    induction rest with
    | nil =>
      intro pre e
      exact laws_b10Rings.w0 (W.de (by rw [e]; simp) (W.ret rfl))
    | cons c rest ih =>
      intro pre e
      have hlen : l.length = pre.length + (rest.length + 1) := by rw [e]; simp
      refine laws_b10Rings.w0 (W.dt (by omega) (W.t (by omega) (W.t (by omega) (W.t (by omega) (W.t (by omega) (W.ne (by simp) ?_))))))
      rw [w64 (by omega) (by omega)]
      have := ih (pre ++ [c]) (by rw [e]; simp)
      simpa using this
  exact laws_b10Rings.w (W.nde rfl (key l [] rfl))
theorem FnTubes : PureFnTubes := by
  intro e0 e1 w0 w1
  have hb0 : ∀ b ∈ e0, 0 ≤ b ∧ b ≤ 255 := fun b hb => wfu (w0.2 b hb)
  have hb1 : ∀ b ∈ e1, 0 ≤ b ∧ b ≤ 255 := fun b hb => wfu (w1.2 b hb)
  refine W.yes (laws_FnTubes.w (W.bindE (b10Long_w e0 e1) (W.bi (fun _ => W.ret rfl) (fun hl => ?_))))
  refine W.bind (b10TubeM_w hb0) fun t ht => W.bind (b10At_w hb1 0 9 (by omega) (by omega)) fun (p1 : Int) q1 => W.bind (b10At_w hb1 1 9 (by omega) (by omega)) fun (p2 : Int) q2 => ?_
  obtain ⟨ht, hl1, hl6⟩ := ht
  have hr := (tube_rings ht).2
  rw [w64 (i := p1 - 4) (by omega) (by omega), w64 (i := p2 - 4) (by omega) (by omega)]
  obtain ⟨a, ha⟩ : ∃ a, a = p1 - 4 := ⟨_, rfl⟩
  obtain ⟨b, hb⟩ : ∃ b, b = p2 - 4 := ⟨_, rfl⟩
  rw [← ha, ← hb]
  have ha' : -4 ≤ a ∧ a ≤ 4 := by omega
  have hb' : -4 ≤ b ∧ b ≤ 4 := by omega
  clear ha hb q1 q2
  rw [w64 (i := 0 - a) (by omega) (by omega), w64 (i := 0 - b) (by omega) (by omega), show (0 : Int) - a = -a by omega, show (0 : Int) - b = -b by omega]
  have hm := tube_im mK (fun a h => mK_in h) (fun a b ha hb => (keys ha hb).1) ht
  have hq := tube_im qK (fun a h => qK_in h) (fun a b ha hb => (keys ha hb).2) ht
  have hml : (im mK t).length = t.length := by simp [im]
  have hql : (im qK t).length = t.length := by simp [im]
  have T0 := tubePoses_yes a b t ht hl6 (by omega) (by omega)
  have T1 := (tubePoses_yes (-a) b (im mK t) hm (by omega) (by omega) (by omega)).1
  have T2 := (tubePoses_yes (-b) a (im qK t) hq (by omega) (by omega) (by omega)).1
  have s1 : (0, 0, -a, b) :: scan (0, 0, -a, b) ((im mK t).map cuOf) = ((0, 0, a, b) :: scan (0, 0, a, b) (t.map cuOf)).map gM := by
    rw [(cu_im hr).1]
    have := scan_im gM hM eM (t.map cuOf) (0, 0, a, b)
    have e : gM (0, 0, a, b) = (0, 0, -a, b) := rfl
    rw [e] at this
    rw [this]; rfl
  have s2 : (0, 0, -b, a) :: scan (0, 0, -b, a) ((im qK t).map cuOf) = ((0, 0, a, b) :: scan (0, 0, a, b) (t.map cuOf)).map gQ := by
    rw [(cu_im hr).2]
    have := scan_im gQ hQ eQ (t.map cuOf) (0, 0, a, b)
    have e : gQ (0, 0, a, b) = (0, 0, -b, a) := rfl
    rw [e] at this
    rw [this]; rfl
  rw [s1] at T1
  rw [s2] at T2
  have hend : ((0, 0, a, b) :: scan (0, 0, a, b) (t.map cuOf) : List Po).length = t.length + 1 := by simp [scan_length]
  have hlast : rd (0, (0, (0, 0))) ((0, 0, a, b) :: scan (0, 0, a, b) (t.map cuOf) : List Po) (t.length : Int) = endP (0, 0, a, b) (t.map cuOf) := by
    obtain ⟨pre, h1, h2⟩ := last_scan (0, 0, a, b) (t.map cuOf)
    rw [h1]
    have h2 : t.length = pre.length := by rw [h2]; simp
    rw [h2]
    exact rd_mid _ _ _
  have hok := T0.2
  refine W.bindE (implTubePosesV_w (0, 0, a, b) t (by omega)) ?_
  refine W.bind (total_w t ht hl6 a b) fun v hv => ?_
  refine W.bindE (tubeText_w t ht hl6) (W.bindE (readTube_w t ht ⟨hl1, hl6⟩) (W.bindE (mirror_w t ht hl6) (W.bindE (quarter_w t ht hl6) ?_)))
  refine W.bindE (implTubePosesV_w (0, 0, -a, b) (im mK t) (by omega)) (W.bindE (implTubePosesV_w (0, 0, -b, a) (im qK t) (by omega)) ?_)
  rw [T0.1, T1, T2]
  generalize ((0, 0, a, b) :: scan (0, 0, a, b) (t.map cuOf) : List Po) = ps at *
  refine W.ne rfl (W.ne hv.1 (W.ne rfl (W.ne rfl (W.ne rfl (W.ne rfl (W.ne rfl (W.ne rfl (W.bindE (rings_refl t (by omega)) (W.ne rfl ?_)))))))))
  rw [w64 (i := (t.length : Int) + 1) (by omega) (by omega)]
  refine W.nde (by simp only; omega) (W.nde (by simp) (W.nde (by simp) (laws_FnTubes.w0 ?_)))
  have key : ∀ (rest pre : List Po), ps = pre ++ rest → W (fun k m => (laws_FnTubes.cs k m).2 t 0 0 a b ps v.1 v.2.1 (ps.map gM) (ps.map gQ) (pre.length : Int)) (· = true) := by
    intro rest
    induction rest with
    | nil =>
      intro pre e
      refine laws_FnTubes.w1 (W.de (by rw [e]; simp) (W.t (by omega) (W.t (by omega) ?_)))
      rw [hlast, hv.2.1, hv.2.2.1]
      have h4 := hv.2.2.2.1
      have h5 := hv.2.2.2.2
      rw [w64 (i := a + v.1) (by omega) (by omega), w64 (i := b + v.2.1) (by omega) (by omega)]
      exact W.dt rfl (W.ret (by simp))
    | cons x rest ih =>
      intro pre e
      have hlen : ps.length = pre.length + (rest.length + 1) := by rw [e]; simp
      have hx : rd (0, (0, (0, 0))) ps (pre.length : Int) = x := by rw [e]; exact rd_mid _ _ _
      have hx1 : rd (0, (0, (0, 0))) (ps.map gM) (pre.length : Int) = gM x := by
        have := rd_mid (d := ((0, (0, (0, 0))) : Po)) (pre.map gM) (gM x) (rest.map gM)
        rw [List.length_map] at this
        rw [e]; simpa using this
      have hx2 : rd (0, (0, (0, 0))) (ps.map gQ) (pre.length : Int) = gQ x := by
        have := rd_mid (d := ((0, (0, (0, 0))) : Po)) (pre.map gQ) (gQ x) (rest.map gQ)
        rw [List.length_map] at this
        rw [e]; simpa using this
      have hk := okP_iff.1 (hok x (by rw [e]; simp))
      refine laws_FnTubes.w1 ?_
      rw [hx, hx1, hx2, List.length_map, List.length_map]
      rw [w64 (i := 0 - x.1) (by omega) (by omega), w64 (i := 0 - x.2.1) (by omega) (by omega), w64 (i := 0 - x.2.2.1) (by omega) (by omega), w64 (i := 0 - x.2.2.2) (by omega) (by omega), w64 (i := (pre.length : Int) + 1) (by omega) (by omega)]
      have c1 : (pre.length : Int) < (ps.length : Int) := by omega
      have c0 : (0 : Int) ≤ (pre.length : Int) := by omega
      refine W.dt c1 (W.t c0 (W.t c1 (W.t c0 (W.t c1 (W.t c0 (W.t c1 (W.t c0 (W.t c1 (W.t c0 (W.t c1 (W.ne (by simp [gM]) ?_)))))))))))
      refine W.t c0 (W.t c1 (W.t c0 (W.t c1 (W.t c0 (W.t c1 (W.t c0 (W.t c1 (W.t c0 (W.t c1 (W.ne (by simp [gQ]) ?_))))))))))
      have := ih (pre ++ [x]) (by simp [e])
      simpa using this
  exact key ps [] rfl
end Go.Proofs.YtmgelocefebldaaGreatDoor.Pure

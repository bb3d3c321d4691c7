/- A call that writes some of its arguments: behind it. -/
import Derived.Test.YtlkmjldhhoopcaaRvMut
namespace Go.Rv
set_option linter.unusedSimpArgs false
set_option linter.unusedVariables false
section
variable {P : Program} {st : St} {g : Gh} {fr : Fr} {a : Act} {w : World} {X : Env} {o : Oper} {R : Type} {K : Fr → Option R} {r : R} {Q : Exit → Act → World → Prop}
open Classical
variable {w' : World} {g' : Gh} {muts : List Nat} {args l : List Comp} {vs : List Value} {ps : List (Option (Nat × Nat))} {res : List Comp} {v : Value}
theorem back_old (h : Ok st g fr a w) {b : Nat} {p : Place} (hO : g.O b = some p) (hp : ∀ i k s c, MutRef muts args i k s c → p ≠ .at s 0 c) : b < w.heap.size ∧ ¬ MutB g muts args b :=
  ⟨(h.own b p hO).1, fun ⟨i, k, s, c, h1, h2⟩ => by rw [hO] at h2; cases h2; exact hp i k s c h1 rfl⟩
theorem back_kld (h : Ok st g fr a w) (hR : ResOk muts w w' (g.mut w muts args) g' l vs res v) : Kld g (g.back w muts args g') w w' (isBox fr) (isBox fr) (fun p => ∀ i k s c, MutRef muts args i k s c → p ≠ .at s 0 c) where
  kB := rfl
  kM := rfl
  kZ := rfl
  kbx := fun s hs => hs
  kX := fun s _ => rfl
  kZc := fun b oo hz => by
    obtain ⟨_, q2, q3⟩ := h.zs b oo (by rw [← h.eZ]; exact hz)
    exact World.cell?_of_block (w := w) (hR.old b (Nat.lt_of_lt_of_le q2 h.heap) (mut_notM h q2 q3))
  kL := fun b hl => hR.old b (Nat.lt_of_lt_of_le (h.eB ▸ hl.1) h.heap) (mut_notM h (h.eB ▸ hl.1) (by rw [← h.eM]; exact hl.2))
  kO := fun b p hp hO => by
    have hb := back_old h hO hp
    refine ⟨by simp only [Gh.back]; rw [if_pos hb]; exact hO, hR.old b hb.1 hb.2, fun oo => ?_⟩
    simp only [Gh.back]
    rw [if_pos hb]
  kH := fun _ _ _ _ => rfl
theorem back_ok (h : Ok st g fr a w) (hR : ResOk muts w w' (g.mut w muts args) g' l vs res v) (hp : placesOf fr args muts = some ps) (hhi : ∀ i k s c, MutRef muts args i k s c → 0 < c) : Ok st (g.back w muts args g') (kill (bury fr ps)) a w' := by
  have hb : Ok st g (bury fr ps) a w := bury_ok ps h fun s c hm => by
    obtain ⟨i, k, u, ys, _, e⟩ := places_own hp hm
    obtain ⟨v0, q1, q2⟩ := cell_rel h e (by simp) (by simp)
    exact ⟨v0, q1, rel_one q2⟩
  have hk := back_kld h hR
  rw [← bury_box ps (fr := fr)] at hk
  have hin : ∀ b, b < st.B → ¬ st.M b → b < w.heap.size ∧ ¬ MutB g muts args b := fun b h1 h2 => ⟨Nat.lt_of_lt_of_le h1 h.heap, mut_notM h h1 h2⟩
  exact {
    eB := h.eB, eM := h.eM, eZ := h.eZ, size := h.size, defers := h.defers, keep := h.keep
    slot := fun s => by
      rw [isBox_kill]
      refine hk.slot' (fun i k s' c hm e => by cases e; exact absurd (hhi i k s 0 hm) (by omega)) (fun cs hcs c y hy => ?_) (fun cs e => by simp [isBox, e, notBox]) (hb.slot s)
      by_cases hx : some (s, c + 1) ∈ ps
      · right
        have := bury_dead ps (fr := fr) hx
        unfold cellAt at this
        rcases hcs with ⟨b, hcs⟩ | hcs <;> rw [hcs] at this <;> simpa [List.getD_eq_getElem?_getD, hy] using this
      · left
        intro i k s' c' hm e
        cases e
        exact hx (places_mem hp hm)
    os := hR.os.trans h.os, tape := hR.tape.trans h.tape, output := hR.output.trans h.output
    heap := Nat.le_trans h.heap hR.heap
    old := fun b h1 h2 => (hR.old b (hin b h1 h2).1 (hin b h1 h2).2).trans (h.old b h1 h2)
    own := fun b p hO => by
      simp only [Gh.back] at hO
      split at hO
      · have := h.own b p hO
        exact ⟨Nat.lt_of_lt_of_le this.1 hR.heap, this.2⟩
      · rename_i hn
        split at hO
        · rename_i m e
          refine ⟨(hR.own b _ e).1, fun hlt => ?_⟩
          by_cases hM : st.M b
          · exact hM
          · exact (hn (hin b hlt hM)).elim
        · split at hO
          · have := h.own b p hO
            exact ⟨Nat.lt_of_lt_of_le this.1 hR.heap, this.2⟩
          · cases hO
    stab := fun b oo hs => by
      simp only [Gh.back] at hs
      split at hs
      · exact Nat.lt_of_lt_of_le (h.stab b oo hs) hR.heap
      · exact hR.stab b oo hs
    boxS := fun b s hO oo hs => by
      have hgO : g.O b = some (.at s 0 0) := by
        simp only [Gh.back] at hO
        split at hO
        · exact hO
        · split at hO
          · cases hO
          · split at hO
            · exact hO
            · cases hO
      have hb := back_old (muts := muts) (args := args) h hgO (fun i k s' c hm e => by cases e; exact absurd (hhi i k s 0 hm) (by omega))
      simp only [Gh.back] at hs
      rw [if_pos hb] at hs
      exact h.boxS b s hgO oo hs
    zs := fun b oo hz => by
      obtain ⟨q1, q2, q3⟩ := h.zs b oo hz
      refine ⟨?_, q2, q3⟩
      simp only [Gh.back]
      rw [if_pos (hin b q2 q3)]
      exact q1
    sz := fun b oo h1 h2 hs => by
      simp only [Gh.back] at hs
      rw [if_pos (hin b h1 h2)] at hs
      exact h.sz b oo h1 h2 hs
    hh := h.hh }
/-- an owner that comes back -/
theorem back_own (h : Ok st g fr a w) (hR : ResOk muts w w' (g.mut w muts args) g' l vs res v) {i k s c : Nat} (hm : MutRef muts args i k s c) {u : Ty} {ys : List (Den u)} {v0 : Value} (hr : OwnR w g (.at s 0 c) u ys v0) {t : Ty} (hfl : t.flat = true) {xs : List (Den t)} (ho : OwnR w' g' (.at i 0 (k + 1)) t xs v0) : OwnR w' (g.back w muts args g') (.at s 0 c) t xs v0 := by
  rcases ho with e | ⟨b, cap, cur, e, h1, hO, h3, h4, h5, h6, h7, h8⟩
  · exact .inl e
  · rcases hr with ⟨e2, _⟩ | ⟨b', cap', cur', e', h1', hO', _⟩
    · rw [e2] at h1; cases h1
    · rw [h1'] at h1
      simp only [Value.slice.injEq, Option.some.injEq, Addr.mk.injEq, and_true] at h1
      obtain ⟨rfl, hlen, rfl⟩ := h1
      have hB : MutB g muts args b' := ⟨i, k, s, c, hm, hO'⟩
      have hno : ¬ (b' < w.heap.size ∧ ¬ MutB g muts args b') := fun e => e.2 hB
      refine .inr ⟨b', cap', cur, e, by rw [h1', hlen], ?_, h3, h4, h5, h6, fun j x hj => ?_, fun oo => ?_⟩
      · simp only [Gh.back]
        rw [if_neg hno, hO]
        simp only
        rw [if_pos (h.own b' _ hO').1]
        exact hO'
      · obtain ⟨ecs, q1, q2⟩ := h7 j x hj
        exact ⟨ecs, rep_flat hfl q1, q2⟩
      · simp only [Gh.back]
        rw [if_neg hno]
        exact h8 oo
theorem giveBack_app : ∀ {qs ps : List (Option (Nat × Nat))} {l1 l2 : List CV} {fr fr1 : Fr}, qs.length = l1.length → giveBack fr (qs ++ ps) (l1 ++ l2) = some fr1 → ∃ frm, giveBack fr qs l1 = some frm ∧ giveBack frm ps l2 = some fr1
  | [], ps, l1, l2, fr, fr1, hl, h => by
    have : l1 = [] := List.length_eq_zero_iff.1 hl.symm
    subst this
    exact ⟨fr, rfl, h⟩
  | q :: qs, ps, [], l2, fr, fr1, hl, h => by simp at hl
  | none :: qs, ps, x :: l1, l2, fr, fr1, hl, h => by
    simp only [List.cons_append, giveBack] at h ⊢
    exact giveBack_app (by simpa using hl) h
  | some (s, c) :: qs, ps, x :: l1, l2, fr, fr1, hl, h => by
    cases x <;> simp only [List.cons_append, giveBack] at h <;> first | (cases h; done) | skip
    obtain ⟨hfl, h⟩ := bif_some' h
    obtain ⟨frm, e1, e2⟩ := giveBack_app (by simpa using hl) h
    exact ⟨frm, by simp only [giveBack, hfl, cond_true]; exact e1, e2⟩
/-- the cells of one argument -/
theorem giveBack_cells {g2 : Gh} : ∀ {qs : List (Option (Nat × Nat))} {l1 : List CV} {frx fr1 : Fr}, giveBack frx qs l1 = some fr1 → Ok st g2 frx a w' →
    (∀ (k s c : Nat) (t : Ty) (xs : List (Den t)), qs[k]? = some (some (s, c)) → l1[k]? = some (.own t xs) → t.flat = true → ∃ v0 : Value, At g2 frx a w' s c v0 ∧ rel w' g2 (isBox frx) (.at s 0 c) (.own t xs) v0) →
    Ok st g2 fr1 a w' ∧ isBox fr1 = isBox frx ∧ ∀ s c v0, At g2 frx a w' s c v0 → At g2 fr1 a w' s c v0
  | [], [], frx, fr1, h, ok, _ => by
    simp only [giveBack, Option.some.injEq] at h
    subst h
    exact ⟨ok, rfl, fun _ _ _ h => h⟩
  | [], _ :: _, frx, fr1, h, ok, _ => by simp [giveBack] at h
  | none :: qs, [], frx, fr1, h, ok, _ => by simp [giveBack] at h
  | some _ :: qs, [], frx, fr1, h, ok, _ => by simp [giveBack] at h
  | none :: qs, x :: l1, frx, fr1, h, ok, hc => by
    simp only [giveBack] at h
    exact giveBack_cells h ok fun k s c t xs h1 h2 => hc (k + 1) s c t xs (by simpa using h1) (by simpa using h2)
  | some (s, c) :: qs, x :: l1, frx, fr1, h, ok, hc => by
    cases x <;> simp only [giveBack] at h <;> first | (cases h; done) | skip
    rename_i t xs
    obtain ⟨hfl, h⟩ := bif_some' h
    obtain ⟨v0, q1, q2⟩ := hc 0 s c t xs rfl rfl hfl
    have ok1 := setCell_ok ok q1 q2
    have hbx := isBox_setCell frx s c (.own t xs)
    obtain ⟨r1, r2, r3⟩ := giveBack_cells h ok1 fun k s' c' t' xs' h1 h2 h3 => by
      obtain ⟨u0, z1, z2⟩ := hc (k + 1) s' c' t' xs' (by simpa using h1) (by simpa using h2) h3
      exact ⟨u0, At_set rfl z1, by rw [hbx]; exact z2⟩
    exact ⟨r1, r2.trans hbx, fun s' c' v' hv => r3 s' c' v' (At_set rfl hv)⟩
theorem giveBack_all (h : Ok st g fr a w) (hR : ResOk muts w w' (g.mut w muts args) g' l vs res v) (hl : argsConv fr muts 0 args = some l) (hargs : ∀ (i : Nat) (p : Comp), args[i]? = some p → ∃ v : Value, vs[i]? = some v ∧ FRel w g (isBox fr) p v) :
    ∀ {muts' : List Nat} {ps' : List (Option (Nat × Nat))} {outs : List CV} {frx fr1 : Fr}, (∀ j ∈ muts', j ∈ muts) → placesOf fr args muts' = some ps' → Outs w' g' l vs muts' outs → giveBack frx ps' outs = some fr1 → Ok st (g.back w muts args g') frx a w' →
      (∀ s c v0, At g fr a w s c v0 → At (g.back w muts args g') frx a w' s c v0) → Ok st (g.back w muts args g') fr1 a w'
  | [], ps', outs, frx, fr1, _, hp, ho, hg, ok, _ => by
    simp only [placesOf, Option.some.injEq] at hp
    subst hp
    have ho : outs = [] := ho
    subst ho
    simp only [giveBack, Option.some.injEq] at hg
    subst hg
    exact ok
  | j :: r, ps', outs, frx, fr1, hsub, hp, ho, hg, ok, hat => by
    simp only [placesOf] at hp
    split at hp
    case h_2 => cases hp
    rename_i p ps'' hj hr
    split at hp
    case h_2 => cases hp
    rename_i cs' qs hq
    cases hp
    obtain ⟨l1, l2, p', v1, rfl, hp', hv1, hlen, hown, hrest⟩ := ho
    obtain ⟨i1, i2, i3⟩ := mutCells_spec hq
    have hjm : j ∈ muts := hsub j List.mem_cons_self
    have hpl : p'.2.length = p.2.length := by
      rcases (argsConv_spec hl).2 j p hj with ⟨_, cs2, qs2, e1, e2⟩ | ⟨hn, _⟩
      · rw [hp'] at e2
        cases e2
        exact (mutCells_spec e1).1
      · rw [Nat.zero_add] at hn
        exact (hn hjm).elim
    obtain ⟨frm, b1, b2⟩ := giveBack_app (by rw [i2, hlen, hpl]) hg
    obtain ⟨v2, hv2, hfrel⟩ := hargs j p hj
    rw [hv1] at hv2
    cases hv2
    obtain ⟨ok1, _, hat1⟩ := giveBack_cells b1 ok fun k s c t xs hk hk2 hfl => by
      have hkl : k < p.2.length := by rw [← i2]; exact (List.getElem?_eq_some_iff.1 hk).1
      have hx := List.getElem?_eq_getElem hkl
      obtain ⟨u0, hu0, hO⟩ := hown k t xs hk2
      rcases i3 k _ hx with ⟨s', c', t', xs', u, ys, e1, ⟨e2, _⟩, _, e4⟩ | ⟨_, _, e4⟩
      · rw [hk] at e4
        cases e4
        have hmr : MutRef muts args j k s c := ⟨hjm, p, t', xs', hj, by rw [hx, e1]⟩
        have hval : ∃ bx pl, rel w g bx pl (.ref s c t' xs') u0 := by
          obtain ⟨gg, cs⟩ := p
          obtain ⟨_, hrel⟩ := hfrel
          cases gg with
          | true =>
            obtain ⟨us, z1, z2, z3⟩ := hrel
            obtain ⟨u1, z4, z5⟩ := z3 k _ hx
            rw [z1] at hu0
            simp only [cellsOf] at hu0
            rw [z4] at hu0
            cases hu0
            rw [e1] at z5
            exact ⟨_, _, z5⟩
          | false =>
            obtain ⟨x, rfl, hrx⟩ := hrel
            have hk0 : k = 0 := by simp at hkl; exact hkl
            subst hk0
            have e1 : x = .ref s c t' xs' := e1
            subst e1
            rcases hrx with e | e | hrx
            · cases e
            · cases e.1
            · obtain ⟨_, z2, _⟩ := mut_val h hrx e2
              have : cellsOf v1 = [v1] := by
                rcases z2 with ⟨e, _⟩ | ⟨b, cap, cur, e', e, _⟩ <;> rw [e] <;> rfl
              rw [this] at hu0
              simp at hu0
              subst hu0
              exact ⟨_, _, hrx⟩
        obtain ⟨bx, pl, hval⟩ := hval
        obtain ⟨z1, z2, z3⟩ := mut_val h hval e2
        exact ⟨u0, hat s c u0 z1, back_own h hR hmr z2 hfl hO, rfl, z3⟩
      · rw [hk] at e4
        cases e4
    exact giveBack_all h hR hl hargs (fun j hm => hsub j (List.mem_cons_of_mem _ hm)) hr hrest b2 ok1 fun s c v0 hv => hat1 s c v0 (hat s c v0 hv)
theorem callMut_ok (h : Ok st g fr a w) (hX : Fits X st) {c : Call} (ho : o.op = .call c) {f : Operand} (hc : c.callee = .value f) {fid : FuncId} {caps : List CV} (hf : opc fr f = .fn fid caps) {F : Fn} (hF : EntOk P fid F) (hb : F.box = false) (hm : F.muts ≠ [])
    (hk : callFn X F fr (argsOf fr c.args.toList ++ caps.map fun c => (false, [c])) o.dst K = some r) : o.wp P a w (Good st K r) Q := by
  obtain ⟨cvs, e1, e2, e3⟩ := call_args h (xs := c.args.toList) hf
  generalize hargs : (argsOf fr c.args.toList ++ caps.map fun c => ((false, [c]) : Comp)) = args at *
  have hme : F.muts.isEmpty = false := by
    cases hq : F.muts with
    | nil => exact (hm hq).elim
    | cons => rfl
  unfold callFn at hk
  split at hk
  case h_2 => cases hk
  rename_i l ps hl hps
  obtain ⟨hcond, hk⟩ := bif_some' hk
  rw [hme] at hcond
  simp only [Bool.false_or, Bool.and_eq_true] at hcond
  obtain ⟨hn, hold⟩ := hcond
  have hinit := mut_init h hl hps hn hold (by simpa using e2) e3
  have hcalls := hF.ok hb w _ _ _ _ r hinit hk
  unfold Oper.wp
  rw [run_resolve hc e1 hF.call ho, Oper.upon_enter]
  have hvs : (c.args.map a.eval ++ cvs.toArray) = (c.args.toList.map a.eval ++ cvs).toArray := by
    apply Array.ext'; simp
  rw [hvs]
  refine hcalls.mono ?_
  rintro e w' ⟨v, res, g', rfl, hres, hR⟩
  show Good st K r (a.put o.dst v) w'
  obtain ⟨rs, outs, hrs, hval, houts⟩ := hR.val
  rw [hme, cond_false] at hrs
  cases hlen : (res : List Comp).all (fun c => c.2.length.blt 4096)
  · rw [hlen] at hres; simp at hres
  rw [hlen, hme] at hres
  simp only [Bool.not_true, cond_false] at hres
  have hlen' : ∀ p ∈ rs, p.2.length < 4096 := fun p hp => Nat.le_of_ble_eq_true (List.all_eq_true.1 hlen p (by rw [hrs]; exact List.mem_append_left _ hp))
  have hlast : res.getLast? = some (false, outs) := by rw [hrs]; simp
  have hdrop : res.dropLast = rs := by rw [hrs]; simp
  rw [hlast, hdrop] at hres
  simp only at hres
  split at hres
  case h_2 => cases hres
  rename_i fr1 hgb
  have hhi : ∀ i k s c, MutRef F.muts args i k s c → 0 < c := fun i k s c hmr => by
    obtain ⟨_, _, u, ys, _, e⟩ := places_own hps (places_mem hps hmr)
    cases c with
    | zero => unfold cellAt at e; split at e <;> cases e
    | succ c => omega
  have okb := back_ok h hR hps hhi
  have okf := giveBack_all h hR hl e3 (fun _ h => h) hps (houts hm) hgb okb fun s c v0 hv => by
    have h1 := At_kill (bury_at ps hv)
    unfold At at h1 ⊢
    split
    · rename_i cs hcs
      rw [hcs] at h1; exact h1
    · rename_i cs hcs
      rw [hcs] at h1; exact h1
    · rename_i cs hcs
      rw [hcs] at h1
      obtain ⟨b, arr, ty, z1, z2, z3⟩ := h1
      have hbx : isBox fr s = true := by
        rw [← bury_box ps, ← isBox_kill]
        simp [isBox, hcs, notBox]
      have hs := h.slot s
      cases hfs : fr s with
      | comp _ _ => simp [isBox, hfs, notBox] at hbx
      | tup _ => simp [isBox, hfs, notBox] at hbx
      | box cs0 =>
        rw [hfs] at hs
        obtain ⟨⟨b', arr', ty', y1, y2, y3, _⟩, _⟩ := hs
        rw [y1] at z1
        cases z1
        have hb := back_old (muts := F.muts) (args := args) h y2 (fun i k s' c hmr e => by cases e; exact absurd (hhi i k s 0 hmr) (by omega))
        exact ⟨b, arr, ty, y1, (hR.old b hb.1 hb.2).trans z2, z3⟩
    · rename_i cs hcs
      rw [hcs] at h1; exact h1
  have tZ : ∀ b oo, g'.Z b oo → (if (false : Bool) = true then (g.back w F.muts args g').Z b oo else (g.back w F.muts args g').S b oo) := fun b oo hz => by
    rw [hR.eZ] at hz
    have hz : g.Z b oo := hz
    exact (okb.zs b oo (by rw [← h.eZ]; exact hz)).1
  have tS : ∀ b oo, g'.S b oo → (g.back w F.muts args g').S b oo := fun b oo hs => by
    simp only [Gh.back]
    split
    · rename_i hb
      have := hR.sz b oo hb.1 hb.2 hs
      exact (h.zs b oo (by rw [← h.eZ]; exact this)).1
    · exact hs
  have tO : ∀ b k, g'.O b = some (.air k) → (g.back w F.muts args g').O b = some (.air k) ∧ ∀ oo, (g.back w F.muts args g').S b oo ↔ g'.S b oo := fun b k hO => by
    have hno : ¬ (b < w.heap.size ∧ ¬ MutB g F.muts args b) := fun e => e.2 ((hR.own b _ hO).2 e.1)
    simp only [Gh.back]
    rw [if_neg hno, hO]
    exact ⟨rfl, fun oo => by rw [if_neg hno]⟩
  exact fin_res hX okf hlen' (old := false) (rsv_of tZ tS tO hval) (air_of tZ tS tO hval) hres
end
end Go.Rv

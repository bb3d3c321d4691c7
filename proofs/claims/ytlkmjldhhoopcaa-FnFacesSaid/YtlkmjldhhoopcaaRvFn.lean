/- A function: how it is entered, what it hands back. -/
import Derived.Test.YtlkmjldhhoopcaaRvCut
import Derived.Laws.Sem
namespace Go.Rv
set_option linter.unusedSimpArgs false
set_option linter.unusedVariables false
section
variable {P : Program} {st : St} {g : Gh} {fr : Fr} {a : Act} {w : World} {X : Env} {R : Type} {r : R} {Q : Exit → Act → World → Prop}
/-! ### The start -/
def fnSt (w : World) (g : Gh) (n : Nat) (keep : List Nat) (vs : List Value) : St := { B := w.heap.size, M := g.M, Z := g.Z, n := n, keep := keep, args := vs.toArray, w0 := w }
def fnAct (n : Nat) (vs : List Value) : Act := { tmps := vs.toArray ++ Array.replicate (n - vs.toArray.size) undef, defers := [] }
theorem argFr_none : ∀ (args : List Comp) (i s : Nat), s < i → argFr i args s = .dead
  | [], i, s, h => rfl
  | (gg, cs) :: r, i, s, h => by
    simp only [argFr]
    rw [upd_ne _ _ _ (by omega)]
    exact argFr_none r (i + 1) s (by omega)
theorem argFr_get : ∀ (args : List Comp) (i s : Nat), i ≤ s → argFr i args s = match args[s - i]? with | some p => .comp p.1 p.2 | none => .dead
  | [], i, s, h => by simp [argFr]
  | (gg, cs) :: r, i, s, h => by
    simp only [argFr]
    by_cases hs : s = i
    · subst hs; rw [upd_same]; simp
    · rw [upd_ne _ _ _ hs, argFr_get r (i + 1) s (by omega)]
      obtain ⟨k, hk⟩ : ∃ k, s - i = k + 1 := ⟨s - i - 1, by omega⟩
      rw [hk, show s - (i + 1) = k by omega]
      simp
theorem argFr_box (args : List Comp) : isBox (argFr 0 args) = fun _ => false := by
  funext s
  unfold isBox
  rw [argFr_get args 0 s (Nat.zero_le _)]
  split <;> rfl
theorem entry_ok {args : List Comp} {vs : List Value} (h : InitOk w g args vs) {n : Nat} (hn : args.length ≤ n) {keep : List Nat} (hk : ∀ j ∈ keep, j < args.length) : Ok (fnSt w g n keep vs) g (argFr 0 args) (fnAct n vs) w where
  eB := h.eB
  eM := rfl
  eZ := rfl
  size := by have := h.len; simp [fnAct, fnSt]; omega
  defers := rfl
  slot := fun s => by
    rw [argFr_box, argFr_get args 0 s (Nat.zero_le _)]
    cases hs : args[s - 0]? with
    | none => exact ⟨.dead, rfl, .inl rfl⟩
    | some p =>
      obtain ⟨v, h1, h2⟩ := h.arg s p (by simpa using hs)
      have : (fnAct n vs).tmps.getD s undef = v := by
        have hlt := (List.getElem?_eq_some_iff.1 h1).1
        simp only [fnAct, Array.getD_eq_getD_getElem?]
        rw [Array.getElem?_append_left (by simpa using hlt)]
        simp [h1]
      rw [this]
      exact h2
  keep := fun j hj => by
    have := hk j hj
    have := h.len
    simp only [fnAct, fnSt]
    rw [Array.getElem?_append_left (by simp; omega)]
  os := rfl
  tape := rfl
  output := rfl
  heap := Nat.le_refl _
  old := fun b _ _ => rfl
  own := fun b p hO => by
    obtain ⟨h1, h2⟩ := h.own b p hO
    exact ⟨h1, fun _ => h2⟩
  stab := h.stab
  boxS := fun b s hO => (h.nobox b s hO).elim
  zs := fun b o hz => by
    obtain ⟨h1, h2, h3⟩ := h.zs b o hz
    have h4 : b < w.heap.size := h.eB ▸ h2
    exact ⟨h1, h4, h3⟩
  sz := fun b o hb hm hs => by
    have hb : b < w.heap.size := hb
    exact h.sz b o (h.eB.symm ▸ hb) hm hs
  hh := h.hh
/-! ### The end -/
theorem mapM_run {α β : Type} {f : α → Sem β} {w : World} : ∀ (l : List α) (us : List β), us.length = l.length → (∀ (i : Nat) (x : α), l[i]? = some x → ∃ u, us[i]? = some u ∧ (f x).run P w = .ok u w) → (l.mapM f).run P w = .ok us w
  | [], us, hl, h => by
    cases us with
    | nil => rfl
    | cons => simp at hl
  | x :: l, us, hl, h => by
    cases us with
    | nil => simp at hl
    | cons u us =>
      obtain ⟨u', h1, h2⟩ := h 0 x rfl
      simp at h1
      subst h1
      have ih := mapM_run (f := f) l us (by simpa using hl) (fun i x hi => by simpa using h (i + 1) x (by simpa using hi))
      rw [List.mapM_cons, Sem.run_bind, h2, Result.andThen_ok, Sem.run_bind, ih, Result.andThen_ok]
      rfl
def resVal (tmps : Array Value) : ResultVar → Sem Value
  | .tmp t => pure (tmps.getD t undef)
  | .cell a t => do loadVar t (← asAddr (tmps.getD a undef))
def tupV : List Value → Value
  | [u] => u
  | us => .tuple us.toArray
theorem results_run {fn : Func} {tmps : Array Value} {us : List Value} (hl : us.length = fn.results.toList.length)
    (h : ∀ (i : Nat) (x : ResultVar), fn.results.toList[i]? = some x → ∃ u, us[i]? = some u ∧ (resVal tmps x).run P w = .ok u w) :
    (results fn tmps).run P w = .ok (tupV us) w := by
  have hfun : (fun (x : ResultVar) => (match x with | .tmp t => pure (tmps.getD t undef) | .cell a t => do loadVar t (← asAddr (tmps.getD a undef)) : Sem Value)) = resVal tmps := by
    funext x; cases x <;> rfl
  have e : results fn tmps = (fn.results.mapM (resVal tmps) >>= fun vs => pure (if h : vs.size = 1 then vs[0] else .tuple vs)) :=
    congrArg (fun (f : ResultVar → Sem Value) => Array.mapM f fn.results >>= fun vs => pure (if h : vs.size = 1 then vs[0] else Value.tuple vs)) hfun
  rw [e, Array.mapM_eq_mapM_toList, map_eq_pure_bind]
  simp only [Sem.run_bind]
  rw [mapM_run fn.results.toList us hl h]
  simp only [Result.andThen_ok, Sem.run_pure]
  match us with
  | [] => rfl
  | [u] => rfl
  | u :: v :: us => simp [tupV]
theorem loadVar_run (hT : TabOk P X) {t : TypeId} {i : TI} (hi : X.ti t = some i) {ad : Addr} (hsp : ad.spot = none) {us : List Value} (hl : us.length = i.ty.cells) (hr : w.rangeAt ad.block ad.off us) :
    ∃ v, (loadVar t ad).run P w = .ok v w ∧ (i.agg = true → v = .agg us.toArray) ∧ (i.agg = false → us = [v]) := by
  obtain ⟨ii, z, e1, e2, _⟩ := (ti_elem hT hi).ex
  obtain ⟨d, hd, hrow, _⟩ := ti_under hT hi
  have hsize : (P.info? t).map (·.size) = some us.length := by rw [e1]; simp [e2, hl]
  cases hag : i.agg with
  | true =>
    rw [hag] at hrow
    have := run_loadAt_mid w ad.block ad.off t us d hr hd hrow hsize
    rw [← addr_eta ad hsp] at this
    simp only [Instr.loadAt, Instr.sureAddr, Sem.run_bind, Sem.run_pure, Result.andThen_ok] at this
    exact ⟨_, this, fun _ => rfl, fun e => by cases e⟩
  | false =>
    rw [hag] at hrow
    have h1 : i.ty.cells = 1 := by
      have := ti_fit hT hi
      simp only [fitB, Bool.and_eq_true, hag] at this
      have h2 := this.2
      split at h2
      · simp at h2
      all_goals (first | (split at h2 <;> simp_all [Ty.cells]) | simp_all)
    rw [h1] at hl
    obtain ⟨u, rfl⟩ := List.length_eq_one_iff.1 hl
    have hagg : (isAgg t).run P w = .ok false w := by
      unfold isAgg; rw [Sem.run_bind, run_underlying hd w]
      cases d <;> simp_all [TypeDesc.isRow]
    have hcell : w.cell? ad = some u := by
      have := hr 0 u rfl
      rw [addr_eta ad hsp]; simpa using this
    refine ⟨u, ?_, fun e => (by cases e), fun _ => rfl⟩
    simp only [loadVar, Sem.run_bind, hagg, Sem.run_pure, Result.andThen_ok]
    simp [load, Sem.run, hcell]
/-- one result -/
theorem resOne_ok (hT : TabOk P X) (h : Ok st g fr a w) {x : ResultVar} {p : Comp} {fr1 : Fr} (hr : resOne X fr x = some (p, fr1)) (j : Nat) :
    ∃ g1 u, Took st a w g g1 fr fr1 ∧ ARel w g1 (isBox fr) j p u ∧ (resVal a.tmps x).run P w = .ok u w := by
  cases x with
  | tmp t =>
    simp only [resOne] at hr
    split at hr
    · simp only [Option.some.injEq] at hr
      obtain ⟨g1, t1, r1⟩ := takeOpd_ok h hr j
      exact ⟨g1, _, t1, r1, rfl⟩
    · cases hr
  | cell b t =>
    simp only [resOne] at hr
    split at hr
    · rename_i cs i hb hi
      obtain ⟨hl, hr⟩ := bif_some hr
      have hl := Nat.eq_of_beq_eq_true hl
      have hs := h.slot b
      rw [hb] at hs
      obtain ⟨⟨bb, arr, ty, x1, x2, x3, x4, x5⟩, bb', y1, y2⟩ := hs
      rw [x1] at y1
      cases y1
      generalize hts : takeSlot fr b cs.length 1 = q at hr
      obtain ⟨ws, fr2⟩ := q
      simp only [Option.some.injEq, Prod.mk.injEq] at hr
      obtain ⟨rfl, rfl⟩ := hr
      obtain ⟨g1, t1, l1, r1⟩ := takeSlot_ok cs.length h (s := b) (c := 1) (N := cs.length) (by rw [hb]; rfl) (by omega) (by omega) arr.toList x4 (fun k v hk => by
        unfold At; rw [hb]; exact ⟨bb, arr, ty, x1, x3, by omega, by rw [show 1 + k - 1 = k by omega]; simpa using hk⟩) j hts
      obtain ⟨v, v1, v2, v3⟩ := loadVar_run (P := P) (w := w) hT hi (ad := ⟨bb, 0, none⟩) rfl (us := arr.toList) (by rw [x4, hl]) (fun j v hj => by
        rw [cell_of_row w bb _ arr ty (0, 0) x3]; simpa using hj)
      refine ⟨g1, v, t1, ?_, ?_⟩
      · cases hag : i.agg with
        | true =>
          refine ⟨arr.toList, by rw [v2 hag], by rw [l1]; exact x4, r1⟩
        | false =>
          have := v3 hag
          rw [this] at x4
          have hw : ws.length = 1 := by rw [l1, ← x4]; rfl
          obtain ⟨c, rfl⟩ := List.length_eq_one_iff.1 hw
          obtain ⟨u, q1, q2⟩ := r1 0 c rfl
          rw [this] at q1
          simp at q1
          subst q1
          exact ⟨c, rfl, .inr (.inr q2)⟩
      · simp only [resVal, y2, Sem.run_bind, asAddr, Sem.run_pure, Result.andThen_ok]
        exact v1
    · cases hr
theorem ARel.air {g1 : Gh} {fr1 : Fr} (ht : Took st a w g g1 fr fr1) {j : Nat} {p : Comp} {v : Value} (h : ARel w g (isBox fr) j p v) : ARel w g1 (isBox fr) j p v := by
  obtain ⟨b, cs⟩ := p
  cases b with
  | true =>
    obtain ⟨vs, e1, e2, e3⟩ := h
    refine ⟨vs, e1, e2, fun k c hk => ?_⟩
    obtain ⟨u, q1, q2⟩ := e3 k c hk
    exact ⟨u, q1, ht.air _ _ _ q2⟩
  | false =>
    obtain ⟨c, e1, e2⟩ := h
    exact ⟨c, e1, e2.imp id (fun e => e.imp id (ht.air _ _ _))⟩
theorem resAll_ok (hT : TabOk P X) : ∀ (rs : List ResultVar) {g : Gh} {fr fr1 : Fr} (_ : Ok st g fr a w) {l : List Comp} (_ : resAll X fr rs = some (l, fr1)) (i0 : Nat),
    ∃ (g1 : Gh) (us : List Value), Took st a w g g1 fr fr1 ∧ us.length = rs.length ∧ l.length = rs.length ∧ (∀ (i : Nat) (x : ResultVar), rs[i]? = some x → ∃ u, us[i]? = some u ∧ (resVal a.tmps x).run P w = .ok u w) ∧
      ∀ (i : Nat) (p : Comp), l[i]? = some p → ∃ u : Value, us[i]? = some u ∧ ARel w g1 (isBox fr) (4096 * (i0 + i)) p u
  | [], g, fr, fr1, h, l, hr, i0 => by
    simp only [resAll, Option.some.injEq, Prod.mk.injEq] at hr
    obtain ⟨rfl, rfl⟩ := hr
    exact ⟨g, [], Took.refl h, rfl, rfl, fun i x hi => by simp at hi, fun i p hi => by simp at hi⟩
  | x :: rs, g, fr, fr1, h, l, hr, i0 => by
    simp only [resAll] at hr
    split at hr
    case h_2 => cases hr
    rename_i c fr2 hx
    split at hr
    case h_2 => cases hr
    rename_i l' fr3 hrs
    simp only [Option.some.injEq, Prod.mk.injEq] at hr
    obtain ⟨rfl, rfl⟩ := hr
    obtain ⟨g1, u, t1, r1, e1⟩ := resOne_ok hT h hx (4096 * i0)
    obtain ⟨g2, us, t2, l1, l2, q1, q2⟩ := resAll_ok hT rs t1.ok hrs (i0 + 1)
    refine ⟨g2, u :: us, t1.trans t2, by simp [l1], by simp [l2], fun i y hi => ?_, fun i p hi => ?_⟩
    · cases i with
      | zero => simp at hi; subst hi; exact ⟨u, rfl, e1⟩
      | succ i => simp at hi; simpa using q1 i y hi
    · cases i with
      | zero =>
        simp at hi; subst hi
        refine ⟨u, rfl, ?_⟩
        have := ARel.air t2 (by rw [t1.bx]; exact r1)
        rw [t1.bx] at this
        exact this
      | succ i =>
        simp at hi
        obtain ⟨u', z1, z2⟩ := q2 i p hi
        rw [t1.bx] at z2
        exact ⟨u', by simpa using z1, by rw [show i0 + (i + 1) = i0 + 1 + i by omega]; exact z2⟩
theorem RRel_of_rel {bx : Nat → Bool} {k : Nat} {c : CV} {v : Value} (h : rel w g bx (.air k) c v) : RRel w g k c v := by
  cases c
  case own => exact h.2.elim
  case tmpo => exact h.1
  case ref => exact h.1
  case undef => exact h.elim
  case dead | int | bool | str | nils | lo | hi => exact h
  case mbox => exact h.elim
  all_goals exact rel_one h
theorem RComp_of_ARel {bx : Nat → Bool} {i : Nat} {p : Comp} {v : Value} (h : ARel w g bx (4096 * i) p v) : RComp w g i p v := by
  obtain ⟨b, cs⟩ := p
  cases b with
  | true =>
    obtain ⟨vs, e1, e2, e3⟩ := h
    exact ⟨vs, e1, e2, fun k c hk => by obtain ⟨u, q1, q2⟩ := e3 k c hk; exact ⟨u, q1, RRel_of_rel q2⟩⟩
  | false =>
    obtain ⟨c, e1, e2⟩ := h
    refine ⟨c, e1, ?_⟩
    rcases e2 with e2 | e2 | e2
    · exact .inl e2
    · exact .inr (.inl e2.1)
    · exact .inr (.inr (RRel_of_rel e2))
/-! ### Results, told by patterns -/
def Pat.res : Pat → Bool
  | .fl _ => true
  | _ => false
theorem rdec_rel (hz : ∀ b o, g.Z b o → g.S b o) {k : Nat} {p : Pat} {c : CV} {x : p.T} {v : Value} (hp : p.res = true) (hd : p.dec true c = some x) (hr : RRel w g k c v) : RRel w g k (p.enc x) v := by
  have mono : ∀ {t : Ty} {xs : List (Den t)}, RS w g.Z t xs v → RS w g.S t xs v := fun h => rep_mono (fun b o h => ⟨hz b o h, rfl⟩) h
  cases p with
  | rptr => simp [Pat.res] at hp
  | hptr => simp [Pat.res] at hp
  | fn => simp [Pat.res] at hp
  | fl p =>
    have one : RRel w g k c v → v.oneCell' = true := by
      intro h
      cases c
      case undef => exact h.elim
      case own => exact OwnR_one h
      case tmpo => exact OwnR_one h
      case int => have h : v = _ := h; subst h; rfl
      case bool => have h : v = _ := h; subst h; rfl
      case str => have h : v = _ := h; subst h; rfl
      case nils => have h : v = _ := h; subst h; rfl
      case lo => exact rep_one h v (by simp)
      case hi => exact rep_one h v (by simp)
      case ref => exact rep_one h v (by simp)
      case mbox => obtain ⟨_, _, _, rfl, _⟩ := h; rfl
      all_goals exact h
    cases p with
    | own t =>
      cases c <;> simp only [Pat.dec, FPat.dec] at hd <;> first | (cases hd; done) | skip
      · cases hd
        exact .inl ⟨hr, rfl⟩
      all_goals
        try simp only [cond_true] at hd
        split at hd
        case isFalse => cases hd
        rename_i hu
        subst hu
        cases hd
        exact hr
    | ref s' c' t =>
      cases c <;> simp only [Pat.dec, FPat.dec] at hd <;> first | (cases hd; done) | skip
      split at hd
      case isFalse => cases hd
      rename_i hu
      obtain ⟨rfl, rfl, rfl⟩ := hu
      cases hd
      exact hr
    | ptr s' c' => exact one hr
    | hi t =>
      have hd : listAs t c = some x := hd
      show RS w g.S t x v
      cases c <;> simp only [listAs] at hd <;> first | (cases hd; done) | skip
      case nils => cases hd; have hv : v = .slice none 0 0 := hr; subst hv; exact RS_nils
      all_goals
        split at hd
        case isFalse => cases hd
        rename_i hu
        subst hu
        cases hd
      · exact mono hr
      · exact hr
      · exact OwnR.reads hr
      · exact OwnR.reads hr
      · exact hr
    | dead => exact one hr
    | undef =>
      cases c <;> simp only [Pat.dec, FPat.dec] at hd <;> first | (cases hd; done) | exact hr
    | int k =>
      cases c <;> simp only [Pat.dec, FPat.dec] at hd <;> first | (cases hd; done) | skip
      split at hd
      case isFalse => cases hd
      rename_i e
      subst e
      cases hd
      exact hr
    | bool =>
      cases c <;> simp only [Pat.dec, FPat.dec] at hd <;> first | (cases hd; done) | skip
      cases hd; exact hr
    | str =>
      cases c <;> simp only [Pat.dec, FPat.dec] at hd <;> first | (cases hd; done) | skip
      cases hd; exact hr
    | nils =>
      cases c <;> simp only [Pat.dec, FPat.dec] at hd <;> first | (cases hd; done) | skip
      exact hr
    | lo t =>
      show RS w g.Z t x v
      cases c <;> simp only [Pat.dec, FPat.dec] at hd <;> first | (cases hd; done) | skip
      · cases hd; have hv : v = .slice none 0 0 := hr; subst hv; exact RS_nils
      · split at hd
        case isFalse => cases hd
        rename_i hu
        subst hu
        cases hd
        exact hr
theorem rdec_comp (hz : ∀ b o, g.Z b o → g.S b o) {i : Nat} {gg : Bool} {ps : List Pat} {cs : List CV} {x : patsT ps} {v : Value} (hp : ps.all Pat.res = true) (hd : decs true ps cs = some x) (hr : RComp w g i (gg, cs) v) : RComp w g i (gg, encs ps x) v := by
  obtain ⟨i1, i2, i3⟩ := decs_get hd
  have hpm : ∀ (k : Nat) (p : Pat), ps[k]? = some p → p.res = true := fun k p hk => List.all_eq_true.1 hp p (List.mem_of_getElem? hk)
  cases gg with
  | true =>
    obtain ⟨vs, e1, e2, e3⟩ := hr
    refine ⟨vs, e1, by rw [e2, i1, i2], fun k c hk => ?_⟩
    have hkl : k < ps.length := by rw [← i2]; exact (List.getElem?_eq_some_iff.1 hk).1
    obtain ⟨c0, y0, q1, q2, q3⟩ := i3 k ps[k] (List.getElem?_eq_getElem hkl)
    rw [hk] at q3
    cases q3
    obtain ⟨u, u1, u2⟩ := e3 k c0 q1
    exact ⟨u, u1, rdec_rel hz (hpm k _ (List.getElem?_eq_getElem hkl)) q2 u2⟩
  | false =>
    obtain ⟨c0, rfl, hv⟩ := hr
    have hpl : ps.length = 1 := by rw [← i1]; rfl
    match ps, hpl with
    | [p], _ =>
      obtain ⟨c1, y0, q1, q2, q3⟩ := i3 0 p rfl
      simp at q1
      subst q1
      have hen : encs [p] x = [p.enc y0] := by
        have : (encs [p] x).length = 1 := i2
        match hh : encs [p] x, this with
        | [z], _ => rw [hh] at q3; simp at q3; rw [q3]
      rw [hen]
      refine ⟨_, rfl, ?_⟩
      rcases hv with hv | hv | hv
      · subst hv
        cases p with
        | fl p => cases p <;> simp only [Pat.dec, FPat.dec, listAs] at q2 <;> first | exact .inl rfl | (cases q2; done)
        | _ => simp [Pat.dec] at q2
      · subst hv
        cases p with
        | fl p => cases p <;> simp only [Pat.dec, FPat.dec, listAs] at q2 <;> first | exact .inl rfl | exact .inr (.inl rfl) | (cases q2; done)
        | _ => simp [Pat.dec] at q2
      · exact .inr (.inr (rdec_rel hz (hpm 0 p rfl) q2 hv))
theorem decC_get : ∀ {pr : CompPs} {l : List Comp} {x : compT pr}, decC pr l = some x → l.length = pr.length ∧ (encC pr x).length = pr.length ∧ ∀ (i : Nat) (p : Bool × List Pat), pr[i]? = some p → ∃ (cs : List CV) (y : patsT p.2), l[i]? = some (p.1, cs) ∧ decs true p.2 cs = some y ∧ (encC pr x)[i]? = some (p.1, encs p.2 y)
  | [], l, x, h => by
    cases l with
    | nil => exact ⟨rfl, rfl, fun i p hi => by simp at hi⟩
    | cons => simp [decC] at h
  | p :: pr, l, x, h => by
    cases l with
    | nil => simp [decC] at h
    | cons c l =>
      simp only [decC] at h
      obtain ⟨hb, h⟩ := bif_some h
      have hb : p.1 = c.1 := by simpa using hb
      split at h
      case h_2 => cases h
      rename_i y hy
      split at h
      case h_2 => cases h
      rename_i z hz
      cases h
      obtain ⟨i1, i2, i3⟩ := decC_get hz
      refine ⟨by simp [i1], by simp [encC, i2], fun i q hi => ?_⟩
      cases i with
      | zero => simp at hi; subst hi; exact ⟨c.2, y, by rw [hb]; rfl, hy, rfl⟩
      | succ i => simp at hi; simpa [encC] using i3 i q hi
theorem RVal_map {l rs : List Comp} {v : Value} (hl : rs.length = l.length) (one : ∀ (i : Nat) (c : Comp) (u : Value) (c0 : Comp), l[i]? = some c0 → rs[i]? = some c → RComp w g i c0 u → RComp w g i c u) (hr : RVal w g l v) : RVal w g rs v := by
  match l, rs, hl, hr, one with
  | [c0], [c], _, hr, one => exact one 0 c v c0 rfl rfl hr
  | [], [], _, hr, one => exact hr
  | c0 :: d0 :: l, c :: d :: l', hl, hr, one =>
    obtain ⟨us, u1, u2, u3⟩ := hr
    refine ⟨us, u1, by rw [u2]; exact hl.symm, fun i p hi => ?_⟩
    have hil : i < (c0 :: d0 :: l).length := by rw [← hl]; exact (List.getElem?_eq_some_iff.1 hi).1
    obtain ⟨u, w1, w2⟩ := u3 i _ (List.getElem?_eq_getElem hil)
    exact ⟨u, w1, one i p u _ (List.getElem?_eq_getElem hil) hi w2⟩
theorem rdec_at (hz : ∀ b o, g.Z b o → g.S b o) {pr : CompPs} {l : List Comp} {x : compT pr} (hp : (pr.all fun p => p.2.all Pat.res) = true) (hd : decC pr l = some x) (i : Nat) (c : Comp) (u : Value) (c0 : Comp) (h0 : l[i]? = some c0) (hc : (encC pr x)[i]? = some c) (hu : RComp w g i c0 u) : RComp w g i c u := by
  obtain ⟨i1, i2, i3⟩ := decC_get hd
  have hpm : ∀ (i : Nat) (p : Bool × List Pat), pr[i]? = some p → p.2.all Pat.res = true := fun i p hi => List.all_eq_true.1 hp p (List.mem_of_getElem? hi)
  have hil : i < pr.length := by rw [← i2]; exact (List.getElem?_eq_some_iff.1 hc).1
  obtain ⟨cs, y, q1, q2, q3⟩ := i3 i pr[i] (List.getElem?_eq_getElem hil)
  rw [h0] at q1
  rw [hc] at q3
  cases q1
  cases q3
  exact rdec_comp hz (hpm i _ (List.getElem?_eq_getElem hil)) q2 hu
/-! ### The contract of a function -/
/-- what the code hands back for a state that it ends in -/
theorem end_ok (hT : TabOk P X) (h : Ok st g fr a w) {fn : Func} {outs : List (Nat × Nat)} {dec : List Comp → Option R} {e : Ex} (he : ∀ id, e ≠ .exit id) (hk : endK X fn outs dec e fr = some r) :
    ∃ v l g1 fr1, (results fn a.tmps).run P w = .ok v w ∧ Ok st g1 fr1 a w ∧ RVal w g1 l v ∧ ((outs = [] ∧ dec l = some r) ∨ (outs ≠ [] ∧ ∃ o, outsOf fr1 outs = some o ∧ dec (l ++ [(false, o)]) = some r)) := by
  have hk : (match resAll X fr fn.results.toList with | some (l, fr1) => (bif outs.isEmpty then dec l else match outsOf fr1 outs with | some o => dec (l ++ [(false, o)]) | none => none) | none => none) = some r := by
    cases e with
    | exit id => exact (he id rfl).elim
    | normal => exact hk
    | ret => exact hk
  split at hk
  case h_2 => cases hk
  rename_i l fr1 hr
  obtain ⟨g1, us, t1, l1, l2, q1, q2⟩ := resAll_ok (P := P) hT _ h hr 0
  have hc : ∀ (i : Nat) (p : Comp), l[i]? = some p → ∃ u : Value, us[i]? = some u ∧ RComp w g1 i p u := fun i p hi => by
    obtain ⟨u, u1, u2⟩ := q2 i p hi
    rw [Nat.zero_add] at u2
    exact ⟨u, u1, RComp_of_ARel u2⟩
  have hl : us.length = l.length := by rw [l1, l2]
  refine ⟨tupV us, l, g1, fr1, results_run l1 q1, t1.ok, ?_, ?_⟩
  · match us, l, hl, hc with
    | [], [], _, hc => exact ⟨[], rfl, rfl, fun i p hi => by simp at hi⟩
    | [u], [p], _, hc =>
      obtain ⟨u', h1, h2⟩ := hc 0 p rfl
      simp at h1
      subst h1
      exact h2
    | u :: u' :: us, p :: q :: l, hl, hc => exact ⟨_, rfl, hl, hc⟩
  · cases outs with
    | nil => exact .inl ⟨rfl, hk⟩
    | cons p r =>
      refine .inr ⟨by simp, ?_⟩
      simp only [List.isEmpty_cons, cond_false] at hk
      split at hk
      · rename_i o ho; exact ⟨o, ho, hk⟩
      · cases hk
/-- the cuts, n rounds deep -/
structure CutsOk (P : Program) (X : Env) (E : FuncId → Option Fn) (f : Func) (outs : List (Nat × Nat)) (dec : List Comp → Option R) (C : Nat → Cuts R) : Prop where
  zero : ∀ q cut, (C 0).lookup q = some cut → ∀ x, cut.run x = none
  pats : ∀ n q cut, (C n).lookup q = some cut → cutOk cut.pats = true
  node : ∀ n q cut, (C n).lookup q = some cut → q < nodes (bodyOf f)
  step : ∀ n q cut, (C (n + 1)).lookup q = some cut → ∀ x, cut.run x = denAt { X with n := f.ntmps, keep := keepOf outs } E (C n) (bodyOf f) 0 q (endK { X with n := f.ntmps, keep := keepOf outs } f outs dec) (cutFr cut.pats x)
theorem cutsAt (hT : TabOk P X) {E : FuncId → Option Fn} (hE : EnvOk P E) {f : Func} {outs : List (Nat × Nat)} {dec : List Comp → Option R} {C : Nat → Cuts R} (hC : CutsOk P X E f outs dec C) (hX : Fits { X with n := f.ntmps, keep := keepOf outs } st)
    (hQ : KQ st (endK { X with n := f.ntmps, keep := keepOf outs } f outs dec) r Q) : ∀ n, CutsAt P st (C n) r (bodyOf f) 0 Q
  | 0 => fun q cut hq _ _ g fr a w ok hj => by
    unfold jump at hj
    split at hj
    · rw [hC.zero q cut hq] at hj; cases hj
    · cases hj
  | n + 1 => fun q cut hq _ _ g fr a w ok hj => by
    unfold jump at hj
    split at hj
    · rename_i x hx
      rw [hC.step n q cut hq] at hj
      obtain ⟨g', ok'⟩ := cut_ok ok (hC.pats _ q cut hq) hx
      have hT' : TabOk P { X with n := f.ntmps, keep := keepOf outs } := ⟨hT.mixed, hT.fit⟩
      exact denAt_ok hT' hE hX (bodyOf f) 0 q Q _ (cutsAt hT hE hC hX hQ n) hQ g' _ a w ok' hj
    · cases hj
/-- the arguments that are written are told -/
def outsOk (n : Nat) (pc : CutP) : List (Nat × Nat) → Bool
  | [] => true
  | (j, m) :: r => (j.blt n && match pc.lookup j with | some (_, ps) => ps.length.beq m | none => false) && outsOk n pc r
theorem outsOk_spec {n : Nat} {pc : CutP} {args : List Comp} (hl : args.length = n) {x : cutT pc} (hx : readCut pc pc (argFr 0 args) = some x) : ∀ {outs : List (Nat × Nat)}, outsOk n pc outs = true → ∀ j m, (j, m) ∈ outs → ∃ p, args[j]? = some p ∧ p.2.length = m
  | (j', m') :: r, h, j, m, hm => by
    simp only [outsOk, Bool.and_eq_true] at h
    rcases List.mem_cons.1 hm with e | hm
    · have e1 : j = j' := congrArg Prod.fst e
      have e2 : m = m' := congrArg Prod.snd e
      subst e1
      subst e2
      have hjn : j < n := Nat.le_of_ble_eq_true h.1.1
      have h2 := h.1.2
      split at h2
      · rename_i q ps hps
        obtain ⟨y, hd, _⟩ := (readCut_lookup hx j).1 _ hps
        rw [argFr_get args 0 j (Nat.zero_le _), Nat.sub_zero, List.getElem?_eq_getElem (by omega)] at hd
        refine ⟨args[j], List.getElem?_eq_getElem (by omega), ?_⟩
        simp only [decS] at hd
        split at hd
        · obtain ⟨_, hd⟩ := bif_some hd
          rw [(decs_get hd).1]
          exact Nat.eq_of_beq_eq_true h2
        · cases hd
      · cases h2
    · exact outsOk_spec hl hx h.2 j m hm
theorem outs_ok {args : List Comp} {vs : List Value} (h : Ok st g fr a w) (hargs : st.args = vs.toArray) : ∀ {outs : List (Nat × Nat)} {o o' : List CV}, (∀ j m, (j, m) ∈ outs → j ∈ st.keep ∧ j < vs.length ∧ ∃ p, args[j]? = some p ∧ p.2.length = m) → outsOf fr outs = some o → o'.length = o.length →
    (∀ (k : Nat) (t : Ty) (xs : List (Den t)), o'[k]? = some (.own t xs) → o[k]? = some (.own t xs) ∨ o[k]? = some (.tmpo t xs) ∨ (o[k]? = some .nils ∧ xs = [])) → Outs w g args vs (keepOf outs) o'
  | [], o, o', _, ho, hl, _ => by
    simp only [outsOf, Option.some.injEq] at ho
    subst ho
    exact List.length_eq_zero_iff.1 hl
  | (j, m) :: r, o, o', hj, ho, hl, hc => by
    simp only [outsOf] at ho
    cases hfj : fr j with
    | box _ => rw [hfj] at ho; cases ho
    | tup _ => rw [hfj] at ho; cases ho
    | comp gg cs =>
    rw [hfj] at ho
    cases hr : outsOf fr r with
    | none => rw [hr] at ho; cases ho
    | some l =>
    rw [hr] at ho
    simp only at ho
    obtain ⟨hm, ho⟩ := bif_some ho
    have hm := Nat.eq_of_beq_eq_true hm
    cases ho
    obtain ⟨hkeep, hjl, p, hp1, hp2⟩ := hj j m List.mem_cons_self
    rw [List.length_append] at hl
    refine ⟨o'.take cs.length, o'.drop cs.length, p, vs[j], (List.take_append_drop _ _).symm, hp1, List.getElem?_eq_getElem hjl, by rw [List.length_take, hp2]; omega, fun k t xs hk => ?_, ?_⟩
    · have hkl : k < cs.length := by
        have := (List.getElem?_eq_some_iff.1 hk).1
        rw [List.length_take] at this
        omega
      rw [List.getElem?_take, if_pos hkl] at hk
      have hck := hc k t xs hk
      rw [List.getElem?_append_left hkl] at hck
      have hsl := h.slot j
      have hval : a.tmps.getD j undef = vs[j] := by
        have := h.keep j hkeep
        rw [Array.getD_eq_getD_getElem?, this, hargs]
        simp [hjl]
      rw [hfj, hval] at hsl
      have own : ∀ u, cs[k]? = some (.own t xs) ∨ cs[k]? = some (.tmpo t xs) ∨ (cs[k]? = some .nils ∧ xs = []) → (∀ c, cs[k]? = some c → rel w g (isBox fr) (.at j 0 (k + 1)) c u) → OwnR w g (.at j 0 (k + 1)) t xs u := by
        intro u hck hrel
        rcases hck with e | e | ⟨e, rfl⟩
        · exact (hrel _ e).1
        · exact (hrel _ e).1
        · exact .inl ⟨hrel _ e, rfl⟩
      cases gg with
      | true =>
        obtain ⟨us, e1, e2, e3⟩ := hsl
        obtain ⟨u, u1, u2⟩ := e3 k cs[k] (List.getElem?_eq_getElem hkl)
        refine ⟨u, by rw [e1]; exact u1, own u hck fun c hcc => ?_⟩
        rw [List.getElem?_eq_getElem hkl] at hcc
        cases hcc
        exact u2
      | false =>
        obtain ⟨c, e1, e2⟩ := hsl
        subst e1
        have hk0 : k = 0 := by simp at hkl; exact hkl
        subst hk0
        simp only [List.getElem?_cons_zero, Option.some.injEq] at hck
        have hrel : rel w g (isBox fr) (.at j 0 1) c vs[j] := by
          rcases e2 with e2 | e2 | e2
          · subst e2; rcases hck with e | e | ⟨e, _⟩ <;> cases e
          · rw [e2.1] at hck; rcases hck with e | e | ⟨e, _⟩ <;> cases e
          · exact e2
        have hO := own vs[j] (by simpa using hck) (fun c' hc' => by simp at hc'; subst hc'; exact hrel)
        refine ⟨vs[j], ?_, hO⟩
        rcases hO with ⟨e, _⟩ | ⟨b, cap, cur, e', e, _⟩ <;> rw [e] <;> rfl
    · refine outs_ok h hargs (fun j m hm => hj j m (List.mem_cons_of_mem _ hm)) hr (by rw [List.length_drop]; omega) (fun k t xs hk => ?_)
      rw [List.getElem?_drop] at hk
      have := hc _ t xs hk
      rw [List.getElem?_append_right (by omega), show cs.length + k - cs.length = k by omega] at this
      exact this
/-- a function -/
theorem fn_ok (hT : TabOk P X) {E : FuncId → Option Fn} (hE : EnvOk P E) {fid : FuncId} {f : Func} {c : Code} (hf : P.funcs[fid]? = some f) (hb : f.body = some c) {n : Nat} (hn : n ≤ f.ntmps) {pc : CutP} (hpc : cutOk pc = true) {outs : List (Nat × Nat)} (houts : outsOk n pc outs = true) {pr : CompPs} (hpr : (pr.all fun p => p.2.all Pat.res) = true)
    {N : Type} {h : N → compT pr} {d : compT pr → N} (hh : ∀ x, h (d x) = x) {F : cutT pc → Option N} {C : Nat → Cuts N} {k : Nat} (hC : CutsOk P X E f outs (decN pr d) C)
    (hF : ∀ x, F x = denFn X E (C k) f outs pc x (decN pr d)) : FnOk P fid (mkFn n pc pr (keepOf outs) h F) := by
  intro R w g args vs K r hi hrun
  simp only [mkFn] at hrun
  obtain ⟨hl, hrun⟩ := bif_some hrun
  have hl := Nat.eq_of_beq_eq_true hl
  split at hrun
  case h_2 => cases hrun
  rename_i x hx
  rw [hF] at hrun
  have hspec := outsOk_spec hl hx houts
  cases hy : denFn X E (C k) f outs pc x (decN pr d) with
  | none => rw [hy] at hrun; cases hrun
  | some y =>
    rw [hy] at hrun
    have hrun : K (encC pr (h y)) = some r := hrun
    have hkeep : ∀ j ∈ keepOf outs, j < args.length := fun j hj => by
      obtain ⟨q, hq, rfl⟩ := List.mem_map.1 hj
      obtain ⟨p, hp, _⟩ := hspec q.1 q.2 hq
      exact (List.getElem?_eq_some_iff.1 hp).1
    have ok0 := entry_ok hi (n := f.ntmps) (keep := keepOf outs) (by omega) hkeep
    obtain ⟨g1, ok1⟩ := cut_ok ok0 hpc hx
    have hX : Fits { X with n := f.ntmps, keep := keepOf outs } (fnSt w g f.ntmps (keepOf outs) vs) := ⟨rfl, rfl⟩
    have hT' : TabOk P { X with n := f.ntmps, keep := keepOf outs } := ⟨hT.mixed, hT.fit⟩
    have hbody : bodyOf f = c := by unfold bodyOf; rw [hb]; rfl
    have fin : ∀ (e : Ex), (∀ id, e ≠ .exit id) → ∀ g1 fr1 a1 w1, Ok (fnSt w g f.ntmps (keepOf outs) vs) g1 fr1 a1 w1 → endK { X with n := f.ntmps, keep := keepOf outs } f outs (decN pr d) e fr1 = some y →
        a1.defers = [] ∧ ∃ v, (results f a1.tmps).run P w1 = .ok v w1 ∧ ∃ v' res g', Ending.returned v = .returned v' ∧ K res = some r ∧ ResOk (keepOf outs) w w1 g g' args vs res v' := by
      intro e he g1 fr1 a1 w1 ok hk
      obtain ⟨v, l, g2, fr2, q1, q3, q4, q5⟩ := end_ok hT' ok he hk
      refine ⟨ok.defers, v, q1, v, encC pr (h y), g2, rfl, hrun, ?_⟩
      have hz : ∀ b o, g2.Z b o → g2.S b o := fun b o hz => (q3.zs b o (by rw [← q3.eZ]; exact hz)).1
      have hval : ∃ rs os, encC pr (h y) = rs ++ (bif (keepOf outs).isEmpty then [] else [(false, os)]) ∧ RVal w1 g2 rs v ∧ (keepOf outs ≠ [] → Outs w1 g2 args vs (keepOf outs) os) := by
        rcases q5 with ⟨rfl, q5⟩ | ⟨hne, o, ho, q5⟩
        · unfold decN at q5
          split at q5
          case h_2 => cases q5
          rename_i z hz'
          cases q5
          rw [hh z]
          exact ⟨encC pr z, [], by simp [keepOf], RVal_map (by rw [(decC_get hz').2.1, (decC_get hz').1]) (rdec_at hz hpr hz') q4, fun e => (e rfl).elim⟩
        · unfold decN at q5
          split at q5
          case h_2 => cases q5
          rename_i z hz'
          cases q5
          rw [hh z]
          obtain ⟨i1, i2, i3⟩ := decC_get hz'
          rw [List.length_append, List.length_singleton] at i1
          obtain ⟨cs, yy, c1, c2, c3⟩ := i3 l.length pr[l.length] (List.getElem?_eq_getElem (by omega))
          rw [List.getElem?_append_right (by omega), Nat.sub_self] at c1
          simp only [List.getElem?_cons_zero, Option.some.injEq, Prod.mk.injEq] at c1
          obtain ⟨c1a, rfl⟩ := c1
          rw [← c1a] at c3
          refine ⟨(encC pr z).take l.length, encs pr[l.length].2 yy, ?_, ?_, fun _ => ?_⟩
          · have hne' : (keepOf outs).isEmpty = false := by
              cases outs with
              | nil => exact (hne rfl).elim
              | cons p r => rfl
            rw [hne', cond_false]
            have := (List.take_append_drop l.length (encC pr z)).symm
            have hdr : (encC pr z).drop l.length = [(false, encs pr[l.length].2 yy)] := by
              apply List.ext_getElem?
              intro i
              rw [List.getElem?_drop]
              cases i with
              | zero => rw [Nat.add_zero, c3]; rfl
              | succ i => rw [List.getElem?_eq_none (by omega)]; rfl
            rw [hdr] at this
            exact this
          · refine RVal_map (by rw [List.length_take]; omega) (fun i c u c0 h0 hc hu => ?_) q4
            have hil : i < l.length := (List.getElem?_eq_some_iff.1 h0).1
            rw [List.getElem?_take, if_pos hil] at hc
            exact rdec_at hz hpr hz' i c u c0 (by rw [List.getElem?_append_left hil]; exact h0) hc hu
          · obtain ⟨j1, j2, j3⟩ := decs_get c2
            refine outs_ok q3 rfl (fun j m hm => ⟨List.mem_map.2 ⟨_, hm, rfl⟩, ?_, hspec j m hm⟩) ho (by rw [j2, j1]) (fun k t xs hk => ?_)
            · rw [hi.len]; exact hkeep j (List.mem_map.2 ⟨_, hm, rfl⟩)
            · have hkl : k < pr[l.length].2.length := by rw [← j2]; exact (List.getElem?_eq_some_iff.1 hk).1
              obtain ⟨p, hp⟩ : ∃ p, (pr[l.length]).2[k]? = some p := ⟨_, List.getElem?_eq_getElem hkl⟩
              obtain ⟨c0, y0, d1, d2, d3⟩ := j3 k p hp
              rw [hk] at d3
              cases p with
              | fl p =>
                cases p <;> first | (cases d3; done) | skip
                rename_i t'
                cases d3
                rw [d1]
                cases c0 <;> simp only [Pat.dec, FPat.dec] at d2 <;> first | (cases d2; done) | skip
                · cases d2; exact .inr (.inr ⟨rfl, rfl⟩)
                · split at d2
                  case isFalse => cases d2
                  rename_i hu
                  subst hu
                  cases d2
                  exact .inl rfl
                · simp only [cond_true] at d2
                  split at d2
                  case isFalse => cases d2
                  rename_i hu
                  subst hu
                  cases d2
                  exact .inr (.inl rfl)
              | _ => cases d3
      exact {
        eZ := q3.eZ
        os := q3.os
        tape := q3.tape
        output := q3.output
        heap := q3.heap
        old := q3.old
        own := q3.own
        stab := q3.stab
        sz := fun b o hb hm hs => q3.sz b o hb hm hs
        val := hval }
    refine calls_of_wp hf hb ?_
    rw [← hbody]
    have hQ : KQ (fnSt w g f.ntmps (keepOf outs) vs) (endK { X with n := f.ntmps, keep := keepOf outs } f outs (decN pr d)) y (bodyPost P f fun e w' => ∃ v res g', e = .returned v ∧ K res = some r ∧ ResOk (keepOf outs) w w' g g' args vs res v) := by
      refine ⟨fun g1 fr1 a1 w1 ok hk => fin .normal (fun id e => by cases e) g1 fr1 a1 w1 ok hk, fun id g1 fr1 a1 w1 ok hk => by simp [endK] at hk, fun g1 fr1 a1 w1 ok hk => fin .ret (fun id e => by cases e) g1 fr1 a1 w1 ok hk⟩
    have := den_ok (E := E) hT' hE hX (bodyOf f) 0 _ _ (cutsAt hT hE hC hX hQ k) hQ g1 _ (fnAct f.ntmps vs) w ok1 hy
    exact this
theorem entry {fid : FuncId} {F : Fn} (hc : ∀ (args : Array Value) (w : World), (callFunc fid args).run P w = .ok (.enter fid args) w) (hb : F.box = false) (h : FnOk P fid F) : EntOk P fid F where
  call := hc
  ok := fun _ => h
  okB := fun e => absurd (hb.symm.trans e) (by simp)
theorem entryB {fid : FuncId} {F : Fn} (hc : ∀ (args : Array Value) (w : World), (callFunc fid args).run P w = .ok (.enter fid args) w) (hb : F.box = true) (h : FnOkB P fid F) : EntOk P fid F where
  call := hc
  ok := fun e => absurd (hb.symm.trans e) (by simp)
  okB := fun _ => h
end
end Go.Rv

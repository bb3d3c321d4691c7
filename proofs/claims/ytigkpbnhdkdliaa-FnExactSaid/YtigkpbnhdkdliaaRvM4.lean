/- A verified evaluator of the form: texts FnB, FnH, Glue. -/
import Derived.Test.YtigkpbnhdkdliaaRvM3
import Derived.Test.YtigkpbnhdkdliaaRvM0
import Derived.KernelRfl
set_option linter.unusedSimpArgs false
set_option linter.unusedVariables false
namespace Go.Rv
section
variable {P : Program} {st : St} {g : Gh} {fr : Fr} {a : Act} {w : World} {X : Env} {R : Type} {r : R} {Q : Exit → Act → World → Prop}
structure CutsOkG (P : Program) (X : Env) (E : FuncId → Option Fn) (f : Func) (K : Ex → Fr → Option R) (C : Nat → Cuts R) : Prop where
  zero : ∀ q cut, (C 0).lookup q = some cut → ∀ x, cut.run x = none
  pats : ∀ n q cut, (C n).lookup q = some cut → cutOk cut.pats = true
  node : ∀ n q cut, (C n).lookup q = some cut → q < nodes (bodyOf f)
  step : ∀ n q cut, (C (n + 1)).lookup q = some cut → ∀ x, cut.run x = denAt X E (C n) (bodyOf f) 0 q K (cutFr cut.pats x)
theorem cutsAtG (hT : TabOk P X) {E : FuncId → Option Fn} (hE : EnvOk P E) {f : Func} {K : Ex → Fr → Option R} {C : Nat → Cuts R} (hC : CutsOkG P X E f K C) (hX : Fits X st) (hQ : KQ st K r Q) : ∀ n, CutsAt P st (C n) r (bodyOf f) 0 Q
  | 0 => fun q cut hq _ _ g fr a w ok hj => by
    unfold jump at hj
    split at hj
    · rw [hC.zero q cut hq] at hj; cases hj
    · cases hj
  | n + 1 => fun q cut hq _ _ g fr a w ok hj => by
    unfold jump at hj
    split at hj
    · rename_i x hx
      rw [hC.step n q cut hq] at hj
      obtain ⟨g', ok'⟩ := cut_ok ok (hC.pats _ q cut hq) hx
      exact denAt_ok hT hE hX (bodyOf f) 0 q Q _ (cutsAtG hT hE hC hX hQ n) hQ g' _ a w ok' hj
    · cases hj
theorem results_ok (hT : TabOk P X) {fn : Func} (h : Ok st g fr a w) {l : List Comp} {fr1 : Fr} (hr : resAll X fr fn.results.toList = some (l, fr1)) : ∃ v g1, (results fn a.tmps).run P w = .ok v w ∧ Ok st g1 fr1 a w ∧ RVal w g1 l v := by
  obtain ⟨g1, us, t1, l1, l2, q1, q2⟩ := resAll_ok (P := P) hT _ h hr 0
  have hc : ∀ (i : Nat) (p : Comp), l[i]? = some p → ∃ u : Value, us[i]? = some u ∧ RComp w g1 i p u := fun i p hi => by
    obtain ⟨u, u1, u2⟩ := q2 i p hi
    rw [Nat.zero_add] at u2
    exact ⟨u, u1, RComp_of_ARel u2⟩
  have hl : us.length = l.length := by rw [l1, l2]
  refine ⟨tupV us, g1, results_run l1 q1, t1.ok, ?_⟩
  match us, l, hl, hc with
  | [], [], _, hc => exact ⟨[], rfl, rfl, fun i p hi => by simp at hi⟩
  | [u], [p], _, hc =>
    obtain ⟨u', h1, h2⟩ := hc 0 p rfl
    simp at h1
    subst h1
    exact h2
  | u :: u' :: us, p :: q :: l, hl, hc => exact ⟨_, rfl, hl, hc⟩
theorem fdecB_relF (hz : ∀ b o, g.Z b o → g.S b o) {bx : Nat → Bool} {pl : Place} {p : FPat} {c : CV} {x : p.T} {v : Value} (hp : p.boxy = true) (hd : p.dec true c = some x) (hr : rel w g bx pl c v) : relF w g (p.enc x) v := by
  have mono : ∀ {t : Ty} {xs : List (Den t)}, RS w g.Z t xs v → RS w g.S t xs v := fun h => rep_mono (fun b o h => ⟨hz b o h, rfl⟩) h
  cases p <;> first | (simp [FPat.boxy] at hp; done) | skip
  case int k =>
    cases c <;> simp only [FPat.dec] at hd <;> first | (cases hd; done) | skip
    split at hd
    case isFalse => cases hd
    rename_i e
    subst e
    cases hd
    exact hr
  case bool =>
    cases c <;> simp only [FPat.dec] at hd <;> first | (cases hd; done) | skip
    cases hd; exact hr
  case str =>
    cases c <;> simp only [FPat.dec] at hd <;> first | (cases hd; done) | skip
    cases hd; exact hr
  case lo t =>
    cases c <;> simp only [FPat.dec] at hd <;> first | (cases hd; done) | skip
    · cases hd; have hv : v = .slice none 0 0 := hr; subst hv; exact RS_nils
    · split at hd
      case isFalse => cases hd
      rename_i hu
      subst hu
      cases hd
      exact hr
  case hi t =>
    have hd : listAs t c = some x := hd
    show RS w g.S t x v
    cases c <;> simp only [listAs] at hd <;> first | (cases hd; done) | skip
    case nils => cases hd; have hv : v = .slice none 0 0 := hr; subst hv; exact RS_nils
    all_goals
      split at hd
      case isFalse => cases hd
      rename_i hu
      subst hu
      cases hd
    · exact mono hr
    · exact hr
    · exact OwnR.reads hr.1
    · exact OwnR.reads hr.1
    · exact hr.1
  case nils =>
    cases c <;> simp only [FPat.dec] at hd <;> first | (cases hd; done) | skip
    exact hr
  case dead => exact rel_one hr
theorem fdecs_get {b : Bool} : ∀ {ps : List FPat} {cs : List CV} {x : fpatsT ps}, fdecs b ps cs = some x → cs.length = ps.length ∧ (fencs ps x).length = ps.length ∧ ∀ (k : Nat) (p : FPat), ps[k]? = some p → ∃ (c : CV) (y : p.T), cs[k]? = some c ∧ p.dec b c = some y ∧ (fencs ps x)[k]? = some (p.enc y)
  | [], cs, x, h => by
    cases cs with
    | nil => exact ⟨rfl, rfl, fun k p hk => by simp at hk⟩
    | cons => simp [fdecs] at h
  | p :: ps, cs, x, h => by
    cases cs with
    | nil => simp [fdecs] at h
    | cons c cs =>
      simp only [fdecs] at h
      split at h
      case h_2 => cases h
      rename_i y hy
      split at h
      case h_2 => cases h
      rename_i z hz
      cases h
      obtain ⟨i1, i2, i3⟩ := fdecs_get hz
      refine ⟨by simp [i1], by simp [fencs, i2], fun k q hk => ?_⟩
      cases k with
      | zero => simp at hk; subst hk; exact ⟨c, y, rfl, hy, rfl⟩
      | succ k => simp at hk; simpa [fencs] using i3 k q hk
theorem boxCells_of (hz : ∀ b o, g.Z b o → g.S b o) {bx : Nat → Bool} {s b : Nat} {arr : Array Value} {ty : TypeId} {cs : List CV} (hb : w.heap[b]? = some (.cells arr ty (0, 0))) (hr : cellsRel w g bx s 0 cs arr.toList) {bp : List FPat} (hbp : bp.all FPat.boxy = true) {x : fpatsT bp} (hd : fdecs true bp cs = some x) : BoxCells w g b (fencs bp x) := by
  obtain ⟨i1, i2, i3⟩ := fdecs_get hd
  refine ⟨arr, ty, hb, by rw [hr.1, i1, i2], fun j c hj => ?_⟩
  have hjl : j < bp.length := by rw [← i2]; exact (List.getElem?_eq_some_iff.1 hj).1
  obtain ⟨c0, y, q1, q2, q3⟩ := i3 j bp[j] (List.getElem?_eq_getElem hjl)
  rw [hj] at q3
  cases q3
  obtain ⟨u, u1, u2⟩ := hr.2 j c0 q1
  exact ⟨u, u1, fdecB_relF hz (List.all_eq_true.1 hbp _ (List.getElem_mem hjl)) q2 u2⟩
theorem boxFr_get (cs : List CV) (rest : List Comp) (s : Nat) : boxFr cs rest s = if s = 0 then .box cs else match rest[s - 1]? with | some p => .comp p.1 p.2 | none => .dead := by
  unfold boxFr
  by_cases hs : s = 0
  · subst hs; rw [upd_same, if_pos rfl]
  · rw [upd_ne _ _ _ hs, if_neg hs, argFr_get rest 1 s (by omega)]
    all_goals (cases rest[s - 1]? <;> rfl)
theorem CRel_bx (hz : ∀ b o, g.Z b o → g.S b o) {bx : Nat → Bool} {s i : Nat} {p : Comp} {v : Value} (h : CRel w g (fun _ => false) s i p v) : CRel w g bx s i p v := by
  have hc : Chg g g w w (fun _ => false) bx (fun _ => True) (fun _ => True) := {
    cB := rfl, cR := rfl, cM := rfl, cZ := rfl, zS := hz
    cbx := fun s hs => by cases hs
    cX := fun s hs => by cases hs
    cS := fun b o hs => ⟨hs, rfl⟩
    cL := fun b hl => rfl
    cO := fun b p _ hO => ⟨hO, rfl, fun _ => Iff.rfl⟩
    cH := fun s c u _ hu => hu
    cHp := fun s i c _ => rfl }
  exact hc.kComp (fun _ => trivial) (fun _ _ => trivial) h
theorem entry_okB {Z : Nat → Nat → Prop} {b : Nat} {cs : List CV} {rest : List Comp} {vs : List Value} (h : InitB w Z b cs rest vs) {n : Nat} (hn : rest.length + 1 ≤ n) :
    Ok (fnSt w (Gh.calleeB w Z b) n [0] (.pointer (some ⟨b, 0, none⟩) :: vs)) (Gh.calleeB w Z b) (boxFr cs rest) (fnAct n (.pointer (some ⟨b, 0, none⟩) :: vs)) w := by
  obtain ⟨arr, ty, e1, e2, e3⟩ := h.box
  have hbl : b < w.heap.size := by
    rcases Nat.lt_or_ge b w.heap.size with hlt | hge
    · exact hlt
    · rw [Array.getElem?_eq_none hge] at e1; cases e1
  have hO : ∀ b' p, (Gh.calleeB w Z b).O b' = some p → b' = b ∧ p = .at 0 0 0 := fun b' p hO => by
    simp only [Gh.calleeB] at hO
    split at hO
    · rename_i e; cases hO; exact ⟨e, rfl⟩
    · cases hO
  exact {
    eB := rfl, eR := ⟨rfl, fun j hj => by cases hj⟩, eM := rfl, eZ := rfl
    size := by have := h.len; simp [fnAct, fnSt]; omega
    defers := rfl
    slot := fun s => by
      have hval : ∀ (k : Nat) (u : Value), (.pointer (some ⟨b, 0, none⟩) :: vs : List Value)[k]? = some u → (fnAct n (.pointer (some ⟨b, 0, none⟩) :: vs)).tmps.getD k undef = u := fun k u hk => by
        have hlt := (List.getElem?_eq_some_iff.1 hk).1
        simp only [fnAct, Array.getD_eq_getD_getElem?]
        rw [Array.getElem?_append_left (by simpa using hlt)]
        simp [hk]
      have hbx : isBox (boxFr cs rest) 0 = true := by simp [isBox, boxFr_get, notBox]
      rw [boxFr_get]
      by_cases hs : s = 0
      · subst hs
        rw [if_pos rfl, hval 0 _ rfl]
        exact ⟨⟨b, arr, ty, by simp [Gh.calleeB], ⟨fun hm => (by cases hm), fun _ => by simp [Gh.calleeB]⟩, e1, e2, fun j c hj => by
          obtain ⟨u, u1, u2⟩ := e3 j c hj
          exact ⟨u, u1, rel_of_relF u2⟩⟩, b, by simp [Gh.calleeB], rfl⟩
      · rw [if_neg hs]
        cases hp : rest[s - 1]? with
        | none => exact ⟨.dead, rfl, .inl rfl⟩
        | some p =>
          obtain ⟨v, h1, h2⟩ := h.arg (s - 1) p hp
          rw [show s - 1 + 1 = s by omega] at h2
          rw [hval s v (by
            obtain ⟨k, rfl⟩ : ∃ k, s = k + 1 := ⟨s - 1, by omega⟩
            simpa using h1)]
          exact CRel_bx (fun _ _ hz => hz) h2
    keep := fun j hj => by
      simp only [fnSt, List.mem_singleton] at hj
      subst hj
      simp only [fnAct, fnSt]
      rw [Array.getElem?_append_left (by simp)]
    os := rfl
    tape := rfl
    output := rfl
    heap := Nat.le_refl _
    old := fun b _ _ => rfl
    own := fun b' p hO' => by
      obtain ⟨rfl, _⟩ := hO b' p hO'
      exact ⟨hbl, fun _ => rfl⟩
    stab := fun b' o hs => (h.zs b' o hs).1
    boxS := fun b' s hO' o hs => (h.zs b' o hs).2 (hO b' _ hO').1
    zs := fun b' o hz => ⟨hz, (h.zs b' o hz).1, (h.zs b' o hz).2⟩
    sz := fun b' o _ _ hs => hs
    hh := fun s c u hu => by cases hu }
theorem fn_okB (hT : TabOk P X) {E : FuncId → Option Fn} (hE : EnvOk P E) {fid : FuncId} {f : Func} {c : Code} (hf : P.funcs[fid]? = some f) (hb : f.body = some c) {n : Nat} (hn : n + 1 ≤ f.ntmps) {pc : CutP} (hpc : cutOk pc = true) {pr : CompPs} (hpr : (pr.all fun p => p.2.all Pat.res) = true) {bp : List FPat} (hbp : bp.all FPat.boxy = true)
    {N : Type} {h : N → compT pr × fpatsT bp} {d : compT pr × fpatsT bp → N} (hh : ∀ x, h (d x) = x) {F : cutT pc → Option N} {C : Nat → Cuts N} {k : Nat} (hC : CutsOkG P { X with n := f.ntmps, keep := [0] } E f (endB { X with n := f.ntmps, keep := [0] } f pr bp d) C)
    (hF : ∀ x, F x = denFnB X E (C k) f pr bp pc x d) (hro : X.ro = [] := by rfl) : FnOkB P fid (mkFnB n pc pr bp h F) := by
  intro R w Z b cs rest vs K r hi hrun
  simp only [mkFnB] at hrun
  obtain ⟨hl, hrun⟩ := bif_some hrun
  have hl := Nat.eq_of_beq_eq_true hl
  split at hrun
  case h_2 => cases hrun
  rename_i x hx
  rw [hF] at hrun
  cases hy : denFnB X E (C k) f pr bp pc x d with
  | none => rw [hy] at hrun; cases hrun
  | some y =>
    rw [hy] at hrun
    have hrun : K (encC pr (h y).1 ++ [(false, [.mbox (fencs bp (h y).2)])]) = some r := hrun
    have ok0 := entry_okB hi (n := f.ntmps) (by omega)
    obtain ⟨g1, ok1⟩ := cut_ok ok0 hpc hx
    have hX : Fits { X with n := f.ntmps, keep := [0] } (fnSt w (Gh.calleeB w Z b) f.ntmps [0] (.pointer (some ⟨b, 0, none⟩) :: vs)) := ⟨rfl, rfl, hro⟩
    have hT' : TabOk P { X with n := f.ntmps, keep := [0] } := ⟨hT.mixed, hT.fit, hT.maps⟩
    have hbody : bodyOf f = c := by unfold bodyOf; rw [hb]; rfl
    have fin : ∀ (e : Ex), (∀ id, e ≠ .exit id) → ∀ g1 fr1 a1 w1, Ok (fnSt w (Gh.calleeB w Z b) f.ntmps [0] (.pointer (some ⟨b, 0, none⟩) :: vs)) g1 fr1 a1 w1 → endB { X with n := f.ntmps, keep := [0] } f pr bp d e fr1 = some y →
        a1.defers = [] ∧ ∃ v, (results f a1.tmps).run P w1 = .ok v w1 ∧ ∃ v' rs outs g', Ending.returned v = .returned v' ∧ K (rs ++ [(false, [.mbox outs])]) = some r ∧ ResB w w1 Z b g' rs outs v' := by
      intro e he g1 fr1 a1 w1 ok hk
      have hk : (match resAll { X with n := f.ntmps, keep := [0] } fr1 f.results.toList with
          | some (l, fr1) => match decC pr l, fr1 0 with
            | some x, .box cs => match fdecs true bp cs with
              | some y => some (d (x, y))
              | none => none
            | _, _ => none
          | none => none) = some y := by
        cases e with
        | exit id => exact (he id rfl).elim
        | normal => exact hk
        | ret => exact hk
      split at hk
      case h_2 => cases hk
      rename_i l fr2 hr
      split at hk
      case h_2 => cases hk
      rename_i z cs1 hz hfr
      split at hk
      case h_2 => cases hk
      rename_i y1 hy1
      cases hk
      obtain ⟨v, g2, q1, q3, q4⟩ := results_ok hT' ok hr
      refine ⟨ok.defers, v, q1, v, encC pr z, fencs bp y1, g2, rfl, by rw [hh] at hrun; exact hrun, ?_⟩
      have hzs : ∀ b o, g2.Z b o → g2.S b o := fun b o hz => (q3.zs b o (by rw [← q3.eZ]; exact hz)).1
      have hsl := q3.slot 0
      rw [hfr] at hsl
      obtain ⟨⟨b1, arr, ty, x1, x2, x3, x4⟩, b2, x5, x6⟩ := hsl
      have x2 := x2.2 (by rw [q3.eR.1]; simp [fnSt])
      rw [x1] at x5
      cases x5
      have hbb : b1 = b := by
        have := q3.keep 0 (by simp [fnSt])
        rw [Array.getD_eq_getD_getElem?, this] at x6
        simp only [fnSt, List.getElem?_toArray, List.getElem?_cons_zero, Option.getD_some, Value.pointer.injEq, Option.some.injEq, Addr.mk.injEq, and_true] at x6
        exact x6.symm
      subst hbb
      exact {
        eZ := q3.eZ
        os := q3.os
        tape := q3.tape
        output := q3.output
        heap := q3.heap
        old := fun b' h1 h2 => q3.old b' h1 h2
        own := q3.own
        bo := fun k e => by rw [x2] at e; cases e
        stab := fun b' o hs => ⟨q3.stab b' o hs, fun e => by subst e; exact q3.boxS _ 0 x2 o hs⟩
        sz := fun b' o h1 h2 hs => q3.sz b' o h1 h2 hs
        val := RVal_map (by rw [(decC_get hz).2.1, (decC_get hz).1]) (rdec_at hzs hpr hz) q4
        out := boxCells_of hzs x3 x4 hbp hy1 }
    refine calls_of_wp hf hb ?_
    rw [← hbody]
    have hQ : KQ (fnSt w (Gh.calleeB w Z b) f.ntmps [0] (.pointer (some ⟨b, 0, none⟩) :: vs)) (endB { X with n := f.ntmps, keep := [0] } f pr bp d) y (bodyPost P f fun e w' => ∃ v rs outs g', e = .returned v ∧ K (rs ++ [(false, [.mbox outs])]) = some r ∧ ResB w w' Z b g' rs outs v) := by
      refine ⟨fun g1 fr1 a1 w1 ok hk => fin .normal (fun id e => by cases e) g1 fr1 a1 w1 ok hk, fun id g1 fr1 a1 w1 ok hk => by simp [endB] at hk, fun g1 fr1 a1 w1 ok hk => fin .ret (fun id e => by cases e) g1 fr1 a1 w1 ok hk⟩
    have := den_ok (E := E) hT' hE hX (bodyOf f) 0 _ _ (cutsAtG hT' hE hC hX hQ k) hQ g1 _ (fnAct f.ntmps (.pointer (some ⟨b, 0, none⟩) :: vs)) w ok1 hy
    exact this
theorem fn_okR (hT : TabOk P X) {E : FuncId → Option Fn} (hE : EnvOk P E) {fid : FuncId} {f : Func} {c : Code} (hf : P.funcs[fid]? = some f) (hb : f.body = some c) {n : Nat} (hn : n ≤ f.ntmps) {pc : CutP} (hpc : cutOk pc = true) {bp : List FPat} (hbp : bp.all FPat.boxy = true)
    {N : Type} {h : N → fpatsT bp} {d : fpatsT bp → N} (hh : ∀ x, h (d x) = x) {F : cutT pc → Option N} {C : Nat → Cuts N} {k : Nat} (hC : CutsOkG P { X with n := f.ntmps, keep := [] } E f (endR f bp d) C)
    (hF : ∀ x, F x = denFnR X E (C k) f bp pc x d) (hro : X.ro = [] := by rfl) : FnOk P fid (mkFnR n pc bp h F) := by
  intro R w g args vs K r hi hrun
  simp only [mkFnR] at hrun
  obtain ⟨hl, hrun⟩ := bif_some hrun
  have hl := Nat.eq_of_beq_eq_true hl
  split at hrun
  case h_2 => cases hrun
  rename_i x hx
  rw [hF] at hrun
  cases hy : denFnR X E (C k) f bp pc x d with
  | none => rw [hy] at hrun; cases hrun
  | some y =>
    rw [hy] at hrun
    have hrun : K [(false, [.mbox (fencs bp (h y))])] = some r := hrun
    have ok0 := entry_ok hi (n := f.ntmps) (keep := []) (by omega) (fun j hj => by cases hj)
    obtain ⟨g1, ok1⟩ := cut_ok ok0 hpc hx
    have hX : Fits { X with n := f.ntmps, keep := [] } (fnSt w g f.ntmps [] vs) := ⟨rfl, rfl, hro⟩
    have hT' : TabOk P { X with n := f.ntmps, keep := [] } := ⟨hT.mixed, hT.fit, hT.maps⟩
    have hbody : bodyOf f = c := by unfold bodyOf; rw [hb]; rfl
    have fin : ∀ (e : Ex), (∀ id, e ≠ .exit id) → ∀ g1 fr1 a1 w1, Ok (fnSt w g f.ntmps [] vs) g1 fr1 a1 w1 → endR f bp d e fr1 = some y →
        a1.defers = [] ∧ ∃ v, (results f a1.tmps).run P w1 = .ok v w1 ∧ ∃ v' res g', Ending.returned v = .returned v' ∧ K res = some r ∧ ResOk [] w w1 g g' args vs res v' := by
      intro e he g1 fr1 a1 w1 ok hk
      have hk : (match f.results.toList with
          | [.tmp t] => match opc fr1 (.tmp t) with
            | .ptr s 0 => match fr1 s with
              | .box cs => match fdecs true bp cs with
                | some y => some (d y)
                | none => none
              | _ => none
            | _ => none
          | _ => none) = some y := by
        cases e with
        | exit id => exact (he id rfl).elim
        | normal => exact hk
        | ret => exact hk
      split at hk
      case h_2 => cases hk
      rename_i t hres
      split at hk
      case h_2 => cases hk
      rename_i s1 hpt
      obtain ⟨_, b0, hX0, hv0⟩ := (opc_rel ok hpt (by simp) (by simp)).2
      split at hk
      case h_2 => cases hk
      rename_i cs1 hfr
      split at hk
      case h_2 => cases hk
      rename_i y1 hy1
      cases hk
      have hsl := ok.slot s1
      rw [hfr] at hsl
      obtain ⟨⟨b1, arr, ty, x1, x2, x3, x4⟩, _⟩ := hsl
      have x2 := x2.2 (by rw [ok.eR.1]; simp [fnSt])
      have hb0 : b0 = b1 := by rw [x1] at hX0; exact (Option.some.inj hX0).symm
      rw [hb0] at hv0
      have x6 : a1.tmps.getD t undef = .pointer (some ⟨b1, 0, none⟩) := hv0
      have hzs : ∀ b o, g1.Z b o → g1.S b o := fun b o hz => (ok.zs b o (by rw [← ok.eZ]; exact hz)).1
      have hrun1 : (results f a1.tmps).run P w1 = .ok (tupV [a1.tmps.getD t undef]) w1 := results_run (by rw [hres]; rfl) fun i x hi => by
        rw [hres] at hi
        cases i with
        | zero => simp at hi; subst hi; exact ⟨_, rfl, rfl⟩
        | succ i => simp at hi
      let g2 : Gh := { g1 with O := fun b' => if b' = b1 then some (.air 0) else none }
      obtain ⟨arr', ty', z1, z2, z3⟩ := boxCells_of hzs x3 x4 hbp hy1
      refine ⟨ok.defers, _, hrun1, _, [(false, [.mbox (fencs bp y1)])], g2, rfl, by rw [hh] at hrun; exact hrun, ?_⟩
      exact {
        eZ := ok.eZ
        os := ok.os
        tape := ok.tape
        output := ok.output
        heap := ok.heap
        old := ok.old
        own := fun b' p hO' => by
          simp only [g2] at hO'
          split at hO'
          · rename_i e; subst e; exact ok.own _ _ x2
          · cases hO'
        stab := ok.stab
        sz := fun b o hb hm hs => ok.sz b o hb hm hs
        val := ⟨[(false, [.mbox (fencs bp y1)])], [], by simp, ⟨_, rfl, .inr (.inr ⟨b1, arr', ty', x6, by simp [g2], z1, z2, fun j c hj => by
          obtain ⟨u, u1, u2⟩ := z3 j c hj
          exact ⟨u, u1, relF_tiers (g := g1) rfl rfl u2⟩, fun o hs => ok.boxS _ s1 x2 o hs⟩)⟩, fun e => (e rfl).elim⟩ }
    refine calls_of_wp hf hb ?_
    rw [← hbody]
    have hQ : KQ (fnSt w g f.ntmps [] vs) (endR f bp d) y (bodyPost P f fun e w' => ∃ v res g', e = .returned v ∧ K res = some r ∧ ResOk [] w w' g g' args vs res v) := by
      refine ⟨fun g1 fr1 a1 w1 ok hk => fin .normal (fun id e => by cases e) g1 fr1 a1 w1 ok hk, fun id g1 fr1 a1 w1 ok hk => by simp [endR] at hk, fun g1 fr1 a1 w1 ok hk => fin .ret (fun id e => by cases e) g1 fr1 a1 w1 ok hk⟩
    have := den_ok (E := E) hT' hE hX (bodyOf f) 0 _ _ (cutsAtG hT' hE hC hX hQ k) hQ g1 _ (fnAct f.ntmps vs) w ok1 hy
    exact this
theorem fn_okM (hT : TabOk P X) {E : FuncId → Option Fn} (hE : EnvOk P E) {fid : FuncId} {f : Func} {c : Code} (hf : P.funcs[fid]? = some f) (hb : f.body = some c) {n : Nat} (hn : n ≤ f.ntmps) {pc : CutP} (hpc : cutOk pc = true) {k v : Ty}
    {N : Type} {h : N → List (Den k × Den v)} {d : List (Den k × Den v) → N} (hh : ∀ x, h (d x) = x) {F : cutT pc → Option N} {C : Nat → Cuts N} {m : Nat} (hC : CutsOkG P { X with n := f.ntmps, keep := [] } E f (endM f k v d) C)
    (hF : ∀ x, F x = denFnM X E (C m) f k v pc x d) (hro : X.ro = [] := by rfl) : FnOk P fid (mkFnM n pc k v h F) := by
  intro R w g args vs K r hi hrun
  simp only [mkFnM] at hrun
  obtain ⟨hl, hrun⟩ := bif_some hrun
  have hl := Nat.eq_of_beq_eq_true hl
  split at hrun
  case h_2 => cases hrun
  rename_i x hx
  rw [hF] at hrun
  cases hy : denFnM X E (C m) f k v pc x d with
  | none => rw [hy] at hrun; cases hrun
  | some y =>
    rw [hy] at hrun
    have hrun : K [(false, [.mmap k v (h y)])] = some r := hrun
    have ok0 := entry_ok hi (n := f.ntmps) (keep := []) (by omega) (fun j hj => by cases hj)
    obtain ⟨g1, ok1⟩ := cut_ok ok0 hpc hx
    have hX : Fits { X with n := f.ntmps, keep := [] } (fnSt w g f.ntmps [] vs) := ⟨rfl, rfl, hro⟩
    have hT' : TabOk P { X with n := f.ntmps, keep := [] } := ⟨hT.mixed, hT.fit, hT.maps⟩
    have hbody : bodyOf f = c := by unfold bodyOf; rw [hb]; rfl
    have fin : ∀ (e : Ex), (∀ id, e ≠ .exit id) → ∀ g1 fr1 a1 w1, Ok (fnSt w g f.ntmps [] vs) g1 fr1 a1 w1 → endM f k v d e fr1 = some y →
        a1.defers = [] ∧ ∃ v, (results f a1.tmps).run P w1 = .ok v w1 ∧ ∃ v' res g', Ending.returned v = .returned v' ∧ K res = some r ∧ ResOk [] w w1 g g' args vs res v' := by
      intro e he g1 fr1 a1 w1 ok hk
      have hk : (match f.results.toList with
          | [.tmp t] => match opc fr1 (.tmp t) with
            | .mptr s => match fr1 s with
              | .mapb k' v' xs none => if h : k' = k ∧ v' = v then some (d (h.1 ▸ h.2 ▸ xs)) else none
              | _ => none
            | _ => none
          | _ => none) = some y := by
        cases e with
        | exit id => exact (he id rfl).elim
        | normal => exact hk
        | ret => exact hk
      split at hk
      case h_2 => cases hk
      rename_i t hres
      split at hk
      case h_2 => cases hk
      rename_i s1 hpt
      obtain ⟨_, b0, hX0, hv0⟩ := (opc_rel ok hpt (by simp) (by simp)).2
      split at hk
      case h_2 => cases hk
      rename_i k' v' xs hfr
      split at hk
      case isFalse => cases hk
      rename_i hkv
      obtain ⟨rfl, rfl⟩ := hkv
      cases hk
      have hsl := ok.slot s1
      rw [hfr] at hsl
      obtain ⟨b1, x1, x2, x3, _⟩ := hsl
      have hb0 : b0 = b1 := by rw [x1] at hX0; exact (Option.some.inj hX0).symm
      rw [hb0] at hv0
      have x6 : a1.tmps.getD t undef = .map (some b1) := hv0
      have hzs : ∀ b o, g1.Z b o → g1.S b o := fun b o hz => (ok.zs b o (by rw [← ok.eZ]; exact hz)).1
      have hrun1 : (results f a1.tmps).run P w1 = .ok (tupV [a1.tmps.getD t undef]) w1 := results_run (by rw [hres]; rfl) fun i x hi => by
        rw [hres] at hi
        cases i with
        | zero => simp at hi; subst hi; exact ⟨_, rfl, rfl⟩
        | succ i => simp at hi
      let g2 : Gh := { g1 with O := fun b' => if b' = b1 then some (.air 0) else none }
      refine ⟨ok.defers, _, hrun1, _, [(false, [.mmap k' v' xs])], g2, rfl, by rw [hh] at hrun; exact hrun, ?_⟩
      exact {
        eZ := ok.eZ
        os := ok.os
        tape := ok.tape
        output := ok.output
        heap := ok.heap
        old := ok.old
        own := fun b' p hO' => by
          simp only [g2] at hO'
          split at hO'
          · rename_i e; subst e; exact ok.own _ _ x2
          · cases hO'
        stab := ok.stab
        sz := fun b o hb hm hs => ok.sz b o hb hm hs
        val := ⟨[(false, [.mmap k' v' xs])], [], by simp, ⟨_, rfl, .inr (.inr ⟨b1, x6, by simp [g2], x3, fun o hs => ok.boxS _ s1 x2 o hs⟩)⟩, fun e => (e rfl).elim⟩ }
    refine calls_of_wp hf hb ?_
    rw [← hbody]
    have hQ : KQ (fnSt w g f.ntmps [] vs) (endM f k v d) y (bodyPost P f fun e w' => ∃ v res g', e = .returned v ∧ K res = some r ∧ ResOk [] w w' g g' args vs res v) := by
      refine ⟨fun g1 fr1 a1 w1 ok hk => fin .normal (fun id e => by cases e) g1 fr1 a1 w1 ok hk, fun id g1 fr1 a1 w1 ok hk => by simp [endM] at hk, fun g1 fr1 a1 w1 ok hk => fin .ret (fun id e => by cases e) g1 fr1 a1 w1 ok hk⟩
    have := den_ok (E := E) hT' hE hX (bodyOf f) 0 _ _ (cutsAtG hT' hE hC hX hQ m) hQ g1 _ (fnAct f.ntmps vs) w ok1 hy
    exact this
end
end Go.Rv
namespace Go.Rv
section
variable {P : Program} {st : St} {g : Gh} {fr : Fr} {a : Act} {w : World} {X : Env} {R : Type} {r : R} {Q : Exit → Act → World → Prop}
def fnStH (w : World) (g : Gh) (n : Nat) (hand : List (Nat × Bool)) (vs : List Value) : St := { fnSt w g n (handN hand) vs with ro := roOf hand }
theorem entry_okH {hand : List (Nat × Bool)} {args : List Comp} {vs : List Value} (h : InitH hand w g args vs) {n : Nat} (hn : args.length ≤ n) : Ok (fnStH w g n hand vs) g (argFrH 0 args) (fnAct n vs) w where
  eB := h.eB
  eR := ⟨h.ero, fun j hj => List.mem_map.2 ⟨(j, true), ro_mem hj, rfl⟩⟩
  eM := rfl
  eZ := rfl
  size := by have := h.len; simp [fnAct, fnStH, fnSt]; omega
  defers := rfl
  slot := fun s => by
    have hg := argFrH_get args 0 s (Nat.zero_le _)
    rw [Nat.sub_zero] at hg
    rw [hg]
    cases hs : args[s]? with
    | none => exact ⟨.dead, rfl, .inl rfl⟩
    | some p =>
      obtain ⟨v, h1, h2⟩ := h.arg s p hs
      have : (fnAct n vs).tmps.getD s undef = v := by
        have hlt := (List.getElem?_eq_some_iff.1 h1).1
        simp only [fnAct, Array.getD_eq_getD_getElem?]
        rw [Array.getElem?_append_left (by simpa using hlt)]
        simp [h1]
      rw [this]
      exact h2
  keep := fun j hj => by
    have := h.hlt j hj
    have := h.len
    simp only [fnAct, fnStH, fnSt]
    rw [Array.getElem?_append_left (by simp; omega)]
  os := rfl
  tape := rfl
  output := rfl
  heap := Nat.le_refl _
  old := fun b _ _ => rfl
  own := fun b p hO => by
    obtain ⟨h1, h2⟩ := h.own b p hO
    exact ⟨h1, fun _ => h2⟩
  stab := h.stab
  boxS := h.boxS
  zs := fun b o hz => by
    obtain ⟨h1, h2, h3⟩ := h.zs b o hz
    have h4 : b < w.heap.size := h.eB ▸ h2
    exact ⟨h1, h4, h3⟩
  sz := fun b o hb hm hs => by
    have hb : b < w.heap.size := hb
    exact h.sz b o (h.eB.symm ▸ hb) hm hs
  hh := h.hh
theorem handy_rel (h : Ok st g fr a w) {bx bx' : Nat → Bool} {q : Place} {p : FPat} {c : CV} {x : p.T} {v : Value} (hp : p.handy = true) (hd : p.dec false c = some x) (hr : rel w g bx q c v) : rel w g bx' q (p.enc x) v := by
  cases p <;> simp only [FPat.handy, Bool.false_eq_true] at hp
  case own t =>
    cases c <;> simp only [FPat.dec] at hd <;> first | (cases hd; done) | skip
    split at hd
    case isFalse => cases hd
    rename_i hu
    subst hu
    cases hd
    exact hr
  case hi t =>
    have hd : listAs t c = some x := hd
    exact listAs_rel h hd hr
  case dead => exact rel_one hr
  case int k =>
    cases c <;> simp only [FPat.dec] at hd <;> first | (cases hd; done) | skip
    split at hd
    case isFalse => cases hd
    rename_i e
    subst e
    cases hd
    exact hr
  case bool =>
    cases c <;> simp only [FPat.dec] at hd <;> first | (cases hd; done) | skip
    cases hd; exact hr
  case str =>
    cases c <;> simp only [FPat.dec] at hd <;> first | (cases hd; done) | skip
    cases hd; exact hr
  case nils =>
    cases c <;> simp only [FPat.dec] at hd <;> first | (cases hd; done) | skip
    exact hr
  case lo t =>
    show RS w g.Z t x v
    cases c <;> simp only [FPat.dec] at hd <;> first | (cases hd; done) | skip
    · cases hd; have hv : v = .slice none 0 0 := hr; subst hv; exact RS_nils
    · split at hd
      case isFalse => cases hd
      rename_i hu
      subst hu
      cases hd
      exact hr
theorem outs_of (h : Ok st g fr a w) {vs : List Value} (ha : st.args = vs.toArray) : ∀ {bs : BoxPs} {y : boxPT bs}, (bs.all fun p => p.2.all FPat.handy) = true → (∀ p ∈ bs, p.1 ∈ st.keep ∧ p.1 ∉ st.ro) → decB bs fr = some y → BoxOuts w g vs (bs.map (·.1)) (encB bs y)
  | [], y, _, _, _ => rfl
  | (j, ps) :: r, y, hh, hk, hd => by
    simp only [decB] at hd
    split at hd
    case h_2 => cases hd
    rename_i cs hf
    split at hd
    case h_2 => cases hd
    rename_i x hx
    split at hd
    case h_2 => cases hd
    rename_i z hz
    cases hd
    simp only [List.all_cons, Bool.and_eq_true] at hh
    refine ⟨_, _, rfl, ?_, outs_of h ha hh.2 (fun p hp => hk p (List.mem_cons_of_mem _ hp)) hz⟩
    obtain ⟨k1, k2⟩ := hk (j, ps) List.mem_cons_self
    have hsl := h.slot j
    rw [hf] at hsl
    obtain ⟨⟨b, arr, ty, x1, x2, x3, x4⟩, b2, x5, x6⟩ := hsl
    rw [x1] at x5
    cases x5
    obtain ⟨i1, i2, i3⟩ := fdecs_get hx
    refine ⟨b, arr, ty, ?_, x2.2 (by rw [h.eR.1]; exact k2), x3, by rw [x4.1, i1, i2], fun k c hj => ?_⟩
    · have := h.keep j k1
      rw [ha] at this
      rw [Array.getD_eq_getD_getElem?, this] at x6
      simp only [List.getElem?_toArray] at x6
      cases hv : vs[j]? with
      | none => rw [hv] at x6; cases x6
      | some u => rw [hv] at x6; simp at x6; rw [x6]
    · have hjl : k < ps.length := by rw [← i2]; exact (List.getElem?_eq_some_iff.1 hj).1
      obtain ⟨c0, y, q1, q2, q3⟩ := i3 k ps[k] (List.getElem?_eq_getElem hjl)
      rw [hj] at q3
      cases q3
      obtain ⟨u, u1, u2⟩ := x4.2 k c0 q1
      exact ⟨u, u1, handy_rel h (List.all_eq_true.1 hh.1 _ (List.getElem_mem hjl)) q2 u2⟩
theorem wr_not : ∀ {hand : List (Nat × Bool)}, noDupN (handN hand) = true → ∀ {j : Nat}, j ∈ wrOf hand → j ∈ handN hand ∧ j ∉ roOf hand := by
  intro hand hn j hj
  have key : ∀ {hand : List (Nat × Bool)} {j : Nat}, j ∈ wrOf hand → (j, false) ∈ hand := by
    intro hand
    induction hand with
    | nil => intro j h; cases h
    | cons p r ih =>
      intro j h
      obtain ⟨k, b⟩ := p
      cases b
      · simp only [wrOf, cond_false] at h
        rcases List.mem_cons.1 h with e | h
        · rw [e]; exact List.mem_cons_self
        · exact List.mem_cons_of_mem _ (ih h)
      · exact List.mem_cons_of_mem _ (ih (by simpa [wrOf] using h))
  have h1 := key hj
  refine ⟨List.mem_map.2 ⟨_, h1, rfl⟩, fun hr => ?_⟩
  have := noDupN_fun hn h1 (ro_mem hr)
  cases this
theorem fn_okH (hT : TabOk P X) {E : FuncId → Option Fn} (hE : EnvOk P E) {fid : FuncId} {f : Func} {c : Code} (hf : P.funcs[fid]? = some f) (hb : f.body = some c) {n : Nat} (hn : n ≤ f.ntmps) {hand : List (Nat × Bool)} (hnd : noDupN (handN hand) = true) {pc : CutP} (hpc : cutOk pc = true) {pr : CompPs} (hpr : (pr.all fun p => p.2.all Pat.res) = true) {bs : BoxPs} (hbs : (bs.all fun p => p.2.all FPat.handy) = true) (hbw : bs.map (·.1) = wrOf hand)
    {N : Type} {h : N → compT pr × boxPT bs} {d : compT pr × boxPT bs → N} (hh : ∀ x, h (d x) = x) {F : cutT pc → Option N} {C : Nat → Cuts N} {k : Nat} (hC : CutsOkG P { X with n := f.ntmps, keep := handN hand, ro := roOf hand } E f (endH { X with n := f.ntmps, keep := handN hand, ro := roOf hand } f pr bs d) C)
    (hF : ∀ x, F x = denFnH X E (C k) f hand pr bs pc x d) : FnOkH P fid (mkFnH n hand pc pr bs h F) := by
  intro R w g args vs K r hi hrun
  simp only [mkFnH] at hrun
  obtain ⟨hl, hrun⟩ := bif_some hrun
  have hl := Nat.eq_of_beq_eq_true hl
  split at hrun
  case h_2 => cases hrun
  rename_i x hx
  rw [hF] at hrun
  cases hy : denFnH X E (C k) f hand pr bs pc x d with
  | none => rw [hy] at hrun; cases hrun
  | some y =>
    rw [hy] at hrun
    have hrun : K (encC pr (h y).1 ++ encB bs (h y).2) = some r := hrun
    have hi : InitH hand w g args vs := hi
    have ok0 := entry_okH hi (n := f.ntmps) (by omega)
    obtain ⟨g1, ok1⟩ := cut_ok ok0 hpc hx
    have hX : Fits { X with n := f.ntmps, keep := handN hand, ro := roOf hand } (fnStH w g f.ntmps hand vs) := ⟨rfl, rfl, rfl⟩
    have hT' : TabOk P { X with n := f.ntmps, keep := handN hand, ro := roOf hand } := ⟨hT.mixed, hT.fit, hT.maps⟩
    have hbody : bodyOf f = c := by unfold bodyOf; rw [hb]; rfl
    have fin : ∀ (e : Ex), (∀ id, e ≠ .exit id) → ∀ g1 fr1 a1 w1, Ok (fnStH w g f.ntmps hand vs) g1 fr1 a1 w1 → endH { X with n := f.ntmps, keep := handN hand, ro := roOf hand } f pr bs d e fr1 = some y →
        a1.defers = [] ∧ ∃ v, (results f a1.tmps).run P w1 = .ok v w1 ∧ ∃ v' res g', Ending.returned v = .returned v' ∧ K res = some r ∧ ResH hand w w1 g g' args vs res v' := by
      intro e he g1 fr1 a1 w1 ok hk
      have hk : (match resAll { X with n := f.ntmps, keep := handN hand, ro := roOf hand } fr1 f.results.toList with
          | some (l, fr1) => match decC pr l with
            | some x => match decB bs fr1 with
              | some y => some (d (x, y))
              | none => none
            | none => none
          | none => none) = some y := by
        cases e with
        | exit id => exact (he id rfl).elim
        | normal => exact hk
        | ret => exact hk
      split at hk
      case h_2 => cases hk
      rename_i l fr2 hr
      split at hk
      case h_2 => cases hk
      rename_i z hz
      split at hk
      case h_2 => cases hk
      rename_i y1 hy1
      cases hk
      obtain ⟨v, g2, q1, q3, q4⟩ := results_ok hT' ok hr
      have hzs : ∀ b o, g2.Z b o → g2.S b o := fun b o hz => (q3.zs b o (by rw [← q3.eZ]; exact hz)).1
      refine ⟨ok.defers, v, q1, v, _, g2, rfl, by rw [hh] at hrun; exact hrun, ?_⟩
      have hout := outs_of q3 (vs := vs) rfl hbs (fun p hp => wr_not hnd (by rw [← hbw]; exact List.mem_map.2 ⟨p, hp, rfl⟩)) hy1
      have hlen : ∀ {bs : BoxPs} (y : boxPT bs), (encB bs y).length = bs.length := by
        intro bs
        induction bs with
        | nil => intro y; rfl
        | cons p r ih => intro y; simp [encB, ih]
      exact {
        eZ := q3.eZ
        os := q3.os
        tape := q3.tape
        output := q3.output
        heap := q3.heap
        old := fun b' h1 h2 => q3.old b' h1 h2
        own := q3.own
        stab := q3.stab
        boxS := q3.boxS
        sz := fun b' o h1 h2 hs => q3.sz b' o h1 h2 hs
        hh := q3.hh
        val := ⟨encC pr z, encB bs y1, rfl, by rw [hlen, ← hbw, List.length_map], RVal_map (by rw [(decC_get hz).2.1, (decC_get hz).1]) (rdec_at hzs hpr hz) q4, by rw [← hbw]; exact hout⟩ }
    refine calls_of_wp hf hb ?_
    rw [← hbody]
    have hQ : KQ (fnStH w g f.ntmps hand vs) (endH { X with n := f.ntmps, keep := handN hand, ro := roOf hand } f pr bs d) y (bodyPost P f fun e w' => ∃ v res g', e = .returned v ∧ K res = some r ∧ ResH hand w w' g g' args vs res v) := by
      refine ⟨fun g1 fr1 a1 w1 ok hk => fin .normal (fun id e => by cases e) g1 fr1 a1 w1 ok hk, fun id g1 fr1 a1 w1 ok hk => by simp [endH] at hk, fun g1 fr1 a1 w1 ok hk => fin .ret (fun id e => by cases e) g1 fr1 a1 w1 ok hk⟩
    have := den_ok (E := E) hT' hE hX (bodyOf f) 0 _ _ (cutsAtG hT' hE hC hX hQ k) hQ g1 _ (fnAct f.ntmps vs) w ok1 hy
    exact this
theorem fnOkH_none {fid : FuncId} {n : Nat} {hand : List (Nat × Bool)} {pc : CutP} {pr : CompPs} {bs : BoxPs} {N : Type} {h : N → compT pr × boxPT bs} {F : cutT pc → Option N} (hF : ∀ x, F x = none) : FnOkH P fid (mkFnH n hand pc pr bs h F) := by
  intro R w g args vs K r hi hrun
  simp only [mkFnH] at hrun
  obtain ⟨hl, hrun⟩ := bif_some hrun
  split at hrun
  · rw [hF] at hrun; cases hrun
  · cases hrun
end
end Go.Rv
namespace Go.Rv
def CutAll {R : Type} (S : Nat → Cut R → Prop) : Cuts R → Prop
  | [] => True
  | (p, c) :: r => S p c ∧ CutAll S r
theorem CutAll.get {R : Type} {S : Nat → Cut R → Prop} : ∀ {l : Cuts R}, CutAll S l → ∀ q c, l.lookup q = some c → S q c
  | [], _, q, c, h => by simp at h
  | (p, d) :: r, hs, q, c, h => by
    simp only [List.lookup_cons] at h
    split at h
    · rename_i e
      have e : q = p := by simpa using e
      cases h
      subst e
      exact hs.1
    · exact hs.2.get q c h
def cutOkAll (n : Nat) {R : Type} : Cuts R → Bool
  | [] => true
  | (p, c) :: r => (cutOk c.pats && p.blt n) && cutOkAll n r
theorem cutOkAll_spec {n : Nat} {R : Type} : ∀ {l : Cuts R}, cutOkAll n l = true → ∀ q c, l.lookup q = some c → cutOk c.pats = true ∧ q < n
  | [], _, q, c, h => by simp at h
  | (p, d) :: r, hs, q, c, h => by
    simp only [cutOkAll, Bool.and_eq_true] at hs
    simp only [List.lookup_cons] at h
    split at h
    · rename_i e
      have e : q = p := by simpa using e
      cases h
      subst e
      exact ⟨hs.1.1, Nat.le_of_ble_eq_true hs.1.2⟩
    · exact cutOkAll_spec hs.2 q c h
theorem cutsOk_of {R : Type} {P : Program} {X : Env} {E : FuncId → Option Fn} {f : Func} {outs : List (Nat × Nat)} {dec : List Comp → Option R} {Cs : Type} {CC : Cs → Cuts R} {cs : Nat → Cs} {z : Cs} {step : Cs → Cs} (h0 : cs 0 = z) (h1 : ∀ n, cs (n + 1) = step (cs n))
    (hz : CutAll (fun _ cut => ∀ x, cut.run x = none) (CC z)) (hp : ∀ c, cutOkAll (nodes (bodyOf f)) (CC c) = true)
    (hs : ∀ c, CutAll (fun q cut => ∀ x, cut.run x = denAt { X with n := f.ntmps, keep := keepOf outs } E (CC c) (bodyOf f) 0 q (endK { X with n := f.ntmps, keep := keepOf outs } f outs dec) (cutFr cut.pats x)) (CC (step c))) : CutsOk P X E f outs dec fun n => CC (cs n) where
  zero := fun q cut hq => by rw [h0] at hq; exact hz.get q cut hq
  pats := fun n q cut hq => (cutOkAll_spec (hp _) q cut hq).1
  node := fun n q cut hq => (cutOkAll_spec (hp _) q cut hq).2
  step := fun n q cut hq => by rw [h1] at hq; exact (hs _).get q cut hq
theorem cutsOkG_of {R : Type} {P : Program} {X : Env} {E : FuncId → Option Fn} {f : Func} {K : Ex → Fr → Option R} {Cs : Type} {CC : Cs → Cuts R} {cs : Nat → Cs} {z : Cs} {step : Cs → Cs} (h0 : cs 0 = z) (h1 : ∀ n, cs (n + 1) = step (cs n))
    (hz : CutAll (fun _ cut => ∀ x, cut.run x = none) (CC z)) (hp : ∀ c, cutOkAll (nodes (bodyOf f)) (CC c) = true)
    (hs : ∀ c, CutAll (fun q cut => ∀ x, cut.run x = denAt X E (CC c) (bodyOf f) 0 q K (cutFr cut.pats x)) (CC (step c))) : CutsOkG P X E f K fun n => CC (cs n) where
  zero := fun q cut hq => by rw [h0] at hq; exact hz.get q cut hq
  pats := fun n q cut hq => (cutOkAll_spec (hp _) q cut hq).1
  node := fun n q cut hq => (cutOkAll_spec (hp _) q cut hq).2
  step := fun n q cut hq => by rw [h1] at hq; exact (hs _).get q cut hq
theorem noCutsG {R : Type} {P : Program} {X : Env} {E : FuncId → Option Fn} {f : Func} {K : Ex → Fr → Option R} : CutsOkG P X E f K fun _ => [] where
  zero := fun q cut hq => by simp at hq
  pats := fun n q cut hq => by simp at hq
  node := fun n q cut hq => by simp at hq
  step := fun n q cut hq => by simp at hq
theorem noCuts {R : Type} {P : Program} {X : Env} {E : FuncId → Option Fn} {f : Func} {outs : List (Nat × Nat)} {dec : List Comp → Option R} : CutsOk P X E f outs dec fun _ => [] where
  zero := fun q cut hq => by simp at hq
  pats := fun n q cut hq => by simp at hq
  node := fun n q cut hq => by simp at hq
  step := fun n q cut hq => by simp at hq
theorem fnOk_none {P : Program} {fid : FuncId} {n : Nat} {pc : CutP} {pr : CompPs} {muts : List Nat} {N : Type} {h : N → compT pr} : FnOk P fid (mkFn n pc pr muts h fun _ => none) := by
  intro R w g args vs K r hi hrun
  simp only [mkFn] at hrun
  obtain ⟨_, hrun⟩ := bif_some hrun
  split at hrun <;> cases hrun
def EntAll (P : Program) : List (FuncId × Fn) → Prop
  | [] => True
  | p :: r => EntOk P p.1 p.2 ∧ EntAll P r
theorem envOk_of {P : Program} : ∀ {l : List (FuncId × Fn)}, EntAll P l → EnvOk P (fun f => l.lookup f)
  | [], _, f, F, h => by simp at h
  | (q, G) :: r, hs, f, F, h => by
    simp only [List.lookup_cons] at h
    split at h
    · rename_i e
      have e : f = q := by simpa using e
      cases h
      subst e
      exact hs.1
    · exact envOk_of hs.2 f F h
end Go.Rv

/- Frames told by patterns. -/
import Derived.Test.YtlkmjldhhoopcaaRvCode
namespace Go.Rv
set_option linter.unusedSimpArgs false
set_option linter.unusedVariables false
section
variable {P : Program} {st : St} {g : Gh} {fr : Fr} {a : Act} {w : World} {X : Env} {R : Type} {r : R} {Q : Exit → Act → World → Prop}
theorem zmono (h : Ok st g fr a w) {t : Ty} {xs : List (Den t)} {v : Value} (hz : RS w g.Z t xs v) : RS w g.S t xs v :=
  rep_mono (fun b o hz => ⟨(h.zs b o (by rw [← h.eZ]; exact hz)).1, rfl⟩) hz
theorem RS_nils {S : Nat → Nat → Prop} {t : Ty} : RS w S t [] (.slice none 0 0) := ⟨none, 0, rfl, Nat.le_refl _, fun i x hx => by simp at hx⟩
def relLike (w : World) (g : Gh) : CV → Value → Prop := relF w g
/-- a flat cell, told by a flat pattern -/
theorem fdec_relF (h : Ok st g fr a w) {b : Bool} {H' : Nat → Nat → Option Value} : ∀ {p : FPat} {c : CV} {x : p.T} {v : Value}, p.flat = true → p.dec b c = some x → relF w g c v → relF w { g with H := H' } (p.enc x) v := by
  intro p c x v hp hd hr
  cases p <;> simp only [FPat.flat, Bool.false_eq_true] at hp
  case hi t =>
    have hd : listAs t c = some x := hd
    show RS w g.S t x v
    cases c <;> simp only [listAs] at hd <;> first | (cases hd; done) | skip
    case nils => cases hd; have hv : v = .slice none 0 0 := hr; subst hv; exact RS_nils
    all_goals
      split at hd
      case isFalse => cases hd
      rename_i hu
      subst hu
      cases hd
    case lo => exact zmono h hr
    case hi => exact hr
    all_goals exact hr.elim
  case dead => exact relF_one hr
  case int k =>
    cases c <;> simp only [FPat.dec] at hd <;> first | (cases hd; done) | skip
    split at hd
    case isFalse => cases hd
    rename_i e
    subst e
    cases hd
    exact hr
  case bool =>
    cases c <;> simp only [FPat.dec] at hd <;> first | (cases hd; done) | skip
    cases hd; exact hr
  case str =>
    cases c <;> simp only [FPat.dec] at hd <;> first | (cases hd; done) | skip
    cases hd; exact hr
  case nils =>
    cases c <;> simp only [FPat.dec] at hd <;> first | (cases hd; done) | skip
    exact hr
  case lo t =>
    show RS w g.Z t x v
    cases c <;> simp only [FPat.dec] at hd <;> first | (cases hd; done) | skip
    · cases hd; have hv : v = .slice none 0 0 := hr; subst hv; exact RS_nils
    · split at hd
      case isFalse => cases hd
      rename_i hu
      subst hu
      cases hd
      exact hr
theorem fdecs_PL (h : Ok st g fr a w) {b : Bool} {H' : Nat → Nat → Option Value} {S : Nat → Nat → Prop} {A : Addr} : ∀ {ps : List FPat} {cs : List CV} {x : fpatsT ps}, ps.all FPat.flat = true → fdecs b ps cs = some x → PL w g S A cs → PL w { g with H := H' } S A (fencs ps x) := by
  intro ps cs x hp hd hr
  obtain ⟨h1, hr⟩ := hr
  refine ⟨h1, ?_⟩
  clear h1
  show ∀ j c, (fencs ps x)[j]? = some c → S A.block (A.off + j) ∧ ∃ u, w.cell? ⟨A.block, A.off + j, none⟩ = some u ∧ relF w { g with H := H' } c u
  generalize A.off = k at hr ⊢
  induction ps generalizing cs k with
  | nil => intro j c hj; simp [fencs] at hj
  | cons p ps ih =>
    cases cs with
    | nil => simp [fdecs] at hd
    | cons c cs =>
      simp only [fdecs] at hd
      split at hd
      case h_2 => cases hd
      rename_i y hy
      split at hd
      case h_2 => cases hd
      rename_i z hz
      cases hd
      simp only [List.all_cons, Bool.and_eq_true] at hp
      intro j e hj
      cases j with
      | zero =>
        simp only [fencs, List.getElem?_cons_zero, Option.some.injEq] at hj
        subst hj
        obtain ⟨q1, u, q2, q3⟩ := hr 0 c rfl
        exact ⟨q1, u, q2, fdec_relF h hp.1 hy q3⟩
      | succ j =>
        simp only [fencs, List.getElem?_cons_succ] at hj
        have := ih hp.2 hz (k + 1) (fun j c hj => by
          have := hr (j + 1) c (by simpa using hj)
          rwa [show k + (j + 1) = k + 1 + j by omega] at this) j e hj
        rwa [show k + 1 + j = k + (j + 1) by omega] at this
theorem fdecss_caps (h : Ok st g fr a w) {b : Bool} {H' : Nat → Nat → Option Value} {bx bx' : Nat → Bool} : ∀ {pss : List (List FPat)} {cs : List CV} {x : fpatssT pss} {vs : List Value}, pss.all (fun ps => ps.all FPat.flat) = true → fdecss b pss cs = some x → vs.length = cs.length →
    (∀ (j : Nat) (c : CV), cs[j]? = some c → ∃ u : Value, vs[j]? = some u ∧ relP w g bx c u) → vs.length = (fencss pss x).length ∧ ∀ (j : Nat) (c : CV), (fencss pss x)[j]? = some c → ∃ u : Value, vs[j]? = some u ∧ relP w { g with H := H' } bx' c u
  | [], cs, x, vs, hp, hd, hl, hr => by
    cases cs with
    | nil => exact ⟨by simpa [fencss] using hl, fun j c hj => by simp [fencss] at hj⟩
    | cons => simp [fdecss] at hd
  | p :: pss, cs, x, vs, hp, hd, hl, hr => by
    cases cs with
    | nil => simp [fdecss] at hd
    | cons c cs =>
      cases c <;> simp only [fdecss] at hd <;> first | (cases hd; done) | skip
      rename_i cc
      split at hd
      case h_2 => cases hd
      rename_i y hy
      split at hd
      case h_2 => cases hd
      rename_i z hz
      cases hd
      simp only [List.all_cons, Bool.and_eq_true] at hp
      cases vs with
      | nil => simp at hl
      | cons v vs =>
        obtain ⟨i1, i2⟩ := fdecss_caps h (bx' := bx') (H' := H') hp.2 hz (by simpa using hl) (fun j c hj => by simpa using hr (j + 1) c (by simpa using hj))
        refine ⟨by simpa [fencss] using i1, fun j e hj => ?_⟩
        cases j with
        | zero =>
          simp only [fencss, List.getElem?_cons_zero, Option.some.injEq] at hj
          subst hj
          obtain ⟨u, q1, A, q2, q3⟩ := hr 0 (.rptr cc) rfl
          exact ⟨u, q1, A, q2, fdecs_PL h hp.1 hy q3⟩
        | succ j =>
          simp only [fencss, List.getElem?_cons_succ] at hj
          simpa using i2 j e hj
/-- a cell, told by a pattern -/
theorem dec_rel (h : Ok st g fr a w) {b : Bool} {H' : Nat → Nat → Option Value} {bx bx' : Nat → Bool} {all : CutP} {s k : Nat} {p : Pat} {c : CV} {x : p.T} {v : Value} (hp : p.ok all = true) (hd : p.dec b c = some x) (hr : rel w g bx (.at s 0 k) c v)
    (hown : ∀ t, p = .fl (.own t) → H' s k = some v) (href : ∀ s' c' t, p = .fl (.ref s' c' t) → H' s' c' = g.H s' c') (hptr : ∀ s' c', p = .fl (.ptr s' c') → bx' s' = true) : rel w { g with H := H' } bx' (.at s 0 k) (p.enc x) v := by
  cases p with
  | fl p =>
    cases p with
    | own t =>
      have hH := hown t rfl
      refine ⟨?_, rfl, hH⟩
      cases c <;> simp only [Pat.dec, FPat.dec] at hd <;> first | (cases hd; done) | skip
      · cases b
        · cases hd
        · cases hd
          exact .inl ⟨hr, rfl⟩
      · split at hd
        case isFalse => cases hd
        rename_i hu
        subst hu
        cases hd
        exact hr.1
      · cases b
        · cases hd
        · simp only [cond_true] at hd
          split at hd
          case isFalse => cases hd
          rename_i hu
          subst hu
          cases hd
          exact hr.1
    | ref s' c' t =>
      have hH := href s' c' t rfl
      cases c <;> simp only [Pat.dec, FPat.dec] at hd <;> first | (cases hd; done) | skip
      split at hd
      case isFalse => cases hd
      rename_i hu
      obtain ⟨rfl, rfl, rfl⟩ := hu
      cases hd
      exact ⟨hr.1, fun u hu => hr.2 u (hH ▸ hu)⟩
    | ptr s' c' =>
      have hB := hptr s' c' rfl
      cases c <;> simp only [Pat.dec, FPat.dec] at hd <;> first | (cases hd; done) | skip
      split at hd
      case isFalse => cases hd
      rename_i hu
      obtain ⟨rfl, rfl⟩ := hu
      exact ⟨hB, hr.2⟩
    | hi t =>
      have hd : listAs t c = some x := hd
      exact listAs_rel h hd hr
    | dead => exact rel_one hr
    | undef =>
      cases c <;> simp only [Pat.dec, FPat.dec] at hd <;> first | (cases hd; done) | exact hr
    | int k =>
      cases c <;> simp only [Pat.dec, FPat.dec] at hd <;> first | (cases hd; done) | skip
      split at hd
      case isFalse => cases hd
      rename_i e
      subst e
      cases hd
      exact hr
    | bool =>
      cases c <;> simp only [Pat.dec, FPat.dec] at hd <;> first | (cases hd; done) | skip
      cases hd; exact hr
    | str =>
      cases c <;> simp only [Pat.dec, FPat.dec] at hd <;> first | (cases hd; done) | skip
      cases hd; exact hr
    | nils =>
      cases c <;> simp only [Pat.dec, FPat.dec] at hd <;> first | (cases hd; done) | skip
      exact hr
    | lo t =>
      show RS w g.Z t x v
      cases c <;> simp only [Pat.dec, FPat.dec] at hd <;> first | (cases hd; done) | skip
      · cases hd; have hv : v = .slice none 0 0 := hr; subst hv; exact RS_nils
      · split at hd
        case isFalse => cases hd
        rename_i hu
        subst hu
        cases hd
        exact hr
  | rptr ps =>
    cases c <;> simp only [Pat.dec] at hd <;> first | (cases hd; done) | skip
    obtain ⟨A, e1, e2⟩ := hr
    exact ⟨A, e1, fdecs_PL h hp hd e2⟩
  | hptr ps =>
    cases c <;> simp only [Pat.dec] at hd <;> first | (cases hd; done) | skip
    obtain ⟨A, e1, e2⟩ := hr
    exact ⟨A, e1, fdecs_PL h hp hd e2⟩
  | fn f pss =>
    cases c <;> simp only [Pat.dec] at hd <;> first | (cases hd; done) | skip
    split at hd
    case isFalse => cases hd
    rename_i e
    subst e
    obtain ⟨cvs, e1, e2, e3⟩ := hr
    obtain ⟨i1, i2⟩ := fdecss_caps h (H' := H') (bx' := bx') hp hd e2 e3
    exact ⟨cvs, e1, i1, i2⟩
/-! ### A cut -/
theorem readCut_lookup {all : CutP} : ∀ {ps : CutP} {x : cutT ps} {fr : Fr}, readCut all ps fr = some x → ∀ s, (∀ sp, ps.lookup s = some sp → ∃ y : patsT sp.2, decS (!refTo s all) sp (fr s) = some y ∧ cutFr ps x s = encS sp y) ∧ (ps.lookup s = none → cutFr ps x s = .dead)
  | [], x, fr, h, s => ⟨fun sp hs => by simp at hs, fun _ => rfl⟩
  | p :: r, x, fr, h, s => by
    simp only [readCut] at h
    split at h
    case h_2 => cases h
    rename_i y hy
    split at h
    case h_2 => cases h
    rename_i z hz
    cases h
    obtain ⟨i1, i2⟩ := readCut_lookup hz s
    obtain ⟨j, sp⟩ := p
    by_cases hs : s = j
    · subst hs
      refine ⟨fun sp' hsp => ?_, fun hsp => ?_⟩
      · simp at hsp
        subst hsp
        exact ⟨y, hy, by simp [cutFr, upd_same]⟩
      · simp at hsp
    · have hne : (s == j) = false := by simpa using hs
      simp only [List.lookup_cons, hne, cutFr]
      rw [upd_ne _ _ _ hs]
      exact ⟨i1, i2⟩
/-- cell k of slot s is to be owned -/
def ownAt (all : CutP) (s k : Nat) : Prop := ∃ sp t, all.lookup s = some sp ∧ 0 < k ∧ sp.2[k - 1]? = some (.fl (.own t))
open Classical in
noncomputable def cutH (g : Gh) (fr : Fr) (a : Act) (w : World) (all : CutP) (s k : Nat) : Option Value :=
  if ownAt all s k then (if h : ∃ v, At g fr a w s k v then some h.choose else none) else g.H s k
theorem cutH_own {all : CutP} {s k : Nat} {v : Value} (ho : ownAt all s k) (hv : At g fr a w s k v) : cutH g fr a w all s k = some v := by
  have hex : ∃ v, At g fr a w s k v := ⟨v, hv⟩
  unfold cutH
  rw [if_pos ho, dif_pos hex, hex.choose_spec.fun hv]
theorem refTo_spec {s : Nat} : ∀ {all : CutP} {s0 : Nat} {sp : SPat} {c k : Nat} {t : Ty}, all.lookup s0 = some sp → sp.2[k]? = some (.fl (.ref s c t)) → refTo s all = true
  | [], s0, sp, c, k, t, h, hk => by simp at h
  | p :: r, s0, sp, c, k, t, h, hk => by
    obtain ⟨j, q⟩ := p
    simp only [List.lookup_cons] at h
    simp only [refTo, Bool.or_eq_true]
    split at h
    · cases h
      refine .inl (List.any_eq_true.2 ⟨_, List.mem_of_getElem? hk, ?_⟩)
      simp
    · exact .inr (refTo_spec h hk)
theorem lookup_mem : ∀ {all : CutP} {s : Nat} {sp : SPat}, all.lookup s = some sp → (s, sp) ∈ all
  | [], s, sp, h => by simp at h
  | p :: r, s, sp, h => by
    obtain ⟨j, q⟩ := p
    simp only [List.lookup_cons] at h
    split at h
    · rename_i e
      have e : s = j := by simpa using e
      cases h
      subst e
      exact List.mem_cons_self
    · exact List.mem_cons_of_mem _ (lookup_mem h)
/-- the cells of a slot, told by patterns -/
theorem decs_get {b : Bool} : ∀ {ps : List Pat} {cs : List CV} {x : patsT ps}, decs b ps cs = some x → cs.length = ps.length ∧ (encs ps x).length = ps.length ∧ ∀ (k : Nat) (p : Pat), ps[k]? = some p → ∃ (c : CV) (y : p.T), cs[k]? = some c ∧ p.dec b c = some y ∧ (encs ps x)[k]? = some (p.enc y)
  | [], cs, x, h => by
    cases cs with
    | nil => exact ⟨rfl, rfl, fun k p hk => by simp at hk⟩
    | cons => simp [decs] at h
  | p :: ps, cs, x, h => by
    cases cs with
    | nil => simp [decs] at h
    | cons c cs =>
      simp only [decs] at h
      split at h
      case h_2 => cases h
      rename_i y hy
      split at h
      case h_2 => cases h
      rename_i z hz
      cases h
      obtain ⟨i1, i2, i3⟩ := decs_get hz
      refine ⟨by simp [i1], by simp [encs, i2], fun k q hk => ?_⟩
      cases k with
      | zero => simp at hk; subst hk; exact ⟨c, y, rfl, hy, rfl⟩
      | succ k => simp at hk; simpa [encs] using i3 k q hk
theorem ok_mem {all : CutP} (hc : cutOk all = true) {s : Nat} {sp : SPat} (hs : all.lookup s = some sp) {k : Nat} {p : Pat} (hk : sp.2[k]? = some p) : p.ok all = true :=
  List.all_eq_true.1 (List.all_eq_true.1 hc _ (lookup_mem hs)) _ (List.mem_of_getElem? hk)
theorem own_dec {b : Bool} {t : Ty} {c : CV} {y : (Pat.fl (.own t)).T} (h : (Pat.fl (.own t)).dec b c = some y) : (∃ u xs, c = .own u xs) ∨ (b = true ∧ ((∃ u xs, c = .tmpo u xs) ∨ c = .nils)) := by
  cases c <;> simp only [Pat.dec, FPat.dec] at h <;> first | exact .inl ⟨_, _, rfl⟩ | (cases h; done) | skip
  all_goals
    cases b
    · cases h
  · exact .inr ⟨rfl, .inr rfl⟩
  · exact .inr ⟨rfl, .inl ⟨_, _, rfl⟩⟩
theorem own_cell {all : CutP} {b : Bool} {s c : Nat} {sp : SPat} {t : Ty} {y : patsT sp.2} (hk : 0 < c) (hp : sp.2[c - 1]? = some (.fl (.own t))) (hd : decS b sp (fr s) = some y) :
    (∃ u xs, cellAt fr s c = .own u xs) ∨ (b = true ∧ ((∃ u xs, cellAt fr s c = .tmpo u xs) ∨ cellAt fr s c = .nils)) := by
  have key : ∀ cs (yy : patsT sp.2), (fr s = .box cs ∨ ∃ gg, fr s = .comp gg cs) → decs b sp.2 cs = some yy → (∃ u xs, cellAt fr s c = .own u xs) ∨ (b = true ∧ ((∃ u xs, cellAt fr s c = .tmpo u xs) ∨ cellAt fr s c = .nils)) := by
    intro cs yy hf hdd
    obtain ⟨i1, i2, i3⟩ := decs_get hdd
    obtain ⟨c0, y0, q1, q2, q3⟩ := i3 _ _ hp
    have hcc : cellAt fr s c = c0 := by
      unfold cellAt
      obtain ⟨m, rfl⟩ : ∃ m, c = m + 1 := ⟨c - 1, by omega⟩
      simp only [Nat.add_sub_cancel] at q1
      rcases hf with hf | ⟨gg, hf⟩ <;> rw [hf] <;> simp [List.getD_eq_getElem?_getD, q1]
    rw [hcc]
    exact own_dec q2
  cases hf : fr s with
  | tup vs => rw [hf] at hd; simp [decS] at hd
  | comp gg cs =>
    rw [hf] at hd
    simp only [decS] at hd
    split at hd
    · obtain ⟨_, hd⟩ := bif_some hd
      exact key cs y (.inr ⟨gg, hf⟩) hd
    · cases hd
  | box cs =>
    rw [hf] at hd
    simp only [decS] at hd
    split at hd
    · exact key cs y (.inl hf) hd
    · cases hd
theorem cut_ok (h : Ok st g fr a w) {all : CutP} (hc : cutOk all = true) {x : cutT all} (hx : readCut all all fr = some x) : ∃ g', Ok st g' (cutFr all x) a w := by
  have hread := readCut_lookup hx
  have hbox : ∀ (s' c' k s : Nat) (sp : SPat), all.lookup s = some sp → sp.2[k]? = some (.fl (.ptr s' c')) → isBox (cutFr all x) s' = true := by
    intro s' c' k s sp hs hk
    have := ok_mem hc hs hk
    simp only [Pat.ok] at this
    split at this
    · rename_i q hq
      obtain ⟨y, _, e⟩ := (hread s').1 _ hq
      simp only [isBox, e, encS, notBox, Bool.not_false]
    · cases this
  -- a cell
  have cell : ∀ (s : Nat) (sp : SPat), all.lookup s = some sp → ∀ (k : Nat) (p : Pat) (c : CV) (y : p.T) (v : Value), sp.2[k]? = some p → p.dec (!refTo s all) c = some y → cellAt fr s (k + 1) = c → At g fr a w s (k + 1) v → rel w g (isBox fr) (.at s 0 (k + 1)) c v →
      rel w { g with H := cutH g fr a w all } (isBox (cutFr all x)) (.at s 0 (k + 1)) (p.enc y) v := by
    intro s sp hs k p c y v hk hd hcell hat hr
    refine dec_rel h (ok_mem hc hs hk) hd hr (fun t e => ?_) (fun s' c' t e => ?_) (fun s' c' e => ?_)
    · subst e
      exact cutH_own ⟨sp, t, hs, by omega, by simpa using hk⟩ hat
    · subst e
      unfold cutH
      split
      · rename_i ho
        obtain ⟨sp', t', hs', hk0, hk'⟩ := ho
        have hb := refTo_spec hs hk
        obtain ⟨y', hd', _⟩ := (hread s').1 _ hs'
        rw [hb] at hd'
        -- the owner's cell is an owner already
        have : ∃ u xs, cellAt fr s' c' = .own u xs := by
          rcases own_cell (all := all) hk0 hk' hd' with q | q
          · exact q
          · cases q.1
        obtain ⟨u, xs, hu⟩ := this
        obtain ⟨v', hat', hr'⟩ := cell_rel h hu (by simp) (by simp)
        rw [hr'.2.2]
        have hex : ∃ v, At g fr a w s' c' v := ⟨v', hat'⟩
        rw [dif_pos hex, hex.choose_spec.fun hat']
      · rfl
    · subst e
      exact hbox s' c' k s sp hs hk
  refine ⟨{ g with H := cutH g fr a w all }, { h with
    slot := fun s => ?_
    hh := fun s c u hu => ?_ }⟩
  · cases hs : all.lookup s with
    | none =>
      rw [(hread s).2 hs]
      exact ⟨.dead, rfl, .inl rfl⟩
    | some sp =>
      obtain ⟨y, hd, e⟩ := (hread s).1 _ hs
      rw [e]
      have hsl := h.slot s
      cases hf : fr s with
      | tup vs => rw [hf] at hd; simp [decS] at hd
      | comp gg cs =>
        rw [hf] at hd hsl
        obtain ⟨q, ps⟩ := sp
        simp only [decS] at hd
        split at hd
        case h_2 => cases hd
        rename_i g0
        obtain ⟨hg, hd⟩ := bif_some hd
        have hg : gg = g0 := by simpa using hg
        subst hg
        obtain ⟨i1, i2, i3⟩ := decs_get hd
        simp only [encS]
        cases gg with
        | true =>
          obtain ⟨vs, e1, e2, e3⟩ := hsl
          refine ⟨vs, e1, by rw [e2, i1, i2], fun j c hj => ?_⟩
          have hjl : j < ps.length := by rw [← i2]; exact (List.getElem?_eq_some_iff.1 hj).1
          obtain ⟨c0, y0, q1, q2, q3⟩ := i3 j ps[j] (List.getElem?_eq_getElem hjl)
          rw [hj] at q3
          cases q3
          obtain ⟨u, u1, u2⟩ := e3 j c0 q1
          refine ⟨u, u1, cell s _ hs j _ c0 y0 u (List.getElem?_eq_getElem hjl) q2 ?_ ?_ u2⟩
          · unfold cellAt; rw [hf]; simp [List.getD_eq_getElem?_getD, q1]
          · unfold At; rw [hf]; exact ⟨vs, e1, by omega, by simpa using u1⟩
        | false =>
          obtain ⟨c0, rfl, hv⟩ := hsl
          have hpl : ps.length = 1 := by rw [← i1]; rfl
          match ps, hpl with
          | [p], _ =>
            obtain ⟨c1, y0, q1, q2, q3⟩ := i3 0 p rfl
            simp at q1
            subst q1
            have hen : encs [p] y = [p.enc y0] := by
              have : (encs [p] y).length = 1 := i2
              match hh : encs [p] y, this with
              | [z], _ => rw [hh] at q3; simp at q3; rw [q3]
            rw [hen]
            refine ⟨_, rfl, ?_⟩
            rcases hv with hv | hv | hv
            · subst hv
              cases p with
              | fl p => cases p <;> simp only [Pat.dec, FPat.dec, listAs] at q2 <;> first | exact .inl rfl | (cases q2; done)
              | _ => simp [Pat.dec] at q2
            · obtain ⟨hv, hu⟩ := hv
              subst hv
              cases p with
              | fl p => cases p <;> simp only [Pat.dec, FPat.dec, listAs] at q2 <;> first | exact .inl rfl | exact .inr (.inl ⟨rfl, hu⟩) | (cases q2; done)
              | _ => simp [Pat.dec] at q2
            · refine .inr (.inr (cell s _ hs 0 p c0 y0 _ rfl q2 ?_ ?_ hv))
              · unfold cellAt; rw [hf]; rfl
              · unfold At; rw [hf]; exact ⟨rfl, rfl⟩
      | box cs =>
        rw [hf] at hd hsl
        obtain ⟨q, ps⟩ := sp
        simp only [decS] at hd
        split at hd
        case h_2 => cases hd
        obtain ⟨i1, i2, i3⟩ := decs_get hd
        simp only [encS]
        obtain ⟨⟨b, arr, ty, e1, e2, e3, e4, e5⟩, e6⟩ := hsl
        refine ⟨⟨b, arr, ty, e1, e2, e3, by rw [e4, i1, i2], fun j c hj => ?_⟩, e6⟩
        have hjl : j < ps.length := by rw [← i2]; exact (List.getElem?_eq_some_iff.1 hj).1
        obtain ⟨c0, y0, q1, q2, q3⟩ := i3 j ps[j] (List.getElem?_eq_getElem hjl)
        rw [hj] at q3
        cases q3
        obtain ⟨u, u1, u2⟩ := e5 j c0 q1
        refine ⟨u, u1, cell s _ hs j _ c0 y0 u (List.getElem?_eq_getElem hjl) q2 ?_ ?_ u2⟩
        · unfold cellAt; rw [hf]; simp [List.getD_eq_getElem?_getD, q1]
        · unfold At; rw [hf]; exact ⟨b, arr, ty, e1, e3, by omega, by simpa using u1⟩
  · simp only [cutH] at hu
    split at hu
    · rename_i ho
      split at hu
      · rename_i hex
        have hat := hex.choose_spec
        cases hu
        obtain ⟨sp, t, hs, hk0, hk⟩ := ho
        obtain ⟨y, hd, _⟩ := (hread s).1 _ hs
        have own : ∀ v, (OwnR w g (.at s 0 c) t [] v ∨ ∃ u xs, OwnR w g (.at s 0 c) u xs v) → At g fr a w s c v → hex.choose = .slice none 0 0 ∨ ∃ b n cap, hex.choose = .slice (some ⟨b, 0, none⟩) n cap := by
          intro v hv hat'
          rw [hat.fun hat']
          rcases hv with hv | ⟨_, _, hv⟩ <;> (rcases hv with hv | ⟨b, cap, cur, e, hv, _⟩; exact .inl hv.1; exact .inr ⟨_, _, _, hv⟩)
        rcases own_cell (all := all) hk0 hk hd with ⟨u, xs, q⟩ | ⟨_, ⟨u, xs, q⟩ | q⟩
        · obtain ⟨v, h1, h2⟩ := cell_rel h q (by simp) (by simp)
          exact own v (.inr ⟨u, xs, h2.1⟩) h1
        · obtain ⟨v, h1, h2⟩ := cell_rel h q (by simp) (by simp)
          exact own v (.inr ⟨u, xs, h2.1⟩) h1
        · obtain ⟨v, h1, h2⟩ := cell_rel h q (by simp) (by simp)
          exact own v (.inl (.inl ⟨h2, rfl⟩)) h1
      · cases hu
    · exact h.hh s c u hu
end
end Go.Rv

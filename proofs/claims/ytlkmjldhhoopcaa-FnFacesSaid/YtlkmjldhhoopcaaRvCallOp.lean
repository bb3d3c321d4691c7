/- A call that writes nothing of its arguments: the operation. -/
import Derived.Test.YtlkmjldhhoopcaaRvCallee
namespace Go.Rv
set_option linter.unusedSimpArgs false
set_option linter.unusedVariables false
section
variable {P : Program} {st : St} {g : Gh} {fr : Fr} {a : Act} {w : World} {X : Env} {o : Oper} {R : Type} {K : Fr → Option R} {r : R} {Q : Exit → Act → World → Prop}
/-- the ghost behind a call -/
def Gh.after (g : Gh) (w : World) (g' : Gh) : Gh := { g with
  S := fun b o => g.S b o ∨ (w.heap.size ≤ b ∧ g'.S b o)
  O := fun b => if b < w.heap.size then g.O b else match g'.O b with
    | some (.air m) => some (.air m)
    | _ => none }
theorem after_ok (h : Ok st g fr a w) {w' : World} {g' : Gh} (hos : w'.os = w.os) (htp : w'.tape = w.tape) (hout : w'.output = w.output) (hheap : w.heap.size ≤ w'.heap.size) (hold : ∀ b, b < w.heap.size → w'.heap[b]? = w.heap[b]?)
    (hown : ∀ b p, g'.O b = some p → b < w'.heap.size) (hstab : ∀ b o, g'.S b o → b < w'.heap.size) : Chg g (g.after w g') w w' (isBox fr) (isBox fr) (fun _ => True) (fun _ => True) ∧ Ok st (g.after w g') fr a w' := by
  have hc : Chg g (g.after w g') w w' (isBox fr) (isBox fr) (fun _ => True) (fun _ => True) := {
    cB := rfl, cM := rfl, cZ := rfl
    zS := fun b o hz => (h.zs b o (by rw [← h.eZ]; exact hz)).1
    cbx := fun s hs => hs
    cX := fun s _ => rfl
    cS := fun b oo hs => ⟨.inl hs, World.cell?_of_block (w := w) (hold b (h.stab b oo hs))⟩
    cL := fun b hl => hold b (by have := h.heap; have := hl.1; rw [h.eB] at this; omega)
    cO := fun b p _ hO => by
      have hb := (h.own b p hO).1
      refine ⟨by simp only [Gh.after]; rw [if_pos hb]; exact hO, hold b hb, fun oo => ?_⟩
      simp only [Gh.after]
      constructor
      · rintro (e | ⟨e, _⟩)
        · exact e
        · omega
      · exact .inl
    cH := fun s c u _ hu => hu
    cHp := fun s i c hp => rfl }
  refine ⟨hc, ?_⟩
  exact {
    eB := h.eB, eM := h.eM, eZ := h.eZ, size := h.size, defers := h.defers, keep := h.keep
    slot := fun s => hc.kSlot (fun _ _ => trivial) (fun cs e => by simp [isBox, e, notBox]) (fun _ _ => trivial) (h.slot s)
    os := hos.trans h.os, tape := htp.trans h.tape, output := hout.trans h.output
    heap := Nat.le_trans h.heap hheap
    old := fun b hb hm => (hold b (by have := h.heap; omega)).trans (h.old b hb hm)
    own := fun b p hO => by
      simp only [Gh.after] at hO
      split at hO
      · rename_i hb
        have := h.own b p hO
        exact ⟨by omega, this.2⟩
      · rename_i hb
        cases hg : g'.O b with
        | none => rw [hg] at hO; cases hO
        | some q => exact ⟨hown b q hg, fun hlt => by have := h.heap; omega⟩
    stab := fun b oo hs => by
      rcases hs with hs | ⟨_, hs⟩
      · have := h.stab b oo hs; omega
      · exact hstab b oo hs
    boxS := fun b s hO oo hs => by
      simp only [Gh.after] at hO
      split at hO
      · rcases hs with hs | ⟨e, _⟩
        · exact h.boxS b s hO oo hs
        · omega
      · split at hO <;> cases hO
    zs := fun b oo hz => ⟨.inl (h.zs b oo hz).1, (h.zs b oo hz).2⟩
    sz := fun b oo hb hm hs => by
      rcases hs with hs | ⟨e, _⟩
      · exact h.sz b oo hb hm hs
      · have := h.heap; omega
    hh := h.hh }
/-- a result, in the caller's words -/
theorem res_rel {w' : World} {g' g2 : Gh} {old : Bool} {k : Nat} {bx : Nat → Bool} (hZ : ∀ b o, g'.Z b o → (if old = true then g2.Z b o else g2.S b o)) (hS : ∀ b o, g'.S b o → g2.S b o)
    (hO : ∀ b, g'.O b = some (.air k) → g2.O b = some (.air k) ∧ ∀ o, g2.S b o ↔ g'.S b o) : ∀ {c : CV} {v : Value}, RRel w' g' k c v → rel w' g2 bx (.air k) (resCV old c) v := by
  have hown : ∀ {t : Ty} {xs : List (Den t)} {v : Value}, OwnR w' g' (.air k) t xs v → OwnR w' g2 (.air k) t xs v := by
    intro t xs v hr
    rcases hr with e | ⟨b, cap, cur, e, h1, h2, h3, h4, h5, h6, h7, h8⟩
    · exact .inl e
    · obtain ⟨o1, o2⟩ := hO b h2
      refine .inr ⟨b, cap, cur, e, h1, o1, h3, h4, h5, h6, fun i x hi => ?_, fun o => by rw [o2, h8]⟩
      obtain ⟨ecs, e1, e2⟩ := h7 i x hi
      exact ⟨ecs, rep_mono (fun b o hs => ⟨hS b o hs, rfl⟩) e1, e2⟩
  intro c v hr
  cases c
  case dead => exact hr
  case undef => exact hr.elim
  case int => exact hr
  case bool => exact hr
  case str => exact hr
  case nils => exact hr
  case lo t xs =>
    cases old
    · exact rep_mono (fun b o hz => ⟨by simpa using hZ b o hz, rfl⟩) hr
    · exact rep_mono (fun b o hz => ⟨by simpa using hZ b o hz, rfl⟩) hr
  case hi t xs => exact rep_mono (fun b o hs => ⟨hS b o hs, rfl⟩) hr
  case own t xs => exact ⟨hown hr, trivial⟩
  case tmpo t xs => exact ⟨hown hr, trivial⟩
  case ref s c t xs => exact rep_one (w := w') (S := g'.S) (t := .sl t) (x := xs) hr v (by simp)
  case ptr => exact hr
  case rptr => exact hr
  case hptr => exact hr
  case eptr => exact hr
  case fn => exact hr
  case mbox => obtain ⟨b, arr, ty, rfl, _⟩ := hr; rfl
theorem resCV_dead {old : Bool} : resCV old .dead = .dead := rfl
theorem resComp_rel {w' : World} {g' g2 : Gh} {old : Bool} {i : Nat} {bx : Nat → Bool} (hZ : ∀ b o, g'.Z b o → (if old = true then g2.Z b o else g2.S b o)) (hS : ∀ b o, g'.S b o → g2.S b o)
    (hO : ∀ b k, g'.O b = some (.air k) → g2.O b = some (.air k) ∧ ∀ o, g2.S b o ↔ g'.S b o) : ∀ {p : Comp} {v : Value}, RComp w' g' i p v → ARel w' g2 bx (4096 * i) (p.1, p.2.map (resCV old)) v
  | (true, cs), v, h => by
    obtain ⟨vs, h1, h2, h3⟩ := h
    refine ⟨vs, h1, by simpa using h2, fun k c hk => ?_⟩
    rw [List.getElem?_map] at hk
    cases hc : cs[k]? with
    | none => rw [hc] at hk; simp at hk
    | some c' =>
      rw [hc] at hk
      simp at hk
      subst hk
      obtain ⟨u, e1, e2⟩ := h3 k c' hc
      exact ⟨u, e1, res_rel hZ hS (fun b => hO b _) e2⟩
  | (false, cs), v, h => by
    obtain ⟨c, h1, h2⟩ := h
    subst h1
    refine ⟨resCV old c, rfl, ?_⟩
    rcases h2 with rfl | rfl | h2
    · exact .inl rfl
    · exact .inl rfl
    · exact .inr (.inr (res_rel hZ hS (fun b => hO b _) h2))
theorem resCV_own {old : Bool} (c : CV) : isOwn (resCV old c) = false := by
  cases c <;> first | rfl | (cases old <;> rfl)
/-- Several results land in a slot. -/
theorem landTup (h : Ok st g fr a w) {d : Nat} (hd : d < st.n) (hb : notBox (fr d) = true) (hk : d ∉ st.keep) {vs : List Comp} {us : List Value} {v : Value} (hv : v = .tuple us.toArray) (hl : us.length = vs.length)
    (hlen : ∀ p ∈ vs, p.2.length < 4096) (hown : ∀ p ∈ vs, p.2.all (fun c => !isOwn c) = true) (hr : ∀ (i : Nat) (p : Comp), vs[i]? = some p → ∃ u : Value, us[i]? = some u ∧ ARel w g (isBox fr) (4096 * i) p u) :
    ∃ g', Ok st g' (upd fr d (.tup vs)) (a.put (some d) v) w := by
  let f : Place → Option Place := fun p => match p with
    | .at s i c => if s = d then none else some p
    | .air k => some (.at d (k / 4096) (k % 4096 + 1))
  have hc := Chg.mv h d f (isBox fr)
  refine ⟨g.mv d f, {
    eB := h.eB, eM := h.eM, eZ := h.eZ
    size := by rw [put_tmps]; simp [h.size]
    defers := h.defers
    slot := fun s => ?_
    keep := fun j hj => ?_
    os := h.os, tape := h.tape, output := h.output, heap := h.heap, old := h.old
    own := fun b p hO => ?_
    stab := h.stab
    boxS := fun b s hO => ?_
    zs := h.zs, sz := h.sz
    hh := fun s c u hu => ?_ }⟩
  · rw [isBox_upd fr d _ hb rfl]
    by_cases hs : s = d
    · subst hs
      rw [upd_same, put_getD_same v (by rw [h.size]; exact hd)]
      refine ⟨us, hv, hl, fun i p hi => ?_⟩
      obtain ⟨u, e1, e2⟩ := hr i p hi
      refine ⟨u, e1, ?_⟩
      have hpm := List.mem_of_getElem? hi
      have hpl := hlen p hpm
      have hpo := hown p hpm
      have cell : ∀ (k : Nat) (c : CV) (z : Value), k < 4096 → isOwn c = false → rel w g (isBox fr) (.air (4096 * i + k)) c z → rel w (g.mv s f) (isBox fr) (.at s i (k + 1)) c z := fun k c z hk ho hz => by
        refine reloc hc (p0 := .at (s + 1) 0 0) ⟨by simp [f], by show s + 1 ≠ s; omega⟩ (fun b hO => ⟨?_, rfl, fun _ => Iff.rfl⟩) (by simp [Gh.mv]) ho (fun _ _ => trivial) hz
        simp only [Gh.mv, hO, Option.bind_some, f]
        rw [show (4096 * i + k) / 4096 = i by omega, show (4096 * i + k) % 4096 = k by omega]
      obtain ⟨b, cs⟩ := p
      cases b with
      | true =>
        obtain ⟨zs, z1, z2, z3⟩ := e2
        refine ⟨zs, z1, z2, fun k c hk => ?_⟩
        obtain ⟨z, y1, y2⟩ := z3 k c hk
        have hkl := (List.getElem?_eq_some_iff.1 hk).1
        exact ⟨z, y1, cell k c z (by simp only at hpl; omega) (by simpa using List.all_eq_true.1 hpo c (List.mem_of_getElem? hk)) y2⟩
      | false =>
        obtain ⟨c, z1, z2⟩ := e2
        subst z1
        refine ⟨c, rfl, ?_⟩
        rcases z2 with z2 | z2 | z2
        · exact .inl z2
        · exact .inr (.inl z2)
        · exact .inr (.inr (cell 0 c u (by omega) (by simpa using hpo) z2))
    · rw [upd_ne fr d _ hs, put_getD_ne a v hs]
      exact hc.kSlot (fun i c => ⟨by simp [f, hs], hs⟩) (fun cs hc => by simp [isBox, hc, notBox]) (fun _ _ => trivial) (h.slot s)
  · have : j ≠ d := fun e => hk (e ▸ hj)
    rw [put_tmps, Array.getElem?_setIfInBounds_ne (Ne.symm this)]
    exact h.keep j hj
  · simp only [Gh.mv] at hO
    cases hb : g.O b with
    | none => rw [hb] at hO; cases hO
    | some q => exact h.own b q hb
  · simp only [Gh.mv] at hO
    cases hb : g.O b with
    | none => rw [hb] at hO; cases hO
    | some q =>
      rw [hb] at hO
      simp only [Option.bind_some, f] at hO
      cases q with
      | air k => simp at hO
      | «at» s' i c =>
        simp only at hO
        split at hO
        · cases hO
        · cases hO
          exact h.boxS b _ hb
  · simp only [Gh.mv] at hu
    split at hu
    · cases hu
    · exact h.hh s c u hu
/-- the value of a list of results -/
def RSV (w : World) (g : Gh) (box : Nat → Bool) (old : Bool) : List Comp → Value → Prop
  | [p], v => ARel w g box 0 (p.1, p.2.map (resCV old)) v
  | [], v => v = .tuple #[]
  | p :: q :: res, v => ∃ us : List Value, v = .tuple us.toArray ∧ us.length = (p :: q :: res).length ∧ ∀ (i : Nat) (x : Comp), (p :: q :: res)[i]? = some x → ∃ u : Value, us[i]? = some u ∧ ARel w g box (4096 * i) (x.1, x.2.map (resCV old)) u
/-- a box that hangs in the air lands in a slot -/
theorem airBox_ok (h : Ok st g fr a w) {b : Nat} {arr : Array Value} {e : TypeId} (hO : g.O b = some (.air 0)) (hbk : w.heap[b]? = some (.cells arr e (0, 0))) (hS : ∀ o, ¬ g.S b o)
    {d : Nat} (hd : d < st.n) (hb : notBox (fr d) = true) (hk : d ∉ st.keep) {cs : List CV} (hl : arr.toList.length = cs.length) (hcs : ∀ (j : Nat) (c : CV), cs[j]? = some c → free c = true ∧ ∃ u : Value, arr.toList[j]? = some u ∧ ∀ p, rel w g (isBox fr) p c u) :
    Ok st (g.newBox b d) (upd fr d (.box cs)) (a.put (some d) (.pointer (some ⟨b, 0, none⟩))) w := by
  have hc : Chg g (g.newBox b d) w w (isBox fr) (isBox (upd fr d (.box cs))) (fun p => notAt d p ∧ p ≠ .air 0) (fun _ => True) := {
    cB := rfl, cM := rfl, cZ := rfl
    zS := fun b o hz => (h.zs b o (by rw [← h.eZ]; exact hz)).1
    cbx := fun s hs => by
      unfold isBox at *
      by_cases hsd : s = d
      · subst hsd; rw [upd_same]; rfl
      · rw [upd_ne _ _ _ hsd]; exact hs
    cX := fun s hs => by
      have : s ≠ d := fun e => by subst e; unfold isBox at hs; rw [hb] at hs; cases hs
      simp [Gh.newBox, this]
    cS := fun b o hs => ⟨hs, rfl⟩
    cL := fun b hl => rfl
    cO := fun b' p hp hO' => by
      refine ⟨?_, rfl, fun oo => Iff.rfl⟩
      have hne : b' ≠ b := fun e => by subst e; rw [hO] at hO'; cases hO'; exact hp.2 rfl
      simp only [Gh.newBox]
      rw [if_neg hne, hO']
      cases p with
      | air k => rfl
      | «at» s i c => have : s ≠ d := hp.1; simp [this]
    cH := fun s c u _ hu => by
      simp only [Gh.newBox] at hu
      split at hu
      · cases hu
      · exact hu
    cHp := fun s i c hp => by
      have : s ≠ d := hp.1
      simp [Gh.newBox, this] }
  exact {
    eB := h.eB, eM := h.eM, eZ := h.eZ
    size := by rw [put_tmps]; simp [h.size]
    defers := h.defers
    slot := fun s => by
      by_cases hs : s = d
      · subst hs
        rw [upd_same, put_getD_same _ (by rw [h.size]; exact hd)]
        refine ⟨⟨b, arr, e, by simp [Gh.newBox], by simp [Gh.newBox], hbk, hl, fun j c hj => ?_⟩, b, by simp [Gh.newBox], rfl⟩
        obtain ⟨hf, u, q1, q2⟩ := hcs j c hj
        exact ⟨u, q1, rel_place hf (hc.kRel (p := .air 1) ⟨trivial, by simp⟩ (fun _ _ => trivial) (q2 _))⟩
      · rw [upd_ne fr d _ hs, put_getD_ne a _ hs]
        exact hc.kSlot (fun i c => ⟨hs, by simp⟩) (fun cs' e => by simp [isBox, e, notBox]) (fun _ _ => trivial) (h.slot s)
    keep := fun j hj => by
      have : j ≠ d := fun e => hk (e ▸ hj)
      rw [put_tmps, Array.getElem?_setIfInBounds_ne (Ne.symm this)]
      exact h.keep j hj
    os := h.os, tape := h.tape, output := h.output, heap := h.heap, old := h.old
    own := fun b' p hO' => by
      simp only [Gh.newBox] at hO'
      split at hO'
      · rename_i e; subst e
        exact h.own _ _ hO
      · cases hOb : g.O b' with
        | none => rw [hOb] at hO'; cases hO'
        | some q => exact h.own b' q hOb
    stab := h.stab
    boxS := fun b' s hO' oo hs => by
      simp only [Gh.newBox] at hO'
      split at hO'
      · rename_i e; subst e
        exact hS oo hs
      · cases hOb : g.O b' with
        | none => rw [hOb] at hO'; cases hO'
        | some q =>
          rw [hOb] at hO'
          cases q with
          | air k => cases hO'
          | «at» s' i c =>
            simp only at hO'
            split at hO'
            · cases hO'
            · cases hO'
              exact h.boxS b' s hOb oo hs
    zs := h.zs
    sz := h.sz
    hh := fun s c u hu => by
      simp only [Gh.newBox] at hu
      split at hu
      · cases hu
      · exact h.hh s c u hu }
/-- a box that a call hands back -/
def AirBox (w : World) (g : Gh) (bx : Nat → Bool) (old : Bool) (cs : List CV) (v : Value) : Prop := ∃ b arr e, v = .pointer (some ⟨b, 0, none⟩) ∧ g.O b = some (.air 0) ∧ w.heap[b]? = some (.cells arr e (0, 0)) ∧ (∀ o, ¬ g.S b o) ∧ arr.toList.length = cs.length ∧
  ∀ (j : Nat) (c : CV), (cs.map (resCV old))[j]? = some c → free c = true ∧ ∃ u : Value, arr.toList[j]? = some u ∧ ∀ p, rel w g bx p c u
theorem resSV_one {old : Bool} {p : Comp} (h : ∀ cs, p ≠ (false, [.mbox cs])) : resSV old [p] = .comp p.1 (p.2.map (resCV old)) := by
  match p with
  | (true, _) => rfl
  | (false, []) => rfl
  | (false, c :: d :: r) => cases c <;> rfl
  | (false, [c]) => cases c <;> first | rfl | exact (h _ rfl).elim
/-- What a call hands back, set. -/
theorem fin_res (hX : Fits X st) (h : Ok st g fr a w) {old : Bool} {res : List Comp} {v : Value} (hlen : ∀ p ∈ res, p.2.length < 4096)
    (hv : RSV w g (isBox fr) old res v) (hbx : ∀ cs, res = [(false, [.mbox cs])] → AirBox w g (isBox fr) old cs v)
    {dst : Option Nat} (hf : fin X fr dst (resSV old res) K = some r) : Good st K r (a.put dst v) w := by
  have tupc : (∃ us : List Value, v = .tuple us.toArray ∧ us.length = res.length ∧ ∀ (i : Nat) (p : Comp), res[i]? = some p → ∃ u : Value, us[i]? = some u ∧ ARel w g (isBox fr) (4096 * i) (p.1, p.2.map (resCV old)) u) →
      fin X fr dst (.tup (res.map fun v => (v.1, v.2.map (resCV old)))) K = some r → Good st K r (a.put dst v) w := by
    rintro ⟨us, h1, h2, h3⟩ hf
    cases dst with
    | none => exact ⟨g, fr, h, hf⟩
    | some d =>
      simp only [fin] at hf
      cases hs : setD X fr d (.tup (res.map fun v => (v.1, v.2.map (resCV old)))) with
      | none => rw [hs] at hf; cases hf
      | some fr1 =>
        rw [hs] at hf
        obtain ⟨q1, q2, q3, rfl⟩ := setD_some hX hs
        obtain ⟨g', ok⟩ := landTup h q1 q2 q3 (vs := res.map fun v => (v.1, v.2.map (resCV old))) h1 (by simpa using h2) (fun p hp => by
          obtain ⟨p', hp', rfl⟩ := List.mem_map.1 hp
          simpa using hlen p' hp') (fun p hp => by
          obtain ⟨p', hp', rfl⟩ := List.mem_map.1 hp
          simp only [List.all_map, List.all_eq_true]
          intro c _
          simp [Function.comp, resCV_own]) (fun i p hi => by
          rw [List.getElem?_map] at hi
          cases hc : res[i]? with
          | none => rw [hc] at hi; simp at hi
          | some p' => rw [hc] at hi; simp at hi; subst hi; exact h3 i p' hc)
        exact ⟨g', _, ok, hf⟩
  by_cases hm : ∃ cs, res = [(false, [.mbox cs])]
  · obtain ⟨cs, rfl⟩ := hm
    obtain ⟨b, arr, e, rfl, x2, x3, x4, x5, x6⟩ := hbx cs rfl
    cases dst with
    | none => exact ⟨g, fr, h, hf⟩
    | some d =>
      have hf : fin X fr (some d) (.box (cs.map (resCV old))) K = some r := hf
      simp only [fin] at hf
      cases hs : setD X fr d (.box (cs.map (resCV old))) with
      | none => rw [hs] at hf; cases hf
      | some fr1 =>
        rw [hs] at hf
        obtain ⟨q1, q2, q3, rfl⟩ := setD_some hX hs
        exact ⟨_, _, airBox_ok h x2 x3 x4 q1 q2 q3 (by rw [List.length_map]; exact x5) x6, hf⟩
  revert hlen hv hf tupc hm
  match res with
  | [] => exact fun _ hv hf tupc _ => tupc ⟨[], hv, rfl, fun i p hi => by simp at hi⟩ hf
  | [p] => exact fun _ hv hf _ hm => fin_land (p := (p.1, p.2.map (resCV old))) hX h hv (by rw [resSV_one fun cs e => hm ⟨cs, by rw [e]⟩] at hf; exact hf)
  | _ :: _ :: _ => exact fun _ hv hf tupc _ => tupc hv (by
      have : ∀ (x y : Comp) (l : List Comp), resSV old (x :: y :: l) = .tup ((x :: y :: l).map fun v => (v.1, v.2.map (resCV old))) := by
        intro x y l
        obtain ⟨g0, cs0⟩ := x
        cases g0
        · match cs0 with
          | [] => rfl
          | c :: d :: r => cases c <;> rfl
          | [c] => cases c <;> rfl
        · rfl
      rw [this] at hf; exact hf)
/-- what a call hands back, in the caller's words -/
theorem rsv_of {w' : World} {g' g2 : Gh} {old : Bool} {bx : Nat → Bool} (tZ : ∀ b o, g'.Z b o → (if old = true then g2.Z b o else g2.S b o)) (tS : ∀ b o, g'.S b o → g2.S b o)
    (tO : ∀ b k, g'.O b = some (.air k) → g2.O b = some (.air k) ∧ ∀ o, g2.S b o ↔ g'.S b o) : ∀ {res : List Comp} {v : Value}, RVal w' g' res v → RSV w' g2 bx old res v
  | [], v, h => by
    obtain ⟨us, u1, u2, _⟩ := h
    cases us with
    | nil => exact u1
    | cons => simp at u2
  | [p], v, h => resComp_rel (i := 0) tZ tS tO h
  | p :: q :: rs, v, h => by
    obtain ⟨us, u1, u2, u3⟩ := h
    refine ⟨us, u1, u2, fun i p hi => ?_⟩
    obtain ⟨u, y1, y2⟩ := u3 i p hi
    exact ⟨u, y1, resComp_rel tZ tS tO y2⟩
theorem relF_res {w' : World} {g' g2 : Gh} {old : Bool} {bx : Nat → Bool} (tZ : ∀ b o, g'.Z b o → (if old = true then g2.Z b o else g2.S b o)) (tS : ∀ b o, g'.S b o → g2.S b o) :
    ∀ {c : CV} {v : Value}, relF w' g' c v → free (resCV old c) = true ∧ ∀ p, rel w' g2 bx p (resCV old c) v
  | .dead, _, h => ⟨rfl, fun _ => h⟩
  | .int _ _, _, h => ⟨rfl, fun _ => h⟩
  | .bool _, _, h => ⟨rfl, fun _ => h⟩
  | .str _, _, h => ⟨rfl, fun _ => h⟩
  | .nils, _, h => ⟨rfl, fun _ => h⟩
  | .lo t xs, v, h => by
    cases old
    · exact ⟨rfl, fun _ => rep_mono (fun b o hz => ⟨by simpa using tZ b o hz, rfl⟩) h⟩
    · exact ⟨rfl, fun _ => rep_mono (fun b o hz => ⟨by simpa using tZ b o hz, rfl⟩) h⟩
  | .hi t xs, v, h => ⟨rfl, fun _ => rep_mono (fun b o hs => ⟨tS b o hs, rfl⟩) h⟩
  | .undef, _, h => h.elim
  | .own _ _, _, h => h.elim
  | .tmpo _ _, _, h => h.elim
  | .ref _ _ _ _, _, h => h.elim
  | .ptr _ _, _, h => h.elim
  | .rptr _, _, h => h.elim
  | .hptr _, _, h => h.elim
  | .eptr _ _ _ _ _ _, _, h => h.elim
  | .fn _ _, _, h => h.elim
  | .mbox _, _, h => h.elim
theorem air_of {w' : World} {g' g2 : Gh} {old : Bool} {bx : Nat → Bool} (tZ : ∀ b o, g'.Z b o → (if old = true then g2.Z b o else g2.S b o)) (tS : ∀ b o, g'.S b o → g2.S b o)
    (tO : ∀ b k, g'.O b = some (.air k) → g2.O b = some (.air k) ∧ ∀ o, g2.S b o ↔ g'.S b o) {res : List Comp} {v : Value} (h : RVal w' g' res v) : ∀ cs, res = [(false, [.mbox cs])] → AirBox w' g2 bx old cs v := by
  rintro cs rfl
  obtain ⟨c, h1, h2⟩ := h
  simp only [List.cons.injEq, and_true] at h1
  subst h1
  rcases h2 with h2 | h2 | ⟨b, arr, ty, rfl, x2, x3, x4, x5, x6⟩
  · cases h2
  · cases h2
  obtain ⟨o1, o2⟩ := tO b _ x2
  refine ⟨b, arr, ty, rfl, o1, x3, fun o hs => x6 o ((o2 o).1 hs), x4, fun j c hj => ?_⟩
  rw [List.getElem?_map] at hj
  cases hx : cs[j]? with
  | none => rw [hx] at hj; simp at hj
  | some x' =>
    rw [hx] at hj
    simp at hj
    subst hj
    obtain ⟨u, u1, u2⟩ := x5 j x' hx
    obtain ⟨z1, z2⟩ := relF_res (bx := bx) tZ tS u2
    exact ⟨z1, u, u1, z2⟩
/-- a function that can be entered, and its contract -/
structure EntOk (P : Program) (f : FuncId) (F : Fn) : Prop where
  call : ∀ (args : Array Value) (w : World), (callFunc f args).run P w = .ok (.enter f args) w
  ok : F.box = false → FnOk P f F
  okB : F.box = true → FnOkB P f F
theorem argsConv_nil (fr : Fr) : ∀ (i : Nat) (args : List Comp), argsConv fr [] i args = some (args.map fun p => (p.1, p.2.map (argCV fr)))
  | i, [] => rfl
  | i, (g, cs) :: r => by simp [argsConv, argsConv_nil fr (i + 1) r]
theorem args_eval (h : Ok st g fr a w) : ∀ (xs : List Operand) (i : Nat) (p : Comp), (argsOf fr xs)[i]? = some p → ∃ x, xs[i]? = some x ∧ p = opd fr x
  | [], i, p, hi => by simp [argsOf] at hi
  | x :: xs, i, p, hi => by
    cases i with
    | zero => simp [argsOf] at hi; exact ⟨x, rfl, hi.symm⟩
    | succ i => simp [argsOf] at hi; simpa using args_eval h xs i p hi
theorem argsOf_length (fr : Fr) : ∀ xs : List Operand, (argsOf fr xs).length = xs.length
  | [] => rfl
  | x :: xs => by simp [argsOf, argsOf_length fr xs]
/-- the values that a call is given -/
theorem call_args (h : Ok st g fr a w) {xs : List Operand} {f : Operand} {fid : FuncId} {caps : List CV} (hf : opc fr f = .fn fid caps) :
    ∃ cvs : List Value, a.eval f = .func (.func fid) #[] cvs.toArray ∧ (xs.map a.eval ++ cvs).length = (argsOf fr xs ++ caps.map fun c => ((false, [c]) : Comp)).length ∧
      ∀ (i : Nat) (p : Comp), (argsOf fr xs ++ caps.map fun c => ((false, [c]) : Comp))[i]? = some p → ∃ v : Value, (xs.map a.eval ++ cvs)[i]? = some v ∧ FRel w g (isBox fr) p v := by
  obtain ⟨cvs, h1, h2, h3⟩ := (opc_rel h hf (by simp) (by simp)).2
  have hal := argsOf_length fr xs
  refine ⟨cvs, h1, by simp [hal, h2], fun i p hi => ?_⟩
  by_cases hlt : i < xs.length
  · rw [List.getElem?_append_left (by rw [hal]; exact hlt)] at hi
    obtain ⟨x, e1, rfl⟩ := args_eval h xs i p hi
    exact ⟨a.eval x, by rw [List.getElem?_append_left (by simpa using hlt), List.getElem?_map, e1]; rfl, opd_ok h x⟩
  · rw [List.getElem?_append_right (by rw [hal]; omega), List.getElem?_map, hal] at hi
    cases hc : caps[i - xs.length]? with
    | none => rw [hc] at hi; simp at hi
    | some c =>
      rw [hc] at hi
      simp at hi
      subst hi
      obtain ⟨u, e1, e2⟩ := h3 _ c hc
      have : free c = true ∧ rel w g (isBox fr) (.air 0) c u := by cases c <;> first | exact ⟨rfl, e2⟩ | exact e2.elim
      exact ⟨u, by rw [List.getElem?_append_right (by simp; omega)]; simpa using e1, FRel.one this.1 this.2⟩
theorem run_resolve {c : Call} {f : Operand} (hc : c.callee = .value f) {fid : FuncId} {cvs : Array Value} (hf : a.eval f = .func (.func fid) #[] cvs) (hcall : ∀ (args : Array Value) (w : World), (callFunc fid args).run P w = .ok (.enter fid args) w) (ho : o.op = .call c) :
    (execOp a.eval o).run P w = .ok (.enter fid (c.args.map a.eval ++ cvs)) w := by
  simp [execOp, ho, resolve, hc, hf, Deferred.ofValue, invoke, hcall]
theorem call_ok (h : Ok st g fr a w) (hX : Fits X st) {c : Call} (ho : o.op = .call c) {f : Operand} (hc : c.callee = .value f) {fid : FuncId} {caps : List CV} (hf : opc fr f = .fn fid caps) {F : Fn} (hF : EntOk P fid F) (hb : F.box = false) (hm : F.muts = [])
    (hk : callFn X F fr (argsOf fr c.args.toList ++ caps.map fun c => (false, [c])) o.dst K = some r) : o.wp P a w (Good st K r) Q := by
  obtain ⟨cvs, e1, e2, e3⟩ := call_args h (xs := c.args.toList) hf
  generalize hargs : (argsOf fr c.args.toList ++ caps.map fun c => ((false, [c]) : Comp)) = args at *
  unfold callFn at hk
  rw [hm, argsConv_nil] at hk
  simp only [placesOf, List.isEmpty_nil, Bool.true_or, cond_true] at hk
  generalize hold : (args.all fun a => a.2.all isOldC) = old at *
  let Z : Nat → Nat → Prop := if old = true then g.Z else g.S
  have hZ : ∀ b o, g.Z b o → Z b o := fun b oo hz => by
    simp only [Z]
    split
    · exact hz
    · exact (h.zs b oo (by rw [← h.eZ]; exact hz)).1
  have hZS : ∀ b o, Z b o → g.S b o := fun b oo hz => by
    simp only [Z] at hz
    split at hz
    · exact (h.zs b oo (by rw [← h.eZ]; exact hz)).1
    · exact hz
  have hinit : InitOk w (Gh.callee w Z) (args.map fun p => (p.1, p.2.map (argCV fr))) (c.args.toList.map a.eval ++ cvs) := {
    eB := rfl
    len := by rw [e2]; simp
    arg := fun i p hi => by
      rw [List.getElem?_map] at hi
      cases hp : args[i]? with
      | none => rw [hp] at hi; simp at hi
      | some p' =>
        rw [hp] at hi
        simp at hi
        subst hi
        obtain ⟨v, q1, q2⟩ := e3 i p' hp
        refine ⟨v, q1, args_rel h hZ ?_ q2 i⟩
        cases ho : old
        · refine .inr fun b oo hs => ?_
          simp only [Z, ho]; exact hs
        · rw [ho] at hold
          exact .inl (List.all_eq_true.1 hold p' (List.mem_of_getElem? hp))
    own := fun b p hO => by cases hO
    stab := fun b oo hs => h.stab b oo (hZS b oo hs)
    nobox := fun b s hO => by cases hO
    zs := fun b oo hz => ⟨hz, h.stab b oo (hZS b oo hz), fun e => e⟩
    sz := fun b oo _ _ hs => hs
    hh := fun s k u hu => by cases hu }
  have hcalls := hF.ok hb w _ _ _ _ r hinit hk
  unfold Oper.wp
  rw [run_resolve hc e1 hF.call ho, Oper.upon_enter]
  have hvs : (c.args.map a.eval ++ cvs.toArray) = (c.args.toList.map a.eval ++ cvs).toArray := by
    apply Array.ext'; simp
  rw [hvs]
  refine hcalls.mono ?_
  rintro e w' ⟨v, res, g', rfl, hres, hR⟩
  show Good st K r (a.put o.dst v) w'
  obtain ⟨rs, outs, hrs, hval, _⟩ := hR.val
  rw [hm] at hrs
  simp only [List.isEmpty_nil, cond_true, List.append_nil] at hrs
  subst hrs
  cases hlen : (res : List Comp).all (fun c => c.2.length.blt 4096)
  · rw [hlen] at hres; simp at hres
  rw [hlen] at hres
  simp only [Bool.not_true, cond_false, List.isEmpty_nil, cond_true] at hres
  have hlen' : ∀ p ∈ res, p.2.length < 4096 := fun p hp => Nat.le_of_ble_eq_true (List.all_eq_true.1 hlen p hp)
  obtain ⟨hcg, hok⟩ := after_ok h (w' := w') (g' := g') hR.os hR.tape hR.output hR.heap (fun b hb => hR.old b hb (fun e => e)) (fun b p hO => (hR.own b p hO).1) hR.stab
  have hnew : ∀ b p, g'.O b = some p → w.heap.size ≤ b := fun b p hO => by
    have := (hR.own b p hO).2
    rcases Nat.lt_or_ge b w.heap.size with hlt | hge
    · exact (this hlt).elim
    · exact hge
  have tZ : ∀ b o, g'.Z b o → (if old = true then (g.after w g').Z b o else (g.after w g').S b o) := fun b oo hz => by
    rw [hR.eZ] at hz
    have hz' : Z b oo := hz
    simp only [Z] at hz'
    split
    · rename_i e; rw [if_pos e] at hz'; exact hz'
    · rename_i e; rw [if_neg e] at hz'; exact .inl hz'
  have tS : ∀ b o, g'.S b o → (g.after w g').S b o := fun b oo hs => by
    rcases Nat.lt_or_ge b w.heap.size with hlt | hge
    · exact .inl (hZS b oo (hR.sz b oo hlt (fun e => e) hs))
    · exact .inr ⟨hge, hs⟩
  have tO : ∀ b k, g'.O b = some (.air k) → (g.after w g').O b = some (.air k) ∧ ∀ o, (g.after w g').S b o ↔ g'.S b o := fun b k hO => by
    have hge := hnew b _ hO
    refine ⟨by simp only [Gh.after]; rw [if_neg (by omega), hO], fun oo => ⟨?_, fun hs => .inr ⟨hge, hs⟩⟩⟩
    rintro (hs | ⟨_, hs⟩)
    · have := h.stab b oo hs; omega
    · exact hs
  exact fin_res hX hok hlen' (old := old) (rsv_of tZ tS tO hval) (air_of tZ tS tO hval) hres
end
end Go.Rv

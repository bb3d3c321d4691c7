/- A call of a function that writes the box that its first argument points to: the caller's side. -/
import Derived.Test.YtlkmjldhhoopcaaRvCallOp
namespace Go.Rv
set_option linter.unusedSimpArgs false
set_option linter.unusedVariables false
section
variable {P : Program} {st : St} {g : Gh} {fr : Fr} {a : Act} {w : World} {X : Env} {o : Oper} {R : Type} {K : Fr → Option R} {r : R} {Q : Exit → Act → World → Prop}
theorem bif_someB {b : Bool} {α : Type} {x : Option α} {y : α} (h : (bif b then x else none) = some y) : b = true ∧ x = some y := by
  cases b
  · cases h
  · exact ⟨rfl, h⟩
/-- what is told of a cell without pointers looks at two tiers alone -/
theorem relF_tiers {w : World} {g g' : Gh} (hS : g'.S = g.S) (hZ : g'.Z = g.Z) : ∀ {c : CV} {v : Value}, relF w g c v → relF w g' c v
  | .dead, _, h => h
  | .undef, _, h => h
  | .int _ _, _, h => h
  | .bool _, _, h => h
  | .str _, _, h => h
  | .nils, _, h => h
  | .lo t xs, v, h => by
    show RS w g'.Z t xs v
    rw [hZ]; exact h
  | .hi t xs, v, h => by
    show RS w g'.S t xs v
    rw [hS]; exact h
  | .own _ _, _, h => h
  | .tmpo _ _, _, h => h
  | .ref _ _ _ _, _, h => h
  | .ptr _ _, _, h => h
  | .rptr _, _, h => h
  | .hptr _, _, h => h
  | .eptr _ _ _ _ _ _, _, h => h
  | .fn _ _, _, h => h
  | .mbox _, _, h => h
theorem isOldF_C {c : CV} (h : isOldF c = true) (hd : c ≠ .dead) : isOldC c = true := by cases c <;> first | rfl | exact absurd rfl hd | simp [isOldF] at h
theorem boxC_free {c : CV} (h : boxC c = true) : free c = true := by cases c <;> first | rfl | simp [boxC] at h
/-- a cell beside the box, as the callee sees it -/
theorem flatB_rel {Z : Nat → Nat → Prop} {b : Nat} (hZ : ∀ b o, g.Z b o → Z b o) {bx : Nat → Bool} {p q : Place} {c : CV} {v : Value} (hn : noPtr c = true) (ho : isOldF c = true ∨ ∀ b o, g.S b o → Z b o) (h : rel w g bx p c v) : relF w (Gh.calleeB w Z b) (flatArg c) v ∧ rel w (Gh.calleeB w Z b) (fun _ => false) q (flatArg c) v := by
  have h1 := (flatArg_rel (q := q) hZ ho h).2
  have h2 : relF w (Gh.calleeB w Z b) (flatArg c) v := relF_tiers (g := Gh.callee w Z) rfl rfl h1
  exact ⟨h2, rel_of_relF h2⟩
theorem argB_rel {Z : Nat → Nat → Prop} {b : Nat} (hZ : ∀ b o, g.Z b o → Z b o) {p : Comp} {v : Value} (hn : p.2.all noPtr = true) (ho : p.2.all isOldF = true ∨ ∀ b o, g.S b o → Z b o) (hr : FRel w g (isBox fr) p v) (i : Nat) :
    CRel w (Gh.calleeB w Z b) (fun _ => false) i 0 (p.1, p.2.map flatArg) v := by
  obtain ⟨gg, cs⟩ := p
  obtain ⟨_, hr⟩ := hr
  have hcell : ∀ c ∈ cs, noPtr c = true ∧ (isOldF c = true ∨ ∀ b o, g.S b o → Z b o) := fun c hc =>
    ⟨List.all_eq_true.1 hn c hc, ho.imp (fun h => List.all_eq_true.1 h c hc) id⟩
  cases gg with
  | true =>
    obtain ⟨vs, h1, h2, h3⟩ := hr
    refine ⟨vs, h1, by simpa using h2, fun j c hj => ?_⟩
    rw [List.getElem?_map] at hj
    cases hc : cs[j]? with
    | none => rw [hc] at hj; simp at hj
    | some c' =>
      rw [hc] at hj
      simp at hj
      subst hj
      obtain ⟨u, e1, e2⟩ := h3 j c' hc
      obtain ⟨q1, q2⟩ := hcell c' (List.mem_of_getElem? hc)
      exact ⟨u, e1, (flatB_rel hZ q1 q2 e2).2⟩
  | false =>
    obtain ⟨c, h1, h2⟩ := hr
    subst h1
    obtain ⟨q1, q2⟩ := hcell c (by simp)
    refine ⟨flatArg c, rfl, ?_⟩
    rcases h2 with rfl | ⟨rfl, h2⟩ | h2
    · exact .inl rfl
    · simp [noPtr] at q1
    · exact .inr (.inr (flatB_rel hZ q1 q2 h2).2)
/-! ### behind the call -/
theorem boxAfter_ok (h : Ok st g fr a w) {w' : World} {g' : Gh} {s b : Nat} {cs outs : List CV} (hs : fr s = .box cs) (hX : g.X s = some b) (hO : g.O b = some (.at s 0 0)) (hos : w'.os = w.os) (htp : w'.tape = w.tape) (hout : w'.output = w.output) (hheap : w.heap.size ≤ w'.heap.size)
    (hold : ∀ b', b' < w.heap.size → b' ≠ b → w'.heap[b']? = w.heap[b']?) (hown : ∀ b' p, g'.O b' = some p → b' < w'.heap.size) (hstab : ∀ b' o, g'.S b' o → b' < w'.heap.size)
    (hbx : ∃ arr ty, w'.heap[b]? = some (.cells arr ty (0, 0)) ∧ arr.toList.length = outs.length ∧ ∀ (j : Nat) (c : CV), outs[j]? = some c → ∃ u : Value, arr.toList[j]? = some u ∧ ∀ p, rel w' (g.after w g') (isBox fr) p c u) :
    Ok st (g.after w g') (upd fr s (.box outs)) a w' := by
  have hbo := h.own b _ hO
  have hne : ∀ b', b' < st.B → ¬ st.M b' → b' ≠ b := fun b' h1 h2 e => by subst e; exact h2 (hbo.2 h1)
  have hc : Chg g (g.after w g') w w' (isBox fr) (isBox fr) (fun p => p ≠ .at s 0 0) (fun _ => True) := {
    cB := rfl, cM := rfl, cZ := rfl
    zS := fun b o hz => (h.zs b o (by rw [← h.eZ]; exact hz)).1
    cbx := fun s hs => hs
    cX := fun s _ => rfl
    cS := fun b' oo hs' => ⟨.inl hs', World.cell?_of_block (w := w) (hold b' (h.stab b' oo hs') fun e => by subst e; exact h.boxS _ s hO oo hs')⟩
    cL := fun b' hl => hold b' (by have := h.heap; have := hl.1; rw [h.eB] at this; omega) (hne b' (h.eB ▸ hl.1) (by rw [← h.eM]; exact hl.2))
    cO := fun b' p hp hO' => by
      have hb := (h.own b' p hO').1
      have hbb : b' ≠ b := fun e => by subst e; rw [hO] at hO'; cases hO'; exact hp rfl
      refine ⟨by simp only [Gh.after]; rw [if_pos hb]; exact hO', hold b' hb hbb, fun oo => ?_⟩
      simp only [Gh.after]
      constructor
      · rintro (e | ⟨e, _⟩)
        · exact e
        · omega
      · exact .inl
    cH := fun s c u _ hu => hu
    cHp := fun s i c hp => rfl }
  have hbxE : isBox (upd fr s (.box outs)) = isBox fr := by
    funext q
    unfold isBox
    by_cases hq : q = s
    · subst hq; rw [upd_same, hs]; rfl
    · rw [upd_ne _ _ _ hq]
  exact {
    eB := h.eB, eM := h.eM, eZ := h.eZ, size := h.size, defers := h.defers, keep := h.keep
    slot := fun q => by
      rw [hbxE]
      by_cases hq : q = s
      · subst hq
        rw [upd_same]
        have hsl := h.slot q
        rw [hs] at hsl
        obtain ⟨_, b', q1, q2⟩ := hsl
        obtain ⟨arr, ty, e1, e2, e3⟩ := hbx
        refine ⟨⟨b, arr, ty, hX, by simp only [Gh.after]; rw [if_pos hbo.1]; exact hO, e1, e2, fun j c hj => ?_⟩, b', q1, q2⟩
        obtain ⟨u, u1, u2⟩ := e3 j c hj
        exact ⟨u, u1, u2 _⟩
      · rw [upd_ne _ _ _ hq]
        exact hc.kSlot (fun i c e => by cases e; exact hq rfl) (fun cs e => by simp [isBox, e, notBox]) (fun _ _ => trivial) (h.slot q)
    os := hos.trans h.os, tape := htp.trans h.tape, output := hout.trans h.output
    heap := Nat.le_trans h.heap hheap
    old := fun b' hb hm => (hold b' (by have := h.heap; omega) (hne b' hb hm)).trans (h.old b' hb hm)
    own := fun b' p hO' => by
      simp only [Gh.after] at hO'
      split at hO'
      · rename_i hb
        have := h.own b' p hO'
        exact ⟨by omega, this.2⟩
      · rename_i hb
        cases hg : g'.O b' with
        | none => rw [hg] at hO'; cases hO'
        | some q => exact ⟨hown b' q hg, fun hlt => by have := h.heap; omega⟩
    stab := fun b' oo hs' => by
      rcases hs' with hs' | ⟨_, hs'⟩
      · have := h.stab b' oo hs'; omega
      · exact hstab b' oo hs'
    boxS := fun b' s' hO' oo hs' => by
      simp only [Gh.after] at hO'
      split at hO'
      · rcases hs' with hs' | ⟨e, _⟩
        · exact h.boxS b' s' hO' oo hs'
        · omega
      · split at hO' <;> cases hO'
    zs := fun b' oo hz => ⟨.inl (h.zs b' oo hz).1, (h.zs b' oo hz).2⟩
    sz := fun b' oo hb hm hs' => by
      rcases hs' with hs' | ⟨e, _⟩
      · exact h.sz b' oo hb hm hs'
      · have := h.heap; omega
    hh := h.hh }
theorem callBox_ok (h : Ok st g fr a w) (hX : Fits X st) {c : Call} (ho : o.op = .call c) {f : Operand} (hc : c.callee = .value f) {fid : FuncId} {caps : List CV} (hf : opc fr f = .fn fid caps) (hcaps : caps.isEmpty = true) {F : Fn} (hF : EntOk P fid F) (hb : F.box = true)
    (hk : callBox X F fr (argsOf fr c.args.toList) o.dst K = some r) : o.wp P a w (Good st K r) Q := by
  obtain rfl : caps = [] := by simpa using hcaps
  obtain ⟨cvs, e1, e2, e3⟩ := call_args h (xs := c.args.toList) hf
  simp only [List.map_nil, List.append_nil] at e2 e3
  have hcv : cvs = [] := by
    have := argsOf_length fr c.args.toList
    rw [List.length_append, List.length_map, this] at e2
    exact List.length_eq_zero_iff.1 (by omega)
  subst hcv
  simp only [List.append_nil] at e2 e3
  generalize hargs : argsOf fr c.args.toList = args at *
  generalize hvals : c.args.toList.map a.eval = vals at *
  unfold callBox at hk
  split at hk
  case h_2 => cases hk
  rename_i s rest
  split at hk
  case h_2 => cases hk
  rename_i cs hs
  obtain ⟨hcond, hk⟩ := bif_someB hk
  simp only [Bool.and_eq_true] at hcond
  obtain ⟨hcs, hrest⟩ := hcond
  generalize hold : (cs.all isOldF && rest.all fun p => p.2.all isOldF) = old at *
  -- the pointer, its box
  obtain ⟨v0, hv0, hr0⟩ := e3 0 _ rfl
  obtain ⟨_, x0, hx0, hr0⟩ := hr0
  simp only [List.cons.injEq, and_true] at hx0
  subst hx0
  obtain ⟨_, b, hXs, rfl⟩ : isBox fr s = true ∧ ∃ b, g.X s = some b ∧ v0 = .pointer (some ⟨b, 0, none⟩) := by
    rcases hr0 with e | ⟨e, _⟩ | e
    · cases e
    · cases e
    · exact e
  have hsl := h.slot s
  rw [hs] at hsl
  obtain ⟨⟨b', arr, ty, q1, hO, q3, q4⟩, _⟩ := hsl
  rw [hXs] at q1
  cases q1
  have hbo := h.own b _ hO
  obtain ⟨vs, hvs⟩ : ∃ vs, vals = .pointer (some ⟨b, 0, none⟩) :: vs := by
    cases vals with
    | nil => simp at hv0
    | cons u vs => simp at hv0; exact ⟨vs, by rw [hv0]⟩
  subst hvs
  let Z : Nat → Nat → Prop := if old = true then g.Z else g.S
  have hZ : ∀ b o, g.Z b o → Z b o := fun b oo hz => by
    simp only [Z]
    split
    · exact hz
    · exact (h.zs b oo (by rw [← h.eZ]; exact hz)).1
  have hZS : ∀ b o, Z b o → g.S b o := fun b oo hz => by
    simp only [Z] at hz
    split at hz
    · exact (h.zs b oo (by rw [← h.eZ]; exact hz)).1
    · exact hz
  have hall : (cs.all isOldF = true ∨ ∀ b o, g.S b o → Z b o) ∧ ((rest.all fun p => p.2.all isOldF) = true ∨ ∀ b o, g.S b o → Z b o) := by
    cases ho : old
    · have : ∀ b o, g.S b o → Z b o := fun b oo hs => by simp only [Z, ho]; exact hs
      exact ⟨.inr this, .inr this⟩
    · rw [ho] at hold
      simp only [Bool.and_eq_true] at hold
      exact ⟨.inl hold.1, .inl hold.2⟩
  have hboxC : ∀ (j : Nat) (x : CV), cs[j]? = some x → ∃ u : Value, arr.toList[j]? = some u ∧ relF w (Gh.calleeB w Z b) (flatArg x) u := fun j x hj => by
    obtain ⟨u, u1, u2⟩ := q4.2 j x hj
    have hx := List.all_eq_true.1 hcs x (List.mem_of_getElem? hj)
    exact ⟨u, u1, (flatB_rel (q := .air 0) hZ (by cases x <;> first | rfl | simp [boxC] at hx) (hall.1.imp (fun h => List.all_eq_true.1 h x (List.mem_of_getElem? hj)) id) u2).1⟩
  have hinit : InitB w Z b (cs.map flatArg) (rest.map fun p => (p.1, p.2.map flatArg)) vs := {
    box := ⟨arr, ty, q3, by rw [List.length_map]; exact q4.1, fun j x hj => by
      rw [List.getElem?_map] at hj
      cases hx : cs[j]? with
      | none => rw [hx] at hj; simp at hj
      | some x' =>
        rw [hx] at hj
        simp at hj
        subst hj
        exact hboxC j x' hx⟩
    len := by simp at e2 ⊢; exact e2
    arg := fun i p hi => by
      rw [List.getElem?_map] at hi
      cases hp : rest[i]? with
      | none => rw [hp] at hi; simp at hi
      | some p' =>
        rw [hp] at hi
        simp at hi
        subst hi
        obtain ⟨v, u1, u2⟩ := e3 (i + 1) p' (by simpa using hp)
        exact ⟨v, by simpa using u1, argB_rel hZ (List.all_eq_true.1 hrest p' (List.mem_of_getElem? hp)) (hall.2.imp (fun h => List.all_eq_true.1 h p' (List.mem_of_getElem? hp)) id) u2 (i + 1)⟩
    zs := fun b' oo hz => ⟨h.stab b' oo (hZS b' oo hz), fun e => by subst e; exact h.boxS _ s hO oo (hZS _ oo hz)⟩ }
  have hcalls := hF.okB hb w Z b _ _ _ _ r hinit hk
  unfold Oper.wp
  rw [run_resolve hc e1 hF.call ho, Oper.upon_enter]
  have hvs : (c.args.map a.eval ++ ([] : List Value).toArray) = (.pointer (some ⟨b, 0, none⟩) :: vs).toArray := by
    rw [← hvals]; apply Array.ext'; simp
  rw [hvs]
  refine hcalls.mono ?_
  rintro e w' ⟨v, rs, outs, g', rfl, hres, hR⟩
  show Good st K r (a.put o.dst v) w'
  cases hlen : (rs ++ [((false, [CV.mbox outs]) : Comp)]).all (fun c => c.2.length.blt 4096)
  · rw [hlen] at hres; simp at hres
  rw [hlen] at hres
  simp only [Bool.not_true, cond_false, List.getLast?_append, List.getLast?_singleton, Option.some_or, List.dropLast_concat] at hres
  obtain ⟨hc2, hres⟩ := bif_someB hres
  simp only [Bool.and_eq_true] at hc2
  obtain ⟨hol, hoc⟩ := hc2
  have hlen' : ∀ p ∈ rs, p.2.length < 4096 := fun p hp => Nat.le_of_ble_eq_true (List.all_eq_true.1 hlen p (List.mem_append_left _ hp))
  have tZ : ∀ b o, g'.Z b o → (if old = true then (g.after w g').Z b o else (g.after w g').S b o) := fun b oo hz => by
    rw [hR.eZ] at hz
    have hz' : Z b oo := hz
    simp only [Z] at hz'
    split
    · rename_i e; rw [if_pos e] at hz'; exact hz'
    · rename_i e; rw [if_neg e] at hz'; exact .inl hz'
  have tS : ∀ b o, g'.S b o → (g.after w g').S b o := fun b' oo hs' => by
    rcases Nat.lt_or_ge b' w.heap.size with hlt | hge
    · exact .inl (hZS b' oo (hR.sz b' oo hlt (hR.stab b' oo hs').2 hs'))
    · exact .inr ⟨hge, hs'⟩
  have tO : ∀ b k, g'.O b = some (.air k) → (g.after w g').O b = some (.air k) ∧ ∀ o, (g.after w g').S b o ↔ g'.S b o := fun b' k hO' => by
    have hge : w.heap.size ≤ b' := by
      rcases Nat.lt_or_ge b' w.heap.size with hlt | hge
      · have := (hR.own b' _ hO').2 hlt
        subst this
        exact (hR.bo k hO').elim
      · exact hge
    refine ⟨by simp only [Gh.after]; rw [if_neg (by omega), hO'], fun oo => ⟨?_, fun hs => .inr ⟨hge, hs⟩⟩⟩
    rintro (hs | ⟨_, hs⟩)
    · have := h.stab b' oo hs; omega
    · exact hs
  have hok := boxAfter_ok (outs := outs.map (resCV old)) h hs hXs hO hR.os hR.tape hR.output hR.heap hR.old (fun b' p hO' => (hR.own b' p hO').1) (fun b' oo hs' => (hR.stab b' oo hs').1) (by
    obtain ⟨arr', ty', x1, x2, x3⟩ := hR.out
    refine ⟨arr', ty', x1, by rw [List.length_map]; exact x2, fun j x hj => ?_⟩
    rw [List.getElem?_map] at hj
    cases hx : outs[j]? with
    | none => rw [hx] at hj; simp at hj
    | some x' =>
      rw [hx] at hj
      simp at hj
      subst hj
      obtain ⟨u, u1, u2⟩ := x3 j x' hx
      exact ⟨u, u1, (relF_res tZ tS u2).2⟩)
  have hbxE : isBox (upd fr s (.box (outs.map (resCV old)))) = isBox fr := by
    funext q
    unfold isBox
    by_cases hq : q = s
    · subst hq; rw [upd_same, hs]; rfl
    · rw [upd_ne _ _ _ hq]
  exact fin_res hX hok hlen' (old := old) (rsv_of tZ tS tO hR.val) (air_of tZ tS tO hR.val) hres
end
end Go.Rv

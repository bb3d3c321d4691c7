/- Boxes, and structs that are built. -/
import Derived.Test.YtlkmjldhhoopcaaRvApp2
namespace Go.Rv
set_option linter.unusedSimpArgs false
set_option linter.unusedVariables false
section
variable {P : Program} {st : St} {g : Gh} {fr : Fr} {a : Act} {w : World} {X : Env} {o : Oper} {R : Type} {K : Fr → Option R} {r : R} {Q : Exit → Act → World → Prop}
def Gh.newBox (g : Gh) (b d : Nat) : Gh := { g with
  O := fun b' => if b' = b then some (.at d 0 0) else match g.O b' with
    | some (.at s i c) => if s = d then none else some (.at s i c)
    | x => x
  H := fun s c => if s = d then none else g.H s c
  X := fun s => if s = d then some b else g.X s }
theorem Chg.newBox (h : Ok st g fr a w) {w' : World} {ob : Obj} (hh : w'.heap = w.heap.push ob) {d : Nat} (hd : notBox (fr d) = true) {cs : List CV} : Chg g (g.newBox w.heap.size d) w w' (isBox fr) (isBox (upd fr d (.box cs))) (notAt d) (fun _ => True) where
  cB := rfl
  cM := rfl
  cZ := rfl
  zS := fun b o hz => (h.zs b o (by rw [← h.eZ]; exact hz)).1
  cbx := fun s hs => by
    unfold isBox at *
    by_cases hsd : s = d
    · subst hsd; rw [upd_same]; rfl
    · rw [upd_ne _ _ _ hsd]; exact hs
  cX := fun s hs => by
    have : s ≠ d := fun e => by subst e; unfold isBox at hs; rw [hd] at hs; cases hs
    simp [Gh.newBox, this]
  cS := fun b o hs => ⟨hs, World.cell?_of_block (w := w) (heap_push_old hh (h.stab b o hs))⟩
  cL := fun b hl => heap_push_old hh (by have := h.heap; have := hl.1; rw [h.eB] at this; omega)
  cO := fun b p hp hO => by
    have hb := (h.own b p hO).1
    refine ⟨?_, heap_push_old hh hb, fun oo => Iff.rfl⟩
    simp only [Gh.newBox]
    rw [if_neg (by omega), hO]
    cases p with
    | air k => rfl
    | «at» s i c => have : s ≠ d := hp; simp [this]
  cH := fun s c u _ hu => by
    simp only [Gh.newBox] at hu
    split at hu
    · cases hu
    · exact hu
  cHp := fun s i c hp => by
    have : s ≠ d := hp
    simp [Gh.newBox, this]
/-- A new box in slot d. -/
theorem newBox_ok (h : Ok st g fr a w) {w' : World} {arr : Array Value} {e : TypeId} (hh : w'.heap = w.heap.push (.cells arr e (0, 0))) (hos : w'.os = w.os) (htp : w'.tape = w.tape) (hout : w'.output = w.output)
    {d : Nat} (hd : d < st.n) (hb : notBox (fr d) = true) (hk : d ∉ st.keep) {cs : List CV} (hl : arr.toList.length = cs.length) (hcs : ∀ (j : Nat) (c : CV), cs[j]? = some c → free c = true ∧ ∃ u : Value, arr.toList[j]? = some u ∧ ∀ p, rel w g (isBox fr) p c u) :
    Ok st (g.newBox w.heap.size d) (upd fr d (.box cs)) (a.put (some d) (.pointer (some ⟨w.heap.size, 0, none⟩))) w' := by
  have hc := Chg.newBox (cs := cs) h hh hb
  have hnew := heap_push_new hh
  exact {
    eB := h.eB, eM := h.eM, eZ := h.eZ
    size := by rw [put_tmps]; simp [h.size]
    defers := h.defers
    slot := fun s => by
      by_cases hs : s = d
      · subst hs
        rw [upd_same, put_getD_same _ (by rw [h.size]; exact hd)]
        refine ⟨⟨w.heap.size, arr, e, by simp [Gh.newBox], by simp [Gh.newBox], hnew, hl, fun j c hj => ?_⟩, w.heap.size, by simp [Gh.newBox], rfl⟩
        obtain ⟨hf, u, q1, q2⟩ := hcs j c hj
        exact ⟨u, q1, rel_place hf (hc.kRel (p := .air 0) trivial (fun _ _ => trivial) (q2 _))⟩
      · rw [upd_ne fr d _ hs, put_getD_ne a _ hs]
        exact hc.kSlot (fun i c => hs) (fun cs' e => by simp [isBox, e, notBox]) (fun _ _ => trivial) (h.slot s)
    keep := fun j hj => by
      have : j ≠ d := fun e => hk (e ▸ hj)
      rw [put_tmps, Array.getElem?_setIfInBounds_ne (Ne.symm this)]
      exact h.keep j hj
    os := hos.trans h.os, tape := htp.trans h.tape, output := hout.trans h.output
    heap := by rw [hh]; simp; have := h.heap; omega
    old := fun b hb hm => (heap_push_old hh (by have := h.heap; omega)).trans (h.old b hb hm)
    own := fun b p hO => by
      simp only [Gh.newBox] at hO
      split at hO
      · rename_i e; subst e
        exact ⟨by rw [hh]; simp, fun hlt => by have := h.heap; omega⟩
      · cases hOb : g.O b with
        | none => rw [hOb] at hO; cases hO
        | some q =>
          have := h.own b q hOb
          exact ⟨by rw [hh]; simp; omega, this.2⟩
    stab := fun b oo hs => by have := h.stab b oo hs; rw [hh]; simp; omega
    boxS := fun b s hO oo hs => by
      have hlt := h.stab b oo hs
      simp only [Gh.newBox] at hO
      rw [if_neg (by omega)] at hO
      cases hOb : g.O b with
      | none => rw [hOb] at hO; cases hO
      | some q =>
        rw [hOb] at hO
        cases q with
        | air k => cases hO
        | «at» s' i c =>
          simp only at hO
          split at hO
          · cases hO
          · cases hO
            exact h.boxS b s hOb oo hs
    zs := h.zs
    sz := h.sz
    hh := fun s c u hu => by
      simp only [Gh.newBox] at hu
      split at hu
      · cases hu
      · exact h.hh s c u hu }
theorem fin_box (hX : Fits X st) (h : Ok st g fr a w) {w' : World} {arr : Array Value} {e : TypeId} (hh : w'.heap = w.heap.push (.cells arr e (0, 0))) (hos : w'.os = w.os) (htp : w'.tape = w.tape) (hout : w'.output = w.output)
    {cs : List CV} (hl : arr.toList.length = cs.length) (hcs : ∀ (j : Nat) (c : CV), cs[j]? = some c → free c = true ∧ ∃ u : Value, arr.toList[j]? = some u ∧ ∀ p, rel w g (isBox fr) p c u)
    {d : Nat} (hf : fin X fr (some d) (.box cs) K = some r) : Good st K r (a.put (some d) (.pointer (some ⟨w.heap.size, 0, none⟩))) w' := by
  simp only [fin] at hf
  cases hs : setD X fr d (.box cs) with
  | none => rw [hs] at hf; cases hf
  | some fr1 =>
    rw [hs] at hf
    obtain ⟨h1, h2, h3, rfl⟩ := setD_some hX hs
    exact ⟨_, _, newBox_ok h hh hos htp hout h1 h2 h3 hl hcs, hf⟩
theorem alloc_ok (hT : TabOk P X) (h : Ok st g fr a w) (hX : Fits X st) {t : TypeId} (ho : o.op = .alloc t) {i : TI} (hi : X.ti t = some i) {d : Nat} (hd : o.dst = some d) (hf : fin X fr (some d) (.box (zeroCV i.ty)) K = some r) : o.wp P a w (Good st K r) Q := by
  obtain ⟨ii, z, e1, e2, e3, e4, e5⟩ := (ti_elem hT hi).ex
  refine wp_value (v := .pointer (some ⟨w.heap.size, 0, none⟩)) (w' := w.alloc (.cells z.cells t)) ?_ ?_
  · simp only [execOp, ho, Instr.alloc, Sem.run_bind]
    simp [zeroValue, typeInfo, e1, e4, newVar, newRow]
  · rw [hd]
    refine fin_box (w' := w.alloc (.cells z.cells t)) (arr := z.cells) (e := t) hX h rfl rfl rfl rfl (by rw [e5, zeroV_length, zeroCV_length]) (fun j c hj => ?_) hf
    obtain ⟨f1, _, u, f2, f3⟩ := zeroCV_rel w g (isBox fr) i.ty j c hj
    exact ⟨f1, u, by rw [e5]; exact f2, f3⟩
theorem box_ok (h : Ok st g fr a w) (hX : Fits X st) {t : TypeId} {x : Operand} (ho : o.op = .box t x) (hs : (opd fr x).1 = true ∨ (opd fr x).2.all sure = true) {d : Nat} (hd : o.dst = some d) (hf : fin X fr (some d) (.box (opd fr x).2) K = some r) : o.wp P a w (Good st K r) Q := by
  have hF := opd_ok h x
  obtain ⟨c1, c2⟩ := comp_cells hF hs
  refine wp_value (v := .pointer (some ⟨w.heap.size, 0, none⟩)) (w' := w.alloc (.cells (a.eval x).cells t)) ?_ ?_
  · simp only [execOp, ho, Instr.box, Sem.run_bind]
    simp [newVar, newRow]
  · rw [hd]
    refine fin_box (w' := w.alloc (.cells (a.eval x).cells t)) (arr := (a.eval x).cells) (e := t) hX h rfl rfl rfl rfl c1 (fun j c hj => ?_) hf
    obtain ⟨u, q1, q2⟩ := c2 j c hj
    exact ⟨List.all_eq_true.1 hF.1 c (List.mem_of_getElem? hj), u, q1, q2⟩
/-! ### build -/
theorem fillCells_some {cs new cs' : List CV} {off : Nat} (h : fillCells cs off new = some cs') : off + new.length ≤ cs.length ∧ cs'.length = cs.length ∧ ∀ j, cs'[j]? = if off ≤ j ∧ j < off + new.length then new[j - off]? else cs[j]? := by
  unfold fillCells at h
  cases hb : (off + new.length).ble cs.length
  · rw [hb] at h; cases h
  · rw [hb] at h
    simp only [cond_true, Option.some.injEq] at h
    have hle := Nat.le_of_ble_eq_true hb
    subst h
    refine ⟨hle, by simp [List.length_take]; omega, fun j => ?_⟩
    by_cases h1 : j < off
    · rw [if_neg (by omega), List.append_assoc, List.getElem?_append_left (by simp [List.length_take]; omega), List.getElem?_take, if_pos h1]
    · by_cases h2 : j < off + new.length
      · rw [if_pos (by omega), List.append_assoc, List.getElem?_append_right (by simp [List.length_take]; omega), List.getElem?_append_left (by simp [List.length_take]; omega)]
        congr 1
        simp [List.length_take]; omega
      · rw [if_neg (by omega), List.getElem?_append_right (by simp [List.length_take]; omega), List.getElem?_drop]
        congr 1
        simp [List.length_take]; omega
theorem air_cells {bx : Nat → Bool} {j : Nat} {p : Comp} {v : Value} (h : ARel w g bx j p v) (hs : p.1 = true ∨ p.2.all sure = true) : v.cells.toList.length = p.2.length ∧ ∀ (k : Nat) (c : CV), p.2[k]? = some c → ∃ u : Value, v.cells.toList[k]? = some u ∧ rel w g bx (.air (j + k)) c u := by
  obtain ⟨b, cs⟩ := p
  cases b with
  | true =>
    obtain ⟨vs, rfl, h1, h2⟩ := h
    refine ⟨by simpa [Value.cells] using h1, fun k c hk => ?_⟩
    obtain ⟨u, e1, e2⟩ := h2 k c hk
    exact ⟨u, by simpa [Value.cells] using e1, e2⟩
  | false =>
    obtain ⟨c, e, h⟩ := h
    subst e
    have hsure : sure c = true := by simpa using hs
    rcases h with rfl | ⟨rfl, _⟩ | h
    · simp [sure] at hsure
    · simp [sure] at hsure
    · have h1 := rel_one h
      have hc : v.cells = #[v] := by cases v <;> first | rfl | simp [Value.oneCell'] at h1
      refine ⟨by simp [hc], fun k c' hk => ?_⟩
      cases k with
      | zero => simp at hk; subst hk; exact ⟨v, by simp [hc], h⟩
      | succ k => simp at hk
theorem buildParts_ok (places : Nat → Option (Nat × Nat)) {offs : List (Nat × Nat × Bool)} (hpl : ∀ i off n g, offs[i]? = some (off, n, g) → places i = some (off, n)) : ∀ (ps : List (Nat × Operand)) {g : Gh} {fr : Fr} (_ : Ok st g fr a w) (cs : List CV) (C : Array Value) {cs' : List CV} {fr1 : Fr},
    C.toList.length = cs.length → (∀ (k : Nat) (c : CV), cs[k]? = some c → ∃ u : Value, C.toList[k]? = some u ∧ rel w g (isBox fr) (.air k) c u) → buildParts fr offs cs ps = some (cs', fr1) →
    ∃ g1 C', Took st a w g g1 fr fr1 ∧ Instr.fill places C (ps.map fun p => (p.1, a.eval p.2)) = some C' ∧ C'.toList.length = cs'.length ∧ ∀ (k : Nat) (c : CV), cs'[k]? = some c → ∃ u : Value, C'.toList[k]? = some u ∧ rel w g1 (isBox fr) (.air k) c u
  | [], g, fr, h, cs, C, cs', fr1, hl, hr, hb => by
    simp only [buildParts] at hb
    cases hb
    exact ⟨g, C, Took.refl h, rfl, hl, hr⟩
  | (i, x) :: ps, g, fr, h, cs, C, cs', fr1, hl, hr, hb => by
    simp only [buildParts] at hb
    cases ho : offs[i]? with
    | none => rw [ho] at hb; cases hb
    | some q =>
      obtain ⟨off, n, gg⟩ := q
      cases ht : takeOpd fr x with
      | mk p fr2 =>
        obtain ⟨b, ws⟩ := p
        rw [ho, ht] at hb
        simp only at hb
        cases hcond : (ws.length.beq n && (b || ws.all sure))
        · rw [hcond] at hb; cases hb
        · rw [hcond] at hb
          simp only [cond_true] at hb
          simp only [Bool.and_eq_true, Bool.or_eq_true] at hcond
          have hn := Nat.eq_of_beq_eq_true hcond.1
          cases hfl : fillCells cs off ws with
          | none => rw [hfl] at hb; cases hb
          | some cs2 =>
            rw [hfl] at hb
            simp only at hb
            obtain ⟨g2, t1, hv⟩ := takeOpd_ok h ht off
            obtain ⟨v1, v2⟩ := air_cells hv (by simpa using hcond.2)
            obtain ⟨f1, f2, f3⟩ := fillCells_some hfl
            have hsz : (a.eval x).cells.size = n := by rw [← Array.length_toList, v1]; exact hn
            have hfold := Great.foldl_set off (a.eval x).cells.toList 0 C
            have hCs : C.size = cs.length := by rw [← hl, Array.length_toList]
            obtain ⟨g3, C', t2, r1, r2, r3⟩ := buildParts_ok places hpl ps t1.ok cs2 (((a.eval x).cells.toList.zipIdx 0).foldl (fun cs (x : Value × Nat) => cs.setIfInBounds (off + x.2) x.1) C) (by
              rw [Array.length_toList, hfold.1, f2, hCs]) (fun k c hk => by
              rw [f3] at hk
              rw [Array.getElem?_toList, hfold.2 k]
              simp only [Nat.add_zero, v1]
              split at hk
              · rename_i hin
                have hlen := (List.getElem?_eq_some_iff.1 hk).1
                rw [if_pos ⟨hin.1, hin.2, by rw [hCs]; omega⟩]
                obtain ⟨u, q1, q2⟩ := v2 (k - off) c hk
                refine ⟨u, q1, ?_⟩
                rw [t1.bx]
                rw [show off + (k - off) = k by omega] at q2
                exact q2
              · rename_i hin
                rw [if_neg (by omega)]
                obtain ⟨u, q1, q2⟩ := hr k c hk
                refine ⟨u, by rw [← Array.getElem?_toList]; exact q1, ?_⟩
                rw [t1.bx]
                exact t1.air _ _ _ q2) hb
            refine ⟨g3, C', t1.trans t2, ?_, r2, fun k c hk => ?_⟩
            · simp only [List.map_cons]
              unfold Instr.fill
              rw [hpl i off n gg ho]
              simp only [hsz]
              rw [if_neg (by
                have : off + n ≤ C.size := by rw [hCs]; omega
                simp; omega)]
              rw [← r1]
              simp only [← Array.foldl_toList, Array.toList_zipIdx]
            · obtain ⟨u, q1, q2⟩ := r3 k c hk
              exact ⟨u, q1, by rw [t1.bx] at q2; exact q2⟩
theorem build_ok (hT : TabOk P X) (h : Ok st g fr a w) (hX : Fits X st) {t : TypeId} {ps : Array (Nat × Operand)} (ho : o.op = .build t ps) {i : TI} (hi : X.ti t = some i) (ha : i.agg = true) {cs : List CV} {fr1 : Fr}
    (hb : buildParts fr i.offs (zeroCV i.ty) ps.toList = some (cs, fr1)) (hf : fin X fr1 o.dst (.comp true cs) K = some r) : o.wp P a w (Good st K r) Q := by
  obtain ⟨ii, z, e1, e2, e3, e4, e5⟩ := (ti_elem hT hi).ex
  obtain ⟨fs, hfs, hff⟩ := ti_struct hT hi ha
  obtain ⟨p1, p2⟩ := fitFields_spec _ _ hff
  have hmap : ∃ places, fs.toList.mapM (fun f => (P.info? f.type).map fun i => (f.offset, i.size)) = some places ∧ ∀ (k off n : Nat) (gg : Bool), i.offs[k]? = some (off, n, gg) → places[k]? = some (off, n) := by
    have gen : ∀ (l : List Field) (os : List (Nat × Nat × Bool)), fitFields P os l = true → ∃ places, l.mapM (fun f => (P.info? f.type).map fun i => (f.offset, i.size)) = some places ∧ ∀ (k off n : Nat) (gg : Bool), os[k]? = some (off, n, gg) → places[k]? = some (off, n) := by
      intro l
      induction l with
      | nil => intro os hfo; cases os with
        | nil => exact ⟨[], rfl, fun k off n gg hk => by simp at hk⟩
        | cons _ _ => simp [fitFields] at hfo
      | cons F l ih =>
        intro os hfo
        cases os with
        | nil => simp [fitFields] at hfo
        | cons q os =>
          obtain ⟨F', i', d', q1, q2, q3, q4, _⟩ := (fitFields_spec _ _ hfo).2 0 q.1 q.2.1 q.2.2 rfl
          simp at q1
          subst q1
          obtain ⟨off, n, gg⟩ := q
          have hfo' : fitFields P os l = true := by simp only [fitFields, Bool.and_eq_true] at hfo; exact hfo.2.2.2
          obtain ⟨pl, r1, r2⟩ := ih os hfo'
          refine ⟨(off, n) :: pl, ?_, fun k off' n' gg' hk => ?_⟩
          · simp only [List.mapM_cons, q3, Option.map_some, r1]
            simp only at q2 q4
            rw [q2, q4]; rfl
          · cases k with
            | zero => simp at hk; obtain ⟨rfl, rfl, rfl⟩ := hk; rfl
            | succ k => simp at hk; simpa using r2 k off' n' gg' hk
    exact gen fs.toList i.offs hff
  obtain ⟨places, m1, m2⟩ := hmap
  obtain ⟨g1, C', t1, f1, f2, f3⟩ := buildParts_ok (fun k => places[k]?) m2 ps.toList h (zeroCV i.ty) z.cells (by rw [e5, zeroV_length, zeroCV_length]) (fun k c hk => by
    obtain ⟨q0, _, u, q1, q2⟩ := zeroCV_rel w g (isBox fr) i.ty k c hk
    exact ⟨u, by rw [e5]; exact q1, q2 _⟩) hb
  have hbuilt : P.built t (ps.map fun (i, x) => (i, a.eval x)).toList = some C' := by
    unfold Program.built
    simp only [e1, hfs, e4, m1]
    rw [Array.toList_map]
    simpa using f1
  refine wp_value (v := .agg C') (w' := w) (by simp only [execOp, ho, Sem.run_bind, run_build w t _ C' hbuilt, Result.andThen_ok, Sem.run_pure]) ?_
  refine fin_land (p := (true, cs)) hX t1.ok ⟨C'.toList, by simp, f2, fun k c hk => ?_⟩ hf
  obtain ⟨u, q1, q2⟩ := f3 k c hk
  exact ⟨u, q1, by rw [t1.bx, Nat.zero_add]; exact q2⟩
end
end Go.Rv

/- Stores. -/
import Derived.Test.YtlkmjldhhoopcaaRvBox
namespace Go.Rv
set_option linter.unusedSimpArgs false
set_option linter.unusedVariables false
section
variable {P : Program} {st : St} {g : Gh} {fr : Fr} {a : Act} {w : World} {X : Env} {o : Oper} {R : Type} {K : Fr → Option R} {r : R} {Q : Exit → Act → World → Prop}
def seg (arr : Array Value) (c : Nat) (vs : List Value) : Array Value := (arr.toList.take c ++ vs ++ arr.toList.drop (c + vs.length)).toArray
theorem seg_size {arr : Array Value} {c : Nat} {vs : List Value} (h : c + vs.length ≤ arr.size) : (seg arr c vs).size = arr.size := by
  simp [seg, List.length_take]; omega
theorem seg_get {arr : Array Value} {c : Nat} {vs : List Value} (h : c + vs.length ≤ arr.size) (j : Nat) : (seg arr c vs)[j]? = if c ≤ j ∧ j < c + vs.length then vs[j - c]? else arr[j]? := by
  have hl : arr.toList.length = arr.size := Array.length_toList
  unfold seg
  rw [List.getElem?_toArray]
  by_cases h1 : j < c
  · rw [if_neg (by omega), List.append_assoc, List.getElem?_append_left (by simp [List.length_take]; omega), List.getElem?_take, if_pos h1, Array.getElem?_toList]
  · by_cases h2 : j < c + vs.length
    · rw [if_pos (by omega), List.append_assoc, List.getElem?_append_right (by simp [List.length_take]; omega), List.getElem?_append_left (by simp [List.length_take]; omega)]
      congr 1
      simp [List.length_take]; omega
    · rw [if_neg (by omega), List.getElem?_append_right (by simp [List.length_take]; omega), List.getElem?_drop, ← Array.getElem?_toList]
      congr 1
      simp [List.length_take]; omega
theorem store_run (hT : TabOk P X) {t : TypeId} {i : TI} (hi : X.ti t = some i) {b c : Nat} {arr : Array Value} {ty : TypeId} (hb : w.heap[b]? = some (.cells arr ty (0, 0))) {v : Value} (hl : v.cells.toList.length = i.ty.cells) (h1 : ∀ u ∈ v.cells.toList, u.oneCell' = true)
    (hfit : c + v.cells.toList.length ≤ arr.size) : (Instr.storeAt t (.pointer (some ⟨b, c, none⟩)) v).run P w = .ok () (w.setRow b (seg arr c v.cells.toList)) := by
  obtain ⟨ii, z, e1, e2, _⟩ := (ti_elem hT hi).ex
  have hsz : (sizeOf t).run P w = .ok ii.size w := by simp [sizeOf, typeInfo, e1]
  have hst := run_storeCells_at P b c ty v.cells.toList 0 arr w hb (by simpa using hfit) h1
  have hs : v.cells.size = ii.size := by rw [e2, ← hl, Array.length_toList]
  simp only [Nat.add_zero] at hst
  simp only [Instr.storeAt, Instr.sureAddr, storeVar, Sem.run_bind, Sem.run_pure, Result.andThen_ok, hsz, hs, ne_eq, not_true_eq_false, if_false, hst]
  rfl
/-! ### into a box -/
def inSeg (c n : Nat) (k : Nat) : Bool := decide (c < k ∧ k ≤ c + n)
theorem boxStore_ok (h : Ok st g fr a w) {s c b : Nat} {cs cs' : List CV} {arr : Array Value} {ty : TypeId} (hs : fr s = .box cs) (hX : g.X s = some b) (hO : g.O b = some (.at s 0 0)) (hb : w.heap[b]? = some (.cells arr ty (0, 0))) (hcr : cellsRel w g (isBox fr) s 0 cs arr.toList)
    {vs : List Value} (hfit : c + vs.length ≤ cs.length) {Hn : Nat → Option Value} (hH : ∀ k u, Hn k = some u → u = .slice none 0 0 ∨ ∃ b n cap, u = .slice (some ⟨b, 0, none⟩) n cap)
    (hm : ∀ q, mentionsS (fr q) s = true → ∀ k, Hn k = none) (hl' : cs'.length = cs.length)
    (hout : ∀ j, ¬ (c ≤ j ∧ j < c + vs.length) → cs'[j]? = cs[j]?) (hin : ∀ (j : Nat) (x : CV), j < vs.length → cs'[c + j]? = some x → ∃ u : Value, vs[j]? = some u ∧ rel w (g.land s c (inSeg c vs.length) Hn) (isBox fr) (.at s 0 (c + j + 1)) x u):
    Ok st (g.land s c (inSeg c vs.length) Hn) (upd fr s (.box cs')) a (w.setRow b (seg arr c vs)) := by
  have harr : arr.size = cs.length := by rw [← Array.length_toList]; exact hcr.1
  have hown := h.own b _ hO
  have hne : ∀ b', b' < st.B → ¬ st.M b' → b' ≠ b := fun b' h1 h2 e => by subst e; exact h2 (hown.2 h1)
  have hnew := setRow_heap w b arr (seg arr c vs) ty (0, 0) hb
  have hoth := fun b' hb' => setRow_other w b b' (seg arr c vs) hb'
  have hbx : isBox (upd fr s (.box cs')) = isBox fr := by
    funext q
    unfold isBox
    by_cases hq : q = s
    · subst hq; rw [upd_same, hs]; rfl
    · rw [upd_ne _ _ _ hq]
  have hD0 : inSeg c vs.length 0 = false := by simp [inSeg]
  have hc : Chg g (g.land s c (inSeg c vs.length) Hn) w (w.setRow b (seg arr c vs)) (isBox fr) (isBox fr) (fun p => keptAt s (inSeg c vs.length) p ∧ p ≠ .at s 0 0) (fun q => q = s → ∀ k, Hn k = none) := {
    cB := rfl, cM := rfl, cZ := rfl
    zS := fun b o hz => (h.zs b o (by rw [← h.eZ]; exact hz)).1
    cbx := fun s hs => hs
    cX := fun s _ => rfl
    cS := fun b' oo hs' => ⟨hs', World.cell?_of_block (w := w) (hoth b' (fun e => by subst e; exact h.boxS _ s hO oo hs'))⟩
    cL := fun b' hl => hoth b' (hne b' (by rw [← h.eB]; exact hl.1) (by rw [← h.eM]; exact hl.2))
    cO := fun b' p hp hO' => by
      have hbb : b' ≠ b := fun e => by subst e; rw [hO] at hO'; cases hO'; exact hp.2 rfl
      obtain ⟨q1, _, q3⟩ := (Chg.land h s c (inSeg c vs.length) Hn (isBox fr)).cO b' p hp.1 hO'
      exact ⟨q1, hoth b' hbb, q3⟩
    cH := (Chg.land h s c (inSeg c vs.length) Hn (isBox fr)).cH
    cHp := fun q i k hp => (Chg.land h s c (inSeg c vs.length) Hn (isBox fr)).cHp q i k hp.1 }
  have hmove : ∀ {p : Place} {x : CV} {u : Value}, p ≠ .at s 0 0 → rel w (g.land s c (inSeg c vs.length) Hn) (isBox fr) p x u → rel (w.setRow b (seg arr c vs)) (g.land s c (inSeg c vs.length) Hn) (isBox fr) p x u := by
    intro p x u hp hr
    -- from the landed ghost to itself, over the write
    have hc2 : Chg (g.land s c (inSeg c vs.length) Hn) (g.land s c (inSeg c vs.length) Hn) w (w.setRow b (seg arr c vs)) (isBox fr) (isBox fr) (fun p => p ≠ .at s 0 0) (fun _ => True) := {
      cB := rfl, cM := rfl, cZ := rfl
      zS := hc.zS
      cbx := fun s hs => hs
      cX := fun s _ => rfl
      cS := fun b' oo hs' => ⟨hs', (hc.cS b' oo hs').2⟩
      cL := fun b' hl => hc.cL b' hl
      cO := fun b' p hp hO' => by
        have hbb : b' ≠ b := fun e => by
          subst e
          have : (g.land s c (inSeg c vs.length) Hn).O b' = some (.at s 0 0) := by simp [Gh.land, hO, hD0]
          rw [this] at hO'; cases hO'; exact hp rfl
        exact ⟨hO', hoth b' hbb, fun _ => Iff.rfl⟩
      cH := fun _ _ _ _ hu => hu
      cHp := fun _ _ _ _ => rfl }
    exact hc2.kRel hp (fun _ _ => trivial) hr
  exact {
    eB := h.eB, eM := h.eM, eZ := h.eZ, size := h.size, defers := h.defers, keep := h.keep
    slot := fun q => by
      rw [hbx]
      by_cases hq : q = s
      · subst hq
        rw [upd_same]
        have hsl := h.slot q
        rw [hs] at hsl
        obtain ⟨_, b', q1, q2⟩ := hsl
        refine ⟨⟨b, _, ty, hX, by simp [Gh.land, hO, hD0], hnew, by rw [Array.length_toList, seg_size (by rw [harr]; exact hfit), harr, hl'], fun j x hj => ?_⟩, b', q1, q2⟩
        rw [Array.getElem?_toList, seg_get (by rw [harr]; exact hfit)]
        by_cases hjs : c ≤ j ∧ j < c + vs.length
        · rw [if_pos hjs]
          have hj' : cs'[c + (j - c)]? = some x := by rw [show c + (j - c) = j by omega]; exact hj
          obtain ⟨u, e1, e2⟩ := hin (j - c) x (by omega) hj'
          refine ⟨u, e1, ?_⟩
          rw [show c + (j - c) + 1 = j + 1 by omega] at e2
          exact hmove (by simp) e2
        · rw [if_neg hjs]
          rw [hout j hjs] at hj
          obtain ⟨u, e1, e2⟩ := hcr.2 j x hj
          refine ⟨u, by rw [← Array.getElem?_toList]; exact e1, hc.kRel ⟨?_, by simp⟩ (fun q' hq' e => ?_) e2⟩
          · intro e
            have := e.2
            simp only [inSeg, decide_eq_true_eq] at this
            omega
          · subst e
            exact hm q' (by rw [hs]; exact cellsM_of hj hq')
      · rw [upd_ne _ _ _ hq]
        exact hc.kSlot (fun i k => ⟨fun e => hq e.1, fun e => by cases e; exact hq rfl⟩) (fun cs e => by simp [isBox, e, notBox]) (fun q' hq' e => by subst e; exact hm q hq') (h.slot q)
    os := h.os, tape := h.tape, output := h.output
    heap := by simpa using h.heap
    old := fun b' hb' hm' => (hoth b' (hne b' hb' hm')).trans (h.old b' hb' hm')
    own := fun b' p hO' => by simpa using land_own_field h b' p hO'
    stab := fun b' oo hs' => by simpa using h.stab b' oo hs'
    boxS := land_box h
    zs := h.zs
    sz := h.sz
    hh := fun q k u hu => by
      simp only [Gh.land] at hu
      split at hu
      · exact hH k u hu
      · exact h.hh q k u hu }
theorem scalar_rel {g' : Gh} {bx bx' : Nat → Bool} {p q : Place} : ∀ {c : CV} {v : Value}, isScalar c = true → rel w g bx p c v → rel w g' bx' q c v
  | .int _ _, _, _, h => h
  | .bool _, _, _, h => h
  | .str _, _, _, h => h
  | .dead, _, h, _ => by simp [isScalar] at h
  | .undef, _, h, _ => by simp [isScalar] at h
  | .nils, _, h, _ => by simp [isScalar] at h
  | .lo _ _, _, h, _ => by simp [isScalar] at h
  | .hi _ _, _, h, _ => by simp [isScalar] at h
  | .own _ _, _, h, _ => by simp [isScalar] at h
  | .tmpo _ _, _, h, _ => by simp [isScalar] at h
  | .ref _ _ _ _, _, h, _ => by simp [isScalar] at h
  | .ptr _ _, _, h, _ => by simp [isScalar] at h
  | .rptr _, _, h, _ => by simp [isScalar] at h
  | .hptr _, _, h, _ => by simp [isScalar] at h
  | .eptr _ _ _ _ _ _, _, h, _ => by simp [isScalar] at h
  | .fn _ _, _, h, _ => by simp [isScalar] at h
  | .mbox _, _, h, _ => by simp [isScalar] at h
theorem scalar_own {c : CV} (h : isScalar c = true) : toOwn c = c := by cases c <;> first | rfl | simp [isScalar] at h
theorem scalar_sure {c : CV} (h : isScalar c = true) : sure c = true := by cases c <;> first | rfl | simp [isScalar] at h
theorem plain_rel {g' : Gh} (hS : g'.S = g.S) (hZ : g'.Z = g.Z) {bx bx' : Nat → Bool} {p q : Place} : ∀ {c : CV} {v : Value}, isPlain c = true → rel w g bx p c v → rel w g' bx' q c v
  | .int _ _, _, _, h => h
  | .bool _, _, _, h => h
  | .str _, _, _, h => h
  | .nils, _, _, h => h
  | .lo t xs, v, _, h => by
    show RS w g'.Z t xs v
    rw [hZ]; exact h
  | .hi t xs, v, _, h => by
    show RS w g'.S t xs v
    rw [hS]; exact h
  | .dead, _, h, _ => by simp [isPlain] at h
  | .undef, _, h, _ => by simp [isPlain] at h
  | .own _ _, _, h, _ => by simp [isPlain] at h
  | .tmpo _ _, _, h, _ => by simp [isPlain] at h
  | .ref _ _ _ _, _, h, _ => by simp [isPlain] at h
  | .ptr _ _, _, h, _ => by simp [isPlain] at h
  | .rptr _, _, h, _ => by simp [isPlain] at h
  | .hptr _, _, h, _ => by simp [isPlain] at h
  | .eptr _ _ _ _ _ _, _, h, _ => by simp [isPlain] at h
  | .fn _ _, _, h, _ => by simp [isPlain] at h
  | .mbox _, _, h, _ => by simp [isPlain] at h
theorem plain_own {c : CV} (h : isPlain c = true) : toOwn c = c := by cases c <;> first | rfl | simp [isPlain] at h
theorem plain_sure {c : CV} (h : isPlain c = true) : sure c = true := by cases c <;> first | rfl | simp [isPlain] at h
theorem storePtr_ok (hT : TabOk P X) (h : Ok st g fr a w) (hX : Fits X st) {t : TypeId} {p x : Operand} (ho : o.op = .store t p x) {i : TI} (hi : X.ti t = some i) {gg : Bool} {ws : List CV} {fr1 : Fr} (ht : takeOpd fr x = ((gg, ws), fr1)) (hl : ws.length = i.ty.cells)
    {s c : Nat} (hp : opc fr p = .ptr s c) {fr2 : Fr} (hs : store X.dr (.ptr s c) gg ws fr1 = some fr2) (hd : o.dst = none) (hf : K fr2 = some r) : o.wp P a w (Good st K r) Q := by
  obtain ⟨g1, t1, hv⟩ := takeOpd_ok h ht 0
  rw [← t1.bx] at hv
  obtain ⟨hb1, b, hb2, hpv⟩ := (opc_rel h hp (by simp) (by simp)).2
  simp only [store] at hs
  cases hfs : fr1 s <;> rw [hfs] at hs <;> simp only at hs <;> first | (cases hs; done) | skip
  rename_i cs
  cases hdr : X.dr
  case true =>
    rw [hdr] at hs
    simp only [cond_true] at hs
    obtain ⟨hsu, hs⟩ : (gg || ws.all sure) = true ∧ (match fillCells cs c ws with | some cs' => some (upd fr1 s (.box cs')) | none => none) = some fr2 := by
      cases hq : (gg || ws.all sure)
      · rw [hq] at hs; cases hs
      · rw [hq] at hs; exact ⟨rfl, hs⟩
    have hsure : gg = true ∨ ws.all sure = true := by simpa using hsu
    cases hfl : fillCells cs c ws with
    | none => rw [hfl] at hs; cases hs
    | some cs' =>
    rw [hfl] at hs
    simp only [Option.some.injEq] at hs
    subst hs
    obtain ⟨f1, f2, f3⟩ := fillCells_some hfl
    have hsl := t1.ok.slot s
    rw [hfs] at hsl
    obtain ⟨⟨b', arr, ty, q1, q2, q3, q4⟩, _⟩ := hsl
    have hbb : b' = b := by rw [t1.X, hb2] at q1; exact (Option.some.inj q1).symm
    subst hbb
    have harr : arr.size = cs.length := by rw [← Array.length_toList]; exact q4.1
    obtain ⟨v1, v2⟩ := air_cells hv hsure
    simp only at v1 v2
    have hone : ∀ u ∈ (a.eval x).cells.toList, u.oneCell' = true := fun u hu => by
      obtain ⟨k, hk, rfl⟩ := List.getElem_of_mem hu
      obtain ⟨u', e1, e2⟩ := v2 k _ (List.getElem?_eq_getElem (by rw [← v1]; exact hk))
      rw [List.getElem?_eq_getElem hk] at e1
      simp only [Option.some.injEq] at e1
      rw [e1]; exact rel_one e2
    have hrun := store_run (P := P) hT hi q3 (v := a.eval x) (c := c) (by rw [v1, hl]) hone (by rw [v1, harr]; exact f1)
    refine wp_skipped (w' := w.setRow b' (seg arr c (a.eval x).cells.toList)) (by simp only [execOp, ho, hpv, Sem.run_bind, hrun, Result.andThen_ok, Sem.run_pure]) ?_
    rw [hd]
    show Good st K r a _
    refine ⟨_, _, boxStore_ok (Hn := fun _ => none) t1.ok hfs q1 q2 q3 q4 (cs' := cs') (vs := (a.eval x).cells.toList) (by rw [v1]; exact f1) (fun k u hu => by cases hu) (fun q _ k => rfl) f2 (fun j hj => by rw [f3, if_neg (by rw [v1] at hj; exact hj)]) (fun j y hj hy => ?_), hf⟩
    rw [f3, if_pos (by rw [v1] at hj; omega), show c + j - c = j by omega] at hy
    obtain ⟨u, e1, e2⟩ := v2 j y hy
    refine ⟨u, e1, ?_⟩
    rw [Nat.zero_add] at e2
    exact land_rel t1.ok (d := s) (lo := c) (k := j) (by simp only [inSeg, decide_eq_true_eq]; omega) rfl (fun _ _ => rfl) e2
  rw [hdr] at hs
  simp only [cond_false] at hs
  cases hfl : fillCells cs c (ws.map toOwn) with
  | none => rw [hfl] at hs; cases hs
  | some cs' =>
    rw [hfl] at hs
    simp only at hs
    obtain ⟨f1, f2, f3⟩ := fillCells_some hfl
    rw [List.length_map] at f1 f3
    have hsl := t1.ok.slot s
    rw [hfs] at hsl
    obtain ⟨⟨b', arr, ty, q1, q2, q3, q4⟩, _⟩ := hsl
    have hbb : b' = b := by rw [t1.X, hb2] at q1; exact (Option.some.inj q1).symm
    subst hbb
    have harr : arr.size = cs.length := by rw [← Array.length_toList]; exact q4.1
    have hsure : gg = true ∨ ws.all sure = true := by
      cases hsc : ws.all isPlain
      · rw [hsc] at hs
        simp only [cond_false] at hs
        cases hgs : (gg || ws.all sure)
        · rw [hgs] at hs; cases hs
        · simpa using hgs
      · refine .inr ?_
        rw [List.all_eq_true] at hsc ⊢
        exact fun c hc => plain_sure (hsc c hc)
    obtain ⟨v1, v2⟩ := air_cells hv hsure
    simp only at v1 v2
    have hone : ∀ u ∈ (a.eval x).cells.toList, u.oneCell' = true := fun u hu => by
      obtain ⟨k, hk, rfl⟩ := List.getElem_of_mem hu
      obtain ⟨u', e1, e2⟩ := v2 k _ (List.getElem?_eq_getElem (by rw [← v1]; exact hk))
      rw [List.getElem?_eq_getElem hk] at e1
      simp only [Option.some.injEq] at e1
      rw [e1]; exact rel_one e2
    have hrun := store_run (P := P) hT hi q3 (v := a.eval x) (c := c) (by rw [v1, hl]) hone (by rw [v1, harr]; exact f1)
    refine wp_skipped (w' := w.setRow b' (seg arr c (a.eval x).cells.toList)) (by simp only [execOp, ho, hpv, Sem.run_bind, hrun, Result.andThen_ok, Sem.run_pure]) ?_
    rw [hd]
    show Good st K r a _
    have hout : ∀ j, ¬ (c ≤ j ∧ j < c + (a.eval x).cells.toList.length) → cs'[j]? = cs[j]? := fun j hj => by
      rw [f3, if_neg (by rw [v1] at hj; exact hj)]
    have hinx : ∀ (j : Nat) (y : CV), j < (a.eval x).cells.toList.length → cs'[c + j]? = some y → ∃ z, ws[j]? = some z ∧ y = toOwn z := fun j y hj hy => by
      rw [f3, if_pos (by rw [v1] at hj; omega), show c + j - c = j by omega, List.getElem?_map] at hy
      cases hz : ws[j]? with
      | none => rw [hz] at hy; simp at hy
      | some z => rw [hz] at hy; simp at hy; exact ⟨z, rfl, hy.symm⟩
    cases hsc : ws.all isPlain
    · rw [hsc] at hs
      simp only [cond_false] at hs
      have hgs : (gg || ws.all sure) = true := by simpa using hsure
      rw [hgs] at hs
      simp only [cond_true, Option.some.injEq] at hs
      subst hs
      have h0 := t1.ok.dem s
      let Hn : Nat → Option Value := fun k => match ws[k - (c + 1)]? with
        | some (.tmpo _ _) => (a.eval x).cells.toList[k - (c + 1)]?
        | _ => none
      have hbd : isBox (dem s fr1) = isBox fr1 := isBox_dem s fr1
      have hdem : dem s fr1 s = .box (cs.map (dem1 s)) := by unfold dem; rw [hfs]; rfl
      have hcr : cellsRel w g1 (isBox (dem s fr1)) s 0 (cs.map (dem1 s)) arr.toList := by rw [hbd]; exact cells_dem q4
      refine ⟨_, _, boxStore_ok (Hn := Hn) h0 hdem q1 q2 q3 hcr (cs' := cs'.map (dem1 s)) (vs := (a.eval x).cells.toList) (by rw [List.length_map, v1]; exact f1) (fun k u hu => ?_) (fun q hq => ?_) (by simp [f2]) (fun j hj => ?_) (fun j y hj hy => ?_), hf⟩
      · simp only [Hn] at hu
        split at hu
        · rename_i tt xs hk
          obtain ⟨u', e1, e2⟩ := v2 _ _ hk
          rw [e1] at hu; cases hu
          exact e2.1.head
        · cases hu
      · have : mentionsS (demS s (fr1 q)) s = true := hq
        rw [demS_mentions] at this; cases this
      · rw [List.getElem?_map, List.getElem?_map, hout j hj]
      · rw [List.getElem?_map] at hy
        cases hy' : cs'[c + j]? with
        | none => rw [hy'] at hy; simp at hy
        | some y' =>
          rw [hy'] at hy
          simp at hy
          subst hy
          obtain ⟨z, z1, rfl⟩ := hinx j y' hj hy'
          obtain ⟨u, e1, e2⟩ := v2 j z z1
          refine ⟨u, e1, ?_⟩
          rw [Nat.zero_add] at e2
          rw [hbd]
          have hD : inSeg c (a.eval x).cells.toList.length (c + j + 1) = true := by
            simp only [inSeg, decide_eq_true_eq]; omega
          by_cases hto : ∃ t xs, z = .tmpo t xs
          · have hn : Hn (c + j + 1) = some u := by
              obtain ⟨tt, xs, rfl⟩ := hto
              simp only [Hn]
              rw [show c + j + 1 - (c + 1) = j by omega, z1]
              simp only [e1]
            exact dem1_rel (land_toOwn h0 (d := s) (lo := c) (k := j) (Hn := Hn) hD hn hto e2)
          · have hto' : toOwn z = z := by cases z <;> first | rfl | exact absurd ⟨_, _, rfl⟩ hto
            rw [hto']
            have hn : Hn (c + j + 1) = none := by
              simp only [Hn]
              rw [show c + j + 1 - (c + 1) = j by omega, z1]
              cases z <;> first | rfl | exact absurd ⟨_, _, rfl⟩ hto
            exact land_rel h0 (d := s) (lo := c) (k := j) (Hn := Hn) hD hn (fun hm => by rw [dem1_mentions] at hm; cases hm) (dem1_rel (s := s) e2)
    · rw [hsc] at hs
      simp only [cond_true, Option.some.injEq] at hs
      subst hs
      refine ⟨_, _, boxStore_ok (Hn := fun _ => none) t1.ok hfs q1 q2 q3 q4 (cs' := cs') (vs := (a.eval x).cells.toList) (by rw [v1]; exact f1) (fun k u hu => by cases hu) (fun q _ k => rfl) f2 hout (fun j y hj hy => ?_), hf⟩
      obtain ⟨z, z1, rfl⟩ := hinx j y hj hy
      obtain ⟨u, e1, e2⟩ := v2 j z z1
      have hz := List.all_eq_true.1 hsc z (List.mem_of_getElem? z1)
      exact ⟨u, e1, by rw [plain_own hz]; refine plain_rel (g := g1) ?_ ?_ hz e2 <;> rfl⟩
end
end Go.Rv

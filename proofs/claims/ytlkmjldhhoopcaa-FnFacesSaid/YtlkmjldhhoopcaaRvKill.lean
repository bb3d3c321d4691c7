/- Stores into elements. -/
import Derived.Test.YtlkmjldhhoopcaaRvStore
namespace Go.Rv
set_option linter.unusedSimpArgs false
set_option linter.unusedVariables false
/-- a change of rows of some owners -/
structure Kld (g g' : Gh) (w w' : World) (bx bx' : Nat → Bool) (P : Place → Prop) : Prop where
  kB : g'.B = g.B
  kM : g'.M = g.M
  kZ : g'.Z = g.Z
  kbx : ∀ s, bx s = true → bx' s = true
  kX : ∀ s, bx s = true → g'.X s = g.X s
  kZc : ∀ b o, g.Z b o → w'.cell? ⟨b, o, none⟩ = w.cell? ⟨b, o, none⟩
  kL : ∀ b, g.L b → w'.heap[b]? = w.heap[b]?
  kO : ∀ b p, P p → g.O b = some p → g'.O b = some p ∧ w'.heap[b]? = w.heap[b]? ∧ ∀ o, g'.S b o ↔ g.S b o
  kH : ∀ s i c, P (.at s i c) → g'.H s c = g.H s c
section
variable {g g' : Gh} {w w' : World} {bx bx' : Nat → Bool} {Pl : Place → Prop}
theorem Kld.relF (h : Kld g g' w w' bx bx' Pl) : ∀ {c : CV} {v : Value}, relF w g c v → relF w' g' (killF c) v
  | .dead, _, hr => hr
  | .int _ _, _, hr => hr
  | .bool _, _, hr => hr
  | .str _, _, hr => hr
  | .nils, _, hr => hr
  | .lo _ _, _, hr => rep_mono (fun b o hz => ⟨by rw [h.kZ]; exact hz, h.kZc b o hz⟩) hr
  | .hi t xs, v, hr => relF_one (w := w) (g := g) (c := .hi t xs) hr
theorem Kld.own (h : Kld g g' w w' bx bx' Pl) {p : Place} (hp : Pl p) {t : Ty} (hf : t.flat = true) {xs : List (Den t)} {v : Value} (hr : OwnR w g p t xs v) : OwnR w' g' p t xs v := by
  rcases hr with e | ⟨b, cap, cur, e, h1, h2, h3, h4, h5, h6, h7, h8⟩
  · exact .inl e
  · obtain ⟨o1, o2, o3⟩ := h.kO b p hp h2
    refine .inr ⟨b, cap, cur, e, h1, o1, by rw [o2]; exact h3, h4, h5, h6, fun i x hi => ?_, fun o => by rw [o3, h8]⟩
    obtain ⟨ecs, e1, e2⟩ := h7 i x hi
    exact ⟨ecs, rep_flat hf e1, e2⟩
theorem Kld.rel (h : Kld g g' w w' bx bx' Pl) {p : Place} (hp : Pl p) : ∀ {c : CV} {v : Value}, rel w g bx p c v → rel w' g' bx' p (kill1 c) v
  | .own t xs, v, hr => by
    simp only [kill1]
    cases hf : t.flat
    · exact OwnR_one hr.1
    · refine ⟨h.own hp hf hr.1, ?_⟩
      have h2 := hr.2
      cases p with
      | air j => exact h2
      | «at» s i c => exact ⟨h2.1, by rw [h.kH s i c hp]; exact h2.2⟩
  | .tmpo t xs, v, hr => by
    simp only [kill1]
    cases hf : t.flat
    · exact OwnR_one hr.1
    · refine ⟨h.own hp hf hr.1, ?_⟩
      have h2 := hr.2
      cases p with
      | air j => trivial
      | «at» s i c =>
        show g'.H s c = none
        rw [h.kH s i c hp]; exact h2
  | .ref s c t xs, v, hr => rel_one (c := .ref s c t xs) (w := w) (g := g) (bx := bx) (p := p) hr
  | .fn f caps, v, hr => by
    simp only [kill1]
    cases hc : caps.isEmpty
    · exact rel_one (c := .fn f caps) (w := w) (g := g) (bx := bx) (p := p) hr
    · obtain ⟨cs, h1, h2, h3⟩ := hr
      have : caps = [] := by simpa using hc
      subst this
      exact ⟨cs, h1, h2, fun j c hj => by simp at hj⟩
  | .ptr s c, v, hr => by obtain ⟨h1, b, h2, h3⟩ := hr; exact ⟨h.kbx s h1, b, by rw [h.kX s h1]; exact h2, h3⟩
  | .rptr cs, v, hr => by
    obtain ⟨ad, h1, h2, h3⟩ := hr
    refine ⟨ad, h1, h2, fun j c hj => ?_⟩
    rw [List.getElem?_map] at hj
    cases hc : cs[j]? with
    | none => rw [hc] at hj; simp at hj
    | some c' =>
      rw [hc] at hj
      simp at hj
      subst hj
      obtain ⟨hl, u, e1, e2⟩ := h3 j c' hc
      exact ⟨by unfold Gh.L at *; rw [h.kB, h.kM]; exact hl, u, (World.cell?_of_block (w := w) (a := ⟨ad.block, ad.off + j, none⟩) (h.kL _ hl)).trans e1, h.relF e2⟩
  | .hptr cs, v, hr => rel_one (c := .hptr cs) (w := w) (g := g) (bx := bx) (p := p) hr
  | .eptr s c t i k cs, v, hr => rel_one (c := .eptr s c t i k cs) (w := w) (g := g) (bx := bx) (p := p) hr
  | .dead, _, hr => hr
  | .int k n, _, hr => hr
  | .bool b, _, hr => hr
  | .str s, _, hr => hr
  | .nils, _, hr => hr
  | .lo t xs, _, hr => rep_mono (fun b o hz => ⟨by rw [h.kZ]; exact hz, h.kZc b o hz⟩) hr
  | .hi t xs, v, hr => rel_one (c := .hi t xs) (w := w) (g := g) (bx := bx) (p := p) hr
theorem Kld.cells (h : Kld g g' w w' bx bx' Pl) {s i : Nat} (hp : ∀ c, Pl (.at s i (c + 1))) {cs : List CV} {vs : List Value} (hr : cellsRel w g bx s i cs vs) : cellsRel w' g' bx' s i (cs.map kill1) vs := by
  refine ⟨by simpa using hr.1, fun j c hj => ?_⟩
  rw [List.getElem?_map] at hj
  cases hc : cs[j]? with
  | none => rw [hc] at hj; simp at hj
  | some c' =>
    rw [hc] at hj
    simp at hj
    subst hj
    obtain ⟨u, e1, e2⟩ := hr.2 j c' hc
    exact ⟨u, e1, h.rel (hp j) e2⟩
theorem Kld.comp (h : Kld g g' w w' bx bx' Pl) {s i : Nat} (hp : ∀ c, Pl (.at s i (c + 1))) : ∀ {p : Comp} {v : Value}, CRel w g bx s i p v → CRel w' g' bx' s i (p.1, p.2.map kill1) v
  | (true, cs), v, hr => by obtain ⟨vs, h1, h2⟩ := hr; exact ⟨vs, h1, h.cells hp h2⟩
  | (false, cs), v, hr => by
    obtain ⟨c, h1, h2⟩ := hr
    subst h1
    refine ⟨kill1 c, rfl, ?_⟩
    rcases h2 with rfl | ⟨rfl, h2⟩ | h2
    · exact .inl rfl
    · exact .inr (.inl ⟨rfl, h2⟩)
    · exact .inr (.inr (h.rel (hp 0) h2))
theorem Kld.slot (h : Kld g g' w w' bx bx' Pl) {s : Nat} (hp : ∀ c, Pl (.at s 0 c)) : ∀ {x : SV} {v : Value}, (∀ cs, x = .box cs → bx s = true) → SRel w g bx s x v → SRel w' g' bx' s (killS x) v
  | .comp b cs, v, _, hr => h.comp (p := (b, cs)) (fun c => hp _) hr
  | .tup vs, v, _, hr => ⟨.dead, rfl, .inl rfl⟩
  | .box cs, v, hb, hr => by
    obtain ⟨⟨b, arr, ty, h1, h2, h3, h4⟩, b', h5, h6⟩ := hr
    have hbx := hb cs rfl
    obtain ⟨o1, o2, _⟩ := h.kO b _ (hp 0) h2
    exact ⟨⟨b, arr, ty, by rw [h.kX s hbx]; exact h1, o1, by rw [o2]; exact h3, h.cells (fun c => hp _) h4⟩, b', by rw [h.kX s hbx]; exact h5, h6⟩
end
theorem isBox_kill (fr : Fr) : isBox (kill fr) = isBox fr := by
  funext j
  unfold isBox kill
  cases fr j <;> rfl
section
variable {P : Program} {st : St} {g : Gh} {fr : Fr} {a : Act} {w : World} {X : Env} {o : Oper} {R : Type} {K : Fr → Option R} {r : R} {Q : Exit → Act → World → Prop}
theorem unpack_length (old : Bool) : ∀ (t : Ty) (x : Den t), (unpack old t x).length = t.cells
  | .int _, _ => rfl
  | .bool, _ => rfl
  | .str, _ => rfl
  | .sl _, _ => rfl
  | .pair a b, x => by simp [unpack, Ty.cells, unpack_length old a x.1, unpack_length old b x.2]
theorem setElem_rel (h : Ok st g fr a w) {t : Ty} (hfl : t.flat = true) {x y : Den t} {k : Nat} {new : List CV} (hs : setElem t x k new = some y) {ecs : List Value} (hr : rep w g.S t x ecs) {vs : List Value} (hvl : vs.length = new.length)
    (hv : ∀ (j : Nat) (c : CV), new[j]? = some c → ∃ u : Value, vs[j]? = some u ∧ isScalar c = true ∧ rel w g (isBox fr) (.air 0) c u) :
    k + new.length ≤ t.cells ∧ rep w g.S t y (seg ecs.toArray k vs).toList := by
  unfold setElem at hs
  cases hfi : fillCells (unpack false t x) k new with
  | none => rw [hfi] at hs; cases hs
  | some cs =>
    rw [hfi] at hs
    simp only at hs
    split at hs
    · rename_i y' hp
      cases hs
      obtain ⟨f1, f2, f3⟩ := fillCells_some hfi
      have hl := unpack_length false t x
      have hel := rep_length hr
      have hfit : k + vs.length ≤ ecs.toArray.size := by simp only [List.size_toArray, hel, hvl]; omega
      have hsl : (seg ecs.toArray k vs).toList.length = cs.length := by
        rw [Array.length_toList, seg_size hfit, f2, hl]; simpa using hel
      obtain ⟨p1, p2, p3⟩ := pack_rel h t cs (seg ecs.toArray k vs).toList _ [] hsl (fun j c hj => by
        rw [f3] at hj
        rw [Array.getElem?_toList, seg_get hfit]
        rw [hvl]
        split at hj
        · rename_i hin
          rw [if_pos hin]
          obtain ⟨u, e1, e2, e3⟩ := hv _ c hj
          exact ⟨u, e1, .air 0, e3⟩
        · rename_i hin
          rw [if_neg hin]
          obtain ⟨u, e1, e2⟩ := unpack_rel (g := g) false (.inr ⟨rfl, rfl⟩) t x ecs hr j c hj
          exact ⟨u, by simpa using e1, .air 0, rel_of_relF e2⟩) hp
      refine ⟨by rw [← hl]; exact f1, ?_⟩
      rw [List.take_of_length_le (by rw [hsl, f2, hl]; omega)] at p3
      exact p3
    · cases hs
theorem storeElem_ok (hT : TabOk P X) (h : Ok st g fr a w) (hX : Fits X st) {t : TypeId} {p x : Operand} (ho : o.op = .store t p x) {i : TI} (hi : X.ti t = some i) {gg : Bool} {ws : List CV} {fr1 : Fr} (ht : takeOpd fr x = ((gg, ws), fr1)) (hl : ws.length = i.ty.cells)
    {s c : Nat} {u : Ty} {ix : Int} {k : Nat} {ecs0 : List CV} (hp : opc fr p = .eptr s c u ix k ecs0) {fr2 : Fr} (hs : store X.dr (.eptr s c u ix k ecs0) gg ws fr1 = some fr2) (hd : o.dst = none) (hf : K fr2 = some r) : o.wp P a w (Good st K r) Q := by
  obtain ⟨g1, t1, hv⟩ := takeOpd_ok h ht 0
  rw [← t1.bx] at hv
  have hp0 := t1.air 0 _ _ (opc_rel h hp (by simp) (by simp)).2
  rw [← t1.bx] at hp0
  obtain ⟨ad, hpv, hpl, hpH⟩ := hp0
  simp only [store] at hs
  cases hsc : ws.all isScalar
  case false => rw [hsc] at hs; cases hs
  rw [hsc] at hs
  simp only [cond_true] at hs
  cases hca : cellAt fr1 s c <;> rw [hca] at hs <;> simp only at hs <;> first | (cases hs; done) | skip
  rename_i t0 xs
  cases hcond : (t0.flat && decide (u = t0))
  · rw [hcond] at hs; cases hs
  rw [hcond] at hs
  simp only [cond_true] at hs
  simp only [Bool.and_eq_true, decide_eq_true_eq] at hcond
  obtain ⟨hfl, rfl⟩ := hcond
  cases hse : setElem u (rd u.zero xs ix) k ws with
  | none => rw [hse] at hs; cases hs
  | some y =>
    rw [hse] at hs
    simp only [Option.some.injEq] at hs
    subst hs
    obtain ⟨v0, hat, hrel⟩ := cell_rel t1.ok hca (by simp) (by simp)
    obtain ⟨hown, hi0, hH⟩ := hrel
    obtain ⟨n, cap', hv0, hix0, hix1, hoff⟩ := hpH v0 hH
    rcases hown with ⟨e, _⟩ | ⟨b, cap, cur, e', h1, hO, hb, h4, h5, h6, h7, h8⟩
    · rw [e] at hv0; cases hv0
    rw [h1] at hv0
    simp only [Value.slice.injEq, Option.some.injEq, Addr.mk.injEq, and_true] at hv0
    obtain ⟨hbb, hn, _⟩ := hv0
    subst hbb
    have hixl : ix < (xs.length : Int) := by omega
    obtain ⟨ecs, q1, q2⟩ := h7 ix.toNat _ (rd_get u.zero xs ix hix0 hixl)
    have hsure : gg = true ∨ ws.all sure = true := .inr (by
      rw [List.all_eq_true] at hsc ⊢; exact fun c hc => scalar_sure (hsc c hc))
    obtain ⟨v1, v2⟩ := air_cells hv hsure
    simp only at v1 v2
    have hone : ∀ u ∈ (a.eval x).cells.toList, u.oneCell' = true := fun u hu => by
      obtain ⟨k, hk, rfl⟩ := List.getElem_of_mem hu
      obtain ⟨u', e1, e2⟩ := v2 k _ (List.getElem?_eq_getElem (by rw [← v1]; exact hk))
      rw [List.getElem?_eq_getElem hk] at e1
      simp only [Option.some.injEq] at e1
      rw [e1]; exact rel_one e2
    obtain ⟨s1, s2⟩ := setElem_rel t1.ok hfl hse q1 v1 (fun j c hj => by
      obtain ⟨z, e1, e2⟩ := v2 j c hj
      have hz := List.all_eq_true.1 hsc c (List.mem_of_getElem? hj)
      exact ⟨z, e1, hz, scalar_rel hz e2⟩)
    have hlt : ix.toNat < xs.length := by omega
    have hmul : (ix.toNat + 1) * u.cells ≤ xs.length * u.cells := Nat.mul_le_mul_right _ hlt
    have hmul2 : xs.length * u.cells ≤ cap * u.cells := Nat.mul_le_mul_right _ h4
    rw [Nat.add_mul] at hmul
    have hfit : ad.off + (a.eval x).cells.toList.length ≤ cur.size := by rw [v1, hoff, h6]; omega
    have hrun := store_run (P := P) hT hi hb (v := a.eval x) (c := ad.off) (by rw [v1, hl]) hone hfit
    have hadx : ad = ⟨ad.block, ad.off, none⟩ := addr_eta ad hpl.1
    rw [← hadx] at hrun
    refine wp_skipped (w' := w.setRow ad.block (seg cur ad.off (a.eval x).cells.toList)) (by simp only [execOp, ho, hpv, Sem.run_bind, hrun, Result.andThen_ok, Sem.run_pure]) ?_
    rw [hd]
    show Good st K r a _
    -- the killed frame
    have hownb := t1.ok.own _ _ hO
    have hne : ∀ b', b' < st.B → ¬ st.M b' → b' ≠ ad.block := fun b' h1 h2 e => by subst e; exact h2 (hownb.2 h1)
    have hnew := setRow_heap w ad.block cur (seg cur ad.off (a.eval x).cells.toList) e' (0, 0) hb
    have hoth := fun b' hb' => setRow_other w ad.block b' (seg cur ad.off (a.eval x).cells.toList) hb'
    have hk : Kld g1 g1 w (w.setRow ad.block (seg cur ad.off (a.eval x).cells.toList)) (isBox fr1) (isBox fr1) (fun p => p ≠ .at s 0 c) := {
      kB := rfl, kM := rfl, kZ := rfl
      kbx := fun s hs => hs
      kX := fun s _ => rfl
      kZc := fun b' oo hz => World.cell?_of_block (w := w) (hoth b' (by
        have := t1.ok.zs b' oo (by rw [← t1.ok.eZ]; exact hz)
        exact hne b' this.2.1 this.2.2))
      kL := fun b' hl => hoth b' (hne b' (by rw [← t1.ok.eB]; exact hl.1) (by rw [← t1.ok.eM]; exact hl.2))
      kO := fun b' p hp hO' => ⟨hO', hoth b' (fun e => by subst e; rw [hO] at hO'; cases hO'; exact hp rfl), fun _ => Iff.rfl⟩
      kH := fun _ _ _ _ => rfl }
    have hnewrel : rel (w.setRow ad.block (seg cur ad.off (a.eval x).cells.toList)) g1 (isBox fr1) (.at s 0 c) (.own u (xs.set ix.toNat y)) v0 := by
      refine ⟨.inr ⟨ad.block, cap, _, e', by rw [List.length_set]; exact h1, hO, hnew, by simpa using h4, h5, by rw [seg_size hfit, h6], fun i z hz => ?_, fun oo => by rw [List.length_set]; exact h8 oo⟩, rfl, hH⟩
      by_cases hiz : i = ix.toNat
      · subst hiz
        rw [List.getElem?_set] at hz
        simp [hlt] at hz
        subst hz
        refine ⟨_, rep_flat hfl s2, fun j c hj => ?_⟩
        have hel := rep_length q1
        have hfe : k + (a.eval x).cells.toList.length ≤ ecs.toArray.size := by simp only [List.size_toArray, hel, v1]; omega
        have hjl := (List.getElem?_eq_some_iff.1 hj).1
        rw [Array.length_toList, seg_size hfe] at hjl
        simp only [List.size_toArray, hel] at hjl
        rw [Array.getElem?_toList, seg_get hfe] at hj
        rw [seg_get hfit, hoff]
        split at hj
        · rename_i hin
          rw [if_pos (by omega)]
          rw [show ix.toNat * u.cells + j - (ix.toNat * u.cells + k) = j - k by omega]
          exact hj
        · rename_i hin
          rw [if_neg (by omega)]
          exact q2 j c (by simpa using hj)
      · rw [List.getElem?_set_ne (Ne.symm hiz)] at hz
        obtain ⟨ecs', e1, e2⟩ := h7 i z hz
        refine ⟨ecs', rep_flat hfl e1, fun j c hj => ?_⟩
        have hjl : j < u.cells := by have := (List.getElem?_eq_some_iff.1 hj).1; rw [rep_length e1] at this; exact this
        have hil := (List.getElem?_eq_some_iff.1 hz).1
        rw [seg_get hfit, hoff, if_neg]
        · exact e2 j c hj
        · rw [v1]
          rintro ⟨a1, a2⟩
          rcases Nat.lt_or_gt_of_ne hiz with hlt' | hgt
          · have : (i + 1) * u.cells ≤ ix.toNat * u.cells := Nat.mul_le_mul_right _ hlt'
            rw [Nat.add_mul] at this; omega
          · have : (ix.toNat + 1) * u.cells ≤ i * u.cells := Nat.mul_le_mul_right _ hgt
            rw [Nat.add_mul] at this; omega
    have hbk : isBox (setCellAt (kill fr1) s c (.own u (xs.set ix.toNat y))) = isBox fr1 := (isBox_setCell _ _ _ _).trans (isBox_kill fr1)
    refine ⟨g1, _, ?_, hf⟩
    have h1o := t1.ok
    exact {
      eB := h1o.eB, eM := h1o.eM, eZ := h1o.eZ, size := h1o.size, defers := h1o.defers, keep := h1o.keep
      os := h1o.os, tape := h1o.tape, output := h1o.output
      heap := by simpa using h1o.heap
      old := fun b' hb' hm' => (hoth b' (hne b' hb' hm')).trans (h1o.old b' hb' hm')
      own := fun b' p hO' => by simpa using h1o.own b' p hO'
      stab := fun b' oo hs' => by simpa using h1o.stab b' oo hs'
      boxS := h1o.boxS
      zs := h1o.zs
      sz := h1o.sz
      hh := h1o.hh
      slot := fun q => by
        rw [hbk]
        have hsl := h1o.slot q
        by_cases hq : q = s
        · subst hq
          unfold setCellAt
          unfold cellAt at hca
          unfold At at hat
          cases hfs : fr1 q with
          | tup vs => rw [hfs] at hca; cases hca
          | comp bb cs =>
            rw [hfs] at hca hat hsl
            have hkq : kill fr1 q = .comp bb (cs.map kill1) := by unfold kill; rw [hfs]; rfl
            rw [hkq]
            cases c with
            | zero => cases hca
            | succ c =>
              simp only [upd_same]
              simp only [List.getD_eq_getElem?_getD] at hca
              have hcl : cs[c]? = some (.own u xs) := by
                cases hcc : cs[c]? with
                | none => rw [hcc] at hca; cases hca
                | some z => rw [hcc] at hca; simp at hca; rw [hca]
              cases bb with
              | true =>
                obtain ⟨vs, e1, e2, e3⟩ := hsl
                obtain ⟨vs', f1, _, f2⟩ := hat
                rw [e1] at f1
                simp only [Value.agg.injEq] at f1
                have hvv : vs = vs' := by simpa using congrArg Array.toList f1
                subst hvv
                refine ⟨vs, e1, by simpa using e2, fun m z hm => ?_⟩
                by_cases hmc : m = c
                · subst hmc
                  rw [List.getElem?_set] at hm
                  simp at hm
                  obtain ⟨_, rfl⟩ := hm
                  exact ⟨v0, by simpa using f2, hnewrel⟩
                · rw [List.getElem?_set_ne (Ne.symm hmc), List.getElem?_map] at hm
                  cases hcm : cs[m]? with
                  | none => rw [hcm] at hm; simp at hm
                  | some z' =>
                    rw [hcm] at hm
                    simp at hm
                    subst hm
                    obtain ⟨zz, e4, e5⟩ := e3 m z' hcm
                    exact ⟨zz, e4, hk.rel (by intro e; cases e; exact hmc rfl) e5⟩
              | false =>
                obtain ⟨z, e1, _⟩ := hsl
                subst e1
                obtain ⟨f1, f2⟩ := hat
                have : c = 0 := by omega
                subst this
                exact ⟨_, rfl, .inr (.inr (by rw [f2]; exact hnewrel))⟩
          | box cs =>
            rw [hfs] at hca hat hsl
            have hkq : kill fr1 q = .box (cs.map kill1) := by unfold kill; rw [hfs]; rfl
            rw [hkq]
            cases c with
            | zero => cases hca
            | succ c =>
              simp only [upd_same]
              obtain ⟨⟨b1, arr, ty, e1, e2, e3, e4⟩, e5⟩ := hsl
              obtain ⟨b2, arr2, ty2, f1, f2, _, f3⟩ := hat
              rw [e1] at f1; cases f1
              rw [e3] at f2; cases f2
              have hb1 : b1 ≠ ad.block := fun e => by subst e; rw [hO] at e2; cases e2
              refine ⟨⟨b1, arr, ty, e1, e2, by rw [hoth b1 hb1]; exact e3, by simpa using e4.1, fun m z hm => ?_⟩, e5⟩
              by_cases hmc : m = c
              · subst hmc
                rw [List.getElem?_set] at hm
                simp at hm
                obtain ⟨_, rfl⟩ := hm
                exact ⟨v0, by simpa using f3, hnewrel⟩
              · rw [List.getElem?_set_ne (Ne.symm hmc), List.getElem?_map] at hm
                cases hcm : cs[m]? with
                | none => rw [hcm] at hm; simp at hm
                | some z' =>
                  rw [hcm] at hm
                  simp at hm
                  subst hm
                  obtain ⟨zz, e6, e7⟩ := e4.2 m z' hcm
                  exact ⟨zz, e6, hk.rel (by intro e; cases e; exact hmc rfl) e7⟩
        · have : setCellAt (kill fr1) s c (.own u (xs.set ix.toNat y)) q = killS (fr1 q) := by
            unfold setCellAt
            cases kill fr1 s with
            | tup vs => rfl
            | comp b cs => cases c <;> simp [upd_ne _ _ _ hq, kill]
            | box cs => cases c <;> simp [upd_ne _ _ _ hq, kill]
          rw [this]
          exact hk.slot (fun c e => by cases e; exact hq rfl) (fun cs e => by simp [isBox, e, notBox]) hsl }
end
end Go.Rv

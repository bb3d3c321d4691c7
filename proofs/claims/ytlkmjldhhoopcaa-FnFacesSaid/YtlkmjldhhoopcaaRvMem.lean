/- Pointers, elements, loads. -/
import Derived.Test.YtlkmjldhhoopcaaRvRead
namespace Go.Rv
set_option linter.unusedSimpArgs false
set_option linter.unusedVariables false
section
variable {P : Program} {st : St} {g : Gh} {fr : Fr} {a : Act} {w : World} {X : Env} {o : Oper} {R : Type} {K : Fr → Option R} {r : R} {Q : Exit → Act → World → Prop}
theorem add_mid (a : Addr) (h : a.spot = none) (n : Nat) : a.add n = ⟨a.block, a.off + n, none⟩ := by
  obtain ⟨b, o, s⟩ := a
  simp only at h
  subst h
  exact Addr.add_mid b o n
theorem addr_eta (a : Addr) (h : a.spot = none) : a = ⟨a.block, a.off, none⟩ := by
  obtain ⟨b, o, s⟩ := a; simp only at h; subst h; rfl
def isPtr : CV → Bool
  | .ptr _ _ | .rptr _ | .hptr _ | .eptr _ _ _ _ _ _ => true
  | _ => false
theorem ptr_of {c : CV} {v : Value} {bx : Nat → Bool} (hc : isPtr c = true) (h : rel w g bx (.air 0) c v) : ∃ ad : Addr, v = .pointer (some ad) ∧ ad.spot = none := by
  cases c <;> simp [isPtr] at hc
  · obtain ⟨_, b, _, rfl⟩ := h; exact ⟨_, rfl, rfl⟩
  · obtain ⟨ad, rfl, hp⟩ := h; exact ⟨_, rfl, hp.1⟩
  · obtain ⟨ad, rfl, hp⟩ := h; exact ⟨_, rfl, hp.1⟩
  · obtain ⟨ad, rfl, hp, _⟩ := h; exact ⟨_, rfl, hp.1⟩
theorem nil_ok (h : Ok st g fr a w) (hX : Fits X st) {x : Operand} (ho : o.op = .nilCheck x) {c : CV} (hx : opc fr x = c) (hc : isPtr c = true)
    (hf : fin X fr o.dst (.comp false [c]) K = some r) : o.wp P a w (Good st K r) Q := by
  have h0 := opc_rel h hx (by intro e; subst e; simp [isPtr] at hc) (by intro e; subst e; simp [isPtr] at hc)
  obtain ⟨ad, hv, _⟩ := ptr_of hc h0.2
  refine one_ok h hX (v := a.eval x) ?_ h0.1 h0.2 hf
  simp [execOp, ho, hv]
theorem PL_drop {Q : Nat → Nat → Prop} {ad : Addr} {cs : List CV} (h : PL w g Q ad cs) (off : Nat) : PL w g Q ⟨ad.block, ad.off + off, none⟩ (cs.drop off) := by
  refine ⟨rfl, fun j c hj => ?_⟩
  rw [List.getElem?_drop] at hj
  obtain ⟨h1, u, h2, h3⟩ := h.2 _ c hj
  exact ⟨by simpa [Nat.add_assoc] using h1, u, by simpa [Nat.add_assoc] using h2, h3⟩
theorem fieldAddr_ok (hT : TabOk P X) (h : Ok st g fr a w) (hX : Fits X st) {t : TypeId} {x : Operand} {f : Nat} (ho : o.op = .fieldAddr t x f) {i : TI} {off n : Nat} {gg : Bool} {c : CV} (hi : X.ti t = some i) (ha : i.agg = true) (hoff : i.offs[f]? = some (off, n, gg))
    (hc : fieldAddr (opc fr x) off = some c) (hf : fin X fr o.dst (.comp false [c]) K = some r) : o.wp P a w (Good st K r) Q := by
  obtain ⟨fs, hfs, hff⟩ := ti_struct hT hi ha
  obtain ⟨F, ii, d, e1, e2, e3, e4, e5, e6, e7, _⟩ := (fitFields_spec _ _ hff).2 f off n gg hoff
  have hrun : ∀ ad : Addr, ad.spot = none → a.eval x = .pointer (some ad) → (execOp a.eval o).run P w = .ok (.value (.pointer (some ⟨ad.block, ad.off + off, none⟩))) w := by
    intro ad hsp hv
    have hF : fs[f]? = some F := by simpa using e1
    have hsz : (sizeOf F.type).run P w = .ok n w := by simp [sizeOf, typeInfo, e3, e4]
    simp only [execOp, ho, Instr.fieldAt, hv, Instr.sureAddr, Sem.run_bind, run_underlying hfs, Result.andThen_ok, hF, Sem.run_pure, fieldPlace, hsz]
    rw [if_neg (by omega)]
    simp only [Sem.run_pure, Result.andThen_ok, add_mid ad hsp, e2]
  cases hx : opc fr x <;> rw [hx] at hc <;> simp only [fieldAddr] at hc <;> first | (cases hc; done) | skip
  case ptr s c' =>
    obtain ⟨h1, b, h2, h3⟩ := (opc_rel h hx (by simp) (by simp)).2
    cases hc
    exact one_ok (c := .ptr s (c' + off)) h hX (hrun _ rfl h3) rfl ⟨h1, b, h2, rfl⟩ hf
  case rptr cs =>
    obtain ⟨ad, h3, h4⟩ := (opc_rel h hx (by simp) (by simp)).2
    cases hc
    exact one_ok (c := .rptr (cs.drop off)) h hX (hrun _ h4.1 h3) rfl ⟨_, rfl, PL_drop h4 off⟩ hf
  case hptr cs =>
    obtain ⟨ad, h3, h4⟩ := (opc_rel h hx (by simp) (by simp)).2
    cases hc
    exact one_ok (c := .hptr (cs.drop off)) h hX (hrun _ h4.1 h3) rfl ⟨_, rfl, PL_drop h4 off⟩ hf
  case eptr s c' t' ix k cs =>
    obtain ⟨ad, h3, h4, h5⟩ := (opc_rel h hx (by simp) (by simp)).2
    cases hc
    refine one_ok (c := .eptr s c' t' ix (k + off) (cs.drop off)) h hX (hrun _ h4.1 h3) rfl ⟨_, rfl, PL_drop h4 off, fun u hu => ?_⟩ hf
    obtain ⟨m, cap, q1, q2, q3, q4⟩ := h5 u hu
    exact ⟨m, cap, q1, q2, q3, by show ad.off + off = _; omega⟩
theorem takeN_some {n : Nat} {cs vs : List CV} (h : takeN n cs = some vs) : n ≤ cs.length ∧ vs = cs.take n := by
  unfold takeN at h
  cases hb : n.ble cs.length
  · simp [hb] at h
  · simp only [hb, cond_true, Option.some.injEq] at h
    exact ⟨Nat.le_of_ble_eq_true hb, h.symm⟩
theorem field_ok (hT : TabOk P X) (h : Ok st g fr a w) (hX : Fits X st) {t : TypeId} {x : Operand} {f : Nat} (ho : o.op = .field t x f) {i : TI} {off n : Nat} {gg : Bool} {cs vs : List CV} (hi : X.ti t = some i) (ha : i.agg = true) (hoff : i.offs[f]? = some (off, n, gg))
    (hx : opd fr x = (true, cs)) (hv : takeN n (cs.drop off) = some vs) (hf : fin X fr o.dst (.comp gg vs) K = some r) : o.wp P a w (Good st K r) Q := by
  obtain ⟨fs, hfs, hff⟩ := ti_struct hT hi ha
  obtain ⟨F, ii, d, e1, e2, e3, e4, e5, e6, e7, e8⟩ := (fitFields_spec _ _ hff).2 f off n gg hoff
  obtain ⟨hfr, us, hu, hl, hc⟩ := (by have := opd_ok h x; rw [hx] at this; exact this : FRel w g (isBox fr) (true, cs) (a.eval x))
  obtain ⟨hn, rfl⟩ := takeN_some hv
  have hF : fs[f]? = some F := by simpa using e1
  have hsz : (sizeOf F.type).run P w = .ok n w := by simp [sizeOf, typeInfo, e3, e4]
  have hag : (isAgg F.type).run P w = .ok gg w := by
    unfold isAgg; rw [Sem.run_bind, run_underlying e6 w]
    cases d <;> simp_all [TypeDesc.isRow]
  have hfree : ((cs.drop off).take n).all free = true := by
    rw [List.all_eq_true] at hfr ⊢
    intro c hc; exact hfr c (List.mem_of_mem_drop (List.mem_of_mem_take hc))
  rw [List.length_drop] at hn
  cases gg with
  | true =>
    have hp : FRel w g (isBox fr) (true, (cs.drop off).take n) (.agg ((us.drop off).take n).toArray) := by
      refine ⟨hfree, _, rfl, ?_, fun j c hj => ?_⟩
      · simp only [List.length_take, List.length_drop]; omega
      · rw [List.getElem?_take] at hj
        split at hj
        · rename_i hjn
          rw [List.getElem?_drop] at hj
          obtain ⟨u, q1, q2⟩ := hc _ c hj
          refine ⟨u, by rw [List.getElem?_take, if_pos hjn, List.getElem?_drop]; exact q1, rel_place ?_ q2⟩
          exact List.all_eq_true.1 hfr c (List.mem_of_getElem? hj)
        · cases hj
    obtain ⟨g', fr', h1, h2⟩ := fin_free hX h hp hf
    refine wp_value ?_ ⟨g', fr', h1, h2⟩
    simp only [execOp, ho, hu, Instr.field, Sem.run_bind, run_underlying hfs, Result.andThen_ok, hF, asAgg, Sem.run_pure, part, hag, if_true, hsz, e2]
    congr 3
    apply Array.ext'
    simp [List.take_drop]
  | false =>
    have hn1 : n = 1 := e8 rfl
    subst hn1
    cases hcs : cs.drop off with
    | nil => have := congrArg List.length hcs; simp at this; omega
    | cons c rest =>
      have hj : cs[off]? = some c := by rw [← Nat.add_zero off, ← List.getElem?_drop, hcs]; rfl
      obtain ⟨u, q1, q2⟩ := hc _ c hj
      rw [hcs] at hf
      have hfc : free c = true := List.all_eq_true.1 hfr c (List.mem_of_getElem? hj)
      refine one_ok (c := c) (v := u) h hX ?_ hfc (rel_place hfc q2) (by simpa using hf)
      simp only [execOp, ho, hu, Instr.field, Sem.run_bind, run_underlying hfs, Result.andThen_ok, hF, asAgg, Sem.run_pure, part, hag, e2]
      simp [q1]
/-- what lies in an element, cell by cell -/
theorem unpack_rel {S : Nat → Nat → Prop} (old : Bool) (hS : (old = true ∧ S = g.Z) ∨ (old = false ∧ S = g.S)) : ∀ (t : Ty) (x : Den t) (cs : List Value), rep w S t x cs → ∀ (j : Nat) (c : CV), (unpack old t x)[j]? = some c → ∃ u : Value, cs[j]? = some u ∧ relF w g c u
  | .int k, n, cs, h, j, c, hj => by
    simp only [rep] at h; subst h
    cases j <;> simp [unpack] at hj
    subst hj; exact ⟨_, rfl, rfl⟩
  | .bool, n, cs, h, j, c, hj => by
    simp only [rep] at h; subst h
    cases j <;> simp [unpack] at hj
    subst hj; exact ⟨_, rfl, rfl⟩
  | .str, n, cs, h, j, c, hj => by
    simp only [rep] at h; subst h
    cases j <;> simp [unpack] at hj
    subst hj; exact ⟨_, rfl, rfl⟩
  | .sl t, xs, cs, h, j, c, hj => by
    have h' := h
    simp only [rep] at h
    obtain ⟨A, cap, rfl, _⟩ := h
    cases j <;> simp [unpack] at hj
    subst hj
    refine ⟨_, rfl, ?_⟩
    rcases hS with ⟨rfl, rfl⟩ | ⟨rfl, rfl⟩
    · exact h'
    · exact h'
  | .pair s t, x, cs, h, j, c, hj => by
    have hl : ∀ (t : Ty) (x : Den t), (unpack old t x).length = t.cells := fun t => by
      induction t with
      | pair a b iha ihb => intro x; simp [unpack, iha, ihb, Ty.cells]
      | _ => intro x; simp [unpack, Ty.cells]
    simp only [rep] at h
    obtain ⟨c1, c2, rfl, h1, h2⟩ := h
    simp only [unpack] at hj
    by_cases hlt : j < (unpack old s x.1).length
    · rw [List.getElem?_append_left hlt] at hj
      obtain ⟨u, hu, hr⟩ := unpack_rel old hS s x.1 c1 h1 j c hj
      exact ⟨u, by rw [List.getElem?_append_left (List.getElem?_eq_some_iff.1 hu).1]; exact hu, hr⟩
    · rw [List.getElem?_append_right (by omega)] at hj
      obtain ⟨u, hu, hr⟩ := unpack_rel old hS t x.2 c2 h2 _ c hj
      rw [hl] at hu hlt
      refine ⟨u, ?_, hr⟩
      rw [List.getElem?_append_right (by rw [rep_length h1]; omega), rep_length h1]
      exact hu
theorem rd_get {α : Type} (d : α) (xs : List α) (i : Int) (h0 : 0 ≤ i) (h1 : i < (xs.length : Int)) : xs[i.toNat]? = some (rd d xs i) := by
  have : i.toNat < xs.length := by omega
  simp [rd, List.getElem?_eq_getElem this]
theorem elem_PL {S : Nat → Nat → Prop} {old : Bool} (hS : (old = true ∧ S = g.Z) ∨ (old = false ∧ S = g.S)) {t : Ty} {xs : List (Den t)} {v : Value} (hr : RS w S t xs v) {i : Int} (h0 : 0 ≤ i) (h1 : i < (xs.length : Int)) :
    ∃ ad cap, v = .slice (some ad) xs.length cap ∧ ad.spot = none ∧ PL w g S ⟨ad.block, ad.off + i.toNat * t.cells, none⟩ (unpack old t (rd t.zero xs i)) := by
  obtain ⟨A, cap, hv, hc, h⟩ := hr
  simp only [List.cons.injEq, and_true] at hv
  obtain ⟨ad, ecs, rfl, hsp, hrep, hj⟩ := h i.toNat _ (rd_get t.zero xs i h0 h1)
  refine ⟨ad, cap, hv, hsp, rfl, fun j c hc => ?_⟩
  obtain ⟨u, hu, hrel⟩ := unpack_rel (g := g) old hS t _ _ hrep j c hc
  obtain ⟨q1, q2⟩ := hj j u hu
  exact ⟨by simpa [Nat.add_assoc] using q1, u, by simpa [Nat.add_assoc] using q2, hrel⟩
theorem run_indexAt (hT : TabOk P X) {t : TypeId} {u : Ty} (hu : X.sl t = some u) {ad : Addr} (hsp : ad.spot = none) {n cap : Nat} {k : IntKind} {i : Int} (h0 : 0 ≤ i) (h1 : i < (n : Int)) :
    (Instr.indexAt t (.slice (some ad) n cap) (.int k i)).run P w = .ok (.pointer (some ⟨ad.block, ad.off + i.toNat * u.cells, none⟩)) w := by
  obtain ⟨e, he, ⟨ii, z, e1, e2, _⟩⟩ := ti_slice hT hu
  have hsz : (sizeOf e).run P w = .ok u.cells w := by simp [sizeOf, typeInfo, e1, e2]
  simp only [Instr.indexAt, asIntOf, Sem.run_bind, Sem.run_pure, Result.andThen_ok, run_underlying he]
  simp only [h0, h1, and_self, if_true, hsz, Sem.run_bind, Result.andThen_ok, Sem.run_pure, add_mid ad hsp]
theorem index_cond {u : Option Ty} {t : Ty} {i len : Int} {Kx : Option R} (h : (bif decide (u = some t) then (if 0 ≤ i then if i < len then Kx else none else none) else none) = some r) : u = some t ∧ 0 ≤ i ∧ i < len ∧ Kx = some r := by
  by_cases hu : u = some t
  · simp only [hu, decide_true, cond_true] at h
    split at h
    · split at h
      · exact ⟨hu, by assumption, by assumption, h⟩
      · cases h
    · cases h
  · simp [hu] at h
theorem index_ok (hT : TabOk P X) (h : Ok st g fr a w) (hX : Fits X st) {t : TypeId} {x ix : Operand} (ho : o.op = .indexAddr t x ix) {k : IntKind} {i : Int} (hi : opc fr ix = .int k i)
    (hf : indexAddr (X.sl t) (opc fr x) i (fun c => fin X fr o.dst (.comp false [c]) K) = some r) : o.wp P a w (Good st K r) Q := by
  have hiv : a.eval ix = .int k i := (opc_rel h hi (by simp) (by simp)).2
  cases hx : opc fr x <;> rw [hx] at hf <;> simp only [indexAddr] at hf <;> first | (cases hf; done) | skip
  case lo u xs =>
    obtain ⟨hu, h0, h1, hf⟩ := index_cond hf
    have hx0 := (opc_rel h hx (by simp) (by simp)).2
    obtain ⟨ad, cap, hv, hsp, hp⟩ := elem_PL (g := g) (old := true) (.inl ⟨rfl, rfl⟩) hx0 h0 h1
    refine one_ok (c := .rptr _) h hX (by simp only [execOp, ho, hv, hiv, Sem.run_bind, run_indexAt hT hu hsp h0 h1, Result.andThen_ok, Sem.run_pure]) rfl ⟨_, rfl, hp.1, fun j c hj => ?_⟩ hf
    obtain ⟨q1, q2⟩ := hp.2 j c hj
    have := h.zs _ _ (by rw [← h.eZ]; exact q1)
    exact ⟨by unfold Gh.L; rw [h.eB, h.eM]; exact this.2, q2⟩
  case hi u xs =>
    obtain ⟨hu, h0, h1, hf⟩ := index_cond hf
    have hx0 := (opc_rel h hx (by simp) (by simp)).2
    obtain ⟨ad, cap, hv, hsp, hp⟩ := elem_PL (g := g) (old := false) (.inr ⟨rfl, rfl⟩) hx0 h0 h1
    exact one_ok (c := .hptr _) h hX (by simp only [execOp, ho, hv, hiv, Sem.run_bind, run_indexAt hT hu hsp h0 h1, Result.andThen_ok, Sem.run_pure]) rfl ⟨_, rfl, hp⟩ hf
  case ref s c u xs =>
    obtain ⟨hu, h0, h1, hf⟩ := index_cond hf
    have hx0 := (opc_rel h hx (by simp) (by simp)).2
    obtain ⟨hx1, hx2⟩ := hx0
    obtain ⟨ad, cap, hv, hsp, hp⟩ := elem_PL (g := g) (old := false) (.inr ⟨rfl, rfl⟩) hx1 h0 h1
    refine one_ok (c := .eptr s c u i 0 _) h hX (by simp only [execOp, ho, hv, hiv, Sem.run_bind, run_indexAt hT hu hsp h0 h1, Result.andThen_ok, Sem.run_pure]) rfl ⟨_, rfl, hp, fun u' hu' => ?_⟩ hf
    have e := hx2 u' hu'
    rw [hv] at e
    rcases h.hh _ _ _ hu' with e' | ⟨b, n, cap', e'⟩
    · rw [e] at e'; cases e'
    · rw [e] at e'
      simp only [Value.slice.injEq, Option.some.injEq] at e'
      obtain ⟨e1, e2, e3⟩ := e'
      subst e1
      exact ⟨_, _, e, h0, h1, by simp⟩
/-- a load of n cells that can be read -/
theorem PL_range {Q : Nat → Nat → Prop} {ad : Addr} {cs : List CV} (h : PL w g Q ad cs) {n : Nat} {vs : List CV} (hv : takeN n cs = some vs) :
    ∃ us : List Value, us.length = n ∧ w.rangeAt ad.block ad.off us ∧ vs.length = n ∧ ∀ (j : Nat) (c : CV), vs[j]? = some c → ∃ u : Value, us[j]? = some u ∧ relF w g c u := by
  obtain ⟨hn, rfl⟩ := takeN_some hv
  have : ∀ n, n ≤ cs.length → ∃ us : List Value, us.length = n ∧ w.rangeAt ad.block ad.off us ∧ ∀ (j : Nat) (c : CV), (cs.take n)[j]? = some c → ∃ u : Value, us[j]? = some u ∧ relF w g c u := by
    intro n
    induction n with
    | zero => intro _; exact ⟨[], rfl, fun j v hj => by simp at hj, fun j c hj => by simp at hj⟩
    | succ n ih =>
      intro hn
      obtain ⟨us, h1, h2, h3⟩ := ih (by omega)
      obtain ⟨q, u, hu, hr⟩ := h.2 n cs[n] (List.getElem?_eq_getElem (by omega))
      refine ⟨us ++ [u], by simp [h1], fun j v hj => ?_, fun j c hj => ?_⟩
      · by_cases hjn : j < us.length
        · rw [List.getElem?_append_left hjn] at hj; exact h2 j v hj
        · rw [List.getElem?_append_right (by omega)] at hj
          have : j = n := by
            have := (List.getElem?_eq_some_iff.1 hj).1
            simp at this; omega
          subst this
          simp [h1] at hj
          subst hj; exact hu
      · rw [List.getElem?_take] at hj
        split at hj
        · by_cases hjn : j < n
          · obtain ⟨u', e1, e2⟩ := h3 j c (by rw [List.getElem?_take, if_pos hjn]; exact hj)
            exact ⟨u', by rw [List.getElem?_append_left (by omega)]; exact e1, e2⟩
          · have : j = n := by omega
            subst this
            rw [List.getElem?_eq_getElem (by omega)] at hj
            cases hj
            exact ⟨u, by rw [List.getElem?_append_right (by omega)]; simp [h1], hr⟩
        · cases hj
  obtain ⟨us, h1, h2, h3⟩ := this n hn
  exact ⟨us, h1, h2, by simp [List.length_take]; omega, h3⟩
theorem free_of_relF {c : CV} {v : Value} (h : relF w g c v) : free c = true := by
  cases c <;> first | rfl | exact h.elim
theorem rel_of_relF {bx : Nat → Bool} {p : Place} : ∀ {c : CV} {v : Value}, relF w g c v → rel w g bx p c v
  | .dead, _, h => h
  | .int _ _, _, h => h
  | .bool _, _, h => h
  | .str _, _, h => h
  | .nils, _, h => h
  | .lo _ _, _, h => h
  | .hi _ _, _, h => h
theorem load_cells (hT : TabOk P X) (h : Ok st g fr a w) (hX : Fits X st) {t : TypeId} {x : Operand} (ho : o.op = .load t x) {i : TI} (hi : X.ti t = some i) {ad : Addr} (hsp : ad.spot = none) (hv : a.eval x = .pointer (some ad))
    {us : List Value} {vs : List CV} (hl : us.length = i.ty.cells) (hr : w.rangeAt ad.block ad.off us) (hvl : vs.length = us.length) (hrel : ∀ (j : Nat) (c : CV), vs[j]? = some c → ∃ u : Value, us[j]? = some u ∧ free c = true ∧ ∀ p, rel w g (isBox fr) p c u)
    (hf : fin X fr o.dst (.comp i.agg vs) K = some r) : o.wp P a w (Good st K r) Q := by
  obtain ⟨ii, z, e1, e2, _⟩ := (ti_elem hT hi).ex
  obtain ⟨d, hd, hrow, _⟩ := ti_under hT hi
  have hfree : vs.all free = true := by
    rw [List.all_eq_true]; intro c hc
    obtain ⟨j, hj, rfl⟩ := List.getElem_of_mem hc
    obtain ⟨u, _, hf, _⟩ := hrel j _ (List.getElem?_eq_getElem hj)
    exact hf
  have hsize : (P.info? t).map (·.size) = some us.length := by rw [e1]; simp [e2, hl]
  cases hag : i.agg with
  | true =>
    rw [hag] at hf hrow
    have hp : FRel w g (isBox fr) (true, vs) (.agg us.toArray) := ⟨hfree, us, rfl, hvl.symm, fun j c hj => by
      obtain ⟨u, q1, _, q2⟩ := hrel j c hj; exact ⟨u, q1, q2 _⟩⟩
    obtain ⟨g', fr', h1, h2⟩ := fin_free hX h hp hf
    refine wp_value ?_ ⟨g', fr', h1, h2⟩
    rw [addr_eta ad hsp] at hv
    simp only [execOp, ho, hv, Sem.run_bind, run_loadAt_mid w ad.block ad.off t us d hr hd hrow hsize, Result.andThen_ok, Sem.run_pure]
  | false =>
    rw [hag] at hf hrow
    have h1 : i.ty.cells = 1 := by
      have := ti_fit hT hi
      simp only [fitB, Bool.and_eq_true, hag] at this
      have h2 := this.2
      split at h2
      · simp at h2
      all_goals (first | (split at h2 <;> simp_all [Ty.cells]) | simp_all)
    rw [h1] at hl
    obtain ⟨u, rfl⟩ := List.length_eq_one_iff.1 hl
    obtain ⟨c, rfl⟩ := List.length_eq_one_iff.1 (hvl.trans rfl)
    obtain ⟨u', q1, q2, q3⟩ := hrel 0 c rfl
    simp at q1
    subst q1
    refine one_ok (c := c) (v := u) h hX ?_ q2 (q3 _) hf
    have hagg : (isAgg t).run P w = .ok false w := by
      unfold isAgg; rw [Sem.run_bind, run_underlying hd w]
      cases d <;> simp_all [TypeDesc.isRow]
    have hcell : w.cell? ad = some u := by
      have := hr 0 u rfl
      rw [addr_eta ad hsp]; simpa using this
    simp only [execOp, ho, hv, Instr.loadAt, Instr.sureAddr, loadVar, Sem.run_bind, hagg, Sem.run_pure, Result.andThen_ok]
    simp [load, Sem.run, hcell]
theorem load_ok (hT : TabOk P X) (h : Ok st g fr a w) (hX : Fits X st) {t : TypeId} {x : Operand} (ho : o.op = .load t x) {i : TI} (hi : X.ti t = some i) {vs : List CV} (hl : load fr (opc fr x) i.ty.cells = some vs)
    (hf : fin X fr o.dst (.comp i.agg vs) K = some r) : o.wp P a w (Good st K r) Q := by
  cases hx : opc fr x <;> rw [hx] at hl <;> simp only [Rv.load] at hl <;> first | (cases hl; done) | skip
  case rptr cs =>
    obtain ⟨ad, h3, h4⟩ := (opc_rel h hx (by simp) (by simp)).2
    obtain ⟨us, q1, q2, q3, q4⟩ := PL_range h4 hl
    exact load_cells hT h hX ho hi h4.1 h3 q1 q2 (by rw [q3, q1]) (fun j c hj => by obtain ⟨u, e1, e2⟩ := q4 j c hj; exact ⟨u, e1, free_of_relF e2, fun p => rel_of_relF e2⟩) hf
  case hptr cs =>
    obtain ⟨ad, h3, h4⟩ := (opc_rel h hx (by simp) (by simp)).2
    obtain ⟨us, q1, q2, q3, q4⟩ := PL_range h4 hl
    exact load_cells hT h hX ho hi h4.1 h3 q1 q2 (by rw [q3, q1]) (fun j c hj => by obtain ⟨u, e1, e2⟩ := q4 j c hj; exact ⟨u, e1, free_of_relF e2, fun p => rel_of_relF e2⟩) hf
  case eptr s c t' ix k cs =>
    obtain ⟨ad, h3, h4, _⟩ := (opc_rel h hx (by simp) (by simp)).2
    obtain ⟨us, q1, q2, q3, q4⟩ := PL_range h4 hl
    exact load_cells hT h hX ho hi h4.1 h3 q1 q2 (by rw [q3, q1]) (fun j c hj => by obtain ⟨u, e1, e2⟩ := q4 j c hj; exact ⟨u, e1, free_of_relF e2, fun p => rel_of_relF e2⟩) hf
  case ptr s c =>
    obtain ⟨h1, b, h2, h3⟩ := (opc_rel h hx (by simp) (by simp)).2
    cases hb : fr s <;> rw [hb] at hl <;> simp only at hl <;> first | (cases hl; done) | skip
    rename_i cs
    have hs := h.slot s
    rw [hb] at hs
    obtain ⟨⟨b', arr, ty, x1, x2, x3, x4, x5⟩, _⟩ := hs
    rw [x1] at h2
    cases h2
    obtain ⟨v1, v2, v3⟩ := view1_ok (w := w) (g := g) (bx := isBox fr) (s := s) cs 1 arr.toList x4 (fun j x hj => by rw [Nat.add_comm]; exact x5 j x hj)
    obtain ⟨hn, rfl⟩ := takeN_some hl
    rw [List.length_drop, v1] at hn
    refine load_cells hT h hX ho hi rfl h3 (us := (arr.toList.drop c).take i.ty.cells) ?_ (fun j v hj => ?_) ?_ (fun j c' hj => ?_) hf
    · rw [List.length_take, List.length_drop, x4]; omega
    · rw [List.getElem?_take] at hj
      split at hj
      · rw [List.getElem?_drop] at hj
        rw [cell_of_row w b _ arr ty (0, 0) x3]
        simpa using hj
      · cases hj
    · rw [List.length_take, List.length_drop, List.length_take, List.length_drop, x4, v1]
    · rw [List.getElem?_take] at hj
      split at hj
      · rename_i hjn
        rw [List.getElem?_drop] at hj
        obtain ⟨u, e1, e2⟩ := v3 _ c' hj
        exact ⟨u, by rw [List.getElem?_take, if_pos hjn, List.getElem?_drop]; exact e1, List.all_eq_true.1 v2 c' (List.mem_of_getElem? hj), e2⟩
      · cases hj
end
end Go.Rv

/- Slices of slices, function values; what a call promises. -/
import Derived.Test.YtlkmjldhhoopcaaRvKill
namespace Go.Rv
set_option linter.unusedSimpArgs false
set_option linter.unusedVariables false
section
variable {P : Program} {st : St} {g : Gh} {fr : Fr} {a : Act} {w : World} {X : Env} {o : Oper} {R : Type} {K : Fr → Option R} {r : R} {Q : Exit → Act → World → Prop}
theorem RS_drop {S : Nat → Nat → Prop} {t : Ty} {xs : List (Den t)} {A : Option Addr} {n cap : Nat} (h : RS w S t xs (.slice A n cap)) (l : Nat) (hl : l ≤ n) : n = xs.length ∧ RS w S t (xs.drop l) (.slice (if cap = l then A else A.map (·.add (l * t.cells))) (n - l) (cap - l)) := by
  obtain ⟨A', cap', hv, hc, hx⟩ := h
  simp only [List.cons.injEq, Value.slice.injEq, and_true] at hv
  obtain ⟨rfl, rfl, rfl⟩ := hv
  refine ⟨rfl, _, _, by rw [List.length_drop], by rw [List.length_drop]; omega, fun i x hi => ?_⟩
  rw [List.getElem?_drop] at hi
  have hlt := (List.getElem?_eq_some_iff.1 hi).1
  obtain ⟨ad, ecs, q1, q2, q3, q4⟩ := hx _ x hi
  subst q1
  rw [if_neg (by omega)]
  refine ⟨ad.add (l * t.cells), ecs, rfl, by rw [add_mid ad q2], q3, fun j u hj => ?_⟩
  have := q4 j u hj
  rw [add_mid ad q2]
  simp only
  rw [show ad.off + l * t.cells + (i * t.cells + j) = ad.off + ((l + i) * t.cells + j) by rw [Nat.add_mul]; omega]
  exact this
theorem slice_run (hT : TabOk P X) {t : TypeId} {u : Ty} (hu : X.sl t = some u) {A : Option Addr} {n cap : Nat} {k : IntKind} {i : Int} (h0 : 0 ≤ i) (h1 : i ≤ (n : Int)) :
    (Instr.sliceAt t (.slice A n cap) (some (.int k i)) none none).run P w = .ok (.slice (if cap = i.toNat then A else A.map (·.add (i.toNat * u.cells))) (n - i.toNat) (cap - i.toNat)) w := by
  obtain ⟨e, he, ⟨ii, z, e1, e2, _⟩⟩ := ti_slice hT hu
  have hsz : (sizeOf e).run P w = .ok u.cells w := by simp [sizeOf, typeInfo, e1, e2]
  simp only [Instr.sliceAt, Sem.run_bind, run_underlying he, Result.andThen_ok, Instr.slice, Instr.sliceBounds, Instr.sliceBound, asIntOf, Sem.run_pure]
  rw [if_pos ⟨h0, h1⟩]
  simp only [Sem.run_pure, Result.andThen_ok, Sem.run_bind, hsz]
theorem slice_cond {X : Env} {t : TypeId} {u : Ty} {n len : Int} {Kx : Option R} (h : (bif decide (X.sl t = some u) then (if 0 ≤ n then if n ≤ len then Kx else none else none) else none) = some r) : X.sl t = some u ∧ 0 ≤ n ∧ n ≤ len ∧ Kx = some r := by
  by_cases hu : X.sl t = some u
  · simp only [hu, decide_true, cond_true] at h
    split at h
    · split at h
      · exact ⟨hu, by assumption, by assumption, h⟩
      · cases h
    · cases h
  · simp [hu] at h
theorem slice_ok (hT : TabOk P X) (h : Ok st g fr a w) (hX : Fits X st) {t : TypeId} {x l : Operand} (ho : o.op = .slice t x (some l) none none) {k : IntKind} {n : Int} (hn : opc fr l = .int k n) {u : Ty} (hu : X.sl t = some u) {xs : List (Den u)} {c : CV}
    (hc : c = .lo u xs ∧ opc fr x = .lo u xs ∨ c = .hi u xs ∧ (opc fr x = .hi u xs ∨ ∃ s k, opc fr x = .ref s k u xs)) (h0 : 0 ≤ n) (h1 : n ≤ (xs.length : Int)) {c' : CV} (hc' : c = .lo u xs ∧ c' = .lo u (xs.drop n.toNat) ∨ c = .hi u xs ∧ c' = .hi u (xs.drop n.toNat))
    (hf : fin X fr o.dst (.comp false [c']) K = some r) : o.wp P a w (Good st K r) Q := by
  have hnv : a.eval l = .int k n := (opc_rel h hn (by simp) (by simp)).2
  have gen : ∀ S : Nat → Nat → Prop, RS w S u xs (a.eval x) → (∀ v, RS w S u (xs.drop n.toNat) v → rel w g (isBox fr) (.air 0) c' v) → free c' = true → o.wp P a w (Good st K r) Q := by
    intro S hr hc hfr
    obtain ⟨A, cap, hv, _⟩ := id hr
    simp only [List.cons.injEq, and_true] at hv
    rw [hv] at hr
    obtain ⟨_, hd⟩ := RS_drop hr n.toNat (by omega)
    refine one_ok h hX ?_ hfr (hc _ hd) hf
    simp only [execOp, ho, hv, Option.map_some, Option.map_none, hnv, Sem.run_bind, slice_run hT hu h0 h1, Result.andThen_ok, Sem.run_pure]
  rcases hc with ⟨rfl, hx⟩ | ⟨rfl, hx⟩
  · rcases hc' with ⟨_, rfl⟩ | ⟨e, _⟩
    · exact gen g.Z (opc_rel h hx (by simp) (by simp)).2 (fun v hv => hv) rfl
    · cases e
  · rcases hc' with ⟨e, _⟩ | ⟨_, rfl⟩
    · cases e
    · rcases hx with hx | ⟨s, k, hx⟩
      · exact gen g.S (opc_rel h hx (by simp) (by simp)).2 (fun v hv => hv) rfl
      · exact gen g.S (opc_rel h hx (by simp) (by simp)).2.1 (fun v hv => hv) rfl
theorem RS_take {S : Nat → Nat → Prop} {t : Ty} {xs : List (Den t)} {A : Option Addr} {n cap : Nat} (h : RS w S t xs (.slice A n cap)) (k : Nat) (hk : k ≤ n) : RS w S t (xs.take k) (.slice A k cap) := by
  obtain ⟨A', cap', hv, hc, hx⟩ := h
  simp only [List.cons.injEq, Value.slice.injEq, and_true] at hv
  obtain ⟨rfl, rfl, rfl⟩ := hv
  have hl : (xs.take k).length = k := by rw [List.length_take]; omega
  refine ⟨A, cap, by rw [hl], by omega, fun i x hi => ?_⟩
  rw [List.getElem?_take] at hi
  split at hi
  · exact hx i x hi
  · cases hi
theorem slice2_run (hT : TabOk P X) {t : TypeId} {u : Ty} (hu : X.sl t = some u) {A : Option Addr} {n cap : Nat} {k : IntKind} {h l : Int} {lo : Option Value} (hlo : lo = none ∧ l = 0 ∨ ∃ k', lo = some (.int k' l)) (h0 : 0 ≤ l) (h1 : l ≤ h) (h2 : h ≤ (n : Int)) (hc : n ≤ cap) :
    (Instr.sliceAt t (.slice A n cap) lo (some (.int k h)) none).run P w = .ok (.slice (if cap = l.toNat then A else A.map (·.add (l.toNat * u.cells))) (h.toNat - l.toNat) (cap - l.toNat)) w := by
  obtain ⟨e, he, ⟨ii, z, e1, e2, _⟩⟩ := ti_slice hT hu
  have hsz : (sizeOf e).run P w = .ok u.cells w := by simp [sizeOf, typeInfo, e1, e2]
  rcases hlo with ⟨rfl, rfl⟩ | ⟨k', rfl⟩
  · simp only [Instr.sliceAt, Sem.run_bind, run_underlying he, Result.andThen_ok, Instr.slice, Instr.sliceBounds, Instr.sliceBound, asIntOf, Sem.run_pure]
    rw [if_pos ⟨by omega, by omega⟩]
    simp only [Sem.run_pure, Result.andThen_ok, Sem.run_bind, hsz, Int.toNat_zero]
  · simp only [Instr.sliceAt, Sem.run_bind, run_underlying he, Result.andThen_ok, Instr.slice, Instr.sliceBounds, Instr.sliceBound, asIntOf, Sem.run_pure]
    rw [if_pos ⟨by omega, by omega⟩]
    simp only [Sem.run_pure, Result.andThen_ok, Sem.run_bind]
    rw [if_pos ⟨h0, by omega⟩]
    simp only [Sem.run_pure, Result.andThen_ok, Sem.run_bind, hsz]
theorem slice2_ok (hT : TabOk P X) (h : Ok st g fr a w) (hX : Fits X st) {t : TypeId} {x hb : Operand} {lo : Option Operand} (ho : o.op = .slice t x lo (some hb) none) {l n : Int} {k : IntKind} (hl : lowB fr lo = some l) (hn : opc fr hb = .int k n)
    (hf : cutS (X.sl t) (opc fr x) l n (fun c => fin X fr o.dst (.comp false [c]) K) = some r) : o.wp P a w (Good st K r) Q := by
  have hnv : a.eval hb = .int k n := (opc_rel h hn (by simp) (by simp)).2
  have hlv : lo.map a.eval = none ∧ l = 0 ∨ ∃ k', lo.map a.eval = some (.int k' l) := by
    cases lo with
    | none => simp only [lowB, Option.some.injEq] at hl; exact .inl ⟨rfl, hl.symm⟩
    | some y =>
      simp only [lowB] at hl
      split at hl
      · rename_i k' m hy
        cases hl
        exact .inr ⟨k', by simp only [Option.map_some]; rw [show a.eval y = .int k' l from (opc_rel h hy (by simp) (by simp)).2]⟩
      · cases hl
  have gen : ∀ {u : Ty} {xs : List (Den u)} (S : Nat → Nat → Prop) (c' : CV), X.sl t = some u → 0 ≤ l → l ≤ n → n ≤ (xs.length : Int) → RS w S u xs (a.eval x) → (∀ v, RS w S u ((xs.take n.toNat).drop l.toNat) v → rel w g (isBox fr) (.air 0) c' v) → free c' = true → fin X fr o.dst (.comp false [c']) K = some r → o.wp P a w (Good st K r) Q := by
    intro u xs S c' hu h0 h1 h2 hr hc hfr hf
    obtain ⟨A, cap, hv, hcap, _⟩ := id hr
    simp only [List.cons.injEq, and_true] at hv
    rw [hv] at hr
    obtain ⟨_, hd⟩ := RS_drop (RS_take hr n.toNat (by omega)) l.toNat (by omega)
    refine one_ok h hX ?_ hfr (hc _ hd) hf
    simp only [execOp, ho, hv, Option.map_some, Option.map_none, hnv, Sem.run_bind, slice2_run hT hu hlv h0 h1 h2 hcap, Result.andThen_ok, Sem.run_pure]
  have cond : ∀ {u : Ty} {len : Int} {Kx : Option R}, (bif decide (X.sl t = some u) then (if 0 ≤ l then if l ≤ n then if n ≤ len then Kx else none else none else none) else none) = some r → X.sl t = some u ∧ 0 ≤ l ∧ l ≤ n ∧ n ≤ len ∧ Kx = some r := by
    intro u len Kx h
    by_cases hu : X.sl t = some u
    · simp only [hu, decide_true, cond_true] at h
      split at h
      · split at h
        · split at h
          · exact ⟨hu, by assumption, by assumption, by assumption, h⟩
          · cases h
        · cases h
      · cases h
    · simp [hu] at h
  cases hx : opc fr x <;> rw [hx] at hf <;> simp only [cutS] at hf <;> first | (cases hf; done) | skip
  · obtain ⟨c1, c2, c3, c4, c5⟩ := cond hf
    exact gen g.Z (.lo _ _) c1 c2 c3 c4 (opc_rel h hx (by simp) (by simp)).2 (fun v hv => hv) rfl c5
  · obtain ⟨c1, c2, c3, c4, c5⟩ := cond hf
    exact gen g.S (.hi _ _) c1 c2 c3 c4 (opc_rel h hx (by simp) (by simp)).2 (fun v hv => hv) rfl c5
  · obtain ⟨c1, c2, c3, c4, c5⟩ := cond hf
    exact gen g.S (.hi _ _) c1 c2 c3 c4 (opc_rel h hx (by simp) (by simp)).2.1 (fun v hv => hv) rfl c5
theorem cap_relP {bx : Nat → Bool} {p : Place} : ∀ {c : CV} {v : Value}, capOk c = true → rel w g bx p c v → relP w g bx c v
  | .ptr _ _, _, _, h => h
  | .rptr _, _, _, h => h
  | .hptr _, _, _, h => h
  | .eptr _ _ _ _ _ _, _, _, h => h
  | .int _ _, _, _, h => h
  | .bool _, _, _, h => h
  | .str _, _, _, h => h
  | .nils, _, _, h => h
  | .lo _ _, _, _, h => h
  | .hi _ _, _, _, h => h
  | .dead, _, h, _ => by simp [capOk] at h
  | .undef, _, h, _ => by simp [capOk] at h
  | .own _ _, _, h, _ => by simp [capOk] at h
  | .tmpo _ _, _, h, _ => by simp [capOk] at h
  | .ref _ _ _ _, _, h, _ => by simp [capOk] at h
  | .fn _ _, _, h, _ => by simp [capOk] at h
  | .mbox _, _, h, _ => by simp [capOk] at h
theorem makeFunc_ok (h : Ok st g fr a w) (hX : Fits X st) {f : FuncId} {first caps : Array Operand} (ho : o.op = .makeFunc (.func f) first caps) (hc : (first.isEmpty && caps.toList.all (fun x => capOk (opc fr x))) = true)
    (hf : fin X fr o.dst (.comp false [.fn f (caps.toList.map (opc fr))]) K = some r) : o.wp P a w (Good st K r) Q := by
  simp only [Bool.and_eq_true] at hc
  have hfirst : first = #[] := by simpa using hc.1
  subst hfirst
  refine one_ok (c := .fn f (caps.toList.map (opc fr))) (v := .func (.func f) #[] (caps.map a.eval)) h hX ?_ rfl ⟨caps.toList.map a.eval, by simp [← Array.toList_map], by simp, fun j c hj => ?_⟩ hf
  · simp [execOp, ho, Instr.makeFunc]
  · rw [List.getElem?_map] at hj
    cases hx : caps.toList[j]? with
    | none => rw [hx] at hj; simp at hj
    | some x =>
      rw [hx] at hj
      simp at hj
      subst hj
      have hcap := List.all_eq_true.1 hc.2 x (List.mem_of_getElem? hx)
      have hr := opc_rel h (x := x) rfl (by intro e; rw [e] at hcap; simp [capOk] at hcap) (by intro e; rw [e] at hcap; simp [capOk] at hcap)
      exact ⟨a.eval x, by rw [List.getElem?_map, hx]; rfl, cap_relP hcap hr.2⟩
end
/-! ### What a call is given, and what it promises -/
structure InitOk (w : World) (g : Gh) (args : List Comp) (vs : List Value) : Prop where
  eB : g.B = w.heap.size
  len : vs.length = args.length
  arg : ∀ (i : Nat) (p : Comp), args[i]? = some p → ∃ v : Value, vs[i]? = some v ∧ CRel w g (fun _ => false) i 0 p v
  own : ∀ b p, g.O b = some p → b < w.heap.size ∧ g.M b
  stab : ∀ b o, g.S b o → b < w.heap.size
  nobox : ∀ b s, g.O b ≠ some (.at s 0 0)
  zs : ∀ b o, g.Z b o → g.S b o ∧ b < g.B ∧ ¬ g.M b
  sz : ∀ b o, b < g.B → ¬ g.M b → g.S b o → g.Z b o
  hh : ∀ s c u, g.H s c = some u → u = .slice none 0 0 ∨ ∃ b n cap, u = .slice (some ⟨b, 0, none⟩) n cap
/-- a cell of a result -/
def RRel (w : World) (g : Gh) (k : Nat) : CV → Value → Prop
  | .own t xs, v | .tmpo t xs, v => OwnR w g (.air k) t xs v
  | .int j n, v => v = .int j n
  | .bool b, v => v = .bool b
  | .str s, v => v = .string s
  | .nils, v => v = .slice none 0 0
  | .lo t xs, v => RS w g.Z t xs v
  | .hi t xs, v | .ref _ _ t xs, v => RS w g.S t xs v
  | .undef, _ => False
  | .mbox cs, v => ∃ b arr ty, v = .pointer (some ⟨b, 0, none⟩) ∧ g.O b = some (.air k) ∧ w.heap[b]? = some (.cells arr ty (0, 0)) ∧ arr.toList.length = cs.length ∧ (∀ (j : Nat) (c : CV), cs[j]? = some c → ∃ u : Value, arr.toList[j]? = some u ∧ relF w g c u) ∧ ∀ o, ¬ g.S b o
  | _, v => v.oneCell' = true
def RComp (w : World) (g : Gh) (i : Nat) (p : Comp) (v : Value) : Prop :=
  match p with
  | (true, cs) => ∃ vs : List Value, v = .agg vs.toArray ∧ vs.length = cs.length ∧ ∀ (k : Nat) (c : CV), cs[k]? = some c → ∃ u : Value, vs[k]? = some u ∧ RRel w g (4096 * i + k) c u
  | (false, cs) => ∃ c, cs = [c] ∧ (c = .dead ∨ c = .undef ∨ RRel w g (4096 * i) c v)
def RVal (w : World) (g : Gh) (res : List Comp) (v : Value) : Prop :=
  match res with
  | [p] => RComp w g 0 p v
  | _ => ∃ us : List Value, v = .tuple us.toArray ∧ us.length = res.length ∧ ∀ (i : Nat) (p : Comp), res[i]? = some p → ∃ u : Value, us[i]? = some u ∧ RComp w g i p u
def cellsOf (v : Value) : List Value := match v with
  | .agg vs => vs.toList
  | v => [v]
/-- what the cells of the arguments that were written are now -/
def Outs (w' : World) (g' : Gh) (args : List Comp) (vs : List Value) : List Nat → List CV → Prop
  | [], l => l = []
  | j :: r, l => ∃ l1 l2 p v, l = l1 ++ l2 ∧ args[j]? = some p ∧ vs[j]? = some v ∧ l1.length = p.2.length ∧ (∀ (k : Nat) (t : Ty) (xs : List (Den t)), l1[k]? = some (.own t xs) → ∃ u : Value, (cellsOf v)[k]? = some u ∧ OwnR w' g' (.at j 0 (k + 1)) t xs u) ∧ Outs w' g' args vs r l2
structure ResOk (muts : List Nat) (w w' : World) (g g' : Gh) (args : List Comp) (vs : List Value) (res : List Comp) (v : Value) : Prop where
  eZ : g'.Z = g.Z
  os : w'.os = w.os
  tape : w'.tape = w.tape
  output : w'.output = w.output
  heap : w.heap.size ≤ w'.heap.size
  old : ∀ b, b < w.heap.size → ¬ g.M b → w'.heap[b]? = w.heap[b]?
  own : ∀ b p, g'.O b = some p → b < w'.heap.size ∧ (b < w.heap.size → g.M b)
  stab : ∀ b o, g'.S b o → b < w'.heap.size
  sz : ∀ b o, b < w.heap.size → ¬ g.M b → g'.S b o → g.Z b o
  val : ∃ rs outs, res = rs ++ (bif muts.isEmpty then [] else [(false, outs)]) ∧ RVal w' g' rs v ∧ (muts ≠ [] → Outs w' g' args vs muts outs)
def FnOk (P : Program) (f : FuncId) (F : Fn) : Prop :=
  ∀ {R : Type} (w : World) (g : Gh) (args : List Comp) (vs : List Value) (K : List Comp → Option R) (r : R), InitOk w g args vs → F.run args K = some r →
    Calls P f vs.toArray w fun e w' => ∃ v res g', e = .returned v ∧ K res = some r ∧ ResOk F.muts w w' g g' args vs res v
/-! ### A function whose first argument points to a box that it writes -/
/-- the ghost that it starts with; b: the box's block -/
def Gh.calleeB (w : World) (Z : Nat → Nat → Prop) (b : Nat) : Gh := { B := w.heap.size, M := fun b' => b' = b, Z := Z, S := Z, O := fun b' => if b' = b then some (.at 0 0 0) else none, H := fun _ _ => none, X := fun s => if s = 0 then some b else none }
def BoxCells (w : World) (g : Gh) (b : Nat) (cs : List CV) : Prop := ∃ arr ty, w.heap[b]? = some (.cells arr ty (0, 0)) ∧ arr.toList.length = cs.length ∧ ∀ (j : Nat) (c : CV), cs[j]? = some c → ∃ u : Value, arr.toList[j]? = some u ∧ relF w g c u
structure InitB (w : World) (Z : Nat → Nat → Prop) (b : Nat) (cs : List CV) (rest : List Comp) (vs : List Value) : Prop where
  box : BoxCells w (Gh.calleeB w Z b) b cs
  len : vs.length = rest.length
  arg : ∀ (i : Nat) (p : Comp), rest[i]? = some p → ∃ v : Value, vs[i]? = some v ∧ CRel w (Gh.calleeB w Z b) (fun _ => false) (i + 1) 0 p v
  zs : ∀ b' o, Z b' o → b' < w.heap.size ∧ b' ≠ b
structure ResB (w w' : World) (Z : Nat → Nat → Prop) (b : Nat) (g' : Gh) (rs : List Comp) (outs : List CV) (v : Value) : Prop where
  eZ : g'.Z = Z
  os : w'.os = w.os
  tape : w'.tape = w.tape
  output : w'.output = w.output
  heap : w.heap.size ≤ w'.heap.size
  old : ∀ b', b' < w.heap.size → b' ≠ b → w'.heap[b']? = w.heap[b']?
  own : ∀ b' p, g'.O b' = some p → b' < w'.heap.size ∧ (b' < w.heap.size → b' = b)
  bo : ∀ k, g'.O b ≠ some (.air k)
  stab : ∀ b' o, g'.S b' o → b' < w'.heap.size ∧ b' ≠ b
  sz : ∀ b' o, b' < w.heap.size → b' ≠ b → g'.S b' o → Z b' o
  val : RVal w' g' rs v
  out : BoxCells w' g' b outs
def FnOkB (P : Program) (f : FuncId) (F : Fn) : Prop :=
  ∀ {R : Type} (w : World) (Z : Nat → Nat → Prop) (b : Nat) (cs : List CV) (rest : List Comp) (vs : List Value) (K : List Comp → Option R) (r : R), InitB w Z b cs rest vs → F.run ((false, [.mbox cs]) :: rest) K = some r →
    Calls P f (.pointer (some ⟨b, 0, none⟩) :: vs).toArray w fun e w' => ∃ v rs outs g', e = .returned v ∧ K (rs ++ [(false, [.mbox outs])]) = some r ∧ ResB w w' Z b g' rs outs v
end Go.Rv

/- Operations that make rows and boxes. -/
import Derived.Test.YtlkmjldhhoopcaaRvOwn
import Derived.Great.BuildSlice
namespace Go.Rv
set_option linter.unusedSimpArgs false
set_option linter.unusedVariables false
section
variable {P : Program} {st : St} {g : Gh} {fr : Fr} {a : Act} {w : World} {X : Env} {o : Oper} {R : Type} {K : Fr → Option R} {r : R} {Q : Exit → Act → World → Prop}
/-! ### a new row -/
def Gh.newRow (g : Gh) (b n : Nat) : Gh := { g with
  O := fun b' => if b' = b then some (.air 0) else g.O b'
  S := fun b' o => g.S b' o ∨ (b' = b ∧ o < n) }
theorem heap_push_old {w w' : World} {ob : Obj} (hh : w'.heap = w.heap.push ob) {b : Nat} (hb : b < w.heap.size) : w'.heap[b]? = w.heap[b]? := by
  rw [hh, Array.getElem?_push, if_neg (by omega)]
theorem heap_push_new {w w' : World} {ob : Obj} (hh : w'.heap = w.heap.push ob) : w'.heap[w.heap.size]? = some ob := by
  rw [hh, Array.getElem?_push, if_pos rfl]
theorem Chg.newRow (h : Ok st g fr a w) {w' : World} {ob : Obj} (hh : w'.heap = w.heap.push ob) (n : Nat) (bx : Nat → Bool) : Chg g (g.newRow w.heap.size n) w w' bx bx (fun _ => True) (fun _ => True) where
  cB := rfl
  cM := rfl
  cZ := rfl
  zS := fun b o hz => (h.zs b o (by rw [← h.eZ]; exact hz)).1
  cbx := fun s hs => hs
  cX := fun s _ => rfl
  cS := fun b o hs => ⟨.inl hs, World.cell?_of_block (w := w) (heap_push_old hh (h.stab b o hs))⟩
  cL := fun b hl => heap_push_old hh (by have := h.heap; have := hl.1; rw [h.eB] at this; omega)
  cO := fun b p _ hO => by
    have hb := (h.own b p hO).1
    refine ⟨by simp only [Gh.newRow]; rw [if_neg (by omega)]; exact hO, heap_push_old hh hb, fun oo => ?_⟩
    simp only [Gh.newRow]
    constructor
    · rintro (e | ⟨e, _⟩)
      · exact e
      · omega
    · exact .inl
  cH := fun s c u _ hu => hu
  cHp := fun s i c hp => rfl
theorem newRow_ok (h : Ok st g fr a w) {w' : World} {arr : Array Value} {e : TypeId} (hh : w'.heap = w.heap.push (.cells arr e (0, 0))) (hos : w'.os = w.os) (htp : w'.tape = w.tape) (hout : w'.output = w.output)
    {t : Ty} {xs : List (Den t)} {cap : Nat} (h1 : xs.length ≤ cap) (h2 : cap ≤ maxLen) (h3 : arr.size = cap * t.cells)
    (hx : ∀ i x, xs[i]? = some x → ∃ ecs, rep w g.S t x ecs ∧ ∀ (j : Nat) (u : Value), ecs[j]? = some u → arr[i * t.cells + j]? = some u) :
    Ok st (g.newRow w.heap.size (xs.length * t.cells)) fr a w' ∧ rel w' (g.newRow w.heap.size (xs.length * t.cells)) (isBox fr) (.air 0) (.tmpo t xs) (.slice (some ⟨w.heap.size, 0, none⟩) xs.length cap) := by
  have hc := Chg.newRow h hh (xs.length * t.cells) (isBox fr)
  have hnew := heap_push_new hh
  refine ⟨?_, .inr ⟨w.heap.size, cap, arr, e, rfl, by simp [Gh.newRow], hnew, h1, h2, h3, fun i x hi => ?_, fun oo => ?_⟩, trivial⟩
  · exact {
      eB := h.eB, eM := h.eM, eZ := h.eZ, size := h.size, defers := h.defers, keep := h.keep
      slot := fun s => hc.kSlot (fun _ _ => trivial) (fun cs e => by simp [isBox, e, notBox]) (fun _ _ => trivial) (h.slot s)
      os := hos.trans h.os, tape := htp.trans h.tape, output := hout.trans h.output
      heap := by rw [hh]; simp; have := h.heap; omega
      old := fun b hb hm => (heap_push_old hh (by have := h.heap; omega)).trans (h.old b hb hm)
      own := fun b p hO => by
        simp only [Gh.newRow] at hO
        split at hO
        · rename_i e; subst e
          exact ⟨by rw [hh]; simp, fun hlt => by have := h.heap; omega⟩
        · have := h.own b p hO
          exact ⟨by rw [hh]; simp; omega, this.2⟩
      stab := fun b oo hs => by
        rcases hs with hs | ⟨e, _⟩
        · have := h.stab b oo hs; rw [hh]; simp; omega
        · rw [hh]; simp; omega
      boxS := fun b s hO oo hs => by
        simp only [Gh.newRow] at hO
        split at hO
        · cases hO
        · rename_i hne
          rcases hs with hs | ⟨e, _⟩
          · exact h.boxS b s hO oo hs
          · exact hne e
      zs := fun b oo hz => ⟨.inl (h.zs b oo hz).1, (h.zs b oo hz).2⟩
      sz := fun b oo hb hm hs => by
        rcases hs with hs | ⟨e, _⟩
        · exact h.sz b oo hb hm hs
        · have := h.heap; omega
      hh := h.hh }
  · obtain ⟨ecs, q1, q2⟩ := hx i x hi
    exact ⟨ecs, hc.kRep q1, q2⟩
  · simp only [Gh.newRow]
    constructor
    · rintro (e | ⟨_, e⟩)
      · have := h.stab _ _ e; omega
      · exact e
    · intro e; exact .inr ⟨by trivial, e⟩
theorem fin_row (hX : Fits X st) (h : Ok st g fr a w) {c : CV} {v : Value} {dst : Option Nat} (hv : rel w g (isBox fr) (.air 0) c v) (hf : fin X fr dst (.comp false [c]) K = some r) : Good st K r (a.put dst v) w :=
  fin_land (p := (false, [c])) hX h ⟨c, rfl, .inr (.inr hv)⟩ hf
/-! ### reading cells as a value -/
theorem listAs_rel (h : Ok st g fr a w) {bx : Nat → Bool} {p : Place} {t : Ty} {c : CV} {xs : List (Den t)} {v : Value} (hl : listAs t c = some xs) (hr : rel w g bx p c v) : RS w g.S t xs v := by
  have mono : ∀ {xs : List (Den t)}, RS w g.Z t xs v → RS w g.S t xs v := fun hz => rep_mono (fun b o hz => ⟨(h.zs b o (by rw [← h.eZ]; exact hz)).1, rfl⟩) hz
  cases c <;> simp only [listAs] at hl <;> first | (cases hl; done) | skip
  case nils =>
    cases hl
    have hv : v = .slice none 0 0 := hr
    subst hv
    exact ⟨none, 0, rfl, Nat.le_refl _, fun i x hx => by simp at hx⟩
  all_goals
    split at hl
    case isFalse => cases hl
    rename_i hu
    subst hu
    cases hl
  case lo => exact mono hr
  case hi => exact hr
  case own => exact hr.1.reads
  case tmpo => exact hr.1.reads
  case ref => exact hr.1
theorem pack_rel (h : Ok st g fr a w) {bx : Nat → Bool} : ∀ (t : Ty) (cs : List CV) (vs : List Value) (y : Den t) (rest : List CV), vs.length = cs.length → (∀ (j : Nat) (c : CV), cs[j]? = some c → ∃ u : Value, vs[j]? = some u ∧ ∃ p, rel w g bx p c u) →
    pack t cs = some (y, rest) → t.cells ≤ cs.length ∧ rest = cs.drop t.cells ∧ rep w g.S t y (vs.take t.cells)
  | .pair s t, cs, vs, y, rest, hl, hr, hp => by
    simp only [pack] at hp
    cases h1 : pack s cs with
    | none => rw [h1] at hp; cases hp
    | some q =>
      obtain ⟨x, r1⟩ := q
      rw [h1] at hp
      simp only at hp
      cases h2 : pack t r1 with
      | none => rw [h2] at hp; cases hp
      | some q =>
        obtain ⟨z, r2⟩ := q
        rw [h2] at hp
        simp only at hp
        cases hp
        obtain ⟨l1, e1, p1⟩ := pack_rel h s cs vs x r1 hl hr h1
        subst e1
        obtain ⟨l2, e2, p2⟩ := pack_rel h t (cs.drop s.cells) (vs.drop s.cells) z _ (by simp [hl]) (fun j c hj => by
          rw [List.getElem?_drop] at hj
          obtain ⟨u, q1, q2⟩ := hr _ c hj
          exact ⟨u, by rw [List.getElem?_drop]; exact q1, q2⟩) h2
        rw [List.length_drop] at l2
        refine ⟨by simp only [Ty.cells]; omega, by rw [e2, List.drop_drop]; rfl, vs.take s.cells, (vs.drop s.cells).take t.cells, ?_, p1, p2⟩
        simp only [Ty.cells]
        rw [List.take_add]
  | .int k, [], vs, y, rest, hl, hr, hp => by simp [pack] at hp
  | .bool, [], vs, y, rest, hl, hr, hp => by simp [pack] at hp
  | .str, [], vs, y, rest, hl, hr, hp => by simp [pack] at hp
  | .sl t, [], vs, y, rest, hl, hr, hp => by simp [pack] at hp
  | .int k, c :: cs, vs, y, rest, hl, hr, hp => by
    cases c <;> simp only [pack] at hp <;> first | (cases hp; done) | skip
    rename_i j n
    split at hp
    · rename_i hj; subst hj
      cases hp
      obtain ⟨u, q1, p, q2⟩ := hr 0 _ rfl
      cases vs with
      | nil => simp at q1
      | cons v vs =>
        simp at q1; subst q1
        obtain rfl : v = .int j _ := q2
        exact ⟨by simp [Ty.cells], rfl, rfl⟩
    · cases hp
  | .bool, c :: cs, vs, y, rest, hl, hr, hp => by
    cases c <;> simp only [pack] at hp <;> first | (cases hp; done) | skip
    cases hp
    obtain ⟨u, q1, p, q2⟩ := hr 0 _ rfl
    cases vs with
    | nil => simp at q1
    | cons v vs =>
      simp at q1; subst q1
      obtain rfl : v = .bool _ := q2
      exact ⟨by simp [Ty.cells], rfl, rfl⟩
  | .str, c :: cs, vs, y, rest, hl, hr, hp => by
    cases c <;> simp only [pack] at hp <;> first | (cases hp; done) | skip
    cases hp
    obtain ⟨u, q1, p, q2⟩ := hr 0 _ rfl
    cases vs with
    | nil => simp at q1
    | cons v vs =>
      simp at q1; subst q1
      obtain rfl : v = .string _ := q2
      exact ⟨by simp [Ty.cells], rfl, rfl⟩
  | .sl t, c :: cs, vs, y, rest, hl, hr, hp => by
    simp only [pack] at hp
    cases h1 : listAs t c with
    | none => rw [h1] at hp; cases hp
    | some xs =>
      rw [h1] at hp
      simp only at hp
      cases hp
      obtain ⟨u, q1, p, q2⟩ := hr 0 _ rfl
      cases vs with
      | nil => simp at q1
      | cons v vs =>
        simp at q1; subst q1
        exact ⟨by simp [Ty.cells], rfl, listAs_rel h h1 q2⟩
/-- the cells of a comp's value -/
theorem comp_cells {bx : Nat → Bool} {p : Comp} {v : Value} (h : FRel w g bx p v) (hs : p.1 = true ∨ p.2.all sure = true) : v.cells.toList.length = p.2.length ∧ ∀ (j : Nat) (c : CV), p.2[j]? = some c → ∃ u : Value, v.cells.toList[j]? = some u ∧ ∀ q, rel w g bx q c u := by
  obtain ⟨b, cs⟩ := p
  obtain ⟨hf, h⟩ := h
  cases b with
  | true =>
    obtain ⟨vs, rfl, h1, h2⟩ := h
    refine ⟨by simpa [Value.cells] using h1, fun j c hj => ?_⟩
    obtain ⟨u, e1, e2⟩ := h2 j c hj
    exact ⟨u, by simpa [Value.cells] using e1, fun q => rel_place (List.all_eq_true.1 hf c (List.mem_of_getElem? hj)) e2⟩
  | false =>
    obtain ⟨c, e, h⟩ := h
    subst e
    have hsure : sure c = true := by simpa using hs
    rcases h with rfl | ⟨rfl, _⟩ | h
    · simp [sure] at hsure
    · simp [sure] at hsure
    · have h1 := rel_one h
      have hc : v.cells = #[v] := by cases v <;> first | rfl | simp [Value.oneCell'] at h1
      refine ⟨by simp [hc], fun j c' hj => ?_⟩
      cases j with
      | zero => simp at hj; subst hj; exact ⟨v, by simp [hc], fun q => rel_place (by simpa using hf) h⟩
      | succ j => simp at hj
def headSure : List CV → Bool
  | c :: _ => sure c
  | [] => false
theorem pack_sure {t : Ty} {cs : List CV} {y : Den t} {rest : List CV} (h : pack t cs = some (y, rest)) : headSure cs = true := by
  induction t generalizing cs rest with
  | pair a b iha ihb =>
    simp only [pack] at h
    cases h1 : pack a cs with
    | none => rw [h1] at h; cases h
    | some q => obtain ⟨x, r⟩ := q; exact iha h1
  | _ => cases cs with
    | nil => simp [pack] at h
    | cons c cs => cases c <;> first | rfl | (simp [pack, listAs] at h)
theorem rowParts_ok (h : Ok st g fr a w) {t : Ty} : ∀ (ps : List (Nat × Operand)) (k : Nat) (xs : List (Den t)), rowParts fr t k ps = some xs →
    ∃ vs : List Value, ps.map (fun p => (p.1, a.eval p.2)) = (vs.zipIdx k).map (fun x => (x.2, x.1)) ∧ vs.length = ps.length ∧ xs.length = ps.length ∧ (∀ v ∈ vs, v.cells.size = t.cells) ∧ ∀ (i : Nat) (x : Den t), xs[i]? = some x → ∃ v : Value, vs[i]? = some v ∧ rep w g.S t x v.cells.toList
  | [], k, xs, hp => by
    simp only [rowParts] at hp; cases hp
    exact ⟨[], rfl, rfl, rfl, fun v hv => by simp at hv, fun i x hx => by simp at hx⟩
  | (i, x) :: ps, k, xs, hp => by
    simp only [rowParts] at hp
    cases hk : i.beq k
    case false => rw [hk] at hp; cases hp
    have := Nat.eq_of_beq_eq_true hk
    subst this
    simp only [hk, cond_true] at hp
    split at hp
    · rename_i y hy
      cases h2 : rowParts fr t (i + 1) ps with
      | none => rw [h2] at hp; cases hp
      | some ys =>
        rw [h2] at hp
        cases hp
        obtain ⟨vs, e1, e2, e3, e4, e5⟩ := rowParts_ok h ps (i + 1) ys h2
        have hF := opd_ok h x
        have hsure := pack_sure hy
        have hs : (opd fr x).1 = true ∨ (opd fr x).2.all sure = true := by
          cases hb : (opd fr x).1
          · refine .inr ?_
            obtain ⟨c, hc, _⟩ := (by have := hF.2; rw [show opd fr x = ((opd fr x).1, (opd fr x).2) from rfl, hb] at this; exact this : CRel w g (isBox fr) 0 0 (false, (opd fr x).2) (a.eval x))
            rw [hc] at hsure ⊢
            simpa [headSure] using hsure
          · exact .inl rfl
        obtain ⟨c1, c2⟩ := comp_cells hF hs
        obtain ⟨l1, l2, l3⟩ := pack_rel h t _ _ y [] c1 (fun j c hj => by obtain ⟨u, q1, q2⟩ := c2 j c hj; exact ⟨u, q1, .air 0, q2 _⟩) hy
        have hlen : (opd fr x).2.length = t.cells := by
          have := congrArg List.length l2
          simp at this; omega
        have hcl : (a.eval x).cells.toList.length = t.cells := by rw [c1, hlen]
        rw [List.take_of_length_le (by omega)] at l3
        refine ⟨a.eval x :: vs, by simp [List.zipIdx_cons, e1], by simp [e2], by simp [e3], fun v hv => ?_, fun k z hz => ?_⟩
        · rcases List.mem_cons.1 hv with rfl | hv
          · simpa using hcl
          · exact e4 v hv
        · cases k with
          | zero => simp at hz; subst hz; exact ⟨_, rfl, l3⟩
          | succ k => simp at hz; obtain ⟨v, q1, q2⟩ := e5 k z hz; exact ⟨v, by simpa using q1, q2⟩
    · cases hp
theorem cells_pos (t : Ty) : 0 < t.cells := by induction t <;> simp_all [Ty.cells]; omega
theorem buildSlice_ok (hT : TabOk P X) (h : Ok st g fr a w) (hX : Fits X st) {t : TypeId} {n : Nat} {ps : Array (Nat × Operand)} (ho : o.op = .buildSlice t n ps) {u : Ty} (hu : X.sl t = some u) {xs : List (Den u)} (hp : rowParts fr u 0 ps.toList = some xs)
    (hn : (ps.toList.length.beq n && (n * u.cells).ble 16777216) = true) (hf : fin X fr o.dst (.comp false [.tmpo u xs]) K = some r) : o.wp P a w (Good st K r) Q := by
  obtain ⟨e, he, ⟨ii, z, e1, e2, e3, e4, e5⟩⟩ := ti_slice hT hu
  simp only [Bool.and_eq_true] at hn
  have hn1 : ps.toList.length = n := Nat.eq_of_beq_eq_true hn.1
  have hn2 : n * u.cells ≤ 16777216 := Nat.le_of_ble_eq_true hn.2
  obtain ⟨vs, v1, v2, v3, v4, v5⟩ := rowParts_ok h ps.toList 0 xs hp
  have hparts : (ps.map fun (i, x) => (i, a.eval x)).toList = (vs.zipIdx 0).map (fun x => (x.2, x.1)) := by
    rw [Array.toList_map]; exact v1
  have hvn : vs.length = n := by rw [v2, hn1]
  have hxn : xs.length = n := by rw [v3, hn1]
  have key : ∃ arr, (execOp a.eval o).run P w = .ok (.value (.slice (some ⟨w.heap.size, 0, none⟩) n n)) (w.alloc (.cells arr e)) ∧ arr.size = n * u.cells ∧ ∀ i x, xs[i]? = some x → ∃ ecs, rep w g.S u x ecs ∧ ∀ (j : Nat) (c : Value), ecs[j]? = some c → arr[i * u.cells + j]? = some c := by
    by_cases h0 : n = 0
    · subst h0
      have hvs : vs = [] := List.eq_nil_of_length_eq_zero hvn
      have hxs : xs = [] := List.eq_nil_of_length_eq_zero hxn
      subst hvs hxs
      refine ⟨#[], ?_, by simp, fun i x hx => by simp at hx⟩
      have hps : ps.toList = [] := List.eq_nil_of_length_eq_zero hn1
      simp only [execOp, ho, Sem.run_bind]
      simp [Instr.buildSlice, run_underlying he, sizeOf, typeInfo, e1, hps, Instr.fill, newRow, Array.range_zero', Result.andThen]
    · have hpos := cells_pos u
      have hne : n * u.cells ≠ 0 := by have := Nat.mul_pos (Nat.pos_of_ne_zero h0) hpos; omega
      have hfill := Great.fill_whole hpos vs ((Array.range (n * ii.size)).map (z.cells[· % z.cells.size]!)) v4 (by simp [hvn, e2])
      refine ⟨(vs.flatMap fun v => v.cells.toList).toArray, ?_, ?_, fun i x hx => ?_⟩
      · simp only [execOp, ho, Sem.run_bind]
        rw [run_buildSlice w t e n _ _ ii z he e1 e4 (by rw [e2]; omega) (by rw [e2]; exact hne) (by rw [hparts, e2, ← hfill, e2])]
        rfl
      · simp only [List.size_toArray]
        rw [← hvn]
        clear hparts hfill v5 v2 hvn v1
        induction vs with
        | nil => simp
        | cons v vs ih =>
          rw [List.flatMap_cons, List.length_append, ih (fun v hv => v4 v (List.mem_cons_of_mem _ hv)), List.length_cons, Nat.add_mul]
          have := v4 v List.mem_cons_self
          simp only [Array.length_toList]
          omega
      · obtain ⟨v, q1, q2⟩ := v5 i x hx
        refine ⟨_, q2, fun j c hj => ?_⟩
        have hjl : j < u.cells := by
          have := (List.getElem?_eq_some_iff.1 hj).1
          rw [rep_length q2] at this; exact this
        simp only [List.getElem?_toArray]
        rw [Great.flat_get hpos vs v4]
        have d1 : (i * u.cells + j) / u.cells = i := by
          rw [Nat.mul_comm, Nat.mul_add_div hpos, Nat.div_eq_of_lt hjl]; omega
        have d2 : (i * u.cells + j) % u.cells = j := by
          rw [Nat.mul_comm, Nat.mul_add_mod, Nat.mod_eq_of_lt hjl]
        rw [d1, d2, q1]
        simpa using hj
  obtain ⟨arr, k1, k2, k3⟩ := key
  have hmax : n ≤ maxLen := by
    have := Nat.le_mul_of_pos_right n (cells_pos u)
    simp only [maxLen]; omega
  obtain ⟨ok, hr⟩ := newRow_ok (w' := w.alloc (.cells arr e)) (e := e) h rfl rfl rfl rfl (t := u) (xs := xs) (cap := n) (by omega) hmax k2 k3
  rw [hxn] at hr ok
  exact wp_value k1 (fin_row hX ok hr hf)
end
end Go.Rv

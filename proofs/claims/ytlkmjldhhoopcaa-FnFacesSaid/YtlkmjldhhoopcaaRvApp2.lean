/- append: the operation. -/
import Derived.Test.YtlkmjldhhoopcaaRvApp
namespace Go.Rv
set_option linter.unusedSimpArgs false
set_option linter.unusedVariables false
section
variable {P : Program} {st : St} {g : Gh} {fr : Fr} {a : Act} {w : World} {X : Env} {o : Oper} {R : Type} {K : Fr → Option R} {r : R} {Q : Exit → Act → World → Prop}
def Gh.more (g : Gh) (b n : Nat) : Gh := { g with S := fun b' o => g.S b' o ∨ (b' = b ∧ o < n) }
theorem moreRow_ok (h : Ok st g fr a w) {b : Nat} {cur : Array Value} {e' : TypeId} (hO : g.O b = some (.air 0)) (hb : w.heap[b]? = some (.cells cur e' (0, 0))) {t : Ty} {xs zs : List (Den t)} {cap : Nat} (hS : ∀ o, g.S b o ↔ o < xs.length * t.cells)
    {arr : Array Value} (hsz : arr.size = cur.size) (hlow : ∀ o, o < xs.length * t.cells → arr[o]? = cur[o]?) (hcap : zs.length ≤ cap) (hxz : xs.length ≤ zs.length) (hmax : cap ≤ maxLen) (hcs : cur.size = cap * t.cells)
    (hz : ∀ i x, zs[i]? = some x → ∃ ecs, rep w g.S t x ecs ∧ ∀ (j : Nat) (u : Value), ecs[j]? = some u → arr[i * t.cells + j]? = some u) :
    Ok st (g.more b (zs.length * t.cells)) fr a (w.setRow b arr) ∧ rel (w.setRow b arr) (g.more b (zs.length * t.cells)) (isBox fr) (.air 0) (.tmpo t zs) (.slice (some ⟨b, 0, none⟩) zs.length cap) := by
  have hown := h.own b _ hO
  have hne : ∀ b', b' < st.B → ¬ st.M b' → b' ≠ b := fun b' h1 h2 e => by subst e; exact h2 (hown.2 h1)
  have hnew := setRow_heap w b cur arr e' (0, 0) hb
  have hoth := fun b' hb' => setRow_other w b b' arr hb'
  have hmul : xs.length * t.cells ≤ zs.length * t.cells := Nat.mul_le_mul_right _ hxz
  have hc : Chg g (g.more b (zs.length * t.cells)) w (w.setRow b arr) (isBox fr) (isBox fr) (fun p => p ≠ .air 0) (fun _ => True) := {
    cB := rfl, cM := rfl, cZ := rfl
    zS := fun b o hz => (h.zs b o (by rw [← h.eZ]; exact hz)).1
    cbx := fun s hs => hs
    cX := fun s _ => rfl
    cS := fun b' o hs => ⟨.inl hs, by
      by_cases hbb : b' = b
      · subst hbb
        rw [cell_of_row _ _ _ arr e' (0, 0) hnew, cell_of_row _ _ _ cur e' (0, 0) hb]
        exact hlow o ((hS o).1 hs)
      · exact World.cell?_of_block (w := w) (hoth b' hbb)⟩
    cL := fun b' hl => hoth b' (hne b' (by rw [← h.eB]; exact hl.1) (by rw [← h.eM]; exact hl.2))
    cO := fun b' p hp hO' => by
      have hbb : b' ≠ b := fun e => by subst e; rw [hO] at hO'; cases hO'; exact hp rfl
      refine ⟨hO', hoth b' hbb, fun oo => ?_⟩
      simp only [Gh.more]
      constructor
      · rintro (e | ⟨e, _⟩)
        · exact e
        · exact absurd e hbb
      · exact .inl
    cH := fun s c u _ hu => hu
    cHp := fun s i c hp => rfl }
  refine ⟨?_, .inr ⟨b, cap, arr, e', rfl, hO, hnew, hcap, hmax, by rw [hsz, hcs], fun i x hi => ?_, fun oo => ?_⟩, trivial⟩
  · exact {
      eB := h.eB, eM := h.eM, eZ := h.eZ, size := h.size, defers := h.defers, keep := h.keep
      slot := fun s => hc.kSlot (fun _ _ e => by cases e) (fun cs e => by simp [isBox, e, notBox]) (fun _ _ => trivial) (h.slot s)
      os := h.os, tape := h.tape, output := h.output
      heap := by simpa using h.heap
      old := fun b' hb' hm => (hoth b' (hne b' hb' hm)).trans (h.old b' hb' hm)
      own := fun b' p hO' => by simpa using h.own b' p hO'
      stab := fun b' oo hs => by
        rcases hs with hs | ⟨e, _⟩
        · simpa using h.stab b' oo hs
        · subst e; simpa using hown.1
      boxS := fun b' s hO' oo hs => by
        rcases hs with hs | ⟨e, _⟩
        · exact h.boxS b' s hO' oo hs
        · subst e
          have : g.O b' = some (.at s 0 0) := hO'
          rw [hO] at this; cases this
      zs := fun b oo hz => ⟨.inl (h.zs b oo hz).1, (h.zs b oo hz).2⟩
      sz := fun b' oo hb' hm hs => by
        rcases hs with hs | ⟨e, _⟩
        · exact h.sz b' oo hb' hm hs
        · exact absurd e (hne b' hb' hm)
      hh := h.hh }
  · obtain ⟨ecs, q1, q2⟩ := hz i x hi
    exact ⟨ecs, hc.kRep q1, q2⟩
  · simp only [Gh.more]
    constructor
    · rintro (e | ⟨_, e⟩)
      · have := (hS oo).1 e; omega
      · exact e
    · intro e; exact .inr ⟨by trivial, e⟩
theorem append_run (hT : TabOk P X) (h : Ok st g fr a w) {t : TypeId} {u : Ty} (hu : X.sl t = some u) {ty : TypeId} {xs ys : List (Den u)} {vs vy : Value} (hs : OwnR w g (.air 0) u xs vs) (hy : RS w g.S u ys vy) (hlim : xs.length + ys.length < lim u) :
    ∃ v' w' g', (Builtin.append_ #[t, t] ty #[vs, vy]).run P w = .ok v' w' ∧ Ok st g' fr a w' ∧ rel w' g' (isBox fr) (.air 0) (.tmpo u (xs ++ ys)) v' := by
  obtain ⟨e, he, ⟨ii, z, e1, e2, e3, e4, e5⟩⟩ := ti_slice hT hu
  obtain ⟨news, s1, s2, s3, s4⟩ := src_of (P := P) hy
  have hpos := cells_pos u
  have hb48 := bytes_lim hlim e3
  have hmx := lim_max hlim
  have hz : z.cells.size = u.cells := by
    have := congrArg List.length e5
    rw [zeroV_length] at this; simpa using this
  rw [← e2] at s1
  -- a new row
  have grow : ∀ (A : Option Addr) (cap : Nat) (olds : List Value), vs = .slice A xs.length cap → Src P w ii.size xs.length vs olds → olds.length = xs.length * u.cells →
      (∀ i x, xs[i]? = some x → ∃ ecs, rep w g.S u x ecs ∧ ∀ (j : Nat) (c : Value), ecs[j]? = some c → olds[i * u.cells + j]? = some c) → cap < xs.length + ys.length →
      ∃ v' w' g', (Builtin.append_ #[t, t] ty #[vs, vy]).run P w = .ok v' w' ∧ Ok st g' fr a w' ∧ rel w' g' (isBox fr) (.air 0) (.tmpo u (xs ++ ys)) v' := by
    intro A cap olds hv hso hol hox hg
    have hfit := growslice_fits hg hb48
    have hrun := run_append_new (ty := ty) t e ii z he e1 e4 hv hso s1 hg hmx hfit
    have hge := grownCap_ge w (xs.length + ys.length) cap e
    have hcm := grownCap_le_maxLen w (xs.length + ys.length) cap e hmx
    generalize grownCap w (xs.length + ys.length) cap e = C at *
    have hlist : (xs ++ ys).length = xs.length + ys.length := List.length_append
    obtain ⟨ok, hr⟩ := newRow_ok (w' := w.drew.alloc (.cells (olds.toArray ++ news.toArray ++ Builtin.zeroCells z.cells (C - (xs.length + ys.length))) e)) (e := e) h rfl rfl rfl rfl (t := u) (xs := xs ++ ys) (cap := C) (by omega) hcm
      (by
        simp only [Array.size_append, List.size_toArray, hol, s2, size_zeroCells, hz]
        rw [← Nat.add_mul, ← Nat.add_mul]
        congr 1; omega)
      (fun i x hi => by
        obtain ⟨ecs, q1, q2⟩ := elems_append (w' := w) (S' := g.S) (rest := (Builtin.zeroCells z.cells (C - (xs.length + ys.length))).toList) hol s2 hox s4 i x hi
        refine ⟨ecs, q1, fun j c hj => ?_⟩
        rw [← q2 j c hj, ← Array.getElem?_toList]
        simp)
    rw [hlist] at hr
    exact ⟨_, _, _, hrun, ok, by rw [hlist]; exact hr⟩
  rcases hs with ⟨rfl, rfl⟩ | ⟨b, cap, cur, e', rfl, hO, hb, h1, h2, h3, h4, h5⟩
  · by_cases hm : ys.length = 0
    · have hys : ys = [] := List.eq_nil_of_length_eq_zero hm
      subst hys
      refine ⟨_, _, g, run_append_nilnil (ty := ty) t e ii he e1 s1 (List.eq_nil_of_length_eq_zero (by simpa using s2)), h, .inl ⟨rfl, rfl⟩, trivial⟩
    · exact grow none 0 [] rfl ⟨none, 0, rfl, fun w' _ => by simp [Builtin.firstCells]⟩ (by simp) (fun i x hx => by simp at hx) (by simp; omega)
  · have hol : (cur.toList.take (xs.length * u.cells)).length = xs.length * u.cells := by
      have : xs.length * u.cells ≤ cap * u.cells := Nat.mul_le_mul_right _ h1
      have hcl : cur.toList.length = cap * u.cells := by rw [Array.length_toList]; exact h3
      rw [List.length_take, hcl]; omega
    have hox : ∀ i x, xs[i]? = some x → ∃ ecs, rep w g.S u x ecs ∧ ∀ (j : Nat) (c : Value), ecs[j]? = some c → (cur.toList.take (xs.length * u.cells))[i * u.cells + j]? = some c := fun i x hi => by
      obtain ⟨ecs, q1, q2⟩ := h4 i x hi
      refine ⟨ecs, q1, fun j c hj => ?_⟩
      have hjl : j < u.cells := by have := (List.getElem?_eq_some_iff.1 hj).1; rw [rep_length q1] at this; exact this
      have hil := (List.getElem?_eq_some_iff.1 hi).1
      have : (i + 1) * u.cells ≤ xs.length * u.cells := Nat.mul_le_mul_right _ hil
      rw [Nat.add_mul] at this
      rw [List.getElem?_take, if_pos (by omega)]
      simpa using q2 j c hj
    by_cases hroom : xs.length + ys.length ≤ cap
    · have hcapm : (xs.length + ys.length) * u.cells ≤ cap * u.cells := Nat.mul_le_mul_right _ hroom
      rw [Nat.add_mul] at hcapm
      have hfit : xs.length * ii.size + news.length ≤ cur.size := by rw [e2, s2, h3]; omega
      have hrun := run_append_in (ty := ty) (P := P) t e ii he e1 b xs.length cap e' cur hb s1 s3 hroom hfit
      rw [e2] at hrun
      have hlist : (xs ++ ys).length = xs.length + ys.length := List.length_append
      obtain ⟨ok, hr⟩ := moreRow_ok (t := u) (xs := xs) (zs := xs ++ ys) (cap := cap) (arr := (cur.toList.take (xs.length * u.cells) ++ news ++ cur.toList.drop (xs.length * u.cells + news.length)).toArray) h hO hb h5
        (by
          have hcl : cur.toList.length = cap * u.cells := by rw [Array.length_toList]; exact h3
          simp only [List.size_toArray, List.length_append, hol, List.length_drop, hcl, h3, s2]; omega)
        (fun oo ho => by
          have : (cur.toList.take (xs.length * u.cells) ++ news ++ cur.toList.drop (xs.length * u.cells + news.length))[oo]? = cur.toList[oo]? := by
            rw [List.append_assoc, List.getElem?_append_left (by rw [hol]; exact ho), List.getElem?_take, if_pos ho]
          simpa using this)
        (by omega) (by omega) h2 h3
        (fun i x hi => by
          obtain ⟨ecs, q1, q2⟩ := elems_append (w' := w) (S' := g.S) (rest := cur.toList.drop (xs.length * u.cells + news.length)) hol s2 hox s4 i x hi
          refine ⟨ecs, q1, fun j c hj => ?_⟩
          rw [← q2 j c hj]; simp)
      rw [hlist] at hr ok
      exact ⟨_, _, _, hrun, ok, hr⟩
    · have hcell : ∀ w' : World, w'.heap = w.heap → (Builtin.firstCells ii.size xs.length (.slice (some ⟨b, 0, none⟩) xs.length cap)).run P w' = .ok (cur.toList.take (xs.length * u.cells)).toArray w' := fun w' hw => by
        refine run_firstCells_some (P := P) w' ii.size xs.length ⟨b, 0, none⟩ _ _ _ (by rw [e2]; exact hol) (fun j v hj => ?_)
        rw [List.getElem?_take] at hj
        split at hj
        · rw [Addr.add_mid, Nat.zero_add, cell_of_heap hw, cell_of_row w b j cur e' (0, 0) hb]
          simpa using hj
        · cases hj
      exact grow (some ⟨b, 0, none⟩) cap _ rfl ⟨_, _, rfl, hcell⟩ hol hox (by omega)
theorem append_ok (hT : TabOk P X) (h : Ok st g fr a w) (hX : Fits X st) {c : Call} (ho : o.op = .call c) (hc : c.callee = .builtin .append) {t : TypeId} (hat : c.argTypes.toList = [t, t]) {x y : Operand} (ha : c.args.toList = [x, y]) {u : Ty} (hu : X.sl t = some u)
    {ys : List (Den u)} (hy : listAs u (opc fr y) = some ys) {cv : CV} {fr1 : Fr} (ht : takeOpd fr x = ((false, [cv]), fr1)) {xs : List (Den u)} (hcv : cv = .tmpo u xs ∨ (cv = .nils ∧ xs = [])) (hlim : xs.length + ys.length < lim u)
    (hf : fin X fr1 o.dst (.comp false [.tmpo u (xs ++ ys)]) K = some r) : o.wp P a w (Good st K r) Q := by
  obtain ⟨ce, ⟨as⟩, ⟨ts⟩⟩ := c
  simp only at hc hat ha
  subst hc hat ha
  obtain ⟨g1, t1, hv⟩ := takeOpd_ok h ht 0
  have hny : opc fr y ≠ .dead ∧ opc fr y ≠ .undef := by constructor <;> (intro e; rw [e] at hy; simp [listAs] at hy)
  have hyr := t1.air 0 _ _ (opc_rel h rfl hny.1 hny.2).2
  have hyS : RS w g1.S u ys (a.eval y) := listAs_rel t1.ok hy hyr
  obtain ⟨c', e1, e2⟩ := hv
  simp only [List.cons.injEq, and_true] at e1
  subst e1
  have hown : OwnR w g1 (.air 0) u xs (a.eval x) := by
    rcases hcv with rfl | ⟨rfl, rfl⟩
    · rcases e2 with e2 | ⟨e2, _⟩ | e2
      · cases e2
      · cases e2
      · exact e2.1
    · rcases e2 with e2 | ⟨e2, _⟩ | e2
      · cases e2
      · cases e2
      · exact .inl ⟨e2, rfl⟩
  obtain ⟨v', w', g', k1, k2, k3⟩ := append_run (ty := o.type) hT t1.ok hu hown hyS hlim
  refine wp_value (v := v') (w' := w') ?_ (fin_row hX k2 k3 hf)
  simp [execOp, ho, resolve, invoke, builtin, k1, Result.andThen]
end
end Go.Rv

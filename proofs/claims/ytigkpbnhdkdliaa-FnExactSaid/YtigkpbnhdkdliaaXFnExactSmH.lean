/- The smoothest way home, as a function of the evaluator. -/
import Derived.Test.YtigkpbnhdkdliaaXFnExactSmY
namespace Go.Proofs.Ytigkpbnhdkdliaa.T
open Go.Rv Go.Rv.St Go.RowKit
set_option linter.unusedVariables false
set_option linter.unusedSimpArgs false
def smoothF (a0 a1 a2 a3 a4 a5 : Int) : Option (List Int × Int × Bool) :=
  if (limB a0 a1 && ins a0 (a2, a3, a4)) && inn 0 8 a5 then
    (if (sm a0 a1 a5.toNat (a2, a3, a4)).2.2 = true then some ((sm a0 a1 a5.toNat (a2, a3, a4)).2.1, (sm a0 a1 a5.toNat (a2, a3, a4)).1, true) else some ([], 0, false))
  else some ([], 0, false)
/-- the walk, all ways -/
theorem home_all (M H x y z n : Int) (w : World) : Calls Try.prog 14 #[.agg #[.int .i64 M, .int .i64 H], .agg #[.int .i64 x, .int .i64 y, .int .i64 z], .int .i64 n] w fun e w' => Fresh w w' ∧
    ∃ xs s ok, smoothF M H x y z n = some (xs, s, ok) ∧ ∃ v, e = .returned (.tuple #[v, .int .i64 s, .bool ok]) ∧ ((v = .slice none 0 0 ∧ xs = []) ∨ OwnOut w.heap.size w' xs v) := by
  by_cases hb : ((limB M H && ins M (x, y, z)) && inn 0 8 n) = true
  · have hb' := hb
    simp only [Bool.and_eq_true] at hb
    obtain ⟨⟨h1, h2⟩, h3⟩ := hb
    have hL := lim_iff.1 h1
    rw [inn_iff] at h3
    have hn : n = ((n.toNat : Nat) : Int) := by omega
    have hbd := sm_bd hL n.toNat (x, y, z)
    refine (home_good M H x y z n (sm M H n.toNat (x, y, z)).1 (sm M H n.toNat (x, y, z)).2.1 (sm M H n.toNat (x, y, z)).2.2 (by omega) w (fun w => by
        have := valid_c M H (x, y, z) w
        rw [h1, h2] at this
        exact this) (fun w => by
        have := within_c n 0 8 w
        rw [inn_iff.2 h3] at this
        exact this) fun W hF => ?_).mono ?_
    · have hB : w.heap.size ≤ (W.alloc (.map #[] 0)).heap.size := by rw [size_alloc]; have := hF.heap; omega
      have := deep hL w.heap.size W.heap.size n.toNat (by omega) (x, y, z) h2 (W.alloc (.map #[] 0)) (fun _ => False) hB (fun b h => h.elim) ⟨hF.heap, fun _ => (x, y, z), MapAll.new (alloc_new W _ _ rfl)⟩
      rw [← hn] at this
      refine this.mono ?_
      rintro e w' ⟨D', A, l, cap, r1, r2, r3, r4, r5, r6⟩
      exact ⟨D', A, l, cap, r1, r2, r4⟩
    · rintro e w' ⟨hF, hp⟩
      refine ⟨hF, ?_⟩
      unfold smoothF
      rw [if_pos hb']
      by_cases hok : (sm M H n.toNat (x, y, z)).2.2 = true
      · rw [if_pos hok] at hp ⊢
        obtain ⟨v, rfl, ho⟩ := hp
        exact ⟨_, _, _, rfl, v, rfl, .inr ho⟩
      · rw [if_neg hok] at hp ⊢
        exact ⟨_, _, _, rfl, _, hp, .inl ⟨rfl, rfl⟩⟩
  · have hb' : ((limB M H && ins M (x, y, z)) && inn 0 8 n) = false := by simpa using hb
    refine (home_bad M H x y z n w (limB M H && ins M (x, y, z)) (inn 0 8 n) hb' (valid_c M H (x, y, z)) (within_c n 0 8)).mono ?_
    rintro e w' ⟨he, hF⟩
    refine ⟨hF, [], 0, false, ?_, _, he, .inl ⟨rfl, rfl⟩⟩
    unfold smoothF
    rw [if_neg hb]
theorem dec_int1 {b : Bool} {c : CV} {n : Int} (h : FPat.dec b (.int .i64) c = some n) : c = .int .i64 n := by
  cases c with
  | int j m =>
    simp only [FPat.dec] at h
    split at h
    · rename_i e; subst e; cases h; rfl
    · cases h
  | _ => simp [FPat.dec] at h
theorem decs_int {bb : Bool} {ps : List Pat} {cs : List CV} {x : patsT (.fl (.int .i64) :: ps)} (h : decs bb (.fl (.int .i64) :: ps) cs = some x) : ∃ (a : Int) (cs' : List CV) (y : patsT ps), cs = .int .i64 a :: cs' ∧ x = (a, y) ∧ decs bb ps cs' = some y := by
  match cs, h with
  | [], h => cases h
  | c :: cs, h =>
    simp only [decs] at h
    split at h
    case h_2 => cases h
    rename_i a ha
    split at h
    case h_2 => cases h
    rename_i y hy
    cases h
    exact ⟨a, cs, y, by rw [dec_int1 ha], rfl, hy⟩
theorem decs_end {bb : Bool} {cs : List CV} {x : patsT []} (h : decs bb [] cs = some x) : cs = [] := by
  match cs, h with
  | [], _ => rfl
  | _ :: _, h => cases h
theorem decS_comp {bb g fl : Bool} {ps : List Pat} {cs : List CV} {x : patsT ps} (h : decS bb (some g, ps) (.comp fl cs) = some x) : fl = g ∧ decs bb ps cs = some x := by
  have h : (bif fl == g then decs bb ps cs else none) = some x := h
  obtain ⟨h1, h2⟩ := bif_some h
  exact ⟨by simpa using h1, h2⟩
theorem readCut_cons {all : CutP} {p : Nat × SPat} {r : CutP} {fr : Fr} {x : cutT (p :: r)} (h : readCut all (p :: r) fr = some x) : ∃ (a : patsT p.2.2) (y : cutT r), x = (a, y) ∧ decS (!refTo p.1 all) p.2 (fr p.1) = some a ∧ readCut all r fr = some y := by
  simp only [readCut] at h
  split at h
  case h_2 => cases h
  rename_i a ha
  split at h
  case h_2 => cases h
  rename_i y hy
  cases h
  exact ⟨a, y, rfl, ha, hy⟩
theorem int_arg {w : World} {g : Gh} {i : Nat} {v : Value} {a : Int} (h : CRel w g (fun _ => false) i 0 (false, [.int .i64 a]) v) : v = .int .i64 a := by
  obtain ⟨c0, hc0, hr⟩ := h
  cases hc0
  rcases hr with e | ⟨e, _⟩ | e
  · cases e
  · cases e
  · exact e
theorem agg_arg {w : World} {g : Gh} {i : Nat} {v : Value} {ns : List Int} (h : CRel w g (fun _ => false) i 0 (true, ns.map (CV.int .i64)) v) : v = .agg (ns.map (Value.int .i64)).toArray := by
  obtain ⟨us, rfl, hul, hu⟩ := h
  have : us = ns.map (Value.int .i64) := by
    apply List.ext_getElem?
    intro j
    rw [List.getElem?_map]
    cases hj : ns[j]? with
    | none =>
      have := List.getElem?_eq_none_iff.1 hj
      simp at hul
      exact List.getElem?_eq_none (by omega)
    | some a =>
      obtain ⟨u, q1, q2⟩ := hu j (.int .i64 a) (by rw [List.getElem?_map, hj]; rfl)
      have q2 : u = .int .i64 a := q2
      rw [q1, q2]
      rfl
  rw [this]
theorem smooth_fn : FnOk Try.prog 14 (mkFn 3 [(0, some true, [.fl (.int .i64), .fl (.int .i64)]), (1, some true, [.fl (.int .i64), .fl (.int .i64), .fl (.int .i64)]), (2, some false, [.fl (.int .i64)])] [(false, [.fl (.own (.int .i64))]), (false, [.fl (.int .i64)]), (false, [.fl .bool])] (keepOf [])
    (fun (y : List Int × Int × Bool) => (((y.1, ()), (y.2.1, ()), (y.2.2, ()), ()) : compT [(false, [.fl (.own (.int .i64))]), (false, [.fl (.int .i64)]), (false, [.fl .bool])])) fun x => smoothF x.1.1 x.1.2.1 x.2.1.1 x.2.1.2.1 x.2.1.2.2.1 x.2.2.1.1) := by
  intro R w g args vs K r hi hrun
  simp only [mkFn] at hrun
  obtain ⟨hl, hrun⟩ := bif_some hrun
  have hl := Nat.eq_of_beq_eq_true hl
  match args, hl with
  | [(f0, c0), (f1, c1), (f2, c2)], _ =>
  split at hrun
  case h_2 => cases hrun
  rename_i x hx
  obtain ⟨x0, y0, rfl, d0, hx⟩ := readCut_cons hx
  obtain ⟨x1, y1, rfl, d1, hx⟩ := readCut_cons hx
  obtain ⟨x2, y2, rfl, d2, hx⟩ := readCut_cons hx
  obtain ⟨rfl, d0⟩ := decS_comp (cs := c0) (fl := f0) d0
  obtain ⟨rfl, d1⟩ := decS_comp (cs := c1) (fl := f1) d1
  obtain ⟨rfl, d2⟩ := decS_comp (cs := c2) (fl := f2) d2
  obtain ⟨a0, cs, y, rfl, rfl, p0⟩ := decs_int d0
  obtain ⟨a1, cs, y, rfl, rfl, p1⟩ := decs_int p0
  cases decs_end p1
  obtain ⟨a2, cs, y, rfl, rfl, p2⟩ := decs_int d1
  obtain ⟨a3, cs, y, rfl, rfl, p3⟩ := decs_int p2
  obtain ⟨a4, cs, y, rfl, rfl, p4⟩ := decs_int p3
  cases decs_end p4
  obtain ⟨a5, cs, y, rfl, rfl, p5⟩ := decs_int d2
  cases decs_end p5
  obtain ⟨v0, hv0, r0⟩ := hi.arg 0 _ rfl
  obtain ⟨v1, hv1, r1⟩ := hi.arg 1 _ rfl
  obtain ⟨v2, hv2, r2⟩ := hi.arg 2 _ rfl
  have r0 := agg_arg (ns := [a0, a1]) r0
  have r1 := agg_arg (ns := [a2, a3, a4]) r1
  have r2 := int_arg r2
  have hvs : vs = [v0, v1, v2] := by
    have hlen := hi.len
    match vs, hlen, hv0, hv1, hv2 with
    | [p, q, s], _, hv0, hv1, hv2 => simp at hv0 hv1 hv2; rw [hv0, hv1, hv2]
  subst hvs r0 r1 r2
  refine (home_all a0 a1 a2 a3 a4 a5 w).mono ?_
  rintro e w' ⟨hF, xs, s, ok, hs, v, rfl, ho⟩
  have hrun : (smoothF a0 a1 a2 a3 a4 a5).bind (fun y => K [(false, [.own (.int .i64) y.1]), (false, [.int .i64 y.2.1]), (false, [.bool y.2.2])]) = some r := hrun
  rw [hs] at hrun
  have hrun : K [(false, [.own (.int .i64) xs]), (false, [.int .i64 s]), (false, [.bool ok])] = some r := hrun
  rcases ho with ⟨rfl, rfl⟩ | ⟨b, cap, cur, e, rfl, q1, q2, q3, q4, q5, q6, q7⟩
  · refine ⟨_, _, g, rfl, hrun, rfl, hF.os, hF.tape, hF.output, hF.heap, fun b hb _ => hF.old b hb, fun b p hp => ⟨Nat.lt_of_lt_of_le (hi.own b p hp).1 hF.heap, fun _ => (hi.own b p hp).2⟩, fun b o hs => Nat.lt_of_lt_of_le (hi.stab b o hs) hF.heap, fun b o hb hm hs => hi.sz b o (hi.eB ▸ hb) hm hs, ?_⟩
    refine ⟨_, [], (List.append_nil _).symm, ⟨[_, .int .i64 s, .bool ok], rfl, rfl, fun i p hp => ?_⟩, fun e => (e rfl).elim⟩
    match i, hp with
    | 0, hp => cases hp; exact ⟨_, rfl, _, rfl, .inr (.inr (.inl ⟨rfl, rfl⟩))⟩
    | 1, hp => cases hp; exact ⟨_, rfl, _, rfl, .inr (.inr rfl)⟩
    | 2, hp => cases hp; exact ⟨_, rfl, _, rfl, .inr (.inr rfl)⟩
    | n + 3, hp => simp at hp
  · have hbs := heap_lt q2
    let g2 : Gh := { g with O := fun b' => if b' = b then some (.air 0) else g.O b', S := fun b' o => if b' = b then o < xs.length else g.S b' o }
    refine ⟨_, _, g2, rfl, hrun, rfl, hF.os, hF.tape, hF.output, hF.heap, fun b hb _ => hF.old b hb, fun b' p hp => ?_, fun b' o hs => ?_, fun b' o hb' hm hs => ?_, ?_⟩
    · simp only [g2] at hp
      split at hp
      · rename_i e; subst e; exact ⟨hbs, fun h => absurd h (by omega)⟩
      · exact ⟨Nat.lt_of_lt_of_le (hi.own b' p hp).1 hF.heap, fun _ => (hi.own b' p hp).2⟩
    · simp only [g2] at hs
      split at hs
      · rename_i e; subst e; exact hbs
      · exact Nat.lt_of_lt_of_le (hi.stab b' o hs) hF.heap
    · simp only [g2] at hs
      split at hs
      · rename_i e; subst e; omega
      · exact hi.sz b' o (hi.eB ▸ hb') hm hs
    · refine ⟨_, [], (List.append_nil _).symm, ⟨[_, .int .i64 s, .bool ok], rfl, rfl, fun i p hp => ?_⟩, fun e => (e rfl).elim⟩
      match i, hp with
      | 0, hp =>
        cases hp
        refine ⟨_, rfl, _, rfl, .inr (.inr (.inr ⟨b, cap, cur, e, rfl, by simp [g2], q2, q3, q4, by simpa [Ty.cells] using q5, fun i x hx => ⟨[.int .i64 x], rfl, fun j u hj => ?_⟩, fun o => by simp [g2, Ty.cells], ?_⟩))⟩
        · match j, hj with
          | 0, hj => cases hj; simpa [Ty.cells] using q6 i x hx
          | j + 1, hj => simp at hj
        · refine ⟨fun o1 o2 x1 x2 n1 c1 n2 c2 h1 h2 h3 h4 => ?_, fun o x1 n1 c1 h1 h2 => ?_⟩
          · obtain ⟨z, hz⟩ := q7 o1 _ (by simpa [Ty.cells] using h1) h4; cases hz
          · obtain ⟨z, hz⟩ := q7 o _ (by simpa [Ty.cells] using h1) h2; cases hz
      | 1, hp => cases hp; exact ⟨_, rfl, _, rfl, .inr (.inr rfl)⟩
      | 2, hp => cases hp; exact ⟨_, rfl, _, rfl, .inr (.inr rfl)⟩
      | n + 3, hp => simp at hp
end Go.Proofs.Ytigkpbnhdkdliaa.T

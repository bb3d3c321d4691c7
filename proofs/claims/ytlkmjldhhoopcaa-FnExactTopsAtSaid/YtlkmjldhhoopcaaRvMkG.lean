/- laws.markGround, walked by hand, as a function of the evaluator. -/
import Derived.Test.YtlkmjldhhoopcaaRvMk68
import Derived.Test.YtlkmjldhhoopcaaRvToH
namespace Go.Proofs.Ytlkmjldhhoopcaa.T
open Go.Rv
set_option linter.unusedVariables false
set_option linter.unusedSimpArgs false
def markGF (ds : List Int) (hs : List (Int × List Int)) (s : Int) : Option Int := if decide (ds.length ≤ 1048576) = true then if hok hs = true then if 1 ≤ s ∧ s ≤ 1000000 then some (s + ds.length + (hs.map fun h => 1 + (h.2.length : Int)).sum) else none else none else none
def lenAt (hs : List (Int × List Int)) (j : Nat) : Nat := (hs.getD j (0, [])).2.length
theorem tot_sum (hs : List (Int × List Int)) : ∀ k, k ≤ hs.length → ((tot (lenAt hs) k : Nat) : Int) = ((hs.take k).map fun h => 1 + (h.2.length : Int)).sum
  | 0, _ => by simp [tot]
  | k + 1, hk => by
    have ih := tot_sum hs k (by omega)
    have hx : hs[k]? = some hs[k] := List.getElem?_eq_getElem (by omega)
    rw [List.take_add_one, hx]
    simp only [Option.toList_some, List.map_append, List.map_cons, List.map_nil, List.sum_append, List.sum_cons, List.sum_nil, tot]
    have hl : lenAt hs k = hs[k].2.length := by simp [lenAt, List.getD, hx]
    rw [hl]
    omega
def OwnLike (t : Ty) (xs : List (Den t)) (c : CV) : Prop := c = .own t xs ∨ c = .tmpo t xs ∨ (c = .nils ∧ xs = [])
theorem dec_own {b : Bool} {t : Ty} {c : CV} {x : List (Den t)} (h : FPat.dec b (.own t) c = some x) : OwnLike t x c := by
  cases c <;> simp only [FPat.dec] at h <;> first | (cases h; done) | skip
  · cases b
    · cases h
    · simp only [cond_true, Option.some.injEq] at h; exact .inr (.inr ⟨rfl, h.symm⟩)
  · split at h
    · rename_i e; subst e; simp only [Option.some.injEq] at h; subst h; exact .inl rfl
    · cases h
  · cases b
    · cases h
    · simp only [cond_true] at h
      split at h
      · rename_i e; subst e; simp only [Option.some.injEq] at h; subst h; exact .inr (.inl rfl)
      · cases h
theorem own_of {w : World} {g : Gh} {bx : Nat → Bool} {k : Nat} {t : Ty} {xs : List (Den t)} {c : CV} {u : Value} (h : OwnLike t xs c) (hr : rel w g bx (.at 0 0 k) c u) : OwnR w g (.at 0 0 k) t xs u := by
  rcases h with rfl | rfl | ⟨rfl, rfl⟩
  · exact hr.1
  · exact hr.1
  · exact .inl ⟨hr, rfl⟩
theorem dec_two {b fl : Bool} {cs : List CV} {t u : Ty} {y : patsT [Pat.fl (.own t), Pat.fl (.own u)]} (h : decS b (some true, [.fl (.own t), .fl (.own u)]) (.comp fl cs) = some y) : fl = true ∧ ∃ c d, cs = [c, d] ∧ OwnLike t y.1 c ∧ OwnLike u y.2.1 d := by
  simp only [decS] at h
  cases fl
  case false => cases h
  refine ⟨rfl, ?_⟩
  have h : decs b [.fl (.own t), .fl (.own u)] cs = some y := h
  match cs, h with
  | [], h => cases h
  | [c], h =>
    simp only [decs] at h
    split at h <;> cases h
  | c :: d :: e :: r, h =>
    simp only [decs] at h
    split at h
    · split at h
      · rename_i h2
        split at h2 <;> cases h2
      · cases h
    · cases h
  | [c, d], h =>
    simp only [decs, Pat.dec] at h
    cases hc : FPat.dec b (.own t) c with
    | none => rw [hc] at h; cases h
    | some x =>
      rw [hc] at h
      cases hd : FPat.dec b (.own u) d with
      | none => rw [hd] at h; cases h
      | some z =>
        rw [hd] at h
        simp only [Option.some.injEq] at h
        subst h
        exact ⟨c, d, rfl, dec_own hc, dec_own hd⟩
theorem dec_i64 {b fl : Bool} {cs : List CV} {y : patsT [Pat.fl (.int .i64)]} (h : decS b (some false, [.fl (.int .i64)]) (.comp fl cs) = some y) : fl = false ∧ cs = [.int .i64 y.1] := by
  simp only [decS] at h
  cases fl
  case true => cases h
  refine ⟨rfl, ?_⟩
  have h : decs b [.fl (.int .i64)] cs = some y := h
  match cs, h with
  | [], h => cases h
  | [c], h =>
    simp only [decs, Pat.dec] at h
    cases c <;> simp only [FPat.dec] at h <;> first | (cases h; done) | skip
    case int k n _ =>
      by_cases hk : k = .i64
      · subst hk
        simp only [if_true, Option.some.injEq] at h
        subst h
        rfl
      · rw [if_neg hk] at h; cases h
  | c :: d :: r, h =>
    simp only [decs] at h
    split at h <;> cases h
theorem ints_of {w : World} {g : Gh} {p : Rv.Place} {ds : List Int} {u : Value} (h : OwnR w g p (.int .i64) ds u) : ∃ A cap b, u = .slice A ds.length cap ∧ (0 < ds.length → A = some ⟨b, 0, none⟩ ∧ g.O b = some p) ∧
    ∀ j, j < ds.length → (∃ m, w.cell? ⟨b, 0 + j, none⟩ = some (.int .i64 m)) ∧ w.frozen? ⟨b, 0 + j, none⟩ = false := by
  rcases h with ⟨rfl, rfl⟩ | ⟨b, cap, cur, e, rfl, hO, hb, h1, h2, hs, hx, hS⟩
  · exact ⟨none, 0, 0, rfl, fun h => by simp at h, fun j h => by simp at h⟩
  · refine ⟨_, cap, b, rfl, fun _ => ⟨rfl, hO⟩, fun j hj => ?_⟩
    obtain ⟨ecs, hr, hc⟩ := hx j ds[j] (List.getElem?_eq_getElem hj)
    have hr : ecs = [.int .i64 ds[j]] := hr
    subst hr
    have hc := hc 0 _ rfl
    simp only [Ty.cells, Nat.mul_one, Nat.add_zero] at hc
    refine ⟨⟨ds[j], ?_⟩, ?_⟩
    · rw [Nat.zero_add, cell_of_row w b _ cur e (0, 0) hb]; exact hc
    · unfold World.frozen?; simp only [hb]; simp
theorem holes_of {w : World} {g : Gh} {p : Rv.Place} {hs : List (Int × List Int)} {u : Value} (h : OwnR w g p HoT hs u) (M : Nat → Prop) (hM : ∀ b, g.O b = some p → M b) : ∃ A cap b, u = .slice A hs.length cap ∧ (0 < hs.length → A = some ⟨b, 0, none⟩ ∧ M b) ∧
    ∀ j, j < hs.length → Elt M w b (lenAt hs) j := by
  rcases h with ⟨rfl, rfl⟩ | ⟨b, cap, cur, e, rfl, hO, hb, h1, h2, hsz, hx, hS⟩
  · exact ⟨none, 0, 0, rfl, fun h => by simp at h, fun j h => by simp at h⟩
  · refine ⟨_, cap, b, rfl, fun _ => ⟨rfl, hM _ hO⟩, fun j hj => ?_⟩
    have hj2 : hs[j]? = some hs[j] := List.getElem?_eq_getElem hj
    obtain ⟨ecs, hr, hc⟩ := hx j hs[j] hj2
    obtain ⟨c1, c2, rfl, r1, r2⟩ := hr
    have r1 : c1 = [.int .i64 hs[j].1] := r1
    subst r1
    obtain ⟨A, cap', rfl, hcap, hin⟩ := r2
    have hl : lenAt hs j = hs[j].2.length := by simp [lenAt, List.getD, hj2]
    have q0 := hc 0 _ rfl
    have q1 := hc 1 _ rfl
    have hcell : ∀ o, w.cell? ⟨b, o, none⟩ = cur[o]? := fun o => cell_of_row w b _ cur e (0, 0) hb
    have hfr : w.frozen? ⟨b, j * 2, none⟩ = false := by unfold World.frozen?; simp only [hb]; simp
    by_cases hz : 0 < hs[j].2.length
    · obtain ⟨a, ec, rfl, ha, hr0, hc0⟩ := hin 0 hs[j].2[0] (List.getElem?_eq_getElem hz)
      obtain ⟨ab, ao, asp⟩ := a
      simp only at ha
      subst ha
      refine ⟨hs[j].1, _, cap', ab, ao, by rw [hcell]; exact q0, hfr, by rw [hcell, hl]; exact q1, fun _ => ⟨rfl, ?_, fun i hi => ?_⟩⟩
      · have hr0 : ec = [.int .i64 hs[j].2[0]] := hr0
        subst hr0
        exact hM _ (hc0 0 _ rfl).1.2.1
      · rw [hl] at hi
        obtain ⟨a', ec', e1, _, hr', hc'⟩ := hin i hs[j].2[i] (List.getElem?_eq_getElem hi)
        cases e1
        have hr' : ec' = [.int .i64 hs[j].2[i]] := hr'
        subst hr'
        have hk := hc' 0 _ rfl
        simp only [Ty.cells, Nat.mul_one, Nat.add_zero] at hk
        obtain ⟨arr, ee, hbb⟩ := hk.1.2.2
        exact ⟨⟨_, hk.2⟩, by unfold World.frozen?; simp only [hbb]; simp⟩
    · refine ⟨hs[j].1, A, cap', 0, 0, by rw [hcell]; exact q0, hfr, by rw [hcell, hl]; exact q1, fun h => by omega⟩
theorem markG_fn : FnOk Try.prog 30 (mkFn 2 [(0, some true, [.fl (.own (.int .i64)), .fl (.own HoT)]), (1, some false, [.fl (.int .i64)])] [(false, [.fl (.int .i64)]), (false, [.fl .dead, .fl .dead])] (keepOf [(0, 2)])
    (fun (y : Int) => (((y, ()), ((), (), ()), ()) : compT [(false, [.fl (.int .i64)]), (false, [.fl .dead, .fl .dead])])) fun x => markGF x.1.1 x.1.2.1 x.2.1.1) := by
  intro R w g args vs K r hi hrun
  simp only [mkFn] at hrun
  obtain ⟨hl, hrun⟩ := bif_some hrun
  have hl := Nat.eq_of_beq_eq_true hl
  match args, hl with
  | [(f0, cs0), (f1, cs1)], _ =>
  split at hrun
  case h_2 => cases hrun
  rename_i x hx
  simp only [readCut] at hx
  split at hx
  case h_2 => cases hx
  rename_i x0 hq0
  split at hx
  case h_2 => cases hx
  rename_i x1 hq1
  split at hq1
  case h_2 => cases hq1
  rename_i x2 hq2
  cases hq1
  cases hx
  obtain ⟨rfl, c1, c2, rfl, k1, k2⟩ := dec_two hq0
  obtain ⟨rfl, rfl⟩ := dec_i64 hq2
  obtain ⟨v, hv, us, rfl, hul, hus⟩ := hi.arg 0 _ rfl
  obtain ⟨v2, hv2, c0, hc0, hr⟩ := hi.arg 1 _ rfl
  have hc0 : .int .i64 x2.1 = c0 := by simpa using hc0
  subst hc0
  have hr : v2 = .int .i64 x2.1 := by
    rcases hr with e | ⟨e, _⟩ | e
    · cases e
    · cases e
    · exact e
  subst hr
  obtain ⟨u1, hu1, hr1⟩ := hus 0 c1 rfl
  obtain ⟨u2, hu2, hr2⟩ := hus 1 c2 rfl
  have hue : us = [u1, u2] := by
    match us, hul, hu1, hu2 with
    | [a, b], _, hu1, hu2 => simp at hu1 hu2; rw [hu1, hu2]
  subst hue
  have hvs : vs = [.agg #[u1, u2], .int .i64 x2.1] := by
    have hlen := hi.len
    match vs, hlen, hv, hv2 with
    | [p, q], _, hv, hv2 => simp at hv hv2; rw [hv, hv2]
  subst hvs
  obtain ⟨ds, hds⟩ : ∃ ds : List Int, ds = x0.1 := ⟨_, rfl⟩
  obtain ⟨hs, hhs⟩ : ∃ hs : List (Int × List Int), hs = x0.2.1 := ⟨_, rfl⟩
  obtain ⟨s, hss⟩ : ∃ s : Int, s = x2.1 := ⟨_, rfl⟩
  have o1 := own_of k1 hr1
  have o2 := own_of k2 hr2
  rw [← hds] at o1
  rw [← hhs] at o2
  have hrun : (markGF ds hs s).bind (fun y => K (encC [(false, [.fl (.int .i64)]), (false, [.fl .dead, .fl .dead])] ((y, ()), ((), (), ()), ()))) = some r := by rw [hds, hhs, hss]; exact hrun
  rw [← hss] at hi ⊢
  clear hq0 hq2 hds hhs hss k1 k2 hr1 hr2
  unfold markGF at hrun
  by_cases h1 : decide (ds.length ≤ 1048576) = true
  case neg => rw [if_neg h1] at hrun; cases hrun
  by_cases h2 : hok hs = true
  case neg => rw [if_pos h1, if_neg h2] at hrun; cases hrun
  by_cases h3 : 1 ≤ s ∧ s ≤ 1000000
  case neg => rw [if_pos h1, if_pos h2, if_neg h3] at hrun; cases hrun
  rw [if_pos h1, if_pos h2, if_pos h3] at hrun
  have h1 := of_decide_eq_true h1
  simp only [hok, Bool.and_eq_true, decide_eq_true_eq, List.all_eq_true] at h2
  obtain ⟨A, cap, b, rfl, p1, p2⟩ := ints_of o1
  obtain ⟨A0, cap0, b0, rfl, p3, p4⟩ := holes_of o2 (fun b => g.M b ∧ b < w.heap.size) (fun b hb => ⟨(hi.own b _ hb).2, (hi.own b _ hb).1⟩)
  have hlen : ∀ j, j < hs.length → lenAt hs j ≤ 1048576 := fun j hj => by
    have hj2 : hs[j]? = some hs[j] := List.getElem?_eq_getElem hj
    have : lenAt hs j = hs[j].2.length := by simp [lenAt, List.getD, hj2]
    rw [this]
    exact h2.2 _ (List.getElem_mem hj)
  have hts := tot_sum hs hs.length (Nat.le_refl _)
  rw [List.take_length] at hts
  refine (mark30 (M := fun b => g.M b ∧ b < w.heap.size) A A0 ds.length cap b 0 b0 hs.length cap0 (lenAt hs) s ⟨by omega, by omega⟩ h1 h2.1 hlen w (fun h => ⟨(p1 h).1, (hi.own _ _ (p1 h).2).2, (hi.own _ _ (p1 h).2).1⟩) p3 (fun b h => h.2) p2 p4).mono ?_
  rintro e w' ⟨rfl, o, hI⟩
  rw [hts] at *
  refine ⟨_, _, { g with O := fun _ => none, S := g.Z }, rfl, hrun, rfl, hI.os, hI.tape, hI.output, ?_, fun b hb hm => ?_, fun b p hp => ?_, fun b o hs => ?_, fun b o hb hm hs => hs, ?_⟩
  · rw [hI.size, World.size_alloc]; omega
  · rw [hI.old b (fun h => hm h.1)]; exact heap_alloc_old w o hb
  · cases hp
  · rw [hI.size, World.size_alloc]
    have := (hi.zs _ _ hs).1
    have := hi.stab _ _ this
    omega
  · refine ⟨[(false, [.int .i64 _])], [.dead, .dead], rfl, ⟨_, rfl, .inr (.inr rfl)⟩, fun _ => ⟨[.dead, .dead], [], _, _, rfl, rfl, rfl, rfl, fun k t xs hk => ?_, rfl⟩⟩
    match k, hk with
    | 0, hk => cases hk
    | 1, hk => cases hk
    | k + 2, hk => simp at hk
end Go.Proofs.Ytlkmjldhhoopcaa.T

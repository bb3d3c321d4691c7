/- laws.toHoleS, walked with the kit's steps (printed), as a function of the evaluator. -/
import Derived.Test.YtlkmjldhhoopcaaRvToHm
import Derived.Test.YtlkmjldhhoopcaaRvM2
namespace Go.Proofs.Ytlkmjldhhoopcaa.T
open Go.Rv
open Go.Proofs.YtlkmjldhhoopcaaW.PrintWords (Kd Reps ReadsRow OwnRow)
open Go.Proofs.Ytlkmjldhhoopcaa.G (S96 S40 k96 k40)
set_option linter.unusedVariables false
set_option linter.unusedSimpArgs false
abbrev HoT : Ty := .pair (.int .i64) (.sl (.int .i64))
def hok (xs : List (Int × List Int)) : Bool := decide (xs.length ≤ 1048576) && xs.all fun x => decide (x.2.length ≤ 1048576)
def toHoleF (xs : List (Int × List Int)) : Option (List (Int × List Int)) := if hok xs = true then some xs else none
def m96 (x : Int × List Int) : S96 := ⟨x.1, x.2⟩
def m40 (x : Int × List Int) : S40 := ⟨x.1, x.2⟩
theorem addP (g o j : Nat) : (⟨g, o, none⟩ : Addr).add j = ⟨g, o + j, none⟩ := by unfold Addr.add; split <;> simp_all
theorem conv1 {w : World} {Z : Nat → Nat → Prop} {ds : List Int} {v : Value} (h : RS w Z (.int .i64) ds v) (hl : ds.length ≤ 1048576) : ∃ A c, v = .slice A ds.length c ∧ ds.length ≤ c ∧ (Kd.int .i64).C w A ds.length ds := by
  obtain ⟨A, cap, hv, hc, hx⟩ := h
  simp only [List.cons.injEq, and_true] at hv
  refine ⟨A, cap, hv, hc, rfl, by omega, fun hn => ?_⟩
  obtain ⟨a, _, e, hs, _, _⟩ := hx 0 ds[0] (by simp)
  refine ⟨a, e, fun j p hj => ?_⟩
  obtain ⟨a', ecs, e', _, hrep, hcells⟩ := hx j p hj
  rw [e] at e'; cases e'
  simp only [rep] at hrep
  subst hrep
  refine ⟨[.int .i64 p], rfl, rfl, fun i u hu => ?_⟩
  have := (hcells i u hu).2
  simp only [Ty.cells] at this
  obtain ⟨ab, ao, asp⟩ := a
  simp only at hs
  subst hs
  rw [addP]
  exact this
theorem conv2 {w : World} {Z : Nat → Nat → Prop} {xs : List (Int × List Int)} {v : Value} (h : RS w Z HoT xs v) (hl : xs.length ≤ 1048576) (hx0 : ∀ x ∈ xs, x.2.length ≤ 1048576) :
    ∃ A c, v = .slice A xs.length c ∧ xs.length ≤ c ∧ Kd.C k96 w A (xs.map m96).length (xs.map m96) := by
  obtain ⟨A, cap, hv, hc, hx⟩ := h
  simp only [List.cons.injEq, and_true] at hv
  refine ⟨A, cap, hv, hc, rfl, by rw [List.length_map]; omega, fun hn => ?_⟩
  rw [List.length_map] at hn
  obtain ⟨a, _, e, hs, _, _⟩ := hx 0 xs[0] (by simp)
  refine ⟨a, e, fun j p hj => ?_⟩
  rw [List.getElem?_map] at hj
  obtain ⟨x, hjx, rfl⟩ := Option.map_eq_some_iff.1 hj
  obtain ⟨a', ecs, e', _, hrep, hcells⟩ := hx j x hjx
  rw [e] at e'; cases e'
  obtain ⟨c, d, rfl, hr1, hr2⟩ := hrep
  simp only [rep] at hr1
  subst hr1
  have hd : ∃ v1, d = [v1] := by
    obtain ⟨A1, c1, hd, _⟩ := hr2
    exact ⟨_, hd⟩
  obtain ⟨v1, rfl⟩ := hd
  obtain ⟨A1, c1, rfl, l1, g1⟩ := conv1 hr2 (hx0 x (List.mem_of_getElem? hjx))
  refine ⟨[.int .i64 x.1, .slice A1 x.2.length c1], rfl, Go.Proofs.Ytlkmjldhhoopcaa.G.k96_mk w (m96 x) l1 g1, fun i u hu => ?_⟩
  have := (hcells i u hu).2
  simp only [Ty.cells] at this
  obtain ⟨ab, ao, asp⟩ := a
  simp only at hs
  subst hs
  rw [addP]
  exact this
theorem take_get {l inner : List Value} {m k : Nat} {u : Value} (h : l.take m = inner) (hk : inner[k]? = some u) : l[k]? = some u := by
  rw [← h] at hk
  rw [List.getElem?_take] at hk
  split at hk
  · exact hk
  · cases hk
theorem seg_get {inner cs : List Value} {a n j : Nat} {u : Value} (h : (inner.drop a).take n = cs) (hj : cs[j]? = some u) : inner[a + j]? = some u := by
  rw [← h, List.getElem?_take] at hj
  split at hj
  · rwa [List.getElem?_drop] at hj
  · cases hj
theorem conv3 {w : World} {base : Nat} {ok : Nat → Prop} {v : Value} {ds : List Int} (h : (Kd.int .i64).R 2 w base ok v ds) : RS w (fun b _ => base ≤ b ∧ b < w.heap.size ∧ ∃ cells, w.heap[b]? = some (.cells cells 2 (0, 0))) (.int .i64) ds v := by
  obtain ⟨_, inner, ⟨h1, h2⟩, h3, h4⟩ := h
  rcases h2 with ⟨rfl, hn⟩ | ⟨g, cap, cur, rfl, hg, hh, hle, hcm, hsz, htake⟩
  · have : ds = [] := List.length_eq_zero_iff.1 hn
    subst this
    exact ⟨none, 0, rfl, Nat.le_refl _, fun i x hx => by simp at hx⟩
  · refine ⟨some ⟨g, 0, none⟩, cap, rfl, hle, fun i x hx => ⟨⟨g, 0, none⟩, [.int .i64 x], rfl, rfl, rfl, fun j u hu => ?_⟩⟩
    have hlt : g < w.heap.size := by
      rcases Nat.lt_or_ge g w.heap.size with h | h
      · exact h
      · rw [Array.getElem?_eq_none h] at hh; cases hh
    have hm := h4 i x hx
    have hm : (inner.drop (i * 1)).take 1 = [.int .i64 x] := hm
    have hc := take_get htake (seg_get hm hu)
    refine ⟨⟨hg, hlt, cur, hh⟩, ?_⟩
    simp only [Ty.cells, Nat.zero_add]
    show w.cell? ⟨g, i * 1 + j, none⟩ = some u
    unfold World.cell?
    simp only [hh]
    simpa using hc
theorem dec_lo {b fl : Bool} {cs : List CV} {t : Ty} {y : patsT [Pat.fl (.lo t)]} (h : decS b (some false, [.fl (.lo t)]) (.comp fl cs) = some y) : fl = false ∧ ∃ c, cs = [c] ∧ (c = .lo t y.1 ∨ (c = .nils ∧ y.1 = [])) := by
  simp only [decS] at h
  cases fl
  case true => cases h
  refine ⟨rfl, ?_⟩
  have h : decs b [.fl (.lo t)] cs = some y := h
  cases cs with
  | nil => cases h
  | cons c cs =>
    simp only [decs] at h
    cases hc : Pat.dec b (.fl (.lo t)) c with
    | none => rw [hc] at h; cases h
    | some x =>
      rw [hc] at h
      cases cs with
      | cons d ds => cases h
      | nil =>
        simp only [decs, Option.some.injEq] at h
        subst h
        refine ⟨c, rfl, ?_⟩
        simp only [Pat.dec] at hc
        cases c <;> simp only [FPat.dec] at hc <;> first | (cases hc; done) | skip
        · simp only [Option.some.injEq] at hc; exact .inr ⟨rfl, hc.symm⟩
        · split at hc
          · rename_i e; subst e; simp only [Option.some.injEq] at hc; subst hc; exact .inl rfl
          · cases hc
theorem toHole_fn : FnOk Try.prog 46 (mkFn 1 [(0, some false, [.fl (.lo HoT)])] [(false, [.fl (.own HoT)])] (keepOf []) (fun (y : List (Int × List Int)) => (((y, ()), ()) : compT [(false, [.fl (.own HoT)])])) fun x => toHoleF x.1.1) := by
  intro R w g args vs K r hi hrun
  simp only [mkFn] at hrun
  obtain ⟨hl, hrun⟩ := bif_some hrun
  have hl := Nat.eq_of_beq_eq_true hl
  match args, hl with
  | [(fl, cs)], _ =>
  split at hrun
  case h_2 => cases hrun
  rename_i x hx
  obtain ⟨rfl, c, rfl, hc⟩ : fl = false ∧ ∃ c, cs = [c] ∧ (c = .lo HoT x.1.1 ∨ (c = .nils ∧ x.1.1 = [])) := by
    have hx' := hx
    simp only [readCut] at hx'
    cases hq : decS (!refTo 0 [(0, some false, [Pat.fl (.lo HoT)])]) (some false, [.fl (.lo HoT)]) (argFr 0 [(fl, cs)] 0) with
    | none => rw [hq] at hx'; cases hx'
    | some y =>
      rw [hq] at hx'
      simp only [Option.some.injEq] at hx'
      subst hx'
      exact dec_lo hq
  obtain ⟨v, hv, c0, hc0, hr⟩ := hi.arg 0 _ rfl
  have hc0 : c = c0 := by simpa using hc0
  subst hc0
  have hvs : vs = [v] := by
    have hlen := hi.len
    match vs, hlen, hv with
    | [p], _, hv => simp at hv; rw [hv]
  subst hvs
  obtain ⟨xs, hxs⟩ : ∃ xs : List (Int × List Int), xs = x.1.1 := ⟨_, rfl⟩
  rw [← hxs] at hc hrun
  have ho : RS w g.Z HoT xs v := by
    rcases hc with rfl | ⟨rfl, e⟩
    · rcases hr with e | ⟨e, _⟩ | e
      · cases e
      · cases e
      · exact e
    · rcases hr with e' | ⟨e', _⟩ | e'
      · cases e'
      · cases e'
      · subst e
        have e' : v = .slice none 0 0 := e'
        subst e'
        exact ⟨none, 0, rfl, Nat.le_refl _, fun i x hx => by simp at hx⟩
  unfold toHoleF at hrun
  by_cases hok' : hok xs = true
  case neg => rw [if_neg hok'] at hrun; cases hrun
  rw [if_pos hok'] at hrun
  have hrun : K [(false, [.own HoT xs])] = some r := hrun
  simp only [hok, Bool.and_eq_true, decide_eq_true_eq, List.all_eq_true] at hok'
  obtain ⟨hl1, hl2⟩ := hok'
  obtain ⟨A, cap, rfl, hcap, hC⟩ := conv2 ho hl1 hl2
  have hval : (xs.map m96).map Go.Proofs.Ytlkmjldhhoopcaa.K.toH = xs.map m40 := by rw [List.map_map]; rfl
  obtain ⟨k, hk⟩ := Go.Proofs.Ytlkmjldhhoopcaa.K.toHoleS_ev (xs.map m96) (by rw [List.length_map]; exact hl1) (fun y hy => by
    obtain ⟨x, hx, rfl⟩ := List.mem_map.1 hy
    exact hl2 x hx)
  have hk := hk k (Nat.le_refl _)
  rw [hval] at hk
  have hcalls := Go.Proofs.Ytlkmjldhhoopcaa.G.laws_toHoleS.calls k A cap (xs.map m96) (xs.map m40) w hC (by rw [List.length_map]; exact hcap) hk
  rw [List.length_map] at hcalls
  refine hcalls.mono ?_
  rintro e w' ⟨v0, rfl, hS, hB⟩
  obtain ⟨_, inner, ⟨h1, h2⟩, h3, h4⟩ := Go.Proofs.YtlkmjldhhoopcaaW.PrintWords.Kd.S_R hS
  rw [List.length_map] at h2
  rcases h2 with ⟨rfl, hn⟩ | ⟨b0, cap0, cur, rfl, hg, hh, hle, hcm, hsz, htake⟩
  · have : xs = [] := List.length_eq_zero_iff.1 hn
    subst this
    refine ⟨_, _, g, rfl, hrun, rfl, hB.os, hB.tape, hB.output, hB.size, fun b hb _ => hB.block b hb, fun b p hp => ?_, fun b o hs => Nat.lt_of_lt_of_le (hi.stab b o hs) hB.size, fun b o hb hm hs => hi.sz b o (hi.eB ▸ hb) hm hs, ?_⟩
    · have := hi.own b p hp
      exact ⟨Nat.lt_of_lt_of_le this.1 hB.size, fun _ => this.2⟩
    · exact ⟨[(false, [.own HoT []])], [], rfl, ⟨_, rfl, .inr (.inr (.inl ⟨rfl, rfl⟩))⟩, fun e => (e rfl).elim⟩
  · have hlt : b0 < w'.heap.size := by
      rcases Nat.lt_or_ge b0 w'.heap.size with h | h
      · exact h
      · rw [Array.getElem?_eq_none h] at hh; cases hh
    refine ⟨_, _, { g with O := fun b => if w.heap.size ≤ b ∧ b < w'.heap.size then some (.air 0) else g.O b, S := fun b o => g.S b o ∨ (w.heap.size ≤ b ∧ b < w'.heap.size ∧ b ≠ b0) ∨ (b = b0 ∧ o < xs.length * 2) }, rfl, hrun, rfl, hB.os, hB.tape, hB.output, hB.size, fun b hb _ => hB.block b hb, fun b p hp => ?_, fun b o hs => ?_, fun b o hb hm hs => ?_, ?_⟩
    · simp only at hp
      split at hp
      · rename_i e; exact ⟨e.2, fun h => by omega⟩
      · have := hi.own b p hp
        exact ⟨Nat.lt_of_lt_of_le this.1 hB.size, fun _ => this.2⟩
    · rcases hs with hs | ⟨_, hs, _⟩ | ⟨rfl, _⟩
      · exact Nat.lt_of_lt_of_le (hi.stab b o hs) hB.size
      · exact hs
      · exact hlt
    · rcases hs with hs | ⟨hs, _⟩ | ⟨rfl, _⟩
      · exact hi.sz b o (hi.eB ▸ hb) hm hs
      · omega
      · omega
    · refine ⟨[(false, [.own HoT xs])], [], rfl, ⟨_, rfl, .inr (.inr (.inr ⟨b0, cap0, cur, 40, rfl, by simp only; rw [if_pos ⟨hg, hlt⟩], hh, hle, hcm, hsz, fun i x hx => ?_, fun o => ?_⟩))⟩, fun e => (e rfl).elim⟩
      · have hm := h4 i (m40 x) (by rw [List.getElem?_map, hx]; rfl)
        obtain ⟨v1, hcs, hR⟩ := Go.Proofs.Ytlkmjldhhoopcaa.G.k40_openM hm
        refine ⟨[.int .i64 x.1, v1], ⟨[.int .i64 x.1], [v1], rfl, rfl, ?_⟩, fun (j : Nat) (u : Value) hu => ?_⟩
        · refine rep_mono ?_ (conv3 hR)
          intro b o hs
          obtain ⟨cells, hc⟩ := hs.2.2
          refine ⟨⟨.inr (.inl ⟨hs.1, hs.2.1, ?_⟩), if_pos ⟨hs.1, hs.2.1⟩, cells, 2, hc⟩, rfl⟩
          intro e
          rw [e, hh] at hc
          cases hc
        · have := take_get htake (seg_get hcs hu)
          have this : cur.toList[i * 2 + j]? = some u := this
          exact (show cur[i * 2 + j]? = some u by simpa using this)
      · constructor
        · rintro (hs | ⟨_, _, h⟩ | ⟨_, h⟩)
          · have := hi.stab _ _ hs; omega
          · exact (h rfl).elim
          · exact h
        · exact fun h => .inr (.inr ⟨rfl, h⟩)
end Go.Proofs.Ytlkmjldhhoopcaa.T

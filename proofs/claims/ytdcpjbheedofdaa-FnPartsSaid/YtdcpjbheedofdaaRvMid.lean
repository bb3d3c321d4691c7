/- impl.MiddleOf, walked with the kit's steps, as a function of the evaluator. -/
import Derived.Test.YtdcpjbheedofdaaRvSrt
import Derived.Test.YtdcpjbheedofdaaRvM2
namespace Go.Proofs.Ytdcpjbheedofdaa.T
open Go.Rv
set_option linter.unusedVariables false
set_option linter.unusedSimpArgs false
abbrev IT : Ty := .int .i64
def middleF (f27 : List Int → Option Bool) (xs : List Int) : Option (Int × Bool) := if 1 ≤ xs.length then if xs.length ≤ 1000 then (f27 xs).bind fun b => if b = true then some ((sortedL xs)[(xs.length - 1) / 2]?.getD 0, true) else none else none else none
theorem dec_lo {b fl : Bool} {cs : List CV} {t : Ty} {y : patsT [Pat.fl (.lo t)]} (h : decS b (some false, [.fl (.lo t)]) (.comp fl cs) = some y) : fl = false ∧ ∃ c, cs = [c] ∧ (c = .lo t y.1 ∨ (c = .nils ∧ y.1 = [])) := by
  simp only [decS] at h
  cases fl
  case true => cases h
  refine ⟨rfl, ?_⟩
  have h : decs b [.fl (.lo t)] cs = some y := h
  cases cs with
  | nil => cases h
  | cons c cs =>
    simp only [decs] at h
    cases hc : Pat.dec b (.fl (.lo t)) c with
    | none => rw [hc] at h; cases h
    | some x =>
      rw [hc] at h
      cases cs with
      | cons d ds => cases h
      | nil =>
        simp only [decs, Option.some.injEq] at h
        subst h
        refine ⟨c, rfl, ?_⟩
        simp only [Pat.dec] at hc
        cases c <;> simp only [FPat.dec] at hc <;> first | (cases hc; done) | skip
        · simp only [Option.some.injEq] at hc; exact .inr ⟨rfl, hc.symm⟩
        · split at hc
          · rename_i e; subst e; simp only [Option.some.injEq] at hc; subst hc; exact .inl rfl
          · cases hc
theorem middle_fn {f27 : List Int → Option Bool} (H27 : FnOk Try.prog 27 (mkFn 1 [(0, some false, [.fl (.lo IT)])] [(false, [.fl .bool])] (keepOf []) (fun (y : Bool) => (((y, ()), ()) : compT [(false, [.fl .bool])])) fun x => f27 x.1.1)) :
    FnOk Try.prog 16 (mkFn 1 [(0, some false, [.fl (.lo IT)])] [(false, [.fl (.int .i64)]), (false, [.fl .bool])] (keepOf []) (fun (y : Int × Bool) => (((y.1, ()), (y.2, ()), ()) : compT [(false, [.fl (.int .i64)]), (false, [.fl .bool])])) fun x => middleF f27 x.1.1) := by
  intro R w g args vs K r hi hrun
  simp only [mkFn] at hrun
  obtain ⟨hl, hrun⟩ := bif_some hrun
  have hl := Nat.eq_of_beq_eq_true hl
  match args, hl with
  | [(fl, cs)], _ =>
  split at hrun
  case h_2 => cases hrun
  rename_i x hx
  obtain ⟨rfl, c, rfl, hc⟩ : fl = false ∧ ∃ c, cs = [c] ∧ (c = .lo IT x.1.1 ∨ (c = .nils ∧ x.1.1 = [])) := by
    have hx' := hx
    simp only [readCut] at hx'
    cases hq : decS (!refTo 0 [(0, some false, [Pat.fl (.lo IT)])]) (some false, [.fl (.lo IT)]) (argFr 0 [(fl, cs)] 0) with
    | none => rw [hq] at hx'; cases hx'
    | some y =>
      rw [hq] at hx'
      simp only [Option.some.injEq] at hx'
      subst hx'
      exact dec_lo hq
  obtain ⟨v, hv, c0, hc0, hr⟩ := hi.arg 0 _ rfl
  have hc0 : c = c0 := by simpa using hc0
  subst hc0
  have hvs : vs = [v] := by
    have hlen := hi.len
    match vs, hlen, hv with
    | [p], _, hv => simp at hv; rw [hv]
  subst hvs
  obtain ⟨xs, hxs⟩ : ∃ xs : List Int, xs = x.1.1 := ⟨_, rfl⟩
  rw [← hxs] at hc hrun
  unfold middleF at hrun
  by_cases h1 : 1 ≤ xs.length
  case neg => rw [if_neg h1] at hrun; cases hrun
  by_cases h2 : xs.length ≤ 1000
  case neg => rw [if_pos h1, if_neg h2] at hrun; cases hrun
  rw [if_pos h1, if_pos h2] at hrun
  cases hf : f27 xs with
  | none => rw [hf] at hrun; cases hrun
  | some b =>
  rw [hf] at hrun
  cases b with
  | false => cases hrun
  | true =>
  have hrun : K [(false, [.int .i64 ((sortedL xs)[(xs.length - 1) / 2]?.getD 0)]), (false, [.bool true])] = some r := hrun
  have hcl : c = .lo IT xs := by
    rcases hc with rfl | ⟨_, e⟩
    · rfl
    · rw [e] at h1; simp at h1
  subst hcl
  have ho : RS w g.Z IT xs v := by
    rcases hr with e | ⟨e, _⟩ | e
    · cases e
    · cases e
    · exact e
  have h27 : Calls Try.prog 27 [v].toArray w fun e w' => e = .returned (.bool true) ∧ Go.RowKit.Below w.heap.size w w' := by
    have hi0 : InitOk w { B := w.heap.size, M := fun _ => False, Z := g.Z, S := g.Z, O := fun _ => none, H := fun _ _ => none, X := fun _ => none } [(false, [.lo IT xs])] [v] := {
      eB := rfl
      len := rfl
      arg := fun i p hp => by
        match i, hp with
        | 0, hp => cases hp; exact ⟨v, rfl, _, rfl, .inr (.inr ho)⟩
        | n + 1, hp => simp at hp
      own := fun b p hp => by cases hp
      stab := fun b o hs => by have := (hi.zs b o hs).2.1; rw [hi.eB] at this; exact this
      nobox := fun b s hp => by cases hp
      zs := fun b o hs => ⟨hs, by have := (hi.zs b o hs).2.1; rw [hi.eB] at this; exact this, fun h => h⟩
      sz := fun b o _ _ hs => hs
      hh := fun s c u hu => by cases hu }
    refine (H27 w _ [(false, [.lo IT xs])] [v] some [(false, [.bool true])] hi0 ?_).mono ?_
    · show (f27 xs).bind _ = _
      rw [hf]
      rfl
    · rintro e w' ⟨v', res, g', rfl, hres, hok⟩
      simp only [Option.some.injEq] at hres
      subst hres
      obtain ⟨rs, outs, hrs, hval, _⟩ := hok.val
      have hrs : [(false, [CV.bool true])] = rs ++ [] := hrs
      rw [List.append_nil] at hrs
      subst hrs
      obtain ⟨c', hc', hv'⟩ := hval
      have hc' : CV.bool true = c' := by simpa using hc'
      subst hc'
      have hv' : v' = .bool true := by
        rcases hv' with e | e | e
        · cases e
        · cases e
        · exact e
      exact ⟨by rw [hv'], hok.os, hok.tape, hok.output, hok.heap, fun k hk => hok.old k hk fun h => h⟩
  obtain ⟨A, cap, hv', hcap, hx'⟩ := ho
  simp only [List.cons.injEq, and_true] at hv'
  obtain ⟨a, _, e, hs, _, _⟩ := hx' 0 xs[0] (by simp)
  obtain ⟨ab, ao, asp⟩ := a
  simp only at hs
  subst hs e hv'
  have hcs : ∀ j, j < xs.length → w.cell? ⟨ab, ao + j, none⟩ = some (.int .i64 (xs[j]?.getD 0)) := by
    intro j hj
    have hj' : xs[j]? = some xs[j] := List.getElem?_eq_getElem hj
    obtain ⟨a', ecs, e', _, hrep, hcells⟩ := hx' j _ hj'
    cases e'
    simp only [rep] at hrep
    subst hrep
    have := (hcells 0 _ rfl).2
    rw [hj']
    simpa [Ty.cells] using this
  have hab : ab < w.heap.size := World.block_lt_of_cell? _ _ (hcs 0 (by omega))
  refine (callsIn_wide.1 (middle_in Fence.wide 5 trivial trivial trivial trivial trivial trivial trivial trivial rfl (Nat.le_refl _) (fun blk cap zs W h1 h2 h3 => sort_in _ blk cap zs W h1 h2 h3) ab ao cap xs h1 h2 w hab hcs (callsIn_wide.2 h27))).mono ?_
  rintro e w' ⟨he, hB⟩
  refine ⟨_, _, g, he, hrun, rfl, hB.os, hB.tape, hB.output, hB.size, fun b hb _ => hB.block b hb, fun b p hp => ?_, fun b o hs => Nat.lt_of_lt_of_le (hi.stab b o hs) hB.size, fun b o hb hm hs => hi.sz b o (hi.eB ▸ hb) hm hs, ?_⟩
  · have := hi.own b p hp
    exact ⟨Nat.lt_of_lt_of_le this.1 hB.size, fun _ => this.2⟩
  · refine ⟨_, [], (List.append_nil _).symm, ⟨[.int .i64 _, .bool true], rfl, rfl, fun i p hp => ?_⟩, fun e => (e rfl).elim⟩
    match i, hp with
    | 0, hp => cases hp; exact ⟨_, rfl, _, rfl, .inr (.inr rfl)⟩
    | 1, hp => cases hp; exact ⟨_, rfl, _, rfl, .inr (.inr rfl)⟩
    | n + 2, hp => simp at hp
end Go.Proofs.Ytdcpjbheedofdaa.T

/- slices.Grow of nil, walked with the kit's steps, and as a function of the evaluator. -/
import Derived.Test.YtgknckbplbldbaaProg
import Derived.Below
import Derived.Deep.Draws
import Derived.Deep.AppendLies
import Derived.Maps.AppendAt
import Derived.OwnWalk
import Derived.Laws.BytesArg
import Derived.Laws.MakeOwn
import Derived.Laws.OwnMore
import Derived.Deep.OwnRows
import Derived.Tactics
import Derived.Lib.ConvBytes
import Derived.Laws.Slices
import Derived.WalkKit
import Derived.KernelRfl
import Derived.RowKit3
import Derived.Deep.LoopGhost
import Derived.Deep.QuietTactic
import Derived.BigQuiet
import Derived.WideLaws
import Derived.Deep.DeepCutAuto
import Derived.Deep.CutBlock
import Derived.Deep.RegionHeld3
import Derived.Laws.Rows
import Derived.Lib.AppendStr
import Derived.ArgAppend
import Derived.Laws.IdiomCopy
import Derived.OrdersHeld
import Derived.Laws.BitsLemmas
import Derived.RowKit
import Derived.Test.YtgknckbplbldbaaVWords
import Derived.Test.YtgknckbplbldbaaVLast
import Derived.Test.YtgknckbplbldbaaRvM2
import Derived.Test.YtgknckbplbldbaaRvSortH
import Derived.Lib.AppendZeros
namespace Go.Proofs.Ytgknckbplbldbaa.T
open Go.RowKit Go.Proofs.YtgknckbplbldbaaW.PrintWords Go.Proofs.YtgknckbplbldbaaW.PrintLast
set_option linter.unusedVariables false
set_option linter.unusedSimpArgs false
set_option maxHeartbeats 2000000 in
set_option maxRecDepth 100000 in
theorem grow_calls (n : Int) (w : World) (h0 : 0 ≤ n) (h1 : n < 300000000000) :
    Calls Try.prog 57 #[.slice none 0 0, .int .i64 n] w fun e w' => ∃ v, e = .returned v ∧ ((v = .slice none 0 0 ∧ w' = w) ∨ ∃ (cap : Nat) (cells : Array Value), v = .slice (some ⟨w.heap.size, 0, none⟩) 0 cap ∧ w' = w.drew.alloc (.cells cells 65) ∧ cells.size = cap * 3 ∧ cap ≤ maxLen) := by
  have huT := Try.underlying29
  have hu3 := Try.underlying3
  by_cases hn : n = 0
  · subst hn
    go_enter Try.func57, Try.ntmps57
    go_wp2
    go_ret
    exact ⟨_, rfl, .inl ⟨rfl, rfl⟩⟩
  · have hs : (Try.prog.info? 65).map (fun i => (i.size, i.bytes, i.zero)) = some (3, 24, some (.agg #[.int .i64 0, .int .i64 0, .int .i64 0])) := by kernel_rfl
    obtain ⟨i, hi, he⟩ := Option.map_eq_some_iff.1 hs
    simp only [Prod.mk.injEq] at he
    obtain ⟨e1, e2, e3⟩ := he
    have hrun := Lib.run_append_nil_zeros (P := Try.prog) w 29 3 29 65 i _ .i64 .i64 Try.underlying29 Try.underlying3 hi e3 n.toNat (by omega) (by omega) (by omega) (by rw [e2]; omega)
    rw [show ((n.toNat : Nat) : Int) = n by omega] at hrun
    have d1 : decide (n < 0) = false := by simp; omega
    have d2 : decide (0 < n) = true := by simp; omega
    have hsz := grownCap_ge w n.toNat 0 65
    have hmx := grownCap_le_maxLen w n.toNat 0 65 (by simp only [maxLen]; omega)
    generalize grownCap w n.toNat 0 65 = cap at *
    generalize hcl : (Builtin.zeroCells (Value.agg #[.int .i64 0, .int .i64 0, .int .i64 0]).cells n.toNat ++ Builtin.zeroCells (Value.agg #[.int .i64 0, .int .i64 0, .int .i64 0]).cells (cap - n.toNat)) = cells at *
    have h3 : (Value.agg #[.int .i64 0, .int .i64 0, .int .i64 0]).cells.size = 3 := rfl
    have hcs : cells.size = cap * 3 := by rw [← hcl]; simp only [Builtin.zeroCells, Array.size_append, Array.size_map, Array.size_range, h3]; omega
    clear hs hi e1 e2 e3 hcl
    have w1 : wrap64 n = n := by unfold wrap64; omega
    rw [← w1] at hrun
    have d3 : decide (0 < wrap64 n) = true := by rw [w1]; exact d2
    clear hn h0 h1 h3 w1
    go_enter Try.func57, Try.ntmps57
    go_wp2_with (at_builtin; refine Lib.wpList_append_run _ rfl _ _ _ _ rfl _ _ rfl rfl _ _ hrun ?_)
    go_ret
    exact ⟨_, rfl, .inr ⟨cap, cells, rfl, rfl, hcs, hmx⟩⟩
open Go.Rv in
def growF (n : Int) : Option (List (Int × Int × Int)) := if 0 ≤ n then if n < 300000000000 then some [] else none else none
open Go.Rv in
theorem dec_nils {b fl : Bool} {cs : List CV} {y : patsT [Pat.fl .nils]} (h : decS b (some false, [.fl .nils]) (.comp fl cs) = some y) : fl = false ∧ cs = [.nils] := by
  simp only [decS] at h
  cases fl
  case true => cases h
  refine ⟨rfl, ?_⟩
  have h : decs b [.fl .nils] cs = some y := h
  cases cs with
  | nil => cases h
  | cons c cs =>
    simp only [decs] at h
    cases hc : Pat.dec b (.fl .nils) c with
    | none => rw [hc] at h; cases h
    | some x =>
      rw [hc] at h
      cases cs with
      | cons d ds => cases h
      | nil =>
        simp only [Pat.dec] at hc
        cases c <;> simp only [FPat.dec] at hc <;> first | (cases hc; done) | rfl
open Go.Rv in
theorem dec_one {b fl : Bool} {cs : List CV} {y : patsT [Pat.fl (.int .i64)]} (h : decS b (some false, [.fl (.int .i64)]) (.comp fl cs) = some y) : fl = false ∧ cs = [.int .i64 y.1] := by
  simp only [decS] at h
  cases fl
  case true => cases h
  refine ⟨rfl, ?_⟩
  have h : decs b [.fl (.int .i64)] cs = some y := h
  cases cs with
  | nil => cases h
  | cons c cs =>
    simp only [decs] at h
    cases hc : Pat.dec b (.fl (.int .i64)) c with
    | none => rw [hc] at h; cases h
    | some x =>
      rw [hc] at h
      cases cs with
      | cons d ds => cases h
      | nil =>
        simp only [decs, Option.some.injEq] at h
        subst h
        simp only [Pat.dec] at hc
        cases c <;> simp only [FPat.dec] at hc <;> first | (cases hc; done) | skip
        split at hc
        · rename_i e; subst e; simp only [Option.some.injEq] at hc; subst hc; rfl
        · cases hc
open Go.Rv in
abbrev CuT : Ty := .pair (.int .i64) (.pair (.int .i64) (.int .i64))
open Go.Rv in
theorem grow_fn : FnOk Try.prog 57 (mkFn 2 [(0, some false, [.fl .nils]), (1, some false, [.fl (.int .i64)])] [(false, [.fl (.own CuT)])] (keepOf []) (fun (y : List (Int × Int × Int)) => (((y, ()), ()) : compT [(false, [.fl (.own CuT)])])) fun x => growF x.2.1.1) := by
  intro R w g args vs K r hi hrun
  simp only [mkFn] at hrun
  obtain ⟨hl, hrun⟩ := bif_some hrun
  have hl := Nat.eq_of_beq_eq_true hl
  match args, hl with
  | [(f0, c0), (f1, c1)], _ =>
  split at hrun
  case h_2 => cases hrun
  rename_i x hx
  obtain ⟨⟨rfl, rfl⟩, rfl, rfl⟩ : (f0 = false ∧ c0 = [.nils]) ∧ f1 = false ∧ c1 = [.int .i64 x.2.1.1] := by
    have hx' := hx
    simp only [readCut] at hx'
    split at hx'
    · rename_i y0 hy0
      split at hx'
      · rename_i y1 hy1
        split at hy1
        · rename_i z hz
          simp only [Option.some.injEq] at hx' hy1
          subst hy1
          subst hx'
          exact ⟨dec_nils hy0, dec_one hz⟩
        · cases hy1
      · cases hx'
    · cases hx'
  obtain ⟨n, hn⟩ : ∃ n : Int, n = x.2.1.1 := ⟨_, rfl⟩
  rw [← hn] at hrun hi
  obtain ⟨v0, hv0, d0, hd0, hr0⟩ := hi.arg 0 _ rfl
  obtain ⟨v1, hv1, d1, hd1, hr1⟩ := hi.arg 1 _ rfl
  have hd0 : CV.nils = d0 := by simpa using hd0
  have hd1 : CV.int .i64 n = d1 := by simpa using hd1
  subst hd0 hd1
  have hr0 : v0 = .slice none 0 0 := by
    rcases hr0 with e | ⟨e, _⟩ | e
    · cases e
    · cases e
    · exact e
  have hr1 : v1 = .int .i64 n := by
    rcases hr1 with e | ⟨e, _⟩ | e
    · cases e
    · cases e
    · exact e
  have hvs : vs = [.slice none 0 0, .int .i64 n] := by
    have hlen := hi.len
    match vs, hlen, hv0, hv1 with
    | [p, q], _, hv0, hv1 => simp at hv0 hv1; rw [hv0, hv1, hr0, hr1]
  subst hvs
  unfold growF at hrun
  by_cases h0 : 0 ≤ n
  case neg => rw [if_neg h0] at hrun; cases hrun
  by_cases h1 : n < 300000000000
  case neg => rw [if_pos h0, if_neg h1] at hrun; cases hrun
  rw [if_pos h0, if_pos h1] at hrun
  have hrun : K [(false, [.own CuT []])] = some r := hrun
  refine (grow_calls n w h0 h1).mono ?_
  rintro e w' ⟨v, he, hcase⟩
  rcases hcase with ⟨rfl, rfl⟩ | ⟨cap, cells, rfl, rfl, hcs, hcap⟩
  · refine ⟨_, _, g, he, hrun, rfl, rfl, rfl, rfl, Nat.le_refl _, fun _ _ _ => rfl, fun b p hp => ?_, hi.stab, fun b o hb hm hs => hi.sz b o (hi.eB ▸ hb) hm hs, ?_⟩
    · have := hi.own b p hp
      exact ⟨this.1, fun _ => this.2⟩
    · exact ⟨[(false, [.own CuT []])], [], rfl, ⟨_, rfl, .inr (.inr (.inl ⟨rfl, rfl⟩))⟩, fun e => (e rfl).elim⟩
  · have hsz : (w.drew.alloc (.cells cells 65)).heap.size = w.heap.size + 1 := by show (w.heap.push _).size = _; simp
    have hnew : (w.drew.alloc (.cells cells 65)).heap[w.heap.size]? = some (.cells cells 65 (0, 0)) := by show (w.heap.push _)[w.heap.size]? = _; simp
    refine ⟨_, _, { g with O := fun b => if b = w.heap.size then some (.air 0) else g.O b }, he, hrun, rfl, rfl, rfl, rfl, by rw [hsz]; omega, fun b hb _ => ?_, fun b p hp => ?_, fun b o hs => ?_, fun b o hb hm hs => hi.sz b o (hi.eB ▸ hb) hm hs, ?_⟩
    · show (w.heap.push _)[b]? = _
      rw [Array.getElem?_push, if_neg (by omega)]
    · rw [hsz]
      simp only at hp
      split at hp
      · rename_i e; subst e; exact ⟨by omega, fun h => by omega⟩
      · have := hi.own b p hp
        exact ⟨by omega, fun _ => this.2⟩
    · have := hi.stab b o hs
      rw [hsz]; omega
    · refine ⟨[(false, [.own CuT []])], [], rfl, ⟨_, rfl, .inr (.inr (.inr ⟨w.heap.size, cap, cells, 65, rfl, by simp, hnew, Nat.zero_le _, hcap, hcs, fun i x hx => by simp at hx, fun o => ?_⟩))⟩, fun e => (e rfl).elim⟩
      simp only [List.length_nil, Nat.zero_mul, Nat.not_lt_zero, iff_false]
      intro hs
      have := hi.stab _ _ hs
      omega
end Go.Proofs.Ytgknckbplbldbaa.T

/- The turn of a ring: the table in the program's text, walked with the kit's steps. -/
import Derived.Test.YtmgelocefebldaaProg
import Derived.Below
import Derived.Deep.Draws
import Derived.Deep.AppendLies
import Derived.Maps.AppendAt
import Derived.OwnWalk
import Derived.Laws.BytesArg
import Derived.Laws.MakeOwn
import Derived.Laws.OwnMore
import Derived.Deep.OwnRows
import Derived.Tactics
import Derived.Lib.ConvBytes
import Derived.Laws.Slices
import Derived.WalkKit
import Derived.KernelRfl
import Derived.RowKit3
import Derived.Deep.LoopGhost
import Derived.Deep.QuietTactic
import Derived.BigQuiet
import Derived.WideLaws
import Derived.Deep.DeepCutAuto
import Derived.Deep.CutBlock
import Derived.Deep.RegionHeld3
import Derived.Laws.Rows
import Derived.Lib.AppendStr
import Derived.ArgAppend
import Derived.Laws.IdiomCopy
import Derived.OrdersHeld
import Derived.Laws.BitsLemmas
import Derived.RowKit
import Derived.Test.YtmgelocefebldaaVWords
import Derived.Test.YtmgelocefebldaaVLast
import Derived.Test.YtmgelocefebldaaRvM4
namespace Go.Proofs.Ytmgelocefebldaa.T
open Go.RowKit Go.Proofs.YtmgelocefebldaaW.PrintWords Go.Proofs.YtmgelocefebldaaW.PrintLast
set_option linter.unusedVariables false
set_option linter.unusedSimpArgs false
/-! ### impl_Ring_turn: a function of the program -/
def impl_Ring_turn.tab : List (Int × Int) := [(10, 0), (9, 4), (7, 7), (4, 9), (0, 10), (-4, 9), (-7, 7), (-9, 4), (-10, 0), (-9, -4), (-7, -7), (-4, -9), (0, -10), (4, -9), (7, -7), (9, -4)]
def impl_Ring_turn.f (a0 a1 : Int) : Option (Int × Int) := if a0 = 0 then some (0, 0) else if 0 ≤ a1 then impl_Ring_turn.tab[a1.toNat]? else none
theorem impl_Ring_turn.store_block {P : Program} {ops : Array Oper} {rest : List Oper} {o : Oper} {a : Act} {Q : Exit → Act → World → Prop} {w0 W : World} {g : Nat} {e t : TypeId} {cur : Array Value} {u : Value} {seg : List Value} {p x : Operand}
    (hN : o.dst = none) (hgd : o.guard = none) (ho : o.op = .store t p x) (hp : a.eval p = .pointer (some ⟨g, 0, none⟩)) (hx : a.eval x = u) (hu : u.cells.toList = seg) (ht : (P.info? t).map (·.size) = some seg.length)
    (hh : W.heap[g]? = some (.cells cur e (0, 0))) (hfit : seg.length = cur.size) (h1 : ∀ q ∈ seg, q.oneCell' = true) (HB : Below w0.heap.size w0 W) (hg : w0.heap.size ≤ g)
    (h : ∀ W', Below w0.heap.size w0 W' → W'.heap[g]? = some (.cells seg.toArray e (0, 0)) → (∀ k, k ≠ g → W'.heap[k]? = W.heap[k]?) → wpList P ops Q rest a W') : wpList P ops Q (o :: rest) a W := by
  refine wpList_plain hgd fun K hK => ?_
  have hrun : (Instr.storeAt t (.pointer (some ⟨g, 0, none⟩)) u).run P W = .ok () (W.setCells g 0 seg) := run_store_run t u seg hh hu ht (by omega) h1
  obtain ⟨cur', h3, h4, h5⟩ := setCells_row seg 0 W cur hh (by omega)
  obtain ⟨s1, s2, s3, s4⟩ := setCells_same g seg 0 W
  have hfar : ∀ k, k ≠ g → (W.setCells g 0 seg).heap[k]? = W.heap[k]? := fun k hk => setCells_far seg 0 k hk
  have hB : Below w0.heap.size w0 (W.setCells g 0 seg) := HB.trans ⟨s1, s2, s3, by rw [s4]; exact Nat.le_refl _, fun k hk => hfar k (by omega)⟩
  have hc : cur' = seg.toArray := by
    apply Array.ext'
    rw [h5]
    simp only [List.take_zero, List.nil_append]
    rw [List.drop_of_length_le (by simp; omega)]; simp
  rw [hc] at h3
  unfold Oper.wp execOp
  simp only [ho, hp, hx, Sem.run_bind, Sem.run_pure, Result.andThen_ok, hrun]
  show K (a.put o.dst undef) _
  rw [hN]
  exact hK a _ (h _ hB h3 hfar)
set_option maxHeartbeats 8000000 in
set_option maxRecDepth 100000 in
theorem impl_Ring_turn.calls (a0_0 a0_1 : Int) (r1 r2 : Int) (w : World) (h : impl_Ring_turn.f a0_0 a0_1 = some (r1, r2)) :
    Calls Try.prog 104 #[.agg #[.int .i64 a0_0, .int .i64 a0_1]] w fun e w' => e = .returned (.tuple #[.int .i64 r1, .int .i64 r2]) ∧ Below w.heap.size w w' := by
  unfold impl_Ring_turn.f at h
  have hu := Try.underlying33
  have huA := Try.underlying145
  have huB := Try.underlying146
  by_cases h0 : a0_0 = 0
  · rw [if_pos h0] at h
    simp only [Option.some.injEq, Prod.mk.injEq] at h
    obtain ⟨rfl, rfl⟩ := h
    subst h0
    go_enter Try.func104, Try.ntmps104
    go_wp2
    go_ret2
    exact ⟨rfl, below_alloc (Below.refl _ _) _⟩
  · rw [if_neg h0] at h
    by_cases hn : 0 ≤ a0_1
    case neg => rw [if_neg hn] at h; cases h
    rw [if_pos hn] at h
    have hk : a0_1.toNat < 16 := (List.getElem?_eq_some_iff.1 h).1
    go_enter Try.func104, Try.ntmps104
    go_wp2_with ((with_reducible refine gate_store (t := 146) (p := 4) rfl ?_); refine impl_Ring_turn.store_block (w0 := w) (g := w.heap.size + 1) (e := 146) (cur := #[.int .i64 0, .int .i64 0, .int .i64 0, .int .i64 0, .int .i64 0, .int .i64 0, .int .i64 0, .int .i64 0, .int .i64 0, .int .i64 0, .int .i64 0, .int .i64 0, .int .i64 0, .int .i64 0, .int .i64 0, .int .i64 0, .int .i64 0, .int .i64 0, .int .i64 0, .int .i64 0, .int .i64 0, .int .i64 0, .int .i64 0, .int .i64 0, .int .i64 0, .int .i64 0, .int .i64 0, .int .i64 0, .int .i64 0, .int .i64 0, .int .i64 0, .int .i64 0]) (u := .agg #[.int .i64 10, .int .i64 0, .int .i64 9, .int .i64 4, .int .i64 7, .int .i64 7, .int .i64 4, .int .i64 9, .int .i64 0, .int .i64 10, .int .i64 (-4), .int .i64 9, .int .i64 (-7), .int .i64 7, .int .i64 (-9), .int .i64 4, .int .i64 (-10), .int .i64 0, .int .i64 (-9), .int .i64 (-4), .int .i64 (-7), .int .i64 (-7), .int .i64 (-4), .int .i64 (-9), .int .i64 0, .int .i64 (-10), .int .i64 4, .int .i64 (-9), .int .i64 7, .int .i64 (-7), .int .i64 9, .int .i64 (-4)]) (seg := [.int .i64 10, .int .i64 0, .int .i64 9, .int .i64 4, .int .i64 7, .int .i64 7, .int .i64 4, .int .i64 9, .int .i64 0, .int .i64 10, .int .i64 (-4), .int .i64 9, .int .i64 (-7), .int .i64 7, .int .i64 (-9), .int .i64 4, .int .i64 (-10), .int .i64 0, .int .i64 (-9), .int .i64 (-4), .int .i64 (-7), .int .i64 (-7), .int .i64 (-4), .int .i64 (-9), .int .i64 0, .int .i64 (-10), .int .i64 4, .int .i64 (-9), .int .i64 7, .int .i64 (-7), .int .i64 9, .int .i64 (-4)]) rfl rfl rfl rfl rfl rfl (by kernel_rfl) (by have e := blk_new (w.alloc (.cells #[.int .i64 a0_0, .int .i64 a0_1] 33)) (.cells #[.int .i64 0, .int .i64 0, .int .i64 0, .int .i64 0, .int .i64 0, .int .i64 0, .int .i64 0, .int .i64 0, .int .i64 0, .int .i64 0, .int .i64 0, .int .i64 0, .int .i64 0, .int .i64 0, .int .i64 0, .int .i64 0, .int .i64 0, .int .i64 0, .int .i64 0, .int .i64 0, .int .i64 0, .int .i64 0, .int .i64 0, .int .i64 0, .int .i64 0, .int .i64 0, .int .i64 0, .int .i64 0, .int .i64 0, .int .i64 0, .int .i64 0, .int .i64 0] 146); rw [show (w.alloc (.cells #[.int .i64 a0_0, .int .i64 a0_1] 33)).heap.size = w.heap.size + 1 from by simp] at e; exact e) rfl (by simp [Value.oneCell']) (below_alloc (below_alloc (Below.refl _ _) _) _) (by omega) ?_; intro W' HB' BA hfar)
    have BK : W'.heap[w.heap.size]? = some (.cells #[.int .i64 a0_0, .int .i64 a0_1] 33 (0, 0)) := by
      rw [hfar _ (by omega)]; exact blk_alloc (blk_new w _) _
    clear hfar
    have hk1 := blk_cell BK 1
    have hc0 := blk_cell BA (2 * a0_1.toNat)
    have hc1 := blk_cell BA (2 * a0_1.toNat + 1)
    clear BK
    have hk : a0_1 = 0 ∨ a0_1 = 1 ∨ a0_1 = 2 ∨ a0_1 = 3 ∨ a0_1 = 4 ∨ a0_1 = 5 ∨ a0_1 = 6 ∨ a0_1 = 7 ∨ a0_1 = 8 ∨ a0_1 = 9 ∨ a0_1 = 10 ∨ a0_1 = 11 ∨ a0_1 = 12 ∨ a0_1 = 13 ∨ a0_1 = 14 ∨ a0_1 = 15 := by omega
    clear BA
    rcases hk with rfl | rfl | rfl | rfl | rfl | rfl | rfl | rfl | rfl | rfl | rfl | rfl | rfl | rfl | rfl | rfl
    all_goals
      simp [impl_Ring_turn.tab] at h hk1 hc0 hc1
      obtain ⟨rfl, rfl⟩ := h
      go_quiet (fail)
      go_wp2
      go_ret2
      exact ⟨rfl, by first | exact HB' | exact pw_below_drewN HB' _⟩

open Go.Rv in
theorem dec_int {b : Bool} {c : CV} {n : Int} (h : FPat.dec b (.int .i64) c = some n) : c = .int .i64 n := by
  cases c with
  | int j m =>
    simp only [FPat.dec] at h
    split at h
    · rename_i e; subst e; cases h; rfl
    · cases h
  | _ => simp [FPat.dec] at h
open Go.Rv in
theorem dec_pair {bb fl : Bool} {cs : List CV} {x : patsT [.fl (.int .i64), .fl (.int .i64)]} (h : decS bb (some true, [.fl (.int .i64), .fl (.int .i64)]) (.comp fl cs) = some x) : fl = true ∧ ∃ a b, cs = [.int .i64 a, .int .i64 b] ∧ x = (a, b, ()) := by
  cases fl
  · simp [decS] at h
  refine ⟨rfl, ?_⟩
  have h : decs bb [.fl (.int .i64), .fl (.int .i64)] cs = some x := h
  match cs, h with
  | [], h => cases h
  | c :: cs, h =>
    simp only [decs] at h
    split at h
    case h_2 => cases h
    rename_i a ha
    split at h
    case h_2 => cases h
    rename_i y hy
    cases h
    have ha := dec_int ha
    match cs, hy with
    | [], hy => cases hy
    | d :: cs, hy =>
      simp only [decs] at hy
      split at hy
      case h_2 => cases hy
      rename_i b hb
      split at hy
      case h_2 => cases hy
      rename_i z hz
      cases hy
      have hb := dec_int hb
      match cs, hz with
      | [], hz => exact ⟨a, b, by rw [ha, hb], rfl⟩
      | _ :: _, hz => cases hz
open Go.Rv in
/-- a function of a record of two numbers, answered by two numbers, that writes to new memory alone -/
theorem pair_fn {P : Program} {fid : FuncId} {f2 : Int → Int → Option (Int × Int)} (H : ∀ (a b r1 r2 : Int) (w : World), f2 a b = some (r1, r2) → Calls P fid #[.agg #[.int .i64 a, .int .i64 b]] w fun e w' => e = .returned (.tuple #[.int .i64 r1, .int .i64 r2]) ∧ Below w.heap.size w w') :
    FnOk P fid (mkFn 1 [(0, some true, [.fl (.int .i64), .fl (.int .i64)])] [(false, [.fl (.int .i64)]), (false, [.fl (.int .i64)])] (keepOf []) (fun (y : Int × Int) => (((y.1, ()), (y.2, ()), ()) : compT [(false, [.fl (.int .i64)]), (false, [.fl (.int .i64)])])) fun x => f2 x.1.1 x.1.2.1) := by
  intro R w g args vs K r hi hrun
  simp only [mkFn] at hrun
  obtain ⟨hl, hrun⟩ := bif_some hrun
  have hl := Nat.eq_of_beq_eq_true hl
  match args, hl with
  | [(fl, cs)], _ =>
  split at hrun
  case h_2 => cases hrun
  rename_i x hx
  obtain ⟨rfl, a, b, rfl, rfl⟩ : fl = true ∧ ∃ a b, cs = [.int .i64 a, .int .i64 b] ∧ x = ((a, b, ()), ()) := by
    obtain ⟨y, hy, he⟩ := ((readCut_lookup hx 0).1 _ rfl)
    obtain ⟨h1, a, b, h2, h3⟩ := dec_pair hy
    refine ⟨h1, a, b, h2, ?_⟩
    obtain ⟨⟨x1, x2, ⟨⟩⟩, ⟨⟩⟩ := x
    have he : encS (some true, [.fl (.int .i64), .fl (.int .i64)]) ((x1, x2, ()) : patsT [.fl (.int .i64), .fl (.int .i64)]) = encS (some true, [.fl (.int .i64), .fl (.int .i64)]) y := he
    rw [h3] at he
    simp only [encS, compOf, Rv.encs, Pat.enc, FPat.enc, SV.comp.injEq, List.cons.injEq, CV.int.injEq, true_and, and_true] at he
    rw [he.1, he.2]
  cases hy : f2 a b with
  | none => simp only [hy] at hrun; cases hrun
  | some y =>
    obtain ⟨r1, r2⟩ := y
    simp only [hy] at hrun
    obtain ⟨v, hv, us, rfl, hul, hu⟩ := hi.arg 0 _ rfl
    obtain ⟨u0, hu0, hr0⟩ := hu 0 _ rfl
    obtain ⟨u1, hu1, hr1⟩ := hu 1 _ rfl
    have hr0 : u0 = .int .i64 a := hr0
    have hr1 : u1 = .int .i64 b := hr1
    subst hr0 hr1
    have hus : us = [.int .i64 a, .int .i64 b] := by
      match us, hul, hu0, hu1 with
      | [p, q], _, hu0, hu1 => simp at hu0 hu1; rw [hu0, hu1]
    have hvs : vs = [.agg #[.int .i64 a, .int .i64 b]] := by
      have hlen := hi.len
      match vs, hlen, hv with
      | [p], _, hv => simp at hv; rw [hv, hus]
    subst hvs
    refine (H a b r1 r2 w hy).mono ?_
    rintro e w' ⟨he, hB⟩
    refine ⟨_, _, g, he, hrun, rfl, hB.os, hB.tape, hB.output, hB.size, fun b hb _ => hB.block b hb, fun b p hp => ?_, fun b o hs => Nat.lt_of_lt_of_le (hi.stab b o hs) hB.size, fun b o hb hm hs => hi.sz b o (hi.eB ▸ hb) hm hs, ?_⟩
    · have := hi.own b p hp
      exact ⟨Nat.lt_of_lt_of_le this.1 hB.size, fun _ => this.2⟩
    · refine ⟨_, [], (List.append_nil _).symm, ⟨[.int .i64 r1, .int .i64 r2], rfl, rfl, fun i p hp => ?_⟩, fun e => (e rfl).elim⟩
      match i, hp with
      | 0, hp => cases hp; exact ⟨_, rfl, _, rfl, .inr (.inr rfl)⟩
      | 1, hp => cases hp; exact ⟨_, rfl, _, rfl, .inr (.inr rfl)⟩
      | n + 2, hp => simp [encC] at hp

end Go.Proofs.Ytmgelocefebldaa.T

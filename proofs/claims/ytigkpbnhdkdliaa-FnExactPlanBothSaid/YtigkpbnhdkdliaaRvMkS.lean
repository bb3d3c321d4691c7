/- laws.markInt64SS, walked by hand, as a function of the evaluator. -/
import Derived.Test.YtigkpbnhdkdliaaRvSortH
import Derived.Test.YtigkpbnhdkdliaaVWords
import Derived.Test.YtigkpbnhdkdliaaProg
namespace Go.Proofs.Ytigkpbnhdkdliaa.T
open Go.RowKit
set_option linter.unusedVariables false
set_option linter.unusedSimpArgs false
/-- n ints from off on in block b are s, s + 1, .. now; nothing else has turned -/
structure Mkd (w w' : World) (b off n : Nat) (s : Int) : Prop where
  os : w'.os = w.os
  tape : w'.tape = w.tape
  output : w'.output = w.output
  size : w'.heap.size = w.heap.size
  old : ∀ x, (0 < n → x ≠ b) → w'.heap[x]? = w.heap[x]?
  row : 0 < n → ∀ cur e, w.heap[b]? = some (.cells cur e (0, 0)) → ∃ cur', w'.heap[b]? = some (.cells cur' e (0, 0)) ∧ cur'.size = cur.size ∧ ∀ o, o < cur.size → cur'[o]? = if off ≤ o ∧ o < off + n then some (.int .i64 (s + ((o - off : Nat) : Int))) else cur[o]?
theorem Mkd.refl (w : World) (b off : Nat) (s : Int) : Mkd w w b off 0 s := ⟨rfl, rfl, rfl, rfl, fun _ _ => rfl, fun h => absurd h (by decide)⟩
/-- the block itself, at n = 0 too -/
theorem Mkd.row0 {w w' : World} {b off n : Nat} {s : Int} (h : Mkd w w' b off n s) {cur : Array Value} {e : TypeId} (hb : w.heap[b]? = some (.cells cur e (0, 0))) : ∃ cur', w'.heap[b]? = some (.cells cur' e (0, 0)) ∧ cur'.size = cur.size ∧ ∀ o, o < cur.size → cur'[o]? = if off ≤ o ∧ o < off + n then some (.int .i64 (s + ((o - off : Nat) : Int))) else cur[o]? := by
  by_cases hn : 0 < n
  · exact h.row hn cur e hb
  · obtain rfl : n = 0 := by omega
    refine ⟨cur, by rw [h.old b (fun h => absurd h (by decide))]; exact hb, rfl, fun o _ => ?_⟩
    rw [if_neg (by omega)]
theorem Mkd.set {w w' : World} {b off k : Nat} {s : Int} (h : Mkd w w' b off k s) {cur : Array Value} {e : TypeId} (hb : w.heap[b]? = some (.cells cur e (0, 0))) (hk : off + k < cur.size) : Mkd w (w'.setCell ⟨b, off + k, none⟩ (.int .i64 (s + (k : Int)))) b off (k + 1) s where
  os := h.os
  tape := h.tape
  output := h.output
  size := by simp only [World.setCell, Array.size_modify]; exact h.size
  old := fun x hx => by
    have hxb := hx (by omega)
    rw [Below.heap_setCell w' _ _ x hxb]
    exact h.old x (fun _ => hxb)
  row := fun _ cur1 e1 h1 => by
    rw [hb] at h1
    cases h1
    obtain ⟨cur', q1, q2, q3⟩ := h.row0 hb
    refine ⟨_, heap_setCell_same w' b (off + k) cur' e _ q1, by simp [q2], fun o ho => ?_⟩
    simp only [Array.getElem?_setIfInBounds]
    by_cases e : off + k = o
    · subst e
      rw [if_pos rfl, if_pos (by omega), if_pos (by omega)]
      congr 3
      omega
    · rw [if_neg e, q3 o ho]
      by_cases h2 : off ≤ o ∧ o < off + k
      · rw [if_pos h2, if_pos (by omega)]
      · rw [if_neg h2, if_neg (by omega)]
set_option maxHeartbeats 2000000 in
set_option maxRecDepth 100000 in
theorem mark80 (A : Option Addr) (n cap b off : Nat) (s : Int) (hs : 0 ≤ s ∧ s ≤ 10000000000000) (hn : n ≤ 1048576) (w : World) (cur : Array Value) (e0 : TypeId) (hA : 0 < n → A = some ⟨b, off, none⟩) (hb : 0 < n → w.heap[b]? = some (.cells cur e0 (0, 0)))
    (hc : ∀ j, j < n → ∃ m, cur[off + j]? = some (.int .i64 m)) :
    Calls Try.prog 28 #[.slice A n cap, .int .i64 s] w fun e w' => e = .returned (.int .i64 (s + n)) ∧ Mkd w w' b off n s := by
  go_enter Try.func28, Try.ntmps28
  go_wp2
  go_loopg [1, 5] n (fun g s' i wr => ∃ k : Nat, k ≤ n ∧ g = n - k ∧ s' = .int .i64 (s + k) ∧ i = .int .i64 k ∧ Mkd w wr b off k s)
  case atStart => exact ⟨0, Nat.zero_le _, rfl, by simp, rfl, Mkd.refl _ _ _ _⟩
  case round =>
    obtain ⟨k, hk, rfl, rfl, rfl, hI⟩ := hrel
    by_cases hlt : k < n
    · obtain rfl := hA (by omega)
      have hb0 := hb (by omega)
      obtain ⟨m, hm⟩ := hc k hlt
      have hsz : off + k < cur.size := (Array.getElem?_eq_some_iff.1 hm).1
      obtain ⟨cur', q1, q2, q3⟩ := hI.row0 hb0
      have hm' : wr.cell? ⟨b, off + k, none⟩ = some (.int .i64 m) := by
        have h3 := q3 _ hsz
        rw [if_neg (show ¬ (off ≤ off + k ∧ off + k < off + k) by omega)] at h3
        rw [cell_of_row wr b _ cur' e0 (0, 0) q1, h3]
        exact hm
      have hf' : wr.frozen? ⟨b, off + k, none⟩ = false := by unfold World.frozen?; simp only [q1]; simp
      have hz : (k : Int) < (n : Int) := by omega
      clear hc hA hb q1 q3
      go_wp2
      go_roundg (n - (k + 1))
      case measure => omega
      case rel => exact ⟨k + 1, by omega, rfl, by first | (simp; done) | (simp; omega), by first | (simp; done) | (simp; omega), Mkd.set hI hb0 hsz⟩
    · obtain rfl : k = n := by omega
      have hz : ¬ ((k : Int) < (k : Int)) := by omega
      clear hc hA hb
      go_wp2
      go_ret
      exact ⟨rfl, hI⟩
def totL (L : Nat → Nat) : Nat → Nat
  | 0 => 0
  | k + 1 => totL L k + L k
theorem totL_le {L : Nat → Nat} : ∀ (n : Nat), (∀ j, j < n → L j ≤ 1048576) → totL L n ≤ 1048576 * n
  | 0, _ => Nat.le_refl _
  | n + 1, h => by have := totL_le n fun j hj => h j (by omega); have := h n (by omega); simp only [totL]; omega
structure MkdS (w w' : World) (bi oi L : Nat → Nat) (k : Nat) (s : Int) : Prop where
  os : w'.os = w.os
  tape : w'.tape = w.tape
  output : w'.output = w.output
  size : w'.heap.size = w.heap.size
  old : ∀ x, (∀ j, j < k → 0 < L j → x ≠ bi j) → w'.heap[x]? = w.heap[x]?
  row : ∀ j, j < k → 0 < L j → ∀ cur e, w.heap[bi j]? = some (.cells cur e (0, 0)) → ∃ cur', w'.heap[bi j]? = some (.cells cur' e (0, 0)) ∧ cur'.size = cur.size ∧ ∀ o, o < cur.size → cur'[o]? = if oi j ≤ o ∧ o < oi j + L j then some (.int .i64 (s + (totL L j : Int) + ((o - oi j : Nat) : Int))) else cur[o]?
theorem MkdS.refl (w : World) (bi oi L : Nat → Nat) (s : Int) : MkdS w w bi oi L 0 s := ⟨rfl, rfl, rfl, rfl, fun _ _ => rfl, fun j h => absurd h (by omega)⟩
theorem MkdS.step {w w' w3 : World} {bi oi L : Nat → Nat} {k : Nat} {s : Int} (h : MkdS w w' bi oi L k s) (h3 : Mkd w' w3 (bi k) (oi k) (L k) (s + (totL L k : Int))) (hd : ∀ j, j < k → 0 < L j → 0 < L k → bi j ≠ bi k) : MkdS w w3 bi oi L (k + 1) s where
  os := h3.os.trans h.os
  tape := h3.tape.trans h.tape
  output := h3.output.trans h.output
  size := h3.size.trans h.size
  old := fun x hx => (h3.old x (fun hl => hx k (by omega) hl)).trans (h.old x fun j hj hl => hx j (by omega) hl)
  row := fun j hj hl cur e hb => by
    by_cases e1 : j = k
    · subst e1
      exact h3.row hl cur e (by rw [h.old _ fun i hi hli => (hd i hi hli hl).symm]; exact hb)
    · obtain ⟨cur', q1, q2, q3⟩ := h.row j (by omega) hl cur e hb
      exact ⟨cur', by rw [h3.old _ fun hlk => hd j (by omega) hl hlk]; exact q1, q2, q3⟩
structure Sidd (p : Prop) : Prop where
  out : p
set_option maxHeartbeats 2000000 in
set_option maxRecDepth 100000 in
theorem mark43 (A0 : Option Addr) (b0 off0 n cap : Nat) (bi oi L C : Nat → Nat) (Ad : Nat → Option Addr) (s : Int) (hs : 0 ≤ s ∧ s ≤ 10000000) (hn : n ≤ 1048576) (hL : ∀ j, j < n → L j ≤ 1048576) (w : World) (hA : 0 < n → A0 = some ⟨b0, off0, none⟩)
    (h0 : ∀ j, j < n → w.cell? ⟨b0, off0 + j, none⟩ = some (.slice (Ad j) (L j) (C j)))
    (h1 : ∀ j, j < n → 0 < L j → Ad j = some ⟨bi j, oi j, none⟩ ∧ bi j ≠ b0 ∧ ∃ cur e, w.heap[bi j]? = some (.cells cur e (0, 0)) ∧ ∀ i, i < L j → ∃ m, cur[oi j + i]? = some (.int .i64 m))
    (hd : ∀ j k, j < n → k < n → j ≠ k → 0 < L j → 0 < L k → bi j ≠ bi k) :
    Calls Try.prog 24 #[.slice A0 n cap, .int .i64 s] w fun e w' => e = .returned (.int .i64 (s + totL L n)) ∧ MkdS w w' bi oi L n s := by
  have hu46 := Try.underlying50
  have hu54 := Try.underlying33
  go_enter Try.func24, Try.ntmps24
  go_wp2_with fail
  go_loopg [1, 5] n (fun g s' i wr => ∃ k : Nat, k ≤ n ∧ g = n - k ∧ s' = .int .i64 (s + totL L k) ∧ i = .int .i64 k ∧ MkdS w wr bi oi L k s)
  case atStart => exact ⟨0, Nat.zero_le _, rfl, by simp [totL], rfl, MkdS.refl _ _ _ _ _⟩
  case round =>
    obtain ⟨k, hk, rfl, rfl, rfl, hI⟩ := hrel
    have ht := totL_le k fun j hj => hL j (by omega)
    by_cases hlt : k < n
    · obtain rfl := hA (by omega)
      have hz : (k : Int) < (n : Int) := by omega
      have hcell : wr.cell? ⟨b0, off0 + k, none⟩ = some (.slice (Ad k) (L k) (C k)) := by
        rw [← h0 k hlt]
        exact World.cell?_of_block (w := w) (a := ⟨b0, off0 + k, none⟩) (hI.old b0 fun j hj hl => ((h1 j (by omega) hl).2.1).symm)
      have hLk := hL k hlt
      have H80 : Sidd (Calls Try.prog 28 #[.slice (Ad k) (L k) (C k), .int .i64 (s + totL L k)] wr fun e w' => e = .returned (.int .i64 (s + totL L k + L k)) ∧ Mkd wr w' (bi k) (oi k) (L k) (s + totL L k)) := by
        refine ⟨?_⟩
        by_cases hl : 0 < L k
        · obtain ⟨q1, q2, cur, e, q3, q4⟩ := h1 k hlt hl
          refine mark80 (Ad k) (L k) (C k) (bi k) (oi k) (s + totL L k) (by omega) hLk wr cur e (fun _ => q1) (fun _ => ?_) q4
          rw [hI.old _ fun j hj hlj => (hd j k (by omega) hlt (by omega) hlj hl).symm]
          exact q3
        · exact mark80 (Ad k) (L k) (C k) (bi k) (oi k) (s + totL L k) (by omega) hLk wr #[] 0 (fun h => absurd h hl) (fun h => absurd h hl) (fun j hj => by omega)
      have hdk : ∀ j, j < k → 0 < L j → 0 < L k → bi j ≠ bi k := fun j hj hl hlk => hd j k (by omega) hlt (by omega) hl hlk
      clear h0 h1 hA hd
      go_wp2_with (go_at_call 28; refine H80.out.mono ?_; rintro e w3 ⟨rfl, hI3⟩)
      go_roundg (n - (k + 1))
      case measure => omega
      case rel => exact ⟨k + 1, by omega, rfl, by first | (simp [totL]; done) | (simp [totL]; omega), by first | (simp; done) | (simp; omega), hI.step hI3 hdk⟩
    · obtain rfl : k = n := by omega
      have hz : ¬ ((k : Int) < (k : Int)) := by omega
      clear h0 h1 hA hd
      go_wp2_with fail
      go_ret
      exact ⟨rfl, hI⟩
end Go.Proofs.Ytigkpbnhdkdliaa.T
namespace Go.Proofs.Ytigkpbnhdkdliaa.T
open Go.Rv
def mkRow (s : Int) : List Int → List Int
  | [] => []
  | _ :: r => s :: mkRow (s + 1) r
def mkRows (s : Int) : List (List Int) → List (List Int)
  | [] => []
  | x :: r => mkRow s x :: mkRows (s + (x.length : Int)) r
def okR (a : List (List Int)) : Bool := decide (a.length ≤ 1048576) && a.all fun x => decide (x.length ≤ 1048576)
def lenA (a : List (List Int)) (j : Nat) : Nat := (a.getD j []).length
def markSSF (a : List (List Int)) (s : Int) : Option (Int × List (List Int)) := if okR a = true then if 0 ≤ s ∧ s ≤ 1000000 then some (s + (totL (lenA a) a.length : Int), mkRows s a) else none else none
theorem mkRow_length : ∀ (x : List Int) (s : Int), (mkRow s x).length = x.length
  | [], _ => rfl
  | _ :: r, s => by simp [mkRow, mkRow_length r]
theorem mkRow_get : ∀ (x : List Int) (s : Int) (j : Nat) (y : Int), (mkRow s x)[j]? = some y → j < x.length ∧ y = s + (j : Int)
  | [], s, j, y, h => by simp [mkRow] at h
  | z :: r, s, j, y, h => by
    cases j with
    | zero => simp [mkRow] at h; subst h; simp
    | succ j =>
      simp only [mkRow, List.getElem?_cons_succ] at h
      obtain ⟨h1, h2⟩ := mkRow_get r (s + 1) j y h
      exact ⟨by simpa using h1, by rw [h2]; omega⟩
theorem mkRows_length : ∀ (a : List (List Int)) (s : Int), (mkRows s a).length = a.length
  | [], _ => rfl
  | _ :: r, s => by simp [mkRows, mkRows_length r]
theorem totL_shift (x : List Int) (r : List (List Int)) : ∀ j, totL (lenA (x :: r)) (j + 1) = x.length + totL (lenA r) j
  | 0 => by simp [totL, lenA]
  | j + 1 => by
    have ih := totL_shift x r j
    have e : lenA (x :: r) (j + 1) = lenA r j := rfl
    rw [totL, ih, e, totL]
    omega
theorem mkRows_get : ∀ (a : List (List Int)) (s : Int) (i : Nat) (y : List Int), (mkRows s a)[i]? = some y → ∃ x, a[i]? = some x ∧ y = mkRow (s + (totL (lenA a) i : Int)) x
  | [], s, i, y, h => by simp [mkRows] at h
  | x :: r, s, i, y, h => by
    cases i with
    | zero => simp [mkRows] at h; subst h; exact ⟨x, rfl, by simp [totL]⟩
    | succ i =>
      simp only [mkRows, List.getElem?_cons_succ] at h
      obtain ⟨z, h1, h2⟩ := mkRows_get r _ i y h
      refine ⟨z, by simpa using h1, ?_⟩
      rw [h2, totL_shift]
      congr 1
      omega
theorem dec_i64 {b fl : Bool} {cs : List CV} {y : patsT [Pat.fl (.int .i64)]} (h : decS b (some false, [.fl (.int .i64)]) (.comp fl cs) = some y) : fl = false ∧ cs = [.int .i64 y.1] := by
  simp only [decS] at h
  cases fl
  case true => cases h
  refine ⟨rfl, ?_⟩
  have h : decs b [.fl (.int .i64)] cs = some y := h
  match cs, h with
  | [], h => cases h
  | [c], h =>
    simp only [decs, Pat.dec] at h
    cases c <;> simp only [FPat.dec] at h <;> first | (cases h; done) | skip
    case int k n _ =>
      by_cases hk : k = .i64
      · subst hk
        simp only [if_true, Option.some.injEq] at h
        subst h
        rfl
      · rw [if_neg hk] at h; cases h
  | c :: d :: r, h =>
    simp only [decs] at h
    split at h <;> cases h

abbrev RoT : Ty := .sl (.int .i64)
theorem markSS_fn : FnOk Try.prog 24 (mkFn 2 [(0, some false, [.fl (.own (.sl (.int .i64)))]), (1, some false, [.fl (.int .i64)])] [(false, [.fl (.int .i64)]), (false, [.fl (.own (.sl (.int .i64)))])] (keepOf [(0, 1)])
    (fun (y : Int × List (List Int)) => (((y.1, ()), (y.2, ()), ()) : compT [(false, [.fl (.int .i64)]), (false, [.fl (.own (.sl (.int .i64)))])])) fun x => markSSF x.1.1 x.2.1.1) := by
  intro R w g args vs K r hi hrun
  simp only [mkFn] at hrun
  obtain ⟨hl, hrun⟩ := bif_some hrun
  have hl := Nat.eq_of_beq_eq_true hl
  match args, hl with
  | [(f0, cs0), (f1, cs1)], _ =>
  split at hrun
  case h_2 => cases hrun
  rename_i x hx
  simp only [readCut] at hx
  split at hx
  case h_2 => cases hx
  rename_i x0 hq0
  split at hx
  case h_2 => cases hx
  rename_i x1 hq1
  split at hq1
  case h_2 => cases hq1
  rename_i x2 hq2
  cases hq1
  cases hx
  obtain ⟨rfl, c1, rfl, k1⟩ := dec_row hq0
  obtain ⟨rfl, rfl⟩ := dec_i64 hq2
  obtain ⟨v, hv, c0', hc0', hr1⟩ := hi.arg 0 _ rfl
  obtain ⟨v2, hv2, c0, hc0, hr⟩ := hi.arg 1 _ rfl
  have hc0' : c1 = c0' := by simpa using hc0'
  subst hc0'
  have hc0 : .int .i64 x2.1 = c0 := by simpa using hc0
  subst hc0
  have hr : v2 = .int .i64 x2.1 := by
    rcases hr with e | ⟨e, _⟩ | e
    · cases e
    · cases e
    · exact e
  subst hr
  obtain ⟨xss, hxs⟩ : ∃ xss : List (List Int), xss = x0.1 := ⟨_, rfl⟩
  obtain ⟨s, hss⟩ : ∃ s : Int, s = x2.1 := ⟨_, rfl⟩
  have o1 : OwnR w g (.at 0 0 1) (.sl (.int .i64)) xss v := by
    rw [hxs]
    rcases hr1 with e | ⟨e, _⟩ | e
    · rcases k1 with k | k | ⟨k, _⟩ <;> rw [k] at e <;> cases e
    · rcases k1 with k | k | ⟨k, _⟩ <;> rw [k] at e <;> cases e
    · rcases k1 with k | k | ⟨k, k2⟩
      · rw [k] at e; exact e.1
      · rw [k] at e; exact e.1
      · rw [k] at e; exact .inl ⟨e, k2⟩
  have hvs : vs = [v, .int .i64 x2.1] := by
    have hlen := hi.len
    match vs, hlen, hv, hv2 with
    | [p, q], _, hv, hv2 => simp at hv hv2; rw [hv, hv2]
  subst hvs
  have hrun : (markSSF xss s).bind (fun y => K (encC [(false, [.fl (.int .i64)]), (false, [.fl (.own (.sl (.int .i64)))])] ((y.1, ()), (y.2, ()), ()))) = some r := by rw [hxs, hss]; exact hrun
  rw [← hss] at hi ⊢
  clear hq0 hq2 hxs hss k1 hr1
  unfold markSSF at hrun
  by_cases h2 : okR xss = true
  case neg => rw [if_neg h2] at hrun; cases hrun
  by_cases h3 : 0 ≤ s ∧ s ≤ 1000000
  case neg => rw [if_pos h2, if_neg h3] at hrun; cases hrun
  rw [if_pos h2, if_pos h3] at hrun
  simp only [okR, Bool.and_eq_true, decide_eq_true_eq, List.all_eq_true] at h2
  have hlen : ∀ j, j < xss.length → lenA xss j ≤ 1048576 := fun j hj => by
    have hj2 : xss[j]? = some xss[j] := List.getElem?_eq_getElem hj
    have : lenA xss j = xss[j].length := by simp [lenA, List.getD, hj2]
    rw [this]
    exact h2.2 _ (List.getElem_mem hj)
  -- what is told of the end
  have fin : ∀ (w' : World) (bi oi : Nat → Nat), MkdS w w' bi oi (lenA xss) xss.length s → (∀ j, j < xss.length → 0 < lenA xss j → g.M (bi j)) → OwnR w' g (.at 0 0 1) (.sl (.int .i64)) (mkRows s xss) v →
      ∃ v' res g', Ending.returned (.int .i64 (s + (totL (lenA xss) xss.length : Int))) = .returned v' ∧ K res = some r ∧ ResOk (keepOf [(0, 1)]) w w' g g' [(false, [c1]), (false, [.int .i64 s])] [v, .int .i64 s] res v' := by
    intro w' bi oi hI hM ho
    refine ⟨_, _, g, rfl, hrun, rfl, hI.os, hI.tape, hI.output, Nat.le_of_eq hI.size.symm, fun b hb hm => ?_, fun b p hp => ?_, fun b o hs => ?_, fun b o hb hm hs => ?_, ?_⟩
    · exact hI.old b fun j hj hl e => hm (by rw [e]; exact hM j hj hl)
    · have := hi.own b p hp
      exact ⟨by rw [hI.size]; exact this.1, fun _ => this.2⟩
    · rw [hI.size]; exact hi.stab b o hs
    · exact hi.sz b o (by rw [hi.eB]; exact hb) hm hs
    · refine ⟨[(false, [.int .i64 _])], [.own (.sl (.int .i64)) (mkRows s xss)], rfl, ⟨_, rfl, .inr (.inr rfl)⟩, fun _ => ⟨[.own (.sl (.int .i64)) (mkRows s xss)], [], _, _, rfl, rfl, rfl, rfl, fun k t xs hk => ?_, rfl⟩⟩
      match k, hk with
      | 0, hk =>
        cases hk
        refine ⟨v, ?_, ho⟩
        rcases o1 with ⟨rfl, _⟩ | ⟨b, cap, cur, e, rfl, _⟩ <;> rfl
      | k + 1, hk => simp at hk
  rcases o1 with ⟨rfl, rfl⟩ | ⟨b, cap, cur, e, rfl, hO, hb, q1, q2, q3, q4, q5⟩
  · refine (mark43 none 0 0 0 0 (fun _ => 0) (fun _ => 0) (lenA []) (fun _ => 0) (fun _ => none) s ⟨by omega, by omega⟩ (by omega) (fun j hj => by omega) w (fun h => absurd h (by decide)) (fun j hj => by omega) (fun j hj => by omega) (fun j k hj => by omega)).mono ?_
    rintro e w' ⟨rfl, hI⟩
    exact fin w' _ _ hI (fun j hj => absurd hj (by simp)) (.inl ⟨rfl, rfl⟩)
  · -- the inner rows
    have hin : ∀ j, j < xss.length → ∃ (A : Option Addr) (C : Nat), cur[j]? = some (.slice A (lenA xss j) C) ∧ lenA xss j ≤ C ∧ (0 < lenA xss j → ∃ bb oo arr ee, A = some ⟨bb, oo, none⟩ ∧ w.heap[bb]? = some (.cells arr ee (0, 0)) ∧ g.O bb = some (.at 0 0 1) ∧ ∀ i, i < lenA xss j → g.S bb (oo + i) ∧ ∃ m, arr[oo + i]? = some (.int .i64 m)) := fun j hj => by
      have hj2 : xss[j]? = some xss[j] := List.getElem?_eq_getElem hj
      have hL : lenA xss j = xss[j].length := by simp [lenA, List.getD, hj2]
      obtain ⟨ecs, hr, hc⟩ := q4 j xss[j] hj2
      obtain ⟨A, C, rfl, hC, hel⟩ := hr
      have hcc := hc 0 _ rfl
      simp only [Ty.cells, Nat.mul_one, Nat.add_zero] at hcc
      refine ⟨A, C, by rw [hL]; exact hcc, by rw [hL]; exact hC, fun hl => ?_⟩
      rw [hL] at hl ⊢
      obtain ⟨a, ec, rfl, hsp, hr0, hc0⟩ := hel 0 xss[j][0] (List.getElem?_eq_getElem hl)
      obtain ⟨ab, ao, asp⟩ := a
      simp only at hsp
      subst hsp
      have hr0 : ec = [.int .i64 xss[j][0]] := hr0
      subst hr0
      obtain ⟨⟨_, hOb, arr, ee, hbb⟩, _⟩ := hc0 0 _ rfl
      refine ⟨ab, ao, arr, ee, rfl, hbb, hOb, fun i hi => ?_⟩
      obtain ⟨a', ec', e1, _, hr', hc'⟩ := hel i xss[j][i] (List.getElem?_eq_getElem hi)
      cases e1
      have hr' : ec' = [.int .i64 xss[j][i]] := hr'
      subst hr'
      have hk := hc' 0 _ rfl
      simp only [Ty.cells, Nat.mul_one, Nat.add_zero] at hk
      refine ⟨hk.1.1, xss[j][i], ?_⟩
      rw [← cell_of_row w ab (ao + i) arr ee (0, 0) hbb]
      exact hk.2
    obtain ⟨Ad, hAd⟩ : ∃ Ad : Nat → Option Addr, ∀ j, Ad j = (match cur[j]? with | some (.slice A _ _) => A | _ => none) := ⟨_, fun _ => rfl⟩
    obtain ⟨C, hC⟩ : ∃ C : Nat → Nat, ∀ j, C j = (match cur[j]? with | some (.slice _ _ c) => c | _ => 0) := ⟨_, fun _ => rfl⟩
    obtain ⟨bi, hbi⟩ : ∃ bi : Nat → Nat, ∀ j, bi j = (match Ad j with | some a => a.block | none => 0) := ⟨_, fun _ => rfl⟩
    obtain ⟨oi, hoi⟩ : ∃ oi : Nat → Nat, ∀ j, oi j = (match Ad j with | some a => a.off | none => 0) := ⟨_, fun _ => rfl⟩
    have hcur : ∀ j, j < xss.length → cur[j]? = some (.slice (Ad j) (lenA xss j) (C j)) ∧ lenA xss j ≤ C j ∧ (0 < lenA xss j → ∃ arr ee, Ad j = some ⟨bi j, oi j, none⟩ ∧ w.heap[bi j]? = some (.cells arr ee (0, 0)) ∧ g.O (bi j) = some (.at 0 0 1) ∧ ∀ i, i < lenA xss j → g.S (bi j) (oi j + i) ∧ ∃ m, arr[oi j + i]? = some (.int .i64 m)) := fun j hj => by
      obtain ⟨A, C0, k1, k2, k3⟩ := hin j hj
      have e1 : Ad j = A := by rw [hAd, k1]
      have e2 : C j = C0 := by rw [hC, k1]
      refine ⟨by rw [e1, e2]; exact k1, by rw [e2]; exact k2, fun hl => ?_⟩
      obtain ⟨bb, oo, arr, ee, k4, k5⟩ := k3 hl
      have e3 : bi j = bb := by rw [hbi, e1, k4]
      have e4 : oi j = oo := by rw [hoi, e1, k4]
      rw [e3, e4]
      exact ⟨arr, ee, by rw [e1]; exact k4, k5⟩
    have hn : xss.length * (Ty.sl (.int .i64)).cells = xss.length := by simp [Ty.cells]
    have hne : ∀ j, j < xss.length → 0 < lenA xss j → bi j ≠ b := fun j hj hl => by
      obtain ⟨k1, k2, k3⟩ := hcur j hj
      obtain ⟨arr, ee, k4, _⟩ := k3 hl
      rw [k4] at k1
      exact q5.2.2 j ⟨bi j, oi j, none⟩ _ _ (by rw [hn]; exact hj) k1 hl
    have hdd : ∀ j k, j < xss.length → k < xss.length → j ≠ k → 0 < lenA xss j → 0 < lenA xss k → bi j ≠ bi k := fun j k hj hk hjk hl hl2 => by
      obtain ⟨k1, _, k3⟩ := hcur j hj
      obtain ⟨arr, ee, k4, _⟩ := k3 hl
      obtain ⟨m1, _, m3⟩ := hcur k hk
      obtain ⟨arr2, ee2, m4, _⟩ := m3 hl2
      rw [k4] at k1
      rw [m4] at m1
      exact q5.2.1 j k ⟨bi j, oi j, none⟩ ⟨bi k, oi k, none⟩ _ _ _ _ (by rw [hn]; exact hj) (by rw [hn]; exact hk) hjk k1 m1 hl hl2
    refine (mark43 (some ⟨b, 0, none⟩) b 0 xss.length cap bi oi (lenA xss) C Ad s ⟨by omega, by omega⟩ h2.1 hlen w (fun _ => rfl) (fun j hj => ?_) (fun j hj hl => ?_) hdd).mono ?_
    · rw [cell_of_row w b _ cur e (0, 0) hb, Nat.zero_add]
      exact (hcur j hj).1
    · obtain ⟨arr, ee, k4, k5, k6, k7⟩ := (hcur j hj).2.2 hl
      exact ⟨k4, hne j hj hl, arr, ee, k5, fun i hi => (k7 i hi).2⟩
    · rintro e' w' ⟨rfl, hI⟩
      refine fin w' bi oi hI (fun j hj hl => ?_) ?_
      · obtain ⟨arr, ee, k4, k5, k6, k7⟩ := (hcur j hj).2.2 hl
        exact (hi.own _ _ k6).2
      · have hb' : w'.heap[b]? = some (.cells cur e (0, 0)) := by rw [hI.old b fun j hj hl e => hne j hj hl e.symm]; exact hb
        have hml := mkRows_length xss s
        refine .inr ⟨b, cap, cur, e, by rw [hml], hO, hb', by rw [hml]; exact q1, q2, q3, fun i y hy => ?_, fun o => by rw [hml]; exact q5.1 o, by rw [hml]; exact q5.2⟩
        obtain ⟨x, hx, rfl⟩ := mkRows_get xss s i y hy
        have hil : i < xss.length := (List.getElem?_eq_some_iff.1 hx).1
        have hL : lenA xss i = x.length := by simp [lenA, List.getD, hx]
        obtain ⟨k1, k2, k3⟩ := hcur i hil
        refine ⟨[.slice (Ad i) (lenA xss i) (C i)], ⟨Ad i, C i, by rw [mkRow_length, hL], by rw [mkRow_length, ← hL]; exact k2, fun j z hz => ?_⟩, fun j u hj => ?_⟩
        · obtain ⟨hjl, rfl⟩ := mkRow_get x _ j z hz
          have hl : 0 < lenA xss i := by omega
          obtain ⟨arr, ee, k4, k5, k6, k7⟩ := k3 hl
          obtain ⟨arr', m1, m2, m3⟩ := hI.row i hil hl arr ee k5
          refine ⟨⟨bi i, oi i, none⟩, [.int .i64 (s + (totL (lenA xss) i : Int) + (j : Int))], k4, rfl, rfl, fun j' u hu => ?_⟩
          match j', hu with
          | 0, hu =>
            cases hu
            simp only [Ty.cells, Nat.mul_one, Nat.add_zero]
            obtain ⟨k8, m, k9⟩ := k7 j (by rw [hL]; exact hjl)
            have hsz : oi i + j < arr.size := (Array.getElem?_eq_some_iff.1 k9).1
            refine ⟨⟨k8, k6, arr', ee, m1⟩, ?_⟩
            rw [cell_of_row w' (bi i) _ arr' ee (0, 0) m1, m3 _ hsz, if_pos ⟨by omega, by omega⟩]
            congr 3
            omega
          | j' + 1, hu => simp at hu
        · match j, hj with
          | 0, hj =>
            cases hj
            simp only [Ty.cells, Nat.mul_one, Nat.add_zero]
            exact k1
          | j + 1, hj => simp at hj
end Go.Proofs.Ytigkpbnhdkdliaa.T

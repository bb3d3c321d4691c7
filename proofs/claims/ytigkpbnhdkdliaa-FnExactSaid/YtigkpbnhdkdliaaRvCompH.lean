/- slices.Compact of whole numbers, as a function of the evaluator: out of the kit's contract. The row that is given is the row that comes back. -/
import Derived.Test.YtigkpbnhdkdliaaRvSortH
import Derived.Lib.SlicesCompact
namespace Go.Rv
open Go.Sort
set_option linter.unusedSimpArgs false
set_option linter.unusedVariables false
def compactF (xs : List Int) : Option (List Int) := if xs.length < 4611686018427387904 then some (Lib.compact xs) else none
theorem compact_le (xs : List Int) : (Lib.compact xs).length ≤ xs.length := by
  unfold Lib.compact Lib.compactUpTo
  rw [List.length_map]
  have := List.length_filter_le (Lib.keeps xs.toArray) (List.range xs.length)
  simpa using this
theorem compact_fn {P : Program} {fid : FuncId}
    (H : ∀ (blk off cap : Nat) (zs : List Int) (w : World), Holds (Value.int .i64) w blk off zs.toArray → zs.length ≤ 9223372036854775807 → zs.length ≤ cap → Calls P fid #[.slice (some ⟨blk, off, none⟩) zs.length cap] w fun e w' => e = .returned (.slice (some ⟨blk, off, none⟩) (Lib.compact zs).length cap) ∧ ∃ q, w' = putRow (Value.int .i64) (Go.Sort.ahead w q) blk off (Lib.compact zs ++ List.replicate (zs.length - (Lib.compact zs).length) 0).toArray)
    (H0 : ∀ (p : Option Addr) (cap : Nat) (w : World), Calls P fid #[.slice p 0 cap] w fun e w' => e = .returned (.slice p 0 cap) ∧ w' = w) :
    FnOk P fid (mkFn 1 [(0, some false, [.fl (.own (.int .i64))])] [(false, [.fl (.own (.int .i64))]), (false, [.fl .dead])] (keepOf [(0, 1)]) (fun (y : List Int) => (((y, ()), ((), ()), ()) : compT [(false, [.fl (.own (.int .i64))]), (false, [.fl .dead])])) fun x => compactF x.1.1) := by
  intro R w g args vs K r hi hrun
  simp only [mkFn] at hrun
  obtain ⟨hl, hrun⟩ := bif_some hrun
  have hl := Nat.eq_of_beq_eq_true hl
  match args, hl with
  | [(fl, cs)], _ =>
  split at hrun
  case h_2 => cases hrun
  rename_i x hx
  obtain ⟨rfl, c, rfl, hc⟩ : fl = false ∧ ∃ c, cs = [c] ∧ (c = .own (.int .i64) x.1.1 ∨ c = .tmpo (.int .i64) x.1.1 ∨ (c = .nils ∧ x.1.1 = [])) := by
    have hx' := hx
    simp only [readCut] at hx'
    cases hq : decS (!refTo 0 [(0, some false, [Pat.fl (.own (.int .i64))])]) (some false, [.fl (.own (.int .i64))]) (argFr 0 [(fl, cs)] 0) with
    | none => rw [hq] at hx'; cases hx'
    | some y =>
      rw [hq] at hx'
      simp only [Option.some.injEq] at hx'
      subst hx'
      exact dec_row hq
  obtain ⟨v, hv, c0, hc0, hr⟩ := hi.arg 0 _ rfl
  have hc0 : c = c0 := by simpa using hc0
  subst hc0
  have hvs : vs = [v] := by
    have hlen := hi.len
    match vs, hlen, hv with
    | [p], _, hv => simp at hv; rw [hv]
  subst hvs
  obtain ⟨xs, hxs⟩ : ∃ xs : List Int, xs = x.1.1 := ⟨_, rfl⟩
  rw [← hxs] at hc hrun
  have ho : OwnR w g (.at 0 0 1) (.int .i64) xs v := by
    rcases hc with rfl | rfl | ⟨rfl, e⟩
    · rcases hr with e | ⟨e, _⟩ | e
      · cases e
      · cases e
      · exact e.1
    · rcases hr with e | ⟨e, _⟩ | e
      · cases e
      · cases e
      · exact e.1
    · rcases hr with e' | ⟨e', _⟩ | e'
      · cases e'
      · cases e'
      · exact .inl ⟨e', e⟩
  unfold compactF at hrun
  by_cases hlt : xs.length < 4611686018427387904
  case neg => rw [if_neg hlt] at hrun; cases hrun
  rw [if_pos hlt] at hrun
  have hrun : K [(false, [.own (.int .i64) (Lib.compact xs)]), (false, [.dead])] = some r := hrun
  have houts : ∀ (w' : World) (g' : Gh), Outs w' g' [(false, [c])] [v] (keepOf [(0, 1)]) [.dead] := fun w' g' =>
    ⟨[.dead], [], _, _, rfl, rfl, rfl, rfl, fun k t ys hk => by cases k <;> simp at hk, rfl⟩
  rcases ho with ⟨rfl, rfl⟩ | ⟨b, cap, cur, e, rfl, hO, hb, h1, h2, h3, h4, h5⟩
  · refine (H0 none 0 w).mono ?_
    rintro e w' ⟨he, rfl⟩
    have e0 : Lib.compact ([] : List Int) = [] := rfl
    rw [e0] at hrun
    refine ⟨_, _, g, he, hrun, ⟨rfl, rfl, rfl, rfl, Nat.le_refl _, fun _ _ _ => rfl, fun b p hp => ⟨(hi.own b p hp).1, fun _ => (hi.own b p hp).2⟩, hi.stab, fun b o hb hm hs => hi.sz b o (hi.eB ▸ hb) hm hs, ?_⟩⟩
    exact ⟨[(false, [.own (.int .i64) []])], [.dead], rfl, ⟨_, rfl, .inr (.inr (.inl ⟨rfl, rfl⟩))⟩, fun _ => houts _ _⟩
  · have hbs : b < w.heap.size := (Array.getElem?_eq_some_iff.1 hb).1
    have hcell : ∀ (i : Nat) (x : Int), xs[i]? = some x → cur[i]? = some (Value.int .i64 x) := fun i x hix => by
      obtain ⟨ecs, q1, q2⟩ := h4 i x hix
      have q1 : ecs = [.int .i64 x] := q1
      subst q1
      have := q2 0 _ rfl
      simpa [Ty.cells] using this
    have hH : Holds (Value.int .i64) w b 0 xs.toArray := fun j hj => by
      have hj : j < xs.length := by simpa using hj
      have hx := hcell j xs[j] (List.getElem?_eq_getElem hj)
      refine ⟨?_, ?_⟩
      · rw [cell_of_row w b _ cur e (0, 0) hb, Nat.zero_add, hx]
        simp [hj]
      · unfold World.frozen?
        simp [hb]
    refine (H b 0 cap xs w hH (by omega) h1).mono ?_
    rintro e' w' ⟨he, n, rfl⟩
    have hle := compact_le xs
    obtain ⟨ys, hys⟩ : ∃ ys : List Int, ys = Lib.compact xs ++ List.replicate (xs.length - (Lib.compact xs).length) 0 := ⟨_, rfl⟩
    rw [← hys]
    have hyl : ys.length = xs.length := by rw [hys]; simp; omega
    have hheap : ∀ k, (putRow (Value.int .i64) (Go.Sort.ahead w n) b 0 ys.toArray).heap[k]? = if b = k then some (.cells (putCells (Value.int .i64) 0 ys.toArray cur) e (0, 0)) else w.heap[k]? := by
      intro k
      unfold putRow mapBlock
      simp only [Go.Sort.heap_ahead, Array.getElem?_modify]
      split
      · rename_i e; subst e; rw [hb]; rfl
      · rfl
    have hsz : (putRow (Value.int .i64) (Go.Sort.ahead w n) b 0 ys.toArray).heap.size = w.heap.size := by simp
    obtain ⟨w2, hw2⟩ : ∃ w2, w2 = putRow (Value.int .i64) (Go.Sort.ahead w n) b 0 ys.toArray := ⟨_, rfl⟩
    have hos : w2.os = w.os ∧ w2.tape = w.tape ∧ w2.output = w.output := by rw [hw2]; exact ⟨rfl, rfl, rfl⟩
    rw [← hw2] at hheap hsz ⊢
    let g2 : Gh := { g with O := fun b' => if b' = b then some (.air 0) else g.O b', S := fun b' o => if b' = b then o < (Lib.compact xs).length else g.S b' o }
    refine ⟨_, _, g2, he, hrun, ⟨rfl, hos.1, hos.2.1, hos.2.2, Nat.le_of_eq hsz.symm, fun k hk hm => ?_, fun b' p hp => ?_, fun b' o hs => ?_, fun b' o hb' hm hs => ?_, ?_⟩⟩
    · have := hheap k
      rw [if_neg (fun e => by subst e; exact hm (hi.own _ _ hO).2)] at this
      exact this
    · simp only [g2] at hp
      rw [hsz]
      split at hp
      · rename_i e; subst e; exact ⟨hbs, fun _ => (hi.own _ _ hO).2⟩
      · exact ⟨(hi.own b' p hp).1, fun _ => (hi.own b' p hp).2⟩
    · simp only [g2] at hs
      rw [hsz]
      split at hs
      · rename_i e; subst e; exact hbs
      · exact hi.stab b' o hs
    · simp only [g2] at hs
      split at hs
      · rename_i e; subst e; exact (hm (hi.own _ _ hO).2).elim
      · exact hi.sz b' o (hi.eB ▸ hb') hm hs
    · refine ⟨[(false, [.own (.int .i64) (Lib.compact xs)])], [.dead], rfl, ⟨_, rfl, .inr (.inr ?_)⟩, fun _ => houts _ _⟩
      have hels : ∀ (i : Nat) (x : Int), (Lib.compact xs)[i]? = some x → ∃ ecs, rep w2 (g2.SO w2 (.air 0)) (.int .i64) x ecs ∧ ∀ (j : Nat) (u : Value), ecs[j]? = some u → (putCells (Value.int .i64) 0 ys.toArray cur)[i * (Ty.int .i64).cells + j]? = some u := by
        intro i x hix
        refine ⟨[.int .i64 x], rfl, fun j u hj => ?_⟩
        cases j with
        | succ j => simp at hj
        | zero =>
          simp only [List.getElem?_cons_zero, Option.some.injEq] at hj
          subst hj
          have hil := (List.getElem?_eq_some_iff.1 hix).1
          have hic : i < cur.size := by rw [h3]; simp only [Ty.cells]; omega
          simp only [Ty.cells, Nat.mul_one, Nat.add_zero]
          unfold putCells
          rw [Array.getElem?_mapIdx, Array.getElem?_eq_getElem hic]
          simp only [Option.map_some, Option.some.injEq]
          have hyx : ys[i]? = some x := by rw [hys, List.getElem?_append_left hil]; exact hix
          have hyi : i < ys.length := by omega
          rw [if_pos ⟨Nat.zero_le _, by simpa using hyi⟩]
          have hx := (List.getElem?_eq_some_iff.1 hyx).2
          simp [hyi, hx]
      refine .inr ⟨b, cap, putCells (Value.int .i64) 0 ys.toArray cur, e, rfl, by simp [g2], ?_, by omega, h2, ?_, hels, fun o => by simp [g2, Ty.cells], apart_flat (t := .int .i64) (xs := Lib.compact xs) (w := w2) (S := g2.SO w2 (.air 0)) rfl hels _⟩
      · have := hheap b
        rw [if_pos rfl] at this
        exact this
      · simp [putCells, h3]
end Go.Rv

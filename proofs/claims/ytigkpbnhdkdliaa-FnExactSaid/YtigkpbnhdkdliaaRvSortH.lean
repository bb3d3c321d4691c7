/- slices.Sort of whole numbers, as a function of the evaluator: out of the kit's contract. -/
import Derived.Test.YtigkpbnhdkdliaaRvM4
import Derived.Sort.Grow
namespace Go.Rv
open Go.Sort
set_option linter.unusedSimpArgs false
set_option linter.unusedVariables false
/-- in order -/
def sorted (xs : List Int) : List Int := xs.mergeSort fun x y => decide (x ≤ y)
def sortF (xs : List Int) : Option (List Int) := if xs.length < 4611686018427387904 then some (sorted xs) else none
theorem dec_row {b : Bool} {fl : Bool} {cs : List CV} {t : Ty} {y : patsT [Pat.fl (.own t)]} (h : decS b (some false, [.fl (.own t)]) (.comp fl cs) = some y) : fl = false ∧ ∃ c, cs = [c] ∧ (c = .own t y.1 ∨ c = .tmpo t y.1 ∨ (c = .nils ∧ y.1 = [])) := by
  simp only [decS] at h
  cases fl
  case true => cases h
  refine ⟨rfl, ?_⟩
  have h : decs b [.fl (.own t)] cs = some y := h
  cases cs with
  | nil => cases h
  | cons c cs =>
    simp only [decs] at h
    cases hc : Pat.dec b (.fl (.own t)) c with
    | none => rw [hc] at h; cases h
    | some x =>
      rw [hc] at h
      cases cs with
      | cons d ds => cases h
      | nil =>
        simp only [decs, Option.some.injEq] at h
        subst h
        refine ⟨c, rfl, ?_⟩
        simp only [Pat.dec] at hc
        cases c <;> simp only [FPat.dec] at hc <;> first | (cases hc; done) | skip
        · cases b
          · cases hc
          · simp only [cond_true, Option.some.injEq] at hc; exact .inr (.inr ⟨rfl, hc.symm⟩)
        · split at hc
          · rename_i e; subst e; simp only [Option.some.injEq] at hc; subst hc; exact .inl rfl
          · cases hc
        · cases b
          · cases hc
          · simp only [cond_true] at hc
            split at hc
            · rename_i e; subst e; simp only [Option.some.injEq] at hc; subst hc; exact .inr (.inl rfl)
            · cases hc
theorem sort_fn {P : Program} {fid : FuncId}
    (H : ∀ (blk off cap : Nat) (zs : List Int) (w : World), Holds (Value.int .i64) w blk off zs.toArray → blk < w.heap.size → zs.length < 4611686018427387904 → Calls P fid #[.slice (some ⟨blk, off, none⟩) zs.length cap] w fun e w' => e = .returned (.tuple #[]) ∧ ∃ n os, w' = grow (putRow (Value.int .i64) (Go.Sort.ahead w n) blk off (zs.mergeSort fun x y => decide (x ≤ y)).toArray) os)
    (H0 : ∀ (p : Option Addr) (cap : Nat) (w : World), Calls P fid #[.slice p 0 cap] w fun e w' => e = .returned (.tuple #[]) ∧ w' = w) :
    FnOk P fid (mkFn 1 [(0, some false, [.fl (.own (.int .i64))])] [(false, [.fl (.own (.int .i64))])] (keepOf [(0, 1)]) (fun (y : List Int) => (((y, ()), ()) : compT [(false, [.fl (.own (.int .i64))])])) fun x => sortF x.1.1) := by
  intro R w g args vs K r hi hrun
  simp only [mkFn] at hrun
  obtain ⟨hl, hrun⟩ := bif_some hrun
  have hl := Nat.eq_of_beq_eq_true hl
  match args, hl with
  | [(fl, cs)], _ =>
  split at hrun
  case h_2 => cases hrun
  rename_i x hx
  obtain ⟨rfl, c, rfl, hc⟩ : fl = false ∧ ∃ c, cs = [c] ∧ (c = .own (.int .i64) x.1.1 ∨ c = .tmpo (.int .i64) x.1.1 ∨ (c = .nils ∧ x.1.1 = [])) := by
    have hx' := hx
    simp only [readCut] at hx'
    cases hq : decS (!refTo 0 [(0, some false, [Pat.fl (.own (.int .i64))])]) (some false, [.fl (.own (.int .i64))]) (argFr 0 [(fl, cs)] 0) with
    | none => rw [hq] at hx'; cases hx'
    | some y =>
      rw [hq] at hx'
      simp only [Option.some.injEq] at hx'
      subst hx'
      exact dec_row hq
  obtain ⟨v, hv, c0, hc0, hr⟩ := hi.arg 0 _ rfl
  have hc0 : c = c0 := by simpa using hc0
  subst hc0
  have hvs : vs = [v] := by
    have hlen := hi.len
    match vs, hlen, hv with
    | [p], _, hv => simp at hv; rw [hv]
  subst hvs
  obtain ⟨xs, hxs⟩ : ∃ xs : List Int, xs = x.1.1 := ⟨_, rfl⟩
  rw [← hxs] at hc hrun
  have ho : OwnR w g (.at 0 0 1) (.int .i64) xs v := by
    rcases hc with rfl | rfl | ⟨rfl, e⟩
    · rcases hr with e | ⟨e, _⟩ | e
      · cases e
      · cases e
      · exact e.1
    · rcases hr with e | ⟨e, _⟩ | e
      · cases e
      · cases e
      · exact e.1
    · rcases hr with e' | ⟨e', _⟩ | e'
      · cases e'
      · cases e'
      · exact .inl ⟨e', e⟩
  unfold sortF at hrun
  by_cases hlt : xs.length < 4611686018427387904
  case neg => rw [if_neg hlt] at hrun; cases hrun
  rw [if_pos hlt] at hrun
  have hrun : K [(false, [.own (.int .i64) (sorted xs)])] = some r := hrun
  have fin : ∀ w', w'.os = w.os → w'.tape = w.tape → w'.output = w.output → w.heap.size ≤ w'.heap.size → (∀ b, b < w.heap.size → ¬ g.M b → w'.heap[b]? = w.heap[b]?) → OwnR w' g (.at 0 0 1) (.int .i64) (sorted xs) v →
      ResOk (keepOf [(0, 1)]) w w' g g [(false, [c])] [v] [(false, [.own (.int .i64) (sorted xs)])] (.tuple #[]) := by
    intro w' h1 h2 h3 h4 h5 h6
    refine ⟨rfl, h1, h2, h3, h4, h5, fun b p hp => ?_, fun b o hs => Nat.lt_of_lt_of_le (hi.stab b o hs) h4, fun b o hb hm hs => hi.sz b o (hi.eB ▸ hb) hm hs, ?_⟩
    · have := hi.own b p hp
      exact ⟨Nat.lt_of_lt_of_le this.1 h4, fun _ => this.2⟩
    · refine ⟨[], _, rfl, ⟨[], rfl, rfl, fun i p hp => by simp at hp⟩, fun _ => ?_⟩
      refine ⟨[.own (.int .i64) (sorted xs)], [], _, _, rfl, rfl, rfl, rfl, fun k t ys hk => ?_, rfl⟩
      cases k with
      | succ k => simp at hk
      | zero =>
        simp only [List.getElem?_cons_zero, Option.some.injEq, CV.own.injEq] at hk
        obtain ⟨rfl, hk⟩ := hk
        cases eq_of_heq hk
        have hag : cellsOf v = [v] := by
          rcases h6 with ⟨rfl, _⟩ | ⟨_, _, _, _, rfl, _⟩ <;> rfl
        exact ⟨v, by rw [hag]; rfl, h6⟩
  rcases ho with ⟨rfl, rfl⟩ | ⟨b, cap, cur, e, rfl, hO, hb, h1, h2, h3, h4, h5⟩
  · refine (H0 none 0 w).mono ?_
    rintro e w' ⟨he, rfl⟩
    exact ⟨_, _, g, he, hrun, fin w' rfl rfl rfl (Nat.le_refl _) (fun _ _ _ => rfl) (.inl ⟨rfl, by simp [sorted]⟩)⟩
  · have hbs : b < w.heap.size := (Array.getElem?_eq_some_iff.1 hb).1
    have hcell : ∀ (i : Nat) (x : Int), xs[i]? = some x → cur[i]? = some (Value.int .i64 x) := fun i x hix => by
      obtain ⟨ecs, q1, q2⟩ := h4 i x hix
      have q1 : ecs = [.int .i64 x] := q1
      subst q1
      have := q2 0 _ rfl
      simpa [Ty.cells] using this
    have hH : Holds (Value.int .i64) w b 0 xs.toArray := fun j hj => by
      have hj : j < xs.length := by simpa using hj
      have hx := hcell j xs[j] (List.getElem?_eq_getElem hj)
      refine ⟨?_, ?_⟩
      · rw [cell_of_row w b _ cur e (0, 0) hb, Nat.zero_add, hx]
        simp [hj]
      · unfold World.frozen?
        simp [hb]
    refine (H b 0 cap xs w hH hbs hlt).mono ?_
    rintro e' w' ⟨he, n, os, rfl⟩
    have hlen : (sorted xs).length = xs.length := by simp [sorted]
    have hsz : (putRow (Value.int .i64) (Go.Sort.ahead w n) b 0 (sorted xs).toArray).heap.size = w.heap.size := by simp
    have hheap : ∀ k, k < w.heap.size → (grow (putRow (Value.int .i64) (Go.Sort.ahead w n) b 0 (sorted xs).toArray) os).heap[k]? = if b = k then some (.cells (putCells (Value.int .i64) 0 (sorted xs).toArray cur) e (0, 0)) else w.heap[k]? := by
      intro k hk
      rw [heap_grow_old _ _ (by rw [hsz]; exact hk)]
      unfold putRow mapBlock
      simp only [Go.Sort.heap_ahead, Array.getElem?_modify]
      split
      · rename_i e; subst e; rw [hb]; rfl
      · rfl
    refine ⟨_, _, g, he, hrun, fin _ rfl rfl rfl ?_ ?_ ?_⟩
    · show w.heap.size ≤ (grow _ os).heap.size
      rw [size_grow]
      have : (putRow (Value.int .i64) (Go.Sort.ahead w n) b 0 (sorted xs).toArray).heap.size = w.heap.size := hsz
      exact Nat.le_trans (Nat.le_of_eq this.symm) (Nat.le_add_right _ _)
    · intro k hk hm
      have := hheap k hk
      rw [if_neg (fun e => by subst e; exact hm (hi.own _ _ hO).2)] at this
      exact this
    · have hels : ∀ (i : Nat) (x : Int), (sorted xs)[i]? = some x → ∃ ecs, rep (grow (putRow (Value.int .i64) (Go.Sort.ahead w n) b 0 (sorted xs).toArray) os) (g.SO (grow (putRow (Value.int .i64) (Go.Sort.ahead w n) b 0 (sorted xs).toArray) os) (.at 0 0 1)) (.int .i64) x ecs ∧ ∀ (j : Nat) (u : Value), ecs[j]? = some u → (putCells (Value.int .i64) 0 (sorted xs).toArray cur)[i * (Ty.int .i64).cells + j]? = some u := by
        intro i x hix
        refine ⟨[.int .i64 x], rfl, fun j u hj => ?_⟩
        cases j with
        | succ j => simp at hj
        | zero =>
          simp only [List.getElem?_cons_zero, Option.some.injEq] at hj
          subst hj
          have hil := (List.getElem?_eq_some_iff.1 hix).1
          have hic : i < cur.size := by rw [h3]; simp only [Ty.cells]; omega
          simp only [Ty.cells, Nat.mul_one, Nat.add_zero]
          unfold putCells
          rw [Array.getElem?_mapIdx, Array.getElem?_eq_getElem hic]
          simp only [Option.map_some, Option.some.injEq]
          rw [if_pos ⟨Nat.zero_le _, by simpa using hil⟩]
          have hx := (List.getElem?_eq_some_iff.1 hix).2
          simp [hil, hx]
      refine .inr ⟨b, cap, putCells (Value.int .i64) 0 (sorted xs).toArray cur, e, by rw [hlen], hO, ?_, by rw [hlen]; exact h1, h2, ?_, hels, fun o => by rw [hlen]; exact h5.1 o, apart_flat (t := .int .i64) (xs := sorted xs) (w := grow (putRow (Value.int .i64) (Go.Sort.ahead w n) b 0 (sorted xs).toArray) os) (S := g.SO (grow (putRow (Value.int .i64) (Go.Sort.ahead w n) b 0 (sorted xs).toArray) os) (.at 0 0 1)) rfl hels _⟩
      · have := hheap b hbs
        rw [if_pos rfl] at this
        exact this
      · simp [putCells, h3]
end Go.Rv

/- Functions that are walked with the kit's steps, as functions of the evaluator: what all have in common. -/
import Derived.Test.YtmgelocefebldaaGreatDoorRvM2
import Derived.Below
namespace Go.Rv
open Go.RowKit
set_option linter.unusedVariables false
set_option linter.unusedSimpArgs false
set_option linter.unusedSectionVars false
variable [Ambient]
theorem fnOk_plain {P : Program} {f : FuncId} {n : Nat} {pc : CutP} {pr : CompPs} {N : Type} {h : N → compT pr} {F : cutT pc → Option N}
    (H : ∀ (w : World) (g : Gh) (args : List Comp) (vs : List Value) (x : cutT pc) (y : N), InitOk w g args vs → args.length = n → readCut pc pc (argFr 0 args) = some x → F x = some y →
      Calls P f vs.toArray w fun e w' => ∃ v, e = .returned v ∧ Below w.heap.size w w' ∧ ∀ g', RVal w' g' (encC pr (h y)) v) : FnOk P f (mkFn n pc pr [] h F) := by
  intro R w g args vs K r hi hrun
  simp only [mkFn] at hrun
  obtain ⟨hl, hrun⟩ := bif_some hrun
  have hl := Nat.eq_of_beq_eq_true hl
  split at hrun
  case h_2 => cases hrun
  rename_i x hx
  cases hF : F x with
  | none => rw [hF] at hrun; cases hrun
  | some y =>
    rw [hF] at hrun
    have hrun : K (encC pr (h y)) = some r := hrun
    refine (H w g args vs x y hi hl hx hF).mono ?_
    rintro e w' ⟨v, rfl, hB, hv⟩
    refine ⟨v, _, g, rfl, hrun, rfl, hB.os, hB.tape, hB.output, hB.size, fun b hb _ => hB.block b hb, fun b p hp => ?_, fun b o hs => Nat.lt_of_lt_of_le (hi.stab b o hs) hB.size, fun b o hb hm hs => hi.sz b o (hi.eB ▸ hb) hm hs, ?_⟩
    · have := hi.own b p hp
      exact ⟨Nat.lt_of_lt_of_le this.1 hB.size, fun _ => this.2⟩
    · exact ⟨_, [], by simp [mkFn], hv g, fun e => (e rfl).elim⟩
theorem fnOk_rowS {P : Program} {f : FuncId} {n : Nat} {pc : CutP} {F : cutT pc → Option (List ByteArray)}
    (H : ∀ (w : World) (g : Gh) (args : List Comp) (vs : List Value) (x : cutT pc) (y : List ByteArray), InitOk w g args vs → args.length = n → readCut pc pc (argFr 0 args) = some x → F x = some y →
      Calls P f vs.toArray w fun e w' => ∃ b cap cells ty, e = .returned (.slice (some ⟨b, 0, none⟩) y.length cap) ∧ Below w.heap.size w w' ∧ w.heap.size ≤ b ∧ w'.heap[b]? = some (.cells cells ty (0, 0)) ∧ y.length ≤ cap ∧ cap ≤ maxLen ∧ cells.size = cap ∧ ∀ (i : Nat) (s : ByteArray), y[i]? = some s → cells[i]? = some (.string s)) :
    FnOk P f (mkFn n pc [(false, [.fl (.own .str)])] [] (fun (y : List ByteArray) => (((y, ()), ()) : compT [(false, [.fl (.own .str)])])) F) := by
  intro R w g args vs K r hi hrun
  simp only [mkFn] at hrun
  obtain ⟨hl, hrun⟩ := bif_some hrun
  have hl := Nat.eq_of_beq_eq_true hl
  split at hrun
  case h_2 => cases hrun
  rename_i x hx
  cases hF : F x with
  | none => rw [hF] at hrun; cases hrun
  | some y =>
    rw [hF] at hrun
    have hrun : K [(false, [.own .str y])] = some r := hrun
    refine (H w g args vs x y hi hl hx hF).mono ?_
    rintro e w' ⟨b0, cap, cells, ty, rfl, hB, hb, hh, h1, h2, h3, h4⟩
    have hlt : b0 < w'.heap.size := (Array.getElem?_eq_some_iff.1 hh).1
    refine ⟨_, _, { g with O := fun b => if b = b0 then some (.air 0) else g.O b, S := fun b o => g.S b o ∨ (b = b0 ∧ o < y.length * 1) }, rfl, hrun, rfl, hB.os, hB.tape, hB.output, hB.size, fun b hb _ => hB.block b hb, fun b p hp => ?_, fun b o hs => ?_, fun b o hb' hm hs => ?_, ?_⟩
    · simp only at hp
      split at hp
      · rename_i e; exact ⟨e ▸ hlt, fun h => by omega⟩
      · have := hi.own b p hp
        exact ⟨Nat.lt_of_lt_of_le this.1 hB.size, fun _ => this.2⟩
    · rcases hs with hs | ⟨rfl, _⟩
      · exact Nat.lt_of_lt_of_le (hi.stab b o hs) hB.size
      · exact hlt
    · rcases hs with hs | ⟨rfl, _⟩
      · exact hi.sz b o (hi.eB ▸ hb') hm hs
      · omega
    · refine ⟨[(false, [.own .str y])], [], rfl, ⟨_, rfl, .inr (.inr (.inr ⟨b0, cap, cells, ty, rfl, by simp, hh, h1, h2, by simpa [Ty.cells] using h3, fun i s hs => ⟨[.string s], rfl, fun j u hu => ?_⟩, fun o => ?_⟩))⟩, fun e => (e rfl).elim⟩
      · match j, hu with
        | 0, hu =>
          simp at hu
          subst hu
          simpa [Ty.cells] using h4 i s hs
        | j + 1, hu => simp at hu
      · constructor
        · rintro (hs | ⟨_, h⟩)
          · have := hi.stab _ _ hs; omega
          · exact h
        · exact fun h => .inr ⟨rfl, h⟩
theorem readCut_cons {all : CutP} {p : Nat × SPat} {r : CutP} {fr : Fr} {x : cutT (p :: r)} (h : readCut all (p :: r) fr = some x) : decS (!refTo p.1 all) p.2 (fr p.1) = some x.1 ∧ readCut all r fr = some x.2 := by
  simp only [readCut] at h
  split at h
  · rename_i x1 h1
    split at h
    · rename_i x2 h2
      cases h
      exact ⟨h1, h2⟩
    · cases h
  · cases h
theorem dec_fl {b : Bool} {p : FPat} {v : SV} {y : patsT [Pat.fl p]} (h : decS b (some false, [.fl p]) v = some y) : ∃ c, v = .comp false [c] ∧ p.dec b c = some y.1 := by
  cases v with
  | box cs => cases h
  | tup vs => cases h
  | comp fl cs =>
    simp only [decS] at h
    cases fl
    case true => cases h
    have h : decs b [.fl p] cs = some y := h
    match cs, h with
    | [], h => cases h
    | [c], h =>
      simp only [decs, Pat.dec] at h
      cases hc : p.dec b c with
      | none => rw [hc] at h; cases h
      | some z =>
        rw [hc] at h
        simp only [Option.some.injEq] at h
        subst h
        exact ⟨c, rfl, hc⟩
    | c :: d :: r, h =>
      simp only [decs] at h
      split at h <;> cases h
theorem dec_int {b : Bool} {k : IntKind} {c : CV} {n : Int} (h : FPat.dec b (.int k) c = some n) : c = .int k n := by
  cases c <;> simp only [FPat.dec] at h <;> first | (cases h; done) | skip
  split at h
  · rename_i e; subst e; cases h; rfl
  · cases h
theorem dec_str {b : Bool} {c : CV} {s : ByteArray} (h : FPat.dec b .str c = some s) : c = .str s := by
  cases c <;> simp only [FPat.dec] at h <;> first | (cases h; done) | skip
  cases h; rfl
theorem dec_lo' {b : Bool} {t : Ty} {c : CV} {xs : List (Den t)} (h : FPat.dec b (.lo t) c = some xs) : c = .lo t xs ∨ (c = .nils ∧ xs = []) := by
  cases c <;> simp only [FPat.dec] at h <;> first | (cases h; done) | skip
  · cases h; exact .inr ⟨rfl, rfl⟩
  · split at h
    · rename_i e; subst e; cases h; exact .inl rfl
    · cases h
/-- argument i -/
theorem arg_at {w : World} {g : Gh} {args : List Comp} {vs : List Value} (hi : InitOk w g args vs) {i : Nat} {c : CV} (h : argFr 0 args i = .comp false [c]) (hc : c ≠ .dead) : ∃ v, vs[i]? = some v ∧ (c = .undef ∧ v = undef ∨ rel w g (fun _ => false) (.at i 0 1) c v) := by
  rw [argFr_get args 0 i (Nat.zero_le _)] at h
  cases hp : args[i - 0]? with
  | none => rw [hp] at h; cases h; exact (hc rfl).elim
  | some p =>
    rw [hp] at h
    obtain ⟨fl, cs⟩ := p
    cases h
    obtain ⟨v, hv, c0, hc0, hr⟩ := hi.arg i _ (by simpa using hp)
    have hc0 : c = c0 := by simpa using hc0
    subst hc0
    refine ⟨v, hv, ?_⟩
    rcases hr with e | e | e
    · exact (hc e).elim
    · exact .inl e
    · exact .inr e
theorem arg_int {w : World} {g : Gh} {args : List Comp} {vs : List Value} (hi : InitOk w g args vs) {i : Nat} {b : Bool} {k : IntKind} {y : patsT [Pat.fl (.int k)]} (h : decS b (some false, [.fl (.int k)]) (argFr 0 args i) = some y) : vs[i]? = some (.int k y.1) := by
  obtain ⟨c, h1, h2⟩ := dec_fl h
  have := dec_int h2
  subst this
  obtain ⟨v, hv, hr⟩ := arg_at hi h1 (by simp)
  rcases hr with ⟨e, _⟩ | e
  · cases e
  · have e : v = .int k y.1 := e
    rw [← e]; exact hv
theorem arg_str {w : World} {g : Gh} {args : List Comp} {vs : List Value} (hi : InitOk w g args vs) {i : Nat} {b : Bool} {y : patsT [Pat.fl .str]} (h : decS b (some false, [.fl .str]) (argFr 0 args i) = some y) : vs[i]? = some (.string y.1) := by
  obtain ⟨c, h1, h2⟩ := dec_fl h
  have := dec_str h2
  subst this
  obtain ⟨v, hv, hr⟩ := arg_at hi h1 (by simp)
  rcases hr with ⟨e, _⟩ | e
  · cases e
  · have e : v = .string y.1 := e
    rw [← e]; exact hv
theorem arg_lo {w : World} {g : Gh} {args : List Comp} {vs : List Value} (hi : InitOk w g args vs) {i : Nat} {b : Bool} {t : Ty} {y : patsT [Pat.fl (.lo t)]} (h : decS b (some false, [.fl (.lo t)]) (argFr 0 args i) = some y) : ∃ v, vs[i]? = some v ∧ RS w g.Z t y.1 v := by
  obtain ⟨c, h1, h2⟩ := dec_fl h
  rcases dec_lo' h2 with rfl | ⟨rfl, e2⟩
  · obtain ⟨v, hv, hr⟩ := arg_at hi h1 (by simp)
    rcases hr with ⟨e, _⟩ | e
    · cases e
    · exact ⟨v, hv, e⟩
  · obtain ⟨v, hv, hr⟩ := arg_at hi h1 (by simp)
    rcases hr with ⟨e, _⟩ | e
    · cases e
    · have e : v = .slice none 0 0 := e
      subst e
      rw [e2]
      exact ⟨_, hv, none, 0, rfl, Nat.le_refl _, fun i x hx => by simp at hx⟩
theorem list1 {α : Type} {l : List α} {a : α} (hl : l.length = 1) (h0 : l[0]? = some a) : l = [a] := by
  match l, hl, h0 with
  | [x], _, h0 => simp at h0; rw [h0]
theorem list2 {α : Type} {l : List α} {a b : α} (hl : l.length = 2) (h0 : l[0]? = some a) (h1 : l[1]? = some b) : l = [a, b] := by
  match l, hl, h0, h1 with
  | [x, y], _, h0, h1 => simp at h0 h1; rw [h0, h1]
theorem list3 {α : Type} {l : List α} {a b c : α} (hl : l.length = 3) (h0 : l[0]? = some a) (h1 : l[1]? = some b) (h2 : l[2]? = some c) : l = [a, b, c] := by
  match l, hl, h0, h1, h2 with
  | [x, y, z], _, h0, h1, h2 => simp at h0 h1 h2; rw [h0, h1, h2]
end Go.Rv

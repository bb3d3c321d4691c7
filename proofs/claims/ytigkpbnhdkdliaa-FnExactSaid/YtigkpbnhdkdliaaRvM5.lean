/- A verified evaluator of the form: texts Open, Row. -/
import Derived.Test.YtigkpbnhdkdliaaRvM4
import Derived.ChangeArms
import Derived.WideShapes
import Derived.DataElems
import Derived.Below
set_option linter.unusedSimpArgs false
set_option linter.unusedVariables false
namespace Go.Rv
open Go.WideShapes
def Wf : (u : Ty) → Den u → Prop
  | .int k, n => (Lit.int k n).wf = true
  | .bool, _ => True
  | .str, s => s.size ≤ maxLen
  | .pair a b, x => Wf a x.1 ∧ Wf b x.2
  | .sl t, xs => xs.length ≤ maxLen ∧ ∀ x ∈ xs, Wf t x
theorem wf_i64 {n : Int} (h : Wf (.int .i64) n) : -9223372036854775808 ≤ n ∧ n ≤ 9223372036854775807 := by
  have h : (Lit.int .i64 n).wf = true := h
  simp only [Lit.wf, Bool.and_eq_true] at h
  have h1 : (-9223372036854775808 : Int) ≤ n := of_decide_eq_true h.1
  have h2 : n ≤ (9223372036854775807 : Int) := of_decide_eq_true h.2
  exact ⟨h1, h2⟩
def openF (P : Program) (rec : Ty → TypeId → Bool) : Ty → List Field → Nat → Bool
  | u, [F], off => F.offset.beq off && ((P.cellsOf F.type).beq u.cells && rec u F.type)
  | .pair a b, F :: G :: fs, off => (F.offset.beq off && ((P.cellsOf F.type).beq a.cells && rec a F.type)) && openF P rec b (G :: fs) (off + a.cells)
  | _, _, _ => false
def openB (P : Program) : Nat → Ty → TypeId → Bool
  | 0, _, _ => false
  | n + 1, u, t => match P.underlying t with
    | some (.int k) => (match u with | .int j => decide (j = k) | _ => false)
    | some .bool => (match u with | .bool => true | _ => false)
    | some .string => (match u with | .str => true | _ => false)
    | some (.slice e) => (match u with | .sl v => (P.cellsOf e).beq v.cells && openB P n v e | _ => false)
    | some (.struct fs) => (P.cellsOf t).beq u.cells && openF P (openB P n) u fs.toList 0
    | _ => false
def old (w : World) (b _o : Nat) : Prop := b < w.heap.size
theorem cell_old {w : World} {a : Addr} {u : Value} (h : w.cell? a = some u) : a.spot = none ∧ a.block < w.heap.size := by
  unfold World.cell? at h
  split at h
  · rename_i c _ _ hb
    refine ⟨?_, (Array.getElem?_eq_some_iff.1 hb).1⟩
    cases hs : a.spot with
    | none => rfl
    | some x => rw [hs] at h; simp at h
  · cases h
theorem all_of {α : Type} (n : Nat) (Q : Nat → α → Prop) (h : ∀ i, i < n → ∃ a, Q i a) : ∃ xs : List α, xs.length = n ∧ ∀ i x, xs[i]? = some x → Q i x := by
  induction n with
  | zero => exact ⟨[], rfl, fun i x hx => by simp at hx⟩
  | succ n ih =>
    obtain ⟨xs, hl, hx⟩ := ih (fun i hi => h i (by omega))
    obtain ⟨a, ha⟩ := h n (by omega)
    refine ⟨xs ++ [a], by simp [hl], fun i x hi => ?_⟩
    rcases Nat.lt_trichotomy i n with c | c | c
    · rw [List.getElem?_append_left (by omega)] at hi
      exact hx i x hi
    · subst c
      rw [List.getElem?_append_right (by omega), hl] at hi
      simp at hi
      exact hi ▸ ha
    · rw [List.getElem?_eq_none (by simp; omega)] at hi
      cases hi
section
variable {H : Type} {enc : TypeId × Value → H} {P : Program} {w : World} {spare : Nat → Bool} {held : Bool}
theorem openF_rep {rec : Ty → TypeId → Bool} {m : Nat} (hrec : ∀ (u : Ty) (t : TypeId), rec u t = true → ∀ (cs : List Value) (x : DataW H × List MemPlace), DataW.trod enc P w 0 spare held m t cs = some x → ∃ d : Den u, rep w (old w) u d cs ∧ Wf u d) {cs : List Value} :
    ∀ (fs : List Field) (u : Ty) (off : Nat), openF P rec u fs off = true → (∀ F ∈ fs, ∃ y, DataW.trod enc P w 0 spare held m F.type ((cs.drop F.offset).take (P.cellsOf F.type)) = some y) → ∃ d : Den u, rep w (old w) u d ((cs.drop off).take u.cells) ∧ Wf u d
  | [], u, off, h, _ => by cases u <;> simp [openF] at h
  | [F], u, off, h, hf => by
    have h : (F.offset.beq off && ((P.cellsOf F.type).beq u.cells && rec u F.type)) = true := by cases u <;> exact h
    simp only [Bool.and_eq_true] at h
    obtain ⟨y, hy⟩ := hf F (by simp)
    rw [Nat.eq_of_beq_eq_true h.1, Nat.eq_of_beq_eq_true h.2.1] at hy
    exact hrec u F.type h.2.2 _ _ hy
  | F :: G :: fs, u, off, h, hf => by
    cases u <;> simp only [openF] at h <;> first | (cases h; done) | skip
    rename_i a b
    simp only [Bool.and_eq_true] at h
    obtain ⟨y, hy⟩ := hf F (by simp)
    rw [Nat.eq_of_beq_eq_true h.1.1, Nat.eq_of_beq_eq_true h.1.2.1] at hy
    obtain ⟨d1, r1, w1⟩ := hrec a F.type h.1.2.2 _ _ hy
    obtain ⟨d2, r2, w2⟩ := openF_rep hrec (G :: fs) b (off + a.cells) h.2 fun F' hF' => hf F' (List.mem_cons_of_mem _ hF')
    refine ⟨(d1, d2), ⟨_, _, ?_, r1, r2⟩, w1, w2⟩
    simp only [Ty.cells]
    rw [List.take_add, List.drop_drop]
theorem open_rep : ∀ (n : Nat) (u : Ty) (t : TypeId), openB P n u t = true → ∀ (m : Nat) (cs : List Value) (x : DataW H × List MemPlace), DataW.trod enc P w 0 spare held m t cs = some x → ∃ d : Den u, rep w (old w) u d cs ∧ Wf u d
  | 0, u, t, h, m, cs, x, hx => by cases h
  | n + 1, u, t, h, m, cs, x, hx => by
    simp only [openB] at h
    split at h
    · rename_i k ht
      cases u <;> simp only [] at h <;> first | (cases h; done) | skip
      have h := of_decide_eq_true h
      subst h
      obtain ⟨v, rfl, _, hw⟩ := DataW.trod_int ht hx
      exact ⟨v, rfl, hw⟩
    · rename_i ht
      cases u <;> simp only [] at h <;> first | (cases h; done) | skip
      obtain ⟨b, rfl, _⟩ := DataW.trod_bool ht hx
      exact ⟨b, rfl, trivial⟩
    · rename_i ht
      cases u <;> simp only [] at h <;> first | (cases h; done) | skip
      obtain ⟨s, rfl, _, hs⟩ := DataW.trod_string ht hx
      exact ⟨s, rfl, hs⟩
    · rename_i e ht
      cases u <;> simp only [] at h <;> first | (cases h; done) | skip
      rename_i v
      simp only [Bool.and_eq_true] at h
      have hc := Nat.eq_of_beq_eq_true h.1
      rcases DataW.trod_slice ht hx with ⟨rfl, _⟩ | ⟨a, len, cap, elems, rest, m', rfl, rfl, _, _, h1, h2, hl, he, _⟩
      · exact ⟨[], ⟨none, 0, rfl, Nat.le_refl _, fun i x hx => by simp at hx⟩, Nat.zero_le _, fun x hx => by cases hx⟩
      · have hel : ∀ i, i < len → ∃ x : Den v, (∃ ecs, a.spot = none ∧ rep w (old w) v x ecs ∧ ∀ j u, ecs[j]? = some u → old w a.block (a.off + (i * v.cells + j)) ∧ w.cell? ⟨a.block, a.off + (i * v.cells + j), none⟩ = some u) ∧ Wf v x := by
          intro i hi
          have hi' := he i hi
          rw [List.getElem?_eq_getElem (by omega)] at hi'
          obtain ⟨row, hrow, htr⟩ := Option.bind_eq_some_iff.1 hi'
          obtain ⟨_, hlen, hcell⟩ := World.cells?_some hrow
          obtain ⟨y, hK, hw⟩ := open_rep n v e h.2 m' row _ htr
          have hsp : a.spot = none := by
            have h0 := he 0 (by omega)
            rw [List.getElem?_eq_getElem (by omega)] at h0
            obtain ⟨row0, hrow0, htr0⟩ := Option.bind_eq_some_iff.1 h0
            obtain ⟨_, hlen0, hcell0⟩ := World.cells?_some hrow0
            have hpos := cells_pos v
            have := hcell0 0 (by omega)
            rw [List.getElem?_eq_getElem (by omega)] at this
            have := (cell_old this).1
            simpa [Addr.add] using this
          have hcell' : ∀ j u, row[j]? = some u → w.cell? ⟨a.block, a.off + (i * v.cells + j), none⟩ = some u := by
            intro j u hu
            have hj : j < row.length := (List.getElem?_eq_some_iff.1 hu).1
            have := hcell j (by omega)
            rw [hc, Addr.add_add] at this
            have e : a.add (i * v.cells + j) = ⟨a.block, a.off + (i * v.cells + j), none⟩ := by
              obtain ⟨b, oo, sp⟩ := a
              have hsp : sp = none := hsp
              subst hsp
              exact Addr.add_mid b oo _
            rw [← e, this, hu]
          refine ⟨y, ⟨row, hsp, hK, fun j u hu => ?_⟩, hw⟩
          have := hcell' j u hu
          exact ⟨(cell_old this).2, this⟩
        obtain ⟨xs, hxl, hxs⟩ := all_of len _ hel
        refine ⟨xs, ⟨some a, cap, by rw [hxl], by omega, fun i x hx => ?_⟩, by omega, fun x hx => ?_⟩
        · obtain ⟨⟨ecs, q1, q2, q3⟩, _⟩ := hxs i x hx
          exact ⟨a, ecs, rfl, q1, q2, q3⟩
        · obtain ⟨i, hi, rfl⟩ := List.getElem_of_mem hx
          exact (hxs i _ (List.getElem?_eq_getElem hi)).2
    · rename_i fs ht
      simp only [Bool.and_eq_true] at h
      obtain ⟨xs, m', rfl, _, hl, hlen, hf⟩ := DataW.trod_struct ht hx
      obtain ⟨d, r1, r2⟩ := openF_rep (m := m') (cs := cs) (fun u t hu cs x hx => open_rep n u t hu m' cs x hx) fs.toList u 0 h.2 fun F hF => by
        obtain ⟨i, hi, rfl⟩ := List.getElem_of_mem hF
        have hi' : i < fs.size := by simpa using hi
        have := hf i fs[i] (Array.getElem?_eq_getElem hi')
        rw [List.getElem?_eq_getElem (by omega)] at this
        exact ⟨_, by simpa using this⟩
      refine ⟨d, ?_, r2⟩
      rw [List.drop_zero, ← Nat.eq_of_beq_eq_true h.1, ← hl, List.take_length] at r1
      exact r1
    · cases h
end
end Go.Rv
namespace Go.Rv
open Go.WideShapes Go.ChangeShapes Go.RowKit
def aggT (P : Program) (t : TypeId) : Bool := match P.underlying t with
  | some (.struct _) => true
  | _ => false
theorem unpack_len (o : Bool) : ∀ (t : Ty) (x : Den t), (unpack o t x).length = t.cells
  | .pair a b, x => by simp [unpack, unpack_len o a, unpack_len o b, Ty.cells]
  | .int _, _ | .bool, _ | .str, _ | .sl _, _ => by simp [unpack, Ty.cells]
theorem open_arg {H : Type} {enc : TypeId × Value → H} {P : Program} {w : World} {spare : Nat → Bool} {held : Bool} {rr : Reach} {base : Nat} (n : Nat) {u : Ty} {t : TypeId} (h : openB P n u t = true) {v : Value} {x : DataW H} {p : List MemPlace} (hv : Value.okWide P w rr base t v) (ht : DataW.Trod enc P w 0 spare held t v x p) :
    ∃ d : Den u, Wf u d ∧ ∀ i, CRel w (Gh.callee w (old w)) (fun _ => false) i 0 (aggT P t, unpack true u d) v := by
  obtain ⟨m, hm⟩ := ht
  obtain ⟨d, hr, hw⟩ := open_rep n u t h m _ _ hm
  have hcell := unpack_rel (w := w) (g := Gh.callee w (old w)) true (.inl ⟨rfl, rfl⟩) u d _ hr
  refine ⟨d, hw, fun i => ?_⟩
  have one : ∀ c, unpack true u d = [c] → v.cells.toList = [v] → CRel w (Gh.callee w (old w)) (fun _ => false) i 0 (false, unpack true u d) v := by
    intro c hc hvc
    refine ⟨c, hc, .inr (.inr ?_)⟩
    obtain ⟨z, h1, h2⟩ := hcell 0 c (by rw [hc]; rfl)
    rw [hvc] at h1
    simp at h1
    subst h1
    exact rel_of_relF h2
  cases n with
  | zero => cases h
  | succ n =>
    simp only [openB] at h
    unfold aggT
    split at h
    · rename_i k hu
      cases u <;> simp only [] at h <;> first | (cases h; done) | skip
      obtain ⟨z, rfl⟩ := okWide_int hu hv
      rw [hu]
      exact one _ rfl rfl
    · rename_i hu
      cases u <;> simp only [] at h <;> first | (cases h; done) | skip
      obtain ⟨z, rfl⟩ := okWide_bool hu hv
      rw [hu]
      exact one _ rfl rfl
    · rename_i hu
      cases u <;> simp only [] at h <;> first | (cases h; done) | skip
      obtain ⟨z, rfl⟩ := okWide_string hu hv
      rw [hu]
      exact one _ rfl rfl
    · rename_i e hu
      cases u <;> simp only [] at h <;> first | (cases h; done) | skip
      obtain ⟨A, len, cap, rfl⟩ := okWide_slice hu hv
      rw [hu]
      exact one _ rfl rfl
    · rename_i fs hu
      obtain ⟨cs, rfl, _⟩ := okWide_struct hu hv
      rw [hu]
      have hc : (Value.agg cs).cells.toList = cs.toList := rfl
      rw [hc] at hr hcell
      refine ⟨cs.toList, by simp, ?_, fun j c hj => ?_⟩
      · rw [rep_length hr, unpack_len]
      · obtain ⟨z, h1, h2⟩ := hcell j c hj
        exact ⟨z, h1, rel_of_relF h2⟩
    · cases h
theorem init_ok {w : World} {args : List Comp} {vs : List Value} (hl : vs.length = args.length) (h : ∀ (i : Nat) (p : Comp), args[i]? = some p → ∃ v : Value, vs[i]? = some v ∧ CRel w (Gh.callee w (old w)) (fun _ => false) i 0 p v) : InitOk w (Gh.callee w (old w)) args vs where
  eB := rfl
  ero := rfl
  len := hl
  arg := h
  own := fun b p hO => by cases hO
  stab := fun b o hs => hs
  nobox := fun b s hO => by cases hO
  zs := fun b o hz => ⟨hz, hz, fun e => e⟩
  sz := fun b o hb _ hs => hs
  hh := fun s c u hu => by cases hu
theorem row_ok {P : Program} {fid : FuncId} {F : Fn} (hok : FnOk P fid F) (hm : F.muts = []) {w : World} {args : List Comp} {vs : List Value} (hi : InitOk w (Gh.callee w (old w)) args vs) (hrun : F.run args some = some [(false, [.bool true])]) :
    Calls P fid vs.toArray w fun e w' => e = .returned (.bool true) ∧ Below w.heap.size w w' := by
  refine (hok w _ args vs some _ hi hrun).mono ?_
  rintro e w' ⟨v, res, g', rfl, hres, hR⟩
  cases hres
  obtain ⟨rs, outs, hrs, hval, _⟩ := hR.val
  rw [hm] at hrs
  simp only [List.isEmpty_nil, cond_true, List.append_nil] at hrs
  subst hrs
  obtain ⟨c, hc, hv⟩ := hval
  cases hc
  refine ⟨?_, ⟨hR.os, hR.tape, hR.output, hR.heap, fun b hb => hR.old b hb fun e => e⟩⟩
  rcases hv with hv | hv | hv
  · cases hv
  · cases hv
  · have hv : v = .bool true := hv
    rw [hv]
end Go.Rv

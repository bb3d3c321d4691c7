/- From a row's arguments to a call, and back. -/
import Derived.Test.YtlkmjldhhoopcaaRvOpen
import Derived.Below
namespace Go.Rv
set_option linter.unusedSimpArgs false
set_option linter.unusedVariables false
open Go.WideShapes Go.ChangeShapes Go.RowKit
def aggT (P : Program) (t : TypeId) : Bool := match P.underlying t with
  | some (.struct _) => true
  | _ => false
theorem unpack_len (o : Bool) : ∀ (t : Ty) (x : Den t), (unpack o t x).length = t.cells
  | .pair a b, x => by simp [unpack, unpack_len o a, unpack_len o b, Ty.cells]
  | .int _, _ | .bool, _ | .str, _ | .sl _, _ => by simp [unpack, Ty.cells]
theorem open_arg {H : Type} {enc : TypeId × Value → H} {P : Program} {w : World} {spare : Nat → Bool} {held : Bool} {rr : Reach} {base : Nat} (n : Nat) {u : Ty} {t : TypeId} (h : openB P n u t = true) {v : Value} {x : DataW H} {p : List MemPlace} (hv : Value.okWide P w rr base t v) (ht : DataW.Trod enc P w 0 spare held t v x p) :
    ∃ d : Den u, Wf u d ∧ ∀ i, CRel w (Gh.callee w (old w)) (fun _ => false) i 0 (aggT P t, unpack true u d) v := by
  obtain ⟨m, hm⟩ := ht
  obtain ⟨d, hr, hw⟩ := open_rep n u t h m _ _ hm
  have hcell := unpack_rel (w := w) (g := Gh.callee w (old w)) true (.inl ⟨rfl, rfl⟩) u d _ hr
  refine ⟨d, hw, fun i => ?_⟩
  have one : ∀ c, unpack true u d = [c] → v.cells.toList = [v] → CRel w (Gh.callee w (old w)) (fun _ => false) i 0 (false, unpack true u d) v := by
    intro c hc hvc
    refine ⟨c, hc, .inr (.inr ?_)⟩
    obtain ⟨z, h1, h2⟩ := hcell 0 c (by rw [hc]; rfl)
    rw [hvc] at h1
    simp at h1
    subst h1
    exact rel_of_relF h2
  cases n with
  | zero => cases h
  | succ n =>
    simp only [openB] at h
    unfold aggT
    split at h
    · rename_i k hu
      cases u <;> simp only [] at h <;> first | (cases h; done) | skip
      obtain ⟨z, rfl⟩ := okWide_int hu hv
      rw [hu]
      exact one _ rfl rfl
    · rename_i hu
      cases u <;> simp only [] at h <;> first | (cases h; done) | skip
      obtain ⟨z, rfl⟩ := okWide_bool hu hv
      rw [hu]
      exact one _ rfl rfl
    · rename_i hu
      cases u <;> simp only [] at h <;> first | (cases h; done) | skip
      obtain ⟨z, rfl⟩ := okWide_string hu hv
      rw [hu]
      exact one _ rfl rfl
    · rename_i e hu
      cases u <;> simp only [] at h <;> first | (cases h; done) | skip
      obtain ⟨A, len, cap, rfl⟩ := okWide_slice hu hv
      rw [hu]
      exact one _ rfl rfl
    · rename_i fs hu
      obtain ⟨cs, rfl, _⟩ := okWide_struct hu hv
      rw [hu]
      have hc : (Value.agg cs).cells.toList = cs.toList := rfl
      rw [hc] at hr hcell
      refine ⟨cs.toList, by simp, ?_, fun j c hj => ?_⟩
      · rw [rep_length hr, unpack_len]
      · obtain ⟨z, h1, h2⟩ := hcell j c hj
        exact ⟨z, h1, rel_of_relF h2⟩
    · cases h
theorem init_ok {w : World} {args : List Comp} {vs : List Value} (hl : vs.length = args.length) (h : ∀ (i : Nat) (p : Comp), args[i]? = some p → ∃ v : Value, vs[i]? = some v ∧ CRel w (Gh.callee w (old w)) (fun _ => false) i 0 p v) : InitOk w (Gh.callee w (old w)) args vs where
  eB := rfl
  len := hl
  arg := h
  own := fun b p hO => by cases hO
  stab := fun b o hs => hs
  nobox := fun b s hO => by cases hO
  zs := fun b o hz => ⟨hz, hz, fun e => e⟩
  sz := fun b o hb _ hs => hs
  hh := fun s c u hu => by cases hu
/-- a law that says yes -/
theorem row_ok {P : Program} {fid : FuncId} {F : Fn} (hok : FnOk P fid F) (hm : F.muts = []) {w : World} {args : List Comp} {vs : List Value} (hi : InitOk w (Gh.callee w (old w)) args vs) (hrun : F.run args some = some [(false, [.bool true])]) :
    Calls P fid vs.toArray w fun e w' => e = .returned (.bool true) ∧ Below w.heap.size w w' := by
  refine (hok w _ args vs some _ hi hrun).mono ?_
  rintro e w' ⟨v, res, g', rfl, hres, hR⟩
  cases hres
  obtain ⟨rs, outs, hrs, hval, _⟩ := hR.val
  rw [hm] at hrs
  simp only [List.isEmpty_nil, cond_true, List.append_nil] at hrs
  subst hrs
  obtain ⟨c, hc, hv⟩ := hval
  cases hc
  refine ⟨?_, ⟨hR.os, hR.tape, hR.output, hR.heap, fun b hb => hR.old b hb fun e => e⟩⟩
  rcases hv with hv | hv | hv
  · cases hv
  · cases hv
  · have hv : v = .bool true := hv
    rw [hv]
end Go.Rv

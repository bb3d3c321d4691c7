/- What the printed texts use. -/
import Derived.Test.YtlkmjldhhoopcaaRvFnB
import Derived.KernelRfl
namespace Go.Rv
set_option linter.unusedSimpArgs false
set_option linter.unusedVariables false
/-- what holds of every cut -/
def CutAll {R : Type} (S : Nat → Cut R → Prop) : Cuts R → Prop
  | [] => True
  | (p, c) :: r => S p c ∧ CutAll S r
theorem CutAll.get {R : Type} {S : Nat → Cut R → Prop} : ∀ {l : Cuts R}, CutAll S l → ∀ q c, l.lookup q = some c → S q c
  | [], _, q, c, h => by simp at h
  | (p, d) :: r, hs, q, c, h => by
    simp only [List.lookup_cons] at h
    split at h
    · rename_i e
      have e : q = p := by simpa using e
      cases h
      subst e
      exact hs.1
    · exact hs.2.get q c h
def cutOkAll (n : Nat) {R : Type} : Cuts R → Bool
  | [] => true
  | (p, c) :: r => (cutOk c.pats && p.blt n) && cutOkAll n r
theorem cutOkAll_spec {n : Nat} {R : Type} : ∀ {l : Cuts R}, cutOkAll n l = true → ∀ q c, l.lookup q = some c → cutOk c.pats = true ∧ q < n
  | [], _, q, c, h => by simp at h
  | (p, d) :: r, hs, q, c, h => by
    simp only [cutOkAll, Bool.and_eq_true] at hs
    simp only [List.lookup_cons] at h
    split at h
    · rename_i e
      have e : q = p := by simpa using e
      cases h
      subst e
      exact ⟨hs.1.1, Nat.le_of_ble_eq_true hs.1.2⟩
    · exact cutOkAll_spec hs.2 q c h
theorem cutsOk_of {R : Type} {P : Program} {X : Env} {E : FuncId → Option Fn} {f : Func} {outs : List (Nat × Nat)} {dec : List Comp → Option R} {Cs : Type} {CC : Cs → Cuts R} {cs : Nat → Cs} {z : Cs} {step : Cs → Cs} (h0 : cs 0 = z) (h1 : ∀ n, cs (n + 1) = step (cs n))
    (hz : CutAll (fun _ cut => ∀ x, cut.run x = none) (CC z)) (hp : ∀ c, cutOkAll (nodes (bodyOf f)) (CC c) = true)
    (hs : ∀ c, CutAll (fun q cut => ∀ x, cut.run x = denAt { X with n := f.ntmps, keep := keepOf outs } E (CC c) (bodyOf f) 0 q (endK { X with n := f.ntmps, keep := keepOf outs } f outs dec) (cutFr cut.pats x)) (CC (step c))) : CutsOk P X E f outs dec fun n => CC (cs n) where
  zero := fun q cut hq => by rw [h0] at hq; exact hz.get q cut hq
  pats := fun n q cut hq => (cutOkAll_spec (hp _) q cut hq).1
  node := fun n q cut hq => (cutOkAll_spec (hp _) q cut hq).2
  step := fun n q cut hq => by rw [h1] at hq; exact (hs _).get q cut hq
theorem cutsOkG_of {R : Type} {P : Program} {X : Env} {E : FuncId → Option Fn} {f : Func} {K : Ex → Fr → Option R} {Cs : Type} {CC : Cs → Cuts R} {cs : Nat → Cs} {z : Cs} {step : Cs → Cs} (h0 : cs 0 = z) (h1 : ∀ n, cs (n + 1) = step (cs n))
    (hz : CutAll (fun _ cut => ∀ x, cut.run x = none) (CC z)) (hp : ∀ c, cutOkAll (nodes (bodyOf f)) (CC c) = true)
    (hs : ∀ c, CutAll (fun q cut => ∀ x, cut.run x = denAt X E (CC c) (bodyOf f) 0 q K (cutFr cut.pats x)) (CC (step c))) : CutsOkG P X E f K fun n => CC (cs n) where
  zero := fun q cut hq => by rw [h0] at hq; exact hz.get q cut hq
  pats := fun n q cut hq => (cutOkAll_spec (hp _) q cut hq).1
  node := fun n q cut hq => (cutOkAll_spec (hp _) q cut hq).2
  step := fun n q cut hq => by rw [h1] at hq; exact (hs _).get q cut hq
theorem noCutsG {R : Type} {P : Program} {X : Env} {E : FuncId → Option Fn} {f : Func} {K : Ex → Fr → Option R} : CutsOkG P X E f K fun _ => [] where
  zero := fun q cut hq => by simp at hq
  pats := fun n q cut hq => by simp at hq
  node := fun n q cut hq => by simp at hq
  step := fun n q cut hq => by simp at hq
theorem noCuts {R : Type} {P : Program} {X : Env} {E : FuncId → Option Fn} {f : Func} {outs : List (Nat × Nat)} {dec : List Comp → Option R} : CutsOk P X E f outs dec fun _ => [] where
  zero := fun q cut hq => by simp at hq
  pats := fun n q cut hq => by simp at hq
  node := fun n q cut hq => by simp at hq
  step := fun n q cut hq => by simp at hq
/-- a function that never answers -/
theorem fnOk_none {P : Program} {fid : FuncId} {n : Nat} {pc : CutP} {pr : CompPs} {muts : List Nat} {N : Type} {h : N → compT pr} : FnOk P fid (mkFn n pc pr muts h fun _ => none) := by
  intro R w g args vs K r hi hrun
  simp only [mkFn] at hrun
  obtain ⟨_, hrun⟩ := bif_some hrun
  split at hrun <;> cases hrun
def EntAll (P : Program) : List (FuncId × Fn) → Prop
  | [] => True
  | p :: r => EntOk P p.1 p.2 ∧ EntAll P r
theorem envOk_of {P : Program} : ∀ {l : List (FuncId × Fn)}, EntAll P l → EnvOk P (fun f => l.lookup f)
  | [], _, f, F, h => by simp at h
  | (q, G) :: r, hs, f, F, h => by
    simp only [List.lookup_cons] at h
    split at h
    · rename_i e
      have e : f = q := by simpa using e
      cases h
      subst e
      exact hs.1
    · exact envOk_of hs.2 f F h
end Go.Rv

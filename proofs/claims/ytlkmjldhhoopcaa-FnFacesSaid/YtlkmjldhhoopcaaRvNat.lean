import Derived.Test.YtlkmjldhhoopcaaRvRegion
namespace Go.Rv
set_option linter.unusedSimpArgs false
set_option linter.unusedVariables false
section
variable {X : Env} {fr : Fr} {R : Type} {K : Fr → Option R} {r : R} {o : Oper}
theorem fin_nat (X : Env) (fr : Fr) (d : Option Nat) (v : SV) (K : Fr → Option R) : fin X fr d v K = (fin X fr d v some).bind K := by
  unfold fin
  cases d with
  | none => rfl
  | some d =>
    simp only
    cases setD X fr d v <;> rfl
theorem bif_nat {b : Bool} {x : Option R} {y : Option Fr} (h : x = y.bind K) : (bif b then x else none) = (bif b then y else none).bind K := by
  cases b
  · rfl
  · exact h
theorem bif_nat' {b : Bool} {x : Option R} {y : Option Fr} (h : x = y.bind K) : (bif b then none else x) = (bif b then none else y).bind K := by
  cases b
  · exact h
  · rfl
theorem bif_nat2 {b : Bool} {x x' : Option R} {y y' : Option Fr} (h : x = y.bind K) (h' : x' = y'.bind K) : (bif b then x else x') = (bif b then y else y').bind K := by
  cases b
  · exact h'
  · exact h
theorem arith_nat {op : BinOp} {k : IntKind} {a b : Int} {J : CV → Option R} {J' : CV → Option Fr} (h : ∀ c, J c = (J' c).bind K) : arith op k a b J = (arith op k a b J').bind K := by
  unfold arith
  cases op <;> first | rfl | exact h _ | (simp only; split <;> first | rfl | exact h _)
theorem binop_nat {isB isS : Bool} {op : BinOp} {x y : CV} {J : CV → Option R} {J' : CV → Option Fr} (h : ∀ c, J c = (J' c).bind K) : binop isB isS op x y J = (binop isB isS op x y J').bind K := by
  unfold binop
  split
  · split
    · exact arith_nat h
    · rfl
  · exact bif_nat (by cases op <;> first | rfl | exact h _)
  · exact bif_nat (by cases op <;> first | rfl | (simp only; split <;> first | rfl | exact h _))
  · rfl
theorem index_nat {u : Option Ty} {c : CV} {i : Int} {J : CV → Option R} {J' : CV → Option Fr} (h : ∀ c, J c = (J' c).bind K) : indexAddr u c i J = (indexAddr u c i J').bind K := by
  unfold indexAddr
  split <;> first | rfl | exact bif_nat (by split <;> first | rfl | (split <;> first | rfl | exact h _))
theorem cutS_nat {u : Option Ty} {c : CV} {l h : Int} {J : CV → Option R} {J' : CV → Option Fr} (hj : ∀ c, J c = (J' c).bind K) : cutS u c l h J = (cutS u c l h J').bind K := by
  unfold cutS
  split <;> first | rfl | exact bif_nat (by split <;> first | rfl | (split <;> first | rfl | (split <;> first | rfl | exact hj _)))
theorem callFn_nat {F : Fn} {args : List Comp} {d : Option Nat} : callFn X F fr args d K = (callFn X F fr args d some).bind K := by
  unfold callFn
  split
  · refine bif_nat ?_
    rename_i l ps _ _
    rw [F.nat]
    conv => rhs; rw [F.nat]
    cases F.run l some with
    | none => rfl
    | some res =>
      simp only [Option.bind_some]
      refine bif_nat' ?_
      refine bif_nat2 (fin_nat ..) ?_
      split
      · split
        · exact fin_nat ..
        · rfl
      · rfl
  · rfl
theorem callBox_nat {F : Fn} {args : List Comp} {d : Option Nat} : callBox X F fr args d K = (callBox X F fr args d some).bind K := by
  unfold callBox
  split
  · split
    · refine bif_nat ?_
      rw [F.nat]
      conv => rhs; rw [F.nat]
      cases F.run _ some with
      | none => rfl
      | some res =>
        simp only [Option.bind_some]
        refine bif_nat' ?_
        split
        · exact bif_nat (fin_nat ..)
        · rfl
    · rfl
  · rfl
theorem stepOp_nat {E : FuncId → Option Fn} : stepOp X E o fr K = (stepOp X E o fr some).bind K := by
  unfold stepOp
  split <;> first | rfl | skip
  all_goals
    repeat' first
      | rfl
      | exact fin_nat ..
      | exact callFn_nat
      | exact callBox_nat
      | exact binop_nat fun c => fin_nat ..
      | exact index_nat fun c => fin_nat ..
      | exact cutS_nat fun c => fin_nat ..
      | exact bif_nat2 (fin_nat ..) (fin_nat ..)
      | refine bif_nat2 callBox_nat callFn_nat
      | refine bif_nat2 (bif_nat callBox_nat) callFn_nat
      | refine bif_nat ?_
      | refine bif_nat' ?_
      | refine bif_nat2 ?_ ?_
      | split
end
end Go.Rv

/- strconv.FormatInt at base 10, by the kit's contract, as a function of the evaluator. -/
import Derived.Test.YtmgelocefebldaaGreatDoorRvAmb
import Derived.Test.YtmgelocefebldaaGreatDoorRvShFmt
namespace Go.Proofs.YtmgelocefebldaaGreatDoor.T
open Go.Rv Go.RowKit
set_option linter.unusedVariables false
/-- a number in decimal -/
noncomputable def decS (n : Int) : ByteArray := ⟨(Lib.itoa n).toArray⟩
noncomputable def fmtF (n b : Int) : Option ByteArray := if b = 10 then if -9223372036854775808 ≤ n ∧ n ≤ 9223372036854775807 then some (decS n) else none else none
theorem below_drewN {w : World} (n : Nat) (os : Array Obj) : Below w.heap.size w (Go.Sort.grow (w.drewN n) os) :=
  ⟨rfl, rfl, rfl, by simp [Go.Sort.grow, World.drewN], fun k hk => by
    show ((w.drewN n).heap ++ os)[k]? = w.heap[k]?
    rw [Array.getElem?_append_left (by exact hk)]
    rfl⟩
theorem fmt_fn : FnOk Tryz.prog 51 (mkFn 2 [(0, some false, [.fl (.int .i64)]), (1, some false, [.fl (.int .i64)])] [(false, [.fl .str])] (keepOf []) (fun (y : ByteArray) => (((y, ()), ()) : compT [(false, [.fl .str])])) fun x => fmtF x.1.1 x.2.1.1) :=
  fnOk_plain fun w g args vs x y hi hl hx hF => by
    obtain ⟨h0, hx⟩ := readCut_cons hx
    obtain ⟨h1, _⟩ := readCut_cons hx
    have e0 := arg_int hi h0
    have e1 := arg_int hi h1
    obtain rfl := list2 (by rw [hi.len]; exact hl) e0 e1
    simp only [fmtF] at hF
    split at hF
    · rename_i hb
      split at hF
      · rename_i hr
        cases hF
        rw [hb]
        refine (Any.strconv_FormatInt_10 Tryz.laysM173 x.1.1 hr.1 hr.2 w (amb_tab hi.amb)).mono ?_
        rintro e w' ⟨rfl, k, os, rfl⟩
        exact ⟨_, rfl, below_drewN k os, fun g' => ⟨_, rfl, .inr (.inr rfl)⟩⟩
      · cases hF
    · cases hF
end Go.Proofs.YtmgelocefebldaaGreatDoor.T

/- strings.Split, by the kit's contract, as a function of the evaluator. -/
import Derived.Test.YtmgelocefebldaaGreatDoorRvAmb
import Derived.Test.YtmgelocefebldaaGreatDoorRvShSplit
namespace Go.Proofs.YtmgelocefebldaaGreatDoor.T
open Go.Rv Go.RowKit
set_option linter.unusedVariables false
noncomputable def splitS (s sep : ByteArray) : List ByteArray := Lib.splitB sep 0 (Lib.countB s sep) s
noncomputable def splitF (s sep : ByteArray) : Option (List ByteArray) := if s.size < 4294967281 then if 1 ≤ sep.size then some (splitS s sep) else none else none
theorem split_fn : FnOk Tryz.prog 22 (mkFn 2 [(0, some false, [.fl .str]), (1, some false, [.fl .str])] [(false, [.fl (.own .str)])] (keepOf []) (fun (y : List ByteArray) => (((y, ()), ()) : compT [(false, [.fl (.own .str)])])) fun x => splitF x.1.1 x.2.1.1) :=
  fnOk_rowS fun w g args vs x y hi hl hx hF => by
    obtain ⟨h0, hx⟩ := readCut_cons hx
    obtain ⟨h1, _⟩ := readCut_cons hx
    have e0 := arg_str hi h0
    have e1 := arg_str hi h1
    obtain rfl := list2 (by rw [hi.len]; exact hl) e0 e1
    simp only [splitF] at hF
    split at hF
    · rename_i hs
      split at hF
      · rename_i h1s
        cases hF
        obtain ⟨m, hm⟩ := amb_max hi.amb
        have hle := Lib.countB_le x.2.1.1 h1s x.1.1.size x.1.1 (Nat.le_refl _)
        have hlen := Lib.splitB_all x.2.1.1 h1s 0 _ x.1.1 rfl
        refine (Any.strings_Split Tryz.lays146 (by kernel_rfl) x.1.1 x.2.1.1 m w hs hm h1s).mono ?_
        rintro e w' ⟨rfl, rfl⟩
        refine ⟨w.heap.size, Lib.countB x.1.1 x.2.1.1 + 1, _, _, ?_, (Below.refl _ _).alloc (Nat.le_refl _) _, Nat.le_refl _, heap_alloc_new w _, ?_, ?_, ?_, fun i s hi => ?_⟩
        · unfold splitS; rw [hlen]
        · unfold splitS; rw [hlen]; exact Nat.le_refl _
        · unfold maxLen; omega
        · simp [hlen]
        · unfold splitS at hi
          simp [hi]
      · cases hF
    · cases hF
end Go.Proofs.YtmgelocefebldaaGreatDoor.T

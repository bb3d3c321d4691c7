/- strings.Cut, by the kit's contract, as a function of the evaluator. -/
import Derived.Test.YtgknckbplbldbaaDoorRvAmb
import Derived.Test.YtgknckbplbldbaaDoorRvShCut
namespace Go.Proofs.YtgknckbplbldbaaDoor.T
open Go.Rv Go.RowKit
set_option linter.unusedVariables false
noncomputable def cutV (s sep : ByteArray) : ByteArray × ByteArray × Bool := (⟨(Lib.cut s.data.toList sep.data.toList).1.toArray⟩, ⟨(Lib.cut s.data.toList sep.data.toList).2.1.toArray⟩, (Lib.cut s.data.toList sep.data.toList).2.2)
noncomputable def cutF (s sep : ByteArray) : Option (ByteArray × ByteArray × Bool) := if s.size < 4294967281 then some (cutV s sep) else none
theorem cut_fn : FnOk Tryd.prog 28 (mkFn 2 [(0, some false, [.fl .str]), (1, some false, [.fl .str])] [(false, [.fl .str]), (false, [.fl .str]), (false, [.fl .bool])] (keepOf []) (fun (y : ByteArray × ByteArray × Bool) => (((y.1, ()), (y.2.1, ()), (y.2.2, ()), ()) : compT [(false, [.fl .str]), (false, [.fl .str]), (false, [.fl .bool])])) fun x => cutF x.1.1 x.2.1.1) :=
  fnOk_plain fun w g args vs x y hi hl hx hF => by
    obtain ⟨h0, hx⟩ := readCut_cons hx
    obtain ⟨h1, _⟩ := readCut_cons hx
    have e0 := arg_str hi h0
    have e1 := arg_str hi h1
    obtain rfl := list2 (by rw [hi.len]; exact hl) e0 e1
    simp only [cutF] at hF
    split at hF
    · rename_i hs
      cases hF
      obtain ⟨m, hm⟩ := amb_max hi.amb
      refine (Any.strings_Cut Tryd.lays145 x.1.1 x.2.1.1 m w hs hm).mono ?_
      rintro e w' ⟨rfl, n, rfl⟩
      refine ⟨_, rfl, ⟨rfl, rfl, rfl, Nat.le_refl _, fun _ _ => rfl⟩, fun g' => ⟨[.string (cutV x.1.1 x.2.1.1).1, .string (cutV x.1.1 x.2.1.1).2.1, .bool (cutV x.1.1 x.2.1.1).2.2], rfl, rfl, fun i p hp => ?_⟩⟩
      have hp : [((false, [CV.str (cutV x.1.1 x.2.1.1).1]) : Comp), (false, [CV.str (cutV x.1.1 x.2.1.1).2.1]), (false, [CV.bool (cutV x.1.1 x.2.1.1).2.2])][i]? = some p := hp
      match i, hp with
      | 0, hp => cases hp; exact ⟨_, rfl, _, rfl, .inr (.inr rfl)⟩
      | 1, hp => cases hp; exact ⟨_, rfl, _, rfl, .inr (.inr rfl)⟩
      | 2, hp => cases hp; exact ⟨_, rfl, _, rfl, .inr (.inr rfl)⟩
      | i + 3, hp => simp at hp
    · cases hF
end Go.Proofs.YtgknckbplbldbaaDoor.T

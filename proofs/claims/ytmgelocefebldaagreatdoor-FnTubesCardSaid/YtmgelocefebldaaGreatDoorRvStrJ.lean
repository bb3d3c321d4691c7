/- strings.Join, by the kit's contract, as a function of the evaluator. -/
import Derived.Test.YtmgelocefebldaaGreatDoorRvAmb
import Derived.Test.YtmgelocefebldaaGreatDoorRvShJoin
namespace Go.Proofs.YtmgelocefebldaaGreatDoor.T
open Go.Rv Go.RowKit
set_option linter.unusedVariables false
noncomputable def joinS (xs : List ByteArray) (sep : ByteArray) : ByteArray := ⟨(Lib.join (xs.map (·.data.toList)) sep.data.toList).toArray⟩
noncomputable def joinF (xs : List ByteArray) (sep : ByteArray) : Option ByteArray := if xs.length ≤ 1048576 then if (Lib.join (xs.map (·.data.toList)) sep.data.toList).length ≤ 140737488355328 then some (joinS xs sep) else none else none
theorem join_fn : FnOk Tryz.prog 21 (mkFn 2 [(0, some false, [.fl (.lo .str)]), (1, some false, [.fl .str])] [(false, [.fl .str])] (keepOf []) (fun (y : ByteArray) => (((y, ()), ()) : compT [(false, [.fl .str])])) fun x => joinF x.1.1 x.2.1.1) :=
  fnOk_plain fun w g args vs x y hi hl hx hF => by
    obtain ⟨h0, hx⟩ := readCut_cons hx
    obtain ⟨h1, _⟩ := readCut_cons hx
    obtain ⟨v, e0, hr⟩ := arg_lo hi h0
    have e1 := arg_str hi h1
    obtain rfl := list2 (by rw [hi.len]; exact hl) e0 e1
    generalize x.1.1 = xs at *
    generalize x.2.1.1 = sep at *
    simp only [joinF] at hF
    split at hF
    · rename_i hN
      split at hF
      · rename_i hlen
        cases hF
        obtain ⟨A, cap, hv, hcap, hc⟩ := hr
        simp only [List.cons.injEq, and_true] at hv
        subst hv
        cases xs with
        | nil =>
          refine (Any.strings_Join_none Tryz.lays156 Tryz.Builder_Extra_156 A cap sep w).mono ?_
          rintro e w' ⟨rfl, rfl⟩
          exact ⟨_, rfl, Below.refl _ _, fun g' => ⟨_, rfl, .inr (.inr rfl)⟩⟩
        | cons z zs =>
          obtain ⟨a, ecs, rfl, ha, _, hz⟩ := hc 0 z rfl
          obtain ⟨b, o, sp⟩ := a
          simp only at ha
          subst ha
          have hcell : ∀ (j : Nat) (x : ByteArray), (z :: zs)[j]? = some x → g.Z b (o + j) ∧ w.cell? ⟨b, o + j, none⟩ = some (.string x) := fun j x hj => by
            obtain ⟨a', ecs', e', _, hr', hc'⟩ := hc j x hj
            cases e'
            have hr' : ecs' = [.string x] := hr'
            subst hr'
            have := hc' 0 _ rfl
            simp only [Ty.cells, Nat.mul_one, Nat.add_zero] at this
            exact this
          have hb : b < w.heap.size := hi.stab b _ (hi.zs _ _ (hcell 0 z rfl).1).1
          refine (Any.strings_Join Tryz.lays156 Tryz.Builder_Extra_156 b o cap (z :: zs) sep w (fun j x hj => (hcell j x hj).2) hb (by omega) hcap hlen).mono ?_
          rintro e w' ⟨rfl, hB⟩
          exact ⟨_, rfl, hB, fun g' => ⟨_, rfl, .inr (.inr rfl)⟩⟩
      · cases hF
    · cases hF
end Go.Proofs.YtmgelocefebldaaGreatDoor.T

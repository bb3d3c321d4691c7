/- Where an operation looks, and where it writes: memory, calls. -/
import Derived.Test.YtlkmjldhhoopcaaRvLocal
import Derived.Test.YtlkmjldhhoopcaaRvCallOp
namespace Go.Rv
set_option linter.unusedSimpArgs false
set_option linter.unusedVariables false
section
variable {X : Env} {E : FuncId → Option Fn} {fr fr' fr1 : Fr} {o : Oper}
/-! ### loads -/
def viewC (s c : Nat) : CV → CV
  | .own t xs => .ref s c t xs
  | .tmpo t xs => .hi t xs
  | x => x
theorem view1_get (s : Nat) : ∀ (cs : List CV) (c k : Nat), (view1 s c cs)[k]? = (cs[k]?).map (viewC s (c + k))
  | [], c, k => by simp [view1]
  | x :: cs, c, k => by
    have h1 : view1 s c (x :: cs) = viewC s c x :: view1 s (c + 1) cs := by cases x <;> rfl
    rw [h1]
    cases k with
    | zero => simp
    | succ k => simp only [List.getElem?_cons_succ]; rw [view1_get s cs (c + 1) k, show c + 1 + k = c + (k + 1) by omega]
theorem view1_len (s : Nat) (cs : List CV) (c : Nat) : (view1 s c cs).length = cs.length := by
  induction cs generalizing c with
  | nil => rfl
  | cons x cs ih =>
    have h1 : view1 s c (x :: cs) = viewC s c x :: view1 s (c + 1) cs := by cases x <;> rfl
    rw [h1]; simp [ih]
theorem box_cells {s c n : Nat} {L : List Loc} (ha : Agr fr fr' L) (h1 : Loc.shape s ∈ L) (h2 : Loc.cells s c n ∈ L) {cs : List CV} (hb : fr s = .box cs) : ∃ ds, fr' s = .box ds ∧ ∀ k, c ≤ k → k < c + n → ds[k]? = cs[k]? := by
  have hsh := ha.shape h1
  rw [hb] at hsh
  obtain ⟨ds, hd⟩ := shape_box (x := fr' s) (cs := []) hsh.symm
  refine ⟨ds, hd, fun k hk hl => ?_⟩
  have := ha s (k + 1) ⟨_, h2, rfl, by omega, by omega⟩
  rw [hb, hd] at this
  simp only [pv] at this
  cases q1 : cs[k]? <;> cases q2 : ds[k]? <;> simp_all
theorem load_agr {s c n : Nat} {L : List Loc} (ha : Agr fr fr' L) (h1 : Loc.shape s ∈ L) (h2 : Loc.cells s c n ∈ L) {vs : List CV} (h : load fr (.ptr s c) n = some vs) : load fr' (.ptr s c) n = some vs := by
  simp only [load] at h ⊢
  cases hb : fr s with
  | comp b cs => rw [hb] at h; cases h
  | tup vs => rw [hb] at h; cases h
  | box cs =>
    obtain ⟨ds, hd, hc⟩ := box_cells ha h1 h2 hb
    rw [hb] at h
    rw [hd]
    simp only [takeN] at h ⊢
    obtain ⟨hn, h⟩ := bif_some h
    cases h
    have hn := Nat.le_of_ble_eq_true hn
    rw [List.length_drop, view1_len] at hn
    by_cases hz : n = 0
    · subst hz; rw [show Nat.ble 0 (List.drop c (view1 s 1 ds)).length = true from Nat.ble_eq_true_of_le (Nat.zero_le _)]; simp
    have hlen : c + n ≤ ds.length := by
      have := hc (c + n - 1) (by omega) (by omega)
      rw [List.getElem?_eq_getElem (show c + n - 1 < cs.length by omega)] at this
      have := (List.getElem?_eq_some_iff.1 this).1
      omega
    rw [show n.ble ((view1 s 1 ds).drop c).length = true from Nat.ble_eq_true_of_le (by rw [List.length_drop, view1_len]; omega)]
    simp only [cond_true, Option.some.injEq]
    apply List.ext_getElem?
    intro k
    rw [List.getElem?_take, List.getElem?_take]
    split
    · rw [List.getElem?_drop, List.getElem?_drop, view1_get, view1_get, hc (c + k) (by omega) (by omega)]
    · rfl
theorem load_like {t : TypeId} {x : Operand} (ho : o.op = .load t x) {R W : List Loc} (hf : foot X E o fr = some (R, W)) (ha : Agr fr fr' R) (h : stepOp X E o fr some = some fr1) : foot X E o fr' = some (R, W) ∧ Like (stepOp X E o fr' some) fr' fr1 W := by
  unfold foot at hf
  rw [ho] at hf
  simp only at hf
  by_cases hp : ∃ s c, opc fr x = .ptr s c
  · obtain ⟨s, c, hp⟩ := hp
    rw [hp] at hf
    simp only at hf
    cases hi : X.ti t with
    | none => rw [hi] at hf; cases hf
    | some i =>
      rw [hi] at hf
      simp only [Option.some.injEq, Prod.mk.injEq] at hf
      obtain ⟨rfl, rfl⟩ := hf
      have hx : opd fr' x = opd fr x := (ha.tail.tail.left).opd (by simp)
      refine ⟨?_, ?_⟩
      · unfold foot
        rw [ho]
        simp only [show opc fr' x = .ptr s c by simp only [opc, hx]; exact hp, hi]
      · refine finv_like (X := X) ?_ h ha.tail.tail.right
        unfold stepOp at h ⊢
        rw [ho] at h ⊢
        simp only [hi, hp, show opc fr' x = .ptr s c by simp only [opc, hx]; exact hp] at h ⊢
        cases hl : load fr (.ptr s c) i.ty.cells with
        | none => rw [hl] at h; cases h
        | some vs =>
          rw [load_agr ha List.mem_cons_self (List.mem_cons_of_mem _ List.mem_cons_self) hl]
          exact ⟨some _, rfl, rfl⟩
  · have hf2 : some (R, W) = pureFoot o [x] := by
      rw [← hf]
      cases hc : opc fr x <;> first | rfl | exact (hp ⟨_, _, hc⟩).elim
    simp only [pureFoot, Option.some.injEq, Prod.mk.injEq] at hf2
    obtain ⟨rfl, rfl⟩ := hf2
    have hx : opd fr' x = opd fr x := ha.left.opd (by simp)
    have hxc : opc fr' x = opc fr x := by simp only [opc, hx]
    refine ⟨?_, finv_like (X := X) ?_ h ha.right⟩
    · unfold foot
      rw [ho]
      simp only [hxc]
      cases hc : opc fr x <;> first | rfl | exact (hp ⟨_, _, hc⟩).elim
    · unfold stepOp
      rw [ho]
      simp only [hxc]
      cases X.ti t with
      | none => exact ⟨none, rfl, rfl⟩
      | some i =>
        cases hc : opc fr x <;> first | exact (hp ⟨_, _, hc⟩).elim | skip
        all_goals
          simp only [load]
          (repeat' first | exact ⟨some _, rfl, rfl⟩ | exact ⟨none, rfl, rfl⟩ | refine bif_f ?_ | exact cv_v (binop_v _ _) | exact cv_v (index_v _ _) | split)
/-! ### calls -/
theorem argP_eq {L : List Loc} (ha : Agr fr fr' L) : ∀ (cs : List CV), (∀ l ∈ boxesP cs, l ∈ L) → ∀ c ∈ cs, argP fr' c = argP fr c
  | [], _, c, hc => by cases hc
  | x :: cs, hb, c, hc => by
    have hb' : ∀ l ∈ boxesP cs, l ∈ L := fun l hl => hb l (by cases x <;> simp only [boxesP] <;> first | exact hl | exact List.mem_cons_of_mem _ hl)
    rcases List.mem_cons.1 hc with rfl | hc
    · cases c <;> simp only [argP]
      case ptr s k => rw [ha.whole (s := s) (hb _ (by simp [boxesP]))]
    · exact argP_eq ha cs hb' c hc
theorem argCV_eq {L : List Loc} (ha : Agr fr fr' L) : ∀ (cs : List CV), (∀ l ∈ boxes cs, l ∈ L) → ∀ c ∈ cs, argCV fr' c = argCV fr c
  | [], _, c, hc => by cases hc
  | x :: cs, hb, c, hc => by
    have hb' : ∀ l ∈ boxes cs, l ∈ L := fun l hl => hb l (by cases x <;> simp only [boxes] <;> first | exact hl | exact List.mem_cons_of_mem _ hl | exact List.mem_append_right _ hl)
    rcases List.mem_cons.1 hc with rfl | hc
    · cases c <;> simp only [argCV]
      case ptr s k => simp only [argP]; rw [ha.whole (s := s) (hb _ (by simp [boxes]))]
      case fn f caps =>
        congr 1
        exact List.map_congr_left fun c hc => argP_eq ha caps (fun l hl => hb l (by simp only [boxes]; exact List.mem_append_left _ hl)) c hc
      all_goals rfl
    · exact argCV_eq ha cs hb' c hc
theorem argsOf_eq : ∀ (xs : List Operand), (∀ x ∈ xs, opd fr' x = opd fr x) → argsOf fr' xs = argsOf fr xs
  | [], _ => rfl
  | x :: xs, h => by simp only [argsOf]; rw [h x (by simp), argsOf_eq xs fun y hy => h y (List.mem_cons_of_mem _ hy)]
theorem argBoxes_eq : ∀ (xs : List Operand), (∀ x ∈ xs, opd fr' x = opd fr x) → argBoxes fr' xs = argBoxes fr xs
  | [], _ => rfl
  | x :: xs, h => by simp only [argBoxes]; rw [h x (by simp), argBoxes_eq xs fun y hy => h y (List.mem_cons_of_mem _ hy)]
theorem argBoxes_mem : ∀ {xs : List Operand} {x : Operand}, x ∈ xs → ∀ l ∈ boxes (opd fr x).2, l ∈ argBoxes fr xs
  | y :: xs, x, hx, l, hl => by
    simp only [argBoxes]
    rcases List.mem_cons.1 hx with rfl | hx
    · exact List.mem_append_left _ hl
    · exact List.mem_append_right _ (argBoxes_mem hx l hl)
theorem argsOf_mem : ∀ {xs : List Operand} {p : Comp}, p ∈ argsOf fr xs → ∃ x ∈ xs, p = opd fr x
  | x :: xs, p, h => by
    simp only [argsOf] at h
    rcases List.mem_cons.1 h with rfl | h
    · exact ⟨x, List.mem_cons_self, rfl⟩
    · obtain ⟨y, h1, h2⟩ := argsOf_mem h
      exact ⟨y, List.mem_cons_of_mem _ h1, h2⟩
theorem callFn_v {F : Fn} (hm : F.muts = []) {args : List Comp} (h : ∀ p ∈ args, ∀ c ∈ p.2, argCV fr' c = argCV fr c) {d : Option Nat} : ∃ v, callFn X F fr args d some = finv X d v fr ∧ callFn X F fr' args d some = finv X d v fr' := by
  have hl : (args.map fun p => (p.1, p.2.map (argCV fr'))) = args.map fun p => (p.1, p.2.map (argCV fr)) :=
    List.map_congr_left fun p hp => by rw [List.map_congr_left fun c hc => h p hp c hc]
  unfold callFn
  simp only [hm, argsConv_nil, hl, placesOf, List.isEmpty_nil, Bool.true_or, cond_true]
  rw [F.nat]
  conv => enter [1, v, 2]; rw [F.nat]
  cases F.run _ some with
  | none => exact ⟨none, rfl, rfl⟩
  | some res =>
    simp only [Option.bind_some]
    cases (!res.all fun c => c.2.length.blt 4096)
    · exact ⟨some _, rfl, rfl⟩
    · exact ⟨none, rfl, rfl⟩
theorem one_mem {p : Comp} {c : CV} (h : one p = c) (hc : c ≠ .dead) : c ∈ p.2 := by
  unfold one at h
  split at h
  · simp [h]
  · exact (hc h.symm).elim
end
end Go.Rv

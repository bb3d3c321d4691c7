/- The memo of the smoothest plans: what is found in it, what is laid into it. -/
import Derived.Test.YtigkpbnhdkdliaaXFnExactSmV
import Derived.Test.YtigkpbnhdkdliaaRvM0
namespace Go.Proofs.Ytigkpbnhdkdliaa.T
open Go.Rv Go.Rv.St Go.RowKit Go.Maps
open Go.ChangeMaps (setBlock)
set_option linter.unusedVariables false
set_option linter.unusedSimpArgs false
theorem laidOutT : laidOutB Try.prog = true := by kernel_rfl
theorem tyO : Try.prog.underlying 74 = some (.map 27 89) := by kernel_rfl
theorem tyI : Try.prog.underlying 89 = some (.map 2 72) := by kernel_rfl
theorem keyO : Keyed Try.prog 27 ∧ ∀ x : Den (.pair (.int .i64) (.pair (.int .i64) (.int .i64))), kwf (.pair (.int .i64) (.pair (.int .i64) (.int .i64))) x = true → ∃ l, keyOf Try.prog 27 (encV (.pair (.int .i64) (.pair (.int .i64) (.int .i64))) x) = some l := key3 laidOutT (by kernel_rfl)
theorem keyI : Keyed Try.prog 2 := int_keyed (q := .i64) (by kernel_rfl)
theorem zeroO (W : World) : (zeroValue 89).run Try.prog W = .ok (.map none) W := by kernel_rfl
theorem zeroI (W : World) : (zeroValue 72).run Try.prog W = .ok (.agg #[.int .i64 0, .slice none 0 0, .bool false]) W := by kernel_rfl
theorem cvKey {M H : Int} (hL : Lim M H) {c : C} (hc : ins M c = true) : ∃ l, keyOf Try.prog 27 (cv c) = some l := keyO.2 (c.1, (c.2.1, c.2.2)) (R0.kwf_small (R0.small_ins hL hc))
theorem nKey {n : Nat} (hn : n ≤ 8) : ∃ l, keyOf Try.prog 2 (.int .i64 (n : Int)) = some l := ⟨_, keyOf_int_mk (q := .i64) (by kernel_rfl) (by simp only [Lit.wf, IntKind.min, IntKind.max, IntKind.signed, IntKind.bits, Bool.and_eq_true, decide_eq_true_eq, if_true]; omega)⟩
theorem cv_inj {c d : C} (h : cv c = cv d) : c = d := by
  obtain ⟨a, b, e⟩ := c
  obtain ⟨x, y, z⟩ := d
  simp only [cv, Value.agg.injEq, Array.mk.injEq, List.cons.injEq, Value.int.injEq, true_and, and_true] at h
  obtain ⟨rfl, rfl, rfl⟩ := h
  rfl
theorem set_same {w : World} {b : Nat} {o : Obj} (hb : b < w.heap.size) : (setBlock w b o).heap[b]? = some o := by simp [setBlock, hb]
theorem set_other {w : World} {b x : Nat} {o : Obj} (h : x ≠ b) : (setBlock w b o).heap[x]? = w.heap[x]? := by
  simp only [setBlock]
  rw [Array.getElem?_setIfInBounds]
  rw [if_neg (fun e => h e.symm)]
theorem set_size {w : World} {b : Nat} {o : Obj} : (setBlock w b o).heap.size = w.heap.size := by simp [setBlock]
theorem set_rows {w : World} {b : Nat} {o : Obj} {es : Array MapEntry} {cl : Nat} (hb : w.heap[b]? = some (.map es cl)) (x : Nat) (arr : Array Value) (e : TypeId) (f : Nat × Nat) (hc : w.heap[x]? = some (.cells arr e f)) : (setBlock w b o).heap[x]? = some (.cells arr e f) := by
  rw [set_other (fun e => by rw [e, hb] at hc; cases hc)]
  exact hc
theorem InnerD.at {D : Nat → Prop} {M H : Int} {w w' : World} {c : C} {b : Nat} (h : InnerD D M H w c b) (hb : w'.heap[b]? = w.heap[b]?) (hr : ∀ (b : Nat) (arr : Array Value) (e : TypeId), D b → w.heap[b]? = some (.cells arr e (0, 0)) → w'.heap[b]? = some (.cells arr e (0, 0))) : InnerD D M H w' c b := by
  obtain ⟨es, cl, e1, en, e2⟩ := h
  refine ⟨es, cl, hb.trans e1, en, fun e he => ⟨(e2 e he).1, ?_⟩⟩
  obtain ⟨n, n1, n2, n3⟩ := (e2 e he).2
  exact ⟨n, n1, n2, n3.move (fun _ h => h) hr⟩
def Outer (B : Nat) (D : Nat → Prop) (M H : Int) (w : World) (b0 : Nat) (γ : Nat → C) (key val : Value) : Prop := ∃ b, val = .map (some b) ∧ key = cv (γ b) ∧ ins M (γ b) = true ∧ B ≤ b ∧ b ≠ b0 ∧ InnerD D M H w (γ b) b
/-- the outer look-up: the same in every world that has this map -/
theorem look_g {B : Nat} {D : Nat → Prop} {M H : Int} (hL : Lim M H) {w w0 : World} {b0 : Nat} {γ : Nat → C} (hm : MapAll Try.prog 27 w b0 (Outer B D M H w0 b0 γ)) {c : C} (hc : ins M c = true) :
    (¬ HasKey w b0 (cv c) ∧ ∀ W, W.heap[b0]? = w.heap[b0]? → (Instr.lookup 74 (.map (some b0)) (cv c) false).run Try.prog W = .ok (.map none) W) ∨
    ∃ b, γ b = c ∧ InnerD D M H w0 c b ∧ B ≤ b ∧ b ≠ b0 ∧ ∀ W, W.heap[b0]? = w.heap[b0]? → (Instr.lookup 74 (.map (some b0)) (cv c) false).run Try.prog W = .ok (.map (some b)) W := by
  obtain ⟨l, hl⟩ := cvKey hL hc
  rcases look_all tyO keyO.1 zeroO hm hl with ⟨q1, q2⟩ | ⟨v, q1, ⟨b, rfl, e2, e3, e4, e5, e6⟩, q3⟩
  · exact .inl ⟨q1, fun W hW => q2 W hW false⟩
  · have hcb : γ b = c := (cv_inj e2).symm
    rw [hcb] at e6
    exact .inr ⟨b, hcb, e6, e4, e5, fun W hW => q3 W hW false⟩
theorem look_outer {B : Nat} {D : Nat → Prop} {M H : Int} (hL : Lim M H) {w : World} {b0 : Nat} (h : Memo B D M H w b0) {c : C} (hc : ins M c = true) :
    (¬ HasKey w b0 (cv c) ∧ ∀ W, W.heap[b0]? = w.heap[b0]? → (Instr.lookup 74 (.map (some b0)) (cv c) false).run Try.prog W = .ok (.map none) W) ∨
    ∃ b, InnerD D M H w c b ∧ B ≤ b ∧ b ≠ b0 ∧ ∀ W, W.heap[b0]? = w.heap[b0]? → (Instr.lookup 74 (.map (some b0)) (cv c) false).run Try.prog W = .ok (.map (some b)) W := by
  obtain ⟨hB, γ, hm⟩ := h
  rcases look_g hL (γ := γ) (w0 := w) hm hc with q | ⟨b, _, q⟩
  · exact .inl q
  · exact .inr ⟨b, q⟩
/-- the inner look-up -/
theorem look_inner {D : Nat → Prop} {M H : Int} {w : World} {c : C} {b : Nat} (h : InnerD D M H w c b) {n : Nat} (hn : n ≤ 8) :
    (∀ W, W.heap[b]? = w.heap[b]? → (Instr.lookup 89 (.map (some b)) (.int .i64 (n : Int)) true).run Try.prog W = .ok (.tuple #[.agg #[.int .i64 0, .slice none 0 0, .bool false], .bool false]) W) ∨
    ∃ v, SolD D w (sm M H n c) v ∧ ∀ W, W.heap[b]? = w.heap[b]? → (Instr.lookup 89 (.map (some b)) (.int .i64 (n : Int)) true).run Try.prog W = .ok (.tuple #[v, .bool true]) W := by
  obtain ⟨l, hl⟩ := nKey hn
  rcases look_all tyI keyI zeroI h hl with ⟨q1, q2⟩ | ⟨v, q1, ⟨m, m1, m2, m3⟩, q3⟩
  · exact .inl fun W hW => q2 W hW true
  · have : m = n := by
      simp only [Value.int.injEq, true_and] at m2
      omega
    subst this
    exact .inr ⟨v, m3, fun W hW => q3 W hW true⟩
theorem look_nil (n : Int) (W : World) : (Instr.lookup 89 (.map none) (.int .i64 n) true).run Try.prog W = .ok (.tuple #[.agg #[.int .i64 0, .slice none 0 0, .bool false], .bool false]) W := by
  kernel_rfl
section
variable {B : Nat} {M H x y z : Int} {b0 : Nat} {w : World} {T : List Int} {A : Option Addr} {o : Sol} {D : Nat → Prop} {Ao : Option Addr} {lo co : Nat} {W : World}
theorem set_keep {b : Nat} {es es' : Array MapEntry} {cl cl' : Nat} (hb : W.heap[b]? = some (.map es cl)) (hB : B ≤ b) : Keep B W (setBlock W b (.map es' cl')) :=
  ⟨rfl, rfl, rfl, by rw [set_size]; exact Nat.le_refl _, fun x hx => set_other (by omega), fun x arr e f hc => set_rows hb x arr e f hc⟩
/-- a solution is laid into the inner map -/
theorem Mid.put_in (h : Mid B M H x y z b0 w T A o D Ao lo co W) (hL : Lim M H) {c : C} (hc : ins M c = true) {b : Nat} (hl : (Instr.lookup 74 (.map (some b0)) (cv c) false).run Try.prog W = .ok (.map (some b)) W) {n : Nat} (hn : n ≤ 8) (ho : o = sm M H n c) :
    ∃ w3, (Instr.mapUpdate 89 (.map (some b)) (.int .i64 (n : Int)) (.agg #[.int .i64 o.1, .slice Ao lo co, .bool o.2.2])).run Try.prog W = .ok () w3 ∧ Mid B M H x y z b0 w T A o D Ao lo co w3 := by
  obtain ⟨hB, γ, hm⟩ := h.memo
  rcases look_g hL (γ := γ) (w0 := W) hm hc with ⟨_, q⟩ | ⟨b1, hcb, hin, hb1, hb2, q⟩
  · rw [q W rfl] at hl; cases hl
  have e : b1 = b := by
    have := (q W rfl).symm.trans hl
    simpa using this
  subst e
  obtain ⟨l, hkl⟩ := nKey hn
  obtain ⟨es', cl', r1, r2, _⟩ := put_all tyI keyI hin hkl (val := .agg #[.int .i64 o.1, .slice Ao lo co, .bool o.2.2]) ⟨n, hn, rfl, by rw [← ho]; exact ⟨_, rfl, h.rw⟩⟩
  obtain ⟨es, cl, s1, s2, s3⟩ := hin
  have hrows : ∀ (b : Nat) (arr : Array Value) (e : TypeId), D b → W.heap[b]? = some (.cells arr e (0, 0)) → (setBlock W b1 (.map es' cl')).heap[b]? = some (.cells arr e (0, 0)) := fun b arr e _ hcc => set_rows s1 b arr e _ hcc
  refine ⟨_, r1, h.call (set_keep s1 hb1) ?_ (fun b hb => by rw [set_size]; exact (h.dlt b hb).1) (fun _ h => h) (fun _ h => .inl h)⟩
  obtain ⟨es0, cl0, t1, t2, t3⟩ := hm
  refine ⟨hB, γ, es0, cl0, (set_other (fun e => hb2 e.symm)).trans t1, t2, fun e he => ⟨(t3 e he).1, ?_⟩⟩
  obtain ⟨b2, u1, u2, u3, u4, u5, u6⟩ := (t3 e he).2
  refine ⟨b2, u1, u2, u3, u4, u5, ?_⟩
  by_cases e2 : b2 = b1
  · subst e2
    rw [hcb]
    obtain ⟨es2, cl2, v1, v2, v3⟩ := r2
    refine ⟨es2, cl2, v1, v2, fun e he => ⟨(v3 e he).1, ?_⟩⟩
    obtain ⟨m, m1, m2, m3⟩ := (v3 e he).2
    exact ⟨m, m1, m2, m3.move (fun _ h => h) hrows⟩
  · exact u6.at (set_other e2) hrows
/-- a new inner map is laid into the outer one -/
theorem Mid.put_out (h : Mid B M H x y z b0 w T A o D Ao lo co W) (hL : Lim M H) {c : C} (hc : ins M c = true) :
    ∃ w3, (Instr.mapUpdate 74 (.map (some b0)) (cv c) (.map (some W.heap.size))).run Try.prog (W.alloc (.map #[] 0)) = .ok () w3 ∧ Mid B M H x y z b0 w T A o D Ao lo co w3 ∧
      ∃ nb, ∀ W', W'.heap[b0]? = w3.heap[b0]? → (Instr.lookup 74 (.map (some b0)) (cv c) false).run Try.prog W' = .ok (.map (some nb)) W' := by
  obtain ⟨hB, γ, hm⟩ := h.memo
  have hF : Fresh W (W.alloc (.map #[] 0)) := Fresh.alloc (Fresh.refl W) _
  have h1 := h.fresh hF
  have hb0 : b0 < W.heap.size := hm.lt
  have hWB : B ≤ W.heap.size := by have := h.hB; have := h.big; omega
  have hm1 : MapAll Try.prog 27 (W.alloc (.map #[] 0)) b0 (Outer B D M H (W.alloc (.map #[] 0)) b0 fun b => if b = W.heap.size then c else γ b) := by
    refine MapAll.mono (hm.at (hF.old b0 hb0)) fun key val ⟨b, u1, u2, u3, u4, u5, u6⟩ => ?_
    have hbl : b < W.heap.size := u6.lt
    have hne : ¬ b = W.heap.size := by omega
    refine ⟨b, u1, ?_, ?_, u4, u5, ?_⟩
    · show key = cv (if b = W.heap.size then c else γ b)
      rw [if_neg hne]; exact u2
    · show ins M (if b = W.heap.size then c else γ b) = true
      rw [if_neg hne]; exact u3
    · show InnerD D M H _ (if b = W.heap.size then c else γ b) b
      rw [if_neg hne]; exact InnerD.move u6 (fun _ h => h) (Fresh.same hF D)
  obtain ⟨l, hl⟩ := cvKey hL hc
  obtain ⟨es', cl', r1, r2, r3⟩ := put_all tyO keyO.1 hm1 hl (val := .map (some W.heap.size)) ⟨W.heap.size, rfl, by
    show cv c = cv (if W.heap.size = W.heap.size then c else γ W.heap.size)
    rw [if_pos rfl], by
    show ins M (if W.heap.size = W.heap.size then c else γ W.heap.size) = true
    rw [if_pos rfl]; exact hc, hWB, by omega, MapAll.new (alloc_new W _ _ rfl)⟩
  obtain ⟨es, cl, s1, s2, s3⟩ := hm1
  have hrows : ∀ (b : Nat) (arr : Array Value) (e : TypeId), D b → (W.alloc (.map #[] 0)).heap[b]? = some (.cells arr e (0, 0)) → (setBlock (W.alloc (.map #[] 0)) b0 (.map es' cl')).heap[b]? = some (.cells arr e (0, 0)) := fun b arr e _ hcc => set_rows s1 b arr e _ hcc
  have hm2 : MapAll Try.prog 27 (setBlock (W.alloc (.map #[] 0)) b0 (.map es' cl')) b0 (Outer B D M H (setBlock (W.alloc (.map #[] 0)) b0 (.map es' cl')) b0 fun b => if b = W.heap.size then c else γ b) :=
    MapAll.mono r2 fun key val ⟨b, u1, u2, u3, u4, u5, u6⟩ => ⟨b, u1, u2, u3, u4, u5, u6.at (set_other u5) hrows⟩
  refine ⟨_, r1, h1.call (set_keep s1 hB) ⟨hB, _, hm2⟩ (fun b hb => by rw [set_size]; exact (h1.dlt b hb).1) (fun _ h => h) (fun _ h => .inl h), ?_⟩
  rcases look_g hL hm2 hc with ⟨q, _⟩ | ⟨b, _, _, _, _, q⟩
  · exact (q r3).elim
  · exact ⟨b, q⟩
end
end Go.Proofs.Ytigkpbnhdkdliaa.T

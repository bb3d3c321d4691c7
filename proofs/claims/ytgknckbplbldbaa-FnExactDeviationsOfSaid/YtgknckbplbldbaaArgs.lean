-- written by wip/tools/myprint.py for this claim (out of the translation; functions by hand where the printer stops). Lean checks it.
import Derived.Test.YtgknckbplbldbaaGx0
import Derived.Test.YtgknckbplbldbaaOpens
import Derived.KernelRfl
namespace Go.Proofs.Ytgknckbplbldbaa.G
open Go.RowKit Go.WideShapes Go.Proofs.YtgknckbplbldbaaW.PrintWords Go.Proofs.Ytgknckbplbldbaa.K
set_option linter.unusedVariables false
set_option linter.unusedSimpArgs false
def W79 (x : S79) : Prop := ((Lit.int .i64 x.f0).wf = true) ∧ ((Lit.int .i64 x.f1).wf = true) ∧ ((Lit.int .i64 x.f2).wf = true)
def W23 (x : S23) : Prop := ((Lit.int .i64 x.f0).wf = true) ∧ ((Lit.int .i64 x.f1).wf = true) ∧ ((Lit.int .i64 x.f2).wf = true) ∧ ((Lit.int .i64 x.f3).wf = true)
theorem opens23 (H : Type) (enc : TypeId × Value → H) (w : World) (spare : Nat → Bool) (held : Bool) (n : Nat) (cs : List Value) (x : DataW H × List MemPlace) (h : DataW.trod enc Try.prog w 0 spare held n 23 cs = some x) :
    ∃ (a0 : Int) (a1 : Int) (a2 : Int) (a3 : Int), cs = [.int .i64 a0, .int .i64 a1, .int .i64 a2, .int .i64 a3] ∧ (Lit.int .i64 a0).wf = true ∧ (Lit.int .i64 a1).wf = true ∧ (Lit.int .i64 a2).wf = true ∧ (Lit.int .i64 a3).wf = true := by
  obtain ⟨xs, m, rfl, _, hl, hlen, hf⟩ := DataW.trod_struct Try.underlying23 h
  have hc : Try.prog.cellsOf 23 = 4 := by kernel_rfl
  rw [hc] at hl
  obtain ⟨c0_, r0_, rfl, hl0⟩ := cons_of (n := 3) hl
  obtain ⟨c1_, r1_, rfl, hl1⟩ := cons_of (n := 2) hl0
  obtain ⟨c2_, r2_, rfl, hl2⟩ := cons_of (n := 1) hl1
  obtain ⟨c3_, r3_, rfl, hl3⟩ := cons_of (n := 0) hl2
  obtain rfl := List.eq_nil_of_length_eq_zero hl3
  have hc0 : Try.prog.cellsOf 2 = 1 := by kernel_rfl
  obtain ⟨y0, e0⟩ : ∃ y, xs[0]? = some y := ⟨_, List.getElem?_eq_getElem (by simp [hlen])⟩
  have g0 : DataW.trod enc Try.prog w 0 spare held m 2 [c0_] = some y0 := by rw [← e0]; simpa [hc0] using hf 0 _ rfl
  obtain ⟨a0_, ec0, w0_⟩ := (opens_int Try.underlying2) H enc w spare held m _ _ g0
  have ec0' : c0_ = .int .i64 a0_ := by have e_ : [c0_] = [.int .i64 a0_] := ec0; simpa using e_
  subst ec0'
  have hc1 : Try.prog.cellsOf 2 = 1 := by kernel_rfl
  obtain ⟨y1, e1⟩ : ∃ y, xs[1]? = some y := ⟨_, List.getElem?_eq_getElem (by simp [hlen])⟩
  have g1 : DataW.trod enc Try.prog w 0 spare held m 2 [c1_] = some y1 := by rw [← e1]; simpa [hc1] using hf 1 _ rfl
  obtain ⟨a1_, ec1, w1_⟩ := (opens_int Try.underlying2) H enc w spare held m _ _ g1
  have ec1' : c1_ = .int .i64 a1_ := by have e_ : [c1_] = [.int .i64 a1_] := ec1; simpa using e_
  subst ec1'
  have hc2 : Try.prog.cellsOf 2 = 1 := by kernel_rfl
  obtain ⟨y2, e2⟩ : ∃ y, xs[2]? = some y := ⟨_, List.getElem?_eq_getElem (by simp [hlen])⟩
  have g2 : DataW.trod enc Try.prog w 0 spare held m 2 [c2_] = some y2 := by rw [← e2]; simpa [hc2] using hf 2 _ rfl
  obtain ⟨a2_, ec2, w2_⟩ := (opens_int Try.underlying2) H enc w spare held m _ _ g2
  have ec2' : c2_ = .int .i64 a2_ := by have e_ : [c2_] = [.int .i64 a2_] := ec2; simpa using e_
  subst ec2'
  have hc3 : Try.prog.cellsOf 2 = 1 := by kernel_rfl
  obtain ⟨y3, e3⟩ : ∃ y, xs[3]? = some y := ⟨_, List.getElem?_eq_getElem (by simp [hlen])⟩
  have g3 : DataW.trod enc Try.prog w 0 spare held m 2 [c3_] = some y3 := by rw [← e3]; simpa [hc3] using hf 3 _ rfl
  obtain ⟨a3_, ec3, w3_⟩ := (opens_int Try.underlying2) H enc w spare held m _ _ g3
  have ec3' : c3_ = .int .i64 a3_ := by have e_ : [c3_] = [.int .i64 a3_] := ec3; simpa using e_
  subst ec3'
  exact ⟨a0_, a1_, a2_, a3_, rfl, w0_, w1_, w2_, w3_⟩
theorem opens79 (H : Type) (enc : TypeId × Value → H) (w : World) (spare : Nat → Bool) (held : Bool) (n : Nat) (cs : List Value) (x : DataW H × List MemPlace) (h : DataW.trod enc Try.prog w 0 spare held n 79 cs = some x) :
    ∃ (a0 : Int) (a1 : Int) (a2 : Int), cs = [.int .i64 a0, .int .i64 a1, .int .i64 a2] ∧ (Lit.int .i64 a0).wf = true ∧ (Lit.int .i64 a1).wf = true ∧ (Lit.int .i64 a2).wf = true := by
  obtain ⟨xs, m, rfl, _, hl, hlen, hf⟩ := DataW.trod_struct Try.underlying79 h
  have hc : Try.prog.cellsOf 79 = 3 := by kernel_rfl
  rw [hc] at hl
  obtain ⟨c0_, r0_, rfl, hl0⟩ := cons_of (n := 2) hl
  obtain ⟨c1_, r1_, rfl, hl1⟩ := cons_of (n := 1) hl0
  obtain ⟨c2_, r2_, rfl, hl2⟩ := cons_of (n := 0) hl1
  obtain rfl := List.eq_nil_of_length_eq_zero hl2
  have hc0 : Try.prog.cellsOf 2 = 1 := by kernel_rfl
  obtain ⟨y0, e0⟩ : ∃ y, xs[0]? = some y := ⟨_, List.getElem?_eq_getElem (by simp [hlen])⟩
  have g0 : DataW.trod enc Try.prog w 0 spare held m 2 [c0_] = some y0 := by rw [← e0]; simpa [hc0] using hf 0 _ rfl
  obtain ⟨a0_, ec0, w0_⟩ := (opens_int Try.underlying2) H enc w spare held m _ _ g0
  have ec0' : c0_ = .int .i64 a0_ := by have e_ : [c0_] = [.int .i64 a0_] := ec0; simpa using e_
  subst ec0'
  have hc1 : Try.prog.cellsOf 2 = 1 := by kernel_rfl
  obtain ⟨y1, e1⟩ : ∃ y, xs[1]? = some y := ⟨_, List.getElem?_eq_getElem (by simp [hlen])⟩
  have g1 : DataW.trod enc Try.prog w 0 spare held m 2 [c1_] = some y1 := by rw [← e1]; simpa [hc1] using hf 1 _ rfl
  obtain ⟨a1_, ec1, w1_⟩ := (opens_int Try.underlying2) H enc w spare held m _ _ g1
  have ec1' : c1_ = .int .i64 a1_ := by have e_ : [c1_] = [.int .i64 a1_] := ec1; simpa using e_
  subst ec1'
  have hc2 : Try.prog.cellsOf 2 = 1 := by kernel_rfl
  obtain ⟨y2, e2⟩ : ∃ y, xs[2]? = some y := ⟨_, List.getElem?_eq_getElem (by simp [hlen])⟩
  have g2 : DataW.trod enc Try.prog w 0 spare held m 2 [c2_] = some y2 := by rw [← e2]; simpa [hc2] using hf 2 _ rfl
  obtain ⟨a2_, ec2, w2_⟩ := (opens_int Try.underlying2) H enc w spare held m _ _ g2
  have ec2' : c2_ = .int .i64 a2_ := by have e_ : [c2_] = [.int .i64 a2_] := ec2; simpa using e_
  subst ec2'
  exact ⟨a0_, a1_, a2_, rfl, w0_, w1_, w2_⟩
theorem opensK79 : Opens Try.prog 79 k79 W79 := by
  intro H enc w spare held n cs x h
  obtain ⟨a0, a1, a2, ecs, w0_0, w1_0, w2_0⟩ := opens79 H enc w spare held n cs x h
  subst ecs
  exact ⟨(⟨a0, a1, a2⟩ : S79), k79_mk w (⟨a0, a1, a2⟩ : S79), ⟨w0_0, w1_0, w2_0⟩⟩
theorem opens26 (H : Type) (enc : TypeId × Value → H) (w : World) (spare : Nat → Bool) (held : Bool) (n : Nat) (cs : List Value) (x : DataW H × List MemPlace) (h : DataW.trod enc Try.prog w 0 spare held n 26 cs = some x) :
    ∃ (a0 : Int) (a1 : Int) (a2 : Int) (a3 : Int) (A4 : Option Addr) (k4 : Nat) (l4 : List (S79)), cs = [.int .i64 a0, .int .i64 a1, .int .i64 a2, .int .i64 a3, .slice A4 l4.length k4] ∧ (Lit.int .i64 a0).wf = true ∧ (Lit.int .i64 a1).wf = true ∧ (Lit.int .i64 a2).wf = true ∧ (Lit.int .i64 a3).wf = true ∧ l4.length ≤ k4 ∧ Kd.C k79 w A4 l4.length l4 ∧ (∀ x_ ∈ l4, W79 x_) := by
  obtain ⟨xs, m, rfl, _, hl, hlen, hf⟩ := DataW.trod_struct Try.underlying26 h
  have hc : Try.prog.cellsOf 26 = 5 := by kernel_rfl
  rw [hc] at hl
  obtain ⟨c0_, r0_, rfl, hl0⟩ := cons_of (n := 4) hl
  obtain ⟨c1_, r1_, rfl, hl1⟩ := cons_of (n := 3) hl0
  obtain ⟨c2_, r2_, rfl, hl2⟩ := cons_of (n := 2) hl1
  obtain ⟨c3_, r3_, rfl, hl3⟩ := cons_of (n := 1) hl2
  obtain ⟨c4_, r4_, rfl, hl4⟩ := cons_of (n := 0) hl3
  obtain rfl := List.eq_nil_of_length_eq_zero hl4
  have hc0 : Try.prog.cellsOf 23 = 4 := by kernel_rfl
  obtain ⟨y0, e0⟩ : ∃ y, xs[0]? = some y := ⟨_, List.getElem?_eq_getElem (by simp [hlen])⟩
  have g0 : DataW.trod enc Try.prog w 0 spare held m 23 [c0_, c1_, c2_, c3_] = some y0 := by rw [← e0]; simpa [hc0] using hf 0 _ rfl
  obtain ⟨a0_0_, a0_1_, a0_2_, a0_3_, ec0, w0_0_0_, w0_1_0_, w0_2_0_, w0_3_0_⟩ := opens23 H enc w spare held m _ _ g0
  simp only [List.cons.injEq, and_true] at ec0
  obtain ⟨rfl, rfl, rfl, rfl⟩ := ec0
  have hc1 : Try.prog.cellsOf 24 = 1 := by kernel_rfl
  obtain ⟨y1, e1⟩ : ∃ y, xs[1]? = some y := ⟨_, List.getElem?_eq_getElem (by simp [hlen])⟩
  have g1 : DataW.trod enc Try.prog w 0 spare held m 24 [c4_] = some y1 := by rw [← e1]; simpa [hc1] using hf 1 _ rfl
  obtain ⟨l1_, ⟨A1_, k1_, ec1, h1_, r1_⟩, w1_⟩ := (opens_slice (d := k79) (wf := W79) Try.underlying24 (by kernel_rfl) opensK79) H enc w spare held m _ _ g1
  simp only [List.cons.injEq, and_true] at ec1
  subst ec1
  exact ⟨a0_0_, a0_1_, a0_2_, a0_3_, A1_, k1_, l1_, rfl, w0_0_0_, w0_1_0_, w0_2_0_, w0_3_0_, h1_, r1_, w1_⟩
theorem opensK23 : Opens Try.prog 23 k23 W23 := by
  intro H enc w spare held n cs x h
  obtain ⟨a0, a1, a2, a3, ecs, w0_0, w1_0, w2_0, w3_0⟩ := opens23 H enc w spare held n cs x h
  subst ecs
  exact ⟨(⟨a0, a1, a2, a3⟩ : S23), k23_mk w (⟨a0, a1, a2, a3⟩ : S23), ⟨w0_0, w1_0, w2_0, w3_0⟩⟩
end Go.Proofs.Ytgknckbplbldbaa.G

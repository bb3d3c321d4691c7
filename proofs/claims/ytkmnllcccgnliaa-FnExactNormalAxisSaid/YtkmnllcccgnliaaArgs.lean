-- written by wip/tools/myprint.py for this claim (out of the translation; functions by hand where the printer stops). Lean checks it.
import Derived.Test.YtkmnllcccgnliaaGx0
import Derived.Test.YtkmnllcccgnliaaOpens
import Derived.KernelRfl
namespace Go.Proofs.Ytkmnllcccgnliaa.G
open Go.RowKit Go.WideShapes Go.Proofs.YtkmnllcccgnliaaW.PrintWords Go.Proofs.Ytkmnllcccgnliaa.K
set_option linter.unusedVariables false
set_option linter.unusedSimpArgs false
def W105 (x : S105) : Prop := ((Lit.int .i64 x.f0).wf = true) ∧ ((Lit.int .i64 x.f1).wf = true) ∧ ((Lit.int .i64 x.f2).wf = true)
theorem opens23 (H : Type) (enc : TypeId × Value → H) (w : World) (spare : Nat → Bool) (held : Bool) (n : Nat) (cs : List Value) (x : DataW H × List MemPlace) (h : DataW.trod enc Try.prog w 0 spare held n 23 cs = some x) :
    ∃ (a0 : Int) (a1 : Int) (a2 : Int) (a3 : Int), cs = [.int .i64 a0, .int .i64 a1, .int .i64 a2, .int .i64 a3] ∧ (Lit.int .i64 a0).wf = true ∧ (Lit.int .i64 a1).wf = true ∧ (Lit.int .i64 a2).wf = true ∧ (Lit.int .i64 a3).wf = true := by
  obtain ⟨xs, m, rfl, _, hl, hlen, hf⟩ := DataW.trod_struct Try.underlying23 h
  have hc : Try.prog.cellsOf 23 = 4 := by kernel_rfl
  rw [hc] at hl
  obtain ⟨c0_, r0_, rfl, hl0⟩ := cons_of (n := 3) hl
  obtain ⟨c1_, r1_, rfl, hl1⟩ := cons_of (n := 2) hl0
  obtain ⟨c2_, r2_, rfl, hl2⟩ := cons_of (n := 1) hl1
  obtain ⟨c3_, r3_, rfl, hl3⟩ := cons_of (n := 0) hl2
  obtain rfl := List.eq_nil_of_length_eq_zero hl3
  have hc0 : Try.prog.cellsOf 2 = 1 := by kernel_rfl
  obtain ⟨y0, e0⟩ : ∃ y, xs[0]? = some y := ⟨_, List.getElem?_eq_getElem (by simp [hlen])⟩
  have g0 : DataW.trod enc Try.prog w 0 spare held m 2 [c0_] = some y0 := by rw [← e0]; simpa [hc0] using hf 0 _ rfl
  obtain ⟨a0_, ec0, w0_⟩ := (opens_int Try.underlying2) H enc w spare held m _ _ g0
  have ec0' : c0_ = .int .i64 a0_ := by have e_ : [c0_] = [.int .i64 a0_] := ec0; simpa using e_
  subst ec0'
  have hc1 : Try.prog.cellsOf 2 = 1 := by kernel_rfl
  obtain ⟨y1, e1⟩ : ∃ y, xs[1]? = some y := ⟨_, List.getElem?_eq_getElem (by simp [hlen])⟩
  have g1 : DataW.trod enc Try.prog w 0 spare held m 2 [c1_] = some y1 := by rw [← e1]; simpa [hc1] using hf 1 _ rfl
  obtain ⟨a1_, ec1, w1_⟩ := (opens_int Try.underlying2) H enc w spare held m _ _ g1
  have ec1' : c1_ = .int .i64 a1_ := by have e_ : [c1_] = [.int .i64 a1_] := ec1; simpa using e_
  subst ec1'
  have hc2 : Try.prog.cellsOf 2 = 1 := by kernel_rfl
  obtain ⟨y2, e2⟩ : ∃ y, xs[2]? = some y := ⟨_, List.getElem?_eq_getElem (by simp [hlen])⟩
  have g2 : DataW.trod enc Try.prog w 0 spare held m 2 [c2_] = some y2 := by rw [← e2]; simpa [hc2] using hf 2 _ rfl
  obtain ⟨a2_, ec2, w2_⟩ := (opens_int Try.underlying2) H enc w spare held m _ _ g2
  have ec2' : c2_ = .int .i64 a2_ := by have e_ : [c2_] = [.int .i64 a2_] := ec2; simpa using e_
  subst ec2'
  have hc3 : Try.prog.cellsOf 2 = 1 := by kernel_rfl
  obtain ⟨y3, e3⟩ : ∃ y, xs[3]? = some y := ⟨_, List.getElem?_eq_getElem (by simp [hlen])⟩
  have g3 : DataW.trod enc Try.prog w 0 spare held m 2 [c3_] = some y3 := by rw [← e3]; simpa [hc3] using hf 3 _ rfl
  obtain ⟨a3_, ec3, w3_⟩ := (opens_int Try.underlying2) H enc w spare held m _ _ g3
  have ec3' : c3_ = .int .i64 a3_ := by have e_ : [c3_] = [.int .i64 a3_] := ec3; simpa using e_
  subst ec3'
  exact ⟨a0_, a1_, a2_, a3_, rfl, w0_, w1_, w2_, w3_⟩
theorem opens105 (H : Type) (enc : TypeId × Value → H) (w : World) (spare : Nat → Bool) (held : Bool) (n : Nat) (cs : List Value) (x : DataW H × List MemPlace) (h : DataW.trod enc Try.prog w 0 spare held n 105 cs = some x) :
    ∃ (a0 : Int) (a1 : Int) (a2 : Int), cs = [.int .i64 a0, .int .i64 a1, .int .i64 a2] ∧ (Lit.int .i64 a0).wf = true ∧ (Lit.int .i64 a1).wf = true ∧ (Lit.int .i64 a2).wf = true := by
  obtain ⟨xs, m, rfl, _, hl, hlen, hf⟩ := DataW.trod_struct Try.underlying105 h
  have hc : Try.prog.cellsOf 105 = 3 := by kernel_rfl
  rw [hc] at hl
  obtain ⟨c0_, r0_, rfl, hl0⟩ := cons_of (n := 2) hl
  obtain ⟨c1_, r1_, rfl, hl1⟩ := cons_of (n := 1) hl0
  obtain ⟨c2_, r2_, rfl, hl2⟩ := cons_of (n := 0) hl1
  obtain rfl := List.eq_nil_of_length_eq_zero hl2
  have hc0 : Try.prog.cellsOf 2 = 1 := by kernel_rfl
  obtain ⟨y0, e0⟩ : ∃ y, xs[0]? = some y := ⟨_, List.getElem?_eq_getElem (by simp [hlen])⟩
  have g0 : DataW.trod enc Try.prog w 0 spare held m 2 [c0_] = some y0 := by rw [← e0]; simpa [hc0] using hf 0 _ rfl
  obtain ⟨a0_, ec0, w0_⟩ := (opens_int Try.underlying2) H enc w spare held m _ _ g0
  have ec0' : c0_ = .int .i64 a0_ := by have e_ : [c0_] = [.int .i64 a0_] := ec0; simpa using e_
  subst ec0'
  have hc1 : Try.prog.cellsOf 2 = 1 := by kernel_rfl
  obtain ⟨y1, e1⟩ : ∃ y, xs[1]? = some y := ⟨_, List.getElem?_eq_getElem (by simp [hlen])⟩
  have g1 : DataW.trod enc Try.prog w 0 spare held m 2 [c1_] = some y1 := by rw [← e1]; simpa [hc1] using hf 1 _ rfl
  obtain ⟨a1_, ec1, w1_⟩ := (opens_int Try.underlying2) H enc w spare held m _ _ g1
  have ec1' : c1_ = .int .i64 a1_ := by have e_ : [c1_] = [.int .i64 a1_] := ec1; simpa using e_
  subst ec1'
  have hc2 : Try.prog.cellsOf 2 = 1 := by kernel_rfl
  obtain ⟨y2, e2⟩ : ∃ y, xs[2]? = some y := ⟨_, List.getElem?_eq_getElem (by simp [hlen])⟩
  have g2 : DataW.trod enc Try.prog w 0 spare held m 2 [c2_] = some y2 := by rw [← e2]; simpa [hc2] using hf 2 _ rfl
  obtain ⟨a2_, ec2, w2_⟩ := (opens_int Try.underlying2) H enc w spare held m _ _ g2
  have ec2' : c2_ = .int .i64 a2_ := by have e_ : [c2_] = [.int .i64 a2_] := ec2; simpa using e_
  subst ec2'
  exact ⟨a0_, a1_, a2_, rfl, w0_, w1_, w2_⟩
theorem opensK105 : Opens Try.prog 105 k105 W105 := by
  intro H enc w spare held n cs x h
  obtain ⟨a0, a1, a2, ecs, w0_0, w1_0, w2_0⟩ := opens105 H enc w spare held n cs x h
  subst ecs
  exact ⟨(⟨a0, a1, a2⟩ : S105), k105_mk w (⟨a0, a1, a2⟩ : S105), ⟨w0_0, w1_0, w2_0⟩⟩
theorem opens26 (H : Type) (enc : TypeId × Value → H) (w : World) (spare : Nat → Bool) (held : Bool) (n : Nat) (cs : List Value) (x : DataW H × List MemPlace) (h : DataW.trod enc Try.prog w 0 spare held n 26 cs = some x) :
    ∃ (a0 : Int) (a1 : Int) (a2 : Int) (a3 : Int) (A4 : Option Addr) (k4 : Nat) (l4 : List (S105)), cs = [.int .i64 a0, .int .i64 a1, .int .i64 a2, .int .i64 a3, .slice A4 l4.length k4] ∧ (Lit.int .i64 a0).wf = true ∧ (Lit.int .i64 a1).wf = true ∧ (Lit.int .i64 a2).wf = true ∧ (Lit.int .i64 a3).wf = true ∧ l4.length ≤ k4 ∧ Kd.C k105 w A4 l4.length l4 ∧ (∀ x_ ∈ l4, W105 x_) := by
  obtain ⟨xs, m, rfl, _, hl, hlen, hf⟩ := DataW.trod_struct Try.underlying26 h
  have hc : Try.prog.cellsOf 26 = 5 := by kernel_rfl
  rw [hc] at hl
  obtain ⟨c0_, r0_, rfl, hl0⟩ := cons_of (n := 4) hl
  obtain ⟨c1_, r1_, rfl, hl1⟩ := cons_of (n := 3) hl0
  obtain ⟨c2_, r2_, rfl, hl2⟩ := cons_of (n := 2) hl1
  obtain ⟨c3_, r3_, rfl, hl3⟩ := cons_of (n := 1) hl2
  obtain ⟨c4_, r4_, rfl, hl4⟩ := cons_of (n := 0) hl3
  obtain rfl := List.eq_nil_of_length_eq_zero hl4
  have hc0 : Try.prog.cellsOf 23 = 4 := by kernel_rfl
  obtain ⟨y0, e0⟩ : ∃ y, xs[0]? = some y := ⟨_, List.getElem?_eq_getElem (by simp [hlen])⟩
  have g0 : DataW.trod enc Try.prog w 0 spare held m 23 [c0_, c1_, c2_, c3_] = some y0 := by rw [← e0]; simpa [hc0] using hf 0 _ rfl
  obtain ⟨a0_0_, a0_1_, a0_2_, a0_3_, ec0, w0_0_0_, w0_1_0_, w0_2_0_, w0_3_0_⟩ := opens23 H enc w spare held m _ _ g0
  simp only [List.cons.injEq, and_true] at ec0
  obtain ⟨rfl, rfl, rfl, rfl⟩ := ec0
  have hc1 : Try.prog.cellsOf 24 = 1 := by kernel_rfl
  obtain ⟨y1, e1⟩ : ∃ y, xs[1]? = some y := ⟨_, List.getElem?_eq_getElem (by simp [hlen])⟩
  have g1 : DataW.trod enc Try.prog w 0 spare held m 24 [c4_] = some y1 := by rw [← e1]; simpa [hc1] using hf 1 _ rfl
  obtain ⟨l1_, ⟨A1_, k1_, ec1, h1_, r1_⟩, w1_⟩ := (opens_slice (d := k105) (wf := W105) Try.underlying24 (by kernel_rfl) opensK105) H enc w spare held m _ _ g1
  simp only [List.cons.injEq, and_true] at ec1
  subst ec1
  exact ⟨a0_0_, a0_1_, a0_2_, a0_3_, A1_, k1_, l1_, rfl, w0_0_0_, w0_1_0_, w0_2_0_, w0_3_0_, h1_, r1_, w1_⟩
theorem opens62 (H : Type) (enc : TypeId × Value → H) (w : World) (spare : Nat → Bool) (held : Bool) (n : Nat) (cs : List Value) (x : DataW H × List MemPlace) (h : DataW.trod enc Try.prog w 0 spare held n 62 cs = some x) :
    ∃ (a0 : Int) (a1 : Int) (a2 : Int) (a3 : Int) (a4 : Int), cs = [.int .i64 a0, .int .i64 a1, .int .i64 a2, .int .i64 a3, .int .i64 a4] ∧ (Lit.int .i64 a0).wf = true ∧ (Lit.int .i64 a1).wf = true ∧ (Lit.int .i64 a2).wf = true ∧ (Lit.int .i64 a3).wf = true ∧ (Lit.int .i64 a4).wf = true := by
  obtain ⟨xs, m, rfl, _, hl, hlen, hf⟩ := DataW.trod_struct Try.underlying62 h
  have hc : Try.prog.cellsOf 62 = 5 := by kernel_rfl
  rw [hc] at hl
  obtain ⟨c0_, r0_, rfl, hl0⟩ := cons_of (n := 4) hl
  obtain ⟨c1_, r1_, rfl, hl1⟩ := cons_of (n := 3) hl0
  obtain ⟨c2_, r2_, rfl, hl2⟩ := cons_of (n := 2) hl1
  obtain ⟨c3_, r3_, rfl, hl3⟩ := cons_of (n := 1) hl2
  obtain ⟨c4_, r4_, rfl, hl4⟩ := cons_of (n := 0) hl3
  obtain rfl := List.eq_nil_of_length_eq_zero hl4
  have hc0 : Try.prog.cellsOf 2 = 1 := by kernel_rfl
  obtain ⟨y0, e0⟩ : ∃ y, xs[0]? = some y := ⟨_, List.getElem?_eq_getElem (by simp [hlen])⟩
  have g0 : DataW.trod enc Try.prog w 0 spare held m 2 [c0_] = some y0 := by rw [← e0]; simpa [hc0] using hf 0 _ rfl
  obtain ⟨a0_, ec0, w0_⟩ := (opens_int Try.underlying2) H enc w spare held m _ _ g0
  have ec0' : c0_ = .int .i64 a0_ := by have e_ : [c0_] = [.int .i64 a0_] := ec0; simpa using e_
  subst ec0'
  have hc1 : Try.prog.cellsOf 2 = 1 := by kernel_rfl
  obtain ⟨y1, e1⟩ : ∃ y, xs[1]? = some y := ⟨_, List.getElem?_eq_getElem (by simp [hlen])⟩
  have g1 : DataW.trod enc Try.prog w 0 spare held m 2 [c1_] = some y1 := by rw [← e1]; simpa [hc1] using hf 1 _ rfl
  obtain ⟨a1_, ec1, w1_⟩ := (opens_int Try.underlying2) H enc w spare held m _ _ g1
  have ec1' : c1_ = .int .i64 a1_ := by have e_ : [c1_] = [.int .i64 a1_] := ec1; simpa using e_
  subst ec1'
  have hc2 : Try.prog.cellsOf 2 = 1 := by kernel_rfl
  obtain ⟨y2, e2⟩ : ∃ y, xs[2]? = some y := ⟨_, List.getElem?_eq_getElem (by simp [hlen])⟩
  have g2 : DataW.trod enc Try.prog w 0 spare held m 2 [c2_] = some y2 := by rw [← e2]; simpa [hc2] using hf 2 _ rfl
  obtain ⟨a2_, ec2, w2_⟩ := (opens_int Try.underlying2) H enc w spare held m _ _ g2
  have ec2' : c2_ = .int .i64 a2_ := by have e_ : [c2_] = [.int .i64 a2_] := ec2; simpa using e_
  subst ec2'
  have hc3 : Try.prog.cellsOf 2 = 1 := by kernel_rfl
  obtain ⟨y3, e3⟩ : ∃ y, xs[3]? = some y := ⟨_, List.getElem?_eq_getElem (by simp [hlen])⟩
  have g3 : DataW.trod enc Try.prog w 0 spare held m 2 [c3_] = some y3 := by rw [← e3]; simpa [hc3] using hf 3 _ rfl
  obtain ⟨a3_, ec3, w3_⟩ := (opens_int Try.underlying2) H enc w spare held m _ _ g3
  have ec3' : c3_ = .int .i64 a3_ := by have e_ : [c3_] = [.int .i64 a3_] := ec3; simpa using e_
  subst ec3'
  have hc4 : Try.prog.cellsOf 2 = 1 := by kernel_rfl
  obtain ⟨y4, e4⟩ : ∃ y, xs[4]? = some y := ⟨_, List.getElem?_eq_getElem (by simp [hlen])⟩
  have g4 : DataW.trod enc Try.prog w 0 spare held m 2 [c4_] = some y4 := by rw [← e4]; simpa [hc4] using hf 4 _ rfl
  obtain ⟨a4_, ec4, w4_⟩ := (opens_int Try.underlying2) H enc w spare held m _ _ g4
  have ec4' : c4_ = .int .i64 a4_ := by have e_ : [c4_] = [.int .i64 a4_] := ec4; simpa using e_
  subst ec4'
  exact ⟨a0_, a1_, a2_, a3_, a4_, rfl, w0_, w1_, w2_, w3_, w4_⟩
end Go.Proofs.Ytkmnllcccgnliaa.G

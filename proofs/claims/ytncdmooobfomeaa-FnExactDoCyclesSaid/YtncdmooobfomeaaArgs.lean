-- written by wip/tools/myprint.py for this claim (out of the translation; functions by hand where the printer stops). Lean checks it.
import Derived.Test.YtncdmooobfomeaaGx0
import Derived.Test.YtncdmooobfomeaaOpens
import Derived.KernelRfl
namespace Go.Proofs.Ytncdmooobfomeaa.G
open Go.RowKit Go.WideShapes Go.Proofs.YtncdmooobfomeaaW.PrintWords Go.Proofs.Ytncdmooobfomeaa.K
set_option linter.unusedVariables false
set_option linter.unusedSimpArgs false
theorem opens37 (H : Type) (enc : TypeId × Value → H) (w : World) (spare : Nat → Bool) (held : Bool) (n : Nat) (cs : List Value) (x : DataW H × List MemPlace) (h : DataW.trod enc Try.prog w 0 spare held n 37 cs = some x) :
    ∃ (a0 : Int) (a1 : Int) (a2 : Int) (a3 : Int), cs = [.int .i64 a0, .int .i64 a1, .int .i64 a2, .int .i64 a3] ∧ (Lit.int .i64 a0).wf = true ∧ (Lit.int .i64 a1).wf = true ∧ (Lit.int .i64 a2).wf = true ∧ (Lit.int .i64 a3).wf = true := by
  obtain ⟨xs, m, rfl, _, hl, hlen, hf⟩ := DataW.trod_struct Try.underlying37 h
  have hc : Try.prog.cellsOf 37 = 4 := by kernel_rfl
  rw [hc] at hl
  obtain ⟨c0_, r0_, rfl, hl0⟩ := cons_of (n := 3) hl
  obtain ⟨c1_, r1_, rfl, hl1⟩ := cons_of (n := 2) hl0
  obtain ⟨c2_, r2_, rfl, hl2⟩ := cons_of (n := 1) hl1
  obtain ⟨c3_, r3_, rfl, hl3⟩ := cons_of (n := 0) hl2
  obtain rfl := List.eq_nil_of_length_eq_zero hl3
  have hc0 : Try.prog.cellsOf 2 = 1 := by kernel_rfl
  obtain ⟨y0, e0⟩ : ∃ y, xs[0]? = some y := ⟨_, List.getElem?_eq_getElem (by simp [hlen])⟩
  have g0 : DataW.trod enc Try.prog w 0 spare held m 2 [c0_] = some y0 := by rw [← e0]; simpa [hc0] using hf 0 _ rfl
  obtain ⟨a0_, ec0, w0_⟩ := (opens_int Try.underlying2) H enc w spare held m _ _ g0
  have ec0' : c0_ = .int .i64 a0_ := by have e_ : [c0_] = [.int .i64 a0_] := ec0; simpa using e_
  subst ec0'
  have hc1 : Try.prog.cellsOf 2 = 1 := by kernel_rfl
  obtain ⟨y1, e1⟩ : ∃ y, xs[1]? = some y := ⟨_, List.getElem?_eq_getElem (by simp [hlen])⟩
  have g1 : DataW.trod enc Try.prog w 0 spare held m 2 [c1_] = some y1 := by rw [← e1]; simpa [hc1] using hf 1 _ rfl
  obtain ⟨a1_, ec1, w1_⟩ := (opens_int Try.underlying2) H enc w spare held m _ _ g1
  have ec1' : c1_ = .int .i64 a1_ := by have e_ : [c1_] = [.int .i64 a1_] := ec1; simpa using e_
  subst ec1'
  have hc2 : Try.prog.cellsOf 2 = 1 := by kernel_rfl
  obtain ⟨y2, e2⟩ : ∃ y, xs[2]? = some y := ⟨_, List.getElem?_eq_getElem (by simp [hlen])⟩
  have g2 : DataW.trod enc Try.prog w 0 spare held m 2 [c2_] = some y2 := by rw [← e2]; simpa [hc2] using hf 2 _ rfl
  obtain ⟨a2_, ec2, w2_⟩ := (opens_int Try.underlying2) H enc w spare held m _ _ g2
  have ec2' : c2_ = .int .i64 a2_ := by have e_ : [c2_] = [.int .i64 a2_] := ec2; simpa using e_
  subst ec2'
  have hc3 : Try.prog.cellsOf 2 = 1 := by kernel_rfl
  obtain ⟨y3, e3⟩ : ∃ y, xs[3]? = some y := ⟨_, List.getElem?_eq_getElem (by simp [hlen])⟩
  have g3 : DataW.trod enc Try.prog w 0 spare held m 2 [c3_] = some y3 := by rw [← e3]; simpa [hc3] using hf 3 _ rfl
  obtain ⟨a3_, ec3, w3_⟩ := (opens_int Try.underlying2) H enc w spare held m _ _ g3
  have ec3' : c3_ = .int .i64 a3_ := by have e_ : [c3_] = [.int .i64 a3_] := ec3; simpa using e_
  subst ec3'
  exact ⟨a0_, a1_, a2_, a3_, rfl, w0_, w1_, w2_, w3_⟩
theorem opens39 (H : Type) (enc : TypeId × Value → H) (w : World) (spare : Nat → Bool) (held : Bool) (n : Nat) (cs : List Value) (x : DataW H × List MemPlace) (h : DataW.trod enc Try.prog w 0 spare held n 39 cs = some x) :
    ∃ (a0 : Int) (a1 : Int) (a2 : Int) (a3 : Int) (a4 : Int) (a5 : Int) (a6 : Int) (a7 : Int) (a8 : Int), cs = [.int .i64 a0, .int .i64 a1, .int .i64 a2, .int .i64 a3, .int .i64 a4, .int .i64 a5, .int .i64 a6, .int .i64 a7, .int .i64 a8] ∧ (Lit.int .i64 a0).wf = true ∧ (Lit.int .i64 a1).wf = true ∧ (Lit.int .i64 a2).wf = true ∧ (Lit.int .i64 a3).wf = true ∧ (Lit.int .i64 a4).wf = true ∧ (Lit.int .i64 a5).wf = true ∧ (Lit.int .i64 a6).wf = true ∧ (Lit.int .i64 a7).wf = true ∧ (Lit.int .i64 a8).wf = true := by
  obtain ⟨xs, m, rfl, _, hl, hlen, hf⟩ := DataW.trod_struct Try.underlying39 h
  have hc : Try.prog.cellsOf 39 = 9 := by kernel_rfl
  rw [hc] at hl
  obtain ⟨c0_, r0_, rfl, hl0⟩ := cons_of (n := 8) hl
  obtain ⟨c1_, r1_, rfl, hl1⟩ := cons_of (n := 7) hl0
  obtain ⟨c2_, r2_, rfl, hl2⟩ := cons_of (n := 6) hl1
  obtain ⟨c3_, r3_, rfl, hl3⟩ := cons_of (n := 5) hl2
  obtain ⟨c4_, r4_, rfl, hl4⟩ := cons_of (n := 4) hl3
  obtain ⟨c5_, r5_, rfl, hl5⟩ := cons_of (n := 3) hl4
  obtain ⟨c6_, r6_, rfl, hl6⟩ := cons_of (n := 2) hl5
  obtain ⟨c7_, r7_, rfl, hl7⟩ := cons_of (n := 1) hl6
  obtain ⟨c8_, r8_, rfl, hl8⟩ := cons_of (n := 0) hl7
  obtain rfl := List.eq_nil_of_length_eq_zero hl8
  have hc0 : Try.prog.cellsOf 37 = 4 := by kernel_rfl
  obtain ⟨y0, e0⟩ : ∃ y, xs[0]? = some y := ⟨_, List.getElem?_eq_getElem (by simp [hlen])⟩
  have g0 : DataW.trod enc Try.prog w 0 spare held m 37 [c0_, c1_, c2_, c3_] = some y0 := by rw [← e0]; simpa [hc0] using hf 0 _ rfl
  obtain ⟨a0_0_, a0_1_, a0_2_, a0_3_, ec0, w0_0_0_, w0_1_0_, w0_2_0_, w0_3_0_⟩ := opens37 H enc w spare held m _ _ g0
  simp only [List.cons.injEq, and_true] at ec0
  obtain ⟨rfl, rfl, rfl, rfl⟩ := ec0
  have hc1 : Try.prog.cellsOf 37 = 4 := by kernel_rfl
  obtain ⟨y1, e1⟩ : ∃ y, xs[1]? = some y := ⟨_, List.getElem?_eq_getElem (by simp [hlen])⟩
  have g1 : DataW.trod enc Try.prog w 0 spare held m 37 [c4_, c5_, c6_, c7_] = some y1 := by rw [← e1]; simpa [hc1] using hf 1 _ rfl
  obtain ⟨a1_0_, a1_1_, a1_2_, a1_3_, ec1, w1_0_0_, w1_1_0_, w1_2_0_, w1_3_0_⟩ := opens37 H enc w spare held m _ _ g1
  simp only [List.cons.injEq, and_true] at ec1
  obtain ⟨rfl, rfl, rfl, rfl⟩ := ec1
  have hc2 : Try.prog.cellsOf 2 = 1 := by kernel_rfl
  obtain ⟨y2, e2⟩ : ∃ y, xs[2]? = some y := ⟨_, List.getElem?_eq_getElem (by simp [hlen])⟩
  have g2 : DataW.trod enc Try.prog w 0 spare held m 2 [c8_] = some y2 := by rw [← e2]; simpa [hc2] using hf 2 _ rfl
  obtain ⟨a2_, ec2, w2_⟩ := (opens_int Try.underlying2) H enc w spare held m _ _ g2
  have ec2' : c8_ = .int .i64 a2_ := by have e_ : [c8_] = [.int .i64 a2_] := ec2; simpa using e_
  subst ec2'
  exact ⟨a0_0_, a0_1_, a0_2_, a0_3_, a1_0_, a1_1_, a1_2_, a1_3_, a2_, rfl, w0_0_0_, w0_1_0_, w0_2_0_, w0_3_0_, w1_0_0_, w1_1_0_, w1_2_0_, w1_3_0_, w2_⟩
def W101 (x : S101) : Prop := ((Lit.int .i64 x.f0).wf = true) ∧ ((Lit.int .i64 x.f1).wf = true) ∧ ((Lit.int .i64 x.f2.f0).wf = true) ∧ ((Lit.int .i64 x.f2.f1).wf = true)
theorem opens99 (H : Type) (enc : TypeId × Value → H) (w : World) (spare : Nat → Bool) (held : Bool) (n : Nat) (cs : List Value) (x : DataW H × List MemPlace) (h : DataW.trod enc Try.prog w 0 spare held n 99 cs = some x) :
    ∃ (a0 : Int) (a1 : Int), cs = [.int .i64 a0, .int .i64 a1] ∧ (Lit.int .i64 a0).wf = true ∧ (Lit.int .i64 a1).wf = true := by
  obtain ⟨xs, m, rfl, _, hl, hlen, hf⟩ := DataW.trod_struct Try.underlying99 h
  have hc : Try.prog.cellsOf 99 = 2 := by kernel_rfl
  rw [hc] at hl
  obtain ⟨c0_, r0_, rfl, hl0⟩ := cons_of (n := 1) hl
  obtain ⟨c1_, r1_, rfl, hl1⟩ := cons_of (n := 0) hl0
  obtain rfl := List.eq_nil_of_length_eq_zero hl1
  have hc0 : Try.prog.cellsOf 2 = 1 := by kernel_rfl
  obtain ⟨y0, e0⟩ : ∃ y, xs[0]? = some y := ⟨_, List.getElem?_eq_getElem (by simp [hlen])⟩
  have g0 : DataW.trod enc Try.prog w 0 spare held m 2 [c0_] = some y0 := by rw [← e0]; simpa [hc0] using hf 0 _ rfl
  obtain ⟨a0_, ec0, w0_⟩ := (opens_int Try.underlying2) H enc w spare held m _ _ g0
  have ec0' : c0_ = .int .i64 a0_ := by have e_ : [c0_] = [.int .i64 a0_] := ec0; simpa using e_
  subst ec0'
  have hc1 : Try.prog.cellsOf 2 = 1 := by kernel_rfl
  obtain ⟨y1, e1⟩ : ∃ y, xs[1]? = some y := ⟨_, List.getElem?_eq_getElem (by simp [hlen])⟩
  have g1 : DataW.trod enc Try.prog w 0 spare held m 2 [c1_] = some y1 := by rw [← e1]; simpa [hc1] using hf 1 _ rfl
  obtain ⟨a1_, ec1, w1_⟩ := (opens_int Try.underlying2) H enc w spare held m _ _ g1
  have ec1' : c1_ = .int .i64 a1_ := by have e_ : [c1_] = [.int .i64 a1_] := ec1; simpa using e_
  subst ec1'
  exact ⟨a0_, a1_, rfl, w0_, w1_⟩
theorem opens101 (H : Type) (enc : TypeId × Value → H) (w : World) (spare : Nat → Bool) (held : Bool) (n : Nat) (cs : List Value) (x : DataW H × List MemPlace) (h : DataW.trod enc Try.prog w 0 spare held n 101 cs = some x) :
    ∃ (a0 : Int) (a1 : Int) (a2 : Int) (a3 : Int), cs = [.int .i64 a0, .int .i64 a1, .int .i64 a2, .int .i64 a3] ∧ (Lit.int .i64 a0).wf = true ∧ (Lit.int .i64 a1).wf = true ∧ (Lit.int .i64 a2).wf = true ∧ (Lit.int .i64 a3).wf = true := by
  obtain ⟨xs, m, rfl, _, hl, hlen, hf⟩ := DataW.trod_struct Try.underlying101 h
  have hc : Try.prog.cellsOf 101 = 4 := by kernel_rfl
  rw [hc] at hl
  obtain ⟨c0_, r0_, rfl, hl0⟩ := cons_of (n := 3) hl
  obtain ⟨c1_, r1_, rfl, hl1⟩ := cons_of (n := 2) hl0
  obtain ⟨c2_, r2_, rfl, hl2⟩ := cons_of (n := 1) hl1
  obtain ⟨c3_, r3_, rfl, hl3⟩ := cons_of (n := 0) hl2
  obtain rfl := List.eq_nil_of_length_eq_zero hl3
  have hc0 : Try.prog.cellsOf 2 = 1 := by kernel_rfl
  obtain ⟨y0, e0⟩ : ∃ y, xs[0]? = some y := ⟨_, List.getElem?_eq_getElem (by simp [hlen])⟩
  have g0 : DataW.trod enc Try.prog w 0 spare held m 2 [c0_] = some y0 := by rw [← e0]; simpa [hc0] using hf 0 _ rfl
  obtain ⟨a0_, ec0, w0_⟩ := (opens_int Try.underlying2) H enc w spare held m _ _ g0
  have ec0' : c0_ = .int .i64 a0_ := by have e_ : [c0_] = [.int .i64 a0_] := ec0; simpa using e_
  subst ec0'
  have hc1 : Try.prog.cellsOf 2 = 1 := by kernel_rfl
  obtain ⟨y1, e1⟩ : ∃ y, xs[1]? = some y := ⟨_, List.getElem?_eq_getElem (by simp [hlen])⟩
  have g1 : DataW.trod enc Try.prog w 0 spare held m 2 [c1_] = some y1 := by rw [← e1]; simpa [hc1] using hf 1 _ rfl
  obtain ⟨a1_, ec1, w1_⟩ := (opens_int Try.underlying2) H enc w spare held m _ _ g1
  have ec1' : c1_ = .int .i64 a1_ := by have e_ : [c1_] = [.int .i64 a1_] := ec1; simpa using e_
  subst ec1'
  have hc2 : Try.prog.cellsOf 99 = 2 := by kernel_rfl
  obtain ⟨y2, e2⟩ : ∃ y, xs[2]? = some y := ⟨_, List.getElem?_eq_getElem (by simp [hlen])⟩
  have g2 : DataW.trod enc Try.prog w 0 spare held m 99 [c2_, c3_] = some y2 := by rw [← e2]; simpa [hc2] using hf 2 _ rfl
  obtain ⟨a2_0_, a2_1_, ec2, w2_0_0_, w2_1_0_⟩ := opens99 H enc w spare held m _ _ g2
  simp only [List.cons.injEq, and_true] at ec2
  obtain ⟨rfl, rfl⟩ := ec2
  exact ⟨a0_, a1_, a2_0_, a2_1_, rfl, w0_, w1_, w2_0_0_, w2_1_0_⟩
theorem opensK101 : Opens Try.prog 101 k101 W101 := by
  intro H enc w spare held n cs x h
  obtain ⟨a0, a1, a2, a3, ecs, w0_0, w1_0, w2_0, w3_0⟩ := opens101 H enc w spare held n cs x h
  subst ecs
  exact ⟨(⟨a0, a1, (⟨a2, a3⟩ : S99)⟩ : S101), k101_mk w (⟨a0, a1, (⟨a2, a3⟩ : S99)⟩ : S101), ⟨w0_0, w1_0, w2_0, w3_0⟩⟩
end Go.Proofs.Ytncdmooobfomeaa.G

-- written by wip/tools/myprint.py for this claim (out of the translation; functions by hand where the printer stops). Lean checks it.
import Derived.Test.YtlkmjldhhoopcaaGx0
import Derived.Test.YtlkmjldhhoopcaaOpens
import Derived.KernelRfl
namespace Go.Proofs.Ytlkmjldhhoopcaa.G
open Go.RowKit Go.WideShapes Go.Proofs.YtlkmjldhhoopcaaW.PrintWords Go.Proofs.Ytlkmjldhhoopcaa.K
set_option linter.unusedVariables false
set_option linter.unusedSimpArgs false
def W96 (x : S96) : Prop := ((Lit.int .i64 x.f0).wf = true) ∧ (x.f1.length ≤ 9223372036854775807 ∧ ∀ x_ ∈ x.f1, ((Lit.int .i64 x_).wf = true))
theorem opens96 (H : Type) (enc : TypeId × Value → H) (w : World) (spare : Nat → Bool) (held : Bool) (n : Nat) (cs : List Value) (x : DataW H × List MemPlace) (h : DataW.trod enc Try.prog w 0 spare held n 96 cs = some x) :
    ∃ (a0 : Int) (A1 : Option Addr) (k1 : Nat) (l1 : List Int), cs = [.int .i64 a0, .slice A1 l1.length k1] ∧ (Lit.int .i64 a0).wf = true ∧ l1.length ≤ k1 ∧ Kd.C (Kd.int .i64) w A1 l1.length l1 ∧ (∀ x_ ∈ l1, ((Lit.int .i64 x_).wf = true)) := by
  obtain ⟨xs, m, rfl, _, hl, hlen, hf⟩ := DataW.trod_struct Try.underlying96 h
  have hc : Try.prog.cellsOf 96 = 2 := by kernel_rfl
  rw [hc] at hl
  obtain ⟨c0_, r0_, rfl, hl0⟩ := cons_of (n := 1) hl
  obtain ⟨c1_, r1_, rfl, hl1⟩ := cons_of (n := 0) hl0
  obtain rfl := List.eq_nil_of_length_eq_zero hl1
  have hc0 : Try.prog.cellsOf 2 = 1 := by kernel_rfl
  obtain ⟨y0, e0⟩ : ∃ y, xs[0]? = some y := ⟨_, List.getElem?_eq_getElem (by simp [hlen])⟩
  have g0 : DataW.trod enc Try.prog w 0 spare held m 2 [c0_] = some y0 := by rw [← e0]; simpa [hc0] using hf 0 _ rfl
  obtain ⟨a0_, ec0, w0_⟩ := (opens_int Try.underlying2) H enc w spare held m _ _ g0
  have ec0' : c0_ = .int .i64 a0_ := by have e_ : [c0_] = [.int .i64 a0_] := ec0; simpa using e_
  subst ec0'
  have hc1 : Try.prog.cellsOf 22 = 1 := by kernel_rfl
  obtain ⟨y1, e1⟩ : ∃ y, xs[1]? = some y := ⟨_, List.getElem?_eq_getElem (by simp [hlen])⟩
  have g1 : DataW.trod enc Try.prog w 0 spare held m 22 [c1_] = some y1 := by rw [← e1]; simpa [hc1] using hf 1 _ rfl
  obtain ⟨l1_, ⟨A1_, k1_, ec1, h1_, r1_⟩, w1_⟩ := (opens_slice (d := (Kd.int .i64)) (wf := (fun x_ => ((Lit.int .i64 x_).wf = true))) Try.underlying22 (by kernel_rfl) (opens_int Try.underlying2)) H enc w spare held m _ _ g1
  simp only [List.cons.injEq, and_true] at ec1
  subst ec1
  exact ⟨a0_, A1_, k1_, l1_, rfl, w0_, h1_, r1_, w1_⟩
theorem opensK96 : Opens Try.prog 96 k96 W96 := by
  intro H enc w spare held n cs x h
  obtain ⟨a0, A1, k1, l1, ecs, w0_0, h1, r1, w1_0⟩ := opens96 H enc w spare held n cs x h
  subst ecs
  exact ⟨(⟨a0, l1⟩ : S96), k96_mk w (⟨a0, l1⟩ : S96) h1 r1, ⟨w0_0, ⟨Kd.C_max r1, w1_0⟩⟩⟩
theorem opens25 (H : Type) (enc : TypeId × Value → H) (w : World) (spare : Nat → Bool) (held : Bool) (n : Nat) (cs : List Value) (x : DataW H × List MemPlace) (h : DataW.trod enc Try.prog w 0 spare held n 25 cs = some x) :
    ∃ (A0 : Option Addr) (k0 : Nat) (l0 : List Int) (A1 : Option Addr) (k1 : Nat) (l1 : List (S96)), cs = [.slice A0 l0.length k0, .slice A1 l1.length k1] ∧ l0.length ≤ k0 ∧ Kd.C (Kd.int .i64) w A0 l0.length l0 ∧ (∀ x_ ∈ l0, ((Lit.int .i64 x_).wf = true)) ∧ l1.length ≤ k1 ∧ Kd.C k96 w A1 l1.length l1 ∧ (∀ x_ ∈ l1, W96 x_) := by
  obtain ⟨xs, m, rfl, _, hl, hlen, hf⟩ := DataW.trod_struct Try.underlying25 h
  have hc : Try.prog.cellsOf 25 = 2 := by kernel_rfl
  rw [hc] at hl
  obtain ⟨c0_, r0_, rfl, hl0⟩ := cons_of (n := 1) hl
  obtain ⟨c1_, r1_, rfl, hl1⟩ := cons_of (n := 0) hl0
  obtain rfl := List.eq_nil_of_length_eq_zero hl1
  have hc0 : Try.prog.cellsOf 22 = 1 := by kernel_rfl
  obtain ⟨y0, e0⟩ : ∃ y, xs[0]? = some y := ⟨_, List.getElem?_eq_getElem (by simp [hlen])⟩
  have g0 : DataW.trod enc Try.prog w 0 spare held m 22 [c0_] = some y0 := by rw [← e0]; simpa [hc0] using hf 0 _ rfl
  obtain ⟨l0_, ⟨A0_, k0_, ec0, h0_, r0_⟩, w0_⟩ := (opens_slice (d := (Kd.int .i64)) (wf := (fun x_ => ((Lit.int .i64 x_).wf = true))) Try.underlying22 (by kernel_rfl) (opens_int Try.underlying2)) H enc w spare held m _ _ g0
  simp only [List.cons.injEq, and_true] at ec0
  subst ec0
  have hc1 : Try.prog.cellsOf 23 = 1 := by kernel_rfl
  obtain ⟨y1, e1⟩ : ∃ y, xs[1]? = some y := ⟨_, List.getElem?_eq_getElem (by simp [hlen])⟩
  have g1 : DataW.trod enc Try.prog w 0 spare held m 23 [c1_] = some y1 := by rw [← e1]; simpa [hc1] using hf 1 _ rfl
  obtain ⟨l1_, ⟨A1_, k1_, ec1, h1_, r1_⟩, w1_⟩ := (opens_slice (d := k96) (wf := W96) Try.underlying23 (by kernel_rfl) opensK96) H enc w spare held m _ _ g1
  simp only [List.cons.injEq, and_true] at ec1
  subst ec1
  exact ⟨A0_, k0_, l0_, A1_, k1_, l1_, rfl, h0_, r0_, w0_, h1_, r1_, w1_⟩
end Go.Proofs.Ytlkmjldhhoopcaa.G

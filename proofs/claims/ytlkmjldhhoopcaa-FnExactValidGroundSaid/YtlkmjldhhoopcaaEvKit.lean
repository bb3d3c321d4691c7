/- Small laws on 'from some round on'. No program. -/
import Derived.Test.YtlkmjldhhoopcaaKit
namespace Go.Proofs.Ytlkmjldhhoopcaa.K
open Go.RowKit Go.Proofs.YtlkmjldhhoopcaaW.PrintWords

theorem ite_ev_neg {α : Type} {c : Prop} [Decidable c] {x : Nat → Option α} {y : Nat → Option α} {r : α} (hc : ¬ c) (h : Ev y r) : Ev (fun k => if c then x k else y k) r :=
  Ev.congr (fun k => by rw [if_neg hc]) h
theorem ite_ev_pos {α : Type} {c : Prop} [Decidable c] {x : Nat → Option α} {y : Nat → Option α} {r : α} (hc : c) (h : Ev x r) : Ev (fun k => if c then x k else y k) r :=
  Ev.congr (fun k => by rw [if_pos hc]) h
end Go.Proofs.Ytlkmjldhhoopcaa.K

/- The text of an axis. No program. -/
import Derived.Test.YtgknckbplbldbaaDoorXFnExactReadAxisAxP
import Derived.Test.YtgknckbplbldbaaDoorRvTx
import Derived.Lib.Join
namespace Go.Rv.Tx
open Go.Rv Go.Rv.Ax
set_option linter.unusedVariables false
set_option linter.unusedSimpArgs false
def poT (p : Po) : List UInt8 := Lib.itoa p.1 ++ ([44] ++ (Lib.itoa p.2.1 ++ ([44] ++ (Lib.itoa p.2.2.1 ++ ([44] ++ Lib.itoa p.2.2.2)))))
def cuT (c : Cu) : List UInt8 := [59] ++ (Lib.itoa c.1 ++ ([58] ++ (Lib.itoa c.2.1 ++ ([44] ++ Lib.itoa c.2.2))))
def cusT (l : List Cu) : List UInt8 := l.flatMap cuT
def aText (p : Po) (l : List Cu) : List UInt8 := poT p ++ cusT l
def i64 (n : Int) : Prop := -9223372036854775808 ≤ n ∧ n ≤ 9223372036854775807
def cuI (c : Cu) : Prop := i64 c.1 ∧ i64 c.2.1 ∧ i64 c.2.2
def poI (p : Po) : Prop := i64 p.1 ∧ i64 p.2.1 ∧ i64 p.2.2.1 ∧ i64 p.2.2.2
theorem itoa_len' {n : Int} (h : i64 n) : (Lib.itoa n).length ≤ 21 := itoa_len n h.1 h.2
theorem cuT_len {c : Cu} (h : cuI c) : (cuT c).length ≤ 66 := by
  have h1 := itoa_len' h.1
  have h2 := itoa_len' h.2.1
  have h3 := itoa_len' h.2.2
  simp [cuT]; omega
theorem cusT_len : ∀ l : List Cu, (∀ c ∈ l, cuI c) → (cusT l).length ≤ 66 * l.length
  | [], _ => by simp [cusT]
  | c :: l, h => by
    have h1 := cusT_len l fun x hx => h x (List.mem_cons_of_mem _ hx)
    have h2 := cuT_len (h c (by simp))
    simp only [cusT, List.flatMap_cons, List.length_append, List.length_cons] at *
    omega
theorem poT_len {p : Po} (h : poI p) : (poT p).length ≤ 87 := by
  have h1 := itoa_len' h.1
  have h2 := itoa_len' h.2.1
  have h3 := itoa_len' h.2.2.1
  have h4 := itoa_len' h.2.2.2
  simp [poT]; omega
theorem okP_i {p : Po} (h : okP p = true) : poI p := by
  rw [okP_iff] at h
  exact ⟨⟨by omega, by omega⟩, ⟨by omega, by omega⟩, ⟨by omega, by omega⟩, by omega, by omega⟩
theorem sumR_le {l : List Cu} (h : ∀ c ∈ l, 1 ≤ c.1) : ∀ c ∈ l, c.1 ≤ sumR l := by
  intro c hc
  induction l with
  | nil => cases hc
  | cons x l ih =>
    have nn : 0 ≤ sumR l := by
      clear ih hc
      induction l with
      | nil => simp [sumR]
      | cons y l ih2 =>
        have := ih2 fun z hz => h z (by rcases List.mem_cons.1 hz with rfl | hz; simp; simp [hz])
        have := h y (by simp)
        simp only [sumR, List.map_cons, List.sum_cons] at *
        omega
    simp only [sumR, List.map_cons, List.sum_cons] at *
    rcases List.mem_cons.1 hc with rfl | hc
    · omega
    · have := ih (fun z hz => h z (List.mem_cons_of_mem _ hz)) hc
      have := h x (by simp)
      omega
theorem ok_i {p : Po} {l : List Cu} (h : Ax.Ok p l) : poI p ∧ ∀ c ∈ l, cuI c := by
  refine ⟨okP_i h.1, fun c hc => ?_⟩
  have h1 := h.c hc
  have h2 := okT_iff.1 h1.2
  have h3 := sumR_le (fun x hx => (h.c hx).1) c hc
  have h4 := h.2.2.2.1
  exact ⟨⟨by omega, by omega⟩, ⟨by omega, by omega⟩, by omega, by omega⟩
end Go.Rv.Tx

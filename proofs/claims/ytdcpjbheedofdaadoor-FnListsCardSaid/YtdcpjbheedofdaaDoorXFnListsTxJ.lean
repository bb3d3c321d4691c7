/- Numbers in decimal with a text between them. -/
import Derived.Test.YtdcpjbheedofdaaDoorXFnListsTxF
namespace Go.Proofs.YtdcpjbheedofdaaDoor.R
open Go.Rv Go.Rv.Tx
set_option linter.unusedVariables false
set_option linter.unusedSimpArgs false
theorem lens_itoa : ∀ xs : List Int, (∀ x ∈ xs, -9223372036854775808 ≤ x ∧ x ≤ 9223372036854775807) → Lib.lens (xs.map Lib.itoa) ≤ 21 * xs.length
  | [], _ => by simp [Lib.lens]
  | x :: xs, h => by
    have h1 := lens_itoa xs fun y hy => h y (List.mem_cons_of_mem _ hy)
    have h2 := itoa_len x (h x (by simp)).1 (h x (by simp)).2
    simp only [List.map_cons, Lib.lens, List.length_cons, List.map, List.sum_cons] at *
    omega
theorem join_len (xs : List Int) (sep : List UInt8) (h : ∀ x ∈ xs, -9223372036854775808 ≤ x ∧ x ≤ 9223372036854775807) (hl : xs.length ≤ 1048576) (hs : sep.length ≤ 100) : (Lib.join (xs.map Lib.itoa) sep).length ≤ 140737488355328 := by
  cases xs with
  | nil => simp [Lib.join_nil]
  | cons x xs =>
    have := lens_itoa (x :: xs) h
    rw [List.map_cons, Lib.join_length, ← List.map_cons]
    rw [List.length_map]
    have h3 : sep.length * xs.length ≤ 100 * xs.length := Nat.mul_le_mul_right _ hs
    simp only [List.length_cons] at *
    omega
theorem decimals_w (xs : List Int) (sep : List UInt8) (h : ∀ x ∈ xs, -9223372036854775808 ≤ x ∧ x ≤ 9223372036854775807) (hl : xs.length ≤ 1048576) (hs : sep.length ≤ 100) : W (fun k _ => impl_decimals.f k xs (bs sep)) (· = bs (Lib.join (xs.map Lib.itoa) sep)) := by
  have key : ∀ (rest pre : List Int), xs = pre ++ rest → W (fun k m => (impl_decimals.cs k m) (bs sep) (pre.map fun n => bs (Lib.itoa n)) xs (xs.length : Int) (pre.length : Int)) (· = bs (Lib.join (xs.map Lib.itoa) sep)) := by
    intro rest
    induction rest with
    | nil =>
      intro pre e
      have e : xs = pre := by simpa using e
      refine impl_decimals.w0 (W.de (by rw [e]; omega) ?_)
      refine W.bindN (t := bs (Lib.join (xs.map Lib.itoa) sep)) (fun k => ?_) (W.ret rfl)
      unfold strings_Join.f T.joinF T.joinS
      have e2 : (pre.map fun n => bs (Lib.itoa n)).map (·.data.toList) = xs.map Lib.itoa := by rw [List.map_map, e]; rfl
      have e3 : (bs sep).data.toList = sep := rfl
      rw [e2, e3, if_pos (by rw [List.length_map, ← e]; exact hl), if_pos (join_len xs sep h hl hs)]
      rfl
    | cons x rest ih =>
      intro pre e
      have hlen : xs.length = pre.length + (rest.length + 1) := by rw [e]; simp
      have hx : rd 0 xs (pre.length : Int) = x := by rw [e]; exact rd_mid _ _ _
      have hxm := h x (by rw [e]; simp)
      refine impl_decimals.w0 (W.dt (by omega) (W.t (by omega) (W.t (by omega) ?_)))
      rw [hx]
      refine W.bindN (fun k => fmt_eq k x hxm.1 hxm.2) ?_
      refine W.t (by simp; omega) ?_
      rw [w64 (by omega) (by omega)]
      have := ih (pre ++ [x]) (by simp [e])
      simpa using this
  exact impl_decimals.w (key xs [] rfl)
end Go.Proofs.YtdcpjbheedofdaaDoor.R

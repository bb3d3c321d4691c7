/- The reference's source of choices: what is known of the numbers that it draws. -/
import Derived.Test.YtbabgpkfppdfnaaKit
import Derived.Laws.BitsLemmas
import Derived.Test.YtbabgpkfppdfnaaGx10
namespace Go.Proofs.Ytbabgpkfppdfnaa.K
open Go.RowKit Go.Proofs.Ytbabgpkfppdfnaa.G Go.Proofs.YtbabgpkfppdfnaaW.PrintWords Go.Proofs.YtbabgpkfppdfnaaW.PrintLast Go.Proofs.YtbabgpkfppdfnaaW.PrintMore
set_option linter.unusedVariables false
set_option linter.unusedSimpArgs false

/-- Bytes. -/
def Bytes (l : List Int) : Prop := l.length ≤ 1048576 ∧ ∀ x ∈ l, 0 ≤ x ∧ x ≤ 255
theorem wf_u8 {x : Int} (h : (Lit.int .u8 x).wf = true) : 0 ≤ x ∧ x ≤ 255 := by
  simp [Lit.wf, IntKind.min, IntKind.max, IntKind.bits, IntKind.signed] at h
  omega
theorem wf_i64 {x : Int} (h : (Lit.int .i64 x).wf = true) : -9223372036854775808 ≤ x ∧ x ≤ 9223372036854775807 := by
  simp [Lit.wf, IntKind.min, IntKind.max, IntKind.bits, IntKind.signed] at h
  omega
theorem bytes_rd {l : List Int} (h : Bytes l) (i : Int) : 0 ≤ rd l i ∧ rd l i ≤ 255 := by
  unfold rd
  rw [List.getD_eq_getElem?_getD]
  cases e : l[i.toNat]? with
  | none => simp
  | some x => exact h.2 x (List.mem_of_getElem? e)
theorem u64_wrap (n : Int) : IntKind.u64.wrap n = n % 18446744073709551616 := by simp [IntKind.wrap, IntKind.bits, IntKind.signed]
theorem and255 (n : Int) : 0 ≤ wrap64 (Go.bits .and .u64 (IntKind.u64.wrap n / 1099511627776) 255) ∧ wrap64 (Go.bits .and .u64 (IntKind.u64.wrap n / 1099511627776) 255) ≤ 255 := by
  have h0 : 0 ≤ IntKind.u64.wrap n / 1099511627776 := by rw [u64_wrap]; omega
  have h1 : IntKind.u64.wrap n / 1099511627776 < 2 ^ 64 := by rw [u64_wrap]; omega
  have e := bits_mask .u64 64 (by decide) (fun n a b => by rw [u64_wrap]; omega) 8 (by decide) _ h0 h1
  have e' : ((2 : Int) ^ 8 - 1) = 255 := by decide
  rw [e'] at e
  rw [e, w64 (by omega) (by omega)]
  omega
theorem next_ex (l : List Int) (hl : Bytes l) (i q : Int) (h0 : 0 ≤ i) (h1 : i ≤ 1000000000) : ∃ r q', spec_l00Src_next.f l i q = some (r, i + 1, q') ∧ 0 ≤ r ∧ r ≤ 255 := by
  have hb := bytes_rd hl i
  have hlen := hl.1
  unfold spec_l00Src_next.f
  rw [w64 (i := i + 1) (by omega) (by omega), w64 (i := rd l i) (by omega) (by omega)]
  by_cases c : i < (l.length : Int)
  · rw [if_pos c, if_pos h0]
    by_cases c2 : i + 1 ≤ (l.length : Int)
    · rw [if_pos c2]; exact ⟨_, _, rfl, hb.1, hb.2⟩
    · rw [if_neg c2]; exact ⟨_, _, rfl, (and255 _).1, (and255 _).2⟩
  · rw [if_neg c]
    by_cases c2 : i + 1 ≤ (l.length : Int)
    · rw [if_pos c2]; exact ⟨_, _, rfl, by omega, by omega⟩
    · rw [if_neg c2]; exact ⟨_, _, rfl, (and255 _).1, (and255 _).2⟩
theorem pick_ex (l : List Int) (hl : Bytes l) (i q n : Int) (h0 : 0 ≤ i) (h1 : i ≤ 900000000) (hn : 1 ≤ n) (hn2 : n ≤ 60000) :
    ∃ r i' q', spec_l00Src_pick.f l i q n = some (r, i', q') ∧ 0 ≤ r ∧ r < n ∧ i ≤ i' ∧ i' ≤ i + 2 := by
  unfold spec_l00Src_pick.f
  by_cases c : n ≤ 1
  · rw [if_pos c]; exact ⟨_, _, _, rfl, by omega, by omega, by omega, by omega⟩
  rw [if_neg c]
  obtain ⟨r, q', e, hr0, hr1⟩ := next_ex l hl i q h0 (by omega)
  rw [e]
  simp only [Option.bind_some]
  by_cases c2 : n > 200
  · rw [if_pos c2]
    obtain ⟨r2, q2, e2, hr20, hr21⟩ := next_ex l hl (i + 1) q' (by omega) (by omega)
    rw [e2]
    simp only [Option.bind_some]
    rw [if_neg (by omega), w64 (i := r * 256) (by omega) (by omega), w64 (by omega) (by omega), Int.tmod_eq_emod_of_nonneg (by omega)]
    exact ⟨_, _, _, rfl, Int.emod_nonneg _ (by omega), Int.emod_lt_of_pos _ (by omega), by omega, by omega⟩
  · rw [if_neg c2, if_neg (by omega), Int.tmod_eq_emod_of_nonneg (by omega)]
    exact ⟨_, _, _, rfl, Int.emod_nonneg _ (by omega), Int.emod_lt_of_pos _ (by omega), by omega, by omega⟩
end Go.Proofs.Ytbabgpkfppdfnaa.K

/- impl.readAll. -/
import Derived.Test.YtdcpjbheedofdaaDoorXFnListsTxR
namespace Go.Proofs.YtdcpjbheedofdaaDoor.R
open Go.Rv Go.Rv.Tx
set_option linter.unusedVariables false
set_option linter.unusedSimpArgs false
def oks (lo hi : Int) (ps : List (List UInt8)) : Prop := ∀ p ∈ ps, (rdIn lo hi p).2 = true
noncomputable def vals (lo hi : Int) (ps : List (List UInt8)) : List Int := ps.map fun p => (rdIn lo hi p).1
open Classical in
noncomputable def allIn (lo hi : Int) (ps : List (List UInt8)) : List Int × Bool := if oks lo hi ps then (vals lo hi ps, true) else ([], false)
theorem readAll_w (l : List UInt8) (c : UInt8) (lo hi : Int) (hr : -9223372036854775808 ≤ lo ∧ hi ≤ 9223372036854775807) (hl : l.length ≤ 1048576) : W (fun k _ => impl_readAll.f k (bs l) (bs [c]) lo hi) (· = allIn lo hi (pcs c l)) := by
  have hpl := pcs_len c l
  have key : ∀ (rest pre : List (List UInt8)), pcs c l = pre ++ rest → oks lo hi pre → W (fun k m => (impl_readAll.cs k m) lo hi (vals lo hi pre) ((pcs c l).map bs) ((pcs c l).length : Int) (pre.length : Int)) (· = allIn lo hi (pcs c l)) := by
    intro rest
    induction rest with
    | nil =>
      intro pre e ho
      have e : pcs c l = pre := by simpa using e
      refine impl_readAll.w0 (W.de (by rw [e]; omega) (W.ret ?_))
      rw [e]
      unfold allIn
      rw [if_pos ho]
    | cons p rest ih =>
      intro pre e ho
      have hlen : (pcs c l).length = pre.length + (rest.length + 1) := by rw [e]; simp
      have hx : rd ByteArray.empty ((pcs c l).map bs) (pre.length : Int) = bs p := by
        rw [e, List.map_append, List.map_cons]
        have := rd_mid (d := ByteArray.empty) (pre.map bs) (bs p) (rest.map bs)
        rw [List.length_map] at this
        exact this
      have hpm : p ∈ pcs c l := by rw [e]; simp
      have hpl2 := pcs_mem_len c l p hpm
      refine impl_readAll.w0 (W.dt (by omega) (W.t (by omega) (W.t (by rw [List.length_map]; omega) ?_)))
      rw [hx]
      refine W.bindN (t := rdIn lo hi p) (fun k => readIn_eq p lo hi (by omega) hr) ?_
      refine W.ni (fun h => W.ret ?_) (fun h => ?_)
      · unfold allIn
        rw [if_neg fun ho' => by have := ho' p hpm; rw [h] at this; cases this]
      · refine W.t (by simp [vals]; omega) ?_
        rw [w64 (by omega) (by omega)]
        have := ih (pre ++ [p]) (by simp [e]) (fun q hq => by
          rcases List.mem_append.1 hq with hq | hq
          · exact ho q hq
          · simp at hq; rw [hq]; exact h)
        simpa [vals] using this
  refine impl_readAll.w (W.bindN (t := (pcs c l).map bs) (fun k => ?_) ?_)
  · unfold strings_Split.f T.splitF T.splitS
    rw [bs_size, bs_size, if_pos (by omega), if_pos (by simp), split_bs]
  · rw [List.length_map]
    exact key (pcs c l) [] rfl (fun p hp => by cases hp)
theorem rdIn_narrow {lo hi lo' hi' : Int} {p : List UInt8} (h1 : lo' ≤ lo) (h2 : hi ≤ hi') (hr : -9223372036854775808 ≤ lo' ∧ hi' ≤ 9223372036854775807) :
    ((rdIn lo hi p).2 = true ↔ (rdIn lo' hi' p).2 = true ∧ lo ≤ (rdIn lo' hi' p).1 ∧ (rdIn lo' hi' p).1 ≤ hi) ∧ ((rdIn lo hi p).2 = true → (rdIn lo hi p).1 = (rdIn lo' hi' p).1) := by
  rcases rdIn_cases lo hi p (by omega) with ⟨v, hv, e⟩ | ⟨hno, e⟩
  · have e' := rdIn_yes (lo := lo') (hi := hi') hr (show IsN lo' hi' p v from ⟨hv.1, by have := hv.2; omega, by have := hv.2; omega⟩)
    rw [e, e']
    exact ⟨⟨fun _ => ⟨rfl, hv.2⟩, fun _ => rfl⟩, fun _ => rfl⟩
  · rw [e]
    refine ⟨⟨fun h => (by cases h), fun ⟨h, h3⟩ => ?_⟩, fun h => (by cases h)⟩
    rcases rdIn_cases lo' hi' p hr with ⟨v, hv, e'⟩ | ⟨_, e'⟩
    · rw [e'] at h3
      exact (hno v ⟨hv.1, h3⟩).elim
    · rw [e'] at h; cases h
end Go.Proofs.YtdcpjbheedofdaaDoor.R

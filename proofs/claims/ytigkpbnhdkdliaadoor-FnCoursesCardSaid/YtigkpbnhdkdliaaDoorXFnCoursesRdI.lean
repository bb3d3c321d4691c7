/- The course of a text, by the program. -/
import Derived.Test.YtigkpbnhdkdliaaDoorXFnCoursesRdA
import Derived.Test.YtigkpbnhdkdliaaDoorXFnCoursesAxP
namespace Go.Proofs.YtigkpbnhdkdliaaDoor.R
open Go.Rv Go.Rv.Tx Go.Rv.Ax
set_option linter.unusedVariables false
set_option linter.unusedSimpArgs false
def told' (a b c : Int) : Bool := inR (-1000) 1000 a && (inR (-1000) 1000 b && inR (-1000) 1000 c)
def res3 : List Int → Int × Int × Int × Bool
  | [a, b, c] => if told' a b c = true then (a, b, c, true) else (0, 0, 0, false)
  | _ => (0, 0, 0, false)
theorem res3_ne {l : List Int} (h : l.length ≠ 3) : res3 l = (0, 0, 0, false) := by
  unfold res3
  split
  · simp at h
  · rfl
abbrev big := (1000000000 : Int)
open Classical in
noncomputable def R3 (acc : List Int) (qs : List (List UInt8)) : Int × Int × Int × Bool := if oks (-1000000000) 1000000000 qs ∧ acc.length + qs.length = 3 then res3 (acc ++ vals (-1000000000) 1000000000 qs) else (0, 0, 0, false)
theorem implRead_w (l : List UInt8) (hl : l.length ≤ 1048576) : W (fun k _ => impl_ReadCourse.f k (bs l)) (· = R3 [] (pcs 47 l)) := by
  refine impl_ReadCourse.w ?_
  rw [show ByteArray.mk #[47] = bs [47] from rfl]
  refine W.bindE (readAll_w l 47 (-1000) 1000 (by decide) hl) ?_
  generalize pcs 47 l = qs
  have narrow := fun p => rdIn_narrow (p := p) (lo := -1000) (hi := 1000) (lo' := -1000000000) (hi' := 1000000000) (by decide) (by decide) (by decide)
  by_cases ho : oks (-1000) 1000 qs
  · have ho2 : oks (-1000000000) 1000000000 qs := fun p hp => ((narrow p).1.1 (ho p hp)).1
    have hv : vals (-1000) 1000 qs = vals (-1000000000) 1000000000 qs := List.map_congr_left fun p hp => (narrow p).2 (ho p hp)
    have hin : ∀ x ∈ vals (-1000000000) 1000000000 qs, -1000 ≤ x ∧ x ≤ 1000 := fun x hx => by
      obtain ⟨p, hp, rfl⟩ := List.mem_map.1 hx
      exact ((narrow p).1.1 (ho p hp)).2
    have hlen : (vals (-1000000000) 1000000000 qs).length = qs.length := by simp [vals]
    unfold allIn
    rw [if_pos ho, hv]
    have hR : R3 [] qs = res3 (vals (-1000000000) 1000000000 qs) := by
      unfold R3
      by_cases h : qs.length = 3
      · rw [if_pos ⟨ho2, by simpa using h⟩]; rfl
      · rw [if_neg fun h2 => h (by simpa using h2.2), res3_ne (by rw [hlen]; exact h)]
    rw [hR]
    generalize vals (-1000000000) 1000000000 qs = zs at *
    refine W.ne rfl (W.ndi (fun h => W.ret ?_) (fun h => ?_))
    · rw [res3_ne]; intro h2; exact h (by simp only; rw [h2]; rfl)
    · match zs, h with
      | [a, b, c], _ =>
        refine W.t (by decide) (W.t (by simp) (W.t (by decide) (W.t (by simp) (W.t (by decide) (W.t (by simp) (W.ret ?_))))))
        have ha := hin a (by simp)
        have hb := hin b (by simp)
        have hc := hin c (by simp)
        have ht : told' a b c = true := by simp only [told', Bool.and_eq_true, inR_iff]; exact ⟨ha, hb, hc⟩
        show (rd 0 [a, b, c] 0, rd 0 [a, b, c] 1, rd 0 [a, b, c] 2, true) = _
        simp [res3, ht, rd]
      | [], h => simp at h
      | [a], h => simp at h
      | [a, b], h => simp at h
      | a :: b :: c :: d :: r, h => simp at h; try omega
  · unfold allIn
    rw [if_neg ho]
    refine W.nt rfl (W.ret ?_)
    unfold R3
    split
    · rename_i h
      obtain ⟨h1, h2⟩ := h
      match qs, h2 with
      | [p, q, r], _ =>
        simp only [vals, List.map_cons, List.map_nil, List.nil_append, res3]
        rw [if_neg]
        intro ht
        simp only [told', Bool.and_eq_true, inR_iff] at ht
        refine ho fun x hx => (narrow x).1.2 ⟨h1 x hx, ?_⟩
        simp only [List.mem_cons, List.not_mem_nil, or_false] at hx
        rcases hx with rfl | rfl | rfl
        · exact ht.1
        · exact ht.2.1
        · exact ht.2.2
      | [], h2 => simp at h2
      | [p], h2 => simp at h2
      | [p, q], h2 => simp at h2
      | p :: q :: r :: s :: t, h2 => simp at h2; try omega
    · rfl
end Go.Proofs.YtigkpbnhdkdliaaDoor.R

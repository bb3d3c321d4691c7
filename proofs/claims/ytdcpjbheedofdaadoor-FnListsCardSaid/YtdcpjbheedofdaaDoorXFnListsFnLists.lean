/- The plain statement of the law on lists of numbers as texts. -/
import Derived.Test.YtdcpjbheedofdaaDoorXFnListsTxJ
import Derived.Test.YtdcpjbheedofdaaDoorXFnListsAxB
import Derived.Test.YtdcpjbheedofdaaDoorXFnListsRdB
import Derived.Test.YtdcpjbheedofdaaDoorXFnListsSrcN
import Derived.Test.YtdcpjbheedofdaaDoorXFnListsBAt
import Derived.Test.YtdcpjbheedofdaaDoorRvTxP
import Derived.Test.YtdcpjbheedofdaaDoorRvPuFnLists
namespace Go.Proofs.YtdcpjbheedofdaaDoor.Pure
open Go.Rv Go.Rv.Tx Go.Rv.Ax Go.Proofs.YtdcpjbheedofdaaDoor.R
set_option linter.unusedVariables false
set_option linter.unusedSimpArgs false
/-- the check number -/
def ck : Int → List UInt8 → Int
  | n, [] => n
  | n, c :: r => ck ((257 * n + (c.toNat : Int) + 1).tmod 99991) r
theorem ck_app : ∀ (a b : List UInt8) (n : Int), ck n (a ++ b) = ck (ck n a) b
  | [], _, _ => rfl
  | _ :: a, b, n => ck_app a b _
theorem ck_in : ∀ (a : List UInt8) (n : Int), 0 ≤ n ∧ n ≤ 99990 → 0 ≤ ck n a ∧ ck n a ≤ 99990
  | [], _, h => h
  | c :: a, n, h => ck_in a _ ⟨Int.tmod_nonneg _ (by omega), by have := Int.tmod_lt_of_pos (257 * n + (c.toNat : Int) + 1) (show (0 : Int) < 99991 by omega); omega⟩
theorem check_w (l : List UInt8) (hl : l.length ≤ 1048576) (n : Int) (hn : 0 ≤ n ∧ n ≤ 99990) : W (fun k _ => impl_check.f k n (bs l)) (· = ck n l) := by
  have key : ∀ (rest pre : List UInt8) (v : Int), l = pre ++ rest → 0 ≤ v ∧ v ≤ 99990 → W (fun k m => (impl_check.cs k m) v (bs l) (l.length : Int) (pre.length : Int)) (· = ck v rest) := by
    intro rest
    induction rest with
    | nil =>
      intro pre v e hv
      exact impl_check.w0 (W.de (by rw [e]; simp) (W.ret rfl))
    | cons c rest ih =>
      intro pre v e hv
      have hlen : l.length = pre.length + (rest.length + 1) := by rw [e]; simp
      have hc : l[pre.length]'(by omega) = c := by simp only [e]; rw [List.getElem_append_right (by omega)]; simp
      have hb : c.toNat < 256 := c.toNat_lt
      refine impl_check.w0 ?_
      rw [len_bs, at_bs l pre.length (by omega), hc]
      refine W.dt (by omega) (W.t (by omega) (W.t (by omega) (W.e (by decide) ?_)))
      rw [w64 (i := (c.toNat : Int)) (by omega) (by omega), w64 (i := 257 * v) (by omega) (by omega), w64 (i := 257 * v + (c.toNat : Int)) (by omega) (by omega), w64 (i := 257 * v + (c.toNat : Int) + 1) (by omega) (by omega), w64 (i := (pre.length : Int) + 1) (by omega) (by omega)]
      have := ih (pre ++ [c]) ((257 * v + (c.toNat : Int) + 1).tmod 99991) (by rw [e]; simp) ⟨Int.tmod_nonneg _ (by omega), by have := Int.tmod_lt_of_pos (257 * v + (c.toNat : Int) + 1) (show (0 : Int) < 99991 by omega); omega⟩
      simpa [ck] using this
  refine impl_check.w ?_
  rw [len_bs]
  exact key l [] n rfl hn
theorem checkOf_w (l : List UInt8) (hl : l.length ≤ 1048576) (n : Int) (hn : 0 ≤ n ∧ n ≤ 99990) : W (fun k _ => impl_CheckOf.f k n (bs l)) (· = (ck n l, true)) := by
  refine impl_CheckOf.w (W.bindN (t := true) (fun k => by unfold impl_within.f; simp [hn]) (W.ne rfl (W.bindE (check_w l hl n hn) (W.ret rfl))))
theorem nums_refl (l : List Int) (hl : l.length ≤ 1048576) : W (fun k _ => laws_b10Nums.f k l l) (· = true) := by
  have key : ∀ (rest pre : List Int), l = pre ++ rest → W (fun k m => (laws_b10Nums.cs k m) l l (pre.length : Int)) (· = true) := by
    intro rest
    induction rest with
    | nil =>
      intro pre e
      exact laws_b10Nums.w0 (W.de (by rw [e]; simp) (W.ret rfl))
    | cons c rest ih =>
      intro pre e
      have hlen : l.length = pre.length + (rest.length + 1) := by rw [e]; simp
      refine laws_b10Nums.w0 (W.dt (by omega) (W.t (by omega) (W.t (by omega) (W.t (by omega) (W.t (by omega) (W.nde rfl ?_))))))
      rw [w64 (by omega) (by omega)]
      have := ih (pre ++ [c]) (by rw [e]; simp)
      simpa using this
  exact laws_b10Nums.w (W.nde rfl (key l [] rfl))
theorem itoa_ne45 (v : Int) : Lib.itoa v ≠ [45] := by
  unfold Lib.itoa
  split
  · intro h
    exact dec_ne v.natAbs (List.cons.inj h).2
  · obtain ⟨c, r, e, h0, h1⟩ := dec_head v.toNat
    rw [e]
    intro h
    have := (List.cons.inj h).1
    rw [this] at h0
    exact absurd h0 (by decide)
def smL (l : List Int) : Prop := (0 < l.length ∧ l.length ≤ 12) ∧ ∀ v ∈ l, -10 ≤ v ∧ v ≤ 20
theorem b10List_w {c : List Int} (h : ∀ b ∈ c, 0 ≤ b ∧ b ≤ 255) : W (fun k _ => spec_B10List.f k c) smL := by
  have key : ∀ (n : Nat) (o : List Int) (c : List Int) (a s m : Int), n ≤ 9 → o.length + n ≤ 12 → 0 < o.length → (∀ v ∈ o, -10 ≤ v ∧ v ≤ 20) → Sr c a m → m + 2 * n ≤ 1000 → W (fun k m' => (spec_B10List.cs k m') o (n : Int) c a s) smL := by
    intro n
    induction n with
    | zero =>
      intro o c a s m hn ho h0 hv hs hm
      exact spec_B10List.w0 (W.de (by decide) (W.ret ⟨⟨h0, by omega⟩, hv⟩))
    | succ n ih =>
      intro o c a s m hn ho h0 hv hs hm
      refine spec_B10List.w0 (W.dt (by omega) (W.bind (pick_w hs (by omega)) fun t ht => W.t (show o.length + 1 < 1099511627776 by omega) ?_))
      have h1 := ht.1
      rw [w64 (i := t.1 - 10) (by omega) (by omega), w64 (i := ((n + 1 : Nat) : Int) - 1) (by omega) (by omega), show ((n + 1 : Nat) : Int) - 1 = (n : Int) by omega]
      exact ih (o ++ [t.1 - 10]) t.2.1 t.2.2.1 t.2.2.2 (m + 2) (by omega) (by simp; omega) (by simp) (fun v hv' => by
        rcases List.mem_append.1 hv' with hv' | hv'
        · exact hv v hv'
        · simp only [List.mem_singleton] at hv'; omega) ht.2 (by omega)
  refine spec_B10List.w (W.bind (from_w h) fun t1 g1 => W.bind (pick_w g1 (by omega)) fun t2 g2 => W.bind (pick_w g2.2 (by omega)) fun t3 g3 => ?_)
  have h2 := g2.1
  have h3 := g3.1
  obtain ⟨n, hn⟩ := Int.eq_ofNat_of_zero_le h3.1
  rw [hn, w64 (i := t2.1 - 10) (by omega) (by omega)]
  exact key n [t2.1 - 10] t3.2.1 t3.2.2.1 t3.2.2.2 4 (by omega) (by simp; omega) (by simp) (fun v hv => by simp only [List.mem_singleton] at hv; omega) (g3.2.le (by omega)) (by omega)
theorem FnLists : PureFnLists := by
  intro e0 e1 w0 w1
  have hb0 : ∀ b ∈ e0, 0 ≤ b ∧ b ≤ 255 := fun b hb => wfu (w0.2 b hb)
  have hb1 : ∀ b ∈ e1, 0 ≤ b ∧ b ≤ 255 := fun b hb => wfu (w1.2 b hb)
  refine W.yes (laws_FnLists.w (W.bindE (b10Long_w e0 e1) (W.bi (fun _ => W.ret rfl) (fun hl => ?_))))
  refine W.bind (b10List_w hb0) fun l hs => ?_
  obtain ⟨⟨h0, h12⟩, hv⟩ := hs
  have hi : ∀ x ∈ l, -9223372036854775808 ≤ x ∧ x ≤ 9223372036854775807 := fun x hx => by have := hv x hx; omega
  have hall : l.all (inR (-1000000000) 1000000000) = true := by
    rw [List.all_eq_true]
    intro x hx
    have := hv x hx
    rw [inR_iff]; omega
  generalize ht : Lib.join (l.map Lib.itoa) [44] = t
  have htl : t.length ≤ 300 ∧ 0 < t.length ∧ pcs 44 t = l.map Lib.itoa := by
    cases l with
    | nil => simp at h0
    | cons x r =>
      have h1 := lens_itoa (x :: r) hi
      have h2 : 0 < (Lib.itoa x).length := by
        have := itoa_ne x
        cases hx : Lib.itoa x with
        | nil => exact (this hx).elim
        | cons a b => simp
      have hlen : t.length = Lib.lens ((x :: r).map Lib.itoa) + [(44 : UInt8)].length * r.length := by
        rw [← ht, List.map_cons, Lib.join_length, List.length_map, Nat.add_comm]
      have h3 : (Lib.itoa x).length ≤ Lib.lens ((x :: r).map Lib.itoa) := by simp only [List.map_cons, Lib.lens, List.map, List.sum_cons]; omega
      simp only [List.length_cons, List.length_nil] at hlen h12 h1
      refine ⟨by omega, by omega, ?_⟩
      rw [← ht, List.map_cons, pcs_join 44 _ _ fun y hy => ?_]
      rw [← List.map_cons] at hy
      obtain ⟨v, _, rfl⟩ := List.mem_map.1 hy
      exact itoa_no v 44 (by decide)
  obtain ⟨ht1, ht2, ht3⟩ := htl
  have ht45 : t ≠ [45] := by
    intro h
    rw [h, pcs_free (by decide)] at ht3
    cases l with
    | nil => simp at h0
    | cons x r => exact itoa_ne45 x (List.cons.inj ht3).1.symm
  refine W.bindE (t := (bs t, true)) ?_ ?_
  · refine impl_ListText.w (W.bindE (t := true) ?_ (W.ne rfl (W.de (by omega) ?_)))
    · refine impl_isList.w (W.dt (by omega) (W.bindE (areWithin_w l _ _ (by omega)) (W.ret hall)))
    · rw [show ByteArray.mk #[44] = bs [44] from rfl]
      refine W.bindE (decimals_w l [44] hi (by omega) (by simp)) (W.ret ?_)
      rw [ht]
  refine W.bindE (t := (l, true)) ?_ ?_
  · refine impl_ReadList.w ?_
    rw [show ByteArray.mk #[45] = bs [45] from rfl, show ByteArray.mk #[44] = bs [44] from rfl, eq_bs]
    refine W.de ht45 (W.bindE (readAll_w t 44 (-1000000000) 1000000000 (by decide) (by omega)) ?_)
    rw [allB_yes (vs := l) ht3 (fun v hv' => by have := hv v hv'; exact ⟨by omega, by omega⟩)]
    exact W.ne rfl (W.de (by simp only; omega) (W.ret rfl))
  rw [len_bs, w64 (i := (t.length : Int) + 1) (by omega) (by omega)]
  refine W.bind (b10At_w hb1 0 256 (by omega) (by omega)) fun (p1 : Int) q1 => W.bind (b10At_w hb1 1 _ (by omega) (by omega)) fun (p2 : Int) q2 => ?_
  obtain ⟨n, hn⟩ := Int.eq_ofNat_of_zero_le q2.1
  have hp1 : 0 ≤ p1 ∧ p1 ≤ 99990 := by omega
  have c1 : sCut (bs t) 0 p2 = bs (t.take n) := by
    have := cut_bs t 0 n
    rw [hn]; simpa using this
  have c2 : sCut (bs t) p2 (t.length : Int) = bs (t.drop n) := by
    rw [hn, cut_bs, List.take_length]
  have hnl : n ≤ t.length := by omega
  rw [c1, c2]
  refine W.bindE (checkOf_w t (by omega) p1 hp1) (W.t (by decide) (W.t (by omega) (W.t (by omega) ?_)))
  refine W.bindE (checkOf_w (t.take n) (by simp; omega) p1 hp1) (W.t (by omega) (W.t (by omega) (W.t (by omega) ?_)))
  refine W.bindE (checkOf_w (t.drop n) (by simp; omega) (ck p1 (t.take n)) (ck_in _ _ hp1)) ?_
  have hck : ck p1 t = ck (ck p1 (t.take n)) (t.drop n) := by rw [← ck_app, List.take_append_drop]
  have hr0 : ∃ x, rd 0 l 0 = x ∧ x ∈ l := by
    cases l with
    | nil => simp at h0
    | cons x r => exact ⟨x, rfl, by simp⟩
  obtain ⟨x, hx, hxm⟩ := hr0
  rw [hx]
  have hxv := hv x hxm
  refine W.t (by decide) (W.t (by omega) (W.bindN (fun k => fmt_eq k x (by omega) (by omega)) ?_))
  refine W.bindE (t := (x, true)) ?_ ?_
  · have hxl := itoa_len x (by omega) (by omega)
    unfold impl_ReadDecimal.f
    refine W.bindN (fun k => readIn_eq (Lib.itoa x) _ _ (by omega) (by decide)) (W.ret ?_)
    rw [rdB ⟨by omega, by omega⟩]
  refine W.t rfl (W.t rfl (W.t rfl (W.t rfl (W.t rfl (W.t rfl (W.bindE (nums_refl l (by omega)) (W.t rfl (W.dt hck (W.t (by decide) (W.t (by omega) (W.dt rfl (W.ret ?_))))))))))))
  simp; omega
end Go.Proofs.YtdcpjbheedofdaaDoor.Pure

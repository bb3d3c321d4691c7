/- impl.ReadAxis. -/
import Derived.Test.YtgknckbplbldbaaDoorXFnExactReadAxisRaS
import Derived.Test.YtgknckbplbldbaaDoorXFnExactReadAxisRdA
import Derived.Test.YtgknckbplbldbaaDoorXFnExactReadAxisAxM0
namespace Go.Proofs.YtgknckbplbldbaaDoor.R
open Go.Rv Go.Rv.Tx Go.Rv.Ax
set_option linter.unusedVariables false
set_option linter.unusedSimpArgs false
theorem pcs_back (c : UInt8) : ∀ l : List UInt8, (pcs c l).headD [] ++ (pcs c l).tail.flatMap (fun y => c :: y) = l
  | [] => rfl
  | b :: l => by
    have ih := pcs_back c l
    obtain ⟨h, t, e⟩ : ∃ h t, pcs c l = h :: t := by
      cases hp : pcs c l with
      | nil => exact (pcs_ne c l hp).elim
      | cons h t => exact ⟨h, t, rfl⟩
    simp only [pcs]
    rw [e] at ih ⊢
    simp only [List.headD_cons, List.tail_cons] at ih
    split
    · rename_i hb
      simp only [List.headD_cons, List.tail_cons, List.flatMap_cons, List.nil_append, List.cons_append, ih, hb]
    · simp only [List.headD_cons, List.tail_cons, List.cons_append, ih]
abbrev big : Int := 1000000000
def inB (v : Int) : Prop := -1000000000 ≤ v ∧ v ≤ 1000000000
def bodyT (c : Cu) : List UInt8 := Lib.itoa c.1 ++ ([58] ++ (Lib.itoa c.2.1 ++ ([44] ++ Lib.itoa c.2.2)))
theorem cuT_body (c : Cu) : cuT c = 59 :: bodyT c := rfl
theorem no44 (v : Int) : (44 : UInt8) ∉ Lib.itoa v := itoa_no v 44 (by decide)
theorem no58 (v : Int) : (58 : UInt8) ∉ Lib.itoa v := itoa_no v 58 (by decide)
theorem no59 (v : Int) : (59 : UInt8) ∉ Lib.itoa v := itoa_no v 59 (by decide)
theorem body59 (c : Cu) : (59 : UInt8) ∉ bodyT c := by
  simp only [bodyT, List.mem_append, List.mem_singleton, not_or]
  exact ⟨no59 _, by decide, no59 _, by decide, no59 _⟩
theorem po59 (p : Po) : (59 : UInt8) ∉ poT p := by
  simp only [poT, List.mem_append, List.mem_singleton, not_or]
  exact ⟨no59 _, by decide, no59 _, by decide, no59 _, by decide, no59 _⟩
theorem pcs_cus : ∀ (cs : List Cu) (p : List UInt8), (59 : UInt8) ∉ p → pcs 59 (p ++ cusT cs) = p :: cs.map bodyT
  | [], p, h => by simp [cusT, pcs_free h]
  | c :: cs, p, h => by
    have e : p ++ cusT (c :: cs) = p ++ 59 :: (bodyT c ++ cusT cs) := by simp [cusT, cuT_body]
    rw [e, pcs_cut _ h, pcs_cus cs _ (body59 c)]
    rfl
theorem pcs_aText (p : Po) (cs : List Cu) : pcs 59 (aText p cs) = poT p :: cs.map bodyT := pcs_cus cs _ (po59 p)
theorem pcs_two (a b : Int) : pcs 44 (Lib.itoa a ++ ([44] ++ Lib.itoa b)) = [Lib.itoa a, Lib.itoa b] := by
  have e : Lib.itoa a ++ ([44] ++ Lib.itoa b) = Lib.itoa a ++ 44 :: Lib.itoa b := rfl
  rw [e, pcs_cut _ (no44 a), pcs_free (no44 b)]
theorem pcs_po (p : Po) : pcs 44 (poT p) = [Lib.itoa p.1, Lib.itoa p.2.1, Lib.itoa p.2.2.1, Lib.itoa p.2.2.2] := by
  have e : poT p = Lib.itoa p.1 ++ 44 :: (Lib.itoa p.2.1 ++ 44 :: (Lib.itoa p.2.2.1 ++ 44 :: Lib.itoa p.2.2.2)) := rfl
  rw [e, pcs_cut _ (no44 _), pcs_cut _ (no44 _), pcs_cut _ (no44 _), pcs_free (no44 _)]
theorem rdB {v : Int} (h : inB v) : rdIn (-1000000000) 1000000000 (Lib.itoa v) = (v, true) := rdIn_yes (by decide) ⟨rfl, h.1, h.2⟩
theorem rdB_inv {p : List UInt8} (h : (rdIn (-1000000000) 1000000000 p).2 = true) : p = Lib.itoa (rdIn (-1000000000) 1000000000 p).1 ∧ inB (rdIn (-1000000000) 1000000000 p).1 := by
  rcases rdIn_cases (-1000000000) 1000000000 p (by decide) with ⟨v, hv, e⟩ | ⟨_, e⟩
  · rw [e]; exact ⟨hv.1, hv.2⟩
  · rw [e] at h; cases h
/-- the numbers between commas, told -/
theorem allB_yes {ps : List (List UInt8)} {vs : List Int} (e : ps = vs.map Lib.itoa) (h : ∀ v ∈ vs, inB v) : allIn (-1000000000) 1000000000 ps = (vs, true) := by
  subst e
  unfold allIn
  rw [if_pos]
  · unfold vals
    rw [List.map_map]
    refine Prod.ext ?_ rfl
    show vs.map _ = vs
    conv => rhs; rw [← List.map_id vs]
    refine List.map_congr_left fun v hv => ?_
    simp [rdB (h v hv)]
  · intro p hp
    obtain ⟨v, hv, rfl⟩ := List.mem_map.1 hp
    rw [rdB (h v hv)]
theorem allB_inv {ps : List (List UInt8)} (h : (allIn (-1000000000) 1000000000 ps).2 = true) : ps = (allIn (-1000000000) 1000000000 ps).1.map Lib.itoa ∧ ∀ v ∈ (allIn (-1000000000) 1000000000 ps).1, inB v := by
  unfold allIn at h ⊢
  split at h
  · rename_i ho
    rw [if_pos ho]
    unfold vals
    refine ⟨?_, fun v hv => ?_⟩
    · rw [List.map_map]
      conv => lhs; rw [← List.map_id ps]
      exact List.map_congr_left fun p hp => (rdB_inv (ho p hp)).1
    · obtain ⟨p, hp, rfl⟩ := List.mem_map.1 hv
      exact (rdB_inv (ho p hp)).2
  · cases h
def cuB (c : Cu) : Prop := inB c.1 ∧ inB c.2.1 ∧ inB c.2.2
def poB (p : Po) : Prop := inB p.1 ∧ inB p.2.1 ∧ inB p.2.2.1 ∧ inB p.2.2.2
theorem readPose_yes (p : Po) (hp : poB p) (hl : (poT p).length ≤ 1048576) : W (fun k _ => impl_readPose.f k (bs (poT p))) (· = (p.1, p.2.1, p.2.2.1, p.2.2.2, true)) := by
  refine impl_readPose.w ?_
  rw [show ByteArray.mk #[44] = bs [44] from rfl]
  refine W.bindE (readAll_w _ 44 (-1000000000) 1000000000 (by decide) hl) ?_
  rw [allB_yes (vs := [p.1, p.2.1, p.2.2.1, p.2.2.2]) (pcs_po p) (by
    intro v hv
    simp only [List.mem_cons, List.not_mem_nil, or_false] at hv
    rcases hv with rfl | rfl | rfl | rfl
    · exact hp.1
    · exact hp.2.1
    · exact hp.2.2.1
    · exact hp.2.2.2)]
  refine W.ne rfl (W.nde rfl (impl_readPose.w0 ?_))
  exact (W.t (by decide) (W.t (by simp) (W.t (by decide) (W.t (by simp) (W.t (by decide) (W.t (by simp) (W.t (by decide) (W.t (by simp) (W.ret rfl)))))))))
theorem readPose_any (l : List UInt8) (hl : l.length ≤ 1048576) : W (fun k _ => impl_readPose.f k (bs l)) (fun v => v.2.2.2.2 = false ∨ (∃ p, poB p ∧ l = poT p ∧ v = (p.1, p.2.1, p.2.2.1, p.2.2.2, true))) := by
  refine impl_readPose.w ?_
  rw [show ByteArray.mk #[44] = bs [44] from rfl]
  refine W.bindE (readAll_w _ 44 (-1000000000) 1000000000 (by decide) hl) ?_
  refine W.ni (fun h => W.ret (.inl rfl)) (fun h => W.ndi (fun h4 => W.ret (.inl rfl)) (fun h4 => ?_))
  have hi := allB_inv h
  have hb := pcs_back 44 l
  generalize (allIn (-1000000000) 1000000000 (pcs 44 l)).1 = zs at *
  match zs, h4 with
  | [a, b, c, d], _ =>
    refine impl_readPose.w0 (W.t (by decide) (W.t (by simp) (W.t (by decide) (W.t (by simp) (W.t (by decide) (W.t (by simp) (W.t (by decide) (W.t (by simp) (W.ret (.inr ⟨(a, b, c, d), ⟨hi.2 a (by simp), hi.2 b (by simp), hi.2 c (by simp), hi.2 d (by simp)⟩, ?_, rfl⟩))))))))))
    rw [hi.1] at hb
    rw [← hb]
    simp [poT]
  | [], h => simp at h
  | [a], h => simp at h
  | [a, b], h => simp at h
  | [a, b, c], h => simp at h
  | a :: b :: c :: d :: e :: r, h => simp at h; try omega
theorem cut_hit {c : UInt8} {p : List UInt8} (r : List UInt8) (h : c ∉ p) : Lib.cut (p ++ c :: r) [c] = (p, r, true) := by
  unfold Lib.cut
  rw [index_at r h, if_pos (by omega)]
  simp
theorem cut_miss {c : UInt8} {l : List UInt8} (h : c ∉ l) : Lib.cut l [c] = (l, [], false) := by
  unfold Lib.cut
  rw [index_free h, if_neg (by omega)]
theorem Cut_eq (k : Nat) (l : List UInt8) (c : UInt8) (hl : l.length ≤ 1048576) : strings_Cut.f k (bs l) (bs [c]) = some (bs (Lib.cut l [c]).1, bs (Lib.cut l [c]).2.1, (Lib.cut l [c]).2.2) := by
  unfold strings_Cut.f T.cutF T.cutV
  rw [bs_size, if_pos (by omega)]
  rfl
theorem readDec_eq (l : List UInt8) (hl : l.length ≤ 1048576) : W (fun k _ => impl_ReadDecimal.f k (bs l)) (· = rdIn (-1000000000) 1000000000 l) := by
  unfold impl_ReadDecimal.f
  exact W.bindN (fun k => readIn_eq l _ _ (by omega) (by decide)) (W.ret rfl)
theorem bodyT_inj {c c' : Cu} (h : cuI c) (h' : cuI c') (e : bodyT c = bodyT c') : c = c' := by
  have h1 := cut_hit (Lib.itoa c.2.1 ++ ([44] ++ Lib.itoa c.2.2)) (no58 c.1)
  have h2 := cut_hit (Lib.itoa c'.2.1 ++ ([44] ++ Lib.itoa c'.2.2)) (no58 c'.1)
  have e1 : bodyT c = Lib.itoa c.1 ++ 58 :: (Lib.itoa c.2.1 ++ ([44] ++ Lib.itoa c.2.2)) := rfl
  have e2 : bodyT c' = Lib.itoa c'.1 ++ 58 :: (Lib.itoa c'.2.1 ++ ([44] ++ Lib.itoa c'.2.2)) := rfl
  rw [← e1, e, e2, h2] at h1
  simp only [Prod.mk.injEq, and_true] at h1
  have h3 := pcs_two c.2.1 c.2.2
  rw [← h1.2, pcs_two] at h3
  simp only [List.cons.injEq, and_true] at h3
  exact Prod.ext (itoa_inj h.1 h'.1 h1.1.symm) (Prod.ext (itoa_inj h.2.1 h'.2.1 h3.1.symm) (itoa_inj h.2.2 h'.2.2 h3.2.symm))
theorem poT_inj {p p' : Po} (hi : poI p) (hi' : poI p') (he : poT p = poT p') : p = p' := by
  have := pcs_po p
  rw [he, pcs_po] at this
  simp only [List.cons.injEq, and_true] at this
  exact Prod.ext (itoa_inj hi.1 hi'.1 this.1.symm) (Prod.ext (itoa_inj hi.2.1 hi'.2.1 this.2.1.symm) (Prod.ext (itoa_inj hi.2.2.1 hi'.2.2.1 this.2.2.1.symm) (itoa_inj hi.2.2.2 hi'.2.2.2 this.2.2.2.symm)))
theorem bodies_inj : ∀ {l l' : List Cu}, (∀ c ∈ l, cuI c) → (∀ c ∈ l', cuI c) → l.map bodyT = l'.map bodyT → l = l'
  | [], [], _, _, _ => rfl
  | [], _ :: _, _, _, h => by cases h
  | _ :: _, [], _, _, h => by cases h
  | c :: l, c' :: l', h, h', e => by
    simp only [List.map_cons, List.cons.injEq] at e
    rw [bodyT_inj (h c (by simp)) (h' c' (by simp)) e.1, bodies_inj (fun x hx => h x (by simp [hx])) (fun x hx => h' x (by simp [hx])) e.2]
theorem inB_i {v : Int} (h : inB v) : i64 v := ⟨by have := h.1; omega, by have := h.2; omega⟩
theorem aText_inj {p p' : Po} {l l' : List Cu} (h : poI p) (h' : poI p') (hl : ∀ c ∈ l, cuI c) (hl' : ∀ c ∈ l', cuI c) (e : aText p l = aText p' l') : p = p' ∧ l = l' := by
  have h1 := pcs_aText p l
  rw [e, pcs_aText] at h1
  simp only [List.cons.injEq] at h1
  exact ⟨poT_inj h h' h1.1.symm, bodies_inj hl hl' h1.2.symm⟩
theorem implLoop_w (l : List UInt8) (hl : l.length ≤ 1048576) (p : Po) (ok : Bool) (p0 : List UInt8) (qs : List (List UInt8)) (hq : pcs 59 l = p0 :: qs) (hp : ok = true → p0 = poT p ∧ poB p) (hn : ok = false → ∀ p cs, Ax.Ok p cs → l ≠ aText p cs) (z1 z2 z3 z4 : Int) : ∀ (rest pre : List (List UInt8)) (acc : List Cu), qs = pre ++ rest → pre = acc.map bodyT → (∀ c ∈ acc, cuB c) →
    W (fun k m => (impl_ReadAxis.cs k m) z1 z2 z3 z4 ok p.1 p.2.1 p.2.2.1 p.2.2.2 acc (qs.map bs) (qs.length : Int) (pre.length : Int)) (fun v => (∃ p cs, Ax.Ok p cs ∧ l = aText p cs ∧ v = yesA p cs) ∨ ((∀ p cs, Ax.Ok p cs → l ≠ aText p cs) ∧ v = noA)) := by
  have hll : qs.length ≤ l.length := by
    have := pcs_len 59 l
    rw [hq] at this
    simp at this
    exact this
  have hback := pcs_back 59 l
  rw [hq] at hback
  simp only [List.headD_cons, List.tail_cons] at hback
  intro rest
  induction rest with
  | nil =>
    intro pre acc e ea eb
    refine impl_ReadAxis.w0 (W.de (by rw [e]; simp) ?_)
    refine W.ni (fun h => W.ret (.inr ⟨hn h, rfl⟩)) (fun h => W.bindE (validAxis_w p acc) ?_)
    have hl' : l = aText p acc := by
      rw [← hback, e, (hp h).1, ea, List.append_nil, List.flatMap_map]
      rfl
    refine W.ndi (fun hv => W.ret (.inr ⟨fun p' cs' ho hc => ?_, rfl⟩)) (fun hv => W.ret (.inl ⟨p, acc, hv, hl', rfl⟩))
    have hi := ok_i ho
    have hpb := (hp h).2
    have hj := aText_inj (p := p) (l := acc) ⟨inB_i hpb.1, inB_i hpb.2.1, inB_i hpb.2.2.1, inB_i hpb.2.2.2⟩ hi.1 (fun c hcc => ⟨inB_i (eb c hcc).1, inB_i (eb c hcc).2.1, inB_i (eb c hcc).2.2⟩) hi.2 (hl'.symm.trans hc)
    exact hv (by rw [hj.1, hj.2]; exact ho)
  | cons q rest ih =>
    intro pre acc e ea eb
    have hlen : qs.length = pre.length + (rest.length + 1) := by rw [e]; simp
    have hx : rd ByteArray.empty (qs.map bs) (pre.length : Int) = bs q := by
      rw [e, List.map_append, List.map_cons]
      have := rd_mid (d := ByteArray.empty) (pre.map bs) (bs q) (rest.map bs)
      rw [List.length_map] at this
      exact this
    have hql : q.length ≤ l.length := pcs_mem_len 59 l q (by rw [hq, e]; simp)
    have hal : acc.length = pre.length := by rw [ea]; simp
    have bad : (∀ c, cuB c → q ≠ bodyT c) → ∀ p cs, Ax.Ok p cs → l ≠ aText p cs := by
      intro hb p' cs' ho hc
      have h1 := pcs_aText p' cs'
      rw [← hc, hq] at h1
      simp only [List.cons.injEq] at h1
      have h2 : q ∈ cs'.map bodyT := by rw [← h1.2, e]; simp
      obtain ⟨c, hc, rfl⟩ := List.mem_map.1 h2
      have hs := (sm_ok ho).2 c hc
      exact hb c ⟨⟨by have := hs.1.1; omega, by have := hs.1.2; omega⟩, ⟨by have := hs.2.1.1; omega, by have := hs.2.1.2; omega⟩, by have := hs.2.2.1; omega, by have := hs.2.2.2; omega⟩ rfl
    refine impl_ReadAxis.w0 (W.dt (by omega) (W.t (by omega) (W.t (by rw [List.length_map]; omega) ?_)))
    rw [hx, show ByteArray.mk #[58] = bs [58] from rfl, show ByteArray.mk #[44] = bs [44] from rfl]
    refine W.bindN (fun k => Cut_eq k q 58 (by omega)) ?_
    by_cases h58 : (58 : UInt8) ∈ q
    case neg =>
      rw [cut_miss h58]
      refine W.bindE (readDec_eq q (by omega)) (W.bindE (readAll_w [] 44 (-1000000000) 1000000000 (by decide) (by simp)) (W.nt rfl (W.ret (.inr ⟨bad fun c _ hc => h58 ?_, rfl⟩))))
      rw [hc]; simp [bodyT]
    obtain ⟨a, r, rfl, ha⟩ := mem_split h58
    rw [cut_hit r ha]
    have har : a.length + (r.length + 1) ≤ 1048576 := by simp at hql; omega
    refine W.bindE (readDec_eq a (by omega)) (W.bindE (readAll_w r 44 (-1000000000) 1000000000 (by decide) (by omega)) (W.ne rfl ?_))
    have same : ∀ c, a ++ 58 :: r = bodyT c → a = Lib.itoa c.1 ∧ r = Lib.itoa c.2.1 ++ ([44] ++ Lib.itoa c.2.2) := fun c hc => by
      have h1 := cut_hit r ha
      have h2 := cut_hit (Lib.itoa c.2.1 ++ ([44] ++ Lib.itoa c.2.2)) (no58 c.1)
      have h3 : bodyT c = Lib.itoa c.1 ++ 58 :: (Lib.itoa c.2.1 ++ ([44] ++ Lib.itoa c.2.2)) := rfl
      rw [← h3, ← hc, h1] at h2
      simp only [Prod.mk.injEq, and_true] at h2
      exact h2
    have yes2 : ∀ c, cuB c → a ++ 58 :: r = bodyT c → (rdIn (-1000000000) 1000000000 a).2 = true ∧ allIn (-1000000000) 1000000000 (pcs 44 r) = ([c.2.1, c.2.2], true) := fun c hc he => by
      obtain ⟨h1, h2⟩ := same c he
      refine ⟨by rw [h1, rdB hc.1], ?_⟩
      rw [h2, pcs_two]
      exact allB_yes (vs := [c.2.1, c.2.2]) rfl fun v hv => by
        simp only [List.mem_cons, List.not_mem_nil, or_false] at hv
        rcases hv with rfl | rfl
        · exact hc.2.1
        · exact hc.2.2
    refine W.ni (fun h => W.ret (.inr ⟨bad fun c hc he => (by rw [(yes2 c hc he).1] at h; cases h), rfl⟩)) (fun h1 => ?_)
    refine W.ni (fun h => W.ret (.inr ⟨bad fun c hc he => (by rw [(yes2 c hc he).2] at h; cases h), rfl⟩)) (fun h2 => ?_)
    refine W.ndi (fun h => W.ret (.inr ⟨bad fun c hc he => (by rw [(yes2 c hc he).2] at h; exact h rfl), rfl⟩)) (fun h3 => ?_)
    have hi := allB_inv h2
    have hb := pcs_back 44 r
    have hv := rdB_inv h1
    generalize (rdIn (-1000000000) 1000000000 a).1 = v at *
    generalize (allIn (-1000000000) 1000000000 (pcs 44 r)).1 = zs at *
    match zs, h3 with
    | [x, y], _ =>
      refine W.t (by decide) (W.t (by simp) (W.t (by decide) (W.t (by simp) (W.t (show acc.length + 1 < 366503875925 by omega) ?_))))
      rw [hi.1] at hb
      have hr : r = Lib.itoa x ++ ([44] ++ Lib.itoa y) := by rw [← hb]; simp
      have hbody : a ++ 58 :: r = bodyT (v, x, y) := by rw [hr, hv.1]; rfl
      rw [w64 (by omega) (by omega)]
      have := ih (pre ++ [a ++ 58 :: r]) (acc ++ [(v, x, y)]) (by rw [e]; simp) (by rw [ea, hbody]; simp) (fun c hc => by
        rcases List.mem_append.1 hc with hc | hc
        · exact eb c hc
        · simp only [List.mem_singleton] at hc; rw [hc]; exact ⟨hv.2, hi.2 x (by simp), hi.2 y (by simp)⟩)
      simpa [rd] using this
    | [], h => simp at h
    | [a], h => simp at h
    | a :: b :: c :: r, h => simp at h; try omega
theorem implRead_w' (l : List UInt8) (hl : l.length ≤ 1048576) : W (fun k _ => impl_ReadAxis.f k (bs l)) (fun v => (∃ p cs, Ax.Ok p cs ∧ l = aText p cs ∧ v = yesA p cs) ∨ ((∀ p cs, Ax.Ok p cs → l ≠ aText p cs) ∧ v = noA)) := by
  refine impl_ReadAxis.w (W.bindN (t := (pcs 59 l).map bs) (fun k => ?_) ?_)
  · rw [show ByteArray.mk #[59] = bs [59] from rfl]
    unfold strings_Split.f T.splitF T.splitS
    rw [bs_size, bs_size, if_pos (by omega), if_pos (by simp), split_bs]
  obtain ⟨p0, qs, e⟩ : ∃ h t, pcs 59 l = h :: t := by
    cases hp : pcs 59 l with
    | nil => exact (pcs_ne 59 l hp).elim
    | cons h t => exact ⟨h, t, rfl⟩
  have hpl : p0.length ≤ l.length := pcs_mem_len 59 l p0 (by rw [e]; simp)
  have hx : rd ByteArray.empty ((pcs 59 l).map bs) 0 = bs p0 := by rw [e]; rfl
  refine W.t (by decide) (W.t (by rw [e]; simp) ?_)
  rw [hx]
  have fin : ∀ (p : Po) (ok : Bool), (ok = true → p0 = poT p ∧ poB p) → (ok = false → ∀ p cs, Ax.Ok p cs → l ≠ aText p cs) → W (fun k m => if 0 ≤ 1 then if 1 ≤ ((((pcs 59 l).map bs).length : Nat) : Int) then (impl_ReadAxis.cs k m) 0 0 0 0 ok p.1 p.2.1 p.2.2.1 p.2.2.2 [] (((pcs 59 l).map bs).drop (1 : Int).toNat) ((((pcs 59 l).map bs).drop (1 : Int).toNat).length : Int) 0 else none else none) (fun v => (∃ p cs, Ax.Ok p cs ∧ l = aText p cs ∧ v = yesA p cs) ∨ ((∀ p cs, Ax.Ok p cs → l ≠ aText p cs) ∧ v = noA)) := by
    intro p ok h1 h2
    refine W.t (by decide) (W.t (by rw [e]; simp; omega) ?_)
    have ed : ((pcs 59 l).map bs).drop (1 : Int).toNat = qs.map bs := by rw [e]; rfl
    rw [ed, List.length_map]
    exact implLoop_w l hl p ok p0 qs e h1 h2 0 0 0 0 qs [] [] rfl rfl (fun c hc => by cases hc)
  by_cases hp : ∃ p, poB p ∧ p0 = poT p
  · obtain ⟨p, hb, rfl⟩ := hp
    refine W.bindE (readPose_yes p hb (by omega)) ?_
    exact fin p true (fun _ => ⟨rfl, hb⟩) (fun h => by cases h)
  · refine W.bind (readPose_any p0 (by omega)) fun v hv => ?_
    rcases hv with hv | ⟨p, hb, h, _⟩
    · obtain ⟨a, b, c, d, f⟩ := v
      have hv : f = false := hv
      subst hv
      refine fin (a, b, c, d) false (fun h => by cases h) (fun _ p cs ho hc => hp ⟨p, ?_, ?_⟩)
      · have hs := (sm_ok ho).1
        exact ⟨⟨by have := hs.1.1; omega, by have := hs.1.2; omega⟩, ⟨by have := hs.2.1.1; omega, by have := hs.2.1.2; omega⟩, ⟨by have := hs.2.2.1.1; omega, by have := hs.2.2.1.2; omega⟩, by have := hs.2.2.2.1; omega, by have := hs.2.2.2.2; omega⟩
      · have h1 := pcs_aText p cs
        rw [← hc, e] at h1
        exact (List.cons.inj h1).1
    · exact (hp ⟨p, hb, h⟩).elim
end Go.Proofs.YtgknckbplbldbaaDoor.R

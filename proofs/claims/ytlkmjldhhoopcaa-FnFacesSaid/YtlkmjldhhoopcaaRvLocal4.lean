/- Where an operation looks, and where it writes: all of them. -/
import Derived.Test.YtlkmjldhhoopcaaRvLocal3
namespace Go.Rv
set_option linter.unusedSimpArgs false
set_option linter.unusedVariables false
section
variable {X : Env} {E : FuncId → Option Fn} {fr fr' fr1 : Fr} {o : Oper}
theorem refs_whole : ∀ {cs : List CV} {l : Loc}, l ∈ refs cs → ∃ s, l = .whole s
  | x :: cs, l, h => by
    cases x <;> simp only [refs] at h
    case ref s c t xs =>
      rcases List.mem_cons.1 h with rfl | h
      · exact ⟨s, rfl⟩
      · exact refs_whole h
    all_goals exact refs_whole h
theorem refs_mem : ∀ {cs : List CV} {s c : Nat} {t : Ty} {xs : List (Den t)}, CV.ref s c t xs ∈ cs → Loc.whole s ∈ refs cs
  | x :: cs, s, c, t, xs, h => by
    rcases List.mem_cons.1 h with rfl | h
    · exact List.mem_cons_self
    · have := refs_mem h
      cases x <;> simp only [refs] <;> first | exact this | exact List.mem_cons_of_mem _ this
theorem slots_whole : ∀ {xs : List Operand} {l : Loc}, l ∈ slotsOf fr xs → ∃ s, l = .whole s
  | x :: xs, l, h => by
    cases x with
    | tmp t =>
      simp only [slotsOf] at h
      rcases List.mem_cons.1 h with rfl | h
      · exact ⟨t, rfl⟩
      · rcases List.mem_append.1 h with h | h
        · split at h
          · exact refs_whole h
          · cases h
        · exact slots_whole h
    | _ => exact slots_whole (xs := xs) h
theorem slots_inn {xs : List Operand} (s c : Nat) : Inn s c (slotsOf fr xs) ↔ Loc.whole s ∈ slotsOf fr xs := by
  constructor
  · rintro ⟨l, h1, h2⟩
    obtain ⟨t, rfl⟩ := slots_whole h1
    simp only [pin] at h2
    subst h2
    exact h1
  · intro h; exact ⟨_, h, rfl⟩
theorem slots_mem : ∀ {xs : List Operand} {t : Nat}, Operand.tmp t ∈ xs → Loc.whole t ∈ slotsOf fr xs ∧ Refs (fun s => Loc.whole s ∈ slotsOf fr xs) (fr t)
  | x :: xs, t, h => by
    rcases List.mem_cons.1 h with rfl | h
    · refine ⟨List.mem_cons_self, fun gg cs e s c u ys hm => ?_⟩
      simp only [slotsOf, e]
      exact List.mem_cons_of_mem _ (List.mem_append_left _ (refs_mem hm))
    · obtain ⟨h1, h2⟩ := slots_mem (xs := xs) h
      have hsub : ∀ l, l ∈ slotsOf fr xs → l ∈ slotsOf fr (x :: xs) := by
        intro l hl
        cases x <;> simp only [slotsOf] <;> first | exact hl | exact List.mem_cons_of_mem _ (List.mem_append_right _ hl)
      exact ⟨hsub _ h1, fun gg cs e s c u ys hm => hsub _ (h2 gg cs e s c u ys hm)⟩
theorem slots_eq : ∀ (xs : List Operand), (∀ t, Operand.tmp t ∈ xs → fr t = fr' t) → slotsOf fr' xs = slotsOf fr xs
  | [], _ => rfl
  | x :: xs, h => by
    have ih := slots_eq xs fun t ht => h t (List.mem_cons_of_mem _ ht)
    cases x with
    | tmp t => simp only [slotsOf, ih, h t (by simp)]
    | _ => simp only [slotsOf, ih]
theorem store_like2 {t : TypeId} {p x : Operand} (ho : o.op = .store t p x) {s c : Nat} (hp : opc fr p = .ptr s c) (hA : (!ownOp fr x && (opd fr x).2.all isPlain) = false) {R W : List Loc} (hf : (bif X.dr then some (slotsOf fr [x] ++ (.whole s :: shapes [p, x]), slotsOf fr [x] ++ [.whole s]) else none) = some (R, W)) (ha : Agr fr fr' R) (h : stepOp X E o fr some = some fr1) : foot X E o fr' = some (R, W) ∧ Like (stepOp X E o fr' some) fr' fr1 W := by
  obtain ⟨hdr, hf⟩ := bif_some hf
  simp only [Option.some.injEq, Prod.mk.injEq] at hf
  obtain ⟨rfl, rfl⟩ := hf
  have hw : ∀ q, Loc.whole q ∈ slotsOf fr [x] → fr q = fr' q := fun q hq => ha.left.whole hq
  have hs : fr s = fr' s := ha.right.whole List.mem_cons_self
  have hxs : ∀ y ∈ [p, x], opd fr' y = opd fr y := fun y hy => ha.right.tail.opd hy
  have hx := hxs x (by simp)
  have hp' : opc fr' p = .ptr s c := by simp only [opc, hxs p (by simp)]; exact hp
  have hown : ownOp fr' x = ownOp fr x := ownOp_eq ha.right.tail fun t e => shapes_mem (by rw [← e]; simp)
  have hsl : slotsOf fr' [x] = slotsOf fr [x] := slots_eq [x] fun t ht => hw t (slots_mem ht).1
  refine ⟨by unfold foot; rw [ho]; simp only [hp', hx, hown, hA, cond_false, hdr, cond_true, hsl], ?_⟩
  unfold stepOp at h ⊢
  rw [ho] at h ⊢
  simp only at h ⊢
  generalize htk : takeOpd fr x = q at h
  obtain ⟨⟨gg, ws⟩, frx⟩ := q
  obtain ⟨frx', e1, t1⟩ := takeOpd_twin (S := fun q => Loc.whole q ∈ slotsOf fr [x]) hw (fun t et => by subst et; exact slots_mem (by simp)) htk
  rw [e1]
  cases hi : X.ti t with
  | none => rw [hi] at h; cases h
  | some i =>
    rw [hi] at h
    simp only at h ⊢
    obtain ⟨hl, h⟩ := bif_some h
    rw [hl]
    simp only [cond_true, hp, hp', store, hdr] at h ⊢
    have hss : frx s = frx' s := by
      by_cases hq : Loc.whole s ∈ slotsOf fr [x]
      · exact t1.on s hq
      · rw [(t1.off s hq).1, (t1.off s hq).2]; exact hs
    rw [← hss]
    cases hb : frx s with
    | comp _ _ => rw [hb] at h; cases h
    | tup _ => rw [hb] at h; cases h
    | box cs =>
      rw [hb] at h
      simp only at h ⊢
      cases hsu : (gg || ws.all sure)
      · rw [hsu] at h; cases h
      rw [hsu] at h
      simp only [cond_true] at h ⊢
      cases hfc : fillCells cs c ws with
      | none => rw [hfc] at h; cases h
      | some cs' =>
        rw [hfc] at h
        simp only at h ⊢
        obtain ⟨hn, h⟩ := bif_some h
        rw [hn]
        cases h
        refine ⟨_, rfl, fun j k hi' => ?_, fun j k hi' => ?_⟩
        · by_cases hj : j = s
          · subst hj; rw [upd_same, upd_same]
          · rw [upd_ne _ _ _ hj, upd_ne _ _ _ hj]
            rcases hi'.or with q | q
            · rw [t1.on j ((slots_inn j k).1 q)]
            · rcases q.uncons with q | q
              · exact absurd q hj
              · exact q.nil.elim
        · have hj : j ≠ s := fun e => hi' (Inn.right (Inn.head e))
          rw [upd_ne _ _ _ hj, (t1.off j fun hm => hi' (Inn.left ((slots_inn j k).2 hm))).2]
theorem store_like {t : TypeId} {p x : Operand} (ho : o.op = .store t p x) {R W : List Loc} (hf : foot X E o fr = some (R, W)) (ha : Agr fr fr' R) (h : stepOp X E o fr some = some fr1) : foot X E o fr' = some (R, W) ∧ Like (stepOp X E o fr' some) fr' fr1 W := by
  unfold foot at hf
  rw [ho] at hf
  simp only at hf
  cases hp : opc fr p <;> rw [hp] at hf <;> simp only at hf <;> first | (cases hf; done) | skip
  rename_i s c
  cases hA : (!ownOp fr x && (opd fr x).2.all isPlain)
  case false =>
    rw [hA] at hf
    simp only [cond_false] at hf
    exact store_like2 ho hp hA hf ha h
  rw [hA] at hf
  simp only [cond_true] at hf
  have hsc := hA
  simp only [Bool.and_eq_true, Bool.not_eq_true'] at hsc
  obtain ⟨hown, hsc⟩ := hsc
  simp only [Option.some.injEq, Prod.mk.injEq] at hf
  obtain ⟨rfl, rfl⟩ := hf
  have hown' : ownOp fr' x = false := (ownOp_eq ha.tail.tail fun t e => shapes_mem (by rw [← e]; simp)).trans hown
  have hxs : ∀ y ∈ [p, x], opd fr' y = opd fr y := fun y hy => ha.tail.tail.opd hy
  have hx := hxs x (by simp)
  have hp' : opc fr' p = .ptr s c := by simp only [opc, hxs p (by simp)]; exact hp
  refine ⟨?_, ?_⟩
  · unfold foot
    rw [ho]
    simp only [hp', hx, hsc, hown', Bool.not_false, Bool.and_self, cond_true]
  unfold stepOp at h ⊢
  rw [ho] at h ⊢
  simp only [take_plain hown, take_plain hown', hx, hp, hp'] at h ⊢
  cases hi : X.ti t with
  | none => rw [hi] at h; cases h
  | some i =>
    rw [hi] at h
    simp only at h ⊢
    obtain ⟨hl, h⟩ := bif_some h
    rw [hl]
    simp only [Bool.and_eq_true] at hl
    have hl := Nat.eq_of_beq_eq_true hl.1
    simp only [cond_true, store_plain hsc] at h ⊢
    cases hb : fr s with
    | comp _ _ => rw [hb] at h; cases h
    | tup _ => rw [hb] at h; cases h
    | box cs =>
      rw [hb] at h
      simp only at h
      obtain ⟨ds, hd, hcell⟩ := box_cells ha List.mem_cons_self (List.mem_cons_of_mem _ List.mem_cons_self) hb
      rw [hd]
      simp only
      cases hfc : fillCells cs c (opd fr x).2 with
      | none => rw [hfc] at h; cases h
      | some cs' =>
        rw [hfc] at h
        simp only at h
        obtain ⟨hn, h⟩ := bif_some h
        cases h
        have hpos : 0 < (opd fr x).2.length := by rw [hl]; exact cells_pos _
        have hle : c + (opd fr x).2.length ≤ cs.length := by
          unfold fillCells at hfc
          exact Nat.le_of_ble_eq_true (bif_some hfc).1
        have hle' : c + (opd fr x).2.length ≤ ds.length := by
          have := hcell (c + (opd fr x).2.length - 1) (by omega) (by omega)
          rw [List.getElem?_eq_getElem (show c + (opd fr x).2.length - 1 < cs.length by omega)] at this
          have := (List.getElem?_eq_some_iff.1 this).1
          omega
        obtain ⟨ds', hfd⟩ : ∃ ds', fillCells ds c (opd fr x).2 = some ds' := by
          unfold fillCells
          rw [show (c + (opd fr x).2.length).ble ds.length = true from Nat.ble_eq_true_of_le hle']
          exact ⟨_, rfl⟩
        rw [hfd, hn]
        refine ⟨_, rfl, fun s' c' hi' => ?_, fun s' c' hi' => ?_⟩
        · rcases hi'.uncons with ⟨rfl, q1, q2⟩ | q
          · rw [upd_same, upd_same]
            obtain ⟨k, rfl⟩ : ∃ k, c' = k + 1 := ⟨c' - 1, by omega⟩
            simp only [pv, fill_get hfc k, fill_get hfd k]
            rw [if_pos (by omega), if_pos (by omega)]
          · exact q.nil.elim
        · by_cases hs' : s' = s
          · subst hs'
            rw [upd_same, hd]
            cases c' with
            | zero => rfl
            | succ k =>
              have hk : ¬ (c ≤ k ∧ k < c + (opd fr x).2.length) := fun e => hi' (Inn.head ⟨rfl, by omega, by omega⟩)
              simp only [pv, fill_get hfd k]
              rw [if_neg hk]
          · rw [upd_ne _ _ _ hs']
theorem any_congr {α : Type} {f g : α → Bool} : ∀ (l : List α), (∀ x ∈ l, f x = g x) → l.any f = l.any g
  | [], _ => rfl
  | x :: l, h => by simp only [List.any_cons]; rw [h x (by simp), any_congr l fun y hy => h y (List.mem_cons_of_mem _ hy)]
/-- the two ways that a taking goes -/
theorem take_cases {xs : List Operand} {R W : List Loc} (hf : takeFoot fr o xs = some (R, W)) (ha : Agr fr fr' R) :
    takeFoot fr' o xs = some (R, W) ∧
    ((W = slotsOf fr xs ++ dstW o.dst ∧ Agr fr fr' (dstR o.dst) ∧ (∀ s, Loc.whole s ∈ slotsOf fr xs → fr s = fr' s) ∧ ∀ x ∈ xs, opd fr' x = opd fr x) ∨
     (W = dstW o.dst ∧ Agr fr fr' (dstR o.dst) ∧ (∀ x ∈ xs, opd fr' x = opd fr x) ∧ (∀ x ∈ xs, ownOp fr x = false) ∧ ∀ x ∈ xs, ownOp fr' x = false)) := by
  unfold takeFoot at hf ⊢
  cases hany : xs.any (ownOp fr)
  · rw [hany] at hf
    simp only [cond_false, pureFoot, Option.some.injEq, Prod.mk.injEq] at hf
    obtain ⟨rfl, rfl⟩ := hf
    have hown : ∀ x ∈ xs, ownOp fr' x = ownOp fr x := fun x hx => ownOp_eq ha.left fun t e => shapes_mem (e ▸ hx)
    have hno : ∀ x ∈ xs, ownOp fr x = false := fun x hx => by
      rw [Bool.eq_false_iff]
      intro e
      rw [Bool.eq_false_iff] at hany
      exact hany (List.any_eq_true.2 ⟨x, hx, e⟩)
    refine ⟨by rw [any_congr xs hown, hany]; rfl, .inr ⟨rfl, ha.right, fun x hx => ha.left.opd hx, hno, fun x hx => (hown x hx).trans (hno x hx)⟩⟩
  · rw [hany] at hf
    simp only [cond_true, Option.some.injEq, Prod.mk.injEq] at hf
    obtain ⟨rfl, rfl⟩ := hf
    have hw : ∀ s, Loc.whole s ∈ slotsOf fr xs → fr s = fr' s := fun s hs => ha.left.whole hs
    have ht : ∀ t, Operand.tmp t ∈ xs → fr t = fr' t := fun t h => hw t (slots_mem h).1
    have hopd : ∀ x ∈ xs, opd fr' x = opd fr x := fun x hx => by
      cases x with
      | tmp t => simp only [opd, ht t hx]
      | _ => rfl
    have hown : ∀ x ∈ xs, ownOp fr' x = ownOp fr x := fun x hx => by
      cases x with
      | tmp t => simp only [ownOp, ht t hx]
      | _ => rfl
    refine ⟨by rw [any_congr xs hown, hany, slots_eq xs ht]; rfl, .inl ⟨rfl, ha.right, hw, hopd⟩⟩
theorem buildParts_plain {offs : List (Nat × Nat × Bool)} : ∀ (ps : List (Nat × Operand)) (cs : List CV), (∀ x ∈ ps.map (fun p => p.2), opd fr' x = opd fr x) → (∀ x ∈ ps.map (fun p => p.2), ownOp fr x = false) → (∀ x ∈ ps.map (fun p => p.2), ownOp fr' x = false) →
    ∃ q : Option (List CV), buildParts fr offs cs ps = q.map (fun c => (c, fr)) ∧ buildParts fr' offs cs ps = q.map (fun c => (c, fr'))
  | [], cs, h, h1, h2 => ⟨some cs, rfl, rfl⟩
  | (i, x) :: ps, cs, h, h1, h2 => by
    simp only [buildParts, take_plain (h1 x (by simp)), take_plain (h2 x (by simp)), h x (by simp)]
    cases offs[i]? with
    | none => exact ⟨none, rfl, rfl⟩
    | some q =>
      obtain ⟨off, n, gg⟩ := q
      simp only
      cases ((opd fr x).2.length.beq n && ((opd fr x).1 || (opd fr x).2.all sure))
      · exact ⟨none, rfl, rfl⟩
      · simp only [cond_true]
        cases fillCells cs off (opd fr x).2 with
        | none => exact ⟨none, rfl, rfl⟩
        | some cs2 => exact buildParts_plain ps cs2 (fun y hy => h y (List.mem_cons_of_mem _ hy)) (fun y hy => h1 y (List.mem_cons_of_mem _ hy)) (fun y hy => h2 y (List.mem_cons_of_mem _ hy))
theorem build_like {t : TypeId} {ps : Array (Nat × Operand)} (ho : o.op = .build t ps) {R W : List Loc} (hf : foot X E o fr = some (R, W)) (ha : Agr fr fr' R) (h : stepOp X E o fr some = some fr1) : foot X E o fr' = some (R, W) ∧ Like (stepOp X E o fr' some) fr' fr1 W := by
  have e : ∀ fr, foot X E o fr = takeFoot fr o (ps.toList.map fun p => p.2) := fun fr => by unfold foot; rw [ho]
  rw [e] at hf
  obtain ⟨h1, h2⟩ := take_cases hf ha
  refine ⟨by rw [e]; exact h1, ?_⟩
  unfold stepOp at h ⊢
  rw [ho] at h ⊢
  simp only at h ⊢
  cases hi : X.ti t with
  | none => rw [hi] at h; cases h
  | some i =>
    rw [hi] at h
    simp only at h ⊢
    obtain ⟨hag, h⟩ := bif_some h
    rw [hag]
    simp only [cond_true]
    rcases h2 with ⟨rfl, hd, hw, hx⟩ | ⟨rfl, hd, hx, ho1, ho2⟩
    · split at h
      case h_2 => cases h
      rename_i cs' fr2 hb
      obtain ⟨fr2', e1, t1⟩ := buildParts_twin (S := fun s => Loc.whole s ∈ slotsOf fr (ps.toList.map fun p => p.2)) ps.toList hw (fun x hx t et => by subst et; exact slots_mem hx) hb
      rw [e1]
      exact twin_fin (fun s c => slots_inn s c) t1 h hd
    · obtain ⟨q, e1, e2⟩ := buildParts_plain (offs := i.offs) ps.toList (zeroCV i.ty) hx ho1 ho2
      rw [e1] at h
      rw [e2]
      cases q with
      | none => cases h
      | some cs => exact fin_like h hd
theorem append_like {c : Call} (ho : o.op = .call c) (hc : c.callee = .builtin .append) {R W : List Loc} (hf : foot X E o fr = some (R, W)) (ha : Agr fr fr' R) (h : stepOp X E o fr some = some fr1) : foot X E o fr' = some (R, W) ∧ Like (stepOp X E o fr' some) fr' fr1 W := by
  have e : ∀ fr, foot X E o fr = takeFoot fr o c.args.toList := fun fr => by unfold foot; rw [ho]; simp only [hc]
  rw [e] at hf
  obtain ⟨h1, h2⟩ := take_cases hf ha
  refine ⟨by rw [e]; exact h1, ?_⟩
  unfold stepOp at h ⊢
  rw [ho] at h ⊢
  simp only [hc] at h ⊢
  generalize c.args.toList = xs at *
  split at h
  case h_2 => cases h
  rename_i t u x y hat
  try simp only at h ⊢
  obtain ⟨htu, h⟩ := bif_some h
  rw [htu]
  simp only [cond_true]
  cases hu : X.sl t with
  | none => rw [hu] at h; cases h
  | some u =>
    rw [hu] at h
    simp only at h ⊢
    have fork : ∀ (p : Comp) (fr2 fr2' : Fr), takeOpd fr x = (p, fr2) → takeOpd fr' x = (p, fr2') → opc fr' y = opc fr y → (∀ v, fin X fr2 o.dst v some = some fr1 → Like (fin X fr2' o.dst v some) fr' fr1 W) →
        Like (match listAs u (opc fr' y), takeOpd fr' x with
            | some ys, ((false, [.tmpo u' xs]), fr1) => if h : u' = u then
                (if xs.length + ys.length < lim u then fin X fr1 o.dst (.comp false [.tmpo u ((h ▸ xs) ++ ys)]) some else none) else none
            | some ys, ((false, [.nils]), fr1) => if ys.length < lim u then fin X fr1 o.dst (.comp false [.tmpo u ys]) some else none
            | _, _ => none) fr' fr1 W := by
      intro p fr2 fr2' e1 e2 e3 hk
      rw [e2, e3]
      rw [e1] at h
      split at h
      · rename_i ys u' xs' fr3 hl hp
        cases hp
        rw [hl]
        simp only
        split at h
        · rename_i hh
          rw [dif_pos hh]
          split at h
          · rename_i hlt; rw [if_pos hlt]; exact hk _ h
          · cases h
        · cases h
      · rename_i ys fr3 hl hp
        cases hp
        rw [hl]
        simp only
        split at h
        · rename_i hlt; rw [if_pos hlt]; exact hk _ h
        · cases h
      · cases h
    rcases h2 with ⟨rfl, hd, hw, hx⟩ | ⟨rfl, hd, hx, ho1, ho2⟩
    · generalize htk : takeOpd fr x = q
      obtain ⟨p, fr2⟩ := q
      obtain ⟨fr2', e1, t1⟩ := takeOpd_twin (S := fun s => Loc.whole s ∈ slotsOf fr [x, y]) hw (fun t et => by subst et; exact slots_mem (by simp)) htk
      exact fork p fr2 fr2' htk e1 (by simp only [opc, hx y (by simp)]) fun v hv => twin_fin (fun s c => slots_inn s c) t1 hv hd
    · exact fork (opd fr x) fr fr' (take_plain (ho1 x (by simp))) (by rw [take_plain (ho2 x (by simp)), hx x (by simp)]) (by simp only [opc, hx y (by simp)]) fun v hv => fin_like hv hd
theorem extract_like {x : Operand} {i : Nat} (ho : o.op = .extract x i) {R W : List Loc} (hf : foot X E o fr = some (R, W)) (ha : Agr fr fr' R) (h : stepOp X E o fr some = some fr1) : foot X E o fr' = some (R, W) ∧ Like (stepOp X E o fr' some) fr' fr1 W := by
  unfold foot at hf
  rw [ho] at hf
  simp only at hf
  cases x with
  | tmp t =>
    simp only at hf
    cases hs : fr t with
    | comp _ _ => rw [hs] at hf; cases hf
    | box _ => rw [hs] at hf; cases hf
    | tup vs =>
      rw [hs] at hf
      simp only at hf
      cases hv : vs[i]? with
      | none => rw [hv] at hf; cases hf
      | some p =>
        obtain ⟨gg, cs⟩ := p
        rw [hv] at hf
        simp only at hf
        have hR : R = .shape t :: .cells t i 1 :: dstR o.dst := by
          cases hp : cs.all isPlain <;> rw [hp] at hf <;> simp only [cond_true, cond_false, Option.some.injEq, Prod.mk.injEq] at hf <;> exact hf.1.symm
        subst hR
        have hsh := ha.shape (s := t) List.mem_cons_self
        rw [hs] at hsh
        obtain ⟨us, hs', hul⟩ := shape_tup hsh
        have hil : i < vs.length := (List.getElem?_eq_some_iff.1 hv).1
        have hv' : us[i]? = some (gg, cs) := by
          have := ha t (i + 1) ⟨.cells t i 1, List.mem_cons_of_mem _ List.mem_cons_self, rfl, by omega, by omega⟩
          rw [hs, hs'] at this
          simp only [pv, hv] at this
          rw [List.getElem?_eq_getElem (show i < us.length by omega)] at this ⊢
          simp only at this
          generalize us[i] = q at this ⊢
          obtain ⟨q1, q2⟩ := q
          cases this
          rfl
        refine ⟨by unfold foot; rw [ho]; simp only [hs', hv']; exact hf, ?_⟩
        unfold stepOp at h ⊢
        rw [ho] at h ⊢
        simp only [hs, hs', hv, hv'] at h ⊢
        cases hd : o.dst with
        | none => rw [hd] at h; cases h
        | some d =>
          rw [hd] at h ha hf
          simp only at h ⊢
          cases hb : (d.beq t || !cs.all fun c => !isOwn c)
          · rw [hb] at h
            simp only [cond_false] at h ⊢
            cases hp : cs.all isPlain
            · rw [hp] at h hf
              simp only [cond_false, Option.some.injEq, Prod.mk.injEq, true_and] at h hf ⊢
              subst hf
              have hdt : d ≠ t := fun e => by subst e; rw [Nat.beq_refl] at hb; cases hb
              have haA : Agr (upd fr t (.tup (vs.set i (false, [.dead])))) (upd fr' t (.tup (us.set i (false, [.dead])))) (dstR (some d)) := fun s c hi => by
                rcases hi.uncons with ⟨rfl, rfl⟩ | q
                · rw [upd_ne _ _ _ hdt, upd_ne _ _ _ hdt]; exact ha.tail.tail s 0 hi
                · exact q.nil.elim
              obtain ⟨g1, e1, e2, e3⟩ := (fin_like h haA).ex
              obtain ⟨g2, e4, _, e5⟩ := (fin_like (fr' := upd fr t (.tup (vs.set i (false, [.dead])))) h (fun _ _ _ => rfl)).ex
              rw [h] at e4
              cases e4
              have hnd : ∀ c, ¬ Inn t c (dstW (some d)) := fun c hi => by
                rcases hi.uncons with q | q
                · exact hdt q.symm
                · exact q.nil.elim
              refine ⟨g1, e1, fun s c hi => ?_, fun s c hi => ?_⟩
              · rcases hi.uncons with ⟨rfl, c1, c2⟩ | q
                · obtain rfl : c = i + 1 := by omega
                  rw [e5 s _ (hnd _), e3 s _ (hnd _), upd_same, upd_same]
                  simp only [pv]
                  rw [List.getElem?_set_self hil, List.getElem?_set_self (show i < us.length by omega)]
                · exact e2 s c q
              · rw [e3 s c (fun q => hi (Inn.cons q))]
                by_cases e : s = t
                · subst e
                  rw [upd_same, hs']
                  cases c with
                  | zero =>
                    simp only [pv, shape]
                    congr 1
                    apply List.ext_getElem?
                    intro k
                    rw [List.getElem?_map, List.getElem?_map, List.getElem?_set]
                    split
                    · rename_i e; subst e
                      rw [List.getElem?_eq_getElem (show i < us.length by omega)]
                      simp [show i < us.length by omega]
                    · rfl
                  | succ k =>
                    have hk : i ≠ k := fun e => hi (Inn.head (by subst e; exact ⟨rfl, by omega, by omega⟩))
                    simp only [pv]
                    rw [List.getElem?_set_ne hk]
                · rw [upd_ne _ _ _ e]
            · rw [hp] at h hf
              simp only [cond_true, Option.some.injEq, Prod.mk.injEq, true_and] at h hf ⊢
              subst hf
              exact fin_like h ha.tail.tail
          · rw [hb] at h; cases h
  | _ => cases hf
theorem callBox_like {c : Call} (ho : o.op = .call c) {f : Operand} (hc : c.callee = .value f) {fid : FuncId} {caps : List CV} (hfc : opc fr f = .fn fid caps) {F : Fn} (hF : E fid = some F) (hb : F.box = true) {R W : List Loc}
    (hf : (match argsOf fr c.args.toList with
      | (false, [.ptr s 0]) :: _ => bif caps.isEmpty then some (.whole s :: (shapes (f :: c.args.toList) ++ dstR o.dst), .whole s :: dstW o.dst) else none
      | _ => none) = some (R, W)) (ha : Agr fr fr' R) (h : stepOp X E o fr some = some fr1) : foot X E o fr' = some (R, W) ∧ Like (stepOp X E o fr' some) fr' fr1 W := by
  split at hf
  case h_2 => cases hf
  rename_i s rest hargs
  obtain ⟨hcaps, hf⟩ := bif_some hf
  simp only [Option.some.injEq, Prod.mk.injEq] at hf
  obtain ⟨rfl, rfl⟩ := hf
  have hx : ∀ x ∈ f :: c.args.toList, opd fr' x = opd fr x := fun x hx => ha.tail.left.opd hx
  have hs : fr s = fr' s := ha.whole List.mem_cons_self
  have hfc' : opc fr' f = .fn fid caps := by simp only [opc, hx f (by simp)]; exact hfc
  have hargs' : argsOf fr' c.args.toList = (false, [.ptr s 0]) :: rest := by rw [argsOf_eq c.args.toList fun x hm => hx x (List.mem_cons_of_mem _ hm)]; exact hargs
  refine ⟨?_, ?_⟩
  · unfold foot
    rw [ho]
    simp only [hc, hfc', hF, hb, cond_true, hargs', hcaps]
  unfold stepOp at h ⊢
  rw [ho] at h ⊢
  simp only [hc, hfc, hfc', hF, hb, cond_true, hargs, hargs', hcaps, callBox] at h ⊢
  rw [← hs]
  cases hsb : fr s with
  | comp _ _ => rw [hsb] at h; cases h
  | tup _ => rw [hsb] at h; cases h
  | box cs =>
    rw [hsb] at h
    simp only at h ⊢
    obtain ⟨hcond, h⟩ := bif_some h
    rw [hcond]
    simp only [cond_true]
    rw [F.nat] at h ⊢
    cases hr : F.run ((false, [CV.mbox (cs.map flatArg)]) :: rest.map fun p => (p.1, p.2.map flatArg)) some with
    | none => rw [hr] at h; cases h
    | some res =>
      rw [hr] at h
      simp only [Option.bind_some] at h ⊢
      cases hq : (!res.all fun c => c.2.length.blt 4096)
      · rw [hq] at h
        simp only [cond_false] at h ⊢
        cases hg : res.getLast? with
        | none => rw [hg] at h; cases h
        | some p =>
          obtain ⟨g0, cs0⟩ := p
          rw [hg] at h
          match cs0 with
          | [] => cases h
          | c0 :: c1 :: r => cases c0 <;> cases h
          | [c0] =>
            cases c0 <;> first | (cases h; done) | skip
            rename_i outs
            simp only at h ⊢
            obtain ⟨hc2, h⟩ := bif_some h
            rw [hc2]
            simp only [cond_true]
            have t1 : Twin (fun j => j = s) fr fr' (upd fr s (.box (outs.map (resCV (cs.all isOldF && rest.all fun p => p.2.all isOldF))))) (upd fr' s (.box (outs.map (resCV (cs.all isOldF && rest.all fun p => p.2.all isOldF))))) := by
              refine ⟨fun j hj => ?_, fun j hj => ?_, fun j hr => ?_⟩
              · subst hj; rw [upd_same, upd_same]
              · exact ⟨upd_ne _ _ _ hj, upd_ne _ _ _ hj⟩
              · by_cases e : j = s
                · subst e; rw [upd_same]; intro gg cs e; cases e
                · rw [upd_ne _ _ _ e]; exact hr
            exact twin_fin (L := [.whole s]) (fun s' c' => ⟨fun hi => by rcases hi.uncons with q | q; exact q; exact q.nil.elim, fun e => Inn.head e⟩) t1 h ha.tail.right
      · rw [hq] at h; cases h
theorem call_like {c : Call} (ho : o.op = .call c) {f : Operand} (hc : c.callee = .value f) {R W : List Loc} (hf : foot X E o fr = some (R, W)) (ha : Agr fr fr' R) (h : stepOp X E o fr some = some fr1) : foot X E o fr' = some (R, W) ∧ Like (stepOp X E o fr' some) fr' fr1 W := by
  unfold foot at hf
  rw [ho] at hf
  simp only [hc] at hf
  cases hfc : opc fr f <;> rw [hfc] at hf <;> simp only at hf <;> first | (cases hf; done) | skip
  rename_i fid caps
  cases hF : E fid with
  | none => rw [hF] at hf; cases hf
  | some F =>
    rw [hF] at hf
    simp only at hf
    cases hb : F.box
    case true =>
      rw [hb] at hf
      simp only [cond_true] at hf
      exact callBox_like ho hc hfc hF hb hf ha h
    rw [hb] at hf
    simp only [cond_false] at hf
    obtain ⟨hm, hf⟩ := bif_some hf
    have hm' : F.muts = [] := by simpa using hm
    simp only [Option.some.injEq, Prod.mk.injEq] at hf
    obtain ⟨rfl, rfl⟩ := hf
    have hx : ∀ x ∈ f :: c.args.toList, opd fr' x = opd fr x := fun x hx => ha.left.opd hx
    have hx' : ∀ x ∈ c.args.toList, opd fr' x = opd fr x := fun x hm => hx x (List.mem_cons_of_mem _ hm)
    have hfc' : opc fr' f = .fn fid caps := by simp only [opc, hx f (by simp)]; exact hfc
    refine ⟨?_, finv_like (X := X) ?_ h ha.right.right.right⟩
    · unfold foot
      rw [ho]
      simp only [hc, hfc', hF, hb, cond_false, hm, cond_true, argBoxes_eq _ hx']
    · unfold stepOp
      rw [ho]
      simp only [hc, hfc, hfc', hF, hb, cond_false]
      rw [argsOf_eq c.args.toList hx']
      refine callFn_v hm' fun p hp e he => ?_
      rcases List.mem_append.1 hp with hp | hp
      · obtain ⟨x, hx1, rfl⟩ := argsOf_mem hp
        exact argCV_eq ha.right.left (opd fr x).2 (fun l hl => argBoxes_mem hx1 l hl) e he
      · obtain ⟨q, hq, rfl⟩ := List.mem_map.1 hp
        simp at he
        subst he
        exact argCV_eq ha.right.right.left caps (fun l hl => hl) _ hq
theorem assign_like {x : Operand} (ho : o.op = .assign x) {R W : List Loc} (hf : foot X E o fr = some (R, W)) (ha : Agr fr fr' R) (h : stepOp X E o fr some = some fr1) : foot X E o fr' = some (R, W) ∧ Like (stepOp X E o fr' some) fr' fr1 W := by
  have e : ∀ fr, foot X E o fr = bif X.dr then takeFoot fr o [x] else bif (opd fr x).2.all isScalar then pureFoot o [x] else none := fun fr => by unfold foot; rw [ho]
  have e2 : ∀ fr, stepOp X E o fr some = match o.dst with
      | some d => bif X.dr || (takeOpd fr x).1.2.all isScalar then fin X (takeOpd fr x).2 (some d) (.comp (takeOpd fr x).1.1 (takeOpd fr x).1.2) some else fin X (dem d (takeOpd fr x).2) (some d) (.comp (takeOpd fr x).1.1 ((takeOpd fr x).1.2.map fun c => dem1 d (toOwn c))) some
      | none => none := fun fr => by
    unfold stepOp
    rw [ho]
    simp only
    generalize takeOpd fr x = q
    obtain ⟨⟨gg, ws⟩, frx⟩ := q
    rfl
  rw [e] at hf
  rw [e2] at h
  rw [e, e2]
  cases hd : o.dst with
  | none => rw [hd] at h; cases h
  | some d =>
  rw [hd] at h
  simp only at h ⊢
  cases hdr : X.dr
  · rw [hdr] at hf h
    simp only [cond_false, Bool.false_or] at hf h ⊢
    obtain ⟨hsc, hf⟩ := bif_some hf
    simp only [pureFoot, Option.some.injEq, Prod.mk.injEq] at hf
    obtain ⟨rfl, rfl⟩ := hf
    have hx : opd fr' x = opd fr x := ha.left.opd (by simp)
    have ht := take_plain (own_of_scalar hsc)
    have ht' := take_plain (own_of_scalar (fr := fr') (x := x) (by rw [hx]; exact hsc))
    rw [ht] at h
    rw [ht', hx]
    simp only [hsc, cond_true] at h ⊢
    refine ⟨rfl, ?_⟩
    have had := ha.right
    rw [hd] at had ⊢
    exact fin_like h had
  · rw [hdr] at hf h
    simp only [cond_true, Bool.true_or] at hf h ⊢
    obtain ⟨h1, h2⟩ := take_cases hf ha
    refine ⟨h1, ?_⟩
    rcases h2 with ⟨rfl, hdd, hw, hx⟩ | ⟨rfl, hdd, hx, ho1, ho2⟩
    · obtain ⟨fr2', q1, t1⟩ := takeOpd_twin (S := fun s => Loc.whole s ∈ slotsOf fr [x]) hw (fun t et => by subst et; exact slots_mem (by simp)) (show takeOpd fr x = ((takeOpd fr x).1, (takeOpd fr x).2) from rfl)
      rw [q1]
      rw [hd] at hdd ⊢
      exact twin_fin (fun s c => slots_inn s c) t1 h hdd
    · have ht := take_plain (ho1 x (by simp))
      have ht' := take_plain (ho2 x (by simp))
      rw [ht] at h
      rw [ht', hx x (by simp)]
      rw [hd] at hdd ⊢
      exact fin_like h hdd
theorem move_like {x : Operand} (ho : o.op = .move x) {R W : List Loc} (hf : foot X E o fr = some (R, W)) (ha : Agr fr fr' R) (h : stepOp X E o fr some = some fr1) : foot X E o fr' = some (R, W) ∧ Like (stepOp X E o fr' some) fr' fr1 W := by
  have plain : ∀ fr, (∀ t vs, x = .tmp t → fr t ≠ .tup vs) → foot X E o fr = pureFoot o [x] ∧ stepOp X E o fr some = fin X fr o.dst (.comp (opd fr x).1 (opd fr x).2) some := by
    intro fr hn
    unfold foot stepOp
    rw [ho]
    cases x with
    | tmp t =>
      simp only
      cases hs : fr t with
      | tup vs => exact (hn t vs rfl hs).elim
      | comp _ _ => simp only [opd, hs]; exact ⟨trivial, trivial⟩
      | box _ => simp only [opd, hs]; exact ⟨trivial, trivial⟩
    | _ => exact ⟨rfl, rfl⟩
  by_cases hn : ∀ t vs, x = .tmp t → fr t ≠ .tup vs
  · obtain ⟨p1, p2⟩ := plain fr hn
    rw [p1] at hf
    simp only [pureFoot, Option.some.injEq, Prod.mk.injEq] at hf
    obtain ⟨rfl, rfl⟩ := hf
    have hn' : ∀ t vs, x = .tmp t → fr' t ≠ .tup vs := by
      intro t vs e e2
      subst e
      have hsh := ha.shape (s := t) (List.mem_append_left _ (by simp [shapes]))
      rw [e2] at hsh
      obtain ⟨us, e, _⟩ := shape_tup hsh.symm
      exact hn t us rfl e
    obtain ⟨q1, q2⟩ := plain fr' hn'
    refine ⟨q1, ?_⟩
    rw [q2, ha.left.opd (x := x) (by simp)]
    rw [p2] at h
    exact fin_like h ha.right
  · obtain ⟨t, vs, rfl, e⟩ : ∃ t vs, x = .tmp t ∧ fr t = .tup vs := by
      refine Classical.byContradiction fun hc => hn fun t vs e1 e2 => hc ⟨t, vs, e1, e2⟩
    unfold foot at hf
    rw [ho] at hf
    simp only [e, Option.some.injEq, Prod.mk.injEq] at hf
    obtain ⟨rfl, rfl⟩ := hf
    have hw : fr t = fr' t := ha.whole List.mem_cons_self
    have e' : fr' t = .tup vs := hw ▸ e
    refine ⟨by unfold foot; rw [ho]; simp only [e'], ?_⟩
    unfold stepOp at h ⊢
    rw [ho] at h ⊢
    simp only [e, e'] at h ⊢
    cases hd : o.dst with
    | none => rw [hd] at h; cases h
    | some d =>
      rw [hd] at h ha
      simp only at h ⊢
      cases hc : (d.beq t || !vs.all (fun p => p.2.all fun c => !isOwn c))
      · rw [hc] at h
        simp only [cond_false] at h ⊢
        have t1 : Twin (fun j => j = t) fr fr' (upd fr t .dead) (upd fr' t .dead) := by
          refine ⟨fun j hj => ?_, fun j hj => ?_, fun j hr => ?_⟩
          · subst hj; rw [upd_same, upd_same]
          · exact ⟨upd_ne _ _ _ hj, upd_ne _ _ _ hj⟩
          · by_cases e : j = t
            · subst e; rw [upd_same]; intro gg cs e; cases e; intro s c t' xs hm; simp at hm
            · rw [upd_ne _ _ _ e]; exact hr
        exact twin_fin (L := [.whole t]) (fun s' c' => ⟨fun hi => by rcases hi.uncons with q | q; exact q; exact q.nil.elim, fun e => Inn.head e⟩) t1 h ha.tail
      · rw [hc] at h; cases h
theorem step_like {R W : List Loc} (hf : foot X E o fr = some (R, W)) (ha : Agr fr fr' R) (h : stepOp X E o fr some = some fr1) : foot X E o fr' = some (R, W) ∧ Like (stepOp X E o fr' some) fr' fr1 W := by
  have pure : ∀ (xs : List Operand), (∀ fr, foot X E o fr = pureFoot o xs) → ((∀ z ∈ xs, opd fr' z = opd fr z) → ∃ v, stepOp X E o fr some = finv X o.dst v fr ∧ stepOp X E o fr' some = finv X o.dst v fr') → foot X E o fr' = some (R, W) ∧ Like (stepOp X E o fr' some) fr' fr1 W := by
    intro xs e hv
    rw [e] at hf ⊢
    simp only [pureFoot, Option.some.injEq, Prod.mk.injEq] at hf
    obtain ⟨rfl, rfl⟩ := hf
    exact ⟨rfl, finv_like (hv fun z hz => ha.left.opd hz) h ha.right⟩
  have fo : ∀ {op}, o.op = op → ∀ fr, foot X E o fr = foot X E { o with op := op } fr := fun e fr => by rw [← e]
  cases ho : o.op
  case move x => exact move_like ho hf ha h
  case assign x => exact assign_like ho hf ha h
  case pick c x y => exact pure [c, x, y] (fun fr => by unfold foot; rw [ho]) (pick_v ho)
  case alloc t => exact pure [] (fun fr => by unfold foot; rw [ho]) (fun _ => alloc_v ho)
  case box t x => exact pure [x] (fun fr => by unfold foot; rw [ho]) (box_v ho)
  case build t ps => exact build_like ho hf ha h
  case buildSlice t n ps => exact pure _ (fun fr => by unfold foot; rw [ho]) (buildSlice_v ho)
  case makeSlice t l m => exact pure _ (fun fr => by unfold foot; rw [ho]) (makeSlice_v ho)
  case load t x => exact load_like ho hf ha h
  case store t p x => exact store_like ho hf ha h
  case nilCheck x => exact pure _ (fun fr => by unfold foot; rw [ho]) (nil_v ho)
  case binOp op t x y ty => exact pure _ (fun fr => by unfold foot; rw [ho]) (bin_v ho)
  case unOp op t x => exact pure _ (fun fr => by unfold foot; rw [ho]) (un_v ho)
  case convert s t x => exact pure _ (fun fr => by unfold foot; rw [ho]) (convert_v ho)
  case makeFunc f first caps => exact pure _ (fun fr => by unfold foot; rw [ho]) (makeFunc_v ho)
  case slice t x lo hi mx =>
    cases mx with
    | some _ => cases lo <;> cases hi <;> (unfold foot at hf; rw [ho] at hf; cases hf)
    | none => cases hi with
      | some _ => cases lo <;> exact pure _ (fun fr => by unfold foot; rw [ho]) (slice2_v ho)
      | none => cases lo with
        | none => unfold foot at hf; rw [ho] at hf; cases hf
        | some l => exact pure _ (fun fr => by unfold foot; rw [ho]) (slice_v ho)
  case fieldAddr t x f => exact pure _ (fun fr => by unfold foot; rw [ho]) (fieldAddr_v ho)
  case field t x f => exact pure _ (fun fr => by unfold foot; rw [ho]) (field_v ho)
  case indexAddr t x ix => exact pure _ (fun fr => by unfold foot; rw [ho]) (index2_v ho)
  case extract x i => exact extract_like ho hf ha h
  case call c =>
    cases hc : c.callee with
    | value f => exact call_like ho hc hf ha h
    | invoke r m => unfold foot at hf; rw [ho] at hf; simp only [hc] at hf; cases hf
    | builtin b =>
      cases b
      case append => exact append_like ho hc hf ha h
      case len => exact pure c.args.toList (fun fr => by unfold foot; rw [ho]; simp only [hc]) (minmax_v ho (.inl hc))
      case min => exact pure c.args.toList (fun fr => by unfold foot; rw [ho]; simp only [hc]) (minmax_v ho (.inr (.inl hc)))
      case max => exact pure c.args.toList (fun fr => by unfold foot; rw [ho]; simp only [hc]) (minmax_v ho (.inr (.inr hc)))
      all_goals (unfold foot at hf; rw [ho] at hf; simp only [hc] at hf; cases hf)
  all_goals (unfold foot at hf; rw [ho] at hf; cases hf)
end
end Go.Rv

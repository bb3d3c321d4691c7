/- A verified evaluator of the form: texts Nat, Local, Local2, Local3, Local4, Draw, Code, Cut, Fn. -/
import Derived.Test.YtigkpbnhdkdliaaRvM2
import Derived.Laws.Sem
set_option linter.unusedSimpArgs false
set_option linter.unusedVariables false
namespace Go.Rv
section
variable {X : Env} {fr : Fr} {R : Type} {K : Fr → Option R} {r : R} {o : Oper}
theorem fin_nat (X : Env) (fr : Fr) (d : Option Nat) (v : SV) (K : Fr → Option R) : fin X fr d v K = (fin X fr d v some).bind K := by
  unfold fin
  cases d with
  | none => rfl
  | some d =>
    simp only
    cases setD X fr d v <;> rfl
theorem bif_nat {b : Bool} {x : Option R} {y : Option Fr} (h : x = y.bind K) : (bif b then x else none) = (bif b then y else none).bind K := by
  cases b
  · rfl
  · exact h
theorem bif_nat' {b : Bool} {x : Option R} {y : Option Fr} (h : x = y.bind K) : (bif b then none else x) = (bif b then none else y).bind K := by
  cases b
  · exact h
  · rfl
theorem bif_nat2 {b : Bool} {x x' : Option R} {y y' : Option Fr} (h : x = y.bind K) (h' : x' = y'.bind K) : (bif b then x else x') = (bif b then y else y').bind K := by
  cases b
  · exact h'
  · exact h
theorem arith_nat {op : BinOp} {k : IntKind} {a b : Int} {J : CV → Option R} {J' : CV → Option Fr} (h : ∀ c, J c = (J' c).bind K) : arith op k a b J = (arith op k a b J').bind K := by
  unfold arith
  cases op <;> first | rfl | exact h _ | (simp only; split <;> first | rfl | exact h _)
theorem binop_nat {isB isS : Bool} {op : BinOp} {x y : CV} {J : CV → Option R} {J' : CV → Option Fr} (h : ∀ c, J c = (J' c).bind K) : binop isB isS op x y J = (binop isB isS op x y J').bind K := by
  unfold binop
  split
  · split
    · exact arith_nat h
    · rfl
  · exact bif_nat (by cases op <;> first | rfl | exact h _)
  · exact bif_nat (by cases op <;> first | rfl | (simp only; split <;> first | rfl | exact h _))
  · rfl
theorem index_nat {u : Option Ty} {c : CV} {i : Int} {J : CV → Option R} {J' : CV → Option Fr} (h : ∀ c, J c = (J' c).bind K) : indexAddr u c i J = (indexAddr u c i J').bind K := by
  unfold indexAddr
  split <;> first | rfl | exact bif_nat (by split <;> first | rfl | (split <;> first | rfl | exact h _))
theorem cutS_nat {u : Option Ty} {c : CV} {l h : Int} {J : CV → Option R} {J' : CV → Option Fr} (hj : ∀ c, J c = (J' c).bind K) : cutS u c l h J = (cutS u c l h J').bind K := by
  unfold cutS
  split <;> first | rfl | exact bif_nat (by split <;> first | rfl | (split <;> first | rfl | (split <;> first | rfl | exact hj _)))
theorem callFn_nat {F : Fn} {args : List Comp} {d : Option Nat} : callFn X F fr args d K = (callFn X F fr args d some).bind K := by
  unfold callFn
  split
  · refine bif_nat ?_
    rename_i l ps _ _
    rw [F.nat]
    conv => rhs; rw [F.nat]
    cases F.run l some with
    | none => rfl
    | some res =>
      simp only [Option.bind_some]
      refine bif_nat' ?_
      refine bif_nat2 (fin_nat ..) ?_
      split
      · split
        · exact fin_nat ..
        · rfl
      · rfl
  · rfl
theorem callBox_nat {F : Fn} {args : List Comp} {d : Option Nat} : callBox X F fr args d K = (callBox X F fr args d some).bind K := by
  unfold callBox
  split
  · split
    · refine bif_nat ?_
      rw [F.nat]
      conv => rhs; rw [F.nat]
      cases F.run _ some with
      | none => rfl
      | some res =>
        simp only [Option.bind_some]
        refine bif_nat' ?_
        split
        · exact bif_nat (fin_nat ..)
        · rfl
    · rfl
  · rfl
theorem callHand_nat {F : Fn} {args : List Comp} {d : Option Nat} : callHand X F fr args d K = (callHand X F fr args d some).bind K := by
  unfold callHand
  split
  · refine bif_nat ?_
    rw [F.nat]
    conv => rhs; rw [F.nat]
    cases F.run _ some with
    | none => rfl
    | some res =>
      simp only [Option.bind_some]
      refine bif_nat' ?_
      split
      · exact fin_nat ..
      · rfl
  · rfl
theorem putOp_nat {t : TypeId} {m kx vx : Operand} {d : Option Nat} : putOp X t fr m kx vx d K = (putOp X t fr m kx vx d some).bind K := by
  unfold putOp
  split
  · split
    · split
      · exact bif_nat (by split <;> rfl)
      · rfl
    · rfl
  · rfl
theorem getOp_nat {t : TypeId} {m kx : Operand} {d : Option Nat} : getOp X t fr m kx d K = (getOp X t fr m kx d some).bind K := by
  unfold getOp
  split
  · split
    · split
      · exact bif_nat (by split <;> first | rfl | exact fin_nat ..)
      · rfl
    · rfl
  · rfl
theorem moveMap_nat {s : Nat} {d : Option Nat} : moveMap X fr s d K = (moveMap X fr s d some).bind K := by
  unfold moveMap
  split
  · exact bif_nat' (fin_nat ..)
  · rfl
theorem rangeOp_nat {t : TypeId} {s : Nat} {d : Option Nat} : rangeOp X t fr s d K = (rangeOp X t fr s d some).bind K := by
  unfold rangeOp
  split
  · exact bif_nat' (fin_nat ..)
  · rfl
theorem nextOp_nat (hd : X.dr = true) {t : Nat} {d : Option Nat} : nextOp X fr t d K = (nextOp X fr t d some).bind K := by
  unfold nextOp
  split
  · rw [hd]; rfl
  · rfl
theorem stepOp_nat (hd : X.dr = true) {E : FuncId → Option Fn} : stepOp X E o fr K = (stepOp X E o fr some).bind K := by
  unfold stepOp
  split <;> first | rfl | skip
  all_goals
    repeat' first
      | rfl
      | exact fin_nat ..
      | exact callFn_nat
      | exact putOp_nat
      | exact getOp_nat
      | exact moveMap_nat
      | exact rangeOp_nat
      | exact nextOp_nat hd
      | exact callBox_nat
      | exact callHand_nat
      | (simp only [hd, Bool.not_true, Bool.and_false, cond_false]; exact bif_nat (fin_nat ..))
      | exact binop_nat fun c => fin_nat ..
      | (simp only [nilOp, hd, cond_true]; exact binop_nat fun c => fin_nat ..)
      | exact index_nat fun c => fin_nat ..
      | exact cutS_nat fun c => fin_nat ..
      | (simp only [hd, Bool.not_true, Bool.and_false, cond_false, cutOp]; split <;> first | rfl | exact cutS_nat fun c => fin_nat ..)
      | exact bif_nat2 (fin_nat ..) (fin_nat ..)
      | refine bif_nat2 callBox_nat callFn_nat
      | refine bif_nat2 (bif_nat callBox_nat) callFn_nat
      | refine bif_nat ?_
      | refine bif_nat' ?_
      | refine bif_nat2 ?_ ?_
      | split
end
end Go.Rv
namespace Go.Rv
def shape : SV → SV
  | .box _ => .box []
  | .tup vs => .tup (vs.map fun _ => (false, []))
  | x => x
def pv (x : SV) : Nat → SV
  | 0 => shape x
  | k + 1 => match x with
    | .box cs => match cs[k]? with
      | some y => .comp false [y]
      | none => .tup []
    | .tup vs => match vs[k]? with
      | some y => .comp y.1 y.2
      | none => .tup []
    | _ => .tup []
theorem shape_box {x : SV} {cs : List CV} (h : shape x = .box cs) : ∃ ds, x = .box ds := by
  cases x <;> simp [shape] at h
  exact ⟨_, rfl⟩
theorem shape_map {x : SV} {k v : Ty} {xs : List (Den k × Den v)} {it : Option (Option (Den k × Den v))} (h : shape x = .mapb k v xs it) : x = .mapb k v xs it := by
  cases x <;> simp only [shape] at h <;> first | (cases h; done) | exact h
theorem shape_tup {x : SV} {vs : List (Bool × List CV)} (h : shape (.tup vs) = shape x) : ∃ us, x = .tup us ∧ us.length = vs.length := by
  cases x <;> simp only [shape] at h <;> first | (cases h; done) | skip
  rename_i us
  refine ⟨us, rfl, ?_⟩
  have := congrArg (fun x => match x with | SV.tup l => l.length | _ => 0) h
  simpa using this.symm
def isComp : SV → Bool
  | .comp _ _ => true
  | _ => false
theorem shape_eq {x y : SV} (h : shape x = shape y) (hb : isComp x = true) : y = x := by
  cases x <;> cases y <;> simp_all [shape, isComp]
theorem pv_ext {x y : SV} (h : ∀ c, pv x c = pv y c) : x = y := by
  have h0 := h 0
  cases x with
  | box cs =>
    obtain ⟨ds, rfl⟩ := shape_box (x := y) (cs := []) h0.symm
    congr 1
    apply List.ext_getElem?
    intro k
    have := h (k + 1)
    simp only [pv] at this
    cases h1 : cs[k]? <;> cases h2 : ds[k]? <;> simp_all
  | comp b cs => exact (shape_eq (x := .comp b cs) h0 rfl).symm
  | mapb k v xs it => exact (shape_map (x := y) h0.symm).symm
  | tup vs =>
    obtain ⟨us, rfl, _⟩ := shape_tup (x := y) h0
    congr 1
    apply List.ext_getElem?
    intro k
    have := h (k + 1)
    simp only [pv] at this
    cases h1 : vs[k]? <;> cases h2 : us[k]? <;> rw [h1, h2] at this <;> simp only at this <;> first | rfl | (cases this; done) | skip
    rename_i p q
    obtain ⟨p1, p2⟩ := p
    obtain ⟨q1, q2⟩ := q
    cases this
    rfl
theorem viewS_shape {t : Nat} {x y : SV} (h : shape x = shape y) : viewS t x = viewS t y := by
  cases x with
  | box cs =>
    obtain ⟨ds, rfl⟩ := shape_box (x := y) (cs := []) h.symm
    rfl
  | comp b cs => rw [shape_eq (x := .comp b cs) h rfl]
  | mapb k v xs it => rw [shape_map (x := y) h.symm]
  | tup vs =>
    obtain ⟨us, rfl, _⟩ := shape_tup (x := y) h
    rfl
def pin (s c : Nat) : Loc → Prop
  | .shape t => s = t ∧ c = 0
  | .cells t lo n => s = t ∧ lo < c ∧ c ≤ lo + n
  | .whole t => s = t
def Inn (s c : Nat) (L : List Loc) : Prop := ∃ l, l ∈ L ∧ pin s c l
theorem Inn.left {s c : Nat} {L M : List Loc} (h : Inn s c L) : Inn s c (L ++ M) := by
  obtain ⟨l, h1, h2⟩ := h; exact ⟨l, List.mem_append_left _ h1, h2⟩
theorem Inn.right {s c : Nat} {L M : List Loc} (h : Inn s c M) : Inn s c (L ++ M) := by
  obtain ⟨l, h1, h2⟩ := h; exact ⟨l, List.mem_append_right _ h1, h2⟩
theorem Inn.cons {s c : Nat} {l : Loc} {M : List Loc} (h : Inn s c M) : Inn s c (l :: M) := by
  obtain ⟨l, h1, h2⟩ := h; exact ⟨l, List.mem_cons_of_mem _ h1, h2⟩
theorem Inn.head {s c : Nat} {l : Loc} {M : List Loc} (h : pin s c l) : Inn s c (l :: M) := ⟨l, List.mem_cons_self, h⟩
theorem Inn.or {s c : Nat} {L M : List Loc} (h : Inn s c (L ++ M)) : Inn s c L ∨ Inn s c M := by
  obtain ⟨l, h1, h2⟩ := h
  rcases List.mem_append.1 h1 with h1 | h1
  · exact .inl ⟨l, h1, h2⟩
  · exact .inr ⟨l, h1, h2⟩
theorem Inn.nil {s c : Nat} (h : Inn s c []) : False := by
  obtain ⟨l, h1, _⟩ := h; cases h1
theorem Inn.uncons {s c : Nat} {l : Loc} {M : List Loc} (h : Inn s c (l :: M)) : pin s c l ∨ Inn s c M := by
  obtain ⟨l', h1, h2⟩ := h
  cases h1 with
  | head => exact .inl h2
  | tail _ h1 => exact .inr ⟨l', h1, h2⟩
theorem ov_spec {l m : Loc} (h : ov l m = false) {s c : Nat} (h1 : pin s c l) (h2 : pin s c m) : False := by
  cases l <;> cases m <;> simp only [ov, pin] at *
  case shape.cells => omega
  case cells.shape => omega
  case cells.cells s' a n t b k =>
    obtain ⟨rfl, e1, e2⟩ := h1
    obtain ⟨rfl, e3, e4⟩ := h2
    rw [Nat.beq_refl, show a.blt (b + k) = true from Nat.ble_eq_true_of_le (show a + 1 ≤ b + k by omega), show b.blt (a + n) = true from Nat.ble_eq_true_of_le (show b + 1 ≤ a + n by omega)] at h
    cases h
  all_goals
    have e : ∀ {x y : Nat}, s = x → s = y → x.beq y = true := fun h1 h2 => by subst h1; subst h2; exact Nat.beq_refl _
    first
      | (rw [e h1 h2] at h; cases h)
      | (rw [e h1.1 h2] at h; cases h)
      | (rw [e h1 h2.1] at h; cases h)
      | (rw [e h1.1 h2.1] at h; cases h)
theorem disj_spec {L M : List Loc} (h : disj L M = true) {s c : Nat} (h1 : Inn s c L) (h2 : Inn s c M) : False := by
  obtain ⟨l, a1, a2⟩ := h1
  obtain ⟨m, b1, b2⟩ := h2
  have := List.all_eq_true.1 (List.all_eq_true.1 h l a1) m b1
  exact ov_spec (by simpa using this) a2 b2
def Agr (fr fr' : Fr) (L : List Loc) : Prop := ∀ s c, Inn s c L → pv (fr s) c = pv (fr' s) c
theorem Agr.sub {fr fr' : Fr} {L M : List Loc} (h : Agr fr fr' M) (hs : ∀ s c, Inn s c L → Inn s c M) : Agr fr fr' L := fun s c hi => h s c (hs s c hi)
theorem Agr.left {fr fr' : Fr} {L M : List Loc} (h : Agr fr fr' (L ++ M)) : Agr fr fr' L := h.sub fun _ _ => Inn.left
theorem Agr.right {fr fr' : Fr} {L M : List Loc} (h : Agr fr fr' (L ++ M)) : Agr fr fr' M := h.sub fun _ _ => Inn.right
theorem Agr.tail {fr fr' : Fr} {l : Loc} {M : List Loc} (h : Agr fr fr' (l :: M)) : Agr fr fr' M := h.sub fun _ _ => Inn.cons
theorem Agr.shape {fr fr' : Fr} {s : Nat} {L : List Loc} (h : Agr fr fr' L) (hm : Loc.shape s ∈ L) : Rv.shape (fr s) = Rv.shape (fr' s) := h s 0 ⟨_, hm, rfl, rfl⟩
theorem Agr.whole {fr fr' : Fr} {s : Nat} {L : List Loc} (h : Agr fr fr' L) (hm : Loc.whole s ∈ L) : fr s = fr' s := pv_ext fun c => h s c ⟨_, hm, rfl⟩
theorem shapes_mem {xs : List Operand} {t : Nat} (h : Operand.tmp t ∈ xs) : Loc.shape t ∈ shapes xs := by
  induction xs with
  | nil => cases h
  | cons x xs ih =>
    cases h with
    | head => exact List.mem_cons_self
    | tail _ h =>
      cases x with
      | tmp u => exact List.mem_cons_of_mem _ (ih h)
      | _ => exact ih h
theorem Agr.opd {fr fr' : Fr} {xs : List Operand} (h : Agr fr fr' (shapes xs)) {x : Operand} (hx : x ∈ xs) : opd fr' x = opd fr x := by
  cases x with
  | tmp t =>
    simp only [Rv.opd]
    exact (viewS_shape (h.shape (shapes_mem hx))).symm
  | _ => rfl
structure Like (F : Option Fr) (fr' fr1 : Fr) (W : List Loc) : Prop where
  ex : ∃ fr1', F = some fr1' ∧ (∀ s c, Inn s c W → pv (fr1 s) c = pv (fr1' s) c) ∧ ∀ s c, ¬ Inn s c W → pv (fr1' s) c = pv (fr' s) c
section
variable {X : Env} {E : FuncId → Option Fn} {fr fr' fr1 : Fr} {o : Oper}
theorem upd_like {d : Nat} {v : SV} {W : List Loc} (hW : Loc.whole d ∈ W) (hs : ∀ s c, Inn s c W → s = d) : Like (some (upd fr' d v)) fr' (upd fr d v) W := by
  refine ⟨_, rfl, fun s c hi => ?_, fun s c hi => ?_⟩
  · have := hs s c hi
    subst this
    rw [upd_same, upd_same]
  · have : s ≠ d := fun e => hi (e ▸ ⟨_, hW, rfl⟩)
    rw [upd_ne _ _ _ this]
theorem fin_like {d : Option Nat} {v : SV} (h : fin X fr d v some = some fr1) (ha : Agr fr fr' (dstR d)) : Like (fin X fr' d v some) fr' fr1 (dstW d) := by
  cases d with
  | none =>
    cases h
    exact ⟨_, rfl, fun s c hi => hi.nil.elim, fun s c _ => rfl⟩
  | some d =>
    have hsh := ha.shape (s := d) List.mem_cons_self
    have hb : notBox (fr' d) = notBox (fr d) := by
      cases h1 : fr d with
      | mapb kk vv xx ii => rw [h1] at hsh; rw [shape_map hsh.symm]
      | _ => cases h2 : fr' d <;> rw [h1, h2] at hsh <;> simp_all [Rv.shape, notBox]
    simp only [fin, setD] at h ⊢
    rw [hb]
    cases hc : (d.blt X.n && (notBox (fr d) && !X.keep.contains d))
    · rw [hc] at h; cases h
    · rw [hc] at h
      cases h
      exact upd_like List.mem_cons_self (fun s c hi => by
        rcases hi.uncons with h | h
        · exact h
        · exact h.nil.elim)
def finv (X : Env) (d : Option Nat) (v : Option SV) (fr : Fr) : Option Fr := match v with
  | some v => fin X fr d v some
  | none => none
theorem finv_like {d : Option Nat} {A B : Option Fr} (hv : ∃ v, A = finv X d v fr ∧ B = finv X d v fr') (h : A = some fr1) (ha : Agr fr fr' (dstR d)) : Like B fr' fr1 (dstW d) := by
  obtain ⟨v, rfl, rfl⟩ := hv
  cases v with
  | none => cases h
  | some v => exact fin_like h ha
theorem arith_v {op : BinOp} {k : IntKind} {a b : Int} (J J' : CV → Option Fr) : ∃ c : Option CV, arith op k a b J = c.bind J ∧ arith op k a b J' = c.bind J' := by
  unfold arith
  cases op <;> first | exact ⟨none, rfl, rfl⟩ | exact ⟨some _, rfl, rfl⟩ | (simp only; split <;> first | exact ⟨none, rfl, rfl⟩ | exact ⟨some _, rfl, rfl⟩)
theorem bif_v {b : Bool} {x y : Option Fr} {J J' : CV → Option Fr} (h : ∃ c : Option CV, x = c.bind J ∧ y = c.bind J') : ∃ c : Option CV, (bif b then x else none) = c.bind J ∧ (bif b then y else none) = c.bind J' := by
  cases b
  · exact ⟨none, rfl, rfl⟩
  · exact h
theorem binop_v {isB isS : Bool} {op : BinOp} {x y : CV} (J J' : CV → Option Fr) : ∃ c : Option CV, binop isB isS op x y J = c.bind J ∧ binop isB isS op x y J' = c.bind J' := by
  unfold binop
  split
  · split
    · exact arith_v J J'
    · exact ⟨none, rfl, rfl⟩
  · exact bif_v (by cases op <;> first | exact ⟨none, rfl, rfl⟩ | exact ⟨some _, rfl, rfl⟩)
  · exact bif_v (by cases op <;> first | exact ⟨none, rfl, rfl⟩ | (simp only; split <;> first | exact ⟨none, rfl, rfl⟩ | exact ⟨some _, rfl, rfl⟩))
  · exact ⟨none, rfl, rfl⟩
theorem index_v {u : Option Ty} {c : CV} {i : Int} (J J' : CV → Option Fr) : ∃ e : Option CV, indexAddr u c i J = e.bind J ∧ indexAddr u c i J' = e.bind J' := by
  unfold indexAddr
  split <;> first | exact ⟨none, rfl, rfl⟩ | exact bif_v (by split <;> first | exact ⟨none, rfl, rfl⟩ | (split <;> first | exact ⟨none, rfl, rfl⟩ | exact ⟨some _, rfl, rfl⟩))
theorem cv_v {d : Option Nat} {A B : Option Fr} (h : ∃ c : Option CV, A = c.bind (fun c => fin X fr d (.comp false [c]) some) ∧ B = c.bind (fun c => fin X fr' d (.comp false [c]) some)) : ∃ v, A = finv X d v fr ∧ B = finv X d v fr' := by
  obtain ⟨c, rfl, rfl⟩ := h
  cases c with
  | none => exact ⟨none, rfl, rfl⟩
  | some c => exact ⟨some _, rfl, rfl⟩
theorem bif_f {d : Option Nat} {b : Bool} {x y : Option Fr} (h : ∃ v, x = finv X d v fr ∧ y = finv X d v fr') : ∃ v, (bif b then x else none) = finv X d v fr ∧ (bif b then y else none) = finv X d v fr' := by
  cases b
  · exact ⟨none, rfl, rfl⟩
  · exact h
theorem rowParts_eq {t : Ty} : ∀ (ps : List (Nat × Operand)) (k : Nat), (∀ x ∈ ps.map (fun p => p.2), opd fr' x = opd fr x) → rowParts fr' t k ps = rowParts fr t k ps
  | [], k, h => rfl
  | (i, x) :: r, k, h => by
    simp only [rowParts]
    rw [h x (by simp), rowParts_eq r (k + 1) (fun y hy => h y (List.mem_cons_of_mem _ hy))]
theorem pure_like {xs : List Operand} (hp : ∃ v, stepOp X E o fr some = finv X o.dst v fr ∧ stepOp X E o fr' some = finv X o.dst v fr') (h : stepOp X E o fr some = some fr1) (ha : Agr fr fr' (shapes xs ++ dstR o.dst)) : Like (stepOp X E o fr' some) fr' fr1 (dstW o.dst) := finv_like hp h ha.right
theorem pick_v {c x y : Operand} (ho : o.op = .pick c x y) (hx : ∀ z ∈ [c, x, y], opd fr' z = opd fr z) : ∃ v, stepOp X E o fr some = finv X o.dst v fr ∧ stepOp X E o fr' some = finv X o.dst v fr' := by
  unfold stepOp; rw [ho]; simp only [opc, hx c (by simp), hx x (by simp), hx y (by simp)]; (repeat' first | exact ⟨some _, rfl, rfl⟩ | exact ⟨none, rfl, rfl⟩ | refine bif_f ?_ | exact cv_v (binop_v _ _) | exact cv_v (index_v _ _) | split)
theorem bin_v (hd : X.dr = true) {op : BinOp} {t ty : TypeId} {x y : Operand} (ho : o.op = .binOp op t x y ty) (hx : ∀ z ∈ [x, y], opd fr' z = opd fr z) : ∃ v, stepOp X E o fr some = finv X o.dst v fr ∧ stepOp X E o fr' some = finv X o.dst v fr' := by
  unfold stepOp; rw [ho]; simp only [opc, hx x (by simp), hx y (by simp), nilOp, hd, cond_true]; (repeat' first | exact ⟨some _, rfl, rfl⟩ | exact ⟨none, rfl, rfl⟩ | refine bif_f ?_ | exact cv_v (binop_v _ _) | exact cv_v (index_v _ _) | split)
theorem un_v {op : UnOp} {t : TypeId} {x : Operand} (ho : o.op = .unOp op t x) (hx : ∀ z ∈ [x], opd fr' z = opd fr z) : ∃ v, stepOp X E o fr some = finv X o.dst v fr ∧ stepOp X E o fr' some = finv X o.dst v fr' := by
  unfold stepOp; rw [ho]; simp only [opc, hx x (by simp)]; (repeat' first | exact ⟨some _, rfl, rfl⟩ | exact ⟨none, rfl, rfl⟩ | refine bif_f ?_ | exact cv_v (binop_v _ _) | exact cv_v (index_v _ _) | split)
theorem convert_v {s t : TypeId} {x : Operand} (ho : o.op = .convert s t x) (hx : ∀ z ∈ [x], opd fr' z = opd fr z) : ∃ v, stepOp X E o fr some = finv X o.dst v fr ∧ stepOp X E o fr' some = finv X o.dst v fr' := by
  unfold stepOp; rw [ho]; simp only [opc, hx x (by simp)]; (repeat' first | exact ⟨some _, rfl, rfl⟩ | exact ⟨none, rfl, rfl⟩ | refine bif_f ?_ | exact cv_v (binop_v _ _) | exact cv_v (index_v _ _) | split)
theorem nil_v {x : Operand} (ho : o.op = .nilCheck x) (hx : ∀ z ∈ [x], opd fr' z = opd fr z) : ∃ v, stepOp X E o fr some = finv X o.dst v fr ∧ stepOp X E o fr' some = finv X o.dst v fr' := by
  unfold stepOp; rw [ho]; simp only [opc, hx x (by simp)]; (repeat' first | exact ⟨some _, rfl, rfl⟩ | exact ⟨none, rfl, rfl⟩ | refine bif_f ?_ | exact cv_v (binop_v _ _) | exact cv_v (index_v _ _) | split)
theorem fieldAddr_v {t : TypeId} {x : Operand} {f : Nat} (ho : o.op = .fieldAddr t x f) (hx : ∀ z ∈ [x], opd fr' z = opd fr z) : ∃ v, stepOp X E o fr some = finv X o.dst v fr ∧ stepOp X E o fr' some = finv X o.dst v fr' := by
  unfold stepOp; rw [ho]; simp only [opc, hx x (by simp)]; (repeat' first | exact ⟨some _, rfl, rfl⟩ | exact ⟨none, rfl, rfl⟩ | refine bif_f ?_ | exact cv_v (binop_v _ _) | exact cv_v (index_v _ _) | split)
theorem field_v {t : TypeId} {x : Operand} {f : Nat} (ho : o.op = .field t x f) (hx : ∀ z ∈ [x], opd fr' z = opd fr z) : ∃ v, stepOp X E o fr some = finv X o.dst v fr ∧ stepOp X E o fr' some = finv X o.dst v fr' := by
  unfold stepOp; rw [ho]; simp only [opc, hx x (by simp)]; (repeat' first | exact ⟨some _, rfl, rfl⟩ | exact ⟨none, rfl, rfl⟩ | refine bif_f ?_ | exact cv_v (binop_v _ _) | exact cv_v (index_v _ _) | split)
theorem index2_v {t : TypeId} {x y : Operand} (ho : o.op = .indexAddr t x y) (hx : ∀ z ∈ [x, y], opd fr' z = opd fr z) : ∃ v, stepOp X E o fr some = finv X o.dst v fr ∧ stepOp X E o fr' some = finv X o.dst v fr' := by
  unfold stepOp; rw [ho]; simp only [opc, hx x (by simp), hx y (by simp)]; (repeat' first | exact ⟨some _, rfl, rfl⟩ | exact ⟨none, rfl, rfl⟩ | refine bif_f ?_ | exact cv_v (binop_v _ _) | exact cv_v (index_v _ _) | split)
theorem makeSlice_v {t : TypeId} {x y : Operand} (ho : o.op = .makeSlice t x y) (hx : ∀ z ∈ [x, y], opd fr' z = opd fr z) : ∃ v, stepOp X E o fr some = finv X o.dst v fr ∧ stepOp X E o fr' some = finv X o.dst v fr' := by
  unfold stepOp; rw [ho]; simp only [opc, hx x (by simp), hx y (by simp)]; (repeat' first | exact ⟨some _, rfl, rfl⟩ | exact ⟨none, rfl, rfl⟩ | refine bif_f ?_ | exact cv_v (binop_v _ _) | exact cv_v (index_v _ _) | split)
theorem slice_v {t : TypeId} {x l : Operand} (ho : o.op = .slice t x (some l) none none) (hx : ∀ z ∈ [x, l], opd fr' z = opd fr z) : ∃ v, stepOp X E o fr some = finv X o.dst v fr ∧ stepOp X E o fr' some = finv X o.dst v fr' := by
  unfold stepOp; rw [ho]; simp only [opc, hx x (by simp)]; cases one (opd fr x) <;> simp only [hx l (by simp)] <;> (repeat' first | exact ⟨some _, rfl, rfl⟩ | exact ⟨none, rfl, rfl⟩ | refine bif_f ?_ | exact cv_v (binop_v _ _) | exact cv_v (index_v _ _) | split)
theorem cutS_v {u : Option Ty} {c : CV} {l h : Int} {d : Option Nat} : ∃ v, cutS u c l h (fun c => fin X fr d (.comp false [c]) some) = finv X d v fr ∧ cutS u c l h (fun c => fin X fr' d (.comp false [c]) some) = finv X d v fr' := by
  unfold cutS
  cases c <;> (try simp only) <;> (repeat' first | exact ⟨some _, rfl, rfl⟩ | exact ⟨none, rfl, rfl⟩ | refine bif_f ?_ | split)
theorem slice2_v (hd : X.dr = true) {t : TypeId} {x h : Operand} {lo : Option Operand} (ho : o.op = .slice t x lo (some h) none) (hx : ∀ z ∈ x :: h :: lo.toList, opd fr' z = opd fr z) : ∃ v, stepOp X E o fr some = finv X o.dst v fr ∧ stepOp X E o fr' some = finv X o.dst v fr' := by
  have hl : lowB fr' lo = lowB fr lo := by
    cases lo with
    | none => rfl
    | some y => simp only [lowB, opc, hx y (by simp)]
  unfold stepOp; rw [ho]; simp only [opc, hx x (by simp), hx h (by simp), hl, hd, Bool.not_true, Bool.and_false, cond_false, cutOp]
  cases one (opd fr x) <;> (cases lowB fr lo <;> first | exact ⟨none, rfl, rfl⟩ | (cases one (opd fr h) <;> first | exact ⟨none, rfl, rfl⟩ | exact cutS_v))
theorem buildSlice_v {t : TypeId} {n : Nat} {ps : Array (Nat × Operand)} (ho : o.op = .buildSlice t n ps) {u : Ty} (hu : X.slf t = some u) (hx : ∀ z ∈ ps.toList.map (fun p => p.2), opd fr' z = opd fr z) : ∃ v, stepOp X E o fr some = finv X o.dst v fr ∧ stepOp X E o fr' some = finv X o.dst v fr' := by
  unfold stepOp; rw [ho]; simp only [hu, rowParts_eq ps.toList _ hx]
  cases rowParts fr u 0 ps.toList with
  | none => exact ⟨none, rfl, rfl⟩
  | some xs =>
    simp only
    cases (ps.toList.length.beq n && (n * u.cells).ble 16777216)
    · exact ⟨none, rfl, rfl⟩
    · exact ⟨some _, rfl, rfl⟩
theorem alloc_v {t : TypeId} (ho : o.op = .alloc t) : ∃ v, stepOp X E o fr some = finv X o.dst v fr ∧ stepOp X E o fr' some = finv X o.dst v fr' := by
  unfold stepOp; rw [ho]; simp only
  cases X.ti t with
  | none => exact ⟨none, rfl, rfl⟩
  | some i => cases hd : o.dst with
    | none => exact ⟨none, rfl, rfl⟩
    | some d => exact ⟨some _, rfl, rfl⟩
theorem box_v (hdr : X.dr = true) {t : TypeId} {x : Operand} (ho : o.op = .box t x) (hx : ∀ z ∈ [x], opd fr' z = opd fr z) : ∃ v, stepOp X E o fr some = finv X o.dst v fr ∧ stepOp X E o fr' some = finv X o.dst v fr' := by
  unfold stepOp; rw [ho]; simp only [hx x (by simp), hdr, Bool.not_true, Bool.and_false, cond_false]
  cases hd : o.dst with
  | none => exact ⟨none, rfl, rfl⟩
  | some d =>
    simp only
    (repeat' first | exact ⟨some _, rfl, rfl⟩ | exact ⟨none, rfl, rfl⟩ | refine bif_f ?_ | exact cv_v (binop_v _ _) | exact cv_v (index_v _ _) | split)
theorem makeFunc_v {f} {first caps : Array Operand} (ho : o.op = .makeFunc f first caps) (hx : ∀ z ∈ caps.toList, opd fr' z = opd fr z) : ∃ v, stepOp X E o fr some = finv X o.dst v fr ∧ stepOp X E o fr' some = finv X o.dst v fr' := by
  have h1 : caps.toList.map (opc fr') = caps.toList.map (opc fr) := List.map_congr_left fun x hm => by simp only [opc, hx x hm]
  have h2 : (caps.toList.all fun x => capOk (opc fr' x)) = caps.toList.all fun x => capOk (opc fr x) := by
    rw [Bool.eq_iff_iff]
    simp only [List.all_eq_true]
    exact forall_congr' fun x => forall_congr' fun hm => by simp only [opc, hx x hm]
  unfold stepOp; rw [ho]
  cases f <;> simp only [h1, h2] <;> (repeat' first | exact ⟨some _, rfl, rfl⟩ | exact ⟨none, rfl, rfl⟩ | refine bif_f ?_ | exact cv_v (binop_v _ _) | exact cv_v (index_v _ _) | split)
theorem minmax_v {c : Call} (ho : o.op = .call c) (hc : c.callee = .builtin .len ∨ c.callee = .builtin .min ∨ c.callee = .builtin .max) (hx : ∀ z ∈ c.args.toList, opd fr' z = opd fr z) : ∃ v, stepOp X E o fr some = finv X o.dst v fr ∧ stepOp X E o fr' some = finv X o.dst v fr' := by
  unfold stepOp; rw [ho]; simp only
  generalize c.args.toList = xs at hx ⊢
  rcases hc with hc | hc | hc <;> rw [hc] <;> simp only
  · split
    · rename_i t x _ 
      simp only [opc, hx x (by simp)]; (repeat' first | exact ⟨some _, rfl, rfl⟩ | exact ⟨none, rfl, rfl⟩ | refine bif_f ?_ | exact cv_v (binop_v _ _) | exact cv_v (index_v _ _) | split)
    · exact ⟨none, rfl, rfl⟩
  · split
    · rename_i x y
      simp only [opc, hx x (by simp), hx y (by simp)]; (repeat' first | exact ⟨some _, rfl, rfl⟩ | exact ⟨none, rfl, rfl⟩ | refine bif_f ?_ | exact cv_v (binop_v _ _) | exact cv_v (index_v _ _) | split)
    · exact ⟨none, rfl, rfl⟩
  · split
    · rename_i x y
      simp only [opc, hx x (by simp), hx y (by simp)]; (repeat' first | exact ⟨some _, rfl, rfl⟩ | exact ⟨none, rfl, rfl⟩ | refine bif_f ?_ | exact cv_v (binop_v _ _) | exact cv_v (index_v _ _) | split)
    · exact ⟨none, rfl, rfl⟩
end
end Go.Rv
namespace Go.Rv
section
variable {X : Env} {E : FuncId → Option Fn} {fr fr' fr1 : Fr} {o : Oper}
def viewC (s c : Nat) : CV → CV
  | .own t xs => .ref s c t xs
  | .tmpo t xs => .hi t xs
  | x => x
theorem view1_get (s : Nat) : ∀ (cs : List CV) (c k : Nat), (view1 s c cs)[k]? = (cs[k]?).map (viewC s (c + k))
  | [], c, k => by simp [view1]
  | x :: cs, c, k => by
    have h1 : view1 s c (x :: cs) = viewC s c x :: view1 s (c + 1) cs := by cases x <;> rfl
    rw [h1]
    cases k with
    | zero => simp
    | succ k => simp only [List.getElem?_cons_succ]; rw [view1_get s cs (c + 1) k, show c + 1 + k = c + (k + 1) by omega]
theorem view1_len (s : Nat) (cs : List CV) (c : Nat) : (view1 s c cs).length = cs.length := by
  induction cs generalizing c with
  | nil => rfl
  | cons x cs ih =>
    have h1 : view1 s c (x :: cs) = viewC s c x :: view1 s (c + 1) cs := by cases x <;> rfl
    rw [h1]; simp [ih]
theorem box_cells {s c n : Nat} {L : List Loc} (ha : Agr fr fr' L) (h1 : Loc.shape s ∈ L) (h2 : Loc.cells s c n ∈ L) {cs : List CV} (hb : fr s = .box cs) : ∃ ds, fr' s = .box ds ∧ ∀ k, c ≤ k → k < c + n → ds[k]? = cs[k]? := by
  have hsh := ha.shape h1
  rw [hb] at hsh
  obtain ⟨ds, hd⟩ := shape_box (x := fr' s) (cs := []) hsh.symm
  refine ⟨ds, hd, fun k hk hl => ?_⟩
  have := ha s (k + 1) ⟨_, h2, rfl, by omega, by omega⟩
  rw [hb, hd] at this
  simp only [pv] at this
  cases q1 : cs[k]? <;> cases q2 : ds[k]? <;> simp_all
theorem load_agr {s c n : Nat} {L : List Loc} (ha : Agr fr fr' L) (h1 : Loc.shape s ∈ L) (h2 : Loc.cells s c n ∈ L) {vs : List CV} (h : load fr (.ptr s c) n = some vs) : load fr' (.ptr s c) n = some vs := by
  simp only [load] at h ⊢
  cases hb : fr s with
  | comp b cs => rw [hb] at h; cases h
  | tup vs => rw [hb] at h; cases h
  | mapb kk vv xx ii => rw [hb] at h; cases h
  | box cs =>
    obtain ⟨ds, hd, hc⟩ := box_cells ha h1 h2 hb
    rw [hb] at h
    rw [hd]
    simp only [takeN] at h ⊢
    obtain ⟨hn, h⟩ := bif_some h
    cases h
    have hn := Nat.le_of_ble_eq_true hn
    rw [List.length_drop, view1_len] at hn
    by_cases hz : n = 0
    · subst hz; rw [show Nat.ble 0 (List.drop c (view1 s 1 ds)).length = true from Nat.ble_eq_true_of_le (Nat.zero_le _)]; simp
    have hlen : c + n ≤ ds.length := by
      have := hc (c + n - 1) (by omega) (by omega)
      rw [List.getElem?_eq_getElem (show c + n - 1 < cs.length by omega)] at this
      have := (List.getElem?_eq_some_iff.1 this).1
      omega
    rw [show n.ble ((view1 s 1 ds).drop c).length = true from Nat.ble_eq_true_of_le (by rw [List.length_drop, view1_len]; omega)]
    simp only [cond_true, Option.some.injEq]
    apply List.ext_getElem?
    intro k
    rw [List.getElem?_take, List.getElem?_take]
    split
    · rw [List.getElem?_drop, List.getElem?_drop, view1_get, view1_get, hc (c + k) (by omega) (by omega)]
    · rfl
theorem load_like {t : TypeId} {x : Operand} (ho : o.op = .load t x) {R W : List Loc} (hf : foot X E o fr = some (R, W)) (ha : Agr fr fr' R) (h : stepOp X E o fr some = some fr1) : foot X E o fr' = some (R, W) ∧ Like (stepOp X E o fr' some) fr' fr1 W := by
  unfold foot at hf
  rw [ho] at hf
  simp only at hf
  by_cases hp : ∃ s c, opc fr x = .ptr s c
  · obtain ⟨s, c, hp⟩ := hp
    rw [hp] at hf
    simp only at hf
    cases hi : X.ti t with
    | none => rw [hi] at hf; cases hf
    | some i =>
      rw [hi] at hf
      simp only [Option.some.injEq, Prod.mk.injEq] at hf
      obtain ⟨rfl, rfl⟩ := hf
      have hx : opd fr' x = opd fr x := (ha.tail.tail.left).opd (by simp)
      refine ⟨?_, ?_⟩
      · unfold foot
        rw [ho]
        simp only [show opc fr' x = .ptr s c by simp only [opc, hx]; exact hp, hi]
      · refine finv_like (X := X) ?_ h ha.tail.tail.right
        unfold stepOp at h ⊢
        rw [ho] at h ⊢
        simp only [hi, hp, show opc fr' x = .ptr s c by simp only [opc, hx]; exact hp] at h ⊢
        cases hl : load fr (.ptr s c) i.ty.cells with
        | none => rw [hl] at h; cases h
        | some vs =>
          rw [load_agr ha List.mem_cons_self (List.mem_cons_of_mem _ List.mem_cons_self) hl]
          exact ⟨some _, rfl, rfl⟩
  · have hf2 : some (R, W) = pureFoot o [x] := by
      rw [← hf]
      cases hc : opc fr x <;> first | rfl | exact (hp ⟨_, _, hc⟩).elim
    simp only [pureFoot, Option.some.injEq, Prod.mk.injEq] at hf2
    obtain ⟨rfl, rfl⟩ := hf2
    have hx : opd fr' x = opd fr x := ha.left.opd (by simp)
    have hxc : opc fr' x = opc fr x := by simp only [opc, hx]
    refine ⟨?_, finv_like (X := X) ?_ h ha.right⟩
    · unfold foot
      rw [ho]
      simp only [hxc]
      cases hc : opc fr x <;> first | rfl | exact (hp ⟨_, _, hc⟩).elim
    · unfold stepOp
      rw [ho]
      simp only [hxc]
      cases X.ti t with
      | none => exact ⟨none, rfl, rfl⟩
      | some i =>
        cases hc : opc fr x <;> first | exact (hp ⟨_, _, hc⟩).elim | skip
        all_goals
          simp only [load]
          (repeat' first | exact ⟨some _, rfl, rfl⟩ | exact ⟨none, rfl, rfl⟩ | refine bif_f ?_ | exact cv_v (binop_v _ _) | exact cv_v (index_v _ _) | split)
theorem argP_eq {L : List Loc} (ha : Agr fr fr' L) : ∀ (cs : List CV), (∀ l ∈ boxesP cs, l ∈ L) → ∀ c ∈ cs, argP fr' c = argP fr c
  | [], _, c, hc => by cases hc
  | x :: cs, hb, c, hc => by
    have hb' : ∀ l ∈ boxesP cs, l ∈ L := fun l hl => hb l (by cases x <;> simp only [boxesP] <;> first | exact hl | exact List.mem_cons_of_mem _ hl)
    rcases List.mem_cons.1 hc with rfl | hc
    · cases c <;> simp only [argP]
      case ptr s k => rw [ha.whole (s := s) (hb _ (by simp [boxesP]))]
    · exact argP_eq ha cs hb' c hc
theorem argCV_eq {L : List Loc} (ha : Agr fr fr' L) : ∀ (cs : List CV), (∀ l ∈ boxes cs, l ∈ L) → ∀ c ∈ cs, argCV fr' c = argCV fr c
  | [], _, c, hc => by cases hc
  | x :: cs, hb, c, hc => by
    have hb' : ∀ l ∈ boxes cs, l ∈ L := fun l hl => hb l (by cases x <;> simp only [boxes] <;> first | exact hl | exact List.mem_cons_of_mem _ hl | exact List.mem_append_right _ hl)
    rcases List.mem_cons.1 hc with rfl | hc
    · cases c <;> simp only [argCV]
      case ptr s k => simp only [argP]; rw [ha.whole (s := s) (hb _ (by simp [boxes]))]
      case fn f caps =>
        congr 1
        exact List.map_congr_left fun c hc => argP_eq ha caps (fun l hl => hb l (by simp only [boxes]; exact List.mem_append_left _ hl)) c hc
      all_goals rfl
    · exact argCV_eq ha cs hb' c hc
theorem argsOf_eq : ∀ (xs : List Operand), (∀ x ∈ xs, opd fr' x = opd fr x) → argsOf fr' xs = argsOf fr xs
  | [], _ => rfl
  | x :: xs, h => by simp only [argsOf]; rw [h x (by simp), argsOf_eq xs fun y hy => h y (List.mem_cons_of_mem _ hy)]
theorem argBoxes_eq : ∀ (xs : List Operand), (∀ x ∈ xs, opd fr' x = opd fr x) → argBoxes fr' xs = argBoxes fr xs
  | [], _ => rfl
  | x :: xs, h => by simp only [argBoxes]; rw [h x (by simp), argBoxes_eq xs fun y hy => h y (List.mem_cons_of_mem _ hy)]
theorem argBoxes_mem : ∀ {xs : List Operand} {x : Operand}, x ∈ xs → ∀ l ∈ boxes (opd fr x).2, l ∈ argBoxes fr xs
  | y :: xs, x, hx, l, hl => by
    simp only [argBoxes]
    rcases List.mem_cons.1 hx with rfl | hx
    · exact List.mem_append_left _ hl
    · exact List.mem_append_right _ (argBoxes_mem hx l hl)
theorem argsOf_mem : ∀ {xs : List Operand} {p : Comp}, p ∈ argsOf fr xs → ∃ x ∈ xs, p = opd fr x
  | x :: xs, p, h => by
    simp only [argsOf] at h
    rcases List.mem_cons.1 h with rfl | h
    · exact ⟨x, List.mem_cons_self, rfl⟩
    · obtain ⟨y, h1, h2⟩ := argsOf_mem h
      exact ⟨y, List.mem_cons_of_mem _ h1, h2⟩
theorem callFn_v {F : Fn} (hm : F.muts = []) {args : List Comp} (h : ∀ p ∈ args, ∀ c ∈ p.2, argCV fr' c = argCV fr c) {d : Option Nat} : ∃ v, callFn X F fr args d some = finv X d v fr ∧ callFn X F fr' args d some = finv X d v fr' := by
  have hl : (args.map fun p => (p.1, p.2.map (argCV fr'))) = args.map fun p => (p.1, p.2.map (argCV fr)) :=
    List.map_congr_left fun p hp => by rw [List.map_congr_left fun c hc => h p hp c hc]
  unfold callFn
  simp only [hm, argsConv_nil, hl, placesOf, List.isEmpty_nil, Bool.true_or, cond_true]
  rw [F.nat]
  conv => enter [1, v, 2]; rw [F.nat]
  cases F.run _ some with
  | none => exact ⟨none, rfl, rfl⟩
  | some res =>
    simp only [Option.bind_some]
    cases (!res.all fun c => c.2.length.blt 4096)
    · exact ⟨some _, rfl, rfl⟩
    · exact ⟨none, rfl, rfl⟩
theorem one_mem {p : Comp} {c : CV} (h : one p = c) (hc : c ≠ .dead) : c ∈ p.2 := by
  unfold one at h
  split at h
  · simp [h]
  · exact (hc h.symm).elim
end
end Go.Rv
namespace Go.Rv
section
variable {X : Env} {E : FuncId → Option Fn} {fr fr' fr1 : Fr} {o : Oper}
theorem view_plain {s : Nat} : ∀ {cs : List CV} {c : Nat}, cs.any hasOwner = false → view1 s c cs = cs
  | [], c, _ => rfl
  | x :: cs, c, h => by
    simp only [List.any_cons, Bool.or_eq_false_iff] at h
    have ih := view_plain (s := s) (c := c + 1) h.2
    cases x <;> simp only [view1, ih] <;> simp [hasOwner] at h
theorem takeSlot_plain {s : Nat} {gg : Bool} {cs : List CV} (hs : fr s = .comp gg cs) (h : cs.any hasOwner = false) : ∀ (n c : Nat), c + n = cs.length → takeSlot fr s n (c + 1) = (cs.drop c, fr)
  | 0, c, hc => by simp only [takeSlot]; rw [List.drop_of_length_le (by omega)]
  | n + 1, c, hc => by
    have hlt : c < cs.length := by omega
    have hcell : cellAt fr s (c + 1) = cs[c] := by unfold cellAt; rw [hs]; simp [List.getD_eq_getElem?_getD, hlt]
    have hno : hasOwner cs[c] = false := by
      rw [Bool.eq_false_iff]
      intro e
      rw [Bool.eq_false_iff] at h
      exact h (List.any_eq_true.2 ⟨_, List.getElem_mem hlt, e⟩)
    have ht : takeAt fr s (c + 1) = (cs[c], fr) := by
      unfold takeAt
      rw [hcell]
      cases hq : cs[c] <;> rw [hq] at hno <;> first | rfl | (simp [hasOwner] at hno)
    simp only [takeSlot, ht]
    rw [takeSlot_plain hs h n (c + 1) (by omega), List.drop_eq_getElem_cons hlt]
theorem take_plain {x : Operand} (h : ownOp fr x = false) : takeOpd fr x = (opd fr x, fr) := by
  unfold takeOpd
  cases x with
  | tmp t =>
    simp only
    simp only [ownOp] at h
    cases hs : fr t with
    | comp gg cs =>
      rw [hs] at h
      simp only [takeSlot_plain hs h cs.length 0 (by omega), List.drop_zero, opd, viewS, hs, view_plain h]
    | box cs => rfl
    | tup vs => rfl
    | mapb kk vv xx ii => rfl
  | _ => rfl
theorem own_of_scalar {x : Operand} (h : (opd fr x).2.all isScalar = true) : ownOp fr x = false := by
  cases x with
  | tmp t =>
    simp only [ownOp]
    cases hs : fr t with
    | comp gg cs =>
      simp only [opd, viewS, hs] at h
      simp only
      have key : ∀ (cs : List CV) (c : Nat), (view1 t c cs).all isScalar = true → cs.any hasOwner = false := by
        intro cs
        induction cs with
        | nil => intro c _; rfl
        | cons y cs ih =>
          intro c h
          cases y <;> simp only [view1, List.all_cons, Bool.and_eq_true] at h <;> first | (simp [isScalar] at h; done) | simp only [List.any_cons, hasOwner, Bool.false_or, ih _ h.2]
      exact key cs 1 h
    | box cs => rfl
    | tup vs => rfl
    | mapb kk vv xx ii => rfl
  | _ => rfl
theorem ownOp_eq {x : Operand} {L : List Loc} (ha : Agr fr fr' L) (hx : ∀ t, x = .tmp t → Loc.shape t ∈ L) : ownOp fr' x = ownOp fr x := by
  cases x with
  | tmp t =>
    have hsh := ha.shape (hx t rfl)
    simp only [ownOp]
    cases hs : fr t with
    | comp gg cs => rw [hs] at hsh; rw [shape_eq (x := .comp gg cs) hsh rfl]
    | tup vs => rw [hs] at hsh; obtain ⟨us, hd, _⟩ := shape_tup hsh; rw [hd]
    | mapb kk vv xx ii => rw [hs] at hsh; rw [shape_map hsh.symm]
    | box cs => rw [hs] at hsh; obtain ⟨ds, hd⟩ := shape_box (x := fr' t) (cs := []) hsh.symm; rw [hd]
  | _ => rfl
theorem toOwn_scalar {cs : List CV} (h : cs.all isScalar = true) : cs.map toOwn = cs := by
  induction cs with
  | nil => rfl
  | cons c cs ih =>
    simp only [List.all_cons, Bool.and_eq_true] at h
    simp only [List.map_cons, ih h.2]
    cases c <;> first | rfl | simp [isScalar] at h
theorem toOwn_plain {cs : List CV} (h : cs.all isPlain = true) : cs.map toOwn = cs := by
  induction cs with
  | nil => rfl
  | cons c cs ih =>
    simp only [List.all_cons, Bool.and_eq_true] at h
    simp only [List.map_cons, ih h.2]
    cases c <;> first | rfl | simp [isPlain] at h
theorem fill_get {cs new cs' : List CV} {c : Nat} (h : fillCells cs c new = some cs') (k : Nat) : cs'[k]? = if c ≤ k ∧ k < c + new.length then new[k - c]? else cs[k]? := by
  unfold fillCells at h
  obtain ⟨hl, h⟩ := bif_some h
  have hl := Nat.le_of_ble_eq_true hl
  cases h
  by_cases h1 : k < c
  · rw [if_neg (by omega), List.append_assoc, List.getElem?_append_left (by simp; omega), List.getElem?_take, if_pos h1]
  · by_cases h2 : k < c + new.length
    · rw [if_pos ⟨by omega, h2⟩, List.append_assoc, List.getElem?_append_right (by simp; omega), List.getElem?_append_left (by simp; omega)]
      simp only [List.length_take]
      rw [show k - min c cs.length = k - c by omega]
    · rw [if_neg (by omega), List.getElem?_append_right (by simp; omega), List.getElem?_drop]
      congr 1
      simp only [List.length_append, List.length_take]; omega
theorem store_plain {dr gg : Bool} {s c : Nat} {ws : List CV} (h : ws.all isPlain = true) (fr : Fr) : store dr (.ptr s c) gg ws fr = match fr s with
    | .box cs => match fillCells cs c ws with
      | some cs' => some (upd fr s (.box cs'))
      | none => none
    | _ => none := by
  have hs : ws.all sure = true := List.all_eq_true.2 fun x hx => by
    have := List.all_eq_true.1 h x hx
    cases x <;> first | rfl | simp [isPlain] at this
  unfold store
  cases hf : fr s with
  | comp _ _ => simp only [hf]
  | tup _ => simp only [hf]
  | mapb kk vv xx ii => simp only [hf]
  | box cs =>
    simp only [hf]
    cases dr
    · simp only [cond_false, toOwn_plain h, h, cond_true]
      cases fillCells cs c ws <;> rfl
    · simp only [cond_true, hs, Bool.or_true]
      cases fillCells cs c ws <;> rfl
def Refs (S : Nat → Prop) (T : Nat → Nat → Prop) (x : SV) : Prop := ∀ gg cs, x = .comp gg cs → ∀ s c t xs, CV.ref s c t xs ∈ cs → S s ∧ (0 < c → T s c)
structure Twin (S : Nat → Prop) (T : Nat → Nat → Prop) (fr fr' fr1 fr1' : Fr) : Prop where
  on : ∀ s, S s → fr1 s = fr1' s
  off : ∀ s, ¬ S s → fr1 s = fr s ∧ fr1' s = fr' s
  refs : ∀ s, Refs S T (fr s) → Refs S T (fr1 s)
  box : ∀ s cs, fr s = .box cs → ∃ ds, fr1 s = .box ds ∧ ∀ k, ¬ T s (k + 1) → ds[k]? = cs[k]?
theorem Twin.refl {S : Nat → Prop} {T : Nat → Nat → Prop} (h : ∀ s, S s → fr s = fr' s) : Twin S T fr fr' fr fr' := ⟨h, fun _ _ => ⟨rfl, rfl⟩, fun _ h => h, fun s cs e => ⟨cs, e, fun _ _ => rfl⟩⟩
theorem Twin.trans {S : Nat → Prop} {T : Nat → Nat → Prop} {fr2 fr2' fr1' : Fr} (h1 : Twin S T fr fr' fr1 fr1') (h2 : Twin S T fr1 fr1' fr2 fr2') : Twin S T fr fr' fr2 fr2' :=
  ⟨h2.on, fun s hs => ⟨(h2.off s hs).1.trans (h1.off s hs).1, (h2.off s hs).2.trans (h1.off s hs).2⟩, fun s h => h2.refs s (h1.refs s h), fun s cs e => by
    obtain ⟨ds, e1, l1⟩ := h1.box s cs e
    obtain ⟨es, e2, l2⟩ := h2.box s ds e1
    exact ⟨es, e2, fun k hk => (l2 k hk).trans (l1 k hk)⟩⟩
theorem setCell_twin {S : Nat → Prop} {T : Nat → Nat → Prop} (h : ∀ s, S s → fr s = fr' s) {s c : Nat} (hs : S s) (hT : (∃ cs, fr s = .box cs) → 0 < c → T s c) {t : Ty} {xs : List (Den t)} : Twin S T fr fr' (setCellAt fr s c (.hi t xs)) (setCellAt fr' s c (.hi t xs)) := by
  have key : setCellAt fr s c (.hi t xs) = fr ∧ setCellAt fr' s c (.hi t xs) = fr' ∨ ∃ v, setCellAt fr s c (.hi t xs) = upd fr s v ∧ setCellAt fr' s c (.hi t xs) = upd fr' s v ∧ (Refs S T (fr s) → Refs S T v) ∧ (∀ cs, fr s = .box cs → ∃ ds, v = .box ds ∧ ∀ k, ¬ T s (k + 1) → ds[k]? = cs[k]?) := by
    unfold setCellAt
    rw [← h s hs]
    cases hf : fr s with
    | tup vs => exact .inl ⟨rfl, rfl⟩
    | mapb kk vv xx ii => exact .inl ⟨rfl, rfl⟩
    | comp gg cs =>
      cases c with
      | zero => exact .inl ⟨rfl, rfl⟩
      | succ c =>
        refine .inr ⟨_, rfl, rfl, fun hr gg' cs' e s' c' t' xs' hm => ?_, fun _ e => by cases e⟩
        cases e
        rcases List.mem_or_eq_of_mem_set hm with hm | hm
        · exact hr gg cs rfl s' c' t' xs' hm
        · cases hm
    | box cs =>
      cases c with
      | zero => exact .inl ⟨rfl, rfl⟩
      | succ c => exact .inr ⟨_, rfl, rfl, fun hr gg' cs' e => (by cases e), fun ds e => by
          cases e
          refine ⟨_, rfl, fun k hk => ?_⟩
          by_cases hkc : k = c
          · subst hkc; exact (hk (hT ⟨_, hf⟩ (by omega))).elim
          · rw [List.getElem?_set_ne (by omega)]⟩
  rcases key with ⟨e1, e2⟩ | ⟨v, e1, e2, e3, e4⟩
  · rw [e1, e2]; exact Twin.refl h
  · rw [e1, e2]
    refine ⟨fun j hj => ?_, fun j hj => ?_, fun j hr => ?_, fun j cs e => ?_⟩
    · by_cases hjs : j = s
      · subst hjs; rw [upd_same, upd_same]
      · rw [upd_ne _ _ _ hjs, upd_ne _ _ _ hjs]; exact h j hj
    · have hjs : j ≠ s := fun e => hj (e ▸ hs)
      exact ⟨upd_ne _ _ _ hjs, upd_ne _ _ _ hjs⟩
    · by_cases hjs : j = s
      · subst hjs; rw [upd_same]; exact e3 hr
      · rw [upd_ne _ _ _ hjs]; exact hr
    · by_cases hjs : j = s
      · subst hjs; rw [upd_same]; exact e4 cs e
      · rw [upd_ne _ _ _ hjs]; exact ⟨cs, e, fun _ _ => rfl⟩
theorem cellAt_twin {s c : Nat} (h : fr s = fr' s) : cellAt fr' s c = cellAt fr s c := by unfold cellAt; rw [h]
theorem cellAt_ref {S : Nat → Prop} {T : Nat → Nat → Prop} {s c s' c' : Nat} {t : Ty} {xs : List (Den t)} {gg : Bool} {cs : List CV} (hs : fr s = .comp gg cs) (hr : Refs S T (fr s)) (h : cellAt fr s c = .ref s' c' t xs) : S s' ∧ (0 < c' → T s' c') := by
  unfold cellAt at h
  rw [hs] at h
  cases c with
  | zero => cases h
  | succ c =>
    simp only [List.getD_eq_getElem?_getD] at h
    cases hc : cs[c]? with
    | none => rw [hc] at h; cases h
    | some y => rw [hc] at h; simp at h; subst h; exact hr gg cs hs _ _ _ _ (List.mem_of_getElem? hc)
theorem takeAt_twin {S : Nat → Prop} {T : Nat → Nat → Prop} (h : ∀ s, S s → fr s = fr' s) {s c : Nat} (hs : S s) {gg : Bool} {cs : List CV} (hf : fr s = .comp gg cs) (hr : Refs S T (fr s)) {y : CV} (ht : takeAt fr s c = (y, fr1)) :
    ∃ fr1', takeAt fr' s c = (y, fr1') ∧ Twin S T fr fr' fr1 fr1' := by
  unfold takeAt at ht ⊢
  rw [cellAt_twin (h s hs)]
  split at ht
  next t xs e => cases ht; exact ⟨_, rfl, setCell_twin h hs (fun ⟨_, e⟩ => by rw [hf] at e; cases e)⟩
  next t xs e => cases ht; exact ⟨_, rfl, setCell_twin h hs (fun ⟨_, e⟩ => by rw [hf] at e; cases e)⟩
  next s' c' t xs e =>
    have hs' : S s' ∧ (0 < c' → T s' c') := cellAt_ref hf hr e
    try simp only
    rw [cellAt_twin (h s' hs'.1)]
    split at ht
    next u ys e' => cases ht; exact ⟨_, rfl, setCell_twin h hs'.1 (fun _ => hs'.2)⟩
    next => cases ht; exact ⟨_, rfl, Twin.refl h⟩
  next => cases ht; exact ⟨_, rfl, Twin.refl h⟩
theorem comp_take {s s' c : Nat} {gg : Bool} {cs : List CV} (h : fr s = .comp gg cs) : ∃ ds, (takeAt fr s' c).2 s = .comp gg ds := by
  have hset : ∀ (j k : Nat) (v : CV), ∃ ds, setCellAt fr j k v s = .comp gg ds := by
    intro j k v
    unfold setCellAt
    by_cases hj : s = j
    · subst hj
      rw [h]
      cases k with
      | zero => exact ⟨_, h⟩
      | succ k => exact ⟨_, upd_same _ _ _⟩
    · cases fr j with
      | tup vs => exact ⟨_, h⟩
      | mapb kk vv xx ii => exact ⟨_, h⟩
      | comp b ds => cases k with
        | zero => exact ⟨_, h⟩
        | succ k => exact ⟨_, (upd_ne _ _ _ hj).trans h⟩
      | box ds => cases k with
        | zero => exact ⟨_, h⟩
        | succ k => exact ⟨_, (upd_ne _ _ _ hj).trans h⟩
  unfold takeAt
  split
  · exact hset _ _ _
  · exact hset _ _ _
  · split
    · exact hset _ _ _
    · exact ⟨_, h⟩
  · exact ⟨_, h⟩
theorem takeSlot_twin {S : Nat → Prop} {T : Nat → Nat → Prop} {s : Nat} (hs : S s) : ∀ (n c : Nat) {fr fr' fr1 : Fr} (h : ∀ s, S s → fr s = fr' s) {gg : Bool} {cs : List CV} (hf : fr s = .comp gg cs) (hr : Refs S T (fr s)) {ws : List CV} (ht : takeSlot fr s n c = (ws, fr1)),
    ∃ fr1', takeSlot fr' s n c = (ws, fr1') ∧ Twin S T fr fr' fr1 fr1'
  | 0, c, fr, fr', fr1, h, gg, cs, hf, hr, ws, ht => by
    simp only [takeSlot] at ht
    cases ht
    exact ⟨fr', rfl, Twin.refl h⟩
  | n + 1, c, fr, fr', fr1, h, gg, cs, hf, hr, ws, ht => by
    simp only [takeSlot] at ht
    generalize h1 : takeAt fr s c = q at ht
    obtain ⟨y, fr2⟩ := q
    try simp only at ht
    generalize h2 : takeSlot fr2 s n (c + 1) = q at ht
    obtain ⟨ys, fr3⟩ := q
    cases ht
    obtain ⟨fr2', e1, t1⟩ := takeAt_twin h hs hf hr h1
    obtain ⟨ds, hd⟩ := comp_take (s' := s) (c := c) hf
    rw [h1] at hd
    obtain ⟨fr3', e2, t2⟩ := takeSlot_twin hs n (c + 1) t1.on hd (t1.refs s hr) h2
    exact ⟨fr3', by simp only [takeSlot, e1, e2], t1.trans t2⟩
theorem takeOpd_twin {S : Nat → Prop} {T : Nat → Nat → Prop} (h : ∀ s, S s → fr s = fr' s) {x : Operand} (hs : ∀ t, x = .tmp t → S t ∧ Refs S T (fr t)) {p : Comp} (ht : takeOpd fr x = (p, fr1)) : ∃ fr1', takeOpd fr' x = (p, fr1') ∧ Twin S T fr fr' fr1 fr1' := by
  cases x with
  | tmp t =>
    obtain ⟨h1, h2⟩ := hs t rfl
    unfold takeOpd at ht ⊢
    simp only at ht ⊢
    have e := h t h1
    cases hf : fr t with
    | tup vs => rw [hf] at ht e; rw [← e]; cases ht; exact ⟨fr', by simp only [opd, hf, ← e], Twin.refl h⟩
    | mapb kk vv xx ii => rw [hf] at ht e; rw [← e]; cases ht; exact ⟨fr', by simp only [opd, hf, ← e], Twin.refl h⟩
    | box vs => rw [hf] at ht e; rw [← e]; cases ht; exact ⟨fr', by simp only [opd, hf, ← e], Twin.refl h⟩
    | comp gg cs =>
      rw [hf] at ht e
      rw [← e]
      simp only at ht ⊢
      generalize h3 : takeSlot fr t cs.length 1 = q at ht
      obtain ⟨ws, fr2⟩ := q
      cases ht
      obtain ⟨fr2', e1, t1⟩ := takeSlot_twin h1 cs.length 1 h hf h2 h3
      exact ⟨fr2', by simp only [e1], t1⟩
  | const v => unfold takeOpd at ht ⊢; cases ht; exact ⟨fr', rfl, Twin.refl h⟩
  | global v => unfold takeOpd at ht ⊢; cases ht; exact ⟨fr', rfl, Twin.refl h⟩
  | func v => unfold takeOpd at ht ⊢; cases ht; exact ⟨fr', rfl, Twin.refl h⟩
theorem buildParts_twin {S : Nat → Prop} {T : Nat → Nat → Prop} {offs : List (Nat × Nat × Bool)} : ∀ (ps : List (Nat × Operand)) {fr fr' fr1 : Fr} (h : ∀ s, S s → fr s = fr' s) (hs : ∀ x ∈ ps.map (fun p => p.2), ∀ t, x = .tmp t → S t ∧ Refs S T (fr t)) {cs cs' : List CV} (ht : buildParts fr offs cs ps = some (cs', fr1)),
    ∃ fr1', buildParts fr' offs cs ps = some (cs', fr1') ∧ Twin S T fr fr' fr1 fr1'
  | [], fr, fr', fr1, h, hs, cs, cs', ht => by
    simp only [buildParts, Option.some.injEq, Prod.mk.injEq] at ht
    obtain ⟨rfl, rfl⟩ := ht
    exact ⟨fr', rfl, Twin.refl h⟩
  | (i, x) :: ps, fr, fr', fr1, h, hs, cs, cs', ht => by
    simp only [buildParts] at ht
    generalize h1 : takeOpd fr x = q at ht
    obtain ⟨⟨b, ws⟩, fr2⟩ := q
    obtain ⟨fr2', e1, t1⟩ := takeOpd_twin h (hs x (by simp)) h1
    cases hof : offs[i]? with
    | none => rw [hof] at ht; cases ht
    | some q =>
      obtain ⟨off, n, gg⟩ := q
      rw [hof] at ht
      simp only at ht
      obtain ⟨hb, ht⟩ := bif_some ht
      cases hfc : fillCells cs off ws with
      | none => rw [hfc] at ht; cases ht
      | some cs2 =>
        rw [hfc] at ht
        simp only at ht
        obtain ⟨fr3', e2, t2⟩ := buildParts_twin ps t1.on (fun y hy t ey => by
          obtain ⟨q1, q2⟩ := hs y (List.mem_cons_of_mem _ hy) t ey
          exact ⟨q1, t1.refs t q2⟩) ht
        exact ⟨fr3', by simp only [buildParts, e1, hof, hb, cond_true, hfc, e2], t1.trans t2⟩
theorem rowPartsO_twin {S : Nat → Prop} {T : Nat → Nat → Prop} {t : Ty} : ∀ (ps : List (Nat × Operand)) (k : Nat) {fr fr' fr1 : Fr} (h : ∀ s, S s → fr s = fr' s) (hs : ∀ x ∈ ps.map (fun p => p.2), ∀ t, x = .tmp t → S t ∧ Refs S T (fr t)) {xs : List (Den t)} (ht : rowPartsO t fr k ps = some (xs, fr1)),
    ∃ fr1', rowPartsO t fr' k ps = some (xs, fr1') ∧ Twin S T fr fr' fr1 fr1'
  | [], k, fr, fr', fr1, h, hs, xs, ht => by
    simp only [rowPartsO, Option.some.injEq, Prod.mk.injEq] at ht
    obtain ⟨rfl, rfl⟩ := ht
    exact ⟨fr', rfl, Twin.refl h⟩
  | (i, x) :: ps, k, fr, fr', fr1, h, hs, xs, ht => by
    simp only [rowPartsO] at ht
    obtain ⟨hk, ht⟩ := bif_some ht
    generalize h1 : takeOpd fr x = q at ht
    obtain ⟨⟨b, ws⟩, fr2⟩ := q
    obtain ⟨fr2', e1, t1⟩ := takeOpd_twin h (hs x (by simp)) h1
    simp only at ht
    obtain ⟨hb, ht⟩ := bif_some ht
    split at ht
    case h_2 => cases ht
    rename_i y hy
    cases hr : rowPartsO t fr2 (k + 1) ps with
    | none => rw [hr] at ht; cases ht
    | some q =>
      obtain ⟨ys, fr3⟩ := q
      rw [hr] at ht
      simp only [Option.some.injEq, Prod.mk.injEq] at ht
      obtain ⟨rfl, rfl⟩ := ht
      obtain ⟨fr3', e2, t2⟩ := rowPartsO_twin ps (k + 1) t1.on (fun y hy t ey => by
        obtain ⟨q1, q2⟩ := hs y (List.mem_cons_of_mem _ hy) t ey
        exact ⟨q1, t1.refs t q2⟩) hr
      exact ⟨fr3', by simp only [rowPartsO, hk, e1, hb, cond_true, hy, e2], t1.trans t2⟩
theorem twin_fin {S : Nat → Prop} {T : Nat → Nat → Prop} {fr1' fr2 : Fr} {L : List Loc} (hL : ∀ s c, Inn s c L ↔ S s) (ht : Twin S T fr fr' fr1 fr1') {d : Option Nat} {v : SV} (h : fin X fr1 d v some = some fr2) (ha : Agr fr fr' (dstR d)) : Like (fin X fr1' d v some) fr' fr2 (L ++ dstW d) := by
  have ha1 : Agr fr1 fr1' (dstR d) := fun s c hi => by
    by_cases hs : S s
    · rw [ht.on s hs]
    · rw [(ht.off s hs).1, (ht.off s hs).2]; exact ha s c hi
  obtain ⟨fr2', e1, e2, e3⟩ := (fin_like h ha1).ex
  obtain ⟨fr2'', e4, _, e5⟩ := (fin_like (fr' := fr1) h (fun _ _ _ => rfl)).ex
  rw [h] at e4
  cases e4
  refine ⟨fr2', e1, fun s c hi => ?_, fun s c hi => ?_⟩
  · by_cases hd : Inn s c (dstW d)
    · exact e2 s c hd
    · rcases hi.or with hi | hi
      · rw [e5 s c hd, e3 s c hd, ht.on s ((hL s c).1 hi)]
      · exact (hd hi).elim
  · rw [e3 s c (fun e => hi e.right), (ht.off s fun e => hi ((hL s c).2 e).left).2]
theorem twin_finW {S : Nat → Prop} {fr1' fr2 : Fr} {L : List Loc} (h1 : ∀ s c, Inn s c L → S s) (h2 : ∀ s c, S s → ¬ Inn s c L → ∃ cs, fr s = .box cs) (h0 : ∀ s, S s → fr s = fr' s) (ht : Twin S (fun s c => Inn s c L) fr fr' fr1 fr1') {d : Option Nat} {v : SV} (h : fin X fr1 d v some = some fr2) (ha : Agr fr fr' (dstR d)) : Like (fin X fr1' d v some) fr' fr2 (L ++ dstW d) := by
  have ha1 : Agr fr1 fr1' (dstR d) := fun s c hi => by
    by_cases hs : S s
    · rw [ht.on s hs]
    · rw [(ht.off s hs).1, (ht.off s hs).2]; exact ha s c hi
  obtain ⟨fr2', e1, e2, e3⟩ := (fin_like h ha1).ex
  obtain ⟨fr2'', e4, _, e5⟩ := (fin_like (fr' := fr1) h (fun _ _ _ => rfl)).ex
  rw [h] at e4
  cases e4
  refine ⟨fr2', e1, fun s c hi => ?_, fun s c hi => ?_⟩
  · by_cases hd : Inn s c (dstW d)
    · exact e2 s c hd
    · rcases hi.or with hi | hi
      · rw [e5 s c hd, e3 s c hd, ht.on s (h1 s c hi)]
      · exact (hd hi).elim
  · rw [e3 s c (fun e => hi e.right)]
    by_cases hs : S s
    · obtain ⟨cs, f1⟩ := h2 s c hs fun e => hi e.left
      obtain ⟨ds, f3, f4⟩ := ht.box s cs f1
      rw [← ht.on s hs, f3, ← h0 s hs, f1]
      cases c with
      | zero => rfl
      | succ k =>
        simp only [pv]
        rw [f4 k fun e => hi e.left]
    · rw [(ht.off s hs).2]
end
end Go.Rv
namespace Go.Rv
section
variable {X : Env} {E : FuncId → Option Fn} {fr fr' fr1 : Fr} {o : Oper}
theorem refs_whole : ∀ {cs : List CV} {l : Loc}, l ∈ refs cs → ∃ s, l = .whole s
  | x :: cs, l, h => by
    cases x <;> simp only [refs] at h
    case ref s c t xs =>
      rcases List.mem_cons.1 h with rfl | h
      · exact ⟨s, rfl⟩
      · exact refs_whole h
    all_goals exact refs_whole h
theorem refs_mem : ∀ {cs : List CV} {s c : Nat} {t : Ty} {xs : List (Den t)}, CV.ref s c t xs ∈ cs → Loc.whole s ∈ refs cs
  | x :: cs, s, c, t, xs, h => by
    rcases List.mem_cons.1 h with rfl | h
    · exact List.mem_cons_self
    · have := refs_mem h
      cases x <;> simp only [refs] <;> first | exact this | exact List.mem_cons_of_mem _ this
theorem slots_whole : ∀ {xs : List Operand} {l : Loc}, l ∈ slotsOf fr xs → ∃ s, l = .whole s
  | x :: xs, l, h => by
    cases x with
    | tmp t =>
      simp only [slotsOf] at h
      rcases List.mem_cons.1 h with rfl | h
      · exact ⟨t, rfl⟩
      · rcases List.mem_append.1 h with h | h
        · split at h
          · exact refs_whole h
          · cases h
        · exact slots_whole h
    | _ => exact slots_whole (xs := xs) h
theorem slots_inn {xs : List Operand} (s c : Nat) : Inn s c (slotsOf fr xs) ↔ Loc.whole s ∈ slotsOf fr xs := by
  constructor
  · rintro ⟨l, h1, h2⟩
    obtain ⟨t, rfl⟩ := slots_whole h1
    simp only [pin] at h2
    subst h2
    exact h1
  · intro h; exact ⟨_, h, rfl⟩
theorem refW_in {s c q c' : Nat} (h : pin s c (refW fr q c')) : s = q := by
  unfold refW at h
  split at h
  · exact h.1
  · exact h
theorem refsW_in : ∀ {cs : List CV} {s c : Nat}, Inn s c (refsW fr cs) → Loc.whole s ∈ refs cs
  | [], s, c, h => by obtain ⟨l, h1, _⟩ := h; cases h1
  | x :: cs, s, c, h => by
    have ih := fun hh : Inn s c (refsW fr cs) => refsW_in hh
    cases x
    case ref q c' t xs =>
      obtain ⟨l, h1, h2⟩ := h
      simp only [refsW] at h1
      simp only [refs]
      rcases List.mem_cons.1 h1 with rfl | h1
      · rw [refW_in h2]; exact List.mem_cons_self
      · exact List.mem_cons_of_mem _ (ih ⟨l, h1, h2⟩)
    all_goals (simp only [refs]; exact ih (by simpa only [refsW] using h))
theorem refsW_out : ∀ {cs : List CV} {s c : Nat}, Loc.whole s ∈ refs cs → ¬ Inn s c (refsW fr cs) → ∃ ds, fr s = .box ds
  | [], s, c, h, _ => by cases h
  | x :: cs, s, c, h, hn => by
    have ih := fun h1 h2 => refsW_out (cs := cs) (s := s) (c := c) h1 h2
    cases x
    case ref q c' t xs =>
      simp only [refs] at h
      simp only [refsW] at hn
      rcases List.mem_cons.1 h with e | h
      · cases e
        have hq : ¬ pin s c (refW fr s c') := fun e => hn ⟨_, List.mem_cons_self, e⟩
        unfold refW at hq
        split at hq
        · rename_i ds hf
          exact ⟨ds, hf⟩
        · exact (hq rfl).elim
      · exact ih h fun e => hn e.cons
    all_goals (simp only [refs] at h; simp only [refsW] at hn; exact ih h hn)
theorem refsW_mem : ∀ {cs : List CV} {s c : Nat} {t : Ty} {xs : List (Den t)}, CV.ref s c t xs ∈ cs → 0 < c → Inn s c (refsW fr cs)
  | x :: cs, s, c, t, xs, h, hc => by
    rcases List.mem_cons.1 h with rfl | h
    · refine ⟨refW fr s c, List.mem_cons_self, ?_⟩
      unfold refW
      split
      · exact ⟨rfl, by omega, by omega⟩
      · rfl
    · have : Inn s c (refsW fr cs) := refsW_mem h hc
      cases x <;> simp only [refsW] <;> first | exact this | exact this.cons
theorem slotsW_in : ∀ {xs : List Operand} {s c : Nat}, Inn s c (slotsW fr xs) → Loc.whole s ∈ slotsOf fr xs
  | [], s, c, h => by obtain ⟨l, h1, _⟩ := h; cases h1
  | x :: xs, s, c, h => by
    have ih := fun hh : Inn s c (slotsW fr xs) => slotsW_in hh
    cases x with
    | tmp t =>
      simp only [slotsW] at h
      simp only [slotsOf]
      rcases h.uncons with e | h
      · have e : s = t := e
        rw [e]; exact List.mem_cons_self
      · rcases h.or with h | h
        · refine List.mem_cons_of_mem _ (List.mem_append_left _ ?_)
          cases hf : fr t with
          | comp b cs => rw [hf] at h; exact refsW_in h
          | tup _ => rw [hf] at h; obtain ⟨l, h1, _⟩ := h; cases h1
          | box _ => rw [hf] at h; obtain ⟨l, h1, _⟩ := h; cases h1
          | mapb _ _ _ _ => rw [hf] at h; obtain ⟨l, h1, _⟩ := h; cases h1
        · exact List.mem_cons_of_mem _ (List.mem_append_right _ (ih h))
    | _ => simp only [slotsOf]; exact ih (by simpa only [slotsW] using h)
theorem slotsW_out : ∀ {xs : List Operand} (s c : Nat), Loc.whole s ∈ slotsOf fr xs → ¬ Inn s c (slotsW fr xs) → ∃ ds, fr s = .box ds
  | [], s, c, h, _ => by cases h
  | x :: xs, s, c, h, hn => by
    have ih := fun h1 h2 => slotsW_out (xs := xs) s c h1 h2
    cases x with
    | tmp t =>
      simp only [slotsOf] at h
      simp only [slotsW] at hn
      rcases List.mem_cons.1 h with e | h
      · cases e; exact (hn (Inn.head rfl)).elim
      · rcases List.mem_append.1 h with h | h
        · cases hf : fr t with
          | comp b cs => rw [hf] at h hn; exact refsW_out h fun e => hn e.left.cons
          | tup _ => rw [hf] at h; cases h
          | box _ => rw [hf] at h; cases h
          | mapb _ _ _ _ => rw [hf] at h; cases h
        · exact ih h fun e => hn e.right.cons
    | _ => simp only [slotsOf] at h; simp only [slotsW] at hn; exact ih h hn
theorem refsW_eq : ∀ (cs : List CV), (∀ s, Loc.whole s ∈ refs cs → fr s = fr' s) → refsW fr' cs = refsW fr cs
  | [], _ => rfl
  | x :: cs, h => by
    cases x
    case ref q c t xs =>
      have ih := refsW_eq cs fun s hs => h s (List.mem_cons_of_mem _ hs)
      simp only [refsW, ih, refW, h q List.mem_cons_self]
    all_goals exact refsW_eq cs h
theorem slotsW_eq : ∀ (xs : List Operand), (∀ s, Loc.whole s ∈ slotsOf fr xs → fr s = fr' s) → slotsW fr' xs = slotsW fr xs
  | [], _ => rfl
  | x :: xs, h => by
    cases x with
    | tmp t =>
      simp only [slotsOf] at h
      have ih := slotsW_eq xs fun s hs => h s (List.mem_cons_of_mem _ (List.mem_append_right _ hs))
      have ht := h t List.mem_cons_self
      simp only [slotsW, ih, ← ht]
      cases hf : fr t with
      | comp b cs =>
        rw [hf] at h
        simp only [refsW_eq cs fun s hs => h s (List.mem_cons_of_mem _ (List.mem_append_left _ hs))]
      | _ => rfl
    | _ => simp only [slotsW]; exact slotsW_eq xs h
theorem slots_mem : ∀ {xs : List Operand} {t : Nat}, Operand.tmp t ∈ xs → Loc.whole t ∈ slotsOf fr xs ∧ Refs (fun s => Loc.whole s ∈ slotsOf fr xs) (fun s c => Inn s c (slotsW fr xs)) (fr t)
  | x :: xs, t, h => by
    rcases List.mem_cons.1 h with rfl | h
    · refine ⟨List.mem_cons_self, fun gg cs e s c u ys hm => ?_⟩
      simp only [slotsOf, slotsW, e]
      exact ⟨List.mem_cons_of_mem _ (List.mem_append_left _ (refs_mem hm)), fun hc => (refsW_mem hm hc).left.cons⟩
    · obtain ⟨h1, h2⟩ := slots_mem (xs := xs) h
      have hsub : ∀ l, l ∈ slotsOf fr xs → l ∈ slotsOf fr (x :: xs) := by
        intro l hl
        cases x <;> simp only [slotsOf] <;> first | exact hl | exact List.mem_cons_of_mem _ (List.mem_append_right _ hl)
      have hsubW : ∀ s c, Inn s c (slotsW fr xs) → Inn s c (slotsW fr (x :: xs)) := by
        intro s c hl
        cases x <;> simp only [slotsW] <;> first | exact hl | exact hl.right.cons
      exact ⟨hsub _ h1, fun gg cs e s c u ys hm => ⟨hsub _ (h2 gg cs e s c u ys hm).1, fun hc => hsubW _ _ ((h2 gg cs e s c u ys hm).2 hc)⟩⟩
theorem slots_eq : ∀ (xs : List Operand), (∀ t, Operand.tmp t ∈ xs → fr t = fr' t) → slotsOf fr' xs = slotsOf fr xs
  | [], _ => rfl
  | x :: xs, h => by
    have ih := slots_eq xs fun t ht => h t (List.mem_cons_of_mem _ ht)
    cases x with
    | tmp t => simp only [slotsOf, ih, h t (by simp)]
    | _ => simp only [slotsOf, ih]
theorem store_like2 {t : TypeId} {p x : Operand} (ho : o.op = .store t p x) {s c : Nat} (hp : opc fr p = .ptr s c) (hA : (!ownOp fr x && (opd fr x).2.all isPlain) = false) {R W : List Loc} (hf : (bif X.dr then some (slotsOf fr [x] ++ (.whole s :: shapes [p, x]), slotsOf fr [x] ++ [.whole s]) else none) = some (R, W)) (ha : Agr fr fr' R) (h : stepOp X E o fr some = some fr1) : foot X E o fr' = some (R, W) ∧ Like (stepOp X E o fr' some) fr' fr1 W := by
  obtain ⟨hdr, hf⟩ := bif_some hf
  simp only [Option.some.injEq, Prod.mk.injEq] at hf
  obtain ⟨rfl, rfl⟩ := hf
  have hw : ∀ q, Loc.whole q ∈ slotsOf fr [x] → fr q = fr' q := fun q hq => ha.left.whole hq
  have hs : fr s = fr' s := ha.right.whole List.mem_cons_self
  have hxs : ∀ y ∈ [p, x], opd fr' y = opd fr y := fun y hy => ha.right.tail.opd hy
  have hx := hxs x (by simp)
  have hp' : opc fr' p = .ptr s c := by simp only [opc, hxs p (by simp)]; exact hp
  have hown : ownOp fr' x = ownOp fr x := ownOp_eq ha.right.tail fun t e => shapes_mem (by rw [← e]; simp)
  have hsl : slotsOf fr' [x] = slotsOf fr [x] := slots_eq [x] fun t ht => hw t (slots_mem ht).1
  refine ⟨by unfold foot; rw [ho]; simp only [hp', hx, hown, hA, cond_false, hdr, cond_true, hsl], ?_⟩
  unfold stepOp at h ⊢
  rw [ho] at h ⊢
  simp only at h ⊢
  generalize htk : takeOpd fr x = q at h
  obtain ⟨⟨gg, ws⟩, frx⟩ := q
  obtain ⟨frx', e1, t1⟩ := takeOpd_twin (S := fun q => Loc.whole q ∈ slotsOf fr [x]) (T := fun s c => Inn s c (slotsW fr [x])) hw (fun t et => by subst et; exact slots_mem (by simp)) htk
  rw [e1]
  cases hi : X.ti t with
  | none => rw [hi] at h; cases h
  | some i =>
    rw [hi] at h
    simp only [hp, hp'] at h ⊢
    obtain ⟨hl, h⟩ := bif_some h
    rw [hl]
    simp only [cond_true, store, hdr] at h ⊢
    have hss : frx s = frx' s := by
      by_cases hq : Loc.whole s ∈ slotsOf fr [x]
      · exact t1.on s hq
      · rw [(t1.off s hq).1, (t1.off s hq).2]; exact hs
    rw [← hss]
    cases hb : frx s with
    | comp _ _ => rw [hb] at h; cases h
    | tup _ => rw [hb] at h; cases h
    | mapb kk vv xx ii => rw [hb] at h; cases h
    | box cs =>
      rw [hb] at h
      simp only at h ⊢
      cases hsu : (gg || ws.all sure)
      · rw [hsu] at h; cases h
      rw [hsu] at h
      simp only [cond_true] at h ⊢
      cases hfc : fillCells cs c ws with
      | none => rw [hfc] at h; cases h
      | some cs' =>
        rw [hfc] at h
        simp only at h ⊢
        obtain ⟨hn, h⟩ := bif_some h
        rw [hn]
        cases h
        refine ⟨_, rfl, fun j k hi' => ?_, fun j k hi' => ?_⟩
        · by_cases hj : j = s
          · subst hj; rw [upd_same, upd_same]
          · rw [upd_ne _ _ _ hj, upd_ne _ _ _ hj]
            rcases hi'.or with q | q
            · rw [t1.on j ((slots_inn j k).1 q)]
            · rcases q.uncons with q | q
              · exact absurd q hj
              · exact q.nil.elim
        · have hj : j ≠ s := fun e => hi' (Inn.right (Inn.head e))
          rw [upd_ne _ _ _ hj, (t1.off j fun hm => hi' (Inn.left ((slots_inn j k).2 hm))).2]
theorem store_like {t : TypeId} {p x : Operand} (ho : o.op = .store t p x) {R W : List Loc} (hf : foot X E o fr = some (R, W)) (ha : Agr fr fr' R) (h : stepOp X E o fr some = some fr1) : foot X E o fr' = some (R, W) ∧ Like (stepOp X E o fr' some) fr' fr1 W := by
  unfold foot at hf
  rw [ho] at hf
  simp only at hf
  cases hp : opc fr p <;> rw [hp] at hf <;> simp only at hf <;> first | (cases hf; done) | skip
  rename_i s c
  cases hA : (!ownOp fr x && (opd fr x).2.all isPlain)
  case false =>
    rw [hA] at hf
    simp only [cond_false] at hf
    exact store_like2 ho hp hA hf ha h
  rw [hA] at hf
  simp only [cond_true] at hf
  have hsc := hA
  simp only [Bool.and_eq_true, Bool.not_eq_true'] at hsc
  obtain ⟨hown, hsc⟩ := hsc
  simp only [Option.some.injEq, Prod.mk.injEq] at hf
  obtain ⟨rfl, rfl⟩ := hf
  have hown' : ownOp fr' x = false := (ownOp_eq ha.tail.tail fun t e => shapes_mem (by rw [← e]; simp)).trans hown
  have hxs : ∀ y ∈ [p, x], opd fr' y = opd fr y := fun y hy => ha.tail.tail.opd hy
  have hx := hxs x (by simp)
  have hp' : opc fr' p = .ptr s c := by simp only [opc, hxs p (by simp)]; exact hp
  refine ⟨?_, ?_⟩
  · unfold foot
    rw [ho]
    simp only [hp', hx, hsc, hown', Bool.not_false, Bool.and_self, cond_true]
  unfold stepOp at h ⊢
  rw [ho] at h ⊢
  simp only [take_plain hown, take_plain hown', hx, hp, hp'] at h ⊢
  cases hi : X.ti t with
  | none => rw [hi] at h; cases h
  | some i =>
    rw [hi] at h
    simp only at h ⊢
    obtain ⟨hl, h⟩ := bif_some h
    rw [hl]
    simp only [Bool.and_eq_true] at hl
    have hl := Nat.eq_of_beq_eq_true hl.1
    simp only [cond_true, store_plain hsc] at h ⊢
    cases hb : fr s with
    | comp _ _ => rw [hb] at h; cases h
    | tup _ => rw [hb] at h; cases h
    | mapb kk vv xx ii => rw [hb] at h; cases h
    | box cs =>
      rw [hb] at h
      simp only at h
      obtain ⟨ds, hd, hcell⟩ := box_cells ha List.mem_cons_self (List.mem_cons_of_mem _ List.mem_cons_self) hb
      rw [hd]
      simp only
      cases hfc : fillCells cs c (opd fr x).2 with
      | none => rw [hfc] at h; cases h
      | some cs' =>
        rw [hfc] at h
        simp only at h
        obtain ⟨hn, h⟩ := bif_some h
        cases h
        have hpos : 0 < (opd fr x).2.length := by rw [hl]; exact cells_pos _
        have hle : c + (opd fr x).2.length ≤ cs.length := by
          unfold fillCells at hfc
          exact Nat.le_of_ble_eq_true (bif_some hfc).1
        have hle' : c + (opd fr x).2.length ≤ ds.length := by
          have := hcell (c + (opd fr x).2.length - 1) (by omega) (by omega)
          rw [List.getElem?_eq_getElem (show c + (opd fr x).2.length - 1 < cs.length by omega)] at this
          have := (List.getElem?_eq_some_iff.1 this).1
          omega
        obtain ⟨ds', hfd⟩ : ∃ ds', fillCells ds c (opd fr x).2 = some ds' := by
          unfold fillCells
          rw [show (c + (opd fr x).2.length).ble ds.length = true from Nat.ble_eq_true_of_le hle']
          exact ⟨_, rfl⟩
        rw [hfd, hn]
        refine ⟨_, rfl, fun s' c' hi' => ?_, fun s' c' hi' => ?_⟩
        · rcases hi'.uncons with ⟨rfl, q1, q2⟩ | q
          · rw [upd_same, upd_same]
            obtain ⟨k, rfl⟩ : ∃ k, c' = k + 1 := ⟨c' - 1, by omega⟩
            simp only [pv, fill_get hfc k, fill_get hfd k]
            rw [if_pos (by omega), if_pos (by omega)]
          · exact q.nil.elim
        · by_cases hs' : s' = s
          · subst hs'
            rw [upd_same, hd]
            cases c' with
            | zero => rfl
            | succ k =>
              have hk : ¬ (c ≤ k ∧ k < c + (opd fr x).2.length) := fun e => hi' (Inn.head ⟨rfl, by omega, by omega⟩)
              simp only [pv, fill_get hfd k]
              rw [if_neg hk]
          · rw [upd_ne _ _ _ hs']
theorem any_congr {α : Type} {f g : α → Bool} : ∀ (l : List α), (∀ x ∈ l, f x = g x) → l.any f = l.any g
  | [], _ => rfl
  | x :: l, h => by simp only [List.any_cons]; rw [h x (by simp), any_congr l fun y hy => h y (List.mem_cons_of_mem _ hy)]
theorem take_cases {xs : List Operand} {R W : List Loc} (hf : takeFoot fr o xs = some (R, W)) (ha : Agr fr fr' R) :
    takeFoot fr' o xs = some (R, W) ∧
    ((W = slotsW fr xs ++ dstW o.dst ∧ Agr fr fr' (dstR o.dst) ∧ (∀ s, Loc.whole s ∈ slotsOf fr xs → fr s = fr' s) ∧ ∀ x ∈ xs, opd fr' x = opd fr x) ∨
     (W = dstW o.dst ∧ Agr fr fr' (dstR o.dst) ∧ (∀ x ∈ xs, opd fr' x = opd fr x) ∧ (∀ x ∈ xs, ownOp fr x = false) ∧ ∀ x ∈ xs, ownOp fr' x = false)) := by
  unfold takeFoot at hf ⊢
  cases hany : xs.any (ownOp fr)
  · rw [hany] at hf
    simp only [cond_false, pureFoot, Option.some.injEq, Prod.mk.injEq] at hf
    obtain ⟨rfl, rfl⟩ := hf
    have hown : ∀ x ∈ xs, ownOp fr' x = ownOp fr x := fun x hx => ownOp_eq ha.left fun t e => shapes_mem (e ▸ hx)
    have hno : ∀ x ∈ xs, ownOp fr x = false := fun x hx => by
      rw [Bool.eq_false_iff]
      intro e
      rw [Bool.eq_false_iff] at hany
      exact hany (List.any_eq_true.2 ⟨x, hx, e⟩)
    refine ⟨by rw [any_congr xs hown, hany]; rfl, .inr ⟨rfl, ha.right, fun x hx => ha.left.opd hx, hno, fun x hx => (hown x hx).trans (hno x hx)⟩⟩
  · rw [hany] at hf
    simp only [cond_true, Option.some.injEq, Prod.mk.injEq] at hf
    obtain ⟨rfl, rfl⟩ := hf
    have hw : ∀ s, Loc.whole s ∈ slotsOf fr xs → fr s = fr' s := fun s hs => ha.left.whole hs
    have ht : ∀ t, Operand.tmp t ∈ xs → fr t = fr' t := fun t h => hw t (slots_mem h).1
    have hopd : ∀ x ∈ xs, opd fr' x = opd fr x := fun x hx => by
      cases x with
      | tmp t => simp only [opd, ht t hx]
      | _ => rfl
    have hown : ∀ x ∈ xs, ownOp fr' x = ownOp fr x := fun x hx => by
      cases x with
      | tmp t => simp only [ownOp, ht t hx]
      | _ => rfl
    refine ⟨by rw [any_congr xs hown, hany, slots_eq xs ht, slotsW_eq xs hw]; rfl, .inl ⟨rfl, ha.right, hw, hopd⟩⟩
theorem buildParts_plain {offs : List (Nat × Nat × Bool)} : ∀ (ps : List (Nat × Operand)) (cs : List CV), (∀ x ∈ ps.map (fun p => p.2), opd fr' x = opd fr x) → (∀ x ∈ ps.map (fun p => p.2), ownOp fr x = false) → (∀ x ∈ ps.map (fun p => p.2), ownOp fr' x = false) →
    ∃ q : Option (List CV), buildParts fr offs cs ps = q.map (fun c => (c, fr)) ∧ buildParts fr' offs cs ps = q.map (fun c => (c, fr'))
  | [], cs, h, h1, h2 => ⟨some cs, rfl, rfl⟩
  | (i, x) :: ps, cs, h, h1, h2 => by
    simp only [buildParts, take_plain (h1 x (by simp)), take_plain (h2 x (by simp)), h x (by simp)]
    cases offs[i]? with
    | none => exact ⟨none, rfl, rfl⟩
    | some q =>
      obtain ⟨off, n, gg⟩ := q
      simp only
      cases ((opd fr x).2.length.beq n && ((opd fr x).1 || (opd fr x).2.all sure))
      · exact ⟨none, rfl, rfl⟩
      · simp only [cond_true]
        cases fillCells cs off (opd fr x).2 with
        | none => exact ⟨none, rfl, rfl⟩
        | some cs2 => exact buildParts_plain ps cs2 (fun y hy => h y (List.mem_cons_of_mem _ hy)) (fun y hy => h1 y (List.mem_cons_of_mem _ hy)) (fun y hy => h2 y (List.mem_cons_of_mem _ hy))
theorem build_like {t : TypeId} {ps : Array (Nat × Operand)} (ho : o.op = .build t ps) {R W : List Loc} (hf : foot X E o fr = some (R, W)) (ha : Agr fr fr' R) (h : stepOp X E o fr some = some fr1) : foot X E o fr' = some (R, W) ∧ Like (stepOp X E o fr' some) fr' fr1 W := by
  have e : ∀ fr, foot X E o fr = takeFoot fr o (ps.toList.map fun p => p.2) := fun fr => by unfold foot; rw [ho]
  rw [e] at hf
  obtain ⟨h1, h2⟩ := take_cases hf ha
  refine ⟨by rw [e]; exact h1, ?_⟩
  unfold stepOp at h ⊢
  rw [ho] at h ⊢
  simp only at h ⊢
  cases hi : X.ti t with
  | none => rw [hi] at h; cases h
  | some i =>
    rw [hi] at h
    simp only at h ⊢
    obtain ⟨hag, h⟩ := bif_some h
    rw [hag]
    simp only [cond_true]
    rcases h2 with ⟨rfl, hd, hw, hx⟩ | ⟨rfl, hd, hx, ho1, ho2⟩
    · split at h
      case h_2 => cases h
      rename_i cs' fr2 hb
      obtain ⟨fr2', e1, t1⟩ := buildParts_twin (S := fun s => Loc.whole s ∈ slotsOf fr (ps.toList.map fun p => p.2)) ps.toList hw (fun x hx t et => by subst et; exact slots_mem hx) hb
      rw [e1]
      exact twin_finW (fun s c => slotsW_in) slotsW_out hw t1 h hd
    · obtain ⟨q, e1, e2⟩ := buildParts_plain (offs := i.offs) ps.toList (zeroCV i.ty) hx ho1 ho2
      rw [e1] at h
      rw [e2]
      cases q with
      | none => cases h
      | some cs => exact fin_like h hd
theorem rowPartsO_plain {t : Ty} : ∀ (ps : List (Nat × Operand)) (k : Nat), (∀ x ∈ ps.map (fun p => p.2), opd fr' x = opd fr x) → (∀ x ∈ ps.map (fun p => p.2), ownOp fr x = false) → (∀ x ∈ ps.map (fun p => p.2), ownOp fr' x = false) →
    ∃ q : Option (List (Den t)), rowPartsO t fr k ps = q.map (fun c => (c, fr)) ∧ rowPartsO t fr' k ps = q.map (fun c => (c, fr'))
  | [], k, h, h1, h2 => ⟨some [], rfl, rfl⟩
  | (i, x) :: ps, k, h, h1, h2 => by
    simp only [rowPartsO, take_plain (h1 x (by simp)), take_plain (h2 x (by simp)), h x (by simp)]
    cases i.beq k
    · exact ⟨none, rfl, rfl⟩
    · simp only [cond_true]
      cases ((opd fr x).1 || (opd fr x).2.all sure)
      · exact ⟨none, rfl, rfl⟩
      · simp only [cond_true]
        obtain ⟨q, e1, e2⟩ := rowPartsO_plain ps (k + 1) (fun y hy => h y (List.mem_cons_of_mem _ hy)) (fun y hy => h1 y (List.mem_cons_of_mem _ hy)) (fun y hy => h2 y (List.mem_cons_of_mem _ hy))
        rw [e1, e2]
        split
        · cases q with
          | none => exact ⟨none, rfl, rfl⟩
          | some ys => exact ⟨some _, rfl, rfl⟩
        · exact ⟨none, rfl, rfl⟩
theorem buildSlice_like {t : TypeId} {n : Nat} {ps : Array (Nat × Operand)} (ho : o.op = .buildSlice t n ps) (hu0 : X.slf t = none) {R W : List Loc} (hf : foot X E o fr = some (R, W)) (ha : Agr fr fr' R) (h : stepOp X E o fr some = some fr1) : foot X E o fr' = some (R, W) ∧ Like (stepOp X E o fr' some) fr' fr1 W := by
  have e : ∀ fr, foot X E o fr = takeFoot fr o (ps.toList.map fun p => p.2) := fun fr => by unfold foot; rw [ho]; simp only [hu0]
  rw [e] at hf
  obtain ⟨h1, h2⟩ := take_cases hf ha
  refine ⟨by rw [e]; exact h1, ?_⟩
  unfold stepOp at h ⊢
  rw [ho] at h ⊢
  simp only [hu0] at h ⊢
  cases hi : X.sl t with
  | none => rw [hi] at h; cases h
  | some u =>
    rw [hi] at h
    simp only at h ⊢
    rcases h2 with ⟨rfl, hd, hw, hx⟩ | ⟨rfl, hd, hx, ho1, ho2⟩
    · split at h
      case h_2 => cases h
      rename_i xs fr2 hb
      obtain ⟨fr2', e1, t1⟩ := rowPartsO_twin (S := fun s => Loc.whole s ∈ slotsOf fr (ps.toList.map fun p => p.2)) ps.toList 0 hw (fun x hx t et => by subst et; exact slots_mem hx) hb
      rw [e1]
      obtain ⟨hn, h⟩ := bif_some h
      simp only [hn, cond_true]
      exact twin_finW (fun s c => slotsW_in) slotsW_out hw t1 h hd
    · obtain ⟨q, e1, e2⟩ := rowPartsO_plain (t := u) ps.toList 0 hx ho1 ho2
      rw [e1] at h
      rw [e2]
      cases q with
      | none => cases h
      | some cs =>
        obtain ⟨hn, h⟩ := bif_some h
        simp only [Option.map_some, hn, cond_true]
        exact fin_like h hd
theorem append_like {c : Call} (ho : o.op = .call c) (hc : c.callee = .builtin .append) {R W : List Loc} (hf : foot X E o fr = some (R, W)) (ha : Agr fr fr' R) (h : stepOp X E o fr some = some fr1) : foot X E o fr' = some (R, W) ∧ Like (stepOp X E o fr' some) fr' fr1 W := by
  have e : ∀ fr, foot X E o fr = takeFoot fr o c.args.toList := fun fr => by unfold foot; rw [ho]; simp only [hc]
  rw [e] at hf
  obtain ⟨h1, h2⟩ := take_cases hf ha
  refine ⟨by rw [e]; exact h1, ?_⟩
  unfold stepOp at h ⊢
  rw [ho] at h ⊢
  simp only [hc] at h ⊢
  generalize c.args.toList = xs at *
  split at h
  case h_2 => cases h
  rename_i t u x y hat
  try simp only at h ⊢
  obtain ⟨htu, h⟩ := bif_some h
  rw [htu]
  simp only [cond_true]
  cases hu : X.slf t with
  | none =>
    rw [hu] at h
    simp only at h ⊢
    cases hs : X.sl t with
    | none => rw [hs] at h; cases h
    | some u =>
      rw [hs] at h
      simp only at h ⊢
      have fork : ∀ (p p2 : Comp) (fr2 fr2' fr3 fr3' : Fr), takeOpd fr x = (p, fr2) → takeOpd fr' x = (p, fr2') → takeOpd fr2 y = (p2, fr3) → takeOpd fr2' y = (p2, fr3') → (∀ v, fin X fr3 o.dst v some = some fr1 → Like (fin X fr3' o.dst v some) fr' fr1 W) →
          Like (match takeOpd fr' x with
              | ((false, [cx]), fr1) => match takeOpd fr1 y with
                | ((false, [cy]), fr2) => match ownAs u cx, ownAs u cy with
                  | some xs, some ys => if xs.length + ys.length < lim u then fin X fr2 o.dst (.comp false [.tmpo u (xs ++ ys)]) some else none
                  | _, _ => none
                | _ => none
              | _ => none) fr' fr1 W := by
        intro p p2 fr2 fr2' fr3 fr3' e1 e2 e3 e4 hk
        rw [e2]
        rw [e1] at h
        split at h
        case h_2 => cases h
        rename_i cx fr2a hp
        cases hp
        simp only at h ⊢
        rw [e4]
        rw [e3] at h
        split at h
        case h_2 => cases h
        rename_i cy fr3a hp
        cases hp
        simp only at h ⊢
        split at h
        case h_2 => cases h
        rename_i xs ys hx hy
        rw [hx, hy]
        simp only
        obtain ⟨hl, h⟩ := ite_some h
        rw [if_pos hl]
        exact hk _ h
      rcases h2 with ⟨rfl, hd, hw, hx⟩ | ⟨rfl, hd, hx, ho1, ho2⟩
      · generalize htk : takeOpd fr x = q
        obtain ⟨p, fr2⟩ := q
        obtain ⟨fr2', e1, t1⟩ := takeOpd_twin (S := fun s => Loc.whole s ∈ slotsOf fr [x, y]) (T := fun s c => Inn s c (slotsW fr [x, y])) hw (fun t et => by subst et; exact slots_mem (by simp)) htk
        generalize htk2 : takeOpd fr2 y = q2
        obtain ⟨p2, fr3⟩ := q2
        obtain ⟨fr3', e2, t2⟩ := takeOpd_twin (S := fun s => Loc.whole s ∈ slotsOf fr [x, y]) (T := fun s c => Inn s c (slotsW fr [x, y])) t1.on (fun t et => by subst et; exact ⟨(slots_mem (by simp)).1, t1.refs _ (slots_mem (by simp)).2⟩) htk2
        exact fork p p2 fr2 fr2' fr3 fr3' htk e1 htk2 e2 fun v hv => twin_finW (fun s c => slotsW_in) slotsW_out hw (t1.trans t2) hv hd
      · exact fork (opd fr x) (opd fr y) fr fr' fr fr' (take_plain (ho1 x (by simp))) (by rw [take_plain (ho2 x (by simp)), hx x (by simp)]) (take_plain (ho1 y (by simp))) (by rw [take_plain (ho2 y (by simp)), hx y (by simp)]) fun v hv => fin_like hv hd
  | some u =>
    rw [hu] at h
    simp only at h ⊢
    have fork : ∀ (p : Comp) (fr2 fr2' : Fr), takeOpd fr x = (p, fr2) → takeOpd fr' x = (p, fr2') → opc fr' y = opc fr y → (∀ v, fin X fr2 o.dst v some = some fr1 → Like (fin X fr2' o.dst v some) fr' fr1 W) →
        Like (match listAs u (opc fr' y), takeOpd fr' x with
            | some ys, ((false, [.tmpo u' xs]), fr1) => if h : u' = u then
                (if xs.length + ys.length < lim u then fin X fr1 o.dst (.comp false [.tmpo u ((h ▸ xs) ++ ys)]) some else none) else none
            | some ys, ((false, [.nils]), fr1) => if ys.length < lim u then fin X fr1 o.dst (.comp false [.tmpo u ys]) some else none
            | _, _ => none) fr' fr1 W := by
      intro p fr2 fr2' e1 e2 e3 hk
      rw [e2, e3]
      rw [e1] at h
      split at h
      · rename_i ys u' xs' fr3 hl hp
        cases hp
        rw [hl]
        simp only
        split at h
        · rename_i hh
          rw [dif_pos hh]
          split at h
          · rename_i hlt; rw [if_pos hlt]; exact hk _ h
          · cases h
        · cases h
      · rename_i ys fr3 hl hp
        cases hp
        rw [hl]
        simp only
        split at h
        · rename_i hlt; rw [if_pos hlt]; exact hk _ h
        · cases h
      · cases h
    rcases h2 with ⟨rfl, hd, hw, hx⟩ | ⟨rfl, hd, hx, ho1, ho2⟩
    · generalize htk : takeOpd fr x = q
      obtain ⟨p, fr2⟩ := q
      obtain ⟨fr2', e1, t1⟩ := takeOpd_twin (S := fun s => Loc.whole s ∈ slotsOf fr [x, y]) (T := fun s c => Inn s c (slotsW fr [x, y])) hw (fun t et => by subst et; exact slots_mem (by simp)) htk
      exact fork p fr2 fr2' htk e1 (by simp only [opc, hx y (by simp)]) fun v hv => twin_finW (fun s c => slotsW_in) slotsW_out hw t1 hv hd
    · exact fork (opd fr x) fr fr' (take_plain (ho1 x (by simp))) (by rw [take_plain (ho2 x (by simp)), hx x (by simp)]) (by simp only [opc, hx y (by simp)]) fun v hv => fin_like hv hd
theorem extract_like {x : Operand} {i : Nat} (ho : o.op = .extract x i) {R W : List Loc} (hf : foot X E o fr = some (R, W)) (ha : Agr fr fr' R) (h : stepOp X E o fr some = some fr1) : foot X E o fr' = some (R, W) ∧ Like (stepOp X E o fr' some) fr' fr1 W := by
  unfold foot at hf
  rw [ho] at hf
  simp only at hf
  cases x with
  | tmp t =>
    simp only at hf
    cases hs : fr t with
    | comp _ _ => rw [hs] at hf; cases hf
    | box _ => rw [hs] at hf; cases hf
    | mapb _ _ _ _ => rw [hs] at hf; cases hf
    | tup vs =>
      rw [hs] at hf
      simp only at hf
      cases hv : vs[i]? with
      | none => rw [hv] at hf; cases hf
      | some p =>
        obtain ⟨gg, cs⟩ := p
        rw [hv] at hf
        simp only at hf
        have hR : R = .shape t :: .cells t i 1 :: dstR o.dst := by
          cases hp : cs.all isPlain <;> rw [hp] at hf <;> simp only [cond_true, cond_false, Option.some.injEq, Prod.mk.injEq] at hf <;> exact hf.1.symm
        subst hR
        have hsh := ha.shape (s := t) List.mem_cons_self
        rw [hs] at hsh
        obtain ⟨us, hs', hul⟩ := shape_tup hsh
        have hil : i < vs.length := (List.getElem?_eq_some_iff.1 hv).1
        have hv' : us[i]? = some (gg, cs) := by
          have := ha t (i + 1) ⟨.cells t i 1, List.mem_cons_of_mem _ List.mem_cons_self, rfl, by omega, by omega⟩
          rw [hs, hs'] at this
          simp only [pv, hv] at this
          rw [List.getElem?_eq_getElem (show i < us.length by omega)] at this ⊢
          simp only at this
          generalize us[i] = q at this ⊢
          obtain ⟨q1, q2⟩ := q
          cases this
          rfl
        refine ⟨by unfold foot; rw [ho]; simp only [hs', hv']; exact hf, ?_⟩
        unfold stepOp at h ⊢
        rw [ho] at h ⊢
        simp only [hs, hs', hv, hv'] at h ⊢
        cases hd : o.dst with
        | none => rw [hd] at h; cases h
        | some d =>
          rw [hd] at h ha hf
          simp only at h ⊢
          cases hb : (d.beq t || !cs.all fun c => !isOwn c)
          · rw [hb] at h
            simp only [cond_false] at h ⊢
            cases hp : cs.all isPlain
            · rw [hp] at h hf
              simp only [cond_false, Option.some.injEq, Prod.mk.injEq, true_and] at h hf ⊢
              subst hf
              have hdt : d ≠ t := fun e => by subst e; rw [Nat.beq_refl] at hb; cases hb
              have haA : Agr (upd fr t (.tup (vs.set i (false, [.dead])))) (upd fr' t (.tup (us.set i (false, [.dead])))) (dstR (some d)) := fun s c hi => by
                rcases hi.uncons with ⟨rfl, rfl⟩ | q
                · rw [upd_ne _ _ _ hdt, upd_ne _ _ _ hdt]; exact ha.tail.tail s 0 hi
                · exact q.nil.elim
              obtain ⟨g1, e1, e2, e3⟩ := (fin_like h haA).ex
              obtain ⟨g2, e4, _, e5⟩ := (fin_like (fr' := upd fr t (.tup (vs.set i (false, [.dead])))) h (fun _ _ _ => rfl)).ex
              rw [h] at e4
              cases e4
              have hnd : ∀ c, ¬ Inn t c (dstW (some d)) := fun c hi => by
                rcases hi.uncons with q | q
                · exact hdt q.symm
                · exact q.nil.elim
              refine ⟨g1, e1, fun s c hi => ?_, fun s c hi => ?_⟩
              · rcases hi.uncons with ⟨rfl, c1, c2⟩ | q
                · obtain rfl : c = i + 1 := by omega
                  rw [e5 s _ (hnd _), e3 s _ (hnd _), upd_same, upd_same]
                  simp only [pv]
                  rw [List.getElem?_set_self hil, List.getElem?_set_self (show i < us.length by omega)]
                · exact e2 s c q
              · rw [e3 s c (fun q => hi (Inn.cons q))]
                by_cases e : s = t
                · subst e
                  rw [upd_same, hs']
                  cases c with
                  | zero =>
                    simp only [pv, shape]
                    congr 1
                    apply List.ext_getElem?
                    intro k
                    rw [List.getElem?_map, List.getElem?_map, List.getElem?_set]
                    split
                    · rename_i e; subst e
                      rw [List.getElem?_eq_getElem (show i < us.length by omega)]
                      simp [show i < us.length by omega]
                    · rfl
                  | succ k =>
                    have hk : i ≠ k := fun e => hi (Inn.head (by subst e; exact ⟨rfl, by omega, by omega⟩))
                    simp only [pv]
                    rw [List.getElem?_set_ne hk]
                · rw [upd_ne _ _ _ e]
            · rw [hp] at h hf
              simp only [cond_true, Option.some.injEq, Prod.mk.injEq, true_and] at h hf ⊢
              subst hf
              exact fin_like h ha.tail.tail
          · rw [hb] at h; cases h
  | _ => cases hf
theorem callBox_like {c : Call} (ho : o.op = .call c) {f : Operand} (hc : c.callee = .value f) {fid : FuncId} {caps : List CV} (hfc : opc fr f = .fn fid caps) {F : Fn} (hF : E fid = some F) (hb : F.box = true) {R W : List Loc}
    (hf : (match argsOf fr c.args.toList with
      | (false, [.ptr s 0]) :: _ => bif caps.isEmpty && F.hand.isEmpty then some (.whole s :: (shapes (f :: c.args.toList) ++ dstR o.dst), .whole s :: dstW o.dst) else none
      | _ => none) = some (R, W)) (ha : Agr fr fr' R) (h : stepOp X E o fr some = some fr1) : foot X E o fr' = some (R, W) ∧ Like (stepOp X E o fr' some) fr' fr1 W := by
  split at hf
  case h_2 => cases hf
  rename_i s rest hargs
  obtain ⟨hcaps, hf⟩ := bif_some hf
  simp only [Bool.and_eq_true] at hcaps
  obtain ⟨hcaps, hhand⟩ := hcaps
  simp only [Option.some.injEq, Prod.mk.injEq] at hf
  obtain ⟨rfl, rfl⟩ := hf
  have hx : ∀ x ∈ f :: c.args.toList, opd fr' x = opd fr x := fun x hx => ha.tail.left.opd hx
  have hs : fr s = fr' s := ha.whole List.mem_cons_self
  have hfc' : opc fr' f = .fn fid caps := by simp only [opc, hx f (by simp)]; exact hfc
  have hargs' : argsOf fr' c.args.toList = (false, [.ptr s 0]) :: rest := by rw [argsOf_eq c.args.toList fun x hm => hx x (List.mem_cons_of_mem _ hm)]; exact hargs
  refine ⟨?_, ?_⟩
  · unfold foot
    rw [ho]
    simp only [hc, hfc', hF, hb, cond_true, hargs', hcaps, hhand, Bool.and_self]
  unfold stepOp at h ⊢
  rw [ho] at h ⊢
  simp only [hc, hfc, hfc', hF, hb, cond_true, hargs, hargs', hcaps, hhand, callBox] at h ⊢
  rw [← hs]
  cases hsb : fr s with
  | comp _ _ => rw [hsb] at h; cases h
  | tup _ => rw [hsb] at h; cases h
  | mapb kk vv xx ii => rw [hsb] at h; cases h
  | box cs =>
    rw [hsb] at h
    simp only at h ⊢
    obtain ⟨hcond, h⟩ := bif_some h
    rw [hcond]
    simp only [cond_true]
    rw [F.nat] at h ⊢
    cases hr : F.run ((false, [CV.mbox (cs.map flatArg)]) :: rest.map fun p => (p.1, p.2.map flatArg)) some with
    | none => rw [hr] at h; cases h
    | some res =>
      rw [hr] at h
      simp only [Option.bind_some] at h ⊢
      cases hq : (!res.all fun c => c.2.length.blt 4096)
      · rw [hq] at h
        simp only [cond_false] at h ⊢
        cases hg : res.getLast? with
        | none => rw [hg] at h; cases h
        | some p =>
          obtain ⟨g0, cs0⟩ := p
          rw [hg] at h
          match cs0 with
          | [] => cases h
          | c0 :: c1 :: r => cases c0 <;> cases h
          | [c0] =>
            cases c0 <;> first | (cases h; done) | skip
            rename_i outs
            simp only at h ⊢
            obtain ⟨hc2, h⟩ := bif_some h
            rw [hc2]
            simp only [cond_true]
            have t1 : Twin (fun j => j = s) (fun _ _ => True) fr fr' (upd fr s (.box (outs.map (resCV (cs.all isOldF && rest.all fun p => p.2.all isOldF))))) (upd fr' s (.box (outs.map (resCV (cs.all isOldF && rest.all fun p => p.2.all isOldF))))) := by
              refine ⟨fun j hj => ?_, fun j hj => ?_, fun j hr => ?_, fun j cs' e' => ?_⟩
              · subst hj; rw [upd_same, upd_same]
              · exact ⟨upd_ne _ _ _ hj, upd_ne _ _ _ hj⟩
              · by_cases e : j = s
                · subst e; rw [upd_same]; intro gg cs e; cases e
                · rw [upd_ne _ _ _ e]; exact hr
              · by_cases e : j = s
                · subst e
                  rw [hsb] at e'
                  cases e'
                  rw [upd_same]
                  exact ⟨_, rfl, fun k hk => (hk trivial).elim⟩
                · rw [upd_ne _ _ _ e]; exact ⟨cs', e', fun _ _ => rfl⟩
            exact twin_fin (L := [.whole s]) (fun s' c' => ⟨fun hi => by rcases hi.uncons with q | q; exact q; exact q.nil.elim, fun e => Inn.head e⟩) t1 h ha.tail.right
      · rw [hq] at h; cases h
theorem call_like {c : Call} (ho : o.op = .call c) {f : Operand} (hc : c.callee = .value f) {R W : List Loc} (hf : foot X E o fr = some (R, W)) (ha : Agr fr fr' R) (h : stepOp X E o fr some = some fr1) : foot X E o fr' = some (R, W) ∧ Like (stepOp X E o fr' some) fr' fr1 W := by
  unfold foot at hf
  rw [ho] at hf
  simp only [hc] at hf
  cases hfc : opc fr f <;> rw [hfc] at hf <;> simp only at hf <;> first | (cases hf; done) | skip
  rename_i fid caps
  cases hF : E fid with
  | none => rw [hF] at hf; cases hf
  | some F =>
    rw [hF] at hf
    simp only at hf
    cases hb : F.box
    case true =>
      rw [hb] at hf
      simp only [cond_true] at hf
      exact callBox_like ho hc hfc hF hb hf ha h
    rw [hb] at hf
    simp only [cond_false] at hf
    obtain ⟨hm, hf⟩ := bif_some hf
    have hm' : F.muts = [] := by simpa using hm
    simp only [Option.some.injEq, Prod.mk.injEq] at hf
    obtain ⟨rfl, rfl⟩ := hf
    have hx : ∀ x ∈ f :: c.args.toList, opd fr' x = opd fr x := fun x hx => ha.left.opd hx
    have hx' : ∀ x ∈ c.args.toList, opd fr' x = opd fr x := fun x hm => hx x (List.mem_cons_of_mem _ hm)
    have hfc' : opc fr' f = .fn fid caps := by simp only [opc, hx f (by simp)]; exact hfc
    refine ⟨?_, finv_like (X := X) ?_ h ha.right.right.right⟩
    · unfold foot
      rw [ho]
      simp only [hc, hfc', hF, hb, cond_false, hm, cond_true, argBoxes_eq _ hx']
    · unfold stepOp
      rw [ho]
      simp only [hc, hfc, hfc', hF, hb, cond_false]
      rw [argsOf_eq c.args.toList hx']
      refine callFn_v hm' fun p hp e he => ?_
      rcases List.mem_append.1 hp with hp | hp
      · obtain ⟨x, hx1, rfl⟩ := argsOf_mem hp
        exact argCV_eq ha.right.left (opd fr x).2 (fun l hl => argBoxes_mem hx1 l hl) e he
      · obtain ⟨q, hq, rfl⟩ := List.mem_map.1 hp
        simp at he
        subst he
        exact argCV_eq ha.right.right.left caps (fun l hl => hl) _ hq
theorem assign_like {x : Operand} (ho : o.op = .assign x) {R W : List Loc} (hf : foot X E o fr = some (R, W)) (ha : Agr fr fr' R) (h : stepOp X E o fr some = some fr1) : foot X E o fr' = some (R, W) ∧ Like (stepOp X E o fr' some) fr' fr1 W := by
  have e : ∀ fr, (∀ s, opc fr x ≠ .mptr s) → foot X E o fr = bif X.dr then takeFoot fr o [x] else bif (opd fr x).2.all isScalar then pureFoot o [x] else none := fun fr hn => by
    unfold foot; rw [ho]
    cases hc : opc fr x <;> first | (simp only [hc]; done) | exact (hn _ hc).elim
  have e2 : ∀ fr, (∀ s, opc fr x ≠ .mptr s) → stepOp X E o fr some = match o.dst with
      | some d => bif X.dr || (takeOpd fr x).1.2.all isScalar then fin X (takeOpd fr x).2 (some d) (.comp (takeOpd fr x).1.1 (takeOpd fr x).1.2) some else fin X (dem d (takeOpd fr x).2) (some d) (.comp (takeOpd fr x).1.1 ((takeOpd fr x).1.2.map fun c => dem1 d (toOwn c))) some
      | none => none := fun fr hn => by
    unfold stepOp
    rw [ho]
    simp only
    generalize takeOpd fr x = q
    obtain ⟨⟨gg, ws⟩, frx⟩ := q
    cases hc : opc fr x <;> first | rfl | exact (hn _ hc).elim
  have hno : ∀ s, opc fr x ≠ .mptr s := fun s hc => by
    unfold foot at hf
    rw [ho] at hf
    simp only [hc] at hf
    cases hf
  rw [e fr hno] at hf
  have hxx : opd fr' x = opd fr x := by
    cases x with
    | tmp t =>
      have hm : Loc.whole t ∈ R ∨ Loc.shape t ∈ R := by
        cases hdr : X.dr
        · rw [hdr] at hf
          simp only [cond_false] at hf
          obtain ⟨_, hf⟩ := bif_some hf
          simp only [pureFoot, Option.some.injEq, Prod.mk.injEq] at hf
          obtain ⟨rfl, _⟩ := hf
          exact .inr (by simp [shapes])
        · rw [hdr] at hf
          simp only [cond_true, takeFoot] at hf
          cases ha : ([Operand.tmp t].any (ownOp fr))
          · rw [ha] at hf
            simp only [cond_false, pureFoot, Option.some.injEq, Prod.mk.injEq] at hf
            obtain ⟨rfl, _⟩ := hf
            exact .inr (by simp [shapes])
          · rw [ha] at hf
            simp only [cond_true, Option.some.injEq, Prod.mk.injEq] at hf
            obtain ⟨rfl, _⟩ := hf
            exact .inl (by simp [slotsOf])
      rcases hm with hm | hm
      · simp only [opd]; rw [ha.whole hm]
      · simp only [opd]; exact (viewS_shape (ha.shape hm)).symm
    | _ => rfl
  have hno' : ∀ s, opc fr' x ≠ .mptr s := fun s hc => hno s (by simp only [opc] at hc ⊢; rw [hxx] at hc; exact hc)
  rw [e2 fr hno] at h
  rw [e fr' hno', e2 fr' hno']
  cases hd : o.dst with
  | none => rw [hd] at h; cases h
  | some d =>
  rw [hd] at h
  simp only at h ⊢
  cases hdr : X.dr
  · rw [hdr] at hf h
    simp only [cond_false, Bool.false_or] at hf h ⊢
    obtain ⟨hsc, hf⟩ := bif_some hf
    simp only [pureFoot, Option.some.injEq, Prod.mk.injEq] at hf
    obtain ⟨rfl, rfl⟩ := hf
    have hx : opd fr' x = opd fr x := ha.left.opd (by simp)
    have ht := take_plain (own_of_scalar hsc)
    have ht' := take_plain (own_of_scalar (fr := fr') (x := x) (by rw [hx]; exact hsc))
    rw [ht] at h
    rw [ht', hx]
    simp only [hsc, cond_true] at h ⊢
    refine ⟨rfl, ?_⟩
    have had := ha.right
    rw [hd] at had ⊢
    exact fin_like h had
  · rw [hdr] at hf h
    simp only [cond_true, Bool.true_or] at hf h ⊢
    obtain ⟨h1, h2⟩ := take_cases hf ha
    refine ⟨h1, ?_⟩
    rcases h2 with ⟨rfl, hdd, hw, hx⟩ | ⟨rfl, hdd, hx, ho1, ho2⟩
    · obtain ⟨fr2', q1, t1⟩ := takeOpd_twin (S := fun s => Loc.whole s ∈ slotsOf fr [x]) (T := fun s c => Inn s c (slotsW fr [x])) hw (fun t et => by subst et; exact slots_mem (by simp)) (show takeOpd fr x = ((takeOpd fr x).1, (takeOpd fr x).2) from rfl)
      rw [q1]
      rw [hd] at hdd ⊢
      exact twin_finW (fun s c => slotsW_in) slotsW_out hw t1 h hdd
    · have ht := take_plain (ho1 x (by simp))
      have ht' := take_plain (ho2 x (by simp))
      rw [ht] at h
      rw [ht', hx x (by simp)]
      rw [hd] at hdd ⊢
      exact fin_like h hdd
theorem move_like {x : Operand} (ho : o.op = .move x) {R W : List Loc} (hf : foot X E o fr = some (R, W)) (ha : Agr fr fr' R) (h : stepOp X E o fr some = some fr1) : foot X E o fr' = some (R, W) ∧ Like (stepOp X E o fr' some) fr' fr1 W := by
  have plain : ∀ fr, (∀ t vs, x = .tmp t → fr t ≠ .tup vs) → foot X E o fr = pureFoot o [x] ∧ stepOp X E o fr some = fin X fr o.dst (.comp (opd fr x).1 (opd fr x).2) some := by
    intro fr hn
    unfold foot stepOp
    rw [ho]
    cases x with
    | tmp t =>
      simp only
      cases hs : fr t with
      | tup vs => exact (hn t vs rfl hs).elim
      | mapb _ _ _ _ => simp only [opd, hs]; exact ⟨trivial, trivial⟩
      | comp _ _ => simp only [opd, hs]; exact ⟨trivial, trivial⟩
      | box _ => simp only [opd, hs]; exact ⟨trivial, trivial⟩
    | _ => exact ⟨rfl, rfl⟩
  by_cases hn : ∀ t vs, x = .tmp t → fr t ≠ .tup vs
  · obtain ⟨p1, p2⟩ := plain fr hn
    rw [p1] at hf
    simp only [pureFoot, Option.some.injEq, Prod.mk.injEq] at hf
    obtain ⟨rfl, rfl⟩ := hf
    have hn' : ∀ t vs, x = .tmp t → fr' t ≠ .tup vs := by
      intro t vs e e2
      subst e
      have hsh := ha.shape (s := t) (List.mem_append_left _ (by simp [shapes]))
      rw [e2] at hsh
      obtain ⟨us, e, _⟩ := shape_tup hsh.symm
      exact hn t us rfl e
    obtain ⟨q1, q2⟩ := plain fr' hn'
    refine ⟨q1, ?_⟩
    rw [q2, ha.left.opd (x := x) (by simp)]
    rw [p2] at h
    exact fin_like h ha.right
  · obtain ⟨t, vs, rfl, e⟩ : ∃ t vs, x = .tmp t ∧ fr t = .tup vs := by
      refine Classical.byContradiction fun hc => hn fun t vs e1 e2 => hc ⟨t, vs, e1, e2⟩
    unfold foot at hf
    rw [ho] at hf
    simp only [e, Option.some.injEq, Prod.mk.injEq] at hf
    obtain ⟨rfl, rfl⟩ := hf
    have hw : fr t = fr' t := ha.whole List.mem_cons_self
    have e' : fr' t = .tup vs := hw ▸ e
    refine ⟨by unfold foot; rw [ho]; simp only [e'], ?_⟩
    unfold stepOp at h ⊢
    rw [ho] at h ⊢
    simp only [e, e'] at h ⊢
    cases hd : o.dst with
    | none => rw [hd] at h; cases h
    | some d =>
      rw [hd] at h ha
      simp only at h ⊢
      cases hc : (d.beq t || !vs.all (fun p => p.2.all fun c => !isOwn c))
      · rw [hc] at h
        simp only [cond_false] at h ⊢
        have t1 : Twin (fun j => j = t) (fun _ _ => True) fr fr' (upd fr t .dead) (upd fr' t .dead) := by
          refine ⟨fun j hj => ?_, fun j hj => ?_, fun j hr => ?_, fun j cs' eb => ?_⟩
          · subst hj; rw [upd_same, upd_same]
          · exact ⟨upd_ne _ _ _ hj, upd_ne _ _ _ hj⟩
          · by_cases e : j = t
            · subst e; rw [upd_same]; intro gg cs e; cases e; intro s c t' xs hm; simp at hm
            · rw [upd_ne _ _ _ e]; exact hr
          · by_cases e0 : j = t
            · subst e0; rw [e] at eb; cases eb
            · rw [upd_ne _ _ _ e0]; exact ⟨cs', eb, fun _ _ => rfl⟩
        exact twin_fin (L := [.whole t]) (fun s' c' => ⟨fun hi => by rcases hi.uncons with q | q; exact q; exact q.nil.elim, fun e => Inn.head e⟩) t1 h ha.tail
      · rw [hc] at h; cases h
theorem step_like {R W : List Loc} (hf : foot X E o fr = some (R, W)) (ha : Agr fr fr' R) (h : stepOp X E o fr some = some fr1) : foot X E o fr' = some (R, W) ∧ Like (stepOp X E o fr' some) fr' fr1 W := by
  have pure : ∀ (xs : List Operand), (∀ fr, foot X E o fr = pureFoot o xs) → ((∀ z ∈ xs, opd fr' z = opd fr z) → ∃ v, stepOp X E o fr some = finv X o.dst v fr ∧ stepOp X E o fr' some = finv X o.dst v fr') → foot X E o fr' = some (R, W) ∧ Like (stepOp X E o fr' some) fr' fr1 W := by
    intro xs e hv
    rw [e] at hf ⊢
    simp only [pureFoot, Option.some.injEq, Prod.mk.injEq] at hf
    obtain ⟨rfl, rfl⟩ := hf
    exact ⟨rfl, finv_like (hv fun z hz => ha.left.opd hz) h ha.right⟩
  have fo : ∀ {op}, o.op = op → ∀ fr, foot X E o fr = foot X E { o with op := op } fr := fun e fr => by rw [← e]
  cases ho : o.op
  case move x => exact move_like ho hf ha h
  case assign x => exact assign_like ho hf ha h
  case pick c x y => exact pure [c, x, y] (fun fr => by unfold foot; rw [ho]) (pick_v ho)
  case alloc t => exact pure [] (fun fr => by unfold foot; rw [ho]) (fun _ => alloc_v ho)
  case box t x =>
    cases hd : X.dr
    · unfold foot at hf; rw [ho] at hf; simp only [hd, cond_false] at hf; cases hf
    · exact pure [x] (fun fr => by unfold foot; rw [ho]; simp only [hd, cond_true]) (box_v hd ho)
  case build t ps => exact build_like ho hf ha h
  case buildSlice t n ps =>
    cases hu : X.slf t with
    | some u => exact pure _ (fun fr => by unfold foot; rw [ho]; simp only [hu]) (buildSlice_v ho hu)
    | none => exact buildSlice_like ho hu hf ha h
  case makeSlice t l m => exact pure _ (fun fr => by unfold foot; rw [ho]) (makeSlice_v ho)
  case load t x => exact load_like ho hf ha h
  case store t p x => exact store_like ho hf ha h
  case nilCheck x => exact pure _ (fun fr => by unfold foot; rw [ho]) (nil_v ho)
  case binOp op t x y ty =>
    cases hd : X.dr
    · unfold foot at hf; rw [ho] at hf; simp only [hd, cond_false] at hf; cases hf
    · exact pure _ (fun fr => by unfold foot; rw [ho]; simp only [hd, cond_true]) (bin_v hd ho)
  case unOp op t x => exact pure _ (fun fr => by unfold foot; rw [ho]) (un_v ho)
  case convert s t x => exact pure _ (fun fr => by unfold foot; rw [ho]) (convert_v ho)
  case makeFunc f first caps => exact pure _ (fun fr => by unfold foot; rw [ho]) (makeFunc_v ho)
  case slice t x lo hi mx =>
    cases mx with
    | some _ => cases lo <;> cases hi <;> (unfold foot at hf; rw [ho] at hf; cases hf)
    | none => cases hi with
      | some _ =>
        cases hd : X.dr
        · unfold foot at hf; rw [ho] at hf; simp only [hd, cond_false] at hf; cases hf
        · cases lo <;> exact pure _ (fun fr => by unfold foot; rw [ho]; simp only [hd, cond_true]) (slice2_v hd ho)
      | none => cases lo with
        | none => unfold foot at hf; rw [ho] at hf; cases hf
        | some l => exact pure _ (fun fr => by unfold foot; rw [ho]) (slice_v ho)
  case fieldAddr t x f => exact pure _ (fun fr => by unfold foot; rw [ho]) (fieldAddr_v ho)
  case field t x f => exact pure _ (fun fr => by unfold foot; rw [ho]) (field_v ho)
  case indexAddr t x ix => exact pure _ (fun fr => by unfold foot; rw [ho]) (index2_v ho)
  case extract x i => exact extract_like ho hf ha h
  case call c =>
    cases hc : c.callee with
    | value f => exact call_like ho hc hf ha h
    | invoke r m => unfold foot at hf; rw [ho] at hf; simp only [hc] at hf; cases hf
    | builtin b =>
      cases b
      case append => exact append_like ho hc hf ha h
      case len => exact pure c.args.toList (fun fr => by unfold foot; rw [ho]; simp only [hc]) (minmax_v ho (.inl hc))
      case min => exact pure c.args.toList (fun fr => by unfold foot; rw [ho]; simp only [hc]) (minmax_v ho (.inr (.inl hc)))
      case max => exact pure c.args.toList (fun fr => by unfold foot; rw [ho]; simp only [hc]) (minmax_v ho (.inr (.inr hc)))
      all_goals (unfold foot at hf; rw [ho] at hf; simp only [hc] at hf; cases hf)
  all_goals (unfold foot at hf; rw [ho] at hf; cases hf)
end
end Go.Rv
namespace Go.Rv
open Classical
noncomputable def stpF (X : Env) (E : FuncId → Option Fn) (ops : List Oper) (o : Oper) (fp : FP) (fr : Fr) : Option Fr :=
  guardK ops o fr (fun fr => if addR (gLoc ops o) (pureFoot o []) = fp then fin X fr o.dst (.comp false [.undef]) some else none)
    (fun fr => if addR (gLoc ops o) (foot X E o fr) = fp then stepOp X E o fr some else none)
section
variable {X : Env} {E : FuncId → Option Fn} {fr fr' fr1 : Fr} {o : Oper} {ops : List Oper} {R : Type}
def gk {R : Type} (k : Option Bool) (no yes : Fr → Option R) (fr : Fr) : Option R := match k with
  | some true => yes fr
  | some false => no fr
  | none => none
theorem guardK_pick (ha : Agr fr fr' (gLoc ops o)) : ∃ k : Option Bool, ∀ {R : Type} (no yes : Fr → Option R), guardK ops o fr no yes = gk k no yes fr ∧ guardK ops o fr' no yes = gk k no yes fr' := by
  unfold guardK
  unfold gLoc at ha
  cases hg : o.guard with
  | none => exact ⟨some true, fun no yes => ⟨rfl, rfl⟩⟩
  | some q =>
    obtain ⟨j, want⟩ := q
    rw [hg] at ha
    simp only at ha ⊢
    cases hj : ops[j]? with
    | none => exact ⟨none, fun no yes => ⟨rfl, rfl⟩⟩
    | some oj =>
      rw [hj] at ha
      simp only at ha ⊢
      cases hd : oj.dst with
      | none => exact ⟨none, fun no yes => ⟨rfl, rfl⟩⟩
      | some d =>
        rw [hd] at ha
        simp only
        have hsh := ha.shape (s := d) List.mem_cons_self
        cases hf : fr d with
        | tup vs => rw [hf] at hsh; obtain ⟨us, e, _⟩ := shape_tup hsh; rw [e]; exact ⟨none, fun no yes => ⟨rfl, rfl⟩⟩
        | mapb kk vv xx ii => rw [hf] at hsh; rw [shape_map hsh.symm]; exact ⟨none, fun no yes => ⟨rfl, rfl⟩⟩
        | box cs => rw [hf] at hsh; obtain ⟨ds, e⟩ := shape_box (x := fr' d) (cs := []) hsh.symm; rw [e]; exact ⟨none, fun no yes => ⟨rfl, rfl⟩⟩
        | comp gg cs =>
          rw [hf] at hsh
          have hf' := shape_eq (x := .comp gg cs) hsh rfl
          rw [hf']
          by_cases hb : ∃ b, gg = false ∧ cs = [.bool b]
          · obtain ⟨b, rfl, rfl⟩ := hb
            cases b
            · refine ⟨some !want, fun no yes => ?_⟩
              simp only [Bool.false_eq_true, if_false]
              rw [upd_idem fr d hf, upd_idem fr' d hf']
              cases want <;> exact ⟨rfl, rfl⟩
            · refine ⟨some want, fun no yes => ?_⟩
              simp only [if_true]
              rw [upd_idem fr d hf, upd_idem fr' d hf']
              cases want <;> exact ⟨rfl, rfl⟩
          · by_cases hu : gg = false ∧ cs = [.undef]
            · obtain ⟨rfl, rfl⟩ := hu
              exact ⟨some false, fun no yes => ⟨rfl, rfl⟩⟩
            · refine ⟨none, fun no yes => ?_⟩
              constructor
              · split
                · rename_i e; cases e; exact (hb ⟨_, rfl, rfl⟩).elim
                · rename_i e; cases e; exact (hu ⟨rfl, rfl⟩).elim
                · rfl
              · split
                · rename_i e; cases e; exact (hb ⟨_, rfl, rfl⟩).elim
                · rename_i e; cases e; exact (hu ⟨rfl, rfl⟩).elim
                · rfl
theorem addR_some {l R W : List Loc} {fp : FP} (h : addR l fp = some (R, W)) : ∃ R0, fp = some (R0, W) ∧ R = l ++ R0 := by
  cases fp with
  | none => cases h
  | some q =>
    obtain ⟨r, w⟩ := q
    simp only [addR, Option.some.injEq, Prod.mk.injEq] at h
    exact ⟨r, by rw [h.2], h.1.symm⟩
theorem stp_like {R W : List Loc} (h : stpF X E ops o (some (R, W)) fr = some fr1) (ha : Agr fr fr' R) : Like (stpF X E ops o (some (R, W)) fr') fr' fr1 W := by
  have hg : Agr fr fr' (gLoc ops o) := by
    have h := h
    unfold stpF at h
    obtain ⟨k, hk⟩ := guardK_pick (fr := fr) (fr' := fr) (ops := ops) (o := o) (fun _ _ _ => rfl)
    rw [(hk _ _).1] at h
    cases k with
    | none => cases h
    | some k =>
      cases k
      · obtain ⟨h1, h2⟩ := ite_some h
        obtain ⟨R0, _, rfl⟩ := addR_some h1
        exact ha.left
      · obtain ⟨h1, h2⟩ := ite_some h
        obtain ⟨R0, _, rfl⟩ := addR_some h1
        exact ha.left
  unfold stpF at h ⊢
  obtain ⟨k, hk⟩ := guardK_pick hg
  rw [(hk _ _).1] at h
  rw [(hk _ _).2]
  cases k with
  | none => cases h
  | some k =>
    cases k
    · obtain ⟨h1, h2⟩ := ite_some h
      obtain ⟨R0, hf, rfl⟩ := addR_some h1
      simp only [pureFoot, Option.some.injEq, Prod.mk.injEq] at hf
      obtain ⟨rfl, rfl⟩ := hf
      simp only [gk]
      rw [if_pos h1]
      exact fin_like h2 ha.right.right
    · obtain ⟨h1, h2⟩ := ite_some h
      obtain ⟨R0, hf, rfl⟩ := addR_some h1
      obtain ⟨q1, q2⟩ := step_like hf ha.right h2
      simp only [gk]
      rw [q1]
      rw [if_pos (show addR (gLoc ops o) (some (R0, W)) = some (gLoc ops o ++ R0, W) from rfl)]
      exact q2
def Path (F : Nat → Fr → Option Fr) : List Nat → Fr → Fr → Prop
  | [], f, f' => f = f'
  | i :: l, f, f' => ∃ g, F i f = some g ∧ Path F l g f'
noncomputable def opF (X : Env) (E : FuncId → Option Fn) (ops : List Oper) (fps : List FP) (i : Nat) (fr : Fr) : Option Fr :=
  match ops[i]?, fps[i]? with
  | some o, some fp => stpF X E ops o fp fr
  | _, _ => none
def apartAt (fps : List FP) (i j : Nat) : Prop := ∃ f g, fps[i]? = some f ∧ fps[j]? = some g ∧ fpApart f g = true
theorem swap {fps : List FP} {i j : Nat} (hij : apartAt fps i j) {f0 f1 f2 : Fr} (h1 : opF X E ops fps i f0 = some f1) (h2 : opF X E ops fps j f1 = some f2) : ∃ g, opF X E ops fps j f0 = some g ∧ opF X E ops fps i g = some f2 := by
  obtain ⟨p, q, hp, hq, hap⟩ := hij
  unfold opF at *
  rw [hp] at h1 ⊢
  rw [hq] at h2 ⊢
  cases hoi : ops[i]? with
  | none => rw [hoi] at h1; cases h1
  | some oi => cases hoj : ops[j]? with
    | none => rw [hoj] at h2; cases h2
    | some oj =>
      rw [hoi] at h1
      rw [hoj] at h2
      simp only at h1 h2 ⊢
      cases p with
      | none => simp [fpApart] at hap
      | some p => cases q with
        | none => simp [fpApart] at hap
        | some q =>
          obtain ⟨R1, W1⟩ := p
          obtain ⟨R2, W2⟩ := q
          simp only [fpApart, Bool.and_eq_true] at hap
          obtain ⟨d1, d2, d3⟩ := hap
          -- off its places, the first leaves the frame alone
          obtain ⟨_, e1, _, off1⟩ := (stp_like h1 (fr' := f0) fun _ _ _ => rfl).ex
          rw [h1] at e1; cases e1
          obtain ⟨_, e2, _, off2⟩ := (stp_like h2 (fr' := f1) fun _ _ _ => rfl).ex
          rw [h2] at e2; cases e2
          have a1 : Agr f1 f0 R2 := fun s c hi => off1 s c fun hw => disj_spec d1 hw hi
          obtain ⟨g, g1, g2, g3⟩ := (stp_like h2 a1).ex
          have a2 : Agr f0 g R1 := fun s c hi => (g3 s c fun hw => disj_spec d3 hi hw).symm
          obtain ⟨k, k1, k2, k3⟩ := (stp_like h1 a2).ex
          refine ⟨g, g1, ?_⟩
          rw [k1]
          congr 1
          funext s
          refine pv_ext fun c => ?_
          by_cases hw1 : Inn s c W1
          · have hn2 : ¬ Inn s c W2 := fun hw2 => disj_spec d2 hw1 hw2
            rw [← k2 s c hw1, off2 s c hn2]
          · rw [k3 s c hw1]
            by_cases hw2 : Inn s c W2
            · exact (g2 s c hw2).symm
            · rw [g3 s c hw2, off2 s c hw2, off1 s c hw1]
theorem front {fps : List FP} {j : Nat} : ∀ (l1 : List Nat) {l2 : List Nat} {f f' : Fr}, (∀ i ∈ l1, apartAt fps i j) → Path (opF X E ops fps) (l1 ++ j :: l2) f f' → ∃ g, opF X E ops fps j f = some g ∧ Path (opF X E ops fps) (l1 ++ l2) g f'
  | [], l2, f, f', h, hp => hp
  | i :: l1, l2, f, f', h, hp => by
    obtain ⟨f1, e1, hp⟩ := hp
    obtain ⟨g, e2, hp⟩ := front l1 (fun k hk => h k (List.mem_cons_of_mem _ hk)) hp
    obtain ⟨g', e3, e4⟩ := swap (h i List.mem_cons_self) e1 e2
    exact ⟨g', e3, g, e4, hp⟩
end
section
variable {P : Program} {st : St} {g : Gh} {fr : Fr} {a : Act} {w : World} {X : Env} {E : FuncId → Option Fn} {R : Type} {K : Fr → Option R} {r : R} {Q : Exit → Act → World → Prop} {ops : List Oper}
inductive Anc (ops : List Oper) : Nat → Nat → Prop where
  | dir {j : Nat} {o : Oper} {e : Edge} : ops[j]? = some o → e ∈ o.after.toList → Region.binds .any e = true → Anc ops j e.on
  | step {j i : Nat} {o : Oper} {e : Edge} : ops[j]? = some o → e ∈ o.after.toList → Region.binds .any e = true → Anc ops e.on i → Anc ops j i
theorem maskE_spec {ops : List Oper} {ms : List Nat} (hm : ∀ (k m : Nat), ms[k]? = some m → ∀ i, m.testBit i = true → Anc ops k i) {j : Nat} {o : Oper} (ho : ops[j]? = some o) : ∀ (es : List Edge), (∀ e ∈ es, e ∈ o.after.toList) → ∀ i, (maskE es ms).testBit i = true → Anc ops j i
  | [], _, i, h => by simp [maskE] at h
  | e :: es, hes, i, h => by
    simp only [maskE] at h
    cases hb : Region.binds .any e
    · rw [hb] at h
      exact maskE_spec hm ho es (fun e he => hes e (List.mem_cons_of_mem _ he)) i h
    · rw [hb] at h
      simp only [cond_true, Nat.testBit_or, Bool.or_eq_true] at h
      rcases h with (h | h) | h
      · rw [Nat.one_shiftLeft, Nat.testBit_two_pow] at h
        have h : e.on = i := by simpa using h
        subst h
        exact .dir ho (hes e List.mem_cons_self) hb
      · cases hk : ms[e.on]? with
        | none => simp [List.getD_eq_getElem?_getD, hk] at h
        | some m =>
          simp only [List.getD_eq_getElem?_getD, hk, Option.getD_some] at h
          exact .step ho (hes e List.mem_cons_self) hb (hm _ m hk i h)
      · exact maskE_spec hm ho es (fun e he => hes e (List.mem_cons_of_mem _ he)) i h
structure Ran (X : Env) (E : FuncId → Option Fn) (ops : List Oper) (fps : List FP) : Prop where
  len : fps.length = ops.length
  back : ∀ j o, ops[j]? = some o → backs o j = true
  wait : ∀ j o i, ops[j]? = some o → i < j → Anc ops j i ∨ apartAt fps i j
theorem apartAll_spec {m : Nat} {fp : FP} : ∀ (fps : List FP) (k : Nat), apartAll m fp k fps = true → ∀ i f, fps[i]? = some f → m.testBit (k + i) = true ∨ fpApart f fp = true
  | [], k, h, i, f, hi => by simp at hi
  | f0 :: fps, k, h, i, f, hi => by
    simp only [apartAll, Bool.and_eq_true, Bool.or_eq_true] at h
    cases i with
    | zero => simp at hi; subst hi; exact h.1
    | succ i =>
      simp at hi
      have := apartAll_spec fps (k + 1) h.2 i f hi
      rwa [show k + 1 + i = k + (i + 1) by omega] at this
theorem runD_path (hdr : X.dr = true) : ∀ (l : List Oper) (ms : List Nat) (fps0 : List FP) (fr : Fr), ms.length = fps0.length → (∀ (k m : Nat), ms[k]? = some m → ∀ i, m.testBit i = true → Anc ops k i) → (∀ k o, l[k]? = some o → ops[fps0.length + k]? = some o) → runD X E ops l ms fps0 fr K = some r →
    ∃ more : List FP, more.length = l.length ∧ (∀ k o, l[k]? = some o → backs o (fps0.length + k) = true ∧ ∀ i < fps0.length + k, Anc ops (fps0.length + k) i ∨ apartAt (fps0 ++ more) i (fps0.length + k)) ∧
      ∃ f', Path (opF X E ops (fps0 ++ more)) (List.range' fps0.length l.length) fr f' ∧ K f' = some r
  | [], ms, fps0, fr, hms, hm, hl, h => ⟨[], rfl, fun k o hk => by simp at hk, fr, rfl, h⟩
  | o :: l, ms, fps0, fr, hms, hm, hl, h => by
    simp only [runD] at h
    obtain ⟨hb, h⟩ := bif_some h
    have ho : ops[fps0.length]? = some o := by simpa using hl 0 o rfl
    -- one step
    have one : ∃ fp f1, apartAll (maskE o.after.toList ms) fp 0 fps0 = true ∧ stpF X E ops o fp fr = some f1 ∧ runD X E ops l (ms ++ [maskE o.after.toList ms]) (fps0 ++ [fp]) f1 K = some r := by
      obtain ⟨k, hk⟩ := guardK_pick (fr := fr) (fr' := fr) (ops := ops) (o := o) (fun _ _ _ => rfl)
      rw [(hk _ _).1] at h
      cases k with
      | none => cases h
      | some k =>
        cases k
        · simp only [gk] at h
          obtain ⟨h1, h⟩ := bif_some h
          rw [fin_nat] at h
          cases hs : fin X fr o.dst (.comp false [.undef]) some with
          | none => rw [hs] at h; cases h
          | some f1 =>
            rw [hs] at h
            refine ⟨_, f1, h1, ?_, h⟩
            unfold stpF
            rw [(hk _ _).1]
            simp only [gk, if_pos, hs]
        · simp only [gk] at h
          obtain ⟨h1, h⟩ := bif_some h
          rw [stepOp_nat hdr] at h
          cases hs : stepOp X E o fr some with
          | none => rw [hs] at h; cases h
          | some f1 =>
            rw [hs] at h
            refine ⟨_, f1, h1, ?_, h⟩
            unfold stpF
            rw [(hk _ _).1]
            simp only [gk, if_pos, hs]
    obtain ⟨fp, f1, c1, c2, c3⟩ := one
    have hmask := maskE_spec hm ho o.after.toList (fun _ h => h)
    obtain ⟨more, m1, m2, f', m3, m4⟩ := runD_path hdr l (ms ++ [maskE o.after.toList ms]) (fps0 ++ [fp]) f1 (by simp [hms]) (fun k m hk i hi => by
      by_cases hlt : k < ms.length
      · rw [List.getElem?_append_left hlt] at hk; exact hm k m hk i hi
      · rw [List.getElem?_append_right (by omega)] at hk
        have : k - ms.length = 0 := by
          have := (List.getElem?_eq_some_iff.1 hk).1
          simp at this; omega
        rw [this] at hk
        simp at hk
        subst hk
        rw [show k = fps0.length by omega]
        exact hmask i hi) (fun k o' hk => by
      have := hl (k + 1) o' (by simpa using hk)
      rwa [show (fps0 ++ [fp]).length + k = fps0.length + (k + 1) by simp; omega]) c3
    have e : fps0 ++ [fp] ++ more = fps0 ++ fp :: more := by simp
    rw [e] at m2 m3
    have hfp : (fps0 ++ fp :: more)[fps0.length]? = some fp := by simp
    refine ⟨fp :: more, by simp [m1], fun k o' hk => ?_, f', ?_, m4⟩
    · cases k with
      | zero =>
        simp at hk
        subst hk
        refine ⟨hb, fun i hi => ?_⟩
        have hi : i < fps0.length := hi
        rcases apartAll_spec fps0 0 c1 i fps0[i] (List.getElem?_eq_getElem hi) with q | q
        · exact .inl (hmask i (by simpa using q))
        · exact .inr ⟨fps0[i], fp, by rw [List.getElem?_append_left hi]; exact List.getElem?_eq_getElem hi, hfp, q⟩
      | succ k =>
        have := m2 k o' (by simpa using hk)
        rwa [show (fps0 ++ [fp]).length + k = fps0.length + (k + 1) by simp; omega] at this
    · simp only [List.length_cons, List.range'_succ]
      refine ⟨f1, ?_, ?_⟩
      · unfold opF; rw [ho, hfp]; exact c2
      · rwa [show (fps0 ++ [fp]).length = fps0.length + 1 by simp] at m3
theorem Anc.done {ops : Array Oper} {listed : Array Bool} (hd : ∀ (k : Nat) (o : Oper), ops[k]? = some o → listed.getD k false = true → ∀ e ∈ o.after, Region.binds .any e = true → listed.getD e.on false = true) {j i : Nat} (h : Anc ops.toList j i)
    (hj : ∀ (o : Oper), ops[j]? = some o → ∀ e ∈ o.after, Region.binds .any e = true → listed.getD e.on false = true) : listed.getD i false = true := by
  induction h with
  | dir ho he hb => exact hj _ (by simpa using ho) _ (by simpa using he) hb
  | step ho he hb _ ih =>
    have := hj _ (by simpa using ho) _ (by simpa using he) hb
    exact ih fun o' ho' => hd _ o' ho' this
theorem any_ok (hT : TabOk P X) (hE : EnvOk P E) (hX : Fits X st) {ops : Array Oper} {fps : List FP} (hR : Ran X E ops.toList fps) (hQ : ∀ g fr a w, Ok st g fr a w → K fr = some r → Q .normal a w) {f' : Fr} (hf' : K f' = some r) :
    ∀ (fuel : Nat) (l : List Nat) (listed : Array Bool) {g : Gh} {fr : Fr} {a : Act} {w : World}, Ok st g fr a w → l.length = fuel → l.Pairwise (· < ·) → listed.size = ops.size → (∀ i, i < ops.size → (listed.getD i true = false ↔ i ∈ l)) → (∀ i ∈ l, i < ops.size) → (∀ (k : Nat) (o : Oper), ops[k]? = some o → listed.getD k false = true → ∀ e ∈ o.after, Region.binds .any e = true → listed.getD e.on false = true) →
      Path (opF X E ops.toList fps) l fr f' → wpAny P .any ops Q fuel listed a w := by
  have mem : ∀ {l : List Nat} {listed : Array Bool}, listed.size = ops.size → (∀ i, i < ops.size → (listed.getD i true = false ↔ i ∈ l)) → ∀ j ∈ Region.ready .any ops listed, j ∈ l := by
    intro l listed hsz hl j hj
    obtain ⟨h1, o, ho, _⟩ := mem_ready.1 hj
    exact (hl j (Array.getElem?_eq_some_iff.1 ho).1).1 h1
  intro fuel
  induction fuel with
  | zero =>
    intro l listed g fr a w h hlen hs hsz hl hlt hdown hp
    have : l = [] := List.length_eq_zero_iff.1 hlen
    subst this
    refine ⟨?_, ?_⟩
    · apply List.eq_nil_iff_forall_not_mem.2
      intro j hj
      have := mem hsz hl j hj
      cases this
    · cases hp
      exact hQ g _ a w h hf'
  | succ fuel ih =>
    intro l listed g fr a w h hlen hs hsz hl hlt hdown hp
    refine ⟨fun hnil => ?_, fun j hj => ?_⟩
    · exfalso
      cases l with
      | nil => cases hlen
      | cons i0 l =>
        have hi0 := hlt i0 List.mem_cons_self
        have hready : i0 ∈ Region.ready .any ops listed := by
          refine mem_ready.2 ⟨(hl i0 hi0).2 List.mem_cons_self, ops[i0], Array.getElem?_eq_getElem hi0, fun e he hb => ?_⟩
          have hbk := hR.back i0 ops[i0] (by simp)
          have := List.all_eq_true.1 hbk e (by simpa using he)
          rw [hb] at this
          have hlt' : e.on < i0 := by simpa using this
          cases hge : listed.getD e.on true
          · have := (hl e.on (by omega)).1 hge
            rcases List.mem_cons.1 this with q | q
            · omega
            · have := (List.pairwise_cons.1 hs).1 _ q
              omega
          · rw [Array.getD_eq_getD_getElem?] at hge ⊢
            rw [Array.getElem?_eq_getElem (show e.on < listed.size by omega)] at hge ⊢
            exact hge
        rw [hnil] at hready
        cases hready
    · have hjl := mem hsz hl j hj
      obtain ⟨l1, l2, rfl⟩ := List.append_of_mem hjl
      obtain ⟨hun, oj, hoj, hall⟩ := mem_ready.1 hj
      have hojl : ops.toList[j]? = some oj := by simpa using hoj
      have hap : ∀ i ∈ l1, apartAt fps i j := by
        intro i hi
        have hij : i < j := (List.pairwise_append.1 hs).2.2 i hi j List.mem_cons_self
        rcases hR.wait j oj i hojl hij with q | q
        · exfalso
          have h1 := q.done hdown fun o ho => by rw [hoj] at ho; cases ho; exact hall
          have h2 := (hl i (by have := hlt j (by simp); omega)).2 (List.mem_append_left _ hi)
          rw [Array.getD_eq_getD_getElem?] at h1 h2
          cases hc : listed[i]? with
          | none => rw [hc] at h2; simp at h2
          | some b => rw [hc] at h1 h2; simp at h1 h2; rw [h1] at h2; cases h2
        · exact q
      obtain ⟨f1, e1, hp1⟩ := front l1 hap hp
      have hjs : j < ops.size := hlt j (by simp)
      have hnd := hs.imp (fun h => Nat.ne_of_lt h)
      -- what is left
      have next : ∀ g' a' w', Ok st g' f1 a' w' → wpAny P .any ops Q fuel (listed.setIfInBounds j true) a' w' := by
        intro g' a' w' ok
        refine ih (l1 ++ l2) _ ok (by simp at hlen ⊢; omega) ?_ (by simpa using hsz) (fun i hi => ?_) (fun i hi => hlt i ?_) (fun k o ho hk e he hb => ?_) hp1
        · exact hs.sublist (List.Sublist.append_left (List.sublist_cons_self j l2) l1)
        · by_cases hij : j = i
          · subst hij
            have hn1 : j ∉ l1 := fun hm => (List.pairwise_append.1 hnd).2.2 j hm j List.mem_cons_self rfl
            have hn2 : j ∉ l2 := fun hm => (List.pairwise_cons.1 (List.pairwise_append.1 hnd).2.1).1 j hm rfl
            rw [Array.getD_eq_getD_getElem?, Array.getElem?_setIfInBounds_self_of_lt (by omega)]
            simp [hn1, hn2]
          · rw [getD_set_ne true hij, hl i hi]
            simp only [List.mem_append, List.mem_cons]
            constructor
            · rintro (q | q | q)
              · exact .inl q
              · exact (hij q.symm).elim
              · exact .inr q
            · rintro (q | q)
              · exact .inl q
              · exact .inr (.inr q)
        · rcases List.mem_append.1 hi with q | q
          · exact List.mem_append_left _ q
          · exact List.mem_append_right _ (List.mem_cons_of_mem _ q)
        · by_cases hjk : j = k
          · subst hjk
            rw [hoj] at ho
            cases ho
            exact getD_set_true (hall e he hb)
          · rw [getD_set_ne false hjk] at hk
            exact getD_set_true (hdown k o ho hk e he hb)
      -- the operation
      unfold opF at e1
      rw [hojl] at e1
      split at e1
      case h_2 => cases e1
      rename_i o' fp e2 _
      cases e2
      unfold wpOp
      simp only [hoj]
      unfold stpF at e1
      rcases guardK_ok h e1 with ⟨q1, q2⟩ | ⟨q1, q2⟩
      · rw [show (ops.toList.toArray) = ops by simp] at q1
        rw [q1, if_pos rfl]
        obtain ⟨_, q2⟩ := ite_some q2
        refine .inl (Oper.wp_mono ?_ (step_ok hT hE h hX q2))
        rintro a' w' ⟨g', fr', ok, hk'⟩
        cases hk'
        exact next g' a' w' ok
      · rw [show (ops.toList.toArray) = ops by simp] at q1
        rw [q1]
        simp only [Bool.false_eq_true, if_false]
        obtain ⟨_, q2⟩ := ite_some q2
        obtain ⟨g', fr', ok, hk'⟩ := skip_ok h hX q2
        cases hk'
        exact next g' _ _ ok
theorem Ok.drawn (h : Ok st g fr a w) (n : Nat) : Ok st g fr a { w with drawn := n } := { h with
  slot := fun s => by
    have c : Chg g g w { w with drawn := n } (isBox fr) (isBox fr) (fun _ => True) (fun _ => True) := {
      cB := rfl, cR := rfl, cM := rfl, cZ := rfl
      zS := fun b o hz => (h.zs b o (by rw [← h.eZ]; exact hz)).1
      cbx := fun _ h => h
      cX := fun _ _ => rfl
      cS := fun _ _ hs => ⟨hs, rfl⟩
      cL := fun _ _ => rfl
      cO := fun _ _ _ hO => ⟨hO, rfl, fun _ => Iff.rfl⟩
      cH := fun _ _ _ _ h => h
      cHp := fun _ _ _ _ => rfl }
    exact c.kSlot (fun _ _ => trivial) (fun hc => by simp [isBox, hc]) (fun _ _ => trivial) (h.slot s) }
theorem draw_ok (hdr : X.dr = true) (hT : TabOk P X) (hE : EnvOk P E) (hX : Fits X st) {ops : Array Oper} {id : Nat} (hQ : ∀ g fr a w, Ok st g fr a w → K fr = some r → Q .normal a w)
    (h : Ok st g fr a w) (hk : runD X E ops.toList ops.toList [] [] fr K = some r) : (Code.region id ops true).wp P Q a w := by
  obtain ⟨fps, m1, m2, f', m3, m4⟩ := runD_path hdr (ops := ops.toList) ops.toList [] [] fr rfl (fun k m hk => by simp at hk) (fun k o hk => by simpa using hk) hk
  simp only [List.nil_append, List.length_nil, Nat.zero_add] at m2 m3
  refine wp_region_any hT.mixed (any_ok hT hE hX (fps := fps) ⟨m1, fun j o ho => (m2 j o ho).1, fun j o i ho hi => (m2 j o ho).2 i hi⟩ hQ m4 ops.size (List.range' 0 ops.toList.length) _ (h.drawn (w.drawn + 1)) (by simp) ?_ (by simp) (fun i hi => ?_) (fun i hi => ?_) (fun k o ho hk => ?_) m3)
  · exact List.pairwise_lt_range'
  · simp [Array.getD_eq_getD_getElem?, hi]
  · simpa using hi
  · exfalso
    rw [Array.getD_eq_getD_getElem?] at hk
    cases hc : (Array.replicate ops.size false)[k]? with
    | none => rw [hc] at hk; cases hk
    | some b =>
      rw [hc] at hk
      have := (Array.getElem?_eq_some_iff.1 hc).2
      simp at this
      subst this
      cases hk
theorem promosK_ok : ∀ (l : List Oper) {g : Gh} {fr : Fr}, Ok st g fr a w → promosK l fr K = some r → ∃ g' fr', Ok st g' fr' a w ∧ K fr' = some r
  | [], g, fr, h, hk => ⟨g, fr, h, hk⟩
  | o :: l, g, fr, h, hk => by
    unfold promosK at hk
    split at hk
    · split at hk
      · obtain ⟨g1, fr1, h1, hk1⟩ := promoK_ok h hk
        exact promosK_ok l h1 hk1
      · exact promosK_ok l h hk
    · split at hk
      · obtain ⟨g1, fr1, h1, hk1⟩ := promoK_ok h hk
        exact promosK_ok l h1 hk1
      · exact promosK_ok l h hk
    · exact promosK_ok l h hk
end
end Go.Rv
namespace Go.Rv
section
variable {P : Program} {st : St} {g : Gh} {fr : Fr} {a : Act} {w : World} {X : Env} {R : Type} {r : R} {Q : Exit → Act → World → Prop}
def LoopWp (P : Program) (c : Code) (Q : Exit → Act → World → Prop) (a : Act) (w : World) : Prop :=
  ∀ (b : Frame) (k : List Item) (cs : List Frame), ∃ e a' w', Q e a' w' ∧ Arrives P (lone (b.at a (.inLoop c :: k)) cs w) b k cs e a' w'
theorem loop_unroll {c : Code} (h : c.wp P (Exit.then (LoopWp P c Q) Q) a w) : LoopWp P c Q a w ∧ (Code.loop c).wp P Q a w := by
  have key : ∀ (b : Frame) (k : List Item) (cs : List Frame), ∃ e a' w', Q e a' w' ∧ Arrives P (lone (b.at a (.code c :: .inLoop c :: k)) cs w) b k cs e a' w' := by
    intro b k cs
    obtain ⟨e, a₁, w₁, hq, harr⟩ := h b (.inLoop c :: k) cs
    cases e with
    | normal =>
      obtain ⟨e₂, a₂, w₂, hq₂, harr₂⟩ := hq b k cs
      exact ⟨e₂, a₂, w₂, hq₂, .of_steps harr harr₂⟩
    | exit id => exact ⟨_, a₁, w₁, hq, .pass (x := .inLoop c) rfl (fun _ _ => .inl (by simp)) harr⟩
    | goto l => exact ⟨_, a₁, w₁, hq, .pass (x := .inLoop c) rfl (fun _ _ => .inl (by simp)) harr⟩
    | ret => exact ⟨_, a₁, w₁, hq, .pass (x := .inLoop c) rfl (fun _ _ => .inl (by simp)) harr⟩
    | panic ch => exact ⟨_, a₁, w₁, hq, .pass (x := .inLoop c) rfl (fun _ _ => .inl (by simp)) harr⟩
    | outgrown => exact ⟨_, a₁, w₁, hq, .pass (x := .inLoop c) rfl (fun _ _ => .inl (by simp)) harr⟩
  constructor
  · intro b k cs
    obtain ⟨e, a', w', hq, harr⟩ := key b k cs
    exact ⟨e, a', w', hq, .of_steps (.one step_inLoop) harr⟩
  · intro b k cs
    obtain ⟨e, a', w', hq, harr⟩ := key b k cs
    exact ⟨e, a', w', hq, .of_steps (.one step_loop) harr⟩
structure KQ (st : St) (K : Ex → Fr → Option R) (r : R) (Q : Exit → Act → World → Prop) : Prop where
  normal : ∀ g fr a w, Ok st g fr a w → K .normal fr = some r → Q .normal a w
  exit : ∀ id g fr a w, Ok st g fr a w → K (.exit id) fr = some r → Q (.exit id) a w
  ret : ∀ g fr a w, Ok st g fr a w → K .ret fr = some r → Q .ret a w
def Cont (P : Program) : Code → Nat → Nat → (Exit → Act → World → Prop) → Act → World → Prop
  | .seq a b, p, q, Q => if q = p then b.wp P Q else if q < p + 1 + nodes a then Cont P a (p + 1) q (Exit.then (b.wp P Q) Q) else Cont P b (p + 1 + nodes a) q Q
  | .cond _ a b, p, q, Q => if q < p + 1 + nodes a then Cont P a (p + 1) q Q else Cont P b (p + 1 + nodes a) q Q
  | .block id b, p, q, Q => Cont P b (p + 1) q (Exit.inBlock id Q)
  | .loop b, p, q, Q => if q = p then fun a w => LoopWp P b Q a w ∧ (Code.loop b).wp P Q a w else Cont P b (p + 1) q (Exit.then (LoopWp P b Q) Q)
  | _, _, _, _ => fun _ _ => False
theorem beq_ne {a b : Nat} (h : a ≠ b) : a.beq b = false := by
  cases hb : a.beq b
  · rfl
  · exact (h (Nat.eq_of_beq_eq_true hb)).elim
theorem nodes_pos : ∀ c : Code, 0 < nodes c
  | .skip | .region _ _ _ | .exit _ | .ret | .goto _ | .label _ | .rangeFunc _ _ _ _ | .refuse _ => by simp [nodes]
  | .seq _ _ | .cond _ _ _ | .block _ _ | .loop _ | .scope _ => by simp only [nodes]; omega
def CutsAt (P : Program) (st : St) (C : Cuts R) (r : R) (c : Code) (p : Nat) (Q : Exit → Act → World → Prop) : Prop :=
  ∀ q cut, C.lookup q = some cut → p ≤ q → q < p + nodes c → ∀ g fr a w, Ok st g fr a w → jump cut fr = some r → Cont P c p q Q a w
theorem KQ.block {id : Nat} {K : Ex → Fr → Option R} (h : KQ st K r Q) : KQ st (blockK id K) r (Exit.inBlock id Q) where
  normal := fun g fr a w ok hk => h.normal g fr a w ok hk
  exit := fun j g fr a w ok hk => by
    simp only [blockK] at hk
    simp only [Exit.inBlock]
    by_cases hj : j = id
    · subst hj
      rw [Nat.beq_refl] at hk
      simp only [if_true]
      exact h.normal g fr a w ok hk
    · rw [beq_ne hj] at hk
      simp only [hj, if_false]
      exact h.exit j g fr a w ok hk
  ret := fun g fr a w ok hk => h.ret g fr a w ok hk
theorem den_ok (hT : TabOk P X) {E : FuncId → Option Fn} (hE : EnvOk P E) (hX : Fits X st) {C : Cuts R} : ∀ (c : Code) (p : Nat) (Q : Exit → Act → World → Prop) (K : Ex → Fr → Option R), CutsAt P st C r c p Q → KQ st K r Q →
    ∀ g fr a w, Ok st g fr a w → den X E C c p fr K = some r → c.wp P Q a w
  | .skip, p, Q, K, hC, hK, g, fr, a, w, h, hd => wp_skip (hK.normal g fr a w h hd)
  | .region id ops draw, p, Q, K, hC, hK, g, fr, a, w, h, hd => by
    cases draw
    · exact region_ok hT hE hX hK.normal h hd
    · refine draw_ok (X := { X with dr := true }) rfl ⟨hT.mixed, hT.fit, hT.maps⟩ hE ⟨hX.1, hX.2, hX.3⟩ (fun g' fr' a' w' ok hk => ?_) h hd
      obtain ⟨g2, fr2, ok2, hk2⟩ := promosK_ok ops.toList ok hk
      exact hK.normal g2 fr2 a' w' ok2 hk2
  | .seq x y, p, Q, K, hC, hK, g, fr, a, w, h, hd => by
    refine wp_seq (den_ok hT hE hX x (p + 1) _ (seqK C (fun fr => den X E C y (p + 1 + nodes x) fr K) K p) ?_ ⟨?_, ?_, ?_⟩ g fr a w h hd)
    · intro q cut hq h1 h2 g fr a w ok hj
      have := hC q cut hq (by omega) (by simp only [nodes]; omega) g fr a w ok hj
      simp only [Cont] at this
      rwa [if_neg (by omega), if_pos (by omega)] at this
    · intro g fr a w ok hk
      simp only [seqK] at hk
      split at hk
      next cut hc =>
        have := hC p cut hc (Nat.le_refl _) (by have := nodes_pos (Code.seq x y); omega) g fr a w ok hk
        simp only [Cont, if_true] at this
        exact this
      next hc =>
        refine den_ok hT hE hX y (p + 1 + nodes x) Q K ?_ hK g fr a w ok hk
        intro q cut hq h1 h2 g fr a w ok hj
        have := hC q cut hq (by omega) (by simp only [nodes]; omega) g fr a w ok hj
        simp only [Cont] at this
        rwa [if_neg (by omega), if_neg (by omega)] at this
    · intro id g fr a w ok hk; exact hK.exit id g fr a w ok hk
    · intro g fr a w ok hk; exact hK.ret g fr a w ok hk
  | .cond c x y, p, Q, K, hC, hK, g, fr, a, w, h, hd => by
    simp only [den] at hd
    split at hd
    next q hc =>
      have hv : a.eval c = .bool q := (opc_rel h hc (by simp) (by simp)).2
      split at hd
      next e =>
        subst e
        refine wp_cond_true hv (den_ok hT hE hX x (p + 1) Q K ?_ hK g fr a w h hd)
        intro q cut hq h1 h2 g fr a w ok hj
        have := hC q cut hq (by omega) (by simp only [nodes]; omega) g fr a w ok hj
        simp only [Cont] at this
        rwa [if_pos (by omega)] at this
      next e =>
        have e : q = false := by simpa using e
        subst e
        refine wp_cond_false hv (den_ok hT hE hX y (p + 1 + nodes x) Q K ?_ hK g fr a w h hd)
        intro q cut hq h1 h2 g fr a w ok hj
        have := hC q cut hq (by omega) (by simp only [nodes]; omega) g fr a w ok hj
        simp only [Cont] at this
        rwa [if_neg (by omega)] at this
    next => cases hd
  | .block id x, p, Q, K, hC, hK, g, fr, a, w, h, hd => by
    refine wp_block (den_ok hT hE hX x (p + 1) _ (blockK id K) ?_ hK.block g fr a w h hd)
    intro q cut hq h1 h2 g fr a w ok hj
    exact hC q cut hq (by omega) (by simp only [nodes]; omega) g fr a w ok hj
  | .loop x, p, Q, K, hC, hK, g, fr, a, w, h, hd => by
    simp only [den] at hd
    split at hd
    next cut hc =>
      have := hC p cut hc (Nat.le_refl _) (by have := nodes_pos (Code.loop x); omega) g fr a w h hd
      simp only [Cont, if_true] at this
      exact this.2
    next => cases hd
  | .exit id, p, Q, K, hC, hK, g, fr, a, w, h, hd => wp_exit (hK.exit id g fr a w h hd)
  | .ret, p, Q, K, hC, hK, g, fr, a, w, h, hd => wp_ret (hK.ret g fr a w h hd)
  | .scope _, _, _, _, _, _, _, _, _, _, _, hd => by simp [den] at hd
  | .rangeFunc _ _ _ _, _, _, _, _, _, _, _, _, _, _, hd => by simp [den] at hd
  | .goto _, _, _, _, _, _, _, _, _, _, _, hd => by simp [den] at hd
  | .refuse _, _, _, _, _, _, _, _, _, _, _, hd => by simp [den] at hd
  | .label _, _, _, _, _, _, _, _, _, _, _, hd => by simp [den] at hd
theorem denAt_ok (hT : TabOk P X) {E : FuncId → Option Fn} (hE : EnvOk P E) (hX : Fits X st) {C : Cuts R} : ∀ (c : Code) (p q : Nat) (Q : Exit → Act → World → Prop) (K : Ex → Fr → Option R), CutsAt P st C r c p Q → KQ st K r Q →
    ∀ g fr a w, Ok st g fr a w → denAt X E C c p q K fr = some r → Cont P c p q Q a w
  | .seq x y, p, q, Q, K, hC, hK, g, fr, a, w, h, hd => by
    have hy : CutsAt P st C r y (p + 1 + nodes x) Q := by
      intro q cut hq h1 h2 g fr a w ok hj
      have := hC q cut hq (by omega) (by simp only [nodes]; omega) g fr a w ok hj
      simp only [Cont] at this
      rwa [if_neg (by omega), if_neg (by omega)] at this
    simp only [denAt] at hd
    simp only [Cont]
    by_cases hq : q = p
    · subst hq
      rw [Nat.beq_refl] at hd
      simp only [if_true]
      exact den_ok hT hE hX y _ Q K hy hK g fr a w h hd
    · rw [beq_ne hq] at hd
      rw [if_neg hq]
      by_cases hlt : q < p + 1 + nodes x
      · rw [if_pos hlt]
        rw [show q.blt (p + 1 + nodes x) = true from Nat.ble_eq_true_of_le hlt] at hd
        refine denAt_ok hT hE hX x (p + 1) q _ _ ?_ ⟨?_, ?_, ?_⟩ g fr a w h hd
        · intro q cut hq h1 h2 g fr a w ok hj
          have := hC q cut hq (by omega) (by simp only [nodes]; omega) g fr a w ok hj
          simp only [Cont] at this
          rwa [if_neg (by omega), if_pos (by omega)] at this
        · intro g fr a w ok hk
          simp only [seqK] at hk
          split at hk
          next cut hc =>
            have := hC p cut hc (Nat.le_refl _) (by have := nodes_pos (Code.seq x y); omega) g fr a w ok hk
            simp only [Cont, if_true] at this
            exact this
          next hc => exact den_ok hT hE hX y _ Q K hy hK g fr a w ok hk
        · intro id g fr a w ok hk; exact hK.exit id g fr a w ok hk
        · intro g fr a w ok hk; exact hK.ret g fr a w ok hk
      · rw [if_neg hlt]
        rw [show q.blt (p + 1 + nodes x) = false from by
          cases hb : q.blt (p + 1 + nodes x)
          · rfl
          · exact (hlt (Nat.le_of_ble_eq_true hb)).elim] at hd
        exact denAt_ok hT hE hX y _ q Q K hy hK g fr a w h hd
  | .cond c x y, p, q, Q, K, hC, hK, g, fr, a, w, h, hd => by
    simp only [denAt] at hd
    simp only [Cont]
    by_cases hlt : q < p + 1 + nodes x
    · rw [if_pos hlt]
      rw [show q.blt (p + 1 + nodes x) = true from Nat.ble_eq_true_of_le hlt] at hd
      refine denAt_ok hT hE hX x (p + 1) q Q K ?_ hK g fr a w h hd
      intro q cut hq h1 h2 g fr a w ok hj
      have := hC q cut hq (by omega) (by simp only [nodes]; omega) g fr a w ok hj
      simp only [Cont] at this
      rwa [if_pos (by omega)] at this
    · rw [if_neg hlt]
      rw [show q.blt (p + 1 + nodes x) = false from by
        cases hb : q.blt (p + 1 + nodes x)
        · rfl
        · exact (hlt (Nat.le_of_ble_eq_true hb)).elim] at hd
      refine denAt_ok hT hE hX y _ q Q K ?_ hK g fr a w h hd
      intro q cut hq h1 h2 g fr a w ok hj
      have := hC q cut hq (by omega) (by simp only [nodes]; omega) g fr a w ok hj
      simp only [Cont] at this
      rwa [if_neg (by omega)] at this
  | .block id x, p, q, Q, K, hC, hK, g, fr, a, w, h, hd => by
    simp only [denAt] at hd
    simp only [Cont]
    refine denAt_ok hT hE hX x (p + 1) q _ _ ?_ hK.block g fr a w h hd
    intro q cut hq h1 h2 g fr a w ok hj
    exact hC q cut hq (by omega) (by simp only [nodes]; omega) g fr a w ok hj
  | .loop x, p, q, Q, K, hC, hK, g, fr, a, w, h, hd => by
    simp only [denAt] at hd
    simp only [Cont]
    have hx : CutsAt P st C r x (p + 1) (Exit.then (LoopWp P x Q) Q) := by
      intro q cut hq h1 h2 g fr a w ok hj
      have := hC q cut hq (by omega) (by simp only [nodes]; omega) g fr a w ok hj
      simp only [Cont] at this
      rwa [if_neg (by omega)] at this
    have hk : KQ st (loopK C p K) r (Exit.then (LoopWp P x Q) Q) := by
      refine ⟨?_, ?_, ?_⟩
      · intro g fr a w ok hk
        simp only [loopK] at hk
        split at hk
        next cut hc =>
          have := hC p cut hc (Nat.le_refl _) (by have := nodes_pos (Code.loop x); omega) g fr a w ok hk
          simp only [Cont, if_true] at this
          exact this.1
        next => cases hk
      · intro id g fr a w ok hk; exact hK.exit id g fr a w ok hk
      · intro g fr a w ok hk; exact hK.ret g fr a w ok hk
    by_cases hq : q = p
    · subst hq
      rw [Nat.beq_refl] at hd
      simp only [if_true]
      exact loop_unroll (den_ok hT hE hX x _ _ _ hx hk g fr a w h hd)
    · rw [beq_ne hq] at hd
      rw [if_neg hq]
      exact denAt_ok hT hE hX x _ q _ _ hx hk g fr a w h hd
  | .skip, _, _, _, _, _, _, _, _, _, _, _, hd => by simp [denAt] at hd
  | .region _ _ _, _, _, _, _, _, _, _, _, _, _, _, hd => by simp [denAt] at hd
  | .exit _, _, _, _, _, _, _, _, _, _, _, _, hd => by simp [denAt] at hd
  | .ret, _, _, _, _, _, _, _, _, _, _, _, hd => by simp [denAt] at hd
  | .scope _, _, _, _, _, _, _, _, _, _, _, _, hd => by simp [denAt] at hd
  | .rangeFunc _ _ _ _, _, _, _, _, _, _, _, _, _, _, _, hd => by simp [denAt] at hd
  | .goto _, _, _, _, _, _, _, _, _, _, _, _, hd => by simp [denAt] at hd
  | .refuse _, _, _, _, _, _, _, _, _, _, _, _, hd => by simp [denAt] at hd
  | .label _, _, _, _, _, _, _, _, _, _, _, _, hd => by simp [denAt] at hd
end
end Go.Rv
namespace Go.Rv
section
variable {P : Program} {st : St} {g : Gh} {fr : Fr} {a : Act} {w : World} {X : Env} {R : Type} {r : R} {Q : Exit → Act → World → Prop}
theorem zmono (h : Ok st g fr a w) {t : Ty} {xs : List (Den t)} {v : Value} (hz : RS w g.Z t xs v) : RS w g.S t xs v :=
  rep_mono (fun b o hz => ⟨(h.zs b o (by rw [← h.eZ]; exact hz)).1, rfl⟩) hz
theorem RS_nils {S : Nat → Nat → Prop} {t : Ty} : RS w S t [] (.slice none 0 0) := ⟨none, 0, rfl, Nat.le_refl _, fun i x hx => by simp at hx⟩
def relLike (w : World) (g : Gh) : CV → Value → Prop := relF w g
theorem fdec_relF (h : Ok st g fr a w) {b : Bool} {H' : Nat → Nat → Option Value} : ∀ {p : FPat} {c : CV} {x : p.T} {v : Value}, p.flat = true → p.dec b c = some x → relF w g c v → relF w { g with H := H' } (p.enc x) v := by
  intro p c x v hp hd hr
  cases p <;> simp only [FPat.flat, Bool.false_eq_true] at hp
  case hi t =>
    have hd : listAs t c = some x := hd
    show RS w g.S t x v
    cases c <;> simp only [listAs] at hd <;> first | (cases hd; done) | skip
    case nils => cases hd; have hv : v = .slice none 0 0 := hr; subst hv; exact RS_nils
    all_goals
      split at hd
      case isFalse => cases hd
      rename_i hu
      subst hu
      cases hd
    case lo => exact zmono h hr
    case hi => exact hr
    all_goals exact hr.elim
  case dead => exact relF_one hr
  case int k =>
    cases c <;> simp only [FPat.dec] at hd <;> first | (cases hd; done) | skip
    split at hd
    case isFalse => cases hd
    rename_i e
    subst e
    cases hd
    exact hr
  case bool =>
    cases c <;> simp only [FPat.dec] at hd <;> first | (cases hd; done) | skip
    cases hd; exact hr
  case str =>
    cases c <;> simp only [FPat.dec] at hd <;> first | (cases hd; done) | skip
    cases hd; exact hr
  case nils =>
    cases c <;> simp only [FPat.dec] at hd <;> first | (cases hd; done) | skip
    exact hr
  case lo t =>
    show RS w g.Z t x v
    cases c <;> simp only [FPat.dec] at hd <;> first | (cases hd; done) | skip
    · cases hd; have hv : v = .slice none 0 0 := hr; subst hv; exact RS_nils
    · split at hd
      case isFalse => cases hd
      rename_i hu
      subst hu
      cases hd
      exact hr
theorem fdecs_PL (h : Ok st g fr a w) {b : Bool} {H' : Nat → Nat → Option Value} {S : Nat → Nat → Prop} {A : Addr} : ∀ {ps : List FPat} {cs : List CV} {x : fpatsT ps}, ps.all FPat.flat = true → fdecs b ps cs = some x → PL w g S A cs → PL w { g with H := H' } S A (fencs ps x) := by
  intro ps cs x hp hd hr
  obtain ⟨h1, hr⟩ := hr
  refine ⟨h1, ?_⟩
  clear h1
  show ∀ j c, (fencs ps x)[j]? = some c → S A.block (A.off + j) ∧ ∃ u, w.cell? ⟨A.block, A.off + j, none⟩ = some u ∧ relF w { g with H := H' } c u
  generalize A.off = k at hr ⊢
  induction ps generalizing cs k with
  | nil => intro j c hj; simp [fencs] at hj
  | cons p ps ih =>
    cases cs with
    | nil => simp [fdecs] at hd
    | cons c cs =>
      simp only [fdecs] at hd
      split at hd
      case h_2 => cases hd
      rename_i y hy
      split at hd
      case h_2 => cases hd
      rename_i z hz
      cases hd
      simp only [List.all_cons, Bool.and_eq_true] at hp
      intro j e hj
      cases j with
      | zero =>
        simp only [fencs, List.getElem?_cons_zero, Option.some.injEq] at hj
        subst hj
        obtain ⟨q1, u, q2, q3⟩ := hr 0 c rfl
        exact ⟨q1, u, q2, fdec_relF h hp.1 hy q3⟩
      | succ j =>
        simp only [fencs, List.getElem?_cons_succ] at hj
        have := ih hp.2 hz (k + 1) (fun j c hj => by
          have := hr (j + 1) c (by simpa using hj)
          rwa [show k + (j + 1) = k + 1 + j by omega] at this) j e hj
        rwa [show k + 1 + j = k + (j + 1) by omega] at this
theorem capDec_ne {b : Bool} {ps : List FPat} {x : CV} (h : ∀ s c, ps ≠ [.ptr s c]) : capDec b ps x = (match x with | .rptr cs => fdecs b ps cs | _ => none) := by
  unfold capDec
  split
  · exact absurd rfl (h _ _)
  · rfl
theorem capEnc_ne {ps : List FPat} {x : fpatsT ps} (h : ∀ s c, ps ≠ [.ptr s c]) : capEnc ps x = .rptr (fencs ps x) := by
  unfold capEnc
  split
  · exact absurd rfl (h _ _)
  · rfl
theorem capOk_ne {all : CutP} {ps : List FPat} (h : ∀ s c, ps ≠ [.ptr s c]) : capOkP all ps = ps.all FPat.flat := by
  unfold capOkP
  split
  · exact absurd rfl (h _ _)
  · rfl
theorem cap_rel (h : Ok st g fr a w) {b : Bool} {H' : Nat → Nat → Option Value} {bx bx' : Nat → Bool} {all : CutP} {ps : List FPat} {c : CV} {x : fpatsT ps} {v : Value} (hp : capOkP all ps = true) (hd : capDec b ps c = some x) (hr : relP w g bx c v)
    (hptr : ∀ s c', ps = [.ptr s c'] → bx' s = true) : relP w { g with H := H' } bx' (capEnc ps x) v := by
  by_cases hps : ∃ s c', ps = [.ptr s c']
  · obtain ⟨s, c', rfl⟩ := hps
    have hB := hptr s c' rfl
    simp only [capDec] at hd
    split at hd
    case h_2 => cases hd
    split at hd
    case isFalse => cases hd
    rename_i e
    obtain ⟨rfl, rfl⟩ := e
    exact ⟨hB, hr.2⟩
  · have hne : ∀ s c, ps ≠ [.ptr s c] := fun s c e => hps ⟨s, c, e⟩
    rw [capDec_ne hne] at hd
    rw [capEnc_ne hne]
    rw [capOk_ne hne] at hp
    split at hd
    case h_2 => cases hd
    obtain ⟨A, q2, q3⟩ := hr
    exact ⟨A, q2, fdecs_PL h hp hd q3⟩
theorem fdecss_caps (h : Ok st g fr a w) {b : Bool} {H' : Nat → Nat → Option Value} {bx bx' : Nat → Bool} {all : CutP} : ∀ {pss : List (List FPat)} {cs : List CV} {x : fpatssT pss} {vs : List Value}, pss.all (capOkP all) = true → fdecss b pss cs = some x → vs.length = cs.length →
    (∀ s c', [.ptr s c'] ∈ pss → bx' s = true) →
    (∀ (j : Nat) (c : CV), cs[j]? = some c → ∃ u : Value, vs[j]? = some u ∧ relP w g bx c u) → vs.length = (fencss pss x).length ∧ ∀ (j : Nat) (c : CV), (fencss pss x)[j]? = some c → ∃ u : Value, vs[j]? = some u ∧ relP w { g with H := H' } bx' c u
  | [], cs, x, vs, hp, hd, hl, hq, hr => by
    cases cs with
    | nil => exact ⟨by simpa [fencss] using hl, fun j c hj => by simp [fencss] at hj⟩
    | cons => simp [fdecss] at hd
  | p :: pss, cs, x, vs, hp, hd, hl, hq, hr => by
    cases cs with
    | nil => simp [fdecss] at hd
    | cons c cs =>
      simp only [fdecss] at hd
      split at hd
      case h_2 => cases hd
      rename_i y hy
      split at hd
      case h_2 => cases hd
      rename_i z hz
      cases hd
      simp only [List.all_cons, Bool.and_eq_true] at hp
      cases vs with
      | nil => simp at hl
      | cons v vs =>
        obtain ⟨i1, i2⟩ := fdecss_caps h (bx' := bx') (H' := H') hp.2 hz (by simpa using hl) (fun s c' hm => hq s c' (List.mem_cons_of_mem _ hm)) (fun j c hj => by simpa using hr (j + 1) c (by simpa using hj))
        refine ⟨by simpa [fencss] using i1, fun j e hj => ?_⟩
        cases j with
        | zero =>
          simp only [fencss, List.getElem?_cons_zero, Option.some.injEq] at hj
          subst hj
          obtain ⟨u, q1, q2⟩ := hr 0 c rfl
          exact ⟨u, q1, cap_rel h hp.1 hy q2 fun s c' e => hq s c' (e ▸ List.mem_cons_self)⟩
        | succ j =>
          simp only [fencss, List.getElem?_cons_succ] at hj
          simpa using i2 j e hj
theorem dec_rel (h : Ok st g fr a w) {b : Bool} {H' : Nat → Nat → Option Value} {bx bx' : Nat → Bool} {all : CutP} {s k : Nat} {p : Pat} {c : CV} {x : p.T} {v : Value} (hp : p.ok all = true) (hd : p.dec b c = some x) (hr : rel w g bx (.at s 0 k) c v)
    (hown : ∀ t, p = .fl (.own t) → H' s k = some v) (href : ∀ s' c' t, p = .fl (.ref s' c' t) → H' s' c' = g.H s' c') (hptr : ∀ s' c', p = .fl (.ptr s' c') → bx' s' = true) (hmptr : ∀ s', p = .fl (.mptr s') → bx' s' = true) (hfn : ∀ f pss s' c', p = .fn f pss → [.ptr s' c'] ∈ pss → bx' s' = true) : rel w { g with H := H' } bx' (.at s 0 k) (p.enc x) v := by
  cases p with
  | fl p =>
    cases p with
    | own t =>
      have hH := hown t rfl
      refine ⟨?_, rfl, hH⟩
      cases c <;> simp only [Pat.dec, FPat.dec] at hd <;> first | (cases hd; done) | skip
      · cases b
        · cases hd
        · cases hd
          exact .inl ⟨hr, rfl⟩
      · split at hd
        case isFalse => cases hd
        rename_i hu
        subst hu
        cases hd
        exact hr.1
      · cases b
        · cases hd
        · simp only [cond_true] at hd
          split at hd
          case isFalse => cases hd
          rename_i hu
          subst hu
          cases hd
          exact hr.1
    | ref s' c' t =>
      have hH := href s' c' t rfl
      cases c <;> simp only [Pat.dec, FPat.dec] at hd <;> first | (cases hd; done) | skip
      split at hd
      case isFalse => cases hd
      rename_i hu
      obtain ⟨rfl, rfl, rfl⟩ := hu
      cases hd
      exact ⟨hr.1, fun u hu => hr.2 u (hH ▸ hu)⟩
    | ptr s' c' =>
      have hB := hptr s' c' rfl
      cases c <;> simp only [Pat.dec, FPat.dec] at hd <;> first | (cases hd; done) | skip
      split at hd
      case isFalse => cases hd
      rename_i hu
      obtain ⟨rfl, rfl⟩ := hu
      exact ⟨hB, hr.2⟩
    | mptr s' =>
      have hB := hmptr s' rfl
      cases c <;> simp only [Pat.dec, FPat.dec] at hd <;> first | (cases hd; done) | skip
      split at hd
      case isFalse => cases hd
      rename_i hu
      subst hu
      exact ⟨hB, hr.2⟩
    | hi t =>
      have hd : listAs t c = some x := hd
      exact listAs_rel h hd hr
    | dead => exact rel_one hr
    | undef =>
      cases c <;> simp only [Pat.dec, FPat.dec] at hd <;> first | (cases hd; done) | exact hr
    | int k =>
      cases c <;> simp only [Pat.dec, FPat.dec] at hd <;> first | (cases hd; done) | skip
      split at hd
      case isFalse => cases hd
      rename_i e
      subst e
      cases hd
      exact hr
    | bool =>
      cases c <;> simp only [Pat.dec, FPat.dec] at hd <;> first | (cases hd; done) | skip
      cases hd; exact hr
    | str =>
      cases c <;> simp only [Pat.dec, FPat.dec] at hd <;> first | (cases hd; done) | skip
      cases hd; exact hr
    | nils =>
      cases c <;> simp only [Pat.dec, FPat.dec] at hd <;> first | (cases hd; done) | skip
      exact hr
    | lo t =>
      show RS w g.Z t x v
      cases c <;> simp only [Pat.dec, FPat.dec] at hd <;> first | (cases hd; done) | skip
      · cases hd; have hv : v = .slice none 0 0 := hr; subst hv; exact RS_nils
      · split at hd
        case isFalse => cases hd
        rename_i hu
        subst hu
        cases hd
        exact hr
  | mp kk vv =>
    cases c <;> simp only [Pat.dec] at hd <;> first | (cases hd; done) | skip
    exact hr.elim
  | rptr ps =>
    cases c <;> simp only [Pat.dec] at hd <;> first | (cases hd; done) | skip
    obtain ⟨A, e1, e2⟩ := hr
    exact ⟨A, e1, fdecs_PL h hp hd e2⟩
  | hptr ps =>
    cases c <;> simp only [Pat.dec] at hd <;> first | (cases hd; done) | skip
    obtain ⟨A, e1, e2⟩ := hr
    exact ⟨A, e1, fdecs_PL h hp hd e2⟩
  | fn f pss =>
    cases c <;> simp only [Pat.dec] at hd <;> first | (cases hd; done) | skip
    split at hd
    case isFalse => cases hd
    rename_i e
    subst e
    obtain ⟨cvs, e1, e2, e3⟩ := hr
    obtain ⟨i1, i2⟩ := fdecss_caps h (H' := H') (bx' := bx') hp hd e2 (fun s' c' hm => hfn _ _ s' c' rfl hm) e3
    exact ⟨cvs, e1, i1, i2⟩
theorem notBox_boxOf (cs : List CV) : notBox (boxOf cs) = false := by
  unfold boxOf
  split <;> rfl
theorem decMp {b : Bool} {ps : List Pat} {cs : List CV} {y : patsT ps} {k v : Ty} {xs : List (Den k × Den v)} (hd : decs b ps cs = some y) (he : encs ps y = [.mmap k v xs]) : ∃ zs, cs = [.mmap k v zs] := by
  match ps, cs, y, hd, he with
  | [], _, _, _, he => simp [encs] at he
  | [p], [], _, hd, _ => simp [decs] at hd
  | [p], _ :: _ :: _, _, hd, _ =>
    simp only [decs] at hd
    split at hd <;> cases hd
  | [p], [c], y, hd, he =>
    simp only [decs] at hd
    split at hd
    case h_2 => cases hd
    rename_i y0 hy
    cases hd
    simp only [encs, List.cons.injEq, and_true] at he
    cases p with
    | fl p => cases p <;> simp [Pat.enc, FPat.enc] at he
    | mp k' v' =>
      simp only [Pat.enc] at he
      cases he
      cases c <;> simp only [Pat.dec] at hy <;> first | (cases hy; done) | skip
      split at hy
      case isFalse => cases hy
      rename_i hu
      obtain ⟨rfl, rfl⟩ := hu
      exact ⟨_, rfl⟩
    | _ => simp [Pat.enc] at he
  | _ :: _ :: _, _, _, _, he => simp [encs] at he
theorem mpDec {b : Bool} {ps : List Pat} {y : patsT ps} {k v : Ty} {xs : List (Den k × Den v)} (hm : isMp ps = true) (hd : decs b ps [.mmap k v xs] = some y) : encs ps y = [.mmap k v xs] := by
  match ps, y, hm, hd with
  | [.mp k' v'], y, _, hd =>
    simp only [decs, Pat.dec] at hd
    split at hd
    case h_2 => cases hd
    rename_i y0 hy
    split at hy
    case isFalse => cases hy
    rename_i hu
    obtain ⟨rfl, rfl⟩ := hu
    cases hy
    cases hd
    rfl
theorem readCut_lookup {all : CutP} : ∀ {ps : CutP} {x : cutT ps} {fr : Fr}, readCut all ps fr = some x → ∀ s, (∀ sp, ps.lookup s = some sp → ∃ y : patsT sp.2, decS (!refTo s all) sp (fr s) = some y ∧ cutFr ps x s = encS sp y) ∧ (ps.lookup s = none → cutFr ps x s = .dead)
  | [], x, fr, h, s => ⟨fun sp hs => by simp at hs, fun _ => rfl⟩
  | p :: r, x, fr, h, s => by
    simp only [readCut] at h
    split at h
    case h_2 => cases h
    rename_i y hy
    split at h
    case h_2 => cases h
    rename_i z hz
    cases h
    obtain ⟨i1, i2⟩ := readCut_lookup hz s
    obtain ⟨j, sp⟩ := p
    by_cases hs : s = j
    · subst hs
      refine ⟨fun sp' hsp => ?_, fun hsp => ?_⟩
      · simp at hsp
        subst hsp
        exact ⟨y, hy, by simp [cutFr, upd_same]⟩
      · simp at hsp
    · have hne : (s == j) = false := by simpa using hs
      simp only [List.lookup_cons, hne, cutFr]
      rw [upd_ne _ _ _ hs]
      exact ⟨i1, i2⟩
def ownAt (all : CutP) (s k : Nat) : Prop := ∃ sp t, all.lookup s = some sp ∧ 0 < k ∧ sp.2[k - 1]? = some (.fl (.own t))
open Classical in
noncomputable def cutH (g : Gh) (fr : Fr) (a : Act) (w : World) (all : CutP) (s k : Nat) : Option Value :=
  if ownAt all s k then (if h : ∃ v, At g fr a w s k v then some h.choose else none) else g.H s k
theorem cutH_own {all : CutP} {s k : Nat} {v : Value} (ho : ownAt all s k) (hv : At g fr a w s k v) : cutH g fr a w all s k = some v := by
  have hex : ∃ v, At g fr a w s k v := ⟨v, hv⟩
  unfold cutH
  rw [if_pos ho, dif_pos hex, hex.choose_spec.fun hv]
theorem refTo_spec {s : Nat} : ∀ {all : CutP} {s0 : Nat} {sp : SPat} {c k : Nat} {t : Ty}, all.lookup s0 = some sp → sp.2[k]? = some (.fl (.ref s c t)) → refTo s all = true
  | [], s0, sp, c, k, t, h, hk => by simp at h
  | p :: r, s0, sp, c, k, t, h, hk => by
    obtain ⟨j, q⟩ := p
    simp only [List.lookup_cons] at h
    simp only [refTo, Bool.or_eq_true]
    split at h
    · cases h
      refine .inl (List.any_eq_true.2 ⟨_, List.mem_of_getElem? hk, ?_⟩)
      simp
    · exact .inr (refTo_spec h hk)
theorem lookup_mem : ∀ {all : CutP} {s : Nat} {sp : SPat}, all.lookup s = some sp → (s, sp) ∈ all
  | [], s, sp, h => by simp at h
  | p :: r, s, sp, h => by
    obtain ⟨j, q⟩ := p
    simp only [List.lookup_cons] at h
    split at h
    · rename_i e
      have e : s = j := by simpa using e
      cases h
      subst e
      exact List.mem_cons_self
    · exact List.mem_cons_of_mem _ (lookup_mem h)
theorem decs_get {b : Bool} : ∀ {ps : List Pat} {cs : List CV} {x : patsT ps}, decs b ps cs = some x → cs.length = ps.length ∧ (encs ps x).length = ps.length ∧ ∀ (k : Nat) (p : Pat), ps[k]? = some p → ∃ (c : CV) (y : p.T), cs[k]? = some c ∧ p.dec b c = some y ∧ (encs ps x)[k]? = some (p.enc y)
  | [], cs, x, h => by
    cases cs with
    | nil => exact ⟨rfl, rfl, fun k p hk => by simp at hk⟩
    | cons => simp [decs] at h
  | p :: ps, cs, x, h => by
    cases cs with
    | nil => simp [decs] at h
    | cons c cs =>
      simp only [decs] at h
      split at h
      case h_2 => cases h
      rename_i y hy
      split at h
      case h_2 => cases h
      rename_i z hz
      cases h
      obtain ⟨i1, i2, i3⟩ := decs_get hz
      refine ⟨by simp [i1], by simp [encs, i2], fun k q hk => ?_⟩
      cases k with
      | zero => simp at hk; subst hk; exact ⟨c, y, rfl, hy, rfl⟩
      | succ k => simp at hk; simpa [encs] using i3 k q hk
theorem ok_mem {all : CutP} (hc : cutOk all = true) {s : Nat} {sp : SPat} (hs : all.lookup s = some sp) {k : Nat} {p : Pat} (hk : sp.2[k]? = some p) : p.ok all = true :=
  List.all_eq_true.1 (List.all_eq_true.1 hc _ (lookup_mem hs)) _ (List.mem_of_getElem? hk)
theorem own_dec {b : Bool} {t : Ty} {c : CV} {y : (Pat.fl (.own t)).T} (h : (Pat.fl (.own t)).dec b c = some y) : (∃ u xs, c = .own u xs) ∨ (b = true ∧ ((∃ u xs, c = .tmpo u xs) ∨ c = .nils)) := by
  cases c <;> simp only [Pat.dec, FPat.dec] at h <;> first | exact .inl ⟨_, _, rfl⟩ | (cases h; done) | skip
  all_goals
    cases b
    · cases h
  · exact .inr ⟨rfl, .inr rfl⟩
  · exact .inr ⟨rfl, .inl ⟨_, _, rfl⟩⟩
theorem own_cell {all : CutP} {b : Bool} {s c : Nat} {sp : SPat} {t : Ty} {y : patsT sp.2} (hk : 0 < c) (hp : sp.2[c - 1]? = some (.fl (.own t))) (hd : decS b sp (fr s) = some y) :
    (∃ u xs, cellAt fr s c = .own u xs) ∨ (b = true ∧ ((∃ u xs, cellAt fr s c = .tmpo u xs) ∨ cellAt fr s c = .nils)) := by
  have key : ∀ cs (yy : patsT sp.2), (fr s = .box cs ∨ ∃ gg, fr s = .comp gg cs) → decs b sp.2 cs = some yy → (∃ u xs, cellAt fr s c = .own u xs) ∨ (b = true ∧ ((∃ u xs, cellAt fr s c = .tmpo u xs) ∨ cellAt fr s c = .nils)) := by
    intro cs yy hf hdd
    obtain ⟨i1, i2, i3⟩ := decs_get hdd
    obtain ⟨c0, y0, q1, q2, q3⟩ := i3 _ _ hp
    have hcc : cellAt fr s c = c0 := by
      unfold cellAt
      obtain ⟨m, rfl⟩ : ∃ m, c = m + 1 := ⟨c - 1, by omega⟩
      simp only [Nat.add_sub_cancel] at q1
      rcases hf with hf | ⟨gg, hf⟩ <;> rw [hf] <;> simp [List.getD_eq_getElem?_getD, q1]
    rw [hcc]
    exact own_dec q2
  cases hf : fr s with
  | tup vs => rw [hf] at hd; simp [decS] at hd
  | mapb kk vv xx ii =>
    have hd' : decs b sp.2 [.mmap kk vv xx] = some y := by
      rw [hf] at hd
      cases ii <;> simp only [decS] at hd <;> (split at hd <;> first | (cases hd; done) | exact (bif_some hd).2)
    obtain ⟨i1, i2, i3⟩ := decs_get hd'
    obtain ⟨c0, y0, q1, q2, q3⟩ := i3 _ _ hp
    have hc0 : c0 = .mmap kk vv xx := by
      cases hk2 : c - 1 with
      | zero => rw [hk2] at q1; simpa using q1.symm
      | succ m => rw [hk2] at q1; simp at q1
    rcases own_dec q2 with ⟨u, ys, e⟩ | ⟨_, ⟨u, ys, e⟩ | e⟩ <;> rw [hc0] at e <;> cases e
  | comp gg cs =>
    rw [hf] at hd
    simp only [decS] at hd
    split at hd
    · obtain ⟨_, hd⟩ := bif_some hd
      exact key cs y (.inr ⟨gg, hf⟩) hd
    · cases hd
  | box cs =>
    rw [hf] at hd
    simp only [decS] at hd
    split at hd
    · exact key cs y (.inl hf) hd
    · cases hd
theorem cut_ok (h : Ok st g fr a w) {all : CutP} (hc : cutOk all = true) {x : cutT all} (hx : readCut all all fr = some x) : ∃ g', Ok st g' (cutFr all x) a w := by
  have hread := readCut_lookup hx
  have hbox : ∀ (s' c' k s : Nat) (sp : SPat), all.lookup s = some sp → sp.2[k]? = some (.fl (.ptr s' c')) → isBox (cutFr all x) s' = true := by
    intro s' c' k s sp hs hk
    have := ok_mem hc hs hk
    simp only [Pat.ok] at this
    split at this
    · rename_i q hq
      obtain ⟨y, _, e⟩ := (hread s').1 _ hq
      simp only [isBox, e, encS, notBox_boxOf, Bool.not_false]
    · cases this
  have hmbox : ∀ (s' k s : Nat) (sp : SPat), all.lookup s = some sp → sp.2[k]? = some (.fl (.mptr s')) → isBox (cutFr all x) s' = true := by
    intro s' k s sp hs hk
    have := ok_mem hc hs hk
    simp only [Pat.ok] at this
    split at this
    · rename_i q hq
      obtain ⟨y, _, e⟩ := (hread s').1 _ hq
      simp only [isBox, e, encS, notBox_boxOf, Bool.not_false]
    · cases this
  have hfbox : ∀ (f : FuncId) (pss : List (List FPat)) (s' c' k s : Nat) (sp : SPat), all.lookup s = some sp → sp.2[k]? = some (.fn f pss) → [.ptr s' c'] ∈ pss → isBox (cutFr all x) s' = true := by
    intro f pss s' c' k s sp hs hk hm
    have := ok_mem hc hs hk
    simp only [Pat.ok] at this
    have := List.all_eq_true.1 this _ hm
    simp only [capOkP] at this
    split at this
    · rename_i q hq
      obtain ⟨y, _, e⟩ := (hread s').1 _ hq
      simp only [isBox, e, encS, notBox_boxOf, Bool.not_false]
    · cases this
  -- a cell
  have cell : ∀ (s : Nat) (sp : SPat), all.lookup s = some sp → ∀ (k : Nat) (p : Pat) (c : CV) (y : p.T) (v : Value), sp.2[k]? = some p → p.dec (!refTo s all) c = some y → cellAt fr s (k + 1) = c → At g fr a w s (k + 1) v → rel w g (isBox fr) (.at s 0 (k + 1)) c v →
      rel w { g with H := cutH g fr a w all } (isBox (cutFr all x)) (.at s 0 (k + 1)) (p.enc y) v := by
    intro s sp hs k p c y v hk hd hcell hat hr
    refine dec_rel h (ok_mem hc hs hk) hd hr (fun t e => ?_) (fun s' c' t e => ?_) (fun s' c' e => ?_) (fun s' e => ?_) (fun f pss s' c' e hm => ?_)
    · subst e
      exact cutH_own ⟨sp, t, hs, by omega, by simpa using hk⟩ hat
    · subst e
      unfold cutH
      split
      · rename_i ho
        obtain ⟨sp', t', hs', hk0, hk'⟩ := ho
        have hb := refTo_spec hs hk
        obtain ⟨y', hd', _⟩ := (hread s').1 _ hs'
        rw [hb] at hd'
        -- the owner's cell is an owner already
        have : ∃ u xs, cellAt fr s' c' = .own u xs := by
          rcases own_cell (all := all) hk0 hk' hd' with q | q
          · exact q
          · cases q.1
        obtain ⟨u, xs, hu⟩ := this
        obtain ⟨v', hat', hr'⟩ := cell_rel h hu (by simp) (by simp)
        rw [hr'.2.2]
        have hex : ∃ v, At g fr a w s' c' v := ⟨v', hat'⟩
        rw [dif_pos hex, hex.choose_spec.fun hat']
      · rfl
    · subst e
      exact hbox s' c' k s sp hs hk
    · subst e
      exact hmbox s' k s sp hs hk
    · subst e
      exact hfbox f pss s' c' k s sp hs hk hm
  refine ⟨{ g with H := cutH g fr a w all }, { h with
    slot := fun s => ?_
    hh := fun s c u hu => ?_ }⟩
  · cases hs : all.lookup s with
    | none =>
      rw [(hread s).2 hs]
      exact ⟨.dead, rfl, .inl rfl⟩
    | some sp =>
      obtain ⟨y, hd, e⟩ := (hread s).1 _ hs
      rw [e]
      have hsl := h.slot s
      cases hf : fr s with
      | tup vs => rw [hf] at hd; simp [decS] at hd
      | mapb kk vv xx ii =>
        rw [hf] at hd hsl
        obtain ⟨q, ps⟩ := sp
        cases ii with
        | none =>
          simp only [decS] at hd
          split at hd
          case h_2 => cases hd
          obtain ⟨hm, hd⟩ := bif_some hd
          have he := mpDec hm hd
          simp only [encS, he, boxOf]
          exact hsl
        | some cur =>
          simp only [decS] at hd
          split at hd
          case h_1 => cases hd
          obtain ⟨hm, hd⟩ := bif_some hd
          have he := mpDec hm hd
          simp only [encS, he, compOf]
          obtain ⟨b, bm, h1, h2, ⟨es, clock, since, seen, c0, i1, i2, i3, i4, i5, i6, i7, _⟩, h5⟩ := hsl
          exact ⟨b, bm, h1, h2, ⟨es, clock, since, seen, c0, i1, i2, i3, i4, i5, i6, i7, fun c hc => by cases hc⟩, h5⟩
      | comp gg cs =>
        rw [hf] at hd hsl
        obtain ⟨q, ps⟩ := sp
        simp only [decS] at hd
        split at hd
        case h_2 => cases hd
        rename_i g0
        obtain ⟨hg, hd⟩ := bif_some hd
        have hg : gg = g0 := by simpa using hg
        subst hg
        obtain ⟨i1, i2, i3⟩ := decs_get hd
        have hcx : compOf gg (encs ps y) = .comp gg (encs ps y) := by
          unfold compOf
          split
          · rename_i he
            obtain ⟨zs, rfl⟩ := decMp hd he
            cases gg with
            | true =>
              obtain ⟨vs, e1, e2, e3⟩ := hsl
              obtain ⟨u, _, u2⟩ := e3 0 _ rfl
              exact u2.elim
            | false =>
              obtain ⟨c0, e0, hv⟩ := hsl
              cases e0
              rcases hv with hv | ⟨hv, _⟩ | hv
              · cases hv
              · cases hv
              · exact hv.elim
          · rfl
        simp only [encS, hcx]
        cases gg with
        | true =>
          obtain ⟨vs, e1, e2, e3⟩ := hsl
          refine ⟨vs, e1, by rw [e2, i1, i2], fun j c hj => ?_⟩
          have hjl : j < ps.length := by rw [← i2]; exact (List.getElem?_eq_some_iff.1 hj).1
          obtain ⟨c0, y0, q1, q2, q3⟩ := i3 j ps[j] (List.getElem?_eq_getElem hjl)
          rw [hj] at q3
          cases q3
          obtain ⟨u, u1, u2⟩ := e3 j c0 q1
          refine ⟨u, u1, cell s _ hs j _ c0 y0 u (List.getElem?_eq_getElem hjl) q2 ?_ ?_ u2⟩
          · unfold cellAt; rw [hf]; simp [List.getD_eq_getElem?_getD, q1]
          · unfold At; rw [hf]; exact ⟨vs, e1, by omega, by simpa using u1⟩
        | false =>
          obtain ⟨c0, rfl, hv⟩ := hsl
          have hpl : ps.length = 1 := by rw [← i1]; rfl
          match ps, hpl with
          | [p], _ =>
            obtain ⟨c1, y0, q1, q2, q3⟩ := i3 0 p rfl
            simp at q1
            subst q1
            have hen : encs [p] y = [p.enc y0] := by
              have : (encs [p] y).length = 1 := i2
              match hh : encs [p] y, this with
              | [z], _ => rw [hh] at q3; simp at q3; rw [q3]
            rw [hen]
            refine ⟨_, rfl, ?_⟩
            rcases hv with hv | hv | hv
            · subst hv
              cases p with
              | fl p => cases p <;> simp only [Pat.dec, FPat.dec, listAs] at q2 <;> first | exact .inl rfl | (cases q2; done)
              | _ => simp [Pat.dec] at q2
            · obtain ⟨hv, hu⟩ := hv
              subst hv
              cases p with
              | fl p => cases p <;> simp only [Pat.dec, FPat.dec, listAs] at q2 <;> first | exact .inl rfl | exact .inr (.inl ⟨rfl, hu⟩) | (cases q2; done)
              | _ => simp [Pat.dec] at q2
            · refine .inr (.inr (cell s _ hs 0 p c0 y0 _ rfl q2 ?_ ?_ hv))
              · unfold cellAt; rw [hf]; rfl
              · unfold At; rw [hf]; exact ⟨rfl, rfl⟩
      | box cs =>
        rw [hf] at hd hsl
        obtain ⟨q, ps⟩ := sp
        simp only [decS] at hd
        split at hd
        case h_2 => cases hd
        obtain ⟨i1, i2, i3⟩ := decs_get hd
        obtain ⟨⟨b, arr, ty, e1, e2, e3, e4, e5⟩, e6⟩ := hsl
        have hbx : boxOf (encs ps y) = .box (encs ps y) := by
          unfold boxOf
          split
          · rename_i he
            obtain ⟨zs, rfl⟩ := decMp hd he
            obtain ⟨u, _, u2⟩ := e5 0 _ rfl
            exact u2.elim
          · rfl
        simp only [encS, hbx]
        refine ⟨⟨b, arr, ty, e1, e2, e3, by rw [e4, i1, i2], fun j c hj => ?_⟩, e6⟩
        have hjl : j < ps.length := by rw [← i2]; exact (List.getElem?_eq_some_iff.1 hj).1
        obtain ⟨c0, y0, q1, q2, q3⟩ := i3 j ps[j] (List.getElem?_eq_getElem hjl)
        rw [hj] at q3
        cases q3
        obtain ⟨u, u1, u2⟩ := e5 j c0 q1
        refine ⟨u, u1, cell s _ hs j _ c0 y0 u (List.getElem?_eq_getElem hjl) q2 ?_ ?_ u2⟩
        · unfold cellAt; rw [hf]; simp [List.getD_eq_getElem?_getD, q1]
        · unfold At; rw [hf]; exact ⟨b, arr, ty, e1, e3, by omega, by simpa using u1⟩
  · simp only [cutH] at hu
    split at hu
    · rename_i ho
      split at hu
      · rename_i hex
        have hat := hex.choose_spec
        cases hu
        obtain ⟨sp, t, hs, hk0, hk⟩ := ho
        obtain ⟨y, hd, _⟩ := (hread s).1 _ hs
        have own : ∀ v, (OwnR w g (.at s 0 c) t [] v ∨ ∃ u xs, OwnR w g (.at s 0 c) u xs v) → At g fr a w s c v → hex.choose = .slice none 0 0 ∨ ∃ b n cap, hex.choose = .slice (some ⟨b, 0, none⟩) n cap := by
          intro v hv hat'
          rw [hat.fun hat']
          rcases hv with hv | ⟨_, _, hv⟩ <;> (rcases hv with hv | ⟨b, cap, cur, e, hv, _⟩; exact .inl hv.1; exact .inr ⟨_, _, _, hv⟩)
        rcases own_cell (all := all) hk0 hk hd with ⟨u, xs, q⟩ | ⟨_, ⟨u, xs, q⟩ | q⟩
        · obtain ⟨v, h1, h2⟩ := cell_rel h q (by simp) (by simp)
          exact own v (.inr ⟨u, xs, h2.1⟩) h1
        · obtain ⟨v, h1, h2⟩ := cell_rel h q (by simp) (by simp)
          exact own v (.inr ⟨u, xs, h2.1⟩) h1
        · obtain ⟨v, h1, h2⟩ := cell_rel h q (by simp) (by simp)
          exact own v (.inl (.inl ⟨h2, rfl⟩)) h1
      · cases hu
    · exact h.hh s c u hu
end
end Go.Rv
namespace Go.Rv
section
variable {P : Program} {st : St} {g : Gh} {fr : Fr} {a : Act} {w : World} {X : Env} {R : Type} {r : R} {Q : Exit → Act → World → Prop}
def fnSt (w : World) (g : Gh) (n : Nat) (keep : List Nat) (vs : List Value) : St := { B := w.heap.size, M := g.M, Z := g.Z, n := n, keep := keep, args := vs.toArray, w0 := w }
def fnAct (n : Nat) (vs : List Value) : Act := { tmps := vs.toArray ++ Array.replicate (n - vs.toArray.size) undef, defers := [] }
theorem argFr_none : ∀ (args : List Comp) (i s : Nat), s < i → argFr i args s = .dead
  | [], i, s, h => rfl
  | (gg, cs) :: r, i, s, h => by
    simp only [argFr]
    rw [upd_ne _ _ _ (by omega)]
    exact argFr_none r (i + 1) s (by omega)
theorem argFr_get : ∀ (args : List Comp) (i s : Nat), i ≤ s → argFr i args s = match args[s - i]? with | some p => .comp p.1 p.2 | none => .dead
  | [], i, s, h => by simp [argFr]
  | (gg, cs) :: r, i, s, h => by
    simp only [argFr]
    by_cases hs : s = i
    · subst hs; rw [upd_same]; simp
    · rw [upd_ne _ _ _ hs, argFr_get r (i + 1) s (by omega)]
      obtain ⟨k, hk⟩ : ∃ k, s - i = k + 1 := ⟨s - i - 1, by omega⟩
      rw [hk, show s - (i + 1) = k by omega]
      simp
theorem argFr_box (args : List Comp) : isBox (argFr 0 args) = fun _ => false := by
  funext s
  unfold isBox
  rw [argFr_get args 0 s (Nat.zero_le _)]
  split <;> rfl
theorem entry_ok {args : List Comp} {vs : List Value} (h : InitOk w g args vs) {n : Nat} (hn : args.length ≤ n) {keep : List Nat} (hk : ∀ j ∈ keep, j < args.length) : Ok (fnSt w g n keep vs) g (argFr 0 args) (fnAct n vs) w where
  eB := h.eB
  eR := ⟨h.ero, fun j hj => by cases hj⟩
  eM := rfl
  eZ := rfl
  size := by have := h.len; simp [fnAct, fnSt]; omega
  defers := rfl
  slot := fun s => by
    rw [argFr_box, argFr_get args 0 s (Nat.zero_le _)]
    cases hs : args[s - 0]? with
    | none => exact ⟨.dead, rfl, .inl rfl⟩
    | some p =>
      obtain ⟨v, h1, h2⟩ := h.arg s p (by simpa using hs)
      have : (fnAct n vs).tmps.getD s undef = v := by
        have hlt := (List.getElem?_eq_some_iff.1 h1).1
        simp only [fnAct, Array.getD_eq_getD_getElem?]
        rw [Array.getElem?_append_left (by simpa using hlt)]
        simp [h1]
      rw [this]
      exact h2
  keep := fun j hj => by
    have := hk j hj
    have := h.len
    simp only [fnAct, fnSt]
    rw [Array.getElem?_append_left (by simp; omega)]
  os := rfl
  tape := rfl
  output := rfl
  heap := Nat.le_refl _
  old := fun b _ _ => rfl
  own := fun b p hO => by
    obtain ⟨h1, h2⟩ := h.own b p hO
    exact ⟨h1, fun _ => h2⟩
  stab := h.stab
  boxS := fun b s hO => (h.nobox b s hO).elim
  zs := fun b o hz => by
    obtain ⟨h1, h2, h3⟩ := h.zs b o hz
    have h4 : b < w.heap.size := h.eB ▸ h2
    exact ⟨h1, h4, h3⟩
  sz := fun b o hb hm hs => by
    have hb : b < w.heap.size := hb
    exact h.sz b o (h.eB.symm ▸ hb) hm hs
  hh := h.hh
theorem mapM_run {α β : Type} {f : α → Sem β} {w : World} : ∀ (l : List α) (us : List β), us.length = l.length → (∀ (i : Nat) (x : α), l[i]? = some x → ∃ u, us[i]? = some u ∧ (f x).run P w = .ok u w) → (l.mapM f).run P w = .ok us w
  | [], us, hl, h => by
    cases us with
    | nil => rfl
    | cons => simp at hl
  | x :: l, us, hl, h => by
    cases us with
    | nil => simp at hl
    | cons u us =>
      obtain ⟨u', h1, h2⟩ := h 0 x rfl
      simp at h1
      subst h1
      have ih := mapM_run (f := f) l us (by simpa using hl) (fun i x hi => by simpa using h (i + 1) x (by simpa using hi))
      rw [List.mapM_cons, Sem.run_bind, h2, Result.andThen_ok, Sem.run_bind, ih, Result.andThen_ok]
      rfl
def resVal (tmps : Array Value) : ResultVar → Sem Value
  | .tmp t => pure (tmps.getD t undef)
  | .cell a t => do loadVar t (← asAddr (tmps.getD a undef))
def tupV : List Value → Value
  | [u] => u
  | us => .tuple us.toArray
theorem results_run {fn : Func} {tmps : Array Value} {us : List Value} (hl : us.length = fn.results.toList.length)
    (h : ∀ (i : Nat) (x : ResultVar), fn.results.toList[i]? = some x → ∃ u, us[i]? = some u ∧ (resVal tmps x).run P w = .ok u w) :
    (results fn tmps).run P w = .ok (tupV us) w := by
  have hfun : (fun (x : ResultVar) => (match x with | .tmp t => pure (tmps.getD t undef) | .cell a t => do loadVar t (← asAddr (tmps.getD a undef)) : Sem Value)) = resVal tmps := by
    funext x; cases x <;> rfl
  have e : results fn tmps = (fn.results.mapM (resVal tmps) >>= fun vs => pure (if h : vs.size = 1 then vs[0] else .tuple vs)) :=
    congrArg (fun (f : ResultVar → Sem Value) => Array.mapM f fn.results >>= fun vs => pure (if h : vs.size = 1 then vs[0] else Value.tuple vs)) hfun
  rw [e, Array.mapM_eq_mapM_toList, map_eq_pure_bind]
  simp only [Sem.run_bind]
  rw [mapM_run fn.results.toList us hl h]
  simp only [Result.andThen_ok, Sem.run_pure]
  match us with
  | [] => rfl
  | [u] => rfl
  | u :: v :: us => simp [tupV]
theorem loadVar_run (hT : TabOk P X) {t : TypeId} {i : TI} (hi : X.ti t = some i) {ad : Addr} (hsp : ad.spot = none) {us : List Value} (hl : us.length = i.ty.cells) (hr : w.rangeAt ad.block ad.off us) :
    ∃ v, (loadVar t ad).run P w = .ok v w ∧ (i.agg = true → v = .agg us.toArray) ∧ (i.agg = false → us = [v]) := by
  obtain ⟨ii, e1, e2⟩ := ti_size hT hi
  obtain ⟨d, hd, hrow, _⟩ := ti_under hT hi
  have hsize : (P.info? t).map (·.size) = some us.length := by rw [e1]; simp [e2, hl]
  cases hag : i.agg with
  | true =>
    rw [hag] at hrow
    have := run_loadAt_mid w ad.block ad.off t us d hr hd hrow hsize
    rw [← addr_eta ad hsp] at this
    simp only [Instr.loadAt, Instr.sureAddr, Sem.run_bind, Sem.run_pure, Result.andThen_ok] at this
    exact ⟨_, this, fun _ => rfl, fun e => by cases e⟩
  | false =>
    rw [hag] at hrow
    have h1 : i.ty.cells = 1 := ti_cells1 hT hi hag
    rw [h1] at hl
    obtain ⟨u, rfl⟩ := List.length_eq_one_iff.1 hl
    have hagg : (isAgg t).run P w = .ok false w := by
      unfold isAgg; rw [Sem.run_bind, run_underlying hd w]
      cases d <;> simp_all [TypeDesc.isRow]
    have hcell : w.cell? ad = some u := by
      have := hr 0 u rfl
      rw [addr_eta ad hsp]; simpa using this
    refine ⟨u, ?_, fun e => (by cases e), fun _ => rfl⟩
    simp only [loadVar, Sem.run_bind, hagg, Sem.run_pure, Result.andThen_ok]
    simp [load, Sem.run, hcell]
theorem resOne_ok (hT : TabOk P X) (h : Ok st g fr a w) {x : ResultVar} {p : Comp} {fr1 : Fr} (hr : resOne X fr x = some (p, fr1)) (j : Nat) :
    ∃ g1 u, Took st a w g g1 fr fr1 ∧ ARel w g1 (isBox fr) j p u ∧ (resVal a.tmps x).run P w = .ok u w := by
  cases x with
  | tmp t =>
    simp only [resOne] at hr
    split at hr
    · simp only [Option.some.injEq] at hr
      obtain ⟨g1, t1, r1⟩ := takeOpd_ok h hr j
      exact ⟨g1, _, t1, r1, rfl⟩
    · cases hr
  | cell b t =>
    simp only [resOne] at hr
    split at hr
    · rename_i cs i hb hi
      obtain ⟨hl, hr⟩ := bif_some hr
      have hl := Nat.eq_of_beq_eq_true hl
      have hs := h.slot b
      rw [hb] at hs
      obtain ⟨⟨bb, arr, ty, x1, x2, x3, x4, x5⟩, bb', y1, y2⟩ := hs
      rw [x1] at y1
      cases y1
      generalize hts : takeSlot fr b cs.length 1 = q at hr
      obtain ⟨ws, fr2⟩ := q
      simp only [Option.some.injEq, Prod.mk.injEq] at hr
      obtain ⟨rfl, rfl⟩ := hr
      obtain ⟨g1, t1, l1, r1⟩ := takeSlot_ok cs.length h (s := b) (c := 1) (N := cs.length) (by rw [hb]; rfl) (by omega) (by omega) arr.toList x4 (fun k v hk => by
        unfold At; rw [hb]; exact ⟨bb, arr, ty, x1, x3, by omega, by rw [show 1 + k - 1 = k by omega]; simpa using hk⟩) j hts
      obtain ⟨v, v1, v2, v3⟩ := loadVar_run (P := P) (w := w) hT hi (ad := ⟨bb, 0, none⟩) rfl (us := arr.toList) (by rw [x4, hl]) (fun j v hj => by
        rw [cell_of_row w bb _ arr ty (0, 0) x3]; simpa using hj)
      refine ⟨g1, v, t1, ?_, ?_⟩
      · cases hag : i.agg with
        | true =>
          refine ⟨arr.toList, by rw [v2 hag], by rw [l1]; exact x4, r1⟩
        | false =>
          have := v3 hag
          rw [this] at x4
          have hw : ws.length = 1 := by rw [l1, ← x4]; rfl
          obtain ⟨c, rfl⟩ := List.length_eq_one_iff.1 hw
          obtain ⟨u, q1, q2⟩ := r1 0 c rfl
          rw [this] at q1
          simp at q1
          subst q1
          exact ⟨c, rfl, .inr (.inr q2)⟩
      · simp only [resVal, y2, Sem.run_bind, asAddr, Sem.run_pure, Result.andThen_ok]
        exact v1
    · cases hr
theorem ARel.air {g1 : Gh} {fr1 : Fr} (ht : Took st a w g g1 fr fr1) {j : Nat} {p : Comp} {v : Value} (h : ARel w g (isBox fr) j p v) : ARel w g1 (isBox fr) j p v := by
  obtain ⟨b, cs⟩ := p
  cases b with
  | true =>
    obtain ⟨vs, e1, e2, e3⟩ := h
    refine ⟨vs, e1, e2, fun k c hk => ?_⟩
    obtain ⟨u, q1, q2⟩ := e3 k c hk
    exact ⟨u, q1, ht.air _ _ _ q2⟩
  | false =>
    obtain ⟨c, e1, e2⟩ := h
    exact ⟨c, e1, e2.imp id (fun e => e.imp id (ht.air _ _ _))⟩
theorem resAll_ok (hT : TabOk P X) : ∀ (rs : List ResultVar) {g : Gh} {fr fr1 : Fr} (_ : Ok st g fr a w) {l : List Comp} (_ : resAll X fr rs = some (l, fr1)) (i0 : Nat),
    ∃ (g1 : Gh) (us : List Value), Took st a w g g1 fr fr1 ∧ us.length = rs.length ∧ l.length = rs.length ∧ (∀ (i : Nat) (x : ResultVar), rs[i]? = some x → ∃ u, us[i]? = some u ∧ (resVal a.tmps x).run P w = .ok u w) ∧
      ∀ (i : Nat) (p : Comp), l[i]? = some p → ∃ u : Value, us[i]? = some u ∧ ARel w g1 (isBox fr) (4096 * (i0 + i)) p u
  | [], g, fr, fr1, h, l, hr, i0 => by
    simp only [resAll, Option.some.injEq, Prod.mk.injEq] at hr
    obtain ⟨rfl, rfl⟩ := hr
    exact ⟨g, [], Took.refl h, rfl, rfl, fun i x hi => by simp at hi, fun i p hi => by simp at hi⟩
  | x :: rs, g, fr, fr1, h, l, hr, i0 => by
    simp only [resAll] at hr
    split at hr
    case h_2 => cases hr
    rename_i c fr2 hx
    split at hr
    case h_2 => cases hr
    rename_i l' fr3 hrs
    simp only [Option.some.injEq, Prod.mk.injEq] at hr
    obtain ⟨rfl, rfl⟩ := hr
    obtain ⟨g1, u, t1, r1, e1⟩ := resOne_ok hT h hx (4096 * i0)
    obtain ⟨g2, us, t2, l1, l2, q1, q2⟩ := resAll_ok hT rs t1.ok hrs (i0 + 1)
    refine ⟨g2, u :: us, t1.trans t2, by simp [l1], by simp [l2], fun i y hi => ?_, fun i p hi => ?_⟩
    · cases i with
      | zero => simp at hi; subst hi; exact ⟨u, rfl, e1⟩
      | succ i => simp at hi; simpa using q1 i y hi
    · cases i with
      | zero =>
        simp at hi; subst hi
        refine ⟨u, rfl, ?_⟩
        have := ARel.air t2 (by rw [t1.bx]; exact r1)
        rw [t1.bx] at this
        exact this
      | succ i =>
        simp at hi
        obtain ⟨u', z1, z2⟩ := q2 i p hi
        rw [t1.bx] at z2
        exact ⟨u', by simpa using z1, by rw [show i0 + (i + 1) = i0 + 1 + i by omega]; exact z2⟩
theorem RRel_of_rel {bx : Nat → Bool} {k : Nat} {c : CV} {v : Value} (h : rel w g bx (.air k) c v) : RRel w g k c v := by
  cases c
  case own => exact h.2.elim
  case tmpo => exact h.1
  case ref => exact h.1
  case undef => exact h.elim
  case dead | int | bool | str | nils | lo | hi => exact h
  case mbox | mmap => exact h.elim
  all_goals exact rel_one h
theorem RComp_of_ARel {bx : Nat → Bool} {i : Nat} {p : Comp} {v : Value} (h : ARel w g bx (4096 * i) p v) : RComp w g i p v := by
  obtain ⟨b, cs⟩ := p
  cases b with
  | true =>
    obtain ⟨vs, e1, e2, e3⟩ := h
    exact ⟨vs, e1, e2, fun k c hk => by obtain ⟨u, q1, q2⟩ := e3 k c hk; exact ⟨u, q1, RRel_of_rel q2⟩⟩
  | false =>
    obtain ⟨c, e1, e2⟩ := h
    refine ⟨c, e1, ?_⟩
    rcases e2 with e2 | e2 | e2
    · exact .inl e2
    · exact .inr (.inl e2.1)
    · exact .inr (.inr (RRel_of_rel e2))
def Pat.res : Pat → Bool
  | .fl _ => true
  | _ => false
theorem rdec_rel (hz : ∀ b o, g.Z b o → g.S b o) {k : Nat} {p : Pat} {c : CV} {x : p.T} {v : Value} (hp : p.res = true) (hd : p.dec true c = some x) (hr : RRel w g k c v) : RRel w g k (p.enc x) v := by
  have mono : ∀ {t : Ty} {xs : List (Den t)}, RS w g.Z t xs v → RS w g.S t xs v := fun h => rep_mono (fun b o h => ⟨hz b o h, rfl⟩) h
  cases p with
  | rptr => simp [Pat.res] at hp
  | hptr => simp [Pat.res] at hp
  | fn => simp [Pat.res] at hp
  | mp => simp [Pat.res] at hp
  | fl p =>
    have one : RRel w g k c v → v.oneCell' = true := by
      intro h
      cases c
      case undef => exact h.elim
      case own => exact OwnR_one h
      case tmpo => exact OwnR_one h
      case int => have h : v = _ := h; subst h; rfl
      case bool => have h : v = _ := h; subst h; rfl
      case str => have h : v = _ := h; subst h; rfl
      case nils => have h : v = _ := h; subst h; rfl
      case lo => exact rep_one h v (by simp)
      case hi => exact rep_one h v (by simp)
      case ref => exact rep_one h v (by simp)
      case mbox => obtain ⟨_, _, _, rfl, _⟩ := h; rfl
      case mmap => obtain ⟨_, rfl, _⟩ := h; rfl
      all_goals exact h
    cases p with
    | own t =>
      cases c <;> simp only [Pat.dec, FPat.dec] at hd <;> first | (cases hd; done) | skip
      · cases hd
        exact .inl ⟨hr, rfl⟩
      all_goals
        try simp only [cond_true] at hd
        split at hd
        case isFalse => cases hd
        rename_i hu
        subst hu
        cases hd
        exact hr
    | ref s' c' t =>
      cases c <;> simp only [Pat.dec, FPat.dec] at hd <;> first | (cases hd; done) | skip
      split at hd
      case isFalse => cases hd
      rename_i hu
      obtain ⟨rfl, rfl, rfl⟩ := hu
      cases hd
      exact hr
    | ptr s' c' => exact one hr
    | mptr s' => exact one hr
    | hi t =>
      have hd : listAs t c = some x := hd
      show RS w g.S t x v
      cases c <;> simp only [listAs] at hd <;> first | (cases hd; done) | skip
      case nils => cases hd; have hv : v = .slice none 0 0 := hr; subst hv; exact RS_nils
      all_goals
        split at hd
        case isFalse => cases hd
        rename_i hu
        subst hu
        cases hd
      · exact mono hr
      · exact hr
      · exact OwnR.reads hr
      · exact OwnR.reads hr
      · exact hr
    | dead => exact one hr
    | undef =>
      cases c <;> simp only [Pat.dec, FPat.dec] at hd <;> first | (cases hd; done) | exact hr
    | int k =>
      cases c <;> simp only [Pat.dec, FPat.dec] at hd <;> first | (cases hd; done) | skip
      split at hd
      case isFalse => cases hd
      rename_i e
      subst e
      cases hd
      exact hr
    | bool =>
      cases c <;> simp only [Pat.dec, FPat.dec] at hd <;> first | (cases hd; done) | skip
      cases hd; exact hr
    | str =>
      cases c <;> simp only [Pat.dec, FPat.dec] at hd <;> first | (cases hd; done) | skip
      cases hd; exact hr
    | nils =>
      cases c <;> simp only [Pat.dec, FPat.dec] at hd <;> first | (cases hd; done) | skip
      exact hr
    | lo t =>
      show RS w g.Z t x v
      cases c <;> simp only [Pat.dec, FPat.dec] at hd <;> first | (cases hd; done) | skip
      · cases hd; have hv : v = .slice none 0 0 := hr; subst hv; exact RS_nils
      · split at hd
        case isFalse => cases hd
        rename_i hu
        subst hu
        cases hd
        exact hr
theorem rdec_comp (hz : ∀ b o, g.Z b o → g.S b o) {i : Nat} {gg : Bool} {ps : List Pat} {cs : List CV} {x : patsT ps} {v : Value} (hp : ps.all Pat.res = true) (hd : decs true ps cs = some x) (hr : RComp w g i (gg, cs) v) : RComp w g i (gg, encs ps x) v := by
  obtain ⟨i1, i2, i3⟩ := decs_get hd
  have hpm : ∀ (k : Nat) (p : Pat), ps[k]? = some p → p.res = true := fun k p hk => List.all_eq_true.1 hp p (List.mem_of_getElem? hk)
  cases gg with
  | true =>
    obtain ⟨vs, e1, e2, e3⟩ := hr
    refine ⟨vs, e1, by rw [e2, i1, i2], fun k c hk => ?_⟩
    have hkl : k < ps.length := by rw [← i2]; exact (List.getElem?_eq_some_iff.1 hk).1
    obtain ⟨c0, y0, q1, q2, q3⟩ := i3 k ps[k] (List.getElem?_eq_getElem hkl)
    rw [hk] at q3
    cases q3
    obtain ⟨u, u1, u2⟩ := e3 k c0 q1
    exact ⟨u, u1, rdec_rel hz (hpm k _ (List.getElem?_eq_getElem hkl)) q2 u2⟩
  | false =>
    obtain ⟨c0, rfl, hv⟩ := hr
    have hpl : ps.length = 1 := by rw [← i1]; rfl
    match ps, hpl with
    | [p], _ =>
      obtain ⟨c1, y0, q1, q2, q3⟩ := i3 0 p rfl
      simp at q1
      subst q1
      have hen : encs [p] x = [p.enc y0] := by
        have : (encs [p] x).length = 1 := i2
        match hh : encs [p] x, this with
        | [z], _ => rw [hh] at q3; simp at q3; rw [q3]
      rw [hen]
      refine ⟨_, rfl, ?_⟩
      rcases hv with hv | hv | hv
      · subst hv
        cases p with
        | fl p => cases p <;> simp only [Pat.dec, FPat.dec, listAs] at q2 <;> first | exact .inl rfl | (cases q2; done)
        | _ => simp [Pat.dec] at q2
      · subst hv
        cases p with
        | fl p => cases p <;> simp only [Pat.dec, FPat.dec, listAs] at q2 <;> first | exact .inl rfl | exact .inr (.inl rfl) | (cases q2; done)
        | _ => simp [Pat.dec] at q2
      · exact .inr (.inr (rdec_rel hz (hpm 0 p rfl) q2 hv))
theorem decC_get : ∀ {pr : CompPs} {l : List Comp} {x : compT pr}, decC pr l = some x → l.length = pr.length ∧ (encC pr x).length = pr.length ∧ ∀ (i : Nat) (p : Bool × List Pat), pr[i]? = some p → ∃ (cs : List CV) (y : patsT p.2), l[i]? = some (p.1, cs) ∧ decs true p.2 cs = some y ∧ (encC pr x)[i]? = some (p.1, encs p.2 y)
  | [], l, x, h => by
    cases l with
    | nil => exact ⟨rfl, rfl, fun i p hi => by simp at hi⟩
    | cons => simp [decC] at h
  | p :: pr, l, x, h => by
    cases l with
    | nil => simp [decC] at h
    | cons c l =>
      simp only [decC] at h
      obtain ⟨hb, h⟩ := bif_some h
      have hb : p.1 = c.1 := by simpa using hb
      split at h
      case h_2 => cases h
      rename_i y hy
      split at h
      case h_2 => cases h
      rename_i z hz
      cases h
      obtain ⟨i1, i2, i3⟩ := decC_get hz
      refine ⟨by simp [i1], by simp [encC, i2], fun i q hi => ?_⟩
      cases i with
      | zero => simp at hi; subst hi; exact ⟨c.2, y, by rw [hb]; rfl, hy, rfl⟩
      | succ i => simp at hi; simpa [encC] using i3 i q hi
theorem RVal_map {l rs : List Comp} {v : Value} (hl : rs.length = l.length) (one : ∀ (i : Nat) (c : Comp) (u : Value) (c0 : Comp), l[i]? = some c0 → rs[i]? = some c → RComp w g i c0 u → RComp w g i c u) (hr : RVal w g l v) : RVal w g rs v := by
  match l, rs, hl, hr, one with
  | [c0], [c], _, hr, one => exact one 0 c v c0 rfl rfl hr
  | [], [], _, hr, one => exact hr
  | c0 :: d0 :: l, c :: d :: l', hl, hr, one =>
    obtain ⟨us, u1, u2, u3⟩ := hr
    refine ⟨us, u1, by rw [u2]; exact hl.symm, fun i p hi => ?_⟩
    have hil : i < (c0 :: d0 :: l).length := by rw [← hl]; exact (List.getElem?_eq_some_iff.1 hi).1
    obtain ⟨u, w1, w2⟩ := u3 i _ (List.getElem?_eq_getElem hil)
    exact ⟨u, w1, one i p u _ (List.getElem?_eq_getElem hil) hi w2⟩
theorem rdec_at (hz : ∀ b o, g.Z b o → g.S b o) {pr : CompPs} {l : List Comp} {x : compT pr} (hp : (pr.all fun p => p.2.all Pat.res) = true) (hd : decC pr l = some x) (i : Nat) (c : Comp) (u : Value) (c0 : Comp) (h0 : l[i]? = some c0) (hc : (encC pr x)[i]? = some c) (hu : RComp w g i c0 u) : RComp w g i c u := by
  obtain ⟨i1, i2, i3⟩ := decC_get hd
  have hpm : ∀ (i : Nat) (p : Bool × List Pat), pr[i]? = some p → p.2.all Pat.res = true := fun i p hi => List.all_eq_true.1 hp p (List.mem_of_getElem? hi)
  have hil : i < pr.length := by rw [← i2]; exact (List.getElem?_eq_some_iff.1 hc).1
  obtain ⟨cs, y, q1, q2, q3⟩ := i3 i pr[i] (List.getElem?_eq_getElem hil)
  rw [h0] at q1
  rw [hc] at q3
  cases q1
  cases q3
  exact rdec_comp hz (hpm i _ (List.getElem?_eq_getElem hil)) q2 hu
theorem end_ok (hT : TabOk P X) (h : Ok st g fr a w) {fn : Func} {outs : List (Nat × Nat)} {dec : List Comp → Option R} {e : Ex} (he : ∀ id, e ≠ .exit id) (hk : endK X fn outs dec e fr = some r) :
    ∃ v l g1 fr1, (results fn a.tmps).run P w = .ok v w ∧ Ok st g1 fr1 a w ∧ RVal w g1 l v ∧ ((outs = [] ∧ dec l = some r) ∨ (outs ≠ [] ∧ ∃ o, outsOf fr1 outs = some o ∧ dec (l ++ [(false, o)]) = some r)) := by
  have hk : (match resAll X fr fn.results.toList with | some (l, fr1) => (bif outs.isEmpty then dec l else match outsOf fr1 outs with | some o => dec (l ++ [(false, o)]) | none => none) | none => none) = some r := by
    cases e with
    | exit id => exact (he id rfl).elim
    | normal => exact hk
    | ret => exact hk
  split at hk
  case h_2 => cases hk
  rename_i l fr1 hr
  obtain ⟨g1, us, t1, l1, l2, q1, q2⟩ := resAll_ok (P := P) hT _ h hr 0
  have hc : ∀ (i : Nat) (p : Comp), l[i]? = some p → ∃ u : Value, us[i]? = some u ∧ RComp w g1 i p u := fun i p hi => by
    obtain ⟨u, u1, u2⟩ := q2 i p hi
    rw [Nat.zero_add] at u2
    exact ⟨u, u1, RComp_of_ARel u2⟩
  have hl : us.length = l.length := by rw [l1, l2]
  refine ⟨tupV us, l, g1, fr1, results_run l1 q1, t1.ok, ?_, ?_⟩
  · match us, l, hl, hc with
    | [], [], _, hc => exact ⟨[], rfl, rfl, fun i p hi => by simp at hi⟩
    | [u], [p], _, hc =>
      obtain ⟨u', h1, h2⟩ := hc 0 p rfl
      simp at h1
      subst h1
      exact h2
    | u :: u' :: us, p :: q :: l, hl, hc => exact ⟨_, rfl, hl, hc⟩
  · cases outs with
    | nil => exact .inl ⟨rfl, hk⟩
    | cons p r =>
      refine .inr ⟨by simp, ?_⟩
      simp only [List.isEmpty_cons, cond_false] at hk
      split at hk
      · rename_i o ho; exact ⟨o, ho, hk⟩
      · cases hk
structure CutsOk (P : Program) (X : Env) (E : FuncId → Option Fn) (f : Func) (outs : List (Nat × Nat)) (dec : List Comp → Option R) (C : Nat → Cuts R) : Prop where
  zero : ∀ q cut, (C 0).lookup q = some cut → ∀ x, cut.run x = none
  pats : ∀ n q cut, (C n).lookup q = some cut → cutOk cut.pats = true
  node : ∀ n q cut, (C n).lookup q = some cut → q < nodes (bodyOf f)
  step : ∀ n q cut, (C (n + 1)).lookup q = some cut → ∀ x, cut.run x = denAt { X with n := f.ntmps, keep := keepOf outs } E (C n) (bodyOf f) 0 q (endK { X with n := f.ntmps, keep := keepOf outs } f outs dec) (cutFr cut.pats x)
theorem cutsAt (hT : TabOk P X) {E : FuncId → Option Fn} (hE : EnvOk P E) {f : Func} {outs : List (Nat × Nat)} {dec : List Comp → Option R} {C : Nat → Cuts R} (hC : CutsOk P X E f outs dec C) (hX : Fits { X with n := f.ntmps, keep := keepOf outs } st)
    (hQ : KQ st (endK { X with n := f.ntmps, keep := keepOf outs } f outs dec) r Q) : ∀ n, CutsAt P st (C n) r (bodyOf f) 0 Q
  | 0 => fun q cut hq _ _ g fr a w ok hj => by
    unfold jump at hj
    split at hj
    · rw [hC.zero q cut hq] at hj; cases hj
    · cases hj
  | n + 1 => fun q cut hq _ _ g fr a w ok hj => by
    unfold jump at hj
    split at hj
    · rename_i x hx
      rw [hC.step n q cut hq] at hj
      obtain ⟨g', ok'⟩ := cut_ok ok (hC.pats _ q cut hq) hx
      have hT' : TabOk P { X with n := f.ntmps, keep := keepOf outs } := ⟨hT.mixed, hT.fit, hT.maps⟩
      exact denAt_ok hT' hE hX (bodyOf f) 0 q Q _ (cutsAt hT hE hC hX hQ n) hQ g' _ a w ok' hj
    · cases hj
def outsOk (n : Nat) (pc : CutP) : List (Nat × Nat) → Bool
  | [] => true
  | (j, m) :: r => (j.blt n && match pc.lookup j with | some (_, ps) => ps.length.beq m | none => false) && outsOk n pc r
theorem outsOk_spec {n : Nat} {pc : CutP} {args : List Comp} (hl : args.length = n) {x : cutT pc} (hx : readCut pc pc (argFr 0 args) = some x) : ∀ {outs : List (Nat × Nat)}, outsOk n pc outs = true → ∀ j m, (j, m) ∈ outs → ∃ p, args[j]? = some p ∧ p.2.length = m
  | (j', m') :: r, h, j, m, hm => by
    simp only [outsOk, Bool.and_eq_true] at h
    rcases List.mem_cons.1 hm with e | hm
    · have e1 : j = j' := congrArg Prod.fst e
      have e2 : m = m' := congrArg Prod.snd e
      subst e1
      subst e2
      have hjn : j < n := Nat.le_of_ble_eq_true h.1.1
      have h2 := h.1.2
      split at h2
      · rename_i q ps hps
        obtain ⟨y, hd, _⟩ := (readCut_lookup hx j).1 _ hps
        rw [argFr_get args 0 j (Nat.zero_le _), Nat.sub_zero, List.getElem?_eq_getElem (by omega)] at hd
        refine ⟨args[j], List.getElem?_eq_getElem (by omega), ?_⟩
        simp only [decS] at hd
        split at hd
        · obtain ⟨_, hd⟩ := bif_some hd
          rw [(decs_get hd).1]
          exact Nat.eq_of_beq_eq_true h2
        · cases hd
      · cases h2
    · exact outsOk_spec hl hx h.2 j m hm
theorem outs_ok {args : List Comp} {vs : List Value} (h : Ok st g fr a w) (hargs : st.args = vs.toArray) : ∀ {outs : List (Nat × Nat)} {o o' : List CV}, (∀ j m, (j, m) ∈ outs → j ∈ st.keep ∧ j < vs.length ∧ ∃ p, args[j]? = some p ∧ p.2.length = m) → outsOf fr outs = some o → o'.length = o.length →
    (∀ (k : Nat) (t : Ty) (xs : List (Den t)), o'[k]? = some (.own t xs) → o[k]? = some (.own t xs) ∨ o[k]? = some (.tmpo t xs) ∨ (o[k]? = some .nils ∧ xs = [])) → Outs w g args vs (keepOf outs) o'
  | [], o, o', _, ho, hl, _ => by
    simp only [outsOf, Option.some.injEq] at ho
    subst ho
    exact List.length_eq_zero_iff.1 hl
  | (j, m) :: r, o, o', hj, ho, hl, hc => by
    simp only [outsOf] at ho
    cases hfj : fr j with
    | box _ => rw [hfj] at ho; cases ho
    | tup _ => rw [hfj] at ho; cases ho
    | mapb kk vv xx ii => rw [hfj] at ho; cases ho
    | comp gg cs =>
    rw [hfj] at ho
    cases hr : outsOf fr r with
    | none => rw [hr] at ho; cases ho
    | some l =>
    rw [hr] at ho
    simp only at ho
    obtain ⟨hm, ho⟩ := bif_some ho
    have hm := Nat.eq_of_beq_eq_true hm
    cases ho
    obtain ⟨hkeep, hjl, p, hp1, hp2⟩ := hj j m List.mem_cons_self
    rw [List.length_append] at hl
    refine ⟨o'.take cs.length, o'.drop cs.length, p, vs[j], (List.take_append_drop _ _).symm, hp1, List.getElem?_eq_getElem hjl, by rw [List.length_take, hp2]; omega, fun k t xs hk => ?_, ?_⟩
    · have hkl : k < cs.length := by
        have := (List.getElem?_eq_some_iff.1 hk).1
        rw [List.length_take] at this
        omega
      rw [List.getElem?_take, if_pos hkl] at hk
      have hck := hc k t xs hk
      rw [List.getElem?_append_left hkl] at hck
      have hsl := h.slot j
      have hval : a.tmps.getD j undef = vs[j] := by
        have := h.keep j hkeep
        rw [Array.getD_eq_getD_getElem?, this, hargs]
        simp [hjl]
      rw [hfj, hval] at hsl
      have own : ∀ u, cs[k]? = some (.own t xs) ∨ cs[k]? = some (.tmpo t xs) ∨ (cs[k]? = some .nils ∧ xs = []) → (∀ c, cs[k]? = some c → rel w g (isBox fr) (.at j 0 (k + 1)) c u) → OwnR w g (.at j 0 (k + 1)) t xs u := by
        intro u hck hrel
        rcases hck with e | e | ⟨e, rfl⟩
        · exact (hrel _ e).1
        · exact (hrel _ e).1
        · exact .inl ⟨hrel _ e, rfl⟩
      cases gg with
      | true =>
        obtain ⟨us, e1, e2, e3⟩ := hsl
        obtain ⟨u, u1, u2⟩ := e3 k cs[k] (List.getElem?_eq_getElem hkl)
        refine ⟨u, by rw [e1]; exact u1, own u hck fun c hcc => ?_⟩
        rw [List.getElem?_eq_getElem hkl] at hcc
        cases hcc
        exact u2
      | false =>
        obtain ⟨c, e1, e2⟩ := hsl
        subst e1
        have hk0 : k = 0 := by simp at hkl; exact hkl
        subst hk0
        simp only [List.getElem?_cons_zero, Option.some.injEq] at hck
        have hrel : rel w g (isBox fr) (.at j 0 1) c vs[j] := by
          rcases e2 with e2 | e2 | e2
          · subst e2; rcases hck with e | e | ⟨e, _⟩ <;> cases e
          · rw [e2.1] at hck; rcases hck with e | e | ⟨e, _⟩ <;> cases e
          · exact e2
        have hO := own vs[j] (by simpa using hck) (fun c' hc' => by simp at hc'; subst hc'; exact hrel)
        refine ⟨vs[j], ?_, hO⟩
        rcases hO with ⟨e, _⟩ | ⟨b, cap, cur, e', e, _⟩ <;> rw [e] <;> rfl
    · refine outs_ok h hargs (fun j m hm => hj j m (List.mem_cons_of_mem _ hm)) hr (by rw [List.length_drop]; omega) (fun k t xs hk => ?_)
      rw [List.getElem?_drop] at hk
      have := hc _ t xs hk
      rw [List.getElem?_append_right (by omega), show cs.length + k - cs.length = k by omega] at this
      exact this
theorem fn_ok (hT : TabOk P X) {E : FuncId → Option Fn} (hE : EnvOk P E) {fid : FuncId} {f : Func} {c : Code} (hf : P.funcs[fid]? = some f) (hb : f.body = some c) {n : Nat} (hn : n ≤ f.ntmps) {pc : CutP} (hpc : cutOk pc = true) {outs : List (Nat × Nat)} (houts : outsOk n pc outs = true) {pr : CompPs} (hpr : (pr.all fun p => p.2.all Pat.res) = true)
    {N : Type} {h : N → compT pr} {d : compT pr → N} (hh : ∀ x, h (d x) = x) {F : cutT pc → Option N} {C : Nat → Cuts N} {k : Nat} (hC : CutsOk P X E f outs (decN pr d) C)
    (hF : ∀ x, F x = denFn X E (C k) f outs pc x (decN pr d)) (hro : X.ro = [] := by rfl) : FnOk P fid (mkFn n pc pr (keepOf outs) h F) := by
  intro R w g args vs K r hi hrun
  simp only [mkFn] at hrun
  obtain ⟨hl, hrun⟩ := bif_some hrun
  have hl := Nat.eq_of_beq_eq_true hl
  split at hrun
  case h_2 => cases hrun
  rename_i x hx
  rw [hF] at hrun
  have hspec := outsOk_spec hl hx houts
  cases hy : denFn X E (C k) f outs pc x (decN pr d) with
  | none => rw [hy] at hrun; cases hrun
  | some y =>
    rw [hy] at hrun
    have hrun : K (encC pr (h y)) = some r := hrun
    have hkeep : ∀ j ∈ keepOf outs, j < args.length := fun j hj => by
      obtain ⟨q, hq, rfl⟩ := List.mem_map.1 hj
      obtain ⟨p, hp, _⟩ := hspec q.1 q.2 hq
      exact (List.getElem?_eq_some_iff.1 hp).1
    have ok0 := entry_ok hi (n := f.ntmps) (keep := keepOf outs) (by omega) hkeep
    obtain ⟨g1, ok1⟩ := cut_ok ok0 hpc hx
    have hX : Fits { X with n := f.ntmps, keep := keepOf outs } (fnSt w g f.ntmps (keepOf outs) vs) := ⟨rfl, rfl, hro⟩
    have hT' : TabOk P { X with n := f.ntmps, keep := keepOf outs } := ⟨hT.mixed, hT.fit, hT.maps⟩
    have hbody : bodyOf f = c := by unfold bodyOf; rw [hb]; rfl
    have fin : ∀ (e : Ex), (∀ id, e ≠ .exit id) → ∀ g1 fr1 a1 w1, Ok (fnSt w g f.ntmps (keepOf outs) vs) g1 fr1 a1 w1 → endK { X with n := f.ntmps, keep := keepOf outs } f outs (decN pr d) e fr1 = some y →
        a1.defers = [] ∧ ∃ v, (results f a1.tmps).run P w1 = .ok v w1 ∧ ∃ v' res g', Ending.returned v = .returned v' ∧ K res = some r ∧ ResOk (keepOf outs) w w1 g g' args vs res v' := by
      intro e he g1 fr1 a1 w1 ok hk
      obtain ⟨v, l, g2, fr2, q1, q3, q4, q5⟩ := end_ok hT' ok he hk
      refine ⟨ok.defers, v, q1, v, encC pr (h y), g2, rfl, hrun, ?_⟩
      have hz : ∀ b o, g2.Z b o → g2.S b o := fun b o hz => (q3.zs b o (by rw [← q3.eZ]; exact hz)).1
      have hval : ∃ rs os, encC pr (h y) = rs ++ (bif (keepOf outs).isEmpty then [] else [(false, os)]) ∧ RVal w1 g2 rs v ∧ (keepOf outs ≠ [] → Outs w1 g2 args vs (keepOf outs) os) := by
        rcases q5 with ⟨rfl, q5⟩ | ⟨hne, o, ho, q5⟩
        · unfold decN at q5
          split at q5
          case h_2 => cases q5
          rename_i z hz'
          cases q5
          rw [hh z]
          exact ⟨encC pr z, [], by simp [keepOf], RVal_map (by rw [(decC_get hz').2.1, (decC_get hz').1]) (rdec_at hz hpr hz') q4, fun e => (e rfl).elim⟩
        · unfold decN at q5
          split at q5
          case h_2 => cases q5
          rename_i z hz'
          cases q5
          rw [hh z]
          obtain ⟨i1, i2, i3⟩ := decC_get hz'
          rw [List.length_append, List.length_singleton] at i1
          obtain ⟨cs, yy, c1, c2, c3⟩ := i3 l.length pr[l.length] (List.getElem?_eq_getElem (by omega))
          rw [List.getElem?_append_right (by omega), Nat.sub_self] at c1
          simp only [List.getElem?_cons_zero, Option.some.injEq, Prod.mk.injEq] at c1
          obtain ⟨c1a, rfl⟩ := c1
          rw [← c1a] at c3
          refine ⟨(encC pr z).take l.length, encs pr[l.length].2 yy, ?_, ?_, fun _ => ?_⟩
          · have hne' : (keepOf outs).isEmpty = false := by
              cases outs with
              | nil => exact (hne rfl).elim
              | cons p r => rfl
            rw [hne', cond_false]
            have := (List.take_append_drop l.length (encC pr z)).symm
            have hdr : (encC pr z).drop l.length = [(false, encs pr[l.length].2 yy)] := by
              apply List.ext_getElem?
              intro i
              rw [List.getElem?_drop]
              cases i with
              | zero => rw [Nat.add_zero, c3]; rfl
              | succ i => rw [List.getElem?_eq_none (by omega)]; rfl
            rw [hdr] at this
            exact this
          · refine RVal_map (by rw [List.length_take]; omega) (fun i c u c0 h0 hc hu => ?_) q4
            have hil : i < l.length := (List.getElem?_eq_some_iff.1 h0).1
            rw [List.getElem?_take, if_pos hil] at hc
            exact rdec_at hz hpr hz' i c u c0 (by rw [List.getElem?_append_left hil]; exact h0) hc hu
          · obtain ⟨j1, j2, j3⟩ := decs_get c2
            refine outs_ok q3 rfl (fun j m hm => ⟨List.mem_map.2 ⟨_, hm, rfl⟩, ?_, hspec j m hm⟩) ho (by rw [j2, j1]) (fun k t xs hk => ?_)
            · rw [hi.len]; exact hkeep j (List.mem_map.2 ⟨_, hm, rfl⟩)
            · have hkl : k < pr[l.length].2.length := by rw [← j2]; exact (List.getElem?_eq_some_iff.1 hk).1
              obtain ⟨p, hp⟩ : ∃ p, (pr[l.length]).2[k]? = some p := ⟨_, List.getElem?_eq_getElem hkl⟩
              obtain ⟨c0, y0, d1, d2, d3⟩ := j3 k p hp
              rw [hk] at d3
              cases p with
              | fl p =>
                cases p <;> first | (cases d3; done) | skip
                rename_i t'
                cases d3
                rw [d1]
                cases c0 <;> simp only [Pat.dec, FPat.dec] at d2 <;> first | (cases d2; done) | skip
                · cases d2; exact .inr (.inr ⟨rfl, rfl⟩)
                · split at d2
                  case isFalse => cases d2
                  rename_i hu
                  subst hu
                  cases d2
                  exact .inl rfl
                · simp only [cond_true] at d2
                  split at d2
                  case isFalse => cases d2
                  rename_i hu
                  subst hu
                  cases d2
                  exact .inr (.inl rfl)
              | _ => cases d3
      exact {
        eZ := q3.eZ
        os := q3.os
        tape := q3.tape
        output := q3.output
        heap := q3.heap
        old := q3.old
        own := q3.own
        stab := q3.stab
        sz := fun b o hb hm hs => q3.sz b o hb hm hs
        val := hval }
    refine calls_of_wp hf hb ?_
    rw [← hbody]
    have hQ : KQ (fnSt w g f.ntmps (keepOf outs) vs) (endK { X with n := f.ntmps, keep := keepOf outs } f outs (decN pr d)) y (bodyPost P f fun e w' => ∃ v res g', e = .returned v ∧ K res = some r ∧ ResOk (keepOf outs) w w' g g' args vs res v) := by
      refine ⟨fun g1 fr1 a1 w1 ok hk => fin .normal (fun id e => by cases e) g1 fr1 a1 w1 ok hk, fun id g1 fr1 a1 w1 ok hk => by simp [endK] at hk, fun g1 fr1 a1 w1 ok hk => fin .ret (fun id e => by cases e) g1 fr1 a1 w1 ok hk⟩
    have := den_ok (E := E) hT' hE hX (bodyOf f) 0 _ _ (cutsAt hT hE hC hX hQ k) hQ g1 _ (fnAct f.ntmps vs) w ok1 hy
    exact this
theorem entry {fid : FuncId} {F : Fn} (hc : ∀ (args : Array Value) (w : World), (callFunc fid args).run P w = .ok (.enter fid args) w) (hb : F.box = false) (h : FnOk P fid F) : EntOk P fid F where
  call := hc
  ok := fun _ => h
  okB := fun e => absurd (hb.symm.trans e) (by simp)
  okH := fun e => absurd (hb.symm.trans e) (by simp)
theorem entryB {fid : FuncId} {F : Fn} (hc : ∀ (args : Array Value) (w : World), (callFunc fid args).run P w = .ok (.enter fid args) w) (hb : F.box = true) (h : FnOkB P fid F) (hh : F.hand = [] := by rfl) : EntOk P fid F where
  call := hc
  ok := fun e => absurd (hb.symm.trans e) (by simp)
  okB := fun _ _ => h
  okH := fun _ e => (e hh).elim
theorem entryH {fid : FuncId} {F : Fn} (hc : ∀ (args : Array Value) (w : World), (callFunc fid args).run P w = .ok (.enter fid args) w) (hb : F.box = true) (h : FnOkH P fid F) (hh : F.hand.isEmpty = false := by rfl) : EntOk P fid F where
  call := hc
  ok := fun e => absurd (hb.symm.trans e) (by simp)
  okB := fun _ e => by rw [e] at hh; cases hh
  okH := fun _ _ => h
end
end Go.Rv

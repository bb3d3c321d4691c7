/- Where an operation looks, and where it writes. -/
import Derived.Test.YtlkmjldhhoopcaaRvNat
namespace Go.Rv
set_option linter.unusedSimpArgs false
set_option linter.unusedVariables false
/-! ### Points of a frame -/
def shape : SV → SV
  | .box _ => .box []
  | .tup vs => .tup (vs.map fun _ => (false, []))
  | x => x
def pv (x : SV) : Nat → SV
  | 0 => shape x
  | k + 1 => match x with
    | .box cs => match cs[k]? with
      | some y => .comp false [y]
      | none => .tup []
    | .tup vs => match vs[k]? with
      | some y => .comp y.1 y.2
      | none => .tup []
    | _ => .tup []
theorem shape_box {x : SV} {cs : List CV} (h : shape x = .box cs) : ∃ ds, x = .box ds := by
  cases x <;> simp [shape] at h
  exact ⟨_, rfl⟩
theorem shape_tup {x : SV} {vs : List (Bool × List CV)} (h : shape (.tup vs) = shape x) : ∃ us, x = .tup us ∧ us.length = vs.length := by
  cases x <;> simp only [shape] at h <;> first | (cases h; done) | skip
  rename_i us
  refine ⟨us, rfl, ?_⟩
  have := congrArg (fun x => match x with | SV.tup l => l.length | _ => 0) h
  simpa using this.symm
def isComp : SV → Bool
  | .comp _ _ => true
  | _ => false
theorem shape_eq {x y : SV} (h : shape x = shape y) (hb : isComp x = true) : y = x := by
  cases x <;> cases y <;> simp_all [shape, isComp]
theorem pv_ext {x y : SV} (h : ∀ c, pv x c = pv y c) : x = y := by
  have h0 := h 0
  cases x with
  | box cs =>
    obtain ⟨ds, rfl⟩ := shape_box (x := y) (cs := []) h0.symm
    congr 1
    apply List.ext_getElem?
    intro k
    have := h (k + 1)
    simp only [pv] at this
    cases h1 : cs[k]? <;> cases h2 : ds[k]? <;> simp_all
  | comp b cs => exact (shape_eq (x := .comp b cs) h0 rfl).symm
  | tup vs =>
    obtain ⟨us, rfl, _⟩ := shape_tup (x := y) h0
    congr 1
    apply List.ext_getElem?
    intro k
    have := h (k + 1)
    simp only [pv] at this
    cases h1 : vs[k]? <;> cases h2 : us[k]? <;> rw [h1, h2] at this <;> simp only at this <;> first | rfl | (cases this; done) | skip
    rename_i p q
    obtain ⟨p1, p2⟩ := p
    obtain ⟨q1, q2⟩ := q
    cases this
    rfl
theorem viewS_shape {t : Nat} {x y : SV} (h : shape x = shape y) : viewS t x = viewS t y := by
  cases x with
  | box cs =>
    obtain ⟨ds, rfl⟩ := shape_box (x := y) (cs := []) h.symm
    rfl
  | comp b cs => rw [shape_eq (x := .comp b cs) h rfl]
  | tup vs =>
    obtain ⟨us, rfl, _⟩ := shape_tup (x := y) h
    rfl
def pin (s c : Nat) : Loc → Prop
  | .shape t => s = t ∧ c = 0
  | .cells t lo n => s = t ∧ lo < c ∧ c ≤ lo + n
  | .whole t => s = t
def Inn (s c : Nat) (L : List Loc) : Prop := ∃ l, l ∈ L ∧ pin s c l
theorem Inn.left {s c : Nat} {L M : List Loc} (h : Inn s c L) : Inn s c (L ++ M) := by
  obtain ⟨l, h1, h2⟩ := h; exact ⟨l, List.mem_append_left _ h1, h2⟩
theorem Inn.right {s c : Nat} {L M : List Loc} (h : Inn s c M) : Inn s c (L ++ M) := by
  obtain ⟨l, h1, h2⟩ := h; exact ⟨l, List.mem_append_right _ h1, h2⟩
theorem Inn.cons {s c : Nat} {l : Loc} {M : List Loc} (h : Inn s c M) : Inn s c (l :: M) := by
  obtain ⟨l, h1, h2⟩ := h; exact ⟨l, List.mem_cons_of_mem _ h1, h2⟩
theorem Inn.head {s c : Nat} {l : Loc} {M : List Loc} (h : pin s c l) : Inn s c (l :: M) := ⟨l, List.mem_cons_self, h⟩
theorem Inn.or {s c : Nat} {L M : List Loc} (h : Inn s c (L ++ M)) : Inn s c L ∨ Inn s c M := by
  obtain ⟨l, h1, h2⟩ := h
  rcases List.mem_append.1 h1 with h1 | h1
  · exact .inl ⟨l, h1, h2⟩
  · exact .inr ⟨l, h1, h2⟩
theorem Inn.nil {s c : Nat} (h : Inn s c []) : False := by
  obtain ⟨l, h1, _⟩ := h; cases h1
theorem Inn.uncons {s c : Nat} {l : Loc} {M : List Loc} (h : Inn s c (l :: M)) : pin s c l ∨ Inn s c M := by
  obtain ⟨l', h1, h2⟩ := h
  cases h1 with
  | head => exact .inl h2
  | tail _ h1 => exact .inr ⟨l', h1, h2⟩
theorem ov_spec {l m : Loc} (h : ov l m = false) {s c : Nat} (h1 : pin s c l) (h2 : pin s c m) : False := by
  cases l <;> cases m <;> simp only [ov, pin] at *
  case shape.cells => omega
  case cells.shape => omega
  case cells.cells s' a n t b k =>
    obtain ⟨rfl, e1, e2⟩ := h1
    obtain ⟨rfl, e3, e4⟩ := h2
    rw [Nat.beq_refl, show a.blt (b + k) = true from Nat.ble_eq_true_of_le (show a + 1 ≤ b + k by omega), show b.blt (a + n) = true from Nat.ble_eq_true_of_le (show b + 1 ≤ a + n by omega)] at h
    cases h
  all_goals
    have e : ∀ {x y : Nat}, s = x → s = y → x.beq y = true := fun h1 h2 => by subst h1; subst h2; exact Nat.beq_refl _
    first
      | (rw [e h1 h2] at h; cases h)
      | (rw [e h1.1 h2] at h; cases h)
      | (rw [e h1 h2.1] at h; cases h)
      | (rw [e h1.1 h2.1] at h; cases h)
theorem disj_spec {L M : List Loc} (h : disj L M = true) {s c : Nat} (h1 : Inn s c L) (h2 : Inn s c M) : False := by
  obtain ⟨l, a1, a2⟩ := h1
  obtain ⟨m, b1, b2⟩ := h2
  have := List.all_eq_true.1 (List.all_eq_true.1 h l a1) m b1
  exact ov_spec (by simpa using this) a2 b2
/-- the frames look the same there -/
def Agr (fr fr' : Fr) (L : List Loc) : Prop := ∀ s c, Inn s c L → pv (fr s) c = pv (fr' s) c
theorem Agr.sub {fr fr' : Fr} {L M : List Loc} (h : Agr fr fr' M) (hs : ∀ s c, Inn s c L → Inn s c M) : Agr fr fr' L := fun s c hi => h s c (hs s c hi)
theorem Agr.left {fr fr' : Fr} {L M : List Loc} (h : Agr fr fr' (L ++ M)) : Agr fr fr' L := h.sub fun _ _ => Inn.left
theorem Agr.right {fr fr' : Fr} {L M : List Loc} (h : Agr fr fr' (L ++ M)) : Agr fr fr' M := h.sub fun _ _ => Inn.right
theorem Agr.tail {fr fr' : Fr} {l : Loc} {M : List Loc} (h : Agr fr fr' (l :: M)) : Agr fr fr' M := h.sub fun _ _ => Inn.cons
theorem Agr.shape {fr fr' : Fr} {s : Nat} {L : List Loc} (h : Agr fr fr' L) (hm : Loc.shape s ∈ L) : Rv.shape (fr s) = Rv.shape (fr' s) := h s 0 ⟨_, hm, rfl, rfl⟩
theorem Agr.whole {fr fr' : Fr} {s : Nat} {L : List Loc} (h : Agr fr fr' L) (hm : Loc.whole s ∈ L) : fr s = fr' s := pv_ext fun c => h s c ⟨_, hm, rfl⟩
theorem shapes_mem {xs : List Operand} {t : Nat} (h : Operand.tmp t ∈ xs) : Loc.shape t ∈ shapes xs := by
  induction xs with
  | nil => cases h
  | cons x xs ih =>
    cases h with
    | head => exact List.mem_cons_self
    | tail _ h =>
      cases x with
      | tmp u => exact List.mem_cons_of_mem _ (ih h)
      | _ => exact ih h
theorem Agr.opd {fr fr' : Fr} {xs : List Operand} (h : Agr fr fr' (shapes xs)) {x : Operand} (hx : x ∈ xs) : opd fr' x = opd fr x := by
  cases x with
  | tmp t =>
    simp only [Rv.opd]
    exact (viewS_shape (h.shape (shapes_mem hx))).symm
  | _ => rfl
/-- what a step does depends on L alone, and shows at W alone -/
structure Like (F : Option Fr) (fr' fr1 : Fr) (W : List Loc) : Prop where
  ex : ∃ fr1', F = some fr1' ∧ (∀ s c, Inn s c W → pv (fr1 s) c = pv (fr1' s) c) ∧ ∀ s c, ¬ Inn s c W → pv (fr1' s) c = pv (fr' s) c
section
variable {X : Env} {E : FuncId → Option Fn} {fr fr' fr1 : Fr} {o : Oper}
theorem upd_like {d : Nat} {v : SV} {W : List Loc} (hW : Loc.whole d ∈ W) (hs : ∀ s c, Inn s c W → s = d) : Like (some (upd fr' d v)) fr' (upd fr d v) W := by
  refine ⟨_, rfl, fun s c hi => ?_, fun s c hi => ?_⟩
  · have := hs s c hi
    subst this
    rw [upd_same, upd_same]
  · have : s ≠ d := fun e => hi (e ▸ ⟨_, hW, rfl⟩)
    rw [upd_ne _ _ _ this]
theorem fin_like {d : Option Nat} {v : SV} (h : fin X fr d v some = some fr1) (ha : Agr fr fr' (dstR d)) : Like (fin X fr' d v some) fr' fr1 (dstW d) := by
  cases d with
  | none =>
    cases h
    exact ⟨_, rfl, fun s c hi => hi.nil.elim, fun s c _ => rfl⟩
  | some d =>
    have hsh := ha.shape (s := d) List.mem_cons_self
    have hb : notBox (fr' d) = notBox (fr d) := by
      cases h1 : fr d <;> cases h2 : fr' d <;> rw [h1, h2] at hsh <;> simp_all [Rv.shape, notBox]
    simp only [fin, setD] at h ⊢
    rw [hb]
    cases hc : (d.blt X.n && (notBox (fr d) && !X.keep.contains d))
    · rw [hc] at h; cases h
    · rw [hc] at h
      cases h
      exact upd_like List.mem_cons_self (fun s c hi => by
        rcases hi.uncons with h | h
        · exact h
        · exact h.nil.elim)
def finv (X : Env) (d : Option Nat) (v : Option SV) (fr : Fr) : Option Fr := match v with
  | some v => fin X fr d v some
  | none => none
theorem finv_like {d : Option Nat} {A B : Option Fr} (hv : ∃ v, A = finv X d v fr ∧ B = finv X d v fr') (h : A = some fr1) (ha : Agr fr fr' (dstR d)) : Like B fr' fr1 (dstW d) := by
  obtain ⟨v, rfl, rfl⟩ := hv
  cases v with
  | none => cases h
  | some v => exact fin_like h ha
theorem arith_v {op : BinOp} {k : IntKind} {a b : Int} (J J' : CV → Option Fr) : ∃ c : Option CV, arith op k a b J = c.bind J ∧ arith op k a b J' = c.bind J' := by
  unfold arith
  cases op <;> first | exact ⟨none, rfl, rfl⟩ | exact ⟨some _, rfl, rfl⟩ | (simp only; split <;> first | exact ⟨none, rfl, rfl⟩ | exact ⟨some _, rfl, rfl⟩)
theorem bif_v {b : Bool} {x y : Option Fr} {J J' : CV → Option Fr} (h : ∃ c : Option CV, x = c.bind J ∧ y = c.bind J') : ∃ c : Option CV, (bif b then x else none) = c.bind J ∧ (bif b then y else none) = c.bind J' := by
  cases b
  · exact ⟨none, rfl, rfl⟩
  · exact h
theorem binop_v {isB isS : Bool} {op : BinOp} {x y : CV} (J J' : CV → Option Fr) : ∃ c : Option CV, binop isB isS op x y J = c.bind J ∧ binop isB isS op x y J' = c.bind J' := by
  unfold binop
  split
  · split
    · exact arith_v J J'
    · exact ⟨none, rfl, rfl⟩
  · exact bif_v (by cases op <;> first | exact ⟨none, rfl, rfl⟩ | exact ⟨some _, rfl, rfl⟩)
  · exact bif_v (by cases op <;> first | exact ⟨none, rfl, rfl⟩ | (simp only; split <;> first | exact ⟨none, rfl, rfl⟩ | exact ⟨some _, rfl, rfl⟩))
  · exact ⟨none, rfl, rfl⟩
theorem index_v {u : Option Ty} {c : CV} {i : Int} (J J' : CV → Option Fr) : ∃ e : Option CV, indexAddr u c i J = e.bind J ∧ indexAddr u c i J' = e.bind J' := by
  unfold indexAddr
  split <;> first | exact ⟨none, rfl, rfl⟩ | exact bif_v (by split <;> first | exact ⟨none, rfl, rfl⟩ | (split <;> first | exact ⟨none, rfl, rfl⟩ | exact ⟨some _, rfl, rfl⟩))
theorem cv_v {d : Option Nat} {A B : Option Fr} (h : ∃ c : Option CV, A = c.bind (fun c => fin X fr d (.comp false [c]) some) ∧ B = c.bind (fun c => fin X fr' d (.comp false [c]) some)) : ∃ v, A = finv X d v fr ∧ B = finv X d v fr' := by
  obtain ⟨c, rfl, rfl⟩ := h
  cases c with
  | none => exact ⟨none, rfl, rfl⟩
  | some c => exact ⟨some _, rfl, rfl⟩
theorem bif_f {d : Option Nat} {b : Bool} {x y : Option Fr} (h : ∃ v, x = finv X d v fr ∧ y = finv X d v fr') : ∃ v, (bif b then x else none) = finv X d v fr ∧ (bif b then y else none) = finv X d v fr' := by
  cases b
  · exact ⟨none, rfl, rfl⟩
  · exact h
theorem rowParts_eq {t : Ty} : ∀ (ps : List (Nat × Operand)) (k : Nat), (∀ x ∈ ps.map (fun p => p.2), opd fr' x = opd fr x) → rowParts fr' t k ps = rowParts fr t k ps
  | [], k, h => rfl
  | (i, x) :: r, k, h => by
    simp only [rowParts]
    rw [h x (by simp), rowParts_eq r (k + 1) (fun y hy => h y (List.mem_cons_of_mem _ hy))]
theorem pure_like {xs : List Operand} (hp : ∃ v, stepOp X E o fr some = finv X o.dst v fr ∧ stepOp X E o fr' some = finv X o.dst v fr') (h : stepOp X E o fr some = some fr1) (ha : Agr fr fr' (shapes xs ++ dstR o.dst)) : Like (stepOp X E o fr' some) fr' fr1 (dstW o.dst) := finv_like hp h ha.right
theorem pick_v {c x y : Operand} (ho : o.op = .pick c x y) (hx : ∀ z ∈ [c, x, y], opd fr' z = opd fr z) : ∃ v, stepOp X E o fr some = finv X o.dst v fr ∧ stepOp X E o fr' some = finv X o.dst v fr' := by
  unfold stepOp; rw [ho]; simp only [opc, hx c (by simp), hx x (by simp), hx y (by simp)]; (repeat' first | exact ⟨some _, rfl, rfl⟩ | exact ⟨none, rfl, rfl⟩ | refine bif_f ?_ | exact cv_v (binop_v _ _) | exact cv_v (index_v _ _) | split)
theorem bin_v {op : BinOp} {t ty : TypeId} {x y : Operand} (ho : o.op = .binOp op t x y ty) (hx : ∀ z ∈ [x, y], opd fr' z = opd fr z) : ∃ v, stepOp X E o fr some = finv X o.dst v fr ∧ stepOp X E o fr' some = finv X o.dst v fr' := by
  unfold stepOp; rw [ho]; simp only [opc, hx x (by simp), hx y (by simp)]; (repeat' first | exact ⟨some _, rfl, rfl⟩ | exact ⟨none, rfl, rfl⟩ | refine bif_f ?_ | exact cv_v (binop_v _ _) | exact cv_v (index_v _ _) | split)
theorem un_v {op : UnOp} {t : TypeId} {x : Operand} (ho : o.op = .unOp op t x) (hx : ∀ z ∈ [x], opd fr' z = opd fr z) : ∃ v, stepOp X E o fr some = finv X o.dst v fr ∧ stepOp X E o fr' some = finv X o.dst v fr' := by
  unfold stepOp; rw [ho]; simp only [opc, hx x (by simp)]; (repeat' first | exact ⟨some _, rfl, rfl⟩ | exact ⟨none, rfl, rfl⟩ | refine bif_f ?_ | exact cv_v (binop_v _ _) | exact cv_v (index_v _ _) | split)
theorem convert_v {s t : TypeId} {x : Operand} (ho : o.op = .convert s t x) (hx : ∀ z ∈ [x], opd fr' z = opd fr z) : ∃ v, stepOp X E o fr some = finv X o.dst v fr ∧ stepOp X E o fr' some = finv X o.dst v fr' := by
  unfold stepOp; rw [ho]; simp only [opc, hx x (by simp)]; (repeat' first | exact ⟨some _, rfl, rfl⟩ | exact ⟨none, rfl, rfl⟩ | refine bif_f ?_ | exact cv_v (binop_v _ _) | exact cv_v (index_v _ _) | split)
theorem nil_v {x : Operand} (ho : o.op = .nilCheck x) (hx : ∀ z ∈ [x], opd fr' z = opd fr z) : ∃ v, stepOp X E o fr some = finv X o.dst v fr ∧ stepOp X E o fr' some = finv X o.dst v fr' := by
  unfold stepOp; rw [ho]; simp only [opc, hx x (by simp)]; (repeat' first | exact ⟨some _, rfl, rfl⟩ | exact ⟨none, rfl, rfl⟩ | refine bif_f ?_ | exact cv_v (binop_v _ _) | exact cv_v (index_v _ _) | split)
theorem fieldAddr_v {t : TypeId} {x : Operand} {f : Nat} (ho : o.op = .fieldAddr t x f) (hx : ∀ z ∈ [x], opd fr' z = opd fr z) : ∃ v, stepOp X E o fr some = finv X o.dst v fr ∧ stepOp X E o fr' some = finv X o.dst v fr' := by
  unfold stepOp; rw [ho]; simp only [opc, hx x (by simp)]; (repeat' first | exact ⟨some _, rfl, rfl⟩ | exact ⟨none, rfl, rfl⟩ | refine bif_f ?_ | exact cv_v (binop_v _ _) | exact cv_v (index_v _ _) | split)
theorem field_v {t : TypeId} {x : Operand} {f : Nat} (ho : o.op = .field t x f) (hx : ∀ z ∈ [x], opd fr' z = opd fr z) : ∃ v, stepOp X E o fr some = finv X o.dst v fr ∧ stepOp X E o fr' some = finv X o.dst v fr' := by
  unfold stepOp; rw [ho]; simp only [opc, hx x (by simp)]; (repeat' first | exact ⟨some _, rfl, rfl⟩ | exact ⟨none, rfl, rfl⟩ | refine bif_f ?_ | exact cv_v (binop_v _ _) | exact cv_v (index_v _ _) | split)
theorem index2_v {t : TypeId} {x y : Operand} (ho : o.op = .indexAddr t x y) (hx : ∀ z ∈ [x, y], opd fr' z = opd fr z) : ∃ v, stepOp X E o fr some = finv X o.dst v fr ∧ stepOp X E o fr' some = finv X o.dst v fr' := by
  unfold stepOp; rw [ho]; simp only [opc, hx x (by simp), hx y (by simp)]; (repeat' first | exact ⟨some _, rfl, rfl⟩ | exact ⟨none, rfl, rfl⟩ | refine bif_f ?_ | exact cv_v (binop_v _ _) | exact cv_v (index_v _ _) | split)
theorem makeSlice_v {t : TypeId} {x y : Operand} (ho : o.op = .makeSlice t x y) (hx : ∀ z ∈ [x, y], opd fr' z = opd fr z) : ∃ v, stepOp X E o fr some = finv X o.dst v fr ∧ stepOp X E o fr' some = finv X o.dst v fr' := by
  unfold stepOp; rw [ho]; simp only [opc, hx x (by simp), hx y (by simp)]; (repeat' first | exact ⟨some _, rfl, rfl⟩ | exact ⟨none, rfl, rfl⟩ | refine bif_f ?_ | exact cv_v (binop_v _ _) | exact cv_v (index_v _ _) | split)
theorem slice_v {t : TypeId} {x l : Operand} (ho : o.op = .slice t x (some l) none none) (hx : ∀ z ∈ [x, l], opd fr' z = opd fr z) : ∃ v, stepOp X E o fr some = finv X o.dst v fr ∧ stepOp X E o fr' some = finv X o.dst v fr' := by
  unfold stepOp; rw [ho]; simp only [opc, hx x (by simp)]; cases one (opd fr x) <;> simp only [hx l (by simp)] <;> (repeat' first | exact ⟨some _, rfl, rfl⟩ | exact ⟨none, rfl, rfl⟩ | refine bif_f ?_ | exact cv_v (binop_v _ _) | exact cv_v (index_v _ _) | split)
theorem cutS_v {u : Option Ty} {c : CV} {l h : Int} {d : Option Nat} : ∃ v, cutS u c l h (fun c => fin X fr d (.comp false [c]) some) = finv X d v fr ∧ cutS u c l h (fun c => fin X fr' d (.comp false [c]) some) = finv X d v fr' := by
  unfold cutS
  cases c <;> (try simp only) <;> (repeat' first | exact ⟨some _, rfl, rfl⟩ | exact ⟨none, rfl, rfl⟩ | refine bif_f ?_ | split)
theorem slice2_v {t : TypeId} {x h : Operand} {lo : Option Operand} (ho : o.op = .slice t x lo (some h) none) (hx : ∀ z ∈ x :: h :: lo.toList, opd fr' z = opd fr z) : ∃ v, stepOp X E o fr some = finv X o.dst v fr ∧ stepOp X E o fr' some = finv X o.dst v fr' := by
  have hl : lowB fr' lo = lowB fr lo := by
    cases lo with
    | none => rfl
    | some y => simp only [lowB, opc, hx y (by simp)]
  unfold stepOp; rw [ho]; simp only [opc, hx x (by simp), hx h (by simp), hl]
  cases one (opd fr x) <;> (cases lowB fr lo <;> first | exact ⟨none, rfl, rfl⟩ | (cases one (opd fr h) <;> first | exact ⟨none, rfl, rfl⟩ | exact cutS_v))
theorem buildSlice_v {t : TypeId} {n : Nat} {ps : Array (Nat × Operand)} (ho : o.op = .buildSlice t n ps) (hx : ∀ z ∈ ps.toList.map (fun p => p.2), opd fr' z = opd fr z) : ∃ v, stepOp X E o fr some = finv X o.dst v fr ∧ stepOp X E o fr' some = finv X o.dst v fr' := by
  unfold stepOp; rw [ho]; simp only [rowParts_eq ps.toList _ hx]; (repeat' first | exact ⟨some _, rfl, rfl⟩ | exact ⟨none, rfl, rfl⟩ | refine bif_f ?_ | exact cv_v (binop_v _ _) | exact cv_v (index_v _ _) | split)
theorem alloc_v {t : TypeId} (ho : o.op = .alloc t) : ∃ v, stepOp X E o fr some = finv X o.dst v fr ∧ stepOp X E o fr' some = finv X o.dst v fr' := by
  unfold stepOp; rw [ho]; simp only
  cases X.ti t with
  | none => exact ⟨none, rfl, rfl⟩
  | some i => cases hd : o.dst with
    | none => exact ⟨none, rfl, rfl⟩
    | some d => exact ⟨some _, rfl, rfl⟩
theorem box_v {t : TypeId} {x : Operand} (ho : o.op = .box t x) (hx : ∀ z ∈ [x], opd fr' z = opd fr z) : ∃ v, stepOp X E o fr some = finv X o.dst v fr ∧ stepOp X E o fr' some = finv X o.dst v fr' := by
  unfold stepOp; rw [ho]; simp only [hx x (by simp)]
  cases hd : o.dst with
  | none => exact ⟨none, rfl, rfl⟩
  | some d =>
    simp only
    (repeat' first | exact ⟨some _, rfl, rfl⟩ | exact ⟨none, rfl, rfl⟩ | refine bif_f ?_ | exact cv_v (binop_v _ _) | exact cv_v (index_v _ _) | split)
theorem makeFunc_v {f} {first caps : Array Operand} (ho : o.op = .makeFunc f first caps) (hx : ∀ z ∈ caps.toList, opd fr' z = opd fr z) : ∃ v, stepOp X E o fr some = finv X o.dst v fr ∧ stepOp X E o fr' some = finv X o.dst v fr' := by
  have h1 : caps.toList.map (opc fr') = caps.toList.map (opc fr) := List.map_congr_left fun x hm => by simp only [opc, hx x hm]
  have h2 : (caps.toList.all fun x => capOk (opc fr' x)) = caps.toList.all fun x => capOk (opc fr x) := by
    rw [Bool.eq_iff_iff]
    simp only [List.all_eq_true]
    exact forall_congr' fun x => forall_congr' fun hm => by simp only [opc, hx x hm]
  unfold stepOp; rw [ho]
  cases f <;> simp only [h1, h2] <;> (repeat' first | exact ⟨some _, rfl, rfl⟩ | exact ⟨none, rfl, rfl⟩ | refine bif_f ?_ | exact cv_v (binop_v _ _) | exact cv_v (index_v _ _) | split)
theorem minmax_v {c : Call} (ho : o.op = .call c) (hc : c.callee = .builtin .len ∨ c.callee = .builtin .min ∨ c.callee = .builtin .max) (hx : ∀ z ∈ c.args.toList, opd fr' z = opd fr z) : ∃ v, stepOp X E o fr some = finv X o.dst v fr ∧ stepOp X E o fr' some = finv X o.dst v fr' := by
  unfold stepOp; rw [ho]; simp only
  generalize c.args.toList = xs at hx ⊢
  rcases hc with hc | hc | hc <;> rw [hc] <;> simp only
  · split
    · rename_i t x _ 
      simp only [opc, hx x (by simp)]; (repeat' first | exact ⟨some _, rfl, rfl⟩ | exact ⟨none, rfl, rfl⟩ | refine bif_f ?_ | exact cv_v (binop_v _ _) | exact cv_v (index_v _ _) | split)
    · exact ⟨none, rfl, rfl⟩
  · split
    · rename_i x y
      simp only [opc, hx x (by simp), hx y (by simp)]; (repeat' first | exact ⟨some _, rfl, rfl⟩ | exact ⟨none, rfl, rfl⟩ | refine bif_f ?_ | exact cv_v (binop_v _ _) | exact cv_v (index_v _ _) | split)
    · exact ⟨none, rfl, rfl⟩
  · split
    · rename_i x y
      simp only [opc, hx x (by simp), hx y (by simp)]; (repeat' first | exact ⟨some _, rfl, rfl⟩ | exact ⟨none, rfl, rfl⟩ | refine bif_f ?_ | exact cv_v (binop_v _ _) | exact cv_v (index_v _ _) | split)
    · exact ⟨none, rfl, rfl⟩
end
end Go.Rv

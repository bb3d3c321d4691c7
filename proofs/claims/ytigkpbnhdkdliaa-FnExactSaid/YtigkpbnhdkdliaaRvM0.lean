/- A verified evaluator of the form: texts Def, Rel, Map, Chg, Set, Tab, MapK, Ops, Read, Mem, Take. -/
import Derived.Calls
import Derived.IntWalk
import Derived.KernelRfl
import Derived.Below
import Derived.Laws.AppendOwn
import Derived.Deep.MidRow
import Derived.Laws.OwnMore
import Derived.Laws.MakeOwn
import Derived.Laws.Small
import Derived.Laws.StructEq
import Derived.Maps.RangeRun
import Derived.Maps.Keyed
import Derived.DeepKeys4
set_option linter.unusedSimpArgs false
set_option linter.unusedVariables false
namespace Go.Rv
inductive Ty where
  | int (k : IntKind) | bool | str | pair (a b : Ty) | sl (t : Ty)
  deriving DecidableEq
@[reducible] def Den : Ty → Type
  | .int _ => Int | .bool => Bool | .str => ByteArray | .pair a b => Den a × Den b | .sl t => List (Den t)
def Ty.cells : Ty → Nat
  | .pair a b => a.cells + b.cells | _ => 1
def Ty.zero : (t : Ty) → Den t
  | .int _ => (0 : Int) | .bool => false | .str => ByteArray.empty | .pair a b => (a.zero, b.zero) | .sl _ => []
def Ty.flat : Ty → Bool
  | .sl _ => false | .pair a b => a.flat && b.flat | _ => true
inductive CV where
  | dead | undef
  | int (k : IntKind) (n : Int) | bool (b : Bool) | str (s : ByteArray)
  | nils
  | lo (t : Ty) (xs : List (Den t)) | hi (t : Ty) (xs : List (Den t))
  | own (t : Ty) (xs : List (Den t)) | tmpo (t : Ty) (xs : List (Den t))
  | ref (s c : Nat) (t : Ty) (xs : List (Den t))
  | ptr (s c : Nat)
  | rptr (cs : List CV) | hptr (cs : List CV)
  | eptr (s c : Nat) (t : Ty) (i : Int) (k : Nat) (cs : List CV)
  | fn (f : FuncId) (caps : List CV)
  | mbox (cs : List CV)
  | mptr (s : Nat)
  | mmap (k v : Ty) (xs : List (Den k × Den v))
inductive SV where
  | comp (g : Bool) (cs : List CV)
  | tup (vs : List (Bool × List CV))
  | box (cs : List CV)
  | mapb (k v : Ty) (xs : List (Den k × Den v)) (it : Option (Option (Den k × Den v)))
abbrev Fr := Nat → SV
abbrev Comp := Bool × List CV
def SV.dead : SV := .comp false [.dead]
def upd (fr : Fr) (i : Nat) (v : SV) : Fr := fun j => bif j.beq i then v else fr j
def unpack (old : Bool) : (t : Ty) → Den t → List CV
  | .int k, n => [.int k n] | .bool, b => [.bool b] | .str, s => [.str s]
  | .pair a b, x => unpack old a x.1 ++ unpack old b x.2
  | .sl t, xs => [bif old then .lo t xs else .hi t xs]
def listAs (t : Ty) : CV → Option (List (Den t))
  | .nils => some []
  | .lo u xs | .hi u xs | .own u xs | .tmpo u xs | .ref _ _ u xs => if h : u = t then some (h ▸ xs) else none
  | _ => none
def pack : (t : Ty) → List CV → Option (Den t × List CV)
  | .int k, .int j n :: r => if j = k then some (n, r) else none
  | .bool, .bool b :: r => some (b, r)
  | .str, .str s :: r => some (s, r)
  | .pair a b, cs => match pack a cs with
    | some (x, r) => match pack b r with
      | some (y, r') => some ((x, y), r')
      | none => none
    | none => none
  | .sl t, c :: r => match listAs t c with
    | some xs => some (xs, r)
    | none => none
  | _, _ => none
def zeroCV : Ty → List CV
  | .int k => [.int k 0] | .bool => [.bool false] | .str => [.str ByteArray.empty]
  | .pair a b => zeroCV a ++ zeroCV b
  | .sl _ => [.nils]
open Classical in
noncomputable def mget {K V : Type} (x : K) : List (K × V) → Option V
  | [] => none
  | p :: r => if p.1 = x then some p.2 else mget x r
open Classical in
noncomputable def mput {K V : Type} (x : K) (y : V) : List (K × V) → List (K × V)
  | [] => [(x, y)]
  | p :: r => if p.1 = x then (x, y) :: r else p :: mput x y r
def kflat : Ty → Bool
  | .pair a b => kflat a && kflat b
  | .sl _ => false
  | _ => true
def kwf : (t : Ty) → Den t → Bool
  | .int k, n => decide (k.min ≤ n) && decide (n ≤ k.max)
  | .bool, _ => true
  | .str, s => decide (s.size ≤ maxLen)
  | .pair a b, x => kwf a x.1 && kwf b x.2
  | .sl _, _ => false
def isPairT : Ty → Bool
  | .pair _ _ => true
  | _ => false
structure TI where
  ty : Ty
  agg : Bool := false
  offs : List (Nat × Nat × Bool) := []
  eq : Bool := false
  fn : Bool := false
structure Env where
  n : Nat
  keep : List Nat
  tab : List (Nat × TI)
  dr : Bool := false
  tk : Bool := false
  ro : List Nat := []
  mp : List (TypeId × Ty × Ty) := []
def Env.ti (X : Env) (t : TypeId) : Option TI := X.tab.lookup t
def Env.sl (X : Env) (t : TypeId) : Option Ty := match X.ti t with
  | some i => bif i.agg || i.fn then none else match i.ty with | .sl u => some u | _ => none
  | none => none
def Env.slf (X : Env) (t : TypeId) : Option Ty := match X.sl t with
  | some u => bif u.flat then some u else none
  | none => none
theorem Env.slf_some {X : Env} {t : TypeId} {u : Ty} (h : X.slf t = some u) : X.sl t = some u ∧ u.flat = true := by
  unfold Env.slf at h
  cases hs : X.sl t with
  | none => rw [hs] at h; cases h
  | some v =>
    rw [hs] at h
    cases hf : v.flat
    · simp [hf] at h
    · simp [hf] at h; subst h; exact ⟨rfl, hf⟩
def Env.boolT (X : Env) (t : TypeId) : Bool := match X.ti t with
  | some i => bif i.agg || i.fn then false else match i.ty with | .bool => true | _ => false
  | none => false
def Env.strT (X : Env) (t : TypeId) : Bool := match X.ti t with
  | some i => bif i.agg || i.fn then false else match i.ty with | .str => true | _ => false
  | none => false
def Env.intK (X : Env) (t : TypeId) : Option IntKind := match X.ti t with
  | some i => bif i.agg || i.fn then none else match i.ty with | .int k => some k | _ => none
  | none => none
structure Fn where
  run : {R : Type} → List Comp → (List Comp → Option R) → Option R
  muts : List Nat
  box : Bool := false
  hand : List (Nat × Bool) := []
  nat : ∀ {R : Type} (args : List Comp) (K : List Comp → Option R), run args K = (run args some).bind K
def view1 (s : Nat) : Nat → List CV → List CV
  | _, [] => []
  | c, .own t xs :: r => .ref s c t xs :: view1 s (c + 1) r
  | c, .tmpo t xs :: r => .hi t xs :: view1 s (c + 1) r
  | c, x :: r => x :: view1 s (c + 1) r
def constCV : Value → CV
  | .int k n => .int k n | .bool b => .bool b | .string s => .str s | .slice none 0 0 => .nils | _ => .dead
def notDead : CV → Bool
  | .dead => false
  | _ => true
def constC : Value → Comp
  | .agg cs => bif cs.toList.all (fun v => notDead (constCV v)) then (true, cs.toList.map constCV) else (false, [.dead])
  | v => (false, [constCV v])
def viewS (s : Nat) : SV → Comp
  | .comp g cs => (g, view1 s 1 cs)
  | .box _ => (false, [.ptr s 0])
  | .mapb _ _ _ none => (false, [.mptr s])
  | .mapb _ _ _ (some _) => (false, [.dead])
  | .tup _ => (false, [.dead])
def opd (fr : Fr) : Operand → Comp
  | .tmp t => viewS t (fr t)
  | .const v => constC v
  | .global _ => (false, [.dead])
  | .func f => (false, [.fn f []])
def one : Comp → CV
  | (false, [c]) => c
  | _ => .dead
def opc (fr : Fr) (x : Operand) : CV := one (opd fr x)
def cellAt (fr : Fr) (s c : Nat) : CV := match fr s with
  | .comp _ cs | .box cs => match c with | 0 => .dead | c + 1 => cs.getD c .dead
  | .tup _ | .mapb _ _ _ _ => .dead
def setCellAt (fr : Fr) (s c : Nat) (v : CV) : Fr := match fr s with
  | .comp g cs => match c with | 0 => fr | c + 1 => upd fr s (.comp g (cs.set c v))
  | .box cs => match c with | 0 => fr | c + 1 => upd fr s (.box (cs.set c v))
  | .tup _ | .mapb _ _ _ _ => fr
def takeAt (fr : Fr) (s c : Nat) : CV × Fr := match cellAt fr s c with
  | .own t xs | .tmpo t xs => (.tmpo t xs, setCellAt fr s c (.hi t xs))
  | .ref s' c' t xs => match cellAt fr s' c' with
    | .own u ys => (.tmpo u ys, setCellAt fr s' c' (.hi u ys))
    | _ => (.hi t xs, fr)
  | x => (x, fr)
def takeSlot (fr : Fr) (s : Nat) : Nat → Nat → List CV × Fr
  | 0, _ => ([], fr)
  | n + 1, c => match takeAt fr s c with
    | (y, fr1) => match takeSlot fr1 s n (c + 1) with
      | (ys, fr2) => (y :: ys, fr2)
def takeOpd (fr : Fr) (x : Operand) : Comp × Fr := match x with
  | .tmp t => match fr t with
    | .comp g cs => match takeSlot fr t cs.length 1 with
      | (ws, fr1) => ((g, ws), fr1)
    | _ => (opd fr x, fr)
  | _ => (opd fr x, fr)
def dem1 (s : Nat) : CV → CV
  | .ref s' c t xs => bif s'.beq s then .hi t xs else .ref s' c t xs
  | .eptr s' c t i k cs => bif s'.beq s then .hptr cs else .eptr s' c t i k cs
  | .fn f caps => .fn f (caps.map fun | .eptr s' c t i k cs => bif s'.beq s then .hptr cs else .eptr s' c t i k cs | x => x)
  | x => x
def demS (s : Nat) : SV → SV
  | .comp g cs => .comp g (cs.map (dem1 s))
  | .box cs => .box (cs.map (dem1 s))
  | .tup vs => .tup (vs.map fun p => (p.1, p.2.map (dem1 s)))
  | .mapb k v xs it => .mapb k v xs it
def dem (s : Nat) (fr : Fr) : Fr := fun j => demS s (fr j)
def toOwn : CV → CV
  | .tmpo t xs => .own t xs
  | x => x
def notBox : SV → Bool | .box _ | .mapb _ _ _ none => false | _ => true
def setD (X : Env) (fr : Fr) (d : Nat) (v : SV) : Option Fr :=
  bif d.blt X.n && (notBox (fr d) && !X.keep.contains d) then some (upd fr d v) else none
def fin {R : Type} (X : Env) (fr : Fr) (d : Option Nat) (v : SV) (K : Fr → Option R) : Option R :=
  match d with
  | none => K fr
  | some d => match setD X fr d v with
    | some fr1 => K fr1
    | none => none
noncomputable def wrap64 (n : Int) : Int := Classical.choose (⟨RowKit.wrap64 n, rfl⟩ : ∃ m, m = RowKit.wrap64 n)
theorem wrap64_eq (n : Int) : wrap64 n = RowKit.wrap64 n := Classical.choose_spec (⟨RowKit.wrap64 n, rfl⟩ : ∃ m, m = RowKit.wrap64 n)
noncomputable def wr (k : IntKind) (n : Int) : Int := match k with | .i64 => wrap64 n | k => k.wrap n
noncomputable def arith {R : Type} (op : BinOp) (k : IntKind) (a b : Int) (K : CV → Option R) : Option R :=
  match op with
  | .add => K (.int k (wr k (a + b))) | .sub => K (.int k (wr k (a - b))) | .mul => K (.int k (wr k (a * b)))
  | .quo => if b = 0 then none else K (.int k (wr k (a.tdiv b)))
  | .rem => if b = 0 then none else K (.int k (a.tmod b))
  | .shr => if b < 0 then none else K (.int k (a.fdiv (2 ^ min b.toNat k.bits)))
  | .shl => if b < 0 then none else K (.int k (wr k (a * 2 ^ min b.toNat k.bits)))
  | .and => K (.int k (k.wrap ((BitVec.ofInt k.bits a &&& BitVec.ofInt k.bits b).toNat : Int)))
  | .or => K (.int k (k.wrap ((BitVec.ofInt k.bits a ||| BitVec.ofInt k.bits b).toNat : Int)))
  | .xor => K (.int k (k.wrap ((BitVec.ofInt k.bits a ^^^ BitVec.ofInt k.bits b).toNat : Int)))
  | .eql => K (.bool (decide (a = b))) | .neq => K (.bool (!decide (a = b)))
  | .lss => K (.bool (decide (a < b))) | .leq => K (.bool (decide (a ≤ b)))
  | .gtr => K (.bool (decide (b < a))) | .geq => K (.bool (decide (b ≤ a)))
  | _ => none
def eqCells : List CV → List CV → Option Bool
  | [], [] => some true
  | .int j a :: r, .int k b :: s => if j = k then match eqCells r s with
      | some q => some (decide (a = b) && q)
      | none => none
    else none
  | _, _ => none
noncomputable def binop {R : Type} (isB isS : Bool) (op : BinOp) (x y : CV) (K : CV → Option R) : Option R :=
  match x, y with
  | .int j a, .int k b => if j = k then arith op j a b K else none
  | .bool a, .bool b => bif isB then match op with
      | .eql => K (.bool (a == b)) | .neq => K (.bool (!(a == b))) | _ => none
    else none
  | .lo _ xs, .nils => bif isS then match op with
      | .eql => if 0 < xs.length then K (.bool false) else none | .neq => if 0 < xs.length then K (.bool true) else none | _ => none
    else none
  | _, _ => none
def lenOf (st sl : Bool) : CV → Option Int
  | .nils => bif sl then some 0 else none
  | .lo _ xs | .hi _ xs | .ref _ _ _ xs => bif sl then some (xs.length : Int) else none
  | .str s => bif st then some (s.size : Int) else none
  | _ => none
def rd {α : Type} (d : α) (xs : List α) (i : Int) : α := xs.getD i.toNat d
def lim (t : Ty) : Nat := 1099511627776 / t.cells
def indexAddr {R : Type} (u : Option Ty) (c : CV) (i : Int) (K : CV → Option R) : Option R :=
  match c with
  | .lo t xs => bif decide (u = some t) then (if 0 ≤ i then if i < (xs.length : Int) then K (.rptr (unpack true t (rd t.zero xs i))) else none else none) else none
  | .hi t xs => bif decide (u = some t) then (if 0 ≤ i then if i < (xs.length : Int) then K (.hptr (unpack false t (rd t.zero xs i))) else none else none) else none
  | .ref s c t xs => bif decide (u = some t) then (if 0 ≤ i then if i < (xs.length : Int) then K (.eptr s c t i 0 (unpack false t (rd t.zero xs i))) else none else none) else none
  | _ => none
def fieldAddr (c : CV) (off : Nat) : Option CV :=
  match c with
  | .ptr s c => some (.ptr s (c + off))
  | .rptr cs => some (.rptr (cs.drop off)) | .hptr cs => some (.hptr (cs.drop off))
  | .eptr s c t i k cs => some (.eptr s c t i (k + off) (cs.drop off))
  | _ => none
def takeN (n : Nat) (cs : List CV) : Option (List CV) := bif n.ble cs.length then some (cs.take n) else none
def load (fr : Fr) (c : CV) (n : Nat) : Option (List CV) :=
  match c with
  | .ptr s c => match fr s with
    | .box cs => takeN n ((view1 s 1 cs).drop c)
    | _ => none
  | .rptr cs | .hptr cs | .eptr _ _ _ _ _ cs => takeN n cs
  | _ => none
def fillCells (cs : List CV) (off : Nat) (new : List CV) : Option (List CV) :=
  bif (off + new.length).ble cs.length then some (cs.take off ++ new ++ cs.drop (off + new.length)) else none
def killF : CV → CV
  | .int k n => .int k n | .bool b => .bool b | .str s => .str s | .nils => .nils | .lo t xs => .lo t xs
  | _ => .dead
def killP : CV → CV
  | .ptr s c => .ptr s c
  | .rptr cs => .rptr (cs.map killF)
  | c => killF c
def kill1 : CV → CV
  | .hi _ _ | .ref _ _ _ _ | .hptr _ | .eptr _ _ _ _ _ _ | .mbox _ => .dead
  | .own t xs => .own t xs
  | .tmpo t xs => .tmpo t xs
  | .fn f caps => .fn f (caps.map killP)
  | .rptr cs => .rptr (cs.map killF)
  | x => x
def killS : SV → SV
  | .comp g cs => .comp g (cs.map kill1)
  | .box cs => .box (cs.map kill1)
  | .tup _ => .dead
  | .mapb k v xs none => .mapb k v xs none
  | .mapb _ _ _ (some _) => .dead
def kill (fr : Fr) : Fr := fun j => killS (fr j)
def setElem (t : Ty) (x : Den t) (k : Nat) (new : List CV) : Option (Den t) :=
  match fillCells (unpack false t x) k new with
  | some cs => match pack t cs with
    | some (y, []) => some y
    | _ => none
  | none => none
def isOwn : CV → Bool
  | .own _ _ => true
  | _ => false
def isScalar : CV → Bool
  | .int _ _ | .bool _ | .str _ => true
  | _ => false
def sure : CV → Bool
  | .dead | .undef => false
  | _ => true
def isPlain : CV → Bool
  | .int _ _ | .bool _ | .str _ | .nils | .lo _ _ | .hi _ _ => true
  | _ => false
def store (dr : Bool) (p : CV) (g : Bool) (new : List CV) (fr1 : Fr) : Option Fr :=
  match p with
  | .ptr s c => match fr1 s with
    | .box cs => bif dr then (bif g || new.all sure then match fillCells cs c new with
        | some cs' => some (upd fr1 s (.box cs'))
        | none => none
      else none) else match fillCells cs c (new.map toOwn) with
      | some cs' => bif new.all isPlain then some (upd fr1 s (.box cs')) else bif g || new.all sure then some (upd (dem s fr1) s (demS s (.box cs'))) else none
      | none => none
    | _ => none
  | .eptr s c u i k _ => bif new.all isScalar then match cellAt fr1 s c with
      | .own t xs => bif t.flat && decide (u = t) then match setElem t (rd t.zero xs i) k new with
          | some y => some (setCellAt (kill fr1) s c (.own t (xs.set i.toNat y)))
          | none => none
        else none
      | _ => none
    else none
  | _ => none
def lowB (fr : Fr) : Option Operand → Option Int
  | none => some 0
  | some x => match opc fr x with
    | .int _ n => some n
    | _ => none
def cutS {R : Type} (u' : Option Ty) (c : CV) (l h : Int) (K : CV → Option R) : Option R :=
  match c with
  | .lo u xs => bif decide (u' = some u) then (if 0 ≤ l then if l ≤ h then if h ≤ (xs.length : Int) then K (.lo u ((xs.take h.toNat).drop l.toNat)) else none else none else none) else none
  | .hi u xs | .ref _ _ u xs => bif decide (u' = some u) then (if 0 ≤ l then if l ≤ h then if h ≤ (xs.length : Int) then K (.hi u ((xs.take h.toNat).drop l.toNat)) else none else none else none) else none
  | _ => none
def buildParts (fr : Fr) (offs : List (Nat × Nat × Bool)) (cs : List CV) : List (Nat × Operand) → Option (List CV × Fr)
  | [] => some (cs, fr)
  | (i, x) :: r => match offs[i]?, takeOpd fr x with
    | some (off, n, _), ((b, ws), fr1) => bif ws.length.beq n && (b || ws.all sure) then match fillCells cs off ws with
        | some cs' => buildParts fr1 offs cs' r
        | none => none
      else none
    | none, _ => none
def ownAs (t : Ty) : CV → Option (List (Den t))
  | .nils => some []
  | .own u xs | .tmpo u xs => if h : u = t then some (h ▸ xs) else none
  | _ => none
def packO : (t : Ty) → List CV → Option (Den t × List CV)
  | .int k, .int j n :: r => if j = k then some (n, r) else none
  | .bool, .bool b :: r => some (b, r)
  | .str, .str s :: r => some (s, r)
  | .pair a b, cs => match packO a cs with
    | some (x, r) => match packO b r with
      | some (y, r') => some ((x, y), r')
      | none => none
    | none => none
  | .sl t, c :: r => match ownAs t c with
    | some xs => some (xs, r)
    | none => none
  | _, _ => none
def rowPartsO (t : Ty) : Fr → Nat → List (Nat × Operand) → Option (List (Den t) × Fr)
  | fr, _, [] => some ([], fr)
  | fr, k, (i, x) :: r => bif i.beq k then match takeOpd fr x with
      | ((b, ws), fr1) => bif b || ws.all sure then match packO t ws with
        | some (y, []) => match rowPartsO t fr1 (k + 1) r with
          | some (ys, fr2) => some (y :: ys, fr2)
          | none => none
        | _ => none
      else none
    else none
def rowParts (fr : Fr) (t : Ty) : Nat → List (Nat × Operand) → Option (List (Den t))
  | _, [] => some []
  | k, (i, x) :: r => bif i.beq k then match pack t (opd fr x).2 with
      | some (y, []) => match rowParts fr t (k + 1) r with
        | some ys => some (y :: ys)
        | none => none
      | _ => none
    else none
def flatArg : CV → CV
  | .nils => .nils
  | .lo t xs | .hi t xs | .own t xs | .tmpo t xs | .ref _ _ t xs => .lo t xs
  | .int k n => .int k n | .bool b => .bool b | .str s => .str s
  | _ => .dead
def argP (fr : Fr) : CV → CV
  | .ptr s c => match fr s with
    | .box cs => .rptr ((cs.drop c).map flatArg)
    | _ => .dead
  | .rptr cs | .hptr cs | .eptr _ _ _ _ _ cs => .rptr (cs.map flatArg)
  | x => flatArg x
def argCV (fr : Fr) : CV → CV
  | .fn f caps => .fn f (caps.map (argP fr))
  | x => argP fr x
def capOk : CV → Bool
  | .ptr _ _ | .rptr _ | .hptr _ | .eptr _ _ _ _ _ _ | .int _ _ | .bool _ | .str _ | .nils | .lo _ _ | .hi _ _ => true
  | _ => false
def isOldF : CV → Bool
  | .int _ _ | .bool _ | .str _ | .nils | .lo _ _ | .dead => true
  | _ => false
def isOldC : CV → Bool
  | .int _ _ | .bool _ | .str _ | .nils | .lo _ _ => true
  | .rptr cs => cs.all isOldF
  | .fn _ caps => caps.isEmpty
  | _ => false
def resCV (old : Bool) : CV → CV
  | .lo t xs => bif old then .lo t xs else .hi t xs
  | .own t xs | .tmpo t xs => .tmpo t xs
  | .int k n => .int k n | .bool b => .bool b | .str s => .str s | .nils => .nils | .hi t xs => .hi t xs
  | _ => .dead
def argsOf (fr : Fr) : List Operand → List Comp
  | [] => []
  | x :: r => opd fr x :: argsOf fr r
def mutCells (fr : Fr) : List CV → Option (List CV × List (Option (Nat × Nat)))
  | [] => some ([], [])
  | .ref s c _ _ :: r => match cellAt fr s c, mutCells fr r with
    | .own t xs, some (cs, ps) => some (.own t xs :: cs, some (s, c) :: ps)
    | _, _ => none
  | x :: r => bif isScalar x then (match mutCells fr r with
      | some (cs, ps) => some (x :: cs, none :: ps)
      | none => none) else none
def argsConv (fr : Fr) (muts : List Nat) : Nat → List Comp → Option (List Comp)
  | _, [] => some []
  | i, (g, cs) :: r => match argsConv fr muts (i + 1) r with
    | none => none
    | some l => bif muts.contains i then (match mutCells fr cs with
        | some (cs', _) => some ((g, cs') :: l)
        | none => none)
      else some ((g, cs.map (argCV fr)) :: l)
def placesOf (fr : Fr) (args : List Comp) : List Nat → Option (List (Option (Nat × Nat)))
  | [] => some []
  | j :: r => match args[j]?, placesOf fr args r with
    | some p, some ps => match mutCells fr p.2 with
      | some (_, qs) => some (qs ++ ps)
      | none => none
    | _, _ => none
def othersOld (muts : List Nat) : Nat → List Comp → Bool
  | _, [] => true
  | i, p :: r => (muts.contains i || p.2.all isOldF) && othersOld muts (i + 1) r
def bury (fr : Fr) : List (Option (Nat × Nat)) → Fr
  | [] => fr
  | none :: r => bury fr r
  | some (s, c) :: r => bury (setCellAt fr s c .dead) r
def giveBack (fr : Fr) : List (Option (Nat × Nat)) → List CV → Option Fr
  | [], [] => some fr
  | none :: r, _ :: l => giveBack fr r l
  | some (s, c) :: r, .own t xs :: l => giveBack (setCellAt fr s c (.own t xs)) r l
  | some _ :: r, .dead :: l => giveBack fr r l
  | _, _ => none
def noDup : List (Option (Nat × Nat)) → Bool
  | [] => true
  | none :: r => noDup r
  | some p :: r => !r.contains (some p) && noDup r
def resSV (old : Bool) (res : List Comp) : SV := match res with
  | [(false, [.mbox cs])] => .box (cs.map (resCV old))
  | [(false, [.mmap k v xs])] => .mapb k v xs none
  | [(g, cs)] => .comp g (cs.map (resCV old))
  | vs => .tup (vs.map fun v => (v.1, v.2.map (resCV old)))
def callFn {R : Type} (X : Env) (F : Fn) (fr : Fr) (args : List Comp) (d : Option Nat) (K : Fr → Option R) : Option R :=
  match argsConv fr F.muts 0 args, placesOf fr args F.muts with
  | some l, some ps => bif F.muts.isEmpty || (noDup ps && othersOld F.muts 0 args) then F.run l fun res =>
    bif !res.all (fun c => c.2.length.blt 4096) then none else bif F.muts.isEmpty then fin X fr d (resSV (args.all fun a => a.2.all isOldC) res) K
    else match res.getLast? with
      | some (_, outs) => match giveBack (kill (bury fr ps)) ps outs with
        | some fr1 => fin X fr1 d (resSV false res.dropLast) K
        | none => none
      | none => none
    else none
  | _, _ => none
def boxC : CV → Bool
  | .int _ _ | .bool _ | .str _ | .nils | .lo _ _ | .hi _ _ | .dead => true
  | _ => false
def noPtr : CV → Bool
  | .int _ _ | .bool _ | .str _ | .nils | .lo _ _ | .hi _ _ | .dead | .own _ _ | .tmpo _ _ | .ref _ _ _ _ => true
  | _ => false
def callBox {R : Type} (X : Env) (F : Fn) (fr : Fr) (args : List Comp) (d : Option Nat) (K : Fr → Option R) : Option R :=
  match args with
  | (false, [.ptr s 0]) :: rest => match fr s with
    | .box cs => bif !X.ro.contains s && (cs.all boxC && rest.all (fun p => p.2.all noPtr)) then
        F.run ((false, [.mbox (cs.map flatArg)]) :: rest.map fun p => (p.1, p.2.map flatArg)) fun res =>
          bif !res.all (fun c => c.2.length.blt 4096) then none else match res.getLast? with
          | some (_, [.mbox outs]) => bif outs.length.beq cs.length && outs.all boxC then
              fin X (upd fr s (.box (outs.map (resCV (cs.all isOldF && rest.all fun p => p.2.all isOldF))))) d (resSV (cs.all isOldF && rest.all fun p => p.2.all isOldF) res.dropLast) K else none
          | _ => none
      else none
    | _ => none
  | _ => none
def toC : List (Nat × Nat) → Nat → Option Nat
  | [], _ => none
  | (j, s') :: r, s => bif s'.beq s then some j else toC r s
def toS : List (Nat × Nat) → Nat → Option Nat
  | [], _ => none
  | (j', s) :: r, j => bif j'.beq j then some s else toS r j
def isSome' (k : Nat) : Option Nat → Bool
  | some j => j.beq k
  | none => false
def handOk (hs : List (Nat × Nat)) : Bool := hs.all fun p => isSome' p.1 (toC hs p.2) && isSome' p.2 (toS hs p.1)
def roOf : List (Nat × Bool) → List Nat
  | [] => []
  | (j, b) :: r => bif b then j :: roOf r else roOf r
def wrOf : List (Nat × Bool) → List Nat
  | [] => []
  | (j, b) :: r => bif b then wrOf r else j :: wrOf r
def handSlots (args : List Comp) : List (Nat × Bool) → Option (List (Nat × Nat) × List (Nat × Nat))
  | [] => some ([], [])
  | (j, ro) :: r => match args[j]?, handSlots args r with
    | some (false, [.ptr s 0]), some (ws, rs) => bif ro then some (ws, (j, s) :: rs) else some ((j, s) :: ws, rs)
    | _, _ => none
def flatH : CV → CV
  | .int k n => .int k n | .bool b => .bool b | .str s => .str s | .nils => .nils | .lo t xs => .lo t xs | .hi t xs => .hi t xs
  | _ => .dead
def handC : CV → CV
  | .own t xs => .own t xs | .tmpo t xs => .tmpo t xs | .ref _ _ t xs => .hi t xs
  | c => flatH c
def roP (hs : List (Nat × Nat)) : CV → CV
  | .ptr s c => match toC hs s with
    | some j => .ptr j c
    | none => .dead
  | .rptr cs => .rptr (cs.map flatH)
  | c => flatH c
def roC (hs : List (Nat × Nat)) : CV → CV
  | .fn f caps => .fn f (caps.map (roP hs))
  | .ref _ _ t xs => .hi t xs
  | c => roP hs c
def argH (hs : List (Nat × Nat)) : CV → CV
  | .own t xs | .tmpo t xs => .lo t xs
  | c => roC hs c
def oldP : CV → Bool
  | .ptr _ _ => true
  | .rptr cs => cs.all isOldF
  | c => isOldF c
def oldA : CV → Bool
  | .fn _ caps => caps.all oldP
  | c => oldP c
def oldW : CV → Bool
  | .own _ _ | .tmpo _ _ => true
  | c => isOldF c
def rawOpd (fr : Fr) (x : Operand) : Comp := match x with
  | .tmp t => match fr t with
    | .comp g cs => (g, cs)
    | v => viewS t v
  | x => opd fr x
def rawArgs (fr : Fr) : List Operand → List Comp
  | [] => []
  | x :: r => rawOpd fr x :: rawArgs fr r
def boxCells (fr : Fr) (s : Nat) : List CV := match fr s with
  | .box cs => cs
  | _ => []
def isBoxB (fr : Fr) (s : Nat) : Bool := match fr s with
  | .box _ => true
  | _ => false
def handArg (fr : Fr) (hand : List (Nat × Bool)) (hs : List (Nat × Nat)) (i : Nat) (p : Comp) : Comp := match hand.lookup i with
  | none => (p.1, p.2.map (argH hs))
  | some ro => match p with
    | (false, [.ptr s 0]) => (false, [.mbox ((boxCells fr s).map (bif ro then roC hs else handC))])
    | _ => (false, [.dead])
def handArgs (fr : Fr) (hand : List (Nat × Bool)) (hs : List (Nat × Nat)) : Nat → List Comp → List Comp
  | _, [] => []
  | i, p :: r => handArg fr hand hs i p :: handArgs fr hand hs (i + 1) r
def handOld (fr : Fr) (hand : List (Nat × Bool)) : Nat → List Comp → Bool
  | _, [] => true
  | i, p :: r => (match hand.lookup i with
    | none => p.2.all oldA
    | some ro => match p with
      | (false, [.ptr s 0]) => (boxCells fr s).all (bif ro then oldA else oldW)
      | _ => true) && handOld fr hand (i + 1) r
def outBox (old : Bool) : CV → CV
  | .lo t xs => bif old then .lo t xs else .hi t xs
  | .own t xs => .own t xs | .tmpo t xs => .tmpo t xs
  | .int k n => .int k n | .bool b => .bool b | .str s => .str s | .nils => .nils | .hi t xs => .hi t xs
  | _ => .dead
def putBoxes (old : Bool) : Fr → List (Nat × Nat) → List Comp → Option Fr
  | fr, [], [] => some fr
  | fr, (_, s) :: r, (false, [.mbox cs]) :: l => putBoxes old (upd fr s (.box (cs.map (outBox old)))) r l
  | _, _, _ => none
def noDupN : List Nat → Bool
  | [] => true
  | x :: r => !r.contains x && noDupN r
def handN (hand : List (Nat × Bool)) : List Nat := hand.map fun p => p.1
def loC : CV → CV
  | .hi t xs => .lo t xs
  | c => c
def loArg : Comp → Comp
  | (false, [.mbox cs]) => (false, [.mbox (cs.map loC)])
  | p => p
def isHiC : CV → Bool
  | .hi _ _ => true
  | _ => false
def isNilO : CV → Bool
  | .own _ xs => xs.isEmpty
  | .tmpo _ xs => xs.isEmpty
  | _ => true
def allNew (fr : Fr) (ws : List (Nat × Nat)) : Bool := ws.any (fun p => (boxCells fr p.2).any isHiC) && ws.all (fun p => (boxCells fr p.2).all isNilO)
def loArgs (b : Bool) (l : List Comp) : List Comp := bif b then l.map loArg else l
def callHand {R : Type} (X : Env) (F : Fn) (fr : Fr) (args : List Comp) (d : Option Nat) (K : Fr → Option R) : Option R :=
  match handSlots args F.hand with
  | some (ws, rs) => bif (handOk (ws ++ rs) && noDupN (handN F.hand)) && ((ws ++ rs).all (fun p => isBoxB fr p.2) && ws.all (fun p => !X.ro.contains p.2)) then
      F.run (loArgs (X.tk && allNew fr ws) (handArgs fr F.hand (ws ++ rs) 0 args)) fun res => bif !res.all (fun c => c.2.length.blt 4096) then none else
        match putBoxes (handOld fr F.hand 0 args) (kill fr) ws (res.drop (res.length - ws.length)) with
        | some fr1 => fin X fr1 d (resSV (handOld fr F.hand 0 args) (res.take (res.length - ws.length))) K
        | none => none
    else none
  | none => none
noncomputable def putOp {R : Type} (X : Env) (t : TypeId) (fr : Fr) (m kx vx : Operand) (dst : Option Nat) (K : Fr → Option R) : Option R :=
  match opc fr m with
  | .mptr s => match fr s with
    | .mapb k v xs none => match pack k (opd fr kx).2, pack v (opd fr vx).2 with
      | some (x, []), some (y, []) => bif decide (X.mp.lookup t = some (k, v)) && ((opd fr kx).1 == isPairT k && ((opd fr vx).1 == isPairT v && dst.isNone)) then (if kwf k x = true then K (upd fr s (.mapb k v (mput x y xs) none)) else none) else none
      | _, _ => none
    | _ => none
  | _ => none
noncomputable def getOp {R : Type} (X : Env) (t : TypeId) (fr : Fr) (m kx : Operand) (dst : Option Nat) (K : Fr → Option R) : Option R :=
  match opc fr m with
  | .mptr s => match fr s with
    | .mapb k v xs none => match pack k (opd fr kx).2 with
      | some (x, []) => bif decide (X.mp.lookup t = some (k, v)) && (opd fr kx).1 == isPairT k then (if kwf k x = true then fin X fr dst (.tup [(isPairT v, unpack true v ((mget x xs).getD v.zero)), (false, [.bool (mget x xs).isSome])]) K else none) else none
      | _ => none
    | _ => none
  | _ => none
def drop1 (s : Nat) : CV → CV
  | .ptr s' c => bif s'.beq s then .dead else .ptr s' c
  | .mptr s' => bif s'.beq s then .dead else .mptr s'
  | .fn f caps => .fn f (caps.map fun | .ptr s' c => bif s'.beq s then .dead else .ptr s' c | .mptr s' => bif s'.beq s then .dead else .mptr s' | x => x)
  | x => x
def dropS (s : Nat) : SV → SV
  | .comp g cs => .comp g (cs.map (drop1 s))
  | .box cs => .box (cs.map (drop1 s))
  | .tup vs => .tup (vs.map fun p => (p.1, p.2.map (drop1 s)))
  | .mapb k v xs it => .mapb k v xs it
def giveUp (s : Nat) (fr : Fr) : Fr := upd (fun j => dropS s (fr j)) s .dead
def moveMap {R : Type} (X : Env) (fr : Fr) (s : Nat) (dst : Option Nat) (K : Fr → Option R) : Option R :=
  match fr s, dst with
  | .mapb k v xs none, some d => bif X.dr || d.beq s then none else fin X (giveUp s fr) (some d) (.mapb k v xs none) K
  | _, _ => none
open Classical in
noncomputable def allSame {α R : Type} (l : List α) (f : α → Option R) : Option R := if h : l ≠ [] ∧ ∃ r, ∀ x ∈ l, f x = some r then some (Classical.choose h.2) else none
noncomputable def nilOp {R : Type} (X : Env) (t : TypeId) (op : BinOp) (cx cy : CV) (J : CV → Option R) : Option R :=
  bif X.dr then binop (X.boolT t) (X.sl t).isSome op cx cy J else match op, cx, cy with
    | .eql, .lo _ xs, .nils => bif (X.sl t).isSome then (if 0 < xs.length then J (.bool false) else allSame [true, false] fun b => J (.bool b)) else none
    | op, cx, cy => binop (X.boolT t) (X.sl t).isSome op cx cy J
def rangeOp {R : Type} (X : Env) (t : TypeId) (fr : Fr) (s : Nat) (dst : Option Nat) (K : Fr → Option R) : Option R :=
  match fr s, dst with
  | .mapb k v xs none, some d => bif X.dr || (d.beq s || !decide (X.mp.lookup t = some (k, v))) then none else fin X (giveUp s fr) (some d) (.mapb k v xs (some none)) K
  | _, _ => none
def picks {α : Type} : List α → List (α × List α)
  | [] => []
  | x :: r => (x, r) :: (picks r).map fun p => (p.1, x :: p.2)
noncomputable def nextL {α R : Type} (xs : List α) (A : Option R) (B : α × List α → Option R) : Option R := match xs with
  | [] => A
  | x :: r => allSame (picks (x :: r)) B
noncomputable def nextOp {R : Type} (X : Env) (fr : Fr) (t : Nat) (dst : Option Nat) (K : Fr → Option R) : Option R :=
  match fr t with
  | .mapb k v xs (some _) => bif X.dr || !(kflat k && kflat v) then none else nextL xs (fin X fr dst (.tup [(false, [.bool false])]) K) fun p => fin X (upd fr t (.mapb k v p.2 (some (some p.1)))) dst (.tup [(false, [.bool true]), (isPairT k, unpack true k p.1.1), (isPairT v, unpack true v p.1.2)]) K
  | _ => none
def cutOp {R : Type} (X : Env) (t : TypeId) (fr : Fr) (lo : Option Operand) (h : Operand) (c : CV) (dst : Option Nat) (K : Fr → Option R) : Option R :=
  match lowB fr lo, opc fr h with
  | some l, .int _ n => cutS (X.sl t) c l n fun c => fin X fr dst (.comp false [c]) K
  | _, _ => none
def takeCut {R : Type} (X : Env) (t : TypeId) (fr : Fr) (x : Operand) (lo : Option Operand) (h : Operand) (c : CV) (dst : Option Nat) (K : Fr → Option R) : Option R :=
  match lo, X.slf t, takeOpd fr x, opc fr h with
  | none, some u, ((false, [.tmpo u' xs]), fr1), .int _ n => if hu : u' = u then (if 0 ≤ n then if n ≤ (xs.length : Int) then fin X (kill fr1) dst (.comp false [.tmpo u ((hu ▸ xs : List (Den u)).take n.toNat)]) K else none else none) else none
  | lo, _, _, _ => cutOp X t fr lo h c dst K
def isTmp : CV → Bool
  | .tmpo _ _ => true
  | _ => false
def promoK {R : Type} (s : Nat) (fr : Fr) (K : Fr → Option R) : Option R := match fr s with
  | .comp g cs => bif cs.any isTmp then K (upd (dem s fr) s (.comp g (cs.map fun c => dem1 s (toOwn c)))) else K fr
  | .box cs => bif cs.any isTmp then K (upd (dem s fr) s (.box (cs.map fun c => dem1 s (toOwn c)))) else K fr
  | .tup _ | .mapb _ _ _ _ => K fr
def roPtr (X : Env) : CV → Bool
  | .ptr s _ => X.ro.contains s
  | _ => false
noncomputable def stepOp {R : Type} (X : Env) (E : FuncId → Option Fn) (o : Oper) (fr : Fr) (K : Fr → Option R) : Option R :=
  match o.op with
  | .move x => match x with
    | .tmp t => match fr t with
      | .tup vs => match o.dst with
        | some d => bif d.beq t || !vs.all (fun p => p.2.all fun c => !isOwn c) then none else fin X (upd fr t .dead) (some d) (.tup vs) K
        | none => none
      | v => fin X fr o.dst (.comp (viewS t v).1 (viewS t v).2) K
    | x => fin X fr o.dst (.comp (opd fr x).1 (opd fr x).2) K
  | .assign x => match opc fr x with
    | .mptr s => moveMap X fr s o.dst K
    | _ => match takeOpd fr x with
      | ((g, ws), fr1) => match o.dst with
        | some d => bif X.dr || ws.all isScalar then fin X fr1 (some d) (.comp g ws) K
          else fin X (dem d fr1) (some d) (.comp g (ws.map fun c => dem1 d (toOwn c))) K
        | none => none
  | .pick c a b => match opc fr c with
    | .bool q => if q = true then fin X fr o.dst (.comp (opd fr a).1 (opd fr a).2) K else fin X fr o.dst (.comp (opd fr b).1 (opd fr b).2) K
    | _ => none
  | .alloc t => match X.ti t, o.dst with
    | some i, some d => fin X fr (some d) (.box (bif i.fn then [.dead] else zeroCV i.ty)) K
    | _, _ => none
  | .box _ x => match o.dst with
    | some d => bif X.tk && !X.dr then (match takeOpd fr x with
        | ((g, ws), fr1) => bif (g || ws.all sure) && ws.all (fun c => !isOwn c) then fin X fr1 (some d) (.box ws) (fun fr => promoK d fr K) else none)
      else bif (opd fr x).1 || (opd fr x).2.all sure then fin X fr (some d) (.box (opd fr x).2) K else none
    | none => none
  | .build t ps => match X.ti t with
    | some i => bif i.agg then match buildParts fr i.offs (zeroCV i.ty) ps.toList with
        | some (cs, fr1) => fin X fr1 o.dst (.comp true cs) K
        | none => none
      else none
    | none => none
  | .buildSlice t n ps => match X.slf t with
    | some t => match rowParts fr t 0 ps.toList with
      | some xs => bif ps.toList.length.beq n && (n * t.cells).ble 16777216 then fin X fr o.dst (.comp false [.tmpo t xs]) K else none
      | none => none
    | none => match X.sl t with
      | some t => match rowPartsO t fr 0 ps.toList with
        | some (xs, fr1) => bif ps.toList.length.beq n && (n * t.cells).ble 16777216 then fin X fr1 o.dst (.comp false [.tmpo t xs]) K else none
        | none => none
      | none => none
  | .makeSlice t l m => match X.slf t with
    | some t => match opc fr l, opc fr m with
      | .int .i64 n, .int .i64 m => if 0 ≤ n then if n ≤ m then if m < (lim t : Int) then fin X fr o.dst (.comp false [.tmpo t (List.replicate n.toNat t.zero)]) K else none else none else none
      | _, _ => none
    | none => none
  | .load t a => match X.ti t with
    | some i => match load fr (opc fr a) i.ty.cells with
      | some cs => fin X fr o.dst (.comp i.agg cs) K
      | none => none
    | none => none
  | .store t a x => match X.ti t, takeOpd fr x with
    | some i, ((g, ws), fr1) => bif ws.length.beq i.ty.cells && ((g == i.agg) && !roPtr X (opc fr a)) then match store X.dr (opc fr a) g ws fr1 with
        | some fr2 => bif o.dst.isNone then K fr2 else none
        | none => none
      else none
    | none, _ => none
  | .nilCheck x => match opc fr x with
    | .ptr s c => fin X fr o.dst (.comp false [.ptr s c]) K
    | .rptr cs => fin X fr o.dst (.comp false [.rptr cs]) K
    | .hptr cs => fin X fr o.dst (.comp false [.hptr cs]) K
    | .eptr s c t i k cs => fin X fr o.dst (.comp false [.eptr s c t i k cs]) K
    | _ => none
  | .binOp op t x y _ => match opd fr x, opd fr y with
    | (true, cs), (true, ds) => match X.ti t, eqCells cs ds with
      | some i, some q => bif i.eq && i.agg && cs.length.beq i.ty.cells then match op with
          | .eql => fin X fr o.dst (.comp false [.bool q]) K
          | .neq => fin X fr o.dst (.comp false [.bool (!q)]) K
          | _ => none
        else none
      | _, _ => none
    | p, q => nilOp X t op (one p) (one q) fun c => fin X fr o.dst (.comp false [c]) K
  | .unOp op _ x => match op, opc fr x with
    | .not, .bool b => fin X fr o.dst (.comp false [.bool (!b)]) K
    | .neg, .int k n => fin X fr o.dst (.comp false [.int k (wr k (0 - n))]) K
    | _, _ => none
  | .convert s t x => match X.ti s, X.intK t, opc fr x with
    | some _, some k, .int _ n => fin X fr o.dst (.comp false [.int k (wr k n)]) K
    | _, _, _ => none
  | .makeFunc (.func f) first caps => bif first.isEmpty && caps.toList.all (fun x => capOk (opc fr x)) then fin X fr o.dst (.comp false [.fn f (caps.toList.map (opc fr))]) K else none
  | .slice t x lo hi mx => match opc fr x, lo, hi, mx with
    | .lo u xs, some l, none, none => match opc fr l with
      | .int _ n => bif decide (X.sl t = some u) then (if 0 ≤ n then if n ≤ (xs.length : Int) then fin X fr o.dst (.comp false [.lo u (xs.drop n.toNat)]) K else none else none) else none
      | _ => none
    | .hi u xs, some l, none, none | .ref _ _ u xs, some l, none, none => match opc fr l with
      | .int _ n => bif decide (X.sl t = some u) then (if 0 ≤ n then if n ≤ (xs.length : Int) then fin X fr o.dst (.comp false [.hi u (xs.drop n.toNat)]) K else none else none) else none
      | _ => none
    | c, lo, some h, none => bif X.tk && !X.dr then takeCut X t fr x lo h c o.dst K else cutOp X t fr lo h c o.dst K
    | _, _, _, _ => none
  | .fieldAddr t x f => match X.ti t with
    | some i => match i.offs[f]? with
      | some (off, _, _) => match fieldAddr (opc fr x) off with
        | some c => fin X fr o.dst (.comp false [c]) K
        | none => none
      | none => none
    | none => none
  | .field t x f => match X.ti t, opd fr x with
    | some i, (true, cs) => match i.offs[f]? with
      | some (off, n, g) => match takeN n (cs.drop off) with
        | some vs => fin X fr o.dst (.comp g vs) K
        | none => none
      | none => none
    | _, _ => none
  | .indexAddr t x ix => match opc fr ix with
    | .int _ i => indexAddr (X.sl t) (opc fr x) i fun c => fin X fr o.dst (.comp false [c]) K
    | _ => none
  | .extract x i => match x with
    | .tmp t => match fr t with
      | .tup vs => match vs[i]? with
        | some (g, cs) => match o.dst with
          | some d => bif d.beq t || !cs.all (fun c => !isOwn c) then none else bif cs.all isPlain then fin X fr (some d) (.comp g cs) K else fin X (upd fr t (.tup (vs.set i (false, [.dead])))) (some d) (.comp g cs) K
          | none => none
        | none => none
      | _ => none
    | _ => none
  | .call c => match c.callee with
    | .builtin .len => match c.argTypes.toList, c.args.toList with
      | [t], [x] => match lenOf (X.strT t) (X.sl t).isSome (opc fr x) with
        | some n => fin X fr o.dst (.comp false [.int .i64 n]) K
        | none => none
      | _, _ => none
    | .builtin .append => match c.argTypes.toList, c.args.toList with
      | [t, u], [x, y] => bif t.beq u then match X.slf t with
          | some t => match listAs t (opc fr y), takeOpd fr x with
            | some ys, ((false, [.tmpo u xs]), fr1) => if h : u = t then
                (if xs.length + ys.length < lim t then fin X fr1 o.dst (.comp false [.tmpo t ((h ▸ xs) ++ ys)]) K else none) else none
            | some ys, ((false, [.nils]), fr1) => if ys.length < lim t then fin X fr1 o.dst (.comp false [.tmpo t ys]) K else none
            | _, _ => none
          | none => match X.sl t with
            | some t => match takeOpd fr x with
              | ((false, [cx]), fr1) => match takeOpd fr1 y with
                | ((false, [cy]), fr2) => match ownAs t cx, ownAs t cy with
                  | some xs, some ys => if xs.length + ys.length < lim t then fin X fr2 o.dst (.comp false [.tmpo t (xs ++ ys)]) K else none
                  | _, _ => none
                | _ => none
              | _ => none
            | none => none
        else none
      | _, _ => none
    | .builtin .min => match c.args.toList with
      | [x, y] => match opc fr x, opc fr y with
        | .int j a, .int k b => if j = k then fin X fr o.dst (.comp false [.int j (if b < a then b else a)]) K else none
        | _, _ => none
      | _ => none
    | .builtin .max => match c.args.toList with
      | [x, y] => match opc fr x, opc fr y with
        | .int j a, .int k b => if j = k then fin X fr o.dst (.comp false [.int j (if a < b then b else a)]) K else none
        | _, _ => none
      | _ => none
    | .value f => match opc fr f with
      | .fn f caps => match E f with
        | some F => bif F.box then (bif F.hand.isEmpty then (bif caps.isEmpty then callBox X F fr (argsOf fr c.args.toList) o.dst K else none) else callHand X F fr (rawArgs fr c.args.toList ++ caps.map fun c => (false, [c])) o.dst K) else callFn X F fr (argsOf fr c.args.toList ++ caps.map fun c => (false, [c])) o.dst K
        | none => none
      | _ => none
    | _ => none
  | .makeMap t none => match X.mp.lookup t, o.dst with
    | some (k, v), some d => fin X fr (some d) (.mapb k v [] none) K
    | _, _ => none
  | .insert t m kx vx => putOp X t fr m kx vx o.dst K
  | .mapUpdate t m kx vx => putOp X t fr m kx vx o.dst K
  | .lookup t m kx true => getOp X t fr m kx o.dst K
  | .range t m => match opc fr m with
    | .mptr s => rangeOp X t fr s o.dst K
    | _ => none
  | .next (.tmp t) false => nextOp X fr t o.dst K
  | .entry (.tmp t) => match fr t with
    | .mapb k v _ (some (some p)) => bif kflat k && kflat v then fin X fr o.dst (.tup [(isPairT k, unpack true k p.1), (isPairT v, unpack true v p.2)]) K else none
    | _ => none
  | _ => none
def guardK {R : Type} (ops : List Oper) (o : Oper) (fr : Fr) (no : Fr → Option R) (yes : Fr → Option R) : Option R :=
  match o.guard with
  | none => yes fr
  | some (j, want) => match ops[j]? with
    | some oj => match oj.dst with
      | some d => match fr d with
        | .comp false [.bool b] => if b = true then (bif want then yes else no) (upd fr d (.comp false [.bool true])) else (bif want then no else yes) (upd fr d (.comp false [.bool false]))
        | .comp false [.undef] => no fr
        | _ => none
      | none => none
    | none => none
def exK {R : Type} (X : Env) (o : Oper) (fr : Fr) (K : Fr → Option R) : Option R := bif X.tk then (match o.op, o.dst with
  | .extract _ _, some d => promoK d fr K
  | _, _ => K fr) else K fr
noncomputable def runOps {R : Type} (X : Env) (E : FuncId → Option Fn) (ops : List Oper) : List Oper → Fr → (Fr → Option R) → Option R
  | [], fr, K => K fr
  | o :: r, fr, K => guardK ops o fr (fun fr => fin X fr o.dst (.comp false [.undef]) fun fr => runOps X E ops r fr K) (fun fr => stepOp X E o fr fun fr => exK X o fr fun fr => runOps X E ops r fr K)
inductive Loc where | shape (s : Nat) | cells (s lo n : Nat) | whole (s : Nat)
def ov : Loc → Loc → Bool
  | .whole s, .whole t | .whole s, .shape t | .shape s, .whole t | .shape s, .shape t | .whole s, .cells t _ _ | .cells s _ _, .whole t => s.beq t
  | .cells s a n, .cells t b m => s.beq t && (a.blt (b + m) && b.blt (a + n))
  | .shape _, .cells _ _ _ | .cells _ _ _, .shape _ => false
abbrev FP := Option (List Loc × List Loc)
def disj (xs ys : List Loc) : Bool := xs.all fun x => ys.all fun y => !ov x y
def fpApart : FP → FP → Bool
  | some (r, w), some (r', w') => disj w r' && (disj w w' && disj r w')
  | _, _ => false
def shapes : List Operand → List Loc
  | [] => []
  | .tmp t :: r => .shape t :: shapes r
  | _ :: r => shapes r
def dstR : Option Nat → List Loc
  | some d => [.shape d]
  | none => []
def dstW : Option Nat → List Loc
  | some d => [.whole d]
  | none => []
def boxesP : List CV → List Loc
  | [] => []
  | .ptr s _ :: r => .whole s :: boxesP r
  | _ :: r => boxesP r
def boxes : List CV → List Loc
  | [] => []
  | .ptr s _ :: r => .whole s :: boxes r
  | .fn _ caps :: r => boxesP caps ++ boxes r
  | _ :: r => boxes r
def hasOwner : CV → Bool
  | .own _ _ | .tmpo _ _ | .ref _ _ _ _ => true
  | _ => false
def refs : List CV → List Loc
  | [] => []
  | .ref s _ _ _ :: r => .whole s :: refs r
  | _ :: r => refs r
def ownOp (fr : Fr) : Operand → Bool
  | .tmp t => match fr t with
    | .comp _ cs => cs.any hasOwner
    | _ => false
  | _ => false
def slotsOf (fr : Fr) : List Operand → List Loc
  | [] => []
  | .tmp t :: r => .whole t :: ((match fr t with
    | .comp _ cs => refs cs
    | _ => []) ++ slotsOf fr r)
  | _ :: r => slotsOf fr r
def refW (fr : Fr) (s c : Nat) : Loc := match fr s with
  | .box _ => .cells s (c - 1) 1
  | _ => .whole s
def refsW (fr : Fr) : List CV → List Loc
  | [] => []
  | .ref s c _ _ :: r => refW fr s c :: refsW fr r
  | _ :: r => refsW fr r
def slotsW (fr : Fr) : List Operand → List Loc
  | [] => []
  | .tmp t :: r => .whole t :: ((match fr t with
    | .comp _ cs => refsW fr cs
    | _ => []) ++ slotsW fr r)
  | _ :: r => slotsW fr r
def argBoxes (fr : Fr) : List Operand → List Loc
  | [] => []
  | x :: r => boxes (opd fr x).2 ++ argBoxes fr r
def pureFoot (o : Oper) (xs : List Operand) : FP := some (shapes xs ++ dstR o.dst, dstW o.dst)
def takeFoot (fr : Fr) (o : Oper) (xs : List Operand) : FP :=
  bif xs.any (ownOp fr) then some (slotsOf fr xs ++ dstR o.dst, slotsW fr xs ++ dstW o.dst) else pureFoot o xs
def foot (X : Env) (E : FuncId → Option Fn) (o : Oper) (fr : Fr) : FP :=
  match o.op with
  | .move x => match x with
    | .tmp t => match fr t with
      | .tup _ => some (.whole t :: dstR o.dst, .whole t :: dstW o.dst)
      | _ => pureFoot o [.tmp t]
    | x => pureFoot o [x]
  | .pick c a b => pureFoot o [c, a, b]
  | .assign x => match opc fr x with
    | .mptr _ => none
    | _ => bif X.dr then takeFoot fr o [x] else bif (opd fr x).2.all isScalar then pureFoot o [x] else none
  | .alloc _ => pureFoot o []
  | .box _ x => bif X.dr then pureFoot o [x] else none
  | .nilCheck x | .unOp _ _ x | .convert _ _ x | .fieldAddr _ x _ | .field _ x _ => pureFoot o [x]
  | .binOp _ _ x y _ => bif X.dr then pureFoot o [x, y] else none
  | .indexAddr _ x y => pureFoot o [x, y]
  | .buildSlice t _ ps => match X.slf t with
    | some _ => pureFoot o (ps.toList.map fun p => p.2)
    | none => takeFoot fr o (ps.toList.map fun p => p.2)
  | .makeSlice _ l m => pureFoot o [l, m]
  | .makeFunc _ _ caps => pureFoot o caps.toList
  | .slice _ x (some l) none none => pureFoot o [x, l]
  | .slice _ x lo (some h) none => bif X.dr then pureFoot o (x :: h :: lo.toList) else none
  | .load t a => match opc fr a with
    | .ptr s c => match X.ti t with
      | some i => some (.shape s :: .cells s c i.ty.cells :: (shapes [a] ++ dstR o.dst), dstW o.dst)
      | none => none
    | _ => pureFoot o [a]
  | .store _ p x => match opc fr p with
    | .ptr s c => bif !ownOp fr x && (opd fr x).2.all isPlain then some (.shape s :: .cells s c (opd fr x).2.length :: shapes [p, x], [.cells s c (opd fr x).2.length]) else bif X.dr then some (slotsOf fr [x] ++ (.whole s :: shapes [p, x]), slotsOf fr [x] ++ [.whole s]) else none
    | _ => none
  | .build _ ps => takeFoot fr o (ps.toList.map fun p => p.2)
  | .extract x i => match x with
    | .tmp t => match fr t with
      | .tup vs => match vs[i]? with
        | some (_, cs) => bif cs.all isPlain then some (.shape t :: .cells t i 1 :: dstR o.dst, dstW o.dst) else some (.shape t :: .cells t i 1 :: dstR o.dst, .cells t i 1 :: dstW o.dst)
        | none => none
      | _ => none
    | _ => none
  | .call c => match c.callee with
    | .builtin .len | .builtin .min | .builtin .max => pureFoot o c.args.toList
    | .builtin .append => takeFoot fr o c.args.toList
    | .value f => match opc fr f with
      | .fn fid caps => match E fid with
        | some F => bif F.box then (match argsOf fr c.args.toList with
            | (false, [.ptr s 0]) :: _ => bif caps.isEmpty && F.hand.isEmpty then some (.whole s :: (shapes (f :: c.args.toList) ++ dstR o.dst), .whole s :: dstW o.dst) else none
            | _ => none)
          else bif F.muts.isEmpty then some (shapes (f :: c.args.toList) ++ (argBoxes fr c.args.toList ++ (boxes caps ++ dstR o.dst)), dstW o.dst) else none
        | none => none
      | _ => none
    | _ => none
  | _ => none
def gLoc (ops : List Oper) (o : Oper) : List Loc := match o.guard with
  | none => []
  | some (j, _) => match ops[j]? with
    | some oj => dstR oj.dst
    | none => []
def addR (l : List Loc) : FP → FP
  | some (r, w) => some (l ++ r, w)
  | none => none
def maskE : List Edge → List Nat → Nat
  | [], _ => 0
  | e :: r, ms => bif Region.binds .any e then ((1 <<< e.on) ||| ms.getD e.on 0) ||| maskE r ms else maskE r ms
def backs (o : Oper) (i : Nat) : Bool := o.after.toList.all fun e => !Region.binds .any e || e.on.blt i
def apartAll (m : Nat) (fp : FP) : Nat → List FP → Bool
  | _, [] => true
  | i, f :: r => (m.testBit i || fpApart f fp) && apartAll m fp (i + 1) r
noncomputable def runD {R : Type} (X : Env) (E : FuncId → Option Fn) (ops : List Oper) : List Oper → List Nat → List FP → Fr → (Fr → Option R) → Option R
  | [], _, _, fr, K => K fr
  | o :: r, ms, fps, fr, K => bif backs o fps.length then guardK ops o fr
      (fun fr => bif apartAll (maskE o.after.toList ms) (addR (gLoc ops o) (pureFoot o [])) 0 fps then fin X fr o.dst (.comp false [.undef]) fun fr1 => runD X E ops r (ms ++ [maskE o.after.toList ms]) (fps ++ [addR (gLoc ops o) (pureFoot o [])]) fr1 K else none)
      (fun fr => bif apartAll (maskE o.after.toList ms) (addR (gLoc ops o) (foot X E o fr)) 0 fps then stepOp X E o fr fun fr1 => runD X E ops r (ms ++ [maskE o.after.toList ms]) (fps ++ [addR (gLoc ops o) (foot X E o fr)]) fr1 K else none)
    else none
def promosK {R : Type} : List Oper → Fr → (Fr → Option R) → Option R
  | [], fr, K => K fr
  | o :: r, fr, K => match o.op with
    | .assign _ => match o.dst with
      | some d => promoK d fr fun fr => promosK r fr K
      | none => promosK r fr K
    | .store _ p _ => match opc fr p with
      | .ptr s _ => promoK s fr fun fr => promosK r fr K
      | _ => promosK r fr K
    | _ => promosK r fr K
inductive Ex where | normal | exit (id : Nat) | ret
def nodes : Code → Nat
  | .seq a b => 1 + nodes a + nodes b
  | .cond _ a b => 1 + nodes a + nodes b
  | .block _ b | .loop b | .scope b => 1 + nodes b
  | _ => 1
inductive FPat where
  | int (k : IntKind) | bool | str
  | lo (t : Ty) | hi (t : Ty) | own (t : Ty) | ref (s c : Nat) (t : Ty)
  | ptr (s c : Nat) | mptr (s : Nat) | nils | dead | undef
inductive Pat where
  | fl (p : FPat) | mp (k v : Ty) | rptr (ps : List FPat) | hptr (ps : List FPat) | fn (f : FuncId) (caps : List (List FPat))
@[reducible] def FPat.T : FPat → Type
  | .int _ => Int | .bool => Bool | .str => ByteArray
  | .lo t | .hi t | .own t | .ref _ _ t => List (Den t)
  | _ => Unit
@[reducible] def fpatsT : List FPat → Type
  | [] => Unit
  | p :: r => p.T × fpatsT r
@[reducible] def fpatssT : List (List FPat) → Type
  | [] => Unit
  | p :: r => fpatsT p × fpatssT r
@[reducible] def Pat.T : Pat → Type
  | .fl p => p.T
  | .mp k v => List (Den k × Den v)
  | .rptr ps | .hptr ps => fpatsT ps
  | .fn _ pss => fpatssT pss
@[reducible] def patsT : List Pat → Type
  | [] => Unit
  | p :: r => p.T × patsT r
def FPat.enc : (p : FPat) → p.T → CV
  | .int k, n => .int k n | .bool, b => .bool b | .str, s => .str s
  | .lo t, xs => .lo t xs | .hi t, xs => .hi t xs | .own t, xs => .own t xs | .ref s c t, xs => .ref s c t xs
  | .ptr s c, _ => .ptr s c | .mptr s, _ => .mptr s | .nils, _ => .nils | .dead, _ => .dead | .undef, _ => .undef
def fencs : (ps : List FPat) → fpatsT ps → List CV
  | [], _ => []
  | p :: r, x => p.enc x.1 :: fencs r x.2
def capEnc : (ps : List FPat) → fpatsT ps → CV
  | [.ptr s c], _ => .ptr s c
  | ps, x => .rptr (fencs ps x)
def fencss : (ps : List (List FPat)) → fpatssT ps → List CV
  | [], _ => []
  | p :: r, x => capEnc p x.1 :: fencss r x.2
def Pat.enc : (p : Pat) → p.T → CV
  | .fl p, x => p.enc x
  | .mp k v, x => .mmap k v x
  | .rptr ps, x => .rptr (fencs ps x)
  | .hptr ps, x => .hptr (fencs ps x)
  | .fn f pss, x => .fn f (fencss pss x)
def encs : (ps : List Pat) → patsT ps → List CV
  | [], _ => []
  | p :: r, x => p.enc x.1 :: encs r x.2
def FPat.dec (b : Bool) : (p : FPat) → CV → Option p.T
  | .int k, .int j n => if j = k then some n else none
  | .bool, .bool b => some b
  | .str, .str s => some s
  | .lo t, .lo u xs => if h : u = t then some (h ▸ xs) else none
  | .lo _, .nils => some []
  | .hi t, c => listAs t c
  | .own t, .own u xs => if h : u = t then some (h ▸ xs) else none
  | .own t, .tmpo u xs => bif b then (if h : u = t then some (h ▸ xs) else none) else none
  | .own _, .nils => bif b then some [] else none
  | .ref s c t, .ref s' c' u xs => if h : s' = s ∧ c' = c ∧ u = t then some (h.2.2 ▸ xs) else none
  | .ptr x y, .ptr c d => if c = x ∧ d = y then some () else none
  | .mptr x, .mptr c => if c = x then some () else none
  | .nils, .nils => some ()
  | .undef, .undef => some ()
  | .dead, _ => some ()
  | _, _ => none
def fdecs (b : Bool) : (ps : List FPat) → List CV → Option (fpatsT ps)
  | [], [] => some ()
  | p :: r, c :: cs => match p.dec b c with
    | some x => match fdecs b r cs with
      | some y => some (x, y)
      | none => none
    | none => none
  | _, _ => none
def capDec (b : Bool) : (ps : List FPat) → CV → Option (fpatsT ps)
  | [.ptr s c], x => match x with
    | .ptr s' c' => if s' = s ∧ c' = c then some ((), ()) else none
    | _ => none
  | ps, x => match x with
    | .rptr cs => fdecs b ps cs
    | _ => none
def fdecss (b : Bool) : (ps : List (List FPat)) → List CV → Option (fpatssT ps)
  | [], [] => some ()
  | p :: r, c :: cs => match capDec b p c with
    | some x => match fdecss b r cs with
      | some y => some (x, y)
      | none => none
    | none => none
  | _, _ => none
def Pat.dec (b : Bool) : (p : Pat) → CV → Option p.T
  | .fl p, c => p.dec b c
  | .mp k v, .mmap k' v' xs => if h : k' = k ∧ v' = v then some (h.1 ▸ h.2 ▸ xs) else none
  | .rptr ps, .rptr cs => fdecs b ps cs
  | .hptr ps, .hptr cs => fdecs b ps cs
  | .fn f pss, .fn g cs => if g = f then fdecss b pss cs else none
  | _, _ => none
def decs (b : Bool) : (ps : List Pat) → List CV → Option (patsT ps)
  | [], [] => some ()
  | p :: r, c :: cs => match p.dec b c with
    | some x => match decs b r cs with
      | some y => some (x, y)
      | none => none
    | none => none
  | _, _ => none
abbrev SPat := Option Bool × List Pat
def isMp : List Pat → Bool
  | [.mp _ _] => true
  | _ => false
def decS (b : Bool) (p : SPat) : SV → Option (patsT p.2)
  | .comp g cs => match p.1 with
    | some g' => bif g == g' then decs b p.2 cs else none
    | none => none
  | .box cs => match p.1 with
    | none => decs b p.2 cs
    | some _ => none
  | .mapb k v xs none => match p.1 with
    | none => bif isMp p.2 then decs b p.2 [.mmap k v xs] else none
    | some _ => none
  | .mapb k v xs (some _) => match p.1 with
    | none => none
    | some _ => bif isMp p.2 then decs b p.2 [.mmap k v xs] else none
  | .tup _ => none
def boxOf : List CV → SV
  | [.mmap k v xs] => .mapb k v xs none
  | cs => .box cs
def compOf (g : Bool) : List CV → SV
  | [.mmap k v xs] => .mapb k v xs (some none)
  | cs => .comp g cs
def encS (p : SPat) (x : patsT p.2) : SV := match p.1 with
  | some g => compOf g (encs p.2 x)
  | none => boxOf (encs p.2 x)
abbrev CutP := List (Nat × SPat)
@[reducible] def cutT : CutP → Type
  | [] => Unit
  | p :: r => patsT p.2.2 × cutT r
def refTo (s : Nat) : CutP → Bool
  | [] => false
  | p :: r => p.2.2.any (fun q => match q with | .fl (.ref s' _ _) => s'.beq s | _ => false) || refTo s r
def readCut (all : CutP) : (c : CutP) → Fr → Option (cutT c)
  | [], _ => some ()
  | p :: r, fr => match decS (!refTo p.1 all) p.2 (fr p.1) with
    | some x => match readCut all r fr with
      | some y => some (x, y)
      | none => none
    | none => none
def FPat.flat : FPat → Bool
  | .int _ | .bool | .str | .lo _ | .hi _ | .nils | .dead => true
  | _ => false
def capOkP (all : CutP) : List FPat → Bool
  | [.ptr s _] => match all.lookup s with
    | some (none, _) => true
    | _ => false
  | ps => ps.all FPat.flat
def Pat.ok (all : CutP) : Pat → Bool
  | .fl (.mptr s) => match all.lookup s with
    | some (none, [.mp _ _]) => true
    | _ => false
  | .fl (.ptr s _) => match all.lookup s with
    | some (none, _) => true
    | _ => false
  | .fl _ => true
  | .mp k v => k.flat && v.flat
  | .rptr ps | .hptr ps => ps.all FPat.flat
  | .fn _ pss => pss.all (capOkP all)
def cutOk (all : CutP) : Bool := all.all fun p => p.2.2.all (Pat.ok all)
def cutFr : (c : CutP) → cutT c → Fr
  | [], _ => fun _ => .dead
  | p :: r, x => upd (cutFr r x.2) p.1 (encS p.2 x.1)
structure Cut (R : Type) where
  pats : CutP
  run : cutT pats → Option R
abbrev Cuts (R : Type) := List (Nat × Cut R)
def jump {R : Type} (c : Cut R) (fr : Fr) : Option R := match readCut c.pats c.pats fr with
  | some x => c.run x
  | none => none
section
variable {R : Type} (X : Env) (E : FuncId → Option Fn) (C : Cuts R)
def blockK (id : Nat) (K : Ex → Fr → Option R) : Ex → Fr → Option R
  | .exit j, fr => bif j.beq id then K .normal fr else K (.exit j) fr
  | e, fr => K e fr
def loopK (p : Nat) (K : Ex → Fr → Option R) : Ex → Fr → Option R
  | .normal, fr => match C.lookup p with
    | some c => jump c fr
    | none => none
  | e, fr => K e fr
def seqK (next : Fr → Option R) (K : Ex → Fr → Option R) (p : Nat) : Ex → Fr → Option R
  | .normal, fr => match C.lookup p with
    | some c => jump c fr
    | none => next fr
  | e, fr => K e fr
noncomputable def den : Code → Nat → Fr → (Ex → Fr → Option R) → Option R
  | .skip, _, fr, K => K .normal fr
  | .region _ ops draw, _, fr, K => bif draw then runD { X with dr := true } E ops.toList ops.toList [] [] fr (fun fr => promosK ops.toList fr (K .normal)) else runOps X E ops.toList ops.toList fr (K .normal)
  | .seq a b, p, fr, K => den a (p + 1) fr (seqK C (fun fr => den b (p + 1 + nodes a) fr K) K p)
  | .cond c a b, p, fr, K => match opc fr c with
    | .bool q => if q = true then den a (p + 1) fr K else den b (p + 1 + nodes a) fr K
    | _ => none
  | .block id b, p, fr, K => den b (p + 1) fr (blockK id K)
  | .loop _, p, fr, _ => match C.lookup p with
    | some c => jump c fr
    | none => none
  | .exit id, _, fr, K => K (.exit id) fr
  | .ret, _, fr, K => K .ret fr
  | _, _, _, _ => none
noncomputable def denAt : Code → Nat → Nat → (Ex → Fr → Option R) → Fr → Option R
  | .seq a b, p, q, K => bif q.beq p then fun fr => den X E C b (p + 1 + nodes a) fr K
    else bif q.blt (p + 1 + nodes a) then denAt a (p + 1) q (seqK C (fun fr => den X E C b (p + 1 + nodes a) fr K) K p) else denAt b (p + 1 + nodes a) q K
  | .cond _ a b, p, q, K => bif q.blt (p + 1 + nodes a) then denAt a (p + 1) q K else denAt b (p + 1 + nodes a) q K
  | .block id b, p, q, K => denAt b (p + 1) q (blockK id K)
  | .loop b, p, q, K => bif q.beq p then fun fr => den X E C b (p + 1) fr (loopK C p K) else denAt b (p + 1) q (loopK C p K)
  | _, _, _, _ => fun _ => none
end
def resOne (X : Env) (fr : Fr) : ResultVar → Option (Comp × Fr)
  | .tmp t => match fr t with
    | .comp _ _ => some (takeOpd fr (.tmp t))
    | _ => none
  | .cell a t => match fr a, X.ti t with
    | .box cs, some i => bif cs.length.beq i.ty.cells then match takeSlot fr a cs.length 1 with
      | (ws, fr1) => some ((i.agg, ws), fr1)
      else none
    | _, _ => none
def resAll (X : Env) (fr : Fr) : List ResultVar → Option (List Comp × Fr)
  | [] => some ([], fr)
  | r :: rs => match resOne X fr r with
    | some (c, fr1) => match resAll X fr1 rs with
      | some (l, fr2) => some (c :: l, fr2)
      | none => none
    | none => none
def outsOf (fr : Fr) : List (Nat × Nat) → Option (List CV)
  | [] => some []
  | (j, n) :: r => match fr j, outsOf fr r with
    | .comp _ cs, some l => bif cs.length.beq n then some (cs ++ l) else none
    | _, _ => none
abbrev CompPs := List (Bool × List Pat)
@[reducible] def compT : CompPs → Type
  | [] => Unit
  | p :: r => patsT p.2 × compT r
def decC : (ps : CompPs) → List Comp → Option (compT ps)
  | [], [] => some ()
  | p :: r, c :: cs => bif p.1 == c.1 then match decs true p.2 c.2 with
    | some x => match decC r cs with
      | some y => some (x, y)
      | none => none
    | none => none
    else none
  | _, _ => none
def encC : (ps : CompPs) → compT ps → List Comp
  | [], _ => []
  | p :: r, x => (p.1, encs p.2 x.1) :: encC r x.2
def endK {R : Type} (X : Env) (f : Func) (outs : List (Nat × Nat)) (dec : List Comp → Option R) : Ex → Fr → Option R
  | .exit _, _ => none
  | _, fr => match resAll X fr f.results.toList with
    | some (l, fr1) => bif outs.isEmpty then dec l else match outsOf fr1 outs with
      | some o => dec (l ++ [(false, o)])
      | none => none
    | none => none
def argFr : Nat → List Comp → Fr
  | _, [] => fun _ => .dead
  | i, (g, cs) :: r => upd (argFr (i + 1) r) i (.comp g cs)
def mkFn (n : Nat) (pc : CutP) (pr : CompPs) (muts : List Nat) {N : Type} (h : N → compT pr) (F : cutT pc → Option N) : Fn where
  muts := muts
  run := fun args K => bif args.length.beq n then match readCut pc pc (argFr 0 args) with
    | some x => (F x).bind fun y => K (encC pr (h y))
    | none => none
    else none
  nat := by
    intro R args K
    cases args.length.beq n
    · rfl
    cases readCut pc pc (argFr 0 args) with
    | none => rfl
    | some x => cases hF : F x <;> simp [hF]
def boxFr (cs : List CV) (rest : List Comp) : Fr := upd (argFr 1 rest) 0 (.box cs)
def mkFnB (n : Nat) (pc : CutP) (pr : CompPs) (bp : List FPat) {N : Type} (h : N → compT pr × fpatsT bp) (F : cutT pc → Option N) : Fn where
  muts := []
  box := true
  run := fun args K => match args with
    | (false, [.mbox cs]) :: rest => bif rest.length.beq n then match readCut pc pc (boxFr cs rest) with
        | some x => (F x).bind fun y => K (encC pr (h y).1 ++ [(false, [.mbox (fencs bp (h y).2)])])
        | none => none
      else none
    | _ => none
  nat := by
    intro R args K
    match args with
    | (false, [.mbox cs]) :: rest =>
      simp only
      cases rest.length.beq n
      · rfl
      cases readCut pc pc (boxFr cs rest) with
      | none => rfl
      | some x => cases hF : F x <;> simp [hF]
    | [] => rfl
    | (true, _) :: _ => rfl
    | (false, []) :: _ => rfl
    | (false, c :: d :: r) :: _ => cases c <;> rfl
    | (false, [.dead]) :: _ => rfl
    | (false, [.undef]) :: _ => rfl
    | (false, [.int _ _]) :: _ => rfl
    | (false, [.bool _]) :: _ => rfl
    | (false, [.str _]) :: _ => rfl
    | (false, [.mptr _]) :: _ => rfl
    | (false, [.mmap _ _ _]) :: _ => rfl
    | (false, [.nils]) :: _ => rfl
    | (false, [.lo _ _]) :: _ => rfl
    | (false, [.hi _ _]) :: _ => rfl
    | (false, [.own _ _]) :: _ => rfl
    | (false, [.tmpo _ _]) :: _ => rfl
    | (false, [.ref _ _ _ _]) :: _ => rfl
    | (false, [.ptr _ _]) :: _ => rfl
    | (false, [.rptr _]) :: _ => rfl
    | (false, [.hptr _]) :: _ => rfl
    | (false, [.eptr _ _ _ _ _ _]) :: _ => rfl
    | (false, [.fn _ _]) :: _ => rfl
def mkFnR (n : Nat) (pc : CutP) (bp : List FPat) {N : Type} (h : N → fpatsT bp) (F : cutT pc → Option N) : Fn where
  muts := []
  run := fun args K => bif args.length.beq n then match readCut pc pc (argFr 0 args) with
    | some x => (F x).bind fun y => K [(false, [.mbox (fencs bp (h y))])]
    | none => none
    else none
  nat := by
    intro R args K
    cases args.length.beq n
    · rfl
    cases readCut pc pc (argFr 0 args) with
    | none => rfl
    | some x => cases hF : F x <;> simp [hF]
def mkFnM (n : Nat) (pc : CutP) (k v : Ty) {N : Type} (h : N → List (Den k × Den v)) (F : cutT pc → Option N) : Fn where
  muts := []
  run := fun args K => bif args.length.beq n then match readCut pc pc (argFr 0 args) with
    | some x => (F x).bind fun y => K [(false, [.mmap k v (h y)])]
    | none => none
    else none
  nat := by
    intro R args K
    cases args.length.beq n
    · rfl
    cases readCut pc pc (argFr 0 args) with
    | none => rfl
    | some x => cases hF : F x <;> simp [hF]
def argSV : Comp → SV
  | (false, [.mbox cs]) => .box cs
  | (g, cs) => .comp g cs
def argFrH : Nat → List Comp → Fr
  | _, [] => fun _ => .dead
  | i, p :: r => upd (argFrH (i + 1) r) i (argSV p)
abbrev BoxPs := List (Nat × List FPat)
@[reducible] def boxPT : BoxPs → Type
  | [] => Unit
  | p :: r => fpatsT p.2 × boxPT r
def decB : (bs : BoxPs) → Fr → Option (boxPT bs)
  | [], _ => some ()
  | p :: r, fr => match fr p.1 with
    | .box cs => match fdecs false p.2 cs with
      | some x => match decB r fr with
        | some y => some (x, y)
        | none => none
      | none => none
    | _ => none
def encB : (bs : BoxPs) → boxPT bs → List Comp
  | [], _ => []
  | p :: r, x => (false, [.mbox (fencs p.2 x.1)]) :: encB r x.2
def FPat.handy : FPat → Bool
  | .int _ | .bool | .str | .lo _ | .hi _ | .own _ | .nils | .dead => true
  | _ => false
def mkFnH (n : Nat) (hand : List (Nat × Bool)) (pc : CutP) (pr : CompPs) (bs : BoxPs) {N : Type} (h : N → compT pr × boxPT bs) (F : cutT pc → Option N) : Fn where
  muts := []
  box := true
  hand := hand
  run := fun args K => bif args.length.beq n then match readCut pc pc (argFrH 0 args) with
    | some x => (F x).bind fun y => K (encC pr (h y).1 ++ encB bs (h y).2)
    | none => none
    else none
  nat := by
    intro R args K
    cases args.length.beq n
    · rfl
    cases readCut pc pc (argFrH 0 args) with
    | none => rfl
    | some x => cases hF : F x <;> simp [hF]
def endH {N : Type} (X : Env) (f : Func) (pr : CompPs) (bs : BoxPs) (d : compT pr × boxPT bs → N) : Ex → Fr → Option N
  | .exit _, _ => none
  | _, fr => match resAll X fr f.results.toList with
    | some (l, fr1) => match decC pr l with
      | some x => match decB bs fr1 with
        | some y => some (d (x, y))
        | none => none
      | none => none
    | none => none
def FPat.boxy : FPat → Bool
  | .int _ | .bool | .str | .lo _ | .hi _ | .nils | .dead => true
  | _ => false
def endB {N : Type} (X : Env) (f : Func) (pr : CompPs) (bp : List FPat) (d : compT pr × fpatsT bp → N) : Ex → Fr → Option N
  | .exit _, _ => none
  | _, fr => match resAll X fr f.results.toList with
    | some (l, fr1) => match decC pr l, fr1 0 with
      | some x, .box cs => match fdecs true bp cs with
        | some y => some (d (x, y))
        | none => none
      | _, _ => none
    | none => none
def endR {N : Type} (f : Func) (bp : List FPat) (d : fpatsT bp → N) : Ex → Fr → Option N
  | .exit _, _ => none
  | _, fr => match f.results.toList with
    | [.tmp t] => match opc fr (.tmp t) with
      | .ptr s 0 => match fr s with
        | .box cs => match fdecs true bp cs with
          | some y => some (d y)
          | none => none
        | _ => none
      | _ => none
    | _ => none
def endM {N : Type} (f : Func) (k v : Ty) (d : List (Den k × Den v) → N) : Ex → Fr → Option N
  | .exit _, _ => none
  | _, fr => match f.results.toList with
    | [.tmp t] => match opc fr (.tmp t) with
      | .mptr s => match fr s with
        | .mapb k' v' xs none => if h : k' = k ∧ v' = v then some (d (h.1 ▸ h.2 ▸ xs)) else none
        | _ => none
      | _ => none
    | _ => none
def decN (pr : CompPs) {N : Type} (g : compT pr → N) (l : List Comp) : Option N := match decC pr l with
  | some y => some (g y)
  | none => none
def bodyOf (f : Func) : Code := f.body.getD .skip
def keepOf (outs : List (Nat × Nat)) : List Nat := outs.map fun p => p.1
noncomputable def denFn {R : Type} (X : Env) (E : FuncId → Option Fn) (C : Cuts R) (f : Func) (outs : List (Nat × Nat)) (pc : CutP) (x : cutT pc) (dec : List Comp → Option R) : Option R :=
  den { X with n := f.ntmps, keep := keepOf outs } E C (bodyOf f) 0 (cutFr pc x) (endK { X with n := f.ntmps, keep := keepOf outs } f outs dec)
noncomputable def denFnH {N : Type} (X : Env) (E : FuncId → Option Fn) (C : Cuts N) (f : Func) (hand : List (Nat × Bool)) (pr : CompPs) (bs : BoxPs) (pc : CutP) (x : cutT pc) (d : compT pr × boxPT bs → N) : Option N :=
  den { X with n := f.ntmps, keep := handN hand, ro := roOf hand } E C (bodyOf f) 0 (cutFr pc x) (endH { X with n := f.ntmps, keep := handN hand, ro := roOf hand } f pr bs d)
noncomputable def denFnB {N : Type} (X : Env) (E : FuncId → Option Fn) (C : Cuts N) (f : Func) (pr : CompPs) (bp : List FPat) (pc : CutP) (x : cutT pc) (d : compT pr × fpatsT bp → N) : Option N :=
  den { X with n := f.ntmps, keep := [0] } E C (bodyOf f) 0 (cutFr pc x) (endB { X with n := f.ntmps, keep := [0] } f pr bp d)
noncomputable def denFnR {N : Type} (X : Env) (E : FuncId → Option Fn) (C : Cuts N) (f : Func) (bp : List FPat) (pc : CutP) (x : cutT pc) (d : fpatsT bp → N) : Option N :=
  den { X with n := f.ntmps, keep := [] } E C (bodyOf f) 0 (cutFr pc x) (endR f bp d)
noncomputable def denFnM {N : Type} (X : Env) (E : FuncId → Option Fn) (C : Cuts N) (f : Func) (k v : Ty) (pc : CutP) (x : cutT pc) (d : List (Den k × Den v) → N) : Option N :=
  den { X with n := f.ntmps, keep := [] } E C (bodyOf f) 0 (cutFr pc x) (endM f k v d)
end Go.Rv
namespace Go.Rv
def rep (w : World) (S : Nat → Nat → Prop) : (t : Ty) → Den t → List Value → Prop
  | .int k, n, cs => cs = [.int k n]
  | .bool, b, cs => cs = [.bool b]
  | .str, s, cs => cs = [.string s]
  | .pair a b, x, cs => ∃ c d, cs = c ++ d ∧ rep w S a x.1 c ∧ rep w S b x.2 d
  | .sl t, xs, cs => ∃ A cap, cs = [.slice A xs.length cap] ∧ xs.length ≤ cap ∧ ∀ i x, xs[i]? = some x → ∃ a ecs, A = some a ∧ a.spot = none ∧ rep w S t x ecs ∧
      ∀ j u, ecs[j]? = some u → S a.block (a.off + (i * t.cells + j)) ∧ w.cell? ⟨a.block, a.off + (i * t.cells + j), none⟩ = some u
abbrev RS (w : World) (S : Nat → Nat → Prop) (t : Ty) (xs : List (Den t)) (v : Value) : Prop := rep w S (.sl t) xs [v]
theorem rep_length {w : World} {S : Nat → Nat → Prop} : ∀ {t : Ty} {x : Den t} {cs : List Value}, rep w S t x cs → cs.length = t.cells
  | .int _, _, _, h => by simp only [rep] at h; subst h; rfl
  | .bool, _, _, h => by simp only [rep] at h; subst h; rfl
  | .str, _, _, h => by simp only [rep] at h; subst h; rfl
  | .pair a b, _, _, h => by
    simp only [rep] at h
    obtain ⟨c, d, rfl, h1, h2⟩ := h
    simp [Ty.cells, rep_length h1, rep_length h2]
  | .sl _, _, _, h => by simp only [rep] at h; obtain ⟨A, cap, rfl, _⟩ := h; rfl
theorem rep_one {w : World} {S : Nat → Nat → Prop} : ∀ {t : Ty} {x : Den t} {cs : List Value}, rep w S t x cs → ∀ u ∈ cs, u.oneCell' = true
  | .int _, _, _, h => by simp only [rep] at h; subst h; simp [Value.oneCell']
  | .bool, _, _, h => by simp only [rep] at h; subst h; simp [Value.oneCell']
  | .str, _, _, h => by simp only [rep] at h; subst h; simp [Value.oneCell']
  | .pair a b, _, _, h => by
    simp only [rep] at h
    obtain ⟨c, d, rfl, h1, h2⟩ := h
    intro u hu
    rcases List.mem_append.1 hu with hu | hu
    · exact rep_one h1 u hu
    · exact rep_one h2 u hu
  | .sl _, _, _, h => by simp only [rep] at h; obtain ⟨A, cap, rfl, _⟩ := h; simp [Value.oneCell']
theorem rep_mono {w w' : World} {S S' : Nat → Nat → Prop} (hs : ∀ b o, S b o → S' b o ∧ w'.cell? ⟨b, o, none⟩ = w.cell? ⟨b, o, none⟩) :
    ∀ {t : Ty} {x : Den t} {cs : List Value}, rep w S t x cs → rep w' S' t x cs
  | .int _, _, _, h => h
  | .bool, _, _, h => h
  | .str, _, _, h => h
  | .pair a b, _, _, h => by
    simp only [rep] at h ⊢
    obtain ⟨c, d, rfl, h1, h2⟩ := h
    exact ⟨c, d, rfl, rep_mono hs h1, rep_mono hs h2⟩
  | .sl t, _, _, h => by
    simp only [rep] at h ⊢
    obtain ⟨A, cap, rfl, hc, h⟩ := h
    refine ⟨A, cap, rfl, hc, fun i x hx => ?_⟩
    obtain ⟨a, ecs, hA, hsp, hr, hj⟩ := h i x hx
    exact ⟨a, ecs, hA, hsp, rep_mono hs hr, fun j u hu => ⟨(hs _ _ (hj j u hu).1).1, by rw [(hs _ _ (hj j u hu).1).2]; exact (hj j u hu).2⟩⟩
theorem rep_flat {w w' : World} {S S' : Nat → Nat → Prop} : ∀ {t : Ty} {x : Den t} {cs : List Value}, t.flat = true → rep w S t x cs → rep w' S' t x cs
  | .int _, _, _, _, h => h
  | .bool, _, _, _, h => h
  | .str, _, _, _, h => h
  | .pair a b, _, _, hf, h => by
    simp only [Ty.flat, Bool.and_eq_true] at hf
    simp only [rep] at h ⊢
    obtain ⟨c, d, rfl, h1, h2⟩ := h
    exact ⟨c, d, rfl, rep_flat hf.1 h1, rep_flat hf.2 h2⟩
  | .sl t, _, _, hf, _ => by simp [Ty.flat] at hf
inductive Place where
  | at (s i c : Nat) | air (j : Nat)
  deriving DecidableEq
structure Gh where
  B : Nat
  M : Nat → Prop
  Z : Nat → Nat → Prop
  S : Nat → Nat → Prop
  O : Nat → Option Place
  H : Nat → Nat → Option Value
  X : Nat → Option Nat
  ro : List Nat := []
def Gh.SO (g : Gh) (w : World) (p : Place) : Nat → Nat → Prop := fun b o => g.S b o ∧ g.O b = some p ∧ ∃ arr e, w.heap[b]? = some (.cells arr e (0, 0))
def Gh.L (g : Gh) (b : Nat) : Prop := b < g.B ∧ ¬ g.M b
def relF (w : World) (g : Gh) : CV → Value → Prop
  | .dead, v => v.oneCell' = true
  | .undef, _ => False
  | .int k n, v => v = .int k n
  | .bool b, v => v = .bool b
  | .str s, v => v = .string s
  | .nils, v => v = .slice none 0 0
  | .lo t xs, v => RS w g.Z t xs v
  | .hi t xs, v => RS w g.S t xs v
  | _, _ => False
def PL (w : World) (g : Gh) (Q : Nat → Nat → Prop) (a : Addr) (cs : List CV) : Prop :=
  a.spot = none ∧ ∀ j c, cs[j]? = some c → Q a.block (a.off + j) ∧ ∃ u, w.cell? ⟨a.block, a.off + j, none⟩ = some u ∧ relF w g c u
def Apart (cur : Array Value) (n b : Nat) : Prop :=
  (∀ (o1 o2 : Nat) (a1 a2 : Addr) (n1 c1 n2 c2 : Nat), o1 < n → o2 < n → o1 ≠ o2 → cur[o1]? = some (.slice (some a1) n1 c1) → cur[o2]? = some (.slice (some a2) n2 c2) → 0 < n1 → 0 < n2 → a1.block ≠ a2.block) ∧
  (∀ (o : Nat) (a : Addr) (n1 c1 : Nat), o < n → cur[o]? = some (.slice (some a) n1 c1) → 0 < n1 → a.block ≠ b)
def OwnR (w : World) (g : Gh) (p : Place) (t : Ty) (xs : List (Den t)) (v : Value) : Prop :=
  (v = .slice none 0 0 ∧ xs = []) ∨
  ∃ b cap cur e, v = .slice (some ⟨b, 0, none⟩) xs.length cap ∧ g.O b = some p ∧ w.heap[b]? = some (.cells cur e (0, 0)) ∧ xs.length ≤ cap ∧ cap ≤ maxLen ∧ cur.size = cap * t.cells ∧
    (∀ i x, xs[i]? = some x → ∃ ecs, rep w (g.SO w p) t x ecs ∧ ∀ j u, ecs[j]? = some u → cur[i * t.cells + j]? = some u) ∧ (∀ o, g.S b o ↔ o < xs.length * t.cells) ∧ Apart cur (xs.length * t.cells) b
def encF : (t : Ty) → Den t → List Value
  | .int k, n => [.int k n]
  | .bool, b => [.bool b]
  | .str, s => [.string s]
  | .pair a b, x => encF a x.1 ++ encF b x.2
  | .sl _, _ => []
def encV (t : Ty) (x : Den t) : Value := match t, x with
  | .pair a b, x => .agg (encF (.pair a b) x).toArray
  | .int k, n => .int k n
  | .bool, b => .bool b
  | .str, s => .string s
  | .sl _, _ => undef
def MapIs (w : World) (b : Nat) (k v : Ty) (xs : List (Den k × Den v)) : Prop :=
  ∃ es clock, w.heap[b]? = some (.map es clock) ∧ es.toList.map (fun e => (e.key, e.val)) = xs.map (fun p => (encV k p.1, encV v p.2)) ∧ (xs.map fun p => encV k p.1).Nodup ∧ (∀ p ∈ xs, kwf k p.1 = true) ∧ (es.toList.map (·.born)).Nodup ∧ ∀ x ∈ es.toList, x.born < clock
def IterIs (w : World) (b bm : Nat) (k v : Ty) (xs : List (Den k × Den v)) (cur : Option (Den k × Den v)) : Prop :=
  ∃ es clock since seen c0, w.heap[bm]? = some (.map es clock) ∧ w.heap[b]? = some (.mapIter (some bm) since seen c0) ∧ (leftOf es seen).toList.map (fun e => (e.key, e.val)) = xs.map (fun p => (encV k p.1, encV v p.2)) ∧
    (es.toList.map (·.born)).Nodup ∧ (∀ x ∈ es.toList, x.born < since) ∧ since ≤ c0 ∧ since ≤ clock ∧ ∀ c, cur = some c → ∃ (e : MapEntry) (s0 : Array Nat), e ∈ es.toList ∧ seen = s0.push e.born ∧ c0 = clock ∧ e.key = encV k c.1 ∧ e.val = encV v c.2
def relP (w : World) (g : Gh) (bx : Nat → Bool) : CV → Value → Prop
  | .mptr s, v => bx s = true ∧ ∃ b, g.X s = some b ∧ v = .map (some b)
  | .ptr s c, v => bx s = true ∧ ∃ b, g.X s = some b ∧ v = .pointer (some ⟨b, c, none⟩)
  | .rptr cs, v => ∃ a, v = .pointer (some a) ∧ PL w g (fun b _ => g.L b) a cs
  | .hptr cs, v => ∃ a, v = .pointer (some a) ∧ PL w g g.S a cs
  | .eptr s c t i k cs, v => ∃ a, v = .pointer (some a) ∧ PL w g g.S a cs ∧
      ∀ u, g.H s c = some u → ∃ n cap, u = .slice (some ⟨a.block, 0, none⟩) n cap ∧ 0 ≤ i ∧ i < (n : Int) ∧ a.off = i.toNat * t.cells + k
  | c, v => relF w g c v
def rel (w : World) (g : Gh) (bx : Nat → Bool) (p : Place) : CV → Value → Prop
  | .own t xs, v => OwnR w g p t xs v ∧ match p with | .at s i c => i = 0 ∧ g.H s c = some v | .air _ => False
  | .tmpo t xs, v => OwnR w g p t xs v ∧ match p with | .at s _ c => g.H s c = none | .air _ => True
  | .ref s c t xs, v => RS w g.S t xs v ∧ ∀ u, g.H s c = some u → u = v
  | .fn f caps, v => ∃ cs : List Value, v = .func (.func f) #[] cs.toArray ∧ cs.length = caps.length ∧ ∀ (j : Nat) (c : CV), caps[j]? = some c → ∃ u : Value, cs[j]? = some u ∧ relP w g bx c u
  | c, v => relP w g bx c v
theorem relF_one {w : World} {g : Gh} : ∀ {c : CV} {v : Value}, relF w g c v → v.oneCell' = true
  | .dead, _, h => h
  | .int _ _, _, h => by simp only [relF] at h; subst h; rfl
  | .bool _, _, h => by simp only [relF] at h; subst h; rfl
  | .str _, _, h => by simp only [relF] at h; subst h; rfl
  | .nils, _, h => by simp only [relF] at h; subst h; rfl
  | .lo _ _, v, h => rep_one h v (by simp)
  | .hi _ _, v, h => rep_one h v (by simp)
theorem relP_one {w : World} {g : Gh} {bx : Nat → Bool} : ∀ {c : CV} {v : Value}, relP w g bx c v → v.oneCell' = true
  | .undef, _, h => h.elim
  | .mbox _, _, h => h.elim
  | .own _ _, _, h => h.elim
  | .tmpo _ _, _, h => h.elim
  | .ref _ _ _ _, _, h => h.elim
  | .fn _ _, _, h => h.elim
  | .ptr _ _, _, h => by obtain ⟨_, _, _, rfl⟩ := h; rfl
  | .mptr _, _, h => by obtain ⟨_, _, _, rfl⟩ := h; rfl
  | .rptr _, _, h => by obtain ⟨_, rfl, _⟩ := h; rfl
  | .hptr _, _, h => by obtain ⟨_, rfl, _⟩ := h; rfl
  | .eptr _ _ _ _ _ _, _, h => by obtain ⟨_, rfl, _⟩ := h; rfl
  | .dead, _, h => relF_one (w := w) (g := g) (c := .dead) h
  | .int k n, _, h => relF_one (w := w) (g := g) (c := .int k n) h
  | .bool b, _, h => relF_one (w := w) (g := g) (c := .bool b) h
  | .str s, _, h => relF_one (w := w) (g := g) (c := .str s) h
  | .nils, _, h => relF_one (w := w) (g := g) (c := .nils) h
  | .lo t xs, _, h => relF_one (w := w) (g := g) (c := .lo t xs) h
  | .hi t xs, _, h => relF_one (w := w) (g := g) (c := .hi t xs) h
theorem OwnR_one {w : World} {g : Gh} {p : Place} {t : Ty} {xs : List (Den t)} {v : Value} (h : OwnR w g p t xs v) : v.oneCell' = true := by
  rcases h with ⟨rfl, _⟩ | ⟨_, _, _, _, rfl, _⟩ <;> rfl
theorem rel_one {w : World} {g : Gh} {bx : Nat → Bool} {p : Place} : ∀ {c : CV} {v : Value}, rel w g bx p c v → v.oneCell' = true
  | .undef, _, h => h.elim
  | .mbox _, _, h => h.elim
  | .own _ _, _, h => OwnR_one h.1
  | .tmpo _ _, _, h => OwnR_one h.1
  | .ref _ _ _ _, v, h => rep_one h.1 v (by simp)
  | .fn _ _, _, h => by obtain ⟨_, rfl, _⟩ := h; rfl
  | .ptr s c, _, h => relP_one (w := w) (g := g) (bx := bx) (c := .ptr s c) h
  | .mptr s, _, h => by obtain ⟨_, b, _, rfl⟩ := h; rfl
  | .rptr cs, _, h => relP_one (w := w) (g := g) (bx := bx) (c := .rptr cs) h
  | .hptr cs, _, h => relP_one (w := w) (g := g) (bx := bx) (c := .hptr cs) h
  | .eptr s c t i k cs, _, h => relP_one (w := w) (g := g) (bx := bx) (c := .eptr s c t i k cs) h
  | .dead, _, h => relF_one (w := w) (g := g) (c := .dead) h
  | .int k n, _, h => relF_one (w := w) (g := g) (c := .int k n) h
  | .bool b, _, h => relF_one (w := w) (g := g) (c := .bool b) h
  | .str s, _, h => relF_one (w := w) (g := g) (c := .str s) h
  | .nils, _, h => relF_one (w := w) (g := g) (c := .nils) h
  | .lo t xs, _, h => relF_one (w := w) (g := g) (c := .lo t xs) h
  | .hi t xs, _, h => relF_one (w := w) (g := g) (c := .hi t xs) h
theorem OwnR.elems {w w' : World} {g g' : Gh} {p q : Place} (hm : ∀ b o, g.SO w p b o → g'.SO w' q b o ∧ w'.cell? ⟨b, o, none⟩ = w.cell? ⟨b, o, none⟩) {t : Ty} {xs : List (Den t)} {cur : Array Value}
    (h : ∀ i x, xs[i]? = some x → ∃ ecs, rep w (g.SO w p) t x ecs ∧ ∀ (j : Nat) (u : Value), ecs[j]? = some u → cur[i * t.cells + j]? = some u) :
    ∀ i x, xs[i]? = some x → ∃ ecs, rep w' (g'.SO w' q) t x ecs ∧ ∀ (j : Nat) (u : Value), ecs[j]? = some u → cur[i * t.cells + j]? = some u := fun i x hi => by
  obtain ⟨ecs, e1, e2⟩ := h i x hi
  exact ⟨ecs, rep_mono hm e1, e2⟩
theorem rep_flat_cell {w : World} {S : Nat → Nat → Prop} : ∀ {t : Ty} {x : Den t} {cs : List Value}, t.flat = true → rep w S t x cs → ∀ u ∈ cs, ∀ (A : Option Addr) (n c : Nat), u ≠ .slice A n c
  | .int _, _, _, _, h, u, hu, A, n, c => by simp only [rep] at h; subst h; simp at hu; subst hu; simp
  | .bool, _, _, _, h, u, hu, A, n, c => by simp only [rep] at h; subst h; simp at hu; subst hu; simp
  | .str, _, _, _, h, u, hu, A, n, c => by simp only [rep] at h; subst h; simp at hu; subst hu; simp
  | .pair a b, _, _, hf, h, u, hu, A, n, c => by
    simp only [Ty.flat, Bool.and_eq_true] at hf
    simp only [rep] at h
    obtain ⟨c1, d1, rfl, h1, h2⟩ := h
    rcases List.mem_append.1 hu with hu | hu
    · exact rep_flat_cell hf.1 h1 u hu A n c
    · exact rep_flat_cell hf.2 h2 u hu A n c
  | .sl _, _, _, hf, _, _, _, _, _, _ => by simp [Ty.flat] at hf
theorem cells_pos0 (t : Ty) : 0 < t.cells := by induction t <;> simp_all [Ty.cells]; omega
theorem apart_flat {w : World} {S : Nat → Nat → Prop} {t : Ty} (hf : t.flat = true) {xs : List (Den t)} {cur : Array Value} (h : ∀ i x, xs[i]? = some x → ∃ ecs, rep w S t x ecs ∧ ∀ (j : Nat) (u : Value), ecs[j]? = some u → cur[i * t.cells + j]? = some u) (b : Nat) : Apart cur (xs.length * t.cells) b := by
  have key : ∀ (o : Nat) (A : Option Addr) (n c : Nat), o < xs.length * t.cells → cur[o]? ≠ some (.slice A n c) := fun o A n c ho e => by
    have hp := cells_pos0 t
    have hi : o / t.cells < xs.length := (Nat.div_lt_iff_lt_mul hp).2 ho
    obtain ⟨ecs, hr, hc⟩ := h (o / t.cells) xs[o / t.cells] (List.getElem?_eq_getElem hi)
    have hj : o % t.cells < ecs.length := by rw [rep_length hr]; exact Nat.mod_lt _ hp
    have := hc (o % t.cells) ecs[o % t.cells] (List.getElem?_eq_getElem hj)
    rw [Nat.mul_comm, Nat.div_add_mod] at this
    rw [this] at e
    exact rep_flat_cell hf hr _ (List.getElem_mem hj) A n c (Option.some.inj e)
  exact ⟨fun o1 o2 a1 a2 n1 c1 n2 c2 h1 _ _ e => (key o1 _ _ _ h1 e).elim, fun o a n1 c1 h1 e => (key o _ _ _ h1 e).elim⟩
theorem OwnR.reads {w : World} {g : Gh} {p : Place} {t : Ty} {xs : List (Den t)} {v : Value} (h : OwnR w g p t xs v) : RS w g.S t xs v := by
  rcases h with ⟨rfl, rfl⟩ | ⟨b, cap, cur, e, rfl, hO, hb, h1, h2, hs, hx, hS⟩
  · exact ⟨none, 0, rfl, Nat.le_refl _, fun i x hx => by simp at hx⟩
  · refine ⟨some ⟨b, 0, none⟩, cap, rfl, h1, fun i x hi => ?_⟩
    obtain ⟨ecs, hr, hj⟩ := hx i x hi
    refine ⟨_, ecs, rfl, rfl, rep_mono (fun b o hs => ⟨hs.1, rfl⟩) hr, fun j u hu => ?_⟩
    have hlt : i < xs.length := (List.getElem?_eq_some_iff.1 hi).1
    have hjl : j < ecs.length := (List.getElem?_eq_some_iff.1 hu).1
    rw [rep_length hr] at hjl
    have hm : (i + 1) * t.cells ≤ xs.length * t.cells := Nat.mul_le_mul_right _ hlt
    rw [Nat.add_mul] at hm
    simp only [Nat.zero_add]
    exact ⟨(hS.1 _).2 (by omega), by rw [cell_of_row w b _ cur e (0, 0) hb]; exact hj j u hu⟩
def cellsRel (w : World) (g : Gh) (bx : Nat → Bool) (s i : Nat) (cs : List CV) (vs : List Value) : Prop :=
  vs.length = cs.length ∧ ∀ j c, cs[j]? = some c → ∃ u, vs[j]? = some u ∧ rel w g bx (.at s i (j + 1)) c u
def CRel (w : World) (g : Gh) (bx : Nat → Bool) (s i : Nat) (p : Comp) (v : Value) : Prop :=
  match p with
  | (true, cs) => ∃ vs : List Value, v = .agg vs.toArray ∧ cellsRel w g bx s i cs vs
  | (false, cs) => ∃ c, cs = [c] ∧ (c = .dead ∨ c = .undef ∧ v = undef ∨ rel w g bx (.at s i 1) c v)
def BO (g : Gh) (s b : Nat) : Prop := (s ∈ g.ro → g.L b) ∧ (s ∉ g.ro → g.O b = some (.at s 0 0))
def BoxR (w : World) (g : Gh) (bx : Nat → Bool) (s : Nat) (cs : List CV) : Prop :=
  ∃ b arr ty, g.X s = some b ∧ BO g s b ∧ w.heap[b]? = some (.cells arr ty (0, 0)) ∧ cellsRel w g bx s 0 cs arr.toList
def SRel (w : World) (g : Gh) (bx : Nat → Bool) (s : Nat) (x : SV) (v : Value) : Prop :=
  match x with
  | .comp b cs => CRel w g bx s 0 (b, cs) v
  | .tup vs => ∃ us : List Value, v = .tuple us.toArray ∧ us.length = vs.length ∧ ∀ i p, vs[i]? = some p → ∃ u, us[i]? = some u ∧ CRel w g bx s i p u
  | .box cs => BoxR w g bx s cs ∧ ∃ b, g.X s = some b ∧ v = .pointer (some ⟨b, 0, none⟩)
  | .mapb k t xs (some cur) => ∃ b bm, g.O b = some (.at s 0 1) ∧ g.O bm = some (.at s 0 2) ∧ IterIs w b bm k t xs cur ∧ v = .pointer (some ⟨b, 0, none⟩)
  | .mapb k t xs none => ∃ b, g.X s = some b ∧ g.O b = some (.at s 0 0) ∧ MapIs w b k t xs ∧ v = .map (some b)
def isBox (fr : Fr) (s : Nat) : Bool := !notBox (fr s)
structure St where
  B : Nat
  M : Nat → Prop
  Z : Nat → Nat → Prop
  n : Nat
  keep : List Nat
  ro : List Nat := []
  args : Array Value
  w0 : World
structure Ok (st : St) (g : Gh) (fr : Fr) (a : Act) (w : World) : Prop where
  eB : g.B = st.B
  eR : g.ro = st.ro ∧ ∀ j ∈ st.ro, j ∈ st.keep
  eM : g.M = st.M
  eZ : g.Z = st.Z
  size : a.tmps.size = st.n
  defers : a.defers = []
  slot : ∀ s, SRel w g (isBox fr) s (fr s) (a.tmps.getD s undef)
  keep : ∀ j ∈ st.keep, a.tmps[j]? = st.args[j]?
  os : w.os = st.w0.os
  tape : w.tape = st.w0.tape
  output : w.output = st.w0.output
  heap : st.B ≤ w.heap.size
  old : ∀ b, b < st.B → ¬ st.M b → w.heap[b]? = st.w0.heap[b]?
  own : ∀ b p, g.O b = some p → b < w.heap.size ∧ (b < st.B → st.M b)
  stab : ∀ b o, g.S b o → b < w.heap.size
  boxS : ∀ b s, g.O b = some (.at s 0 0) → ∀ o, ¬ g.S b o
  zs : ∀ b o, st.Z b o → g.S b o ∧ b < st.B ∧ ¬ st.M b
  sz : ∀ b o, b < st.B → ¬ st.M b → g.S b o → st.Z b o
  hh : ∀ s c u, g.H s c = some u → u = .slice none 0 0 ∨ ∃ b n cap, u = .slice (some ⟨b, 0, none⟩) n cap
theorem Ok.boxO {st : St} {g : Gh} {fr : Fr} {a : Act} {w : World} (h : Ok st g fr a w) {s b : Nat} {p : Place} (hb : BO g s b) (hO : g.O b = some p) : p = .at s 0 0 := by
  by_cases hr : s ∈ g.ro
  · have hl := hb.1 hr
    have h1 := (h.own b p hO).2 (by rw [← h.eB]; exact hl.1)
    rw [← h.eM] at h1
    exact (hl.2 h1).elim
  · have := hb.2 hr
    rw [hO] at this
    exact Option.some.inj this
end Go.Rv
namespace Go.Rv
open Go.RowKit Go.Maps
def MapTyOk (P : Program) (t : TypeId) (k v : Ty) : Prop :=
  ∃ kt vt, P.underlying t = some (.map kt vt) ∧ Keyed P kt ∧ (∀ x : Den k, kwf k x = true → ∃ l, keyOf P kt (encV k x) = some l) ∧ ∀ w, (zeroValue vt).run P w = .ok (encV v v.zero) w
theorem encF_inj : ∀ {t : Ty}, kflat t = true → ∀ {x y : Den t} {r s : List Value}, encF t x ++ r = encF t y ++ s → x = y ∧ r = s
  | .int k, _, x, y, r, s, h => by simp [encF] at h; exact h
  | .bool, _, x, y, r, s, h => by simp [encF] at h; exact h
  | .str, _, x, y, r, s, h => by simp [encF] at h; exact h
  | .pair a b, hf, x, y, r, s, h => by
    simp only [kflat, Bool.and_eq_true] at hf
    simp only [encF, List.append_assoc] at h
    obtain ⟨h1, h2⟩ := encF_inj hf.1 h
    obtain ⟨h3, h4⟩ := encF_inj hf.2 h2
    exact ⟨Prod.ext h1 h3, h4⟩
theorem encV_inj {t : Ty} (hf : kflat t = true) {x y : Den t} (h : encV t x = encV t y) : x = y := by
  cases t with
  | int k => simp [encV] at h; exact h
  | bool => simp [encV] at h; exact h
  | str => simp [encV] at h; exact h
  | sl => cases hf
  | pair a b =>
    simp only [encV, Value.agg.injEq] at h
    have h := congrArg Array.toList h
    exact (encF_inj hf (r := []) (s := []) (by simpa using h)).1
theorem mget_none {K V : Type} {x : K} : ∀ {xs : List (K × V)}, (∀ p ∈ xs, p.1 ≠ x) → mget x xs = none
  | [], _ => rfl
  | p :: r, h => by rw [mget, if_neg (h p List.mem_cons_self)]; exact mget_none fun q hq => h q (List.mem_cons_of_mem _ hq)
theorem mget_at {K V : Type} {x : K} : ∀ {xs : List (K × V)} {j : Nat} {y : V}, (xs.map (·.1)).Nodup → xs[j]? = some (x, y) → mget x xs = some y
  | [], _, _, _, h => by simp at h
  | p :: r, 0, y, _, h => by simp at h; subst h; simp [mget]
  | p :: r, j + 1, y, hn, h => by
    simp only [List.map_cons, List.nodup_cons] at hn
    simp at h
    have : p.1 ≠ x := fun e => hn.1 (e ▸ List.mem_map.2 ⟨_, List.mem_of_getElem? h, rfl⟩)
    rw [mget, if_neg this]
    exact mget_at hn.2 h
variable {P : Program} {t : TypeId} {k v : Ty} {w : World} {b : Nat} {xs : List (Den k × Den v)}
theorem keys_nodup (h : (xs.map fun p => encV k p.1).Nodup) : (xs.map (·.1)).Nodup := by
  have : xs.map (fun p => encV k p.1) = (xs.map (·.1)).map (encV k) := by simp
  rw [this] at h
  exact List.Pairwise.of_map _ (fun a b hab e => hab (e ▸ rfl)) h
theorem run_look (hM : MapTyOk P t k v) (hf : kflat k = true) (h : MapIs w b k v xs) (x : Den k) (hkw : kwf k x = true) :
    (Instr.lookup t (.map (some b)) (encV k x) true).run P w = .ok (.tuple #[encV v ((mget x xs).getD v.zero), .bool (mget x xs).isSome]) w := by
  obtain ⟨kt, vt, h1, K, h2, h3⟩ := hM
  obtain ⟨es, clock, e1, e2, e3, e4, e5, e6⟩ := h
  obtain ⟨l, hl⟩ := h2 x hkw
  have hkeys : ∀ e ∈ es.toList, ∃ p ∈ xs, e.key = encV k p.1 ∧ e.val = encV v p.2 := by
    intro e he
    have : (e.key, e.val) ∈ xs.map (fun p => (encV k p.1, encV v p.2)) := e2 ▸ List.mem_map.2 ⟨e, he, rfl⟩
    obtain ⟨p, hp, q⟩ := List.mem_map.1 this
    exact ⟨p, hp, (congrArg Prod.fst q).symm, (congrArg Prod.snd q).symm⟩
  rcases K.find w hl es.toList (fun e he => by obtain ⟨p, hp, q, _⟩ := hkeys e he; rw [q]; exact h2 p.1 (e4 p hp)) with ⟨f1, f2⟩ | ⟨j, e0, f1, f2, f3⟩
  · have hn : mget x xs = none := mget_none fun p hp e => by
      have : (encV k p.1, encV v p.2) ∈ es.toList.map (fun e => (e.key, e.val)) := e2 ▸ List.mem_map.2 ⟨p, hp, rfl⟩
      obtain ⟨e', he', q⟩ := List.mem_map.1 this
      have q1 : e'.key = encV k p.1 := congrArg Prod.fst q
      exact f2 e' he' (q1.trans (by rw [e]))
    rw [hn]
    simp [Instr.lookup, run_underlying h1, MapKept.run_getObj_map e1, K.check w _ hl, f1, h3 w, Result.andThen]
  · have hj : xs[j]?.map (fun p => (encV k p.1, encV v p.2)) = some (e0.key, e0.val) := by
      rw [← List.getElem?_map, ← e2, List.getElem?_map, f2]; rfl
    cases hx : xs[j]? with
    | none => rw [hx] at hj; cases hj
    | some p =>
      rw [hx] at hj
      simp only [Option.map_some, Option.some.injEq, Prod.mk.injEq] at hj
      have hp : p.1 = x := encV_inj hf (hj.1.trans f3)
      have hg : mget x xs = some p.2 := mget_at (j := j) (keys_nodup e3) (by rw [hx, ← hp])
      rw [hg]
      simp [Instr.lookup, run_underlying h1, MapKept.run_getObj_map e1, K.check w _ hl, f1, ← hj.2, Result.andThen]
theorem mput_none {K V : Type} {x : K} {y : V} : ∀ {xs : List (K × V)}, (∀ p ∈ xs, p.1 ≠ x) → mput x y xs = xs ++ [(x, y)]
  | [], _ => rfl
  | p :: r, h => by rw [mput, if_neg (h p List.mem_cons_self), mput_none fun q hq => h q (List.mem_cons_of_mem _ hq)]; rfl
theorem mput_at {K V : Type} {x : K} {y z : V} : ∀ {xs : List (K × V)} {j : Nat}, (xs.map (·.1)).Nodup → xs[j]? = some (x, z) → mput x y xs = xs.set j (x, y)
  | [], _, _, h => by simp at h
  | p :: r, 0, _, h => by simp at h; subst h; simp [mput]
  | p :: r, j + 1, hn, h => by
    simp only [List.map_cons, List.nodup_cons] at hn
    simp at h
    have : p.1 ≠ x := fun e => hn.1 (e ▸ List.mem_map.2 ⟨_, List.mem_of_getElem? h, rfl⟩)
    rw [mput, if_neg this, mput_at hn.2 h]
    rfl
open Go.ChangeMaps (setBlock modify_eq_set) in
theorem run_put (hM : MapTyOk P t k v) (hf : kflat k = true) (h : MapIs w b k v xs) (x : Den k) (hkw : kwf k x = true) (y : Den v) :
    ∃ es' clock', (Instr.mapUpdate t (.map (some b)) (encV k x) (encV v y)).run P w = .ok () (setBlock w b (.map es' clock')) ∧ MapIs (setBlock w b (.map es' clock')) b k v (mput x y xs) := by
  obtain ⟨kt, vt, h1, K, h2, h3⟩ := hM
  obtain ⟨es, clock, e1, e2, e3, e4, e5, e6⟩ := h
  obtain ⟨l, hl⟩ := h2 x hkw
  have hb : b < w.heap.size := (Array.getElem?_eq_some_iff.1 e1).1
  have hheap : ∀ o, (setBlock w b o).heap[b]? = some o := fun o => by simp [setBlock, hb]
  have hkeys : ∀ e ∈ es.toList, ∃ p ∈ xs, e.key = encV k p.1 ∧ e.val = encV v p.2 := by
    intro e he
    have : (e.key, e.val) ∈ xs.map (fun p => (encV k p.1, encV v p.2)) := e2 ▸ List.mem_map.2 ⟨e, he, rfl⟩
    obtain ⟨p, hp, q⟩ := List.mem_map.1 this
    exact ⟨p, hp, (congrArg Prod.fst q).symm, (congrArg Prod.snd q).symm⟩
  rcases K.find w hl es.toList (fun e he => by obtain ⟨p, hp, q, _⟩ := hkeys e he; rw [q]; exact h2 p.1 (e4 p hp)) with ⟨f1, f2⟩ | ⟨j, e0, f1, f2, f3⟩
  · have hne : ∀ p ∈ xs, encV k p.1 ≠ encV k x := fun p hp e => by
      have : (encV k p.1, encV v p.2) ∈ es.toList.map (fun e => (e.key, e.val)) := e2 ▸ List.mem_map.2 ⟨p, hp, rfl⟩
      obtain ⟨e', he', q⟩ := List.mem_map.1 this
      have q1 : e'.key = encV k p.1 := congrArg Prod.fst q
      exact f2 e' he' (q1.trans e)
    refine ⟨es.push ⟨encV k x, encV v y, clock⟩, clock + 1, ?_, _, _, hheap _, ?_, ?_, ?_, ?_, ?_⟩
    · simp [Instr.mapUpdate, run_underlying h1, MapKept.run_getObj_map e1, K.check w false hl, f1, MapKept.run_setObj_map _ e1, Result.andThen, setBlock]
    · rw [mput_none fun p hp e => hne p hp (by rw [e])]
      simp [e2]
    · rw [mput_none fun p hp e => hne p hp (by rw [e])]
      rw [List.map_append, List.nodup_append]
      refine ⟨e3, by simp, fun a ha c hc e => ?_⟩
      obtain ⟨p, hp, rfl⟩ := List.mem_map.1 ha
      simp at hc
      subst hc
      exact hne p hp e
    · rw [mput_none fun p hp e => hne p hp (by rw [e])]
      intro p hp
      rcases List.mem_append.1 hp with hp | hp
      · exact e4 p hp
      · simp at hp; subst hp; exact hkw
    · rw [Array.toList_push, List.map_append, List.nodup_append]
      refine ⟨e5, by simp, fun a ha c hc e => ?_⟩
      obtain ⟨x', hx', rfl⟩ := List.mem_map.1 ha
      simp at hc
      have := e6 x' hx'
      omega
    · intro x' hx'
      rw [Array.toList_push] at hx'
      rcases List.mem_append.1 hx' with hx' | hx'
      · have := e6 x' hx'; omega
      · simp at hx'; subst hx'; simp
  · have hjl : j < es.size := by simpa using (List.getElem?_eq_some_iff.1 f2).1
    have hje : es[j]? = some e0 := by simpa using f2
    have hj : xs[j]?.map (fun p => (encV k p.1, encV v p.2)) = some (e0.key, e0.val) := by
      rw [← List.getElem?_map, ← e2, List.getElem?_map, f2]; rfl
    cases hx : xs[j]? with
    | none => rw [hx] at hj; cases hj
    | some p =>
      rw [hx] at hj
      simp only [Option.map_some, Option.some.injEq, Prod.mk.injEq] at hj
      have hp : p.1 = x := encV_inj hf (hj.1.trans f3)
      have hput : mput x y xs = xs.set j (x, y) := mput_at (j := j) (z := p.2) (keys_nodup e3) (by rw [hx, ← hp])
      have hlist : (es.modify j (fun e' => { e' with key := encV k x, val := encV v y })).toList = es.toList.set j { e0 with key := encV k x, val := encV v y } := by rw [Array.toList_modify, modify_eq_set _ _ _ _ f2]
      have hsame : (es.toList.map fun e => (e.key, e.val)).set j (encV k x, encV v y) = ((xs.set j (x, y)).map fun p => (encV k p.1, encV v p.2)) := by
        rw [e2, List.map_set]
      refine ⟨es.modify j (fun e' => { e' with key := encV k x, val := encV v y }), clock, ?_, _, _, hheap _, ?_, ?_, ?_, ?_, ?_⟩
      · simp [Instr.mapUpdate, run_underlying h1, MapKept.run_getObj_map e1, K.check w false hl, f1, hje, f3, K.stays w hl, MapKept.run_setObj_map _ e1, Result.andThen, setBlock]
      · rw [hput, hlist, List.map_set, hsame]
      · rw [hput, List.map_set]
        have hset : (xs.map fun p => encV k p.1).set j (encV k x) = xs.map fun p => encV k p.1 := by
          apply List.ext_getElem? 
          intro i
          rw [List.getElem?_set]
          split
          · rename_i e
            subst e
            rw [List.getElem?_map, hx]
            split
            · simp [hp]
            · rename_i hlt
              exact absurd (by simpa using (List.getElem?_eq_some_iff.1 hx).1) hlt
          · rfl
        rw [hset]
        exact e3
      · rw [hput]
        intro p hp
        rcases List.mem_or_eq_of_mem_set hp with hp | rfl
        · exact e4 p hp
        · exact hkw
      · rw [hlist, List.map_set]
        have : (es.toList.map (·.born)).set j e0.born = es.toList.map (·.born) := by
          apply List.ext_getElem?
          intro i
          rw [List.getElem?_set]
          split
          · rename_i e
            subst e
            rw [List.getElem?_map, f2]
            split
            · rfl
            · rename_i hlt
              exact absurd (by simpa using hjl) hlt
          · rfl
        show ((es.toList.map (·.born)).set j e0.born).Nodup
        rw [this]
        exact e5
      · intro x' hx'
        rw [hlist] at hx'
        rcases List.mem_or_eq_of_mem_set hx' with hx' | rfl
        · exact e6 x' hx'
        · exact e6 e0 (List.mem_of_getElem? f2)
end Go.Rv
namespace Go.Rv
def mentions : CV → Nat → Bool
  | .ref s _ _ _, t | .eptr s _ _ _ _ _, t => s.beq t
  | .fn _ caps, t => caps.any fun c => match c with | .eptr s _ _ _ _ _ => s.beq t | _ => false
  | _, _ => false
structure Chg (g g' : Gh) (w w' : World) (bx bx' : Nat → Bool) (P : Place → Prop) (Hs : Nat → Prop) : Prop where
  cB : g'.B = g.B
  cM : g'.M = g.M
  cZ : g'.Z = g.Z
  zS : ∀ b o, g.Z b o → g.S b o
  cbx : ∀ s, bx s = true → bx' s = true
  cX : ∀ s, bx s = true → g'.X s = g.X s
  cS : ∀ b o, g.S b o → g'.S b o ∧ w'.cell? ⟨b, o, none⟩ = w.cell? ⟨b, o, none⟩
  cR : g'.ro = g.ro
  cL : ∀ b, g.L b → w'.heap[b]? = w.heap[b]?
  cO : ∀ b p, P p → g.O b = some p → g'.O b = some p ∧ w'.heap[b]? = w.heap[b]? ∧ ∀ o, g'.S b o ↔ g.S b o
  cH : ∀ s c u, Hs s → g'.H s c = some u → g.H s c = some u
  cHp : ∀ s i c, P (.at s i c) → g'.H s c = g.H s c
section
variable {g g' : Gh} {w w' : World} {bx bx' : Nat → Bool} {P : Place → Prop} {Hs : Nat → Prop}
theorem Chg.kRep (h : Chg g g' w w' bx bx' P Hs) {t : Ty} {x : Den t} {cs : List Value} (hr : rep w g.S t x cs) : rep w' g'.S t x cs := rep_mono h.cS hr
theorem Chg.kRepZ (h : Chg g g' w w' bx bx' P Hs) {t : Ty} {x : Den t} {cs : List Value} (hr : Rv.rep w g.Z t x cs) : Rv.rep w' g'.Z t x cs :=
  rep_mono (fun b o hz => ⟨by rw [h.cZ]; exact hz, (h.cS b o (h.zS b o hz)).2⟩) hr
theorem Chg.kRelF (h : Chg g g' w w' bx bx' P Hs) : ∀ {c : CV} {v : Value}, relF w g c v → relF w' g' c v
  | .dead, _, hr => hr
  | .int _ _, _, hr => hr
  | .bool _, _, hr => hr
  | .str _, _, hr => hr
  | .nils, _, hr => hr
  | .lo _ _, _, hr => h.kRepZ hr
  | .hi _ _, _, hr => h.kRep hr
theorem Chg.kPL (h : Chg g g' w w' bx bx' P Hs) {Q Q' : Nat → Nat → Prop} (hQ : ∀ b o, Q b o → Q' b o ∧ w'.cell? ⟨b, o, none⟩ = w.cell? ⟨b, o, none⟩) {a : Addr} {cs : List CV} (hr : PL w g Q a cs) : PL w' g' Q' a cs := by
  refine ⟨hr.1, fun j c hj => ?_⟩
  obtain ⟨hq, u, hu, hc⟩ := hr.2 j c hj
  exact ⟨(hQ _ _ hq).1, u, by rw [(hQ _ _ hq).2]; exact hu, h.kRelF hc⟩
theorem Chg.kCell (h : Chg g g' w w' bx bx' P Hs) (b o : Nat) (hl : g.L b) : g'.L b ∧ w'.cell? ⟨b, o, none⟩ = w.cell? ⟨b, o, none⟩ := by
  refine ⟨?_, World.cell?_of_block (w := w) (h.cL b hl)⟩
  unfold Gh.L at *
  rw [h.cB, h.cM]
  exact hl
theorem Chg.kBO (h : Chg g g' w w' bx bx' P Hs) {s b : Nat} (hp : P (.at s 0 0)) (hb : BO g s b) : BO g' s b ∧ w'.heap[b]? = w.heap[b]? := by
  by_cases hr : s ∈ g.ro
  · exact ⟨⟨fun _ => (h.kCell b 0 (hb.1 hr)).1, fun hn => (hn (h.cR ▸ hr)).elim⟩, h.cL b (hb.1 hr)⟩
  · obtain ⟨o1, o2, _⟩ := h.cO b _ hp (hb.2 hr)
    exact ⟨⟨fun hm => (hr (h.cR ▸ hm)).elim, fun _ => o1⟩, o2⟩
theorem Chg.kRelP (h : Chg g g' w w' bx bx' P Hs) : ∀ {c : CV} {v : Value}, (∀ s, (match c with | .eptr s' _ _ _ _ _ => s'.beq s | _ => false) = true → Hs s) → relP w g bx c v → relP w' g' bx' c v
  | .ptr s c, v, _, hr => by obtain ⟨h1, b, h2, h3⟩ := hr; exact ⟨h.cbx s h1, b, by rw [h.cX s h1]; exact h2, h3⟩
  | .mptr s, v, _, hr => by obtain ⟨h1, b, h2, h3⟩ := hr; exact ⟨h.cbx s h1, b, by rw [h.cX s h1]; exact h2, h3⟩
  | .rptr cs, v, _, hr => by obtain ⟨a, h1, h2⟩ := hr; exact ⟨a, h1, h.kPL (fun b o => h.kCell b o) h2⟩
  | .hptr cs, v, _, hr => by obtain ⟨a, h1, h2⟩ := hr; exact ⟨a, h1, h.kPL h.cS h2⟩
  | .eptr s c t i k cs, v, hm, hr => by
    obtain ⟨a, h1, h2, h3⟩ := hr
    exact ⟨a, h1, h.kPL h.cS h2, fun u hu => h3 u (h.cH s c u (hm s (by simp)) hu)⟩
  | .dead, _, _, hr => h.kRelF (c := .dead) hr
  | .int k n, _, _, hr => h.kRelF (c := .int k n) hr
  | .bool b, _, _, hr => h.kRelF (c := .bool b) hr
  | .str s, _, _, hr => h.kRelF (c := .str s) hr
  | .nils, _, _, hr => h.kRelF (c := .nils) hr
  | .lo t xs, _, _, hr => h.kRelF (c := .lo t xs) hr
  | .hi t xs, _, _, hr => h.kRelF (c := .hi t xs) hr
theorem Chg.kOwn (h : Chg g g' w w' bx bx' P Hs) {p : Place} (hp : P p) {t : Ty} {xs : List (Den t)} {v : Value} (hr : OwnR w g p t xs v) : OwnR w' g' p t xs v := by
  rcases hr with hr | ⟨b, cap, cur, e, h1, h2, h3, h4, h5, h6, h7, h8⟩
  · exact .inl hr
  · obtain ⟨o1, o2, o3⟩ := h.cO b p hp h2
    refine .inr ⟨b, cap, cur, e, h1, o1, by rw [o2]; exact h3, h4, h5, h6, fun i x hi => ?_, fun o => by rw [o3, h8.1], h8.2⟩
    obtain ⟨ecs, e1, e2⟩ := h7 i x hi
    exact ⟨ecs, rep_mono (fun b' o hs => by
      obtain ⟨p1, p2, p3⟩ := h.cO b' p hp hs.2.1
      exact ⟨⟨(p3 o).2 hs.1, p1, by rw [p2]; exact hs.2.2⟩, by unfold World.cell?; simp only [p2]⟩) e1, e2⟩
theorem Chg.kRel (h : Chg g g' w w' bx bx' P Hs) {p : Place} (hp : P p) : ∀ {c : CV} {v : Value}, (∀ s, mentions c s = true → Hs s) → rel w g bx p c v → rel w' g' bx' p c v
  | .own t xs, v, _, hr => by
    refine ⟨h.kOwn hp hr.1, ?_⟩
    have h2 := hr.2
    cases p with
    | air j => exact h2
    | «at» s i c => exact ⟨h2.1, by rw [h.cHp s i c hp]; exact h2.2⟩
  | .tmpo t xs, v, _, hr => by
    refine ⟨h.kOwn hp hr.1, ?_⟩
    have h2 := hr.2
    cases p with
    | air j => trivial
    | «at» s i c =>
      show g'.H s c = none
      rw [h.cHp s i c hp]; exact h2
  | .ref s c t xs, v, hm, hr => ⟨h.kRep hr.1, fun u hu => hr.2 u (h.cH s c u (hm s (by simp [mentions])) hu)⟩
  | .fn f caps, v, hm, hr => by
    obtain ⟨cs, h1, h2, h3⟩ := hr
    refine ⟨cs, h1, h2, fun j c hj => ?_⟩
    obtain ⟨u, hu, hc⟩ := h3 j c hj
    refine ⟨u, hu, h.kRelP (fun s hs => hm s ?_) hc⟩
    simp only [mentions, List.any_eq_true]
    exact ⟨c, List.mem_of_getElem? hj, by cases c <;> simp_all⟩
  | .ptr s c, _, _, hr => h.kRelP (c := .ptr s c) (by simp) hr
  | .mptr s, _, _, hr => h.kRelP (c := .mptr s) (by simp) hr
  | .rptr cs, _, _, hr => h.kRelP (c := .rptr cs) (by simp) hr
  | .hptr cs, _, _, hr => h.kRelP (c := .hptr cs) (by simp) hr
  | .eptr s c t i k cs, _, hm, hr => h.kRelP (c := .eptr s c t i k cs) (fun s' hs => hm s' hs) hr
  | .dead, _, _, hr => h.kRelF (c := .dead) hr
  | .int k n, _, _, hr => h.kRelF (c := .int k n) hr
  | .bool b, _, _, hr => h.kRelF (c := .bool b) hr
  | .str s, _, _, hr => h.kRelF (c := .str s) hr
  | .nils, _, _, hr => h.kRelF (c := .nils) hr
  | .lo t xs, _, _, hr => h.kRelF (c := .lo t xs) hr
  | .hi t xs, _, _, hr => h.kRelF (c := .hi t xs) hr
def cellsM (cs : List CV) (s : Nat) : Bool := cs.any (mentions · s)
def mentionsS : SV → Nat → Bool
  | .comp _ cs, s | .box cs, s => cellsM cs s
  | .tup vs, s => vs.any fun p => cellsM p.2 s
  | .mapb _ _ _ _, _ => false
theorem cellsM_of {cs : List CV} {s : Nat} {j : Nat} {c : CV} (hj : cs[j]? = some c) (h : mentions c s = true) : cellsM cs s = true :=
  List.any_eq_true.2 ⟨c, List.mem_of_getElem? hj, h⟩
theorem Chg.kCells (h : Chg g g' w w' bx bx' P Hs) {s i : Nat} (hp : ∀ c, P (.at s i c)) {cs : List CV} {vs : List Value} (hm : ∀ s, cellsM cs s = true → Hs s) (hr : cellsRel w g bx s i cs vs) : cellsRel w' g' bx' s i cs vs := by
  refine ⟨hr.1, fun j c hj => ?_⟩
  obtain ⟨u, hu, hc⟩ := hr.2 j c hj
  exact ⟨u, hu, h.kRel (hp _) (fun s' hs => hm s' (cellsM_of hj hs)) hc⟩
theorem Chg.kComp (h : Chg g g' w w' bx bx' P Hs) {s i : Nat} (hp : ∀ c, P (.at s i c)) : ∀ {p : Comp} {v : Value}, (∀ s, cellsM p.2 s = true → Hs s) → CRel w g bx s i p v → CRel w' g' bx' s i p v
  | (true, cs), v, hm, hr => by obtain ⟨vs, h1, h2⟩ := hr; exact ⟨vs, h1, h.kCells hp hm h2⟩
  | (false, cs), v, hm, hr => by
    obtain ⟨c, h1, h2⟩ := hr
    refine ⟨c, h1, ?_⟩
    rcases h2 with h2 | h2 | h2
    · exact .inl h2
    · exact .inr (.inl h2)
    · subst h1
      exact .inr (.inr (h.kRel (hp 1) (fun s' hs => hm s' (cellsM_of (j := 0) rfl hs)) h2))
theorem Chg.kSlot (h : Chg g g' w w' bx bx' P Hs) {s : Nat} {x : SV} (hp : ∀ i c, P (.at s i c)) (hbx : notBox x = false → bx s = true) {v : Value} (hm : ∀ s, mentionsS x s = true → Hs s) (hr : SRel w g bx s x v) : SRel w' g' bx' s x v := by
  cases x with
  | comp b cs => exact h.kComp (p := (b, cs)) (hp 0) hm hr
  | tup vs =>
    obtain ⟨us, h1, h2, h3⟩ := hr
    refine ⟨us, h1, h2, fun i p hi => ?_⟩
    obtain ⟨u, hu, hc⟩ := h3 i p hi
    exact ⟨u, hu, h.kComp (hp i) (fun s' hs => hm s' (List.any_eq_true.2 ⟨p, List.mem_of_getElem? hi, hs⟩)) hc⟩
  | box cs =>
    obtain ⟨⟨b, arr, ty, h1, h2, h3, h4⟩, h5⟩ := hr
    have hb := hbx rfl
    obtain ⟨o1, o2⟩ := h.kBO (hp 0 0) h2
    obtain ⟨b', h6, h7⟩ := h5
    exact ⟨⟨b, arr, ty, by rw [h.cX s hb]; exact h1, o1, by rw [o2]; exact h3, h.kCells (hp 0) hm h4⟩, b', by rw [h.cX s hb]; exact h6, h7⟩
  | mapb k v' xs it =>
    cases it with
    | none =>
      obtain ⟨b, h1, h2, ⟨es, clock, h3, h4⟩, h5⟩ := hr
      have hb := hbx rfl
      obtain ⟨o1, o2, o3⟩ := h.cO b _ (hp 0 0) h2
      exact ⟨b, by rw [h.cX s hb]; exact h1, o1, ⟨es, clock, by rw [o2]; exact h3, h4⟩, h5⟩
    | some cur =>
      obtain ⟨b, bm, h1, h2, ⟨es, clock, since, seen, c0, h3, h4, h6⟩, h5⟩ := hr
      obtain ⟨o1, o2, o3⟩ := h.cO b _ (hp 0 1) h1
      obtain ⟨q1, q2, q3⟩ := h.cO bm _ (hp 0 2) h2
      exact ⟨b, bm, o1, q1, ⟨es, clock, since, seen, c0, by rw [q2]; exact h3, by rw [o2]; exact h4, h6⟩, h5⟩
end
def free : CV → Bool
  | .own _ _ | .tmpo _ _ => false
  | _ => true
theorem rel_place {w : World} {g : Gh} {bx : Nat → Bool} {p q : Place} : ∀ {c : CV} {v : Value}, free c = true → rel w g bx p c v → rel w g bx q c v
  | .own _ _, _, hf, _ => by simp [free] at hf
  | .tmpo _ _, _, hf, _ => by simp [free] at hf
  | .ref _ _ _ _, _, _, h => h
  | .fn _ _, _, _, h => h
  | .ptr _ _, _, _, h => h
  | .mptr _, _, _, h => h
  | .rptr _, _, _, h => h
  | .hptr _, _, _, h => h
  | .eptr _ _ _ _ _ _, _, _, h => h
  | .dead, _, _, h => h
  | .undef, _, _, h => h
  | .mbox _, _, _, h => h
  | .int _ _, _, _, h => h
  | .bool _, _, _, h => h
  | .str _, _, _, h => h
  | .nils, _, _, h => h
  | .lo _ _, _, _, h => h
  | .hi _ _, _, _, h => h
theorem cells_place {w : World} {g : Gh} {bx : Nat → Bool} {s i s' i' : Nat} {cs : List CV} {vs : List Value} (hf : cs.all free = true) (h : cellsRel w g bx s i cs vs) : cellsRel w g bx s' i' cs vs := by
  refine ⟨h.1, fun j c hj => ?_⟩
  obtain ⟨u, hu, hc⟩ := h.2 j c hj
  exact ⟨u, hu, rel_place (List.all_eq_true.1 hf c (List.mem_of_getElem? hj)) hc⟩
theorem comp_place {w : World} {g : Gh} {bx : Nat → Bool} {s i s' i' : Nat} : ∀ {p : Comp} {v : Value}, p.2.all free = true → CRel w g bx s i p v → CRel w g bx s' i' p v
  | (true, cs), v, hf, h => by obtain ⟨vs, h1, h2⟩ := h; exact ⟨vs, h1, cells_place hf h2⟩
  | (false, cs), v, hf, h => by
    obtain ⟨c, h1, h2⟩ := h
    refine ⟨c, h1, ?_⟩
    rcases h2 with h2 | h2 | h2
    · exact .inl h2
    · exact .inr (.inl h2)
    · subst h1
      exact .inr (.inr (rel_place (by simpa using hf) h2))
theorem view1_ok {w : World} {g : Gh} {bx : Nat → Bool} {s : Nat} : ∀ (cs : List CV) (c : Nat) (vs : List Value), vs.length = cs.length → (∀ (j : Nat) (x : CV), cs[j]? = some x → ∃ u : Value, vs[j]? = some u ∧ rel w g bx (.at s 0 (c + j)) x u) →
    (view1 s c cs).length = cs.length ∧ (view1 s c cs).all free = true ∧ ∀ (j : Nat) (x : CV), (view1 s c cs)[j]? = some x → ∃ u : Value, vs[j]? = some u ∧ ∀ p, rel w g bx p x u
  | [], c, vs, hl, h => by simp [view1]
  | x :: r, c, vs, hl, h => by
    cases vs with
    | nil => simp at hl
    | cons v vs =>
      have ih := view1_ok r (c + 1) vs (by simpa using hl) (fun j x hj => by
        obtain ⟨u, hu, hr⟩ := h (j + 1) x (by simpa using hj)
        exact ⟨u, by simpa using hu, by rw [show c + 1 + j = c + (j + 1) by omega]; exact hr⟩)
      obtain ⟨u0, hu0, hr0⟩ := h 0 x rfl
      simp at hu0
      subst hu0
      simp only [Nat.add_zero] at hr0
      have key : ∃ y, view1 s c (x :: r) = y :: view1 s (c + 1) r ∧ free y = true ∧ ∀ p, rel w g bx p y v := by
        cases x <;> first
          | exact ⟨_, rfl, rfl, fun p => rel_place rfl hr0⟩
          | exact ⟨_, rfl, rfl, fun p => ⟨hr0.1.reads, fun u hu => by have := hr0.2.2; rw [this] at hu; exact (Option.some.inj hu).symm⟩⟩
          | exact ⟨_, rfl, rfl, fun p => hr0.1.reads⟩
      obtain ⟨y, hy, hf, hp⟩ := key
      rw [hy]
      refine ⟨by simp [ih.1], by simp only [List.all_cons, hf, ih.2.1, Bool.and_self], fun j z hj => ?_⟩
      cases j with
      | zero => simp at hj; subst hj; exact ⟨v, rfl, hp⟩
      | succ j => simp at hj; obtain ⟨u, hu, hr⟩ := ih.2.2 j z hj; exact ⟨u, by simpa using hu, hr⟩
end Go.Rv
namespace Go.Rv
def FRel (w : World) (g : Gh) (bx : Nat → Bool) (p : Comp) (v : Value) : Prop := p.2.all free = true ∧ CRel w g bx 0 0 p v
theorem FRel.at {w : World} {g : Gh} {bx : Nat → Bool} {p : Comp} {v : Value} (h : FRel w g bx p v) (s i : Nat) : CRel w g bx s i p v := comp_place h.1 h.2
theorem FRel.one {w : World} {g : Gh} {bx : Nat → Bool} {c : CV} {v : Value} (hf : free c = true) (h : rel w g bx (.air 0) c v) : FRel w g bx (false, [c]) v :=
  ⟨by simp [hf], c, rfl, .inr (.inr (rel_place hf h))⟩
theorem FRel.dead {w : World} {g : Gh} {bx : Nat → Bool} {v : Value} : FRel w g bx (false, [.dead]) v := ⟨rfl, _, rfl, .inl rfl⟩
theorem one_rel {w : World} {g : Gh} {bx : Nat → Bool} : ∀ {p : Comp} {v : Value}, FRel w g bx p v → one p ≠ .dead → one p ≠ .undef → free (one p) = true ∧ rel w g bx (.air 0) (one p) v
  | (true, _), v, _, h, _ => absurd rfl h
  | (false, []), v, _, h, _ => absurd rfl h
  | (false, _ :: _ :: _), v, _, h, _ => absurd rfl h
  | (false, [c]), v, hF, h1, h2 => by
    obtain ⟨hf, c', hc, h⟩ := hF
    cases hc
    have hfc : free c = true := by simpa using hf
    rcases h with h | ⟨h, _⟩ | h
    · exact absurd h h1
    · exact absurd h h2
    · exact ⟨hfc, rel_place hfc h⟩
section
variable {st : St} {g : Gh} {fr : Fr} {a : Act} {w : World}
theorem constCV_rel {w : World} {g : Gh} {bx : Nat → Bool} {p : Place} (v : Value) (h : notDead (constCV v) = true) : free (constCV v) = true ∧ rel w g bx p (constCV v) v := by
  unfold constCV at *
  split at h <;> first | exact ⟨rfl, rfl⟩ | simp [notDead] at h
theorem constC_ok {w : World} {g : Gh} {bx : Nat → Bool} (v : Value) : FRel w g bx (constC v) v := by
  unfold constC
  split
  · rename_i cs
    cases hall : cs.toList.all (fun v => notDead (constCV v))
    · exact FRel.dead
    · simp only [cond_true]
      rw [List.all_eq_true] at hall
      refine ⟨?_, cs.toList, by simp, by simp, fun j c hj => ?_⟩
      · rw [List.all_eq_true]
        intro c hc
        obtain ⟨v, hv, rfl⟩ := List.mem_map.1 hc
        exact (constCV_rel (w := w) (g := g) (bx := bx) (p := .air 0) v (hall v hv)).1
      · rw [List.getElem?_map] at hj
        cases hv : cs.toList[j]? with
        | none => simp [hv] at hj
        | some u =>
          simp [hv] at hj
          subst hj
          exact ⟨u, rfl, (constCV_rel u (hall u (List.mem_of_getElem? hv))).2⟩
  · cases hd : notDead (constCV v)
    · have : constCV v = .dead := by unfold notDead at hd; split at hd <;> simp_all
      rw [this]; exact FRel.dead
    · obtain ⟨h1, h2⟩ := constCV_rel (w := w) (g := g) (bx := bx) (p := .air 0) v hd
      exact FRel.one h1 h2
theorem opd_ok (h : Ok st g fr a w) (x : Operand) : FRel w g (isBox fr) (opd fr x) (a.eval x) := by
  cases x with
  | const v => exact constC_ok v
  | global n => exact FRel.dead
  | func f => exact FRel.one rfl ⟨[], rfl, rfl, fun j c hj => by simp at hj⟩
  | tmp t =>
    have hs := h.slot t
    show FRel w g (isBox fr) (viewS t (fr t)) (a.tmps.getD t undef)
    cases hx : fr t with
    | tup vs => exact FRel.dead
    | box cs =>
      rw [hx] at hs
      obtain ⟨_, b, hb, hv⟩ := hs
      refine FRel.one rfl ⟨?_, b, hb, hv⟩
      simp [isBox, hx, notBox]
    | mapb k v xs it =>
      cases it with
      | some _ => exact FRel.dead
      | none =>
        rw [hx] at hs
        obtain ⟨b, hb, _, _, hv⟩ := hs
        refine FRel.one (c := .mptr t) rfl ⟨?_, b, hb, hv⟩
        simp [isBox, hx, notBox]
    | comp gg cs =>
      rw [hx] at hs
      cases gg with
      | true =>
        obtain ⟨vs, hv, hc⟩ := hs
        obtain ⟨v1, v2, v3⟩ := view1_ok cs 1 vs hc.1 (fun j x hj => by rw [Nat.add_comm]; exact hc.2 j x hj)
        refine ⟨v2, vs, hv, ?_, fun j c hj => ?_⟩
        · show vs.length = (view1 t 1 cs).length
          rw [v1]; exact hc.1
        · obtain ⟨u, hu, hr⟩ := v3 j c hj
          exact ⟨u, hu, hr _⟩
      | false =>
        obtain ⟨c, hc, hr⟩ := hs
        cases hc
        rcases hr with rfl | ⟨rfl, hu⟩ | hr
        · exact FRel.dead
        · exact ⟨rfl, _, rfl, .inr (.inl ⟨rfl, hu⟩)⟩
        · obtain ⟨v1, v2, v3⟩ := view1_ok [c] 1 [a.tmps.getD t undef] rfl (fun j x hj => by
            cases j with
            | zero => simp at hj; subst hj; exact ⟨_, rfl, hr⟩
            | succ j => simp at hj)
          cases hy : view1 t 1 [c] with
          | nil => simp [hy] at v1
          | cons y r =>
            have hr0 : r = [] := List.eq_nil_of_length_eq_zero (by simpa [hy] using v1)
            subst hr0
            obtain ⟨u, hu, hp⟩ := v3 0 y (by simp [hy])
            simp only [List.getElem?_cons_zero, Option.some.injEq] at hu
            subst hu
            have hvs : viewS t (.comp false [c]) = (false, [y]) := by show (false, view1 t 1 [c]) = _; rw [hy]
            rw [hvs]
            exact FRel.one (by rw [hy] at v2; simpa using v2) (hp _)
theorem opc_rel (h : Ok st g fr a w) {x : Operand} {c : CV} (hc : opc fr x = c) (h1 : c ≠ .dead) (h2 : c ≠ .undef) : free c = true ∧ rel w g (isBox fr) (.air 0) c (a.eval x) := by
  subst hc
  exact one_rel (opd_ok h x) h1 h2
def Gh.clr (g : Gh) (d : Nat) : Gh := { g with H := fun s c => if s = d then none else g.H s c }
def notAt (d : Nat) : Place → Prop
  | .at s _ _ => s ≠ d
  | .air _ => True
theorem isBox_upd (fr : Fr) (d : Nat) (x : SV) (h : notBox (fr d) = true) (hx : notBox x = true) : isBox (upd fr d x) = isBox fr := by
  funext j
  unfold isBox upd
  cases hj : j.beq d
  · rfl
  · have := Nat.eq_of_beq_eq_true hj
    subst this
    simp [h, hx]
theorem upd_same (fr : Fr) (d : Nat) (x : SV) : upd fr d x d = x := by unfold upd; simp
theorem upd_ne (fr : Fr) (d : Nat) (x : SV) {j : Nat} (h : j ≠ d) : upd fr d x j = fr j := by
  unfold upd
  have : j.beq d = false := by
    cases hb : j.beq d
    · rfl
    · exact absurd (Nat.eq_of_beq_eq_true hb) h
  rw [this]; rfl
theorem put_tmps (a : Act) (d : Nat) (v : Value) : (a.put (some d) v).tmps = a.tmps.setIfInBounds d v := rfl
theorem put_getD_same {a : Act} {d : Nat} (v : Value) (hd : d < a.tmps.size) : (a.put (some d) v).tmps.getD d undef = v := by
  simp [put_tmps, Array.getD_eq_getD_getElem?, hd]
theorem put_getD_ne (a : Act) {d j : Nat} (v : Value) (h : j ≠ d) : (a.put (some d) v).tmps.getD j undef = a.tmps.getD j undef := by
  simp [put_tmps, Array.getD_eq_getD_getElem?, Array.getElem?_setIfInBounds_ne (Ne.symm h)]
theorem Chg.clr (h : Ok st g fr a w) (d : Nat) (bx : Nat → Bool) : Chg g (g.clr d) w w bx bx (notAt d) (fun _ => True) where
  cB := rfl
  cR := rfl
  cM := rfl
  cZ := rfl
  zS := fun b o hz => (h.zs b o (by rw [← h.eZ]; exact hz)).1
  cbx := fun s hs => hs
  cX := fun s _ => rfl
  cS := fun b o hs => ⟨hs, rfl⟩
  cL := fun b _ => rfl
  cO := fun b p _ hO => ⟨hO, rfl, fun _ => Iff.rfl⟩
  cH := fun s c u _ hu => by
    simp only [Gh.clr] at hu
    split at hu
    · cases hu
    · exact hu
  cHp := fun s i c hp => by
    have hp' : s ≠ d := hp
    simp [Gh.clr, hp']
theorem FRel.clr (h : Ok st g fr a w) {bx : Nat → Bool} (d : Nat) {p : Comp} {v : Value} (hp : FRel w g bx p v) : FRel w (g.clr d) bx p v :=
  ⟨hp.1, comp_place hp.1 ((Chg.clr h d bx).kComp (s := d + 1) (i := 0) (fun c => by show d + 1 ≠ d; omega) (fun _ _ => trivial) (hp.at (d + 1) 0))⟩
theorem Ok.set (h : Ok st g fr a w) {d : Nat} (hd : d < st.n) (hb : notBox (fr d) = true) (hk : d ∉ st.keep) {x : SV} (hx : notBox x = true) {v : Value} (hv : SRel w (g.clr d) (isBox fr) d x v) :
    Ok st (g.clr d) (upd fr d x) (a.put (some d) v) w where
  eB := h.eB
  eR := h.eR
  eM := h.eM
  eZ := h.eZ
  size := by rw [put_tmps]; simp [h.size]
  defers := h.defers
  slot := fun s => by
    rw [isBox_upd fr d x hb hx]
    by_cases hs : s = d
    · subst hs
      rw [upd_same, put_getD_same v (by rw [h.size]; exact hd)]
      exact hv
    · rw [upd_ne fr d x hs, put_getD_ne a v hs]
      exact (Chg.clr h d (isBox fr)).kSlot (fun i c => hs) (fun hc => by simp [isBox, hc]) (fun _ _ => trivial) (h.slot s)
  keep := fun j hj => by
    have : j ≠ d := fun e => hk (e ▸ hj)
    rw [put_tmps, Array.getElem?_setIfInBounds_ne (Ne.symm this)]
    exact h.keep j hj
  os := h.os
  tape := h.tape
  output := h.output
  heap := h.heap
  old := h.old
  own := h.own
  stab := h.stab
  boxS := h.boxS
  zs := h.zs
  sz := h.sz
  hh := fun s c u hu => by
    simp only [Gh.clr] at hu
    split at hu
    · cases hu
    · exact h.hh s c u hu
structure Fits (X : Env) (st : St) : Prop where
  n : X.n = st.n
  keep : X.keep = st.keep
  ro : X.ro = st.ro
theorem setD_some {X : Env} {st : St} (hX : Fits X st) {fr fr' : Fr} {d : Nat} {x : SV} (h : setD X fr d x = some fr') : d < st.n ∧ notBox (fr d) = true ∧ d ∉ st.keep ∧ fr' = upd fr d x := by
  unfold setD at h
  cases hc : (d.blt X.n && (notBox (fr d) && !X.keep.contains d))
  · rw [hc] at h; cases h
  · rw [hc] at h
    simp only [cond_true, Option.some.injEq] at h
    simp only [Bool.and_eq_true, Bool.not_eq_true'] at hc
    refine ⟨?_, hc.2.1, ?_, h.symm⟩
    · rw [← hX.n]; exact Nat.le_of_ble_eq_true hc.1
    · rw [← hX.keep]; intro hm
      have := hc.2.2
      rw [List.contains_eq_mem] at this
      simp [hm] at this
theorem fin_ok {R : Type} {X : Env} (hX : Fits X st) (h : Ok st g fr a w) {x : SV} (hx : notBox x = true) {v : Value} {dst : Option Nat} (hv : ∀ d, dst = some d → SRel w (g.clr d) (isBox fr) d x v)
    {K : Fr → Option R} {r : R} (hf : fin X fr dst x K = some r) : ∃ g' fr', Ok st g' fr' (a.put dst v) w ∧ K fr' = some r := by
  cases dst with
  | none => exact ⟨g, fr, h, hf⟩
  | some d =>
    simp only [fin] at hf
    cases hs : setD X fr d x with
    | none => rw [hs] at hf; cases hf
    | some fr1 =>
      rw [hs] at hf
      obtain ⟨h1, h2, h3, rfl⟩ := setD_some hX hs
      exact ⟨_, _, h.set h1 h2 h3 hx (hv d rfl), hf⟩
theorem fin_free {R : Type} {X : Env} (hX : Fits X st) (h : Ok st g fr a w) {p : Comp} {v : Value} {dst : Option Nat} (hv : FRel w g (isBox fr) p v)
    {K : Fr → Option R} {r : R} (hf : fin X fr dst (.comp p.1 p.2) K = some r) : ∃ g' fr', Ok st g' fr' (a.put dst v) w ∧ K fr' = some r :=
  fin_ok (x := .comp p.1 p.2) (v := v) hX h rfl (fun d _ => (hv.clr h d).at d 0) hf
theorem fin_one {R : Type} {X : Env} (hX : Fits X st) (h : Ok st g fr a w) {c : CV} {v : Value} {dst : Option Nat} (hfr : free c = true) (hv : rel w g (isBox fr) (.air 0) c v)
    {K : Fr → Option R} {r : R} (hf : fin X fr dst (.comp false [c]) K = some r) : ∃ g' fr', Ok st g' fr' (a.put dst v) w ∧ K fr' = some r :=
  fin_free hX h (FRel.one hfr hv) hf
end
end Go.Rv
namespace Go.Rv
def zeroV : Ty → List Value
  | .int k => [.int k 0] | .bool => [.bool false] | .str => [.string ByteArray.empty]
  | .pair a b => zeroV a ++ zeroV b
  | .sl _ => [.slice none 0 0]
def zeroB : Ty → List Value → Option (List Value)
  | .int k, .int j n :: r => bif j == k && n == 0 then some r else none
  | .bool, .bool b :: r => bif b then none else some r
  | .str, .string s :: r => bif s.size == 0 then some r else none
  | .pair a b, l => match zeroB a l with
    | some r => zeroB b r
    | none => none
  | .sl _, .slice none 0 0 :: r => some r
  | _, _ => none
theorem zeroB_spec : ∀ (t : Ty) (l r : List Value), zeroB t l = some r → l = zeroV t ++ r
  | .int k, [], r, h => by simp [zeroB] at h
  | .int k, v :: l, r, h => by
    cases v <;> try (simp [zeroB] at h; done)
    rename_i j n
    simp only [zeroB] at h
    cases hc : (j == k && n == 0)
    · simp [hc] at h
    · simp only [hc, cond_true, Option.some.injEq] at h
      simp only [Bool.and_eq_true, beq_iff_eq] at hc
      obtain ⟨rfl, rfl⟩ := hc
      simp [zeroV, h]
  | .bool, [], r, h => by simp [zeroB] at h
  | .bool, v :: l, r, h => by
    cases v <;> try (simp [zeroB] at h; done)
    rename_i b
    cases b <;> simp_all [zeroB, zeroV]
  | .str, [], r, h => by simp [zeroB] at h
  | .str, v :: l, r, h => by
    cases v <;> try (simp [zeroB] at h; done)
    rename_i s
    simp only [zeroB] at h
    cases hc : (s.size == 0)
    · simp [hc] at h
    · simp only [hc, cond_true, Option.some.injEq] at h
      obtain ⟨⟨x⟩⟩ := s
      simp [ByteArray.size] at hc
      subst hc
      simp [zeroV, h]
      rfl
  | .pair a b, l, r, h => by
    simp only [zeroB] at h
    cases ha : zeroB a l with
    | none => rw [ha] at h; cases h
    | some m =>
      rw [ha] at h
      rw [zeroB_spec a l m ha, zeroB_spec b m r h]
      simp [zeroV]
  | .sl t, [], r, h => by simp [zeroB] at h
  | .sl t, v :: l, r, h => by
    cases v <;> try (simp [zeroB] at h; done)
    rename_i a n c
    cases a <;> try (simp [zeroB] at h; done)
    cases n <;> try (simp [zeroB] at h; done)
    cases c <;> try (simp [zeroB] at h; done)
    simp [zeroB] at h
    simp [zeroV, h]
theorem zeroV_length (t : Ty) : (zeroV t).length = t.cells := by
  induction t <;> simp_all [zeroV, Ty.cells]
theorem rep_zero (w : World) (S : Nat → Nat → Prop) : ∀ t : Ty, rep w S t t.zero (zeroV t)
  | .int _ => rfl
  | .bool => rfl
  | .str => rfl
  | .pair a b => ⟨_, _, rfl, rep_zero w S a, rep_zero w S b⟩
  | .sl t => ⟨none, 0, rfl, Nat.le_refl _, fun i x hx => by simp [Ty.zero] at hx⟩
theorem zeroCV_rel (w : World) (g : Gh) (bx : Nat → Bool) : ∀ (t : Ty) (j : Nat) (c : CV), (zeroCV t)[j]? = some c → free c = true ∧ notDead c = true ∧ ∃ u : Value, (zeroV t)[j]? = some u ∧ ∀ p, rel w g bx p c u
  | .int k, j, c, h => by cases j <;> simp_all [zeroCV, zeroV]; subst h; exact ⟨rfl, rfl, fun p => rfl⟩
  | .bool, j, c, h => by cases j <;> simp_all [zeroCV, zeroV]; subst h; exact ⟨rfl, rfl, fun p => rfl⟩
  | .str, j, c, h => by cases j <;> simp_all [zeroCV, zeroV]; subst h; exact ⟨rfl, rfl, fun p => rfl⟩
  | .sl _, j, c, h => by cases j <;> simp_all [zeroCV, zeroV]; subst h; exact ⟨rfl, rfl, fun p => rfl⟩
  | .pair a b, j, c, h => by
    have hl : ∀ t : Ty, (zeroCV t).length = (zeroV t).length := fun t => by induction t <;> simp_all [zeroCV, zeroV]
    simp only [zeroCV, zeroV] at h ⊢
    by_cases hj : j < (zeroCV a).length
    · rw [List.getElem?_append_left hj] at h
      rw [List.getElem?_append_left (by rw [← hl]; exact hj)]
      exact zeroCV_rel w g bx a j c h
    · rw [List.getElem?_append_right (by omega)] at h
      rw [List.getElem?_append_right (by rw [← hl]; omega), ← hl]
      exact zeroCV_rel w g bx b _ c h
theorem zeroCV_length (t : Ty) : (zeroCV t).length = t.cells := by
  induction t <;> simp_all [zeroCV, Ty.cells]
def fitElem (P : Program) (e : TypeId) (u : Ty) : Bool :=
  match P.info? e with
  | some i => i.size.beq u.cells && (i.bytes.ble (24 * u.cells) && match i.zero with
    | some z => match zeroB u z.cells.toList with
      | some [] => true
      | _ => false
    | none => false)
  | none => false
def fitFields (P : Program) : List (Nat × Nat × Bool) → List Field → Bool
  | [], [] => true
  | (off, n, g) :: r, F :: fs => F.offset.beq off && ((match P.info? F.type with | some i => i.size.beq n && (Nat.blt 0 n && (g || n.beq 1)) | none => false) && ((match P.underlying F.type with | some d => d.isRow == g | none => false) && fitFields P r fs))
  | _, _ => false
def fitEqF (P : Program) : Nat → List Field → Bool
  | _, [] => true
  | k, F :: fs => F.name != "_" && (F.offset.beq k && ((match P.underlying F.type with | some (.int _) => true | _ => false) && fitEqF P (k + 1) fs))
def fitEqN (P : Program) : Nat → List Field → Option Nat
  | k, [] => some k
  | k, F :: fs => bif F.name != "_" && F.offset.beq k then match P.underlying F.type with
    | some (.int _) => fitEqN P (k + 1) fs
    | some (.struct gs) => bif !P.stoodInHeld F.type && (fitEqF P 0 gs.toList && match P.info? F.type with | some i => i.size.beq gs.toList.length | none => false) then fitEqN P (k + gs.toList.length) fs else none
    | _ => none
    else none
def fitEq (P : Program) (t : TypeId) (n : Nat) : Bool :=
  !P.stoodInHeld t && (!P.eqGuardType P.depth t && match P.underlying t with
  | some (.struct fs) => match fitEqN P 0 fs.toList with
    | some m => m.beq n
    | none => false
  | _ => false)
def fitB0 (P : Program) (t : TypeId) (i : TI) : Bool :=
  fitElem P t i.ty && (!i.eq || fitEq P t i.ty.cells) && match P.underlying t with
  | some (.struct fs) => i.agg && fitFields P i.offs fs.toList
  | some (.slice e) => match i.ty with
    | .sl u => !i.agg && (i.offs.isEmpty && fitElem P e u)
    | _ => false
  | some (.int k) => match i.ty with
    | .int j => !i.agg && (i.offs.isEmpty && decide (j = k))
    | _ => false
  | some .bool => match i.ty with
    | .bool => !i.agg && i.offs.isEmpty
    | _ => false
  | some .string => match i.ty with
    | .str => !i.agg && i.offs.isEmpty
    | _ => false
  | _ => false
def fitFn (P : Program) (t : TypeId) (i : TI) : Bool :=
  !i.agg && (!i.eq && ((i.offs.isEmpty && i.ty.cells.beq 1) && match P.info? t, P.underlying t with
  | some ii, some d => ii.size.beq 1 && (!d.isRow && ((match d with | .interface _ => false | _ => true) && match ii.zero with
    | some z => match z.cells.toList with
      | [u] => u.oneCell'
      | _ => false
    | none => false))
  | _, _ => false))
def fitB (P : Program) (t : TypeId) (i : TI) : Bool := bif i.fn then fitFn P t i else fitB0 P t i
def fitAll (P : Program) : List (Nat × TI) → Bool
  | [] => true
  | p :: r => fitB P p.1 p.2 && fitAll P r
structure ElemOk (P : Program) (e : TypeId) (u : Ty) : Prop where
  ex : ∃ i z, P.info? e = some i ∧ i.size = u.cells ∧ i.bytes ≤ 24 * u.cells ∧ i.zero = some z ∧ z.cells.toList = zeroV u
theorem fitElem_spec {P : Program} {e : TypeId} {u : Ty} (h : fitElem P e u = true) : ElemOk P e u := by
  unfold fitElem at h
  split at h
  · rename_i i hi
    simp only [Bool.and_eq_true] at h
    obtain ⟨h1, h2, h3⟩ := h
    split at h3
    · rename_i z hz
      split at h3
      · rename_i hb
        have := zeroB_spec _ _ _ hb
        exact ⟨i, z, hi, Nat.eq_of_beq_eq_true h1, Nat.le_of_ble_eq_true h2, hz, by simpa using this⟩
      · cases h3
    · cases h3
  · cases h
theorem fitFields_spec {P : Program} : ∀ (offs : List (Nat × Nat × Bool)) (fs : List Field), fitFields P offs fs = true → fs.length = offs.length ∧
    ∀ (f off n : Nat) (g : Bool), offs[f]? = some (off, n, g) → ∃ (F : Field) (i : TypeInfo) (d : TypeDesc), fs[f]? = some F ∧ F.offset = off ∧ P.info? F.type = some i ∧ i.size = n ∧ 0 < n ∧ P.underlying F.type = some d ∧ d.isRow = g ∧ (g = false → n = 1)
  | [], [], _ => ⟨rfl, fun f off n g h => by simp at h⟩
  | (off, n, g) :: r, F :: fs, h => by
    simp only [fitFields, Bool.and_eq_true] at h
    obtain ⟨h1, h2, h3, h4⟩ := h
    obtain ⟨i1, i2⟩ := fitFields_spec r fs h4
    refine ⟨by simp [i1], fun f off' n' g' hf => ?_⟩
    cases f with
    | zero =>
      simp at hf
      obtain ⟨rfl, rfl, rfl⟩ := hf
      split at h2
      · rename_i i hi
        simp only [Bool.and_eq_true] at h2
        split at h3
        · rename_i d hd
          exact ⟨F, i, d, rfl, Nat.eq_of_beq_eq_true h1, hi, Nat.eq_of_beq_eq_true h2.1, Nat.le_of_ble_eq_true h2.2.1, hd, by simpa using h3, fun hg => by have := h2.2.2; rw [hg] at this; exact Nat.eq_of_beq_eq_true (by simpa using this)⟩
        · cases h3
      · cases h2
    | succ f =>
      simp at hf
      simpa using i2 f off' n' g' hf
  | [], _ :: _, h => by simp [fitFields] at h
  | _ :: _, [], h => by simp [fitFields] at h
structure TabOk (P : Program) (X : Env) : Prop where
  mixed : P.follows .mixedOrders = true
  fit : fitAll P X.tab = true
  maps : ∀ t k v, X.mp.lookup t = some (k, v) → MapTyOk P t k v ∧ kflat k = true ∧ kflat v = true
theorem ti_fit {P : Program} {X : Env} (h : TabOk P X) {t : TypeId} {i : TI} (hi : X.ti t = some i) : fitB P t i = true := by
  have := h.fit
  unfold Env.ti at hi
  generalize X.tab = l at *
  induction l with
  | nil => simp at hi
  | cons p r ih =>
    simp only [fitAll, Bool.and_eq_true] at this
    obtain ⟨q, j⟩ := p
    simp only [List.lookup_cons] at hi
    split at hi
    · rename_i hq
      have := beq_iff_eq.1 hq
      subst this
      cases hi
      exact this.1
    · exact ih hi this.2
theorem ti_fit0 {P : Program} {X : Env} (h : TabOk P X) {t : TypeId} {i : TI} (hi : X.ti t = some i) (hf : i.fn = false) : fitB0 P t i = true := by
  have := ti_fit h hi
  simpa [fitB, hf] using this
theorem ti_fitFn {P : Program} {X : Env} (h : TabOk P X) {t : TypeId} {i : TI} (hi : X.ti t = some i) (hf : i.fn = true) : i.agg = false ∧ i.eq = false ∧ i.ty.cells = 1 ∧ ∃ ii d z u, P.info? t = some ii ∧ P.underlying t = some d ∧ ii.size = 1 ∧ d.isRow = false ∧ (∀ m, d ≠ .interface m) ∧ ii.zero = some z ∧ z.cells.toList = [u] ∧ u.oneCell' = true := by
  have := ti_fit h hi
  simp only [fitB, hf, cond_true, fitFn, Bool.and_eq_true, Bool.not_eq_true'] at this
  obtain ⟨h1, h2, h3, h4⟩ := this
  split at h4
  case h_2 => cases h4
  rename_i ii d e1 e2
  simp only [Bool.and_eq_true, Bool.not_eq_true'] at h4
  obtain ⟨h4, h5, h6, h7⟩ := h4
  split at h7
  case h_2 => cases h7
  rename_i z hz
  split at h7
  case h_2 => cases h7
  rename_i u hu
  refine ⟨h1, h2, Nat.eq_of_beq_eq_true h3.2, ii, d, z, u, e1, e2, Nat.eq_of_beq_eq_true h4, h5, fun m e => ?_, hz, hu, h7⟩
  subst e
  cases h6
theorem ti_offs {P : Program} {X : Env} (h : TabOk P X) {t : TypeId} {i : TI} (hi : X.ti t = some i) (hfn : i.fn = true) {f : Nat} {x : Nat × Nat × Bool} (hf : i.offs[f]? = some x) : False := by
  have := ti_fit h hi
  simp only [fitB, hfn, cond_true, fitFn, Bool.and_eq_true] at this
  have := this.2.2.1.1
  cases ho : i.offs with
  | nil => rw [ho] at hf; simp at hf
  | cons => rw [ho] at this; cases this
theorem ti_notFn {P : Program} {X : Env} (h : TabOk P X) {t : TypeId} {i : TI} (hi : X.ti t = some i) (ha : i.agg = true) : i.fn = false := by
  cases hf : i.fn
  · rfl
  · have := (ti_fitFn h hi hf).1
    rw [ha] at this; cases this
theorem ti_eq {P : Program} {X : Env} (h : TabOk P X) {t : TypeId} {i : TI} (hi : X.ti t = some i) (he : i.eq = true) : fitEq P t i.ty.cells = true := by
  have hf : i.fn = false := by
    cases hf : i.fn
    · rfl
    · have := (ti_fitFn h hi hf).2.1
      rw [he] at this; cases this
  have := ti_fit0 h hi hf
  simp only [fitB0, Bool.and_eq_true, he] at this
  simpa using this.1.2
theorem ti_bool {P : Program} {X : Env} (h : TabOk P X) {t : TypeId} (hi : X.boolT t = true) : P.underlying t = some .bool := by
  unfold Env.boolT at hi
  split at hi
  · rename_i i hti
    cases hafn : (i.agg || i.fn)
    · rw [hafn] at hi
      have ha : i.agg = false := by simp at hafn; exact hafn.1
      have hfn : i.fn = false := by simp at hafn; exact hafn.2
      simp only [cond_false] at hi
      split at hi
      · rename_i hu
        have := ti_fit0 h hti hfn
        simp only [fitB0, Bool.and_eq_true, ha, hu] at this
        have h2 := this.2
        split at h2
        · simp at h2
        all_goals simp_all
      · cases hi
    · simp [hafn] at hi
  · cases hi
theorem ti_str {P : Program} {X : Env} (h : TabOk P X) {t : TypeId} (hi : X.strT t = true) : P.underlying t = some .string := by
  unfold Env.strT at hi
  split at hi
  · rename_i i hti
    cases hafn : (i.agg || i.fn)
    · rw [hafn] at hi
      have ha : i.agg = false := by simp at hafn; exact hafn.1
      have hfn : i.fn = false := by simp at hafn; exact hafn.2
      simp only [cond_false] at hi
      split at hi
      · rename_i hu
        have := ti_fit0 h hti hfn
        simp only [fitB0, Bool.and_eq_true, ha, hu] at this
        have h2 := this.2
        split at h2
        · simp at h2
        all_goals simp_all
      · cases hi
    · simp [hafn] at hi
  · cases hi
theorem ti_elem {P : Program} {X : Env} (h : TabOk P X) {t : TypeId} {i : TI} (hi : X.ti t = some i) (hf : i.fn = false) : ElemOk P t i.ty := by
  have := ti_fit0 h hi hf
  simp only [fitB0, Bool.and_eq_true] at this
  exact fitElem_spec this.1.1
theorem ti_size {P : Program} {X : Env} (h : TabOk P X) {t : TypeId} {i : TI} (hi : X.ti t = some i) : ∃ ii, P.info? t = some ii ∧ ii.size = i.ty.cells := by
  cases hf : i.fn
  · obtain ⟨ii, z, e1, e2, _⟩ := (ti_elem h hi hf).ex
    exact ⟨ii, e1, e2⟩
  · obtain ⟨_, _, h3, ii, d, z, u, e1, _, e3, _⟩ := ti_fitFn h hi hf
    exact ⟨ii, e1, by rw [e3, h3]⟩
theorem ti_cells1 {P : Program} {X : Env} (h : TabOk P X) {t : TypeId} {i : TI} (hi : X.ti t = some i) (hag : i.agg = false) : i.ty.cells = 1 := by
  cases hf : i.fn
  · have := ti_fit0 h hi hf
    simp only [fitB0, Bool.and_eq_true, hag] at this
    have h2 := this.2
    split at h2
    · simp at h2
    all_goals (first | (split at h2 <;> simp_all [Ty.cells]) | simp_all)
  · exact (ti_fitFn h hi hf).2.2.1
theorem ti_struct {P : Program} {X : Env} (h : TabOk P X) {t : TypeId} {i : TI} (hi : X.ti t = some i) (ha : i.agg = true) : ∃ fs, P.underlying t = some (.struct fs) ∧ fitFields P i.offs fs.toList = true := by
  have := ti_fit0 h hi (ti_notFn h hi ha)
  simp only [fitB0, Bool.and_eq_true] at this
  have h2 := this.2
  split at h2
  · rename_i fs hf
    simp only [Bool.and_eq_true] at h2
    exact ⟨fs, hf, h2.2⟩
  all_goals (first | (split at h2 <;> simp_all) | simp_all)
theorem ti_under {P : Program} {X : Env} (h : TabOk P X) {t : TypeId} {i : TI} (hi : X.ti t = some i) : ∃ d, P.underlying t = some d ∧ d.isRow = i.agg ∧ (∀ m, d ≠ .interface m) := by
  cases hfn : i.fn
  case true =>
    obtain ⟨h1, _, _, ii, d, z, u, _, e2, _, e4, e5, _⟩ := ti_fitFn h hi hfn
    exact ⟨d, e2, by rw [e4, h1], e5⟩
  have := ti_fit0 h hi hfn
  simp only [fitB0, Bool.and_eq_true] at this
  have h2 := this.2
  split at h2
  · rename_i fs hf
    simp only [Bool.and_eq_true] at h2
    exact ⟨_, hf, by rw [h2.1], by simp⟩
  all_goals (first | (rename_i hf; refine ⟨_, hf, ?_, by simp⟩; split at h2 <;> simp_all) | simp_all)
theorem ti_slice {P : Program} {X : Env} (h : TabOk P X) {t : TypeId} {u : Ty} (hi : X.sl t = some u) : ∃ e, P.underlying t = some (.slice e) ∧ ElemOk P e u := by
  unfold Env.sl at hi
  split at hi
  · rename_i i hti
    cases hafn : (i.agg || i.fn)
    · rw [hafn] at hi
      have ha : i.agg = false := by simp at hafn; exact hafn.1
      have hfn : i.fn = false := by simp at hafn; exact hafn.2
      simp only [cond_false] at hi
      split at hi
      · rename_i u' hu
        cases hi
        have := ti_fit0 h hti hfn
        simp only [fitB0, Bool.and_eq_true, ha, hu] at this
        have h2 := this.2
        split at h2
        · simp at h2
        · rename_i e he
          simp only [Bool.not_false, Bool.true_and, Bool.and_eq_true] at h2
          exact ⟨e, he, fitElem_spec h2.2⟩
        all_goals simp_all
      · cases hi
    · simp [hafn] at hi
  · cases hi
theorem ti_int {P : Program} {X : Env} (h : TabOk P X) {t : TypeId} {k : IntKind} (hi : X.intK t = some k) : P.underlying t = some (.int k) := by
  unfold Env.intK at hi
  split at hi
  · rename_i i hti
    cases hafn : (i.agg || i.fn)
    · rw [hafn] at hi
      have ha : i.agg = false := by simp at hafn; exact hafn.1
      have hfn : i.fn = false := by simp at hafn; exact hafn.2
      simp only [cond_false] at hi
      split at hi
      · rename_i u' hu
        cases hi
        have := ti_fit0 h hti hfn
        simp only [fitB0, Bool.and_eq_true, ha, hu] at this
        have h2 := this.2
        split at h2
        · simp at h2
        all_goals simp_all
      · cases hi
    · simp [hafn] at hi
  · cases hi
end Go.Rv
namespace Go.Rv
open Go.Maps Go.WideShapes
def key3B (P : Program) (kt : TypeId) : Bool :=
  match P.underlying kt with
  | some (.struct fs) => match fs.toList with
    | [f0, f1, f2] => f0.name != "_" && (f1.name != "_" && (f2.name != "_" && (f0.offset.beq 0 && (f1.offset.beq 1 && (f2.offset.beq 2 && ((match P.underlying f0.type with | some (.int .i64) => true | _ => false) && ((match P.underlying f1.type with | some (.int .i64) => true | _ => false) && ((match P.underlying f2.type with | some (.int .i64) => true | _ => false) && ((P.cellsOf f0.type).beq 1 && ((P.cellsOf f1.type).beq 1 && ((P.cellsOf f2.type).beq 1 && ((P.cellsOf kt).beq 3 && (P.keyType kt && (P.keyTypeAt 2 kt && (Nat.blt kt P.types.size && Nat.blt 1 P.types.size)))))))))))))))
    | _ => false
  | _ => false
theorem key3 {P : Program} (hl : laidOutB P = true) {kt : TypeId} (h : key3B P kt = true) :
    Keyed P kt ∧ ∀ x : Den (.pair (.int .i64) (.pair (.int .i64) (.int .i64))), kwf (.pair (.int .i64) (.pair (.int .i64) (.int .i64))) x = true → ∃ l, keyOf P kt (encV (.pair (.int .i64) (.pair (.int .i64) (.int .i64))) x) = some l := by
  unfold key3B at h
  split at h
  case h_2 => cases h
  rename_i fs hu
  split at h
  case h_2 => cases h
  rename_i f0 f1 f2 hfs
  simp only [Bool.and_eq_true] at h
  obtain ⟨n0, n1, n2, o0, o1, o2, t0, t1, t2, c0, c1, c2, c3, h1, h2, h3, h4⟩ := h
  have o0 := Nat.eq_of_beq_eq_true o0
  have o1 := Nat.eq_of_beq_eq_true o1
  have o2 := Nat.eq_of_beq_eq_true o2
  have c0 := Nat.eq_of_beq_eq_true c0
  have c1 := Nat.eq_of_beq_eq_true c1
  have c2 := Nat.eq_of_beq_eq_true c2
  have c3 := Nat.eq_of_beq_eq_true c3
  have h3 : kt < P.types.size := Nat.le_of_ble_eq_true h3
  have h4 : 1 < P.types.size := Nat.le_of_ble_eq_true h4
  have und : ∀ {f : Field}, (match P.underlying f.type with | some (.int .i64) => true | _ => false) = true → P.underlying f.type = some (.int .i64) := fun {f} h => by
    split at h
    · assumption
    · cases h
  have t0 := und t0
  have t1 := und t1
  have t2 := und t2
  refine ⟨Keyed.of_law (deep_law_laid hl (m := 2) (by omega) h3 h2 (by rw [hu])), fun x hx => ?_⟩
  obtain ⟨a, b, c⟩ := x
  simp only [kwf, Bool.and_eq_true] at hx
  obtain ⟨⟨a1, a2⟩, ⟨b1, b2⟩, e1, e2⟩ := hx
  have wa : (Lit.int .i64 a).wf = true := by simp only [Lit.wf, Bool.and_eq_true]; exact ⟨a1, a2⟩
  have wb : (Lit.int .i64 b).wf = true := by simp only [Lit.wf, Bool.and_eq_true]; exact ⟨b1, b2⟩
  have wc : (Lit.int .i64 c).wf = true := by simp only [Lit.wf, Bool.and_eq_true]; exact ⟨e1, e2⟩
  have hall : fs.all (fun f => f.name != "_") = true := by
    rw [← Array.all_toList, hfs]
    simp only [List.all_cons, List.all_nil, Bool.and_true, Bool.and_eq_true]
    exact ⟨n0, n1, n2⟩
  obtain ⟨m, hm⟩ : ∃ m, P.types.size = m + 1 := ⟨P.types.size - 1, by omega⟩
  refine ⟨.string (keyBytes [.int .i64 a, .int .i64 b, .int .i64 c]), ?_⟩
  show keyOf P kt (.agg #[.int .i64 a, .int .i64 b, .int .i64 c]) = _
  unfold keyOf
  simp only [hu]
  rw [if_pos (by simp [h1, Value.formed, hu, c3]), hm]
  unfold Program.keyLits
  simp only [hu, Value.cells, c3]
  rw [if_pos ⟨rfl, hall⟩, hfs]
  simp [o0, o1, o2, c0, c1, c2, Program.keyLits, t0, t1, t2, wa, wb, wc]
theorem mapTy3 {P : Program} (hl : laidOutB P = true) {t kt vt : TypeId} (h1 : P.underlying t = some (.map kt vt)) (h : key3B P kt = true) {v : Ty} (hv : kflat v = true) (hz : ∀ w, (zeroValue vt).run P w = .ok (encV v v.zero) w) :
    MapTyOk P t (.pair (.int .i64) (.pair (.int .i64) (.int .i64))) v ∧ kflat (.pair (.int .i64) (.pair (.int .i64) (.int .i64))) = true ∧ kflat v = true :=
  ⟨⟨kt, vt, h1, (key3 hl h).1, (key3 hl h).2, hz⟩, rfl, hv⟩
theorem maps_nil {P : Program} (t : TypeId) (k v : Ty) (h : ([] : List (TypeId × Ty × Ty)).lookup t = some (k, v)) : MapTyOk P t k v ∧ kflat k = true ∧ kflat v = true := by cases h
theorem maps_cons {P : Program} {t0 : TypeId} {k0 v0 : Ty} {l : List (TypeId × Ty × Ty)} (h0 : MapTyOk P t0 k0 v0 ∧ kflat k0 = true ∧ kflat v0 = true) (hl : ∀ (t : TypeId) (k v : Ty), l.lookup t = some (k, v) → MapTyOk P t k v ∧ kflat k = true ∧ kflat v = true)
    (t : TypeId) (k v : Ty) (h : ((t0, k0, v0) :: l).lookup t = some (k, v)) : MapTyOk P t k v ∧ kflat k = true ∧ kflat v = true := by
  rw [List.lookup_cons] at h
  split at h
  · rename_i e
    cases h
    rw [eq_of_beq e]
    exact h0
  · exact hl t k v h
end Go.Rv
namespace Go.Rv
def Good {R : Type} (st : St) (K : Fr → Option R) (r : R) (a : Act) (w : World) : Prop := ∃ g fr, Ok st g fr a w ∧ K fr = some r
section
variable {P : Program} {st : St} {g : Gh} {fr : Fr} {a : Act} {w : World} {X : Env} {o : Oper} {R : Type} {K : Fr → Option R} {r : R} {Q : Exit → Act → World → Prop}
theorem wp_value {v : Value} {w' : World} {N : Act → World → Prop} (h : (execOp a.eval o).run P w = .ok (.value v) w') (hk : N (a.put o.dst v) w') : o.wp P a w N Q := by
  unfold Oper.wp; rw [h]; exact hk
theorem wp_skipped {w' : World} {N : Act → World → Prop} (h : (execOp a.eval o).run P w = .ok .skip w') (hk : N (a.put o.dst undef) w') : o.wp P a w N Q := by
  unfold Oper.wp; rw [h]; exact hk
theorem rel_int {w : World} {g : Gh} {bx : Nat → Bool} {p : Place} {k : IntKind} {n : Int} : rel w g bx p (.int k n) (.int k n) := rfl
theorem rel_bool {w : World} {g : Gh} {bx : Nat → Bool} {p : Place} {b : Bool} : rel w g bx p (.bool b) (.bool b) := rfl
theorem int_beq (x y : Int) : (x == y) = decide (x = y) := by
  by_cases h : x = y <;> simp [h]
theorem int_bne (x y : Int) : (x != y) = !decide (x = y) := by
  by_cases h : x = y <;> simp [h]
theorem wr_eq (k : IntKind) (n : Int) : wr k n = k.wrap n := by
  cases k <;> simp only [wr, wrap64_eq]
  unfold RowKit.wrap64
  exact (IntKind.wrap_i64 n).symm
theorem arith_ok {op : BinOp} {k : IntKind} {x y : Int} {K : CV → Option R} {t : TypeId} (h : arith op k x y K = some r) : ∃ c v, (binOp op t (.int k x) (.int k y)).run P w = .ok v w ∧ free c = true ∧ (∀ (g : Gh) bx p, rel w g bx p c v) ∧ K c = some r := by
  cases op
  case add => exact ⟨_, .int k (k.wrap (x + y)), by simp [binOp, Op.intArith], rfl, fun g bx p => by simp only [rel, relP, relF, wr_eq], h⟩
  case sub => exact ⟨_, .int k (k.wrap (x - y)), by simp [binOp, Op.intArith], rfl, fun g bx p => by simp only [rel, relP, relF, wr_eq], h⟩
  case mul => exact ⟨_, .int k (k.wrap (x * y)), by simp [binOp, Op.intArith], rfl, fun g bx p => by simp only [rel, relP, relF, wr_eq], h⟩
  case quo =>
    simp only [arith] at h
    split at h
    · cases h
    · rename_i hy
      exact ⟨_, .int k (k.wrap (x.tdiv y)), by simp [binOp, Op.intDiv, hy], rfl, fun g bx p => by simp only [rel, relP, relF, wr_eq], h⟩
  case rem =>
    simp only [arith] at h
    split at h
    · cases h
    · rename_i hy
      exact ⟨_, .int k (x.tmod y), by simp [binOp, Op.intDiv, hy], rfl, fun g bx p => rel_int, h⟩
  case shr =>
    simp only [arith] at h
    split at h
    · cases h
    · rename_i hy
      exact ⟨_, .int k _, by simp [binOp, Op.shift, hy], rfl, fun g bx p => rel_int, h⟩
  case shl =>
    simp only [arith] at h
    split at h
    · cases h
    · rename_i hy
      exact ⟨_, .int k (k.wrap (x * 2 ^ min y.toNat k.bits)), by simp [binOp, Op.shift, hy], rfl, fun g bx p => by simp only [rel, relP, relF, wr_eq], h⟩
  case and => exact ⟨_, .int k _, by simp [binOp, Op.intBits], rfl, fun g bx p => rel_int, h⟩
  case or => exact ⟨_, .int k _, by simp [binOp, Op.intBits], rfl, fun g bx p => rel_int, h⟩
  case xor => exact ⟨_, .int k _, by simp [binOp, Op.intBits], rfl, fun g bx p => rel_int, h⟩
  case eql => exact ⟨_, .bool (decide (x = y)), by simp [binOp, Op.intCmp, int_beq], rfl, fun g bx p => rel_bool, h⟩
  case neq => exact ⟨_, .bool (!decide (x = y)), by simp [binOp, Op.intCmp, int_bne], rfl, fun g bx p => rel_bool, h⟩
  case lss => exact ⟨_, .bool (decide (x < y)), by simp [binOp, Op.intCmp], rfl, fun g bx p => rel_bool, h⟩
  case leq => exact ⟨_, .bool (decide (x ≤ y)), by simp [binOp, Op.intCmp], rfl, fun g bx p => rel_bool, h⟩
  case gtr => exact ⟨_, .bool (decide (y < x)), by simp [binOp, Op.intCmp], rfl, fun g bx p => rel_bool, h⟩
  case geq => exact ⟨_, .bool (decide (y ≤ x)), by simp [binOp, Op.intCmp], rfl, fun g bx p => rel_bool, h⟩
  all_goals (simp only [arith] at h; cases h)
theorem ok_move (h : Ok st g fr a w) (hX : Fits X st) {x : Operand} (ho : o.op = .move x) (hk : ∀ t vs, x = .tmp t → fr t ≠ .tup vs) (hf : fin X fr o.dst (.comp (opd fr x).1 (opd fr x).2) K = some r) : o.wp P a w (Good st K r) Q := by
  obtain ⟨g', fr', h1, h2⟩ := fin_free hX h (opd_ok h x) hf
  exact wp_value (by simp only [execOp, ho, Sem.run_pure]) ⟨g', fr', h1, h2⟩
theorem pick_ok (h : Ok st g fr a w) (hX : Fits X st) {c x y : Operand} (ho : o.op = .pick c x y) {b : Bool} (hc : opc fr c = .bool b)
    (hf : (if b = true then fin X fr o.dst (.comp (opd fr x).1 (opd fr x).2) K else fin X fr o.dst (.comp (opd fr y).1 (opd fr y).2) K) = some r) : o.wp P a w (Good st K r) Q := by
  have hb := (opc_rel h hc (by simp) (by simp)).2
  have hb' : a.eval c = .bool b := hb
  cases b with
  | true =>
    obtain ⟨g', fr', h1, h2⟩ := fin_free hX h (opd_ok h x) (by simpa using hf)
    exact wp_value (v := a.eval x) (w' := w) (by simp [execOp, ho, hb', asBool]) ⟨g', fr', h1, h2⟩
  | false =>
    obtain ⟨g', fr', h1, h2⟩ := fin_free hX h (opd_ok h y) (by simpa using hf)
    exact wp_value (v := a.eval y) (w' := w) (by simp [execOp, ho, hb', asBool]) ⟨g', fr', h1, h2⟩
theorem one_ok (h : Ok st g fr a w) (hX : Fits X st) {c : CV} {v : Value} (hrun : (execOp a.eval o).run P w = .ok (.value v) w) (hfr : free c = true) (hv : rel w g (isBox fr) (.air 0) c v)
    (hf : fin X fr o.dst (.comp false [c]) K = some r) : o.wp P a w (Good st K r) Q := by
  obtain ⟨g', fr', h1, h2⟩ := fin_one hX h hfr hv hf
  exact wp_value hrun ⟨g', fr', h1, h2⟩
theorem run_eqGuard_other {op : BinOp} {t : TypeId} {x y : Operand} {u v : Value} (h : (match u, v with | .nilIface, .nilIface => true | .agg _, .agg _ => true | _, _ => false) = false) : (eqGuard op t x y u v).run P w = .ok () w := by
  unfold eqGuard
  cases op <;> simp <;> (cases u <;> cases v <;> simp_all)
theorem eqCells_run (w : World) (g : Gh) (bx : Nat → Bool) (d : Nat) : ∀ (cs ds : List CV) (q : Bool), eqCells cs ds = some q → ∀ (xs ys : List Value) (s i k : Nat) (fs : List Field),
    (∀ (j : Nat) (c : CV), cs[j]? = some c → ∃ u : Value, xs[k + j]? = some u ∧ ∀ p, rel w g bx p c u) → (∀ (j : Nat) (c : CV), ds[j]? = some c → ∃ u : Value, ys[k + j]? = some u ∧ ∀ p, rel w g bx p c u) →
    fs.length = cs.length → fitEqF P k fs = true → (Op.eqFields (d + 1) xs.toArray ys.toArray fs).run P w = .ok q w := by
  intro cs
  induction cs with
  | nil =>
    intro ds q hq xs ys s i k fs hx hy hl hf
    have hfs : fs = [] := List.eq_nil_of_length_eq_zero (by simpa using hl)
    subst hfs
    cases ds with
    | nil => simp [eqCells] at hq; subst hq; simp [Op.eqFields]
    | cons c ds => cases c <;> simp [eqCells] at hq
  | cons c cs ih =>
    intro ds q hq xs ys s i k fs hx hy hl hf
    cases ds with
    | nil => cases c <;> simp [eqCells] at hq
    | cons e ds =>
      cases c <;> cases e <;> try (simp [eqCells] at hq; done)
      rename_i j1 n1 j2 n2
      simp only [eqCells] at hq
      split at hq
      · rename_i hj
        subst hj
        cases hq' : eqCells cs ds with
        | none => rw [hq'] at hq; cases hq
        | some q' =>
          rw [hq'] at hq
          simp only [Option.some.injEq] at hq
          subst hq
          cases fs with
          | nil => simp at hl
          | cons F fs =>
            simp only [fitEqF, Bool.and_eq_true] at hf
            obtain ⟨f1, f2, f3, f4⟩ := hf
            obtain ⟨u, hu, hru⟩ := hx 0 _ rfl
            obtain ⟨v, hv, hrv⟩ := hy 0 _ rfl
            have hru' : u = .int j1 n1 := hru (.air 0)
            have hrv' : v = .int j1 n2 := hrv (.air 0)
            subst hru' hrv'
            have hoff : F.offset = k := Nat.eq_of_beq_eq_true f2
            split at f3
            · rename_i kk hk
              have hag : (isAgg F.type).run P w = .ok false w := by unfold isAgg; rw [Sem.run_bind, run_underlying hk w]; rfl
              have hp1 : (part F.type xs.toArray F.offset).run P w = .ok (.int j1 n1) w := by
                simp only [part, Sem.run_bind, hag, Result.andThen_ok, Bool.false_eq_true, if_false, hoff]
                simp only [Nat.add_zero] at hu
                simp [hu]
              have hp2 : (part F.type ys.toArray F.offset).run P w = .ok (.int j1 n2) w := by
                simp only [part, Sem.run_bind, hag, Result.andThen_ok, Bool.false_eq_true, if_false, hoff]
                simp only [Nat.add_zero] at hv
                simp [hv]
              have hne : F.name ≠ "_" := by simpa using f1
              simp only [Op.eqFields, hne, ne_eq, not_false_eq_true, if_true, Sem.run_bind, hp1, hp2, Result.andThen_ok, run_equalIn_int w d F.type j1 kk n1 n2 hk]
              have hih := ih ds q' hq' xs ys s i (k + 1) fs (fun j c hj => by
                obtain ⟨u, hu, hr⟩ := hx (j + 1) c (by simpa using hj)
                exact ⟨u, by rw [show k + 1 + j = k + (j + 1) by omega]; exact hu, hr⟩) (fun j c hj => by
                obtain ⟨u, hu, hr⟩ := hy (j + 1) c (by simpa using hj)
                exact ⟨u, by rw [show k + 1 + j = k + (j + 1) by omega]; exact hu, hr⟩) (by simpa using hl) f4
              by_cases hn : n1 = n2
              · simp [hn, hih]
              · have : (n1 == n2) = false := by simp [hn]
                simp [this, hn]
            · cases f3
      · cases hq
theorem bifS {α : Type} {b : Bool} {x : Option α} {r : α} (h : (bif b then x else none) = some r) : b = true ∧ x = some r := by cases b <;> simp_all
theorem eqCells_length : ∀ (cs ds : List CV) (q : Bool), eqCells cs ds = some q → cs.length = ds.length
  | [], [], q, _ => rfl
  | [], d :: ds, q, h => by cases d <;> simp [eqCells] at h
  | c :: cs, [], q, h => by cases c <;> simp [eqCells] at h
  | c :: cs, d :: ds, q, h => by
    cases c <;> cases d <;> try (simp [eqCells] at h; done)
    simp only [eqCells] at h
    split at h
    · split at h
      · rename_i q' hq; simp [eqCells_length cs ds q' hq]
      · cases h
    · cases h
theorem eqCells_app : ∀ (cs ds cs' ds' : List CV) (q : Bool), cs.length = ds.length → eqCells (cs ++ cs') (ds ++ ds') = some q → ∃ q1 q2, eqCells cs ds = some q1 ∧ eqCells cs' ds' = some q2 ∧ q = (q1 && q2)
  | [], [], cs', ds', q, _, h => ⟨true, q, rfl, h, rfl⟩
  | [], d :: ds, cs', ds', q, hl, h => by simp at hl
  | c :: cs, [], cs', ds', q, hl, h => by simp at hl
  | c :: cs, d :: ds, cs', ds', q, hl, h => by
    simp only [List.cons_append] at h
    cases c <;> cases d <;> try (simp [eqCells] at h; done)
    simp only [eqCells] at h ⊢
    split at h
    · rename_i hj
      split at h
      · rename_i q' hq
        obtain ⟨q1, q2, h1, h2, rfl⟩ := eqCells_app cs ds cs' ds' q' (by simpa using hl) hq
        cases h
        exact ⟨_, q2, by rw [if_pos hj, h1], h2, by rw [Bool.and_assoc]⟩
      · cases h
    · cases h
theorem fitEqN_le (P : Program) : ∀ (fs : List Field) (k n : Nat), fitEqN P k fs = some n → k ≤ n
  | [], k, n, h => by cases h; exact Nat.le_refl _
  | F :: fs, k, n, h => by
    rw [fitEqN] at h
    obtain ⟨_, h⟩ := bifS h
    split at h
    · exact Nat.le_trans (Nat.le_succ k) (fitEqN_le P fs _ n h)
    · obtain ⟨_, h⟩ := bifS h
      exact Nat.le_trans (Nat.le_add_right k _) (fitEqN_le P fs _ n h)
    · cases h
theorem eqNest_run (w : World) (g : Gh) (bx : Nat → Bool) (d : Nat) : ∀ (fs : List Field) (k n : Nat), fitEqN P k fs = some n → ∀ (cs ds : List CV) (q : Bool), eqCells cs ds = some q → k + cs.length = n → ∀ (xs ys : List Value),
    (∀ (j : Nat) (c : CV), cs[j]? = some c → ∃ u : Value, xs[k + j]? = some u ∧ ∀ p, rel w g bx p c u) → (∀ (j : Nat) (c : CV), ds[j]? = some c → ∃ u : Value, ys[k + j]? = some u ∧ ∀ p, rel w g bx p c u) →
    (Op.eqFields (d + 1 + 1) xs.toArray ys.toArray fs).run P w = .ok q w := by
  intro fs
  induction fs with
  | nil =>
    intro k n hf cs ds q hq hl xs ys hx hy
    cases hf
    have : cs = [] := List.eq_nil_of_length_eq_zero (by omega)
    subst this
    cases ds with
    | nil => simp [eqCells] at hq; subst hq; simp [Op.eqFields]
    | cons c ds => cases c <;> simp [eqCells] at hq
  | cons F fs ih =>
    intro k n hf cs ds q hq hl xs ys hx hy
    rw [fitEqN] at hf
    obtain ⟨hno, hf⟩ := bifS hf
    simp only [Bool.and_eq_true] at hno
    obtain ⟨hna, hof⟩ := hno
    have hoff : F.offset = k := Nat.eq_of_beq_eq_true hof
    have hne : F.name ≠ "_" := by simpa using hna
    have hqn := eqCells_length cs ds q hq
    split at hf
    · rename_i kk hk
      have hle := fitEqN_le P fs _ n hf
      have hag : (isAgg F.type).run P w = .ok false w := by unfold isAgg; rw [Sem.run_bind, run_underlying hk w]; rfl
      cases cs with
      | nil => simp at hl; omega
      | cons c cs =>
        cases ds with
        | nil => simp at hqn
        | cons e ds =>
          cases c <;> cases e <;> try (simp [eqCells] at hq; done)
          rename_i j1 n1 j2 n2
          simp only [eqCells] at hq
          split at hq
          case isFalse => cases hq
          rename_i hj
          subst hj
          cases hq' : eqCells cs ds with
          | none => rw [hq'] at hq; cases hq
          | some q' =>
            rw [hq'] at hq
            simp only [Option.some.injEq] at hq
            subst hq
            obtain ⟨u, hu, hru⟩ := hx 0 _ rfl
            obtain ⟨v, hv, hrv⟩ := hy 0 _ rfl
            have hru' : u = .int j1 n1 := hru (.air 0)
            have hrv' : v = .int j1 n2 := hrv (.air 0)
            subst hru' hrv'
            have hp1 : (part F.type xs.toArray F.offset).run P w = .ok (.int j1 n1) w := by
              simp only [part, Sem.run_bind, hag, Result.andThen_ok, Bool.false_eq_true, if_false, hoff]
              simp only [Nat.add_zero] at hu
              simp [hu]
            have hp2 : (part F.type ys.toArray F.offset).run P w = .ok (.int j1 n2) w := by
              simp only [part, Sem.run_bind, hag, Result.andThen_ok, Bool.false_eq_true, if_false, hoff]
              simp only [Nat.add_zero] at hv
              simp [hv]
            simp only [Op.eqFields, hne, ne_eq, not_false_eq_true, if_true, Sem.run_bind, hp1, hp2, Result.andThen_ok, run_equalIn_int w (d + 1) F.type j1 kk n1 n2 hk]
            have hih := ih (k + 1) n hf cs ds q' hq' (by simp only [List.length_cons] at hl; omega) xs ys (fun j c hj => by
              obtain ⟨u, hu, hr⟩ := hx (j + 1) c (by simpa using hj)
              exact ⟨u, by rw [show k + 1 + j = k + (j + 1) by omega]; exact hu, hr⟩) (fun j c hj => by
              obtain ⟨u, hu, hr⟩ := hy (j + 1) c (by simpa using hj)
              exact ⟨u, by rw [show k + 1 + j = k + (j + 1) by omega]; exact hu, hr⟩)
            by_cases hn : n1 = n2
            · simp [hn, hih]
            · have : (n1 == n2) = false := by simp [hn]
              simp [this, hn]
    · rename_i gs hk
      obtain ⟨hst, hf⟩ := bifS hf
      simp only [Bool.and_eq_true, Bool.not_eq_true'] at hst
      obtain ⟨hst, hff, hsz⟩ := hst
      split at hsz
      case h_2 => cases hsz
      rename_i i hi
      have hsz : i.size = gs.toList.length := Nat.eq_of_beq_eq_true hsz
      have hle := fitEqN_le P fs _ n hf
      generalize hm : gs.toList.length = m at *
      have hsplit : ∀ l : List CV, l = l.take m ++ l.drop m := fun l => (List.take_append_drop m l).symm
      have hcl : (cs.take m).length = m := by simp; omega
      have hdl : (ds.take m).length = m := by simp; omega
      rw [hsplit cs, hsplit ds] at hq
      obtain ⟨q1, q2, h1, h2, rfl⟩ := eqCells_app _ _ _ _ q (by omega) hq
      have hag : (isAgg F.type).run P w = .ok true w := by unfold isAgg; rw [Sem.run_bind, run_underlying hk w]; rfl
      have hpart : ∀ zs : List Value, (part F.type zs.toArray F.offset).run P w = .ok (.agg ((zs.drop k).take m).toArray) w := by
        intro zs
        have hso : (sizeOf F.type).run P w = .ok i.size w := by simp [sizeOf, typeInfo, hi]
        simp only [part, Sem.run_bind, hag, Result.andThen_ok, if_true, hso, hoff, hsz, Sem.run_pure]
        congr 2
        apply Array.ext'
        simp [List.extract_eq_take_drop]
      have hin : (Op.equalIn (d + 1 + 1) F.type (.agg ((xs.drop k).take m).toArray) (.agg ((ys.drop k).take m).toArray)).run P w = .ok q1 w := by
        rw [run_equalIn_agg w (d + 1) F.type _ _ (by unfold Program.fieldsOf; rw [hk]) hst]
        refine eqCells_run w g bx d (cs.take m) (ds.take m) q1 h1 _ _ 0 0 0 _ (fun j c hj => ?_) (fun j c hj => ?_) ?_ ?_
        · have hjm : j < m := by have := (List.getElem?_eq_some_iff.1 hj).1; omega
          rw [List.getElem?_take_of_lt hjm] at hj
          obtain ⟨u, hu, hr⟩ := hx j c hj
          exact ⟨u, by rw [List.getElem?_take_of_lt (by omega), List.getElem?_drop]; simpa using hu, hr⟩
        · have hjm : j < m := by have := (List.getElem?_eq_some_iff.1 hj).1; omega
          rw [List.getElem?_take_of_lt hjm] at hj
          obtain ⟨u, hu, hr⟩ := hy j c hj
          exact ⟨u, by rw [List.getElem?_take_of_lt (by omega), List.getElem?_drop]; simpa using hu, hr⟩
        · simp only [Program.fieldsOf, hk]; omega
        · simp only [Program.fieldsOf, hk]; exact hff
      have hih := ih (k + m) n hf (cs.drop m) (ds.drop m) q2 h2 (by simp; omega) xs ys (fun j c hj => by
        rw [List.getElem?_drop] at hj
        obtain ⟨u, hu, hr⟩ := hx (m + j) c hj
        exact ⟨u, by rw [Nat.add_assoc]; exact hu, hr⟩) (fun j c hj => by
        rw [List.getElem?_drop] at hj
        obtain ⟨u, hu, hr⟩ := hy (m + j) c hj
        exact ⟨u, by rw [Nat.add_assoc]; exact hu, hr⟩)
      simp only [Op.eqFields, hne, ne_eq, not_false_eq_true, if_true, Sem.run_bind, hpart, Result.andThen_ok, hin]
      cases q1
      · simp
      · simp [hih]
    · cases hf
theorem equalIn_nil {w : World} {t : TypeId} {el : TypeId} {ad : Addr} {n c : Nat} (hu : P.underlying t = some (.slice el)) (d : Nat) : (Op.equalIn (d + 1) t (.slice (some ad) n c) (.slice none 0 0)).run P w = .ok false w := by
  simp [Op.equalIn, run_underlying hu]
theorem bin_ok (hT : TabOk P X) (h : Ok st g fr a w) (hX : Fits X st) {isB isS : Bool} {op : BinOp} {t ty : TypeId} {x y : Operand} (hB : isB = X.boolT t) (hS : isS = (X.sl t).isSome) (ho : o.op = .binOp op t x y ty)
    (hf : binop isB isS op (opc fr x) (opc fr y) (fun c => fin X fr o.dst (.comp false [c]) K) = some r) : o.wp P a w (Good st K r) Q := by
  cases hx : opc fr x <;> cases hy : opc fr y <;> rw [hx, hy] at hf <;> simp only [binop] at hf <;> first | (cases hf; done) | skip
  · rename_i j u k v
    split at hf
    · rename_i hjk
      subst hjk
      have h1 : a.eval x = .int j u := (opc_rel h hx (by simp) (by simp)).2
      have h2 : a.eval y = .int j v := (opc_rel h hy (by simp) (by simp)).2
      obtain ⟨c, z, e1, e2, e3, e4⟩ := arith_ok (P := P) (w := w) (t := t) hf
      refine one_ok h hX (v := z) (c := c) ?_ e2 (e3 g _ _) e4
      simp only [execOp, ho, h1, h2, Sem.run_bind, run_eqGuard_other (u := .int j u) (v := .int j v) rfl, Result.andThen_ok, e1, Sem.run_pure]
    · cases hf
  · rename_i u v
    have h1 : a.eval x = .bool u := (opc_rel h hx (by simp) (by simp)).2
    have h2 : a.eval y = .bool v := (opc_rel h hy (by simp) (by simp)).2
    cases hb : isB
    · simp [hb] at hf
    · rw [hb] at hf hB
      have hu := ti_bool hT hB.symm
      have he : (Op.equal t (.bool u) (.bool v)).run P w = .ok (u == v) w := by
        unfold Op.equal Op.maxDepth
        exact run_equalIn_bool' w _ t u v hu
      cases op <;> simp only [cond_true] at hf <;> first
        | (cases hf; done)
        | (refine one_ok (c := .bool _) h hX (hv := rfl) (hfr := rfl) (hf := hf) ?_
           simp only [execOp, ho, h1, h2, Sem.run_bind, run_eqGuard_other (u := .bool u) (v := .bool v) rfl, Result.andThen_ok, binOp, he, Sem.run_pure])
  · rename_i u xs
    obtain ⟨hSS, hf⟩ := bifS hf
    rw [hSS] at hS
    obtain ⟨e, he⟩ := Option.isSome_iff_exists.1 hS.symm
    obtain ⟨el, hu, -⟩ := ti_slice hT he
    have h1 : RS w g.Z u xs (a.eval x) := (opc_rel h hx (by simp) (by simp)).2
    have h2 : a.eval y = .slice none 0 0 := (opc_rel h hy (by simp) (by simp)).2
    simp only [rep, List.cons.injEq, and_true] at h1
    obtain ⟨A, cap, h1, -, h3⟩ := h1
    have key : 0 < xs.length → (Op.equal t (.slice A xs.length cap) (.slice none 0 0)).run P w = .ok false w := by
      intro hp
      obtain ⟨ad, -, rfl, -⟩ := h3 0 _ (List.getElem?_eq_getElem hp)
      unfold Op.equal Op.maxDepth
      exact equalIn_nil hu 9999
    cases op <;> simp only at hf <;> first
      | (cases hf; done)
      | (split at hf
         · rename_i hp
           refine one_ok (c := .bool _) h hX (hv := rfl) (hfr := rfl) (hf := hf) ?_
           simp only [execOp, ho, h1, h2, Sem.run_bind, run_eqGuard_other (u := .slice A xs.length cap) (v := .slice none 0 0) rfl, Result.andThen_ok, binOp, key hp, Sem.run_pure, Bool.not_false]
         · cases hf)
theorem struct_eq_ok (hT : TabOk P X) (h : Ok st g fr a w) (hX : Fits X st) {op : BinOp} {t ty : TypeId} {x y : Operand} (ho : o.op = .binOp op t x y ty) {cs ds : List CV} {i : TI} {q : Bool}
    (hx : opd fr x = (true, cs)) (hy : opd fr y = (true, ds)) (hi : X.ti t = some i) (hq : eqCells cs ds = some q) (he : (i.eq && i.agg && cs.length.beq i.ty.cells) = true)
    (hf : (match op with
          | .eql => fin X fr o.dst (.comp false [.bool q]) K
          | .neq => fin X fr o.dst (.comp false [.bool (!q)]) K
          | _ => none) = some r) : o.wp P a w (Good st K r) Q := by
  simp only [Bool.and_eq_true] at he
  obtain ⟨⟨he1, he2⟩, he3⟩ := he
  have hfe := ti_eq hT hi he1
  obtain ⟨fs, hfs, hff⟩ := ti_struct hT hi he2
  simp only [fitEq, Bool.and_eq_true, Bool.not_eq_true', hfs] at hfe
  obtain ⟨hst, hgd, hfq⟩ := hfe
  split at hfq
  case h_2 => cases hfq
  rename_i n hn
  have hn' : n = i.ty.cells := Nat.eq_of_beq_eq_true hfq
  have he3 : cs.length = i.ty.cells := Nat.eq_of_beq_eq_true he3
  obtain ⟨hxf, xs, hxv, hxc⟩ := (by have := opd_ok h x; rw [hx] at this; exact this : FRel w g (isBox fr) (true, cs) (a.eval x))
  obtain ⟨hyf, ys, hyv, hyc⟩ := (by have := opd_ok h y; rw [hy] at this; exact this : FRel w g (isBox fr) (true, ds) (a.eval y))
  have key : (Op.equalIn 10000 t (.agg xs.toArray) (.agg ys.toArray)).run P w = .ok q w := by
    rw [show (10000 : Nat) = 9997 + 1 + 1 + 1 from rfl, run_equalIn_agg w (9997 + 1 + 1) t _ _ (by unfold Program.fieldsOf; rw [hfs]) hst]
    have hfo : (P.fieldsOf t).toList = fs.toList := by simp only [Program.fieldsOf, hfs]
    rw [hfo]
    refine eqNest_run w g (isBox fr) 9997 fs.toList 0 n hn cs ds q hq (by omega) xs ys (fun j c hj => ?_) (fun j c hj => ?_)
    · obtain ⟨u, hu, hr⟩ := hxc.2 j c hj
      exact ⟨u, by simpa using hu, fun p => rel_place (List.all_eq_true.1 hxf c (List.mem_of_getElem? hj)) hr⟩
    · obtain ⟨u, hu, hr⟩ := hyc.2 j c hj
      exact ⟨u, by simpa using hu, fun p => rel_place (List.all_eq_true.1 hyf c (List.mem_of_getElem? hj)) hr⟩
  cases op <;> simp only at hf <;> first
    | (cases hf; done)
    | (refine one_ok (c := .bool _) h hX (hv := rfl) (hfr := rfl) (hf := hf) ?_
       simp only [execOp, ho, hxv, hyv, Sem.run_bind, run_eqGuard_agg w _ t x y _ _ hgd, Result.andThen_ok, run_eql_struct, run_neq_struct, key, Sem.run_pure])
end
end Go.Rv
namespace Go.Rv
section
variable {P : Program} {st : St} {g : Gh} {fr : Fr} {a : Act} {w : World} {X : Env} {o : Oper} {R : Type} {K : Fr → Option R} {r : R} {Q : Exit → Act → World → Prop}
theorem not_ok (h : Ok st g fr a w) (hX : Fits X st) {t : TypeId} {x : Operand} (ho : o.op = .unOp .not t x) {b : Bool} (hx : opc fr x = .bool b) (hf : fin X fr o.dst (.comp false [.bool (!b)]) K = some r) : o.wp P a w (Good st K r) Q := by
  have h1 : a.eval x = .bool b := (opc_rel h hx (by simp) (by simp)).2
  exact one_ok (c := .bool (!b)) (v := .bool (!b)) h hX (by simp [execOp, ho, h1, Op.unary]) rfl rel_bool hf
theorem neg_ok (h : Ok st g fr a w) (hX : Fits X st) {t : TypeId} {x : Operand} (ho : o.op = .unOp .neg t x) {k : IntKind} {n : Int} (hx : opc fr x = .int k n) (hf : fin X fr o.dst (.comp false [.int k (wr k (0 - n))]) K = some r) : o.wp P a w (Good st K r) Q := by
  have h1 : a.eval x = .int k n := (opc_rel h hx (by simp) (by simp)).2
  exact one_ok (c := .int k (wr k (0 - n))) (v := .int k (wr k (0 - n))) h hX (by simp [execOp, ho, h1, Op.unary, Op.intArith, wr_eq]) rfl rel_int hf
theorem convert_ok (hT : TabOk P X) (h : Ok st g fr a w) (hX : Fits X st) {s t : TypeId} {x : Operand} (ho : o.op = .convert s t x) {i : TI} {k j : IntKind} {n : Int} (hs : X.ti s = some i) (ht : X.intK t = some k) (hx : opc fr x = .int j n)
    (hf : fin X fr o.dst (.comp false [.int k (wr k n)]) K = some r) : o.wp P a w (Good st K r) Q := by
  have h1 : a.eval x = .int j n := (opc_rel h hx (by simp) (by simp)).2
  obtain ⟨d, hd, _⟩ := ti_under hT hs
  exact one_ok (c := .int k (wr k n)) (v := .int k (wr k n)) h hX (by
    simp only [execOp, ho, h1, convert, Sem.run_bind, run_underlying hd, run_underlying (ti_int hT ht), Result.andThen_ok, Conv.intToInt, Sem.run_pure, wr_eq]) rfl rel_int hf
theorem len_ok (hT : TabOk P X) (h : Ok st g fr a w) (hX : Fits X st) {c : Call} {x : Operand} {t : TypeId} (ho : o.op = .call c) (hc : c.callee = .builtin .len) (hat : c.argTypes.toList = [t]) (ha : c.args.toList = [x]) {n : Int}
    (hn : lenOf (X.strT t) (X.sl t).isSome (opc fr x) = some n) (hf : fin X fr o.dst (.comp false [.int .i64 n]) K = some r) : o.wp P a w (Good st K r) Q := by
  obtain ⟨ce, ⟨as⟩, ⟨ts⟩⟩ := c
  simp only at hc hat ha
  subst hc hat ha
  have key : (Builtin.len_ #[t] o.type #[a.eval x]).run P w = .ok (.int .i64 n) w := by
    cases hx : opc fr x <;> rw [hx] at hn <;> simp only [lenOf] at hn <;> first | (cases hn; done) | skip
    case str s =>
      have h1 : a.eval x = .string s := (opc_rel h hx (by simp) (by simp)).2
      cases hs : X.strT t
      · simp [hs] at hn
      · simp only [hs, cond_true, Option.some.injEq] at hn
        subst hn
        simp [Builtin.len_, run_underlying (ti_str hT hs), h1, goInt]
    all_goals
      cases hs : X.sl t with
      | none => simp [hs] at hn
      | some u =>
        simp only [hs, Option.isSome_some, cond_true, Option.some.injEq] at hn
        subst hn
        obtain ⟨e, he, _⟩ := ti_slice hT hs
        have h1 := (opc_rel h hx (by simp) (by simp)).2
        first
          | (have h2 : a.eval x = .slice none 0 0 := h1
             simp [Builtin.len_, run_underlying he, h2, goInt]; done)
          | (obtain ⟨A, cap, hv, _⟩ := h1
             simp only [List.cons.injEq, and_true] at hv
             simp [Builtin.len_, run_underlying he, hv, goInt]; done)
          | (obtain ⟨⟨A, cap, hv, _⟩, _⟩ := h1
             simp only [List.cons.injEq, and_true] at hv
             simp [Builtin.len_, run_underlying he, hv, goInt]; done)
  exact one_ok (c := .int .i64 n) h hX (v := .int .i64 n) (by
    simp [execOp, ho, resolve, invoke, builtin, key, Result.andThen]) rfl rel_int hf
theorem min_ok (h : Ok st g fr a w) (hX : Fits X st) {c : Call} {x y : Operand} (ho : o.op = .call c) (hc : c.callee = .builtin .min) (ha : c.args.toList = [x, y]) {j : IntKind} {m n : Int}
    (hx : opc fr x = .int j m) (hy : opc fr y = .int j n) (hf : fin X fr o.dst (.comp false [.int j (if n < m then n else m)]) K = some r) : o.wp P a w (Good st K r) Q := by
  obtain ⟨ce, ⟨as⟩, ts⟩ := c
  simp only at hc ha
  subst hc ha
  have h1 : a.eval x = .int j m := (opc_rel h hx (by simp) (by simp)).2
  have h2 : a.eval y = .int j n := (opc_rel h hy (by simp) (by simp)).2
  exact one_ok (c := .int j (if n < m then n else m)) h hX (v := .int j (if n < m then n else m)) (by
    simp [execOp, ho, resolve, invoke, builtin, h1, h2, Builtin.min_, Builtin.min2, Result.andThen]) rfl rel_int hf
theorem max_ok (h : Ok st g fr a w) (hX : Fits X st) {c : Call} {x y : Operand} (ho : o.op = .call c) (hc : c.callee = .builtin .max) (ha : c.args.toList = [x, y]) {j : IntKind} {m n : Int}
    (hx : opc fr x = .int j m) (hy : opc fr y = .int j n) (hf : fin X fr o.dst (.comp false [.int j (if m < n then n else m)]) K = some r) : o.wp P a w (Good st K r) Q := by
  obtain ⟨ce, ⟨as⟩, ts⟩ := c
  simp only at hc ha
  subst hc ha
  have h1 : a.eval x = .int j m := (opc_rel h hx (by simp) (by simp)).2
  have h2 : a.eval y = .int j n := (opc_rel h hy (by simp) (by simp)).2
  exact one_ok (c := .int j (if m < n then n else m)) h hX (v := .int j (if m < n then n else m)) (by
    simp [execOp, ho, resolve, invoke, builtin, h1, h2, Builtin.max_, Builtin.max2, Result.andThen]) rfl rel_int hf
end
end Go.Rv
namespace Go.Rv
section
variable {P : Program} {st : St} {g : Gh} {fr : Fr} {a : Act} {w : World} {X : Env} {o : Oper} {R : Type} {K : Fr → Option R} {r : R} {Q : Exit → Act → World → Prop}
theorem add_mid (a : Addr) (h : a.spot = none) (n : Nat) : a.add n = ⟨a.block, a.off + n, none⟩ := by
  obtain ⟨b, o, s⟩ := a
  simp only at h
  subst h
  exact Addr.add_mid b o n
theorem addr_eta (a : Addr) (h : a.spot = none) : a = ⟨a.block, a.off, none⟩ := by
  obtain ⟨b, o, s⟩ := a; simp only at h; subst h; rfl
def isPtr : CV → Bool
  | .ptr _ _ | .rptr _ | .hptr _ | .eptr _ _ _ _ _ _ => true
  | _ => false
theorem ptr_of {c : CV} {v : Value} {bx : Nat → Bool} (hc : isPtr c = true) (h : rel w g bx (.air 0) c v) : ∃ ad : Addr, v = .pointer (some ad) ∧ ad.spot = none := by
  cases c <;> simp [isPtr] at hc
  · obtain ⟨_, b, _, rfl⟩ := h; exact ⟨_, rfl, rfl⟩
  · obtain ⟨ad, rfl, hp⟩ := h; exact ⟨_, rfl, hp.1⟩
  · obtain ⟨ad, rfl, hp⟩ := h; exact ⟨_, rfl, hp.1⟩
  · obtain ⟨ad, rfl, hp, _⟩ := h; exact ⟨_, rfl, hp.1⟩
theorem nil_ok (h : Ok st g fr a w) (hX : Fits X st) {x : Operand} (ho : o.op = .nilCheck x) {c : CV} (hx : opc fr x = c) (hc : isPtr c = true)
    (hf : fin X fr o.dst (.comp false [c]) K = some r) : o.wp P a w (Good st K r) Q := by
  have h0 := opc_rel h hx (by intro e; subst e; simp [isPtr] at hc) (by intro e; subst e; simp [isPtr] at hc)
  obtain ⟨ad, hv, _⟩ := ptr_of hc h0.2
  refine one_ok h hX (v := a.eval x) ?_ h0.1 h0.2 hf
  simp [execOp, ho, hv]
theorem PL_drop {Q : Nat → Nat → Prop} {ad : Addr} {cs : List CV} (h : PL w g Q ad cs) (off : Nat) : PL w g Q ⟨ad.block, ad.off + off, none⟩ (cs.drop off) := by
  refine ⟨rfl, fun j c hj => ?_⟩
  rw [List.getElem?_drop] at hj
  obtain ⟨h1, u, h2, h3⟩ := h.2 _ c hj
  exact ⟨by simpa [Nat.add_assoc] using h1, u, by simpa [Nat.add_assoc] using h2, h3⟩
theorem fieldAddr_ok (hT : TabOk P X) (h : Ok st g fr a w) (hX : Fits X st) {t : TypeId} {x : Operand} {f : Nat} (ho : o.op = .fieldAddr t x f) {i : TI} {off n : Nat} {gg : Bool} {c : CV} (hi : X.ti t = some i) (ha : i.agg = true) (hoff : i.offs[f]? = some (off, n, gg))
    (hc : fieldAddr (opc fr x) off = some c) (hf : fin X fr o.dst (.comp false [c]) K = some r) : o.wp P a w (Good st K r) Q := by
  obtain ⟨fs, hfs, hff⟩ := ti_struct hT hi ha
  obtain ⟨F, ii, d, e1, e2, e3, e4, e5, e6, e7, _⟩ := (fitFields_spec _ _ hff).2 f off n gg hoff
  have hrun : ∀ ad : Addr, ad.spot = none → a.eval x = .pointer (some ad) → (execOp a.eval o).run P w = .ok (.value (.pointer (some ⟨ad.block, ad.off + off, none⟩))) w := by
    intro ad hsp hv
    have hF : fs[f]? = some F := by simpa using e1
    have hsz : (sizeOf F.type).run P w = .ok n w := by simp [sizeOf, typeInfo, e3, e4]
    simp only [execOp, ho, Instr.fieldAt, hv, Instr.sureAddr, Sem.run_bind, run_underlying hfs, Result.andThen_ok, hF, Sem.run_pure, fieldPlace, hsz]
    rw [if_neg (by omega)]
    simp only [Sem.run_pure, Result.andThen_ok, add_mid ad hsp, e2]
  cases hx : opc fr x <;> rw [hx] at hc <;> simp only [fieldAddr] at hc <;> first | (cases hc; done) | skip
  case ptr s c' =>
    obtain ⟨h1, b, h2, h3⟩ := (opc_rel h hx (by simp) (by simp)).2
    cases hc
    exact one_ok (c := .ptr s (c' + off)) h hX (hrun _ rfl h3) rfl ⟨h1, b, h2, rfl⟩ hf
  case rptr cs =>
    obtain ⟨ad, h3, h4⟩ := (opc_rel h hx (by simp) (by simp)).2
    cases hc
    exact one_ok (c := .rptr (cs.drop off)) h hX (hrun _ h4.1 h3) rfl ⟨_, rfl, PL_drop h4 off⟩ hf
  case hptr cs =>
    obtain ⟨ad, h3, h4⟩ := (opc_rel h hx (by simp) (by simp)).2
    cases hc
    exact one_ok (c := .hptr (cs.drop off)) h hX (hrun _ h4.1 h3) rfl ⟨_, rfl, PL_drop h4 off⟩ hf
  case eptr s c' t' ix k cs =>
    obtain ⟨ad, h3, h4, h5⟩ := (opc_rel h hx (by simp) (by simp)).2
    cases hc
    refine one_ok (c := .eptr s c' t' ix (k + off) (cs.drop off)) h hX (hrun _ h4.1 h3) rfl ⟨_, rfl, PL_drop h4 off, fun u hu => ?_⟩ hf
    obtain ⟨m, cap, q1, q2, q3, q4⟩ := h5 u hu
    exact ⟨m, cap, q1, q2, q3, by show ad.off + off = _; omega⟩
theorem takeN_some {n : Nat} {cs vs : List CV} (h : takeN n cs = some vs) : n ≤ cs.length ∧ vs = cs.take n := by
  unfold takeN at h
  cases hb : n.ble cs.length
  · simp [hb] at h
  · simp only [hb, cond_true, Option.some.injEq] at h
    exact ⟨Nat.le_of_ble_eq_true hb, h.symm⟩
theorem field_ok (hT : TabOk P X) (h : Ok st g fr a w) (hX : Fits X st) {t : TypeId} {x : Operand} {f : Nat} (ho : o.op = .field t x f) {i : TI} {off n : Nat} {gg : Bool} {cs vs : List CV} (hi : X.ti t = some i) (ha : i.agg = true) (hoff : i.offs[f]? = some (off, n, gg))
    (hx : opd fr x = (true, cs)) (hv : takeN n (cs.drop off) = some vs) (hf : fin X fr o.dst (.comp gg vs) K = some r) : o.wp P a w (Good st K r) Q := by
  obtain ⟨fs, hfs, hff⟩ := ti_struct hT hi ha
  obtain ⟨F, ii, d, e1, e2, e3, e4, e5, e6, e7, e8⟩ := (fitFields_spec _ _ hff).2 f off n gg hoff
  obtain ⟨hfr, us, hu, hl, hc⟩ := (by have := opd_ok h x; rw [hx] at this; exact this : FRel w g (isBox fr) (true, cs) (a.eval x))
  obtain ⟨hn, rfl⟩ := takeN_some hv
  have hF : fs[f]? = some F := by simpa using e1
  have hsz : (sizeOf F.type).run P w = .ok n w := by simp [sizeOf, typeInfo, e3, e4]
  have hag : (isAgg F.type).run P w = .ok gg w := by
    unfold isAgg; rw [Sem.run_bind, run_underlying e6 w]
    cases d <;> simp_all [TypeDesc.isRow]
  have hfree : ((cs.drop off).take n).all free = true := by
    rw [List.all_eq_true] at hfr ⊢
    intro c hc; exact hfr c (List.mem_of_mem_drop (List.mem_of_mem_take hc))
  rw [List.length_drop] at hn
  cases gg with
  | true =>
    have hp : FRel w g (isBox fr) (true, (cs.drop off).take n) (.agg ((us.drop off).take n).toArray) := by
      refine ⟨hfree, _, rfl, ?_, fun j c hj => ?_⟩
      · simp only [List.length_take, List.length_drop]; omega
      · rw [List.getElem?_take] at hj
        split at hj
        · rename_i hjn
          rw [List.getElem?_drop] at hj
          obtain ⟨u, q1, q2⟩ := hc _ c hj
          refine ⟨u, by rw [List.getElem?_take, if_pos hjn, List.getElem?_drop]; exact q1, rel_place ?_ q2⟩
          exact List.all_eq_true.1 hfr c (List.mem_of_getElem? hj)
        · cases hj
    obtain ⟨g', fr', h1, h2⟩ := fin_free hX h hp hf
    refine wp_value ?_ ⟨g', fr', h1, h2⟩
    simp only [execOp, ho, hu, Instr.field, Sem.run_bind, run_underlying hfs, Result.andThen_ok, hF, asAgg, Sem.run_pure, part, hag, if_true, hsz, e2]
    congr 3
    apply Array.ext'
    simp [List.take_drop]
  | false =>
    have hn1 : n = 1 := e8 rfl
    subst hn1
    cases hcs : cs.drop off with
    | nil => have := congrArg List.length hcs; simp at this; omega
    | cons c rest =>
      have hj : cs[off]? = some c := by rw [← Nat.add_zero off, ← List.getElem?_drop, hcs]; rfl
      obtain ⟨u, q1, q2⟩ := hc _ c hj
      rw [hcs] at hf
      have hfc : free c = true := List.all_eq_true.1 hfr c (List.mem_of_getElem? hj)
      refine one_ok (c := c) (v := u) h hX ?_ hfc (rel_place hfc q2) (by simpa using hf)
      simp only [execOp, ho, hu, Instr.field, Sem.run_bind, run_underlying hfs, Result.andThen_ok, hF, asAgg, Sem.run_pure, part, hag, e2]
      simp [q1]
theorem unpack_rel {S : Nat → Nat → Prop} (old : Bool) (hS : (old = true ∧ S = g.Z) ∨ (old = false ∧ S = g.S)) : ∀ (t : Ty) (x : Den t) (cs : List Value), rep w S t x cs → ∀ (j : Nat) (c : CV), (unpack old t x)[j]? = some c → ∃ u : Value, cs[j]? = some u ∧ relF w g c u
  | .int k, n, cs, h, j, c, hj => by
    simp only [rep] at h; subst h
    cases j <;> simp [unpack] at hj
    subst hj; exact ⟨_, rfl, rfl⟩
  | .bool, n, cs, h, j, c, hj => by
    simp only [rep] at h; subst h
    cases j <;> simp [unpack] at hj
    subst hj; exact ⟨_, rfl, rfl⟩
  | .str, n, cs, h, j, c, hj => by
    simp only [rep] at h; subst h
    cases j <;> simp [unpack] at hj
    subst hj; exact ⟨_, rfl, rfl⟩
  | .sl t, xs, cs, h, j, c, hj => by
    have h' := h
    simp only [rep] at h
    obtain ⟨A, cap, rfl, _⟩ := h
    cases j <;> simp [unpack] at hj
    subst hj
    refine ⟨_, rfl, ?_⟩
    rcases hS with ⟨rfl, rfl⟩ | ⟨rfl, rfl⟩
    · exact h'
    · exact h'
  | .pair s t, x, cs, h, j, c, hj => by
    have hl : ∀ (t : Ty) (x : Den t), (unpack old t x).length = t.cells := fun t => by
      induction t with
      | pair a b iha ihb => intro x; simp [unpack, iha, ihb, Ty.cells]
      | _ => intro x; simp [unpack, Ty.cells]
    simp only [rep] at h
    obtain ⟨c1, c2, rfl, h1, h2⟩ := h
    simp only [unpack] at hj
    by_cases hlt : j < (unpack old s x.1).length
    · rw [List.getElem?_append_left hlt] at hj
      obtain ⟨u, hu, hr⟩ := unpack_rel old hS s x.1 c1 h1 j c hj
      exact ⟨u, by rw [List.getElem?_append_left (List.getElem?_eq_some_iff.1 hu).1]; exact hu, hr⟩
    · rw [List.getElem?_append_right (by omega)] at hj
      obtain ⟨u, hu, hr⟩ := unpack_rel old hS t x.2 c2 h2 _ c hj
      rw [hl] at hu hlt
      refine ⟨u, ?_, hr⟩
      rw [List.getElem?_append_right (by rw [rep_length h1]; omega), rep_length h1]
      exact hu
theorem rd_get {α : Type} (d : α) (xs : List α) (i : Int) (h0 : 0 ≤ i) (h1 : i < (xs.length : Int)) : xs[i.toNat]? = some (rd d xs i) := by
  have : i.toNat < xs.length := by omega
  simp [rd, List.getElem?_eq_getElem this]
theorem elem_PL {S : Nat → Nat → Prop} {old : Bool} (hS : (old = true ∧ S = g.Z) ∨ (old = false ∧ S = g.S)) {t : Ty} {xs : List (Den t)} {v : Value} (hr : RS w S t xs v) {i : Int} (h0 : 0 ≤ i) (h1 : i < (xs.length : Int)) :
    ∃ ad cap, v = .slice (some ad) xs.length cap ∧ ad.spot = none ∧ PL w g S ⟨ad.block, ad.off + i.toNat * t.cells, none⟩ (unpack old t (rd t.zero xs i)) := by
  obtain ⟨A, cap, hv, hc, h⟩ := hr
  simp only [List.cons.injEq, and_true] at hv
  obtain ⟨ad, ecs, rfl, hsp, hrep, hj⟩ := h i.toNat _ (rd_get t.zero xs i h0 h1)
  refine ⟨ad, cap, hv, hsp, rfl, fun j c hc => ?_⟩
  obtain ⟨u, hu, hrel⟩ := unpack_rel (g := g) old hS t _ _ hrep j c hc
  obtain ⟨q1, q2⟩ := hj j u hu
  exact ⟨by simpa [Nat.add_assoc] using q1, u, by simpa [Nat.add_assoc] using q2, hrel⟩
theorem run_indexAt (hT : TabOk P X) {t : TypeId} {u : Ty} (hu : X.sl t = some u) {ad : Addr} (hsp : ad.spot = none) {n cap : Nat} {k : IntKind} {i : Int} (h0 : 0 ≤ i) (h1 : i < (n : Int)) :
    (Instr.indexAt t (.slice (some ad) n cap) (.int k i)).run P w = .ok (.pointer (some ⟨ad.block, ad.off + i.toNat * u.cells, none⟩)) w := by
  obtain ⟨e, he, ⟨ii, z, e1, e2, _⟩⟩ := ti_slice hT hu
  have hsz : (sizeOf e).run P w = .ok u.cells w := by simp [sizeOf, typeInfo, e1, e2]
  simp only [Instr.indexAt, asIntOf, Sem.run_bind, Sem.run_pure, Result.andThen_ok, run_underlying he]
  simp only [h0, h1, and_self, if_true, hsz, Sem.run_bind, Result.andThen_ok, Sem.run_pure, add_mid ad hsp]
theorem index_cond {u : Option Ty} {t : Ty} {i len : Int} {Kx : Option R} (h : (bif decide (u = some t) then (if 0 ≤ i then if i < len then Kx else none else none) else none) = some r) : u = some t ∧ 0 ≤ i ∧ i < len ∧ Kx = some r := by
  by_cases hu : u = some t
  · simp only [hu, decide_true, cond_true] at h
    split at h
    · split at h
      · exact ⟨hu, by assumption, by assumption, h⟩
      · cases h
    · cases h
  · simp [hu] at h
theorem index_ok (hT : TabOk P X) (h : Ok st g fr a w) (hX : Fits X st) {t : TypeId} {x ix : Operand} (ho : o.op = .indexAddr t x ix) {k : IntKind} {i : Int} (hi : opc fr ix = .int k i)
    (hf : indexAddr (X.sl t) (opc fr x) i (fun c => fin X fr o.dst (.comp false [c]) K) = some r) : o.wp P a w (Good st K r) Q := by
  have hiv : a.eval ix = .int k i := (opc_rel h hi (by simp) (by simp)).2
  cases hx : opc fr x <;> rw [hx] at hf <;> simp only [indexAddr] at hf <;> first | (cases hf; done) | skip
  case lo u xs =>
    obtain ⟨hu, h0, h1, hf⟩ := index_cond hf
    have hx0 := (opc_rel h hx (by simp) (by simp)).2
    obtain ⟨ad, cap, hv, hsp, hp⟩ := elem_PL (g := g) (old := true) (.inl ⟨rfl, rfl⟩) hx0 h0 h1
    refine one_ok (c := .rptr _) h hX (by simp only [execOp, ho, hv, hiv, Sem.run_bind, run_indexAt hT hu hsp h0 h1, Result.andThen_ok, Sem.run_pure]) rfl ⟨_, rfl, hp.1, fun j c hj => ?_⟩ hf
    obtain ⟨q1, q2⟩ := hp.2 j c hj
    have := h.zs _ _ (by rw [← h.eZ]; exact q1)
    exact ⟨by unfold Gh.L; rw [h.eB, h.eM]; exact this.2, q2⟩
  case hi u xs =>
    obtain ⟨hu, h0, h1, hf⟩ := index_cond hf
    have hx0 := (opc_rel h hx (by simp) (by simp)).2
    obtain ⟨ad, cap, hv, hsp, hp⟩ := elem_PL (g := g) (old := false) (.inr ⟨rfl, rfl⟩) hx0 h0 h1
    exact one_ok (c := .hptr _) h hX (by simp only [execOp, ho, hv, hiv, Sem.run_bind, run_indexAt hT hu hsp h0 h1, Result.andThen_ok, Sem.run_pure]) rfl ⟨_, rfl, hp⟩ hf
  case ref s c u xs =>
    obtain ⟨hu, h0, h1, hf⟩ := index_cond hf
    have hx0 := (opc_rel h hx (by simp) (by simp)).2
    obtain ⟨hx1, hx2⟩ := hx0
    obtain ⟨ad, cap, hv, hsp, hp⟩ := elem_PL (g := g) (old := false) (.inr ⟨rfl, rfl⟩) hx1 h0 h1
    refine one_ok (c := .eptr s c u i 0 _) h hX (by simp only [execOp, ho, hv, hiv, Sem.run_bind, run_indexAt hT hu hsp h0 h1, Result.andThen_ok, Sem.run_pure]) rfl ⟨_, rfl, hp, fun u' hu' => ?_⟩ hf
    have e := hx2 u' hu'
    rw [hv] at e
    rcases h.hh _ _ _ hu' with e' | ⟨b, n, cap', e'⟩
    · rw [e] at e'; cases e'
    · rw [e] at e'
      simp only [Value.slice.injEq, Option.some.injEq] at e'
      obtain ⟨e1, e2, e3⟩ := e'
      subst e1
      exact ⟨_, _, e, h0, h1, by simp⟩
theorem PL_range {Q : Nat → Nat → Prop} {ad : Addr} {cs : List CV} (h : PL w g Q ad cs) {n : Nat} {vs : List CV} (hv : takeN n cs = some vs) :
    ∃ us : List Value, us.length = n ∧ w.rangeAt ad.block ad.off us ∧ vs.length = n ∧ ∀ (j : Nat) (c : CV), vs[j]? = some c → ∃ u : Value, us[j]? = some u ∧ relF w g c u := by
  obtain ⟨hn, rfl⟩ := takeN_some hv
  have : ∀ n, n ≤ cs.length → ∃ us : List Value, us.length = n ∧ w.rangeAt ad.block ad.off us ∧ ∀ (j : Nat) (c : CV), (cs.take n)[j]? = some c → ∃ u : Value, us[j]? = some u ∧ relF w g c u := by
    intro n
    induction n with
    | zero => intro _; exact ⟨[], rfl, fun j v hj => by simp at hj, fun j c hj => by simp at hj⟩
    | succ n ih =>
      intro hn
      obtain ⟨us, h1, h2, h3⟩ := ih (by omega)
      obtain ⟨q, u, hu, hr⟩ := h.2 n cs[n] (List.getElem?_eq_getElem (by omega))
      refine ⟨us ++ [u], by simp [h1], fun j v hj => ?_, fun j c hj => ?_⟩
      · by_cases hjn : j < us.length
        · rw [List.getElem?_append_left hjn] at hj; exact h2 j v hj
        · rw [List.getElem?_append_right (by omega)] at hj
          have : j = n := by
            have := (List.getElem?_eq_some_iff.1 hj).1
            simp at this; omega
          subst this
          simp [h1] at hj
          subst hj; exact hu
      · rw [List.getElem?_take] at hj
        split at hj
        · by_cases hjn : j < n
          · obtain ⟨u', e1, e2⟩ := h3 j c (by rw [List.getElem?_take, if_pos hjn]; exact hj)
            exact ⟨u', by rw [List.getElem?_append_left (by omega)]; exact e1, e2⟩
          · have : j = n := by omega
            subst this
            rw [List.getElem?_eq_getElem (by omega)] at hj
            cases hj
            exact ⟨u, by rw [List.getElem?_append_right (by omega)]; simp [h1], hr⟩
        · cases hj
  obtain ⟨us, h1, h2, h3⟩ := this n hn
  exact ⟨us, h1, h2, by simp [List.length_take]; omega, h3⟩
theorem free_of_relF {c : CV} {v : Value} (h : relF w g c v) : free c = true := by
  cases c <;> first | rfl | exact h.elim
theorem rel_of_relF {bx : Nat → Bool} {p : Place} : ∀ {c : CV} {v : Value}, relF w g c v → rel w g bx p c v
  | .dead, _, h => h
  | .int _ _, _, h => h
  | .bool _, _, h => h
  | .str _, _, h => h
  | .nils, _, h => h
  | .lo _ _, _, h => h
  | .hi _ _, _, h => h
theorem load_cells (hT : TabOk P X) (h : Ok st g fr a w) (hX : Fits X st) {t : TypeId} {x : Operand} (ho : o.op = .load t x) {i : TI} (hi : X.ti t = some i) {ad : Addr} (hsp : ad.spot = none) (hv : a.eval x = .pointer (some ad))
    {us : List Value} {vs : List CV} (hl : us.length = i.ty.cells) (hr : w.rangeAt ad.block ad.off us) (hvl : vs.length = us.length) (hrel : ∀ (j : Nat) (c : CV), vs[j]? = some c → ∃ u : Value, us[j]? = some u ∧ free c = true ∧ ∀ p, rel w g (isBox fr) p c u)
    (hf : fin X fr o.dst (.comp i.agg vs) K = some r) : o.wp P a w (Good st K r) Q := by
  obtain ⟨ii, e1, e2⟩ := ti_size hT hi
  obtain ⟨d, hd, hrow, _⟩ := ti_under hT hi
  have hfree : vs.all free = true := by
    rw [List.all_eq_true]; intro c hc
    obtain ⟨j, hj, rfl⟩ := List.getElem_of_mem hc
    obtain ⟨u, _, hf, _⟩ := hrel j _ (List.getElem?_eq_getElem hj)
    exact hf
  have hsize : (P.info? t).map (·.size) = some us.length := by rw [e1]; simp [e2, hl]
  cases hag : i.agg with
  | true =>
    rw [hag] at hf hrow
    have hp : FRel w g (isBox fr) (true, vs) (.agg us.toArray) := ⟨hfree, us, rfl, hvl.symm, fun j c hj => by
      obtain ⟨u, q1, _, q2⟩ := hrel j c hj; exact ⟨u, q1, q2 _⟩⟩
    obtain ⟨g', fr', h1, h2⟩ := fin_free hX h hp hf
    refine wp_value ?_ ⟨g', fr', h1, h2⟩
    rw [addr_eta ad hsp] at hv
    simp only [execOp, ho, hv, Sem.run_bind, run_loadAt_mid w ad.block ad.off t us d hr hd hrow hsize, Result.andThen_ok, Sem.run_pure]
  | false =>
    rw [hag] at hf hrow
    have h1 : i.ty.cells = 1 := ti_cells1 hT hi hag
    rw [h1] at hl
    obtain ⟨u, rfl⟩ := List.length_eq_one_iff.1 hl
    obtain ⟨c, rfl⟩ := List.length_eq_one_iff.1 (hvl.trans rfl)
    obtain ⟨u', q1, q2, q3⟩ := hrel 0 c rfl
    simp at q1
    subst q1
    refine one_ok (c := c) (v := u) h hX ?_ q2 (q3 _) hf
    have hagg : (isAgg t).run P w = .ok false w := by
      unfold isAgg; rw [Sem.run_bind, run_underlying hd w]
      cases d <;> simp_all [TypeDesc.isRow]
    have hcell : w.cell? ad = some u := by
      have := hr 0 u rfl
      rw [addr_eta ad hsp]; simpa using this
    simp only [execOp, ho, hv, Instr.loadAt, Instr.sureAddr, loadVar, Sem.run_bind, hagg, Sem.run_pure, Result.andThen_ok]
    simp [load, Sem.run, hcell]
theorem load_ok (hT : TabOk P X) (h : Ok st g fr a w) (hX : Fits X st) {t : TypeId} {x : Operand} (ho : o.op = .load t x) {i : TI} (hi : X.ti t = some i) {vs : List CV} (hl : load fr (opc fr x) i.ty.cells = some vs)
    (hf : fin X fr o.dst (.comp i.agg vs) K = some r) : o.wp P a w (Good st K r) Q := by
  cases hx : opc fr x <;> rw [hx] at hl <;> simp only [Rv.load] at hl <;> first | (cases hl; done) | skip
  case rptr cs =>
    obtain ⟨ad, h3, h4⟩ := (opc_rel h hx (by simp) (by simp)).2
    obtain ⟨us, q1, q2, q3, q4⟩ := PL_range h4 hl
    exact load_cells hT h hX ho hi h4.1 h3 q1 q2 (by rw [q3, q1]) (fun j c hj => by obtain ⟨u, e1, e2⟩ := q4 j c hj; exact ⟨u, e1, free_of_relF e2, fun p => rel_of_relF e2⟩) hf
  case hptr cs =>
    obtain ⟨ad, h3, h4⟩ := (opc_rel h hx (by simp) (by simp)).2
    obtain ⟨us, q1, q2, q3, q4⟩ := PL_range h4 hl
    exact load_cells hT h hX ho hi h4.1 h3 q1 q2 (by rw [q3, q1]) (fun j c hj => by obtain ⟨u, e1, e2⟩ := q4 j c hj; exact ⟨u, e1, free_of_relF e2, fun p => rel_of_relF e2⟩) hf
  case eptr s c t' ix k cs =>
    obtain ⟨ad, h3, h4, _⟩ := (opc_rel h hx (by simp) (by simp)).2
    obtain ⟨us, q1, q2, q3, q4⟩ := PL_range h4 hl
    exact load_cells hT h hX ho hi h4.1 h3 q1 q2 (by rw [q3, q1]) (fun j c hj => by obtain ⟨u, e1, e2⟩ := q4 j c hj; exact ⟨u, e1, free_of_relF e2, fun p => rel_of_relF e2⟩) hf
  case ptr s c =>
    obtain ⟨h1, b, h2, h3⟩ := (opc_rel h hx (by simp) (by simp)).2
    cases hb : fr s <;> rw [hb] at hl <;> simp only at hl <;> first | (cases hl; done) | skip
    rename_i cs
    have hs := h.slot s
    rw [hb] at hs
    obtain ⟨⟨b', arr, ty, x1, x2, x3, x4, x5⟩, _⟩ := hs
    rw [x1] at h2
    cases h2
    obtain ⟨v1, v2, v3⟩ := view1_ok (w := w) (g := g) (bx := isBox fr) (s := s) cs 1 arr.toList x4 (fun j x hj => by rw [Nat.add_comm]; exact x5 j x hj)
    obtain ⟨hn, rfl⟩ := takeN_some hl
    rw [List.length_drop, v1] at hn
    refine load_cells hT h hX ho hi rfl h3 (us := (arr.toList.drop c).take i.ty.cells) ?_ (fun j v hj => ?_) ?_ (fun j c' hj => ?_) hf
    · rw [List.length_take, List.length_drop, x4]; omega
    · rw [List.getElem?_take] at hj
      split at hj
      · rw [List.getElem?_drop] at hj
        rw [cell_of_row w b _ arr ty (0, 0) x3]
        simpa using hj
      · cases hj
    · rw [List.length_take, List.length_drop, List.length_take, List.length_drop, x4, v1]
    · rw [List.getElem?_take] at hj
      split at hj
      · rename_i hjn
        rw [List.getElem?_drop] at hj
        obtain ⟨u, e1, e2⟩ := v3 _ c' hj
        exact ⟨u, by rw [List.getElem?_take, if_pos hjn, List.getElem?_drop]; exact e1, List.all_eq_true.1 v2 c' (List.mem_of_getElem? hj), e2⟩
      · cases hj
end
end Go.Rv
namespace Go.Rv
section
variable {P : Program} {st : St} {g : Gh} {fr : Fr} {a : Act} {w : World} {X : Env} {o : Oper} {R : Type} {K : Fr → Option R} {r : R} {Q : Exit → Act → World → Prop}
def At (g : Gh) (fr : Fr) (a : Act) (w : World) (s c : Nat) (v : Value) : Prop :=
  match fr s with
  | .comp true _ => ∃ vs : List Value, a.tmps.getD s undef = .agg vs.toArray ∧ 0 < c ∧ vs[c - 1]? = some v
  | .comp false _ => c = 1 ∧ a.tmps.getD s undef = v
  | .box _ => ∃ b arr ty, g.X s = some b ∧ w.heap[b]? = some (.cells arr ty (0, 0)) ∧ 0 < c ∧ arr[c - 1]? = some v
  | .tup _ | .mapb _ _ _ _ => False
theorem At.fun {s c : Nat} {u v : Value} (h1 : At g fr a w s c u) (h2 : At g fr a w s c v) : u = v := by
  unfold At at h1 h2
  cases hf : fr s with
  | tup vs => rw [hf] at h1; exact h1.elim
  | mapb kk vv xx ii => rw [hf] at h1; exact h1.elim
  | comp b cs =>
    rw [hf] at h1 h2
    cases b with
    | false => exact h1.2.symm.trans h2.2
    | true =>
      obtain ⟨vs, e1, _, e2⟩ := h1
      obtain ⟨us, f1, _, f2⟩ := h2
      rw [e1] at f1
      simp only [Value.agg.injEq] at f1
      have : vs = us := by simpa using congrArg Array.toList f1
      subst this
      rw [e2] at f2; exact Option.some.inj f2
  | box cs =>
    rw [hf] at h1 h2
    obtain ⟨b, arr, ty, e1, e2, _, e3⟩ := h1
    obtain ⟨b', arr', ty', f1, f2, _, f3⟩ := h2
    rw [e1] at f1; cases f1
    rw [e2] at f2; cases f2
    rw [e3] at f3; exact Option.some.inj f3
theorem cell_rel (h : Ok st g fr a w) {s c : Nat} {x : CV} (hx : cellAt fr s c = x) (h1 : x ≠ .dead) (h2 : x ≠ .undef) : ∃ v, At g fr a w s c v ∧ rel w g (isBox fr) (.at s 0 c) x v := by
  unfold cellAt at hx
  have hs := h.slot s
  cases hf : fr s with
  | tup vs => rw [hf] at hx; exact absurd hx.symm h1
  | mapb kk vv xx ii => rw [hf] at hx; exact absurd hx.symm h1
  | comp b cs =>
    rw [hf] at hx hs
    cases c with
    | zero => exact absurd hx.symm h1
    | succ c =>
      simp only [List.getD_eq_getElem?_getD] at hx
      cases hc : cs[c]? with
      | none => rw [hc] at hx; exact absurd hx.symm h1
      | some y =>
        rw [hc] at hx
        simp at hx
        subst hx
        cases b with
        | true =>
          obtain ⟨vs, e1, e2, e3⟩ := hs
          obtain ⟨u, e4, e5⟩ := e3 c y hc
          exact ⟨u, by unfold At; rw [hf]; exact ⟨vs, e1, by omega, by simpa using e4⟩, e5⟩
        | false =>
          obtain ⟨z, e1, e2⟩ := hs
          subst e1
          cases c with
          | succ c => simp at hc
          | zero =>
            simp at hc
            subst hc
            rcases e2 with e2 | ⟨e2, _⟩ | e2
            · exact absurd e2 h1
            · exact absurd e2 h2
            · exact ⟨_, by unfold At; rw [hf]; exact ⟨rfl, rfl⟩, e2⟩
  | box cs =>
    rw [hf] at hx hs
    cases c with
    | zero => exact absurd hx.symm h1
    | succ c =>
      simp only [List.getD_eq_getElem?_getD] at hx
      cases hc : cs[c]? with
      | none => rw [hc] at hx; exact absurd hx.symm h1
      | some y =>
        rw [hc] at hx
        simp at hx
        subst hx
        obtain ⟨⟨b, arr, ty, e1, e2, e3, e4⟩, _⟩ := hs
        obtain ⟨u, e5, e6⟩ := e4.2 c y hc
        exact ⟨u, by unfold At; rw [hf]; exact ⟨b, arr, ty, e1, e3, by omega, by simpa using e5⟩, e6⟩
theorem isBox_setCell (fr : Fr) (s c : Nat) (v : CV) : isBox (setCellAt fr s c v) = isBox fr := by
  funext j
  unfold isBox setCellAt
  cases hf : fr s with
  | tup vs => rfl
  | mapb kk vv xx ii => rfl
  | comp b cs =>
    cases c with
    | zero => rfl
    | succ c =>
      by_cases hj : j = s
      · subst hj; simp only [upd_same, hf]; rfl
      · simp only [upd_ne _ _ _ hj]
  | box cs =>
    cases c with
    | zero => rfl
    | succ c =>
      by_cases hj : j = s
      · subst hj; simp only [upd_same, hf]; rfl
      · simp only [upd_ne _ _ _ hj]
def Gh.dis (g : Gh) (s c j : Nat) : Gh := { g with
  O := fun b => if g.O b = some (.at s 0 c) then some (.air j) else g.O b
  H := fun s' c' => if s' = s ∧ c' = c then none else g.H s' c' }
theorem Chg.dis (h : Ok st g fr a w) (s c j : Nat) (bx : Nat → Bool) : Chg g (g.dis s c j) w w bx bx (fun p => ∀ i, p ≠ .at s i c) (fun _ => True) where
  cB := rfl
  cR := rfl
  cM := rfl
  cZ := rfl
  zS := fun b o hz => (h.zs b o (by rw [← h.eZ]; exact hz)).1
  cbx := fun s hs => hs
  cX := fun s _ => rfl
  cS := fun b o hs => ⟨hs, rfl⟩
  cL := fun b _ => rfl
  cO := fun b p hp hO => ⟨by
    simp only [Gh.dis]
    rw [if_neg]; · exact hO
    rw [hO]; intro e; cases e; exact hp 0 rfl, rfl, fun _ => Iff.rfl⟩
  cH := fun s' c' u _ hu => by
    simp only [Gh.dis] at hu
    split at hu
    · cases hu
    · exact hu
  cHp := fun s' i c' hp => by
    simp only [Gh.dis]
    rw [if_neg]
    rintro ⟨rfl, rfl⟩
    exact hp i rfl
theorem disown (h : Ok st g fr a w) {s c : Nat} {t : Ty} {xs : List (Den t)} (hx : cellAt fr s c = .own t xs ∨ cellAt fr s c = .tmpo t xs) (j : Nat) :
    ∃ v, At g fr a w s c v ∧ Ok st (g.dis s c j) (setCellAt fr s c (.hi t xs)) a w ∧ OwnR w (g.dis s c j) (.air j) t xs v ∧ (cellAt fr s c = .own t xs → g.H s c = some v) := by
  have hc := Chg.dis h s c j (isBox fr)
  obtain ⟨v, hat, hown, hH⟩ : ∃ v, At g fr a w s c v ∧ OwnR w g (.at s 0 c) t xs v ∧ (cellAt fr s c = .own t xs → g.H s c = some v) := by
    rcases hx with hx | hx
    · obtain ⟨v, h1, h2⟩ := cell_rel h hx (by simp) (by simp)
      exact ⟨v, h1, h2.1, fun _ => h2.2.2⟩
    · obtain ⟨v, h1, h2⟩ := cell_rel h hx (by simp) (by simp)
      exact ⟨v, h1, h2.1, fun e => by rw [hx] at e; cases e⟩
  have hown' : OwnR w (g.dis s c j) (.air j) t xs v := by
    rcases hown with e | ⟨b, cap, cur, e, h1, h2, h3, h4, h5, h6, h7, h8⟩
    · exact .inl e
    · exact .inr ⟨b, cap, cur, e, h1, by simp [Gh.dis, h2], h3, h4, h5, h6, OwnR.elems (g := g) (g' := g.dis s c j) (p := .at s 0 c) (q := .air j) (fun b o hs => ⟨⟨hs.1, by simp [Gh.dis, hs.2.1], hs.2.2⟩, rfl⟩) h7, h8⟩
  have hread : RS w (g.dis s c j).S t xs v := hown.reads
  refine ⟨v, hat, ?_, hown', hH⟩
  have hbx := isBox_setCell fr s c (.hi t xs)
  exact {
    eB := h.eB, eR := h.eR, eM := h.eM, eZ := h.eZ, size := h.size, defers := h.defers, keep := h.keep, os := h.os, tape := h.tape, output := h.output, heap := h.heap, old := h.old
    own := fun b p hO => by
      simp only [Gh.dis] at hO
      split at hO
      · rename_i e; exact h.own b _ e
      · exact h.own b p hO
    stab := h.stab
    boxS := fun b s' hO => by
      simp only [Gh.dis] at hO
      split at hO
      · cases hO
      · exact h.boxS b s' hO
    zs := h.zs
    sz := h.sz
    hh := fun s' c' u hu => by
      simp only [Gh.dis] at hu
      split at hu
      · cases hu
      · exact h.hh s' c' u hu
    slot := fun q => by
      rw [hbx]
      have hs := h.slot q
      by_cases hq : q = s
      · subst hq
        unfold setCellAt
        have hx' : ∃ y, cellAt fr q c = y ∧ y ≠ .dead := by rcases hx with e | e <;> exact ⟨_, e, by simp⟩
        unfold cellAt at hx'
        cases hf : fr q with
        | tup vs => rw [hf] at hx'; obtain ⟨y, e, e'⟩ := hx'; exact absurd e.symm e'
        | mapb kk vv xx ii => rw [hf] at hx'; obtain ⟨y, e, e'⟩ := hx'; exact absurd e.symm e'
        | comp b cs =>
          rw [hf] at hs hx'
          cases c with
          | zero => obtain ⟨y, e, e'⟩ := hx'; exact absurd e.symm e'
          | succ c =>
            simp only [upd_same]
            unfold At at hat
            rw [hf] at hat
            cases b with
            | true =>
              obtain ⟨vs, e1, e2, e3⟩ := hs
              obtain ⟨vs', f1, _, f2⟩ := hat
              rw [e1] at f1
              simp only [Value.agg.injEq] at f1
              have hvv : vs = vs' := by simpa using congrArg Array.toList f1
              subst hvv
              refine ⟨vs, e1, by simpa using e2, fun k y hk => ?_⟩
              by_cases hkc : k = c
              · subst hkc
                rw [List.getElem?_set] at hk
                simp at hk
                obtain ⟨_, rfl⟩ := hk
                exact ⟨v, by simpa using f2, hread⟩
              · rw [List.getElem?_set_ne (by omega)] at hk
                obtain ⟨u, e4, e5⟩ := e3 k y hk
                exact ⟨u, e4, hc.kRel (fun i e => by cases e; omega) (fun _ _ => trivial) e5⟩
            | false =>
              obtain ⟨z, e1, e2⟩ := hs
              subst e1
              obtain ⟨f1, f2⟩ := hat
              have : c = 0 := by omega
              subst this
              exact ⟨_, rfl, .inr (.inr (by rw [f2]; exact hread))⟩
        | box cs =>
          rw [hf] at hs hx'
          cases c with
          | zero => obtain ⟨y, e, e'⟩ := hx'; exact absurd e.symm e'
          | succ c =>
            simp only [upd_same]
            unfold At at hat
            rw [hf] at hat
            obtain ⟨⟨b, arr, ty, e1, e2, e3, e4⟩, e5⟩ := hs
            obtain ⟨b', arr', ty', f1, f2, _, f3⟩ := hat
            rw [e1] at f1; cases f1
            rw [e3] at f2; cases f2
            refine ⟨⟨b, arr, ty, e1, (hc.kBO (fun i e => by cases e) e2).1, e3, by simpa using e4.1, fun k y hk => ?_⟩, e5⟩
            by_cases hkc : k = c
            · subst hkc
              rw [List.getElem?_set] at hk
              simp at hk
              obtain ⟨_, rfl⟩ := hk
              exact ⟨v, by simpa using f3, hread⟩
            · rw [List.getElem?_set_ne (by omega)] at hk
              obtain ⟨u, e6, e7⟩ := e4.2 k y hk
              exact ⟨u, e6, hc.kRel (fun i e => by cases e; omega) (fun _ _ => trivial) e7⟩
      · have : setCellAt fr s c (.hi t xs) q = fr q := by
          unfold setCellAt
          cases fr s with
          | tup vs => rfl
          | mapb kk vv xx ii => rfl
          | comp b cs => cases c <;> simp [upd_ne _ _ _ hq]
          | box cs => cases c <;> simp [upd_ne _ _ _ hq]
        rw [this]
        exact hc.kSlot (fun i c' i' e => by cases e; exact hq rfl) (fun e => by simp [isBox, e]) (fun _ _ => trivial) hs }
theorem At_set {g' : Gh} (hX : g'.X = g.X) {s c s' c' : Nat} {y : CV} {v : Value} (h : At g fr a w s c v) : At g' (setCellAt fr s' c' y) a w s c v := by
  have key : (∃ b cs, fr s = .comp b cs ∧ ∃ ds, setCellAt fr s' c' y s = .comp b ds) ∨ (∃ cs, fr s = .box cs ∧ ∃ ds, setCellAt fr s' c' y s = .box ds) := by
    unfold At at h
    cases hf : fr s with
    | tup vs => rw [hf] at h; exact h.elim
    | mapb kk vv xx ii => rw [hf] at h; exact h.elim
    | comp b cs =>
      refine .inl ⟨b, cs, rfl, ?_⟩
      unfold setCellAt
      by_cases hs : s = s'
      · subst hs; rw [hf]; cases c' with
        | zero => exact ⟨cs, hf⟩
        | succ c' => exact ⟨_, upd_same _ _ _⟩
      · cases fr s' with
        | tup vs => exact ⟨cs, hf⟩
        | mapb kk vv xx ii => exact ⟨cs, hf⟩
        | comp b' cs' => cases c' with
          | zero => exact ⟨cs, hf⟩
          | succ c' => exact ⟨cs, by simp only [upd_ne _ _ _ hs]; exact hf⟩
        | box cs' => cases c' with
          | zero => exact ⟨cs, hf⟩
          | succ c' => exact ⟨cs, by simp only [upd_ne _ _ _ hs]; exact hf⟩
    | box cs =>
      refine .inr ⟨cs, rfl, ?_⟩
      unfold setCellAt
      by_cases hs : s = s'
      · subst hs; rw [hf]; cases c' with
        | zero => exact ⟨cs, hf⟩
        | succ c' => exact ⟨_, upd_same _ _ _⟩
      · cases fr s' with
        | tup vs => exact ⟨cs, hf⟩
        | mapb kk vv xx ii => exact ⟨cs, hf⟩
        | comp b' cs' => cases c' with
          | zero => exact ⟨cs, hf⟩
          | succ c' => exact ⟨cs, by simp only [upd_ne _ _ _ hs]; exact hf⟩
        | box cs' => cases c' with
          | zero => exact ⟨cs, hf⟩
          | succ c' => exact ⟨cs, by simp only [upd_ne _ _ _ hs]; exact hf⟩
  rcases key with ⟨b, cs, e1, ds, e2⟩ | ⟨cs, e1, ds, e2⟩
  · unfold At at h ⊢
    rw [e1] at h; rw [e2]
    cases b <;> exact h
  · unfold At at h ⊢
    rw [e1] at h; rw [e2]
    obtain ⟨b, arr, ty, f1, f2⟩ := h
    exact ⟨b, arr, ty, by rw [hX]; exact f1, f2⟩
structure Took (st : St) (a : Act) (w : World) (g g1 : Gh) (fr fr1 : Fr) : Prop where
  ok : Ok st g1 fr1 a w
  bx : isBox fr1 = isBox fr
  X : g1.X = g.X
  air : ∀ k c v, rel w g (isBox fr) (.air k) c v → rel w g1 (isBox fr) (.air k) c v
  at_ : ∀ s c v, At g fr a w s c v → At g1 fr1 a w s c v
  so : ∀ k b o, g.SO w (.air k) b o → g1.SO w (.air k) b o
  oo : ∀ k b, g.O b = some (.air k) → g1.O b = some (.air k)
theorem Took.refl (h : Ok st g fr a w) : Took st a w g g fr fr := ⟨h, rfl, rfl, fun _ _ _ h => h, fun _ _ _ h => h, fun _ _ _ h => h, fun _ _ h => h⟩
theorem Took.trans {g1 g2 : Gh} {fr1 fr2 : Fr} (h1 : Took st a w g g1 fr fr1) (h2 : Took st a w g1 g2 fr1 fr2) : Took st a w g g2 fr fr2 :=
  ⟨h2.ok, h2.bx.trans h1.bx, h2.X.trans h1.X, fun k c v hr => by rw [← h1.bx]; exact h2.air k c v (by rw [h1.bx]; exact h1.air k c v hr), fun s c v hr => h2.at_ s c v (h1.at_ s c v hr), fun k b o hs => h2.so k b o (h1.so k b o hs), fun k b hs => h2.oo k b (h1.oo k b hs)⟩
theorem takeAt_ok (h : Ok st g fr a w) {s c : Nat} {v : Value} (hat : At g fr a w s c v) (hrel : rel w g (isBox fr) (.at s 0 c) (cellAt fr s c) v) (j : Nat) {y : CV} {fr1 : Fr} (ht : takeAt fr s c = (y, fr1)) :
    ∃ g1, Took st a w g g1 fr fr1 ∧ rel w g1 (isBox fr) (.air j) y v := by
  have gen : ∀ (s' c' : Nat) (t : Ty) (xs : List (Den t)), (cellAt fr s' c' = .own t xs ∨ cellAt fr s' c' = .tmpo t xs) → (∀ v', At g fr a w s' c' v' → (cellAt fr s' c' = .own t xs → g.H s' c' = some v') → v' = v) →
      ∃ g1, Took st a w g g1 fr (setCellAt fr s' c' (.hi t xs)) ∧ rel w g1 (isBox fr) (.air j) (.tmpo t xs) v := by
    intro s' c' t xs hx hv
    obtain ⟨v', h1, h2, h3, h4⟩ := disown h hx j
    have := hv v' h1 h4
    subst this
    exact ⟨_, ⟨h2, isBox_setCell _ _ _ _, rfl, fun k c v hr => (Chg.dis h s' c' j (isBox fr)).kRel (fun i e => by cases e) (fun _ _ => trivial) hr, fun s c v hr => At_set rfl hr, fun k b o hs => ⟨hs.1, by simp only [Gh.dis]; rw [hs.2.1, if_neg (by simp)], hs.2.2⟩, fun k b hs => by simp only [Gh.dis]; rw [hs, if_neg (by simp)]⟩, h3, trivial⟩
  unfold takeAt at ht
  split at ht
  · rename_i t xs hx
    cases ht
    exact gen s c t xs (.inl hx) fun v' h1 _ => h1.fun hat
  · rename_i t xs hx
    cases ht
    exact gen s c t xs (.inr hx) fun v' h1 _ => h1.fun hat
  · rename_i s' c' t xs hx
    rw [hx] at hrel
    obtain ⟨e2, e3⟩ := hrel
    split at ht
    · rename_i u ys hy
      cases ht
      exact gen s' c' u ys (.inl hy) fun v' h1 h2 => e3 v' (h2 hy)
    · cases ht
      exact ⟨g, Took.refl h, e2⟩
  · rename_i hn1 hn2 hn3
    cases ht
    have hfr : free (cellAt fr s c) = true := by
      cases hcc : cellAt fr s c <;> first | rfl | (exact absurd hcc (hn1 _ _)) | (exact absurd hcc (hn2 _ _))
    exact ⟨g, Took.refl h, rel_place hfr hrel⟩
theorem slot_cells (h : Ok st g fr a w) {s c : Nat} {v : Value} (hat : At g fr a w s c v) (hm : ∀ cs, fr s ≠ .comp false cs) {n : Nat} (hn : (match fr s with | .comp _ cs | .box cs => cs.length | _ => 0) = n) (hc : c ≤ n) :
    rel w g (isBox fr) (.at s 0 c) (cellAt fr s c) v := by
  unfold At at hat
  unfold cellAt
  have hs := h.slot s
  cases hf : fr s with
  | tup vs => rw [hf] at hat; exact hat.elim
  | mapb kk vv xx ii => rw [hf] at hat; exact hat.elim
  | comp b cs =>
    rw [hf] at hat hs hn
    cases b with
    | false => exact absurd hf (hm cs)
    | true =>
      obtain ⟨vs, e1, e2, e3⟩ := hs
      obtain ⟨us, f1, f2, f3⟩ := hat
      rw [e1] at f1
      simp only [Value.agg.injEq] at f1
      have : vs = us := by simpa using congrArg Array.toList f1
      subst this
      cases c with
      | zero => omega
      | succ c =>
        simp only [List.getD_eq_getElem?_getD]
        have hlt : c < cs.length := by simp only at hn; omega
        rw [List.getElem?_eq_getElem hlt]
        obtain ⟨u, g1, g2⟩ := e3 c cs[c] (List.getElem?_eq_getElem hlt)
        simp only [Nat.add_sub_cancel] at f3
        rw [f3] at g1
        cases g1
        exact g2
  | box cs =>
    rw [hf] at hat hs hn
    obtain ⟨⟨b, arr, ty, e1, e2, e3, e4⟩, _⟩ := hs
    obtain ⟨b', arr', ty', f1, f2, f4, f3⟩ := hat
    rw [e1] at f1; cases f1
    rw [e3] at f2; cases f2
    cases c with
    | zero => omega
    | succ c =>
      simp only [List.getD_eq_getElem?_getD]
      have hlt : c < cs.length := by simp only at hn; omega
      rw [List.getElem?_eq_getElem hlt]
      obtain ⟨u, g1, g2⟩ := e4.2 c cs[c] (List.getElem?_eq_getElem hlt)
      simp only [Nat.add_sub_cancel] at f3
      have g1' : arr[c]? = some u := by simpa using g1
      rw [f3] at g1'
      cases g1'
      exact g2
def many (x : SV) : Option Nat := match x with
  | .comp true cs | .box cs => some cs.length
  | _ => none
theorem many_set (fr : Fr) (s s' c : Nat) (y : CV) : many (setCellAt fr s' c y s) = many (fr s) := by
  unfold setCellAt
  by_cases hs : s = s'
  · subst hs
    cases hf : fr s with
    | tup vs => simp [hf]
    | mapb kk vv xx ii => simp [hf]
    | comp b cs => cases c with
      | zero => simp [hf]
      | succ c => simp only [upd_same]; cases b <;> simp [many]
    | box cs => cases c with
      | zero => simp [hf]
      | succ c => simp only [upd_same]; simp [many]
  · cases fr s' with
    | tup vs => rfl
    | mapb kk vv xx ii => rfl
    | comp b cs => cases c <;> simp [upd_ne _ _ _ hs]
    | box cs => cases c <;> simp [upd_ne _ _ _ hs]
theorem many_take (fr : Fr) (s s' c : Nat) : many ((takeAt fr s' c).2 s) = many (fr s) := by
  unfold takeAt
  split
  · exact many_set _ _ _ _ _
  · exact many_set _ _ _ _ _
  · split
    · exact many_set _ _ _ _ _
    · rfl
  · rfl
theorem takeSlot_ok (n : Nat) : ∀ {g : Gh} {fr : Fr} (_ : Ok st g fr a w) {s c N : Nat}, many (fr s) = some N → 0 < c → c + n ≤ N + 1 → ∀ (vs : List Value), vs.length = n → (∀ k v, vs[k]? = some v → At g fr a w s (c + k) v) → ∀ (j : Nat) {ws : List CV} {fr1 : Fr}, takeSlot fr s n c = (ws, fr1) →
    ∃ g1, Took st a w g g1 fr fr1 ∧ ws.length = n ∧ ∀ k x, ws[k]? = some x → ∃ u : Value, vs[k]? = some u ∧ rel w g1 (isBox fr) (.air (j + k)) x u := by
  induction n with
  | zero =>
    intro g fr h s c N hN hc0 hcn vs hl hat j ws fr1 ht
    simp only [takeSlot] at ht
    cases ht
    exact ⟨g, Took.refl h, rfl, fun k x hk => by simp at hk⟩
  | succ n ih =>
    intro g fr h s c N hN hc0 hcn vs hl hat j ws fr1 ht
    cases vs with
    | nil => simp at hl
    | cons v vs =>
      simp only [takeSlot] at ht
      cases h1 : takeAt fr s c with
      | mk y fr2 =>
        rw [h1] at ht
        simp only at ht
        cases h2 : takeSlot fr2 s n (c + 1) with
        | mk ys fr3 =>
          rw [h2] at ht
          simp only at ht
          cases ht
          have hat0 : At g fr a w s c v := by simpa using hat 0 v rfl
          have hrel : rel w g (isBox fr) (.at s 0 c) (cellAt fr s c) v := by
            refine slot_cells h hat0 (fun cs e => by rw [e] at hN; simp [many] at hN) (n := N) ?_ (by omega)
            cases hf : fr s with
            | tup vs => rw [hf] at hN; simp [many] at hN
            | mapb kk vv xx ii => rw [hf] at hN; simp [many] at hN
            | box cs => rw [hf] at hN; simpa [many] using hN
            | comp b cs => cases b <;> (rw [hf] at hN; simp [many] at hN); exact hN
          obtain ⟨g2, t1, r1⟩ := takeAt_ok h hat0 hrel j h1
          have hN2 : many (fr2 s) = some N := by have := many_take fr s s c; rw [h1] at this; rw [this]; exact hN
          obtain ⟨g3, t2, l2, r2⟩ := ih t1.ok hN2 (by omega) (by omega) vs (by simpa using hl) (fun k v hk => by
            have := t1.at_ _ _ _ (hat (k + 1) v (by simpa using hk))
            rw [show c + 1 + k = c + (k + 1) by omega]; exact this) (j + 1) h2
          refine ⟨g3, t1.trans t2, by simp [l2], fun k x hk => ?_⟩
          cases k with
          | zero =>
            simp at hk
            subst hk
            exact ⟨v, rfl, by rw [← t1.bx]; exact t2.air _ _ _ (by rw [t1.bx]; exact r1)⟩
          | succ k =>
            simp at hk
            obtain ⟨u, e1, e2⟩ := r2 k x hk
            rw [t1.bx] at e2
            exact ⟨u, by simpa using e1, by rw [show j + (k + 1) = j + 1 + k by omega]; exact e2⟩
def ARel (w : World) (g : Gh) (bx : Nat → Bool) (j : Nat) (p : Comp) (v : Value) : Prop :=
  match p with
  | (true, cs) => ∃ vs : List Value, v = .agg vs.toArray ∧ vs.length = cs.length ∧ ∀ (k : Nat) (c : CV), cs[k]? = some c → ∃ u : Value, vs[k]? = some u ∧ rel w g bx (.air (j + k)) c u
  | (false, cs) => ∃ c, cs = [c] ∧ (c = .dead ∨ c = .undef ∧ v = undef ∨ rel w g bx (.air j) c v)
theorem FRel.air {bx : Nat → Bool} {p : Comp} {v : Value} (h : FRel w g bx p v) (j : Nat) : ARel w g bx j p v := by
  obtain ⟨b, cs⟩ := p
  obtain ⟨hf, h⟩ := h
  cases b with
  | true =>
    obtain ⟨vs, h1, h2, h3⟩ := h
    refine ⟨vs, h1, h2, fun k c hk => ?_⟩
    obtain ⟨u, e1, e2⟩ := h3 k c hk
    exact ⟨u, e1, rel_place (List.all_eq_true.1 hf c (List.mem_of_getElem? hk)) e2⟩
  | false =>
    obtain ⟨c, h1, h2⟩ := h
    refine ⟨c, h1, ?_⟩
    rcases h2 with h2 | h2 | h2
    · exact .inl h2
    · exact .inr (.inl h2)
    · subst h1; exact .inr (.inr (rel_place (by simpa using hf) h2))
theorem takeOpd_ok (h : Ok st g fr a w) {x : Operand} {p : Comp} {fr1 : Fr} (ht : takeOpd fr x = (p, fr1)) (j : Nat) : ∃ g1, Took st a w g g1 fr fr1 ∧ ARel w g1 (isBox fr) j p (a.eval x) := by
  have plain : (opd fr x, fr) = (p, fr1) → ∃ g1, Took st a w g g1 fr fr1 ∧ ARel w g1 (isBox fr) j p (a.eval x) := by
    intro e; cases e
    exact ⟨g, Took.refl h, (opd_ok h x).air j⟩
  unfold takeOpd at ht
  cases x with
  | const v => exact plain ht
  | global n => exact plain ht
  | func f => exact plain ht
  | tmp t =>
    simp only at ht
    cases hf : fr t with
    | tup vs => rw [hf] at ht; exact plain ht
    | mapb kk vv xx ii => rw [hf] at ht; exact plain ht
    | box cs => rw [hf] at ht; exact plain ht
    | comp b cs =>
      rw [hf] at ht
      simp only at ht
      cases hts : takeSlot fr t cs.length 1 with
      | mk ws fr2 =>
        rw [hts] at ht
        simp only at ht
        cases ht
        have hs := h.slot t
        rw [hf] at hs
        cases b with
        | true =>
          obtain ⟨vs, e1, e2, e3⟩ := hs
          obtain ⟨g1, t1, l1, r1⟩ := takeSlot_ok cs.length h (s := t) (c := 1) (N := cs.length) (by rw [hf]; rfl) (by omega) (by omega) vs e2 (fun k v hk => by
            unfold At; rw [hf]; exact ⟨vs, e1, by omega, by rw [show 1 + k - 1 = k by omega]; exact hk⟩) j hts
          exact ⟨g1, t1, vs, e1, by rw [l1]; exact e2, r1⟩
        | false =>
          obtain ⟨c, e1, e2⟩ := hs
          subst e1
          simp only [List.length_singleton, takeSlot] at hts
          cases h1 : takeAt fr t 1 with
          | mk y fr3 =>
            rw [h1] at hts
            cases hts
            have hca : cellAt fr t 1 = c := by unfold cellAt; rw [hf]; rfl
            rcases e2 with rfl | ⟨rfl, e2⟩ | e2
            · unfold takeAt at h1
              rw [hca] at h1
              cases h1
              exact ⟨g, Took.refl h, _, rfl, .inl rfl⟩
            · unfold takeAt at h1
              rw [hca] at h1
              cases h1
              exact ⟨g, Took.refl h, _, rfl, .inr (.inl ⟨rfl, e2⟩)⟩
            · obtain ⟨g1, t1, r1⟩ := takeAt_ok h (v := a.tmps.getD t undef) (by unfold At; rw [hf]; exact ⟨rfl, rfl⟩) (by rw [hca]; exact e2) j h1
              exact ⟨g1, t1, y, rfl, .inr (.inr r1)⟩
end
end Go.Rv

/- A run of Go code on plain values ('den'): the definitions. What it says of the machine is proved in the texts that follow. -/
import Derived.Calls
import Derived.IntWalk
import Derived.KernelRfl
import Derived.Below
import Derived.Laws.AppendOwn
namespace Go.Rv

/-! ### Types, and what they denote -/
inductive Ty where
  | int (k : IntKind) | bool | str | pair (a b : Ty) | sl (t : Ty)
  deriving DecidableEq
@[reducible] def Den : Ty → Type
  | .int _ => Int | .bool => Bool | .str => ByteArray | .pair a b => Den a × Den b | .sl t => List (Den t)
def Ty.cells : Ty → Nat
  | .pair a b => a.cells + b.cells | _ => 1
def Ty.zero : (t : Ty) → Den t
  | .int _ => (0 : Int) | .bool => false | .str => ByteArray.empty | .pair a b => (a.zero, b.zero) | .sl _ => []
def Ty.flat : Ty → Bool
  | .sl _ => false | .pair a b => a.flat && b.flat | _ => true

/-! ### Abstract cells, slots, frames -/
inductive CV where
  | dead | undef
  | int (k : IntKind) (n : Int) | bool (b : Bool) | str (s : ByteArray)
  | nils
  | lo (t : Ty) (xs : List (Den t)) | hi (t : Ty) (xs : List (Den t))
  | own (t : Ty) (xs : List (Den t)) | tmpo (t : Ty) (xs : List (Den t))
  | ref (s c : Nat) (t : Ty) (xs : List (Den t))
  | ptr (s c : Nat)
  | rptr (cs : List CV) | hptr (cs : List CV)
  | eptr (s c : Nat) (t : Ty) (i : Int) (k : Nat) (cs : List CV)
  | fn (f : FuncId) (caps : List CV)
  | mbox (cs : List CV)
inductive SV where
  | comp (g : Bool) (cs : List CV)
  | tup (vs : List (Bool × List CV))
  | box (cs : List CV)
abbrev Fr := Nat → SV
abbrev Comp := Bool × List CV
def SV.dead : SV := .comp false [.dead]
def upd (fr : Fr) (i : Nat) (v : SV) : Fr := fun j => bif j.beq i then v else fr j

def unpack (old : Bool) : (t : Ty) → Den t → List CV
  | .int k, n => [.int k n] | .bool, b => [.bool b] | .str, s => [.str s]
  | .pair a b, x => unpack old a x.1 ++ unpack old b x.2
  | .sl t, xs => [bif old then .lo t xs else .hi t xs]
def listAs (t : Ty) : CV → Option (List (Den t))
  | .nils => some []
  | .lo u xs | .hi u xs | .own u xs | .tmpo u xs | .ref _ _ u xs => if h : u = t then some (h ▸ xs) else none
  | _ => none
def pack : (t : Ty) → List CV → Option (Den t × List CV)
  | .int k, .int j n :: r => if j = k then some (n, r) else none
  | .bool, .bool b :: r => some (b, r)
  | .str, .str s :: r => some (s, r)
  | .pair a b, cs => match pack a cs with
    | some (x, r) => match pack b r with
      | some (y, r') => some ((x, y), r')
      | none => none
    | none => none
  | .sl t, c :: r => match listAs t c with
    | some xs => some (xs, r)
    | none => none
  | _, _ => none
def zeroCV : Ty → List CV
  | .int k => [.int k 0] | .bool => [.bool false] | .str => [.str ByteArray.empty]
  | .pair a b => zeroCV a ++ zeroCV b
  | .sl _ => [.nils]

/-! ### The table of types, the functions that are called -/
structure TI where
  ty : Ty
  agg : Bool := false
  offs : List (Nat × Nat × Bool) := []
  eq : Bool := false
structure Env where
  n : Nat
  keep : List Nat
  tab : List (Nat × TI)
  /-- within a region that draws its order -/
  dr : Bool := false
def Env.ti (X : Env) (t : TypeId) : Option TI := X.tab.lookup t
def Env.sl (X : Env) (t : TypeId) : Option Ty := match X.ti t with
  | some i => bif i.agg then none else match i.ty with | .sl u => some u | _ => none
  | none => none
def Env.boolT (X : Env) (t : TypeId) : Bool := match X.ti t with
  | some i => bif i.agg then false else match i.ty with | .bool => true | _ => false
  | none => false
def Env.strT (X : Env) (t : TypeId) : Bool := match X.ti t with
  | some i => bif i.agg then false else match i.ty with | .str => true | _ => false
  | none => false
def Env.intK (X : Env) (t : TypeId) : Option IntKind := match X.ti t with
  | some i => bif i.agg then none else match i.ty with | .int k => some k | _ => none
  | none => none
structure Fn where
  run : {R : Type} → List Comp → (List Comp → Option R) → Option R
  muts : List Nat
  /-- argument 0 points to a box that may be written -/
  box : Bool := false
  nat : ∀ {R : Type} (args : List Comp) (K : List Comp → Option R), run args K = (run args some).bind K

/-! ### Operands -/
def view1 (s : Nat) : Nat → List CV → List CV
  | _, [] => []
  | c, .own t xs :: r => .ref s c t xs :: view1 s (c + 1) r
  | c, .tmpo t xs :: r => .hi t xs :: view1 s (c + 1) r
  | c, x :: r => x :: view1 s (c + 1) r
def constCV : Value → CV
  | .int k n => .int k n | .bool b => .bool b | .string s => .str s | .slice none 0 0 => .nils | _ => .dead
def notDead : CV → Bool
  | .dead => false
  | _ => true
def constC : Value → Comp
  | .agg cs => bif cs.toList.all (fun v => notDead (constCV v)) then (true, cs.toList.map constCV) else (false, [.dead])
  | v => (false, [constCV v])
def viewS (s : Nat) : SV → Comp
  | .comp g cs => (g, view1 s 1 cs)
  | .box _ => (false, [.ptr s 0])
  | .tup _ => (false, [.dead])
def opd (fr : Fr) : Operand → Comp
  | .tmp t => viewS t (fr t)
  | .const v => constC v
  | .global _ => (false, [.dead])
  | .func f => (false, [.fn f []])
def one : Comp → CV
  | (false, [c]) => c
  | _ => .dead
def opc (fr : Fr) (x : Operand) : CV := one (opd fr x)

/-! ### Taking what is owned -/
def cellAt (fr : Fr) (s c : Nat) : CV := match fr s with
  | .comp _ cs | .box cs => match c with | 0 => .dead | c + 1 => cs.getD c .dead
  | .tup _ => .dead
def setCellAt (fr : Fr) (s c : Nat) (v : CV) : Fr := match fr s with
  | .comp g cs => match c with | 0 => fr | c + 1 => upd fr s (.comp g (cs.set c v))
  | .box cs => match c with | 0 => fr | c + 1 => upd fr s (.box (cs.set c v))
  | .tup _ => fr
def takeAt (fr : Fr) (s c : Nat) : CV × Fr := match cellAt fr s c with
  | .own t xs | .tmpo t xs => (.tmpo t xs, setCellAt fr s c (.hi t xs))
  | .ref s' c' t xs => match cellAt fr s' c' with
    | .own u ys => (.tmpo u ys, setCellAt fr s' c' (.hi u ys))
    | _ => (.hi t xs, fr)
  | x => (x, fr)
def takeSlot (fr : Fr) (s : Nat) : Nat → Nat → List CV × Fr
  | 0, _ => ([], fr)
  | n + 1, c => match takeAt fr s c with
    | (y, fr1) => match takeSlot fr1 s n (c + 1) with
      | (ys, fr2) => (y :: ys, fr2)
def takeOpd (fr : Fr) (x : Operand) : Comp × Fr := match x with
  | .tmp t => match fr t with
    | .comp g cs => match takeSlot fr t cs.length 1 with
      | (ws, fr1) => ((g, ws), fr1)
    | _ => (opd fr x, fr)
  | _ => (opd fr x, fr)
def dem1 (s : Nat) : CV → CV
  | .ref s' c t xs => bif s'.beq s then .hi t xs else .ref s' c t xs
  | .eptr s' c t i k cs => bif s'.beq s then .hptr cs else .eptr s' c t i k cs
  | .fn f caps => .fn f (caps.map fun | .eptr s' c t i k cs => bif s'.beq s then .hptr cs else .eptr s' c t i k cs | x => x)
  | x => x
def demS (s : Nat) : SV → SV
  | .comp g cs => .comp g (cs.map (dem1 s))
  | .box cs => .box (cs.map (dem1 s))
  | .tup vs => .tup (vs.map fun p => (p.1, p.2.map (dem1 s)))
/-- what refers to slot s, refers to it no longer -/
def dem (s : Nat) (fr : Fr) : Fr := fun j => demS s (fr j)
def toOwn : CV → CV
  | .tmpo t xs => .own t xs
  | x => x
def notBox : SV → Bool | .box _ => false | _ => true
def setD (X : Env) (fr : Fr) (d : Nat) (v : SV) : Option Fr :=
  bif d.blt X.n && (notBox (fr d) && !X.keep.contains d) then some (upd fr d v) else none
def fin {R : Type} (X : Env) (fr : Fr) (d : Option Nat) (v : SV) (K : Fr → Option R) : Option R :=
  match d with
  | none => K fr
  | some d => match setD X fr d v with
    | some fr1 => K fr1
    | none => none

/-! ### Arithmetic -/
/-- wrapped to 64 bits; said so that nobody reckons with it -/
noncomputable def wrap64 (n : Int) : Int := Classical.choose (⟨RowKit.wrap64 n, rfl⟩ : ∃ m, m = RowKit.wrap64 n)
theorem wrap64_eq (n : Int) : wrap64 n = RowKit.wrap64 n := Classical.choose_spec (⟨RowKit.wrap64 n, rfl⟩ : ∃ m, m = RowKit.wrap64 n)
noncomputable def wr (k : IntKind) (n : Int) : Int := match k with | .i64 => wrap64 n | k => k.wrap n
noncomputable def arith {R : Type} (op : BinOp) (k : IntKind) (a b : Int) (K : CV → Option R) : Option R :=
  match op with
  | .add => K (.int k (wr k (a + b))) | .sub => K (.int k (wr k (a - b))) | .mul => K (.int k (wr k (a * b)))
  | .quo => if b = 0 then none else K (.int k (wr k (a.tdiv b)))
  | .rem => if b = 0 then none else K (.int k (a.tmod b))
  | .shr => if b < 0 then none else K (.int k (a.fdiv (2 ^ min b.toNat k.bits)))
  | .shl => if b < 0 then none else K (.int k (wr k (a * 2 ^ min b.toNat k.bits)))
  | .and => K (.int k (k.wrap ((BitVec.ofInt k.bits a &&& BitVec.ofInt k.bits b).toNat : Int)))
  | .or => K (.int k (k.wrap ((BitVec.ofInt k.bits a ||| BitVec.ofInt k.bits b).toNat : Int)))
  | .xor => K (.int k (k.wrap ((BitVec.ofInt k.bits a ^^^ BitVec.ofInt k.bits b).toNat : Int)))
  | .eql => K (.bool (decide (a = b))) | .neq => K (.bool (!decide (a = b)))
  | .lss => K (.bool (decide (a < b))) | .leq => K (.bool (decide (a ≤ b)))
  | .gtr => K (.bool (decide (b < a))) | .geq => K (.bool (decide (b ≤ a)))
  | _ => none
def eqCells : List CV → List CV → Option Bool
  | [], [] => some true
  | .int j a :: r, .int k b :: s => if j = k then match eqCells r s with
      | some q => some (decide (a = b) && q)
      | none => none
    else none
  | _, _ => none
noncomputable def binop {R : Type} (isB isS : Bool) (op : BinOp) (x y : CV) (K : CV → Option R) : Option R :=
  match x, y with
  | .int j a, .int k b => if j = k then arith op j a b K else none
  | .bool a, .bool b => bif isB then match op with
      | .eql => K (.bool (a == b)) | .neq => K (.bool (!(a == b))) | _ => none
    else none
  | .lo _ xs, .nils => bif isS then match op with
      | .eql => if 0 < xs.length then K (.bool false) else none | .neq => if 0 < xs.length then K (.bool true) else none | _ => none
    else none
  | _, _ => none

/-! ### Memory -/
def lenOf (st sl : Bool) : CV → Option Int
  | .nils => bif sl then some 0 else none
  | .lo _ xs | .hi _ xs | .ref _ _ _ xs => bif sl then some (xs.length : Int) else none
  | .str s => bif st then some (s.size : Int) else none
  | _ => none
def rd {α : Type} (d : α) (xs : List α) (i : Int) : α := xs.getD i.toNat d
/-- the most elements that an appended slice may have -/
def lim (t : Ty) : Nat := 1099511627776 / t.cells
def indexAddr {R : Type} (u : Option Ty) (c : CV) (i : Int) (K : CV → Option R) : Option R :=
  match c with
  | .lo t xs => bif decide (u = some t) then (if 0 ≤ i then if i < (xs.length : Int) then K (.rptr (unpack true t (rd t.zero xs i))) else none else none) else none
  | .hi t xs => bif decide (u = some t) then (if 0 ≤ i then if i < (xs.length : Int) then K (.hptr (unpack false t (rd t.zero xs i))) else none else none) else none
  | .ref s c t xs => bif decide (u = some t) then (if 0 ≤ i then if i < (xs.length : Int) then K (.eptr s c t i 0 (unpack false t (rd t.zero xs i))) else none else none) else none
  | _ => none
def fieldAddr (c : CV) (off : Nat) : Option CV :=
  match c with
  | .ptr s c => some (.ptr s (c + off))
  | .rptr cs => some (.rptr (cs.drop off)) | .hptr cs => some (.hptr (cs.drop off))
  | .eptr s c t i k cs => some (.eptr s c t i (k + off) (cs.drop off))
  | _ => none
def takeN (n : Nat) (cs : List CV) : Option (List CV) := bif n.ble cs.length then some (cs.take n) else none
def load (fr : Fr) (c : CV) (n : Nat) : Option (List CV) :=
  match c with
  | .ptr s c => match fr s with
    | .box cs => takeN n ((view1 s 1 cs).drop c)
    | _ => none
  | .rptr cs | .hptr cs | .eptr _ _ _ _ _ cs => takeN n cs
  | _ => none
def fillCells (cs : List CV) (off : Nat) (new : List CV) : Option (List CV) :=
  bif (off + new.length).ble cs.length then some (cs.take off ++ new ++ cs.drop (off + new.length)) else none
/-- behind a store into elements: what was read from rows that may have been written is known no longer -/
def killF : CV → CV
  | .int k n => .int k n | .bool b => .bool b | .str s => .str s | .nils => .nils | .lo t xs => .lo t xs
  | _ => .dead
def kill1 : CV → CV
  | .hi _ _ | .ref _ _ _ _ | .hptr _ | .eptr _ _ _ _ _ _ | .mbox _ => .dead
  | .own t xs => bif t.flat then .own t xs else .dead
  | .tmpo t xs => bif t.flat then .tmpo t xs else .dead
  | .fn f caps => bif caps.isEmpty then .fn f [] else .dead
  | .rptr cs => .rptr (cs.map killF)
  | x => x
def killS : SV → SV
  | .comp g cs => .comp g (cs.map kill1)
  | .box cs => .box (cs.map kill1)
  | .tup _ => .dead
def kill (fr : Fr) : Fr := fun j => killS (fr j)
/-- cell k of an element, written -/
def setElem (t : Ty) (x : Den t) (k : Nat) (new : List CV) : Option (Den t) :=
  match fillCells (unpack false t x) k new with
  | some cs => match pack t cs with
    | some (y, []) => some y
    | _ => none
  | none => none
def isOwn : CV → Bool
  | .own _ _ => true
  | _ => false
def isScalar : CV → Bool
  | .int _ _ | .bool _ | .str _ => true
  | _ => false
def sure : CV → Bool
  | .dead | .undef => false
  | _ => true
/-- what no one owns and what needs no owner's place -/
def isPlain : CV → Bool
  | .int _ _ | .bool _ | .str _ | .nils | .lo _ _ | .hi _ _ => true
  | _ => false
/-- fr1: the frame behind the taking of what is stored -/
def store (dr : Bool) (p : CV) (g : Bool) (new : List CV) (fr1 : Fr) : Option Fr :=
  match p with
  | .ptr s c => match fr1 s with
    | .box cs => bif dr then (bif g || new.all sure then match fillCells cs c new with
        | some cs' => some (upd fr1 s (.box cs'))
        | none => none
      else none) else match fillCells cs c (new.map toOwn) with
      | some cs' => bif new.all isPlain then some (upd fr1 s (.box cs')) else bif g || new.all sure then some (upd (dem s fr1) s (demS s (.box cs'))) else none
      | none => none
    | _ => none
  | .eptr s c u i k _ => bif new.all isScalar then match cellAt fr1 s c with
      | .own t xs => bif t.flat && decide (u = t) then match setElem t (rd t.zero xs i) k new with
          | some y => some (setCellAt (kill fr1) s c (.own t (xs.set i.toNat y)))
          | none => none
        else none
      | _ => none
    else none
  | _ => none
/-- the lower bound of a slice -/
def lowB (fr : Fr) : Option Operand → Option Int
  | none => some 0
  | some x => match opc fr x with
    | .int _ n => some n
    | _ => none
/-- the slice from l to h of what is only read -/
def cutS {R : Type} (u' : Option Ty) (c : CV) (l h : Int) (K : CV → Option R) : Option R :=
  match c with
  | .lo u xs => bif decide (u' = some u) then (if 0 ≤ l then if l ≤ h then if h ≤ (xs.length : Int) then K (.lo u ((xs.take h.toNat).drop l.toNat)) else none else none else none) else none
  | .hi u xs | .ref _ _ u xs => bif decide (u' = some u) then (if 0 ≤ l then if l ≤ h then if h ≤ (xs.length : Int) then K (.hi u ((xs.take h.toNat).drop l.toNat)) else none else none else none) else none
  | _ => none
def buildParts (fr : Fr) (offs : List (Nat × Nat × Bool)) (cs : List CV) : List (Nat × Operand) → Option (List CV × Fr)
  | [] => some (cs, fr)
  | (i, x) :: r => match offs[i]?, takeOpd fr x with
    | some (off, n, _), ((b, ws), fr1) => bif ws.length.beq n && (b || ws.all sure) then match fillCells cs off ws with
        | some cs' => buildParts fr1 offs cs' r
        | none => none
      else none
    | none, _ => none
def rowParts (fr : Fr) (t : Ty) : Nat → List (Nat × Operand) → Option (List (Den t))
  | _, [] => some []
  | k, (i, x) :: r => bif i.beq k then match pack t (opd fr x).2 with
      | some (y, []) => match rowParts fr t (k + 1) r with
        | some ys => some (y :: ys)
        | none => none
      | _ => none
    else none

/-! ### Calls -/
/-- a cell, as a callee sees it -/
def flatArg : CV → CV
  | .nils => .nils
  | .lo t xs | .hi t xs | .own t xs | .tmpo t xs | .ref _ _ t xs => .lo t xs
  | .int k n => .int k n | .bool b => .bool b | .str s => .str s
  | _ => .dead
def argP (fr : Fr) : CV → CV
  | .ptr s c => match fr s with
    | .box cs => .rptr ((cs.drop c).map flatArg)
    | _ => .dead
  | .rptr cs | .hptr cs | .eptr _ _ _ _ _ cs => .rptr (cs.map flatArg)
  | x => flatArg x
def argCV (fr : Fr) : CV → CV
  | .fn f caps => .fn f (caps.map (argP fr))
  | x => argP fr x
def capOk : CV → Bool
  | .ptr _ _ | .rptr _ | .hptr _ | .eptr _ _ _ _ _ _ | .int _ _ | .bool _ | .str _ | .nils | .lo _ _ | .hi _ _ => true
  | _ => false
def isOldF : CV → Bool
  | .int _ _ | .bool _ | .str _ | .nils | .lo _ _ | .dead => true
  | _ => false
def isOldC : CV → Bool
  | .int _ _ | .bool _ | .str _ | .nils | .lo _ _ => true
  | .rptr cs => cs.all isOldF
  | .fn _ caps => caps.isEmpty
  | _ => false
/-- a result, as the caller sees it -/
def resCV (old : Bool) : CV → CV
  | .lo t xs => bif old then .lo t xs else .hi t xs
  | .own t xs | .tmpo t xs => .tmpo t xs
  | .int k n => .int k n | .bool b => .bool b | .str s => .str s | .nils => .nils | .hi t xs => .hi t xs
  | _ => .dead
def argsOf (fr : Fr) : List Operand → List Comp
  | [] => []
  | x :: r => opd fr x :: argsOf fr r
/-- the places whose rows a call may write -/
def mutCells (fr : Fr) : List CV → Option (List CV × List (Option (Nat × Nat)))
  | [] => some ([], [])
  | .ref s c _ _ :: r => match cellAt fr s c, mutCells fr r with
    | .own t xs, some (cs, ps) => bif t.flat then some (.own t xs :: cs, some (s, c) :: ps) else none
    | _, _ => none
  | x :: r => bif isScalar x then (match mutCells fr r with
      | some (cs, ps) => some (x :: cs, none :: ps)
      | none => none) else none
def argsConv (fr : Fr) (muts : List Nat) : Nat → List Comp → Option (List Comp)
  | _, [] => some []
  | i, (g, cs) :: r => match argsConv fr muts (i + 1) r with
    | none => none
    | some l => bif muts.contains i then (match mutCells fr cs with
        | some (cs', _) => some ((g, cs') :: l)
        | none => none)
      else some ((g, cs.map (argCV fr)) :: l)
/-- whose rows a call may write, in the order of 'muts' -/
def placesOf (fr : Fr) (args : List Comp) : List Nat → Option (List (Option (Nat × Nat)))
  | [] => some []
  | j :: r => match args[j]?, placesOf fr args r with
    | some p, some ps => match mutCells fr p.2 with
      | some (_, qs) => some (qs ++ ps)
      | none => none
    | _, _ => none
/-- what a call that writes is given besides has been there for good -/
def othersOld (muts : List Nat) : Nat → List Comp → Bool
  | _, [] => true
  | i, p :: r => (muts.contains i || p.2.all isOldF) && othersOld muts (i + 1) r
def bury (fr : Fr) : List (Option (Nat × Nat)) → Fr
  | [] => fr
  | none :: r => bury fr r
  | some (s, c) :: r => bury (setCellAt fr s c .dead) r
def giveBack (fr : Fr) : List (Option (Nat × Nat)) → List CV → Option Fr
  | [], [] => some fr
  | none :: r, _ :: l => giveBack fr r l
  | some (s, c) :: r, .own t xs :: l => bif t.flat then giveBack (setCellAt fr s c (.own t xs)) r l else none
  | _, _ => none
def noDup : List (Option (Nat × Nat)) → Bool
  | [] => true
  | none :: r => noDup r
  | some p :: r => !r.contains (some p) && noDup r
def resSV (old : Bool) (res : List Comp) : SV := match res with
  | [(false, [.mbox cs])] => .box (cs.map (resCV old))
  | [(g, cs)] => .comp g (cs.map (resCV old))
  | vs => .tup (vs.map fun v => (v.1, v.2.map (resCV old)))
def callFn {R : Type} (X : Env) (F : Fn) (fr : Fr) (args : List Comp) (d : Option Nat) (K : Fr → Option R) : Option R :=
  match argsConv fr F.muts 0 args, placesOf fr args F.muts with
  | some l, some ps => bif F.muts.isEmpty || (noDup ps && othersOld F.muts 0 args) then F.run l fun res =>
    bif !res.all (fun c => c.2.length.blt 4096) then none else bif F.muts.isEmpty then fin X fr d (resSV (args.all fun a => a.2.all isOldC) res) K
    else match res.getLast? with
      | some (_, outs) => match giveBack (kill (bury fr ps)) ps outs with
        | some fr1 => fin X fr1 d (resSV false res.dropLast) K
        | none => none
      | none => none
    else none
  | _, _ => none

/-- what may lie in a box that is handed on -/
def boxC : CV → Bool
  | .int _ _ | .bool _ | .str _ | .nils | .lo _ _ | .hi _ _ | .dead => true
  | _ => false
/-- what is handed on beside a box -/
def noPtr : CV → Bool
  | .int _ _ | .bool _ | .str _ | .nils | .lo _ _ | .hi _ _ | .dead | .own _ _ | .tmpo _ _ | .ref _ _ _ _ => true
  | _ => false
/-- a call of a function that writes the box that its first argument points to -/
def callBox {R : Type} (X : Env) (F : Fn) (fr : Fr) (args : List Comp) (d : Option Nat) (K : Fr → Option R) : Option R :=
  match args with
  | (false, [.ptr s 0]) :: rest => match fr s with
    | .box cs => bif cs.all boxC && rest.all (fun p => p.2.all noPtr) then
        F.run ((false, [.mbox (cs.map flatArg)]) :: rest.map fun p => (p.1, p.2.map flatArg)) fun res =>
          bif !res.all (fun c => c.2.length.blt 4096) then none else match res.getLast? with
          | some (_, [.mbox outs]) => bif outs.length.beq cs.length && outs.all boxC then
              fin X (upd fr s (.box (outs.map (resCV (cs.all isOldF && rest.all fun p => p.2.all isOldF))))) d (resSV (cs.all isOldF && rest.all fun p => p.2.all isOldF) res.dropLast) K else none
          | _ => none
      else none
    | _ => none
  | _ => none

/-! ### Operations -/
noncomputable def stepOp {R : Type} (X : Env) (E : FuncId → Option Fn) (o : Oper) (fr : Fr) (K : Fr → Option R) : Option R :=
  match o.op with
  | .move x => match x with
    | .tmp t => match fr t with
      | .tup vs => match o.dst with
        | some d => bif d.beq t || !vs.all (fun p => p.2.all fun c => !isOwn c) then none else fin X (upd fr t .dead) (some d) (.tup vs) K
        | none => none
      | v => fin X fr o.dst (.comp (viewS t v).1 (viewS t v).2) K
    | x => fin X fr o.dst (.comp (opd fr x).1 (opd fr x).2) K
  | .assign x => match takeOpd fr x with
    | ((g, ws), fr1) => match o.dst with
      | some d => bif X.dr || ws.all isScalar then fin X fr1 (some d) (.comp g ws) K
        else fin X (dem d fr1) (some d) (.comp g (ws.map fun c => dem1 d (toOwn c))) K
      | none => none
  | .pick c a b => match opc fr c with
    | .bool q => if q = true then fin X fr o.dst (.comp (opd fr a).1 (opd fr a).2) K else fin X fr o.dst (.comp (opd fr b).1 (opd fr b).2) K
    | _ => none
  | .alloc t => match X.ti t, o.dst with
    | some i, some d => fin X fr (some d) (.box (zeroCV i.ty)) K
    | _, _ => none
  | .box _ x => match o.dst with
    | some d => bif (opd fr x).1 || (opd fr x).2.all sure then fin X fr (some d) (.box (opd fr x).2) K else none
    | none => none
  | .build t ps => match X.ti t with
    | some i => bif i.agg then match buildParts fr i.offs (zeroCV i.ty) ps.toList with
        | some (cs, fr1) => fin X fr1 o.dst (.comp true cs) K
        | none => none
      else none
    | none => none
  | .buildSlice t n ps => match X.sl t with
    | some t => match rowParts fr t 0 ps.toList with
      | some xs => bif ps.toList.length.beq n && (n * t.cells).ble 16777216 then fin X fr o.dst (.comp false [.tmpo t xs]) K else none
      | none => none
    | none => none
  | .makeSlice t l m => match X.sl t with
    | some t => match opc fr l, opc fr m with
      | .int .i64 n, .int .i64 m => if 0 ≤ n then if n ≤ m then if m < (lim t : Int) then fin X fr o.dst (.comp false [.tmpo t (List.replicate n.toNat t.zero)]) K else none else none else none
      | _, _ => none
    | none => none
  | .load t a => match X.ti t with
    | some i => match load fr (opc fr a) i.ty.cells with
      | some cs => fin X fr o.dst (.comp i.agg cs) K
      | none => none
    | none => none
  | .store t a x => match X.ti t, takeOpd fr x with
    | some i, ((g, ws), fr1) => bif ws.length.beq i.ty.cells && g == i.agg then match store X.dr (opc fr a) g ws fr1 with
        | some fr2 => bif o.dst.isNone then K fr2 else none
        | none => none
      else none
    | none, _ => none
  | .nilCheck x => match opc fr x with
    | .ptr s c => fin X fr o.dst (.comp false [.ptr s c]) K
    | .rptr cs => fin X fr o.dst (.comp false [.rptr cs]) K
    | .hptr cs => fin X fr o.dst (.comp false [.hptr cs]) K
    | .eptr s c t i k cs => fin X fr o.dst (.comp false [.eptr s c t i k cs]) K
    | _ => none
  | .binOp op t x y _ => match opd fr x, opd fr y with
    | (true, cs), (true, ds) => match X.ti t, eqCells cs ds with
      | some i, some q => bif i.eq && i.agg && cs.length.beq i.ty.cells then match op with
          | .eql => fin X fr o.dst (.comp false [.bool q]) K
          | .neq => fin X fr o.dst (.comp false [.bool (!q)]) K
          | _ => none
        else none
      | _, _ => none
    | p, q => binop (X.boolT t) (X.sl t).isSome op (one p) (one q) fun c => fin X fr o.dst (.comp false [c]) K
  | .unOp op _ x => match op, opc fr x with
    | .not, .bool b => fin X fr o.dst (.comp false [.bool (!b)]) K
    | .neg, .int k n => fin X fr o.dst (.comp false [.int k (wr k (0 - n))]) K
    | _, _ => none
  | .convert s t x => match X.ti s, X.intK t, opc fr x with
    | some _, some k, .int _ n => fin X fr o.dst (.comp false [.int k (wr k n)]) K
    | _, _, _ => none
  | .makeFunc (.func f) first caps => bif first.isEmpty && caps.toList.all (fun x => capOk (opc fr x)) then fin X fr o.dst (.comp false [.fn f (caps.toList.map (opc fr))]) K else none
  | .slice t x lo hi mx => match opc fr x, lo, hi, mx with
    | .lo u xs, some l, none, none => match opc fr l with
      | .int _ n => bif decide (X.sl t = some u) then (if 0 ≤ n then if n ≤ (xs.length : Int) then fin X fr o.dst (.comp false [.lo u (xs.drop n.toNat)]) K else none else none) else none
      | _ => none
    | .hi u xs, some l, none, none | .ref _ _ u xs, some l, none, none => match opc fr l with
      | .int _ n => bif decide (X.sl t = some u) then (if 0 ≤ n then if n ≤ (xs.length : Int) then fin X fr o.dst (.comp false [.hi u (xs.drop n.toNat)]) K else none else none) else none
      | _ => none
    | c, lo, some h, none => match lowB fr lo, opc fr h with
      | some l, .int _ n => cutS (X.sl t) c l n fun c => fin X fr o.dst (.comp false [c]) K
      | _, _ => none
    | _, _, _, _ => none
  | .fieldAddr t x f => match X.ti t with
    | some i => match i.offs[f]? with
      | some (off, _, _) => match fieldAddr (opc fr x) off with
        | some c => fin X fr o.dst (.comp false [c]) K
        | none => none
      | none => none
    | none => none
  | .field t x f => match X.ti t, opd fr x with
    | some i, (true, cs) => match i.offs[f]? with
      | some (off, n, g) => match takeN n (cs.drop off) with
        | some vs => fin X fr o.dst (.comp g vs) K
        | none => none
      | none => none
    | _, _ => none
  | .indexAddr t x ix => match opc fr ix with
    | .int _ i => indexAddr (X.sl t) (opc fr x) i fun c => fin X fr o.dst (.comp false [c]) K
    | _ => none
  | .extract x i => match x with
    | .tmp t => match fr t with
      | .tup vs => match vs[i]? with
        | some (g, cs) => match o.dst with
          | some d => bif d.beq t || !cs.all (fun c => !isOwn c) then none else bif cs.all isPlain then fin X fr (some d) (.comp g cs) K else fin X (upd fr t (.tup (vs.set i (false, [.dead])))) (some d) (.comp g cs) K
          | none => none
        | none => none
      | _ => none
    | _ => none
  | .call c => match c.callee with
    | .builtin .len => match c.argTypes.toList, c.args.toList with
      | [t], [x] => match lenOf (X.strT t) (X.sl t).isSome (opc fr x) with
        | some n => fin X fr o.dst (.comp false [.int .i64 n]) K
        | none => none
      | _, _ => none
    | .builtin .append => match c.argTypes.toList, c.args.toList with
      | [t, u], [x, y] => bif t.beq u then match X.sl t with
          | some t => match listAs t (opc fr y), takeOpd fr x with
            | some ys, ((false, [.tmpo u xs]), fr1) => if h : u = t then
                (if xs.length + ys.length < lim t then fin X fr1 o.dst (.comp false [.tmpo t ((h ▸ xs) ++ ys)]) K else none) else none
            | some ys, ((false, [.nils]), fr1) => if ys.length < lim t then fin X fr1 o.dst (.comp false [.tmpo t ys]) K else none
            | _, _ => none
          | none => none
        else none
      | _, _ => none
    | .builtin .min => match c.args.toList with
      | [x, y] => match opc fr x, opc fr y with
        | .int j a, .int k b => if j = k then fin X fr o.dst (.comp false [.int j (if b < a then b else a)]) K else none
        | _, _ => none
      | _ => none
    | .builtin .max => match c.args.toList with
      | [x, y] => match opc fr x, opc fr y with
        | .int j a, .int k b => if j = k then fin X fr o.dst (.comp false [.int j (if a < b then b else a)]) K else none
        | _, _ => none
      | _ => none
    | .value f => match opc fr f with
      | .fn f caps => match E f with
        | some F => bif F.box then (bif caps.isEmpty then callBox X F fr (argsOf fr c.args.toList) o.dst K else none) else callFn X F fr (argsOf fr c.args.toList ++ caps.map fun c => (false, [c])) o.dst K
        | none => none
      | _ => none
    | _ => none
  | _ => none

/-! ### Regions, code -/
def guardK {R : Type} (ops : List Oper) (o : Oper) (fr : Fr) (no : Fr → Option R) (yes : Fr → Option R) : Option R :=
  match o.guard with
  | none => yes fr
  | some (j, want) => match ops[j]? with
    | some oj => match oj.dst with
      | some d => match fr d with
        | .comp false [.bool b] => if b = true then (bif want then yes else no) (upd fr d (.comp false [.bool true])) else (bif want then no else yes) (upd fr d (.comp false [.bool false]))
        | .comp false [.undef] => no fr
        | _ => none
      | none => none
    | none => none
noncomputable def runOps {R : Type} (X : Env) (E : FuncId → Option Fn) (ops : List Oper) : List Oper → Fr → (Fr → Option R) → Option R
  | [], fr, K => K fr
  | o :: r, fr, K => guardK ops o fr (fun fr => fin X fr o.dst (.comp false [.undef]) fun fr => runOps X E ops r fr K) (fun fr => stepOp X E o fr fun fr => runOps X E ops r fr K)
/-! ### Regions that draw their order -/
inductive Loc where | shape (s : Nat) | cells (s lo n : Nat) | whole (s : Nat)
def ov : Loc → Loc → Bool
  | .whole s, .whole t | .whole s, .shape t | .shape s, .whole t | .shape s, .shape t | .whole s, .cells t _ _ | .cells s _ _, .whole t => s.beq t
  | .cells s a n, .cells t b m => s.beq t && (a.blt (b + m) && b.blt (a + n))
  | .shape _, .cells _ _ _ | .cells _ _ _, .shape _ => false
abbrev FP := Option (List Loc × List Loc)
def disj (xs ys : List Loc) : Bool := xs.all fun x => ys.all fun y => !ov x y
def fpApart : FP → FP → Bool
  | some (r, w), some (r', w') => disj w r' && (disj w w' && disj r w')
  | _, _ => false
def shapes : List Operand → List Loc
  | [] => []
  | .tmp t :: r => .shape t :: shapes r
  | _ :: r => shapes r
def dstR : Option Nat → List Loc
  | some d => [.shape d]
  | none => []
def dstW : Option Nat → List Loc
  | some d => [.whole d]
  | none => []
def boxesP : List CV → List Loc
  | [] => []
  | .ptr s _ :: r => .whole s :: boxesP r
  | _ :: r => boxesP r
def boxes : List CV → List Loc
  | [] => []
  | .ptr s _ :: r => .whole s :: boxes r
  | .fn _ caps :: r => boxesP caps ++ boxes r
  | _ :: r => boxes r
def hasOwner : CV → Bool
  | .own _ _ | .tmpo _ _ | .ref _ _ _ _ => true
  | _ => false
def refs : List CV → List Loc
  | [] => []
  | .ref s _ _ _ :: r => .whole s :: refs r
  | _ :: r => refs r
def ownOp (fr : Fr) : Operand → Bool
  | .tmp t => match fr t with
    | .comp _ cs => cs.any hasOwner
    | _ => false
  | _ => false
def slotsOf (fr : Fr) : List Operand → List Loc
  | [] => []
  | .tmp t :: r => .whole t :: ((match fr t with
    | .comp _ cs => refs cs
    | _ => []) ++ slotsOf fr r)
  | _ :: r => slotsOf fr r
def argBoxes (fr : Fr) : List Operand → List Loc
  | [] => []
  | x :: r => boxes (opd fr x).2 ++ argBoxes fr r
def pureFoot (o : Oper) (xs : List Operand) : FP := some (shapes xs ++ dstR o.dst, dstW o.dst)
def takeFoot (fr : Fr) (o : Oper) (xs : List Operand) : FP :=
  bif xs.any (ownOp fr) then some (slotsOf fr xs ++ dstR o.dst, slotsOf fr xs ++ dstW o.dst) else pureFoot o xs
/-- where an operation looks, and where it writes; 'none': anywhere -/
def foot (X : Env) (E : FuncId → Option Fn) (o : Oper) (fr : Fr) : FP :=
  match o.op with
  | .move x => match x with
    | .tmp t => match fr t with
      | .tup _ => some (.whole t :: dstR o.dst, .whole t :: dstW o.dst)
      | _ => pureFoot o [.tmp t]
    | x => pureFoot o [x]
  | .pick c a b => pureFoot o [c, a, b]
  | .assign x => bif X.dr then takeFoot fr o [x] else bif (opd fr x).2.all isScalar then pureFoot o [x] else none
  | .alloc _ => pureFoot o []
  | .box _ x | .nilCheck x | .unOp _ _ x | .convert _ _ x | .fieldAddr _ x _ | .field _ x _ => pureFoot o [x]
  | .binOp _ _ x y _ | .indexAddr _ x y => pureFoot o [x, y]
  | .buildSlice _ _ ps => pureFoot o (ps.toList.map fun p => p.2)
  | .makeSlice _ l m => pureFoot o [l, m]
  | .makeFunc _ _ caps => pureFoot o caps.toList
  | .slice _ x (some l) none none => pureFoot o [x, l]
  | .slice _ x lo (some h) none => pureFoot o (x :: h :: lo.toList)
  | .load t a => match opc fr a with
    | .ptr s c => match X.ti t with
      | some i => some (.shape s :: .cells s c i.ty.cells :: (shapes [a] ++ dstR o.dst), dstW o.dst)
      | none => none
    | _ => pureFoot o [a]
  | .store _ p x => match opc fr p with
    | .ptr s c => bif !ownOp fr x && (opd fr x).2.all isPlain then some (.shape s :: .cells s c (opd fr x).2.length :: shapes [p, x], [.cells s c (opd fr x).2.length]) else bif X.dr then some (slotsOf fr [x] ++ (.whole s :: shapes [p, x]), slotsOf fr [x] ++ [.whole s]) else none
    | _ => none
  | .build _ ps => takeFoot fr o (ps.toList.map fun p => p.2)
  | .extract x i => match x with
    | .tmp t => match fr t with
      | .tup vs => match vs[i]? with
        | some (_, cs) => bif cs.all isPlain then some (.shape t :: .cells t i 1 :: dstR o.dst, dstW o.dst) else some (.shape t :: .cells t i 1 :: dstR o.dst, .cells t i 1 :: dstW o.dst)
        | none => none
      | _ => none
    | _ => none
  | .call c => match c.callee with
    | .builtin .len | .builtin .min | .builtin .max => pureFoot o c.args.toList
    | .builtin .append => takeFoot fr o c.args.toList
    | .value f => match opc fr f with
      | .fn fid caps => match E fid with
        | some F => bif F.box then (match argsOf fr c.args.toList with
            | (false, [.ptr s 0]) :: _ => bif caps.isEmpty then some (.whole s :: (shapes (f :: c.args.toList) ++ dstR o.dst), .whole s :: dstW o.dst) else none
            | _ => none)
          else bif F.muts.isEmpty then some (shapes (f :: c.args.toList) ++ (argBoxes fr c.args.toList ++ (boxes caps ++ dstR o.dst)), dstW o.dst) else none
        | none => none
      | _ => none
    | _ => none
  | _ => none
def gLoc (ops : List Oper) (o : Oper) : List Loc := match o.guard with
  | none => []
  | some (j, _) => match ops[j]? with
    | some oj => dstR oj.dst
    | none => []
def addR (l : List Loc) : FP → FP
  | some (r, w) => some (l ++ r, w)
  | none => none
/-- what an operation waits for, and what that waits for: as bits -/
def maskE : List Edge → List Nat → Nat
  | [], _ => 0
  | e :: r, ms => bif Region.binds .any e then ((1 <<< e.on) ||| ms.getD e.on 0) ||| maskE r ms else maskE r ms
def backs (o : Oper) (i : Nat) : Bool := o.after.toList.all fun e => !Region.binds .any e || e.on.blt i
def apartAll (m : Nat) (fp : FP) : Nat → List FP → Bool
  | _, [] => true
  | i, f :: r => (m.testBit i || fpApart f fp) && apartAll m fp (i + 1) r
noncomputable def runD {R : Type} (X : Env) (E : FuncId → Option Fn) (ops : List Oper) : List Oper → List Nat → List FP → Fr → (Fr → Option R) → Option R
  | [], _, _, fr, K => K fr
  | o :: r, ms, fps, fr, K => bif backs o fps.length then guardK ops o fr
      (fun fr => bif apartAll (maskE o.after.toList ms) (addR (gLoc ops o) (pureFoot o [])) 0 fps then fin X fr o.dst (.comp false [.undef]) fun fr1 => runD X E ops r (ms ++ [maskE o.after.toList ms]) (fps ++ [addR (gLoc ops o) (pureFoot o [])]) fr1 K else none)
      (fun fr => bif apartAll (maskE o.after.toList ms) (addR (gLoc ops o) (foot X E o fr)) 0 fps then stepOp X E o fr fun fr1 => runD X E ops r (ms ++ [maskE o.after.toList ms]) (fps ++ [addR (gLoc ops o) (foot X E o fr)]) fr1 K else none)
    else none
/-! ### Behind a region that draws its order: rows that were landed are owned -/
def isTmp : CV → Bool
  | .tmpo _ _ => true
  | _ => false
def promoK {R : Type} (s : Nat) (fr : Fr) (K : Fr → Option R) : Option R := match fr s with
  | .comp g cs => bif cs.any isTmp then K (upd (dem s fr) s (.comp g (cs.map fun c => dem1 s (toOwn c)))) else K fr
  | .box cs => bif cs.any isTmp then K (upd (dem s fr) s (.box (cs.map fun c => dem1 s (toOwn c)))) else K fr
  | .tup _ => K fr
def promosK {R : Type} : List Oper → Fr → (Fr → Option R) → Option R
  | [], fr, K => K fr
  | o :: r, fr, K => match o.op with
    | .assign _ => match o.dst with
      | some d => promoK d fr fun fr => promosK r fr K
      | none => promosK r fr K
    | .store _ p _ => match opc fr p with
      | .ptr s _ => promoK s fr fun fr => promosK r fr K
      | _ => promosK r fr K
    | _ => promosK r fr K
inductive Ex where | normal | exit (id : Nat) | ret
def nodes : Code → Nat
  | .seq a b => 1 + nodes a + nodes b
  | .cond _ a b => 1 + nodes a + nodes b
  | .block _ b | .loop b | .scope b => 1 + nodes b
  | _ => 1

/-! ### Patterns: how frames and values are told natively -/
inductive FPat where
  | int (k : IntKind) | bool | str
  | lo (t : Ty) | hi (t : Ty) | own (t : Ty) | ref (s c : Nat) (t : Ty)
  | ptr (s c : Nat) | nils | dead | undef
inductive Pat where
  | fl (p : FPat) | rptr (ps : List FPat) | hptr (ps : List FPat) | fn (f : FuncId) (caps : List (List FPat))
@[reducible] def FPat.T : FPat → Type
  | .int _ => Int | .bool => Bool | .str => ByteArray
  | .lo t | .hi t | .own t | .ref _ _ t => List (Den t)
  | _ => Unit
@[reducible] def fpatsT : List FPat → Type
  | [] => Unit
  | p :: r => p.T × fpatsT r
@[reducible] def fpatssT : List (List FPat) → Type
  | [] => Unit
  | p :: r => fpatsT p × fpatssT r
@[reducible] def Pat.T : Pat → Type
  | .fl p => p.T
  | .rptr ps | .hptr ps => fpatsT ps
  | .fn _ pss => fpatssT pss
@[reducible] def patsT : List Pat → Type
  | [] => Unit
  | p :: r => p.T × patsT r
def FPat.enc : (p : FPat) → p.T → CV
  | .int k, n => .int k n | .bool, b => .bool b | .str, s => .str s
  | .lo t, xs => .lo t xs | .hi t, xs => .hi t xs | .own t, xs => .own t xs | .ref s c t, xs => .ref s c t xs
  | .ptr s c, _ => .ptr s c | .nils, _ => .nils | .dead, _ => .dead | .undef, _ => .undef
def fencs : (ps : List FPat) → fpatsT ps → List CV
  | [], _ => []
  | p :: r, x => p.enc x.1 :: fencs r x.2
def fencss : (ps : List (List FPat)) → fpatssT ps → List CV
  | [], _ => []
  | p :: r, x => .rptr (fencs p x.1) :: fencss r x.2
def Pat.enc : (p : Pat) → p.T → CV
  | .fl p, x => p.enc x
  | .rptr ps, x => .rptr (fencs ps x)
  | .hptr ps, x => .hptr (fencs ps x)
  | .fn f pss, x => .fn f (fencss pss x)
def encs : (ps : List Pat) → patsT ps → List CV
  | [], _ => []
  | p :: r, x => p.enc x.1 :: encs r x.2
/-- b: what no one owns yet may come to be owned -/
def FPat.dec (b : Bool) : (p : FPat) → CV → Option p.T
  | .int k, .int j n => if j = k then some n else none
  | .bool, .bool b => some b
  | .str, .str s => some s
  | .lo t, .lo u xs => if h : u = t then some (h ▸ xs) else none
  | .lo _, .nils => some []
  | .hi t, c => listAs t c
  | .own t, .own u xs => if h : u = t then some (h ▸ xs) else none
  | .own t, .tmpo u xs => bif b then (if h : u = t then some (h ▸ xs) else none) else none
  | .own _, .nils => bif b then some [] else none
  | .ref s c t, .ref s' c' u xs => if h : s' = s ∧ c' = c ∧ u = t then some (h.2.2 ▸ xs) else none
  | .ptr x y, .ptr c d => if c = x ∧ d = y then some () else none
  | .nils, .nils => some ()
  | .undef, .undef => some ()
  | .dead, _ => some ()
  | _, _ => none
def fdecs (b : Bool) : (ps : List FPat) → List CV → Option (fpatsT ps)
  | [], [] => some ()
  | p :: r, c :: cs => match p.dec b c with
    | some x => match fdecs b r cs with
      | some y => some (x, y)
      | none => none
    | none => none
  | _, _ => none
def fdecss (b : Bool) : (ps : List (List FPat)) → List CV → Option (fpatssT ps)
  | [], [] => some ()
  | p :: r, .rptr c :: cs => match fdecs b p c with
    | some x => match fdecss b r cs with
      | some y => some (x, y)
      | none => none
    | none => none
  | _, _ => none
def Pat.dec (b : Bool) : (p : Pat) → CV → Option p.T
  | .fl p, c => p.dec b c
  | .rptr ps, .rptr cs => fdecs b ps cs
  | .hptr ps, .hptr cs => fdecs b ps cs
  | .fn f pss, .fn g cs => if g = f then fdecss b pss cs else none
  | _, _ => none
def decs (b : Bool) : (ps : List Pat) → List CV → Option (patsT ps)
  | [], [] => some ()
  | p :: r, c :: cs => match p.dec b c with
    | some x => match decs b r cs with
      | some y => some (x, y)
      | none => none
    | none => none
  | _, _ => none
/-- a slot's pattern: 'none': a box -/
abbrev SPat := Option Bool × List Pat
def decS (b : Bool) (p : SPat) : SV → Option (patsT p.2)
  | .comp g cs => match p.1 with
    | some g' => bif g == g' then decs b p.2 cs else none
    | none => none
  | .box cs => match p.1 with
    | none => decs b p.2 cs
    | some _ => none
  | .tup _ => none
def encS (p : SPat) (x : patsT p.2) : SV := match p.1 with
  | some g => .comp g (encs p.2 x)
  | none => .box (encs p.2 x)
abbrev CutP := List (Nat × SPat)
@[reducible] def cutT : CutP → Type
  | [] => Unit
  | p :: r => patsT p.2.2 × cutT r
/-- does a pattern refer to what slot s owns? -/
def refTo (s : Nat) : CutP → Bool
  | [] => false
  | p :: r => p.2.2.any (fun q => match q with | .fl (.ref s' _ _) => s'.beq s | _ => false) || refTo s r
def readCut (all : CutP) : (c : CutP) → Fr → Option (cutT c)
  | [], _ => some ()
  | p :: r, fr => match decS (!refTo p.1 all) p.2 (fr p.1) with
    | some x => match readCut all r fr with
      | some y => some (x, y)
      | none => none
    | none => none
/-- a cell of a row that a pointer points into -/
def FPat.flat : FPat → Bool
  | .int _ | .bool | .str | .lo _ | .hi _ | .nils | .dead => true
  | _ => false
def Pat.ok (all : CutP) : Pat → Bool
  | .fl (.ptr s _) => match all.lookup s with
    | some (none, _) => true
    | _ => false
  | .fl _ => true
  | .rptr ps | .hptr ps => ps.all FPat.flat
  | .fn _ pss => pss.all fun ps => ps.all FPat.flat
def cutOk (all : CutP) : Bool := all.all fun p => p.2.2.all (Pat.ok all)
def cutFr : (c : CutP) → cutT c → Fr
  | [], _ => fun _ => .dead
  | p :: r, x => upd (cutFr r x.2) p.1 (encS p.2 x.1)
structure Cut (R : Type) where
  pats : CutP
  run : cutT pats → Option R
abbrev Cuts (R : Type) := List (Nat × Cut R)
def jump {R : Type} (c : Cut R) (fr : Fr) : Option R := match readCut c.pats c.pats fr with
  | some x => c.run x
  | none => none
section
variable {R : Type} (X : Env) (E : FuncId → Option Fn) (C : Cuts R)
def blockK (id : Nat) (K : Ex → Fr → Option R) : Ex → Fr → Option R
  | .exit j, fr => bif j.beq id then K .normal fr else K (.exit j) fr
  | e, fr => K e fr
def loopK (p : Nat) (K : Ex → Fr → Option R) : Ex → Fr → Option R
  | .normal, fr => match C.lookup p with
    | some c => jump c fr
    | none => none
  | e, fr => K e fr
def seqK (next : Fr → Option R) (K : Ex → Fr → Option R) (p : Nat) : Ex → Fr → Option R
  | .normal, fr => match C.lookup p with
    | some c => jump c fr
    | none => next fr
  | e, fr => K e fr
noncomputable def den : Code → Nat → Fr → (Ex → Fr → Option R) → Option R
  | .skip, _, fr, K => K .normal fr
  | .region _ ops draw, _, fr, K => bif draw then runD { X with dr := true } E ops.toList ops.toList [] [] fr (fun fr => promosK ops.toList fr (K .normal)) else runOps X E ops.toList ops.toList fr (K .normal)
  | .seq a b, p, fr, K => den a (p + 1) fr (seqK C (fun fr => den b (p + 1 + nodes a) fr K) K p)
  | .cond c a b, p, fr, K => match opc fr c with
    | .bool q => if q = true then den a (p + 1) fr K else den b (p + 1 + nodes a) fr K
    | _ => none
  | .block id b, p, fr, K => den b (p + 1) fr (blockK id K)
  | .loop _, p, fr, _ => match C.lookup p with
    | some c => jump c fr
    | none => none
  | .exit id, _, fr, K => K (.exit id) fr
  | .ret, _, fr, K => K .ret fr
  | _, _, _, _ => none
noncomputable def denAt : Code → Nat → Nat → (Ex → Fr → Option R) → Fr → Option R
  | .seq a b, p, q, K => bif q.beq p then fun fr => den X E C b (p + 1 + nodes a) fr K
    else bif q.blt (p + 1 + nodes a) then denAt a (p + 1) q (seqK C (fun fr => den X E C b (p + 1 + nodes a) fr K) K p) else denAt b (p + 1 + nodes a) q K
  | .cond _ a b, p, q, K => bif q.blt (p + 1 + nodes a) then denAt a (p + 1) q K else denAt b (p + 1 + nodes a) q K
  | .block id b, p, q, K => denAt b (p + 1) q (blockK id K)
  | .loop b, p, q, K => bif q.beq p then fun fr => den X E C b (p + 1) fr (loopK C p K) else denAt b (p + 1) q (loopK C p K)
  | _, _, _, _ => fun _ => none
end
/-! ### A function -/
def resOne (X : Env) (fr : Fr) : ResultVar → Option (Comp × Fr)
  | .tmp t => match fr t with
    | .comp _ _ => some (takeOpd fr (.tmp t))
    | _ => none
  | .cell a t => match fr a, X.ti t with
    | .box cs, some i => bif cs.length.beq i.ty.cells then match takeSlot fr a cs.length 1 with
      | (ws, fr1) => some ((i.agg, ws), fr1)
      else none
    | _, _ => none
def resAll (X : Env) (fr : Fr) : List ResultVar → Option (List Comp × Fr)
  | [] => some ([], fr)
  | r :: rs => match resOne X fr r with
    | some (c, fr1) => match resAll X fr1 rs with
      | some (l, fr2) => some (c :: l, fr2)
      | none => none
    | none => none
/-- the cells of the arguments that were written -/
def outsOf (fr : Fr) : List (Nat × Nat) → Option (List CV)
  | [] => some []
  | (j, n) :: r => match fr j, outsOf fr r with
    | .comp _ cs, some l => bif cs.length.beq n then some (cs ++ l) else none
    | _, _ => none
abbrev CompPs := List (Bool × List Pat)
@[reducible] def compT : CompPs → Type
  | [] => Unit
  | p :: r => patsT p.2 × compT r
def decC : (ps : CompPs) → List Comp → Option (compT ps)
  | [], [] => some ()
  | p :: r, c :: cs => bif p.1 == c.1 then match decs true p.2 c.2 with
    | some x => match decC r cs with
      | some y => some (x, y)
      | none => none
    | none => none
    else none
  | _, _ => none
def encC : (ps : CompPs) → compT ps → List Comp
  | [], _ => []
  | p :: r, x => (p.1, encs p.2 x.1) :: encC r x.2
def endK {R : Type} (X : Env) (f : Func) (outs : List (Nat × Nat)) (dec : List Comp → Option R) : Ex → Fr → Option R
  | .exit _, _ => none
  | _, fr => match resAll X fr f.results.toList with
    | some (l, fr1) => bif outs.isEmpty then dec l else match outsOf fr1 outs with
      | some o => dec (l ++ [(false, o)])
      | none => none
    | none => none
def argFr : Nat → List Comp → Fr
  | _, [] => fun _ => .dead
  | i, (g, cs) :: r => upd (argFr (i + 1) r) i (.comp g cs)
/-- n: how many are given; pc: what they look like -/
def mkFn (n : Nat) (pc : CutP) (pr : CompPs) (muts : List Nat) {N : Type} (h : N → compT pr) (F : cutT pc → Option N) : Fn where
  muts := muts
  run := fun args K => bif args.length.beq n then match readCut pc pc (argFr 0 args) with
    | some x => (F x).bind fun y => K (encC pr (h y))
    | none => none
    else none
  nat := by
    intro R args K
    cases args.length.beq n
    · rfl
    cases readCut pc pc (argFr 0 args) with
    | none => rfl
    | some x => cases hF : F x <;> simp [hF]
/-- a function whose first argument points to a box that it writes -/
def boxFr (cs : List CV) (rest : List Comp) : Fr := upd (argFr 1 rest) 0 (.box cs)
def mkFnB (n : Nat) (pc : CutP) (pr : CompPs) (bp : List FPat) {N : Type} (h : N → compT pr × fpatsT bp) (F : cutT pc → Option N) : Fn where
  muts := []
  box := true
  run := fun args K => match args with
    | (false, [.mbox cs]) :: rest => bif rest.length.beq n then match readCut pc pc (boxFr cs rest) with
        | some x => (F x).bind fun y => K (encC pr (h y).1 ++ [(false, [.mbox (fencs bp (h y).2)])])
        | none => none
      else none
    | _ => none
  nat := by
    intro R args K
    match args with
    | (false, [.mbox cs]) :: rest =>
      simp only
      cases rest.length.beq n
      · rfl
      cases readCut pc pc (boxFr cs rest) with
      | none => rfl
      | some x => cases hF : F x <;> simp [hF]
    | [] => rfl
    | (true, _) :: _ => rfl
    | (false, []) :: _ => rfl
    | (false, c :: d :: r) :: _ => cases c <;> rfl
    | (false, [.dead]) :: _ => rfl
    | (false, [.undef]) :: _ => rfl
    | (false, [.int _ _]) :: _ => rfl
    | (false, [.bool _]) :: _ => rfl
    | (false, [.str _]) :: _ => rfl
    | (false, [.nils]) :: _ => rfl
    | (false, [.lo _ _]) :: _ => rfl
    | (false, [.hi _ _]) :: _ => rfl
    | (false, [.own _ _]) :: _ => rfl
    | (false, [.tmpo _ _]) :: _ => rfl
    | (false, [.ref _ _ _ _]) :: _ => rfl
    | (false, [.ptr _ _]) :: _ => rfl
    | (false, [.rptr _]) :: _ => rfl
    | (false, [.hptr _]) :: _ => rfl
    | (false, [.eptr _ _ _ _ _ _]) :: _ => rfl
    | (false, [.fn _ _]) :: _ => rfl
/-- a function that returns a pointer to a new box -/
def mkFnR (n : Nat) (pc : CutP) (bp : List FPat) {N : Type} (h : N → fpatsT bp) (F : cutT pc → Option N) : Fn where
  muts := []
  run := fun args K => bif args.length.beq n then match readCut pc pc (argFr 0 args) with
    | some x => (F x).bind fun y => K [(false, [.mbox (fencs bp (h y))])]
    | none => none
    else none
  nat := by
    intro R args K
    cases args.length.beq n
    · rfl
    cases readCut pc pc (argFr 0 args) with
    | none => rfl
    | some x => cases hF : F x <;> simp [hF]
def FPat.boxy : FPat → Bool
  | .int _ | .bool | .str | .lo _ | .hi _ | .nils | .dead => true
  | _ => false
def endB {N : Type} (X : Env) (f : Func) (pr : CompPs) (bp : List FPat) (d : compT pr × fpatsT bp → N) : Ex → Fr → Option N
  | .exit _, _ => none
  | _, fr => match resAll X fr f.results.toList with
    | some (l, fr1) => match decC pr l, fr1 0 with
      | some x, .box cs => match fdecs true bp cs with
        | some y => some (d (x, y))
        | none => none
      | _, _ => none
    | none => none
def endR {N : Type} (f : Func) (bp : List FPat) (d : fpatsT bp → N) : Ex → Fr → Option N
  | .exit _, _ => none
  | _, fr => match f.results.toList with
    | [.tmp t] => match opc fr (.tmp t) with
      | .ptr s 0 => match fr s with
        | .box cs => match fdecs true bp cs with
          | some y => some (d y)
          | none => none
        | _ => none
      | _ => none
    | _ => none
/-- the answer of a function, natively -/
def decN (pr : CompPs) {N : Type} (g : compT pr → N) (l : List Comp) : Option N := match decC pr l with
  | some y => some (g y)
  | none => none
def bodyOf (f : Func) : Code := f.body.getD .skip
def keepOf (outs : List (Nat × Nat)) : List Nat := outs.map fun p => p.1
noncomputable def denFn {R : Type} (X : Env) (E : FuncId → Option Fn) (C : Cuts R) (f : Func) (outs : List (Nat × Nat)) (pc : CutP) (x : cutT pc) (dec : List Comp → Option R) : Option R :=
  den { X with n := f.ntmps, keep := keepOf outs } E C (bodyOf f) 0 (cutFr pc x) (endK { X with n := f.ntmps, keep := keepOf outs } f outs dec)
noncomputable def denFnB {N : Type} (X : Env) (E : FuncId → Option Fn) (C : Cuts N) (f : Func) (pr : CompPs) (bp : List FPat) (pc : CutP) (x : cutT pc) (d : compT pr × fpatsT bp → N) : Option N :=
  den { X with n := f.ntmps, keep := [0] } E C (bodyOf f) 0 (cutFr pc x) (endB { X with n := f.ntmps, keep := [0] } f pr bp d)
noncomputable def denFnR {N : Type} (X : Env) (E : FuncId → Option Fn) (C : Cuts N) (f : Func) (bp : List FPat) (pc : CutP) (x : cutT pc) (d : fpatsT bp → N) : Option N :=
  den { X with n := f.ntmps, keep := [] } E C (bodyOf f) 0 (cutFr pc x) (endR f bp d)
end Go.Rv

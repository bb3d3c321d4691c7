/- What ties the plain values of 'den' to the machine's memory. -/
import Derived.Test.YtlkmjldhhoopcaaRvDef
import Derived.Deep.MidRow
import Derived.Laws.OwnMore
import Derived.Laws.MakeOwn
import Derived.Laws.Small
import Derived.Laws.StructEq
namespace Go.Rv
set_option linter.unusedSimpArgs false
set_option linter.unusedVariables false

/-! ### Reading -/
def rep (w : World) (S : Nat → Nat → Prop) : (t : Ty) → Den t → List Value → Prop
  | .int k, n, cs => cs = [.int k n]
  | .bool, b, cs => cs = [.bool b]
  | .str, s, cs => cs = [.string s]
  | .pair a b, x, cs => ∃ c d, cs = c ++ d ∧ rep w S a x.1 c ∧ rep w S b x.2 d
  | .sl t, xs, cs => ∃ A cap, cs = [.slice A xs.length cap] ∧ xs.length ≤ cap ∧ ∀ i x, xs[i]? = some x → ∃ a ecs, A = some a ∧ a.spot = none ∧ rep w S t x ecs ∧
      ∀ j u, ecs[j]? = some u → S a.block (a.off + (i * t.cells + j)) ∧ w.cell? ⟨a.block, a.off + (i * t.cells + j), none⟩ = some u
abbrev RS (w : World) (S : Nat → Nat → Prop) (t : Ty) (xs : List (Den t)) (v : Value) : Prop := rep w S (.sl t) xs [v]
theorem rep_length {w : World} {S : Nat → Nat → Prop} : ∀ {t : Ty} {x : Den t} {cs : List Value}, rep w S t x cs → cs.length = t.cells
  | .int _, _, _, h => by simp only [rep] at h; subst h; rfl
  | .bool, _, _, h => by simp only [rep] at h; subst h; rfl
  | .str, _, _, h => by simp only [rep] at h; subst h; rfl
  | .pair a b, _, _, h => by
    simp only [rep] at h
    obtain ⟨c, d, rfl, h1, h2⟩ := h
    simp [Ty.cells, rep_length h1, rep_length h2]
  | .sl _, _, _, h => by simp only [rep] at h; obtain ⟨A, cap, rfl, _⟩ := h; rfl
theorem rep_one {w : World} {S : Nat → Nat → Prop} : ∀ {t : Ty} {x : Den t} {cs : List Value}, rep w S t x cs → ∀ u ∈ cs, u.oneCell' = true
  | .int _, _, _, h => by simp only [rep] at h; subst h; simp [Value.oneCell']
  | .bool, _, _, h => by simp only [rep] at h; subst h; simp [Value.oneCell']
  | .str, _, _, h => by simp only [rep] at h; subst h; simp [Value.oneCell']
  | .pair a b, _, _, h => by
    simp only [rep] at h
    obtain ⟨c, d, rfl, h1, h2⟩ := h
    intro u hu
    rcases List.mem_append.1 hu with hu | hu
    · exact rep_one h1 u hu
    · exact rep_one h2 u hu
  | .sl _, _, _, h => by simp only [rep] at h; obtain ⟨A, cap, rfl, _⟩ := h; simp [Value.oneCell']
theorem rep_mono {w w' : World} {S S' : Nat → Nat → Prop} (hs : ∀ b o, S b o → S' b o ∧ w'.cell? ⟨b, o, none⟩ = w.cell? ⟨b, o, none⟩) :
    ∀ {t : Ty} {x : Den t} {cs : List Value}, rep w S t x cs → rep w' S' t x cs
  | .int _, _, _, h => h
  | .bool, _, _, h => h
  | .str, _, _, h => h
  | .pair a b, _, _, h => by
    simp only [rep] at h ⊢
    obtain ⟨c, d, rfl, h1, h2⟩ := h
    exact ⟨c, d, rfl, rep_mono hs h1, rep_mono hs h2⟩
  | .sl t, _, _, h => by
    simp only [rep] at h ⊢
    obtain ⟨A, cap, rfl, hc, h⟩ := h
    refine ⟨A, cap, rfl, hc, fun i x hx => ?_⟩
    obtain ⟨a, ecs, hA, hsp, hr, hj⟩ := h i x hx
    exact ⟨a, ecs, hA, hsp, rep_mono hs hr, fun j u hu => ⟨(hs _ _ (hj j u hu).1).1, by rw [(hs _ _ (hj j u hu).1).2]; exact (hj j u hu).2⟩⟩
theorem rep_flat {w w' : World} {S S' : Nat → Nat → Prop} : ∀ {t : Ty} {x : Den t} {cs : List Value}, t.flat = true → rep w S t x cs → rep w' S' t x cs
  | .int _, _, _, _, h => h
  | .bool, _, _, _, h => h
  | .str, _, _, _, h => h
  | .pair a b, _, _, hf, h => by
    simp only [Ty.flat, Bool.and_eq_true] at hf
    simp only [rep] at h ⊢
    obtain ⟨c, d, rfl, h1, h2⟩ := h
    exact ⟨c, d, rfl, rep_flat hf.1 h1, rep_flat hf.2 h2⟩
  | .sl t, _, _, hf, _ => by simp [Ty.flat] at hf

/-! ### The ghost, and what a cell means -/
inductive Place where
  | at (s i c : Nat) | air (j : Nat)
  deriving DecidableEq
/-- B: the blocks when the call began; M: which of them it may write; Z: cells that stay for good; S: cells that stay until a store into elements; O: who owns a block; H: the slice value of an owner; X: a box's block. -/
structure Gh where
  B : Nat
  M : Nat → Prop
  Z : Nat → Nat → Prop
  S : Nat → Nat → Prop
  O : Nat → Option Place
  H : Nat → Nat → Option Value
  X : Nat → Option Nat
def Gh.L (g : Gh) (b : Nat) : Prop := b < g.B ∧ ¬ g.M b
def relF (w : World) (g : Gh) : CV → Value → Prop
  | .dead, v => v.oneCell' = true
  | .undef, _ => False
  | .int k n, v => v = .int k n
  | .bool b, v => v = .bool b
  | .str s, v => v = .string s
  | .nils, v => v = .slice none 0 0
  | .lo t xs, v => RS w g.Z t xs v
  | .hi t xs, v => RS w g.S t xs v
  | _, _ => False
def PL (w : World) (g : Gh) (Q : Nat → Nat → Prop) (a : Addr) (cs : List CV) : Prop :=
  a.spot = none ∧ ∀ j c, cs[j]? = some c → Q a.block (a.off + j) ∧ ∃ u, w.cell? ⟨a.block, a.off + j, none⟩ = some u ∧ relF w g c u
/-- a row of the owner at place p -/
def OwnR (w : World) (g : Gh) (p : Place) (t : Ty) (xs : List (Den t)) (v : Value) : Prop :=
  (v = .slice none 0 0 ∧ xs = []) ∨
  ∃ b cap cur e, v = .slice (some ⟨b, 0, none⟩) xs.length cap ∧ g.O b = some p ∧ w.heap[b]? = some (.cells cur e (0, 0)) ∧ xs.length ≤ cap ∧ cap ≤ maxLen ∧ cur.size = cap * t.cells ∧
    (∀ i x, xs[i]? = some x → ∃ ecs, rep w g.S t x ecs ∧ ∀ j u, ecs[j]? = some u → cur[i * t.cells + j]? = some u) ∧ (∀ o, g.S b o ↔ o < xs.length * t.cells)
def relP (w : World) (g : Gh) (bx : Nat → Bool) : CV → Value → Prop
  | .ptr s c, v => bx s = true ∧ ∃ b, g.X s = some b ∧ v = .pointer (some ⟨b, c, none⟩)
  | .rptr cs, v => ∃ a, v = .pointer (some a) ∧ PL w g (fun b _ => g.L b) a cs
  | .hptr cs, v => ∃ a, v = .pointer (some a) ∧ PL w g g.S a cs
  | .eptr s c t i k cs, v => ∃ a, v = .pointer (some a) ∧ PL w g g.S a cs ∧
      ∀ u, g.H s c = some u → ∃ n cap, u = .slice (some ⟨a.block, 0, none⟩) n cap ∧ 0 ≤ i ∧ i < (n : Int) ∧ a.off = i.toNat * t.cells + k
  | c, v => relF w g c v
def rel (w : World) (g : Gh) (bx : Nat → Bool) (p : Place) : CV → Value → Prop
  | .own t xs, v => OwnR w g p t xs v ∧ match p with | .at s i c => i = 0 ∧ g.H s c = some v | .air _ => False
  | .tmpo t xs, v => OwnR w g p t xs v ∧ match p with | .at s _ c => g.H s c = none | .air _ => True
  | .ref s c t xs, v => RS w g.S t xs v ∧ ∀ u, g.H s c = some u → u = v
  | .fn f caps, v => ∃ cs : List Value, v = .func (.func f) #[] cs.toArray ∧ cs.length = caps.length ∧ ∀ (j : Nat) (c : CV), caps[j]? = some c → ∃ u : Value, cs[j]? = some u ∧ relP w g bx c u
  | c, v => relP w g bx c v

theorem relF_one {w : World} {g : Gh} : ∀ {c : CV} {v : Value}, relF w g c v → v.oneCell' = true
  | .dead, _, h => h
  | .int _ _, _, h => by simp only [relF] at h; subst h; rfl
  | .bool _, _, h => by simp only [relF] at h; subst h; rfl
  | .str _, _, h => by simp only [relF] at h; subst h; rfl
  | .nils, _, h => by simp only [relF] at h; subst h; rfl
  | .lo _ _, v, h => rep_one h v (by simp)
  | .hi _ _, v, h => rep_one h v (by simp)
theorem relP_one {w : World} {g : Gh} {bx : Nat → Bool} : ∀ {c : CV} {v : Value}, relP w g bx c v → v.oneCell' = true
  | .undef, _, h => h.elim
  | .mbox _, _, h => h.elim
  | .own _ _, _, h => h.elim
  | .tmpo _ _, _, h => h.elim
  | .ref _ _ _ _, _, h => h.elim
  | .fn _ _, _, h => h.elim
  | .ptr _ _, _, h => by obtain ⟨_, _, _, rfl⟩ := h; rfl
  | .rptr _, _, h => by obtain ⟨_, rfl, _⟩ := h; rfl
  | .hptr _, _, h => by obtain ⟨_, rfl, _⟩ := h; rfl
  | .eptr _ _ _ _ _ _, _, h => by obtain ⟨_, rfl, _⟩ := h; rfl
  | .dead, _, h => relF_one (w := w) (g := g) (c := .dead) h
  | .int k n, _, h => relF_one (w := w) (g := g) (c := .int k n) h
  | .bool b, _, h => relF_one (w := w) (g := g) (c := .bool b) h
  | .str s, _, h => relF_one (w := w) (g := g) (c := .str s) h
  | .nils, _, h => relF_one (w := w) (g := g) (c := .nils) h
  | .lo t xs, _, h => relF_one (w := w) (g := g) (c := .lo t xs) h
  | .hi t xs, _, h => relF_one (w := w) (g := g) (c := .hi t xs) h
theorem OwnR_one {w : World} {g : Gh} {p : Place} {t : Ty} {xs : List (Den t)} {v : Value} (h : OwnR w g p t xs v) : v.oneCell' = true := by
  rcases h with ⟨rfl, _⟩ | ⟨_, _, _, _, rfl, _⟩ <;> rfl
theorem rel_one {w : World} {g : Gh} {bx : Nat → Bool} {p : Place} : ∀ {c : CV} {v : Value}, rel w g bx p c v → v.oneCell' = true
  | .undef, _, h => h.elim
  | .mbox _, _, h => h.elim
  | .own _ _, _, h => OwnR_one h.1
  | .tmpo _ _, _, h => OwnR_one h.1
  | .ref _ _ _ _, v, h => rep_one h.1 v (by simp)
  | .fn _ _, _, h => by obtain ⟨_, rfl, _⟩ := h; rfl
  | .ptr s c, _, h => relP_one (w := w) (g := g) (bx := bx) (c := .ptr s c) h
  | .rptr cs, _, h => relP_one (w := w) (g := g) (bx := bx) (c := .rptr cs) h
  | .hptr cs, _, h => relP_one (w := w) (g := g) (bx := bx) (c := .hptr cs) h
  | .eptr s c t i k cs, _, h => relP_one (w := w) (g := g) (bx := bx) (c := .eptr s c t i k cs) h
  | .dead, _, h => relF_one (w := w) (g := g) (c := .dead) h
  | .int k n, _, h => relF_one (w := w) (g := g) (c := .int k n) h
  | .bool b, _, h => relF_one (w := w) (g := g) (c := .bool b) h
  | .str s, _, h => relF_one (w := w) (g := g) (c := .str s) h
  | .nils, _, h => relF_one (w := w) (g := g) (c := .nils) h
  | .lo t xs, _, h => relF_one (w := w) (g := g) (c := .lo t xs) h
  | .hi t xs, _, h => relF_one (w := w) (g := g) (c := .hi t xs) h
/-- what an owner has, can be read -/
theorem OwnR.reads {w : World} {g : Gh} {p : Place} {t : Ty} {xs : List (Den t)} {v : Value} (h : OwnR w g p t xs v) : RS w g.S t xs v := by
  rcases h with ⟨rfl, rfl⟩ | ⟨b, cap, cur, e, rfl, hO, hb, h1, h2, hs, hx, hS⟩
  · exact ⟨none, 0, rfl, Nat.le_refl _, fun i x hx => by simp at hx⟩
  · refine ⟨some ⟨b, 0, none⟩, cap, rfl, h1, fun i x hi => ?_⟩
    obtain ⟨ecs, hr, hj⟩ := hx i x hi
    refine ⟨_, ecs, rfl, rfl, hr, fun j u hu => ?_⟩
    have hlt : i < xs.length := (List.getElem?_eq_some_iff.1 hi).1
    have hjl : j < ecs.length := (List.getElem?_eq_some_iff.1 hu).1
    rw [rep_length hr] at hjl
    have hm : (i + 1) * t.cells ≤ xs.length * t.cells := Nat.mul_le_mul_right _ hlt
    rw [Nat.add_mul] at hm
    simp only [Nat.zero_add]
    exact ⟨(hS _).2 (by omega), by rw [cell_of_row w b _ cur e (0, 0) hb]; exact hj j u hu⟩

/-! ### Slots -/
def cellsRel (w : World) (g : Gh) (bx : Nat → Bool) (s i : Nat) (cs : List CV) (vs : List Value) : Prop :=
  vs.length = cs.length ∧ ∀ j c, cs[j]? = some c → ∃ u, vs[j]? = some u ∧ rel w g bx (.at s i (j + 1)) c u
/-- a comp: its cells as they lie in the value -/
def CRel (w : World) (g : Gh) (bx : Nat → Bool) (s i : Nat) (p : Comp) (v : Value) : Prop :=
  match p with
  | (true, cs) => ∃ vs : List Value, v = .agg vs.toArray ∧ cellsRel w g bx s i cs vs
  | (false, cs) => ∃ c, cs = [c] ∧ (c = .dead ∨ c = .undef ∧ v = undef ∨ rel w g bx (.at s i 1) c v)
def BoxR (w : World) (g : Gh) (bx : Nat → Bool) (s : Nat) (cs : List CV) : Prop :=
  ∃ b arr ty, g.X s = some b ∧ g.O b = some (.at s 0 0) ∧ w.heap[b]? = some (.cells arr ty (0, 0)) ∧ cellsRel w g bx s 0 cs arr.toList
def SRel (w : World) (g : Gh) (bx : Nat → Bool) (s : Nat) (x : SV) (v : Value) : Prop :=
  match x with
  | .comp b cs => CRel w g bx s 0 (b, cs) v
  | .tup vs => ∃ us : List Value, v = .tuple us.toArray ∧ us.length = vs.length ∧ ∀ i p, vs[i]? = some p → ∃ u, us[i]? = some u ∧ CRel w g bx s i p u
  | .box cs => BoxR w g bx s cs ∧ ∃ b, g.X s = some b ∧ v = .pointer (some ⟨b, 0, none⟩)
def isBox (fr : Fr) (s : Nat) : Bool := !notBox (fr s)
structure St where
  B : Nat
  M : Nat → Prop
  Z : Nat → Nat → Prop
  n : Nat
  keep : List Nat
  args : Array Value
  w0 : World
/-- The frame and the memory are as told. -/
structure Ok (st : St) (g : Gh) (fr : Fr) (a : Act) (w : World) : Prop where
  eB : g.B = st.B
  eM : g.M = st.M
  eZ : g.Z = st.Z
  size : a.tmps.size = st.n
  defers : a.defers = []
  slot : ∀ s, SRel w g (isBox fr) s (fr s) (a.tmps.getD s undef)
  keep : ∀ j ∈ st.keep, a.tmps[j]? = st.args[j]?
  os : w.os = st.w0.os
  tape : w.tape = st.w0.tape
  output : w.output = st.w0.output
  heap : st.B ≤ w.heap.size
  old : ∀ b, b < st.B → ¬ st.M b → w.heap[b]? = st.w0.heap[b]?
  own : ∀ b p, g.O b = some p → b < w.heap.size ∧ (b < st.B → st.M b)
  stab : ∀ b o, g.S b o → b < w.heap.size
  boxS : ∀ b s, g.O b = some (.at s 0 0) → ∀ o, ¬ g.S b o
  zs : ∀ b o, st.Z b o → g.S b o ∧ b < st.B ∧ ¬ st.M b
  sz : ∀ b o, b < st.B → ¬ st.M b → g.S b o → st.Z b o
  hh : ∀ s c u, g.H s c = some u → u = .slice none 0 0 ∨ ∃ b n cap, u = .slice (some ⟨b, 0, none⟩) n cap
end Go.Rv

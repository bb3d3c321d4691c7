/- Courses and ways home: plain words. No program. -/
import Derived.Test.YtigkpbnhdkdliaaRvM6
namespace Go.Rv.St
set_option linter.unusedVariables false
set_option linter.unusedSimpArgs false
/-- a course: offset, heading, turn -/
abbrev C := Int × Int × Int
abbrev Mp := List (C × Int)
def inn (lo hi x : Int) : Bool := decide (lo ≤ x) && decide (x ≤ hi)
theorem inn_iff {lo hi x : Int} : inn lo hi x = true ↔ lo ≤ x ∧ x ≤ hi := by simp [inn]
theorem inn_no {lo hi x : Int} : inn lo hi x = false ↔ ¬(lo ≤ x ∧ x ≤ hi) := by rw [← Bool.not_eq_true, inn_iff]
def ins (M : Int) (c : C) : Bool := inn (-40) 40 c.1 && (inn (-10) 10 c.2.1 && inn (-M) M c.2.2)
theorem ins_iff {M : Int} {c : C} : ins M c = true ↔ (-40 ≤ c.1 ∧ c.1 ≤ 40) ∧ (-10 ≤ c.2.1 ∧ c.2.1 ≤ 10) ∧ (-M ≤ c.2.2 ∧ c.2.2 ≤ M) := by simp only [ins, Bool.and_eq_true, inn_iff]
structure Lim (M H : Int) : Prop where
  a : 1 ≤ M
  b : M ≤ 3
  c : 1 ≤ H
  d : H ≤ 6
theorem ins3 {M H : Int} (h : Lim M H) {c : C} (hc : ins M c = true) : ins 3 c = true := by
  have := h.b
  rw [ins_iff] at hc ⊢
  omega
def limB (M H : Int) : Bool := inn 1 3 M && inn 1 6 H
theorem lim_iff {M H : Int} : limB M H = true ↔ Lim M H := by
  simp only [limB, Bool.and_eq_true, inn_iff]
  exact ⟨fun h => ⟨h.1.1, h.1.2, h.2.1, h.2.2⟩, fun h => ⟨⟨h.a, h.b⟩, h.c, h.d⟩⟩
def stp (c : C) (t : Int) : C := (c.1 + c.2.1, c.2.1 + t, t)
/-- may the turn be taken? -/
def nxo (M H : Int) (c : C) (t : Int) : Bool := inn (-M) M t && (inn (-H) H (t - c.2.2) && ins M (stp c t))
theorem nxo_ins {M H : Int} {c : C} {t : Int} (h : nxo M H c t = true) : ins M (stp c t) = true := by
  simp only [nxo, Bool.and_eq_true] at h
  exact h.2.2
/-- n numbers from x on -/
def from_ (x : Int) : Nat → List Int
  | 0 => []
  | n + 1 => x :: from_ (x + 1) n
def tn (M : Int) : List Int := from_ (-M) (2 * M + 1).toNat
theorem from_mem {x : Int} {n : Nat} {y : Int} : y ∈ from_ x n ↔ x ≤ y ∧ y < x + n := by
  induction n generalizing x with
  | zero => simp only [from_, List.not_mem_nil, false_iff]; omega
  | succ n ih =>
    simp only [from_, List.mem_cons, ih]
    omega
theorem tn_mem {M H : Int} (h : Lim M H) {y : Int} : y ∈ tn M ↔ -M ≤ y ∧ y ≤ M := by
  have := h.a
  unfold tn
  rw [from_mem]
  omega
/-! ### The way back -/
def prev (c : C) (b : Int) : C := (c.1 - (c.2.1 - c.2.2), c.2.1 - c.2.2, b)
def goes (M H : Int) (c : C) (b : Int) : Bool := ins M (prev c b) && inn (-H) H (c.2.2 - b)
abbrev S := Mp × List C
open Classical in
noncomputable def add (M H : Int) (c : C) (n : Int) (s : S) (b : Int) : S :=
  if goes M H c b = true ∧ mget (prev c b) s.1 = none then (s.1 ++ [(prev c b, n)], s.2 ++ [prev c b]) else s
noncomputable def proc (M H : Int) (n : Int) (s : S) (c : C) : S := (tn M).foldl (add M H c n) s
noncomputable def lev (M H : Int) : Nat → S
  | 0 => ([((0, 0, 0), 0)], [(0, 0, 0)])
  | n + 1 => (lev M H n).2.foldl (proc M H ((n : Int) + 1)) ((lev M H n).1, [])
theorem mget_app {K V : Type} {x : K} {a b : List (K × V)} : mget x (a ++ b) = match mget x a with | some y => some y | none => mget x b := by
  induction a with
  | nil => rfl
  | cons p a ih =>
    simp only [List.cons_append, mget]
    by_cases h : p.1 = x
    · simp [h]
    · simp [h, ih]
theorem mget_one {K V : Type} {x y : K} {v : V} : mget x [(y, v)] = none ∨ (x = y ∧ mget x [(y, v)] = some v) := by
  simp only [mget]
  by_cases h : y = x
  · right; simp [h]
  · left; simp [h]
theorem mget_same {K V : Type} {x : K} {v : V} : mget x [(x, v)] = some v := by simp [mget]
theorem mget_mem {K V : Type} {x : K} {v : V} {a : List (K × V)} (h : mget x a = some v) : (x, v) ∈ a := by
  induction a with
  | nil => cases h
  | cons p a ih =>
    simp only [mget] at h
    split at h
    · rename_i e
      cases h
      subst e
      exact List.mem_cons_self
    · exact List.mem_cons_of_mem _ (ih h)
theorem mget_no {K V : Type} {x : K} {a : List (K × V)} (h : mget x a = none) : x ∉ a.map (·.1) := by
  induction a with
  | nil => simp
  | cons p a ih =>
    simp only [mget] at h
    split at h
    · cases h
    · rename_i e
      simp only [List.map_cons, List.mem_cons, not_or]
      exact ⟨fun h' => e h'.symm, ih h⟩
theorem mput_new {K V : Type} {x : K} {y : V} {a : List (K × V)} (h : mget x a = none) : mput x y a = a ++ [(x, y)] := by
  induction a with
  | nil => rfl
  | cons p a ih =>
    simp only [mget] at h
    split at h
    · cases h
    · rename_i e
      simp only [mput, if_neg e, List.cons_append, ih h]
/-- what stands while level n is laid: all keys are inside and apart, all levels are told, what is new has level n -/
structure Inv (M : Int) (n : Int) (s : S) : Prop where
  ins : ∀ p ∈ s.1, ins M p.1 = true
  lv : ∀ p ∈ s.1, 0 ≤ p.2 ∧ p.2 ≤ n
  nodup : (s.1.map (·.1)).Nodup
  new : ∀ c ∈ s.2, mget c s.1 = some n
theorem mget_ins {M n : Int} {s : S} (h : Inv M n s) {c : C} {v : Int} (hc : mget c s.1 = some v) : St.ins M c = true ∧ 0 ≤ v ∧ v ≤ n :=
  ⟨h.ins _ (mget_mem hc), h.lv _ (mget_mem hc)⟩
theorem add_inv {M H n : Int} {s : S} (h : Inv M n s) (hn : 0 ≤ n) (c : C) (b : Int) : Inv M n (add M H c n s b) := by
  unfold add
  split
  case isFalse => exact h
  rename_i hb
  obtain ⟨h1, h2⟩ := hb
  simp only [goes, Bool.and_eq_true] at h1
  refine ⟨fun p hp => ?_, fun p hp => ?_, ?_, fun q hq => ?_⟩
  · rcases List.mem_append.1 hp with hp | hp
    · exact h.ins p hp
    · simp at hp; subst hp; exact h1.1
  · rcases List.mem_append.1 hp with hp | hp
    · exact h.lv p hp
    · simp at hp; subst hp; exact ⟨hn, Int.le_refl _⟩
  · rw [List.map_append, List.nodup_append]
    refine ⟨h.nodup, by simp, fun a ha x hx e => ?_⟩
    simp at hx
    subst hx
    subst e
    exact mget_no h2 ha
  · simp only [mget_app]
    rcases List.mem_append.1 hq with hq | hq
    · rw [h.new q hq]
    · simp at hq
      subst hq
      rw [h2, mget_same]
theorem foldl_inv {α : Type} {P : S → Prop} {f : S → α → S} (hf : ∀ s a, P s → P (f s a)) : ∀ (l : List α) (s : S), P s → P (l.foldl f s)
  | [], _, h => h
  | a :: l, s, h => foldl_inv hf l _ (hf s a h)
theorem proc_inv {M H n : Int} {s : S} (h : Inv M n s) (hn : 0 ≤ n) (c : C) : Inv M n (proc M H n s c) :=
  foldl_inv (P := Inv M n) (fun s b hs => add_inv hs hn c b) _ _ h
theorem next_inv {M n : Int} {s : S} (h : Inv M n s) : Inv M (n + 1) (s.1, []) :=
  ⟨h.ins, fun p hp => by have := h.lv p hp; omega, h.nodup, fun c hc => by cases hc⟩
theorem lev_inv {M H : Int} (h : Lim M H) : ∀ n : Nat, Inv M n (lev M H n)
  | 0 => by
    have := h.a
    refine ⟨fun p hp => ?_, fun p hp => ?_, by simp [lev], fun c hc => ?_⟩
    · simp [lev] at hp; subst hp; rw [ins_iff]; refine ⟨?_, ?_, ?_, ?_⟩ <;> simp <;> omega
    · simp [lev] at hp; subst hp; simp
    · simp [lev] at hc; subst hc; simp [lev, mget]
  | n + 1 => foldl_inv (P := Inv M ((n + 1 : Nat) : Int)) (fun s c hs => proc_inv hs (by omega) c) _ _ (next_inv (lev_inv h n))
/-! ### Numbers of courses -/
def spot (c : C) : Int := ((c.1 + 40) * 21 + c.2.1 + 10) * 7 + c.2.2 + 3
theorem spot_lt {c : C} (h : ins 3 c = true) : 0 ≤ spot c ∧ spot c < 11907 := by
  rw [ins_iff] at h
  unfold spot
  omega
theorem spot_inj {c d : C} (h : ins 3 c = true) (h' : ins 3 d = true) (e : spot c = spot d) : c = d := by
  rw [ins_iff] at h h'
  unfold spot at e
  obtain ⟨c1, c2, c3⟩ := c
  obtain ⟨d1, d2, d3⟩ := d
  simp only at *
  have e1 : c1 = d1 := by omega
  subst e1
  have e2 : c2 = d2 := by omega
  subst e2
  have e3 : c3 = d3 := by omega
  subst e3
  rfl
theorem nodup_le : ∀ (N : Nat) (l : List Nat), l.Nodup → (∀ x ∈ l, x < N) → l.length ≤ N
  | 0, l, _, h => by
    cases l with
    | nil => simp
    | cons x l => exact absurd (h x List.mem_cons_self) (by omega)
  | N + 1, l, hn, h => by
    have := nodup_le N (l.erase N) (hn.erase N) fun x hx => by
      have h1 := h x (List.mem_of_mem_erase hx)
      have h2 : x ≠ N := fun e => by subst e; exact absurd hx hn.not_mem_erase
      omega
    by_cases hm : N ∈ l
    · rw [List.length_erase_of_mem hm] at this; omega
    · rw [List.erase_of_not_mem hm] at this; omega
theorem inv_len {M H n : Int} (hL : Lim M H) {s : S} (h : Inv M n s) : s.1.length ≤ 11907 := by
  have e : (s.1.map fun p => (spot p.1).toNat).length = s.1.length := by simp
  rw [← e]
  refine nodup_le _ _ ?_ ?_
  · have : s.1.map (fun p => (spot p.1).toNat) = (s.1.map (·.1)).map (fun c => (spot c).toNat) := by simp
    rw [this]
    refine List.pairwise_map.2 (List.Pairwise.imp_of_mem ?_ h.nodup)
    intro a b ha hb hab e
    obtain ⟨p, hp, rfl⟩ := List.mem_map.1 ha
    obtain ⟨q, hq, rfl⟩ := List.mem_map.1 hb
    have i1 := ins3 hL (h.ins p hp)
    have i2 := ins3 hL (h.ins q hq)
    have := spot_lt i1
    have := spot_lt i2
    exact hab (spot_inj i1 i2 (by omega))
  · intro x hx
    obtain ⟨p, hp, rfl⟩ := List.mem_map.1 hx
    have := spot_lt (ins3 hL (h.ins p hp))
    omega
theorem new_len {M H n : Int} (hL : Lim M H) {s : S} (h : Inv M n s) (hs : ∃ pre, s.1.map (·.1) = pre ++ s.2) : s.2.length ≤ 11907 := by
  obtain ⟨pre, e⟩ := hs
  have := inv_len hL h
  have e := congrArg List.length e
  simp at e
  omega
theorem add_suf {M H n : Int} (c : C) {pre : List C} {s : S} (b : Int) (h : s.1.map (·.1) = pre ++ s.2) : (add M H c n s b).1.map (·.1) = pre ++ (add M H c n s b).2 := by
  unfold add
  split
  · simp [h]
  · exact h
theorem proc_suf {M H n : Int} (c : C) {pre : List C} {s : S} (h : s.1.map (·.1) = pre ++ s.2) : (proc M H n s c).1.map (·.1) = pre ++ (proc M H n s c).2 :=
  foldl_inv (P := fun s => s.1.map (·.1) = pre ++ s.2) (fun s b hs => add_suf c b hs) _ _ h
theorem lev_suf {M H : Int} : ∀ n : Nat, ∃ pre, (lev M H n).1.map (·.1) = pre ++ (lev M H n).2
  | 0 => ⟨[], rfl⟩
  | n + 1 => ⟨(lev M H n).1.map (·.1), foldl_inv (P := fun s => s.1.map (·.1) = (lev M H n).1.map (·.1) ++ s.2) (f := proc M H ((n : Int) + 1)) (fun s c hs => proc_suf c hs) (lev M H n).2 ((lev M H n).1, []) (by simp)⟩
/-! ### The table -/
def Tab (T : List Int) (m : Mp) : Prop := T.length = 11907 ∧ ∀ c, ins 3 c = true → rd 0 T (spot c) = match mget c m with | some n => n + 1 | none => 0
theorem rd_set {T : List Int} {i j v : Int} (hi : 0 ≤ i ∧ i < T.length) (hj : 0 ≤ j ∧ j < T.length) : rd 0 (T.set i.toNat v) j = if i = j then v else rd 0 T j := by
  simp only [rd, List.getD_eq_getElem?_getD, List.getElem?_set]
  by_cases e : i = j
  · subst e
    rw [if_pos rfl, if_pos rfl, if_pos (by omega)]
    rfl
  · rw [if_neg (by omega), if_neg e]
theorem tab_add {T : List Int} {m : Mp} (h : Tab T m) {c : C} (hc : ins 3 c = true) {n : Int} (hm : mget c m = none) : Tab (T.set (spot c).toNat (n + 1)) (m ++ [(c, n)]) := by
  refine ⟨by simp [h.1], fun d hd => ?_⟩
  have hl := h.1
  have h1 := spot_lt hc
  have h2 := spot_lt hd
  rw [rd_set (by omega) (by omega), mget_app]
  by_cases e : c = d
  · subst e
    rw [if_pos rfl, hm, mget_same]
  · rw [if_neg (fun e' => e (spot_inj hc hd e')), h.2 d hd]
    cases hg : mget d m with
    | some v => rfl
    | none =>
      rcases mget_one (x := d) (y := c) (v := n) with h3 | ⟨h3, _⟩
      · simp [h3]
      · exact (e h3.symm).elim
theorem tab_0 : Tab ((List.replicate 11907 0).set (spot (0, 0, 0)).toNat 1) [((0, 0, 0), 0)] := by
  have h : Tab (List.replicate 11907 0) [] := ⟨List.length_replicate, fun c hc => by
    have := spot_lt hc
    simp only [mget, rd, List.getD_eq_getElem?_getD]
    rw [List.getElem?_replicate, if_pos (by omega)]
    rfl⟩
  exact tab_add h (by decide) (n := 0) rfl
/-! ### The plan -/
def nxt? (M H : Int) (m : Mp) (c : C) (n t : Int) : Prop := nxo M H c t = true ∧ mget (stp c t) m = some n
open Classical in
noncomputable def find (M H : Int) (m : Mp) (c : C) (n : Int) : List Int → Option Int
  | [] => none
  | t :: r => if nxt? M H m c n t then some t else find M H m c n r
noncomputable def go (M H : Int) (m : Mp) : Nat → C → List Int
  | 0, _ => []
  | n + 1, c => match find M H m c n (tn M) with
    | some t => t :: go M H m n (stp c t)
    | none => go M H m n c
theorem go_len (M H : Int) (m : Mp) : ∀ (n : Nat) (c : C), (go M H m n c).length ≤ n
  | 0, _ => by simp [go]
  | n + 1, c => by
    simp only [go]
    split
    · simp only [List.length_cons]; have := go_len M H m n (stp c ‹_›); omega
    · have := go_len M H m n c; omega
theorem find_some {M H : Int} {m : Mp} {c : C} {n t : Int} : ∀ {l : List Int}, find M H m c n l = some t → nxt? M H m c n t
  | x :: l, h => by
    simp only [find] at h
    split at h
    · cases h; assumption
    · exact find_some h
noncomputable def planV (M H : Int) (c : C) : List Int × Bool := match mget c (lev M H 40).1 with
  | some n => (go M H (lev M H 40).1 n.toNat c, true)
  | none => ([], false)
theorem planV_len {M H : Int} (hL : Lim M H) (c : C) : (planV M H c).1.length ≤ 40 := by
  unfold planV
  split
  · rename_i n hn
    have := (mget_ins (lev_inv (H := H) hL 40) hn).2
    have := go_len M H (lev M H 40).1 n.toNat c
    simp only
    omega
  · simp
/-! ### A run -/
def runV (M H : Int) : C → List Int → Option (List C)
  | _, [] => some []
  | c, t :: r => if nxo M H c t = true then (runV M H (stp c t) r).map (stp c t :: ·) else none
def runB (x : Option (List C)) : List C × Bool := match x with
  | some l => (l, true)
  | none => ([], false)
theorem runV_ins {M H : Int} : ∀ {l : List Int} {c : C} {r : List C}, runV M H c l = some r → r.length = l.length ∧ ∀ d ∈ r, ins M d = true
  | [], _, _, h => by cases h; exact ⟨rfl, fun d hd => by cases hd⟩
  | t :: l, c, r, h => by
    simp only [runV] at h
    split at h
    case isFalse => cases h
    rename_i hn
    cases hr : runV M H (stp c t) l with
    | none => rw [hr] at h; cases h
    | some r' =>
      rw [hr] at h
      cases h
      have := runV_ins hr
      refine ⟨by simp [this.1], fun d hd => ?_⟩
      rcases List.mem_cons.1 hd with rfl | hd
      · exact nxo_ins hn
      · exact this.2 d hd
def ab (x : Int) : Int := if x < 0 - x then 0 - x else x
def far (a : Int) (l : List C) : Int := l.foldl (fun a c => if a < ab c.1 then ab c.1 else a) a
end Go.Rv.St

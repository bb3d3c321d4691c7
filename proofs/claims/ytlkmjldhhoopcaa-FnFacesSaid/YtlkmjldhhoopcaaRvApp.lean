/- make, append. -/
import Derived.Test.YtlkmjldhhoopcaaRvMake
namespace Go.Rv
set_option linter.unusedSimpArgs false
set_option linter.unusedVariables false
section
variable {P : Program} {st : St} {g : Gh} {fr : Fr} {a : Act} {w : World} {X : Env} {o : Oper} {R : Type} {K : Fr → Option R} {r : R} {Q : Exit → Act → World → Prop}
theorem lim_cells {t : Ty} {m : Nat} (h : m < lim t) : m * t.cells ≤ 1099511627776 := by
  have h1 := Nat.div_mul_le_self 1099511627776 t.cells
  have h2 : m * t.cells ≤ lim t * t.cells := Nat.mul_le_mul_right _ (by omega)
  unfold lim at h2
  omega
theorem lim_max {t : Ty} {m : Nat} (h : m < lim t) : m ≤ maxLen := by
  have := lim_cells h
  have h2 := Nat.le_mul_of_pos_right m (cells_pos t)
  simp only [maxLen]; omega
theorem bytes_lim {t : Ty} {m b : Nat} (h : m < lim t) (hb : b ≤ 24 * t.cells) : m * b ≤ 140737488355328 := by
  have h1 := lim_cells h
  have h2 : m * b ≤ m * (24 * t.cells) := Nat.mul_le_mul_left _ hb
  have h3 : m * (24 * t.cells) = 24 * (m * t.cells) := by rw [Nat.mul_left_comm]
  omega
theorem makeSlice_ok (hT : TabOk P X) (h : Ok st g fr a w) (hX : Fits X st) {t : TypeId} {l m : Operand} (ho : o.op = .makeSlice t l m) {u : Ty} (hu : X.sl t = some u) {n k : Int} (hl : opc fr l = .int .i64 n) (hm : opc fr m = .int .i64 k)
    (h0 : 0 ≤ n) (h1 : n ≤ k) (h2 : k < (lim u : Int)) (hf : fin X fr o.dst (.comp false [.tmpo u (List.replicate n.toNat u.zero)]) K = some r) : o.wp P a w (Good st K r) Q := by
  obtain ⟨e, he, ⟨ii, z, e1, e2, e3, e4, e5⟩⟩ := ti_slice hT hu
  have hlv : a.eval l = .int .i64 n := (opc_rel h hl (by simp) (by simp)).2
  have hmv : a.eval m = .int .i64 k := (opc_rel h hm (by simp) (by simp)).2
  have hk : k.toNat < lim u := by omega
  have hb := bytes_lim hk e3
  have hbk : (ii.bytes : Int) * k ≤ 281474976710656 := by
    have : ((ii.bytes * k.toNat : Nat) : Int) ≤ 140737488355328 := by rw [Nat.mul_comm]; omega
    rw [Int.natCast_mul] at this
    have e : ((k.toNat : Nat) : Int) = k := by omega
    rw [e] at this; omega
  have hmx := lim_max hk
  have hrun := run_make (P := P) w t e ii z he e1 e4 .i64 .i64 n k h0 h1 hbk (by simp only [maxLen] at hmx; omega)
  have hz : z.cells.size = u.cells := by
    have := congrArg List.length e5
    rw [zeroV_length] at this; simpa using this
  obtain ⟨ok, hr⟩ := newRow_ok (w' := w.alloc (.cells (madeCells z.cells (k.toNat * ii.size)) e)) (e := e) h rfl rfl rfl rfl (t := u) (xs := List.replicate n.toNat u.zero) (cap := k.toNat) (by simp; omega) hmx (by rw [size_madeCells, e2]) (fun i x hi => by
    have hi2 := List.getElem?_replicate (n := n.toNat) (a := u.zero) (i := i)
    rw [hi] at hi2
    split at hi2
    · rename_i hlt
      cases hi2
      refine ⟨zeroV u, rep_zero w _ u, fun j c hj => ?_⟩
      have hjl : j < u.cells := by have := (List.getElem?_eq_some_iff.1 hj).1; rw [zeroV_length] at this; exact this
      have hin : i * u.cells + j < k.toNat * u.cells := by
        have : (i + 1) * u.cells ≤ k.toNat * u.cells := Nat.mul_le_mul_right _ (by omega)
        rw [Nat.add_mul] at this; omega
      have d2 : (i * u.cells + j) % u.cells = j := by rw [Nat.mul_comm, Nat.mul_add_mod, Nat.mod_eq_of_lt hjl]
      rw [← e5] at hj
      simp only [madeCells, e2, hz, Array.getElem?_map]
      rw [Array.getElem?_eq_getElem (by simpa using hin)]
      simp only [Array.getElem_range, Option.map_some, d2]
      have : z.cells[j]? = some c := by simpa using hj
      rw [getElem!_pos z.cells j (by omega)]
      rw [Array.getElem?_eq_getElem (by omega)] at this
      exact this
    · cases hi2)
  refine wp_value (v := .slice (some ⟨w.heap.size, 0, none⟩) n.toNat k.toNat) (w' := w.alloc (.cells (madeCells z.cells (k.toNat * ii.size)) e)) ?_ (fin_row hX ok (by simpa using hr) hf)
  simp only [execOp, ho, hlv, hmv, Sem.run_bind, hrun, Result.andThen_ok, Sem.run_pure]
/-! ### the cells of a list in memory -/
theorem exists_flat {c : Nat} : ∀ (m : Nat) (Q : Nat → List Value → Prop), (∀ i, i < m → ∃ e : List Value, e.length = c ∧ Q i e) → ∃ news : List Value, news.length = m * c ∧ ∀ i, i < m → Q i ((news.drop (i * c)).take c)
  | 0, Q, h => ⟨[], by simp, fun i hi => by omega⟩
  | m + 1, Q, h => by
    obtain ⟨news, h1, h2⟩ := exists_flat m Q (fun i hi => h i (by omega))
    obtain ⟨e, e1, e2⟩ := h m (by omega)
    refine ⟨news ++ e, by rw [List.length_append, h1, e1, Nat.add_mul]; omega, fun i hi => ?_⟩
    by_cases him : i < m
    · have hle : (i + 1) * c ≤ m * c := Nat.mul_le_mul_right _ him
      rw [Nat.add_mul] at hle
      rw [List.drop_append_of_le_length (by omega), List.take_append_of_le_length (by rw [List.length_drop]; omega)]
      exact h2 i him
    · have : i = m := by omega
      subst this
      rw [← h1, List.drop_left, ← e1, List.take_length]
      exact e2
theorem RS_cells {S : Nat → Nat → Prop} {t : Ty} {ys : List (Den t)} {v : Value} (h : RS w S t ys v) : ∃ A cap, v = .slice A ys.length cap ∧ ys.length ≤ cap ∧ ∃ news : List Value, news.length = ys.length * t.cells ∧
    (∀ i y, ys[i]? = some y → ∃ ecs, rep w S t y ecs ∧ ∀ (j : Nat) (u : Value), ecs[j]? = some u → news[i * t.cells + j]? = some u) ∧
    (ys ≠ [] → ∃ ad, A = some ad ∧ ad.spot = none ∧ ∀ (j : Nat) (u : Value), news[j]? = some u → S ad.block (ad.off + j) ∧ w.cell? ⟨ad.block, ad.off + j, none⟩ = some u) := by
  obtain ⟨A, cap, hv, hc, hx⟩ := h
  simp only [List.cons.injEq, and_true] at hv
  refine ⟨A, cap, hv, hc, ?_⟩
  obtain ⟨news, n1, n2⟩ := exists_flat (c := t.cells) ys.length (fun i e => ∀ y, ys[i]? = some y → ∃ ad, A = some ad ∧ ad.spot = none ∧ rep w S t y e ∧ ∀ (j : Nat) (u : Value), e[j]? = some u → S ad.block (ad.off + (i * t.cells + j)) ∧ w.cell? ⟨ad.block, ad.off + (i * t.cells + j), none⟩ = some u) (fun i hi => by
    obtain ⟨ad, ecs, q1, q2, q3, q4⟩ := hx i _ (List.getElem?_eq_getElem hi)
    refine ⟨ecs, rep_length q3, fun y hy => ?_⟩
    rw [List.getElem?_eq_getElem hi] at hy
    cases hy
    exact ⟨ad, q1, q2, q3, q4⟩)
  refine ⟨news, n1, fun i y hy => ?_, fun hne => ?_⟩
  · obtain ⟨ad, q1, q2, q3, q4⟩ := n2 i (List.getElem?_eq_some_iff.1 hy).1 y hy
    refine ⟨_, q3, fun j u hj => ?_⟩
    rw [List.getElem?_take] at hj
    split at hj
    · rw [List.getElem?_drop] at hj; exact hj
    · cases hj
  · have h0 : 0 < ys.length := by cases ys with | nil => exact absurd rfl hne | cons _ _ => simp
    obtain ⟨ad, q1, q2, _, _⟩ := n2 0 h0 _ (List.getElem?_eq_getElem h0)
    refine ⟨ad, q1, q2, fun j u hj => ?_⟩
    have hjl : j < ys.length * t.cells := by have := (List.getElem?_eq_some_iff.1 hj).1; rw [n1] at this; exact this
    have hpos := cells_pos t
    have hi : j / t.cells < ys.length := (Nat.div_lt_iff_lt_mul hpos).2 hjl
    obtain ⟨ad', p1, p2, p3, p4⟩ := n2 (j / t.cells) hi _ (List.getElem?_eq_getElem hi)
    rw [q1] at p1; cases p1
    have hmod : j / t.cells * t.cells + j % t.cells = j := by rw [Nat.mul_comm]; exact Nat.div_add_mod j t.cells
    have := p4 (j % t.cells) u (by
      rw [List.getElem?_take, if_pos (Nat.mod_lt _ hpos), List.getElem?_drop, hmod]; exact hj)
    rw [hmod] at this
    exact this
/-! ### append -/
/-- what is needed of the slice that is appended -/
def Src (P : Program) (w : World) (size m : Nat) (v : Value) (news : List Value) : Prop :=
  ∃ A cap, v = .slice A m cap ∧ ∀ w' : World, w'.heap = w.heap → (Builtin.firstCells size m v).run P w' = .ok news.toArray w'
theorem cell_of_heap {w w' : World} (h : w'.heap = w.heap) (ad : Addr) : w'.cell? ad = w.cell? ad := by simp [World.cell?, h]
theorem src_of {S : Nat → Nat → Prop} {t : Ty} {ys : List (Den t)} {v : Value} (h : RS w S t ys v) : ∃ news, Src P w t.cells ys.length v news ∧ news.length = ys.length * t.cells ∧ (∀ u ∈ news, u.oneCell' = true) ∧
    ∀ i y, ys[i]? = some y → ∃ ecs, rep w S t y ecs ∧ ∀ (j : Nat) (u : Value), ecs[j]? = some u → news[i * t.cells + j]? = some u := by
  obtain ⟨A, cap, hv, hc, news, n1, n2, n3⟩ := RS_cells h
  refine ⟨news, ⟨A, cap, hv, fun w' hw => ?_⟩, n1, fun u hu => ?_, n2⟩
  · cases hys : ys with
    | nil =>
      subst hys
      have hn : news = [] := List.eq_nil_of_length_eq_zero (by simpa using n1)
      subst hn
      subst hv
      cases A with
      | none => simp [Builtin.firstCells]
      | some ad => simp [Builtin.firstCells, loadCells, loadCellsFrom]
    | cons y0 ys' =>
      obtain ⟨ad, rfl, hsp, hcell⟩ := n3 (by rw [hys]; simp)
      rw [hys] at n1 hv
      subst hv
      exact run_firstCells_some (P := P) w' t.cells _ ad _ _ news n1 (fun j u hj => by rw [add_mid ad hsp, cell_of_heap hw]; exact (hcell j u hj).2)
  · obtain ⟨k, hk, rfl⟩ := List.getElem_of_mem hu
    have hpos := cells_pos t
    rw [n1] at hk
    have hi : k / t.cells < ys.length := (Nat.div_lt_iff_lt_mul hpos).2 hk
    obtain ⟨ecs, e1, e2⟩ := n2 _ _ (List.getElem?_eq_getElem hi)
    have hl : k % t.cells < ecs.length := by rw [rep_length e1]; exact Nat.mod_lt _ hpos
    have := e2 _ _ (List.getElem?_eq_getElem hl)
    have hmod : k / t.cells * t.cells + k % t.cells = k := by rw [Nat.mul_comm]; exact Nat.div_add_mod k t.cells
    rw [hmod, List.getElem?_eq_getElem (by rw [n1]; exact hk)] at this
    simp only [Option.some.injEq] at this
    rw [this]
    exact rep_one e1 _ (List.getElem_mem hl)
theorem run_append_in (t ty e : TypeId) (i : TypeInfo) (ht : P.underlying t = some (.slice e)) (hi : P.info? e = some i) (b sLen sCap : Nat) (e' : TypeId) (cur : Array Value) (hb : w.heap[b]? = some (.cells cur e' (0, 0)))
    {v : Value} {m : Nat} {news : List Value} (hs : Src P w i.size m v news) (h1 : ∀ u ∈ news, u.oneCell' = true) (hroom : sLen + m ≤ sCap) (hfit : sLen * i.size + news.length ≤ cur.size) :
    (Builtin.append_ #[t, t] ty #[.slice (some ⟨b, 0, none⟩) sLen sCap, v]).run P w =
      .ok (.slice (some ⟨b, 0, none⟩) (sLen + m) sCap) (w.setRow b (cur.toList.take (sLen * i.size) ++ news ++ cur.toList.drop (sLen * i.size + news.length)).toArray) := by
  obtain ⟨A, cap, rfl, hf⟩ := hs
  have hf := hf w rfl
  have hst := run_storeCells_at P b (sLen * i.size) e' news 0 cur w hb (by simpa using hfit) h1
  simp only [Nat.add_zero] at hst
  simp [Builtin.append_, run_underlying ht, sizeOf, typeInfo, hi, Builtin.lenOf, hroom, hf, Addr.add_lit, hst]
theorem run_append_new (t ty e : TypeId) (i : TypeInfo) (z : Value) (ht : P.underlying t = some (.slice e)) (hi : P.info? e = some i) (hz : i.zero = some z) {s : Value} {A : Option Addr} {sLen sCap : Nat} (hsv : s = .slice A sLen sCap) {olds : List Value} (hso : Src P w i.size sLen s olds)
    {v : Value} {m : Nat} {news : List Value} (hs : Src P w i.size m v news) (hg : sCap < sLen + m) (h63 : sLen + m ≤ maxLen) (hfit : Builtin.nextslicecap (sLen + m) sCap * i.bytes ≤ 281474976710656) :
    (Builtin.append_ #[t, t] ty #[s, v]).run P w =
      .ok (.slice (some ⟨w.heap.size, 0, none⟩) (sLen + m) (grownCap w (sLen + m) sCap e))
        (w.drew.alloc (.cells (olds.toArray ++ news.toArray ++ Builtin.zeroCells z.cells (grownCap w (sLen + m) sCap e - (sLen + m))) e)) := by
  obtain ⟨A', cap, rfl, hf⟩ := hs
  obtain ⟨A2, cap2, e2, hfo⟩ := hso
  have hf := hf w.drew rfl
  have hfo := hfo w.drew rfl
  subst hsv
  have hn : ¬ (sLen + m ≤ sCap) := by omega
  have h63' : ¬ (9223372036854775807 < ((sLen : Int) + (m : Int))) := by simp only [maxLen] at h63; omega
  have h48' : ¬ (281474976710656 < Builtin.nextslicecap (sLen + m) sCap * i.bytes) := by omega
  simp [Builtin.append_, run_underlying ht, sizeOf, typeInfo, zeroValue, hi, hz, Builtin.lenOf, hn, h63', h48', Question.forced, hf, hfo, newRow, grownCap]
  congr 2
  apply Array.ext'
  simp [List.append_assoc]
theorem run_append_nilnil (t ty e : TypeId) (i : TypeInfo) (ht : P.underlying t = some (.slice e)) (hi : P.info? e = some i) {v : Value} {news : List Value} (hs : Src P w i.size 0 v news) (hn : news = []) :
    (Builtin.append_ #[t, t] ty #[.slice none 0 0, v]).run P w = .ok (.slice none 0 0) w := by
  obtain ⟨A, cap, rfl, hf⟩ := hs
  have hf := hf w rfl
  subst hn
  simp [Builtin.append_, run_underlying ht, sizeOf, typeInfo, hi, Builtin.lenOf, hf]
/-- elements of a row made of two lists of cells -/
theorem elems_append {w w' : World} {S S' : Nat → Nat → Prop} {t : Ty} {xs ys : List (Den t)} {olds news rest : List Value} (ho : olds.length = xs.length * t.cells) (hn : news.length = ys.length * t.cells)
    (hx : ∀ i x, xs[i]? = some x → ∃ ecs, rep w S t x ecs ∧ ∀ (j : Nat) (u : Value), ecs[j]? = some u → olds[i * t.cells + j]? = some u)
    (hy : ∀ i y, ys[i]? = some y → ∃ ecs, rep w S t y ecs ∧ ∀ (j : Nat) (u : Value), ecs[j]? = some u → news[i * t.cells + j]? = some u) :
    ∀ i x, (xs ++ ys)[i]? = some x → ∃ ecs, rep w S t x ecs ∧ ∀ (j : Nat) (u : Value), ecs[j]? = some u → (olds ++ news ++ rest)[i * t.cells + j]? = some u := by
  intro i x hi
  by_cases hlt : i < xs.length
  · rw [List.getElem?_append_left hlt] at hi
    obtain ⟨ecs, e1, e2⟩ := hx i x hi
    refine ⟨ecs, e1, fun j u hj => ?_⟩
    have := e2 j u hj
    have hl := (List.getElem?_eq_some_iff.1 this).1
    rw [List.append_assoc, List.getElem?_append_left hl]; exact this
  · rw [List.getElem?_append_right (by omega)] at hi
    obtain ⟨ecs, e1, e2⟩ := hy _ x hi
    refine ⟨ecs, e1, fun j u hj => ?_⟩
    have := e2 j u hj
    have hl := (List.getElem?_eq_some_iff.1 this).1
    have hmul : i * t.cells = xs.length * t.cells + (i - xs.length) * t.cells := by rw [← Nat.add_mul]; congr 1; omega
    rw [List.append_assoc, List.getElem?_append_right (by omega), List.getElem?_append_left (by rw [ho, hmul]; omega)]
    rw [show i * t.cells + j - olds.length = (i - xs.length) * t.cells + j by rw [ho, hmul]; omega]
    exact this
end
end Go.Rv

/- slices.Sorted(slices.Values(xs)) at a row of int64 and impl.MiddleOf, walked with the kit's steps (after the kit's worked examples of ranges over a function). -/
import Derived.RangeFuncBox
import Derived.RangeFuncLeaves
import Derived.Shelf.Abstract
import Derived.WalkKit
import Derived.OwnWalkIn
import Derived.TacticsInMore
import Derived.LoopNIn
import Derived.LoopIn
import Derived.Maps.AppendAt
import Derived.Sort.OwnSortedInts
import Derived.Shelf.SortM.Plain
import Derived.Shelf.SortM.SortNone
import Derived.Test.YtdcpjbheedofdaaRvGsh
import Derived.Test.YtdcpjbheedofdaaProg
namespace Go.Proofs.Ytdcpjbheedofdaa.T
open Go.RowKit Go.Shelf
attribute [local go_sem] Oper.semAt_some
set_option linter.unusedVariables false
set_option linter.unusedSimpArgs false
structure Sid (p : Prop) : Prop where
  out : p
def vInt : Value → Int
  | .int _ n => n
  | _ => 0
def upto (f : Nat → Int) (k : Nat) : List Int := (List.range k).map f
theorem upto_succ (f : Nat → Int) (k : Nat) : upto f (k + 1) = upto f k ++ [f k] := by simp [upto, List.range_succ]
theorem upto_length (f : Nat → Int) (k : Nat) : (upto f k).length = k := by simp [upto]
theorem upto_all (zs : List Int) : upto (fun j => zs[j]?.getD 0) zs.length = zs := by
  apply List.ext_getElem
  · simp [upto]
  · intro i h1 h2
    simp [upto, h2]
set_option maxRecDepth 100000 in
set_option maxHeartbeats 2000000 in
theorem values1_in (F : Fence) (n : Nat) (h37 : F.fn 37) (hro : F.round = none) (hn : 1 ≤ n) (l Bs n₀ b off len cap : Nat) (f : Nat → Int) (hreach : len * 8 ≤ 140737488351232) (hb : b < n₀) (J Jx : List Int → World → Prop)
    (hY : ∀ pre x W, J pre W → pre.length < len → YieldAt F (n - 1) Try.prog l #[.int .i64 x] W fun e W' =>
      (e = .returned (.bool true) ∧ J (pre ++ [x]) W' ∧ Below n₀ W W') ∨ (e = .returned (.bool false) ∧ Jx (pre ++ [x]) W'))
    (W : World) (hBs : W.cell? ⟨Bs, 0, none⟩ = some (.slice (some ⟨b, off, none⟩) len cap)) (hc : ∀ j, j < len → W.cell? ⟨b, off + j, none⟩ = some (.int .i64 (f j))) (h0 : J [] W) :
    CallsIn F n Try.prog 37 #[.func (.yield l) #[] #[], .pointer (some ⟨Bs, 0, none⟩)] W fun e W' => (∃ v, e = .returned v) ∧
      ((∃ ys, ys = upto f len ∧ J ys W') ∨ (∃ pre, True ∧ Jx pre W')) := by
  refine callsIn_of_wp Try.func37 rfl h37 ?_ hro
  simp only [Try.ntmps37, List.size_toArray, List.length_cons, List.length_nil, Nat.reduceAdd, Nat.reduceSub, Array.replicate_succ, Array.replicate_zero, List.push_toArray, List.append_toArray, List.nil_append, List.cons_append]
  gi_wp2
  gi_loopw [7] (fun i wr => ∃ k : Nat, k ≤ len ∧ i = .int .i64 k ∧ J (upto f k) wr ∧ Below n₀ W wr)
    (fun i _ => len - (vInt i).toNat)
  case atStart => exact ⟨0, Nat.zero_le _, rfl, h0, Below.refl _ _⟩
  case round =>
    obtain ⟨k, hk, rfl, hJs, hnx⟩ := hrel
    have hcx : k < len → wr.cell? ⟨b, off + k, none⟩ = some (.int .i64 (f k)) := fun h => (hnx.cell (p := ⟨b, off + k, none⟩) hb).trans (hc k h)
    by_cases hlt : k < len
    · obtain ⟨fn, tmps, assign, body, hy, hR⟩ := hY _ (f k) wr hJs (by rw [upto_length]; exact hlt)
      have hcx' := hcx hlt
      gi_wp2
      refine hR.mono ?_
      rintro e W3 (⟨rfl, hJ3, hk3⟩ | ⟨rfl, hJx3⟩)
      · gi_wp2
        go_roundw
        case rel => exact ⟨k + 1, by omega, by simp, by rw [upto_succ]; exact hJ3, hnx.trans hk3⟩
        case measure => simp [vInt]; omega
      · gi_wp2
        refine bodyPost_ret (results_none rfl _ _ _) rfl ?_
        exact ⟨⟨_, rfl⟩, .inr ⟨_, trivial, hJx3⟩⟩
    · obtain rfl : k = len := by omega
      gi_wp2
      go_end0
      exact ⟨⟨_, rfl⟩, .inl ⟨_, rfl, hJs⟩⟩
set_option maxHeartbeats 1000000 in
theorem values_in (F : Fence) (n : Nat) (h29 : F.fn 29) (hro : F.round = none) (a : Option Addr) (len cap : Nat) (w : World) :
    CallsIn F n Try.prog 29 #[.slice a len cap] w fun e w' => e = .returned (.func (.func 37) #[] #[.pointer (some ⟨w.heap.size, 0, none⟩)]) ∧ w' = w.alloc (.cells #[.slice a len cap] 32) := by
  refine callsIn_of_wp Try.func29 rfl h29 ?_ hro
  simp only [Try.ntmps29, List.size_toArray, List.length_cons, List.length_nil, Nat.reduceAdd, Nat.reduceSub, Array.replicate_succ, Array.replicate_zero, List.push_toArray, List.append_toArray, List.nil_append, List.cons_append]
  gi_wp2
  go_ret
  exact ⟨rfl, rfl⟩
theorem values_stops (F : Fence) (n : Nat) (h37 : F.fn 37) (hro : F.round = none) (hn : 1 ≤ n) (Bs n₀ b off cap : Nat) (zs : List Int) (hreach : zs.length * 8 ≤ 140737488351232) (hb : b < n₀) (w : World) (hBs : Bs < w.heap.size) (hn₀ : n₀ ≤ w.heap.size)
    (hc : w.cell? ⟨Bs, 0, none⟩ = some (.slice (some ⟨b, off, none⟩) zs.length cap)) (hcs : ∀ j, j < zs.length → w.cell? ⟨b, off + j, none⟩ = some (.int .i64 (zs[j]?.getD 0))) :
    SeqStopsK F n Try.prog 37 #[.pointer (some ⟨Bs, 0, none⟩)] (fun x : Int => #[Value.int .i64 x]) (Below n₀) (fun ys => ys = zs) (fun pre => True) zs.length w := fun l J Jx W hW _ _ hY h0 => by
  have key := values1_in F n h37 hro hn l Bs n₀ b off zs.length cap (fun j => zs[j]?.getD 0) hreach hb J Jx hY W ((hW.cell (p := ⟨Bs, 0, none⟩) hBs).trans hc) (fun j hj => (hW.cell (p := ⟨b, off + j, none⟩) (by show b < _; omega)).trans (hcs j hj)) h0
  rw [upto_all] at key
  exact key
theorem info2 : (Try.prog.info? 2).map (fun i => (i.zero, i.size, i.bytes)) = some (some (.int .i64 0), 1, 8) := by kernel_rfl
set_option maxRecDepth 100000 in
set_option maxHeartbeats 2000000 in
theorem appendSeq_in (F : Fence) (n : Nat) (h46 : F.fn 46) (h37 : F.fn 37) (hro : F.round = none) (hn : 2 ≤ n) (Bs b off cap : Nat) (zs : List Int) (hN : zs.length ≤ maxLen) (hreach : zs.length * 8 ≤ 140737488351232) (w : World) (hb : b < w.heap.size) (hBs : Bs < w.heap.size)
    (hc : w.cell? ⟨Bs, 0, none⟩ = some (.slice (some ⟨b, off, none⟩) zs.length cap)) (hcs : ∀ j, j < zs.length → w.cell? ⟨b, off + j, none⟩ = some (.int .i64 (zs[j]?.getD 0))) :
    CallsIn F n Try.prog 46 #[.slice none 0 0, .func (.func 37) #[] #[.pointer (some ⟨Bs, 0, none⟩)]] w fun e W' => ∃ v, e = .returned v ∧ W'.ownsRow w.heap.size 2 1 v zs.length (zs.map (Value.int .i64)) ∧ Below w.heap.size w W' := by
  have h1 : 1 ≤ n := by omega
  obtain ⟨i0, hi, hz0, hz1, hz2⟩ := info_parts info2
  refine callsIn_of_wp_marks Try.func46 rfl h46 ?_ hro
  simp only [Try.ntmps46, List.size_toArray, List.length_cons, List.length_nil, Nat.reduceAdd, Nat.reduceSub, Array.replicate_succ, Array.replicate_zero, List.push_toArray, List.append_toArray, List.nil_append, List.cons_append]
  gi_wp2
  have bO := Boxed.new w 32 (.slice none 0 0)
  have hB0 : Below w.heap.size w (w.alloc (.cells #[.slice none 0 0] 32)) := (Below.refl _ w).alloc (Nat.le_refl _) _
  refine wpIn_rangeFunc_ownG hro h1 (gf := 37) (lb := #[.pointer (some ⟨Bs, 0, none⟩)]) rfl h37 (enters_of Try.func37 (by kernel_rfl) rfl)
    (values_stops F (n - 1) h37 hro (by omega) Bs w.heap.size b off cap zs hreach hb (w.alloc (.cells #[.slice none 0 0] 32)) (by simp; omega) (by simp) ((hB0.cell (p := ⟨Bs, 0, none⟩) hBs).trans hc) (fun j hj => (hB0.cell (p := ⟨b, off + j, none⟩) hb).trans (hcs j hj))) belowK_t (belowK_b (by simp)) (Below.refl _ _) (fun _ => rfl)
    (fun pre W => (∃ v, Boxed W w.heap.size 32 v ∧ W.ownsRow w.heap.size 2 1 v pre.length (pre.map (Value.int .i64)) ∧ True) ∧ Below w.heap.size w W)
    (fun _ _ _ => False)
    (OwnFrom.and (Own.from (holdsRow_own w.heap.size w.heap.size 32 2 1 (fun (pre : List Int) => pre.length) (fun (pre : List Int) => pre.map (Value.int .i64)) (fun (pre : List Int) v => True)) _) (ownFrom_below (Nat.le_refl _) (by simp)))
    (fun _ _ _ _ _ hs _ _ => hs)
    ⟨⟨_, bO, World.ownsRow_nil _ _ _ _, trivial⟩, hB0⟩
    (fun x => { tmps := #[.slice none 0 0, .func (.func 37) #[] #[.pointer (some ⟨Bs, 0, none⟩)], .pointer (some ⟨w.heap.size, 0, none⟩), undef, .slice none 0 0, .int .i64 x, .func (.func 37) #[] #[.pointer (some ⟨Bs, 0, none⟩)], .int .i64 x, undef, undef, undef, undef, undef], defers := [] }) ?assign ?body ?done ?stop
  case assign =>
    intro l x W K hK
    gi_wp2
    exact hK
  case body =>
    rintro l pre x W ⟨⟨v, hv, hrow, _⟩, hB⟩ hlt
    have hc := hv.cell
    gi_wp2_with (gi_at_builtin; refine wpListIn_append_own _ rfl _ _ 32 rfl w.heap.size 2 i0 (.int .i64 0) 1 8 Try.underlying32 hi hz0 hz1 hz2 rfl (by decide) _ _ _ rfl (hrow.alloc _) ⟨W.heap.size, 0, none⟩ 1 1 [.int .i64 x] rfl rfl (cell_one_new _ _ _) (by simp [Value.oneCell']) (by omega) (by omega) (by have := hB.size; simp; omega) ?_; intro v' w1 hown' hgrow _; obtain ⟨g', cap', rfl⟩ := ownsRow_succ hown'; obtain ⟨hv1, hv2, hr2, hk2, hb2⟩ := hv.appended (by decide) hrow hB.size (Nat.le_refl _) hown' hgrow; have hc1 := hv1.cell; have hf1 := hv1.frozen)
    exact ⟨hk2.from _, hb2, ⟨_, hv2, by simpa using hr2, trivial⟩, hB.trans hb2⟩
  case done =>
    rintro D ys W hD rfl ⟨⟨v, hv, hrow, _⟩, hB⟩ hK
    have hc := hv.cell
    gi_wp2
    refine ⟨by simp, .inl ⟨_, _, rfl, run_takeDeferred hK, ?_⟩⟩
    exact ⟨_, results_tmp rfl _ _ _, v, rfl, ownsRow_putObj hrow _ hK rfl, hB.trans (belowK_b (w := w) (Nat.le_refl _) W D _ _ (by simp at hD; omega) hK rfl rfl)⟩
  case stop =>
    rintro D c pre W _ _ h _
    exact h.elim
set_option maxHeartbeats 1000000 in
theorem collect_in (F : Fence) (n : Nat) (h35 : F.fn 35) (h46 : F.fn 46) (h37 : F.fn 37) (hro : F.round = none) (hn : 3 ≤ n) (Bs b off cap : Nat) (zs : List Int) (hN : zs.length ≤ maxLen) (hreach : zs.length * 8 ≤ 140737488351232) (w : World) (hb : b < w.heap.size) (hBs : Bs < w.heap.size)
    (hc : w.cell? ⟨Bs, 0, none⟩ = some (.slice (some ⟨b, off, none⟩) zs.length cap)) (hcs : ∀ j, j < zs.length → w.cell? ⟨b, off + j, none⟩ = some (.int .i64 (zs[j]?.getD 0))) :
    CallsIn F n Try.prog 35 #[.func (.func 37) #[] #[.pointer (some ⟨Bs, 0, none⟩)]] w fun e W' => ∃ v, e = .returned v ∧ W'.ownsRow w.heap.size 2 1 v zs.length (zs.map (Value.int .i64)) ∧ Below w.heap.size w W' := by
  have h1 : 1 ≤ n := by omega
  have H46 := Sid.mk (appendSeq_in F (n - 1) h46 h37 hro (by omega) Bs b off cap zs hN hreach w hb hBs hc hcs)
  clear hcs hc
  refine callsIn_of_wp Try.func35 rfl h35 ?_ hro
  simp only [Try.ntmps35, List.size_toArray, List.length_cons, List.length_nil, Nat.reduceAdd, Nat.reduceSub, Array.replicate_succ, Array.replicate_zero, List.push_toArray, List.append_toArray, List.nil_append, List.cons_append]
  gi_wp2_with (gi_at_call 46; refine H46.out.mono ?_; rintro e w' ⟨v, rfl, hrow, hb⟩)
  go_ret
  exact ⟨v, rfl, hrow, hb⟩
def sortedL (zs : List Int) : List Int := zs.mergeSort fun x y => decide (x ≤ y)
theorem sortedL_length (zs : List Int) : (sortedL zs).length = zs.length := List.length_mergeSort _
theorem sort_in (m : Nat) (blk cap : Nat) (zs : List Int) (W : World) (hH : Go.Sort.Holds (Value.int .i64) W blk 0 zs.toArray) (hb : blk < W.heap.size) (hz : zs.length < 4611686018427387904) :
    CallsIn Fence.wide m Try.prog 36 #[.slice (some ⟨blk, 0, none⟩) zs.length cap] W fun e w' => e = .returned (.tuple #[]) ∧ ∃ k os, w' = Go.Sort.grow (Go.Sort.putRow (Value.int .i64) (Go.Sort.ahead W k) blk 0 (sortedL zs).toArray) os :=
  callsIn_wide.2 (AnyM.slices_Sort_int Sh.lS blk 0 cap zs W hH hb hz)
set_option maxHeartbeats 2000000 in
theorem sorted_in (F : Fence) (n : Nat) (h28 : F.fn 28) (h35 : F.fn 35) (h36 : F.fn 36) (h46 : F.fn 46) (h37 : F.fn 37) (hro : F.round = none) (hn : 4 ≤ n)
    (hsort : ∀ (blk cap : Nat) (zs : List Int) (W : World), Go.Sort.Holds (Value.int .i64) W blk 0 zs.toArray → blk < W.heap.size → zs.length < 4611686018427387904 →
      CallsIn F (n - 1) Try.prog 36 #[.slice (some ⟨blk, 0, none⟩) zs.length cap] W fun e w' => e = .returned (.tuple #[]) ∧ ∃ k os, w' = Go.Sort.grow (Go.Sort.putRow (Value.int .i64) (Go.Sort.ahead W k) blk 0 (sortedL zs).toArray) os)
    (Bs b off cap : Nat) (zs : List Int) (hz1 : 1 ≤ zs.length) (hN : zs.length ≤ 1000) (w : World) (hb : b < w.heap.size) (hBs : Bs < w.heap.size)
    (hc : w.cell? ⟨Bs, 0, none⟩ = some (.slice (some ⟨b, off, none⟩) zs.length cap)) (hcs : ∀ j, j < zs.length → w.cell? ⟨b, off + j, none⟩ = some (.int .i64 (zs[j]?.getD 0))) :
    CallsIn F n Try.prog 28 #[.func (.func 37) #[] #[.pointer (some ⟨Bs, 0, none⟩)]] w fun e W' => ∃ g cap', e = .returned (.slice (some ⟨g, 0, none⟩) zs.length cap') ∧ W'.ownsRow w.heap.size 2 1 (.slice (some ⟨g, 0, none⟩) zs.length cap') zs.length ((sortedL zs).map (Value.int .i64)) ∧ Below w.heap.size w W' := by
  have h1 : 1 ≤ n := by omega
  have H35 := Sid.mk (collect_in F (n - 1) h35 h46 h37 hro (by omega) Bs b off cap zs (by simp only [maxLen]; omega) (by omega) w hb hBs hc hcs)
  clear hcs hc
  refine callsIn_of_wp Try.func28 rfl h28 ?_ hro
  simp only [Try.ntmps28, List.size_toArray, List.length_cons, List.length_nil, Nat.reduceAdd, Nat.reduceSub, Array.replicate_succ, Array.replicate_zero, List.push_toArray, List.append_toArray, List.nil_append, List.cons_append]
  gi_wp2_with (gi_at_call 35; refine H35.out.mono ?_; rintro e W ⟨v, rfl, hrow, hb'⟩)
  rcases hrow.2 with ⟨rfl, hz⟩ | ⟨gb, cap', cur, rfl, hbase, hgb, r1, r2, r3, r4⟩
  · omega
  · have hH : Go.Sort.Holds (Value.int .i64) W gb 0 zs.toArray := Go.holds_of_blockI hgb (by simpa using r4)
    have hgl : gb < W.heap.size := (Array.getElem?_eq_some_iff.1 hgb).1
    have cS := Sid.mk (hsort gb cap' zs W hH hgl (by omega))
    gi_wp2_with (gi_at_call 36; refine cS.out.mono ?_; rintro e w' ⟨rfl, nn, os, rfl⟩)
    go_ret
    have hown := Go.ownsRow_sortedI (n := nn) (os := os) (ts := sortedL zs) (ss := zs) (sortedL_length zs) hbase hgb r1 r2 r3
    exact ⟨gb, cap', rfl, hown, hb'.grown (Go.grownBy_sortedI _) hb'.size (fun j hj => by cases hj; exact hbase)⟩
theorem sorted_cell {W : World} {base g cap' : Nat} {zs : List Int} (h : W.ownsRow base 2 1 (.slice (some ⟨g, 0, none⟩) zs.length cap') zs.length ((sortedL zs).map (Value.int .i64))) (m : Nat) (hm : m < zs.length) :
    W.cell? ⟨g, m, none⟩ = some (.int .i64 ((sortedL zs)[m]?.getD 0)) := by
  rcases h.2 with ⟨e, _⟩ | ⟨g', c', cur, e, _, hh, _, _, _, ht⟩
  · cases e
  · cases e
    have hs := sortedL_length zs
    have h1 : (cur.toList.take (zs.length * 1))[m]? = ((sortedL zs).map (Value.int .i64))[m]? := by rw [ht]
    rw [List.getElem?_take_of_lt (by omega), List.getElem?_map] at h1
    have h2 : (sortedL zs)[m]? = some ((sortedL zs)[m]?.getD 0) := by
      rw [List.getElem?_eq_getElem (show m < (sortedL zs).length by omega)]; rfl
    rw [h2] at h1
    unfold World.cell?
    simp only [hh]
    simpa using h1
set_option maxHeartbeats 2000000 in
theorem middle_in (F : Fence) (n : Nat) (h16 : F.fn 16) (h27 : F.fn 27) (h28 : F.fn 28) (h29 : F.fn 29) (h35 : F.fn 35) (h36 : F.fn 36) (h46 : F.fn 46) (h37 : F.fn 37) (hro : F.round = none) (hn : 5 ≤ n)
    (hsort : ∀ (blk cap : Nat) (zs : List Int) (W : World), Go.Sort.Holds (Value.int .i64) W blk 0 zs.toArray → blk < W.heap.size → zs.length < 4611686018427387904 →
      CallsIn F (n - 1 - 1) Try.prog 36 #[.slice (some ⟨blk, 0, none⟩) zs.length cap] W fun e w' => e = .returned (.tuple #[]) ∧ ∃ k os, w' = Go.Sort.grow (Go.Sort.putRow (Value.int .i64) (Go.Sort.ahead W k) blk 0 (sortedL zs).toArray) os)
    (b off cap : Nat) (zs : List Int) (hz1 : 1 ≤ zs.length) (hN : zs.length ≤ 1000) (w : World) (hb : b < w.heap.size)
    (hcs : ∀ j, j < zs.length → w.cell? ⟨b, off + j, none⟩ = some (.int .i64 (zs[j]?.getD 0)))
    (hlist : CallsIn F (n - 1) Try.prog 27 #[.slice (some ⟨b, off, none⟩) zs.length cap] w fun e w' => e = .returned (.bool true) ∧ Below w.heap.size w w') :
    CallsIn F n Try.prog 16 #[.slice (some ⟨b, off, none⟩) zs.length cap] w fun e W' => e = .returned (.tuple #[.int .i64 ((sortedL zs)[(zs.length - 1) / 2]?.getD 0), .bool true]) ∧ Below w.heap.size w W' := by
  have h1 : 1 ≤ n := by omega
  have H27 := Sid.mk hlist
  clear hlist
  have q1 : ((zs.length : Int) == 0) = false := beq_eq_false_iff_ne.2 (by omega)
  have q2 : ((zs.length : Int) - 1).tdiv 2 = (((zs.length - 1) / 2 : Nat) : Int) := by
    have h := Int.tdiv_eq_ediv_of_nonneg (a := (zs.length : Int) - 1) (b := 2) (by omega)
    rw [h]; omega
  refine callsIn_of_wp Try.func16 rfl h16 ?_ hro
  simp only [Try.ntmps16, List.size_toArray, List.length_cons, List.length_nil, Nat.reduceAdd, Nat.reduceSub, Array.replicate_succ, Array.replicate_zero, List.push_toArray, List.append_toArray, List.nil_append, List.cons_append]
  gi_wp2_with (first
    | (gi_at_call 27; refine H27.out.mono ?_; rintro e w1 ⟨rfl, hb1⟩)
    | (gi_at_call 29; refine (values_in F (n - 1) h29 hro _ _ _ _).mono ?_; rintro e w2 ⟨rfl, rfl⟩))
  have hs1 := hb1.size
  have hB2 : Below w.heap.size w (w1.alloc (.cells #[.slice (some ⟨b, off, none⟩) zs.length cap] 32)) := hb1.alloc hs1 _
  have H28 := Sid.mk (sorted_in F (n - 1) h28 h35 h36 h46 h37 hro (by omega) hsort w1.heap.size b off cap zs hz1 hN (w1.alloc (.cells #[.slice (some ⟨b, off, none⟩) zs.length cap] 32)) (by simp; omega) (by simp) (Boxed.new w1 32 _).cell (fun j hj => (hB2.cell (p := ⟨b, off + j, none⟩) hb).trans (hcs j hj)))
  clear hcs hsort
  gi_wp2_with (gi_at_call 28; refine H28.out.mono ?_; rintro e w3 ⟨g, cap', rfl, hrow, hb3⟩; have hcell := sorted_cell hrow ((zs.length - 1) / 2) (by omega))
  go_ret2
  exact ⟨rfl, hb1.trans (((Below.refl _ w1).alloc (Nat.le_refl _) _ |>.trans (hb3.mono (by simp))).mono hs1)⟩
end Go.Proofs.Ytdcpjbheedofdaa.T

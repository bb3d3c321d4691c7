/- impl.readIn (a number in a range whose decimal is a text), walked with the kit's steps, as a function of the evaluator. -/
import Derived.Test.YtmgelocefebldaaGreatDoorRvStrF
import Derived.Test.YtmgelocefebldaaGreatDoorRvShParse
namespace Go.Proofs.YtmgelocefebldaaGreatDoor.T
open Go.Rv Go.RowKit
set_option linter.unusedVariables false
set_option linter.unusedSimpArgs false
noncomputable def readV (s : ByteArray) (lo hi v : Int) : Int × Bool := if ((decS v).toList == s.toList) = true then if lo ≤ v then if v ≤ hi then (v, true) else (0, false) else (0, false) else (0, false)
noncomputable def readInF (s : ByteArray) (lo hi : Int) : Option (Int × Bool) := if s.size ≤ 281474976710656 then match Lib.parseIntB 64 s.data.toList with
    | .ok v => if -9223372036854775808 ≤ v ∧ v ≤ 9223372036854775807 then some (readV s lo hi v) else none
    | _ => some (0, false)
  else none
structure Sid (p : Prop) : Prop where
  out : p
theorem tab_below {w w' : World} {B : Nat} (hB : Below B w w') (hlt : 1 < B) (h : Lib.TabIs Tryz.prog w "internal/strconv.uint64pow10" .u64 Lib.pow10Tab) : Lib.TabIs Tryz.prog w' "internal/strconv.uint64pow10" .u64 Lib.pow10Tab := by
  obtain ⟨e, fr, h⟩ := tab_at h
  unfold Lib.TabIs World.var?
  rw [gTab]
  simp only [Option.bind_some, hB.block _ hlt, h]
set_option maxRecDepth 100000 in
theorem dec_calls (n : Int) (h0 : -9223372036854775808 ≤ n) (h1 : n ≤ 9223372036854775807) (w : World) (ht : Lib.TabIs Tryz.prog w "internal/strconv.uint64pow10" .u64 Lib.pow10Tab) :
    Calls Tryz.prog 38 #[.int .i64 n] w fun e w' => e = .returned (.string (decS n)) ∧ Below w.heap.size w w' := by
  have H := Sid.mk (Any.strconv_FormatInt_10 Tryz.laysM173 n h0 h1 w ht)
  go_enter Tryz.func38, Tryz.ntmps38
  go_wp2_with (go_at_call 51; refine H.out.mono ?_; rintro e w' ⟨rfl, k, os, rfl⟩)
  go_ret
  exact ⟨rfl, below_drewN k os⟩
set_option maxRecDepth 100000 in
theorem within_calls (n lo hi : Int) (w : World) : Calls Tryz.prog 45 #[.int .i64 n, .int .i64 lo, .int .i64 hi] w fun e w' => e = .returned (.bool (decide (lo ≤ n) && decide (n ≤ hi))) ∧ w' = w := by
  by_cases h : lo ≤ n
  · go_enter Tryz.func45, Tryz.ntmps45
    go_wp2
    go_ret
    simp [h]
  · go_enter Tryz.func45, Tryz.ntmps45
    go_wp2
    go_ret
    have h' : decide (lo ≤ n) = false := by simpa using h
    rw [h']
    exact ⟨rfl, rfl⟩
theorem parse_bad (s : ByteArray) (hs : s.size ≤ 281474976710656) (w : World) (hsyn : ErrAt w 4) (hrng : ErrAt w 5) (h : ∀ v, Lib.parseIntB 64 s.data.toList ≠ .ok v) :
    Calls Tryz.prog 69 #[.string s, .int .i64 10, .int .i64 64] w fun e w' => ∃ n t p, e = .returned (.tuple #[.int .i64 n, .iface t p]) ∧ Below w.heap.size w w' := by
  obtain ⟨t1, p1, h1⟩ := hsyn
  obtain ⟨t2, p2, h2⟩ := hrng
  cases hc : Lib.parseIntB 64 s.data.toList with
  | ok v => exact (h v hc).elim
  | «syntax» =>
    refine (Any.strconv_ParseInt_10_at64_syntax Tryz.laysC174 s hs hc _ w h1 (.inr ⟨_, _, rfl⟩)).mono ?_
    rintro e w' ⟨N, rfl, _, _, hB⟩
    exact ⟨_, _, _, rfl, hB⟩
  | range =>
    refine (Any.strconv_ParseInt_10_at64_range Tryz.laysC174 s hs hc _ w h2 (.inr ⟨_, _, rfl⟩)).mono ?_
    rintro e w' ⟨N, rfl, _, _, hB⟩
    exact ⟨_, _, _, rfl, hB⟩
theorem parse_ok (s : ByteArray) (hs : s.size ≤ 281474976710656) (w : World) {v : Int} (h : Lib.parseIntB 64 s.data.toList = .ok v) :
    Calls Tryz.prog 69 #[.string s, .int .i64 10, .int .i64 64] w fun e w' => e = .returned (.tuple #[.int .i64 v, .nilIface]) ∧ Below w.heap.size w w' := by
  refine (Any.strconv_ParseInt_10_at64_ok Tryz.laysC174 s (by omega) v h w).mono ?_
  rintro e w' ⟨rfl, rfl | ⟨t, rfl⟩⟩
  · exact ⟨rfl, Below.refl _ _⟩
  · exact ⟨rfl, Lib.bytesWorld_below _ _ _⟩
set_option maxRecDepth 100000 in
set_option maxHeartbeats 2000000 in
theorem readIn_calls (s : ByteArray) (lo hi : Int) (w : World) (ht : Lib.TabIs Tryz.prog w "internal/strconv.uint64pow10" .u64 Lib.pow10Tab) (hsyn : ErrAt w 4) (hrng : ErrAt w 5) (y : Int × Bool) (hy : readInF s lo hi = some y) :
    Calls Tryz.prog 57 #[.string s, .int .i64 lo, .int .i64 hi] w fun e w' => e = .returned (.tuple #[.int .i64 y.1, .bool y.2]) ∧ Below w.heap.size w w' := by
  unfold readInF at hy
  split at hy
  case isFalse => cases hy
  rename_i hs
  split at hy
  · rename_i v hp
    split at hy
    case isFalse => cases hy
    rename_i hr
    cases hy
    have HP := Sid.mk (parse_ok s hs w hp)
    have hlt := tab_lt (tab_at ht)
    have HD := Sid.mk fun w1 (hB : Below w.heap.size w w1) => dec_calls v hr.1 hr.2 w1 (tab_below hB hlt ht)
    have HW := fun (b : Bool) (hb : (decide (lo ≤ v) && decide (v ≤ hi)) = b) => Sid.mk fun w1 => by have := within_calls v lo hi w1; rw [hb] at this; exact this
    clear hp ht hsyn hrng
    unfold readV
    generalize decS v = d at *
    by_cases h1 : (d.toList == s.toList) = true
    · rw [if_pos h1]
      have h1' : (d.toList != s.toList) = false := by simp [bne, h1]
      by_cases h2 : lo ≤ v
      · by_cases h3 : v ≤ hi
        · rw [if_pos h2, if_pos h3]
          replace HW := HW true (by simp [h2, h3])
          go_enter Tryz.func57, Tryz.ntmps57
          go_wp2_with (first | (go_at_call 69; refine HP.out.mono ?_; rintro e w1 ⟨rfl, hB⟩) | (go_at_call 38; refine (HD.out w1 hB).mono ?_; rintro e w2 ⟨rfl, hB2⟩) | (go_at_call 45; refine (HW.out _).mono ?_; rintro e w3 ⟨rfl, rfl⟩))
          go_ret2
          exact ⟨rfl, hB.trans (hB2.mono hB.size)⟩
        · rw [if_pos h2, if_neg h3]
          replace HW := HW false (by simp [h2, h3])
          go_enter Tryz.func57, Tryz.ntmps57
          go_wp2_with (first | (go_at_call 69; refine HP.out.mono ?_; rintro e w1 ⟨rfl, hB⟩) | (go_at_call 38; refine (HD.out w1 hB).mono ?_; rintro e w2 ⟨rfl, hB2⟩) | (go_at_call 45; refine (HW.out _).mono ?_; rintro e w3 ⟨rfl, rfl⟩))
          go_ret2
          exact ⟨rfl, hB.trans (hB2.mono hB.size)⟩
      · rw [if_neg h2]
        replace HW := HW false (by simp [h2])
        go_enter Tryz.func57, Tryz.ntmps57
        go_wp2_with (first | (go_at_call 69; refine HP.out.mono ?_; rintro e w1 ⟨rfl, hB⟩) | (go_at_call 38; refine (HD.out w1 hB).mono ?_; rintro e w2 ⟨rfl, hB2⟩) | (go_at_call 45; refine (HW.out _).mono ?_; rintro e w3 ⟨rfl, rfl⟩))
        go_ret2
        exact ⟨rfl, hB.trans (hB2.mono hB.size)⟩
    · rw [if_neg h1]
      have h1' : (d.toList == s.toList) = false := by simpa using h1
      go_enter Tryz.func57, Tryz.ntmps57
      go_wp2_with (first | (go_at_call 69; refine HP.out.mono ?_; rintro e w1 ⟨rfl, hB⟩) | (go_at_call 38; refine (HD.out w1 hB).mono ?_; rintro e w2 ⟨rfl, hB2⟩) | (go_at_call 45; refine (HW.out _).mono ?_; rintro e w3 ⟨rfl, rfl⟩))
      go_ret2
      exact ⟨rfl, hB.trans (hB2.mono hB.size)⟩
  · rename_i hn
    cases hy
    have HP := Sid.mk (parse_bad s hs w hsyn hrng (fun v e => hn v e))
    clear hn ht hsyn hrng
    go_enter Tryz.func57, Tryz.ntmps57
    go_wp2_with (go_at_call 69; refine HP.out.mono ?_; rintro e w1 ⟨n, t, p, rfl, hB⟩)
    go_ret2
    exact ⟨rfl, hB⟩
theorem readIn_fn : FnOk Tryz.prog 57 (mkFn 3 [(0, some false, [.fl .str]), (1, some false, [.fl (.int .i64)]), (2, some false, [.fl (.int .i64)])] [(false, [.fl (.int .i64)]), (false, [.fl .bool])] (keepOf []) (fun (y : Int × Bool) => (((y.1, ()), (y.2, ()), ()) : compT [(false, [.fl (.int .i64)]), (false, [.fl .bool])])) fun x => readInF x.1.1 x.2.1.1 x.2.2.1.1) :=
  fnOk_plain fun w g args vs x y hi hl hx hF => by
    obtain ⟨h0, hx⟩ := readCut_cons hx
    obtain ⟨h1, hx⟩ := readCut_cons hx
    obtain ⟨h2, _⟩ := readCut_cons hx
    have e0 := arg_str hi h0
    have e1 := arg_int hi h1
    have e2 := arg_int hi h2
    obtain rfl := list3 (by rw [hi.len]; exact hl) e0 e1 e2
    refine (readIn_calls _ _ _ w (amb_tab hi.amb) (amb_syn hi.amb) (amb_rng hi.amb) y hF).mono ?_
    rintro e w' ⟨rfl, hB⟩
    refine ⟨_, rfl, hB, fun g' => ⟨[.int .i64 y.1, .bool y.2], rfl, rfl, fun i p hp => ?_⟩⟩
    have hp : [((false, [CV.int .i64 y.1]) : Comp), (false, [CV.bool y.2])][i]? = some p := hp
    match i, hp with
    | 0, hp => cases hp; exact ⟨_, rfl, _, rfl, .inr (.inr rfl)⟩
    | 1, hp => cases hp; exact ⟨_, rfl, _, rfl, .inr (.inr rfl)⟩
    | i + 2, hp => simp at hp
end Go.Proofs.YtmgelocefebldaaGreatDoor.T

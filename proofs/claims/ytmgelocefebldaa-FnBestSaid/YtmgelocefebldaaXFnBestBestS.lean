/- The search for the best tube (the reference). -/
import Derived.Test.YtmgelocefebldaaXFnBestBestI
import Derived.Test.YtmgelocefebldaaXFnBestBhd
namespace Go.Proofs.Ytmgelocefebldaa.R
open Go.Rv Go.Rv.Ax
set_option linter.unusedVariables false
set_option linter.unusedSimpArgs false
set_option maxRecDepth 100000
theorem W_of {α : Type} {f : Nat → Option α} {v : α} (h : ∀ k, f k = some v) : W (fun k _ => f k) (· = v) := ⟨v, rfl, 0, fun k _ _ _ => h k⟩
/-! ### the keys that may follow, in order -/
def putG (x : Int) : List Int → List Int → Bool → List Int
  | [], out, d => if d = true then out else out ++ [x]
  | z :: r, out, d => if d = true then putG x r (out ++ [z]) true else if x ≤ z then (if x < z then putG x r (out ++ [x] ++ [z]) true else putG x r (out ++ [z]) true) else putG x r (out ++ [z]) false
theorem putG_t (x z : Int) (r out : List Int) : putG x (z :: r) out true = putG x r (out ++ [z]) true := by simp [putG]
theorem putG_f (x z : Int) (r out : List Int) : putG x (z :: r) out false = if x ≤ z then (if x < z then putG x r (out ++ [x] ++ [z]) true else putG x r (out ++ [z]) true) else putG x r (out ++ [z]) false := by simp [putG]
theorem putG_len (x : Int) : ∀ (r out : List Int) (d : Bool), (putG x r out d).length ≤ r.length + out.length + (if d = true then 0 else 1)
  | [], out, d => by cases d <;> simp [putG]
  | z :: r, out, true => by
    rw [putG_t]
    have := putG_len x r (out ++ [z]) true
    simp at this ⊢; omega
  | z :: r, out, false => by
    rw [putG_f]
    have h1 := putG_len x r (out ++ [x] ++ [z]) true
    have h2 := putG_len x r (out ++ [z]) true
    have h3 := putG_len x r (out ++ [z]) false
    simp at h1 h2 h3
    split
    · split
      · simp; omega
      · simp; omega
    · simp; omega
def putX (l : List Int) (x : Int) : List Int := putG x l [] false
theorem putX_len (l : List Int) (x : Int) : (putX l x).length ≤ l.length + 1 := by
  have := putG_len x l [] false
  unfold putX
  simp at this; omega
theorem putX_w (l : List Int) (x : Int) (hl : l.length ≤ 1000) : W (fun k _ => spec_l00Put.f k l x) (· = putX l x) := by
  refine spec_l00Put.w ?_
  have key : ∀ (rest pre out : List Int) (d : Bool), l = pre ++ rest → out.length ≤ pre.length + 1 → (d = false → out.length ≤ pre.length) → W (fun k m => (spec_l00Put.cs k m) l x out d (pre.length : Int)) (· = putG x rest out d) := by
    intro rest
    induction rest with
    | nil =>
      intro pre out d e ho hd
      have e : l = pre := by simpa using e
      have hpl := congrArg List.length e
      refine spec_l00Put.w0 (W.de (by rw [e]; omega) ?_)
      cases d
      · exact W.nt rfl (W.t (by first | omega | (simp; omega)) (W.ret (by simp [putG])))
      · exact W.ne rfl (W.ret (by simp [putG]))
    | cons z rest ih =>
      intro pre out d e ho hd
      have hlen : l.length = pre.length + (rest.length + 1) := by rw [e]; simp
      have hx : rd 0 l (pre.length : Int) = z := by rw [e]; exact rd_mid _ _ _
      have hp : ((pre ++ [z]).length : Int) = (pre.length : Int) + 1 := by simp
      have step : ∀ (o : List Int) (b : Bool), o.length ≤ pre.length + 2 → (b = false → o.length ≤ pre.length + 1) → W (fun k m => (spec_l00Put.cs k m) l x o b ((pre.length : Int) + 1)) (· = putG x rest o b) := by
        intro o b h1 h2
        have := ih (pre ++ [z]) o b (by simp [e]) (by simp; omega) (fun h => by have := h2 h; simp; omega)
        rw [hp] at this; exact this
      refine spec_l00Put.w0 (W.dt (by omega) ?_)
      rw [hx, w64 (i := (pre.length : Int) + 1) (by omega) (by omega)]
      cases d
      · have hd := hd rfl
        rw [putG_f]
        refine W.nt rfl (W.t (by omega) (W.t (by omega) (W.di (fun h1 => ?_) (fun h1 => ?_))))
        · rw [if_pos h1]
          refine W.t (by omega) (W.t (by omega) (W.di (fun h2 => ?_) (fun h2 => ?_)))
          · rw [if_pos h2]
            exact W.t (by first | omega | (simp; omega)) (W.t (by omega) (W.t (by omega) (W.t (by first | omega | (simp; omega)) (step _ _ (by simp; omega) (fun h => by cases h)))))
          · rw [if_neg h2]
            exact W.t (by omega) (W.t (by omega) (W.t (by first | omega | (simp; omega)) (step _ _ (by simp; omega) (fun h => by cases h))))
        · rw [if_neg h1]
          exact W.t (by omega) (W.t (by omega) (W.t (by first | omega | (simp; omega)) (step _ _ (by simp; omega) (fun _ => by simp; omega))))
      · rw [putG_t]
        exact W.ne rfl (W.t (by omega) (W.t (by omega) (W.t (by first | omega | (simp; omega)) (step _ _ (by simp; omega) (fun h => by cases h)))))
  exact key l [] [] false rfl (by simp) (by simp)
def nextX (a : Int) : List Int := ([2, 5, 8, 11, 14] : List Int).foldl (fun o d => putX o ((a + d).tmod 16)) []
theorem nextX_w (a : Int) (ha : 0 ≤ a ∧ a ≤ 15) : W (fun k _ => spec_l03Next.f k a) (· = nextX a) := by
  refine spec_l03Next.w ?_
  have st : ∀ d ∈ ([2, 5, 8, 11, 14] : List Int), 0 ≤ d ∧ d ≤ 14 := by simp
  have key : ∀ (ps pre out : List Int), ([2, 5, 8, 11, 14] : List Int) = pre ++ ps → out.length ≤ pre.length → W (fun k m => (spec_l03Next.cs k m) a out [2, 5, 8, 11, 14] (pre.length : Int)) (· = ps.foldl (fun o d => putX o ((a + d).tmod 16)) out) := by
    intro ps
    induction ps with
    | nil =>
      intro pre out e ho
      have hl := congrArg List.length e
      simp at hl
      exact spec_l03Next.w0 (W.de (by simp only [List.length_cons, List.length_nil]; omega) (W.ret rfl))
    | cons p ps ih =>
      intro pre out e ho
      have hl := congrArg List.length e
      simp at hl
      have hx : rd 0 ([2, 5, 8, 11, 14] : List Int) (pre.length : Int) = p := by rw [e]; exact rd_mid _ _ _
      have hpm : p ∈ ([2, 5, 8, 11, 14] : List Int) := by rw [e]; simp
      have hpp := st p hpm
      refine spec_l03Next.w0 (W.dt (by simp only [List.length_cons, List.length_nil]; omega) (W.t (by omega) (W.t (by simp only [List.length_cons, List.length_nil]; omega) (W.e (by omega) ?_))))
      rw [hx, w64 (i := a + p) (by omega) (by omega), w64 (i := (pre.length : Int) + 1) (by omega) (by omega)]
      refine W.bindE (putX_w out _ (by omega)) ?_
      have hpx := putX_len out ((a + p).tmod 16)
      have := ih (pre ++ [p]) (putX out ((a + p).tmod 16)) (by rw [e]; simp) (by simp; omega)
      simpa using this
  exact key _ [] [] rfl (by simp)
def ks (a : Int) : List Int := ((List.range 16).map fun (j : Nat) => (j : Int)).filter fun y => !meets a y
theorem nextX_all : ((List.range 16).all fun a => decide (nextX (a : Int) = ks (a : Int))) = true := by decide +kernel
theorem nextX_ks {a : Int} (ha : 0 ≤ a ∧ a ≤ 15) : nextX a = ks a := by
  obtain ⟨n, hn, rfl⟩ := in16 ha
  have := List.all_eq_true.1 nextX_all n hn
  simpa using this
theorem ks_len (a : Int) : (ks a).length ≤ 16 := by
  unfold ks
  refine Nat.le_trans (List.length_filter_le _ _) ?_
  simp
theorem all_w (L : List Int) (hl : L.length ≤ 1000) : W (fun k _ => spec_l03All.f k L) (· = L.map (fun y => ((0, y) : Ri)) ++ L.map (fun y => ((1, y) : Ri))) := by
  refine spec_l03All.w ?_
  have inner : ∀ (F : List Ri → List Ri) (kd : Int) (B : Nat), 0 ≤ kd ∧ kd ≤ 1 → B ≤ 1000 → (∀ out : List Ri, out.length ≤ B + L.length → W (fun k m => (spec_l03All.cs k m).1 L out (kd + 1)) (· = F out)) →
      ∀ (rest pre : List Int) (out : List Ri), L = pre ++ rest → out.length ≤ B + pre.length → W (fun k m => (spec_l03All.cs k m).2 L out kd (pre.length : Int)) (· = F (out ++ rest.map fun y => ((kd, y) : Ri))) := by
    intro F kd B hkd hB hnext rest
    induction rest with
    | nil =>
      intro pre out e ho
      have e : L = pre := by simpa using e
      have hpl := congrArg List.length e
      refine spec_l03All.w1 (W.de (by omega) ?_)
      rw [w64 (i := kd + 1) (by omega) (by omega)]
      have := hnext out (by omega)
      simpa using this
    | cons z rest ih =>
      intro pre out e ho
      have hlen : L.length = pre.length + (rest.length + 1) := by rw [e]; simp
      have hx : rd 0 L (pre.length : Int) = z := by rw [e]; exact rd_mid _ _ _
      have hp : ((pre ++ [z]).length : Int) = (pre.length : Int) + 1 := by simp
      refine spec_l03All.w1 (W.dt (by omega) (W.t (by omega) (W.t (by omega) (W.t (by first | omega | (simp; omega)) ?_))))
      rw [hx, w64 (i := (pre.length : Int) + 1) (by omega) (by omega)]
      have := ih (pre ++ [z]) (out ++ [(kd, z)]) (by simp [e]) (by simp; omega)
      rw [hp] at this
      simpa using this
  have c2 : ∀ out : List Ri, W (fun k m => (spec_l03All.cs k m).1 L out 2) (· = out) := fun out => spec_l03All.w0 (W.de (by omega) (W.ret rfl))
  have c1 : ∀ out : List Ri, out.length ≤ 0 + L.length → W (fun k m => (spec_l03All.cs k m).1 L out (0 + 1)) (· = out ++ L.map fun y => ((1, y) : Ri)) := fun out ho => spec_l03All.w0 (W.dt (by omega) (inner id 1 L.length (by omega) (by omega) (fun out _ => c2 out) L [] out rfl (by simp; omega)))
  refine spec_l03All.w0 (W.dt (by omega) ?_)
  have := inner (fun out => out ++ L.map fun y => ((1, y) : Ri)) 0 0 (by omega) (by omega) c1 L [] [] rfl (by simp)
  simpa using this
def rows (l : Int) : List Ri := (rowR 0 0 16 ++ rowR 1 0 16).filter fun r => !meets l r.2
theorem rows_eq (l : Int) : (ks l).map (fun y => ((0, y) : Ri)) ++ (ks l).map (fun y => ((1, y) : Ri)) = rows l := by
  have one : ∀ kd : Int, (rowR kd 0 16).filter (fun r => !meets l r.2) = (ks l).map fun y => ((kd, y) : Ri) := fun kd => by
    have e : rowR kd 0 16 = ((List.range 16).map fun (j : Nat) => (j : Int)).map fun y => ((kd, y) : Ri) := by
      simp [rowR, List.map_map, Function.comp_def]
    rw [e, List.filter_map]; rfl
  unfold rows
  rw [List.filter_append, one, one]
theorem rows_ok {l : Int} {r : Ri} (h : r ∈ rows l) : ringB r.1 r.2 = true ∧ meets l r.2 = false := by
  unfold rows at h
  rw [List.mem_filter] at h
  exact ⟨mem_rows h.1, by simpa using h.2⟩
theorem rows_len (l : Int) : (rows l).length ≤ 32 := by
  unfold rows
  refine Nat.le_trans (List.length_filter_le _ _) ?_
  simp [rowR]
theorem srch_rows (cost : List Ri → Option Int) (d : Nat) (l : Int) (t : List Ri) (s : SB) : srch cost (d + 1) l t s = (rows l).foldl (fun s r => srch cost d r.2 (t ++ [r]) s) s := by
  unfold rows
  rw [srch, List.foldl_filter]
  congr 1
  funext s r
  unfold stpS
  cases meets l r.2 <;> rfl
/-! ### the search -/
open spec_l03Search_grow in
theorem growB_w (G : List Po) (c : Nat) (hc : 1 ≤ c ∧ c ≤ 4) (hGl : c ≤ G.length) (hGo : ∀ q ∈ G, okP q = true) (s0 : Po) (b : Int) (hb : 0 ≤ b ∧ b ≤ 15) :
    ∀ (d : Nat) (t : List Ri) (s : SB) (lk l : Int) (q : Po) (v : Int), t.length + d = c → chn (some b) t = true → lastOr (some b) t = some l → 0 ≤ l ∧ l ≤ 15 → okP q = true → runP G 0 s0 0 t = some (q, v) → 0 ≤ v ∧ v ≤ 80000000000 * (t.length : Int) → Fnd (costT G s0) b c s →
    W (fun k n => fr k n G (c : Int) t s.2.2 s.2.1 lk l q.1 q.2.1 q.2.2.1 q.2.2.2 v) (· = (G, (c : Int), t, (srch (costT G s0) d l t s).2.2, (srch (costT G s0) d l t s).2.1)) := by
  intro d
  induction d with
  | zero =>
    intro t s lk l q v hl ht hq hl15 hok hrun hv hs
    refine W.step (g' := fun k n => body k (fr k n) G (c : Int) t s.2.2 s.2.1 lk l q.1 q.2.1 q.2.2.1 q.2.2.2 v) (fun _ _ => rfl) ?_
    unfold body
    have hcost : costT G s0 t = some v := by unfold costT; rw [runT_P, hrun]; rfl
    have hu : srch (costT G s0) 0 l t s = if s.1 = true ∧ s.2.1 ≤ v then s else (true, v, t) := by unfold srch upS; rw [hcost]
    refine W.dt (by omega) ?_
    cases hs1 : s.1
    · have h2 := hs.no hs1
      have hF : srch (costT G s0) 0 l t s = (true, v, t) := by rw [hu, if_neg (by rw [hs1]; simp)]
      have h3 : s.2.2 = [] := by rw [h2]
      rw [hF]
      exact W.dt (by rw [h3]; rfl) (W.t (by first | omega | (simp; omega)) (W.ret (by simp)))
    · have h2 := (hs.yes hs1).1
      refine W.de (by omega) (W.di (fun hlt => ?_) (fun hge => ?_))
      · have hF : srch (costT G s0) 0 l t s = (true, v, t) := by rw [hu, if_neg (by omega)]
        rw [hF]
        exact W.t (by first | omega | (simp; omega)) (W.ret (by simp))
      · have hF : srch (costT G s0) 0 l t s = s := by rw [hu, if_pos ⟨hs1, by omega⟩]
        rw [hF]
        exact W.ret rfl
  | succ d ih =>
    intro t s lk l q v hl ht hq hl15 hok hrun hv hs
    refine W.step (g' := fun k n => body k (fr k n) G (c : Int) t s.2.2 s.2.1 lk l q.1 q.2.1 q.2.2.1 q.2.2.2 v) (fun _ _ => rfl) ?_
    unfold body
    have hk := ks_len l
    refine W.de (by omega) (W.bindE (nextX_w l hl15) ?_)
    rw [nextX_ks hl15]
    refine W.bindE (all_w (ks l) (by omega)) ?_
    rw [rows_eq, srch_rows]
    have hRl := rows_len l
    have hg : okP (rd zP G (t.length : Int)) = true := by
      rw [rd_ofNat (by omega) (by omega)]
      exact hGo _ (List.getElem_mem _)
    have key : ∀ (rest pre : List Ri) (s' : SB), rows l = pre ++ rest → Fnd (costT G s0) b c s' →
        W3 (fun k n r => (cs k (fr k n) r).1 G (c : Int) t s'.2.2 s'.2.1 v q.1 q.2.1 q.2.2.1 q.2.2.2 (t.length : Int) (rows l) (pre.length : Int)) (· = (G, (c : Int), t, (rest.foldl (fun s r => srch (costT G s0) d r.2 (t ++ [r]) s) s').2.2, (rest.foldl (fun s r => srch (costT G s0) d r.2 (t ++ [r]) s) s').2.1)) := by
      intro rest
      induction rest with
      | nil =>
        intro pre s' e hs'
        have e : rows l = pre := by simpa using e
        have hpl := congrArg List.length e
        refine W3.step (g' := fun k n r => (spec_l03Search_grow.step k (fr k n) (cs k (fr k n) r)).1 G (c : Int) t s'.2.2 s'.2.1 v q.1 q.2.1 q.2.2.1 q.2.2.2 (t.length : Int) (rows l) (pre.length : Int)) (fun _ _ _ => rfl) ?_
        unfold spec_l03Search_grow.step
        exact W3.de (by omega) (W3.ret rfl)
      | cons r rest ihr =>
        intro pre s' e hs'
        have hlen : (rows l).length = pre.length + (rest.length + 1) := by rw [e]; simp
        have hx : rd (0, 0) (rows l) (pre.length : Int) = r := by rw [e]; exact rd_mid _ _ _
        have hp : ((pre ++ [r]).length : Int) = (pre.length : Int) + 1 := by simp
        obtain ⟨hr, hm⟩ := rows_ok (l := l) (r := r) (by rw [e]; simp)
        have hcont : ∀ s2 : SB, Fnd (costT G s0) b c s2 → W3 (fun k n r' => (cs k (fr k n) r').1 G (c : Int) t s2.2.2 s2.2.1 v q.1 q.2.1 q.2.2.1 q.2.2.2 (t.length : Int) (rows l) ((pre.length : Int) + 1)) (· = (G, (c : Int), t, (rest.foldl (fun s r => srch (costT G s0) d r.2 (t ++ [r]) s) s2).2.2, (rest.foldl (fun s r => srch (costT G s0) d r.2 (t ++ [r]) s) s2).2.1)) := fun s2 h2 => by
          have := ihr (pre ++ [r]) s2 (by simp [e]) h2
          rw [hp] at this
          exact this
        have hch : chn (some b) (t ++ [r]) = true := chn_snoc t (some b) r ht hr (by rw [hq]; simp [mtk, hm])
        refine W3.step (g' := fun k n r' => (spec_l03Search_grow.step k (fr k n) (cs k (fr k n) r')).1 G (c : Int) t s'.2.2 s'.2.1 v q.1 q.2.1 q.2.2.1 q.2.2.2 (t.length : Int) (rows l) (pre.length : Int)) (fun _ _ _ => rfl) ?_
        unfold spec_l03Search_grow.step
        refine W3.dt (by omega) (W3.t (by omega) (W3.t (by omega) ?_))
        rw [hx, w64 (i := (pre.length : Int) + 1) (by omega) (by omega)]
        refine W3.bind (W_of fun k => (turn_eq k r.1 r.2 hr).1) fun t3 e3 => ?_
        subst e3
        refine W3.bind (nextPB_w (c := cuOf r) hok (turn_ok hr)) fun t4 e4 => ?_
        subst e4
        rw [List.foldl_cons]
        cases hn : okP (nxt q (cuOf r))
        · have hv0 : nextV q (cuOf r) = (0, 0, 0, 0, false) := by unfold nextV; rw [hn]; rfl
          rw [hv0]
          have hsk : srch (costT G s0) d r.2 (t ++ [r]) s' = s' := srch_none d _ _ s' fun x z hxl hz => by
            rw [List.append_assoc, List.singleton_append] at hz
            unfold costT at hz
            rw [runT_app t (r :: x) hrun, runT, hn] at hz
            cases hz
          rw [hsk]
          exact W3.t rfl (hcont s' hs')
        · have hv0 : nextV q (cuOf r) = ((nxt q (cuOf r)).1, (nxt q (cuOf r)).2.1, (nxt q (cuOf r)).2.2.1, (nxt q (cuOf r)).2.2.2, true) := by unfold nextV; rw [hn]; rfl
          rw [hv0]
          have hrun2 := runP_snoc t r hrun hn
          rw [Nat.zero_add] at hrun2
          refine W3.e (by simp) (W3.t (by omega) (W3.t (by omega) ?_))
          dsimp only
          generalize hqn : nxt q (cuOf r) = q' at *
          have a1 := okP_iff.1 hn
          have a2 := okP_iff.1 hg
          have b1 := sq_bd (a := q'.1 - (rd zP G (t.length : Int)).1) (by omega)
          have b2 := sq_bd (a := q'.2.1 - (rd zP G (t.length : Int)).2.1) (by omega)
          have hsq : sqd q' (rd zP G (t.length : Int)) = (q'.1 - (rd zP G (t.length : Int)).1) * (q'.1 - (rd zP G (t.length : Int)).1) + (q'.2.1 - (rd zP G (t.length : Int)).2.1) * (q'.2.1 - (rd zP G (t.length : Int)).2.1) := rfl
          refine W3.bind (W_of (v := [q'.1 - (rd zP G (t.length : Int)).1, q'.2.1 - (rd zP G (t.length : Int)).2.1]) fun k => ?_) fun t5 e5 => ?_
          · unfold spec_l03Off.f
            rw [w64 (i := q'.1 - (rd zP G (t.length : Int)).1) (by omega) (by omega), w64 (i := q'.2.1 - (rd zP G (t.length : Int)).2.1) (by omega) (by omega)]
          subst e5
          have hm : wrap64 (wrap64 (v + wrap64 (rd 0 [q'.1 - (rd zP G (t.length : Int)).1, q'.2.1 - (rd zP G (t.length : Int)).2.1] 0 * rd 0 [q'.1 - (rd zP G (t.length : Int)).1, q'.2.1 - (rd zP G (t.length : Int)).2.1] 0)) + wrap64 (rd 0 [q'.1 - (rd zP G (t.length : Int)).1, q'.2.1 - (rd zP G (t.length : Int)).2.1] 1 * rd 0 [q'.1 - (rd zP G (t.length : Int)).1, q'.2.1 - (rd zP G (t.length : Int)).2.1] 1)) = v + sqd q' (rd zP G (t.length : Int)) := by
            show wrap64 (wrap64 (v + wrap64 ((q'.1 - (rd zP G (t.length : Int)).1) * (q'.1 - (rd zP G (t.length : Int)).1))) + wrap64 ((q'.2.1 - (rd zP G (t.length : Int)).2.1) * (q'.2.1 - (rd zP G (t.length : Int)).2.1))) = _
            rw [hsq, w64 (i := (q'.1 - (rd zP G (t.length : Int)).1) * (q'.1 - (rd zP G (t.length : Int)).1)) (by omega) (by omega), w64 (i := (q'.2.1 - (rd zP G (t.length : Int)).2.1) * (q'.2.1 - (rd zP G (t.length : Int)).2.1)) (by omega) (by omega), w64 (i := v + _) (by omega) (by omega), w64 (by omega) (by omega)]
            omega
          rw [hm]
          have hlim : 0 ≤ v + sqd q' (rd zP G (t.length : Int)) ∧ v + sqd q' (rd zP G (t.length : Int)) ≤ 80000000000 * ((t ++ [r]).length : Int) := by
            rw [hsq, List.length_append, List.length_singleton]; omega
          refine W3.t (by omega) (W3.t (by simp) (W3.t (by omega) (W3.t (by simp) (W3.t (by omega) (W3.t (by simp) (W3.t (by omega) (W3.t (by simp) ?_)))))))
          have go : W3 (fun k n r' => (cs k (fr k n) r').2 G (c : Int) t s'.2.2 s'.2.1 v q.1 q.2.1 q.2.2.1 q.2.2.2 (t.length : Int) (rows l) (pre.length : Int) q'.1 q'.2.1 q'.2.2.1 q'.2.2.2 (v + sqd q' (rd zP G (t.length : Int)))) (· = (G, (c : Int), t, (rest.foldl (fun s r => srch (costT G s0) d r.2 (t ++ [r]) s) (srch (costT G s0) d r.2 (t ++ [r]) s')).2.2, (rest.foldl (fun s r => srch (costT G s0) d r.2 (t ++ [r]) s) (srch (costT G s0) d r.2 (t ++ [r]) s')).2.1)) := by
            refine W3.step (g' := fun k n r' => (spec_l03Search_grow.step k (fr k n) (cs k (fr k n) r')).2 G (c : Int) t s'.2.2 s'.2.1 v q.1 q.2.1 q.2.2.1 q.2.2.2 (t.length : Int) (rows l) (pre.length : Int) q'.1 q'.2.1 q'.2.2.1 q'.2.2.2 (v + sqd q' (rd zP G (t.length : Int)))) (fun _ _ _ => rfl) ?_
            unfold spec_l03Search_grow.step
            dsimp only
            rw [hx, w64 (i := (pre.length : Int) + 1) (by omega) (by omega)]
            refine W3.t (by omega) (W3.t (by omega) (W3.t (by simp; omega) (W3.t (by omega) (W3.t (by omega) ?_))))
            refine W3.call (ih (t ++ [r]) s' r.1 r.2 q' _ (by simp; omega) hch (lastOr_snoc t _ r) (keyB hr) hn hrun2 hlim hs') fun t6 e6 => ?_
            subst e6
            dsimp only
            refine W3.t (by omega) (W3.t (by simp; omega) ?_)
            have htk : (t ++ [r]).take ((t.length : Int)).toNat = t := by simp
            rw [htk]
            exact hcont _ (srch_fnd d _ _ s' (by simp; omega) hch (lastOr_snoc t _ r) hs')
          cases hs1 : s'.1
          · have h2 := hs'.no hs1
            have h2' : s'.2.2 = [] := by rw [h2]
            exact W3.de (by rw [h2']; simp) go
          · have h2 := (hs'.yes hs1).1
            refine W3.dt (by omega) ?_
            by_cases hle : s'.2.1 ≤ v + sqd q' (rd zP G (t.length : Int))
            · refine W3.dt hle ?_
              have hsk : srch (costT G s0) d r.2 (t ++ [r]) s' = s' := srch_none d _ _ s' fun x z hxl hz => by
                unfold costT at hz
                rw [runT_app (t ++ [r]) x hrun2] at hz
                have := runT_le x hz
                exact ⟨hs1, by omega⟩
              rw [hsk]
              exact hcont s' hs'
            · exact W3.de hle go
    exact W3.diag (key (rows l) [] s rfl hs)
theorem specBest_w (p : Po) (l : List Cu) (b : Int) (s : Po) (kd key c : Int) (hb : -9223372036854775808 ≤ b ∧ b ≤ 9223372036854775807) : W (fun k _ => spec_BestTube.f k p.1 p.2.1 p.2.2.1 p.2.2.2 l b s.1 s.2.1 s.2.2.1 s.2.2.2 kd key c) (· = bestV p l b s kd key c) := by
  have no : bestOk p l b s kd key c ≠ true → bestV p l b s kd key c = ([], 0, false) := fun h => by unfold bestV; rw [if_neg h]
  refine spec_BestTube.w (W.bindN (fun k => (ring_eq k kd key).1) ?_)
  by_cases hr : ringB kd key = true
  case neg => exact W.nt (by simpa using hr) (W.ret (no fun h => hr (bestOk_iff.1 h).1).symm)
  refine W.ne hr (W.bindE (spec_ValidPose.w (W.bindN (fun k => specPose_eq k s) (W.ret rfl))) ?_)
  by_cases h4 : okP s = true
  case neg => exact W.nt (by simpa using h4) (W.ret (no fun h => h4 (bestOk_iff.1 h).2.1).symm)
  refine W.ne h4 (W.bindN (fun k => l00In_eq k _ _ _) ?_)
  by_cases h5 : 1 ≤ c ∧ c ≤ 4
  case neg => exact W.nt (inR_no.2 h5) (W.ret (no fun h => h5 (bestOk_iff.1 h).2.2.1).symm)
  refine W.ne (inR_iff.2 h5) (W.bindE (behindB_w p l b c hb (by omega)) ?_)
  cases hbh : (decide (Ok p l) && (decide (0 ≤ b) && decide (b + c ≤ ((tl l).length : Int))))
  · refine W.nt rfl (W.ret (no fun h => ?_).symm)
    obtain ⟨_, _, _, q1, q2, q3⟩ := bestOk_iff.1 h
    simp [q1, q2, q3] at hbh
  simp only [Bool.and_eq_true, decide_eq_true_eq] at hbh
  obtain ⟨h1, h3, h6⟩ := hbh
  have hpl := poses_length p l
  have hlen := h1.len
  obtain ⟨n, rfl⟩ : ∃ n : Nat, c = (n : Int) := ⟨c.toNat, by omega⟩
  refine W.ne rfl (spec_BestTube.w0 (W.bindE (specPoses_w h1) ?_))
  rw [w64 (i := b + 1) (by omega) (by omega)]
  refine W.t (by omega) (W.t (by omega) ?_)
  have hfn : Fnd (costT ((poses p l).drop (b + 1).toNat) s) key n (false, 0, []) := ⟨fun e => (by cases e), fun _ => rfl⟩
  have hf : W (fun k _ => spec_l03Search_grow.f k ((poses p l).drop (b + 1).toNat) (n : Int) ([] : List (Int × Int)) ([] : List (Int × Int)) 0 kd key s.1 s.2.1 s.2.2.1 s.2.2.2 0) _ :=
    W.diag (growB_w ((poses p l).drop (b + 1).toNat) n (by omega) (by rw [List.length_drop]; omega) (fun q hq => h1.poses q (List.mem_of_mem_drop hq)) s key (keyB hr) n [] (false, 0, []) kd key s 0 (by simp) rfl rfl (keyB hr) h4 rfl (by simp) hfn)
  refine W.bindE hf ?_
  have hF := srch_fnd (cost := costT ((poses p l).drop (b + 1).toNat) s) n key [] (false, 0, []) (by simp) rfl rfl hfn
  have hok : bestOk p l b s kd key (n : Int) = true := bestOk_iff.2 ⟨hr, h4, h5, h1, h3, h6⟩
  have hbv : bestV p l b s kd key (n : Int) = (if (bestGo p l b s key n).1 = true then ((bestGo p l b s key n).2.2, (bestGo p l b s key n).2.1, true) else ([], 0, false)) := by unfold bestV; rw [if_pos hok]; rfl
  rw [hbv]
  have hF : Fnd (costT ((poses p l).drop (b + 1).toNat) s) key n (bestGo p l b s key n) := hF
  show W (fun k m => if decide (((bestGo p l b s key n).2.2.length : Int) = 0) = true then some ([], 0, false) else some ((bestGo p l b s key n).2.2, (bestGo p l b s key n).2.1, true)) _
  cases hg : (bestGo p l b s key n).1
  · have h2 := hF.no hg
    have h2' : (bestGo p l b s key n).2.2 = [] := by rw [h2]
    exact W.dt (by rw [h2']; simp) (W.ret (by simp))
  · have h2 := (hF.yes hg).1
    exact W.de (by omega) (W.ret (by simp))
end Go.Proofs.Ytmgelocefebldaa.R

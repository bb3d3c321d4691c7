/- Regions that draw their order. -/
import Derived.Test.YtlkmjldhhoopcaaRvRegion
import Derived.Test.YtlkmjldhhoopcaaRvLocal4
namespace Go.Rv
set_option linter.unusedSimpArgs false
set_option linter.unusedVariables false
open Classical
/-- a step whose places are known -/
noncomputable def stpF (X : Env) (E : FuncId → Option Fn) (ops : List Oper) (o : Oper) (fp : FP) (fr : Fr) : Option Fr :=
  guardK ops o fr (fun fr => if addR (gLoc ops o) (pureFoot o []) = fp then fin X fr o.dst (.comp false [.undef]) some else none)
    (fun fr => if addR (gLoc ops o) (foot X E o fr) = fp then stepOp X E o fr some else none)
section
variable {X : Env} {E : FuncId → Option Fn} {fr fr' fr1 : Fr} {o : Oper} {ops : List Oper} {R : Type}
def gk {R : Type} (k : Option Bool) (no yes : Fr → Option R) (fr : Fr) : Option R := match k with
  | some true => yes fr
  | some false => no fr
  | none => none
theorem guardK_pick (ha : Agr fr fr' (gLoc ops o)) : ∃ k : Option Bool, ∀ {R : Type} (no yes : Fr → Option R), guardK ops o fr no yes = gk k no yes fr ∧ guardK ops o fr' no yes = gk k no yes fr' := by
  unfold guardK
  unfold gLoc at ha
  cases hg : o.guard with
  | none => exact ⟨some true, fun no yes => ⟨rfl, rfl⟩⟩
  | some q =>
    obtain ⟨j, want⟩ := q
    rw [hg] at ha
    simp only at ha ⊢
    cases hj : ops[j]? with
    | none => exact ⟨none, fun no yes => ⟨rfl, rfl⟩⟩
    | some oj =>
      rw [hj] at ha
      simp only at ha ⊢
      cases hd : oj.dst with
      | none => exact ⟨none, fun no yes => ⟨rfl, rfl⟩⟩
      | some d =>
        rw [hd] at ha
        simp only
        have hsh := ha.shape (s := d) List.mem_cons_self
        cases hf : fr d with
        | tup vs => rw [hf] at hsh; obtain ⟨us, e, _⟩ := shape_tup hsh; rw [e]; exact ⟨none, fun no yes => ⟨rfl, rfl⟩⟩
        | box cs => rw [hf] at hsh; obtain ⟨ds, e⟩ := shape_box (x := fr' d) (cs := []) hsh.symm; rw [e]; exact ⟨none, fun no yes => ⟨rfl, rfl⟩⟩
        | comp gg cs =>
          rw [hf] at hsh
          have hf' := shape_eq (x := .comp gg cs) hsh rfl
          rw [hf']
          by_cases hb : ∃ b, gg = false ∧ cs = [.bool b]
          · obtain ⟨b, rfl, rfl⟩ := hb
            cases b
            · refine ⟨some !want, fun no yes => ?_⟩
              simp only [Bool.false_eq_true, if_false]
              rw [upd_idem fr d hf, upd_idem fr' d hf']
              cases want <;> exact ⟨rfl, rfl⟩
            · refine ⟨some want, fun no yes => ?_⟩
              simp only [if_true]
              rw [upd_idem fr d hf, upd_idem fr' d hf']
              cases want <;> exact ⟨rfl, rfl⟩
          · by_cases hu : gg = false ∧ cs = [.undef]
            · obtain ⟨rfl, rfl⟩ := hu
              exact ⟨some false, fun no yes => ⟨rfl, rfl⟩⟩
            · refine ⟨none, fun no yes => ?_⟩
              constructor
              · split
                · rename_i e; cases e; exact (hb ⟨_, rfl, rfl⟩).elim
                · rename_i e; cases e; exact (hu ⟨rfl, rfl⟩).elim
                · rfl
              · split
                · rename_i e; cases e; exact (hb ⟨_, rfl, rfl⟩).elim
                · rename_i e; cases e; exact (hu ⟨rfl, rfl⟩).elim
                · rfl
theorem addR_some {l R W : List Loc} {fp : FP} (h : addR l fp = some (R, W)) : ∃ R0, fp = some (R0, W) ∧ R = l ++ R0 := by
  cases fp with
  | none => cases h
  | some q =>
    obtain ⟨r, w⟩ := q
    simp only [addR, Option.some.injEq, Prod.mk.injEq] at h
    exact ⟨r, by rw [h.2], h.1.symm⟩
theorem stp_like {R W : List Loc} (h : stpF X E ops o (some (R, W)) fr = some fr1) (ha : Agr fr fr' R) : Like (stpF X E ops o (some (R, W)) fr') fr' fr1 W := by
  have hg : Agr fr fr' (gLoc ops o) := by
    have h := h
    unfold stpF at h
    obtain ⟨k, hk⟩ := guardK_pick (fr := fr) (fr' := fr) (ops := ops) (o := o) (fun _ _ _ => rfl)
    rw [(hk _ _).1] at h
    cases k with
    | none => cases h
    | some k =>
      cases k
      · obtain ⟨h1, h2⟩ := ite_some h
        obtain ⟨R0, _, rfl⟩ := addR_some h1
        exact ha.left
      · obtain ⟨h1, h2⟩ := ite_some h
        obtain ⟨R0, _, rfl⟩ := addR_some h1
        exact ha.left
  unfold stpF at h ⊢
  obtain ⟨k, hk⟩ := guardK_pick hg
  rw [(hk _ _).1] at h
  rw [(hk _ _).2]
  cases k with
  | none => cases h
  | some k =>
    cases k
    · obtain ⟨h1, h2⟩ := ite_some h
      obtain ⟨R0, hf, rfl⟩ := addR_some h1
      simp only [pureFoot, Option.some.injEq, Prod.mk.injEq] at hf
      obtain ⟨rfl, rfl⟩ := hf
      simp only [gk]
      rw [if_pos h1]
      exact fin_like h2 ha.right.right
    · obtain ⟨h1, h2⟩ := ite_some h
      obtain ⟨R0, hf, rfl⟩ := addR_some h1
      obtain ⟨q1, q2⟩ := step_like hf ha.right h2
      simp only [gk]
      rw [q1]
      rw [if_pos (show addR (gLoc ops o) (some (R0, W)) = some (gLoc ops o ++ R0, W) from rfl)]
      exact q2
/-! ### The order does not matter -/
def Path (F : Nat → Fr → Option Fr) : List Nat → Fr → Fr → Prop
  | [], f, f' => f = f'
  | i :: l, f, f' => ∃ g, F i f = some g ∧ Path F l g f'
noncomputable def opF (X : Env) (E : FuncId → Option Fn) (ops : List Oper) (fps : List FP) (i : Nat) (fr : Fr) : Option Fr :=
  match ops[i]?, fps[i]? with
  | some o, some fp => stpF X E ops o fp fr
  | _, _ => none
def apartAt (fps : List FP) (i j : Nat) : Prop := ∃ f g, fps[i]? = some f ∧ fps[j]? = some g ∧ fpApart f g = true
theorem swap {fps : List FP} {i j : Nat} (hij : apartAt fps i j) {f0 f1 f2 : Fr} (h1 : opF X E ops fps i f0 = some f1) (h2 : opF X E ops fps j f1 = some f2) : ∃ g, opF X E ops fps j f0 = some g ∧ opF X E ops fps i g = some f2 := by
  obtain ⟨p, q, hp, hq, hap⟩ := hij
  unfold opF at *
  rw [hp] at h1 ⊢
  rw [hq] at h2 ⊢
  cases hoi : ops[i]? with
  | none => rw [hoi] at h1; cases h1
  | some oi => cases hoj : ops[j]? with
    | none => rw [hoj] at h2; cases h2
    | some oj =>
      rw [hoi] at h1
      rw [hoj] at h2
      simp only at h1 h2 ⊢
      cases p with
      | none => simp [fpApart] at hap
      | some p => cases q with
        | none => simp [fpApart] at hap
        | some q =>
          obtain ⟨R1, W1⟩ := p
          obtain ⟨R2, W2⟩ := q
          simp only [fpApart, Bool.and_eq_true] at hap
          obtain ⟨d1, d2, d3⟩ := hap
          -- off its places, the first leaves the frame alone
          obtain ⟨_, e1, _, off1⟩ := (stp_like h1 (fr' := f0) fun _ _ _ => rfl).ex
          rw [h1] at e1; cases e1
          obtain ⟨_, e2, _, off2⟩ := (stp_like h2 (fr' := f1) fun _ _ _ => rfl).ex
          rw [h2] at e2; cases e2
          have a1 : Agr f1 f0 R2 := fun s c hi => off1 s c fun hw => disj_spec d1 hw hi
          obtain ⟨g, g1, g2, g3⟩ := (stp_like h2 a1).ex
          have a2 : Agr f0 g R1 := fun s c hi => (g3 s c fun hw => disj_spec d3 hi hw).symm
          obtain ⟨k, k1, k2, k3⟩ := (stp_like h1 a2).ex
          refine ⟨g, g1, ?_⟩
          rw [k1]
          congr 1
          funext s
          refine pv_ext fun c => ?_
          by_cases hw1 : Inn s c W1
          · have hn2 : ¬ Inn s c W2 := fun hw2 => disj_spec d2 hw1 hw2
            rw [← k2 s c hw1, off2 s c hn2]
          · rw [k3 s c hw1]
            by_cases hw2 : Inn s c W2
            · exact (g2 s c hw2).symm
            · rw [g3 s c hw2, off2 s c hw2, off1 s c hw1]
theorem front {fps : List FP} {j : Nat} : ∀ (l1 : List Nat) {l2 : List Nat} {f f' : Fr}, (∀ i ∈ l1, apartAt fps i j) → Path (opF X E ops fps) (l1 ++ j :: l2) f f' → ∃ g, opF X E ops fps j f = some g ∧ Path (opF X E ops fps) (l1 ++ l2) g f'
  | [], l2, f, f', h, hp => hp
  | i :: l1, l2, f, f', h, hp => by
    obtain ⟨f1, e1, hp⟩ := hp
    obtain ⟨g, e2, hp⟩ := front l1 (fun k hk => h k (List.mem_cons_of_mem _ hk)) hp
    obtain ⟨g', e3, e4⟩ := swap (h i List.mem_cons_self) e1 e2
    exact ⟨g', e3, g, e4, hp⟩
end
section
variable {P : Program} {st : St} {g : Gh} {fr : Fr} {a : Act} {w : World} {X : Env} {E : FuncId → Option Fn} {R : Type} {K : Fr → Option R} {r : R} {Q : Exit → Act → World → Prop} {ops : List Oper}
/-- j waits for i -/
inductive Anc (ops : List Oper) : Nat → Nat → Prop where
  | dir {j : Nat} {o : Oper} {e : Edge} : ops[j]? = some o → e ∈ o.after.toList → Region.binds .any e = true → Anc ops j e.on
  | step {j i : Nat} {o : Oper} {e : Edge} : ops[j]? = some o → e ∈ o.after.toList → Region.binds .any e = true → Anc ops e.on i → Anc ops j i
theorem maskE_spec {ops : List Oper} {ms : List Nat} (hm : ∀ (k m : Nat), ms[k]? = some m → ∀ i, m.testBit i = true → Anc ops k i) {j : Nat} {o : Oper} (ho : ops[j]? = some o) : ∀ (es : List Edge), (∀ e ∈ es, e ∈ o.after.toList) → ∀ i, (maskE es ms).testBit i = true → Anc ops j i
  | [], _, i, h => by simp [maskE] at h
  | e :: es, hes, i, h => by
    simp only [maskE] at h
    cases hb : Region.binds .any e
    · rw [hb] at h
      exact maskE_spec hm ho es (fun e he => hes e (List.mem_cons_of_mem _ he)) i h
    · rw [hb] at h
      simp only [cond_true, Nat.testBit_or, Bool.or_eq_true] at h
      rcases h with (h | h) | h
      · rw [Nat.one_shiftLeft, Nat.testBit_two_pow] at h
        have h : e.on = i := by simpa using h
        subst h
        exact .dir ho (hes e List.mem_cons_self) hb
      · cases hk : ms[e.on]? with
        | none => simp [List.getD_eq_getElem?_getD, hk] at h
        | some m =>
          simp only [List.getD_eq_getElem?_getD, hk, Option.getD_some] at h
          exact .step ho (hes e List.mem_cons_self) hb (hm _ m hk i h)
      · exact maskE_spec hm ho es (fun e he => hes e (List.mem_cons_of_mem _ he)) i h
/-- what the text order shows -/
structure Ran (X : Env) (E : FuncId → Option Fn) (ops : List Oper) (fps : List FP) : Prop where
  len : fps.length = ops.length
  back : ∀ j o, ops[j]? = some o → backs o j = true
  wait : ∀ j o i, ops[j]? = some o → i < j → Anc ops j i ∨ apartAt fps i j
theorem apartAll_spec {m : Nat} {fp : FP} : ∀ (fps : List FP) (k : Nat), apartAll m fp k fps = true → ∀ i f, fps[i]? = some f → m.testBit (k + i) = true ∨ fpApart f fp = true
  | [], k, h, i, f, hi => by simp at hi
  | f0 :: fps, k, h, i, f, hi => by
    simp only [apartAll, Bool.and_eq_true, Bool.or_eq_true] at h
    cases i with
    | zero => simp at hi; subst hi; exact h.1
    | succ i =>
      simp at hi
      have := apartAll_spec fps (k + 1) h.2 i f hi
      rwa [show k + 1 + i = k + (i + 1) by omega] at this
theorem runD_path : ∀ (l : List Oper) (ms : List Nat) (fps0 : List FP) (fr : Fr), ms.length = fps0.length → (∀ (k m : Nat), ms[k]? = some m → ∀ i, m.testBit i = true → Anc ops k i) → (∀ k o, l[k]? = some o → ops[fps0.length + k]? = some o) → runD X E ops l ms fps0 fr K = some r →
    ∃ more : List FP, more.length = l.length ∧ (∀ k o, l[k]? = some o → backs o (fps0.length + k) = true ∧ ∀ i < fps0.length + k, Anc ops (fps0.length + k) i ∨ apartAt (fps0 ++ more) i (fps0.length + k)) ∧
      ∃ f', Path (opF X E ops (fps0 ++ more)) (List.range' fps0.length l.length) fr f' ∧ K f' = some r
  | [], ms, fps0, fr, hms, hm, hl, h => ⟨[], rfl, fun k o hk => by simp at hk, fr, rfl, h⟩
  | o :: l, ms, fps0, fr, hms, hm, hl, h => by
    simp only [runD] at h
    obtain ⟨hb, h⟩ := bif_some h
    have ho : ops[fps0.length]? = some o := by simpa using hl 0 o rfl
    -- one step
    have one : ∃ fp f1, apartAll (maskE o.after.toList ms) fp 0 fps0 = true ∧ stpF X E ops o fp fr = some f1 ∧ runD X E ops l (ms ++ [maskE o.after.toList ms]) (fps0 ++ [fp]) f1 K = some r := by
      obtain ⟨k, hk⟩ := guardK_pick (fr := fr) (fr' := fr) (ops := ops) (o := o) (fun _ _ _ => rfl)
      rw [(hk _ _).1] at h
      cases k with
      | none => cases h
      | some k =>
        cases k
        · simp only [gk] at h
          obtain ⟨h1, h⟩ := bif_some h
          rw [fin_nat] at h
          cases hs : fin X fr o.dst (.comp false [.undef]) some with
          | none => rw [hs] at h; cases h
          | some f1 =>
            rw [hs] at h
            refine ⟨_, f1, h1, ?_, h⟩
            unfold stpF
            rw [(hk _ _).1]
            simp only [gk, if_pos, hs]
        · simp only [gk] at h
          obtain ⟨h1, h⟩ := bif_some h
          rw [stepOp_nat] at h
          cases hs : stepOp X E o fr some with
          | none => rw [hs] at h; cases h
          | some f1 =>
            rw [hs] at h
            refine ⟨_, f1, h1, ?_, h⟩
            unfold stpF
            rw [(hk _ _).1]
            simp only [gk, if_pos, hs]
    obtain ⟨fp, f1, c1, c2, c3⟩ := one
    have hmask := maskE_spec hm ho o.after.toList (fun _ h => h)
    obtain ⟨more, m1, m2, f', m3, m4⟩ := runD_path l (ms ++ [maskE o.after.toList ms]) (fps0 ++ [fp]) f1 (by simp [hms]) (fun k m hk i hi => by
      by_cases hlt : k < ms.length
      · rw [List.getElem?_append_left hlt] at hk; exact hm k m hk i hi
      · rw [List.getElem?_append_right (by omega)] at hk
        have : k - ms.length = 0 := by
          have := (List.getElem?_eq_some_iff.1 hk).1
          simp at this; omega
        rw [this] at hk
        simp at hk
        subst hk
        rw [show k = fps0.length by omega]
        exact hmask i hi) (fun k o' hk => by
      have := hl (k + 1) o' (by simpa using hk)
      rwa [show (fps0 ++ [fp]).length + k = fps0.length + (k + 1) by simp; omega]) c3
    have e : fps0 ++ [fp] ++ more = fps0 ++ fp :: more := by simp
    rw [e] at m2 m3
    have hfp : (fps0 ++ fp :: more)[fps0.length]? = some fp := by simp
    refine ⟨fp :: more, by simp [m1], fun k o' hk => ?_, f', ?_, m4⟩
    · cases k with
      | zero =>
        simp at hk
        subst hk
        refine ⟨hb, fun i hi => ?_⟩
        have hi : i < fps0.length := hi
        rcases apartAll_spec fps0 0 c1 i fps0[i] (List.getElem?_eq_getElem hi) with q | q
        · exact .inl (hmask i (by simpa using q))
        · exact .inr ⟨fps0[i], fp, by rw [List.getElem?_append_left hi]; exact List.getElem?_eq_getElem hi, hfp, q⟩
      | succ k =>
        have := m2 k o' (by simpa using hk)
        rwa [show (fps0 ++ [fp]).length + k = fps0.length + (k + 1) by simp; omega] at this
    · simp only [List.length_cons, List.range'_succ]
      refine ⟨f1, ?_, ?_⟩
      · unfold opF; rw [ho, hfp]; exact c2
      · rwa [show (fps0 ++ [fp]).length = fps0.length + 1 by simp] at m3
/-- all that an operation waits for is done, if what it waits for at once is -/
theorem Anc.done {ops : Array Oper} {listed : Array Bool} (hd : ∀ (k : Nat) (o : Oper), ops[k]? = some o → listed.getD k false = true → ∀ e ∈ o.after, Region.binds .any e = true → listed.getD e.on false = true) {j i : Nat} (h : Anc ops.toList j i)
    (hj : ∀ (o : Oper), ops[j]? = some o → ∀ e ∈ o.after, Region.binds .any e = true → listed.getD e.on false = true) : listed.getD i false = true := by
  induction h with
  | dir ho he hb => exact hj _ (by simpa using ho) _ (by simpa using he) hb
  | step ho he hb _ ih =>
    have := hj _ (by simpa using ho) _ (by simpa using he) hb
    exact ih fun o' ho' => hd _ o' ho' this
/-- any order -/
theorem any_ok (hT : TabOk P X) (hE : EnvOk P E) (hX : Fits X st) {ops : Array Oper} {fps : List FP} (hR : Ran X E ops.toList fps) (hQ : ∀ g fr a w, Ok st g fr a w → K fr = some r → Q .normal a w) {f' : Fr} (hf' : K f' = some r) :
    ∀ (fuel : Nat) (l : List Nat) (listed : Array Bool) {g : Gh} {fr : Fr} {a : Act} {w : World}, Ok st g fr a w → l.length = fuel → l.Pairwise (· < ·) → listed.size = ops.size → (∀ i, i < ops.size → (listed.getD i true = false ↔ i ∈ l)) → (∀ i ∈ l, i < ops.size) → (∀ (k : Nat) (o : Oper), ops[k]? = some o → listed.getD k false = true → ∀ e ∈ o.after, Region.binds .any e = true → listed.getD e.on false = true) →
      Path (opF X E ops.toList fps) l fr f' → wpAny P .any ops Q fuel listed a w := by
  have mem : ∀ {l : List Nat} {listed : Array Bool}, listed.size = ops.size → (∀ i, i < ops.size → (listed.getD i true = false ↔ i ∈ l)) → ∀ j ∈ Region.ready .any ops listed, j ∈ l := by
    intro l listed hsz hl j hj
    obtain ⟨h1, o, ho, _⟩ := mem_ready.1 hj
    exact (hl j (Array.getElem?_eq_some_iff.1 ho).1).1 h1
  intro fuel
  induction fuel with
  | zero =>
    intro l listed g fr a w h hlen hs hsz hl hlt hdown hp
    have : l = [] := List.length_eq_zero_iff.1 hlen
    subst this
    refine ⟨?_, ?_⟩
    · apply List.eq_nil_iff_forall_not_mem.2
      intro j hj
      have := mem hsz hl j hj
      cases this
    · cases hp
      exact hQ g _ a w h hf'
  | succ fuel ih =>
    intro l listed g fr a w h hlen hs hsz hl hlt hdown hp
    refine ⟨fun hnil => ?_, fun j hj => ?_⟩
    · exfalso
      cases l with
      | nil => cases hlen
      | cons i0 l =>
        have hi0 := hlt i0 List.mem_cons_self
        have hready : i0 ∈ Region.ready .any ops listed := by
          refine mem_ready.2 ⟨(hl i0 hi0).2 List.mem_cons_self, ops[i0], Array.getElem?_eq_getElem hi0, fun e he hb => ?_⟩
          have hbk := hR.back i0 ops[i0] (by simp)
          have := List.all_eq_true.1 hbk e (by simpa using he)
          rw [hb] at this
          have hlt' : e.on < i0 := by simpa using this
          cases hge : listed.getD e.on true
          · have := (hl e.on (by omega)).1 hge
            rcases List.mem_cons.1 this with q | q
            · omega
            · have := (List.pairwise_cons.1 hs).1 _ q
              omega
          · rw [Array.getD_eq_getD_getElem?] at hge ⊢
            rw [Array.getElem?_eq_getElem (show e.on < listed.size by omega)] at hge ⊢
            exact hge
        rw [hnil] at hready
        cases hready
    · have hjl := mem hsz hl j hj
      obtain ⟨l1, l2, rfl⟩ := List.append_of_mem hjl
      obtain ⟨hun, oj, hoj, hall⟩ := mem_ready.1 hj
      have hojl : ops.toList[j]? = some oj := by simpa using hoj
      have hap : ∀ i ∈ l1, apartAt fps i j := by
        intro i hi
        have hij : i < j := (List.pairwise_append.1 hs).2.2 i hi j List.mem_cons_self
        rcases hR.wait j oj i hojl hij with q | q
        · exfalso
          have h1 := q.done hdown fun o ho => by rw [hoj] at ho; cases ho; exact hall
          have h2 := (hl i (by have := hlt j (by simp); omega)).2 (List.mem_append_left _ hi)
          rw [Array.getD_eq_getD_getElem?] at h1 h2
          cases hc : listed[i]? with
          | none => rw [hc] at h2; simp at h2
          | some b => rw [hc] at h1 h2; simp at h1 h2; rw [h1] at h2; cases h2
        · exact q
      obtain ⟨f1, e1, hp1⟩ := front l1 hap hp
      have hjs : j < ops.size := hlt j (by simp)
      have hnd := hs.imp (fun h => Nat.ne_of_lt h)
      -- what is left
      have next : ∀ g' a' w', Ok st g' f1 a' w' → wpAny P .any ops Q fuel (listed.setIfInBounds j true) a' w' := by
        intro g' a' w' ok
        refine ih (l1 ++ l2) _ ok (by simp at hlen ⊢; omega) ?_ (by simpa using hsz) (fun i hi => ?_) (fun i hi => hlt i ?_) (fun k o ho hk e he hb => ?_) hp1
        · exact hs.sublist (List.Sublist.append_left (List.sublist_cons_self j l2) l1)
        · by_cases hij : j = i
          · subst hij
            have hn1 : j ∉ l1 := fun hm => (List.pairwise_append.1 hnd).2.2 j hm j List.mem_cons_self rfl
            have hn2 : j ∉ l2 := fun hm => (List.pairwise_cons.1 (List.pairwise_append.1 hnd).2.1).1 j hm rfl
            rw [Array.getD_eq_getD_getElem?, Array.getElem?_setIfInBounds_self_of_lt (by omega)]
            simp [hn1, hn2]
          · rw [getD_set_ne true hij, hl i hi]
            simp only [List.mem_append, List.mem_cons]
            constructor
            · rintro (q | q | q)
              · exact .inl q
              · exact (hij q.symm).elim
              · exact .inr q
            · rintro (q | q)
              · exact .inl q
              · exact .inr (.inr q)
        · rcases List.mem_append.1 hi with q | q
          · exact List.mem_append_left _ q
          · exact List.mem_append_right _ (List.mem_cons_of_mem _ q)
        · by_cases hjk : j = k
          · subst hjk
            rw [hoj] at ho
            cases ho
            exact getD_set_true (hall e he hb)
          · rw [getD_set_ne false hjk] at hk
            exact getD_set_true (hdown k o ho hk e he hb)
      -- the operation
      unfold opF at e1
      rw [hojl] at e1
      split at e1
      case h_2 => cases e1
      rename_i o' fp e2 _
      cases e2
      unfold wpOp
      simp only [hoj]
      unfold stpF at e1
      rcases guardK_ok h e1 with ⟨q1, q2⟩ | ⟨q1, q2⟩
      · rw [show (ops.toList.toArray) = ops by simp] at q1
        rw [q1, if_pos rfl]
        obtain ⟨_, q2⟩ := ite_some q2
        refine .inl (Oper.wp_mono ?_ (step_ok hT hE h hX q2))
        rintro a' w' ⟨g', fr', ok, hk'⟩
        cases hk'
        exact next g' a' w' ok
      · rw [show (ops.toList.toArray) = ops by simp] at q1
        rw [q1]
        simp only [Bool.false_eq_true, if_false]
        obtain ⟨_, q2⟩ := ite_some q2
        obtain ⟨g', fr', ok, hk'⟩ := skip_ok h hX q2
        cases hk'
        exact next g' _ _ ok
theorem Ok.drawn (h : Ok st g fr a w) (n : Nat) : Ok st g fr a { w with drawn := n } := { h with
  slot := fun s => by
    have c : Chg g g w { w with drawn := n } (isBox fr) (isBox fr) (fun _ => True) (fun _ => True) := {
      cB := rfl, cM := rfl, cZ := rfl
      zS := fun b o hz => (h.zs b o (by rw [← h.eZ]; exact hz)).1
      cbx := fun _ h => h
      cX := fun _ _ => rfl
      cS := fun _ _ hs => ⟨hs, rfl⟩
      cL := fun _ _ => rfl
      cO := fun _ _ _ hO => ⟨hO, rfl, fun _ => Iff.rfl⟩
      cH := fun _ _ _ _ h => h
      cHp := fun _ _ _ _ => rfl }
    exact c.kSlot (fun _ _ => trivial) (fun cs hc => by simp [isBox, hc, notBox]) (fun _ _ => trivial) (h.slot s) }
theorem draw_ok (hT : TabOk P X) (hE : EnvOk P E) (hX : Fits X st) {ops : Array Oper} {id : Nat} (hQ : ∀ g fr a w, Ok st g fr a w → K fr = some r → Q .normal a w)
    (h : Ok st g fr a w) (hk : runD X E ops.toList ops.toList [] [] fr K = some r) : (Code.region id ops true).wp P Q a w := by
  obtain ⟨fps, m1, m2, f', m3, m4⟩ := runD_path (ops := ops.toList) ops.toList [] [] fr rfl (fun k m hk => by simp at hk) (fun k o hk => by simpa using hk) hk
  simp only [List.nil_append, List.length_nil, Nat.zero_add] at m2 m3
  refine wp_region_any hT.mixed (any_ok hT hE hX (fps := fps) ⟨m1, fun j o ho => (m2 j o ho).1, fun j o i ho hi => (m2 j o ho).2 i hi⟩ hQ m4 ops.size (List.range' 0 ops.toList.length) _ (h.drawn (w.drawn + 1)) (by simp) ?_ (by simp) (fun i hi => ?_) (fun i hi => ?_) (fun k o ho hk => ?_) m3)
  · exact List.pairwise_lt_range'
  · simp [Array.getD_eq_getD_getElem?, hi]
  · simpa using hi
  · exfalso
    rw [Array.getD_eq_getD_getElem?] at hk
    cases hc : (Array.replicate ops.size false)[k]? with
    | none => rw [hc] at hk; cases hk
    | some b =>
      rw [hc] at hk
      have := (Array.getElem?_eq_some_iff.1 hc).2
      simp at this
      subst this
      cases hk
/-! ### Behind the region: rows that were landed are owned -/
def Gh.promo (g : Gh) (s : Nat) (Hn : Nat → Option Value) : Gh := { g with
  H := fun q c => if q = s then (match Hn c with | some v => some v | none => g.H q c) else g.H q c }
theorem Chg.promo (h : Ok st g fr a w) (s : Nat) (Hn : Nat → Option Value) (bx : Nat → Bool) : Chg g (g.promo s Hn) w w bx bx (fun p => match p with | .at q _ c => q = s → Hn c = none | .air _ => True) (fun q => q ≠ s) where
  cB := rfl
  cM := rfl
  cZ := rfl
  zS := fun b o hz => (h.zs b o (by rw [← h.eZ]; exact hz)).1
  cbx := fun s hs => hs
  cX := fun s _ => rfl
  cS := fun b o hs => ⟨hs, rfl⟩
  cL := fun b _ => rfl
  cO := fun b p _ hO => ⟨hO, rfl, fun _ => Iff.rfl⟩
  cH := fun q c u hq hu => by
    simp only [Gh.promo] at hu
    rw [if_neg hq] at hu
    exact hu
  cHp := fun q i c hp => by
    simp only [Gh.promo]
    split
    · rename_i e; rw [hp e]
    · rfl
def newH (cs : List CV) (vs : List Value) : Nat → Option Value
  | 0 => none
  | j + 1 => match cs[j]?, vs[j]? with
    | some (.tmpo _ _), some u => some u
    | _, _ => none
theorem promo_cells (h : Ok st g fr a w) {s : Nat} {bx : Nat → Bool} {cs : List CV} {vs : List Value} (hr : cellsRel w g bx s 0 cs vs) : cellsRel w (g.promo s (newH cs vs)) bx s 0 (cs.map fun c => dem1 s (toOwn c)) vs := by
  refine ⟨by simpa using hr.1, fun j c hj => ?_⟩
  rw [List.getElem?_map] at hj
  cases hc : cs[j]? with
  | none => rw [hc] at hj; cases hj
  | some c0 =>
    rw [hc] at hj
    simp only [Option.map_some, Option.some.injEq] at hj
    subst hj
    obtain ⟨u, hu, hr0⟩ := hr.2 j c0 hc
    refine ⟨u, hu, ?_⟩
    by_cases ht : ∃ t xs, c0 = .tmpo t xs
    · obtain ⟨t, xs, rfl⟩ := ht
      refine ⟨hr0.1, rfl, ?_⟩
      simp only [Gh.promo, if_pos, newH, hc, hu]
    · have he : toOwn c0 = c0 := by cases c0 <;> first | rfl | exact (ht ⟨_, _, rfl⟩).elim
      rw [he]
      refine (Chg.promo h s (newH cs vs) bx).kRel (fun _ => ?_) (fun q hq e => ?_) (dem1_rel (s := s) hr0)
      · simp only [newH, hc]
        cases vs[j]? <;> cases c0 <;> first | rfl | exact (ht ⟨_, _, rfl⟩).elim
      · subst e; rw [dem1_mentions] at hq; cases hq
theorem promo_head {bx : Nat → Bool} {s : Nat} {cs : List CV} {vs : List Value} (hr : cellsRel w g bx s 0 cs vs) (c : Nat) (u : Value) (hu : newH cs vs c = some u) : u = .slice none 0 0 ∨ ∃ b n cap, u = .slice (some ⟨b, 0, none⟩) n cap := by
  cases c with
  | zero => cases hu
  | succ j =>
    simp only [newH] at hu
    split at hu
    · rename_i t xs u' hc hv
      cases hu
      obtain ⟨u2, e1, e2⟩ := hr.2 j _ hc
      rw [hv] at e1
      cases e1
      exact e2.1.head
    · cases hu
theorem promo_set (h : Ok st g fr a w) {s : Nat} {cs : List CV} {vs : List Value} (hr : cellsRel w g (isBox fr) s 0 cs vs) {x : SV} (hb : notBox x = notBox (fr s)) (hx : SRel w (g.promo s (newH cs vs)) (isBox fr) s x (a.tmps.getD s undef)) : Ok st (g.promo s (newH cs vs)) (upd (dem s fr) s x) a w := by
  have hbx : isBox (upd (Rv.dem s fr) s x) = isBox fr := by
    funext q
    by_cases e : q = s
    · subst e; unfold isBox; rw [upd_same, hb]
    · rw [← isBox_dem s fr]; unfold isBox; rw [upd_ne _ _ _ e]
  exact {
    eB := h.eB, eM := h.eM, eZ := h.eZ, size := h.size, defers := h.defers, keep := h.keep, os := h.os, tape := h.tape, output := h.output, heap := h.heap, old := h.old, own := h.own, stab := h.stab, boxS := h.boxS, zs := h.zs, sz := h.sz
    slot := fun q => by
      rw [hbx]
      by_cases e : q = s
      · subst e; rw [upd_same]; exact hx
      · rw [upd_ne _ _ _ e]
        have := (h.dem s).slot q
        rw [isBox_dem] at this
        refine (Chg.promo h s (newH cs vs) (isBox fr)).kSlot (fun i c e' => (e e').elim) (fun ds hd => ?_) (fun q' hq' e' => ?_) this
        · unfold isBox
          unfold Rv.dem at hd
          cases hq : fr q <;> rw [hq] at hd <;> first | (cases hd; done) | rfl
        · subst e'
          have := demS_mentions q' (fr q)
          unfold Rv.dem at hq'
          rw [this] at hq'
          cases hq'
    hh := fun q c u hu => by
      simp only [Gh.promo] at hu
      split at hu
      · split at hu
        · rename_i v hv
          cases hu
          exact promo_head hr c _ hv
        · exact h.hh q c u hu
      · exact h.hh q c u hu }
theorem promoK_ok (h : Ok st g fr a w) {s : Nat} (hk : promoK s fr K = some r) : ∃ g' fr', Ok st g' fr' a w ∧ K fr' = some r := by
  unfold promoK at hk
  have hs := h.slot s
  split at hk
  · rename_i gg cs hf
    cases ht : cs.any isTmp
    · rw [ht] at hk; exact ⟨g, fr, h, hk⟩
    rw [ht] at hk
    simp only [cond_true] at hk
    rw [hf] at hs
    cases gg with
    | true =>
      obtain ⟨vs, e1, e2⟩ := hs
      exact ⟨_, _, promo_set (x := .comp true (cs.map fun c => dem1 s (toOwn c))) h e2 (by rw [hf]; rfl) ⟨vs, e1, promo_cells h e2⟩, hk⟩
    | false =>
      obtain ⟨c, rfl, e2⟩ := hs
      have hr : rel w g (isBox fr) (.at s 0 1) c (a.tmps.getD s undef) := by
        rcases e2 with e | ⟨e, _⟩ | e
        · subst e; cases ht
        · subst e; cases ht
        · exact e
      have hc : cellsRel w g (isBox fr) s 0 [c] [a.tmps.getD s undef] := ⟨rfl, fun j c' hj => by
        cases j with
        | zero => simp at hj; subst hj; exact ⟨_, rfl, hr⟩
        | succ j => simp at hj⟩
      have hn := promo_cells h hc
      obtain ⟨u, e4, e5⟩ := hn.2 0 _ rfl
      simp only [List.getElem?_cons_zero, Option.some.injEq] at e4
      subst e4
      exact ⟨_, _, promo_set (x := .comp false ([c].map fun c => dem1 s (toOwn c))) h hc (by rw [hf]; rfl) ⟨_, rfl, .inr (.inr e5)⟩, hk⟩
  · rename_i cs hf
    cases ht : cs.any isTmp
    · rw [ht] at hk; exact ⟨g, fr, h, hk⟩
    rw [ht] at hk
    simp only [cond_true] at hk
    rw [hf] at hs
    obtain ⟨⟨b, arr, ty, e1, e2, e3, e4⟩, e5⟩ := hs
    exact ⟨_, _, promo_set (x := .box (cs.map fun c => dem1 s (toOwn c))) h e4 (by rw [hf]; rfl) ⟨⟨b, arr, ty, e1, e2, e3, promo_cells h e4⟩, e5⟩, hk⟩
  · exact ⟨g, fr, h, hk⟩
theorem promosK_ok : ∀ (l : List Oper) {g : Gh} {fr : Fr}, Ok st g fr a w → promosK l fr K = some r → ∃ g' fr', Ok st g' fr' a w ∧ K fr' = some r
  | [], g, fr, h, hk => ⟨g, fr, h, hk⟩
  | o :: l, g, fr, h, hk => by
    unfold promosK at hk
    split at hk
    · split at hk
      · obtain ⟨g1, fr1, h1, hk1⟩ := promoK_ok h hk
        exact promosK_ok l h1 hk1
      · exact promosK_ok l h hk
    · split at hk
      · obtain ⟨g1, fr1, h1, hk1⟩ := promoK_ok h hk
        exact promosK_ok l h1 hk1
      · exact promosK_ok l h hk
    · exact promosK_ok l h hk
end
end Go.Rv

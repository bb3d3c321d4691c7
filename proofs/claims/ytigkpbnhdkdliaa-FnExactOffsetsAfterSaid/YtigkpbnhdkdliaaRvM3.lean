/- A verified evaluator of the form: texts Draw, Code, Cut, Fn, FnB, Glue. -/
import Derived.Test.YtigkpbnhdkdliaaRvM2
import Derived.Laws.Sem
import Derived.Test.YtigkpbnhdkdliaaRvM0
import Derived.KernelRfl
/- Regions that draw their order. -/
namespace Go.Rv
set_option linter.unusedSimpArgs false
set_option linter.unusedVariables false
open Classical
/-- a step whose places are known -/
noncomputable def stpF (X : Env) (E : FuncId → Option Fn) (ops : List Oper) (o : Oper) (fp : FP) (fr : Fr) : Option Fr :=
  guardK ops o fr (fun fr => if addR (gLoc ops o) (pureFoot o []) = fp then fin X fr o.dst (.comp false [.undef]) some else none)
    (fun fr => if addR (gLoc ops o) (foot X E o fr) = fp then stepOp X E o fr some else none)
section
variable {X : Env} {E : FuncId → Option Fn} {fr fr' fr1 : Fr} {o : Oper} {ops : List Oper} {R : Type}
def gk {R : Type} (k : Option Bool) (no yes : Fr → Option R) (fr : Fr) : Option R := match k with
  | some true => yes fr
  | some false => no fr
  | none => none
theorem guardK_pick (ha : Agr fr fr' (gLoc ops o)) : ∃ k : Option Bool, ∀ {R : Type} (no yes : Fr → Option R), guardK ops o fr no yes = gk k no yes fr ∧ guardK ops o fr' no yes = gk k no yes fr' := by
  unfold guardK
  unfold gLoc at ha
  cases hg : o.guard with
  | none => exact ⟨some true, fun no yes => ⟨rfl, rfl⟩⟩
  | some q =>
    obtain ⟨j, want⟩ := q
    rw [hg] at ha
    simp only at ha ⊢
    cases hj : ops[j]? with
    | none => exact ⟨none, fun no yes => ⟨rfl, rfl⟩⟩
    | some oj =>
      rw [hj] at ha
      simp only at ha ⊢
      cases hd : oj.dst with
      | none => exact ⟨none, fun no yes => ⟨rfl, rfl⟩⟩
      | some d =>
        rw [hd] at ha
        simp only
        have hsh := ha.shape (s := d) List.mem_cons_self
        cases hf : fr d with
        | tup vs => rw [hf] at hsh; obtain ⟨us, e, _⟩ := shape_tup hsh; rw [e]; exact ⟨none, fun no yes => ⟨rfl, rfl⟩⟩
        | mapb kk vv xx ii => rw [hf] at hsh; rw [shape_map hsh.symm]; exact ⟨none, fun no yes => ⟨rfl, rfl⟩⟩
        | box cs => rw [hf] at hsh; obtain ⟨ds, e⟩ := shape_box (x := fr' d) (cs := []) hsh.symm; rw [e]; exact ⟨none, fun no yes => ⟨rfl, rfl⟩⟩
        | comp gg cs =>
          rw [hf] at hsh
          have hf' := shape_eq (x := .comp gg cs) hsh rfl
          rw [hf']
          by_cases hb : ∃ b, gg = false ∧ cs = [.bool b]
          · obtain ⟨b, rfl, rfl⟩ := hb
            cases b
            · refine ⟨some !want, fun no yes => ?_⟩
              simp only [Bool.false_eq_true, if_false]
              rw [upd_idem fr d hf, upd_idem fr' d hf']
              cases want <;> exact ⟨rfl, rfl⟩
            · refine ⟨some want, fun no yes => ?_⟩
              simp only [if_true]
              rw [upd_idem fr d hf, upd_idem fr' d hf']
              cases want <;> exact ⟨rfl, rfl⟩
          · by_cases hu : gg = false ∧ cs = [.undef]
            · obtain ⟨rfl, rfl⟩ := hu
              exact ⟨some false, fun no yes => ⟨rfl, rfl⟩⟩
            · refine ⟨none, fun no yes => ?_⟩
              constructor
              · split
                · rename_i e; cases e; exact (hb ⟨_, rfl, rfl⟩).elim
                · rename_i e; cases e; exact (hu ⟨rfl, rfl⟩).elim
                · rfl
              · split
                · rename_i e; cases e; exact (hb ⟨_, rfl, rfl⟩).elim
                · rename_i e; cases e; exact (hu ⟨rfl, rfl⟩).elim
                · rfl
theorem addR_some {l R W : List Loc} {fp : FP} (h : addR l fp = some (R, W)) : ∃ R0, fp = some (R0, W) ∧ R = l ++ R0 := by
  cases fp with
  | none => cases h
  | some q =>
    obtain ⟨r, w⟩ := q
    simp only [addR, Option.some.injEq, Prod.mk.injEq] at h
    exact ⟨r, by rw [h.2], h.1.symm⟩
theorem stp_like {R W : List Loc} (h : stpF X E ops o (some (R, W)) fr = some fr1) (ha : Agr fr fr' R) : Like (stpF X E ops o (some (R, W)) fr') fr' fr1 W := by
  have hg : Agr fr fr' (gLoc ops o) := by
    have h := h
    unfold stpF at h
    obtain ⟨k, hk⟩ := guardK_pick (fr := fr) (fr' := fr) (ops := ops) (o := o) (fun _ _ _ => rfl)
    rw [(hk _ _).1] at h
    cases k with
    | none => cases h
    | some k =>
      cases k
      · obtain ⟨h1, h2⟩ := ite_some h
        obtain ⟨R0, _, rfl⟩ := addR_some h1
        exact ha.left
      · obtain ⟨h1, h2⟩ := ite_some h
        obtain ⟨R0, _, rfl⟩ := addR_some h1
        exact ha.left
  unfold stpF at h ⊢
  obtain ⟨k, hk⟩ := guardK_pick hg
  rw [(hk _ _).1] at h
  rw [(hk _ _).2]
  cases k with
  | none => cases h
  | some k =>
    cases k
    · obtain ⟨h1, h2⟩ := ite_some h
      obtain ⟨R0, hf, rfl⟩ := addR_some h1
      simp only [pureFoot, Option.some.injEq, Prod.mk.injEq] at hf
      obtain ⟨rfl, rfl⟩ := hf
      simp only [gk]
      rw [if_pos h1]
      exact fin_like h2 ha.right.right
    · obtain ⟨h1, h2⟩ := ite_some h
      obtain ⟨R0, hf, rfl⟩ := addR_some h1
      obtain ⟨q1, q2⟩ := step_like hf ha.right h2
      simp only [gk]
      rw [q1]
      rw [if_pos (show addR (gLoc ops o) (some (R0, W)) = some (gLoc ops o ++ R0, W) from rfl)]
      exact q2
/-! ### The order does not matter -/
def Path (F : Nat → Fr → Option Fr) : List Nat → Fr → Fr → Prop
  | [], f, f' => f = f'
  | i :: l, f, f' => ∃ g, F i f = some g ∧ Path F l g f'
noncomputable def opF (X : Env) (E : FuncId → Option Fn) (ops : List Oper) (fps : List FP) (i : Nat) (fr : Fr) : Option Fr :=
  match ops[i]?, fps[i]? with
  | some o, some fp => stpF X E ops o fp fr
  | _, _ => none
def apartAt (fps : List FP) (i j : Nat) : Prop := ∃ f g, fps[i]? = some f ∧ fps[j]? = some g ∧ fpApart f g = true
theorem swap {fps : List FP} {i j : Nat} (hij : apartAt fps i j) {f0 f1 f2 : Fr} (h1 : opF X E ops fps i f0 = some f1) (h2 : opF X E ops fps j f1 = some f2) : ∃ g, opF X E ops fps j f0 = some g ∧ opF X E ops fps i g = some f2 := by
  obtain ⟨p, q, hp, hq, hap⟩ := hij
  unfold opF at *
  rw [hp] at h1 ⊢
  rw [hq] at h2 ⊢
  cases hoi : ops[i]? with
  | none => rw [hoi] at h1; cases h1
  | some oi => cases hoj : ops[j]? with
    | none => rw [hoj] at h2; cases h2
    | some oj =>
      rw [hoi] at h1
      rw [hoj] at h2
      simp only at h1 h2 ⊢
      cases p with
      | none => simp [fpApart] at hap
      | some p => cases q with
        | none => simp [fpApart] at hap
        | some q =>
          obtain ⟨R1, W1⟩ := p
          obtain ⟨R2, W2⟩ := q
          simp only [fpApart, Bool.and_eq_true] at hap
          obtain ⟨d1, d2, d3⟩ := hap
          -- off its places, the first leaves the frame alone
          obtain ⟨_, e1, _, off1⟩ := (stp_like h1 (fr' := f0) fun _ _ _ => rfl).ex
          rw [h1] at e1; cases e1
          obtain ⟨_, e2, _, off2⟩ := (stp_like h2 (fr' := f1) fun _ _ _ => rfl).ex
          rw [h2] at e2; cases e2
          have a1 : Agr f1 f0 R2 := fun s c hi => off1 s c fun hw => disj_spec d1 hw hi
          obtain ⟨g, g1, g2, g3⟩ := (stp_like h2 a1).ex
          have a2 : Agr f0 g R1 := fun s c hi => (g3 s c fun hw => disj_spec d3 hi hw).symm
          obtain ⟨k, k1, k2, k3⟩ := (stp_like h1 a2).ex
          refine ⟨g, g1, ?_⟩
          rw [k1]
          congr 1
          funext s
          refine pv_ext fun c => ?_
          by_cases hw1 : Inn s c W1
          · have hn2 : ¬ Inn s c W2 := fun hw2 => disj_spec d2 hw1 hw2
            rw [← k2 s c hw1, off2 s c hn2]
          · rw [k3 s c hw1]
            by_cases hw2 : Inn s c W2
            · exact (g2 s c hw2).symm
            · rw [g3 s c hw2, off2 s c hw2, off1 s c hw1]
theorem front {fps : List FP} {j : Nat} : ∀ (l1 : List Nat) {l2 : List Nat} {f f' : Fr}, (∀ i ∈ l1, apartAt fps i j) → Path (opF X E ops fps) (l1 ++ j :: l2) f f' → ∃ g, opF X E ops fps j f = some g ∧ Path (opF X E ops fps) (l1 ++ l2) g f'
  | [], l2, f, f', h, hp => hp
  | i :: l1, l2, f, f', h, hp => by
    obtain ⟨f1, e1, hp⟩ := hp
    obtain ⟨g, e2, hp⟩ := front l1 (fun k hk => h k (List.mem_cons_of_mem _ hk)) hp
    obtain ⟨g', e3, e4⟩ := swap (h i List.mem_cons_self) e1 e2
    exact ⟨g', e3, g, e4, hp⟩
end
section
variable {P : Program} {st : St} {g : Gh} {fr : Fr} {a : Act} {w : World} {X : Env} {E : FuncId → Option Fn} {R : Type} {K : Fr → Option R} {r : R} {Q : Exit → Act → World → Prop} {ops : List Oper}
/-- j waits for i -/
inductive Anc (ops : List Oper) : Nat → Nat → Prop where
  | dir {j : Nat} {o : Oper} {e : Edge} : ops[j]? = some o → e ∈ o.after.toList → Region.binds .any e = true → Anc ops j e.on
  | step {j i : Nat} {o : Oper} {e : Edge} : ops[j]? = some o → e ∈ o.after.toList → Region.binds .any e = true → Anc ops e.on i → Anc ops j i
theorem maskE_spec {ops : List Oper} {ms : List Nat} (hm : ∀ (k m : Nat), ms[k]? = some m → ∀ i, m.testBit i = true → Anc ops k i) {j : Nat} {o : Oper} (ho : ops[j]? = some o) : ∀ (es : List Edge), (∀ e ∈ es, e ∈ o.after.toList) → ∀ i, (maskE es ms).testBit i = true → Anc ops j i
  | [], _, i, h => by simp [maskE] at h
  | e :: es, hes, i, h => by
    simp only [maskE] at h
    cases hb : Region.binds .any e
    · rw [hb] at h
      exact maskE_spec hm ho es (fun e he => hes e (List.mem_cons_of_mem _ he)) i h
    · rw [hb] at h
      simp only [cond_true, Nat.testBit_or, Bool.or_eq_true] at h
      rcases h with (h | h) | h
      · rw [Nat.one_shiftLeft, Nat.testBit_two_pow] at h
        have h : e.on = i := by simpa using h
        subst h
        exact .dir ho (hes e List.mem_cons_self) hb
      · cases hk : ms[e.on]? with
        | none => simp [List.getD_eq_getElem?_getD, hk] at h
        | some m =>
          simp only [List.getD_eq_getElem?_getD, hk, Option.getD_some] at h
          exact .step ho (hes e List.mem_cons_self) hb (hm _ m hk i h)
      · exact maskE_spec hm ho es (fun e he => hes e (List.mem_cons_of_mem _ he)) i h
/-- what the text order shows -/
structure Ran (X : Env) (E : FuncId → Option Fn) (ops : List Oper) (fps : List FP) : Prop where
  len : fps.length = ops.length
  back : ∀ j o, ops[j]? = some o → backs o j = true
  wait : ∀ j o i, ops[j]? = some o → i < j → Anc ops j i ∨ apartAt fps i j
theorem apartAll_spec {m : Nat} {fp : FP} : ∀ (fps : List FP) (k : Nat), apartAll m fp k fps = true → ∀ i f, fps[i]? = some f → m.testBit (k + i) = true ∨ fpApart f fp = true
  | [], k, h, i, f, hi => by simp at hi
  | f0 :: fps, k, h, i, f, hi => by
    simp only [apartAll, Bool.and_eq_true, Bool.or_eq_true] at h
    cases i with
    | zero => simp at hi; subst hi; exact h.1
    | succ i =>
      simp at hi
      have := apartAll_spec fps (k + 1) h.2 i f hi
      rwa [show k + 1 + i = k + (i + 1) by omega] at this
theorem runD_path (hdr : X.dr = true) : ∀ (l : List Oper) (ms : List Nat) (fps0 : List FP) (fr : Fr), ms.length = fps0.length → (∀ (k m : Nat), ms[k]? = some m → ∀ i, m.testBit i = true → Anc ops k i) → (∀ k o, l[k]? = some o → ops[fps0.length + k]? = some o) → runD X E ops l ms fps0 fr K = some r →
    ∃ more : List FP, more.length = l.length ∧ (∀ k o, l[k]? = some o → backs o (fps0.length + k) = true ∧ ∀ i < fps0.length + k, Anc ops (fps0.length + k) i ∨ apartAt (fps0 ++ more) i (fps0.length + k)) ∧
      ∃ f', Path (opF X E ops (fps0 ++ more)) (List.range' fps0.length l.length) fr f' ∧ K f' = some r
  | [], ms, fps0, fr, hms, hm, hl, h => ⟨[], rfl, fun k o hk => by simp at hk, fr, rfl, h⟩
  | o :: l, ms, fps0, fr, hms, hm, hl, h => by
    simp only [runD] at h
    obtain ⟨hb, h⟩ := bif_some h
    have ho : ops[fps0.length]? = some o := by simpa using hl 0 o rfl
    -- one step
    have one : ∃ fp f1, apartAll (maskE o.after.toList ms) fp 0 fps0 = true ∧ stpF X E ops o fp fr = some f1 ∧ runD X E ops l (ms ++ [maskE o.after.toList ms]) (fps0 ++ [fp]) f1 K = some r := by
      obtain ⟨k, hk⟩ := guardK_pick (fr := fr) (fr' := fr) (ops := ops) (o := o) (fun _ _ _ => rfl)
      rw [(hk _ _).1] at h
      cases k with
      | none => cases h
      | some k =>
        cases k
        · simp only [gk] at h
          obtain ⟨h1, h⟩ := bif_some h
          rw [fin_nat] at h
          cases hs : fin X fr o.dst (.comp false [.undef]) some with
          | none => rw [hs] at h; cases h
          | some f1 =>
            rw [hs] at h
            refine ⟨_, f1, h1, ?_, h⟩
            unfold stpF
            rw [(hk _ _).1]
            simp only [gk, if_pos, hs]
        · simp only [gk] at h
          obtain ⟨h1, h⟩ := bif_some h
          rw [stepOp_nat hdr] at h
          cases hs : stepOp X E o fr some with
          | none => rw [hs] at h; cases h
          | some f1 =>
            rw [hs] at h
            refine ⟨_, f1, h1, ?_, h⟩
            unfold stpF
            rw [(hk _ _).1]
            simp only [gk, if_pos, hs]
    obtain ⟨fp, f1, c1, c2, c3⟩ := one
    have hmask := maskE_spec hm ho o.after.toList (fun _ h => h)
    obtain ⟨more, m1, m2, f', m3, m4⟩ := runD_path hdr l (ms ++ [maskE o.after.toList ms]) (fps0 ++ [fp]) f1 (by simp [hms]) (fun k m hk i hi => by
      by_cases hlt : k < ms.length
      · rw [List.getElem?_append_left hlt] at hk; exact hm k m hk i hi
      · rw [List.getElem?_append_right (by omega)] at hk
        have : k - ms.length = 0 := by
          have := (List.getElem?_eq_some_iff.1 hk).1
          simp at this; omega
        rw [this] at hk
        simp at hk
        subst hk
        rw [show k = fps0.length by omega]
        exact hmask i hi) (fun k o' hk => by
      have := hl (k + 1) o' (by simpa using hk)
      rwa [show (fps0 ++ [fp]).length + k = fps0.length + (k + 1) by simp; omega]) c3
    have e : fps0 ++ [fp] ++ more = fps0 ++ fp :: more := by simp
    rw [e] at m2 m3
    have hfp : (fps0 ++ fp :: more)[fps0.length]? = some fp := by simp
    refine ⟨fp :: more, by simp [m1], fun k o' hk => ?_, f', ?_, m4⟩
    · cases k with
      | zero =>
        simp at hk
        subst hk
        refine ⟨hb, fun i hi => ?_⟩
        have hi : i < fps0.length := hi
        rcases apartAll_spec fps0 0 c1 i fps0[i] (List.getElem?_eq_getElem hi) with q | q
        · exact .inl (hmask i (by simpa using q))
        · exact .inr ⟨fps0[i], fp, by rw [List.getElem?_append_left hi]; exact List.getElem?_eq_getElem hi, hfp, q⟩
      | succ k =>
        have := m2 k o' (by simpa using hk)
        rwa [show (fps0 ++ [fp]).length + k = fps0.length + (k + 1) by simp; omega] at this
    · simp only [List.length_cons, List.range'_succ]
      refine ⟨f1, ?_, ?_⟩
      · unfold opF; rw [ho, hfp]; exact c2
      · rwa [show (fps0 ++ [fp]).length = fps0.length + 1 by simp] at m3
/-- all that an operation waits for is done, if what it waits for at once is -/
theorem Anc.done {ops : Array Oper} {listed : Array Bool} (hd : ∀ (k : Nat) (o : Oper), ops[k]? = some o → listed.getD k false = true → ∀ e ∈ o.after, Region.binds .any e = true → listed.getD e.on false = true) {j i : Nat} (h : Anc ops.toList j i)
    (hj : ∀ (o : Oper), ops[j]? = some o → ∀ e ∈ o.after, Region.binds .any e = true → listed.getD e.on false = true) : listed.getD i false = true := by
  induction h with
  | dir ho he hb => exact hj _ (by simpa using ho) _ (by simpa using he) hb
  | step ho he hb _ ih =>
    have := hj _ (by simpa using ho) _ (by simpa using he) hb
    exact ih fun o' ho' => hd _ o' ho' this
/-- any order -/
theorem any_ok (hT : TabOk P X) (hE : EnvOk P E) (hX : Fits X st) {ops : Array Oper} {fps : List FP} (hR : Ran X E ops.toList fps) (hQ : ∀ g fr a w, Ok st g fr a w → K fr = some r → Q .normal a w) {f' : Fr} (hf' : K f' = some r) :
    ∀ (fuel : Nat) (l : List Nat) (listed : Array Bool) {g : Gh} {fr : Fr} {a : Act} {w : World}, Ok st g fr a w → l.length = fuel → l.Pairwise (· < ·) → listed.size = ops.size → (∀ i, i < ops.size → (listed.getD i true = false ↔ i ∈ l)) → (∀ i ∈ l, i < ops.size) → (∀ (k : Nat) (o : Oper), ops[k]? = some o → listed.getD k false = true → ∀ e ∈ o.after, Region.binds .any e = true → listed.getD e.on false = true) →
      Path (opF X E ops.toList fps) l fr f' → wpAny P .any ops Q fuel listed a w := by
  have mem : ∀ {l : List Nat} {listed : Array Bool}, listed.size = ops.size → (∀ i, i < ops.size → (listed.getD i true = false ↔ i ∈ l)) → ∀ j ∈ Region.ready .any ops listed, j ∈ l := by
    intro l listed hsz hl j hj
    obtain ⟨h1, o, ho, _⟩ := mem_ready.1 hj
    exact (hl j (Array.getElem?_eq_some_iff.1 ho).1).1 h1
  intro fuel
  induction fuel with
  | zero =>
    intro l listed g fr a w h hlen hs hsz hl hlt hdown hp
    have : l = [] := List.length_eq_zero_iff.1 hlen
    subst this
    refine ⟨?_, ?_⟩
    · apply List.eq_nil_iff_forall_not_mem.2
      intro j hj
      have := mem hsz hl j hj
      cases this
    · cases hp
      exact hQ g _ a w h hf'
  | succ fuel ih =>
    intro l listed g fr a w h hlen hs hsz hl hlt hdown hp
    refine ⟨fun hnil => ?_, fun j hj => ?_⟩
    · exfalso
      cases l with
      | nil => cases hlen
      | cons i0 l =>
        have hi0 := hlt i0 List.mem_cons_self
        have hready : i0 ∈ Region.ready .any ops listed := by
          refine mem_ready.2 ⟨(hl i0 hi0).2 List.mem_cons_self, ops[i0], Array.getElem?_eq_getElem hi0, fun e he hb => ?_⟩
          have hbk := hR.back i0 ops[i0] (by simp)
          have := List.all_eq_true.1 hbk e (by simpa using he)
          rw [hb] at this
          have hlt' : e.on < i0 := by simpa using this
          cases hge : listed.getD e.on true
          · have := (hl e.on (by omega)).1 hge
            rcases List.mem_cons.1 this with q | q
            · omega
            · have := (List.pairwise_cons.1 hs).1 _ q
              omega
          · rw [Array.getD_eq_getD_getElem?] at hge ⊢
            rw [Array.getElem?_eq_getElem (show e.on < listed.size by omega)] at hge ⊢
            exact hge
        rw [hnil] at hready
        cases hready
    · have hjl := mem hsz hl j hj
      obtain ⟨l1, l2, rfl⟩ := List.append_of_mem hjl
      obtain ⟨hun, oj, hoj, hall⟩ := mem_ready.1 hj
      have hojl : ops.toList[j]? = some oj := by simpa using hoj
      have hap : ∀ i ∈ l1, apartAt fps i j := by
        intro i hi
        have hij : i < j := (List.pairwise_append.1 hs).2.2 i hi j List.mem_cons_self
        rcases hR.wait j oj i hojl hij with q | q
        · exfalso
          have h1 := q.done hdown fun o ho => by rw [hoj] at ho; cases ho; exact hall
          have h2 := (hl i (by have := hlt j (by simp); omega)).2 (List.mem_append_left _ hi)
          rw [Array.getD_eq_getD_getElem?] at h1 h2
          cases hc : listed[i]? with
          | none => rw [hc] at h2; simp at h2
          | some b => rw [hc] at h1 h2; simp at h1 h2; rw [h1] at h2; cases h2
        · exact q
      obtain ⟨f1, e1, hp1⟩ := front l1 hap hp
      have hjs : j < ops.size := hlt j (by simp)
      have hnd := hs.imp (fun h => Nat.ne_of_lt h)
      -- what is left
      have next : ∀ g' a' w', Ok st g' f1 a' w' → wpAny P .any ops Q fuel (listed.setIfInBounds j true) a' w' := by
        intro g' a' w' ok
        refine ih (l1 ++ l2) _ ok (by simp at hlen ⊢; omega) ?_ (by simpa using hsz) (fun i hi => ?_) (fun i hi => hlt i ?_) (fun k o ho hk e he hb => ?_) hp1
        · exact hs.sublist (List.Sublist.append_left (List.sublist_cons_self j l2) l1)
        · by_cases hij : j = i
          · subst hij
            have hn1 : j ∉ l1 := fun hm => (List.pairwise_append.1 hnd).2.2 j hm j List.mem_cons_self rfl
            have hn2 : j ∉ l2 := fun hm => (List.pairwise_cons.1 (List.pairwise_append.1 hnd).2.1).1 j hm rfl
            rw [Array.getD_eq_getD_getElem?, Array.getElem?_setIfInBounds_self_of_lt (by omega)]
            simp [hn1, hn2]
          · rw [getD_set_ne true hij, hl i hi]
            simp only [List.mem_append, List.mem_cons]
            constructor
            · rintro (q | q | q)
              · exact .inl q
              · exact (hij q.symm).elim
              · exact .inr q
            · rintro (q | q)
              · exact .inl q
              · exact .inr (.inr q)
        · rcases List.mem_append.1 hi with q | q
          · exact List.mem_append_left _ q
          · exact List.mem_append_right _ (List.mem_cons_of_mem _ q)
        · by_cases hjk : j = k
          · subst hjk
            rw [hoj] at ho
            cases ho
            exact getD_set_true (hall e he hb)
          · rw [getD_set_ne false hjk] at hk
            exact getD_set_true (hdown k o ho hk e he hb)
      -- the operation
      unfold opF at e1
      rw [hojl] at e1
      split at e1
      case h_2 => cases e1
      rename_i o' fp e2 _
      cases e2
      unfold wpOp
      simp only [hoj]
      unfold stpF at e1
      rcases guardK_ok h e1 with ⟨q1, q2⟩ | ⟨q1, q2⟩
      · rw [show (ops.toList.toArray) = ops by simp] at q1
        rw [q1, if_pos rfl]
        obtain ⟨_, q2⟩ := ite_some q2
        refine .inl (Oper.wp_mono ?_ (step_ok hT hE h hX q2))
        rintro a' w' ⟨g', fr', ok, hk'⟩
        cases hk'
        exact next g' a' w' ok
      · rw [show (ops.toList.toArray) = ops by simp] at q1
        rw [q1]
        simp only [Bool.false_eq_true, if_false]
        obtain ⟨_, q2⟩ := ite_some q2
        obtain ⟨g', fr', ok, hk'⟩ := skip_ok h hX q2
        cases hk'
        exact next g' _ _ ok
theorem Ok.drawn (h : Ok st g fr a w) (n : Nat) : Ok st g fr a { w with drawn := n } := { h with
  slot := fun s => by
    have c : Chg g g w { w with drawn := n } (isBox fr) (isBox fr) (fun _ => True) (fun _ => True) := {
      cB := rfl, cM := rfl, cZ := rfl
      zS := fun b o hz => (h.zs b o (by rw [← h.eZ]; exact hz)).1
      cbx := fun _ h => h
      cX := fun _ _ => rfl
      cS := fun _ _ hs => ⟨hs, rfl⟩
      cL := fun _ _ => rfl
      cO := fun _ _ _ hO => ⟨hO, rfl, fun _ => Iff.rfl⟩
      cH := fun _ _ _ _ h => h
      cHp := fun _ _ _ _ => rfl }
    exact c.kSlot (fun _ _ => trivial) (fun hc => by simp [isBox, hc]) (fun _ _ => trivial) (h.slot s) }
theorem draw_ok (hdr : X.dr = true) (hT : TabOk P X) (hE : EnvOk P E) (hX : Fits X st) {ops : Array Oper} {id : Nat} (hQ : ∀ g fr a w, Ok st g fr a w → K fr = some r → Q .normal a w)
    (h : Ok st g fr a w) (hk : runD X E ops.toList ops.toList [] [] fr K = some r) : (Code.region id ops true).wp P Q a w := by
  obtain ⟨fps, m1, m2, f', m3, m4⟩ := runD_path hdr (ops := ops.toList) ops.toList [] [] fr rfl (fun k m hk => by simp at hk) (fun k o hk => by simpa using hk) hk
  simp only [List.nil_append, List.length_nil, Nat.zero_add] at m2 m3
  refine wp_region_any hT.mixed (any_ok hT hE hX (fps := fps) ⟨m1, fun j o ho => (m2 j o ho).1, fun j o i ho hi => (m2 j o ho).2 i hi⟩ hQ m4 ops.size (List.range' 0 ops.toList.length) _ (h.drawn (w.drawn + 1)) (by simp) ?_ (by simp) (fun i hi => ?_) (fun i hi => ?_) (fun k o ho hk => ?_) m3)
  · exact List.pairwise_lt_range'
  · simp [Array.getD_eq_getD_getElem?, hi]
  · simpa using hi
  · exfalso
    rw [Array.getD_eq_getD_getElem?] at hk
    cases hc : (Array.replicate ops.size false)[k]? with
    | none => rw [hc] at hk; cases hk
    | some b =>
      rw [hc] at hk
      have := (Array.getElem?_eq_some_iff.1 hc).2
      simp at this
      subst this
      cases hk
/-! ### Behind the region: rows that were landed are owned -/
def Gh.promo (g : Gh) (s : Nat) (Hn : Nat → Option Value) : Gh := { g with
  H := fun q c => if q = s then (match Hn c with | some v => some v | none => g.H q c) else g.H q c }
theorem Chg.promo (h : Ok st g fr a w) (s : Nat) (Hn : Nat → Option Value) (bx : Nat → Bool) : Chg g (g.promo s Hn) w w bx bx (fun p => match p with | .at q _ c => q = s → Hn c = none | .air _ => True) (fun q => q ≠ s) where
  cB := rfl
  cM := rfl
  cZ := rfl
  zS := fun b o hz => (h.zs b o (by rw [← h.eZ]; exact hz)).1
  cbx := fun s hs => hs
  cX := fun s _ => rfl
  cS := fun b o hs => ⟨hs, rfl⟩
  cL := fun b _ => rfl
  cO := fun b p _ hO => ⟨hO, rfl, fun _ => Iff.rfl⟩
  cH := fun q c u hq hu => by
    simp only [Gh.promo] at hu
    rw [if_neg hq] at hu
    exact hu
  cHp := fun q i c hp => by
    simp only [Gh.promo]
    split
    · rename_i e; rw [hp e]
    · rfl
def newH (cs : List CV) (vs : List Value) : Nat → Option Value
  | 0 => none
  | j + 1 => match cs[j]?, vs[j]? with
    | some (.tmpo _ _), some u => some u
    | _, _ => none
theorem promo_cells (h : Ok st g fr a w) {s : Nat} {bx : Nat → Bool} {cs : List CV} {vs : List Value} (hr : cellsRel w g bx s 0 cs vs) : cellsRel w (g.promo s (newH cs vs)) bx s 0 (cs.map fun c => dem1 s (toOwn c)) vs := by
  refine ⟨by simpa using hr.1, fun j c hj => ?_⟩
  rw [List.getElem?_map] at hj
  cases hc : cs[j]? with
  | none => rw [hc] at hj; cases hj
  | some c0 =>
    rw [hc] at hj
    simp only [Option.map_some, Option.some.injEq] at hj
    subst hj
    obtain ⟨u, hu, hr0⟩ := hr.2 j c0 hc
    refine ⟨u, hu, ?_⟩
    by_cases ht : ∃ t xs, c0 = .tmpo t xs
    · obtain ⟨t, xs, rfl⟩ := ht
      refine ⟨hr0.1, rfl, ?_⟩
      simp only [Gh.promo, if_pos, newH, hc, hu]
    · have he : toOwn c0 = c0 := by cases c0 <;> first | rfl | exact (ht ⟨_, _, rfl⟩).elim
      rw [he]
      refine (Chg.promo h s (newH cs vs) bx).kRel (fun _ => ?_) (fun q hq e => ?_) (dem1_rel (s := s) hr0)
      · simp only [newH, hc]
        cases vs[j]? <;> cases c0 <;> first | rfl | exact (ht ⟨_, _, rfl⟩).elim
      · subst e; rw [dem1_mentions] at hq; cases hq
theorem promo_head {bx : Nat → Bool} {s : Nat} {cs : List CV} {vs : List Value} (hr : cellsRel w g bx s 0 cs vs) (c : Nat) (u : Value) (hu : newH cs vs c = some u) : u = .slice none 0 0 ∨ ∃ b n cap, u = .slice (some ⟨b, 0, none⟩) n cap := by
  cases c with
  | zero => cases hu
  | succ j =>
    simp only [newH] at hu
    split at hu
    · rename_i t xs u' hc hv
      cases hu
      obtain ⟨u2, e1, e2⟩ := hr.2 j _ hc
      rw [hv] at e1
      cases e1
      exact e2.1.head
    · cases hu
theorem promo_set (h : Ok st g fr a w) {s : Nat} {cs : List CV} {vs : List Value} (hr : cellsRel w g (isBox fr) s 0 cs vs) {x : SV} (hb : notBox x = notBox (fr s)) (hx : SRel w (g.promo s (newH cs vs)) (isBox fr) s x (a.tmps.getD s undef)) : Ok st (g.promo s (newH cs vs)) (upd (dem s fr) s x) a w := by
  have hbx : isBox (upd (Rv.dem s fr) s x) = isBox fr := by
    funext q
    by_cases e : q = s
    · subst e; unfold isBox; rw [upd_same, hb]
    · rw [← isBox_dem s fr]; unfold isBox; rw [upd_ne _ _ _ e]
  exact {
    eB := h.eB, eM := h.eM, eZ := h.eZ, size := h.size, defers := h.defers, keep := h.keep, os := h.os, tape := h.tape, output := h.output, heap := h.heap, old := h.old, own := h.own, stab := h.stab, boxS := h.boxS, zs := h.zs, sz := h.sz
    slot := fun q => by
      rw [hbx]
      by_cases e : q = s
      · subst e; rw [upd_same]; exact hx
      · rw [upd_ne _ _ _ e]
        have := (h.dem s).slot q
        rw [isBox_dem] at this
        refine (Chg.promo h s (newH cs vs) (isBox fr)).kSlot (fun i c e' => (e e').elim) (fun hd => ?_) (fun q' hq' e' => ?_) this
        · unfold isBox
          unfold Rv.dem at hd
          cases hq : fr q <;> rw [hq] at hd <;> first | (cases hd; done) | rfl | (rename_i it; cases it <;> first | (cases hd; done) | rfl)
        · subst e'
          have := demS_mentions q' (fr q)
          unfold Rv.dem at hq'
          rw [this] at hq'
          cases hq'
    hh := fun q c u hu => by
      simp only [Gh.promo] at hu
      split at hu
      · split at hu
        · rename_i v hv
          cases hu
          exact promo_head hr c _ hv
        · exact h.hh q c u hu
      · exact h.hh q c u hu }
theorem promoK_ok (h : Ok st g fr a w) {s : Nat} (hk : promoK s fr K = some r) : ∃ g' fr', Ok st g' fr' a w ∧ K fr' = some r := by
  unfold promoK at hk
  have hs := h.slot s
  split at hk
  · rename_i gg cs hf
    cases ht : cs.any isTmp
    · rw [ht] at hk; exact ⟨g, fr, h, hk⟩
    rw [ht] at hk
    simp only [cond_true] at hk
    rw [hf] at hs
    cases gg with
    | true =>
      obtain ⟨vs, e1, e2⟩ := hs
      exact ⟨_, _, promo_set (x := .comp true (cs.map fun c => dem1 s (toOwn c))) h e2 (by rw [hf]; rfl) ⟨vs, e1, promo_cells h e2⟩, hk⟩
    | false =>
      obtain ⟨c, rfl, e2⟩ := hs
      have hr : rel w g (isBox fr) (.at s 0 1) c (a.tmps.getD s undef) := by
        rcases e2 with e | ⟨e, _⟩ | e
        · subst e; cases ht
        · subst e; cases ht
        · exact e
      have hc : cellsRel w g (isBox fr) s 0 [c] [a.tmps.getD s undef] := ⟨rfl, fun j c' hj => by
        cases j with
        | zero => simp at hj; subst hj; exact ⟨_, rfl, hr⟩
        | succ j => simp at hj⟩
      have hn := promo_cells h hc
      obtain ⟨u, e4, e5⟩ := hn.2 0 _ rfl
      simp only [List.getElem?_cons_zero, Option.some.injEq] at e4
      subst e4
      exact ⟨_, _, promo_set (x := .comp false ([c].map fun c => dem1 s (toOwn c))) h hc (by rw [hf]; rfl) ⟨_, rfl, .inr (.inr e5)⟩, hk⟩
  · rename_i cs hf
    cases ht : cs.any isTmp
    · rw [ht] at hk; exact ⟨g, fr, h, hk⟩
    rw [ht] at hk
    simp only [cond_true] at hk
    rw [hf] at hs
    obtain ⟨⟨b, arr, ty, e1, e2, e3, e4⟩, e5⟩ := hs
    exact ⟨_, _, promo_set (x := .box (cs.map fun c => dem1 s (toOwn c))) h e4 (by rw [hf]; rfl) ⟨⟨b, arr, ty, e1, e2, e3, promo_cells h e4⟩, e5⟩, hk⟩
  · exact ⟨g, fr, h, hk⟩
  · exact ⟨g, fr, h, hk⟩
theorem promosK_ok : ∀ (l : List Oper) {g : Gh} {fr : Fr}, Ok st g fr a w → promosK l fr K = some r → ∃ g' fr', Ok st g' fr' a w ∧ K fr' = some r
  | [], g, fr, h, hk => ⟨g, fr, h, hk⟩
  | o :: l, g, fr, h, hk => by
    unfold promosK at hk
    split at hk
    · split at hk
      · obtain ⟨g1, fr1, h1, hk1⟩ := promoK_ok h hk
        exact promosK_ok l h1 hk1
      · exact promosK_ok l h hk
    · split at hk
      · obtain ⟨g1, fr1, h1, hk1⟩ := promoK_ok h hk
        exact promosK_ok l h1 hk1
      · exact promosK_ok l h hk
    · exact promosK_ok l h hk
end
end Go.Rv

/- Code, and its cuts. -/
namespace Go.Rv
set_option linter.unusedSimpArgs false
set_option linter.unusedVariables false
section
variable {P : Program} {st : St} {g : Gh} {fr : Fr} {a : Act} {w : World} {X : Env} {R : Type} {r : R} {Q : Exit → Act → World → Prop}
/-- the end of a round of a loop -/
def LoopWp (P : Program) (c : Code) (Q : Exit → Act → World → Prop) (a : Act) (w : World) : Prop :=
  ∀ (b : Frame) (k : List Item) (cs : List Frame), ∃ e a' w', Q e a' w' ∧ Arrives P (lone (b.at a (.inLoop c :: k)) cs w) b k cs e a' w'
theorem loop_unroll {c : Code} (h : c.wp P (Exit.then (LoopWp P c Q) Q) a w) : LoopWp P c Q a w ∧ (Code.loop c).wp P Q a w := by
  have key : ∀ (b : Frame) (k : List Item) (cs : List Frame), ∃ e a' w', Q e a' w' ∧ Arrives P (lone (b.at a (.code c :: .inLoop c :: k)) cs w) b k cs e a' w' := by
    intro b k cs
    obtain ⟨e, a₁, w₁, hq, harr⟩ := h b (.inLoop c :: k) cs
    cases e with
    | normal =>
      obtain ⟨e₂, a₂, w₂, hq₂, harr₂⟩ := hq b k cs
      exact ⟨e₂, a₂, w₂, hq₂, .of_steps harr harr₂⟩
    | exit id => exact ⟨_, a₁, w₁, hq, .pass (x := .inLoop c) rfl (fun _ _ => .inl (by simp)) harr⟩
    | goto l => exact ⟨_, a₁, w₁, hq, .pass (x := .inLoop c) rfl (fun _ _ => .inl (by simp)) harr⟩
    | ret => exact ⟨_, a₁, w₁, hq, .pass (x := .inLoop c) rfl (fun _ _ => .inl (by simp)) harr⟩
    | panic ch => exact ⟨_, a₁, w₁, hq, .pass (x := .inLoop c) rfl (fun _ _ => .inl (by simp)) harr⟩
    | outgrown => exact ⟨_, a₁, w₁, hq, .pass (x := .inLoop c) rfl (fun _ _ => .inl (by simp)) harr⟩
  constructor
  · intro b k cs
    obtain ⟨e, a', w', hq, harr⟩ := key b k cs
    exact ⟨e, a', w', hq, .of_steps (.one step_inLoop) harr⟩
  · intro b k cs
    obtain ⟨e, a', w', hq, harr⟩ := key b k cs
    exact ⟨e, a', w', hq, .of_steps (.one step_loop) harr⟩
/-- what the answers are for -/
structure KQ (st : St) (K : Ex → Fr → Option R) (r : R) (Q : Exit → Act → World → Prop) : Prop where
  normal : ∀ g fr a w, Ok st g fr a w → K .normal fr = some r → Q .normal a w
  exit : ∀ id g fr a w, Ok st g fr a w → K (.exit id) fr = some r → Q (.exit id) a w
  ret : ∀ g fr a w, Ok st g fr a w → K .ret fr = some r → Q .ret a w
/-- what is to be shown where node q is cut -/
def Cont (P : Program) : Code → Nat → Nat → (Exit → Act → World → Prop) → Act → World → Prop
  | .seq a b, p, q, Q => if q = p then b.wp P Q else if q < p + 1 + nodes a then Cont P a (p + 1) q (Exit.then (b.wp P Q) Q) else Cont P b (p + 1 + nodes a) q Q
  | .cond _ a b, p, q, Q => if q < p + 1 + nodes a then Cont P a (p + 1) q Q else Cont P b (p + 1 + nodes a) q Q
  | .block id b, p, q, Q => Cont P b (p + 1) q (Exit.inBlock id Q)
  | .loop b, p, q, Q => if q = p then fun a w => LoopWp P b Q a w ∧ (Code.loop b).wp P Q a w else Cont P b (p + 1) q (Exit.then (LoopWp P b Q) Q)
  | _, _, _, _ => fun _ _ => False
theorem beq_ne {a b : Nat} (h : a ≠ b) : a.beq b = false := by
  cases hb : a.beq b
  · rfl
  · exact (h (Nat.eq_of_beq_eq_true hb)).elim
theorem nodes_pos : ∀ c : Code, 0 < nodes c
  | .skip | .region _ _ _ | .exit _ | .ret | .goto _ | .label _ | .rangeFunc _ _ _ _ | .refuse _ => by simp [nodes]
  | .seq _ _ | .cond _ _ _ | .block _ _ | .loop _ | .scope _ => by simp only [nodes]; omega
/-- the cuts that c holds lead to where Q holds -/
def CutsAt (P : Program) (st : St) (C : Cuts R) (r : R) (c : Code) (p : Nat) (Q : Exit → Act → World → Prop) : Prop :=
  ∀ q cut, C.lookup q = some cut → p ≤ q → q < p + nodes c → ∀ g fr a w, Ok st g fr a w → jump cut fr = some r → Cont P c p q Q a w
theorem KQ.block {id : Nat} {K : Ex → Fr → Option R} (h : KQ st K r Q) : KQ st (blockK id K) r (Exit.inBlock id Q) where
  normal := fun g fr a w ok hk => h.normal g fr a w ok hk
  exit := fun j g fr a w ok hk => by
    simp only [blockK] at hk
    simp only [Exit.inBlock]
    by_cases hj : j = id
    · subst hj
      rw [Nat.beq_refl] at hk
      simp only [if_true]
      exact h.normal g fr a w ok hk
    · rw [beq_ne hj] at hk
      simp only [hj, if_false]
      exact h.exit j g fr a w ok hk
  ret := fun g fr a w ok hk => h.ret g fr a w ok hk
theorem den_ok (hT : TabOk P X) {E : FuncId → Option Fn} (hE : EnvOk P E) (hX : Fits X st) {C : Cuts R} : ∀ (c : Code) (p : Nat) (Q : Exit → Act → World → Prop) (K : Ex → Fr → Option R), CutsAt P st C r c p Q → KQ st K r Q →
    ∀ g fr a w, Ok st g fr a w → den X E C c p fr K = some r → c.wp P Q a w
  | .skip, p, Q, K, hC, hK, g, fr, a, w, h, hd => wp_skip (hK.normal g fr a w h hd)
  | .region id ops draw, p, Q, K, hC, hK, g, fr, a, w, h, hd => by
    cases draw
    · exact region_ok hT hE hX hK.normal h hd
    · refine draw_ok (X := { X with dr := true }) rfl ⟨hT.mixed, hT.fit, hT.maps⟩ hE ⟨hX.1, hX.2⟩ (fun g' fr' a' w' ok hk => ?_) h hd
      obtain ⟨g2, fr2, ok2, hk2⟩ := promosK_ok ops.toList ok hk
      exact hK.normal g2 fr2 a' w' ok2 hk2
  | .seq x y, p, Q, K, hC, hK, g, fr, a, w, h, hd => by
    refine wp_seq (den_ok hT hE hX x (p + 1) _ (seqK C (fun fr => den X E C y (p + 1 + nodes x) fr K) K p) ?_ ⟨?_, ?_, ?_⟩ g fr a w h hd)
    · intro q cut hq h1 h2 g fr a w ok hj
      have := hC q cut hq (by omega) (by simp only [nodes]; omega) g fr a w ok hj
      simp only [Cont] at this
      rwa [if_neg (by omega), if_pos (by omega)] at this
    · intro g fr a w ok hk
      simp only [seqK] at hk
      split at hk
      next cut hc =>
        have := hC p cut hc (Nat.le_refl _) (by have := nodes_pos (Code.seq x y); omega) g fr a w ok hk
        simp only [Cont, if_true] at this
        exact this
      next hc =>
        refine den_ok hT hE hX y (p + 1 + nodes x) Q K ?_ hK g fr a w ok hk
        intro q cut hq h1 h2 g fr a w ok hj
        have := hC q cut hq (by omega) (by simp only [nodes]; omega) g fr a w ok hj
        simp only [Cont] at this
        rwa [if_neg (by omega), if_neg (by omega)] at this
    · intro id g fr a w ok hk; exact hK.exit id g fr a w ok hk
    · intro g fr a w ok hk; exact hK.ret g fr a w ok hk
  | .cond c x y, p, Q, K, hC, hK, g, fr, a, w, h, hd => by
    simp only [den] at hd
    split at hd
    next q hc =>
      have hv : a.eval c = .bool q := (opc_rel h hc (by simp) (by simp)).2
      split at hd
      next e =>
        subst e
        refine wp_cond_true hv (den_ok hT hE hX x (p + 1) Q K ?_ hK g fr a w h hd)
        intro q cut hq h1 h2 g fr a w ok hj
        have := hC q cut hq (by omega) (by simp only [nodes]; omega) g fr a w ok hj
        simp only [Cont] at this
        rwa [if_pos (by omega)] at this
      next e =>
        have e : q = false := by simpa using e
        subst e
        refine wp_cond_false hv (den_ok hT hE hX y (p + 1 + nodes x) Q K ?_ hK g fr a w h hd)
        intro q cut hq h1 h2 g fr a w ok hj
        have := hC q cut hq (by omega) (by simp only [nodes]; omega) g fr a w ok hj
        simp only [Cont] at this
        rwa [if_neg (by omega)] at this
    next => cases hd
  | .block id x, p, Q, K, hC, hK, g, fr, a, w, h, hd => by
    refine wp_block (den_ok hT hE hX x (p + 1) _ (blockK id K) ?_ hK.block g fr a w h hd)
    intro q cut hq h1 h2 g fr a w ok hj
    exact hC q cut hq (by omega) (by simp only [nodes]; omega) g fr a w ok hj
  | .loop x, p, Q, K, hC, hK, g, fr, a, w, h, hd => by
    simp only [den] at hd
    split at hd
    next cut hc =>
      have := hC p cut hc (Nat.le_refl _) (by have := nodes_pos (Code.loop x); omega) g fr a w h hd
      simp only [Cont, if_true] at this
      exact this.2
    next => cases hd
  | .exit id, p, Q, K, hC, hK, g, fr, a, w, h, hd => wp_exit (hK.exit id g fr a w h hd)
  | .ret, p, Q, K, hC, hK, g, fr, a, w, h, hd => wp_ret (hK.ret g fr a w h hd)
  | .scope _, _, _, _, _, _, _, _, _, _, _, hd => by simp [den] at hd
  | .rangeFunc _ _ _ _, _, _, _, _, _, _, _, _, _, _, hd => by simp [den] at hd
  | .goto _, _, _, _, _, _, _, _, _, _, _, hd => by simp [den] at hd
  | .refuse _, _, _, _, _, _, _, _, _, _, _, hd => by simp [den] at hd
  | .label _, _, _, _, _, _, _, _, _, _, _, hd => by simp [den] at hd
theorem denAt_ok (hT : TabOk P X) {E : FuncId → Option Fn} (hE : EnvOk P E) (hX : Fits X st) {C : Cuts R} : ∀ (c : Code) (p q : Nat) (Q : Exit → Act → World → Prop) (K : Ex → Fr → Option R), CutsAt P st C r c p Q → KQ st K r Q →
    ∀ g fr a w, Ok st g fr a w → denAt X E C c p q K fr = some r → Cont P c p q Q a w
  | .seq x y, p, q, Q, K, hC, hK, g, fr, a, w, h, hd => by
    have hy : CutsAt P st C r y (p + 1 + nodes x) Q := by
      intro q cut hq h1 h2 g fr a w ok hj
      have := hC q cut hq (by omega) (by simp only [nodes]; omega) g fr a w ok hj
      simp only [Cont] at this
      rwa [if_neg (by omega), if_neg (by omega)] at this
    simp only [denAt] at hd
    simp only [Cont]
    by_cases hq : q = p
    · subst hq
      rw [Nat.beq_refl] at hd
      simp only [if_true]
      exact den_ok hT hE hX y _ Q K hy hK g fr a w h hd
    · rw [beq_ne hq] at hd
      rw [if_neg hq]
      by_cases hlt : q < p + 1 + nodes x
      · rw [if_pos hlt]
        rw [show q.blt (p + 1 + nodes x) = true from Nat.ble_eq_true_of_le hlt] at hd
        refine denAt_ok hT hE hX x (p + 1) q _ _ ?_ ⟨?_, ?_, ?_⟩ g fr a w h hd
        · intro q cut hq h1 h2 g fr a w ok hj
          have := hC q cut hq (by omega) (by simp only [nodes]; omega) g fr a w ok hj
          simp only [Cont] at this
          rwa [if_neg (by omega), if_pos (by omega)] at this
        · intro g fr a w ok hk
          simp only [seqK] at hk
          split at hk
          next cut hc =>
            have := hC p cut hc (Nat.le_refl _) (by have := nodes_pos (Code.seq x y); omega) g fr a w ok hk
            simp only [Cont, if_true] at this
            exact this
          next hc => exact den_ok hT hE hX y _ Q K hy hK g fr a w ok hk
        · intro id g fr a w ok hk; exact hK.exit id g fr a w ok hk
        · intro g fr a w ok hk; exact hK.ret g fr a w ok hk
      · rw [if_neg hlt]
        rw [show q.blt (p + 1 + nodes x) = false from by
          cases hb : q.blt (p + 1 + nodes x)
          · rfl
          · exact (hlt (Nat.le_of_ble_eq_true hb)).elim] at hd
        exact denAt_ok hT hE hX y _ q Q K hy hK g fr a w h hd
  | .cond c x y, p, q, Q, K, hC, hK, g, fr, a, w, h, hd => by
    simp only [denAt] at hd
    simp only [Cont]
    by_cases hlt : q < p + 1 + nodes x
    · rw [if_pos hlt]
      rw [show q.blt (p + 1 + nodes x) = true from Nat.ble_eq_true_of_le hlt] at hd
      refine denAt_ok hT hE hX x (p + 1) q Q K ?_ hK g fr a w h hd
      intro q cut hq h1 h2 g fr a w ok hj
      have := hC q cut hq (by omega) (by simp only [nodes]; omega) g fr a w ok hj
      simp only [Cont] at this
      rwa [if_pos (by omega)] at this
    · rw [if_neg hlt]
      rw [show q.blt (p + 1 + nodes x) = false from by
        cases hb : q.blt (p + 1 + nodes x)
        · rfl
        · exact (hlt (Nat.le_of_ble_eq_true hb)).elim] at hd
      refine denAt_ok hT hE hX y _ q Q K ?_ hK g fr a w h hd
      intro q cut hq h1 h2 g fr a w ok hj
      have := hC q cut hq (by omega) (by simp only [nodes]; omega) g fr a w ok hj
      simp only [Cont] at this
      rwa [if_neg (by omega)] at this
  | .block id x, p, q, Q, K, hC, hK, g, fr, a, w, h, hd => by
    simp only [denAt] at hd
    simp only [Cont]
    refine denAt_ok hT hE hX x (p + 1) q _ _ ?_ hK.block g fr a w h hd
    intro q cut hq h1 h2 g fr a w ok hj
    exact hC q cut hq (by omega) (by simp only [nodes]; omega) g fr a w ok hj
  | .loop x, p, q, Q, K, hC, hK, g, fr, a, w, h, hd => by
    simp only [denAt] at hd
    simp only [Cont]
    have hx : CutsAt P st C r x (p + 1) (Exit.then (LoopWp P x Q) Q) := by
      intro q cut hq h1 h2 g fr a w ok hj
      have := hC q cut hq (by omega) (by simp only [nodes]; omega) g fr a w ok hj
      simp only [Cont] at this
      rwa [if_neg (by omega)] at this
    have hk : KQ st (loopK C p K) r (Exit.then (LoopWp P x Q) Q) := by
      refine ⟨?_, ?_, ?_⟩
      · intro g fr a w ok hk
        simp only [loopK] at hk
        split at hk
        next cut hc =>
          have := hC p cut hc (Nat.le_refl _) (by have := nodes_pos (Code.loop x); omega) g fr a w ok hk
          simp only [Cont, if_true] at this
          exact this.1
        next => cases hk
      · intro id g fr a w ok hk; exact hK.exit id g fr a w ok hk
      · intro g fr a w ok hk; exact hK.ret g fr a w ok hk
    by_cases hq : q = p
    · subst hq
      rw [Nat.beq_refl] at hd
      simp only [if_true]
      exact loop_unroll (den_ok hT hE hX x _ _ _ hx hk g fr a w h hd)
    · rw [beq_ne hq] at hd
      rw [if_neg hq]
      exact denAt_ok hT hE hX x _ q _ _ hx hk g fr a w h hd
  | .skip, _, _, _, _, _, _, _, _, _, _, _, hd => by simp [denAt] at hd
  | .region _ _ _, _, _, _, _, _, _, _, _, _, _, _, hd => by simp [denAt] at hd
  | .exit _, _, _, _, _, _, _, _, _, _, _, _, hd => by simp [denAt] at hd
  | .ret, _, _, _, _, _, _, _, _, _, _, _, hd => by simp [denAt] at hd
  | .scope _, _, _, _, _, _, _, _, _, _, _, _, hd => by simp [denAt] at hd
  | .rangeFunc _ _ _ _, _, _, _, _, _, _, _, _, _, _, _, hd => by simp [denAt] at hd
  | .goto _, _, _, _, _, _, _, _, _, _, _, _, hd => by simp [denAt] at hd
  | .refuse _, _, _, _, _, _, _, _, _, _, _, _, hd => by simp [denAt] at hd
  | .label _, _, _, _, _, _, _, _, _, _, _, _, hd => by simp [denAt] at hd
end
end Go.Rv

/- Frames told by patterns. -/
namespace Go.Rv
set_option linter.unusedSimpArgs false
set_option linter.unusedVariables false
section
variable {P : Program} {st : St} {g : Gh} {fr : Fr} {a : Act} {w : World} {X : Env} {R : Type} {r : R} {Q : Exit → Act → World → Prop}
theorem zmono (h : Ok st g fr a w) {t : Ty} {xs : List (Den t)} {v : Value} (hz : RS w g.Z t xs v) : RS w g.S t xs v :=
  rep_mono (fun b o hz => ⟨(h.zs b o (by rw [← h.eZ]; exact hz)).1, rfl⟩) hz
theorem RS_nils {S : Nat → Nat → Prop} {t : Ty} : RS w S t [] (.slice none 0 0) := ⟨none, 0, rfl, Nat.le_refl _, fun i x hx => by simp at hx⟩
def relLike (w : World) (g : Gh) : CV → Value → Prop := relF w g
/-- a flat cell, told by a flat pattern -/
theorem fdec_relF (h : Ok st g fr a w) {b : Bool} {H' : Nat → Nat → Option Value} : ∀ {p : FPat} {c : CV} {x : p.T} {v : Value}, p.flat = true → p.dec b c = some x → relF w g c v → relF w { g with H := H' } (p.enc x) v := by
  intro p c x v hp hd hr
  cases p <;> simp only [FPat.flat, Bool.false_eq_true] at hp
  case hi t =>
    have hd : listAs t c = some x := hd
    show RS w g.S t x v
    cases c <;> simp only [listAs] at hd <;> first | (cases hd; done) | skip
    case nils => cases hd; have hv : v = .slice none 0 0 := hr; subst hv; exact RS_nils
    all_goals
      split at hd
      case isFalse => cases hd
      rename_i hu
      subst hu
      cases hd
    case lo => exact zmono h hr
    case hi => exact hr
    all_goals exact hr.elim
  case dead => exact relF_one hr
  case int k =>
    cases c <;> simp only [FPat.dec] at hd <;> first | (cases hd; done) | skip
    split at hd
    case isFalse => cases hd
    rename_i e
    subst e
    cases hd
    exact hr
  case bool =>
    cases c <;> simp only [FPat.dec] at hd <;> first | (cases hd; done) | skip
    cases hd; exact hr
  case str =>
    cases c <;> simp only [FPat.dec] at hd <;> first | (cases hd; done) | skip
    cases hd; exact hr
  case nils =>
    cases c <;> simp only [FPat.dec] at hd <;> first | (cases hd; done) | skip
    exact hr
  case lo t =>
    show RS w g.Z t x v
    cases c <;> simp only [FPat.dec] at hd <;> first | (cases hd; done) | skip
    · cases hd; have hv : v = .slice none 0 0 := hr; subst hv; exact RS_nils
    · split at hd
      case isFalse => cases hd
      rename_i hu
      subst hu
      cases hd
      exact hr
theorem fdecs_PL (h : Ok st g fr a w) {b : Bool} {H' : Nat → Nat → Option Value} {S : Nat → Nat → Prop} {A : Addr} : ∀ {ps : List FPat} {cs : List CV} {x : fpatsT ps}, ps.all FPat.flat = true → fdecs b ps cs = some x → PL w g S A cs → PL w { g with H := H' } S A (fencs ps x) := by
  intro ps cs x hp hd hr
  obtain ⟨h1, hr⟩ := hr
  refine ⟨h1, ?_⟩
  clear h1
  show ∀ j c, (fencs ps x)[j]? = some c → S A.block (A.off + j) ∧ ∃ u, w.cell? ⟨A.block, A.off + j, none⟩ = some u ∧ relF w { g with H := H' } c u
  generalize A.off = k at hr ⊢
  induction ps generalizing cs k with
  | nil => intro j c hj; simp [fencs] at hj
  | cons p ps ih =>
    cases cs with
    | nil => simp [fdecs] at hd
    | cons c cs =>
      simp only [fdecs] at hd
      split at hd
      case h_2 => cases hd
      rename_i y hy
      split at hd
      case h_2 => cases hd
      rename_i z hz
      cases hd
      simp only [List.all_cons, Bool.and_eq_true] at hp
      intro j e hj
      cases j with
      | zero =>
        simp only [fencs, List.getElem?_cons_zero, Option.some.injEq] at hj
        subst hj
        obtain ⟨q1, u, q2, q3⟩ := hr 0 c rfl
        exact ⟨q1, u, q2, fdec_relF h hp.1 hy q3⟩
      | succ j =>
        simp only [fencs, List.getElem?_cons_succ] at hj
        have := ih hp.2 hz (k + 1) (fun j c hj => by
          have := hr (j + 1) c (by simpa using hj)
          rwa [show k + (j + 1) = k + 1 + j by omega] at this) j e hj
        rwa [show k + 1 + j = k + (j + 1) by omega] at this
theorem fdecss_caps (h : Ok st g fr a w) {b : Bool} {H' : Nat → Nat → Option Value} {bx bx' : Nat → Bool} : ∀ {pss : List (List FPat)} {cs : List CV} {x : fpatssT pss} {vs : List Value}, pss.all (fun ps => ps.all FPat.flat) = true → fdecss b pss cs = some x → vs.length = cs.length →
    (∀ (j : Nat) (c : CV), cs[j]? = some c → ∃ u : Value, vs[j]? = some u ∧ relP w g bx c u) → vs.length = (fencss pss x).length ∧ ∀ (j : Nat) (c : CV), (fencss pss x)[j]? = some c → ∃ u : Value, vs[j]? = some u ∧ relP w { g with H := H' } bx' c u
  | [], cs, x, vs, hp, hd, hl, hr => by
    cases cs with
    | nil => exact ⟨by simpa [fencss] using hl, fun j c hj => by simp [fencss] at hj⟩
    | cons => simp [fdecss] at hd
  | p :: pss, cs, x, vs, hp, hd, hl, hr => by
    cases cs with
    | nil => simp [fdecss] at hd
    | cons c cs =>
      cases c <;> simp only [fdecss] at hd <;> first | (cases hd; done) | skip
      rename_i cc
      split at hd
      case h_2 => cases hd
      rename_i y hy
      split at hd
      case h_2 => cases hd
      rename_i z hz
      cases hd
      simp only [List.all_cons, Bool.and_eq_true] at hp
      cases vs with
      | nil => simp at hl
      | cons v vs =>
        obtain ⟨i1, i2⟩ := fdecss_caps h (bx' := bx') (H' := H') hp.2 hz (by simpa using hl) (fun j c hj => by simpa using hr (j + 1) c (by simpa using hj))
        refine ⟨by simpa [fencss] using i1, fun j e hj => ?_⟩
        cases j with
        | zero =>
          simp only [fencss, List.getElem?_cons_zero, Option.some.injEq] at hj
          subst hj
          obtain ⟨u, q1, A, q2, q3⟩ := hr 0 (.rptr cc) rfl
          exact ⟨u, q1, A, q2, fdecs_PL h hp.1 hy q3⟩
        | succ j =>
          simp only [fencss, List.getElem?_cons_succ] at hj
          simpa using i2 j e hj
/-- a cell, told by a pattern -/
theorem dec_rel (h : Ok st g fr a w) {b : Bool} {H' : Nat → Nat → Option Value} {bx bx' : Nat → Bool} {all : CutP} {s k : Nat} {p : Pat} {c : CV} {x : p.T} {v : Value} (hp : p.ok all = true) (hd : p.dec b c = some x) (hr : rel w g bx (.at s 0 k) c v)
    (hown : ∀ t, p = .fl (.own t) → H' s k = some v) (href : ∀ s' c' t, p = .fl (.ref s' c' t) → H' s' c' = g.H s' c') (hptr : ∀ s' c', p = .fl (.ptr s' c') → bx' s' = true) (hmptr : ∀ s', p = .fl (.mptr s') → bx' s' = true) : rel w { g with H := H' } bx' (.at s 0 k) (p.enc x) v := by
  cases p with
  | fl p =>
    cases p with
    | own t =>
      have hH := hown t rfl
      refine ⟨?_, rfl, hH⟩
      cases c <;> simp only [Pat.dec, FPat.dec] at hd <;> first | (cases hd; done) | skip
      · cases b
        · cases hd
        · cases hd
          exact .inl ⟨hr, rfl⟩
      · split at hd
        case isFalse => cases hd
        rename_i hu
        subst hu
        cases hd
        exact hr.1
      · cases b
        · cases hd
        · simp only [cond_true] at hd
          split at hd
          case isFalse => cases hd
          rename_i hu
          subst hu
          cases hd
          exact hr.1
    | ref s' c' t =>
      have hH := href s' c' t rfl
      cases c <;> simp only [Pat.dec, FPat.dec] at hd <;> first | (cases hd; done) | skip
      split at hd
      case isFalse => cases hd
      rename_i hu
      obtain ⟨rfl, rfl, rfl⟩ := hu
      cases hd
      exact ⟨hr.1, fun u hu => hr.2 u (hH ▸ hu)⟩
    | ptr s' c' =>
      have hB := hptr s' c' rfl
      cases c <;> simp only [Pat.dec, FPat.dec] at hd <;> first | (cases hd; done) | skip
      split at hd
      case isFalse => cases hd
      rename_i hu
      obtain ⟨rfl, rfl⟩ := hu
      exact ⟨hB, hr.2⟩
    | mptr s' =>
      have hB := hmptr s' rfl
      cases c <;> simp only [Pat.dec, FPat.dec] at hd <;> first | (cases hd; done) | skip
      split at hd
      case isFalse => cases hd
      rename_i hu
      subst hu
      exact ⟨hB, hr.2⟩
    | hi t =>
      have hd : listAs t c = some x := hd
      exact listAs_rel h hd hr
    | dead => exact rel_one hr
    | undef =>
      cases c <;> simp only [Pat.dec, FPat.dec] at hd <;> first | (cases hd; done) | exact hr
    | int k =>
      cases c <;> simp only [Pat.dec, FPat.dec] at hd <;> first | (cases hd; done) | skip
      split at hd
      case isFalse => cases hd
      rename_i e
      subst e
      cases hd
      exact hr
    | bool =>
      cases c <;> simp only [Pat.dec, FPat.dec] at hd <;> first | (cases hd; done) | skip
      cases hd; exact hr
    | str =>
      cases c <;> simp only [Pat.dec, FPat.dec] at hd <;> first | (cases hd; done) | skip
      cases hd; exact hr
    | nils =>
      cases c <;> simp only [Pat.dec, FPat.dec] at hd <;> first | (cases hd; done) | skip
      exact hr
    | lo t =>
      show RS w g.Z t x v
      cases c <;> simp only [Pat.dec, FPat.dec] at hd <;> first | (cases hd; done) | skip
      · cases hd; have hv : v = .slice none 0 0 := hr; subst hv; exact RS_nils
      · split at hd
        case isFalse => cases hd
        rename_i hu
        subst hu
        cases hd
        exact hr
  | mp kk vv =>
    cases c <;> simp only [Pat.dec] at hd <;> first | (cases hd; done) | skip
    exact hr.elim
  | rptr ps =>
    cases c <;> simp only [Pat.dec] at hd <;> first | (cases hd; done) | skip
    obtain ⟨A, e1, e2⟩ := hr
    exact ⟨A, e1, fdecs_PL h hp hd e2⟩
  | hptr ps =>
    cases c <;> simp only [Pat.dec] at hd <;> first | (cases hd; done) | skip
    obtain ⟨A, e1, e2⟩ := hr
    exact ⟨A, e1, fdecs_PL h hp hd e2⟩
  | fn f pss =>
    cases c <;> simp only [Pat.dec] at hd <;> first | (cases hd; done) | skip
    split at hd
    case isFalse => cases hd
    rename_i e
    subst e
    obtain ⟨cvs, e1, e2, e3⟩ := hr
    obtain ⟨i1, i2⟩ := fdecss_caps h (H' := H') (bx' := bx') hp hd e2 e3
    exact ⟨cvs, e1, i1, i2⟩
/-! ### A cut -/
theorem notBox_boxOf (cs : List CV) : notBox (boxOf cs) = false := by
  unfold boxOf
  split <;> rfl
theorem decMp {b : Bool} {ps : List Pat} {cs : List CV} {y : patsT ps} {k v : Ty} {xs : List (Den k × Den v)} (hd : decs b ps cs = some y) (he : encs ps y = [.mmap k v xs]) : ∃ zs, cs = [.mmap k v zs] := by
  match ps, cs, y, hd, he with
  | [], _, _, _, he => simp [encs] at he
  | [p], [], _, hd, _ => simp [decs] at hd
  | [p], _ :: _ :: _, _, hd, _ =>
    simp only [decs] at hd
    split at hd <;> cases hd
  | [p], [c], y, hd, he =>
    simp only [decs] at hd
    split at hd
    case h_2 => cases hd
    rename_i y0 hy
    cases hd
    simp only [encs, List.cons.injEq, and_true] at he
    cases p with
    | fl p => cases p <;> simp [Pat.enc, FPat.enc] at he
    | mp k' v' =>
      simp only [Pat.enc] at he
      cases he
      cases c <;> simp only [Pat.dec] at hy <;> first | (cases hy; done) | skip
      split at hy
      case isFalse => cases hy
      rename_i hu
      obtain ⟨rfl, rfl⟩ := hu
      exact ⟨_, rfl⟩
    | _ => simp [Pat.enc] at he
  | _ :: _ :: _, _, _, _, he => simp [encs] at he
theorem mpDec {b : Bool} {ps : List Pat} {y : patsT ps} {k v : Ty} {xs : List (Den k × Den v)} (hm : isMp ps = true) (hd : decs b ps [.mmap k v xs] = some y) : encs ps y = [.mmap k v xs] := by
  match ps, y, hm, hd with
  | [.mp k' v'], y, _, hd =>
    simp only [decs, Pat.dec] at hd
    split at hd
    case h_2 => cases hd
    rename_i y0 hy
    split at hy
    case isFalse => cases hy
    rename_i hu
    obtain ⟨rfl, rfl⟩ := hu
    cases hy
    cases hd
    rfl
theorem readCut_lookup {all : CutP} : ∀ {ps : CutP} {x : cutT ps} {fr : Fr}, readCut all ps fr = some x → ∀ s, (∀ sp, ps.lookup s = some sp → ∃ y : patsT sp.2, decS (!refTo s all) sp (fr s) = some y ∧ cutFr ps x s = encS sp y) ∧ (ps.lookup s = none → cutFr ps x s = .dead)
  | [], x, fr, h, s => ⟨fun sp hs => by simp at hs, fun _ => rfl⟩
  | p :: r, x, fr, h, s => by
    simp only [readCut] at h
    split at h
    case h_2 => cases h
    rename_i y hy
    split at h
    case h_2 => cases h
    rename_i z hz
    cases h
    obtain ⟨i1, i2⟩ := readCut_lookup hz s
    obtain ⟨j, sp⟩ := p
    by_cases hs : s = j
    · subst hs
      refine ⟨fun sp' hsp => ?_, fun hsp => ?_⟩
      · simp at hsp
        subst hsp
        exact ⟨y, hy, by simp [cutFr, upd_same]⟩
      · simp at hsp
    · have hne : (s == j) = false := by simpa using hs
      simp only [List.lookup_cons, hne, cutFr]
      rw [upd_ne _ _ _ hs]
      exact ⟨i1, i2⟩
/-- cell k of slot s is to be owned -/
def ownAt (all : CutP) (s k : Nat) : Prop := ∃ sp t, all.lookup s = some sp ∧ 0 < k ∧ sp.2[k - 1]? = some (.fl (.own t))
open Classical in
noncomputable def cutH (g : Gh) (fr : Fr) (a : Act) (w : World) (all : CutP) (s k : Nat) : Option Value :=
  if ownAt all s k then (if h : ∃ v, At g fr a w s k v then some h.choose else none) else g.H s k
theorem cutH_own {all : CutP} {s k : Nat} {v : Value} (ho : ownAt all s k) (hv : At g fr a w s k v) : cutH g fr a w all s k = some v := by
  have hex : ∃ v, At g fr a w s k v := ⟨v, hv⟩
  unfold cutH
  rw [if_pos ho, dif_pos hex, hex.choose_spec.fun hv]
theorem refTo_spec {s : Nat} : ∀ {all : CutP} {s0 : Nat} {sp : SPat} {c k : Nat} {t : Ty}, all.lookup s0 = some sp → sp.2[k]? = some (.fl (.ref s c t)) → refTo s all = true
  | [], s0, sp, c, k, t, h, hk => by simp at h
  | p :: r, s0, sp, c, k, t, h, hk => by
    obtain ⟨j, q⟩ := p
    simp only [List.lookup_cons] at h
    simp only [refTo, Bool.or_eq_true]
    split at h
    · cases h
      refine .inl (List.any_eq_true.2 ⟨_, List.mem_of_getElem? hk, ?_⟩)
      simp
    · exact .inr (refTo_spec h hk)
theorem lookup_mem : ∀ {all : CutP} {s : Nat} {sp : SPat}, all.lookup s = some sp → (s, sp) ∈ all
  | [], s, sp, h => by simp at h
  | p :: r, s, sp, h => by
    obtain ⟨j, q⟩ := p
    simp only [List.lookup_cons] at h
    split at h
    · rename_i e
      have e : s = j := by simpa using e
      cases h
      subst e
      exact List.mem_cons_self
    · exact List.mem_cons_of_mem _ (lookup_mem h)
/-- the cells of a slot, told by patterns -/
theorem decs_get {b : Bool} : ∀ {ps : List Pat} {cs : List CV} {x : patsT ps}, decs b ps cs = some x → cs.length = ps.length ∧ (encs ps x).length = ps.length ∧ ∀ (k : Nat) (p : Pat), ps[k]? = some p → ∃ (c : CV) (y : p.T), cs[k]? = some c ∧ p.dec b c = some y ∧ (encs ps x)[k]? = some (p.enc y)
  | [], cs, x, h => by
    cases cs with
    | nil => exact ⟨rfl, rfl, fun k p hk => by simp at hk⟩
    | cons => simp [decs] at h
  | p :: ps, cs, x, h => by
    cases cs with
    | nil => simp [decs] at h
    | cons c cs =>
      simp only [decs] at h
      split at h
      case h_2 => cases h
      rename_i y hy
      split at h
      case h_2 => cases h
      rename_i z hz
      cases h
      obtain ⟨i1, i2, i3⟩ := decs_get hz
      refine ⟨by simp [i1], by simp [encs, i2], fun k q hk => ?_⟩
      cases k with
      | zero => simp at hk; subst hk; exact ⟨c, y, rfl, hy, rfl⟩
      | succ k => simp at hk; simpa [encs] using i3 k q hk
theorem ok_mem {all : CutP} (hc : cutOk all = true) {s : Nat} {sp : SPat} (hs : all.lookup s = some sp) {k : Nat} {p : Pat} (hk : sp.2[k]? = some p) : p.ok all = true :=
  List.all_eq_true.1 (List.all_eq_true.1 hc _ (lookup_mem hs)) _ (List.mem_of_getElem? hk)
theorem own_dec {b : Bool} {t : Ty} {c : CV} {y : (Pat.fl (.own t)).T} (h : (Pat.fl (.own t)).dec b c = some y) : (∃ u xs, c = .own u xs) ∨ (b = true ∧ ((∃ u xs, c = .tmpo u xs) ∨ c = .nils)) := by
  cases c <;> simp only [Pat.dec, FPat.dec] at h <;> first | exact .inl ⟨_, _, rfl⟩ | (cases h; done) | skip
  all_goals
    cases b
    · cases h
  · exact .inr ⟨rfl, .inr rfl⟩
  · exact .inr ⟨rfl, .inl ⟨_, _, rfl⟩⟩
theorem own_cell {all : CutP} {b : Bool} {s c : Nat} {sp : SPat} {t : Ty} {y : patsT sp.2} (hk : 0 < c) (hp : sp.2[c - 1]? = some (.fl (.own t))) (hd : decS b sp (fr s) = some y) :
    (∃ u xs, cellAt fr s c = .own u xs) ∨ (b = true ∧ ((∃ u xs, cellAt fr s c = .tmpo u xs) ∨ cellAt fr s c = .nils)) := by
  have key : ∀ cs (yy : patsT sp.2), (fr s = .box cs ∨ ∃ gg, fr s = .comp gg cs) → decs b sp.2 cs = some yy → (∃ u xs, cellAt fr s c = .own u xs) ∨ (b = true ∧ ((∃ u xs, cellAt fr s c = .tmpo u xs) ∨ cellAt fr s c = .nils)) := by
    intro cs yy hf hdd
    obtain ⟨i1, i2, i3⟩ := decs_get hdd
    obtain ⟨c0, y0, q1, q2, q3⟩ := i3 _ _ hp
    have hcc : cellAt fr s c = c0 := by
      unfold cellAt
      obtain ⟨m, rfl⟩ : ∃ m, c = m + 1 := ⟨c - 1, by omega⟩
      simp only [Nat.add_sub_cancel] at q1
      rcases hf with hf | ⟨gg, hf⟩ <;> rw [hf] <;> simp [List.getD_eq_getElem?_getD, q1]
    rw [hcc]
    exact own_dec q2
  cases hf : fr s with
  | tup vs => rw [hf] at hd; simp [decS] at hd
  | mapb kk vv xx ii =>
    have hd' : decs b sp.2 [.mmap kk vv xx] = some y := by
      rw [hf] at hd
      cases ii <;> simp only [decS] at hd <;> (split at hd <;> first | (cases hd; done) | exact (bif_some hd).2)
    obtain ⟨i1, i2, i3⟩ := decs_get hd'
    obtain ⟨c0, y0, q1, q2, q3⟩ := i3 _ _ hp
    have hc0 : c0 = .mmap kk vv xx := by
      cases hk2 : c - 1 with
      | zero => rw [hk2] at q1; simpa using q1.symm
      | succ m => rw [hk2] at q1; simp at q1
    rcases own_dec q2 with ⟨u, ys, e⟩ | ⟨_, ⟨u, ys, e⟩ | e⟩ <;> rw [hc0] at e <;> cases e
  | comp gg cs =>
    rw [hf] at hd
    simp only [decS] at hd
    split at hd
    · obtain ⟨_, hd⟩ := bif_some hd
      exact key cs y (.inr ⟨gg, hf⟩) hd
    · cases hd
  | box cs =>
    rw [hf] at hd
    simp only [decS] at hd
    split at hd
    · exact key cs y (.inl hf) hd
    · cases hd
theorem cut_ok (h : Ok st g fr a w) {all : CutP} (hc : cutOk all = true) {x : cutT all} (hx : readCut all all fr = some x) : ∃ g', Ok st g' (cutFr all x) a w := by
  have hread := readCut_lookup hx
  have hbox : ∀ (s' c' k s : Nat) (sp : SPat), all.lookup s = some sp → sp.2[k]? = some (.fl (.ptr s' c')) → isBox (cutFr all x) s' = true := by
    intro s' c' k s sp hs hk
    have := ok_mem hc hs hk
    simp only [Pat.ok] at this
    split at this
    · rename_i q hq
      obtain ⟨y, _, e⟩ := (hread s').1 _ hq
      simp only [isBox, e, encS, notBox_boxOf, Bool.not_false]
    · cases this
  have hmbox : ∀ (s' k s : Nat) (sp : SPat), all.lookup s = some sp → sp.2[k]? = some (.fl (.mptr s')) → isBox (cutFr all x) s' = true := by
    intro s' k s sp hs hk
    have := ok_mem hc hs hk
    simp only [Pat.ok] at this
    split at this
    · rename_i q hq
      obtain ⟨y, _, e⟩ := (hread s').1 _ hq
      simp only [isBox, e, encS, notBox_boxOf, Bool.not_false]
    · cases this
  -- a cell
  have cell : ∀ (s : Nat) (sp : SPat), all.lookup s = some sp → ∀ (k : Nat) (p : Pat) (c : CV) (y : p.T) (v : Value), sp.2[k]? = some p → p.dec (!refTo s all) c = some y → cellAt fr s (k + 1) = c → At g fr a w s (k + 1) v → rel w g (isBox fr) (.at s 0 (k + 1)) c v →
      rel w { g with H := cutH g fr a w all } (isBox (cutFr all x)) (.at s 0 (k + 1)) (p.enc y) v := by
    intro s sp hs k p c y v hk hd hcell hat hr
    refine dec_rel h (ok_mem hc hs hk) hd hr (fun t e => ?_) (fun s' c' t e => ?_) (fun s' c' e => ?_) (fun s' e => ?_)
    · subst e
      exact cutH_own ⟨sp, t, hs, by omega, by simpa using hk⟩ hat
    · subst e
      unfold cutH
      split
      · rename_i ho
        obtain ⟨sp', t', hs', hk0, hk'⟩ := ho
        have hb := refTo_spec hs hk
        obtain ⟨y', hd', _⟩ := (hread s').1 _ hs'
        rw [hb] at hd'
        -- the owner's cell is an owner already
        have : ∃ u xs, cellAt fr s' c' = .own u xs := by
          rcases own_cell (all := all) hk0 hk' hd' with q | q
          · exact q
          · cases q.1
        obtain ⟨u, xs, hu⟩ := this
        obtain ⟨v', hat', hr'⟩ := cell_rel h hu (by simp) (by simp)
        rw [hr'.2.2]
        have hex : ∃ v, At g fr a w s' c' v := ⟨v', hat'⟩
        rw [dif_pos hex, hex.choose_spec.fun hat']
      · rfl
    · subst e
      exact hbox s' c' k s sp hs hk
    · subst e
      exact hmbox s' k s sp hs hk
  refine ⟨{ g with H := cutH g fr a w all }, { h with
    slot := fun s => ?_
    hh := fun s c u hu => ?_ }⟩
  · cases hs : all.lookup s with
    | none =>
      rw [(hread s).2 hs]
      exact ⟨.dead, rfl, .inl rfl⟩
    | some sp =>
      obtain ⟨y, hd, e⟩ := (hread s).1 _ hs
      rw [e]
      have hsl := h.slot s
      cases hf : fr s with
      | tup vs => rw [hf] at hd; simp [decS] at hd
      | mapb kk vv xx ii =>
        rw [hf] at hd hsl
        obtain ⟨q, ps⟩ := sp
        cases ii with
        | none =>
          simp only [decS] at hd
          split at hd
          case h_2 => cases hd
          obtain ⟨hm, hd⟩ := bif_some hd
          have he := mpDec hm hd
          simp only [encS, he, boxOf]
          exact hsl
        | some cur =>
          simp only [decS] at hd
          split at hd
          case h_1 => cases hd
          obtain ⟨hm, hd⟩ := bif_some hd
          have he := mpDec hm hd
          simp only [encS, he, compOf]
          obtain ⟨b, bm, h1, h2, ⟨es, clock, since, seen, c0, i1, i2, i3, i4, i5, i6, i7, _⟩, h5⟩ := hsl
          exact ⟨b, bm, h1, h2, ⟨es, clock, since, seen, c0, i1, i2, i3, i4, i5, i6, i7, fun c hc => by cases hc⟩, h5⟩
      | comp gg cs =>
        rw [hf] at hd hsl
        obtain ⟨q, ps⟩ := sp
        simp only [decS] at hd
        split at hd
        case h_2 => cases hd
        rename_i g0
        obtain ⟨hg, hd⟩ := bif_some hd
        have hg : gg = g0 := by simpa using hg
        subst hg
        obtain ⟨i1, i2, i3⟩ := decs_get hd
        have hcx : compOf gg (encs ps y) = .comp gg (encs ps y) := by
          unfold compOf
          split
          · rename_i he
            obtain ⟨zs, rfl⟩ := decMp hd he
            cases gg with
            | true =>
              obtain ⟨vs, e1, e2, e3⟩ := hsl
              obtain ⟨u, _, u2⟩ := e3 0 _ rfl
              exact u2.elim
            | false =>
              obtain ⟨c0, e0, hv⟩ := hsl
              cases e0
              rcases hv with hv | ⟨hv, _⟩ | hv
              · cases hv
              · cases hv
              · exact hv.elim
          · rfl
        simp only [encS, hcx]
        cases gg with
        | true =>
          obtain ⟨vs, e1, e2, e3⟩ := hsl
          refine ⟨vs, e1, by rw [e2, i1, i2], fun j c hj => ?_⟩
          have hjl : j < ps.length := by rw [← i2]; exact (List.getElem?_eq_some_iff.1 hj).1
          obtain ⟨c0, y0, q1, q2, q3⟩ := i3 j ps[j] (List.getElem?_eq_getElem hjl)
          rw [hj] at q3
          cases q3
          obtain ⟨u, u1, u2⟩ := e3 j c0 q1
          refine ⟨u, u1, cell s _ hs j _ c0 y0 u (List.getElem?_eq_getElem hjl) q2 ?_ ?_ u2⟩
          · unfold cellAt; rw [hf]; simp [List.getD_eq_getElem?_getD, q1]
          · unfold At; rw [hf]; exact ⟨vs, e1, by omega, by simpa using u1⟩
        | false =>
          obtain ⟨c0, rfl, hv⟩ := hsl
          have hpl : ps.length = 1 := by rw [← i1]; rfl
          match ps, hpl with
          | [p], _ =>
            obtain ⟨c1, y0, q1, q2, q3⟩ := i3 0 p rfl
            simp at q1
            subst q1
            have hen : encs [p] y = [p.enc y0] := by
              have : (encs [p] y).length = 1 := i2
              match hh : encs [p] y, this with
              | [z], _ => rw [hh] at q3; simp at q3; rw [q3]
            rw [hen]
            refine ⟨_, rfl, ?_⟩
            rcases hv with hv | hv | hv
            · subst hv
              cases p with
              | fl p => cases p <;> simp only [Pat.dec, FPat.dec, listAs] at q2 <;> first | exact .inl rfl | (cases q2; done)
              | _ => simp [Pat.dec] at q2
            · obtain ⟨hv, hu⟩ := hv
              subst hv
              cases p with
              | fl p => cases p <;> simp only [Pat.dec, FPat.dec, listAs] at q2 <;> first | exact .inl rfl | exact .inr (.inl ⟨rfl, hu⟩) | (cases q2; done)
              | _ => simp [Pat.dec] at q2
            · refine .inr (.inr (cell s _ hs 0 p c0 y0 _ rfl q2 ?_ ?_ hv))
              · unfold cellAt; rw [hf]; rfl
              · unfold At; rw [hf]; exact ⟨rfl, rfl⟩
      | box cs =>
        rw [hf] at hd hsl
        obtain ⟨q, ps⟩ := sp
        simp only [decS] at hd
        split at hd
        case h_2 => cases hd
        obtain ⟨i1, i2, i3⟩ := decs_get hd
        obtain ⟨⟨b, arr, ty, e1, e2, e3, e4, e5⟩, e6⟩ := hsl
        have hbx : boxOf (encs ps y) = .box (encs ps y) := by
          unfold boxOf
          split
          · rename_i he
            obtain ⟨zs, rfl⟩ := decMp hd he
            obtain ⟨u, _, u2⟩ := e5 0 _ rfl
            exact u2.elim
          · rfl
        simp only [encS, hbx]
        refine ⟨⟨b, arr, ty, e1, e2, e3, by rw [e4, i1, i2], fun j c hj => ?_⟩, e6⟩
        have hjl : j < ps.length := by rw [← i2]; exact (List.getElem?_eq_some_iff.1 hj).1
        obtain ⟨c0, y0, q1, q2, q3⟩ := i3 j ps[j] (List.getElem?_eq_getElem hjl)
        rw [hj] at q3
        cases q3
        obtain ⟨u, u1, u2⟩ := e5 j c0 q1
        refine ⟨u, u1, cell s _ hs j _ c0 y0 u (List.getElem?_eq_getElem hjl) q2 ?_ ?_ u2⟩
        · unfold cellAt; rw [hf]; simp [List.getD_eq_getElem?_getD, q1]
        · unfold At; rw [hf]; exact ⟨b, arr, ty, e1, e3, by omega, by simpa using u1⟩
  · simp only [cutH] at hu
    split at hu
    · rename_i ho
      split at hu
      · rename_i hex
        have hat := hex.choose_spec
        cases hu
        obtain ⟨sp, t, hs, hk0, hk⟩ := ho
        obtain ⟨y, hd, _⟩ := (hread s).1 _ hs
        have own : ∀ v, (OwnR w g (.at s 0 c) t [] v ∨ ∃ u xs, OwnR w g (.at s 0 c) u xs v) → At g fr a w s c v → hex.choose = .slice none 0 0 ∨ ∃ b n cap, hex.choose = .slice (some ⟨b, 0, none⟩) n cap := by
          intro v hv hat'
          rw [hat.fun hat']
          rcases hv with hv | ⟨_, _, hv⟩ <;> (rcases hv with hv | ⟨b, cap, cur, e, hv, _⟩; exact .inl hv.1; exact .inr ⟨_, _, _, hv⟩)
        rcases own_cell (all := all) hk0 hk hd with ⟨u, xs, q⟩ | ⟨_, ⟨u, xs, q⟩ | q⟩
        · obtain ⟨v, h1, h2⟩ := cell_rel h q (by simp) (by simp)
          exact own v (.inr ⟨u, xs, h2.1⟩) h1
        · obtain ⟨v, h1, h2⟩ := cell_rel h q (by simp) (by simp)
          exact own v (.inr ⟨u, xs, h2.1⟩) h1
        · obtain ⟨v, h1, h2⟩ := cell_rel h q (by simp) (by simp)
          exact own v (.inl (.inl ⟨h2, rfl⟩)) h1
      · cases hu
    · exact h.hh s c u hu
end
end Go.Rv

/- A function: how it is entered, what it hands back. -/
namespace Go.Rv
set_option linter.unusedSimpArgs false
set_option linter.unusedVariables false
section
variable {P : Program} {st : St} {g : Gh} {fr : Fr} {a : Act} {w : World} {X : Env} {R : Type} {r : R} {Q : Exit → Act → World → Prop}
/-! ### The start -/
def fnSt (w : World) (g : Gh) (n : Nat) (keep : List Nat) (vs : List Value) : St := { B := w.heap.size, M := g.M, Z := g.Z, n := n, keep := keep, args := vs.toArray, w0 := w }
def fnAct (n : Nat) (vs : List Value) : Act := { tmps := vs.toArray ++ Array.replicate (n - vs.toArray.size) undef, defers := [] }
theorem argFr_none : ∀ (args : List Comp) (i s : Nat), s < i → argFr i args s = .dead
  | [], i, s, h => rfl
  | (gg, cs) :: r, i, s, h => by
    simp only [argFr]
    rw [upd_ne _ _ _ (by omega)]
    exact argFr_none r (i + 1) s (by omega)
theorem argFr_get : ∀ (args : List Comp) (i s : Nat), i ≤ s → argFr i args s = match args[s - i]? with | some p => .comp p.1 p.2 | none => .dead
  | [], i, s, h => by simp [argFr]
  | (gg, cs) :: r, i, s, h => by
    simp only [argFr]
    by_cases hs : s = i
    · subst hs; rw [upd_same]; simp
    · rw [upd_ne _ _ _ hs, argFr_get r (i + 1) s (by omega)]
      obtain ⟨k, hk⟩ : ∃ k, s - i = k + 1 := ⟨s - i - 1, by omega⟩
      rw [hk, show s - (i + 1) = k by omega]
      simp
theorem argFr_box (args : List Comp) : isBox (argFr 0 args) = fun _ => false := by
  funext s
  unfold isBox
  rw [argFr_get args 0 s (Nat.zero_le _)]
  split <;> rfl
theorem entry_ok {args : List Comp} {vs : List Value} (h : InitOk w g args vs) {n : Nat} (hn : args.length ≤ n) {keep : List Nat} (hk : ∀ j ∈ keep, j < args.length) : Ok (fnSt w g n keep vs) g (argFr 0 args) (fnAct n vs) w where
  eB := h.eB
  eM := rfl
  eZ := rfl
  size := by have := h.len; simp [fnAct, fnSt]; omega
  defers := rfl
  slot := fun s => by
    rw [argFr_box, argFr_get args 0 s (Nat.zero_le _)]
    cases hs : args[s - 0]? with
    | none => exact ⟨.dead, rfl, .inl rfl⟩
    | some p =>
      obtain ⟨v, h1, h2⟩ := h.arg s p (by simpa using hs)
      have : (fnAct n vs).tmps.getD s undef = v := by
        have hlt := (List.getElem?_eq_some_iff.1 h1).1
        simp only [fnAct, Array.getD_eq_getD_getElem?]
        rw [Array.getElem?_append_left (by simpa using hlt)]
        simp [h1]
      rw [this]
      exact h2
  keep := fun j hj => by
    have := hk j hj
    have := h.len
    simp only [fnAct, fnSt]
    rw [Array.getElem?_append_left (by simp; omega)]
  os := rfl
  tape := rfl
  output := rfl
  heap := Nat.le_refl _
  old := fun b _ _ => rfl
  own := fun b p hO => by
    obtain ⟨h1, h2⟩ := h.own b p hO
    exact ⟨h1, fun _ => h2⟩
  stab := h.stab
  boxS := fun b s hO => (h.nobox b s hO).elim
  zs := fun b o hz => by
    obtain ⟨h1, h2, h3⟩ := h.zs b o hz
    have h4 : b < w.heap.size := h.eB ▸ h2
    exact ⟨h1, h4, h3⟩
  sz := fun b o hb hm hs => by
    have hb : b < w.heap.size := hb
    exact h.sz b o (h.eB.symm ▸ hb) hm hs
  hh := h.hh
/-! ### The end -/
theorem mapM_run {α β : Type} {f : α → Sem β} {w : World} : ∀ (l : List α) (us : List β), us.length = l.length → (∀ (i : Nat) (x : α), l[i]? = some x → ∃ u, us[i]? = some u ∧ (f x).run P w = .ok u w) → (l.mapM f).run P w = .ok us w
  | [], us, hl, h => by
    cases us with
    | nil => rfl
    | cons => simp at hl
  | x :: l, us, hl, h => by
    cases us with
    | nil => simp at hl
    | cons u us =>
      obtain ⟨u', h1, h2⟩ := h 0 x rfl
      simp at h1
      subst h1
      have ih := mapM_run (f := f) l us (by simpa using hl) (fun i x hi => by simpa using h (i + 1) x (by simpa using hi))
      rw [List.mapM_cons, Sem.run_bind, h2, Result.andThen_ok, Sem.run_bind, ih, Result.andThen_ok]
      rfl
def resVal (tmps : Array Value) : ResultVar → Sem Value
  | .tmp t => pure (tmps.getD t undef)
  | .cell a t => do loadVar t (← asAddr (tmps.getD a undef))
def tupV : List Value → Value
  | [u] => u
  | us => .tuple us.toArray
theorem results_run {fn : Func} {tmps : Array Value} {us : List Value} (hl : us.length = fn.results.toList.length)
    (h : ∀ (i : Nat) (x : ResultVar), fn.results.toList[i]? = some x → ∃ u, us[i]? = some u ∧ (resVal tmps x).run P w = .ok u w) :
    (results fn tmps).run P w = .ok (tupV us) w := by
  have hfun : (fun (x : ResultVar) => (match x with | .tmp t => pure (tmps.getD t undef) | .cell a t => do loadVar t (← asAddr (tmps.getD a undef)) : Sem Value)) = resVal tmps := by
    funext x; cases x <;> rfl
  have e : results fn tmps = (fn.results.mapM (resVal tmps) >>= fun vs => pure (if h : vs.size = 1 then vs[0] else .tuple vs)) :=
    congrArg (fun (f : ResultVar → Sem Value) => Array.mapM f fn.results >>= fun vs => pure (if h : vs.size = 1 then vs[0] else Value.tuple vs)) hfun
  rw [e, Array.mapM_eq_mapM_toList, map_eq_pure_bind]
  simp only [Sem.run_bind]
  rw [mapM_run fn.results.toList us hl h]
  simp only [Result.andThen_ok, Sem.run_pure]
  match us with
  | [] => rfl
  | [u] => rfl
  | u :: v :: us => simp [tupV]
theorem loadVar_run (hT : TabOk P X) {t : TypeId} {i : TI} (hi : X.ti t = some i) {ad : Addr} (hsp : ad.spot = none) {us : List Value} (hl : us.length = i.ty.cells) (hr : w.rangeAt ad.block ad.off us) :
    ∃ v, (loadVar t ad).run P w = .ok v w ∧ (i.agg = true → v = .agg us.toArray) ∧ (i.agg = false → us = [v]) := by
  obtain ⟨ii, z, e1, e2, _⟩ := (ti_elem hT hi).ex
  obtain ⟨d, hd, hrow, _⟩ := ti_under hT hi
  have hsize : (P.info? t).map (·.size) = some us.length := by rw [e1]; simp [e2, hl]
  cases hag : i.agg with
  | true =>
    rw [hag] at hrow
    have := run_loadAt_mid w ad.block ad.off t us d hr hd hrow hsize
    rw [← addr_eta ad hsp] at this
    simp only [Instr.loadAt, Instr.sureAddr, Sem.run_bind, Sem.run_pure, Result.andThen_ok] at this
    exact ⟨_, this, fun _ => rfl, fun e => by cases e⟩
  | false =>
    rw [hag] at hrow
    have h1 : i.ty.cells = 1 := by
      have := ti_fit hT hi
      simp only [fitB, Bool.and_eq_true, hag] at this
      have h2 := this.2
      split at h2
      · simp at h2
      all_goals (first | (split at h2 <;> simp_all [Ty.cells]) | simp_all)
    rw [h1] at hl
    obtain ⟨u, rfl⟩ := List.length_eq_one_iff.1 hl
    have hagg : (isAgg t).run P w = .ok false w := by
      unfold isAgg; rw [Sem.run_bind, run_underlying hd w]
      cases d <;> simp_all [TypeDesc.isRow]
    have hcell : w.cell? ad = some u := by
      have := hr 0 u rfl
      rw [addr_eta ad hsp]; simpa using this
    refine ⟨u, ?_, fun e => (by cases e), fun _ => rfl⟩
    simp only [loadVar, Sem.run_bind, hagg, Sem.run_pure, Result.andThen_ok]
    simp [load, Sem.run, hcell]
/-- one result -/
theorem resOne_ok (hT : TabOk P X) (h : Ok st g fr a w) {x : ResultVar} {p : Comp} {fr1 : Fr} (hr : resOne X fr x = some (p, fr1)) (j : Nat) :
    ∃ g1 u, Took st a w g g1 fr fr1 ∧ ARel w g1 (isBox fr) j p u ∧ (resVal a.tmps x).run P w = .ok u w := by
  cases x with
  | tmp t =>
    simp only [resOne] at hr
    split at hr
    · simp only [Option.some.injEq] at hr
      obtain ⟨g1, t1, r1⟩ := takeOpd_ok h hr j
      exact ⟨g1, _, t1, r1, rfl⟩
    · cases hr
  | cell b t =>
    simp only [resOne] at hr
    split at hr
    · rename_i cs i hb hi
      obtain ⟨hl, hr⟩ := bif_some hr
      have hl := Nat.eq_of_beq_eq_true hl
      have hs := h.slot b
      rw [hb] at hs
      obtain ⟨⟨bb, arr, ty, x1, x2, x3, x4, x5⟩, bb', y1, y2⟩ := hs
      rw [x1] at y1
      cases y1
      generalize hts : takeSlot fr b cs.length 1 = q at hr
      obtain ⟨ws, fr2⟩ := q
      simp only [Option.some.injEq, Prod.mk.injEq] at hr
      obtain ⟨rfl, rfl⟩ := hr
      obtain ⟨g1, t1, l1, r1⟩ := takeSlot_ok cs.length h (s := b) (c := 1) (N := cs.length) (by rw [hb]; rfl) (by omega) (by omega) arr.toList x4 (fun k v hk => by
        unfold At; rw [hb]; exact ⟨bb, arr, ty, x1, x3, by omega, by rw [show 1 + k - 1 = k by omega]; simpa using hk⟩) j hts
      obtain ⟨v, v1, v2, v3⟩ := loadVar_run (P := P) (w := w) hT hi (ad := ⟨bb, 0, none⟩) rfl (us := arr.toList) (by rw [x4, hl]) (fun j v hj => by
        rw [cell_of_row w bb _ arr ty (0, 0) x3]; simpa using hj)
      refine ⟨g1, v, t1, ?_, ?_⟩
      · cases hag : i.agg with
        | true =>
          refine ⟨arr.toList, by rw [v2 hag], by rw [l1]; exact x4, r1⟩
        | false =>
          have := v3 hag
          rw [this] at x4
          have hw : ws.length = 1 := by rw [l1, ← x4]; rfl
          obtain ⟨c, rfl⟩ := List.length_eq_one_iff.1 hw
          obtain ⟨u, q1, q2⟩ := r1 0 c rfl
          rw [this] at q1
          simp at q1
          subst q1
          exact ⟨c, rfl, .inr (.inr q2)⟩
      · simp only [resVal, y2, Sem.run_bind, asAddr, Sem.run_pure, Result.andThen_ok]
        exact v1
    · cases hr
theorem ARel.air {g1 : Gh} {fr1 : Fr} (ht : Took st a w g g1 fr fr1) {j : Nat} {p : Comp} {v : Value} (h : ARel w g (isBox fr) j p v) : ARel w g1 (isBox fr) j p v := by
  obtain ⟨b, cs⟩ := p
  cases b with
  | true =>
    obtain ⟨vs, e1, e2, e3⟩ := h
    refine ⟨vs, e1, e2, fun k c hk => ?_⟩
    obtain ⟨u, q1, q2⟩ := e3 k c hk
    exact ⟨u, q1, ht.air _ _ _ q2⟩
  | false =>
    obtain ⟨c, e1, e2⟩ := h
    exact ⟨c, e1, e2.imp id (fun e => e.imp id (ht.air _ _ _))⟩
theorem resAll_ok (hT : TabOk P X) : ∀ (rs : List ResultVar) {g : Gh} {fr fr1 : Fr} (_ : Ok st g fr a w) {l : List Comp} (_ : resAll X fr rs = some (l, fr1)) (i0 : Nat),
    ∃ (g1 : Gh) (us : List Value), Took st a w g g1 fr fr1 ∧ us.length = rs.length ∧ l.length = rs.length ∧ (∀ (i : Nat) (x : ResultVar), rs[i]? = some x → ∃ u, us[i]? = some u ∧ (resVal a.tmps x).run P w = .ok u w) ∧
      ∀ (i : Nat) (p : Comp), l[i]? = some p → ∃ u : Value, us[i]? = some u ∧ ARel w g1 (isBox fr) (4096 * (i0 + i)) p u
  | [], g, fr, fr1, h, l, hr, i0 => by
    simp only [resAll, Option.some.injEq, Prod.mk.injEq] at hr
    obtain ⟨rfl, rfl⟩ := hr
    exact ⟨g, [], Took.refl h, rfl, rfl, fun i x hi => by simp at hi, fun i p hi => by simp at hi⟩
  | x :: rs, g, fr, fr1, h, l, hr, i0 => by
    simp only [resAll] at hr
    split at hr
    case h_2 => cases hr
    rename_i c fr2 hx
    split at hr
    case h_2 => cases hr
    rename_i l' fr3 hrs
    simp only [Option.some.injEq, Prod.mk.injEq] at hr
    obtain ⟨rfl, rfl⟩ := hr
    obtain ⟨g1, u, t1, r1, e1⟩ := resOne_ok hT h hx (4096 * i0)
    obtain ⟨g2, us, t2, l1, l2, q1, q2⟩ := resAll_ok hT rs t1.ok hrs (i0 + 1)
    refine ⟨g2, u :: us, t1.trans t2, by simp [l1], by simp [l2], fun i y hi => ?_, fun i p hi => ?_⟩
    · cases i with
      | zero => simp at hi; subst hi; exact ⟨u, rfl, e1⟩
      | succ i => simp at hi; simpa using q1 i y hi
    · cases i with
      | zero =>
        simp at hi; subst hi
        refine ⟨u, rfl, ?_⟩
        have := ARel.air t2 (by rw [t1.bx]; exact r1)
        rw [t1.bx] at this
        exact this
      | succ i =>
        simp at hi
        obtain ⟨u', z1, z2⟩ := q2 i p hi
        rw [t1.bx] at z2
        exact ⟨u', by simpa using z1, by rw [show i0 + (i + 1) = i0 + 1 + i by omega]; exact z2⟩
theorem RRel_of_rel {bx : Nat → Bool} {k : Nat} {c : CV} {v : Value} (h : rel w g bx (.air k) c v) : RRel w g k c v := by
  cases c
  case own => exact h.2.elim
  case tmpo => exact h.1
  case ref => exact h.1
  case undef => exact h.elim
  case dead | int | bool | str | nils | lo | hi => exact h
  case mbox | mmap => exact h.elim
  all_goals exact rel_one h
theorem RComp_of_ARel {bx : Nat → Bool} {i : Nat} {p : Comp} {v : Value} (h : ARel w g bx (4096 * i) p v) : RComp w g i p v := by
  obtain ⟨b, cs⟩ := p
  cases b with
  | true =>
    obtain ⟨vs, e1, e2, e3⟩ := h
    exact ⟨vs, e1, e2, fun k c hk => by obtain ⟨u, q1, q2⟩ := e3 k c hk; exact ⟨u, q1, RRel_of_rel q2⟩⟩
  | false =>
    obtain ⟨c, e1, e2⟩ := h
    refine ⟨c, e1, ?_⟩
    rcases e2 with e2 | e2 | e2
    · exact .inl e2
    · exact .inr (.inl e2.1)
    · exact .inr (.inr (RRel_of_rel e2))
/-! ### Results, told by patterns -/
def Pat.res : Pat → Bool
  | .fl _ => true
  | _ => false
theorem rdec_rel (hz : ∀ b o, g.Z b o → g.S b o) {k : Nat} {p : Pat} {c : CV} {x : p.T} {v : Value} (hp : p.res = true) (hd : p.dec true c = some x) (hr : RRel w g k c v) : RRel w g k (p.enc x) v := by
  have mono : ∀ {t : Ty} {xs : List (Den t)}, RS w g.Z t xs v → RS w g.S t xs v := fun h => rep_mono (fun b o h => ⟨hz b o h, rfl⟩) h
  cases p with
  | rptr => simp [Pat.res] at hp
  | hptr => simp [Pat.res] at hp
  | fn => simp [Pat.res] at hp
  | mp => simp [Pat.res] at hp
  | fl p =>
    have one : RRel w g k c v → v.oneCell' = true := by
      intro h
      cases c
      case undef => exact h.elim
      case own => exact OwnR_one h
      case tmpo => exact OwnR_one h
      case int => have h : v = _ := h; subst h; rfl
      case bool => have h : v = _ := h; subst h; rfl
      case str => have h : v = _ := h; subst h; rfl
      case nils => have h : v = _ := h; subst h; rfl
      case lo => exact rep_one h v (by simp)
      case hi => exact rep_one h v (by simp)
      case ref => exact rep_one h v (by simp)
      case mbox => obtain ⟨_, _, _, rfl, _⟩ := h; rfl
      case mmap => obtain ⟨_, rfl, _⟩ := h; rfl
      all_goals exact h
    cases p with
    | own t =>
      cases c <;> simp only [Pat.dec, FPat.dec] at hd <;> first | (cases hd; done) | skip
      · cases hd
        exact .inl ⟨hr, rfl⟩
      all_goals
        try simp only [cond_true] at hd
        split at hd
        case isFalse => cases hd
        rename_i hu
        subst hu
        cases hd
        exact hr
    | ref s' c' t =>
      cases c <;> simp only [Pat.dec, FPat.dec] at hd <;> first | (cases hd; done) | skip
      split at hd
      case isFalse => cases hd
      rename_i hu
      obtain ⟨rfl, rfl, rfl⟩ := hu
      cases hd
      exact hr
    | ptr s' c' => exact one hr
    | mptr s' => exact one hr
    | hi t =>
      have hd : listAs t c = some x := hd
      show RS w g.S t x v
      cases c <;> simp only [listAs] at hd <;> first | (cases hd; done) | skip
      case nils => cases hd; have hv : v = .slice none 0 0 := hr; subst hv; exact RS_nils
      all_goals
        split at hd
        case isFalse => cases hd
        rename_i hu
        subst hu
        cases hd
      · exact mono hr
      · exact hr
      · exact OwnR.reads hr
      · exact OwnR.reads hr
      · exact hr
    | dead => exact one hr
    | undef =>
      cases c <;> simp only [Pat.dec, FPat.dec] at hd <;> first | (cases hd; done) | exact hr
    | int k =>
      cases c <;> simp only [Pat.dec, FPat.dec] at hd <;> first | (cases hd; done) | skip
      split at hd
      case isFalse => cases hd
      rename_i e
      subst e
      cases hd
      exact hr
    | bool =>
      cases c <;> simp only [Pat.dec, FPat.dec] at hd <;> first | (cases hd; done) | skip
      cases hd; exact hr
    | str =>
      cases c <;> simp only [Pat.dec, FPat.dec] at hd <;> first | (cases hd; done) | skip
      cases hd; exact hr
    | nils =>
      cases c <;> simp only [Pat.dec, FPat.dec] at hd <;> first | (cases hd; done) | skip
      exact hr
    | lo t =>
      show RS w g.Z t x v
      cases c <;> simp only [Pat.dec, FPat.dec] at hd <;> first | (cases hd; done) | skip
      · cases hd; have hv : v = .slice none 0 0 := hr; subst hv; exact RS_nils
      · split at hd
        case isFalse => cases hd
        rename_i hu
        subst hu
        cases hd
        exact hr
theorem rdec_comp (hz : ∀ b o, g.Z b o → g.S b o) {i : Nat} {gg : Bool} {ps : List Pat} {cs : List CV} {x : patsT ps} {v : Value} (hp : ps.all Pat.res = true) (hd : decs true ps cs = some x) (hr : RComp w g i (gg, cs) v) : RComp w g i (gg, encs ps x) v := by
  obtain ⟨i1, i2, i3⟩ := decs_get hd
  have hpm : ∀ (k : Nat) (p : Pat), ps[k]? = some p → p.res = true := fun k p hk => List.all_eq_true.1 hp p (List.mem_of_getElem? hk)
  cases gg with
  | true =>
    obtain ⟨vs, e1, e2, e3⟩ := hr
    refine ⟨vs, e1, by rw [e2, i1, i2], fun k c hk => ?_⟩
    have hkl : k < ps.length := by rw [← i2]; exact (List.getElem?_eq_some_iff.1 hk).1
    obtain ⟨c0, y0, q1, q2, q3⟩ := i3 k ps[k] (List.getElem?_eq_getElem hkl)
    rw [hk] at q3
    cases q3
    obtain ⟨u, u1, u2⟩ := e3 k c0 q1
    exact ⟨u, u1, rdec_rel hz (hpm k _ (List.getElem?_eq_getElem hkl)) q2 u2⟩
  | false =>
    obtain ⟨c0, rfl, hv⟩ := hr
    have hpl : ps.length = 1 := by rw [← i1]; rfl
    match ps, hpl with
    | [p], _ =>
      obtain ⟨c1, y0, q1, q2, q3⟩ := i3 0 p rfl
      simp at q1
      subst q1
      have hen : encs [p] x = [p.enc y0] := by
        have : (encs [p] x).length = 1 := i2
        match hh : encs [p] x, this with
        | [z], _ => rw [hh] at q3; simp at q3; rw [q3]
      rw [hen]
      refine ⟨_, rfl, ?_⟩
      rcases hv with hv | hv | hv
      · subst hv
        cases p with
        | fl p => cases p <;> simp only [Pat.dec, FPat.dec, listAs] at q2 <;> first | exact .inl rfl | (cases q2; done)
        | _ => simp [Pat.dec] at q2
      · subst hv
        cases p with
        | fl p => cases p <;> simp only [Pat.dec, FPat.dec, listAs] at q2 <;> first | exact .inl rfl | exact .inr (.inl rfl) | (cases q2; done)
        | _ => simp [Pat.dec] at q2
      · exact .inr (.inr (rdec_rel hz (hpm 0 p rfl) q2 hv))
theorem decC_get : ∀ {pr : CompPs} {l : List Comp} {x : compT pr}, decC pr l = some x → l.length = pr.length ∧ (encC pr x).length = pr.length ∧ ∀ (i : Nat) (p : Bool × List Pat), pr[i]? = some p → ∃ (cs : List CV) (y : patsT p.2), l[i]? = some (p.1, cs) ∧ decs true p.2 cs = some y ∧ (encC pr x)[i]? = some (p.1, encs p.2 y)
  | [], l, x, h => by
    cases l with
    | nil => exact ⟨rfl, rfl, fun i p hi => by simp at hi⟩
    | cons => simp [decC] at h
  | p :: pr, l, x, h => by
    cases l with
    | nil => simp [decC] at h
    | cons c l =>
      simp only [decC] at h
      obtain ⟨hb, h⟩ := bif_some h
      have hb : p.1 = c.1 := by simpa using hb
      split at h
      case h_2 => cases h
      rename_i y hy
      split at h
      case h_2 => cases h
      rename_i z hz
      cases h
      obtain ⟨i1, i2, i3⟩ := decC_get hz
      refine ⟨by simp [i1], by simp [encC, i2], fun i q hi => ?_⟩
      cases i with
      | zero => simp at hi; subst hi; exact ⟨c.2, y, by rw [hb]; rfl, hy, rfl⟩
      | succ i => simp at hi; simpa [encC] using i3 i q hi
theorem RVal_map {l rs : List Comp} {v : Value} (hl : rs.length = l.length) (one : ∀ (i : Nat) (c : Comp) (u : Value) (c0 : Comp), l[i]? = some c0 → rs[i]? = some c → RComp w g i c0 u → RComp w g i c u) (hr : RVal w g l v) : RVal w g rs v := by
  match l, rs, hl, hr, one with
  | [c0], [c], _, hr, one => exact one 0 c v c0 rfl rfl hr
  | [], [], _, hr, one => exact hr
  | c0 :: d0 :: l, c :: d :: l', hl, hr, one =>
    obtain ⟨us, u1, u2, u3⟩ := hr
    refine ⟨us, u1, by rw [u2]; exact hl.symm, fun i p hi => ?_⟩
    have hil : i < (c0 :: d0 :: l).length := by rw [← hl]; exact (List.getElem?_eq_some_iff.1 hi).1
    obtain ⟨u, w1, w2⟩ := u3 i _ (List.getElem?_eq_getElem hil)
    exact ⟨u, w1, one i p u _ (List.getElem?_eq_getElem hil) hi w2⟩
theorem rdec_at (hz : ∀ b o, g.Z b o → g.S b o) {pr : CompPs} {l : List Comp} {x : compT pr} (hp : (pr.all fun p => p.2.all Pat.res) = true) (hd : decC pr l = some x) (i : Nat) (c : Comp) (u : Value) (c0 : Comp) (h0 : l[i]? = some c0) (hc : (encC pr x)[i]? = some c) (hu : RComp w g i c0 u) : RComp w g i c u := by
  obtain ⟨i1, i2, i3⟩ := decC_get hd
  have hpm : ∀ (i : Nat) (p : Bool × List Pat), pr[i]? = some p → p.2.all Pat.res = true := fun i p hi => List.all_eq_true.1 hp p (List.mem_of_getElem? hi)
  have hil : i < pr.length := by rw [← i2]; exact (List.getElem?_eq_some_iff.1 hc).1
  obtain ⟨cs, y, q1, q2, q3⟩ := i3 i pr[i] (List.getElem?_eq_getElem hil)
  rw [h0] at q1
  rw [hc] at q3
  cases q1
  cases q3
  exact rdec_comp hz (hpm i _ (List.getElem?_eq_getElem hil)) q2 hu
/-! ### The contract of a function -/
/-- what the code hands back for a state that it ends in -/
theorem end_ok (hT : TabOk P X) (h : Ok st g fr a w) {fn : Func} {outs : List (Nat × Nat)} {dec : List Comp → Option R} {e : Ex} (he : ∀ id, e ≠ .exit id) (hk : endK X fn outs dec e fr = some r) :
    ∃ v l g1 fr1, (results fn a.tmps).run P w = .ok v w ∧ Ok st g1 fr1 a w ∧ RVal w g1 l v ∧ ((outs = [] ∧ dec l = some r) ∨ (outs ≠ [] ∧ ∃ o, outsOf fr1 outs = some o ∧ dec (l ++ [(false, o)]) = some r)) := by
  have hk : (match resAll X fr fn.results.toList with | some (l, fr1) => (bif outs.isEmpty then dec l else match outsOf fr1 outs with | some o => dec (l ++ [(false, o)]) | none => none) | none => none) = some r := by
    cases e with
    | exit id => exact (he id rfl).elim
    | normal => exact hk
    | ret => exact hk
  split at hk
  case h_2 => cases hk
  rename_i l fr1 hr
  obtain ⟨g1, us, t1, l1, l2, q1, q2⟩ := resAll_ok (P := P) hT _ h hr 0
  have hc : ∀ (i : Nat) (p : Comp), l[i]? = some p → ∃ u : Value, us[i]? = some u ∧ RComp w g1 i p u := fun i p hi => by
    obtain ⟨u, u1, u2⟩ := q2 i p hi
    rw [Nat.zero_add] at u2
    exact ⟨u, u1, RComp_of_ARel u2⟩
  have hl : us.length = l.length := by rw [l1, l2]
  refine ⟨tupV us, l, g1, fr1, results_run l1 q1, t1.ok, ?_, ?_⟩
  · match us, l, hl, hc with
    | [], [], _, hc => exact ⟨[], rfl, rfl, fun i p hi => by simp at hi⟩
    | [u], [p], _, hc =>
      obtain ⟨u', h1, h2⟩ := hc 0 p rfl
      simp at h1
      subst h1
      exact h2
    | u :: u' :: us, p :: q :: l, hl, hc => exact ⟨_, rfl, hl, hc⟩
  · cases outs with
    | nil => exact .inl ⟨rfl, hk⟩
    | cons p r =>
      refine .inr ⟨by simp, ?_⟩
      simp only [List.isEmpty_cons, cond_false] at hk
      split at hk
      · rename_i o ho; exact ⟨o, ho, hk⟩
      · cases hk
/-- the cuts, n rounds deep -/
structure CutsOk (P : Program) (X : Env) (E : FuncId → Option Fn) (f : Func) (outs : List (Nat × Nat)) (dec : List Comp → Option R) (C : Nat → Cuts R) : Prop where
  zero : ∀ q cut, (C 0).lookup q = some cut → ∀ x, cut.run x = none
  pats : ∀ n q cut, (C n).lookup q = some cut → cutOk cut.pats = true
  node : ∀ n q cut, (C n).lookup q = some cut → q < nodes (bodyOf f)
  step : ∀ n q cut, (C (n + 1)).lookup q = some cut → ∀ x, cut.run x = denAt { X with n := f.ntmps, keep := keepOf outs } E (C n) (bodyOf f) 0 q (endK { X with n := f.ntmps, keep := keepOf outs } f outs dec) (cutFr cut.pats x)
theorem cutsAt (hT : TabOk P X) {E : FuncId → Option Fn} (hE : EnvOk P E) {f : Func} {outs : List (Nat × Nat)} {dec : List Comp → Option R} {C : Nat → Cuts R} (hC : CutsOk P X E f outs dec C) (hX : Fits { X with n := f.ntmps, keep := keepOf outs } st)
    (hQ : KQ st (endK { X with n := f.ntmps, keep := keepOf outs } f outs dec) r Q) : ∀ n, CutsAt P st (C n) r (bodyOf f) 0 Q
  | 0 => fun q cut hq _ _ g fr a w ok hj => by
    unfold jump at hj
    split at hj
    · rw [hC.zero q cut hq] at hj; cases hj
    · cases hj
  | n + 1 => fun q cut hq _ _ g fr a w ok hj => by
    unfold jump at hj
    split at hj
    · rename_i x hx
      rw [hC.step n q cut hq] at hj
      obtain ⟨g', ok'⟩ := cut_ok ok (hC.pats _ q cut hq) hx
      have hT' : TabOk P { X with n := f.ntmps, keep := keepOf outs } := ⟨hT.mixed, hT.fit, hT.maps⟩
      exact denAt_ok hT' hE hX (bodyOf f) 0 q Q _ (cutsAt hT hE hC hX hQ n) hQ g' _ a w ok' hj
    · cases hj
/-- the arguments that are written are told -/
def outsOk (n : Nat) (pc : CutP) : List (Nat × Nat) → Bool
  | [] => true
  | (j, m) :: r => (j.blt n && match pc.lookup j with | some (_, ps) => ps.length.beq m | none => false) && outsOk n pc r
theorem outsOk_spec {n : Nat} {pc : CutP} {args : List Comp} (hl : args.length = n) {x : cutT pc} (hx : readCut pc pc (argFr 0 args) = some x) : ∀ {outs : List (Nat × Nat)}, outsOk n pc outs = true → ∀ j m, (j, m) ∈ outs → ∃ p, args[j]? = some p ∧ p.2.length = m
  | (j', m') :: r, h, j, m, hm => by
    simp only [outsOk, Bool.and_eq_true] at h
    rcases List.mem_cons.1 hm with e | hm
    · have e1 : j = j' := congrArg Prod.fst e
      have e2 : m = m' := congrArg Prod.snd e
      subst e1
      subst e2
      have hjn : j < n := Nat.le_of_ble_eq_true h.1.1
      have h2 := h.1.2
      split at h2
      · rename_i q ps hps
        obtain ⟨y, hd, _⟩ := (readCut_lookup hx j).1 _ hps
        rw [argFr_get args 0 j (Nat.zero_le _), Nat.sub_zero, List.getElem?_eq_getElem (by omega)] at hd
        refine ⟨args[j], List.getElem?_eq_getElem (by omega), ?_⟩
        simp only [decS] at hd
        split at hd
        · obtain ⟨_, hd⟩ := bif_some hd
          rw [(decs_get hd).1]
          exact Nat.eq_of_beq_eq_true h2
        · cases hd
      · cases h2
    · exact outsOk_spec hl hx h.2 j m hm
theorem outs_ok {args : List Comp} {vs : List Value} (h : Ok st g fr a w) (hargs : st.args = vs.toArray) : ∀ {outs : List (Nat × Nat)} {o o' : List CV}, (∀ j m, (j, m) ∈ outs → j ∈ st.keep ∧ j < vs.length ∧ ∃ p, args[j]? = some p ∧ p.2.length = m) → outsOf fr outs = some o → o'.length = o.length →
    (∀ (k : Nat) (t : Ty) (xs : List (Den t)), o'[k]? = some (.own t xs) → o[k]? = some (.own t xs) ∨ o[k]? = some (.tmpo t xs) ∨ (o[k]? = some .nils ∧ xs = [])) → Outs w g args vs (keepOf outs) o'
  | [], o, o', _, ho, hl, _ => by
    simp only [outsOf, Option.some.injEq] at ho
    subst ho
    exact List.length_eq_zero_iff.1 hl
  | (j, m) :: r, o, o', hj, ho, hl, hc => by
    simp only [outsOf] at ho
    cases hfj : fr j with
    | box _ => rw [hfj] at ho; cases ho
    | tup _ => rw [hfj] at ho; cases ho
    | mapb kk vv xx ii => rw [hfj] at ho; cases ho
    | comp gg cs =>
    rw [hfj] at ho
    cases hr : outsOf fr r with
    | none => rw [hr] at ho; cases ho
    | some l =>
    rw [hr] at ho
    simp only at ho
    obtain ⟨hm, ho⟩ := bif_some ho
    have hm := Nat.eq_of_beq_eq_true hm
    cases ho
    obtain ⟨hkeep, hjl, p, hp1, hp2⟩ := hj j m List.mem_cons_self
    rw [List.length_append] at hl
    refine ⟨o'.take cs.length, o'.drop cs.length, p, vs[j], (List.take_append_drop _ _).symm, hp1, List.getElem?_eq_getElem hjl, by rw [List.length_take, hp2]; omega, fun k t xs hk => ?_, ?_⟩
    · have hkl : k < cs.length := by
        have := (List.getElem?_eq_some_iff.1 hk).1
        rw [List.length_take] at this
        omega
      rw [List.getElem?_take, if_pos hkl] at hk
      have hck := hc k t xs hk
      rw [List.getElem?_append_left hkl] at hck
      have hsl := h.slot j
      have hval : a.tmps.getD j undef = vs[j] := by
        have := h.keep j hkeep
        rw [Array.getD_eq_getD_getElem?, this, hargs]
        simp [hjl]
      rw [hfj, hval] at hsl
      have own : ∀ u, cs[k]? = some (.own t xs) ∨ cs[k]? = some (.tmpo t xs) ∨ (cs[k]? = some .nils ∧ xs = []) → (∀ c, cs[k]? = some c → rel w g (isBox fr) (.at j 0 (k + 1)) c u) → OwnR w g (.at j 0 (k + 1)) t xs u := by
        intro u hck hrel
        rcases hck with e | e | ⟨e, rfl⟩
        · exact (hrel _ e).1
        · exact (hrel _ e).1
        · exact .inl ⟨hrel _ e, rfl⟩
      cases gg with
      | true =>
        obtain ⟨us, e1, e2, e3⟩ := hsl
        obtain ⟨u, u1, u2⟩ := e3 k cs[k] (List.getElem?_eq_getElem hkl)
        refine ⟨u, by rw [e1]; exact u1, own u hck fun c hcc => ?_⟩
        rw [List.getElem?_eq_getElem hkl] at hcc
        cases hcc
        exact u2
      | false =>
        obtain ⟨c, e1, e2⟩ := hsl
        subst e1
        have hk0 : k = 0 := by simp at hkl; exact hkl
        subst hk0
        simp only [List.getElem?_cons_zero, Option.some.injEq] at hck
        have hrel : rel w g (isBox fr) (.at j 0 1) c vs[j] := by
          rcases e2 with e2 | e2 | e2
          · subst e2; rcases hck with e | e | ⟨e, _⟩ <;> cases e
          · rw [e2.1] at hck; rcases hck with e | e | ⟨e, _⟩ <;> cases e
          · exact e2
        have hO := own vs[j] (by simpa using hck) (fun c' hc' => by simp at hc'; subst hc'; exact hrel)
        refine ⟨vs[j], ?_, hO⟩
        rcases hO with ⟨e, _⟩ | ⟨b, cap, cur, e', e, _⟩ <;> rw [e] <;> rfl
    · refine outs_ok h hargs (fun j m hm => hj j m (List.mem_cons_of_mem _ hm)) hr (by rw [List.length_drop]; omega) (fun k t xs hk => ?_)
      rw [List.getElem?_drop] at hk
      have := hc _ t xs hk
      rw [List.getElem?_append_right (by omega), show cs.length + k - cs.length = k by omega] at this
      exact this
/-- a function -/
theorem fn_ok (hT : TabOk P X) {E : FuncId → Option Fn} (hE : EnvOk P E) {fid : FuncId} {f : Func} {c : Code} (hf : P.funcs[fid]? = some f) (hb : f.body = some c) {n : Nat} (hn : n ≤ f.ntmps) {pc : CutP} (hpc : cutOk pc = true) {outs : List (Nat × Nat)} (houts : outsOk n pc outs = true) {pr : CompPs} (hpr : (pr.all fun p => p.2.all Pat.res) = true)
    {N : Type} {h : N → compT pr} {d : compT pr → N} (hh : ∀ x, h (d x) = x) {F : cutT pc → Option N} {C : Nat → Cuts N} {k : Nat} (hC : CutsOk P X E f outs (decN pr d) C)
    (hF : ∀ x, F x = denFn X E (C k) f outs pc x (decN pr d)) : FnOk P fid (mkFn n pc pr (keepOf outs) h F) := by
  intro R w g args vs K r hi hrun
  simp only [mkFn] at hrun
  obtain ⟨hl, hrun⟩ := bif_some hrun
  have hl := Nat.eq_of_beq_eq_true hl
  split at hrun
  case h_2 => cases hrun
  rename_i x hx
  rw [hF] at hrun
  have hspec := outsOk_spec hl hx houts
  cases hy : denFn X E (C k) f outs pc x (decN pr d) with
  | none => rw [hy] at hrun; cases hrun
  | some y =>
    rw [hy] at hrun
    have hrun : K (encC pr (h y)) = some r := hrun
    have hkeep : ∀ j ∈ keepOf outs, j < args.length := fun j hj => by
      obtain ⟨q, hq, rfl⟩ := List.mem_map.1 hj
      obtain ⟨p, hp, _⟩ := hspec q.1 q.2 hq
      exact (List.getElem?_eq_some_iff.1 hp).1
    have ok0 := entry_ok hi (n := f.ntmps) (keep := keepOf outs) (by omega) hkeep
    obtain ⟨g1, ok1⟩ := cut_ok ok0 hpc hx
    have hX : Fits { X with n := f.ntmps, keep := keepOf outs } (fnSt w g f.ntmps (keepOf outs) vs) := ⟨rfl, rfl⟩
    have hT' : TabOk P { X with n := f.ntmps, keep := keepOf outs } := ⟨hT.mixed, hT.fit, hT.maps⟩
    have hbody : bodyOf f = c := by unfold bodyOf; rw [hb]; rfl
    have fin : ∀ (e : Ex), (∀ id, e ≠ .exit id) → ∀ g1 fr1 a1 w1, Ok (fnSt w g f.ntmps (keepOf outs) vs) g1 fr1 a1 w1 → endK { X with n := f.ntmps, keep := keepOf outs } f outs (decN pr d) e fr1 = some y →
        a1.defers = [] ∧ ∃ v, (results f a1.tmps).run P w1 = .ok v w1 ∧ ∃ v' res g', Ending.returned v = .returned v' ∧ K res = some r ∧ ResOk (keepOf outs) w w1 g g' args vs res v' := by
      intro e he g1 fr1 a1 w1 ok hk
      obtain ⟨v, l, g2, fr2, q1, q3, q4, q5⟩ := end_ok hT' ok he hk
      refine ⟨ok.defers, v, q1, v, encC pr (h y), g2, rfl, hrun, ?_⟩
      have hz : ∀ b o, g2.Z b o → g2.S b o := fun b o hz => (q3.zs b o (by rw [← q3.eZ]; exact hz)).1
      have hval : ∃ rs os, encC pr (h y) = rs ++ (bif (keepOf outs).isEmpty then [] else [(false, os)]) ∧ RVal w1 g2 rs v ∧ (keepOf outs ≠ [] → Outs w1 g2 args vs (keepOf outs) os) := by
        rcases q5 with ⟨rfl, q5⟩ | ⟨hne, o, ho, q5⟩
        · unfold decN at q5
          split at q5
          case h_2 => cases q5
          rename_i z hz'
          cases q5
          rw [hh z]
          exact ⟨encC pr z, [], by simp [keepOf], RVal_map (by rw [(decC_get hz').2.1, (decC_get hz').1]) (rdec_at hz hpr hz') q4, fun e => (e rfl).elim⟩
        · unfold decN at q5
          split at q5
          case h_2 => cases q5
          rename_i z hz'
          cases q5
          rw [hh z]
          obtain ⟨i1, i2, i3⟩ := decC_get hz'
          rw [List.length_append, List.length_singleton] at i1
          obtain ⟨cs, yy, c1, c2, c3⟩ := i3 l.length pr[l.length] (List.getElem?_eq_getElem (by omega))
          rw [List.getElem?_append_right (by omega), Nat.sub_self] at c1
          simp only [List.getElem?_cons_zero, Option.some.injEq, Prod.mk.injEq] at c1
          obtain ⟨c1a, rfl⟩ := c1
          rw [← c1a] at c3
          refine ⟨(encC pr z).take l.length, encs pr[l.length].2 yy, ?_, ?_, fun _ => ?_⟩
          · have hne' : (keepOf outs).isEmpty = false := by
              cases outs with
              | nil => exact (hne rfl).elim
              | cons p r => rfl
            rw [hne', cond_false]
            have := (List.take_append_drop l.length (encC pr z)).symm
            have hdr : (encC pr z).drop l.length = [(false, encs pr[l.length].2 yy)] := by
              apply List.ext_getElem?
              intro i
              rw [List.getElem?_drop]
              cases i with
              | zero => rw [Nat.add_zero, c3]; rfl
              | succ i => rw [List.getElem?_eq_none (by omega)]; rfl
            rw [hdr] at this
            exact this
          · refine RVal_map (by rw [List.length_take]; omega) (fun i c u c0 h0 hc hu => ?_) q4
            have hil : i < l.length := (List.getElem?_eq_some_iff.1 h0).1
            rw [List.getElem?_take, if_pos hil] at hc
            exact rdec_at hz hpr hz' i c u c0 (by rw [List.getElem?_append_left hil]; exact h0) hc hu
          · obtain ⟨j1, j2, j3⟩ := decs_get c2
            refine outs_ok q3 rfl (fun j m hm => ⟨List.mem_map.2 ⟨_, hm, rfl⟩, ?_, hspec j m hm⟩) ho (by rw [j2, j1]) (fun k t xs hk => ?_)
            · rw [hi.len]; exact hkeep j (List.mem_map.2 ⟨_, hm, rfl⟩)
            · have hkl : k < pr[l.length].2.length := by rw [← j2]; exact (List.getElem?_eq_some_iff.1 hk).1
              obtain ⟨p, hp⟩ : ∃ p, (pr[l.length]).2[k]? = some p := ⟨_, List.getElem?_eq_getElem hkl⟩
              obtain ⟨c0, y0, d1, d2, d3⟩ := j3 k p hp
              rw [hk] at d3
              cases p with
              | fl p =>
                cases p <;> first | (cases d3; done) | skip
                rename_i t'
                cases d3
                rw [d1]
                cases c0 <;> simp only [Pat.dec, FPat.dec] at d2 <;> first | (cases d2; done) | skip
                · cases d2; exact .inr (.inr ⟨rfl, rfl⟩)
                · split at d2
                  case isFalse => cases d2
                  rename_i hu
                  subst hu
                  cases d2
                  exact .inl rfl
                · simp only [cond_true] at d2
                  split at d2
                  case isFalse => cases d2
                  rename_i hu
                  subst hu
                  cases d2
                  exact .inr (.inl rfl)
              | _ => cases d3
      exact {
        eZ := q3.eZ
        os := q3.os
        tape := q3.tape
        output := q3.output
        heap := q3.heap
        old := q3.old
        own := q3.own
        stab := q3.stab
        sz := fun b o hb hm hs => q3.sz b o hb hm hs
        val := hval }
    refine calls_of_wp hf hb ?_
    rw [← hbody]
    have hQ : KQ (fnSt w g f.ntmps (keepOf outs) vs) (endK { X with n := f.ntmps, keep := keepOf outs } f outs (decN pr d)) y (bodyPost P f fun e w' => ∃ v res g', e = .returned v ∧ K res = some r ∧ ResOk (keepOf outs) w w' g g' args vs res v) := by
      refine ⟨fun g1 fr1 a1 w1 ok hk => fin .normal (fun id e => by cases e) g1 fr1 a1 w1 ok hk, fun id g1 fr1 a1 w1 ok hk => by simp [endK] at hk, fun g1 fr1 a1 w1 ok hk => fin .ret (fun id e => by cases e) g1 fr1 a1 w1 ok hk⟩
    have := den_ok (E := E) hT' hE hX (bodyOf f) 0 _ _ (cutsAt hT hE hC hX hQ k) hQ g1 _ (fnAct f.ntmps vs) w ok1 hy
    exact this
theorem entry {fid : FuncId} {F : Fn} (hc : ∀ (args : Array Value) (w : World), (callFunc fid args).run P w = .ok (.enter fid args) w) (hb : F.box = false) (h : FnOk P fid F) : EntOk P fid F where
  call := hc
  ok := fun _ => h
  okB := fun e => absurd (hb.symm.trans e) (by simp)
theorem entryB {fid : FuncId} {F : Fn} (hc : ∀ (args : Array Value) (w : World), (callFunc fid args).run P w = .ok (.enter fid args) w) (hb : F.box = true) (h : FnOkB P fid F) : EntOk P fid F where
  call := hc
  ok := fun e => absurd (hb.symm.trans e) (by simp)
  okB := fun _ => h
end
end Go.Rv

/- Functions that write the box that their first argument points to; functions that return a pointer to a new box. -/
namespace Go.Rv
set_option linter.unusedSimpArgs false
set_option linter.unusedVariables false
section
variable {P : Program} {st : St} {g : Gh} {fr : Fr} {a : Act} {w : World} {X : Env} {R : Type} {r : R} {Q : Exit → Act → World → Prop}
/-! ### Cuts, for any ending -/
structure CutsOkG (P : Program) (X : Env) (E : FuncId → Option Fn) (f : Func) (K : Ex → Fr → Option R) (C : Nat → Cuts R) : Prop where
  zero : ∀ q cut, (C 0).lookup q = some cut → ∀ x, cut.run x = none
  pats : ∀ n q cut, (C n).lookup q = some cut → cutOk cut.pats = true
  node : ∀ n q cut, (C n).lookup q = some cut → q < nodes (bodyOf f)
  step : ∀ n q cut, (C (n + 1)).lookup q = some cut → ∀ x, cut.run x = denAt X E (C n) (bodyOf f) 0 q K (cutFr cut.pats x)
theorem cutsAtG (hT : TabOk P X) {E : FuncId → Option Fn} (hE : EnvOk P E) {f : Func} {K : Ex → Fr → Option R} {C : Nat → Cuts R} (hC : CutsOkG P X E f K C) (hX : Fits X st) (hQ : KQ st K r Q) : ∀ n, CutsAt P st (C n) r (bodyOf f) 0 Q
  | 0 => fun q cut hq _ _ g fr a w ok hj => by
    unfold jump at hj
    split at hj
    · rw [hC.zero q cut hq] at hj; cases hj
    · cases hj
  | n + 1 => fun q cut hq _ _ g fr a w ok hj => by
    unfold jump at hj
    split at hj
    · rename_i x hx
      rw [hC.step n q cut hq] at hj
      obtain ⟨g', ok'⟩ := cut_ok ok (hC.pats _ q cut hq) hx
      exact denAt_ok hT hE hX (bodyOf f) 0 q Q _ (cutsAtG hT hE hC hX hQ n) hQ g' _ a w ok' hj
    · cases hj
/-! ### Results, and what is left -/
theorem results_ok (hT : TabOk P X) {fn : Func} (h : Ok st g fr a w) {l : List Comp} {fr1 : Fr} (hr : resAll X fr fn.results.toList = some (l, fr1)) : ∃ v g1, (results fn a.tmps).run P w = .ok v w ∧ Ok st g1 fr1 a w ∧ RVal w g1 l v := by
  obtain ⟨g1, us, t1, l1, l2, q1, q2⟩ := resAll_ok (P := P) hT _ h hr 0
  have hc : ∀ (i : Nat) (p : Comp), l[i]? = some p → ∃ u : Value, us[i]? = some u ∧ RComp w g1 i p u := fun i p hi => by
    obtain ⟨u, u1, u2⟩ := q2 i p hi
    rw [Nat.zero_add] at u2
    exact ⟨u, u1, RComp_of_ARel u2⟩
  have hl : us.length = l.length := by rw [l1, l2]
  refine ⟨tupV us, g1, results_run l1 q1, t1.ok, ?_⟩
  match us, l, hl, hc with
  | [], [], _, hc => exact ⟨[], rfl, rfl, fun i p hi => by simp at hi⟩
  | [u], [p], _, hc =>
    obtain ⟨u', h1, h2⟩ := hc 0 p rfl
    simp at h1
    subst h1
    exact h2
  | u :: u' :: us, p :: q :: l, hl, hc => exact ⟨_, rfl, hl, hc⟩
theorem fdecB_relF (hz : ∀ b o, g.Z b o → g.S b o) {bx : Nat → Bool} {pl : Place} {p : FPat} {c : CV} {x : p.T} {v : Value} (hp : p.boxy = true) (hd : p.dec true c = some x) (hr : rel w g bx pl c v) : relF w g (p.enc x) v := by
  have mono : ∀ {t : Ty} {xs : List (Den t)}, RS w g.Z t xs v → RS w g.S t xs v := fun h => rep_mono (fun b o h => ⟨hz b o h, rfl⟩) h
  cases p <;> first | (simp [FPat.boxy] at hp; done) | skip
  case int k =>
    cases c <;> simp only [FPat.dec] at hd <;> first | (cases hd; done) | skip
    split at hd
    case isFalse => cases hd
    rename_i e
    subst e
    cases hd
    exact hr
  case bool =>
    cases c <;> simp only [FPat.dec] at hd <;> first | (cases hd; done) | skip
    cases hd; exact hr
  case str =>
    cases c <;> simp only [FPat.dec] at hd <;> first | (cases hd; done) | skip
    cases hd; exact hr
  case lo t =>
    cases c <;> simp only [FPat.dec] at hd <;> first | (cases hd; done) | skip
    · cases hd; have hv : v = .slice none 0 0 := hr; subst hv; exact RS_nils
    · split at hd
      case isFalse => cases hd
      rename_i hu
      subst hu
      cases hd
      exact hr
  case hi t =>
    have hd : listAs t c = some x := hd
    show RS w g.S t x v
    cases c <;> simp only [listAs] at hd <;> first | (cases hd; done) | skip
    case nils => cases hd; have hv : v = .slice none 0 0 := hr; subst hv; exact RS_nils
    all_goals
      split at hd
      case isFalse => cases hd
      rename_i hu
      subst hu
      cases hd
    · exact mono hr
    · exact hr
    · exact OwnR.reads hr.1
    · exact OwnR.reads hr.1
    · exact hr.1
  case nils =>
    cases c <;> simp only [FPat.dec] at hd <;> first | (cases hd; done) | skip
    exact hr
  case dead => exact rel_one hr
theorem fdecs_get : ∀ {ps : List FPat} {cs : List CV} {x : fpatsT ps}, fdecs true ps cs = some x → cs.length = ps.length ∧ (fencs ps x).length = ps.length ∧ ∀ (k : Nat) (p : FPat), ps[k]? = some p → ∃ (c : CV) (y : p.T), cs[k]? = some c ∧ p.dec true c = some y ∧ (fencs ps x)[k]? = some (p.enc y)
  | [], cs, x, h => by
    cases cs with
    | nil => exact ⟨rfl, rfl, fun k p hk => by simp at hk⟩
    | cons => simp [fdecs] at h
  | p :: ps, cs, x, h => by
    cases cs with
    | nil => simp [fdecs] at h
    | cons c cs =>
      simp only [fdecs] at h
      split at h
      case h_2 => cases h
      rename_i y hy
      split at h
      case h_2 => cases h
      rename_i z hz
      cases h
      obtain ⟨i1, i2, i3⟩ := fdecs_get hz
      refine ⟨by simp [i1], by simp [fencs, i2], fun k q hk => ?_⟩
      cases k with
      | zero => simp at hk; subst hk; exact ⟨c, y, rfl, hy, rfl⟩
      | succ k => simp at hk; simpa [fencs] using i3 k q hk
theorem boxCells_of (hz : ∀ b o, g.Z b o → g.S b o) {bx : Nat → Bool} {s b : Nat} {arr : Array Value} {ty : TypeId} {cs : List CV} (hb : w.heap[b]? = some (.cells arr ty (0, 0))) (hr : cellsRel w g bx s 0 cs arr.toList) {bp : List FPat} (hbp : bp.all FPat.boxy = true) {x : fpatsT bp} (hd : fdecs true bp cs = some x) : BoxCells w g b (fencs bp x) := by
  obtain ⟨i1, i2, i3⟩ := fdecs_get hd
  refine ⟨arr, ty, hb, by rw [hr.1, i1, i2], fun j c hj => ?_⟩
  have hjl : j < bp.length := by rw [← i2]; exact (List.getElem?_eq_some_iff.1 hj).1
  obtain ⟨c0, y, q1, q2, q3⟩ := i3 j bp[j] (List.getElem?_eq_getElem hjl)
  rw [hj] at q3
  cases q3
  obtain ⟨u, u1, u2⟩ := hr.2 j c0 q1
  exact ⟨u, u1, fdecB_relF hz (List.all_eq_true.1 hbp _ (List.getElem_mem hjl)) q2 u2⟩
/-! ### The start -/
theorem boxFr_get (cs : List CV) (rest : List Comp) (s : Nat) : boxFr cs rest s = if s = 0 then .box cs else match rest[s - 1]? with | some p => .comp p.1 p.2 | none => .dead := by
  unfold boxFr
  by_cases hs : s = 0
  · subst hs; rw [upd_same, if_pos rfl]
  · rw [upd_ne _ _ _ hs, if_neg hs, argFr_get rest 1 s (by omega)]
    all_goals (cases rest[s - 1]? <;> rfl)
theorem CRel_bx (hz : ∀ b o, g.Z b o → g.S b o) {bx : Nat → Bool} {s i : Nat} {p : Comp} {v : Value} (h : CRel w g (fun _ => false) s i p v) : CRel w g bx s i p v := by
  have hc : Chg g g w w (fun _ => false) bx (fun _ => True) (fun _ => True) := {
    cB := rfl, cM := rfl, cZ := rfl, zS := hz
    cbx := fun s hs => by cases hs
    cX := fun s hs => by cases hs
    cS := fun b o hs => ⟨hs, rfl⟩
    cL := fun b hl => rfl
    cO := fun b p _ hO => ⟨hO, rfl, fun _ => Iff.rfl⟩
    cH := fun s c u _ hu => hu
    cHp := fun s i c _ => rfl }
  exact hc.kComp (fun _ => trivial) (fun _ _ => trivial) h
theorem entry_okB {Z : Nat → Nat → Prop} {b : Nat} {cs : List CV} {rest : List Comp} {vs : List Value} (h : InitB w Z b cs rest vs) {n : Nat} (hn : rest.length + 1 ≤ n) :
    Ok (fnSt w (Gh.calleeB w Z b) n [0] (.pointer (some ⟨b, 0, none⟩) :: vs)) (Gh.calleeB w Z b) (boxFr cs rest) (fnAct n (.pointer (some ⟨b, 0, none⟩) :: vs)) w := by
  obtain ⟨arr, ty, e1, e2, e3⟩ := h.box
  have hbl : b < w.heap.size := by
    rcases Nat.lt_or_ge b w.heap.size with hlt | hge
    · exact hlt
    · rw [Array.getElem?_eq_none hge] at e1; cases e1
  have hO : ∀ b' p, (Gh.calleeB w Z b).O b' = some p → b' = b ∧ p = .at 0 0 0 := fun b' p hO => by
    simp only [Gh.calleeB] at hO
    split at hO
    · rename_i e; cases hO; exact ⟨e, rfl⟩
    · cases hO
  exact {
    eB := rfl, eM := rfl, eZ := rfl
    size := by have := h.len; simp [fnAct, fnSt]; omega
    defers := rfl
    slot := fun s => by
      have hval : ∀ (k : Nat) (u : Value), (.pointer (some ⟨b, 0, none⟩) :: vs : List Value)[k]? = some u → (fnAct n (.pointer (some ⟨b, 0, none⟩) :: vs)).tmps.getD k undef = u := fun k u hk => by
        have hlt := (List.getElem?_eq_some_iff.1 hk).1
        simp only [fnAct, Array.getD_eq_getD_getElem?]
        rw [Array.getElem?_append_left (by simpa using hlt)]
        simp [hk]
      have hbx : isBox (boxFr cs rest) 0 = true := by simp [isBox, boxFr_get, notBox]
      rw [boxFr_get]
      by_cases hs : s = 0
      · subst hs
        rw [if_pos rfl, hval 0 _ rfl]
        exact ⟨⟨b, arr, ty, by simp [Gh.calleeB], by simp [Gh.calleeB], e1, e2, fun j c hj => by
          obtain ⟨u, u1, u2⟩ := e3 j c hj
          exact ⟨u, u1, rel_of_relF u2⟩⟩, b, by simp [Gh.calleeB], rfl⟩
      · rw [if_neg hs]
        cases hp : rest[s - 1]? with
        | none => exact ⟨.dead, rfl, .inl rfl⟩
        | some p =>
          obtain ⟨v, h1, h2⟩ := h.arg (s - 1) p hp
          rw [show s - 1 + 1 = s by omega] at h2
          rw [hval s v (by
            obtain ⟨k, rfl⟩ : ∃ k, s = k + 1 := ⟨s - 1, by omega⟩
            simpa using h1)]
          exact CRel_bx (fun _ _ hz => hz) h2
    keep := fun j hj => by
      simp only [fnSt, List.mem_singleton] at hj
      subst hj
      simp only [fnAct, fnSt]
      rw [Array.getElem?_append_left (by simp)]
    os := rfl
    tape := rfl
    output := rfl
    heap := Nat.le_refl _
    old := fun b _ _ => rfl
    own := fun b' p hO' => by
      obtain ⟨rfl, _⟩ := hO b' p hO'
      exact ⟨hbl, fun _ => rfl⟩
    stab := fun b' o hs => (h.zs b' o hs).1
    boxS := fun b' s hO' o hs => (h.zs b' o hs).2 (hO b' _ hO').1
    zs := fun b' o hz => ⟨hz, (h.zs b' o hz).1, (h.zs b' o hz).2⟩
    sz := fun b' o _ _ hs => hs
    hh := fun s c u hu => by cases hu }
/-- a function that writes its box -/
theorem fn_okB (hT : TabOk P X) {E : FuncId → Option Fn} (hE : EnvOk P E) {fid : FuncId} {f : Func} {c : Code} (hf : P.funcs[fid]? = some f) (hb : f.body = some c) {n : Nat} (hn : n + 1 ≤ f.ntmps) {pc : CutP} (hpc : cutOk pc = true) {pr : CompPs} (hpr : (pr.all fun p => p.2.all Pat.res) = true) {bp : List FPat} (hbp : bp.all FPat.boxy = true)
    {N : Type} {h : N → compT pr × fpatsT bp} {d : compT pr × fpatsT bp → N} (hh : ∀ x, h (d x) = x) {F : cutT pc → Option N} {C : Nat → Cuts N} {k : Nat} (hC : CutsOkG P { X with n := f.ntmps, keep := [0] } E f (endB { X with n := f.ntmps, keep := [0] } f pr bp d) C)
    (hF : ∀ x, F x = denFnB X E (C k) f pr bp pc x d) : FnOkB P fid (mkFnB n pc pr bp h F) := by
  intro R w Z b cs rest vs K r hi hrun
  simp only [mkFnB] at hrun
  obtain ⟨hl, hrun⟩ := bif_some hrun
  have hl := Nat.eq_of_beq_eq_true hl
  split at hrun
  case h_2 => cases hrun
  rename_i x hx
  rw [hF] at hrun
  cases hy : denFnB X E (C k) f pr bp pc x d with
  | none => rw [hy] at hrun; cases hrun
  | some y =>
    rw [hy] at hrun
    have hrun : K (encC pr (h y).1 ++ [(false, [.mbox (fencs bp (h y).2)])]) = some r := hrun
    have ok0 := entry_okB hi (n := f.ntmps) (by omega)
    obtain ⟨g1, ok1⟩ := cut_ok ok0 hpc hx
    have hX : Fits { X with n := f.ntmps, keep := [0] } (fnSt w (Gh.calleeB w Z b) f.ntmps [0] (.pointer (some ⟨b, 0, none⟩) :: vs)) := ⟨rfl, rfl⟩
    have hT' : TabOk P { X with n := f.ntmps, keep := [0] } := ⟨hT.mixed, hT.fit, hT.maps⟩
    have hbody : bodyOf f = c := by unfold bodyOf; rw [hb]; rfl
    have fin : ∀ (e : Ex), (∀ id, e ≠ .exit id) → ∀ g1 fr1 a1 w1, Ok (fnSt w (Gh.calleeB w Z b) f.ntmps [0] (.pointer (some ⟨b, 0, none⟩) :: vs)) g1 fr1 a1 w1 → endB { X with n := f.ntmps, keep := [0] } f pr bp d e fr1 = some y →
        a1.defers = [] ∧ ∃ v, (results f a1.tmps).run P w1 = .ok v w1 ∧ ∃ v' rs outs g', Ending.returned v = .returned v' ∧ K (rs ++ [(false, [.mbox outs])]) = some r ∧ ResB w w1 Z b g' rs outs v' := by
      intro e he g1 fr1 a1 w1 ok hk
      have hk : (match resAll { X with n := f.ntmps, keep := [0] } fr1 f.results.toList with
          | some (l, fr1) => match decC pr l, fr1 0 with
            | some x, .box cs => match fdecs true bp cs with
              | some y => some (d (x, y))
              | none => none
            | _, _ => none
          | none => none) = some y := by
        cases e with
        | exit id => exact (he id rfl).elim
        | normal => exact hk
        | ret => exact hk
      split at hk
      case h_2 => cases hk
      rename_i l fr2 hr
      split at hk
      case h_2 => cases hk
      rename_i z cs1 hz hfr
      split at hk
      case h_2 => cases hk
      rename_i y1 hy1
      cases hk
      obtain ⟨v, g2, q1, q3, q4⟩ := results_ok hT' ok hr
      refine ⟨ok.defers, v, q1, v, encC pr z, fencs bp y1, g2, rfl, by rw [hh] at hrun; exact hrun, ?_⟩
      have hzs : ∀ b o, g2.Z b o → g2.S b o := fun b o hz => (q3.zs b o (by rw [← q3.eZ]; exact hz)).1
      have hsl := q3.slot 0
      rw [hfr] at hsl
      obtain ⟨⟨b1, arr, ty, x1, x2, x3, x4⟩, b2, x5, x6⟩ := hsl
      rw [x1] at x5
      cases x5
      have hbb : b1 = b := by
        have := q3.keep 0 (by simp [fnSt])
        rw [Array.getD_eq_getD_getElem?, this] at x6
        simp only [fnSt, List.getElem?_toArray, List.getElem?_cons_zero, Option.getD_some, Value.pointer.injEq, Option.some.injEq, Addr.mk.injEq, and_true] at x6
        exact x6.symm
      subst hbb
      exact {
        eZ := q3.eZ
        os := q3.os
        tape := q3.tape
        output := q3.output
        heap := q3.heap
        old := fun b' h1 h2 => q3.old b' h1 h2
        own := q3.own
        bo := fun k e => by rw [x2] at e; cases e
        stab := fun b' o hs => ⟨q3.stab b' o hs, fun e => by subst e; exact q3.boxS _ 0 x2 o hs⟩
        sz := fun b' o h1 h2 hs => q3.sz b' o h1 h2 hs
        val := RVal_map (by rw [(decC_get hz).2.1, (decC_get hz).1]) (rdec_at hzs hpr hz) q4
        out := boxCells_of hzs x3 x4 hbp hy1 }
    refine calls_of_wp hf hb ?_
    rw [← hbody]
    have hQ : KQ (fnSt w (Gh.calleeB w Z b) f.ntmps [0] (.pointer (some ⟨b, 0, none⟩) :: vs)) (endB { X with n := f.ntmps, keep := [0] } f pr bp d) y (bodyPost P f fun e w' => ∃ v rs outs g', e = .returned v ∧ K (rs ++ [(false, [.mbox outs])]) = some r ∧ ResB w w' Z b g' rs outs v) := by
      refine ⟨fun g1 fr1 a1 w1 ok hk => fin .normal (fun id e => by cases e) g1 fr1 a1 w1 ok hk, fun id g1 fr1 a1 w1 ok hk => by simp [endB] at hk, fun g1 fr1 a1 w1 ok hk => fin .ret (fun id e => by cases e) g1 fr1 a1 w1 ok hk⟩
    have := den_ok (E := E) hT' hE hX (bodyOf f) 0 _ _ (cutsAtG hT' hE hC hX hQ k) hQ g1 _ (fnAct f.ntmps (.pointer (some ⟨b, 0, none⟩) :: vs)) w ok1 hy
    exact this
/-- a function that returns a pointer to a new box -/
theorem fn_okR (hT : TabOk P X) {E : FuncId → Option Fn} (hE : EnvOk P E) {fid : FuncId} {f : Func} {c : Code} (hf : P.funcs[fid]? = some f) (hb : f.body = some c) {n : Nat} (hn : n ≤ f.ntmps) {pc : CutP} (hpc : cutOk pc = true) {bp : List FPat} (hbp : bp.all FPat.boxy = true)
    {N : Type} {h : N → fpatsT bp} {d : fpatsT bp → N} (hh : ∀ x, h (d x) = x) {F : cutT pc → Option N} {C : Nat → Cuts N} {k : Nat} (hC : CutsOkG P { X with n := f.ntmps, keep := [] } E f (endR f bp d) C)
    (hF : ∀ x, F x = denFnR X E (C k) f bp pc x d) : FnOk P fid (mkFnR n pc bp h F) := by
  intro R w g args vs K r hi hrun
  simp only [mkFnR] at hrun
  obtain ⟨hl, hrun⟩ := bif_some hrun
  have hl := Nat.eq_of_beq_eq_true hl
  split at hrun
  case h_2 => cases hrun
  rename_i x hx
  rw [hF] at hrun
  cases hy : denFnR X E (C k) f bp pc x d with
  | none => rw [hy] at hrun; cases hrun
  | some y =>
    rw [hy] at hrun
    have hrun : K [(false, [.mbox (fencs bp (h y))])] = some r := hrun
    have ok0 := entry_ok hi (n := f.ntmps) (keep := []) (by omega) (fun j hj => by cases hj)
    obtain ⟨g1, ok1⟩ := cut_ok ok0 hpc hx
    have hX : Fits { X with n := f.ntmps, keep := [] } (fnSt w g f.ntmps [] vs) := ⟨rfl, rfl⟩
    have hT' : TabOk P { X with n := f.ntmps, keep := [] } := ⟨hT.mixed, hT.fit, hT.maps⟩
    have hbody : bodyOf f = c := by unfold bodyOf; rw [hb]; rfl
    have fin : ∀ (e : Ex), (∀ id, e ≠ .exit id) → ∀ g1 fr1 a1 w1, Ok (fnSt w g f.ntmps [] vs) g1 fr1 a1 w1 → endR f bp d e fr1 = some y →
        a1.defers = [] ∧ ∃ v, (results f a1.tmps).run P w1 = .ok v w1 ∧ ∃ v' res g', Ending.returned v = .returned v' ∧ K res = some r ∧ ResOk [] w w1 g g' args vs res v' := by
      intro e he g1 fr1 a1 w1 ok hk
      have hk : (match f.results.toList with
          | [.tmp t] => match opc fr1 (.tmp t) with
            | .ptr s 0 => match fr1 s with
              | .box cs => match fdecs true bp cs with
                | some y => some (d y)
                | none => none
              | _ => none
            | _ => none
          | _ => none) = some y := by
        cases e with
        | exit id => exact (he id rfl).elim
        | normal => exact hk
        | ret => exact hk
      split at hk
      case h_2 => cases hk
      rename_i t hres
      split at hk
      case h_2 => cases hk
      rename_i s1 hpt
      obtain ⟨_, b0, hX0, hv0⟩ := (opc_rel ok hpt (by simp) (by simp)).2
      split at hk
      case h_2 => cases hk
      rename_i cs1 hfr
      split at hk
      case h_2 => cases hk
      rename_i y1 hy1
      cases hk
      have hsl := ok.slot s1
      rw [hfr] at hsl
      obtain ⟨⟨b1, arr, ty, x1, x2, x3, x4⟩, _⟩ := hsl
      have hb0 : b0 = b1 := by rw [x1] at hX0; exact (Option.some.inj hX0).symm
      rw [hb0] at hv0
      have x6 : a1.tmps.getD t undef = .pointer (some ⟨b1, 0, none⟩) := hv0
      have hzs : ∀ b o, g1.Z b o → g1.S b o := fun b o hz => (ok.zs b o (by rw [← ok.eZ]; exact hz)).1
      have hrun1 : (results f a1.tmps).run P w1 = .ok (tupV [a1.tmps.getD t undef]) w1 := results_run (by rw [hres]; rfl) fun i x hi => by
        rw [hres] at hi
        cases i with
        | zero => simp at hi; subst hi; exact ⟨_, rfl, rfl⟩
        | succ i => simp at hi
      let g2 : Gh := { g1 with O := fun b' => if b' = b1 then some (.air 0) else none }
      obtain ⟨arr', ty', z1, z2, z3⟩ := boxCells_of hzs x3 x4 hbp hy1
      refine ⟨ok.defers, _, hrun1, _, [(false, [.mbox (fencs bp y1)])], g2, rfl, by rw [hh] at hrun; exact hrun, ?_⟩
      exact {
        eZ := ok.eZ
        os := ok.os
        tape := ok.tape
        output := ok.output
        heap := ok.heap
        old := ok.old
        own := fun b' p hO' => by
          simp only [g2] at hO'
          split at hO'
          · rename_i e; subst e; exact ok.own _ _ x2
          · cases hO'
        stab := ok.stab
        sz := fun b o hb hm hs => ok.sz b o hb hm hs
        val := ⟨[(false, [.mbox (fencs bp y1)])], [], by simp, ⟨_, rfl, .inr (.inr ⟨b1, arr', ty', x6, by simp [g2], z1, z2, fun j c hj => by
          obtain ⟨u, u1, u2⟩ := z3 j c hj
          exact ⟨u, u1, relF_tiers (g := g1) rfl rfl u2⟩, fun o hs => ok.boxS _ s1 x2 o hs⟩)⟩, fun e => (e rfl).elim⟩ }
    refine calls_of_wp hf hb ?_
    rw [← hbody]
    have hQ : KQ (fnSt w g f.ntmps [] vs) (endR f bp d) y (bodyPost P f fun e w' => ∃ v res g', e = .returned v ∧ K res = some r ∧ ResOk [] w w' g g' args vs res v) := by
      refine ⟨fun g1 fr1 a1 w1 ok hk => fin .normal (fun id e => by cases e) g1 fr1 a1 w1 ok hk, fun id g1 fr1 a1 w1 ok hk => by simp [endR] at hk, fun g1 fr1 a1 w1 ok hk => fin .ret (fun id e => by cases e) g1 fr1 a1 w1 ok hk⟩
    have := den_ok (E := E) hT' hE hX (bodyOf f) 0 _ _ (cutsAtG hT' hE hC hX hQ k) hQ g1 _ (fnAct f.ntmps vs) w ok1 hy
    exact this
/-- a function that returns a new map -/
theorem fn_okM (hT : TabOk P X) {E : FuncId → Option Fn} (hE : EnvOk P E) {fid : FuncId} {f : Func} {c : Code} (hf : P.funcs[fid]? = some f) (hb : f.body = some c) {n : Nat} (hn : n ≤ f.ntmps) {pc : CutP} (hpc : cutOk pc = true) {k v : Ty}
    {N : Type} {h : N → List (Den k × Den v)} {d : List (Den k × Den v) → N} (hh : ∀ x, h (d x) = x) {F : cutT pc → Option N} {C : Nat → Cuts N} {m : Nat} (hC : CutsOkG P { X with n := f.ntmps, keep := [] } E f (endM f k v d) C)
    (hF : ∀ x, F x = denFnM X E (C m) f k v pc x d) : FnOk P fid (mkFnM n pc k v h F) := by
  intro R w g args vs K r hi hrun
  simp only [mkFnM] at hrun
  obtain ⟨hl, hrun⟩ := bif_some hrun
  have hl := Nat.eq_of_beq_eq_true hl
  split at hrun
  case h_2 => cases hrun
  rename_i x hx
  rw [hF] at hrun
  cases hy : denFnM X E (C m) f k v pc x d with
  | none => rw [hy] at hrun; cases hrun
  | some y =>
    rw [hy] at hrun
    have hrun : K [(false, [.mmap k v (h y)])] = some r := hrun
    have ok0 := entry_ok hi (n := f.ntmps) (keep := []) (by omega) (fun j hj => by cases hj)
    obtain ⟨g1, ok1⟩ := cut_ok ok0 hpc hx
    have hX : Fits { X with n := f.ntmps, keep := [] } (fnSt w g f.ntmps [] vs) := ⟨rfl, rfl⟩
    have hT' : TabOk P { X with n := f.ntmps, keep := [] } := ⟨hT.mixed, hT.fit, hT.maps⟩
    have hbody : bodyOf f = c := by unfold bodyOf; rw [hb]; rfl
    have fin : ∀ (e : Ex), (∀ id, e ≠ .exit id) → ∀ g1 fr1 a1 w1, Ok (fnSt w g f.ntmps [] vs) g1 fr1 a1 w1 → endM f k v d e fr1 = some y →
        a1.defers = [] ∧ ∃ v, (results f a1.tmps).run P w1 = .ok v w1 ∧ ∃ v' res g', Ending.returned v = .returned v' ∧ K res = some r ∧ ResOk [] w w1 g g' args vs res v' := by
      intro e he g1 fr1 a1 w1 ok hk
      have hk : (match f.results.toList with
          | [.tmp t] => match opc fr1 (.tmp t) with
            | .mptr s => match fr1 s with
              | .mapb k' v' xs none => if h : k' = k ∧ v' = v then some (d (h.1 ▸ h.2 ▸ xs)) else none
              | _ => none
            | _ => none
          | _ => none) = some y := by
        cases e with
        | exit id => exact (he id rfl).elim
        | normal => exact hk
        | ret => exact hk
      split at hk
      case h_2 => cases hk
      rename_i t hres
      split at hk
      case h_2 => cases hk
      rename_i s1 hpt
      obtain ⟨_, b0, hX0, hv0⟩ := (opc_rel ok hpt (by simp) (by simp)).2
      split at hk
      case h_2 => cases hk
      rename_i k' v' xs hfr
      split at hk
      case isFalse => cases hk
      rename_i hkv
      obtain ⟨rfl, rfl⟩ := hkv
      cases hk
      have hsl := ok.slot s1
      rw [hfr] at hsl
      obtain ⟨b1, x1, x2, x3, _⟩ := hsl
      have hb0 : b0 = b1 := by rw [x1] at hX0; exact (Option.some.inj hX0).symm
      rw [hb0] at hv0
      have x6 : a1.tmps.getD t undef = .map (some b1) := hv0
      have hzs : ∀ b o, g1.Z b o → g1.S b o := fun b o hz => (ok.zs b o (by rw [← ok.eZ]; exact hz)).1
      have hrun1 : (results f a1.tmps).run P w1 = .ok (tupV [a1.tmps.getD t undef]) w1 := results_run (by rw [hres]; rfl) fun i x hi => by
        rw [hres] at hi
        cases i with
        | zero => simp at hi; subst hi; exact ⟨_, rfl, rfl⟩
        | succ i => simp at hi
      let g2 : Gh := { g1 with O := fun b' => if b' = b1 then some (.air 0) else none }
      refine ⟨ok.defers, _, hrun1, _, [(false, [.mmap k' v' xs])], g2, rfl, by rw [hh] at hrun; exact hrun, ?_⟩
      exact {
        eZ := ok.eZ
        os := ok.os
        tape := ok.tape
        output := ok.output
        heap := ok.heap
        old := ok.old
        own := fun b' p hO' => by
          simp only [g2] at hO'
          split at hO'
          · rename_i e; subst e; exact ok.own _ _ x2
          · cases hO'
        stab := ok.stab
        sz := fun b o hb hm hs => ok.sz b o hb hm hs
        val := ⟨[(false, [.mmap k' v' xs])], [], by simp, ⟨_, rfl, .inr (.inr ⟨b1, x6, by simp [g2], x3, fun o hs => ok.boxS _ s1 x2 o hs⟩)⟩, fun e => (e rfl).elim⟩ }
    refine calls_of_wp hf hb ?_
    rw [← hbody]
    have hQ : KQ (fnSt w g f.ntmps [] vs) (endM f k v d) y (bodyPost P f fun e w' => ∃ v res g', e = .returned v ∧ K res = some r ∧ ResOk [] w w' g g' args vs res v) := by
      refine ⟨fun g1 fr1 a1 w1 ok hk => fin .normal (fun id e => by cases e) g1 fr1 a1 w1 ok hk, fun id g1 fr1 a1 w1 ok hk => by simp [endM] at hk, fun g1 fr1 a1 w1 ok hk => fin .ret (fun id e => by cases e) g1 fr1 a1 w1 ok hk⟩
    have := den_ok (E := E) hT' hE hX (bodyOf f) 0 _ _ (cutsAtG hT' hE hC hX hQ m) hQ g1 _ (fnAct f.ntmps vs) w ok1 hy
    exact this
end
end Go.Rv

/- What the printed texts use. -/
namespace Go.Rv
set_option linter.unusedSimpArgs false
set_option linter.unusedVariables false
/-- what holds of every cut -/
def CutAll {R : Type} (S : Nat → Cut R → Prop) : Cuts R → Prop
  | [] => True
  | (p, c) :: r => S p c ∧ CutAll S r
theorem CutAll.get {R : Type} {S : Nat → Cut R → Prop} : ∀ {l : Cuts R}, CutAll S l → ∀ q c, l.lookup q = some c → S q c
  | [], _, q, c, h => by simp at h
  | (p, d) :: r, hs, q, c, h => by
    simp only [List.lookup_cons] at h
    split at h
    · rename_i e
      have e : q = p := by simpa using e
      cases h
      subst e
      exact hs.1
    · exact hs.2.get q c h
def cutOkAll (n : Nat) {R : Type} : Cuts R → Bool
  | [] => true
  | (p, c) :: r => (cutOk c.pats && p.blt n) && cutOkAll n r
theorem cutOkAll_spec {n : Nat} {R : Type} : ∀ {l : Cuts R}, cutOkAll n l = true → ∀ q c, l.lookup q = some c → cutOk c.pats = true ∧ q < n
  | [], _, q, c, h => by simp at h
  | (p, d) :: r, hs, q, c, h => by
    simp only [cutOkAll, Bool.and_eq_true] at hs
    simp only [List.lookup_cons] at h
    split at h
    · rename_i e
      have e : q = p := by simpa using e
      cases h
      subst e
      exact ⟨hs.1.1, Nat.le_of_ble_eq_true hs.1.2⟩
    · exact cutOkAll_spec hs.2 q c h
theorem cutsOk_of {R : Type} {P : Program} {X : Env} {E : FuncId → Option Fn} {f : Func} {outs : List (Nat × Nat)} {dec : List Comp → Option R} {Cs : Type} {CC : Cs → Cuts R} {cs : Nat → Cs} {z : Cs} {step : Cs → Cs} (h0 : cs 0 = z) (h1 : ∀ n, cs (n + 1) = step (cs n))
    (hz : CutAll (fun _ cut => ∀ x, cut.run x = none) (CC z)) (hp : ∀ c, cutOkAll (nodes (bodyOf f)) (CC c) = true)
    (hs : ∀ c, CutAll (fun q cut => ∀ x, cut.run x = denAt { X with n := f.ntmps, keep := keepOf outs } E (CC c) (bodyOf f) 0 q (endK { X with n := f.ntmps, keep := keepOf outs } f outs dec) (cutFr cut.pats x)) (CC (step c))) : CutsOk P X E f outs dec fun n => CC (cs n) where
  zero := fun q cut hq => by rw [h0] at hq; exact hz.get q cut hq
  pats := fun n q cut hq => (cutOkAll_spec (hp _) q cut hq).1
  node := fun n q cut hq => (cutOkAll_spec (hp _) q cut hq).2
  step := fun n q cut hq => by rw [h1] at hq; exact (hs _).get q cut hq
theorem cutsOkG_of {R : Type} {P : Program} {X : Env} {E : FuncId → Option Fn} {f : Func} {K : Ex → Fr → Option R} {Cs : Type} {CC : Cs → Cuts R} {cs : Nat → Cs} {z : Cs} {step : Cs → Cs} (h0 : cs 0 = z) (h1 : ∀ n, cs (n + 1) = step (cs n))
    (hz : CutAll (fun _ cut => ∀ x, cut.run x = none) (CC z)) (hp : ∀ c, cutOkAll (nodes (bodyOf f)) (CC c) = true)
    (hs : ∀ c, CutAll (fun q cut => ∀ x, cut.run x = denAt X E (CC c) (bodyOf f) 0 q K (cutFr cut.pats x)) (CC (step c))) : CutsOkG P X E f K fun n => CC (cs n) where
  zero := fun q cut hq => by rw [h0] at hq; exact hz.get q cut hq
  pats := fun n q cut hq => (cutOkAll_spec (hp _) q cut hq).1
  node := fun n q cut hq => (cutOkAll_spec (hp _) q cut hq).2
  step := fun n q cut hq => by rw [h1] at hq; exact (hs _).get q cut hq
theorem noCutsG {R : Type} {P : Program} {X : Env} {E : FuncId → Option Fn} {f : Func} {K : Ex → Fr → Option R} : CutsOkG P X E f K fun _ => [] where
  zero := fun q cut hq => by simp at hq
  pats := fun n q cut hq => by simp at hq
  node := fun n q cut hq => by simp at hq
  step := fun n q cut hq => by simp at hq
theorem noCuts {R : Type} {P : Program} {X : Env} {E : FuncId → Option Fn} {f : Func} {outs : List (Nat × Nat)} {dec : List Comp → Option R} : CutsOk P X E f outs dec fun _ => [] where
  zero := fun q cut hq => by simp at hq
  pats := fun n q cut hq => by simp at hq
  node := fun n q cut hq => by simp at hq
  step := fun n q cut hq => by simp at hq
/-- a function that never answers -/
theorem fnOk_none {P : Program} {fid : FuncId} {n : Nat} {pc : CutP} {pr : CompPs} {muts : List Nat} {N : Type} {h : N → compT pr} : FnOk P fid (mkFn n pc pr muts h fun _ => none) := by
  intro R w g args vs K r hi hrun
  simp only [mkFn] at hrun
  obtain ⟨_, hrun⟩ := bif_some hrun
  split at hrun <;> cases hrun
def EntAll (P : Program) : List (FuncId × Fn) → Prop
  | [] => True
  | p :: r => EntOk P p.1 p.2 ∧ EntAll P r
theorem envOk_of {P : Program} : ∀ {l : List (FuncId × Fn)}, EntAll P l → EnvOk P (fun f => l.lookup f)
  | [], _, f, F, h => by simp at h
  | (q, G) :: r, hs, f, F, h => by
    simp only [List.lookup_cons] at h
    split at h
    · rename_i e
      have e : f = q := by simpa using e
      cases h
      subst e
      exact hs.1
    · exact envOk_of hs.2 f F h
end Go.Rv

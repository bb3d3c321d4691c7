/- Maps whose entries all keep a promise: looked up, stored into. -/
import Derived.Test.YtigkpbnhdkdliaaRvM0
namespace Go.Rv
set_option linter.unusedSimpArgs false
set_option linter.unusedVariables false
open Go.RowKit Go.Maps
def MapAll (P : Program) (kt : TypeId) (w : World) (b : Nat) (Q : Value → Value → Prop) : Prop :=
  ∃ es clock, w.heap[b]? = some (.map es clock) ∧ (es.toList.map (·.key)).Nodup ∧ ∀ e ∈ es.toList, (∃ l, keyOf P kt e.key = some l) ∧ Q e.key e.val
def HasKey (w : World) (b : Nat) (key : Value) : Prop := ∃ es clock, w.heap[b]? = some (.map es clock) ∧ ∃ e ∈ es.toList, e.key = key
section
variable {P : Program} {w : World} {b : Nat} {t kt vt : TypeId} {Q Q' : Value → Value → Prop}
theorem MapAll.mono (h : MapAll P kt w b Q) (hq : ∀ k v, Q k v → Q' k v) : MapAll P kt w b Q' := by
  obtain ⟨es, clock, e1, en, e2⟩ := h
  exact ⟨es, clock, e1, en, fun e he => ⟨(e2 e he).1, hq _ _ (e2 e he).2⟩⟩
theorem MapAll.at {w' : World} (h : MapAll P kt w b Q) (hb : w'.heap[b]? = w.heap[b]?) : MapAll P kt w' b Q := by
  obtain ⟨es, clock, e1, en, e2⟩ := h
  exact ⟨es, clock, hb.trans e1, en, e2⟩
theorem MapAll.lt (h : MapAll P kt w b Q) : b < w.heap.size := by
  obtain ⟨es, clock, e1, _, _⟩ := h
  exact (Array.getElem?_eq_some_iff.1 e1).1
theorem MapAll.new {cl : Nat} (h : w.heap[b]? = some (.map #[] cl)) : MapAll P kt w b Q := ⟨#[], cl, h, by simp, fun e he => by simp at he⟩
/-- what is found, or nothing: the same in every world that has this map -/
theorem look_all (h1 : P.underlying t = some (.map kt vt)) (K : Keyed P kt) {z : Value} (hz : ∀ W, (zeroValue vt).run P W = .ok z W) (h : MapAll P kt w b Q) {key : Value} {l : Lit} (hl : keyOf P kt key = some l) :
    (¬ HasKey w b key ∧ ∀ W, W.heap[b]? = w.heap[b]? → ∀ c : Bool, (Instr.lookup t (.map (some b)) key c).run P W = .ok (if c = true then .tuple #[z, .bool false] else z) W) ∨
    ∃ v, HasKey w b key ∧ Q key v ∧ ∀ W, W.heap[b]? = w.heap[b]? → ∀ c : Bool, (Instr.lookup t (.map (some b)) key c).run P W = .ok (if c = true then .tuple #[v, .bool true] else v) W := by
  obtain ⟨es, clock, e1, en, e2⟩ := h
  have hk : ∀ e ∈ es.toList, ∃ l, keyOf P kt e.key = some l := fun e he => (e2 e he).1
  rcases K.find w hl es.toList hk with ⟨f1, f2⟩ | ⟨j, e0, f1, f2, f3⟩
  · refine .inl ⟨fun ⟨es', cl', g1, e, g2, g3⟩ => ?_, fun W hW c => ?_⟩
    · rw [e1] at g1
      cases g1
      exact f2 e g2 g3
    · rcases K.find W hl es.toList hk with ⟨f1', _⟩ | ⟨j, e0, _, g2, g3⟩
      · cases c <;> simp [Instr.lookup, run_underlying h1, MapKept.run_getObj_map (hW.trans e1), K.check W _ hl, f1', hz, Result.andThen]
      · exact (f2 e0 (List.mem_of_getElem? g2) g3).elim
  · have hm : e0 ∈ es.toList := List.mem_of_getElem? f2
    refine .inr ⟨e0.val, ⟨es, clock, e1, e0, hm, f3⟩, f3 ▸ (e2 e0 hm).2, fun W hW c => ?_⟩
    rcases K.find W hl es.toList hk with ⟨_, g2⟩ | ⟨j', e', f1', g2, g3⟩
    · exact (g2 e0 hm f3).elim
    · have hjj : j' = j := by
        have h1 : (es.toList.map (·.key))[j']? = some key := by rw [List.getElem?_map, g2, ← g3]; rfl
        have h2 : (es.toList.map (·.key))[j]? = some key := by rw [List.getElem?_map, f2, ← f3]; rfl
        have l1 := (List.getElem?_eq_some_iff.1 h1).1
        exact (List.getElem?_inj l1 en).1 (h1.trans h2.symm)
      subst hjj
      rw [f2] at g2
      cases g2
      cases c <;> simp [Instr.lookup, run_underlying h1, MapKept.run_getObj_map (hW.trans e1), K.check W _ hl, f1', Result.andThen]
open Go.ChangeMaps (setBlock modify_eq_set) in
theorem put_all (h1 : P.underlying t = some (.map kt vt)) (K : Keyed P kt) (h : MapAll P kt w b Q) {key val : Value} {l : Lit} (hl : keyOf P kt key = some l) (hq : Q key val) :
    ∃ es' clock', (Instr.mapUpdate t (.map (some b)) key val).run P w = .ok () (setBlock w b (.map es' clock')) ∧ MapAll P kt (setBlock w b (.map es' clock')) b Q ∧ HasKey (setBlock w b (.map es' clock')) b key := by
  obtain ⟨es, clock, e1, en, e2⟩ := h
  have hb : b < w.heap.size := (Array.getElem?_eq_some_iff.1 e1).1
  have hheap : ∀ o, (setBlock w b o).heap[b]? = some o := fun o => by simp [setBlock, hb]
  rcases K.find w hl es.toList (fun e he => (e2 e he).1) with ⟨f1, f2⟩ | ⟨j, e0, f1, f2, f3⟩
  · refine ⟨es.push ⟨key, val, clock⟩, clock + 1, ?_, ⟨_, _, hheap _, by
      rw [Array.toList_push, List.map_append, List.nodup_append]
      refine ⟨en, by simp, fun a ha c hc e => ?_⟩
      obtain ⟨x, hx, rfl⟩ := List.mem_map.1 ha
      simp at hc
      subst hc
      exact f2 x hx e, fun e he => ?_⟩, ⟨_, _, hheap _, ⟨key, val, clock⟩, by simp, rfl⟩⟩
    · simp [Instr.mapUpdate, run_underlying h1, MapKept.run_getObj_map e1, K.check w false hl, f1, MapKept.run_setObj_map _ e1, Result.andThen, setBlock]
    · rw [Array.toList_push] at he
      rcases List.mem_append.1 he with he | he
      · exact e2 e he
      · simp at he; subst he; exact ⟨⟨l, hl⟩, hq⟩
  · have hjl : j < es.size := by simpa using (List.getElem?_eq_some_iff.1 f2).1
    have hje : es[j]? = some e0 := by simpa using f2
    have hlist : (es.modify j (fun e' => { e' with key := key, val := val })).toList = es.toList.set j { e0 with key := key, val := val } := by rw [Array.toList_modify, modify_eq_set _ _ _ _ f2]
    refine ⟨es.modify j (fun e' => { e' with key := key, val := val }), clock, ?_, ⟨_, _, hheap _, by
      rw [hlist, List.map_set]
      have : (es.toList.map (·.key)).set j key = es.toList.map (·.key) := by
        apply List.ext_getElem?
        intro i
        rw [List.getElem?_set]
        split
        · rename_i e
          subst e
          rw [List.getElem?_map, f2]
          split
          · rw [← f3]; rfl
          · rename_i hlt
            exact absurd (by simpa using hjl) hlt
        · rfl
      rw [this]
      exact en, fun e he => ?_⟩, ⟨_, _, hheap _, { e0 with key := key, val := val }, ?_, rfl⟩⟩
    · simp [Instr.mapUpdate, run_underlying h1, MapKept.run_getObj_map e1, K.check w false hl, f1, hje, f3, K.stays w hl, MapKept.run_setObj_map _ e1, Result.andThen, setBlock]
    · rw [hlist] at he
      rcases List.mem_or_eq_of_mem_set he with he | rfl
      · exact e2 e he
      · exact ⟨⟨l, hl⟩, hq⟩
    · rw [hlist]
      have hj : j < es.toList.length := by simpa using hjl
      exact List.mem_iff_getElem?.2 ⟨j, by rw [List.getElem?_set]; simp [hjl]⟩
end
end Go.Rv

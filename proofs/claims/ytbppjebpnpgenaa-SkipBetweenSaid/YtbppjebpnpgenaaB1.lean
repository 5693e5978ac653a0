/- Maps whose keys are states. -/
import Derived.Test.YtbppjebpnpgenaaA15
import Derived.Laws.StructEq
import Derived.RangeFuncRecord
namespace Go.Proofs.Ytbppjebpnpgenaa
open Go Go.RowKit

/-- A block known whole: its cells, none of them frozen. -/
def Blk (w : World) (b : Nat) (t : Nat) (cs : List Value) : Prop := w.heap[b]? = some (.cells cs.toArray t (0, 0))
theorem Blk.lt {w : World} {b t : Nat} {cs : List Value} (h : Blk w b t cs) : b < w.heap.size := (Array.getElem?_eq_some_iff.1 h).1
theorem Blk.cell {w : World} {b t : Nat} {cs : List Value} (h : Blk w b t cs) (i : Nat) : w.cell? ⟨b, i, none⟩ = cs[i]? := by
  unfold Blk at h; simp [World.cell?, h]
theorem Blk.frozen {w : World} {b t : Nat} {cs : List Value} (h : Blk w b t cs) (i : Nat) : w.frozen? ⟨b, i, none⟩ = false := by
  unfold Blk at h; simp [World.frozen?, h]
theorem Blk.below {w w' : World} {b t : Nat} {cs : List Value} (h : Blk w b t cs) (hb : Below w.heap.size w w') : Blk w' b t cs := (hb.block b h.lt).trans h
theorem Blk.alloc {w : World} {b t : Nat} {cs : List Value} (h : Blk w b t cs) (o : Obj) : Blk (w.alloc o) b t cs := (Below.heap_alloc w o b h.lt).trans h
theorem Blk.drew {w : World} {b t : Nat} {cs : List Value} (h : Blk w b t cs) : Blk w.drew b t cs := h
theorem Blk.drewN {w : World} {b t : Nat} {cs : List Value} (h : Blk w b t cs) (n : Nat) : Blk (w.drewN n) b t cs := h
theorem Blk.new (w : World) (t : Nat) (cs : List Value) : Blk (w.alloc (.cells cs.toArray t)) w.heap.size t cs := World.alloc_heap_new w _
theorem Blk.set {w : World} {b t : Nat} {cs : List Value} (h : Blk w b t cs) (i : Nat) (v : Value) : Blk (w.setCell ⟨b, i, none⟩ v) b t (cs.set i v) := by
  unfold Blk at h ⊢
  have hlt := (Array.getElem?_eq_some_iff.1 h).1
  have hg := (Array.getElem?_eq_some_iff.1 h).2
  simp [World.setCell, Array.getElem?_modify, h]
theorem Blk.other {w : World} {b t : Nat} {cs : List Value} (h : Blk w b t cs) {a : Addr} (hne : b ≠ a.block) (v : Value) : Blk (w.setCell a v) b t cs :=
  (Below.heap_setCell w a v b hne).trans h

instance : DecidableEq St := fun a b =>
  if h : a.ends = b.ends ∧ a.lead = b.lead ∧ a.ham = b.ham then isTrue (by cases a; cases b; simp_all) else isFalse (by intro e; subst e; simp at h)

theorem eq_st (a b : St) (w : World) : (Op.equal 27 a.v b.v).run Try.prog w = .ok (decide (a = b)) w := by
  have u3 := Try.underlying3
  have a3 := Try.isAgg3
  have z3 := Try.sizeOf3
  have hS : Try.prog.underlying 27 = some (.struct (Try.prog.fieldsOf 27)) := by kernel_rfl
  have hp : Try.prog.stoodInHeld 27 = false := by kernel_rfl
  unfold Op.equal Op.maxDepth St.v
  rw [show (10000 : Nat) = 9999 + 1 from rfl, run_equalIn_struct w 9999 27 _ _ hS hp]
  simp only [Program.fieldsOf, Try.underlying27]
  go_simp
  obtain ⟨a1, a2, a3⟩ := a
  obtain ⟨b1, b2, b3⟩ := b
  by_cases h1 : a1 = b1 <;> by_cases h2 : a2 = b2 <;> by_cases h3 : a3 = b3 <;> simp [h1, h2, h3]

theorem check_st (e : Bool) (a : St) (w : World) : (Instr.checkKey e 10000 27 a.v).run Try.prog w = .ok () w := by
  unfold St.v
  kernel_rfl

def findL (s : St) : List (St × Value) → Nat → Option (Nat × Value)
  | [], _ => none
  | p :: ps, i => if s = p.1 then some (i, p.2) else findL s ps (i + 1)

theorem findAsking_st (s : St) (w : World) : ∀ (l : List MapEntry) (ents : List (St × Value)) (i : Nat), l.map (fun e => (e.key, e.val)) = ents.map (fun p => (p.1.v, p.2)) →
    (Instr.findAsking 27 s.v l i).run Try.prog w = .ok (findL s ents i) w
  | [], ents, i, h => by
    cases ents with
    | nil => rfl
    | cons p ps => simp at h
  | e :: es, ents, i, h => by
    cases ents with
    | nil => simp at h
    | cons p ps =>
      simp only [List.map_cons, List.cons.injEq, Prod.mk.injEq] at h
      obtain ⟨⟨h1, h2⟩, h3⟩ := h
      have ih := findAsking_st s w es ps (i + 1) h3
      unfold Instr.findAsking findL
      rw [h1, Sem.run_bind, eq_st, Result.andThen_ok]
      by_cases hs : s = p.1
      · simp [hs, h2]
      · simp only [hs, decide_false, Bool.false_eq_true, if_false]
        exact ih

theorem findKey_st (s : St) (w : World) (l : List MapEntry) (ents : List (St × Value)) (h : l.map (fun e => (e.key, e.val)) = ents.map (fun p => (p.1.v, p.2))) :
    (Instr.findKey 27 s.v l).run Try.prog w = .ok (findL s ents 0) w := by
  unfold Instr.findKey
  rw [Sem.run_bind, run_underlying Try.underlying27, Result.andThen_ok]
  cases l with
  | nil =>
    cases ents with
    | nil => rfl
    | cons p ps => simp at h
  | cons e es =>
    cases ents with
    | nil => simp at h
    | cons p ps =>
      have hk : e.key = p.1.v := by simp at h; exact h.1.1
      have hn : ∀ fs, Instr.findNow (TypeDesc.struct fs) s.v (e :: es) 0 = none := by
        intro fs; unfold Instr.findNow; rw [hk]; rfl
      rw [hn]
      exact findAsking_st s w (e :: es) (p :: ps) 0 h

/-- A map, block b, that holds these states' values. -/
def MapAt (w : World) (b : Nat) (ents : List (St × Value)) : Prop :=
  ∃ es clock, w.heap[b]? = some (.map es clock) ∧ es.toList.map (fun e => (e.key, e.val)) = ents.map (fun p => (p.1.v, p.2))

/-- What a map holds for a state. -/
def getL (s : St) : List (St × Value) → Option Value
  | [] => none
  | p :: ps => if s = p.1 then some p.2 else getL s ps

theorem findL_getL (s : St) : ∀ (ents : List (St × Value)) (i : Nat), (findL s ents i).map (·.2) = getL s ents
  | [], _ => rfl
  | p :: ps, i => by unfold findL getL; split; rfl; exact findL_getL s ps (i + 1)

theorem lookup_st (T E : Nat) (hT : Try.prog.underlying T = some (.map 27 E)) (z : Value) (hz : ∀ w, (zeroValue E).run Try.prog w = .ok z w) (w : World) (b : Nat) (ents : List (St × Value)) (h : MapAt w b ents) (s : St) :
    (Instr.lookup T (.map (some b)) s.v true).run Try.prog w = .ok (.tuple #[(getL s ents).getD z, .bool (getL s ents).isSome]) w := by
  obtain ⟨es, clock, hb, he⟩ := h
  have hg : (getObj b).run Try.prog w = .ok (.map es clock) w := by simp [getObj, Sem.run, hb]
  unfold Instr.lookup
  rw [Sem.run_bind, run_underlying hT, Result.andThen_ok]
  simp only [Sem.run_bind, hg, Result.andThen_ok, Sem.run_pure, check_st, findKey_st s w es.toList ents he, ← findL_getL s ents 0]
  cases hf : findL s ents 0 with
  | none => simp [hz, Result.andThen_ok]
  | some r => simp

def setL (s : St) (v : Value) : List (St × Value) → List (St × Value)
  | [] => [(s, v)]
  | p :: ps => if s = p.1 then (s, v) :: ps else p :: setL s v ps

theorem getL_setL (s t : St) (v : Value) : ∀ ents : List (St × Value), getL t (setL s v ents) = if t = s then some v else getL t ents
  | [] => by unfold setL getL; split <;> simp_all [getL]
  | p :: ps => by
    unfold setL
    by_cases h : s = p.1
    · rw [if_pos h]; unfold getL; split <;> simp_all
    · rw [if_neg h]
      unfold getL
      by_cases h2 : t = p.1
      · have : t ≠ s := fun e => h (e ▸ h2)
        rw [if_pos h2, if_neg this, if_pos h2]
      · rw [if_neg h2, if_neg h2]; exact getL_setL s t v ps

theorem setL_none (s : St) (v : Value) : ∀ (ents : List (St × Value)) (i : Nat), findL s ents i = none → setL s v ents = ents ++ [(s, v)]
  | [], _, _ => rfl
  | p :: ps, i, h => by
    unfold findL at h
    unfold setL
    split at h
    · cases h
    · rename_i hne; rw [if_neg hne, setL_none s v ps (i + 1) h]; rfl

theorem setL_some (s : St) (v : Value) : ∀ (ents : List (St × Value)) (l : List MapEntry) (k j : Nat) (x : Value), l.map (fun e => (e.key, e.val)) = ents.map (fun p => (p.1.v, p.2)) →
    findL s ents k = some (k + j, x) → (l.modify j fun e => { e with key := s.v, val := v }).map (fun e => (e.key, e.val)) = (setL s v ents).map (fun p => (p.1.v, p.2)) ∧ ((l[j]?).map (·.key)) = some s.v
  | [], _, _, _, _, _, h => by simp [findL] at h
  | p :: ps, [], _, _, _, h, _ => by simp at h
  | p :: ps, e :: es, k, j, x, h, hf => by
    simp only [List.map_cons, List.cons.injEq, Prod.mk.injEq] at h
    obtain ⟨⟨h1, h2⟩, h3⟩ := h
    unfold findL at hf
    unfold setL
    by_cases hs : s = p.1
    · rw [if_pos hs] at hf ⊢
      obtain rfl : j = 0 := by simp at hf; omega
      exact ⟨by simp [h3], by simp [h1, hs]⟩
    · rw [if_neg hs] at hf ⊢
      have hj : k + 1 ≤ k + j := by
        clear h1 h2 h3
        have : ∀ (ents : List (St × Value)) (m : Nat), findL s ents m = some (k + j, x) → m ≤ k + j := by
          intro ents
          induction ents with
          | nil => intro m h; cases h
          | cons q qs ih =>
            intro m h
            unfold findL at h
            split at h
            · simp at h; omega
            · have := ih (m + 1) h; omega
        exact this ps (k + 1) hf
      obtain ⟨i, rfl⟩ : ∃ i, j = i + 1 := ⟨j - 1, by omega⟩
      have := setL_some s v ps es (k + 1) i x h3 (by rw [hf]; congr 2; omega)
      exact ⟨by simp [h1, h2, this.1], by simpa using this.2⟩

theorem same_st (a : St) : Instr.sameBits 10000 a.v a.v = true := by
  unfold St.v Instr.sameBits
  simp [Instr.sameBits]

theorem update_st (T E : Nat) (hT : Try.prog.underlying T = some (.map 27 E)) (w : World) (b : Nat) (ents : List (St × Value)) (h : MapAt w b ents) (s : St) (v : Value) :
    ∃ o, (Instr.mapUpdate T (.map (some b)) s.v v).run Try.prog w = .ok () (w.putObj b o) ∧ MapAt (w.putObj b o) b (setL s v ents) := by
  obtain ⟨es, clock, hb, he⟩ := h
  have hg : (getObj b).run Try.prog w = .ok (.map es clock) w := by simp [getObj, Sem.run, hb]
  have hlt : b < w.heap.size := (Array.getElem?_eq_some_iff.1 hb).1
  have hset : ∀ o, (setObj b o).run Try.prog w = .ok () (w.putObj b o) := fun o => by simp [setObj, Sem.run, hb, World.putObj]
  unfold Instr.mapUpdate
  rw [Sem.run_bind, run_underlying hT, Result.andThen_ok]
  simp only [Sem.run_bind, hg, Result.andThen_ok, check_st, findKey_st s w es.toList ents he]
  cases hf : findL s ents 0 with
  | none =>
    refine ⟨_, hset _, _, _, World.putObj_heap_same hlt, ?_⟩
    rw [setL_none s v ents 0 hf]
    simp [he]
  | some r =>
    obtain ⟨i, x⟩ := r
    obtain ⟨g1, g2⟩ := setL_some s v ents es.toList 0 i x he (by rw [hf]; simp)
    have hk : ((es[i]?).map (·.key)).getD s.v = s.v := by
      have : es[i]? = es.toList[i]? := by simp
      rw [this, g2]; rfl
    simp only [hk, Instr.keyThatStays, same_st, if_true]
    refine ⟨_, hset _, _, _, World.putObj_heap_same hlt, ?_⟩
    rw [Array.toList_modify]
    exact g1
end Go.Proofs.Ytbppjebpnpgenaa

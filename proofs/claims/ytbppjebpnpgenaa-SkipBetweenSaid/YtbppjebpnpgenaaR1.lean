/- A region that draws its order, by what holds behind each operation: one proof an operation, whatever the order. -/
import Derived.Test.YtbppjebpnpgenaaBase
import Derived.Deep.RegionHeld3
import Derived.Deep.DrawnRows
namespace Go.Proofs.Ytbppjebpnpgenaa
open Go Go.RowKit

section
variable {P : Program} {ops : Array Oper} {Q : Exit → Act → World → Prop} {md : Region.Mode} {S : World → Prop} {J : Array Bool → Act → World → Prop}

/-- Does every operation wait only for elder ones? -/
def ordB (md : Region.Mode) (ops : Array Oper) : Bool := (List.range ops.size).all fun i => match ops[i]? with
  | some o => o.after.all fun e => !Region.binds md e || decide (e.on < i)
  | none => true
/-- The operations that have not come up yet. -/
def unlL (n : Nat) (listed : Array Bool) : List Nat := (List.range n).filter fun k => !listed.getD k true
/-- For which operations one waits. -/
def depsL (md : Region.Mode) (o : Oper) : List Nat := (o.after.toList.filter fun e => Region.binds md e).map (·.on)

/-- One operation's step: in whatever state the others have left. -/
def StepR (P : Program) (md : Region.Mode) (ops : Array Oper) (Q : Exit → Act → World → Prop) (S : World → Prop) (J : Array Bool → Act → World → Prop) (i : Nat) : Prop :=
  ∀ listed a w, listed.size = ops.size → i ∈ Region.ready md ops listed → J listed a w → wpOp P ops Q i (fun a' w' => S w' ∧ J (listed.setIfInBounds i true) a' w') a w

theorem StepR.mk {i : Nat} {o : Oper} {ds : List Nat} (hL : ops.toList[i]? = some o) (hd : depsL md o = ds)
    (h : ∀ listed a w, listed.size = ops.size → listed.getD i true = false → (∀ d ∈ ds, listed.getD d true = true) → J listed a w → ∀ K : Act → World → Prop, Shut (∀ a w, S w → J (listed.setIfInBounds i true) a w → K a w) →
      if Region.wanted o (yielded ops a.tmps) = true then Oper.wp P o a w K Q else K (a.put o.dst undef) w) : StepR P md ops Q S J i := by
  have ho : ops[i]? = some o := by simpa using hL
  intro listed a w hsz hr hJ
  obtain ⟨h0, o', ho', hall⟩ := mem_ready.1 hr
  rw [ho] at ho'
  cases ho'
  refine wpOp_step ho (fun K hK => h listed a w hsz h0 (fun d hd' => ?_) hJ K (fun a w h1 h2 => hK a w ⟨h1, h2⟩))
  rw [← hd] at hd'
  obtain ⟨e, he, rfl⟩ := List.mem_map.1 hd'
  obtain ⟨he1, he2⟩ := List.mem_filter.1 he
  have h1 := hall e (Array.mem_toList_iff.1 he1) he2
  rcases Nat.lt_or_ge e.on listed.size with h' | h'
  · simpa [h'] using h1
  · simp [Array.getElem?_eq_none h'] at h1

theorem unlL_set (n i : Nat) (listed : Array Bool) (hi : i < n) (h : listed.getD i true = false) : (unlL n (listed.setIfInBounds i true)).length < (unlL n listed).length := by
  have hlt : i < listed.size := by
    rcases Nat.lt_or_ge i listed.size with h' | h'
    · exact h'
    · simp [Array.getElem?_eq_none h'] at h
  have e : unlL n (listed.setIfInBounds i true) = (unlL n listed).filter fun k => !(listed.setIfInBounds i true).getD k true := by
    unfold unlL
    rw [List.filter_filter]
    refine List.filter_congr fun k _ => ?_
    by_cases hk : i = k
    · subst hk; simp [hlt]
    · rw [getD_set_ne true hk]; simp
  rw [e]
  refine List.length_filter_lt_length_iff_exists.2 ⟨i, ?_, ?_⟩
  · unfold unlL; rw [List.mem_filter, List.mem_range]; exact ⟨hi, by rw [h]; rfl⟩
  · simp [hlt]

theorem all_listed (hord : ordB md ops = true) (listed : Array Bool) (hsz : listed.size = ops.size) (hr : Region.ready md ops listed = []) : ∀ i, i < ops.size → listed.getD i true = true := by
  intro i
  induction i using Nat.strongRecOn with
  | _ i ih =>
    intro hi
    cases hl : listed.getD i true with
    | true => rfl
    | false =>
      have : i ∈ Region.ready md ops listed := by
        refine mem_ready.2 ⟨hl, ops[i], Array.getElem?_eq_getElem hi, fun e he hb => ?_⟩
        have := List.all_eq_true.1 hord i (List.mem_range.2 hi)
        rw [Array.getElem?_eq_getElem hi] at this
        have h2 := Array.all_eq_true_iff_forall_mem.1 this e he
        rw [hb] at h2
        have hlt : e.on < i := by simpa using h2
        have h3 := ih e.on hlt (by omega)
        have h4 : e.on < listed.size := by omega
        simpa [h4] using h3
      rw [hr] at this
      cases this

theorem wpAnyH_rg (rem : List Nat) (hord : ordB md ops = true) (hstep : ∀ i ∈ rem, StepR P md ops Q S J i)
    (hdone : ∀ listed a w, (∀ i, i < ops.size → listed.getD i true = true) → listed.size = ops.size → J listed a w → Q .normal a w) :
    ∀ (fuel : Nat) (listed : Array Bool) (a : Act) (w : World), listed.size = ops.size → (∀ i ∈ unlL ops.size listed, i ∈ rem) → (unlL ops.size listed).length ≤ fuel → J listed a w → wpAnyH P md ops Q S fuel listed a w
  | 0, listed, a, w, hsz, hrem, hf, hJ => by
    have hall : ∀ i, i < ops.size → listed.getD i true = true := by
      intro i hi
      cases hl : listed.getD i true with
      | true => rfl
      | false =>
        have hm : i ∈ unlL ops.size listed := by unfold unlL; rw [List.mem_filter, List.mem_range]; exact ⟨hi, by rw [hl]; rfl⟩
        have := List.length_pos_of_mem hm
        omega
    refine ⟨?_, hdone listed a w hall hsz hJ⟩
    cases hr : Region.ready md ops listed with
    | nil => rfl
    | cons j js =>
      have hj : j ∈ Region.ready md ops listed := by rw [hr]; simp
      obtain ⟨h0, o, ho, _⟩ := mem_ready.1 hj
      have := hall j (Array.getElem?_eq_some_iff.1 ho).1
      rw [h0] at this
      cases this
  | fuel + 1, listed, a, w, hsz, hrem, hf, hJ => by
    refine ⟨fun hr => hdone listed a w (all_listed hord listed hsz hr) hsz hJ, fun i hi => ?_⟩
    obtain ⟨h0, o, ho, _⟩ := mem_ready.1 hi
    have hlt := (Array.getElem?_eq_some_iff.1 ho).1
    have hm : i ∈ unlL ops.size listed := by unfold unlL; rw [List.mem_filter, List.mem_range]; exact ⟨hlt, by rw [h0]; rfl⟩
    refine wpOp_mono (fun a' w' h => ⟨h.1, ?_⟩) (hstep i (hrem i hm) listed a w hsz hi hJ)
    have hd := unlL_set ops.size i listed hlt h0
    refine wpAnyH_rg rem hord hstep hdone fuel _ a' w' (by simpa using hsz) (fun k hk => hrem k ?_) (by omega) h.2
    unfold unlL at hk ⊢
    rw [List.mem_filter] at hk ⊢
    refine ⟨hk.1, ?_⟩
    by_cases hik : i = k
    · subst hik; rw [h0]; rfl
    · rw [getD_set_ne true hik] at hk; exact hk.2

/-- From the state at hand on, under what holds there. -/
theorem wpAnyH_rg_at {JJ : Act → Array Bool → Act → World → Prop} {fuel : Nat} {listed : Array Bool} {a : Act} {w : World} (rem : List Nat) (hord : ordB md ops = true) (hsz : listed.size = ops.size)
    (hrem : (unlL ops.size listed).all (fun i => rem.contains i) = true) (hf : (unlL ops.size listed).length ≤ fuel) (hJ : JJ a listed a w) (hstep : ∀ i ∈ rem, StepR P md ops Q S (JJ a) i)
    (hdone : ∀ listed a' w, (∀ i, i < ops.size → listed.getD i true = true) → listed.size = ops.size → JJ a listed a' w → Q .normal a' w) : wpAnyH P md ops Q S fuel listed a w :=
  wpAnyH_rg rem hord hstep hdone fuel listed a w hsz (fun i hi => by have := List.all_eq_true.1 hrem i hi; simpa using this) hf hJ

/-- An operation that yields in every world that meets S is taken first; the operation is handed over written out. -/
theorem wpAnyH_takeL (i : Nat) {oi : Oper} {v : Value} {fuel : Nat} {listed : Array Bool} {a : Act} {w : World} (hi : ops.toList[i]? = some oi)
    (hs : Region.noSelect ops = true) (hf : Region.free md ops listed i = true) (hr : (Region.ready md ops listed).contains i = true)
    (hQ : ∀ c a w, Q (.panic c) (a.put oi.dst v) w → Q (.panic c) a w) (hS : S w) (hw : Region.wanted oi (yielded ops a.tmps) = true) (hy : ∀ w, S w → (execOp a.eval oi).run P w = .ok (.value v) w)
    (h : wpAnyH P md ops Q S fuel (listed.setIfInBounds i true) (a.put oi.dst v) w) : wpAnyH P md ops Q S (fuel + 1) listed a w :=
  wpAnyH_take (by simpa using hi) hs hf hr hQ (Or.inl ⟨hw, hy⟩) hS h

/-- One of the operations that may come up next; the operation is handed over written out. -/
theorem allReady_cons (i : Nat) {o : Oper} {rs : List Nat} {fuel : Nat} {listed : Array Bool} {a : Act} {w : World} (hL : ops.toList[i]? = some o)
    (h : ∀ K' : Act → World → Prop, Shut (∀ a w, S w → (S w → wpAnyH P md ops Q S fuel (listed.setIfInBounds i true) a w) → K' a w) → if Region.wanted o (yielded ops a.tmps) = true then Oper.wp P o a w K' Q else K' (a.put o.dst undef) w)
    (hs : AllReadyH P md ops Q S fuel listed a w rs) : AllReadyH P md ops Q S fuel listed a w (i :: rs) := AllReadyH.cons (by simpa using hL) h hs

theorem steps_nil : ∀ i ∈ ([] : List Nat), StepR P md ops Q S J i := fun _ h => by cases h
theorem steps_cons {i : Nat} {is : List Nat} (h : StepR P md ops Q S J i) (hs : ∀ i ∈ is, StepR P md ops Q S J i) : ∀ j ∈ i :: is, StepR P md ops Q S J j := fun j hj => by
  rcases List.mem_cons.1 hj with rfl | hj
  · exact h
  · exact hs j hj

/-- What held behind an operation, when one more has come up. -/
theorem was_listed {listed : Array Bool} {i j : Nat} {p : Prop} (hne : j ≠ i) (h : listed.getD j true = true → p) : (listed.setIfInBounds i true).getD j true = true → p := by
  rw [getD_set_ne true (Ne.symm hne)]; exact h
end
end Go.Proofs.Ytbppjebpnpgenaa

/- Rivals in memory of their own: two tables of rows, all apart. -/
import Derived.Test.YtbppjebpnpgenaaC1
import Derived.Deep.RegionHeld3
import Derived.Deep.DrawnRows
import Derived.Laws.OwnMore
namespace Go.Proofs.Ytbppjebpnpgenaa
open Go Go.RowKit

theorem Try.infoRow : (Try.prog.info? 57).map (fun i => (i.zero, i.size, i.bytes)) = some (some (.slice none 0 0), 1, 24) := by kernel_rfl

def ApartB (a b : Option Nat) : Prop := ∀ k, a = some k → b ≠ some k
theorem ApartB.symm {a b : Option Nat} (h : ApartB a b) : ApartB b a := fun k hb ha => h k ha hb

/-- Two tables of rows that a call itself made, none of them sharing memory. -/
structure CopAt (base : Nat) (W : World) (S0 S1 : Value) (l0 l1 : List RowV) : Prop where
  le : base ≤ W.heap.size
  t0 : W.ownsRow base 57 1 S0 l0.length (l0.map RowV.v)
  t1 : W.ownsRow base 57 1 S1 l1.length (l1.map RowV.v)
  ap : ApartB S0.ownBlock S1.ownBlock
  each : ∀ r ∈ l0 ++ l1, W.ownsRow base 3 1 r.v r.xs.length (r.xs.map (.int .i64))
  apart : ((l0 ++ l1).map fun r => r.v.ownBlock).Pairwise ApartB
  ap0 : ∀ r ∈ l0 ++ l1, ApartB r.v.ownBlock S0.ownBlock ∧ ApartB r.v.ownBlock S1.ownBlock

theorem own_kept_lt {W W' : World} {base e size n N : Nat} {v : Value} {xs : List Value} (h : W.ownsRow base e size v n xs) (hN : ∀ k, v.ownBlock = some k → k < N) (hk : ∀ k, k < N → W'.heap[k]? = W.heap[k]?) : W'.ownsRow base e size v n xs := by
  refine ⟨h.1, ?_⟩
  rcases h.2 with hn | ⟨g, cap, cur, rfl, hb, hg, rest⟩
  · exact .inl hn
  · exact .inr ⟨g, cap, cur, rfl, hb, (hk g (hN g rfl)).trans hg, rest⟩
theorem own_kept_ne {W W' : World} {base e size n : Nat} {v : Value} {xs : List Value} {row : Option Nat} (h : W.ownsRow base e size v n xs) (hg : W.grownBy W' row) (hne : ApartB v.ownBlock row) : W'.ownsRow base e size v n xs :=
  h.kept hg (by
    cases hv : v.ownBlock with
    | none => exact .inl rfl
    | some k => exact .inr (fun e => hne k hv e.symm))

section
variable {base : Nat} {W W' : World} {S0 S1 : Value} {l0 l1 : List RowV}
theorem CopAt.below (h : CopAt base W S0 S1 l0 l1) (hb : Below W.heap.size W W') : CopAt base W' S0 S1 l0 l1 :=
  ⟨Nat.le_trans h.le hb.size, own_kept_lt h.t0 (fun k hk => (h.t0.lt k hk).2) hb.block, own_kept_lt h.t1 (fun k hk => (h.t1.lt k hk).2) hb.block, h.ap,
    fun r hr => own_kept_lt (h.each r hr) (fun k hk => ((h.each r hr).lt k hk).2) hb.block, h.apart, h.ap0⟩
/-- A store below all that is owned. -/
theorem CopAt.low {B : Nat} (h : CopAt base W S0 S1 l0 l1) (hg : W.grownBy W' (some B)) (hB : B < base) : CopAt base W' S0 S1 l0 l1 := by
  have ne : ∀ v : Value, (∀ k, v.ownBlock = some k → base ≤ k ∧ k < W.heap.size) → ApartB v.ownBlock (some B) := fun v hv k hk e => by
    have := (hv k hk).1
    cases e
    omega
  exact ⟨Nat.le_trans h.le hg.size, own_kept_ne h.t0 hg (ne _ h.t0.lt), own_kept_ne h.t1 hg (ne _ h.t1.lt), h.ap, fun r hr => own_kept_ne (h.each r hr) hg (ne _ (h.each r hr).lt), h.apart, h.ap0⟩
theorem pairwise_swap {α : Type} {R : α → α → Prop} (hs : ∀ a b, R a b → R b a) {l l' : List α} (h : (l ++ l').Pairwise R) : (l' ++ l).Pairwise R := by
  rw [List.pairwise_append] at h ⊢
  exact ⟨h.2.1, h.1, fun a ha b hb => hs _ _ (h.2.2 b hb a ha)⟩
theorem CopAt.swap (h : CopAt base W S0 S1 l0 l1) : CopAt base W S1 S0 l1 l0 :=
  ⟨h.le, h.t1, h.t0, h.ap.symm, fun r hr => h.each r (by simp only [List.mem_append] at hr ⊢; exact hr.symm), by
    have := h.apart
    rw [List.map_append] at this ⊢
    exact pairwise_swap (fun _ _ h => ApartB.symm h) this, fun r hr => (h.ap0 r (by simp only [List.mem_append] at hr ⊢; exact hr.symm)).symm⟩
/-- A row more in the first table. -/
theorem CopAt.app {W3 W4 : World} {r : RowV} {g cap : Nat} (h : CopAt base W S0 S1 l0 l1) (hb : Below W.heap.size W W3) (hr : W3.ownsRow W.heap.size 3 1 r.v r.xs.length (r.xs.map (.int .i64)))
    (hown : W4.ownsRow base 57 1 (.slice (some ⟨g, 0, none⟩) (l0.length + 1) cap) (l0.length + 1) (l0.map RowV.v ++ [r.v])) (hg : W3.grownBy W4 S0.ownBlock) (hat : S0.ownBlock = some g ∨ g = W3.heap.size) :
    CopAt base W4 (.slice (some ⟨g, 0, none⟩) (l0.length + 1) cap) S1 (l0 ++ [r]) l1 := by
  have hS0 : ∀ k, S0.ownBlock = some k → k < W.heap.size := fun k hk => (h.t0.lt k hk).2
  have hS1 : ∀ k, S1.ownBlock = some k → k < W.heap.size := fun k hk => (h.t1.lt k hk).2
  have he : ∀ r ∈ l0 ++ l1, ∀ k, r.v.ownBlock = some k → k < W.heap.size := fun r hr k hk => ((h.each r hr).lt k hk).2
  have hrl : ∀ k, r.v.ownBlock = some k → W.heap.size ≤ k ∧ k < W3.heap.size := fun k hk => hr.lt k hk
  have h3 := h.below hb
  have hsz := hb.size
  have hgb : ∀ k, (Value.slice (some ⟨g, 0, none⟩) (l0.length + 1) cap).ownBlock = some k → k = g := fun k hk => by simpa [Value.ownBlock] using hk.symm
  have key : ∀ v : Value, (∀ k, v.ownBlock = some k → k < W3.heap.size) → ApartB v.ownBlock S0.ownBlock → ApartB v.ownBlock (Value.slice (some ⟨g, 0, none⟩) (l0.length + 1) cap).ownBlock := fun v hv hne k hk e => by
    have := hgb k e
    subst this
    rcases hat with ha | ha
    · exact hne k hk ha
    · have := hv k hk; omega
  have hr0 : ApartB r.v.ownBlock S0.ownBlock := fun k hk e => by have := hS0 k e; have := (hrl k hk).1; omega
  have hr1 : ApartB r.v.ownBlock S1.ownBlock := fun k hk e => by have := hS1 k e; have := (hrl k hk).1; omega
  have hmem : ∀ x, x ∈ (l0 ++ [r]) ++ l1 → x ∈ l0 ++ l1 ∨ x = r := fun x hx => by
    simp only [List.mem_append, List.mem_singleton] at hx ⊢
    rcases hx with (hx | hx) | hx
    · exact .inl (.inl hx)
    · exact .inr hx
    · exact .inl (.inr hx)
  refine ⟨Nat.le_trans h3.le hg.size, by simpa using hown, own_kept_ne h3.t1 hg h.ap.symm, ?_, ?_, ?_, ?_⟩
  · exact (key S1 (fun k hk => by have := hS1 k hk; omega) h.ap.symm).symm
  · intro x hx
    rcases hmem x hx with hx | rfl
    · exact own_kept_ne (h3.each x hx) hg (h.ap0 x hx).1
    · refine own_kept_ne ⟨hr.1, ?_⟩ hg hr0
      rcases hr.2 with hn | ⟨g', cap', cur, e, hb', rest⟩
      · exact .inl hn
      · exact .inr ⟨g', cap', cur, e, Nat.le_trans h.le hb', rest⟩
  · have hp := h.apart
    rw [List.map_append, List.pairwise_append] at hp
    obtain ⟨p1, p2, p3⟩ := hp
    have hxr : ∀ x ∈ l0 ++ l1, ApartB x.v.ownBlock r.v.ownBlock := fun x hx k hk e => by have := he x hx k hk; have := (hrl k e).1; omega
    rw [List.map_append, List.map_append, List.pairwise_append, List.pairwise_append]
    refine ⟨⟨p1, by simp, ?_⟩, p2, ?_⟩
    · intro a ha b hb
      obtain ⟨x, hx, rfl⟩ := List.mem_map.1 ha
      simp at hb
      subst hb
      exact hxr x (by simp [hx])
    · intro a ha b hb
      rw [List.mem_append] at ha
      rcases ha with ha | ha
      · exact p3 a ha b hb
      · simp at ha
        subst ha
        obtain ⟨x, hx, rfl⟩ := List.mem_map.1 hb
        exact (hxr x (by simp [hx])).symm
  · intro x hx
    rcases hmem x hx with hx | rfl
    · exact ⟨key x.v (fun k hk => by have := he x hx k hk; omega) (h.ap0 x hx).1, (h.ap0 x hx).2⟩
    · exact ⟨key _ (fun k hk => (hrl k hk).2) hr0, hr1⟩
theorem CopAt.nil (W : World) (h : base ≤ W.heap.size) : CopAt base W (.slice none 0 0) (.slice none 0 0) [] [] :=
  ⟨h, World.ownsRow_nil _ _ _ _, World.ownsRow_nil _ _ _ _, fun k hk => by simp [Value.ownBlock] at hk, fun r hr => by simp at hr, by simp, fun r hr => by simp at hr⟩

/-- A number of one row is written. -/
theorem CopAt.write {r : RowV} {g j : Nat} (h : CopAt base W S0 S1 l0 l1) (i : Nat) (hi : (l0 ++ l1)[i]? = some r) (hv : r.a = some ⟨g, 0, none⟩) (y : Int) :
    (W.setCell ⟨g, j, none⟩ (.int .i64 y)).ownsRow base 3 1 r.v r.xs.length ((r.xs.set j y).map (.int .i64)) ∧
    (∀ x i', (l0 ++ l1)[i']? = some x → i' ≠ i → (W.setCell ⟨g, j, none⟩ (.int .i64 y)).ownsRow base 3 1 x.v x.xs.length (x.xs.map (.int .i64))) ∧
    (W.setCell ⟨g, j, none⟩ (.int .i64 y)).ownsRow base 57 1 S0 l0.length (l0.map RowV.v) ∧ (W.setCell ⟨g, j, none⟩ (.int .i64 y)).ownsRow base 57 1 S1 l1.length (l1.map RowV.v) ∧
    base ≤ (W.setCell ⟨g, j, none⟩ (.int .i64 y)).heap.size ∧ W.grownBy (W.setCell ⟨g, j, none⟩ (.int .i64 y)) (some g) := by
  have hmem : r ∈ l0 ++ l1 := List.mem_of_getElem? hi
  have hr := h.each r hmem
  have hvv : r.v = .slice (some ⟨g, 0, none⟩) r.xs.length r.c := by unfold RowV.v; rw [hv]
  have hb : r.v.ownBlock = some g := by rw [hvv]; rfl
  rw [hvv] at hr
  obtain ⟨h1, h2⟩ := hr.stored j (.int .i64 y)
  rw [← hvv] at h1
  refine ⟨by rwa [List.map_set], ?_, own_kept_ne h.t0 h2 (by rw [← hb]; exact (h.ap0 r hmem).1.symm), own_kept_ne h.t1 h2 (by rw [← hb]; exact (h.ap0 r hmem).2.symm), Nat.le_trans h.le h2.size, h2⟩
  intro x i' hx hne
  have hap := List.pairwise_iff_getElem.1 h.apart
  obtain ⟨hi1, hi2⟩ := List.getElem?_eq_some_iff.1 hi
  obtain ⟨hx1, hx2⟩ := List.getElem?_eq_some_iff.1 hx
  refine own_kept_ne (h.each x (List.mem_of_getElem? hx)) h2 ?_
  rw [← hb]
  rcases Nat.lt_or_gt_of_ne hne with hlt | hlt
  · have := hap i' i (by simpa using hx1) (by simpa using hi1) hlt
    rw [List.getElem_map, List.getElem_map, hi2, hx2] at this
    exact this
  · have := hap i i' (by simpa using hi1) (by simpa using hx1) hlt
    rw [List.getElem_map, List.getElem_map, hi2, hx2] at this
    exact this.symm
theorem CopAt.set0 {r : RowV} {g j : Nat} (h : CopAt base W S0 S1 l0 l1) (i : Nat) (hi : l0[i]? = some r) (hv : r.a = some ⟨g, 0, none⟩) (y : Int) :
    CopAt base (W.setCell ⟨g, j, none⟩ (.int .i64 y)) S0 S1 (l0.set i { r with xs := r.xs.set j y }) l1 := by
  obtain ⟨hlt, hri⟩ := List.getElem?_eq_some_iff.1 hi
  have hi' : (l0 ++ l1)[i]? = some r := by rw [List.getElem?_append_left hlt, hi]
  obtain ⟨w1, w2, w3, w4, w5, w6⟩ := h.write (j := j) i hi' hv y
  have hvv : ({ r with xs := r.xs.set j y } : RowV).v = r.v := by simp [RowV.v]
  have hmap : ∀ {β : Type} (f : RowV → β), f { r with xs := r.xs.set j y } = f r → (l0.set i { r with xs := r.xs.set j y }).map f = l0.map f := fun f hf => by
    rw [List.map_set, hf]
    refine List.ext_getElem (by simp) fun k h1 h2 => ?_
    rw [List.getElem_set]
    split
    · subst_vars; simp
    · rfl
  have hmem : ∀ x ∈ l0.set i { r with xs := r.xs.set j y } ++ l1, x = { r with xs := r.xs.set j y } ∨ ∃ i', (l0 ++ l1)[i']? = some x ∧ i' ≠ i := fun x hx => by
    obtain ⟨k, hk⟩ := List.mem_iff_getElem?.1 hx
    by_cases hki : k = i
    · subst hki
      left
      rw [List.getElem?_append_left (by simpa using hlt), List.getElem?_set_self (by simpa using hlt)] at hk
      exact (Option.some.inj hk).symm
    · right
      refine ⟨k, ?_, hki⟩
      rw [← hk]
      by_cases hkl : k < l0.length
      · rw [List.getElem?_append_left hkl, List.getElem?_append_left (by simpa using hkl), List.getElem?_set_ne (Ne.symm hki)]
      · rw [List.getElem?_append_right (by omega), List.getElem?_append_right (by simp; omega)]; simp
  refine ⟨w5, by rw [hmap RowV.v hvv, List.length_set]; exact w3, w4, h.ap, ?_, ?_, ?_⟩
  · intro x hx
    rcases hmem x hx with rfl | ⟨i', h1, h2⟩
    · rw [hvv]; simpa using w1
    · exact w2 x i' h1 h2
  · have := h.apart
    rw [List.map_append] at this ⊢
    rw [hmap (fun r => r.v.ownBlock) (by rw [hvv])]
    exact this
  · intro x hx
    rcases hmem x hx with rfl | ⟨i', h1, h2⟩
    · rw [hvv]; exact h.ap0 r (List.mem_of_getElem? hi')
    · exact h.ap0 x (List.mem_of_getElem? h1)
theorem CopAt.set1 {r : RowV} {g j : Nat} (h : CopAt base W S0 S1 l0 l1) (i : Nat) (hi : l1[i]? = some r) (hv : r.a = some ⟨g, 0, none⟩) (y : Int) :
    CopAt base (W.setCell ⟨g, j, none⟩ (.int .i64 y)) S0 S1 l0 (l1.set i { r with xs := r.xs.set j y }) := (h.swap.set0 i hi hv y).swap

/-- So they lie as rivals do. -/
theorem CopAt.riv {a0 a1 : Option Addr} {c0 c1 : Nat} {d : Int} (h : CopAt base W (.slice a0 l0.length c0) (.slice a1 l1.length c1) l0 l1) (h0 : l0.length ≤ 9223372036854775807) (h1 : l1.length ≤ 9223372036854775807) (hl : ∀ r ∈ l0 ++ l1, r.xs.length ≤ 9223372036854775807) :
    (⟨d, ⟨a0, c0, l0⟩, ⟨a1, c1, l1⟩⟩ : RivV).In W :=
  ⟨⟨own_row h.t0, h0, fun r hr => ⟨own_row (h.each r (by simp [hr])), hl r (by simp [hr])⟩⟩, ⟨own_row h.t1, h1, fun r hr => ⟨own_row (h.each r (by simp [hr])), hl r (by simp [hr])⟩⟩⟩
end
end Go.Proofs.Ytbppjebpnpgenaa

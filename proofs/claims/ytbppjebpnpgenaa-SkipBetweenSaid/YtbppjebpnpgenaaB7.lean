/- slices.AppendSeq and slices.Collect of an iterator over hopes that may turn one map. -/
import Derived.Test.YtbppjebpnpgenaaB6
import Derived.RangeFuncLeaves
namespace Go.Proofs.Ytbppjebpnpgenaa
open Go Go.RowKit

/-- An iterator's value that gives these hopes, in that order, and turns no old block but the map's. -/
def GivesH (g : FuncId) (lb : Array Value) (hs : List Hp) (bm : Nat) (Inv : World → Prop) (w : World) : Prop :=
  ∀ (l : Nat) (J : Nat → World → Prop) (W : World), Below w.heap.size w W → Inv W → (∀ k W W', J k W → BX W.heap.size bm W W' → J k W') →
    (∀ k W, k < hs.length → J k W → YieldAt Fence.wide 0 Try.prog l #[(hs[k]?.getD default).v] W fun e W' => e = .returned (.bool true) ∧ J (k + 1) W' ∧ Below w.heap.size W W') →
    J 0 W → Calls Try.prog g (#[.func (.yield l) #[] #[]] ++ lb) W fun e W' => (∃ v, e = .returned v) ∧ J hs.length W' ∧ Inv W'

set_option maxRecDepth 100000 in
set_option maxHeartbeats 2000000 in
theorem appendSeq (g : FuncId) (lb : Array Value) (eg : ∀ args w, (callFunc g args).run Try.prog w = .ok (.enter g args) w) (hs : List Hp) (hlen : hs.length ≤ 60) (bm : Nat) (Inv : World → Prop) (w : World) (hbm : bm < w.heap.size)
    (hst : ∀ W W', Inv W → Below w.heap.size W W' → Inv W') (hi : Inv w) (hseq : GivesH g lb hs bm Inv w) :
    Calls Try.prog 35 #[.slice none 0 0, .func (.func g) #[] lb] w fun e w' =>
      (∃ v, e = .returned v ∧ w'.ownsRow w.heap.size 33 2 v hs.length (flatH hs)) ∧ BX w.heap.size bm w w' ∧ Inv w' := by
  refine (callsIn_wide (n := 0)).1 (callsIn_of_wp_marks Try.func35 rfl trivial ?_ rfl)
  simp only [Try.ntmps35, List.size_toArray, List.length_cons, List.length_nil, Nat.reduceAdd, Nat.reduceSub, Array.replicate_succ, Array.replicate_zero, List.push_toArray, List.append_toArray, List.nil_append, List.cons_append]
  gi_wp2
  refine wpIn_rangeFunc ?_
  intro fn hfn
  obtain ⟨W0, hW0⟩ : ∃ W0, w.alloc (.cells #[.slice none 0 0] 66) = W0 := ⟨_, rfl⟩
  have hs0 : W0.heap.size = w.heap.size + 1 := by rw [← hW0]; simp
  have hv0 : Blk W0 w.heap.size 66 [.slice none 0 0] := by rw [← hW0]; exact Blk.new w _ [_]
  have hb0 : Below w.heap.size w W0 := by rw [← hW0]; exact (Below.refl _ w).alloc (Nat.le_refl _) _
  rw [hW0]
  clear hW0
  obtain ⟨W1, hW1⟩ : ∃ W1, (W0.alloc (.deferred (some []))).alloc (.loop (apRec fn (.func (.func g) #[] lb) w.heap.size W0.heap.size .ready)) = W1 := ⟨_, rfl⟩
  have hold : ∀ k, k < W0.heap.size → W1.heap[k]? = W0.heap[k]? := fun k hk => by
    rw [← hW1]; exact (Below.heap_alloc _ _ k (by simp; omega)).trans (Below.heap_alloc _ _ k hk)
  have hb1 : Below w.heap.size w W1 := by rw [← hW1]; exact (hb0.alloc hb0.size _).alloc (by have := hb0.size; simp; omega) _
  have hs1 : W1.heap.size = W0.heap.size + 2 := by rw [← hW1]; simp
  have hM : ApAt w bm hs fn (.func (.func g) #[] lb) (W0.heap.size + 1) W0.heap.size 0 W1 :=
    ⟨⟨_, (hold w.heap.size (by omega)).trans hv0, ⟨by simp [flatH], .inl ⟨rfl, rfl⟩⟩⟩,
     by rw [← hW1]; have := World.alloc_heap_new (W0.alloc (.deferred (some []))) (.loop (apRec fn (.func (.func g) #[] lb) w.heap.size W0.heap.size .ready)); rwa [World.size_alloc] at this,
     by rw [← hW1]; exact (Below.heap_alloc _ _ _ (by simp)).trans (World.alloc_heap_new W0 _), BX.of_below hb1⟩
  refine ⟨W0.heap.size + 1, [{ target := .collected W0.heap.size, args := #[] }], W1, { target := .fn (.func g) lb, args := #[.func (.yield (W0.heap.size + 1)) #[] #[]] }, W1, g,
    #[.func (.yield (W0.heap.size + 1)) #[] #[]] ++ lb, W1, ?_, ?_, fun _ _ => trivial, ?_, by simp [Fence.wide], ?_⟩
  · rw [← hW1]; exact run_enterLoop_outer _ _ _ _ _
  · simp [resolve, go_sem]
  · simp [invoke, go_sem, eg]
  · refine callsIn_wide.2 ((hseq (W0.heap.size + 1) (ApAt w bm hs fn (.func (.func g) #[] lb) (W0.heap.size + 1) W0.heap.size) W1 hb1 (hst _ _ hi hb1)
      (fun k W W' h hx => h.step (by omega) (by omega) hbm hx)
      (fun k W hk hJ => apYield w bm hs fn _ _ _ (by omega) (by omega) (by omega) hbm k hk hlen W hJ) hM).mono ?_)
    rintro e W2 ⟨⟨v0, rfl⟩, h2, hi2⟩
    obtain ⟨v, hv, hrow⟩ := h2.box
    rw [List.take_length] at hrow
    have hend := run_endLoop (P := Try.prog) h2.L (by simp [apRec])
    obtain ⟨W3, hW3⟩ : ∃ W3, W2.putObj (W0.heap.size + 1) (.loop { apRec fn (.func (.func g) #[] lb) w.heap.size W0.heap.size .ready with state := .exhausted }) = W3 := ⟨_, rfl⟩
    rw [hW3] at hend
    have hg3 : W2.grownBy W3 (some (W0.heap.size + 1)) := by rw [← hW3]; exact grown_putObj _ _ _
    clear hW3
    have hsz := h2.bx.size
    have hlL := (Array.getElem?_eq_some_iff.1 h2.L).1
    have hv3 : Blk W3 w.heap.size 66 [v] := hv.grown hg3 (by simp; omega)
    have hK3 : W3.heap[W0.heap.size]? = some (.deferred (some [])) := (hg3.block _ (by omega) (by simp)).trans h2.K
    have hrow3 := hrow.kept hg3 (own_ne_block hrow h2.L (by intro cur e; cases e))
    have hb3 : Below w.heap.size W2 W3 := (Below.refl _ _).grown hg3 (by omega) (by intro k e; simp at e; omega)
    have c0 := hv3.cell 0
    dsimp only [List.getElem?_cons_zero] at c0
    have hi3 := hst _ _ hi2 hb3
    refine ⟨none, W3, hend, ?_⟩
    gi_wp2
    rw [← hs0]
    refine ⟨by simp, .inl ⟨_, _, rfl, run_takeDeferred hK3, ?_⟩⟩
    have hg4 := grown_putObj W3 W0.heap.size (.deferred none)
    have hsz3 := hg3.size
    have hb4 : Below w.heap.size W3 (W3.putObj W0.heap.size (.deferred none)) := (Below.refl _ _).grown hg4 (by omega) (by intro k e; simp at e; omega)
    exact ⟨_, results_tmp rfl _ _ _, ⟨v, rfl, hrow3.kept hg4 (own_ne_block hrow3 hK3 (by intro cur e; cases e))⟩, (h2.bx.trans (BX.of_below hb3)).trans (BX.of_below hb4), hst _ _ hi3 hb4⟩

theorem collect (g : FuncId) (lb : Array Value) (eg : ∀ args w, (callFunc g args).run Try.prog w = .ok (.enter g args) w) (hs : List Hp) (hlen : hs.length ≤ 60) (bm : Nat) (Inv : World → Prop) (w : World) (hbm : bm < w.heap.size)
    (hst : ∀ W W', Inv W → Below w.heap.size W W' → Inv W') (hi : Inv w) (hseq : GivesH g lb hs bm Inv w) :
    Calls Try.prog 27 #[.func (.func g) #[] lb] w fun e w' =>
      (∃ v, e = .returned v ∧ w'.ownsRow w.heap.size 33 2 v hs.length (flatH hs)) ∧ BX w.heap.size bm w w' ∧ Inv w' := by
  go_enter Try.func27, Try.ntmps27
  go_wp2_with (go_at_call 35; refine (appendSeq g lb eg hs hlen bm Inv w hbm hst hi hseq).mono ?_; rintro e w' ⟨⟨v, rfl, hv⟩, hx, hi'⟩)
  go_ret
  exact ⟨⟨v, rfl, hv⟩, hx, hi'⟩
end Go.Proofs.Ytbppjebpnpgenaa

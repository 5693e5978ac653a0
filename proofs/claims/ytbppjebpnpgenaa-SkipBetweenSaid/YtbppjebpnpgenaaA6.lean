/- Rivals and states: when they are valid. -/
import Derived.Test.YtbppjebpnpgenaaA5
namespace Go.Proofs.Ytbppjebpnpgenaa
open Go Go.RowKit

def rowsOdd (t : TabV) : Bool := t.data.any fun x => !fullB x 17
/-- Are a team's styles valid? -/
def tabB (t : TabV) : Bool := inB t.rows.length 1 8 && !rowsOdd t
/-- Are rivals valid? -/
def rivB (m : RivV) : Bool := tabB m.s0 && tabB m.s1 && inB m.doubt 1 1000

/-- The error of what is valid, or not. -/
def okErr (b : Bool) : Int := if b = true then 0 else 2

theorem containsFunc_rows (t : TabV) (w : World) (ht : t.In w) :
    Calls Try.prog 24 #[.slice t.a t.rows.length t.c, .func (.func 25) #[] #[]] w fun e w' =>
      e = .returned (.bool (rowsOdd t)) ∧ Below w.heap.size w w' := by
  go_enter Try.func24, Try.ntmps24
  go_wp2_with (go_at_call 33; refine (indexFunc_rows _ _ ht).mono ?_; rintro e w' ⟨rfl, hb⟩)
  go_ret
  exact ⟨by rw [rowsOdd, ← idxFromL_nonneg _ 0]; rfl, hb⟩

theorem checkRivals (m : RivV) (w : World) (hm : m.In w) :
    Calls Try.prog 19 #[m.v] w fun e w' =>
      e = .returned (.int .i64 (okErr (rivB m))) ∧ Below w.heap.size w w' := by
  obtain ⟨d, s0, s1⟩ := m
  obtain ⟨h0, h1⟩ := hm
  have i0 : ∀ (x y : Value) (w : World), (Instr.index 23 (.agg #[x, y]) (.int .i64 0)).run Try.prog w = .ok x w := fun _ _ _ => by kernel_rfl
  have i1 : ∀ (x y : Value) (w : World), (Instr.index 23 (.agg #[x, y]) (.int .i64 1)).run Try.prog w = .ok y w := fun _ _ _ => by kernel_rfl
  unfold RivV.v TabV.v
  dsimp only at h0 h1 ⊢
  cases a0 : inB s0.rows.length 1 8
  · go_enter Try.func19, Try.ntmps19
    go_wp2
    refine wp_loop_rounds 3 ?_; rw [rounds_succ]
    go_wp2_with (go_at_call 17; refine (skip_within _ _ _ _).mono ?_; rintro e w' ⟨rfl, rfl⟩)
    go_ret
    exact ⟨ret_eq (by simp [okErr, rivB, tabB, a0]), by go_grown⟩
  cases b0 : rowsOdd s0
  rotate_left
  · go_enter Try.func19, Try.ntmps19
    go_wp2
    refine wp_loop_rounds 3 ?_; rw [rounds_succ]
    go_wp2_with (first | (go_at_call 17; refine (skip_within _ _ _ _).mono ?_; rintro e w' ⟨rfl, rfl⟩) | (go_at_call 24; refine (containsFunc_rows _ _ (h0.below (by go_grown))).mono ?_; rintro e w1 ⟨rfl, hb1⟩))
    go_ret
    exact ⟨ret_eq (by simp [okErr, rivB, tabB, b0]), (Below.alloc (Below.refl _ _) (Nat.le_refl _) _).trans (hb1.mono (by simp))⟩
  cases a1 : inB s1.rows.length 1 8
  · go_enter Try.func19, Try.ntmps19
    go_wp2
    refine wp_loop_rounds 3 ?_; rw [rounds_succ]
    go_wp2_with (first | (go_at_call 17; refine (skip_within _ _ _ _).mono ?_; rintro e w' ⟨rfl, rfl⟩) | (go_at_call 24; refine (containsFunc_rows _ _ (h0.below (by go_grown))).mono ?_; rintro e w1 ⟨rfl, hb1⟩))
    rw [rounds_succ]
    go_wp2_with (go_at_call 17; refine (skip_within _ _ _ _).mono ?_; rintro e w' ⟨rfl, rfl⟩)
    go_ret
    exact ⟨ret_eq (by simp [okErr, rivB, tabB, a1]), (Below.alloc (Below.refl _ _) (Nat.le_refl _) _).trans (hb1.mono (by simp))⟩
  cases b1 : rowsOdd s1
  rotate_left
  · go_enter Try.func19, Try.ntmps19
    go_wp2
    refine wp_loop_rounds 3 ?_; rw [rounds_succ]
    go_wp2_with (first | (go_at_call 17; refine (skip_within _ _ _ _).mono ?_; rintro e w' ⟨rfl, rfl⟩) | (go_at_call 24; refine (containsFunc_rows _ _ (h0.below (by go_grown))).mono ?_; rintro e w1 ⟨rfl, hb1⟩))
    rw [rounds_succ]
    have hz := hb1.size
    go_wp2_with (first | (go_at_call 17; refine (skip_within _ _ _ _).mono ?_; rintro e w' ⟨rfl, rfl⟩) | (go_at_call 24; refine (containsFunc_rows _ _ (h1.below ((Below.alloc (Below.refl _ _) (Nat.le_refl _) _).trans (hb1.mono (by simp))))).mono ?_; rintro e w2 ⟨rfl, hb2⟩))
    go_ret
    exact ⟨ret_eq (by simp [okErr, rivB, tabB, b1]), ((Below.alloc (Below.refl _ _) (Nat.le_refl _) _).trans (hb1.mono (by simp))).trans (hb2.mono (by simp at hz; omega))⟩
  cases c0 : inB d 1 1000
  all_goals
    go_enter Try.func19, Try.ntmps19
    go_wp2
    refine wp_loop_rounds 3 ?_; rw [rounds_succ]
    go_wp2_with (first | (go_at_call 17; refine (skip_within _ _ _ _).mono ?_; rintro e w' ⟨rfl, rfl⟩) | (go_at_call 24; refine (containsFunc_rows _ _ (h0.below (by go_grown))).mono ?_; rintro e w1 ⟨rfl, hb1⟩))
    rw [rounds_succ]
    have hz := hb1.size
    go_wp2_with (first | (go_at_call 17; refine (skip_within _ _ _ _).mono ?_; rintro e w' ⟨rfl, rfl⟩) | (go_at_call 24; refine (containsFunc_rows _ _ (h1.below ((Below.alloc (Below.refl _ _) (Nat.le_refl _) _).trans (hb1.mono (by simp))))).mono ?_; rintro e w2 ⟨rfl, hb2⟩))
    rw [rounds_succ]
    have hc1 := (hb2.cell (p := ⟨w.heap.size, 0, none⟩) (by simp at hz; simp; omega)).trans (hb1.cell (p := ⟨w.heap.size, 0, none⟩) (by simp))
    rw [World.cell?_alloc_new] at hc1
    replace hc1 : w2.cell? ⟨w.heap.size, 0, none⟩ = some (.int .i64 d) := hc1
    go_wp2_with (go_at_call 17; refine (skip_within _ _ _ _).mono ?_; rintro e w' ⟨rfl, rfl⟩)
    go_ret
    exact ⟨ret_eq (by simp [okErr, rivB, tabB, a0, b0, a1, b1, c0]), ((Below.alloc (Below.refl _ _) (Nat.le_refl _) _).trans (hb1.mono (by simp))).trans (hb2.mono (by simp at hz; omega))⟩
end Go.Proofs.Ytbppjebpnpgenaa

/- The bounds of a mean. -/
import Derived.Test.YtbppjebpnpgenaaA14
namespace Go.Proofs.Ytbppjebpnpgenaa
open Go Go.RowKit

theorem leastTo_bd {lo hi : Int} {xs : List Int} (h : ∀ x ∈ xs, lo ≤ x ∧ x ≤ hi) : ∀ k : Nat, k < xs.length → lo ≤ leastTo xs (k + 1) ∧ leastTo xs (k + 1) ≤ hi := by
  intro k
  induction k with
  | zero => intro hk; rw [Nat.zero_add, leastTo_one]; exact h _ (getD_mem hk)
  | succ k ih => intro hk; rw [leastTo_succ _ _ (by omega)]; have := ih (by omega); have := h _ (getD_mem (xs := xs) (k := k + 1) (by omega)); omega
theorem least_bd {lo hi : Int} {xs : List Int} (h : ∀ x ∈ xs, lo ≤ x ∧ x ≤ hi) (h0 : 0 < xs.length) : lo ≤ least xs ∧ least xs ≤ hi := by
  have := leastTo_bd h (xs.length - 1) (by omega)
  rw [show xs.length - 1 + 1 = xs.length by omega] at this
  exact this
theorem mostTo_bd {lo hi : Int} {xs : List Int} (h : ∀ x ∈ xs, lo ≤ x ∧ x ≤ hi) : ∀ k : Nat, k < xs.length → lo ≤ mostTo xs (k + 1) ∧ mostTo xs (k + 1) ≤ hi := by
  intro k
  induction k with
  | zero => intro hk; rw [Nat.zero_add, mostTo_one]; exact h _ (getD_mem hk)
  | succ k ih => intro hk; rw [mostTo_succ _ _ (by omega)]; have := ih (by omega); have := h _ (getD_mem (xs := xs) (k := k + 1) (by omega)); omega
theorem most_bd {lo hi : Int} {xs : List Int} (h : ∀ x ∈ xs, lo ≤ x ∧ x ≤ hi) (h0 : 0 < xs.length) : lo ≤ most xs ∧ most xs ≤ hi := by
  have := mostTo_bd h (xs.length - 1) (by omega)
  rw [show xs.length - 1 + 1 = xs.length by omega] at this
  exact this
def lowM (doubt : Int) (cs vs : List Int) : Int := meanI 1 doubt (least vs) cs vs
def highM (doubt : Int) (cs vs : List Int) : Int := meanI 2 doubt (most vs) cs vs

set_option maxHeartbeats 1000000 in
theorem skill_Mean (a : Option Addr) (c : Nat) (cs : List Int) (a2 : Option Addr) (c2 : Nat) (vs : List Int) (doubt : Int) (w : World) (h : MeanOk cs vs doubt)
    (hr : Row w a (cs.map (.int .i64))) (hr2 : Row w a2 (vs.map (.int .i64))) :
    Calls Try.prog 37 #[.slice a cs.length c, .slice a2 vs.length c2, .int .i64 doubt] w fun e w' =>
      e = .returned (.tuple #[.int .i64 (lowM doubt cs vs), .int .i64 (highM doubt cs vs), .int .i64 0]) ∧ Below w.heap.size w w' := by
  have h0 : 0 < vs.length := by rw [h.len]; exact h.one
  have l1 := least_bd h.val h0
  have l2 := most_bd h.val h0
  have hlen : vs.length ≤ 49 := by rw [h.len]; exact h.most
  have e1 := enters_of Try.func45 (by kernel_rfl) rfl
  have e2 := enters_of Try.func46 (by kernel_rfl) rfl
  have m1 : ∀ W, Below w.heap.size w W → Calls Try.prog 44 #[.slice a cs.length c, .slice a2 vs.length c2, .int .i64 doubt, .func (.func 45) #[] #[], .int .i64 1] W fun e W' =>
      e = .returned (.int .i64 (lowM doubt cs vs)) ∧ Below W.heap.size W W' := fun W hW =>
    skill_mean _ a c cs a2 c2 vs doubt 1 (least vs) W e1 (slices_min a2 c2 vs W (hr2.below hW) h0 (by omega)) h (hr.below hW) (hr2.below hW) l1.1 l1.2 (.inl rfl)
  have m2 : ∀ W, Below w.heap.size w W → Calls Try.prog 44 #[.slice a cs.length c, .slice a2 vs.length c2, .int .i64 doubt, .func (.func 46) #[] #[], .int .i64 2] W fun e W' =>
      e = .returned (.int .i64 (highM doubt cs vs)) ∧ Below W.heap.size W W' := fun W hW =>
    skill_mean _ a c cs a2 c2 vs doubt 2 (most vs) W e2 (slices_max a2 c2 vs W (hr2.below hW) h0 (by omega)) h (hr.below hW) (hr2.below hW) l2.1 l2.2 (.inr rfl)
  have hcn := skill_counted a c cs w (by have := h.most; omega) hr
  have hcf := containsFunc_mean a2 c2 vs w (by omega) hr2
  have ec : countedB cs = true := by
    have o := h.one
    have m := h.most
    simp only [countedB, inB, Bool.and_eq_true, decide_eq_true_eq, Bool.not_eq_true', List.any_eq_false, Bool.not_eq_true']
    refine ⟨⟨by omega, by omega⟩, fun x hx => ?_⟩
    have := h.cnt x hx
    simp; omega
  have ev : (vs.any fun x => !inB x (-68719476736) 68719476736) = false := by
    simp only [List.any_eq_false, inB]
    intro x hx
    have := h.val x hx
    simp; omega
  have ed : inB doubt 1 1000 = true := inB_of h.d1 h.d2
  have el : (((vs.length : Nat) : Int) != ((cs.length : Nat) : Int)) = false := by rw [h.len]; simp
  rw [ec] at hcn
  rw [ev] at hcf
  generalize lowM doubt cs vs = lo at *
  generalize highM doubt cs vs = hi at *
  have M1 := Lib.hid m1; clear m1
  have M2 := Lib.hid m2; clear m2
  have HC := Lib.hid hcn; clear hcn
  have HF := Lib.hid hcf; clear hcf
  clear e1 e2 ec ev h
  go_enter Try.func37, Try.ntmps37
  go_wp2_with (first | (go_at_call 38; refine (HC.out).mono ?_; rintro e w' ⟨rfl, rfl⟩) | (go_at_call 42; refine (HF.out).mono ?_; rintro e w' ⟨rfl, rfl⟩) | (go_at_call 43; refine (skill_within_int _ _ _ _).mono ?_; rintro e w' ⟨rfl, rfl⟩))
  refine (M1.out _ (Below.refl _ _)).mono ?_
  rintro e w1 ⟨rfl, hb1⟩
  go_wp2_with fail
  refine (M2.out _ hb1).mono ?_
  rintro e w2 ⟨rfl, hb2⟩
  go_wp2
  go_ret3
  exact ⟨rfl, hb1.trans (hb2.mono hb1.size)⟩
end Go.Proofs.Ytbppjebpnpgenaa

/- Scale, where nothing is refused. -/
import Derived.Test.YtbppjebpnpgenaaA11
namespace Go.Proofs.Ytbppjebpnpgenaa
open Go Go.RowKit

def negB (a num den : Int) : Bool := (decide (a < 0)) != (decide (num < 0) != decide (den < 0))
/-- A number times a quotient, rounded. -/
def scaleI (a num den how : Int) : Int :=
  signI (a.natAbs * num.natAbs / den.natAbs + bump how (a.natAbs * num.natAbs) den.natAbs (negB a num den)) (negB a num den)

/-- What is asked for Scale to refuse nothing, with a product of one part. -/
structure ScaleOk (a num den how : Int) : Prop where
  a1 : -70368744177664 ≤ a
  a2 : a ≤ 70368744177664
  n1 : -2147483648 ≤ num
  n2 : num ≤ 2147483648
  d1 : -2147483648 ≤ den
  d2 : den ≤ 2147483648
  d0 : den ≠ 0
  way : how = 0 ∨ how = 1 ∨ how = 2 ∨ how = 3
  one : a.natAbs * num.natAbs < 18446744073709551616
  fit : a.natAbs * num.natAbs / den.natAbs + bump how (a.natAbs * num.natAbs) den.natAbs (negB a num den) ≤ 70368744177664

set_option maxHeartbeats 1000000 in
theorem scale_1 (b0 b1 b2 b3 : Nat) (a num den how : Int) (w : World) (h : ScaleOk a num den how)
    (c0 : w.cell? ⟨b0, 0, none⟩ = some (.int .i64 a)) (c1 : w.cell? ⟨b1, 0, none⟩ = some (.int .i64 how)) (c2 : w.cell? ⟨b2, 0, none⟩ = some (.int .i64 num)) (c3 : w.cell? ⟨b3, 0, none⟩ = some (.int .i64 den)) :
    Calls Try.prog 55 #[.pointer (some ⟨b0, 0, none⟩), .pointer (some ⟨b1, 0, none⟩), .pointer (some ⟨b2, 0, none⟩), .pointer (some ⟨b3, 0, none⟩)] w fun e w' =>
      e = .returned (.int .i64 (scaleI a num den how)) ∧ Below w.heap.size w w' := by
  obtain ⟨a1, a2, n1, n2, d1, d2, d0, hh, one, fit⟩ := h
  have hq := quotient_lo how hh (a.natAbs * num.natAbs) den.natAbs (negB a num den) one (by omega) (by omega) fit
  have hp := fixed_product a.natAbs num.natAbs (by omega) (by omega)
  rw [wideV_small one] at hp
  have hsa := fun w => size_fix a w (by omega) (by omega)
  have hsn := fun w => size_int num w (by omega) (by omega)
  have hsd := fun w => size_int den w (by omega) (by omega)
  unfold scaleI
  have hb0 := lt_of_cell c0
  have hb1 := lt_of_cell c1
  have hb2 := lt_of_cell c2
  have hb3 := lt_of_cell c3
  have t1 : decide (-2147483648 ≤ num) = true := by simpa using n1
  have t2 : decide (num ≤ 2147483648) = true := by simpa using n2
  have t3 : decide (-2147483648 ≤ den) = true := by simpa using d1
  have t4 : decide (den ≤ 2147483648) = true := by simpa using d2
  have t5 : (den != 0) = true := by simpa using d0
  have hn : negB a num den = (!(decide (a < 0) == !(decide (num < 0) == decide (den < 0)))) := rfl
  generalize negB a num den = neg at hq hn ⊢
  generalize a.natAbs * num.natAbs / den.natAbs + bump how (a.natAbs * num.natAbs) den.natAbs neg = r at hq fit ⊢
  generalize a.natAbs * num.natAbs = x at *
  generalize a.natAbs = a' at *
  generalize num.natAbs = n' at *
  generalize den.natAbs = d' at *
  have HQ := Lib.hid hq; clear hq
  have HP := Lib.hid hp; clear hp
  have HA := Lib.hid hsa; clear hsa
  have HN := Lib.hid hsn; clear hsn
  have HD := Lib.hid hsd; clear hsd
  have HG := Lib.hid hn; clear hn
  go_enter Try.func55, Try.ntmps55
  go_wp2_with (first | (go_at_call 56; go_call (fixed_right1 _ a) as e w' ⟨rfl, rfl⟩) | (go_at_call 57; refine (fixed_ways how hh _).mono ?_; rintro e w' ⟨rfl, rfl⟩) | (go_at_call 58; refine (need_true _ _).mono ?_; rintro e w' ⟨rfl, rfl⟩))
  go_region_held3 (fun W => W.cell? ⟨b0, 0, none⟩ = some (.int .i64 a) ∧ W.cell? ⟨b2, 0, none⟩ = some (.int .i64 num) ∧ W.cell? ⟨b3, 0, none⟩ = some (.int .i64 den))
    (first | (refine ⟨?_, ?_, ?_⟩ <;> (go_simp; done)) | (refine ⟨cell_below hbp ?_, cell_below hbp ?_, cell_below hbp ?_⟩ <;> (go_simp; done)) | (refine ⟨cell_below hbq (cell_below hbp ?_), cell_below hbq (cell_below hbp ?_), cell_below hbq (cell_below hbp ?_)⟩ <;> (go_simp; done)))
    (first | (go_at_call 61; refine (HA.out _).mono ?_; rintro e w' ⟨rfl, rfl⟩) | (go_at_call_of 62 (Value.int IntKind.i64 num); refine (HN.out _).mono ?_; rintro e w' ⟨rfl, rfl⟩) | (go_at_call_of 62 (Value.int IntKind.i64 den); refine (HD.out _).mono ?_; rintro e w' ⟨rfl, rfl⟩) | (go_at_call 60; refine (HP.out _).mono ?_; rintro e w' ⟨rfl, hbp⟩) | (go_at_call 59; rw [← HG.out]; refine (HQ.out _).mono ?_; rintro e w' ⟨rfl, hbq⟩))
  go_wp2
  go_ret
  exact ⟨rfl, (((Below.refl _ _).alloc (Nat.le_refl _) _).drew.trans (hbp.mono (by simp))).trans (hbq.mono (by have s1 := hbp.size; simp only [World.size_drew, World.size_alloc] at s1; omega))⟩

theorem fixed_Scale (a num den how : Int) (w : World) (h : ScaleOk a num den how) :
    Calls Try.prog 53 #[.int .i64 a, .int .i64 num, .int .i64 den, .int .i64 how] w fun e w' =>
      e = .returned (.tuple #[.int .i64 (scaleI a num den how), .int .i64 0]) ∧ Below w.heap.size w w' := by
  have hmf : ∀ (fn : Fn) (first cap : Array Value) (w : World), (Instr.makeFunc fn first cap).run Try.prog w = .ok (.func fn first cap) w := fun _ _ _ _ => rfl
  have eg := enters_of Try.func55 (by kernel_rfl) rfl
  have HE := Lib.hid eg; clear eg
  have H := Lib.hid h; clear h
  go_enter Try.func53, Try.ntmps53
  go_wp2_with fail
  generalize hr : scaleI a num den how = r
  have HR := Lib.hid hr; clear hr
  refine (tried_fix _ _ r _ HE.out (fun W hW => ?_)).mono ?_
  · rw [← HR.out]
    exact scale_1 _ _ _ _ a num den how W H.out (cell_below hW (by simp [go_sem])) (cell_below hW (by simp [go_sem])) (cell_below hW (by simp [go_sem])) (cell_below hW (by simp [go_sem]))
  rintro e w1 ⟨rfl, hb1⟩
  go_wp2
  go_ret2
  exact ⟨by rw [HR.out]; rfl, ((((((Below.refl _ _).alloc (Nat.le_refl _) _).alloc (by simp) _).alloc (by simp; omega) _).alloc (by simp; omega) _)).trans (hb1.mono (by simp; omega))⟩
end Go.Proofs.Ytbppjebpnpgenaa

/- Quotients of whole numbers, rounded; means. -/
import Derived.Test.YtbppjebpnpgenaaA12
namespace Go.Proofs.Ytbppjebpnpgenaa
open Go Go.RowKit

/-- A quotient, rounded down (1) or up. -/
def divR (how t b : Int) : Int := if how = 1 then t / b else -((-t) / b)

theorem tdiv_tmod (t b : Int) (_hb : 0 < b) :
    (0 ≤ t ∧ t.tdiv b = t / b ∧ t.tmod b = t % b) ∨ (t < 0 ∧ t.tdiv b = -((-t) / b) ∧ t.tmod b = -((-t) % b)) := by
  rcases Int.lt_or_le t 0 with h | h
  · right
    obtain ⟨n, rfl⟩ : ∃ n : Int, t = -n := ⟨-t, by omega⟩
    rw [Int.neg_tdiv, Int.neg_tmod, Int.neg_neg, Int.tdiv_eq_ediv_of_nonneg (by omega), Int.tmod_eq_emod_of_nonneg (by omega)]
    exact ⟨h, rfl, rfl⟩
  · left
    rw [Int.tdiv_eq_ediv_of_nonneg h, Int.tmod_eq_emod_of_nonneg h]
    exact ⟨h, rfl, rfl⟩

theorem scale_rest (r b how : Int) (hb : 1 ≤ b) (hb2 : b ≤ 2147483648) (h1 : -b < r) (h2 : r < b) (hh : how = 1 ∨ how = 2) :
    ScaleOk r 1 b how ∧ scaleI r 1 b how = (if how = 1 then (if r < 0 then -1 else 0) else (if 0 < r then 1 else 0)) := by
  have e1 : r.natAbs * (1 : Int).natAbs = r.natAbs := by simp
  have e2 : r.natAbs / b.natAbs = 0 := Nat.div_eq_of_lt (by omega)
  have e3 : r.natAbs % b.natAbs = r.natAbs := Nat.mod_eq_of_lt (by omega)
  have e4 : negB r 1 b = decide (r < 0) := by
    have d1 : decide ((1 : Int) < 0) = false := rfl
    have d2 : decide (b < 0) = false := by simp; omega
    unfold negB; rw [d1, d2]; cases decide (r < 0) <;> rfl
  have e5 : bump how r.natAbs b.natAbs (decide (r < 0)) ≤ 1 := by unfold bump; split <;> omega
  refine ⟨⟨by omega, by omega, by omega, by omega, by omega, by omega, by omega, by omega, by rw [e1]; omega, by rw [e1, e2, e4]; omega⟩, ?_⟩
  unfold scaleI
  rw [e1, e2, e4, Nat.zero_add]
  unfold bump signI
  rw [e3]
  rcases hh with rfl | rfl
  · by_cases h : r < 0
    · have : 0 < r.natAbs := by omega
      simp [roundB, h, this]
    · simp [roundB, h]
  · by_cases h : r < 0
    · have h' : ¬ 0 < r := by omega
      simp [roundB, h, h']
    · by_cases h' : 0 < r
      · have : 0 < r.natAbs := by omega
        simp [roundB, h, h', this]
      · obtain rfl : r = 0 := by omega
        simp

theorem share_math (t b how : Int) (hb : 1 ≤ b) (hb2 : b ≤ 2147483648) (hh : how = 1 ∨ how = 2) :
    ScaleOk (t.tmod b) 1 b how ∧ t.tdiv b + scaleI (t.tmod b) 1 b how = divR how t b ∧ -1 ≤ scaleI (t.tmod b) 1 b how ∧ scaleI (t.tmod b) 1 b how ≤ 1 := by
  have hd := tdiv_tmod t b (by omega)
  have hlt : -b < t.tmod b ∧ t.tmod b < b := by
    have h1 := Int.emod_nonneg t (b := b) (by omega)
    have h2 := Int.emod_lt_of_pos t (b := b) (by omega)
    have h3 := Int.emod_nonneg (-t) (b := b) (by omega)
    have h4 := Int.emod_lt_of_pos (-t) (b := b) (by omega)
    rcases hd with ⟨_, _, h⟩ | ⟨_, _, h⟩ <;> omega
  obtain ⟨h1, h2⟩ := scale_rest (t.tmod b) b how hb hb2 hlt.1 hlt.2 hh
  refine ⟨h1, ?_, by rw [h2]; (repeat' split) <;> omega, by rw [h2]; (repeat' split) <;> omega⟩
  rw [h2]
  unfold divR
  have h1 := Int.emod_nonneg t (b := b) (by omega)
  have h3 := Int.emod_nonneg (-t) (b := b) (by omega)
  have h5 := Int.emod_lt_of_pos t (b := b) (by omega)
  have h6 := Int.emod_lt_of_pos (-t) (b := b) (by omega)
  have m1 := Int.mul_ediv_add_emod t b
  have m2 := Int.mul_ediv_add_emod (-t) b
  have key : (t % b = 0 ∧ (-t) / b = -(t / b) ∧ (-t) % b = 0) ∨ (0 < t % b ∧ (-t) / b = -(t / b) - 1 ∧ 0 < (-t) % b) := by
    rcases Int.lt_or_le 0 (t % b) with h | h
    · right
      have u := (Int.ediv_emod_unique (a := -t) (b := b) (r := b - t % b) (q := -(t / b) - 1) (by omega)).2 ⟨by rw [Int.mul_sub, Int.mul_neg]; omega, by omega, by omega⟩
      exact ⟨h, u.1, by rw [u.2]; omega⟩
    · left
      have u := (Int.ediv_emod_unique (a := -t) (b := b) (r := 0) (q := -(t / b)) (by omega)).2 ⟨by rw [Int.mul_neg]; omega, by omega, by omega⟩
      exact ⟨by omega, u.1, u.2⟩
  rcases hh with rfl | rfl <;> rcases hd with ⟨g1, g2, g3⟩ | ⟨g1, g2, g3⟩ <;> rw [g2, g3] <;> rcases key with ⟨k1, k2, k3⟩ | ⟨k1, k2, k3⟩ <;> simp only [k2] <;> (repeat' split) <;> omega

theorem tdiv_bd (t b : Int) (hb : 1 ≤ b) (M : Int) (h1 : -M ≤ t) (h2 : t ≤ M) : -M ≤ t.tdiv b ∧ t.tdiv b ≤ M := by
  rcases tdiv_tmod t b (by omega) with ⟨h, e, _⟩ | ⟨h, e, _⟩
  · have := Int.ediv_le_self b h
    have := Int.ediv_nonneg h (b := b) (by omega)
    omega
  · have := Int.ediv_le_self b (a := -t) (by omega)
    have := Int.ediv_nonneg (a := -t) (by omega) (b := b) (by omega)
    omega
end Go.Proofs.Ytbppjebpnpgenaa

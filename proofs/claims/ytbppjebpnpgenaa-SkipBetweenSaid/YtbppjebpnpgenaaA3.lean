/- Loops over numbers: the sum, the least and the greatest one; counts that are given. -/
import Derived.Test.YtbppjebpnpgenaaA2
namespace Go.Proofs.Ytbppjebpnpgenaa
open Go Go.RowKit

theorem take_snoc (xs : List Int) (k : Nat) (hk : k < xs.length) : xs.take (k + 1) = xs.take k ++ [xs[k]?.getD 0] := by
  rw [List.take_succ_eq_append_getElem hk]; simp [hk]

/-- What valid counts are. -/
theorem countedB_spec {xs : List Int} (h : countedB xs = true) : 1 ≤ xs.length ∧ xs.length ≤ 49 ∧ ∀ x ∈ xs, 0 ≤ x ∧ x ≤ 1000000 := by
  unfold countedB at h
  simp only [Bool.and_eq_true, Bool.not_eq_true', List.any_eq_false, Bool.not_eq_true', inB] at h
  obtain ⟨⟨h1, h2⟩, h3⟩ := h
  simp only [decide_eq_true_eq] at h1 h2
  refine ⟨by omega, by omega, fun x hx => ?_⟩
  have := h3 x hx
  simp at this
  exact this

theorem sum_bd (xs : List Int) (M : Int) (h : ∀ x ∈ xs, 0 ≤ x ∧ x ≤ M) : 0 ≤ xs.sum ∧ xs.sum ≤ M * xs.length := by
  induction xs with
  | nil => simp
  | cons x xs ih =>
    have h1 := h x (by simp)
    have h2 := ih fun y hy => h y (by simp [hy])
    simp only [List.sum_cons, List.length_cons]
    have e : M * ((xs.length + 1 : Nat) : Int) = M * xs.length + M := by push_cast; rw [Int.mul_add, Int.mul_one]
    rw [e]; omega

theorem sum_take_bd (xs : List Int) (k : Nat) (hl : xs.length ≤ 49) (h : ∀ x ∈ xs, 0 ≤ x ∧ x ≤ 1000000) : 0 ≤ (xs.take k).sum ∧ (xs.take k).sum ≤ 49000000 := by
  have h1 := sum_bd (xs.take k) 1000000 (fun x hx => h x (List.mem_of_mem_take hx))
  have h2 : (xs.take k).length ≤ 49 := by simp; omega
  omega

theorem skill_sum (a : Option Addr) (c : Nat) (xs : List Int) (w : World) (hr : Row w a (xs.map (.int .i64))) (hl : xs.length ≤ 49) (hx : ∀ x ∈ xs, 0 ≤ x ∧ x ≤ 1000000) :
    Calls Try.prog 51 #[.slice a xs.length c] w fun e w' => e = .returned (.int .i64 xs.sum) ∧ w = w' := by
  have HX := Lib.hid hx
  have HB := Lib.hid (fun k => sum_take_bd xs k hl hx); clear hx
  go_enter Try.func51, Try.ntmps51
  go_wp2
  go_loop [3, 8] (fun s i => ∃ k : Nat, k ≤ xs.length ∧ i = .int .i64 k ∧ s = .int .i64 (xs.take k).sum) (fun _ i => xs.length - (intOf i).toNat)
  case atStart => exact ⟨0, Nat.zero_le _, rfl, by simp⟩
  case round =>
    obtain ⟨k, hk, rfl, rfl⟩ := hrel
    obtain ⟨hb1, hb2⟩ := HB.out k
    by_cases hlt : k < xs.length
    · obtain ⟨b, off, rfl, hb, hc⟩ := hr.int k hlt
      obtain ⟨hb3, hb4⟩ := HB.out (k + 1)
      have HT := Lib.hid (congrArg List.sum (take_snoc xs k hlt))
      rw [take_snoc xs k hlt] at hb3 hb4
      simp only [List.sum_append, List.sum_cons, List.sum_nil, Int.add_zero] at hb3 hb4
      generalize xs[k]?.getD 0 = x at hc HT hb3 hb4
      go_wp2
      go_round
      case rel => exact ⟨k + 1, by omega, by go_num, by rw [HT.out]; simp⟩
      case measure => simp [intOf]; omega
    · go_wp2
      go_ret
      refine ⟨?_, rfl⟩
      rw [List.take_of_length_le (by omega)]; rfl

/- The least one of some numbers, and the greatest one. -/
def leastTo (xs : List Int) (k : Nat) : Int := (xs.take k).foldl min (xs.headD 0)
def least (xs : List Int) : Int := leastTo xs xs.length
theorem leastTo_one (xs : List Int) : leastTo xs 1 = xs[0]?.getD 0 := by cases xs with | nil => rfl | cons x xs => simp [leastTo]
theorem leastTo_succ (xs : List Int) (k : Nat) (hk : k < xs.length) : leastTo xs (k + 1) = min (leastTo xs k) (xs[k]?.getD 0) := by
  unfold leastTo; rw [take_snoc xs k hk, List.foldl_append]; rfl

theorem slices_min (a : Option Addr) (c : Nat) (xs : List Int) (w : World) (hr : Row w a (xs.map (.int .i64))) (h0 : 0 < xs.length) (hl : xs.length ≤ 9223372036854775806) :
    Calls Try.prog 45 #[.slice a xs.length c] w fun e w' => e = .returned (.int .i64 (least xs)) ∧ w = w' := by
  obtain ⟨b, off, rfl, hb, hc0⟩ := hr.int 0 h0
  rw [← leastTo_one, Nat.add_zero] at hc0
  have h1 : (1 : Int) ≤ xs.length := by omega
  go_enter Try.func45, Try.ntmps45
  go_wp2
  go_loop [3, 4] (fun m i => ∃ k : Nat, 1 ≤ k ∧ k ≤ xs.length ∧ i = .int .i64 k ∧ m = .int .i64 (leastTo xs k)) (fun _ i => xs.length - (intOf i).toNat)
  case atStart => exact ⟨1, by omega, by omega, rfl, rfl⟩
  case round =>
    obtain ⟨k, hk1, hk, rfl, rfl⟩ := hrel
    by_cases hlt : k < xs.length
    · obtain ⟨b', off', hb', hb2, hc⟩ := hr.int k hlt
      simp only [Option.some.injEq, Addr.mk.injEq, and_true] at hb'
      obtain ⟨rfl, rfl⟩ := hb'
      have HT := Lib.hid (leastTo_succ xs k hlt)
      generalize xs[k]?.getD 0 = x at hc HT
      generalize leastTo xs k = m0 at HT ⊢
      go_wp2
      all_goals
        go_round
        case rel => exact ⟨k + 1, by omega, by omega, by go_num, by rw [HT.out]; congr 1; omega⟩
        case measure => simp [intOf]; omega
    · go_wp2
      go_ret
      obtain rfl : k = xs.length := by omega
      exact ⟨rfl, rfl⟩

def mostTo (xs : List Int) (k : Nat) : Int := (xs.take k).foldl max (xs.headD 0)
def most (xs : List Int) : Int := mostTo xs xs.length
theorem mostTo_one (xs : List Int) : mostTo xs 1 = xs[0]?.getD 0 := by cases xs with | nil => rfl | cons x xs => simp [mostTo]
theorem mostTo_succ (xs : List Int) (k : Nat) (hk : k < xs.length) : mostTo xs (k + 1) = max (mostTo xs k) (xs[k]?.getD 0) := by
  unfold mostTo; rw [take_snoc xs k hk, List.foldl_append]; rfl

theorem slices_max (a : Option Addr) (c : Nat) (xs : List Int) (w : World) (hr : Row w a (xs.map (.int .i64))) (h0 : 0 < xs.length) (hl : xs.length ≤ 9223372036854775806) :
    Calls Try.prog 46 #[.slice a xs.length c] w fun e w' => e = .returned (.int .i64 (most xs)) ∧ w = w' := by
  obtain ⟨b, off, rfl, hb, hc0⟩ := hr.int 0 h0
  rw [← mostTo_one, Nat.add_zero] at hc0
  have h1 : (1 : Int) ≤ xs.length := by omega
  go_enter Try.func46, Try.ntmps46
  go_wp2
  go_loop [3, 4] (fun m i => ∃ k : Nat, 1 ≤ k ∧ k ≤ xs.length ∧ i = .int .i64 k ∧ m = .int .i64 (mostTo xs k)) (fun _ i => xs.length - (intOf i).toNat)
  case atStart => exact ⟨1, by omega, by omega, rfl, rfl⟩
  case round =>
    obtain ⟨k, hk1, hk, rfl, rfl⟩ := hrel
    by_cases hlt : k < xs.length
    · obtain ⟨b', off', hb', hb2, hc⟩ := hr.int k hlt
      simp only [Option.some.injEq, Addr.mk.injEq, and_true] at hb'
      obtain ⟨rfl, rfl⟩ := hb'
      have HT := Lib.hid (mostTo_succ xs k hlt)
      generalize xs[k]?.getD 0 = x at hc HT
      generalize mostTo xs k = m0 at HT ⊢
      go_wp2
      all_goals
        go_round
        case rel => exact ⟨k + 1, by omega, by omega, by go_num, by rw [HT.out]; congr 1; omega⟩
        case measure => simp [intOf]; omega
    · go_wp2
      go_ret
      obtain rfl : k = xs.length := by omega
      exact ⟨rfl, rfl⟩
end Go.Proofs.Ytbppjebpnpgenaa

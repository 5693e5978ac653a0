/- Quotients of fixed-point numbers, where the numerator has one part. -/
import Derived.Test.YtbppjebpnpgenaaA9
namespace Go.Proofs.Ytbppjebpnpgenaa
open Go Go.RowKit

theorem wideV_small {n : Nat} (h : n < 18446744073709551616) : wideV n = .agg #[.int .u64 0, .int .u64 n] := by
  unfold wideV; rw [Nat.div_eq_of_lt h, Nat.mod_eq_of_lt h]; rfl

theorem div64_lo (x d : Nat) (hx : x < 18446744073709551616) (hd : 0 < d) (hd2 : d < 18446744073709551616) (w : World) :
    Calls Try.prog 73 #[.int .u64 0, .int .u64 x, .int .u64 d] w fun e w' => e = .returned (.tuple #[.int .u64 ((x / d : Nat) : Int), .int .u64 ((x % d : Nat) : Int)]) ∧ Below w.heap.size w w' := by
  have h0 : ((d : Int) == 0) = false := by simp; omega
  have h1 : (1 : Int) ≤ d := by omega
  go_enter Try.func73, Try.ntmps73
  go_wp2
  go_quiet (fail)
  go_wp2
  go_ret2
  have e1 : IntKind.u64.wrap ((x : Int) / (d : Int)) = ((x / d : Nat) : Int) := by
    have := Nat.div_le_self x d
    rw [← Int.natCast_ediv, IntKind.wrap_u64]
    generalize x / d = q at this
    omega
  have e2 : ((x : Int) % (d : Int)) = ((x % d : Nat) : Int) := (Int.natCast_emod x d).symm
  exact ⟨by rw [← e1, ← e2]; rfl, bl_drewN (Below.refl _ _) _⟩

theorem need_true (e : Int) (w : World) :
    Calls Try.prog 58 #[.bool true, .int .i64 e] w fun e w' => e = .returned (.tuple #[]) ∧ w = w' := by
  go_enter Try.func58, Try.ntmps58
  go_wp2
  go_end0
  exact ⟨rfl, rfl⟩

def wayF (how : Int) : Nat := if how = 0 then 64 else if how = 1 then 65 else if how = 2 then 66 else 67
def roundB (how half : Int) (neg : Bool) : Bool := if how = 0 then false else if how = 1 then neg else if how = 2 then !neg else decide (0 ≤ half)

theorem round_0 (half : Int) (neg : Bool) (w : World) :
    Calls Try.prog 64 #[.int .i64 half, .bool neg] w fun e w' => e = .returned (.bool false) ∧ w = w' := by
  go_enter Try.func64, Try.ntmps64
  go_wp2
  go_ret
  exact ⟨rfl, rfl⟩
theorem round_1 (half : Int) (neg : Bool) (w : World) :
    Calls Try.prog 65 #[.int .i64 half, .bool neg] w fun e w' => e = .returned (.bool neg) ∧ w = w' := by
  go_enter Try.func65, Try.ntmps65
  go_wp2
  go_ret
  exact ⟨rfl, rfl⟩
theorem round_2 (half : Int) (neg : Bool) (w : World) :
    Calls Try.prog 66 #[.int .i64 half, .bool neg] w fun e w' => e = .returned (.bool (!neg)) ∧ w = w' := by
  go_enter Try.func66, Try.ntmps66
  go_wp2
  go_ret
  exact ⟨rfl, rfl⟩
theorem round_3 (half : Int) (neg : Bool) (w : World) :
    Calls Try.prog 67 #[.int .i64 half, .bool neg] w fun e w' => e = .returned (.bool (decide (0 ≤ half))) ∧ w = w' := by
  go_enter Try.func67, Try.ntmps67
  go_wp2
  go_ret
  exact ⟨rfl, rfl⟩

theorem fixed_ways (how : Int) (h : how = 0 ∨ how = 1 ∨ how = 2 ∨ how = 3) (w : World) :
    Calls Try.prog 57 #[.int .i64 how] w fun e w' => e = .returned (.func (.func (wayF how)) #[] #[]) ∧ w = w' := by
  rcases h with rfl | rfl | rfl | rfl
  all_goals
    go_enter Try.func57, Try.ntmps57
    go_wp2
    go_ret
    exact ⟨rfl, rfl⟩

theorem wayF_0 : wayF 0 = 64 := rfl
theorem wayF_1 : wayF 1 = 65 := rfl
theorem wayF_2 : wayF 2 = 66 := rfl
theorem wayF_3 : wayF 3 = 67 := rfl

theorem round_way (how : Int) (h : how = 0 ∨ how = 1 ∨ how = 2 ∨ how = 3) (half : Int) (neg : Bool) (w : World) :
    Calls Try.prog (wayF how) #[.int .i64 half, .bool neg] w fun e w' => e = .returned (.bool (roundB how half neg)) ∧ w = w' := by
  rcases h with rfl | rfl | rfl | rfl
  · exact round_0 half neg w
  · exact round_1 half neg w
  · exact round_2 half neg w
  · exact round_3 half neg w

def signI (n : Nat) (neg : Bool) : Int := if neg = true then -(n : Int) else n

theorem fixed_signed (n : Nat) (neg : Bool) (hn : n ≤ 70368744177664) (w : World) :
    Calls Try.prog 71 #[.int .u64 n, .bool neg] w fun e w' => e = .returned (.int .i64 (signI n neg)) ∧ w = w' := by
  have h1 : decide ((n : Int) ≤ 70368744177664) = true := by simp; omega
  cases neg
  all_goals
    go_enter Try.func71, Try.ntmps71
    go_wp2_with (go_at_call 58; refine (need_true _ _).mono ?_; rintro e w' ⟨rfl, rfl⟩)
    go_ret
    exact ⟨rfl, rfl⟩

theorem wide_over (x d : Nat) (hx : x < 18446744073709551616) (hd : 0 < d) (hd2 : d < 18446744073709551616) (w : World) :
    Calls Try.prog 68 #[.agg #[.int .u64 0, .int .u64 x], .int .u64 d] w fun e w' => e = .returned (.tuple #[.int .u64 ((x / d : Nat) : Int), .int .u64 ((x % d : Nat) : Int), .bool true]) ∧ Below w.heap.size w w' := by
  have h1 : decide ((d : Int) ≤ 0) = false := by simp; omega
  have hm := div64_lo x d hx hd hd2
  generalize x / d = q at hm ⊢
  generalize x % d = r at hm ⊢
  have HM := Lib.hid hm; clear hm
  go_enter Try.func68, Try.ntmps68
  go_wp2_with (go_at_call 73; refine (HM.out _).mono ?_; rintro e w' ⟨rfl, hb⟩)
  go_ret3
  exact ⟨rfl, ((Below.refl _ _).alloc (Nat.le_refl _) _).trans (hb.mono (by simp))⟩

/-- What rounding adds. -/
def bump (how : Int) (x d : Nat) (neg : Bool) : Nat := if 0 < x % d ∧ roundB how (cmpI ((x % d + x % d : Nat) : Int) d) neg = true then 1 else 0

set_option maxHeartbeats 1000000 in
theorem quotient_lo (how : Int) (hh : how = 0 ∨ how = 1 ∨ how = 2 ∨ how = 3) (x d : Nat) (neg : Bool) (hx : x < 18446744073709551616) (hd : 0 < d) (hd2 : d < 18446744073709551616) (hq : x / d + bump how x d neg ≤ 70368744177664) (w : World) :
    Calls Try.prog 59 #[.agg #[.int .u64 0, .int .u64 x], .int .u64 d, .bool neg, .func (.func (wayF how)) #[] #[]] w fun e w' => e = .returned (.int .i64 (signI (x / d + bump how x d neg) neg)) ∧ Below w.heap.size w w' := by
  have hov := wide_over x d hx hd hd2
  have hr : x % d < 18446744073709551616 := by have := Nat.mod_lt x hd; omega
  have hs := fixed_signed (x / d + bump how x d neg) neg hq
  by_cases h0 : 0 < x % d
  · have hpl := wide_plus (x % d) (x % d) (by omega)
    have hcm := wide_compare (x % d + x % d) d
    have er := wideV_small hr
    have ed := wideV_small hd2
    rw [er] at hpl
    rw [ed] at hcm
    generalize hB : bump how x d neg = B at *
    unfold bump at hB
    generalize cmpI ((x % d + x % d : Nat) : Int) d = c at *
    generalize wideV (x % d + x % d) = v at *
    generalize x % d = r at *
    generalize x / d = q at *
    have hqq : (q : Int) ≤ 70368744177664 := by omega
    have HO := Lib.hid hov; clear hov
    have HP := Lib.hid hpl; clear hpl
    have HC := Lib.hid hcm; clear hcm
    have hrd := round_way how hh c neg
    have hr0 : decide ((0 : Int) < r) = true := by simp; omega
    generalize roundB how c neg = b at *
    have hBn : (B : Int) = if b = true then 1 else 0 := by rw [← hB]; cases b <;> simp [h0]
    clear er ed hd hx hB
    have HR := Lib.hid hrd; clear hrd
    rcases hh with rfl | rfl | rfl | rfl
    all_goals
      simp only [wayF_0, wayF_1, wayF_2, wayF_3] at HR ⊢
      cases b
      · obtain rfl : B = 0 := by simpa using hBn
        clear hBn
        rw [Nat.add_zero] at hs ⊢
        have HS := Lib.hid hs; clear hs hq
        go_enter Try.func59, Try.ntmps59
        go_wp2_with (first | (go_at_call 68; refine (HO.out _).mono ?_; rintro e w1 ⟨rfl, hb1⟩) | (go_at_call 58; refine (need_true _ _).mono ?_; rintro e w' ⟨rfl, rfl⟩) | (go_at_call 69; refine (HP.out _).mono ?_; rintro e w2 ⟨rfl, hb2⟩) | (go_at_call 70; refine (HC.out _).mono ?_; rintro e w3 ⟨rfl, hb3⟩) | (go_at_call 71; refine (HS.out _).mono ?_; rintro e w' ⟨rfl, rfl⟩) | (refine (HR.out _).mono ?_; rintro e w' ⟨rfl, rfl⟩))
        go_ret
        exact ⟨rfl, ((((Below.refl _ _).alloc (Nat.le_refl _) _).trans (hb1.mono (by simp))).trans (hb2.mono (by have := hb1.size; simp at this; omega))).trans (hb3.mono (by have s1 := hb1.size; have s2 := hb2.size; simp only [World.size_alloc] at s1; omega))⟩
      · obtain rfl : B = 1 := by simp at hBn; omega
        clear hBn
        have HS := Lib.hid hs; clear hs hq
        go_enter Try.func59, Try.ntmps59
        go_wp2_with (first | (go_at_call 68; refine (HO.out _).mono ?_; rintro e w1 ⟨rfl, hb1⟩) | (go_at_call 58; refine (need_true _ _).mono ?_; rintro e w' ⟨rfl, rfl⟩) | (go_at_call 69; refine (HP.out _).mono ?_; rintro e w2 ⟨rfl, hb2⟩) | (go_at_call 70; refine (HC.out _).mono ?_; rintro e w3 ⟨rfl, hb3⟩) | (go_at_call 71; refine (HS.out _).mono ?_; rintro e w' ⟨rfl, rfl⟩) | (refine (HR.out _).mono ?_; rintro e w' ⟨rfl, rfl⟩))
        go_ret
        exact ⟨rfl, ((((Below.refl _ _).alloc (Nat.le_refl _) _).trans (hb1.mono (by simp))).trans (hb2.mono (by have := hb1.size; simp at this; omega))).trans (hb3.mono (by have s1 := hb1.size; have s2 := hb2.size; simp only [World.size_alloc] at s1; omega))⟩
  · have eb : bump how x d neg = 0 := by unfold bump; rw [if_neg (fun h => h0 h.1)]
    rw [eb, Nat.add_zero] at hs ⊢
    have h0' : x % d = 0 := by omega
    rw [h0'] at hov
    generalize x / d = q at hov hs hq ⊢
    have HO := Lib.hid hov; clear hov
    have HS := Lib.hid hs; clear hs
    clear eb h0 h0' hr hq
    go_enter Try.func59, Try.ntmps59
    go_wp2_with (first | (go_at_call 68; refine (HO.out _).mono ?_; rintro e w1 ⟨rfl, hb1⟩) | (go_at_call 58; refine (need_true _ _).mono ?_; rintro e w' ⟨rfl, rfl⟩) | (go_at_call 71; refine (HS.out _).mono ?_; rintro e w' ⟨rfl, rfl⟩))
    go_ret
    exact ⟨rfl, ((Below.refl _ _).alloc (Nat.le_refl _) _).trans (hb1.mono (by simp))⟩
end Go.Proofs.Ytbppjebpnpgenaa

/- Loops over numbers: tests of counts, sums, the least and the greatest one. -/
import Derived.Test.YtbppjebpnpgenaaA1
namespace Go.Proofs.Ytbppjebpnpgenaa
open Go Go.RowKit

/-- The first place at which a test holds, from a place on; -1: none. -/
def idxFrom (p : Int → Bool) : Nat → List Int → Int
  | _, [] => -1
  | k, x :: xs => if p x = true then (k : Int) else idxFrom p (k + 1) xs

theorem idxFrom_nonneg (p : Int → Bool) : ∀ (k : Nat) (xs : List Int), decide (0 ≤ idxFrom p k xs) = xs.any p
  | _, [] => by simp [idxFrom]
  | k, x :: xs => by
    unfold idxFrom
    by_cases h : p x = true
    · simp [h]
    · rw [if_neg h, idxFrom_nonneg p (k + 1) xs]; simp [h]

theorem idxFrom_drop (p : Int → Bool) (xs : List Int) (k : Nat) (hk : k < xs.length) :
    idxFrom p k (xs.drop k) = if p (xs[k]?.getD 0) = true then (k : Int) else idxFrom p (k + 1) (xs.drop (k + 1)) := by
  rw [List.drop_eq_getElem_cons hk, idxFrom]; simp [hk]

theorem indexFunc_counted (a : Option Addr) (c : Nat) (xs : List Int) (w : World) (hl : xs.length ≤ 9223372036854775807) (hr : Row w a (xs.map (.int .i64))) :
    Calls Try.prog 52 #[.slice a xs.length c, .func (.func 48) #[] #[]] w fun e w' =>
      e = .returned (.int .i64 (idxFrom (fun x => !inB x 0 1000000) 0 xs)) ∧ w = w' := by
  go_enter Try.func52, Try.ntmps52
  go_wp2
  go_loop [8] (fun i => ∃ k : Nat, k ≤ xs.length ∧ i = .int .i64 k ∧ idxFrom (fun x => !inB x 0 1000000) 0 xs = idxFrom (fun x => !inB x 0 1000000) k (xs.drop k)) (fun i => xs.length - (intOf i).toNat)
  case atStart => exact ⟨0, Nat.zero_le _, rfl, by simp⟩
  case round =>
    obtain ⟨k, hk, rfl, hidx⟩ := hrel
    have HI := Lib.hid hidx; clear hidx
    by_cases hlt : k < xs.length
    · obtain ⟨b, off, rfl, hb, hc⟩ := hr.int k hlt
      have HS := Lib.hid (idxFrom_drop (fun x => !inB x 0 1000000) xs k hlt)
      generalize xs[k]?.getD 0 = x at hc HS
      cases hx : inB x 0 1000000
      · go_wp2_with (go_at_call 48; refine (counted_1 _ _).mono ?_; rintro e w' ⟨rfl, rfl⟩)
        go_ret
        refine ⟨?_, rfl⟩
        rw [HI.out, HS.out]; simp [hx]
      · go_wp2_with (go_at_call 48; refine (counted_1 _ _).mono ?_; rintro e w' ⟨rfl, rfl⟩)
        go_round
        case rel => exact ⟨k + 1, by omega, by go_num, by rw [HI.out, HS.out]; simp [hx]⟩
        case measure => simp [intOf]; omega
    · go_wp2
      go_ret
      refine ⟨?_, rfl⟩
      rw [HI.out, List.drop_of_length_le (by omega)]; rfl
theorem indexFunc_mean (a : Option Addr) (c : Nat) (xs : List Int) (w : World) (hl : xs.length ≤ 9223372036854775807) (hr : Row w a (xs.map (.int .i64))) :
    Calls Try.prog 49 #[.slice a xs.length c, .func (.func 40) #[] #[]] w fun e w' =>
      e = .returned (.int .i64 (idxFrom (fun x => !inB x (-68719476736) 68719476736) 0 xs)) ∧ w = w' := by
  go_enter Try.func49, Try.ntmps49
  go_wp2
  go_loop [8] (fun i => ∃ k : Nat, k ≤ xs.length ∧ i = .int .i64 k ∧ idxFrom (fun x => !inB x (-68719476736) 68719476736) 0 xs = idxFrom (fun x => !inB x (-68719476736) 68719476736) k (xs.drop k)) (fun i => xs.length - (intOf i).toNat)
  case atStart => exact ⟨0, Nat.zero_le _, rfl, by simp⟩
  case round =>
    obtain ⟨k, hk, rfl, hidx⟩ := hrel
    have HI := Lib.hid hidx; clear hidx
    by_cases hlt : k < xs.length
    · obtain ⟨b, off, rfl, hb, hc⟩ := hr.int k hlt
      have HS := Lib.hid (idxFrom_drop (fun x => !inB x (-68719476736) 68719476736) xs k hlt)
      generalize xs[k]?.getD 0 = x at hc HS
      cases hx : inB x (-68719476736) 68719476736
      · go_wp2_with (go_at_call 40; refine (mean_1 _ _).mono ?_; rintro e w' ⟨rfl, rfl⟩)
        go_ret
        refine ⟨?_, rfl⟩
        rw [HI.out, HS.out]; simp [hx]
      · go_wp2_with (go_at_call 40; refine (mean_1 _ _).mono ?_; rintro e w' ⟨rfl, rfl⟩)
        go_round
        case rel => exact ⟨k + 1, by omega, by go_num, by rw [HI.out, HS.out]; simp [hx]⟩
        case measure => simp [intOf]; omega
    · go_wp2
      go_ret
      refine ⟨?_, rfl⟩
      rw [HI.out, List.drop_of_length_le (by omega)]; rfl

/-- Are counts valid? -/
def countedB (xs : List Int) : Bool := inB xs.length 1 49 && !(xs.any fun x => !inB x 0 1000000)

theorem containsFunc_counted (a : Option Addr) (c : Nat) (xs : List Int) (w : World) (hl : xs.length ≤ 9223372036854775807) (hr : Row w a (xs.map (.int .i64))) :
    Calls Try.prog 47 #[.slice a xs.length c, .func (.func 48) #[] #[]] w fun e w' =>
      e = .returned (.bool (xs.any fun x => !inB x 0 1000000)) ∧ w = w' := by
  go_enter Try.func47, Try.ntmps47
  go_wp2_with (go_at_call 52; refine (indexFunc_counted _ _ _ _ hl hr).mono ?_; rintro e w' ⟨rfl, rfl⟩)
  go_ret
  exact ⟨by rw [← idxFrom_nonneg _ 0]; rfl, rfl⟩

theorem containsFunc_mean (a : Option Addr) (c : Nat) (xs : List Int) (w : World) (hl : xs.length ≤ 9223372036854775807) (hr : Row w a (xs.map (.int .i64))) :
    Calls Try.prog 42 #[.slice a xs.length c, .func (.func 40) #[] #[]] w fun e w' =>
      e = .returned (.bool (xs.any fun x => !inB x (-68719476736) 68719476736)) ∧ w = w' := by
  go_enter Try.func42, Try.ntmps42
  go_wp2_with (go_at_call 49; refine (indexFunc_mean _ _ _ _ hl hr).mono ?_; rintro e w' ⟨rfl, rfl⟩)
  go_ret
  exact ⟨by rw [← idxFrom_nonneg _ 0]; rfl, rfl⟩

theorem skill_counted (a : Option Addr) (c : Nat) (xs : List Int) (w : World) (hl : xs.length ≤ 9223372036854775807) (hr : Row w a (xs.map (.int .i64))) :
    Calls Try.prog 38 #[.slice a xs.length c] w fun e w' => e = .returned (.bool (countedB xs)) ∧ w = w' := by
  cases h : inB xs.length 1 49
  · go_enter Try.func38, Try.ntmps38
    go_wp2_with (go_at_call 43; refine (skill_within_int _ _ _ _).mono ?_; rintro e w' ⟨rfl, rfl⟩)
    go_ret
    exact ⟨by simp [countedB, h], rfl⟩
  · go_enter Try.func38, Try.ntmps38
    go_wp2_with (first | (go_at_call 43; refine (skill_within_int _ _ _ _).mono ?_; rintro e w' ⟨rfl, rfl⟩) | (go_at_call 47; refine (containsFunc_counted _ _ _ _ hl hr).mono ?_; rintro e w' ⟨rfl, rfl⟩))
    go_ret
    exact ⟨by simp [countedB, h], rfl⟩

theorem event_nil (many : Int) (w : World) :
    Calls Try.prog 39 #[.slice none 0 0, .int .i64 many] w fun e w' => e = .returned (.bool true) ∧ w = w' := by
  go_enter Try.func39, Try.ntmps39
  go_wp2
  refine wp_loop_rounds 1 ?_; rw [rounds_succ]
  go_wp2
  go_ret
  exact ⟨rfl, rfl⟩
end Go.Proofs.Ytbppjebpnpgenaa

/- The tests of rivals and states. -/
import Derived.Test.YtbppjebpnpgenaaA3
namespace Go.Proofs.Ytbppjebpnpgenaa
open Go Go.RowKit

theorem Try.infoInt : (Try.prog.info? 3).map (fun i => (i.zero, i.size, i.bytes)) = some (some (.int .i64 0), 1, 8) := by kernel_rfl

theorem madeCells_one (x : Value) (n : Nat) : madeCells #[x] n = Array.replicate n x := by
  apply Array.ext
  · simp [madeCells]
  · intro i h1 h2
    simp [madeCells, Nat.mod_one]

theorem make_ints (n : Nat) (hn : n ≤ 1000000000) (w : World) :
    (Instr.makeSlice 57 (.int .i64 (n : Int)) (.int .i64 (n : Int))).run Try.prog w = .ok (.slice (some ⟨w.heap.size, 0, none⟩) n n) (w.alloc (.cells (Array.replicate n (.int .i64 0)) 3)) := by
  obtain ⟨i0, hi, hz0, hz1, hz2⟩ := info_parts Try.infoInt
  have h := run_make (P := Try.prog) w 57 3 i0 _ Try.underlying57 hi hz0 .i64 .i64 (n : Int) (n : Int) (by omega) (by omega) (by rw [hz2]; omega) (by omega)
  have e : (Value.int .i64 0).cells = #[.int .i64 0] := rfl
  rw [Int.toNat_natCast, hz1, Nat.mul_one, e, madeCells_one] at h
  exact h

/-- Given, with no outcomes: the counts' validity. -/
theorem given_nil (a : Option Addr) (c : Nat) (xs : List Int) (w : World) (hl : xs.length ≤ 9223372036854775807) (hr : Row w a (xs.map (.int .i64))) :
    Calls Try.prog 34 #[.slice a xs.length c, .slice none 0 0] w fun e w' =>
      (∃ v, e = .returned (.tuple #[v, .int .i64 (if countedB xs = true then 0 else 2)])) ∧ Below w.heap.size w w' := by
  cases hc : countedB xs
  · go_enter Try.func34, Try.ntmps34
    go_wp2_with (go_at_call 38; refine (skill_counted _ _ _ _ hl hr).mono ?_; rintro e w' ⟨rfl, rfl⟩)
    go_ret2
    exact ⟨⟨_, rfl⟩, Below.refl _ _⟩
  · obtain ⟨h1, h2, _⟩ := countedB_spec hc
    have hmk := make_ints xs.length (by omega)
    go_enter Try.func34, Try.ntmps34
    go_wp2_with (first | (go_at_call 38; refine (skill_counted _ _ _ _ hl hr).mono ?_; rintro e w' ⟨rfl, rfl⟩) | (go_at_call 39; refine (event_nil _ _).mono ?_; rintro e w' ⟨rfl, rfl⟩))
    refine wp_loop_rounds 1 ?_; rw [rounds_succ]
    go_wp2
    go_ret2
    exact ⟨⟨_, rfl⟩, by go_grown⟩

/-- Are counts valid, and so many? -/
def fullB (xs : List Int) (many : Int) : Bool := countedB xs && ((xs.length : Int) == many)

theorem skip_counted (a : Option Addr) (c : Nat) (xs : List Int) (many : Int) (w : World) (hl : xs.length ≤ 9223372036854775807) (hr : Row w a (xs.map (.int .i64))) :
    Calls Try.prog 26 #[.slice a xs.length c, .int .i64 many] w fun e w' =>
      e = .returned (.bool (fullB xs many)) ∧ Below w.heap.size w w' := by
  cases hc : countedB xs
  · go_enter Try.func26, Try.ntmps26
    go_wp2_with (go_at_call 34; refine (given_nil _ _ _ _ hl hr).mono ?_; rw [hc]; rintro e w' ⟨⟨v, rfl⟩, hb⟩)
    go_ret
    exact ⟨ret_eq (by simp [fullB, hc]), hb⟩
  · go_enter Try.func26, Try.ntmps26
    go_wp2_with (go_at_call 34; refine (given_nil _ _ _ _ hl hr).mono ?_; rw [hc]; rintro e w' ⟨⟨v, rfl⟩, hb⟩)
    go_ret
    exact ⟨ret_eq (by simp [fullB, hc]), hb⟩

theorem checkRivals_1 (a : Option Addr) (c : Nat) (xs : List Int) (w : World) (hl : xs.length ≤ 9223372036854775807) (hr : Row w a (xs.map (.int .i64))) :
    Calls Try.prog 25 #[.slice a xs.length c] w fun e w' =>
      e = .returned (.bool (!fullB xs 17)) ∧ Below w.heap.size w w' := by
  go_enter Try.func25, Try.ntmps25
  go_wp2_with (go_at_call 26; refine (skip_counted _ _ _ _ _ hl hr).mono ?_; rintro e w' ⟨rfl, hb⟩)
  go_ret
  exact ⟨rfl, hb⟩
end Go.Proofs.Ytbppjebpnpgenaa

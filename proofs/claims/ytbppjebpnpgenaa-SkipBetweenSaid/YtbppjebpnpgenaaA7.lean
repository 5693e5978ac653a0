/- States: when they are valid, and which one comes next. -/
import Derived.Test.YtbppjebpnpgenaaA6
namespace Go.Proofs.Ytbppjebpnpgenaa
open Go Go.RowKit

structure St where
  ends : Int
  lead : Int
  ham : Int
def St.v (s : St) : Value := .agg #[.int .i64 s.ends, .int .i64 s.lead, .int .i64 s.ham]
/-- Is a state valid? -/
def stB (s : St) : Bool := inB s.ends 0 12 && inB s.lead (-96) 96 && inB s.ham 0 1
def clamp (n : Int) : Int := if n ≤ -96 then -96 else if 96 ≤ n then 96 else n
def signed (h p : Int) : Int := if h = 0 then p else -p
def turn (h p : Int) : Int := if 0 < p then 1 - h else h
/-- The next state for points. -/
def nextS (s : St) (p : Int) : St := ⟨s.ends - 1, clamp (s.lead + signed s.ham p), turn s.ham p⟩

theorem stB_spec {s : St} (h : stB s = true) : 0 ≤ s.ends ∧ s.ends ≤ 12 ∧ -96 ≤ s.lead ∧ s.lead ≤ 96 ∧ (s.ham = 0 ∨ s.ham = 1) := by
  simp [stB, inB] at h; omega

theorem nextS_ok {s : St} {p : Int} (h : stB s = true) (he : 0 < s.ends) : stB (nextS s p) = true := by
  have := stB_spec h
  unfold stB inB nextS clamp turn
  dsimp only
  simp only [Bool.and_eq_true, decide_eq_true_eq]
  generalize signed s.ham p = q
  refine ⟨⟨⟨?_, ?_⟩, ⟨?_, ?_⟩⟩, ⟨?_, ?_⟩⟩ <;> (repeat' split) <;> omega

theorem checkState (s : St) (w : World) :
    Calls Try.prog 16 #[s.v] w fun e w' => e = .returned (.int .i64 (okErr (stB s))) ∧ Below w.heap.size w w' := by
  unfold St.v
  cases h1 : inB s.ends 0 12
  rotate_left
  cases h2 : inB s.lead (-96) 96
  rotate_left
  cases h3 : inB s.ham 0 1
  all_goals
    go_enter Try.func16, Try.ntmps16
    go_wp2_with (go_at_call 17; refine (skip_within _ _ _ _).mono ?_; rintro e w' ⟨rfl, rfl⟩)
    go_ret
    exact ⟨ret_eq (by simp [okErr, stB, *]), by go_grown⟩

theorem signed_0 (p : Int) : signed 0 p = p := rfl
theorem signed_1 (p : Int) : signed 1 p = -p := rfl
theorem agg3 {a b c a' b' c' : Int} (h1 : a = a') (h2 : b = b') (h3 : c = c') :
    Value.agg #[.int .i64 a, .int .i64 b, .int .i64 c] = .agg #[.int .i64 a', .int .i64 b', .int .i64 c'] := by rw [h1, h2, h3]

set_option maxHeartbeats 1000000 in
theorem skip_next (s : St) (p : Int) (w : World) (h : stB s = true) (p1 : -8 ≤ p) (p2 : p ≤ 8) :
    Calls Try.prog 18 #[s.v, .int .i64 p] w fun e w' => e = .returned (nextS s p).v ∧ Below w.heap.size w w' := by
  obtain ⟨h1, h2, h3, h4, h5⟩ := stB_spec h
  clear h
  obtain ⟨ends, lead, ham⟩ := s
  unfold St.v
  dsimp only at h1 h2 h3 h4 h5 ⊢
  rcases h5 with h5 | h5
  all_goals
    subst h5
    go_enter Try.func18, Try.ntmps18
    go_wp2
    go_quiet (fail)
    go_wp2
    all_goals
      refine bodyPost_ret (v := .agg #[_, _, _]) (by simp [results, Try.results18, go_sem]; exact ⟨rfl, rfl, rfl⟩) rfl ⟨ret_eq ?_, by repeat (first | (with_reducible exact Below.refl _ _) | (with_reducible refine bl_drewN ?_ _) | ((with_reducible refine Below.setCell ?_ ?hb _); case hb => (simp; try omega)) | ((with_reducible refine Below.alloc ?_ ?hb _); case hb => (simp; try omega)))⟩
      simp only [nextS, signed_0, signed_1, turn, clamp]
      refine agg3 rfl ?_ ?_ <;> (repeat' split) <;> omega
end Go.Proofs.Ytbppjebpnpgenaa

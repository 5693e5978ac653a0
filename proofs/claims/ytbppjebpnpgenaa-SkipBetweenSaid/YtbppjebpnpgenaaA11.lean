/- Scale: a number times a quotient, where nothing is refused. -/
import Derived.Test.YtbppjebpnpgenaaA10
import Derived.Recover
namespace Go.Proofs.Ytbppjebpnpgenaa
open Go Go.RowKit

theorem fixed_right1 (b : Nat) (x : Int) (w : World) (hc : w.cell? ⟨b, 0, none⟩ = some (.int .i64 x)) (h1 : -70368744177664 ≤ x) (h2 : x ≤ 70368744177664) :
    Calls Try.prog 56 #[.slice (some ⟨b, 0, none⟩) 1 1] w fun e w' => e = .returned (.tuple #[]) ∧ w = w' := by
  have d1 : decide (-70368744177664 ≤ x) = true := by simpa using h1
  have d2 : decide (x ≤ 70368744177664) = true := by simpa using h2
  go_enter Try.func56, Try.ntmps56
  go_wp2
  refine wp_loop_rounds 2 ?_; rw [rounds_succ]
  go_wp2_with (go_at_call 58; refine (need_true _ _).mono ?_; rintro e w' ⟨rfl, rfl⟩)
  rw [rounds_succ]
  go_wp2
  first | go_end0 | refine bodyPost_ret (results_none rfl _ _ _) rfl ?_
  exact ⟨rfl, rfl⟩

def idleEnd (w : World) (e : Exit) (a : Act) (w' : World) : Prop := e = .normal ∧ a.defers = [] ∧ Below w.heap.size w w'

/-- The deferred closure of 'tried', where nothing has panicked: it turns nothing. -/
theorem tried_fix_idle (p q : Addr) (w : World) :
    CallsD Try.prog 63 #[.pointer (some p), .pointer (some q)] .returning w fun e u' w' => e = .returned (.tuple #[]) ∧ u' = .returning ∧ Below w.heap.size w w' := by
  have hta : ∀ w, (Instr.typeAssert .nilIface 20 117 true).run Try.prog w = .ok (.tuple #[.agg #[.int .i64 0], .bool false]) w := fun _ => by kernel_rfl
  refine callsD_of_wpS Try.func63 rfl fun c₀ cs hu => ?_
  apply wpS_seq
  apply wpS_region
  simp [wpOpsS, go_sem, recoverD, hu, Try.ntmps63, Exit.thenS]
  refine wpS_of_wp (wp_mono (Q := idleEnd w) ?_ ?_)
  · simp only [Array.replicate_succ, Array.replicate_zero, List.push_toArray, List.append_toArray, List.nil_append, List.cons_append, List.setIfInBounds_toArray, List.set_cons_zero, List.set_cons_succ]
    go_wp2
    exact ⟨rfl, rfl, by go_grown⟩
  rintro e a' w' ⟨rfl, hd, hb⟩
  cases c₀
  simp_all [bodyPostS, results, Try.results63]

theorem lt_of_cell {W : World} {b o : Nat} {v : Value} (h : W.cell? ⟨b, o, none⟩ = some v) : b < W.heap.size := by
  rcases Nat.lt_or_ge b W.heap.size with h' | h'
  · exact h'
  · simp [World.cell?, Array.getElem?_eq_none h'] at h

theorem cell_below {W W' : World} {b o : Nat} {v : Value} (hb : Below W.heap.size W W') (h : W.cell? ⟨b, o, none⟩ = some v) : W'.cell? ⟨b, o, none⟩ = some v := by
  exact (hb.cell (p := ⟨b, o, none⟩) (lt_of_cell h)).trans h

theorem tried_fix (g : Nat) (lb : Array Value) (n : Int) (w : World) (hg : ∀ args w, (callFunc g args).run Try.prog w = .ok (.enter g args) w)
    (hcall : ∀ W, Below w.heap.size w W → Calls Try.prog g lb W fun e W' => e = .returned (.int .i64 n) ∧ Below W.heap.size W W') :
    Calls Try.prog 54 #[.func (.func g) #[] lb] w fun e w' => e = .returned (.tuple #[.int .i64 n, .int .i64 0]) ∧ Below w.heap.size w w' := by
  have hmf : ∀ (fn : Fn) (first cap : Array Value) (w : World), (Instr.makeFunc fn first cap).run Try.prog w = .ok (.func fn first cap) w := fun _ _ _ _ => rfl
  have HC := Lib.hid hcall; clear hcall
  go_enter_defers Try.func54, Try.ntmps54
  go_wp2_with fail
  refine (HC.out _ (by go_grown)).mono ?_
  rintro e w1 ⟨rfl, hb1⟩
  obtain ⟨hc, hf⟩ := bcell hb1
  have hz : w.heap.size + 1 < w1.heap.size := by have := hb1.size; simp at this; omega
  have hB : Below w.heap.size w w1 := (((Below.refl _ _).alloc (Nat.le_refl _) _).alloc (by simp) _).trans (hb1.mono (by simp; omega))
  go_wp2
  refine leaves_cons (f := 63) (args := #[.pointer (some ⟨w.heap.size, 0, none⟩), .pointer (some ⟨w.heap.size + 1, 0, none⟩)]) (by simp) (by simp [go_sem]) ?_
  refine (tried_fix_idle _ _ _).mono ?_
  rintro e u' w2 ⟨rfl, rfl, hb2⟩
  have c1 : w2.cell? ⟨w.heap.size, 0, none⟩ = some (.int .i64 n) := by
    refine cell_below hb2 ?_
    simp [go_sem]
    exact World.cell?_setCell_same' _ _ _ (by rw [hc _ _ (by simp only [World.size_alloc]; omega)]; simp [go_sem])
  have c2 : w2.cell? ⟨w.heap.size + 1, 0, none⟩ = some (.int .i64 0) := by
    refine cell_below hb2 ?_
    simp [go_sem, hc]
  simp only [settle]
  refine ⟨.tuple #[.int .i64 n, .int .i64 0], ?_, rfl, ?_⟩
  · simp [results, Try.results54, go_sem, c1, c2]
  · exact ((hB.setCell (Nat.le_refl _) _).setCell (by simp) _).trans (hb2.mono (by simp; omega))
end Go.Proofs.Ytbppjebpnpgenaa

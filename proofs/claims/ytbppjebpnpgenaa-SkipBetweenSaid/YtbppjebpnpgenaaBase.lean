/- What the walks of this seat lean on and what names no program: worlds that only grow, rows of cells, small facts on results. -/
import Derived.WalkKit
import Derived.WalkSpells
import Derived.WalkLawsBesides
import Derived.Deep.QuietTactic
import Derived.BigQuiet
import Derived.BigGuardPart
import Derived.Lib.Hide
import Derived.Handy
namespace Go.Proofs.Ytbppjebpnpgenaa
open Go Go.RowKit

theorem bl_drewN {B : Nat} {a w : World} (h : Below B a w) (n : Nat) : Below B a (w.drewN n) := ⟨h.os, h.tape, h.output, h.size, h.block⟩

theorem ret_eq {v v' : Value} (h : v = v') : Ending.returned v = .returned v' := by rw [h]

/-- A row of cells that lies in w from the address a on (an empty row lies anywhere). -/
def Row (w : World) (a : Option Addr) (vs : List Value) : Prop :=
  vs ≠ [] → ∃ b off, a = some ⟨b, off, none⟩ ∧ b < w.heap.size ∧ ∀ i, i < vs.length → w.cell? ⟨b, off + i, none⟩ = vs[i]?

theorem Row.below {w w' : World} {a : Option Addr} {vs : List Value} (h : Row w a vs) (hb : Below w.heap.size w w') : Row w' a vs := by
  intro hne
  obtain ⟨b, off, ha, hlt, hc⟩ := h hne
  have := hb.size
  exact ⟨b, off, ha, by omega, fun i hi => (hb.cell (p := ⟨b, off + i, none⟩) hlt).trans (hc i hi)⟩

theorem Row.nil (w : World) (a : Option Addr) : Row w a [] := fun h => absurd rfl h

/-- The k-th cell of a row. -/
theorem Row.at_ {w : World} {a : Option Addr} {vs : List Value} (h : Row w a vs) (k : Nat) (hk : k < vs.length) :
    ∃ b off, a = some ⟨b, off, none⟩ ∧ b < w.heap.size ∧ w.cell? ⟨b, off + k, none⟩ = vs[k]? := by
  obtain ⟨b, off, ha, hlt, hc⟩ := h (by intro e; rw [e] at hk; simp at hk)
  exact ⟨b, off, ha, hlt, hc k hk⟩

/-- The k-th number of a row of numbers, as the walk reads it. -/
theorem Row.int {w : World} {a : Option Addr} {xs : List Int} {K : IntKind} (h : Row w a (xs.map (.int K))) (k : Nat) (hk : k < xs.length) :
    ∃ b off, a = some ⟨b, off, none⟩ ∧ b < w.heap.size ∧ w.cell? ⟨b, off + k, none⟩ = some (.int K (xs[k]?.getD 0)) := by
  obtain ⟨b, off, ha, hlt, hc⟩ := h.at_ k (by simpa using hk)
  exact ⟨b, off, ha, hlt, by rw [hc]; simp [hk]⟩

/-- All old cells, and all old marks, read as before. -/
theorem bcell {W w1 : World} (hb : Below W.heap.size W w1) : (∀ b o, b < W.heap.size → w1.cell? ⟨b, o, none⟩ = W.cell? ⟨b, o, none⟩) ∧ (∀ b o, b < W.heap.size → w1.frozen? ⟨b, o, none⟩ = W.frozen? ⟨b, o, none⟩) :=
  ⟨fun b o h => hb.cell (p := ⟨b, o, none⟩) h, fun b o h => hb.frozen (p := ⟨b, o, none⟩) h⟩

/-- Is a number from one to another one? -/
def inB (n lo hi : Int) : Bool := decide (lo ≤ n) && decide (n ≤ hi)
theorem inB_true {n lo hi : Int} (h : inB n lo hi = true) : lo ≤ n ∧ n ≤ hi := by simpa [inB] using h
theorem inB_of {n lo hi : Int} (h1 : lo ≤ n) (h2 : n ≤ hi) : inB n lo hi = true := by simp [inB, h1, h2]

end Go.Proofs.Ytbppjebpnpgenaa

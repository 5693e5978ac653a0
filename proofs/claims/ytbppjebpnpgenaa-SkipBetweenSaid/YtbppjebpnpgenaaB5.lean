/- Worlds in which all old blocks but one stay; rows of hopes that a call makes. -/
import Derived.Test.YtbppjebpnpgenaaB4
import Derived.RangeFuncIn
import Derived.RangeFuncRecord
import Derived.RangeFuncGives
import Derived.OwnWalkIn
namespace Go.Proofs.Ytbppjebpnpgenaa
open Go Go.RowKit

/-- All blocks below B but bm stay. -/
structure BX (B bm : Nat) (a w : World) : Prop where
  os : w.os = a.os
  tape : w.tape = a.tape
  output : w.output = a.output
  size : a.heap.size ≤ w.heap.size
  block : ∀ k, k < B → k ≠ bm → w.heap[k]? = a.heap[k]?
theorem BX.refl (B bm : Nat) (w : World) : BX B bm w w := ⟨rfl, rfl, rfl, Nat.le_refl _, fun _ _ _ => rfl⟩
theorem BX.trans {B bm : Nat} {a b c : World} (h : BX B bm a b) (k : BX B bm b c) : BX B bm a c :=
  ⟨k.os.trans h.os, k.tape.trans h.tape, k.output.trans h.output, Nat.le_trans h.size k.size, fun i hi hn => (k.block i hi hn).trans (h.block i hi hn)⟩
theorem BX.mono {B B' bm : Nat} {a b : World} (h : BX B bm a b) (hB : B' ≤ B) : BX B' bm a b := ⟨h.os, h.tape, h.output, h.size, fun i hi hn => h.block i (by omega) hn⟩
theorem BX.of_below {B bm : Nat} {a b : World} (h : Below B a b) : BX B bm a b := ⟨h.os, h.tape, h.output, h.size, fun i hi _ => h.block i hi⟩
theorem BX.below {B B' bm : Nat} {a b : World} (h : BX B bm a b) (hB : B' ≤ B) (hm : B' ≤ bm) : Below B' a b := ⟨h.os, h.tape, h.output, h.size, fun i hi => h.block i (by omega) (by omega)⟩
theorem BX.grown {B bm : Nat} {a b : World} (h : BX B bm a b) (hB : a.heap.size ≤ B) : a.grownBy b (some bm) := ⟨h.os, h.tape, h.output, h.size, fun i hi hn => h.block i (by omega) (by simpa using hn)⟩
theorem BX.of_grown {bm : Nat} {a b : World} (h : a.grownBy b (some bm)) : BX a.heap.size bm a b := ⟨h.os, h.tape, h.output, h.size, fun i hi hn => h.block i hi (by simpa using hn)⟩
theorem Blk.bx {w w' : World} {b t B bm : Nat} {cs : List Value} (h : Blk w b t cs) (hx : BX B bm w w') (hb : b < B) (hn : b ≠ bm) : Blk w' b t cs := (hx.block b hb hn).trans h
theorem Blk.ne_map {w : World} {b t bm : Nat} {cs : List Value} {ents : List (St × Value)} (h : Blk w b t cs) (hm : MapAt w bm ents) : b ≠ bm := by
  rintro rfl
  obtain ⟨es, clock, hb, _⟩ := hm
  rw [h] at hb
  cases hb

/-- The cells of hopes in a row. -/
def flatH (hs : List Hp) : List Value := hs.flatMap fun h => [.int .i64 h.lo, .int .i64 h.hi]
theorem flatH_len (hs : List Hp) : (flatH hs).length = hs.length * 2 := by
  induction hs with
  | nil => rfl
  | cons h hs ih => simp only [flatH, List.flatMap_cons, List.length_append, List.length_cons, List.length_nil] at ih ⊢; omega
theorem flatH_get (hs : List Hp) : ∀ i, i < hs.length → (flatH hs)[i * 2]? = some (.int .i64 (hs[i]?.getD default).lo) ∧ (flatH hs)[i * 2 + 1]? = some (.int .i64 (hs[i]?.getD default).hi) := by
  induction hs with
  | nil => intro i h; simp at h
  | cons h hs ih =>
    intro i hi
    cases i with
    | zero => simp [flatH]
    | succ j =>
      have := ih j (by simp at hi; omega)
      rw [show (j + 1) * 2 = j * 2 + 1 + 1 by omega]
      simpa [flatH] using this
theorem flatH_succ (hs : List Hp) (k : Nat) (hk : k < hs.length) : flatH (hs.take (k + 1)) = flatH (hs.take k) ++ [.int .i64 (hs[k]?.getD default).lo, .int .i64 (hs[k]?.getD default).hi] := by
  unfold flatH
  rw [List.take_succ_eq_append_getElem hk, List.flatMap_append, List.flatMap_singleton, List.getElem?_eq_getElem hk]
  rfl

theorem own_hrow {w : World} {base e n c : Nat} {a : Option Addr} {hs : List Hp} (h : w.ownsRow base e 2 (.slice a n c) n (flatH hs)) (hn : n = hs.length) : HRow w a hs := by
  intro hne
  have hpos : 0 < hs.length := by cases hs with | nil => exact absurd rfl hne | cons => simp
  rcases h.2 with ⟨_, h0⟩ | ⟨g, cap, cur, hv, hb, hg, hle, hm, hs', ht⟩
  · omega
  · simp only [Value.slice.injEq] at hv
    have e1 : ∀ j, j < n * 2 → w.cell? ⟨g, j, none⟩ = (flatH hs)[j]? := fun j hj => by
      have : w.cell? ⟨g, j, none⟩ = cur[j]? := by simp [World.cell?, hg]
      rw [this, ← ht, List.getElem?_take, if_pos hj]; simp
    refine ⟨g, 0, hv.1, (Array.getElem?_eq_some_iff.1 hg).1, fun i hi => ?_⟩
    obtain ⟨f1, f2⟩ := flatH_get hs i hi
    exact ⟨by rw [Nat.zero_add, e1 _ (by omega), f1], by rw [Nat.zero_add, e1 _ (by omega), f2]⟩

theorem Try.infoHope : (Try.prog.info? 33).map (fun i => (i.zero, i.size, i.bytes)) = some (some (.agg #[.int .i64 0, .int .i64 0]), 2, 16) := by kernel_rfl
end Go.Proofs.Ytbppjebpnpgenaa

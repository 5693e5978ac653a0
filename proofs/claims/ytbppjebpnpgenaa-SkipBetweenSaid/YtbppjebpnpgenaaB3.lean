/- Rows that a call itself makes; a clone of a row. -/
import Derived.Test.YtbppjebpnpgenaaB2
import Derived.Deep.AppendLies
namespace Go.Proofs.Ytbppjebpnpgenaa
open Go Go.RowKit

theorem own_row {w : World} {base e n c : Nat} {a : Option Addr} {xs : List Value} (h : w.ownsRow base e 1 (.slice a n c) n xs) : Row w a xs := by
  intro hne
  rcases h.2 with ⟨_, h0⟩ | ⟨g, cap, cur, hv, hb, hg, hle, hm, hs, ht⟩
  · have := h.1
    rw [h0] at this
    exact absurd (List.eq_nil_of_length_eq_zero (by simpa using this)) hne
  · simp only [Value.slice.injEq] at hv
    refine ⟨g, 0, hv.1, (Array.getElem?_eq_some_iff.1 hg).1, fun i hi => ?_⟩
    have e1 : w.cell? ⟨g, 0 + i, none⟩ = cur[i]? := by simp [World.cell?, hg]
    rw [e1, ← ht, List.getElem?_take, if_pos (by have := h.1; omega)]
    simp

set_option maxRecDepth 100000 in
theorem clone_ints (a : Option Addr) (c : Nat) (xs : List Int) (w : World) (hr : Row w a (xs.map (.int .i64))) (h1 : 0 < xs.length) (hl : xs.length ≤ 60) :
    Calls Try.prog 29 #[.slice a xs.length c] w fun e w' =>
      (∃ g cap, e = .returned (.slice (some ⟨g, 0, none⟩) xs.length cap) ∧ w'.ownsRow w.heap.size 3 1 (.slice (some ⟨g, 0, none⟩) xs.length cap) xs.length (xs.map (.int .i64))) ∧ Below w.heap.size w w' := by
  obtain ⟨b, off, rfl, hlt, hc⟩ := hr (by simp; intro e; rw [e] at h1; simp at h1)
  obtain ⟨i, hi, hz0, hz1, hz2⟩ := info_parts Try.infoInt
  have hown := World.ownsRow_made (e := 3) (base := w.heap.size) (size := 1) w #[] 0 (Nat.le_refl _) (by decide) (by simp)
  have hnews : ∀ j u, (xs.map (Value.int .i64))[j]? = some u → (w.alloc (.cells #[] 3)).cell? ((⟨b, off, none⟩ : Addr).add j) = some u := by
    intro j u hj
    have hj2 : j < (xs.map (Value.int .i64)).length := (List.getElem?_eq_some_iff.1 hj).1
    rw [Addr.add_lit, (Below.alloc (Below.refl w.heap.size w) (Nat.le_refl _) (.cells #[] 3)).cell (p := ⟨b, off + j, none⟩) hlt, hc j hj2, hj]
  have hn : ∀ w : World, (binOp BinOp.eql 57 (.slice (some ⟨b, off, none⟩) xs.length c) (.slice none 0 0)).run Try.prog w = .ok (.bool false) w := fun _ => by kernel_rfl
  go_enter Try.func29, Try.ntmps29
  go_wp2_with (at_builtin; refine wpList_append_lies _ rfl _ _ _ (by rfl) w.heap.size 3 i _ 1 8 Try.underlying57 hi hz0 hz1 hz2 rfl (by omega) _ 0 [] (by rfl) hown ⟨b, off, none⟩ xs.length c (xs.map (Value.int .i64)) (by rfl) (by simp) hnews (ints_oneCell _ _) (by omega) (by simp only [maxLen]; omega) (by omega) (by simp) _ rfl ?_)
  intro g cap w1 hown hgrow hat hlt
  go_wp2
  go_returns
  exact ⟨⟨g, cap, rfl, hown⟩, (Below.alloc (Below.refl w.heap.size w) (Nat.le_refl _) (.cells #[] 3)).grown hgrow (by simp) (by intro k hk; simp [Value.ownBlock] at hk; omega)⟩

/-- Two rows of numbers that a call itself made, apart from each other. -/
structure Two (base e : Nat) (w : World) (v1 : Value) (n1 : Nat) (xs1 : List Value) (v2 : Value) (n2 : Nat) (xs2 : List Value) : Prop where
  le : base ≤ w.heap.size
  own1 : w.ownsRow base e 1 v1 n1 xs1
  own2 : w.ownsRow base e 1 v2 n2 xs2
  apart : ∀ k, v1.ownBlock = some k → v2.ownBlock ≠ some k

section
variable {base e : Nat} {w w' : World} {v1 v2 : Value} {n1 n2 : Nat} {xs1 xs2 : List Value}
theorem Two.nil (w : World) (h : base ≤ w.heap.size) : Two base e w (.slice none 0 0) 0 [] (.slice none 0 0) 0 [] := ⟨h, World.ownsRow_nil _ _ _ _, World.ownsRow_nil _ _ _ _, by intro k hk; simp [Value.ownBlock] at hk⟩
theorem Two.kept {row : Option Nat} (h : Two base e w v1 n1 xs1 v2 n2 xs2) (hg : w.grownBy w' row) (hr : ∀ k, row = some k → w.heap.size ≤ k) : Two base e w' v1 n1 xs1 v2 n2 xs2 := by
  have a1 : ∀ v : Value, (∀ k, v.ownBlock = some k → base ≤ k ∧ k < w.heap.size) → v.ownBlock = none ∨ v.ownBlock ≠ row := fun v hv => by
    cases hk : v.ownBlock with
    | none => exact .inl rfl
    | some k => exact .inr (fun e => by have := hv k hk; have := hr k e.symm; omega)
  exact ⟨Nat.le_trans h.le hg.size, h.own1.kept hg (a1 _ h.own1.lt), h.own2.kept hg (a1 _ h.own2.lt), h.apart⟩
theorem Two.alloc (h : Two base e w v1 n1 xs1 v2 n2 xs2) (o : Obj) : Two base e (w.alloc o) v1 n1 xs1 v2 n2 xs2 := h.kept (World.grownBy_alloc w o none) (by simp)
theorem Two.drew (h : Two base e w v1 n1 xs1 v2 n2 xs2) : Two base e w.drew v1 n1 xs1 v2 n2 xs2 := ⟨h.le, h.own1, h.own2, h.apart⟩
theorem Two.swap (h : Two base e w v1 n1 xs1 v2 n2 xs2) : Two base e w v2 n2 xs2 v1 n1 xs1 := ⟨h.le, h.own2, h.own1, fun k h2 h1 => h.apart k h1 h2⟩
theorem Two.app1 (h : Two base e w v1 n1 xs1 v2 n2 xs2) {g cap m : Nat} {ys : List Value} (hown : w'.ownsRow base e 1 (.slice (some ⟨g, 0, none⟩) m cap) m ys) (hg : w.grownBy w' v1.ownBlock) (hat : v1.ownBlock = some g ∨ g = w.heap.size) :
    Two base e w' (.slice (some ⟨g, 0, none⟩) m cap) m ys v2 n2 xs2 := by
  refine ⟨Nat.le_trans h.le hg.size, hown, h.own2.kept hg ?_, ?_⟩
  · cases hk : v2.ownBlock with
    | none => exact .inl rfl
    | some k => exact .inr (fun e => h.apart k e.symm hk)
  · intro k hk h2
    simp only [Value.ownBlock, Option.some.injEq] at hk
    subst hk
    rcases hat with h1 | h1
    · exact h.apart _ h1 h2
    · have := h.own2.lt _ h2; omega
theorem Two.app2 (h : Two base e w v1 n1 xs1 v2 n2 xs2) {g cap m : Nat} {ys : List Value} (hown : w'.ownsRow base e 1 (.slice (some ⟨g, 0, none⟩) m cap) m ys) (hg : w.grownBy w' v2.ownBlock) (hat : v2.ownBlock = some g ∨ g = w.heap.size) :
    Two base e w' v1 n1 xs1 (.slice (some ⟨g, 0, none⟩) m cap) m ys := (h.swap.app1 hown hg hat).swap
end
end Go.Proofs.Ytbppjebpnpgenaa

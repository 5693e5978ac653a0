/- Rivals: how they lie in memory, and when they are valid. -/
import Derived.Test.YtbppjebpnpgenaaA4
namespace Go.Proofs.Ytbppjebpnpgenaa
open Go Go.RowKit

/-- A slice of numbers as a value: where it lies, its capacity, its numbers. -/
structure RowV where
  a : Option Addr
  c : Nat
  xs : List Int
def RowV.v (r : RowV) : Value := .slice r.a r.xs.length r.c
structure RowV.In (w : World) (r : RowV) : Prop where
  row : Row w r.a (r.xs.map (.int .i64))
  len : r.xs.length ≤ 9223372036854775807
theorem RowV.In.below {w w' : World} {r : RowV} (h : r.In w) (hb : Below w.heap.size w w') : r.In w' := ⟨h.row.below hb, h.len⟩

/-- A slice of such slices. -/
structure TabV where
  a : Option Addr
  c : Nat
  rows : List RowV
def TabV.v (t : TabV) : Value := .slice t.a t.rows.length t.c
structure TabV.In (w : World) (t : TabV) : Prop where
  row : Row w t.a (t.rows.map RowV.v)
  len : t.rows.length ≤ 9223372036854775807
  each : ∀ r ∈ t.rows, r.In w
theorem TabV.In.below {w w' : World} {t : TabV} (h : t.In w) (hb : Below w.heap.size w w') : t.In w' := ⟨h.row.below hb, h.len, fun r hr => (h.each r hr).below hb⟩
def TabV.data (t : TabV) : List (List Int) := t.rows.map (·.xs)

/-- The k-th slice of a slice of slices, as the walk reads it. -/
theorem TabV.In.at_ {w : World} {t : TabV} (h : t.In w) (k : Nat) (hk : k < t.rows.length) :
    ∃ b off r, t.a = some ⟨b, off, none⟩ ∧ b < w.heap.size ∧ t.rows[k]? = some r ∧ r.In w ∧ w.cell? ⟨b, off + k, none⟩ = some r.v := by
  obtain ⟨b, off, ha, hlt, hc⟩ := h.row.at_ k (by simpa using hk)
  refine ⟨b, off, t.rows[k], ha, hlt, by simp [hk], h.each _ (List.getElem_mem _), ?_⟩
  rw [hc]; simp [hk]

structure RivV where
  doubt : Int
  s0 : TabV
  s1 : TabV
def RivV.v (m : RivV) : Value := .agg #[.int .i64 m.doubt, m.s0.v, m.s1.v]
structure RivV.In (w : World) (m : RivV) : Prop where
  t0 : m.s0.In w
  t1 : m.s1.In w
theorem RivV.In.below {w w' : World} {m : RivV} (h : m.In w) (hb : Below w.heap.size w w') : m.In w' := ⟨h.t0.below hb, h.t1.below hb⟩

def idxFromL (p : List Int → Bool) : Nat → List (List Int) → Int
  | _, [] => -1
  | k, x :: xs => if p x = true then (k : Int) else idxFromL p (k + 1) xs

theorem idxFromL_nonneg (p : List Int → Bool) : ∀ (k : Nat) (xs : List (List Int)), decide (0 ≤ idxFromL p k xs) = xs.any p
  | _, [] => by simp [idxFromL]
  | k, x :: xs => by
    unfold idxFromL
    by_cases h : p x = true
    · simp [h]
    · rw [if_neg h, idxFromL_nonneg p (k + 1) xs]; simp [h]

theorem idxFromL_drop (p : List Int → Bool) (t : TabV) (k : Nat) (r : RowV) (hk : t.rows[k]? = some r) :
    idxFromL p k (t.data.drop k) = if p r.xs = true then (k : Int) else idxFromL p (k + 1) (t.data.drop (k + 1)) := by
  obtain ⟨hk', rfl⟩ := List.getElem?_eq_some_iff.1 hk
  have hk2 : k < t.data.length := by simpa [TabV.data] using hk'
  rw [List.drop_eq_getElem_cons hk2, idxFromL]; simp [TabV.data]

theorem indexFunc_rows (t : TabV) (w : World) (ht : t.In w) :
    Calls Try.prog 33 #[t.v, .func (.func 25) #[] #[]] w fun e w' =>
      e = .returned (.int .i64 (idxFromL (fun x => !fullB x 17) 0 t.data)) ∧ Below w.heap.size w w' := by
  unfold TabV.v
  have hl := ht.len
  go_enter Try.func33, Try.ntmps33
  go_wp2
  go_loopw [8] (fun i wr => ∃ k : Nat, k ≤ t.rows.length ∧ i = .int .i64 k ∧ idxFromL (fun x => !fullB x 17) 0 t.data = idxFromL (fun x => !fullB x 17) k (t.data.drop k) ∧ Below w.heap.size w wr) (fun i _ => t.rows.length - (intOf i).toNat)
  case atStart => exact ⟨0, Nat.zero_le _, rfl, by simp, Below.refl _ _⟩
  case round =>
    obtain ⟨k, hk, rfl, hidx, hB⟩ := hrel
    have HI := Lib.hid hidx; clear hidx
    by_cases hlt : k < t.rows.length
    · obtain ⟨b, off, r, ha, hb, hr, hin, hc⟩ := (ht.below hB).at_ k hlt
      have HS := Lib.hid (idxFromL_drop (fun x => !fullB x 17) t k r hr); clear hr
      have HA := Lib.hid ha
      generalize t.a = ta at ha
      subst ha
      unfold RowV.v at hc
      cases hx : fullB r.xs 17
      · go_wp2_with (go_at_call 25; refine (checkRivals_1 _ _ _ _ hin.len hin.row).mono ?_; rintro e w' ⟨rfl, hb'⟩)
        go_ret
        refine ⟨?_, hB.trans (hb'.mono hB.size)⟩
        rw [HI.out, HS.out]; simp [hx]
      · go_wp2_with (go_at_call 25; refine (checkRivals_1 _ _ _ _ hin.len hin.row).mono ?_; rintro e w' ⟨rfl, hb'⟩)
        go_roundw
        case rel => exact ⟨k + 1, by omega, by go_num, by rw [HI.out, HS.out]; simp [hx], hB.trans (hb'.mono hB.size)⟩
        case measure => simp [intOf]; omega
    · go_wp2
      go_ret
      refine ⟨?_, hB⟩
      rw [HI.out, List.drop_of_length_le (by simp [TabV.data]; omega)]; rfl
end Go.Proofs.Ytbppjebpnpgenaa

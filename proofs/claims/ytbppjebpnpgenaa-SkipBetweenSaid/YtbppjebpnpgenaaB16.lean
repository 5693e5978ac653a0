/- Rivals that a law leaves out as too great. -/
import Derived.Test.YtbppjebpnpgenaaB15
namespace Go.Proofs.Ytbppjebpnpgenaa
open Go Go.RowKit

/-- A table that the law does not leave out. -/
structure SmallT (t : TabV) : Prop where
  len : t.rows.length ≤ 3 ∨ t.rows.length = 9
  each : ∀ r ∈ t.rows, r.xs.length ≤ 60

def GreatR (m : RivV) (w : World) (e : Ending) (w' : World) : Prop := ∃ b, e = .returned (.bool b) ∧ (b = false → SmallT m.s0 ∧ SmallT m.s1) ∧ Below w.heap.size w w'

set_option maxRecDepth 100000 in
set_option maxHeartbeats 1000000 in
theorem great_walk (m : RivV) (w : World) (hin : m.In w) :
    Calls Try.prog 12 #[m.v] w fun e w' => GreatR m w e w' := by
  obtain ⟨d, ⟨a0, c0, rs0⟩, ⟨a1, c1, rs1⟩⟩ := m
  have hA : Below w.heap.size w (w.alloc (.cells #[.int .i64 d, .slice a0 rs0.length c0, .slice a1 rs1.length c1] 25)) := by go_grown
  have h0 := hin.t0.below hA
  have h1 := hin.t1.below hA
  clear hin
  have l0 : (rs0.length : Int) ≤ 9223372036854775807 := by have := h0.len; dsimp only at this; omega
  have l1 : (rs1.length : Int) ≤ 9223372036854775807 := by have := h1.len; dsimp only at this; omega
  unfold RivV.v TabV.v
  go_enter Try.func12, Try.ntmps12
  go_wp2
  go_loop [3] (fun i => ∃ k : Nat, k ≤ 2 ∧ i = .int .i64 k ∧ (1 ≤ k → SmallT ⟨a0, c0, rs0⟩) ∧ (2 ≤ k → SmallT ⟨a1, c1, rs1⟩)) (fun i => 2 - (intOf i).toNat)
  case atStart => exact ⟨0, by omega, rfl, by omega, by omega⟩
  case round =>
    obtain ⟨k, hk, rfl, s0, s1⟩ := hrel
    have hk3 : k = 0 ∨ k = 1 ∨ k = 2 := by omega
    rcases hk3 with rfl | rfl | rfl
    · go_wp2
      · go_ret
        exact ⟨true, rfl, by simp, hA⟩
      · go_ret
        exact ⟨true, rfl, by simp, hA⟩
      · go_loop [4] (fun j => ∃ q : Nat, q ≤ rs0.length ∧ j = .int .i64 q ∧ ∀ i, i < q → ∀ r, rs0[i]? = some r → r.xs.length ≤ 60) (fun j => rs0.length - (intOf j).toNat)
        case atStart => exact ⟨0, by omega, rfl, by omega⟩
        case round =>
          obtain ⟨q, hq, rfl, hsm⟩ := hrel
          by_cases hlt : q < rs0.length
          · obtain ⟨b, off, r, ha, hb, hrk, hri, hcell⟩ := h0.at_ q hlt
            dsimp only at ha hrk
            subst ha
            have hsm' := Lib.hid hsm; clear hsm
            have hrk' := Lib.hid hrk; clear hrk
            have lr : (r.xs.length : Int) ≤ 9223372036854775807 := by have := hri.len; omega
            unfold RowV.v at hcell
            by_cases hbig : 60 < r.xs.length
            · go_wp2
              go_ret
              exact ⟨true, rfl, by simp, hA⟩
            · go_wp2
              go_round
              case measure => simp only [intOf]; omega
              refine ⟨q + 1, by omega, by push_cast; rfl, fun i hi r' hr' => ?_⟩
              by_cases hiq : i = q
              · subst hiq
                rw [hrk'.out] at hr'
                cases hr'
                omega
              · exact hsm'.out i (by omega) r' hr'
          · obtain rfl : q = rs0.length := by omega
            go_wp2
            go_round
            case measure => simp only [intOf]; omega
            exact ⟨1, by omega, rfl, fun _ => ⟨by dsimp only; omega, fun r hr => by
              obtain ⟨i, hi⟩ := List.mem_iff_getElem?.1 hr
              exact hsm i (List.getElem?_eq_some_iff.1 hi).1 r hi⟩, by omega⟩
      · go_loop [4] (fun j => ∃ q : Nat, q ≤ rs0.length ∧ j = .int .i64 q ∧ ∀ i, i < q → ∀ r, rs0[i]? = some r → r.xs.length ≤ 60) (fun j => rs0.length - (intOf j).toNat)
        case atStart => exact ⟨0, by omega, rfl, by omega⟩
        case round =>
          obtain ⟨q, hq, rfl, hsm⟩ := hrel
          by_cases hlt : q < rs0.length
          · obtain ⟨b, off, r, ha, hb, hrk, hri, hcell⟩ := h0.at_ q hlt
            dsimp only at ha hrk
            subst ha
            have hsm' := Lib.hid hsm; clear hsm
            have hrk' := Lib.hid hrk; clear hrk
            have lr : (r.xs.length : Int) ≤ 9223372036854775807 := by have := hri.len; omega
            unfold RowV.v at hcell
            by_cases hbig : 60 < r.xs.length
            · go_wp2
              go_ret
              exact ⟨true, rfl, by simp, hA⟩
            · go_wp2
              go_round
              case measure => simp only [intOf]; omega
              refine ⟨q + 1, by omega, by push_cast; rfl, fun i hi r' hr' => ?_⟩
              by_cases hiq : i = q
              · subst hiq
                rw [hrk'.out] at hr'
                cases hr'
                omega
              · exact hsm'.out i (by omega) r' hr'
          · obtain rfl : q = rs0.length := by omega
            go_wp2
            go_round
            case measure => simp only [intOf]; omega
            exact ⟨1, by omega, rfl, fun _ => ⟨by dsimp only; omega, fun r hr => by
              obtain ⟨i, hi⟩ := List.mem_iff_getElem?.1 hr
              exact hsm i (List.getElem?_eq_some_iff.1 hi).1 r hi⟩, by omega⟩
    · go_wp2
      · go_ret
        exact ⟨true, rfl, by simp, hA⟩
      · go_ret
        exact ⟨true, rfl, by simp, hA⟩
      · go_loop [4] (fun j => ∃ q : Nat, q ≤ rs1.length ∧ j = .int .i64 q ∧ ∀ i, i < q → ∀ r, rs1[i]? = some r → r.xs.length ≤ 60) (fun j => rs1.length - (intOf j).toNat)
        case atStart => exact ⟨0, by omega, rfl, by omega⟩
        case round =>
          obtain ⟨q, hq, rfl, hsm⟩ := hrel
          by_cases hlt : q < rs1.length
          · obtain ⟨b, off, r, ha, hb, hrk, hri, hcell⟩ := h1.at_ q hlt
            dsimp only at ha hrk
            subst ha
            have hsm' := Lib.hid hsm; clear hsm
            have hrk' := Lib.hid hrk; clear hrk
            have lr : (r.xs.length : Int) ≤ 9223372036854775807 := by have := hri.len; omega
            unfold RowV.v at hcell
            by_cases hbig : 60 < r.xs.length
            · go_wp2
              go_ret
              exact ⟨true, rfl, by simp, hA⟩
            · go_wp2
              go_round
              case measure => simp only [intOf]; omega
              refine ⟨q + 1, by omega, by push_cast; rfl, fun i hi r' hr' => ?_⟩
              by_cases hiq : i = q
              · subst hiq
                rw [hrk'.out] at hr'
                cases hr'
                omega
              · exact hsm'.out i (by omega) r' hr'
          · obtain rfl : q = rs1.length := by omega
            go_wp2
            go_round
            case measure => simp only [intOf]; omega
            exact ⟨2, by omega, rfl, fun _ => s0 (by omega), fun _ => ⟨by dsimp only; omega, fun r hr => by
              obtain ⟨i, hi⟩ := List.mem_iff_getElem?.1 hr
              exact hsm i (List.getElem?_eq_some_iff.1 hi).1 r hi⟩⟩
      · go_loop [4] (fun j => ∃ q : Nat, q ≤ rs1.length ∧ j = .int .i64 q ∧ ∀ i, i < q → ∀ r, rs1[i]? = some r → r.xs.length ≤ 60) (fun j => rs1.length - (intOf j).toNat)
        case atStart => exact ⟨0, by omega, rfl, by omega⟩
        case round =>
          obtain ⟨q, hq, rfl, hsm⟩ := hrel
          by_cases hlt : q < rs1.length
          · obtain ⟨b, off, r, ha, hb, hrk, hri, hcell⟩ := h1.at_ q hlt
            dsimp only at ha hrk
            subst ha
            have hsm' := Lib.hid hsm; clear hsm
            have hrk' := Lib.hid hrk; clear hrk
            have lr : (r.xs.length : Int) ≤ 9223372036854775807 := by have := hri.len; omega
            unfold RowV.v at hcell
            by_cases hbig : 60 < r.xs.length
            · go_wp2
              go_ret
              exact ⟨true, rfl, by simp, hA⟩
            · go_wp2
              go_round
              case measure => simp only [intOf]; omega
              refine ⟨q + 1, by omega, by push_cast; rfl, fun i hi r' hr' => ?_⟩
              by_cases hiq : i = q
              · subst hiq
                rw [hrk'.out] at hr'
                cases hr'
                omega
              · exact hsm'.out i (by omega) r' hr'
          · obtain rfl : q = rs1.length := by omega
            go_wp2
            go_round
            case measure => simp only [intOf]; omega
            exact ⟨2, by omega, rfl, fun _ => s0 (by omega), fun _ => ⟨by dsimp only; omega, fun r hr => by
              obtain ⟨i, hi⟩ := List.mem_iff_getElem?.1 hr
              exact hsm i (List.getElem?_eq_some_iff.1 hi).1 r hi⟩⟩
    · go_wp2
      go_ret
      exact ⟨false, rfl, fun _ => ⟨s0 (by omega), s1 (by omega)⟩, hA⟩
end Go.Proofs.Ytbppjebpnpgenaa

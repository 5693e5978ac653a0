/- Hopes: one that is sure, and the one that a team chooses. -/
import Derived.Test.YtbppjebpnpgenaaB1
namespace Go.Proofs.Ytbppjebpnpgenaa
open Go Go.RowKit

structure Hp where
  lo : Int
  hi : Int
def Hp.v (h : Hp) : Value := .agg #[.int .i64 h.lo, .int .i64 h.hi]
instance : Inhabited Hp := ⟨⟨0, 0⟩⟩
def sureH (b : Bool) : Hp := if b = true then ⟨65536, 65536⟩ else ⟨0, 0⟩

theorem skip_sure (b : Bool) (w : World) :
    Calls Try.prog 21 #[.bool b] w fun e w' => e = .returned (sureH b).v ∧ Below w.heap.size w w' := by
  cases b
  · go_enter Try.func21, Try.ntmps21
    go_wp2
    go_returns
    exact ⟨rfl, by go_grown⟩
  · go_enter Try.func21, Try.ntmps21
    go_wp2
    go_returns
    exact ⟨rfl, by go_grown⟩

theorem chosen_1 (x y : Int) (w : World) :
    Calls Try.prog 31 #[.int .i64 x, .int .i64 y] w fun e w' => e = .returned (.int .i64 (max x y)) ∧ w = w' := by
  go_enter Try.func31, Try.ntmps31
  go_wp2
  all_goals
    go_ret
    exact ⟨ret_eq (by simp; omega), rfl⟩

theorem chosen_2 (x y : Int) (w : World) :
    Calls Try.prog 32 #[.int .i64 x, .int .i64 y] w fun e w' => e = .returned (.int .i64 (min x y)) ∧ w = w' := by
  go_enter Try.func32, Try.ntmps32
  go_wp2
  all_goals
    go_ret
    exact ⟨ret_eq (by simp; omega), rfl⟩

/-- A slice of hopes that lies in w from the address a on. -/
def HRow (w : World) (a : Option Addr) (hs : List Hp) : Prop :=
  hs ≠ [] → ∃ b off, a = some ⟨b, off, none⟩ ∧ b < w.heap.size ∧ ∀ i, i < hs.length → w.cell? ⟨b, off + i * 2, none⟩ = some (.int .i64 (hs[i]?.getD default).lo) ∧ w.cell? ⟨b, off + i * 2 + 1, none⟩ = some (.int .i64 (hs[i]?.getD default).hi)

theorem HRow.below {w w' : World} {a : Option Addr} {hs : List Hp} (h : HRow w a hs) (hb : Below w.heap.size w w') : HRow w' a hs := by
  intro hne
  obtain ⟨b, off, ha, hlt, hc⟩ := h hne
  have := hb.size
  exact ⟨b, off, ha, by omega, fun i hi => ⟨(hb.cell (p := ⟨b, off + i * 2, none⟩) hlt).trans (hc i hi).1, (hb.cell (p := ⟨b, off + i * 2 + 1, none⟩) hlt).trans (hc i hi).2⟩⟩

theorem HRow.at_ {w : World} {a : Option Addr} {hs : List Hp} (h : HRow w a hs) (k : Nat) (hk : k < hs.length) :
    ∃ b off, a = some ⟨b, off, none⟩ ∧ b < w.heap.size ∧ w.cell? ⟨b, off + k * 2, none⟩ = some (.int .i64 (hs[k]?.getD default).lo) ∧ w.cell? ⟨b, off + k * 2 + 1, none⟩ = some (.int .i64 (hs[k]?.getD default).hi) := by
  obtain ⟨b, off, ha, hlt, hc⟩ := h (by intro e; rw [e] at hk; simp at hk)
  exact ⟨b, off, ha, hlt, hc k hk⟩

def pickI (ham x y : Int) : Int := if ham = 0 then max x y else min x y
def pickH (ham : Int) (x y : Hp) : Hp := ⟨pickI ham x.lo y.lo, pickI ham x.hi y.hi⟩
/-- The choice among the first k + 1 of some hopes. -/
def chosenTo (ham : Int) (hs : List Hp) (k : Nat) : Hp := (hs.tail.take k).foldl (pickH ham) (hs.headD default)
def chosenH (ham : Int) (hs : List Hp) : Hp := chosenTo ham hs (hs.length - 1)
theorem chosenTo_succ (ham : Int) (hs : List Hp) (k : Nat) (hk : k + 1 < hs.length) : chosenTo ham hs (k + 1) = pickH ham (chosenTo ham hs k) (hs[k + 1]?.getD default) := by
  have hk2 : k < hs.tail.length := by simp; omega
  unfold chosenTo
  rw [List.take_succ_eq_append_getElem hk2, List.foldl_append]
  simp [hk]

theorem chosenTo_zero (ham : Int) (hs : List Hp) : hs[0]?.getD default = chosenTo ham hs 0 := by cases hs <;> rfl

set_option maxRecDepth 100000 in
set_option maxHeartbeats 1000000 in
theorem skip_chosen_one (a : Option Addr) (hs : List Hp) (ham : Int) (w : World) (hr : HRow w a hs) (h0 : hs.length = 1) (hh : ham = 0 ∨ ham = 1) :
    Calls Try.prog 23 #[.slice a 1 1, .int .i64 ham] w fun e w' => e = .returned (chosenH ham hs).v ∧ Below w.heap.size w w' := by
  obtain ⟨b, off, rfl, hb, hc0, hc1⟩ := hr.at_ 0 (by omega)
  have i0 : ∀ (x y : Value) (w : World), (Instr.index 80 (.agg #[x, y]) (.int .i64 0)).run Try.prog w = .ok x w := fun _ _ _ => by kernel_rfl
  have i1 : ∀ (x y : Value) (w : World), (Instr.index 80 (.agg #[x, y]) (.int .i64 1)).run Try.prog w = .ok y w := fun _ _ _ => by kernel_rfl
  have hx : chosenH ham hs = hs[0]?.getD default := by unfold chosenH; rw [h0, chosenTo_zero ham]
  rw [Nat.zero_mul, Nat.add_zero] at hc0 hc1
  rw [hx]
  generalize hs[0]?.getD default = x at *
  rcases hh with rfl | rfl
  all_goals
    go_enter Try.func23, Try.ntmps23
    go_wp2
    go_rounds 1
    go_returns
    exact ⟨rfl, by go_grown⟩

set_option maxRecDepth 100000 in
set_option maxHeartbeats 1000000 in
theorem skip_chosen (a : Option Addr) (c : Nat) (hs : List Hp) (ham : Int) (w : World) (hr : HRow w a hs) (h0 : 0 < hs.length) (hl : hs.length ≤ 8) (hcap : hs.length ≤ c) (hh : ham = 0 ∨ ham = 1) :
    Calls Try.prog 23 #[.slice a hs.length c, .int .i64 ham] w fun e w' => e = .returned (chosenH ham hs).v ∧ Below w.heap.size w w' := by
  by_cases hc : c = 1
  · subst hc
    have h1 : hs.length = 1 := by omega
    rw [h1]
    exact skip_chosen_one a hs ham w hr h1 hh
  obtain ⟨b, off, rfl, hb, hc0, hc1⟩ := hr.at_ 0 h0
  have i0 : ∀ (x y : Value) (w : World), (Instr.index 80 (.agg #[x, y]) (.int .i64 0)).run Try.prog w = .ok x w := fun _ _ _ => by kernel_rfl
  have i1 : ∀ (x y : Value) (w : World), (Instr.index 80 (.agg #[x, y]) (.int .i64 1)).run Try.prog w = .ok y w := fun _ _ _ => by kernel_rfl
  rw [chosenTo_zero ham, Nat.zero_mul, Nat.add_zero] at hc0 hc1
  have hlen : (hs.length - 1 : Nat) ≤ 7 := by omega
  rcases hh with rfl | rfl
  · go_enter Try.func23, Try.ntmps23
    go_wp2
    go_loopw [18] (fun i wr => ∃ k : Nat, k ≤ hs.length - 1 ∧ i = .int .i64 k ∧ Below w.heap.size w wr ∧ Blk wr w.heap.size 33 [.int .i64 0, .int .i64 0] ∧
        Blk wr (w.heap.size + 1) 33 [.int .i64 (chosenTo 0 hs k).lo, .int .i64 (chosenTo 0 hs k).hi]) (fun i _ => hs.length - 1 - (intOf i).toNat)
    case atStart => exact ⟨0, Nat.zero_le _, rfl, by go_grown, (Blk.new _ _ [_, _]).alloc _, (by have := Blk.new (w.alloc (.cells #[.int .i64 0, .int .i64 0] 33)) 33 [.int .i64 (chosenTo 0 hs 0).lo, .int .i64 (chosenTo 0 hs 0).hi]; simpa using this)⟩
    case round =>
      obtain ⟨k, hk, rfl, hB, hb1, hb2⟩ := hrel
      have c10 := hb1.cell 0
      have c11 := hb1.cell 1
      have c20 := hb2.cell 0
      have c21 := hb2.cell 1
      have f10 := hb1.frozen 0
      have f11 := hb1.frozen 1
      have f20 := hb2.frozen 0
      have f21 := hb2.frozen 1
      have hz := hb2.lt
      dsimp only [List.getElem?_cons_zero, List.getElem?_cons_succ] at c10 c11 c20 c21
      by_cases hlt : k < hs.length - 1
      · obtain ⟨b', off', ha', _, hc0', hc1'⟩ := (hr.below hB).at_ (k + 1) (by omega)
        simp only [Option.some.injEq, Addr.mk.injEq, and_true] at ha'
        obtain ⟨rfl, rfl⟩ := ha'
        have HT := Lib.hid (chosenTo_succ 0 hs k (by omega))
        generalize hs[k + 1]?.getD default = x at *
        generalize chosenTo 0 hs k = y at *
        rw [show off + (k + 1) * 2 = off + 2 + k * 2 by omega] at hc0' hc1'
        go_wp2
        refine region_tail 13 (by kernel_rfl) (by kernel_rfl) ?_
        simp only [List.take_succ_cons, List.take_zero, List.drop_succ_cons, List.drop_zero]
        repeat (first | still_step | still_call ((chosen_1 _ _ _).mono fun _ _ ⟨h1, h2⟩ => ⟨h1, h2.symm⟩))
        refine wpStill_nil ?_
        go_wp2
        go_roundw
        case measure => simp only [intOf]; omega
        refine ⟨k + 1, by omega, by push_cast; rfl, by go_grown, ?_, ?_⟩
        · (repeat (first | assumption | refine Blk.drew ?_ | refine Blk.alloc ?_ _ | refine Blk.other ?_ (by first | (simp; done) | (simp; omega)) _))
        · rw [HT.out]
          exact (((hb2.set 0 (.int .i64 (max y.lo x.lo))).set 1 (.int .i64 (max y.hi x.hi))).alloc _).drew
      · obtain rfl : k = hs.length - 1 := by omega
        have e0 := (hb1.set 0 (.int .i64 (chosenH 0 hs).lo)).cell 0
        have e1 := ((hb1.set 0 (.int .i64 (chosenH 0 hs).lo)).set 1 (.int .i64 (chosenH 0 hs).hi)).cell 1
        simp only [List.set_cons_zero, List.set_cons_succ, List.getElem?_cons_zero, List.getElem?_cons_succ] at e0 e1
        rw [show chosenTo 0 hs (hs.length - 1) = chosenH 0 hs from rfl] at c20 c21
        go_wp2
        exact bodyPost_ret (v := (chosenH 0 hs).v) (by simp [results, Try.results23, go_sem, e0, e1, Hp.v]) rfl ⟨rfl, by go_grown⟩
  · go_enter Try.func23, Try.ntmps23
    go_wp2
    go_loopw [18] (fun i wr => ∃ k : Nat, k ≤ hs.length - 1 ∧ i = .int .i64 k ∧ Below w.heap.size w wr ∧ Blk wr w.heap.size 33 [.int .i64 0, .int .i64 0] ∧
        Blk wr (w.heap.size + 1) 33 [.int .i64 (chosenTo 1 hs k).lo, .int .i64 (chosenTo 1 hs k).hi]) (fun i _ => hs.length - 1 - (intOf i).toNat)
    case atStart => exact ⟨0, Nat.zero_le _, rfl, by go_grown, (Blk.new _ _ [_, _]).alloc _, (by have := Blk.new (w.alloc (.cells #[.int .i64 0, .int .i64 0] 33)) 33 [.int .i64 (chosenTo 1 hs 0).lo, .int .i64 (chosenTo 1 hs 0).hi]; simpa using this)⟩
    case round =>
      obtain ⟨k, hk, rfl, hB, hb1, hb2⟩ := hrel
      have c10 := hb1.cell 0
      have c11 := hb1.cell 1
      have c20 := hb2.cell 0
      have c21 := hb2.cell 1
      have f10 := hb1.frozen 0
      have f11 := hb1.frozen 1
      have f20 := hb2.frozen 0
      have f21 := hb2.frozen 1
      have hz := hb2.lt
      dsimp only [List.getElem?_cons_zero, List.getElem?_cons_succ] at c10 c11 c20 c21
      by_cases hlt : k < hs.length - 1
      · obtain ⟨b', off', ha', _, hc0', hc1'⟩ := (hr.below hB).at_ (k + 1) (by omega)
        simp only [Option.some.injEq, Addr.mk.injEq, and_true] at ha'
        obtain ⟨rfl, rfl⟩ := ha'
        have HT := Lib.hid (chosenTo_succ 1 hs k (by omega))
        generalize hs[k + 1]?.getD default = x at *
        generalize chosenTo 1 hs k = y at *
        rw [show off + (k + 1) * 2 = off + 2 + k * 2 by omega] at hc0' hc1'
        go_wp2
        refine region_tail 13 (by kernel_rfl) (by kernel_rfl) ?_
        simp only [List.take_succ_cons, List.take_zero, List.drop_succ_cons, List.drop_zero]
        repeat (first | still_step | still_call ((chosen_2 _ _ _).mono fun _ _ ⟨h1, h2⟩ => ⟨h1, h2.symm⟩))
        refine wpStill_nil ?_
        go_wp2
        go_roundw
        case measure => simp only [intOf]; omega
        refine ⟨k + 1, by omega, by push_cast; rfl, by go_grown, ?_, ?_⟩
        · (repeat (first | assumption | refine Blk.drew ?_ | refine Blk.alloc ?_ _ | refine Blk.other ?_ (by first | (simp; done) | (simp; omega)) _))
        · rw [HT.out]
          exact (((hb2.set 0 (.int .i64 (min y.lo x.lo))).set 1 (.int .i64 (min y.hi x.hi))).alloc _).drew
      · obtain rfl : k = hs.length - 1 := by omega
        have e0 := (hb1.set 0 (.int .i64 (chosenH 1 hs).lo)).cell 0
        have e1 := ((hb1.set 0 (.int .i64 (chosenH 1 hs).lo)).set 1 (.int .i64 (chosenH 1 hs).hi)).cell 1
        simp only [List.set_cons_zero, List.set_cons_succ, List.getElem?_cons_zero, List.getElem?_cons_succ] at e0 e1
        rw [show chosenTo 1 hs (hs.length - 1) = chosenH 1 hs from rfl] at c20 c21
        go_wp2
        exact bodyPost_ret (v := (chosenH 1 hs).v) (by simp [results, Try.results23, go_sem, e0, e1, Hp.v]) rfl ⟨rfl, by go_grown⟩
end Go.Proofs.Ytbppjebpnpgenaa

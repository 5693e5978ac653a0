/- The opening examples. -/
import Derived.Test.YtbppjebpnpgenaaB18
namespace Go.Proofs.Ytbppjebpnpgenaa
open Go Go.RowKit

theorem pair_good (b b1 b2 : Nat) : rivB (pairM b b1 b2) = true := by kernel_rfl
theorem pair_value (b b1 b2 : Nat) : hopeS (pairM b b1 b2) ⟨1, 1, 1⟩ = ⟨16384, 65536⟩ := by kernel_rfl
theorem pair_blank (b b1 b2 : Nat) : blankLo (pairM b b1 b2) ⟨2, 0, 0⟩ = -32768 ∧ blankHi (pairM b b1 b2) ⟨2, 0, 0⟩ = 49152 := ⟨by kernel_rfl, by kernel_rfl⟩
theorem next_ex : nextS ⟨2, 0, 0⟩ 3 = ⟨1, 3, 1⟩ := by kernel_rfl

theorem eq_hp (w : World) : (Op.equal 33 (.agg #[.int .i64 16384, .int .i64 65536]) (.agg #[.int .i64 16384, .int .i64 65536])).run Try.prog w = .ok true w := by kernel_rfl
theorem eq_st131 (w : World) : (Op.equal 27 (.agg #[.int .i64 1, .int .i64 3, .int .i64 1]) (.agg #[.int .i64 1, .int .i64 3, .int .i64 1])).run Try.prog w = .ok true w := by kernel_rfl

set_option maxRecDepth 100000 in
set_option maxHeartbeats 1000000 in
theorem alive_walk (w : World) : Calls Try.prog 4 #[] w fun e w' => e = .returned (.bool true) ∧ Below w.heap.size w w' := by
  have h1 := fun w => skip_Next ⟨2, 0, 0⟩ 3 w rfl (by decide) rfl
  rw [next_ex] at h1
  have h2 := fun b b1 b2 w hin => skip_Value (pairM b b1 b2) ⟨1, 1, 1⟩ w hin (pair_good b b1 b2) rfl
  have h3 := fun b b1 b2 w hin => skip_Blank (pairM b b1 b2) ⟨2, 0, 0⟩ w hin (pair_good b b1 b2) rfl (by decide)
  simp only [pair_value, (pair_blank _ _ _).1, (pair_blank _ _ _).2, show betterI (-32768) 49152 = 0 by decide] at h2 h3
  unfold St.v at h1 h2 h3
  dsimp only at h1 h2 h3
  have H1 := Lib.hid h1; clear h1
  have H2 := Lib.hid h2; clear h2
  have H3 := Lib.hid h3; clear h3
  have q1 := eq_hp
  have q2 := eq_st131
  go_enter Try.func4, Try.ntmps4
  go_wp2_with (first
    | (go_at_call 9; refine (H1.out _).mono ?_; rintro e W1 ⟨rfl, hb1⟩)
    | fail)
  have n1 := Blk.new W1 27 [.int .i64 1, .int .i64 3, .int .i64 1]
  have g1 := hb1.alloc hb1.size (.cells #[.int .i64 1, .int .i64 3, .int .i64 1] 27)
  generalize hV1 : W1.alloc (.cells #[.int .i64 1, .int .i64 3, .int .i64 1] 27) = V1 at n1 g1 ⊢
  generalize W1.heap.size = t1 at n1 ⊢
  clear hV1 hb1 W1
  refine (pair_walk V1).mono ?_
  rintro e W2 ⟨b, b1, b2, rfl, hin2, hb2⟩
  have n2 := n1.below hb2
  have g2 := g1.trans (hb2.mono g1.size)
  clear n1 g1 hb2
  have HE := H2.out b b1 b2 W2 hin2
  generalize (pairM b b1 b2).v = pv at HE ⊢
  clear hin2
  go_wp2_with fail
  refine HE.mono ?_
  rintro e W3 ⟨rfl, hb3⟩
  have n3 := n2.below hb3
  have g3 := g2.trans (hb3.mono g2.size)
  clear n2 g2 hb3 HE
  go_wp2_with fail
  have m3 := Blk.new W3 33 [.int .i64 16384, .int .i64 65536]
  have n4 := n3.alloc (.cells #[.int .i64 16384, .int .i64 65536] 33)
  have g4 := g3.alloc g3.size (.cells #[.int .i64 16384, .int .i64 65536] 33)
  generalize hV3 : W3.alloc (.cells #[.int .i64 16384, .int .i64 65536] 33) = V3 at m3 n4 g4 ⊢
  generalize W3.heap.size = t3 at m3 ⊢
  clear hV3 g3 n3 W3 W2
  refine (pair_walk V3).mono ?_
  rintro e W4 ⟨c, c1, c2, rfl, hin4, hb4⟩
  have n5 := n4.below hb4
  have m5 := m3.below hb4
  have g5 := g4.trans (hb4.mono g4.size)
  clear n4 m3 g4 hb4
  have HE := H3.out c c1 c2 W4 hin4
  generalize (pairM c c1 c2).v = pv' at HE ⊢
  clear hin4
  go_wp2_with fail
  refine HE.mono ?_
  rintro e W5 ⟨rfl, hb5⟩
  have n6 := n5.below hb5
  have m6 := m5.below hb5
  have g6 := g5.trans (hb5.mono g5.size)
  clear n5 m5 g5 hb5 HE V1 V3 H1 H2 H3
  have c0 := n6.cell 0
  have c1' := n6.cell 1
  have c2' := n6.cell 2
  have d0 := m6.cell 0
  have d1 := m6.cell 1
  dsimp only [List.getElem?_cons_zero, List.getElem?_cons_succ] at c0 c1' c2' d0 d1
  go_wp2
  go_ret
  exact ⟨rfl, g6⟩
end Go.Proofs.Ytbppjebpnpgenaa

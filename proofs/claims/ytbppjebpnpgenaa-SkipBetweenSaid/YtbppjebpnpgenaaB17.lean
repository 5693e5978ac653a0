/- What a law leaves out as too long. -/
import Derived.Test.YtbppjebpnpgenaaB16
namespace Go.Proofs.Ytbppjebpnpgenaa
open Go Go.RowKit

def LongR (m : RivV) (s : St) (n : Int) (w : World) (e : Ending) (w' : World) : Prop :=
  ∃ b, e = .returned (.bool b) ∧ (b = false → (SmallT m.s0 ∧ SmallT m.s1) ∧ ¬ (n < s.ends ∧ s.ends ≤ 12)) ∧ Below w.heap.size w w'

set_option maxRecDepth 100000 in
set_option maxHeartbeats 1000000 in
theorem long_walk (m : RivV) (s : St) (n : Int) (w : World) (hin : m.In w) :
    Calls Try.prog 5 #[m.v, s.v, .int .i64 n] w fun e w' => LongR m s n w e w' := by
  have hA : Below w.heap.size w ((w.alloc (.cells #[.int .i64 m.doubt, .slice m.s0.a m.s0.rows.length m.s0.c, .slice m.s1.a m.s1.rows.length m.s1.c] 25)).alloc (.cells #[.int .i64 s.ends, .int .i64 s.lead, .int .i64 s.ham] 27)) := by go_grown
  have hg := great_walk m _ (hin.below hA)
  have n1 := Lib.hid (Blk.new2 w (.cells #[.int .i64 m.doubt, .slice m.s0.a m.s0.rows.length m.s0.c, .slice m.s1.a m.s1.rows.length m.s1.c] 25) 27 [.int .i64 s.ends, .int .i64 s.lead, .int .i64 s.ham])
  unfold RivV.v TabV.v at hg
  have HG := Lib.hid hg; clear hg
  unfold RivV.v TabV.v St.v
  go_enter Try.func5, Try.ntmps5
  go_wp2_with fail
  refine HG.out.mono ?_
  rintro e W1 ⟨b, rfl, hb, hb1⟩
  have p1 := n1.out.below hb1
  have c0 := p1.cell 0
  have z1 := p1.lt
  dsimp only [List.getElem?_cons_zero] at c0
  have hw1 : Below w.heap.size w W1 := hA.trans (hb1.mono hA.size)
  have HB := Lib.hid hb; clear hb
  cases b
  · by_cases h1 : n < s.ends
    · by_cases h2 : s.ends ≤ 12
      · go_wp2
        go_ret
        exact ⟨true, rfl, by simp, hw1⟩
      · go_wp2
        go_ret
        exact ⟨false, ret_eq (by simp; omega), fun _ => ⟨HB.out trivial, by omega⟩, hw1⟩
    · go_wp2
      go_ret
      exact ⟨false, rfl, fun _ => ⟨HB.out trivial, by omega⟩, hw1⟩
  · go_wp2
    go_ret
    exact ⟨true, rfl, by simp, hw1⟩
end Go.Proofs.Ytbppjebpnpgenaa

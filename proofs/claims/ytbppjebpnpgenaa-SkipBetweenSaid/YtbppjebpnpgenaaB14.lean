/- The hope of rivals or of a state that are not valid. -/
import Derived.Test.YtbppjebpnpgenaaB13
namespace Go.Proofs.Ytbppjebpnpgenaa
open Go Go.RowKit

set_option maxRecDepth 100000 in
set_option maxHeartbeats 2000000 in
theorem skip_Value_bad (m : RivV) (s : St) (w : World) (hin : m.In w) (hm : (rivB m && stB s) = false) :
    Calls Try.prog 6 #[m.v, s.v] w fun e w' => e = .returned (.tuple #[.agg #[.int .i64 0, .int .i64 0], .int .i64 2]) ∧ Below w.heap.size w w' := by
  have hA : Below w.heap.size w (((w.alloc (.cells #[.int .i64 m.doubt, .slice m.s0.a m.s0.rows.length m.s0.c, .slice m.s1.a m.s1.rows.length m.s1.c] 25)).alloc (.cells #[.int .i64 s.ends, .int .i64 s.lead, .int .i64 s.ham] 27)).alloc (.cells #[.int .i64 0, .int .i64 0] 33)) := by go_grown
  have n0 := Lib.hid (((Blk.new w 25 [.int .i64 m.doubt, .slice m.s0.a m.s0.rows.length m.s0.c, .slice m.s1.a m.s1.rows.length m.s1.c]).alloc (.cells #[.int .i64 s.ends, .int .i64 s.lead, .int .i64 s.ham] 27)).alloc (.cells #[.int .i64 0, .int .i64 0] 33))
  have n1 := Lib.hid ((Blk.new2 w (.cells #[.int .i64 m.doubt, .slice m.s0.a m.s0.rows.length m.s0.c, .slice m.s1.a m.s1.rows.length m.s1.c] 25) 27 [.int .i64 s.ends, .int .i64 s.lead, .int .i64 s.ham]).alloc (.cells #[.int .i64 0, .int .i64 0] 33))
  have n2 := Lib.hid (Blk.new3 w (.cells #[.int .i64 m.doubt, .slice m.s0.a m.s0.rows.length m.s0.c, .slice m.s1.a m.s1.rows.length m.s1.c] 25) (.cells #[.int .i64 s.ends, .int .i64 s.lead, .int .i64 s.ham] 27) 33 [.int .i64 0, .int .i64 0])
  have hr := skip_right m s _ (hin.below hA)
  rw [hm] at hr
  unfold RivV.v TabV.v at hr
  unfold St.v at hr
  unfold RivV.v TabV.v St.v
  have HR := Lib.hid hr; clear hr
  clear hm
  go_enter Try.func6, Try.ntmps6
  go_wp2_with (first
    | (go_at_call 13; refine (HR.out).mono ?_; rintro e W1 ⟨rfl, hb1⟩
       have p0 := n0.out.below hb1
       have p1 := n1.out.below hb1
       have p2 := n2.out.below hb1
       have c20 := p2.cell 0
       have c21 := p2.cell 1
       have f20 := p2.frozen 0
       have f21 := p2.frozen 1
       have e0 := (p2.set 0 (.int .i64 0)).cell 0
       have e1 := ((p2.set 0 (.int .i64 0)).set 1 (.int .i64 0)).cell 1
       have z0 := p0.lt
       have z1 := p1.lt
       have z2 := p2.lt
       dsimp only [List.getElem?_cons_zero, List.getElem?_cons_succ, List.set_cons_zero, List.set_cons_succ] at c20 c21 e0 e1)
    | fail)
  have hA1 : Below w.heap.size w W1 := hA.trans (hb1.mono hA.size)
  refine bodyPost_ret (v := .tuple #[.agg #[.int .i64 0, .int .i64 0], .int .i64 2]) (by simp [results, Try.results6, go_sem, e0, e1]) rfl ⟨rfl, ?_⟩
  exact (hA1.setCell (by simp; omega) _).setCell (by simp; omega) _
end Go.Proofs.Ytbppjebpnpgenaa

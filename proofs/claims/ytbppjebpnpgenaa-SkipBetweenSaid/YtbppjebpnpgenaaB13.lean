/- The hope of a state, as the program tells it. -/
import Derived.Test.YtbppjebpnpgenaaB12
import Derived.Test.YtbppjebpnpgenaaR1
import Derived.Deep.RegionHeld3
import Derived.Deep.DrawnRows
namespace Go.Proofs.Ytbppjebpnpgenaa
open Go Go.RowKit
attribute [local go_sem ↓] Go.wp_at_zero Go.wp_at_succ

theorem skip_right (m : RivV) (s : St) (w : World) (hin : m.In w) :
    Calls Try.prog 13 #[m.v, s.v] w fun e w' => e = .returned (.bool (rivB m && stB s)) ∧ Below w.heap.size w w' := by
  have hA : Below w.heap.size w ((w.alloc (.cells #[.int .i64 m.doubt, .slice m.s0.a m.s0.rows.length m.s0.c, .slice m.s1.a m.s1.rows.length m.s1.c] 25)).alloc (.cells #[.int .i64 s.ends, .int .i64 s.lead, .int .i64 s.ham] 27)) := by go_grown
  have h1 := checkRivals m _ (hin.below hA)
  have h2 := fun W => checkState s W
  have n0 := (Blk.new w 25 [.int .i64 m.doubt, .slice m.s0.a m.s0.rows.length m.s0.c, .slice m.s1.a m.s1.rows.length m.s1.c]).alloc (.cells #[.int .i64 s.ends, .int .i64 s.lead, .int .i64 s.ham] 27)
  have n1 := Blk.new2 w (.cells #[.int .i64 m.doubt, .slice m.s0.a m.s0.rows.length m.s0.c, .slice m.s1.a m.s1.rows.length m.s1.c] 25) 27 [.int .i64 s.ends, .int .i64 s.lead, .int .i64 s.ham]
  have N1 := Lib.hid n1; clear n1 n0
  unfold RivV.v TabV.v at h1
  unfold St.v at h2
  unfold RivV.v TabV.v St.v
  cases hr : rivB m <;> cases hs : stB s <;> simp only [hr, hs, okErr, if_true, if_false, Bool.false_eq_true] at h1 h2
  all_goals
    have H1 := Lib.hid h1; clear h1
    have H2 := Lib.hid h2; clear h2
    go_enter Try.func13, Try.ntmps13
    go_wp2_with (first
      | (go_at_call 19; refine (H1.out).mono ?_; rintro e W1 ⟨rfl, hb1⟩
         have p1 := N1.out.below hb1
         have c0 := p1.cell 0
         have c1 := p1.cell 1
         have c2 := p1.cell 2
         have z1 := p1.lt
         dsimp only [List.getElem?_cons_zero, List.getElem?_cons_succ] at c0 c1 c2)
      | (go_at_call 16; refine (H2.out _).mono ?_; rintro e W2 ⟨rfl, hb2⟩))
    go_ret
  · exact ⟨rfl, hA.trans (hb1.mono hA.size)⟩
  · exact ⟨rfl, hA.trans (hb1.mono hA.size)⟩
  · exact ⟨rfl, hA.trans ((hb1.trans (hb2.mono hb1.size)).mono hA.size)⟩
  · exact ⟨rfl, hA.trans ((hb1.trans (hb2.mono hb1.size)).mono hA.size)⟩

set_option maxRecDepth 100000 in
set_option maxHeartbeats 2000000 in
theorem skip_Value (m : RivV) (s : St) (w : World) (hin : m.In w) (hm : rivB m = true) (hs : stB s = true) :
    Calls Try.prog 6 #[m.v, s.v] w fun e w' => e = .returned (.tuple #[.agg #[.int .i64 (hopeS m s).lo, .int .i64 (hopeS m s).hi], .int .i64 0]) ∧ Below w.heap.size w w' := by
  have hA : Below w.heap.size w (((w.alloc (.cells #[.int .i64 m.doubt, .slice m.s0.a m.s0.rows.length m.s0.c, .slice m.s1.a m.s1.rows.length m.s1.c] 25)).alloc (.cells #[.int .i64 s.ends, .int .i64 s.lead, .int .i64 s.ham] 27)).alloc (.cells #[.int .i64 0, .int .i64 0] 33)) := by go_grown
  have n0 := Lib.hid (((Blk.new w 25 [.int .i64 m.doubt, .slice m.s0.a m.s0.rows.length m.s0.c, .slice m.s1.a m.s1.rows.length m.s1.c]).alloc (.cells #[.int .i64 s.ends, .int .i64 s.lead, .int .i64 s.ham] 27)).alloc (.cells #[.int .i64 0, .int .i64 0] 33))
  have n1 := Lib.hid ((Blk.new2 w (.cells #[.int .i64 m.doubt, .slice m.s0.a m.s0.rows.length m.s0.c, .slice m.s1.a m.s1.rows.length m.s1.c] 25) 27 [.int .i64 s.ends, .int .i64 s.lead, .int .i64 s.ham]).alloc (.cells #[.int .i64 0, .int .i64 0] 33))
  have n2 := Lib.hid (Blk.new3 w (.cells #[.int .i64 m.doubt, .slice m.s0.a m.s0.rows.length m.s0.c, .slice m.s1.a m.s1.rows.length m.s1.c] 25) (.cells #[.int .i64 s.ends, .int .i64 s.lead, .int .i64 s.ham] 27) 33 [.int .i64 0, .int .i64 0])
  have hr := skip_right m s _ (hin.below hA)
  rw [hm, hs] at hr
  have hg := goodM hm
  have hk := fun W (hW : m.In W) => skip_reckon m W hW hg
  have hh := fun rb rp kb bm w0 W (hW : Reck m w0 rb rp kb bm W) => hope_at m w0 rb rp kb bm _ s rfl hs W hW
  unfold RivV.v TabV.v at hk hr
  unfold St.v at hh hr
  unfold RivV.v TabV.v St.v
  have HR := Lib.hid hr; clear hr
  have HK := Lib.hid hk; clear hk
  have HH := Lib.hid hh; clear hh
  clear hm hs hg
  generalize hopeS m s = hop at *
  go_enter Try.func6, Try.ntmps6
  go_wp2_with (first
    | (go_at_call 13; refine (HR.out).mono ?_; rintro e W1 ⟨rfl, hb1⟩
       have p0 := n0.out.below hb1
       have p1 := n1.out.below hb1
       have p2 := n2.out.below hb1
       have c00 := p0.cell 0
       have c01 := p0.cell 1
       have c02 := p0.cell 2
       have c10 := p1.cell 0
       have c11 := p1.cell 1
       have c12 := p1.cell 2
       have z0 := p0.lt
       have z1 := p1.lt
       have z2 := p2.lt
       dsimp only [List.getElem?_cons_zero, List.getElem?_cons_succ] at c00 c01 c02 c10 c11 c12)
    | fail)
  have hA1 : Below w.heap.size w W1.drew := hA.trans ((hb1.mono hA.size).trans (Below.drew (Below.refl _ _)))
  have hin1 := hin.below hA1
  refine wp_region_held_drew (S := (fun V => V.cell? ⟨w.heap.size, 0, none⟩ = some (.int .i64 m.doubt) ∧ V.cell? ⟨w.heap.size, 1, none⟩ = some (.slice m.s0.a m.s0.rows.length m.s0.c) ∧ V.cell? ⟨w.heap.size, 2, none⟩ = some (.slice m.s1.a m.s1.rows.length m.s1.c) ∧
      V.cell? ⟨w.heap.size + 1, 0, none⟩ = some (.int .i64 s.ends) ∧ V.cell? ⟨w.heap.size + 1, 1, none⟩ = some (.int .i64 s.lead) ∧ V.cell? ⟨w.heap.size + 1, 2, none⟩ = some (.int .i64 s.ham))) (by kernel_rfl) ?_ (fun hHeld => ?_)
  · go_keep
  refine wpAnyH_takeL 0 (v := ?_) rfl (by kernel_rfl) (by kernel_rfl) (by kernel_rfl) (fun _ _ _ h => h) (by assumption) (by rfl) ?hy ?_
  case hy => (intro V hSw; (try dsimp only at hSw); go_simp; try with_reducible rfl)
  (try simp only [Act.put, List.setIfInBounds_toArray, List.set_cons_zero, List.set_cons_succ])
  refine wpAnyH_takeL 5 (v := ?_) rfl (by kernel_rfl) (by kernel_rfl) (by kernel_rfl) (fun _ _ _ h => h) (by assumption) (by rfl) ?hy ?_
  case hy => (intro V hSw; (try dsimp only at hSw); go_simp; try with_reducible rfl)
  (try simp only [Act.put, List.setIfInBounds_toArray, List.set_cons_zero, List.set_cons_succ])
  refine wpAnyH_ready (rs := [1]) (by kernel_rfl) (by simp) ?_
  refine allReady_cons 1 rfl (fun K hK => ?_) AllReadyH.nil
  go_simp
  go_at_call 14; refine (HK.out _ hin1).mono ?_; rintro e W2 ⟨rb, rp, kb, bm, rfl, hR2, hb2⟩
  have x0 := p0.drew.below hb2
  have x1 := p1.drew.below hb2
  have x2 := p2.drew.below hb2
  have cf := hR2.rcd.cell 3
  have zf := hR2.lt.1
  dsimp only [List.getElem?_cons_zero, List.getElem?_cons_succ, hopeF] at cf
  go_wp2_with fail
  refine hK.out _ _ ?_ (fun hHeld => ?_)
  · exact ⟨x0.cell 0, x0.cell 1, x0.cell 2, x1.cell 0, x1.cell 1, x1.cell 2⟩
  clear hK K
  (try simp only [Act.put, List.setIfInBounds_toArray, List.set_cons_zero, List.set_cons_succ])
  refine wpAnyH_takeL 2 (v := ?_) rfl (by kernel_rfl) (by kernel_rfl) (by kernel_rfl) (fun _ _ _ h => h) (by assumption) (by rfl) ?hy ?_
  case hy => (intro V hSw; (try dsimp only at hSw); go_simp; try with_reducible rfl)
  (try simp only [Act.put, List.setIfInBounds_toArray, List.set_cons_zero, List.set_cons_succ])
  refine wpAnyH_takeL 3 (v := ?_) rfl (by kernel_rfl) (by kernel_rfl) (by kernel_rfl) (fun _ _ _ h => h) (by assumption) (by rfl) ?hy ?_
  case hy => (intro V hSw; (try dsimp only at hSw); go_simp; try with_reducible rfl)
  (try simp only [Act.put, List.setIfInBounds_toArray, List.set_cons_zero, List.set_cons_succ])
  refine wpAnyH_ready (rs := [4]) (by kernel_rfl) (by simp) ?_
  refine allReady_cons 4 rfl (fun K hK => ?_) AllReadyH.nil
  go_simp
  refine hK.out _ _ ?_ (fun hHeld => ?_)
  · exact ⟨x0.cell 0, x0.cell 1, x0.cell 2, x1.cell 0, x1.cell 1, x1.cell 2⟩
  clear hK K
  (try simp only [Act.put, List.setIfInBounds_toArray, List.set_cons_zero, List.set_cons_succ])
  refine wpAnyH_ready (rs := [6]) (by kernel_rfl) (by simp) ?_
  refine allReady_cons 6 rfl (fun K hK => ?_) AllReadyH.nil
  go_simp
  go_at_call 20; refine (HH.out _ _ _ _ _ _ hR2).mono ?_; rintro e W3 ⟨rfl, hx3, hR3⟩
  have lbm := hR2.lbm
  have y0 := x0.bx hx3 x0.lt (by have := hR2.lbm; have := z2; simp at *; omega)
  have y1 := x1.bx hx3 x1.lt (by have := hR2.lbm; have := z2; simp at *; omega)
  have y2 := x2.bx hx3 x2.lt (by have := hR2.lbm; have := z2; simp at *; omega)
  have d20 := y2.cell 0
  have d21 := y2.cell 1
  have f20 := y2.frozen 0
  have f21 := y2.frozen 1
  have w2 := y2.lt
  have u0 := (y0.other (a := ⟨w.heap.size + 1 + 1, 0, none⟩) (by simp <;> omega) (.int .i64 hop.lo)).other (a := ⟨w.heap.size + 1 + 1, 1, none⟩) (by simp <;> omega) (.int .i64 hop.hi)
  have u1 := (y1.other (a := ⟨w.heap.size + 1 + 1, 0, none⟩) (by simp) (.int .i64 hop.lo)).other (a := ⟨w.heap.size + 1 + 1, 1, none⟩) (by simp) (.int .i64 hop.hi)
  have u2 := (y2.set 0 (.int .i64 hop.lo)).set 1 (.int .i64 hop.hi)
  dsimp only [List.getElem?_cons_zero, List.getElem?_cons_succ] at d20 d21
  go_wp2_with fail
  refine hK.out _ _ ?_ (fun hHeld => ?_)
  · exact ⟨y0.cell 0, y0.cell 1, y0.cell 2, y1.cell 0, y1.cell 1, y1.cell 2⟩
  clear hK K
  (try simp only [Act.put, List.setIfInBounds_toArray, List.set_cons_zero, List.set_cons_succ])
  refine wpAnyH_ready (rs := [7]) (by kernel_rfl) (by simp) ?_
  refine allReady_cons 7 rfl (fun K hK => ?_) AllReadyH.nil
  go_simp
  refine hK.out _ _ ?_ (fun hHeld => ?_)
  · exact ⟨u0.cell 0, u0.cell 1, u0.cell 2, u1.cell 0, u1.cell 1, u1.cell 2⟩
  clear hK K
  (try simp only [Act.put, List.setIfInBounds_toArray, List.set_cons_zero, List.set_cons_succ])
  refine wpAnyH_takeL 8 (v := ?_) rfl (by kernel_rfl) (by kernel_rfl) (by kernel_rfl) (fun _ _ _ h => h) (by assumption) (by rfl) ?hy ?_
  case hy => (intro V hSw; (try dsimp only at hSw); go_simp; try with_reducible rfl)
  (try simp only [Act.put, List.setIfInBounds_toArray, List.set_cons_zero, List.set_cons_succ])
  refine wpAnyH_done (by kernel_rfl) ?_ _
  go_wp2
  have e0 := (y2.set 0 (.int .i64 hop.lo)).cell 0
  have e1 := ((y2.set 0 (.int .i64 hop.lo)).set 1 (.int .i64 hop.hi)).cell 1
  simp only [List.set_cons_zero, List.set_cons_succ, List.getElem?_cons_zero, List.getElem?_cons_succ] at e0 e1
  have hw2 : Below w.heap.size w W2 := hA1.trans (hb2.mono hA1.size)
  have hw3 : Below w.heap.size w W3 := hw2.trans (hx3.below hw2.size (Nat.le_trans hA1.size lbm))
  refine bodyPost_ret (v := .tuple #[.agg #[.int .i64 hop.lo, .int .i64 hop.hi], .int .i64 0]) (by simp [results, Try.results6, go_sem, e0, e1]) rfl ⟨rfl, ?_⟩
  exact (hw3.setCell (by simp; omega) _).setCell (by simp; omega) _
end Go.Proofs.Ytbppjebpnpgenaa

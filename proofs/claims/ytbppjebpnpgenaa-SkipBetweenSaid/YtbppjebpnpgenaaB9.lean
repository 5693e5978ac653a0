/- A reckoning as it lies; the iterator over what may follow. -/
import Derived.Test.YtbppjebpnpgenaaB8
import Derived.Deep.RegionHeld3
import Derived.LoopIn
import Derived.TacticsIn
import Derived.Deep.DrawnRows
namespace Go.Proofs.Ytbppjebpnpgenaa
open Go Go.RowKit
attribute [local go_sem ↓] Go.wp_at_zero Go.wp_at_succ

def ptr (b : Nat) : Value := .pointer (some ⟨b, 0, none⟩)
/-- The closure that reckons a hope. -/
def hopeF (kb rp : Nat) : Value := .func (.func 20) #[] #[.pointer (some ⟨kb, 0, none⟩), .pointer (some ⟨rp, 0, none⟩)]

/-- A reckoning as it lies in w: its blocks, new since w0; what its map holds is right. -/
structure Reck (m : RivV) (w0 : World) (rb rp kb bm : Nat) (w : World) : Prop where
  below : Below w0.heap.size w0 w
  data : m.In w0
  good : GoodM m
  lbm : w0.heap.size ≤ bm
  rcd : Blk w rb 53 [.int .i64 m.doubt, m.s0.v, m.s1.v, hopeF kb rp]
  rptr : Blk w rp 54 [.pointer (some ⟨rb, 0, none⟩)]
  known : Blk w kb 63 [.map (some bm)]
  map : ∃ ents, MapAt w bm ents ∧ ∀ s v, getL s ents = some v → v = (hopeS m s).v

section
variable {m : RivV} {w0 w w' : World} {rb rp kb bm : Nat}
theorem MapAt.lt {w : World} {b : Nat} {ents : List (St × Value)} (h : MapAt w b ents) : b < w.heap.size := by
  obtain ⟨es, clock, hb, _⟩ := h
  exact (Array.getElem?_eq_some_iff.1 hb).1
theorem MapAt.kept {w w' : World} {b : Nat} {ents : List (St × Value)} (h : MapAt w b ents) (he : w'.heap[b]? = w.heap[b]?) : MapAt w' b ents := by
  obtain ⟨es, clock, hb, hx⟩ := h
  exact ⟨es, clock, he.trans hb, hx⟩
theorem Reck.ne (h : Reck m w0 rb rp kb bm w) : rb ≠ bm ∧ rp ≠ bm ∧ kb ≠ bm := by
  obtain ⟨ents, hm, _⟩ := h.map
  exact ⟨h.rcd.ne_map hm, h.rptr.ne_map hm, h.known.ne_map hm⟩
theorem Reck.lt (h : Reck m w0 rb rp kb bm w) : rb < w.heap.size ∧ rp < w.heap.size ∧ kb < w.heap.size ∧ bm < w.heap.size := by
  obtain ⟨ents, hm, _⟩ := h.map
  exact ⟨h.rcd.lt, h.rptr.lt, h.known.lt, hm.lt⟩
theorem Reck.step {B : Nat} (h : Reck m w0 rb rp kb bm w) (hB : Below B w w') (h0 : w0.heap.size ≤ B) (h1 : rb < B) (h2 : rp < B) (h3 : kb < B) (h4 : bm < B) : Reck m w0 rb rp kb bm w' := by
  obtain ⟨ents, hm, he⟩ := h.map
  exact ⟨h.below.trans (hB.mono h0), h.data, h.good, h.lbm, (hB.block rb h1).trans h.rcd, (hB.block rp h2).trans h.rptr, (hB.block kb h3).trans h.known, ents, hm.kept (hB.block bm h4), he⟩
theorem Reck.next (h : Reck m w0 rb rp kb bm w) (hB : Below w.heap.size w w') : Reck m w0 rb rp kb bm w' := by
  obtain ⟨h1, h2, h3, h4⟩ := h.lt
  exact h.step hB h.below.size h1 h2 h3 h4
theorem Reck.inM (h : Reck m w0 rb rp kb bm w) : m.In w := h.data.below h.below
end

theorem pts_gain (_s : St) (k : Nat) : pts k = (k : Int) - 8 := rfl

set_option maxRecDepth 100000 in
set_option maxHeartbeats 2000000 in
theorem nexts_gives (m : RivV) (w0 : World) (rb rp kb bm : Nat) (s : St) (w : World) (bs br : Nat) (hR : Reck m w0 rb rp kb bm w) (hbs : Blk w bs 27 [.int .i64 s.ends, .int .i64 s.lead, .int .i64 s.ham]) (hbr : Blk w br 54 [.pointer (some ⟨rb, 0, none⟩)])
    (hs : stB s = true)
    (hh : ∀ p W, 0 < s.ends → -8 ≤ p → p ≤ 8 → Reck m w0 rb rp kb bm W → w.heap.size ≤ W.heap.size → Calls Try.prog 20 #[(nextS s p).v, .pointer (some ⟨kb, 0, none⟩), .pointer (some ⟨rp, 0, none⟩)] W fun e W' =>
      e = .returned (.agg #[.int .i64 (hopeS m (nextS s p)).lo, .int .i64 (hopeS m (nextS s p)).hi]) ∧ BX W.heap.size bm W W' ∧ Reck m w0 rb rp kb bm W') :
    GivesH 36 #[.pointer (some ⟨bs, 0, none⟩), .pointer (some ⟨br, 0, none⟩)] (nextsH (hopeS m) s) bm (Reck m w0 rb rp kb bm) w := by
  intro l J W hW hRW hJ hY h0
  have hn17 := nextsH_len (hopeS m) s
  rw [hn17] at hY
  have hnx : ∀ k, k < 17 → (nextsH (hopeS m) s)[k]?.getD default = nextH (hopeS m) s k := nextsH_get _ _
  rw [hn17]
  generalize nextsH (hopeS m) s = hs' at *
  obtain ⟨ends, lead, ham⟩ := s
  have HH := Lib.hid hh; clear hh
  have HY := Lib.hid hY; clear hY
  have HJ := Lib.hid hJ; clear hJ
  have HN := Lib.hid hnx; clear hnx
  obtain ⟨e1, e2, e3, e4, e5⟩ := stB_spec hs
  dsimp only at e1 e2 e3 e4 e5 hbs
  refine (callsIn_wide (n := 0)).1 ?_
  have hw1 : ∀ f, Fence.wide.fn f := fun _ => trivial
  have hw2 : Fence.wide.depth = none := rfl
  refine callsIn_of_wp Try.func36 rfl trivial ?_
  simp only [Try.ntmps36, List.size_toArray, List.length_cons, List.length_nil, Nat.reduceAdd, Nat.reduceSub, Array.replicate_succ, Array.replicate_zero, List.push_toArray, List.append_toArray, List.nil_append, List.cons_append]
  gi_wp2
  gi_loopw [4] (fun i wr => ∃ k : Nat, k ≤ 17 ∧ i = .int .i64 ((k : Int) - 8) ∧ J k wr ∧ Reck m w0 rb rp kb bm wr ∧ BX w.heap.size bm w wr) (fun i _ => (9 - intOf i).toNat)
  case atStart => exact ⟨0, by omega, rfl, h0, hRW, BX.of_below hW⟩
  case round =>
    obtain ⟨k, hk, rfl, hJk, hRk, hBk⟩ := hrel
    have ne := hR.ne
    have nbs := hbs.ne_map hR.map.choose_spec.1
    have nbr := hbr.ne_map hR.map.choose_spec.1
    have qs := hbs.bx hBk hbs.lt nbs
    have qr := hbr.bx hBk hbr.lt nbr
    have cs0 := qs.cell 0
    have cs1 := qs.cell 1
    have cs2 := qs.cell 2
    have cr := qr.cell 0
    have cf := hRk.rcd.cell 3
    dsimp only [List.getElem?_cons_zero, List.getElem?_cons_succ, hopeF] at cs0 cs1 cs2 cr cf
    have zs := qs.lt
    have zr := qr.lt
    have zf := hRk.lt.1
    have hsure : ∀ b w, CallsIn Fence.wide 0 Try.prog 21 #[.bool b] w fun e w' => e = .returned (.agg #[.int .i64 (sureH b).lo, .int .i64 (sureH b).hi]) ∧ Below w.heap.size w w' := fun b w => callsIn_wide.2 (skip_sure b w)
    by_cases hlt : k < 17
    · have hnk := HN.out k hlt
      have hk3 : 8 < k ∨ k = 8 ∨ k < 8 := by omega
      by_cases hen : 0 < ends
      · have hpos : (0 < ends) = True := by simp [hen]
        rcases e5 with rfl | rfl <;> rcases hk3 with k3 | k3 | k3
        all_goals
          gi_wp2_with (gi_at_call 21; refine (hsure _ _).mono ?_; rintro e W1 ⟨rfl, hb1⟩; obtain ⟨hc, hf⟩ := bcell hb1; have hz1 := hb1.size; have zs1 := Nat.lt_of_lt_of_le zs hz1; have zr1 := Nat.lt_of_lt_of_le zr hz1; have zf1 := Nat.lt_of_lt_of_le zf hz1)
        · refine wpIn_wide.2 ?_
          have zs2 := Nat.lt_succ_of_lt zs1
          have zr2 := Nat.lt_succ_of_lt zr1
          have zf2 := Nat.lt_succ_of_lt zf1
          have HR1 := Lib.hid (hRk.next hb1)
          go_region_held3 (fun V => V.cell? ⟨br, 0, none⟩ = some (.pointer (some ⟨rb, 0, none⟩)) ∧ V.cell? ⟨rb, 3, none⟩ = some (.func (.func 20) #[] #[.pointer (some ⟨kb, 0, none⟩), .pointer (some ⟨rp, 0, none⟩)]) ∧
              V.cell? ⟨bs, 0, none⟩ = some (.int .i64 ends) ∧ V.cell? ⟨bs, 1, none⟩ = some (.int .i64 lead) ∧ V.cell? ⟨bs, 2, none⟩ = some (.int .i64 0))
            (first | go_keep | exact ⟨(qr.bx hx3' zr nbr).cell 0, hR3.rcd.cell 3, (qs.bx hx3' zs nbs).cell 0, (qs.bx hx3' zs nbs).cell 1, (qs.bx hx3' zs nbs).cell 2⟩ | exact ⟨(((qr.bx hx3' zr nbr).other (Nat.ne_of_lt zr1) _).other (Nat.ne_of_lt zr1) _).cell 0, (((hR3.rcd).other (Nat.ne_of_lt zf1) _).other (Nat.ne_of_lt zf1) _).cell 3, (((qs.bx hx3' zs nbs).other (Nat.ne_of_lt zs1) _).other (Nat.ne_of_lt zs1) _).cell 0, (((qs.bx hx3' zs nbs).other (Nat.ne_of_lt zs1) _).other (Nat.ne_of_lt zs1) _).cell 1, (((qs.bx hx3' zs nbs).other (Nat.ne_of_lt zs1) _).other (Nat.ne_of_lt zs1) _).cell 2⟩)
            (first
              | (go_at_call 18; refine (skip_next ⟨ends, lead, 0⟩ _ _ hs (by omega) (by omega)).mono ?_; rintro e W2 ⟨rfl, hb2⟩; obtain ⟨hc2, hf2⟩ := bcell hb2; have HR2 := Lib.hid ((HR1.out.next (by go_grown)).next hb2); have hw2 : Below wr.heap.size wr W2 := Below.trans (by go_grown) (hb2.mono (by simp; omega)); have q2 := (Blk.new W1 33 [.int .i64 (sureH true).lo, .int .i64 (sureH true).hi]).drew.below hb2)
              | (go_at_call 20; refine (HH.out _ _ hen (by omega) (by omega) HR2.out (by have := hb2.size; have := hBk.size; simp at *; omega)).mono ?_; rintro e W3 ⟨rfl, hx3, hR3⟩; have hx3' : BX wr.heap.size bm wr W3 := (BX.of_below hw2).trans (hx3.mono hw2.size); have q3 := q2.bx hx3 (by have := hb2.size; simp at this; omega) (by have := hRk.lt; omega); have c30 := q3.cell 0; have c31 := q3.cell 1; have f30 := q3.frozen 0; have f31 := q3.frozen 1; have z3 := q3.lt; dsimp only [List.getElem?_cons_zero, List.getElem?_cons_succ] at c30 c31))
          have q4 := (q3.set 0 (.int .i64 (hopeS m (nextS ⟨ends, lead, 0⟩ (↑k - 8))).lo)).set 1 (.int .i64 (hopeS m (nextS ⟨ends, lead, 0⟩ (↑k - 8))).hi)
          dsimp only [List.set_cons_zero, List.set_cons_succ] at q4
          have hB4 : Below wr.heap.size W3 ((W3.setCell ⟨W1.heap.size, 0, none⟩ (.int .i64 (hopeS m (nextS ⟨ends, lead, 0⟩ (↑k - 8))).lo)).setCell ⟨W1.heap.size, 1, none⟩ (.int .i64 (hopeS m (nextS ⟨ends, lead, 0⟩ (↑k - 8))).hi)) := Below.setCell (Below.setCell (Below.refl _ _) hz1 _) hz1 _
          generalize (W3.setCell ⟨W1.heap.size, 0, none⟩ (.int .i64 (hopeS m (nextS ⟨ends, lead, 0⟩ (↑k - 8))).lo)).setCell ⟨W1.heap.size, 1, none⟩ (.int .i64 (hopeS m (nextS ⟨ends, lead, 0⟩ (↑k - 8))).hi) = W4 at *
          have hx4 : BX wr.heap.size bm wr W4 := hx3'.trans (BX.of_below hB4)
          have hR4 := hR3.step hB4 hRk.below.size hRk.lt.1 hRk.lt.2.1 hRk.lt.2.2.1 hRk.lt.2.2.2
          have hval : (nextH (hopeS m) ⟨ends, lead, 0⟩ k).v = .agg #[.int .i64 (hopeS m (nextS ⟨ends, lead, 0⟩ (↑k - 8))).lo, .int .i64 (hopeS m (nextS ⟨ends, lead, 0⟩ (↑k - 8))).hi] := by
            rw [nextH, if_pos hen]; rfl
          clear hR3 q3 q2 c30 c31 f30 f31 hx3 hx3'
          have c40 := q4.cell 0
          have c41 := q4.cell 1
          have z4 := q4.lt
          dsimp only [List.getElem?_cons_zero, List.getElem?_cons_succ] at c40 c41
          obtain ⟨l1, l2, l3, l4⟩ := hR.lt
          have hJ4 := HJ.out k wr W4 hJk hx4
          have hy := HY.out k W4 hlt hJ4
          rw [hnk, hval] at hy
          obtain ⟨fn, tmps, assign, body, hy, hY'⟩ := hy
          have hb4 := hBk.trans (hx4.mono hBk.size)
          clear hJk hRk hBk hx4 hJ4 cs0 cs1 cs2 cr cf
          gi_wp2
          refine hY'.mono ?_
          rintro e W5 ⟨rfl, hJ5, hb5⟩
          gi_wp2
          go_roundw
          case measure => simp only [intOf]; omega
          exact ⟨k + 1, by omega, by push_cast; congr 1; omega, hJ5, hR4.step hb5 hR.below.size l1 l2 l3 l4, hb4.trans (BX.of_below hb5)⟩
        · refine wpIn_wide.2 ?_
          have zs2 := Nat.lt_succ_of_lt zs1
          have zr2 := Nat.lt_succ_of_lt zr1
          have zf2 := Nat.lt_succ_of_lt zf1
          have HR1 := Lib.hid (hRk.next hb1)
          go_region_held3 (fun V => V.cell? ⟨br, 0, none⟩ = some (.pointer (some ⟨rb, 0, none⟩)) ∧ V.cell? ⟨rb, 3, none⟩ = some (.func (.func 20) #[] #[.pointer (some ⟨kb, 0, none⟩), .pointer (some ⟨rp, 0, none⟩)]) ∧
              V.cell? ⟨bs, 0, none⟩ = some (.int .i64 ends) ∧ V.cell? ⟨bs, 1, none⟩ = some (.int .i64 lead) ∧ V.cell? ⟨bs, 2, none⟩ = some (.int .i64 0))
            (first | go_keep | exact ⟨(qr.bx hx3' zr nbr).cell 0, hR3.rcd.cell 3, (qs.bx hx3' zs nbs).cell 0, (qs.bx hx3' zs nbs).cell 1, (qs.bx hx3' zs nbs).cell 2⟩ | exact ⟨(((qr.bx hx3' zr nbr).other (Nat.ne_of_lt zr1) _).other (Nat.ne_of_lt zr1) _).cell 0, (((hR3.rcd).other (Nat.ne_of_lt zf1) _).other (Nat.ne_of_lt zf1) _).cell 3, (((qs.bx hx3' zs nbs).other (Nat.ne_of_lt zs1) _).other (Nat.ne_of_lt zs1) _).cell 0, (((qs.bx hx3' zs nbs).other (Nat.ne_of_lt zs1) _).other (Nat.ne_of_lt zs1) _).cell 1, (((qs.bx hx3' zs nbs).other (Nat.ne_of_lt zs1) _).other (Nat.ne_of_lt zs1) _).cell 2⟩)
            (first
              | (go_at_call 18; refine (skip_next ⟨ends, lead, 0⟩ _ _ hs (by omega) (by omega)).mono ?_; rintro e W2 ⟨rfl, hb2⟩; obtain ⟨hc2, hf2⟩ := bcell hb2; have HR2 := Lib.hid ((HR1.out.next (by go_grown)).next hb2); have hw2 : Below wr.heap.size wr W2 := Below.trans (by go_grown) (hb2.mono (by simp; omega)); have q2 := (Blk.new W1 33 [.int .i64 (sureH false).lo, .int .i64 (sureH false).hi]).drew.below hb2)
              | (go_at_call 20; refine (HH.out _ _ hen (by omega) (by omega) HR2.out (by have := hb2.size; have := hBk.size; simp at *; omega)).mono ?_; rintro e W3 ⟨rfl, hx3, hR3⟩; have hx3' : BX wr.heap.size bm wr W3 := (BX.of_below hw2).trans (hx3.mono hw2.size); have q3 := q2.bx hx3 (by have := hb2.size; simp at this; omega) (by have := hRk.lt; omega); have c30 := q3.cell 0; have c31 := q3.cell 1; have f30 := q3.frozen 0; have f31 := q3.frozen 1; have z3 := q3.lt; dsimp only [List.getElem?_cons_zero, List.getElem?_cons_succ] at c30 c31))
          have q4 := (q3.set 0 (.int .i64 (hopeS m (nextS ⟨ends, lead, 0⟩ 0)).lo)).set 1 (.int .i64 (hopeS m (nextS ⟨ends, lead, 0⟩ 0)).hi)
          dsimp only [List.set_cons_zero, List.set_cons_succ] at q4
          have hB4 : Below wr.heap.size W3 ((W3.setCell ⟨W1.heap.size, 0, none⟩ (.int .i64 (hopeS m (nextS ⟨ends, lead, 0⟩ 0)).lo)).setCell ⟨W1.heap.size, 1, none⟩ (.int .i64 (hopeS m (nextS ⟨ends, lead, 0⟩ 0)).hi)) := Below.setCell (Below.setCell (Below.refl _ _) hz1 _) hz1 _
          generalize (W3.setCell ⟨W1.heap.size, 0, none⟩ (.int .i64 (hopeS m (nextS ⟨ends, lead, 0⟩ 0)).lo)).setCell ⟨W1.heap.size, 1, none⟩ (.int .i64 (hopeS m (nextS ⟨ends, lead, 0⟩ 0)).hi) = W4 at *
          have hx4 : BX wr.heap.size bm wr W4 := hx3'.trans (BX.of_below hB4)
          have hR4 := hR3.step hB4 hRk.below.size hRk.lt.1 hRk.lt.2.1 hRk.lt.2.2.1 hRk.lt.2.2.2
          have hval : (nextH (hopeS m) ⟨ends, lead, 0⟩ k).v = .agg #[.int .i64 (hopeS m (nextS ⟨ends, lead, 0⟩ 0)).lo, .int .i64 (hopeS m (nextS ⟨ends, lead, 0⟩ 0)).hi] := by
            have hp0 : pts k = 0 := by simp [pts]; omega
            rw [nextH, if_pos hen, hp0]; rfl
          clear hR3 q3 q2 c30 c31 f30 f31 hx3 hx3'
          have c40 := q4.cell 0
          have c41 := q4.cell 1
          have z4 := q4.lt
          dsimp only [List.getElem?_cons_zero, List.getElem?_cons_succ] at c40 c41
          obtain ⟨l1, l2, l3, l4⟩ := hR.lt
          have hJ4 := HJ.out k wr W4 hJk hx4
          have hy := HY.out k W4 hlt hJ4
          rw [hnk, hval] at hy
          obtain ⟨fn, tmps, assign, body, hy, hY'⟩ := hy
          have hb4 := hBk.trans (hx4.mono hBk.size)
          clear hJk hRk hBk hx4 hJ4 cs0 cs1 cs2 cr cf
          gi_wp2
          refine hY'.mono ?_
          rintro e W5 ⟨rfl, hJ5, hb5⟩
          gi_wp2
          go_roundw
          case measure => simp only [intOf]; omega
          exact ⟨k + 1, by omega, by push_cast; congr 1; omega, hJ5, hR4.step hb5 hR.below.size l1 l2 l3 l4, hb4.trans (BX.of_below hb5)⟩
        · refine wpIn_wide.2 ?_
          have zs2 := Nat.lt_succ_of_lt zs1
          have zr2 := Nat.lt_succ_of_lt zr1
          have zf2 := Nat.lt_succ_of_lt zf1
          have HR1 := Lib.hid (hRk.next hb1)
          go_region_held3 (fun V => V.cell? ⟨br, 0, none⟩ = some (.pointer (some ⟨rb, 0, none⟩)) ∧ V.cell? ⟨rb, 3, none⟩ = some (.func (.func 20) #[] #[.pointer (some ⟨kb, 0, none⟩), .pointer (some ⟨rp, 0, none⟩)]) ∧
              V.cell? ⟨bs, 0, none⟩ = some (.int .i64 ends) ∧ V.cell? ⟨bs, 1, none⟩ = some (.int .i64 lead) ∧ V.cell? ⟨bs, 2, none⟩ = some (.int .i64 0))
            (first | go_keep | exact ⟨(qr.bx hx3' zr nbr).cell 0, hR3.rcd.cell 3, (qs.bx hx3' zs nbs).cell 0, (qs.bx hx3' zs nbs).cell 1, (qs.bx hx3' zs nbs).cell 2⟩ | exact ⟨(((qr.bx hx3' zr nbr).other (Nat.ne_of_lt zr1) _).other (Nat.ne_of_lt zr1) _).cell 0, (((hR3.rcd).other (Nat.ne_of_lt zf1) _).other (Nat.ne_of_lt zf1) _).cell 3, (((qs.bx hx3' zs nbs).other (Nat.ne_of_lt zs1) _).other (Nat.ne_of_lt zs1) _).cell 0, (((qs.bx hx3' zs nbs).other (Nat.ne_of_lt zs1) _).other (Nat.ne_of_lt zs1) _).cell 1, (((qs.bx hx3' zs nbs).other (Nat.ne_of_lt zs1) _).other (Nat.ne_of_lt zs1) _).cell 2⟩)
            (first
              | (go_at_call 18; refine (skip_next ⟨ends, lead, 0⟩ _ _ hs (by omega) (by omega)).mono ?_; rintro e W2 ⟨rfl, hb2⟩; obtain ⟨hc2, hf2⟩ := bcell hb2; have HR2 := Lib.hid ((HR1.out.next (by go_grown)).next hb2); have hw2 : Below wr.heap.size wr W2 := Below.trans (by go_grown) (hb2.mono (by simp; omega)); have q2 := (Blk.new W1 33 [.int .i64 (sureH false).lo, .int .i64 (sureH false).hi]).drew.below hb2)
              | (go_at_call 20; refine (HH.out _ _ hen (by omega) (by omega) HR2.out (by have := hb2.size; have := hBk.size; simp at *; omega)).mono ?_; rintro e W3 ⟨rfl, hx3, hR3⟩; have hx3' : BX wr.heap.size bm wr W3 := (BX.of_below hw2).trans (hx3.mono hw2.size); have q3 := q2.bx hx3 (by have := hb2.size; simp at this; omega) (by have := hRk.lt; omega); have c30 := q3.cell 0; have c31 := q3.cell 1; have f30 := q3.frozen 0; have f31 := q3.frozen 1; have z3 := q3.lt; dsimp only [List.getElem?_cons_zero, List.getElem?_cons_succ] at c30 c31))
          have q4 := (q3.set 0 (.int .i64 (hopeS m (nextS ⟨ends, lead, 0⟩ (↑k - 8))).lo)).set 1 (.int .i64 (hopeS m (nextS ⟨ends, lead, 0⟩ (↑k - 8))).hi)
          dsimp only [List.set_cons_zero, List.set_cons_succ] at q4
          have hB4 : Below wr.heap.size W3 ((W3.setCell ⟨W1.heap.size, 0, none⟩ (.int .i64 (hopeS m (nextS ⟨ends, lead, 0⟩ (↑k - 8))).lo)).setCell ⟨W1.heap.size, 1, none⟩ (.int .i64 (hopeS m (nextS ⟨ends, lead, 0⟩ (↑k - 8))).hi)) := Below.setCell (Below.setCell (Below.refl _ _) hz1 _) hz1 _
          generalize (W3.setCell ⟨W1.heap.size, 0, none⟩ (.int .i64 (hopeS m (nextS ⟨ends, lead, 0⟩ (↑k - 8))).lo)).setCell ⟨W1.heap.size, 1, none⟩ (.int .i64 (hopeS m (nextS ⟨ends, lead, 0⟩ (↑k - 8))).hi) = W4 at *
          have hx4 : BX wr.heap.size bm wr W4 := hx3'.trans (BX.of_below hB4)
          have hR4 := hR3.step hB4 hRk.below.size hRk.lt.1 hRk.lt.2.1 hRk.lt.2.2.1 hRk.lt.2.2.2
          have hval : (nextH (hopeS m) ⟨ends, lead, 0⟩ k).v = .agg #[.int .i64 (hopeS m (nextS ⟨ends, lead, 0⟩ (↑k - 8))).lo, .int .i64 (hopeS m (nextS ⟨ends, lead, 0⟩ (↑k - 8))).hi] := by
            rw [nextH, if_pos hen]; rfl
          clear hR3 q3 q2 c30 c31 f30 f31 hx3 hx3'
          have c40 := q4.cell 0
          have c41 := q4.cell 1
          have z4 := q4.lt
          dsimp only [List.getElem?_cons_zero, List.getElem?_cons_succ] at c40 c41
          obtain ⟨l1, l2, l3, l4⟩ := hR.lt
          have hJ4 := HJ.out k wr W4 hJk hx4
          have hy := HY.out k W4 hlt hJ4
          rw [hnk, hval] at hy
          obtain ⟨fn, tmps, assign, body, hy, hY'⟩ := hy
          have hb4 := hBk.trans (hx4.mono hBk.size)
          clear hJk hRk hBk hx4 hJ4 cs0 cs1 cs2 cr cf
          gi_wp2
          refine hY'.mono ?_
          rintro e W5 ⟨rfl, hJ5, hb5⟩
          gi_wp2
          go_roundw
          case measure => simp only [intOf]; omega
          exact ⟨k + 1, by omega, by push_cast; congr 1; omega, hJ5, hR4.step hb5 hR.below.size l1 l2 l3 l4, hb4.trans (BX.of_below hb5)⟩
        · refine wpIn_wide.2 ?_
          have zs2 := Nat.lt_succ_of_lt zs1
          have zr2 := Nat.lt_succ_of_lt zr1
          have zf2 := Nat.lt_succ_of_lt zf1
          have HR1 := Lib.hid (hRk.next hb1)
          go_region_held3 (fun V => V.cell? ⟨br, 0, none⟩ = some (.pointer (some ⟨rb, 0, none⟩)) ∧ V.cell? ⟨rb, 3, none⟩ = some (.func (.func 20) #[] #[.pointer (some ⟨kb, 0, none⟩), .pointer (some ⟨rp, 0, none⟩)]) ∧
              V.cell? ⟨bs, 0, none⟩ = some (.int .i64 ends) ∧ V.cell? ⟨bs, 1, none⟩ = some (.int .i64 lead) ∧ V.cell? ⟨bs, 2, none⟩ = some (.int .i64 1))
            (first | go_keep | exact ⟨(qr.bx hx3' zr nbr).cell 0, hR3.rcd.cell 3, (qs.bx hx3' zs nbs).cell 0, (qs.bx hx3' zs nbs).cell 1, (qs.bx hx3' zs nbs).cell 2⟩ | exact ⟨(((qr.bx hx3' zr nbr).other (Nat.ne_of_lt zr1) _).other (Nat.ne_of_lt zr1) _).cell 0, (((hR3.rcd).other (Nat.ne_of_lt zf1) _).other (Nat.ne_of_lt zf1) _).cell 3, (((qs.bx hx3' zs nbs).other (Nat.ne_of_lt zs1) _).other (Nat.ne_of_lt zs1) _).cell 0, (((qs.bx hx3' zs nbs).other (Nat.ne_of_lt zs1) _).other (Nat.ne_of_lt zs1) _).cell 1, (((qs.bx hx3' zs nbs).other (Nat.ne_of_lt zs1) _).other (Nat.ne_of_lt zs1) _).cell 2⟩)
            (first
              | (go_at_call 18; refine (skip_next ⟨ends, lead, 1⟩ _ _ hs (by omega) (by omega)).mono ?_; rintro e W2 ⟨rfl, hb2⟩; obtain ⟨hc2, hf2⟩ := bcell hb2; have HR2 := Lib.hid ((HR1.out.next (by go_grown)).next hb2); have hw2 : Below wr.heap.size wr W2 := Below.trans (by go_grown) (hb2.mono (by simp; omega)); have q2 := (Blk.new W1 33 [.int .i64 (sureH false).lo, .int .i64 (sureH false).hi]).drew.below hb2)
              | (go_at_call 20; refine (HH.out _ _ hen (by omega) (by omega) HR2.out (by have := hb2.size; have := hBk.size; simp at *; omega)).mono ?_; rintro e W3 ⟨rfl, hx3, hR3⟩; have hx3' : BX wr.heap.size bm wr W3 := (BX.of_below hw2).trans (hx3.mono hw2.size); have q3 := q2.bx hx3 (by have := hb2.size; simp at this; omega) (by have := hRk.lt; omega); have c30 := q3.cell 0; have c31 := q3.cell 1; have f30 := q3.frozen 0; have f31 := q3.frozen 1; have z3 := q3.lt; dsimp only [List.getElem?_cons_zero, List.getElem?_cons_succ] at c30 c31))
          have q4 := (q3.set 0 (.int .i64 (hopeS m (nextS ⟨ends, lead, 1⟩ (↑k - 8))).lo)).set 1 (.int .i64 (hopeS m (nextS ⟨ends, lead, 1⟩ (↑k - 8))).hi)
          dsimp only [List.set_cons_zero, List.set_cons_succ] at q4
          have hB4 : Below wr.heap.size W3 ((W3.setCell ⟨W1.heap.size, 0, none⟩ (.int .i64 (hopeS m (nextS ⟨ends, lead, 1⟩ (↑k - 8))).lo)).setCell ⟨W1.heap.size, 1, none⟩ (.int .i64 (hopeS m (nextS ⟨ends, lead, 1⟩ (↑k - 8))).hi)) := Below.setCell (Below.setCell (Below.refl _ _) hz1 _) hz1 _
          generalize (W3.setCell ⟨W1.heap.size, 0, none⟩ (.int .i64 (hopeS m (nextS ⟨ends, lead, 1⟩ (↑k - 8))).lo)).setCell ⟨W1.heap.size, 1, none⟩ (.int .i64 (hopeS m (nextS ⟨ends, lead, 1⟩ (↑k - 8))).hi) = W4 at *
          have hx4 : BX wr.heap.size bm wr W4 := hx3'.trans (BX.of_below hB4)
          have hR4 := hR3.step hB4 hRk.below.size hRk.lt.1 hRk.lt.2.1 hRk.lt.2.2.1 hRk.lt.2.2.2
          have hval : (nextH (hopeS m) ⟨ends, lead, 1⟩ k).v = .agg #[.int .i64 (hopeS m (nextS ⟨ends, lead, 1⟩ (↑k - 8))).lo, .int .i64 (hopeS m (nextS ⟨ends, lead, 1⟩ (↑k - 8))).hi] := by
            rw [nextH, if_pos hen]; rfl
          clear hR3 q3 q2 c30 c31 f30 f31 hx3 hx3'
          have c40 := q4.cell 0
          have c41 := q4.cell 1
          have z4 := q4.lt
          dsimp only [List.getElem?_cons_zero, List.getElem?_cons_succ] at c40 c41
          obtain ⟨l1, l2, l3, l4⟩ := hR.lt
          have hJ4 := HJ.out k wr W4 hJk hx4
          have hy := HY.out k W4 hlt hJ4
          rw [hnk, hval] at hy
          obtain ⟨fn, tmps, assign, body, hy, hY'⟩ := hy
          have hb4 := hBk.trans (hx4.mono hBk.size)
          clear hJk hRk hBk hx4 hJ4 cs0 cs1 cs2 cr cf
          gi_wp2
          refine hY'.mono ?_
          rintro e W5 ⟨rfl, hJ5, hb5⟩
          gi_wp2
          go_roundw
          case measure => simp only [intOf]; omega
          exact ⟨k + 1, by omega, by push_cast; congr 1; omega, hJ5, hR4.step hb5 hR.below.size l1 l2 l3 l4, hb4.trans (BX.of_below hb5)⟩
        · refine wpIn_wide.2 ?_
          have zs2 := Nat.lt_succ_of_lt zs1
          have zr2 := Nat.lt_succ_of_lt zr1
          have zf2 := Nat.lt_succ_of_lt zf1
          have HR1 := Lib.hid (hRk.next hb1)
          go_region_held3 (fun V => V.cell? ⟨br, 0, none⟩ = some (.pointer (some ⟨rb, 0, none⟩)) ∧ V.cell? ⟨rb, 3, none⟩ = some (.func (.func 20) #[] #[.pointer (some ⟨kb, 0, none⟩), .pointer (some ⟨rp, 0, none⟩)]) ∧
              V.cell? ⟨bs, 0, none⟩ = some (.int .i64 ends) ∧ V.cell? ⟨bs, 1, none⟩ = some (.int .i64 lead) ∧ V.cell? ⟨bs, 2, none⟩ = some (.int .i64 1))
            (first | go_keep | exact ⟨(qr.bx hx3' zr nbr).cell 0, hR3.rcd.cell 3, (qs.bx hx3' zs nbs).cell 0, (qs.bx hx3' zs nbs).cell 1, (qs.bx hx3' zs nbs).cell 2⟩ | exact ⟨(((qr.bx hx3' zr nbr).other (Nat.ne_of_lt zr1) _).other (Nat.ne_of_lt zr1) _).cell 0, (((hR3.rcd).other (Nat.ne_of_lt zf1) _).other (Nat.ne_of_lt zf1) _).cell 3, (((qs.bx hx3' zs nbs).other (Nat.ne_of_lt zs1) _).other (Nat.ne_of_lt zs1) _).cell 0, (((qs.bx hx3' zs nbs).other (Nat.ne_of_lt zs1) _).other (Nat.ne_of_lt zs1) _).cell 1, (((qs.bx hx3' zs nbs).other (Nat.ne_of_lt zs1) _).other (Nat.ne_of_lt zs1) _).cell 2⟩)
            (first
              | (go_at_call 18; refine (skip_next ⟨ends, lead, 1⟩ _ _ hs (by omega) (by omega)).mono ?_; rintro e W2 ⟨rfl, hb2⟩; obtain ⟨hc2, hf2⟩ := bcell hb2; have HR2 := Lib.hid ((HR1.out.next (by go_grown)).next hb2); have hw2 : Below wr.heap.size wr W2 := Below.trans (by go_grown) (hb2.mono (by simp; omega)); have q2 := (Blk.new W1 33 [.int .i64 (sureH false).lo, .int .i64 (sureH false).hi]).drew.below hb2)
              | (go_at_call 20; refine (HH.out _ _ hen (by omega) (by omega) HR2.out (by have := hb2.size; have := hBk.size; simp at *; omega)).mono ?_; rintro e W3 ⟨rfl, hx3, hR3⟩; have hx3' : BX wr.heap.size bm wr W3 := (BX.of_below hw2).trans (hx3.mono hw2.size); have q3 := q2.bx hx3 (by have := hb2.size; simp at this; omega) (by have := hRk.lt; omega); have c30 := q3.cell 0; have c31 := q3.cell 1; have f30 := q3.frozen 0; have f31 := q3.frozen 1; have z3 := q3.lt; dsimp only [List.getElem?_cons_zero, List.getElem?_cons_succ] at c30 c31))
          have q4 := (q3.set 0 (.int .i64 (hopeS m (nextS ⟨ends, lead, 1⟩ 0)).lo)).set 1 (.int .i64 (hopeS m (nextS ⟨ends, lead, 1⟩ 0)).hi)
          dsimp only [List.set_cons_zero, List.set_cons_succ] at q4
          have hB4 : Below wr.heap.size W3 ((W3.setCell ⟨W1.heap.size, 0, none⟩ (.int .i64 (hopeS m (nextS ⟨ends, lead, 1⟩ 0)).lo)).setCell ⟨W1.heap.size, 1, none⟩ (.int .i64 (hopeS m (nextS ⟨ends, lead, 1⟩ 0)).hi)) := Below.setCell (Below.setCell (Below.refl _ _) hz1 _) hz1 _
          generalize (W3.setCell ⟨W1.heap.size, 0, none⟩ (.int .i64 (hopeS m (nextS ⟨ends, lead, 1⟩ 0)).lo)).setCell ⟨W1.heap.size, 1, none⟩ (.int .i64 (hopeS m (nextS ⟨ends, lead, 1⟩ 0)).hi) = W4 at *
          have hx4 : BX wr.heap.size bm wr W4 := hx3'.trans (BX.of_below hB4)
          have hR4 := hR3.step hB4 hRk.below.size hRk.lt.1 hRk.lt.2.1 hRk.lt.2.2.1 hRk.lt.2.2.2
          have hval : (nextH (hopeS m) ⟨ends, lead, 1⟩ k).v = .agg #[.int .i64 (hopeS m (nextS ⟨ends, lead, 1⟩ 0)).lo, .int .i64 (hopeS m (nextS ⟨ends, lead, 1⟩ 0)).hi] := by
            have hp0 : pts k = 0 := by simp [pts]; omega
            rw [nextH, if_pos hen, hp0]; rfl
          clear hR3 q3 q2 c30 c31 f30 f31 hx3 hx3'
          have c40 := q4.cell 0
          have c41 := q4.cell 1
          have z4 := q4.lt
          dsimp only [List.getElem?_cons_zero, List.getElem?_cons_succ] at c40 c41
          obtain ⟨l1, l2, l3, l4⟩ := hR.lt
          have hJ4 := HJ.out k wr W4 hJk hx4
          have hy := HY.out k W4 hlt hJ4
          rw [hnk, hval] at hy
          obtain ⟨fn, tmps, assign, body, hy, hY'⟩ := hy
          have hb4 := hBk.trans (hx4.mono hBk.size)
          clear hJk hRk hBk hx4 hJ4 cs0 cs1 cs2 cr cf
          gi_wp2
          refine hY'.mono ?_
          rintro e W5 ⟨rfl, hJ5, hb5⟩
          gi_wp2
          go_roundw
          case measure => simp only [intOf]; omega
          exact ⟨k + 1, by omega, by push_cast; congr 1; omega, hJ5, hR4.step hb5 hR.below.size l1 l2 l3 l4, hb4.trans (BX.of_below hb5)⟩
        · refine wpIn_wide.2 ?_
          have zs2 := Nat.lt_succ_of_lt zs1
          have zr2 := Nat.lt_succ_of_lt zr1
          have zf2 := Nat.lt_succ_of_lt zf1
          have HR1 := Lib.hid (hRk.next hb1)
          go_region_held3 (fun V => V.cell? ⟨br, 0, none⟩ = some (.pointer (some ⟨rb, 0, none⟩)) ∧ V.cell? ⟨rb, 3, none⟩ = some (.func (.func 20) #[] #[.pointer (some ⟨kb, 0, none⟩), .pointer (some ⟨rp, 0, none⟩)]) ∧
              V.cell? ⟨bs, 0, none⟩ = some (.int .i64 ends) ∧ V.cell? ⟨bs, 1, none⟩ = some (.int .i64 lead) ∧ V.cell? ⟨bs, 2, none⟩ = some (.int .i64 1))
            (first | go_keep | exact ⟨(qr.bx hx3' zr nbr).cell 0, hR3.rcd.cell 3, (qs.bx hx3' zs nbs).cell 0, (qs.bx hx3' zs nbs).cell 1, (qs.bx hx3' zs nbs).cell 2⟩ | exact ⟨(((qr.bx hx3' zr nbr).other (Nat.ne_of_lt zr1) _).other (Nat.ne_of_lt zr1) _).cell 0, (((hR3.rcd).other (Nat.ne_of_lt zf1) _).other (Nat.ne_of_lt zf1) _).cell 3, (((qs.bx hx3' zs nbs).other (Nat.ne_of_lt zs1) _).other (Nat.ne_of_lt zs1) _).cell 0, (((qs.bx hx3' zs nbs).other (Nat.ne_of_lt zs1) _).other (Nat.ne_of_lt zs1) _).cell 1, (((qs.bx hx3' zs nbs).other (Nat.ne_of_lt zs1) _).other (Nat.ne_of_lt zs1) _).cell 2⟩)
            (first
              | (go_at_call 18; refine (skip_next ⟨ends, lead, 1⟩ _ _ hs (by omega) (by omega)).mono ?_; rintro e W2 ⟨rfl, hb2⟩; obtain ⟨hc2, hf2⟩ := bcell hb2; have HR2 := Lib.hid ((HR1.out.next (by go_grown)).next hb2); have hw2 : Below wr.heap.size wr W2 := Below.trans (by go_grown) (hb2.mono (by simp; omega)); have q2 := (Blk.new W1 33 [.int .i64 (sureH true).lo, .int .i64 (sureH true).hi]).drew.below hb2)
              | (go_at_call 20; refine (HH.out _ _ hen (by omega) (by omega) HR2.out (by have := hb2.size; have := hBk.size; simp at *; omega)).mono ?_; rintro e W3 ⟨rfl, hx3, hR3⟩; have hx3' : BX wr.heap.size bm wr W3 := (BX.of_below hw2).trans (hx3.mono hw2.size); have q3 := q2.bx hx3 (by have := hb2.size; simp at this; omega) (by have := hRk.lt; omega); have c30 := q3.cell 0; have c31 := q3.cell 1; have f30 := q3.frozen 0; have f31 := q3.frozen 1; have z3 := q3.lt; dsimp only [List.getElem?_cons_zero, List.getElem?_cons_succ] at c30 c31))
          have q4 := (q3.set 0 (.int .i64 (hopeS m (nextS ⟨ends, lead, 1⟩ (↑k - 8))).lo)).set 1 (.int .i64 (hopeS m (nextS ⟨ends, lead, 1⟩ (↑k - 8))).hi)
          dsimp only [List.set_cons_zero, List.set_cons_succ] at q4
          have hB4 : Below wr.heap.size W3 ((W3.setCell ⟨W1.heap.size, 0, none⟩ (.int .i64 (hopeS m (nextS ⟨ends, lead, 1⟩ (↑k - 8))).lo)).setCell ⟨W1.heap.size, 1, none⟩ (.int .i64 (hopeS m (nextS ⟨ends, lead, 1⟩ (↑k - 8))).hi)) := Below.setCell (Below.setCell (Below.refl _ _) hz1 _) hz1 _
          generalize (W3.setCell ⟨W1.heap.size, 0, none⟩ (.int .i64 (hopeS m (nextS ⟨ends, lead, 1⟩ (↑k - 8))).lo)).setCell ⟨W1.heap.size, 1, none⟩ (.int .i64 (hopeS m (nextS ⟨ends, lead, 1⟩ (↑k - 8))).hi) = W4 at *
          have hx4 : BX wr.heap.size bm wr W4 := hx3'.trans (BX.of_below hB4)
          have hR4 := hR3.step hB4 hRk.below.size hRk.lt.1 hRk.lt.2.1 hRk.lt.2.2.1 hRk.lt.2.2.2
          have hval : (nextH (hopeS m) ⟨ends, lead, 1⟩ k).v = .agg #[.int .i64 (hopeS m (nextS ⟨ends, lead, 1⟩ (↑k - 8))).lo, .int .i64 (hopeS m (nextS ⟨ends, lead, 1⟩ (↑k - 8))).hi] := by
            rw [nextH, if_pos hen]; rfl
          clear hR3 q3 q2 c30 c31 f30 f31 hx3 hx3'
          have c40 := q4.cell 0
          have c41 := q4.cell 1
          have z4 := q4.lt
          dsimp only [List.getElem?_cons_zero, List.getElem?_cons_succ] at c40 c41
          obtain ⟨l1, l2, l3, l4⟩ := hR.lt
          have hJ4 := HJ.out k wr W4 hJk hx4
          have hy := HY.out k W4 hlt hJ4
          rw [hnk, hval] at hy
          obtain ⟨fn, tmps, assign, body, hy, hY'⟩ := hy
          have hb4 := hBk.trans (hx4.mono hBk.size)
          clear hJk hRk hBk hx4 hJ4 cs0 cs1 cs2 cr cf
          gi_wp2
          refine hY'.mono ?_
          rintro e W5 ⟨rfl, hJ5, hb5⟩
          gi_wp2
          go_roundw
          case measure => simp only [intOf]; omega
          exact ⟨k + 1, by omega, by push_cast; congr 1; omega, hJ5, hR4.step hb5 hR.below.size l1 l2 l3 l4, hb4.trans (BX.of_below hb5)⟩
      · obtain rfl : ends = 0 := by omega
        rcases e5 with rfl | rfl <;> rcases hk3 with k3 | k3 | k3
        all_goals
          gi_wp2_with (gi_at_call 21; refine (hsure _ _).mono ?_; rintro e W1 ⟨rfl, hb1⟩; obtain ⟨hc, hf⟩ := bcell hb1; have hz1 := hb1.size; have zs1 := Nat.lt_of_lt_of_le zs hz1; have zr1 := Nat.lt_of_lt_of_le zr hz1; have zf1 := Nat.lt_of_lt_of_le zf hz1)
        · have q4 : Blk (W1.alloc (.cells #[.int .i64 (sureH true).lo, .int .i64 (sureH true).hi] 33)) W1.heap.size 33 [.int .i64 (sureH true).lo, .int .i64 (sureH true).hi] := Blk.new W1 _ [_, _]
          have hB4 : Below wr.heap.size wr (W1.alloc (.cells #[.int .i64 (sureH true).lo, .int .i64 (sureH true).hi] 33)) := hb1.alloc hz1 _
          generalize W1.alloc (.cells #[.int .i64 (sureH true).lo, .int .i64 (sureH true).hi] 33) = W4 at *
          have hx4 : BX wr.heap.size bm wr W4 := BX.of_below hB4
          have hR4 := hRk.next hB4
          have hval : (nextH (hopeS m) ⟨0, lead, 0⟩ k).v = .agg #[.int .i64 (sureH true).lo, .int .i64 (sureH true).hi] := by
            have hg : gainB ⟨0, lead, 0⟩ (pts k) = true := by simp [gainB, pts] <;> first | omega | exact decide_eq_false (by omega) | exact decide_eq_true (by omega)
            rw [nextH, if_neg (by simp), hg]; rfl
          have c40 := q4.cell 0
          have c41 := q4.cell 1
          have z4 := q4.lt
          dsimp only [List.getElem?_cons_zero, List.getElem?_cons_succ] at c40 c41
          obtain ⟨l1, l2, l3, l4⟩ := hR.lt
          have hJ4 := HJ.out k wr W4 hJk hx4
          have hy := HY.out k W4 hlt hJ4
          rw [hnk, hval] at hy
          obtain ⟨fn, tmps, assign, body, hy, hY'⟩ := hy
          have hb4 := hBk.trans (hx4.mono hBk.size)
          clear hJk hRk hBk hx4 hJ4 cs0 cs1 cs2 cr cf
          rw [hy]
          gi_wp2
          refine hY'.mono ?_
          rintro e W5 ⟨rfl, hJ5, hb5⟩
          gi_wp2
          go_roundw
          case measure => simp only [intOf]; omega
          exact ⟨k + 1, by omega, by push_cast; congr 1; omega, hJ5, hR4.step hb5 hR.below.size l1 l2 l3 l4, hb4.trans (BX.of_below hb5)⟩
        · have q4 : Blk (W1.alloc (.cells #[.int .i64 (sureH false).lo, .int .i64 (sureH false).hi] 33)) W1.heap.size 33 [.int .i64 (sureH false).lo, .int .i64 (sureH false).hi] := Blk.new W1 _ [_, _]
          have hB4 : Below wr.heap.size wr (W1.alloc (.cells #[.int .i64 (sureH false).lo, .int .i64 (sureH false).hi] 33)) := hb1.alloc hz1 _
          generalize W1.alloc (.cells #[.int .i64 (sureH false).lo, .int .i64 (sureH false).hi] 33) = W4 at *
          have hx4 : BX wr.heap.size bm wr W4 := BX.of_below hB4
          have hR4 := hRk.next hB4
          have hval : (nextH (hopeS m) ⟨0, lead, 0⟩ k).v = .agg #[.int .i64 (sureH false).lo, .int .i64 (sureH false).hi] := by
            have hg : gainB ⟨0, lead, 0⟩ (pts k) = false := by simp [gainB, pts] <;> first | omega | exact decide_eq_false (by omega) | exact decide_eq_true (by omega)
            rw [nextH, if_neg (by simp), hg]; rfl
          have c40 := q4.cell 0
          have c41 := q4.cell 1
          have z4 := q4.lt
          dsimp only [List.getElem?_cons_zero, List.getElem?_cons_succ] at c40 c41
          obtain ⟨l1, l2, l3, l4⟩ := hR.lt
          have hJ4 := HJ.out k wr W4 hJk hx4
          have hy := HY.out k W4 hlt hJ4
          rw [hnk, hval] at hy
          obtain ⟨fn, tmps, assign, body, hy, hY'⟩ := hy
          have hb4 := hBk.trans (hx4.mono hBk.size)
          clear hJk hRk hBk hx4 hJ4 cs0 cs1 cs2 cr cf
          rw [hy]
          gi_wp2
          refine hY'.mono ?_
          rintro e W5 ⟨rfl, hJ5, hb5⟩
          gi_wp2
          go_roundw
          case measure => simp only [intOf]; omega
          exact ⟨k + 1, by omega, by push_cast; congr 1; omega, hJ5, hR4.step hb5 hR.below.size l1 l2 l3 l4, hb4.trans (BX.of_below hb5)⟩
        · have q4 : Blk (W1.alloc (.cells #[.int .i64 (sureH false).lo, .int .i64 (sureH false).hi] 33)) W1.heap.size 33 [.int .i64 (sureH false).lo, .int .i64 (sureH false).hi] := Blk.new W1 _ [_, _]
          have hB4 : Below wr.heap.size wr (W1.alloc (.cells #[.int .i64 (sureH false).lo, .int .i64 (sureH false).hi] 33)) := hb1.alloc hz1 _
          generalize W1.alloc (.cells #[.int .i64 (sureH false).lo, .int .i64 (sureH false).hi] 33) = W4 at *
          have hx4 : BX wr.heap.size bm wr W4 := BX.of_below hB4
          have hR4 := hRk.next hB4
          have hval : (nextH (hopeS m) ⟨0, lead, 0⟩ k).v = .agg #[.int .i64 (sureH false).lo, .int .i64 (sureH false).hi] := by
            have hg : gainB ⟨0, lead, 0⟩ (pts k) = false := by simp [gainB, pts] <;> first | omega | exact decide_eq_false (by omega) | exact decide_eq_true (by omega)
            rw [nextH, if_neg (by simp), hg]; rfl
          have c40 := q4.cell 0
          have c41 := q4.cell 1
          have z4 := q4.lt
          dsimp only [List.getElem?_cons_zero, List.getElem?_cons_succ] at c40 c41
          obtain ⟨l1, l2, l3, l4⟩ := hR.lt
          have hJ4 := HJ.out k wr W4 hJk hx4
          have hy := HY.out k W4 hlt hJ4
          rw [hnk, hval] at hy
          obtain ⟨fn, tmps, assign, body, hy, hY'⟩ := hy
          have hb4 := hBk.trans (hx4.mono hBk.size)
          clear hJk hRk hBk hx4 hJ4 cs0 cs1 cs2 cr cf
          rw [hy]
          gi_wp2
          refine hY'.mono ?_
          rintro e W5 ⟨rfl, hJ5, hb5⟩
          gi_wp2
          go_roundw
          case measure => simp only [intOf]; omega
          exact ⟨k + 1, by omega, by push_cast; congr 1; omega, hJ5, hR4.step hb5 hR.below.size l1 l2 l3 l4, hb4.trans (BX.of_below hb5)⟩
        · have q4 : Blk (W1.alloc (.cells #[.int .i64 (sureH false).lo, .int .i64 (sureH false).hi] 33)) W1.heap.size 33 [.int .i64 (sureH false).lo, .int .i64 (sureH false).hi] := Blk.new W1 _ [_, _]
          have hB4 : Below wr.heap.size wr (W1.alloc (.cells #[.int .i64 (sureH false).lo, .int .i64 (sureH false).hi] 33)) := hb1.alloc hz1 _
          generalize W1.alloc (.cells #[.int .i64 (sureH false).lo, .int .i64 (sureH false).hi] 33) = W4 at *
          have hx4 : BX wr.heap.size bm wr W4 := BX.of_below hB4
          have hR4 := hRk.next hB4
          have hval : (nextH (hopeS m) ⟨0, lead, 1⟩ k).v = .agg #[.int .i64 (sureH false).lo, .int .i64 (sureH false).hi] := by
            have hg : gainB ⟨0, lead, 1⟩ (pts k) = false := by simp [gainB, pts] <;> first | omega | exact decide_eq_false (by omega) | exact decide_eq_true (by omega)
            rw [nextH, if_neg (by simp), hg]; rfl
          have c40 := q4.cell 0
          have c41 := q4.cell 1
          have z4 := q4.lt
          dsimp only [List.getElem?_cons_zero, List.getElem?_cons_succ] at c40 c41
          obtain ⟨l1, l2, l3, l4⟩ := hR.lt
          have hJ4 := HJ.out k wr W4 hJk hx4
          have hy := HY.out k W4 hlt hJ4
          rw [hnk, hval] at hy
          obtain ⟨fn, tmps, assign, body, hy, hY'⟩ := hy
          have hb4 := hBk.trans (hx4.mono hBk.size)
          clear hJk hRk hBk hx4 hJ4 cs0 cs1 cs2 cr cf
          rw [hy]
          gi_wp2
          refine hY'.mono ?_
          rintro e W5 ⟨rfl, hJ5, hb5⟩
          gi_wp2
          go_roundw
          case measure => simp only [intOf]; omega
          exact ⟨k + 1, by omega, by push_cast; congr 1; omega, hJ5, hR4.step hb5 hR.below.size l1 l2 l3 l4, hb4.trans (BX.of_below hb5)⟩
        · have q4 : Blk (W1.alloc (.cells #[.int .i64 (sureH false).lo, .int .i64 (sureH false).hi] 33)) W1.heap.size 33 [.int .i64 (sureH false).lo, .int .i64 (sureH false).hi] := Blk.new W1 _ [_, _]
          have hB4 : Below wr.heap.size wr (W1.alloc (.cells #[.int .i64 (sureH false).lo, .int .i64 (sureH false).hi] 33)) := hb1.alloc hz1 _
          generalize W1.alloc (.cells #[.int .i64 (sureH false).lo, .int .i64 (sureH false).hi] 33) = W4 at *
          have hx4 : BX wr.heap.size bm wr W4 := BX.of_below hB4
          have hR4 := hRk.next hB4
          have hval : (nextH (hopeS m) ⟨0, lead, 1⟩ k).v = .agg #[.int .i64 (sureH false).lo, .int .i64 (sureH false).hi] := by
            have hg : gainB ⟨0, lead, 1⟩ (pts k) = false := by simp [gainB, pts] <;> first | omega | exact decide_eq_false (by omega) | exact decide_eq_true (by omega)
            rw [nextH, if_neg (by simp), hg]; rfl
          have c40 := q4.cell 0
          have c41 := q4.cell 1
          have z4 := q4.lt
          dsimp only [List.getElem?_cons_zero, List.getElem?_cons_succ] at c40 c41
          obtain ⟨l1, l2, l3, l4⟩ := hR.lt
          have hJ4 := HJ.out k wr W4 hJk hx4
          have hy := HY.out k W4 hlt hJ4
          rw [hnk, hval] at hy
          obtain ⟨fn, tmps, assign, body, hy, hY'⟩ := hy
          have hb4 := hBk.trans (hx4.mono hBk.size)
          clear hJk hRk hBk hx4 hJ4 cs0 cs1 cs2 cr cf
          rw [hy]
          gi_wp2
          refine hY'.mono ?_
          rintro e W5 ⟨rfl, hJ5, hb5⟩
          gi_wp2
          go_roundw
          case measure => simp only [intOf]; omega
          exact ⟨k + 1, by omega, by push_cast; congr 1; omega, hJ5, hR4.step hb5 hR.below.size l1 l2 l3 l4, hb4.trans (BX.of_below hb5)⟩
        · have q4 : Blk (W1.alloc (.cells #[.int .i64 (sureH true).lo, .int .i64 (sureH true).hi] 33)) W1.heap.size 33 [.int .i64 (sureH true).lo, .int .i64 (sureH true).hi] := Blk.new W1 _ [_, _]
          have hB4 : Below wr.heap.size wr (W1.alloc (.cells #[.int .i64 (sureH true).lo, .int .i64 (sureH true).hi] 33)) := hb1.alloc hz1 _
          generalize W1.alloc (.cells #[.int .i64 (sureH true).lo, .int .i64 (sureH true).hi] 33) = W4 at *
          have hx4 : BX wr.heap.size bm wr W4 := BX.of_below hB4
          have hR4 := hRk.next hB4
          have hval : (nextH (hopeS m) ⟨0, lead, 1⟩ k).v = .agg #[.int .i64 (sureH true).lo, .int .i64 (sureH true).hi] := by
            have hg : gainB ⟨0, lead, 1⟩ (pts k) = true := by simp [gainB, pts] <;> first | omega | exact decide_eq_false (by omega) | exact decide_eq_true (by omega)
            rw [nextH, if_neg (by simp), hg]; rfl
          have c40 := q4.cell 0
          have c41 := q4.cell 1
          have z4 := q4.lt
          dsimp only [List.getElem?_cons_zero, List.getElem?_cons_succ] at c40 c41
          obtain ⟨l1, l2, l3, l4⟩ := hR.lt
          have hJ4 := HJ.out k wr W4 hJk hx4
          have hy := HY.out k W4 hlt hJ4
          rw [hnk, hval] at hy
          obtain ⟨fn, tmps, assign, body, hy, hY'⟩ := hy
          have hb4 := hBk.trans (hx4.mono hBk.size)
          clear hJk hRk hBk hx4 hJ4 cs0 cs1 cs2 cr cf
          rw [hy]
          gi_wp2
          refine hY'.mono ?_
          rintro e W5 ⟨rfl, hJ5, hb5⟩
          gi_wp2
          go_roundw
          case measure => simp only [intOf]; omega
          exact ⟨k + 1, by omega, by push_cast; congr 1; omega, hJ5, hR4.step hb5 hR.below.size l1 l2 l3 l4, hb4.trans (BX.of_below hb5)⟩
    · obtain rfl : k = 17 := by omega
      gi_wp2
      go_end0
      exact ⟨⟨_, rfl⟩, hJk, hRk⟩
end Go.Proofs.Ytbppjebpnpgenaa

/- The closure that reckons a hope: walked, by the ends to play. -/
import Derived.Test.YtbppjebpnpgenaaB10
namespace Go.Proofs.Ytbppjebpnpgenaa
open Go Go.RowKit

theorem zero_hope (w : World) : (zeroValue 33).run Try.prog w = .ok (.agg #[.int .i64 0, .int .i64 0]) w := by kernel_rfl

theorem Blk.new2 (w : World) (o : Obj) (t : Nat) (cs : List Value) : Blk ((w.alloc o).alloc (.cells cs.toArray t)) (w.heap.size + 1) t cs := by
  have := Blk.new (w.alloc o) t cs
  rwa [World.size_alloc] at this
theorem Blk.new3 (w : World) (o o' : Obj) (t : Nat) (cs : List Value) : Blk (((w.alloc o).alloc o').alloc (.cells cs.toArray t)) (w.heap.size + 1 + 1) t cs := by
  have := Blk.new ((w.alloc o).alloc o') t cs
  rwa [World.size_alloc, World.size_alloc] at this

theorem MapAt.other {w : World} {b : Nat} {ents : List (St × Value)} (h : MapAt w b ents) {a : Addr} (hne : b ≠ a.block) (v : Value) : MapAt (w.setCell a v) b ents := h.kept (Below.heap_setCell _ _ _ _ hne)

theorem hope_end {m : RivV} {w0 W F : World} {rb rp kb bm : Nat} {s : St} {hop : Hp} {ents : List (St × Value)} (hR : Reck m w0 rb rp kb bm W) (hx : BX W.heap.size bm W F)
    (hm : MapAt F bm (setL s (.agg #[.int .i64 hop.lo, .int .i64 hop.hi]) ents)) (he : ∀ s v, getL s ents = some v → v = (hopeS m s).v) (hE : hopeS m s = hop) : BX W.heap.size bm W F ∧ Reck m w0 rb rp kb bm F := by
  obtain ⟨n1, n2, n3⟩ := hR.ne
  obtain ⟨l1, l2, l3, l4⟩ := hR.lt
  refine ⟨hx, hR.below.trans (hx.below hR.below.size hR.lbm), hR.data, hR.good, hR.lbm, hR.rcd.bx hx l1 n1, hR.rptr.bx hx l2 n2, hR.known.bx hx l3 n3, _, hm, fun t v ht => ?_⟩
  rw [getL_setL] at ht
  by_cases hts : t = s
  · rw [if_pos hts] at ht
    cases ht
    rw [hts, hE]; rfl
  · rw [if_neg hts] at ht
    exact he t v ht

theorem bx_two {W W2 : World} {bm B1 B2 : Nat} (o : Obj) (x y x' y' : Value) (h : BX W.heap.size bm W W2) (h1 : W.heap.size ≤ B1) (h2 : W.heap.size ≤ B2) :
    BX W.heap.size bm W ((((((W2.setCell ⟨B1, 0, none⟩ x).setCell ⟨B1, 1, none⟩ y).putObj bm o).setCell ⟨B2, 0, none⟩ x').setCell ⟨B2, 1, none⟩ y')) := by
  have a1 : Below W.heap.size W2 ((W2.setCell ⟨B1, 0, none⟩ x).setCell ⟨B1, 1, none⟩ y) := ((Below.refl _ _).setCell h1 _).setCell h1 _
  have a2 := (BX.of_grown (grown_putObj ((W2.setCell ⟨B1, 0, none⟩ x).setCell ⟨B1, 1, none⟩ y) bm o)).mono (Nat.le_trans h.size a1.size)
  exact ((h.trans (BX.of_below a1)).trans a2).trans (BX.of_below (((Below.refl _ _).setCell h2 _).setCell h2 _))

set_option maxRecDepth 100000 in
set_option maxHeartbeats 2000000 in
theorem hope_step (m : RivV) (w0 : World) (rb rp kb bm : Nat) (s : St) (hs : stB s = true) (hn : ∀ p, 0 < s.ends → -8 ≤ p → p ≤ 8 → HopeAt m w0 rb rp kb bm (nextS s p)) : HopeAt m w0 rb rp kb bm s := by
  intro W hR
  obtain ⟨e1, e2, e3, e4, e5⟩ := stB_spec hs
  have hlt := hR.lt
  have hne := hR.ne
  obtain ⟨ents, hm, hents⟩ := hR.map
  have hsure : ∀ b w, Calls Try.prog 21 #[.bool b] w fun e w' => e = .returned (.agg #[.int .i64 (sureH b).lo, .int .i64 (sureH b).hi]) ∧ Below w.heap.size w w' := skip_sure
  have hE : s.ends = 0 → s.lead ≠ 0 → hopeS m s = sureH (decide (0 < s.lead)) := hopeS_end m s
  by_cases hc : s.ends = 0 ∧ s.lead ≠ 0
  · have hE := hE hc.1 hc.2
    obtain ⟨h1, h2⟩ := hc
    have b1 : (s.ends == 0) = true := by simp [h1]
    have b2 : (s.lead == 0) = false := by simp [h2]
    clear h1
    rw [hE]
    clear hE hents
    unfold St.v
    go_enter Try.func20, Try.ntmps20
    go_wp2_with (go_at_call 21; refine (hsure _ _).mono ?_; rintro e W1 ⟨rfl, hb1⟩; have q := (Blk.new2 W (.cells #[.int .i64 s.ends, .int .i64 s.lead, .int .i64 s.ham] 27) 33 [.int .i64 0, .int .i64 0]).below hb1; have c0 := q.cell 0; have c1 := q.cell 1; have f0 := q.frozen 0; have f1 := q.frozen 1; have z := q.lt; dsimp only [List.getElem?_cons_zero, List.getElem?_cons_succ] at c0 c1)
    have hbw : Below W.heap.size W W1 := Below.trans (Below.alloc (Below.alloc (Below.refl _ _) (Nat.le_refl _) _) (by simp) _) (hb1.mono (by simp; omega))
    have e0 := (q.set 0 (.int .i64 (sureH (decide (0 < s.lead))).lo)).cell 0
    have e1 := ((q.set 0 (.int .i64 (sureH (decide (0 < s.lead))).lo)).set 1 (.int .i64 (sureH (decide (0 < s.lead))).hi)).cell 1
    simp only [List.set_cons_zero, List.set_cons_succ, List.getElem?_cons_zero, List.getElem?_cons_succ] at e0 e1
    have hbx : Below W.heap.size W ((W1.setCell ⟨W.heap.size + 1, 0, none⟩ (.int .i64 (sureH (decide (0 < s.lead))).lo)).setCell ⟨W.heap.size + 1, 1, none⟩ (.int .i64 (sureH (decide (0 < s.lead))).hi)) := (hbw.setCell (by simp) _).setCell (by simp) _
    exact bodyPost_ret (v := .agg #[.int .i64 (sureH (decide (0 < s.lead))).lo, .int .i64 (sureH (decide (0 < s.lead))).hi]) (by simp [results, Try.results20, go_sem, e0, e1]) rfl ⟨rfl, BX.of_below hbx, hR.next hbx⟩
  · have hE := hopeS_next m s e1 hc
    have hst := reck_styles m w0 rb rp kb bm s hs hn
    have hSl : 0 < (stylesH m s (nextsH (hopeS m) s)).length ∧ (stylesH m s (nextsH (hopeS m) s)).length ≤ 8 := by
      have := hR.good.rows s.ham
      simp [stylesH, TabV.data]; omega
    rw [hE]
    generalize hS : stylesH m s (nextsH (hopeS m) s) = S at *
    clear hn
    obtain ⟨hop, hh⟩ : ∃ h, chosenH s.ham S = h := ⟨_, rfl⟩
    rw [hh]
    rw [hh] at hE
    have hmA : MapAt ((W.alloc (.cells #[.int .i64 s.ends, .int .i64 s.lead, .int .i64 s.ham] 27)).alloc (.cells #[.int .i64 0, .int .i64 0] 33)) bm ents :=
      hm.kept ((Below.heap_alloc _ _ bm (by simp; omega)).trans (Below.heap_alloc _ _ bm hlt.2.2.2))
    have hlk := lookup_st 63 33 Try.underlying63 _ zero_hope _ bm ents hmA s
    have hkn := hR.known
    have hrp := hR.rptr
    have ck := hkn.cell 0
    have cp := hrp.cell 0
    dsimp only [List.getElem?_cons_zero] at ck cp
    obtain ⟨l1, l2, l3, l4⟩ := hlt
    have hb : ((s.ends == 0) = true ∧ (s.lead == 0) = true) ∨ (s.ends == 0) = false := by
      by_cases hz : s.ends = 0
      · exact .inl ⟨by simp [hz], by have : s.lead = 0 := Classical.byContradiction fun h => hc ⟨hz, h⟩; simp [this]⟩
      · exact .inr (by simp [hz])
    clear hc hs
    cases hg : getL s ents with
    | some v =>
      have hv := hents s v hg
      rw [hg] at hlk
      subst hv
      rw [hE] at hlk
      unfold Hp.v at hlk
      simp only [Option.getD_some, Option.isSome_some] at hlk
      clear hg hE hst
      unfold St.v at hlk ⊢
      rcases hb with ⟨b1, b2⟩ | b1
      all_goals
        go_enter Try.func20, Try.ntmps20
        go_wp2
        go_returns
        refine ⟨rfl, ?_⟩
        refine (fun hbx => ⟨BX.of_below hbx, hR.next hbx⟩ : Below W.heap.size W _ → _) ?_
        go_grown
    | none =>
      rw [hg] at hlk
      simp only [Option.getD_none, Option.isSome_none] at hlk
      have hch : ∀ V a c, HRow V a S → S.length ≤ c → Calls Try.prog 23 #[.slice a S.length c, .int .i64 s.ham] V fun e w' => e = .returned (.agg #[.int .i64 hop.lo, .int .i64 hop.hi]) ∧ Below V.heap.size V w' := fun V a c hH hc' => by
        have := skip_chosen a c S s.ham V hH hSl.1 hSl.2 hc' e5
        rw [hh] at this
        exact this
      have hup : ∀ V ents', MapAt V bm ents' → ∃ o, (Instr.mapUpdate 63 (.map (some bm)) (.agg #[.int .i64 s.ends, .int .i64 s.lead, .int .i64 s.ham]) (.agg #[.int .i64 hop.lo, .int .i64 hop.hi])).run Try.prog V = .ok () (V.putObj bm o) ∧ MapAt (V.putObj bm o) bm (setL s (.agg #[.int .i64 hop.lo, .int .i64 hop.hi]) ents') :=
        fun V ents' hV => update_st 63 33 Try.underlying63 V bm ents' hV s _
      have HS := Lib.hid hst; clear hst
      have HC := Lib.hid hch; clear hch
      have HU := Lib.hid hup; clear hup
      have HE := Lib.hid hE; clear hE
      have HL := Lib.hid hSl; clear hSl
      clear hg hents
      unfold St.v at hlk HS ⊢
      have hA : Below W.heap.size W (((W.alloc (.cells #[.int .i64 s.ends, .int .i64 s.lead, .int .i64 s.ham] 27)).alloc (.cells #[.int .i64 0, .int .i64 0] 33)).alloc (.cells #[.int .i64 0, .int .i64 0] 33)) := by go_grown
      have n0 := ((Blk.new W 27 [.int .i64 s.ends, .int .i64 s.lead, .int .i64 s.ham]).alloc (.cells #[.int .i64 0, .int .i64 0] 33)).alloc (.cells #[.int .i64 0, .int .i64 0] 33)
      have n1 := (Blk.new2 W (.cells #[.int .i64 s.ends, .int .i64 s.lead, .int .i64 s.ham] 27) 33 [.int .i64 0, .int .i64 0]).alloc (.cells #[.int .i64 0, .int .i64 0] 33)
      have n2 := Blk.new3 W (.cells #[.int .i64 s.ends, .int .i64 s.lead, .int .i64 s.ham] 27) (.cells #[.int .i64 0, .int .i64 0] 33) 33 [.int .i64 0, .int .i64 0]
      have hRA := hR.next hA
      have n0 := Lib.hid n0
      have n1 := Lib.hid n1
      have n2 := Lib.hid n2
      have l2a : rp < W.heap.size + 1 := Nat.lt_succ_of_lt l2
      have l2b : rp < W.heap.size + 1 + 1 := Nat.lt_succ_of_lt l2a
      rcases hb with ⟨b1, b2⟩ | b1
      all_goals
        go_enter Try.func20, Try.ntmps20
        go_wp2_with (first
          | (go_at_call 22; refine (HS.out _ hRA).mono ?_; rintro e W1 ⟨⟨a, c, rfl, hcap, hH⟩, hx1, hR1⟩
             have p0 := n0.out.bx hx1 n0.out.lt (by omega)
             have p1 := n1.out.bx hx1 n1.out.lt (by omega)
             have p2 := n2.out.bx hx1 n2.out.lt (by omega)
             have d0 := p0.cell 0
             have d1 := p0.cell 1
             have d2 := p0.cell 2
             have z0 := p0.lt
             have z1 := p1.lt
             have z2 := p2.lt
             dsimp only [List.getElem?_cons_zero, List.getElem?_cons_succ] at d0 d1 d2)
          | (go_at_call 23; refine (HC.out _ _ _ hH hcap).mono ?_; rintro e W2 ⟨rfl, hb2⟩
             obtain ⟨ents2, hm2, hents2⟩ := hR1.map
             have hR2 := hR1.next hb2
             have r1 := p1.below hb2
             have r2 := p2.below hb2
             have r0 := p0.below hb2
             have k2 := hR2.known
             have m2 := hm2.kept (hb2.block bm hm2.lt)
             have c20 := r2.cell 0
             have c21 := r2.cell 1
             have f20 := r2.frozen 0
             have f21 := r2.frozen 1
             have y2 := r2.lt
             have ck2 := k2.cell 0
             have g0 := r0.cell 0
             have g1 := r0.cell 1
             have g2 := r0.cell 2
             have q2 := (r2.set 0 (.int .i64 hop.lo)).set 1 (.int .i64 hop.hi)
             dsimp only [List.set_cons_zero, List.set_cons_succ] at q2
             have q1 := (r1.other (a := ⟨W.heap.size + 1 + 1, 0, none⟩) (by simp) (.int .i64 hop.lo)).other (a := ⟨W.heap.size + 1 + 1, 1, none⟩) (by simp) (.int .i64 hop.hi)
             have e20 := q2.cell 0
             have e21 := q2.cell 1
             obtain ⟨o, ho, hmo⟩ := HU.out _ ents2 ((m2.other (a := ⟨W.heap.size + 1 + 1, 0, none⟩) (by simp; omega) (.int .i64 hop.lo)).other (a := ⟨W.heap.size + 1 + 1, 1, none⟩) (by simp; omega) (.int .i64 hop.hi))
             have s2 := q2.grown (grown_putObj _ bm o) (by simp; omega)
             have s1 := q1.grown (grown_putObj _ bm o) (by simp; omega)
             have j20 := s2.cell 0
             have j21 := s2.cell 1
             have j10 := s1.cell 0
             have j11 := s1.cell 1
             have h10 := s1.frozen 0
             have h11 := s1.frozen 1
             have y1 := s1.lt
             have i0 := (s1.set 0 (.int .i64 hop.lo)).cell 0
             have i1 := ((s1.set 0 (.int .i64 hop.lo)).set 1 (.int .i64 hop.hi)).cell 1
             have y0 := r0.lt
             have yk := k2.lt
             have kz : kb < W.heap.size + 1 + 1 := by omega
             dsimp only [List.getElem?_cons_zero, List.getElem?_cons_succ, List.set_cons_zero, List.set_cons_succ] at c20 c21 ck2 g0 g1 g2 e20 e21 j20 j21 j10 j11 i0 i1)
          | fail)
        refine bodyPost_ret (v := .agg #[.int .i64 hop.lo, .int .i64 hop.hi]) (by simp [results, Try.results20, go_sem, i0, i1]) rfl ⟨rfl, ?_⟩
        refine hope_end hR (bx_two o _ _ _ _ ((BX.of_below hA).trans ((hx1.mono hA.size).trans (BX.of_below (hb2.mono (Nat.le_trans hA.size hx1.size))))) (by omega) (by omega)) ((hmo.other (by simp; omega) _).other (by simp; omega) _) hents2 HE.out
end Go.Proofs.Ytbppjebpnpgenaa

/- The styles' hopes; the closure that reckons a hope. -/
import Derived.Test.YtbppjebpnpgenaaB9
namespace Go.Proofs.Ytbppjebpnpgenaa
open Go Go.RowKit
attribute [local go_sem ↓] Go.wp_at_zero Go.wp_at_succ

/-- What a call of the closure does. -/
def HopeAt (m : RivV) (w0 : World) (rb rp kb bm : Nat) (s : St) : Prop :=
  ∀ W, Reck m w0 rb rp kb bm W → Calls Try.prog 20 #[s.v, .pointer (some ⟨kb, 0, none⟩), .pointer (some ⟨rp, 0, none⟩)] W fun e W' =>
    e = .returned (.agg #[.int .i64 (hopeS m s).lo, .int .i64 (hopeS m s).hi]) ∧ BX W.heap.size bm W W' ∧ Reck m w0 rb rp kb bm W'

theorem reck_nexts (m : RivV) (w0 : World) (rb rp kb bm : Nat) (s : St) (w : World) (_hR : Reck m w0 rb rp kb bm w) :
    Calls Try.prog 28 #[.pointer (some ⟨rb, 0, none⟩), s.v] w fun e w' =>
      ∃ bs br, e = .returned (.func (.func 36) #[] #[.pointer (some ⟨bs, 0, none⟩), .pointer (some ⟨br, 0, none⟩)]) ∧ Below w.heap.size w w' ∧
        Blk w' bs 27 [.int .i64 s.ends, .int .i64 s.lead, .int .i64 s.ham] ∧ Blk w' br 54 [.pointer (some ⟨rb, 0, none⟩)] := by
  unfold St.v
  go_enter Try.func28, Try.ntmps28
  go_wp2
  go_ret
  refine ⟨w.heap.size + 1, w.heap.size, rfl, by go_grown, ?_, ?_⟩
  · have := Blk.new (w.alloc (.cells #[.pointer (some ⟨rb, 0, none⟩)] 54)) 27 [.int .i64 s.ends, .int .i64 s.lead, .int .i64 s.ham]
    simpa using this
  · exact (Blk.new w _ [_]).alloc _

theorem own_set {w : World} {base e n c g : Nat} {xs : List Value} (h : w.ownsRow base e 1 (.slice (some ⟨g, 0, none⟩) n c) n xs) (i : Nat) (v : Value) : Row (w.setCell ⟨g, i, none⟩ v) (some ⟨g, 0, none⟩) (xs.set i v) := by
  intro hne
  rcases h.2 with ⟨hv, _⟩ | ⟨g', cap, cur, hv, hb, hg, hle, hm, hs, ht⟩
  · cases hv
  · simp only [Value.slice.injEq, Option.some.injEq, Addr.mk.injEq, and_true, true_and] at hv
    obtain ⟨rfl, _⟩ := hv
    have hB : Blk w g e cur.toList := by unfold Blk; rw [hg]
    have hS := hB.set i v
    refine ⟨g, 0, rfl, hS.lt, fun j hj => ?_⟩
    have hl := h.1
    rw [Nat.mul_one] at hl ht
    rw [hS.cell, Nat.zero_add, ← ht, ← List.take_set, List.getElem?_take, if_pos (by simp [List.length_set] at hj; omega)]

theorem own_cell {w : World} {base e n c g : Nat} {xs : List Value} (h : w.ownsRow base e 1 (.slice (some ⟨g, 0, none⟩) n c) n xs) (i : Nat) (hi : i < n) : (∃ u, w.cell? ⟨g, i, none⟩ = some u) ∧ w.frozen? ⟨g, i, none⟩ = false ∧ base ≤ g ∧ g < w.heap.size ∧ n ≤ c := by
  rcases h.2 with ⟨hv, _⟩ | ⟨g', cap, cur, hv, hb, hg, hle, hm, hs, ht⟩
  · cases hv
  · simp only [Value.slice.injEq, Option.some.injEq, Addr.mk.injEq, and_true, true_and] at hv
    obtain ⟨rfl, rfl⟩ := hv
    have hB : Blk w g e cur.toList := by unfold Blk; rw [hg]
    refine ⟨⟨cur.toList[i]'(by simp; omega), ?_⟩, hB.frozen i, hb, hB.lt, hle⟩
    rw [hB.cell, List.getElem?_eq_getElem]

theorem tab_cell (m : RivV) (s : St) (hs : s.ham = 0 ∨ s.ham = 1) : ([.int .i64 m.doubt, m.s0.v, m.s1.v] : List Value)[1 + s.ham.toNat]? = some (tabOf m s.ham).v := by
  rcases hs with h | h <;> rw [h] <;> rfl

theorem own_next {w w' : World} {base e size n : Nat} {v : Value} {xs : List Value} (h : w.ownsRow base e size v n xs) (hb : Below w.heap.size w w') : w'.ownsRow base e size v n xs :=
  h.kept (row := none) ⟨hb.os, hb.tape, hb.output, hb.size, fun k hk _ => hb.block k hk⟩ (by cases v.ownBlock <;> simp)

set_option maxRecDepth 100000 in
set_option maxHeartbeats 2000000 in
theorem reck_styles (m : RivV) (w0 : World) (rb rp kb bm : Nat) (s : St) (hs : stB s = true) (hn : ∀ p, 0 < s.ends → -8 ≤ p → p ≤ 8 → HopeAt m w0 rb rp kb bm (nextS s p)) (w : World) (hR : Reck m w0 rb rp kb bm w) :
    Calls Try.prog 22 #[.pointer (some ⟨rb, 0, none⟩), s.v] w fun e w' =>
      (∃ a c, e = .returned (.slice a (stylesH m s (nextsH (hopeS m) s)).length c) ∧ (stylesH m s (nextsH (hopeS m) s)).length ≤ c ∧ HRow w' a (stylesH m s (nextsH (hopeS m) s))) ∧ BX w.heap.size bm w w' ∧ Reck m w0 rb rp kb bm w' := by
  have hlr := hR.lt
  have hne := hR.ne
  obtain ⟨e1, e2, e3, e4, e5⟩ := stB_spec hs
  have HN := Lib.hid (fun W (hW : Reck m w0 rb rp kb bm W) => reck_nexts m w0 rb rp kb bm s W hW)
  have HC := Lib.hid (fun W bs br (hW : Reck m w0 rb rp kb bm W) (h1 : Blk W bs 27 [.int .i64 s.ends, .int .i64 s.lead, .int .i64 s.ham]) (h2 : Blk W br 54 [.pointer (some ⟨rb, 0, none⟩)]) (hB : w.heap.size ≤ W.heap.size) =>
    collect 36 #[.pointer (some ⟨bs, 0, none⟩), .pointer (some ⟨br, 0, none⟩)] (enters_of Try.func36 (by kernel_rfl) rfl) (nextsH (hopeS m) s) (by rw [nextsH_len]; omega) bm (Reck m w0 rb rp kb bm) W (by have := hW.lt; omega)
      (fun V V' hV hB' => hV.step hB' hW.below.size hW.lt.1 hW.lt.2.1 hW.lt.2.2.1 hW.lt.2.2.2) hW
      (nexts_gives m w0 rb rp kb bm s W bs br hW h1 h2 hs (fun p V h1 h2 h3 hV _ => hn p h1 h2 h3 V hV)))
  clear hn
  obtain ⟨ct, hct⟩ : ∃ t, tabOf m s.ham = t := ⟨_, rfl⟩
  have hgood := hR.good.each s.ham
  have hrows := hR.good.rows s.ham
  rw [hct] at hgood hrows
  unfold stylesH
  rw [hct]
  have hnl := nextsH_len (hopeS m) s
  have hok := nextsH_ok hR.good s
  generalize nextsH (hopeS m) s = nx at *
  unfold St.v
  unfold St.v at HN
  go_enter Try.func22, Try.ntmps22
  go_wp2_with fail
  have hA : Below w.heap.size w (w.alloc (.cells #[.int .i64 s.ends, .int .i64 s.lead, .int .i64 s.ham] 27)) := Below.alloc (Below.refl _ _) (Nat.le_refl _) _
  have hR1 := hR.next hA
  refine (HN.out _ hR1).mono ?_
  rintro e w1 ⟨bs, br, rfl, hb1, q1, q2⟩
  have hR2 := hR1.next hb1
  have hz1 := hb1.size
  rw [World.size_alloc] at hz1
  have hw1 : Below w.heap.size w w1 := hA.trans (hb1.mono hA.size)
  have q0 := (Blk.new w 27 [.int .i64 s.ends, .int .i64 s.lead, .int .i64 s.ham]).below hb1
  go_wp2_with fail
  refine (HC.out w1 bs br hR2 q1 q2 hw1.size).mono ?_
  rintro e w2 ⟨⟨v, rfl, hv⟩, hx2, hR3⟩
  have hw2 : BX w.heap.size bm w w2 := (BX.of_below hw1).trans (hx2.mono hw1.size)
  have q3 := q0.bx hx2 q0.lt (by omega)
  rw [hnl] at hv
  obtain ⟨g, cap, rfl, _, hg⟩ := hv.form (by omega)
  have hH := own_hrow hv hnl.symm
  clear hv HC HN q0 q1 q2 hR1 hR2 hA
  have hin : ct.In w2 := by
    rw [← hct]; unfold tabOf; split
    · exact hR3.inM.t0
    · exact hR3.inM.t1
  have c0 := q3.cell 0
  have c1 := q3.cell 1
  have c2 := q3.cell 2
  have r1 := hR3.rcd.cell 1
  have r2 := hR3.rcd.cell 2
  dsimp only [List.getElem?_cons_zero, List.getElem?_cons_succ, TabV.v] at c0 c1 c2 r1 r2
  have hz := q3.lt
  have hz2 := hR3.rcd.lt
  obtain ⟨b, off, ha⟩ : ∃ b off, ct.a = some ⟨b, off, none⟩ := by
    obtain ⟨b, off, _, h, _⟩ := hin.at_ 0 (by omega)
    exact ⟨_, _, h⟩
  have hsh : (s.ham = 0 ∧ ct = m.s0) ∨ (s.ham = 1 ∧ ct = m.s1) := by
    rcases e5 with h | h
    · exact .inl ⟨h, by rw [← hct, h]; rfl⟩
    · exact .inr ⟨h, by rw [← hct, h]; rfl⟩
  rcases hsh with ⟨h1, h2⟩ | ⟨h1, h2⟩
  · rw [h1] at c2
    rw [← h2, ha] at r1
    clear h2 hct
    go_wp2
    go_quiet (fail)
    go_wp2
    go_loopw [6, 22] (fun v6 i wr => ∃ k : Nat, k ≤ ct.rows.length ∧ i = .int .i64 k ∧ Below w2.heap.size w2 wr ∧ wr.ownsRow w2.heap.size 33 2 v6 k (flatH ((ct.data.map (styleH m s nx)).take k))) (fun _ i _ => ct.rows.length - (intOf i).toNat)
    case atStart => exact ⟨0, Nat.zero_le _, rfl, bl_drewN (Below.refl _ _) nq, ⟨by simp [flatH], .inl ⟨rfl, rfl⟩⟩⟩
    case round =>
      obtain ⟨k, hk, rfl, hB, hv⟩ := hrel
      obtain ⟨hcB, hfB⟩ := bcell hB
      have zB := hB.size
      have zb := Nat.lt_of_lt_of_le hz zB
      have zr := Nat.lt_of_lt_of_le hz2 zB
      by_cases hlt : k < ct.rows.length
      · obtain ⟨b', off', r, ha', hb, hrk, hri, hcell⟩ := (hin.below hB).at_ k hlt
        rw [ha] at ha'
        simp only [Option.some.injEq, Addr.mk.injEq, and_true] at ha'
        obtain ⟨rfl, rfl⟩ := ha'
        have hmem : r.xs ∈ ct.data := List.mem_map.2 ⟨r, List.mem_of_getElem? hrk, rfl⟩
        obtain ⟨g1, g2⟩ := hgood _ hmem
        have hsucc : flatH ((ct.data.map (styleH m s nx)).take (k + 1)) = flatH ((ct.data.map (styleH m s nx)).take k) ++ [.int .i64 (styleH m s nx r.xs).lo, .int .i64 (styleH m s nx r.xs).hi] := by
          rw [flatH_succ _ k (by simp [TabV.data]; omega)]
          simp [TabV.data, hrk]
        have v1 : ∀ v ∈ nx.map (·.lo), 0 ≤ v ∧ v ≤ 65536 := fun v hv => by
          obtain ⟨x, hx, rfl⟩ := List.mem_map.1 hv; have := hok x hx; exact ⟨this.l0, this.l1⟩
        have v2 : ∀ v ∈ nx.map (·.hi), 0 ≤ v ∧ v ≤ 65536 := fun v hv => by
          obtain ⟨x, hx, rfl⟩ := List.mem_map.1 hv; have := hok x hx; exact ⟨this.h0, this.h1⟩
        have hmean : ∀ V aa cc, Below w2.heap.size w2 V → Row V aa ((countsH s r.xs).map (.int .i64)) → Calls Try.prog 30 #[.pointer (some ⟨rb, 0, none⟩), .slice aa 17 cc, .slice (some ⟨g, 0, none⟩) 17 cap] V fun e V' =>
            e = .returned (.agg #[.int .i64 (styleH m s nx r.xs).lo, .int .i64 (styleH m s nx r.xs).hi]) ∧ Below V.heap.size V V' := fun V aa cc hV hrow => by
          have := skip_mean rb m.doubt aa cc (countsH s r.xs) (some ⟨g, 0, none⟩) cap nx V ((hR3.next hV).rcd.cell 0) (hR3.next hV).lt.1 (meanOk_of hR.good ⟨g1, g2⟩ (by simp [hnl]) v1) (meanOk_of hR.good ⟨g1, g2⟩ (by simp [hnl]) v2) hrow (hH.below hV)
          rw [hnl, (countsH_ok (s := s) ⟨g1, g2⟩).1] at this
          exact this
        have hrr := hri.row
        have hcd : countsH s r.xs = if s.ends = 0 then r.xs.set 8 0 else r.xs := rfl
        unfold RowV.v at hcell
        rw [g1] at hcell
        generalize (styleH m s nx r.xs).lo = lo at *
        generalize (styleH m s nx r.xs).hi = hi at *
        obtain ⟨i0, hi0, hz0, hz1, hz2⟩ := info_parts Try.infoHope
        have M := Lib.hid hmean; clear hmean
        have S := Lib.hid hsucc; clear hsucc
        have G := Lib.hid g2; clear g2 hgood v1 v2 hok
        by_cases hen : s.ends = 0
        · rw [if_pos hen] at hcd
          rw [hcd] at M
          have hclone : Calls Try.prog 29 #[.slice r.a 17 r.c] wr fun e w' =>
              (∃ gc cc, e = .returned (.slice (some ⟨gc, 0, none⟩) 17 cc) ∧ w'.ownsRow wr.heap.size 3 1 (.slice (some ⟨gc, 0, none⟩) 17 cc) 17 (r.xs.map (.int .i64))) ∧ Below wr.heap.size wr w' := by
            have := clone_ints r.a r.c r.xs wr hrr (by omega) (by omega)
            rw [g1] at this
            exact this
          have C := Lib.hid hclone; clear hclone
          have hbe : (s.ends == 0) = true := by simp [hen]
          clear hen hcd
          go_wp2_with (first
            | (go_at_call 29; refine (C.out).mono ?_; rintro e Wc ⟨⟨gc, cc, rfl, hown⟩, hbc⟩; obtain ⟨⟨u8', cu⟩, fu, lb, lg, lc⟩ := own_cell hown 8 (by omega); have hzc := hbc.size; obtain ⟨hcc, hfc⟩ := bcell hbc; have zbc := Nat.lt_of_lt_of_le zb hzc; have zrc := Nat.lt_of_lt_of_le zr hzc
               have hrs := own_set hown 8 (.int .i64 0); have hqs : Below wr.heap.size wr (Wc.setCell ⟨gc, 8, none⟩ (.int .i64 0)) := hbc.setCell lb _; rw [show (r.xs.map (Value.int .i64)).set 8 (.int .i64 0) = (r.xs.set 8 0).map (.int .i64) from (List.map_set ..).symm] at hrs)
            | (go_at_call 30; refine (M.out _ _ _ (hB.trans (hqs.mono zB)) hrs).mono ?_; rintro e W1 ⟨rfl, hb1⟩; have hq1 : Below wr.heap.size wr W1 := hqs.trans (hb1.mono hqs.size); have hz4 := hq1.size; have hz5 : w2.heap.size ≤ W1.heap.size := Nat.le_trans zB hz4)
            | (at_builtin; refine wpList_append_lies _ rfl _ _ _ (by rfl) w2.heap.size 33 i0 _ 2 16 Try.underlying66 hi0 hz0 hz1 hz2 rfl (by omega) _ k _ (by rfl) ((own_next hv hq1).alloc _) ⟨W1.heap.size, 0, none⟩ 1 1 [.int .i64 lo, .int .i64 hi] (by rfl) (by rfl) (World.news_of_block (cs := #[.int .i64 lo, .int .i64 hi]) (t := 33) (fr := (0, 0)) (World.alloc_heap_new W1 _)) (by simp [Value.oneCell']) (by omega) (by simp only [maxLen]; omega) (by omega) (by simp; omega) _ rfl ?_))
          intro g3 cap3 w3 hown3 hgrow3 hat3 hlt3
          go_wp2
          go_roundw
          case measure => simp only [intOf]; omega
          refine ⟨k + 1, by omega, by push_cast; rfl, (Below.alloc (hB.trans (hq1.mono zB)) hz5 _).grown hgrow3 (by simp; omega) (fun j e => (hv.lt j e).1), ?_⟩
          rw [S.out]
          exact hown3
        · rw [if_neg hen] at hcd
          rw [hcd] at M
          go_wp2_with (first
            | (go_at_call 30; refine (M.out _ _ _ hB hrr).mono ?_; rintro e W1 ⟨rfl, hb1⟩; have hq1 : Below wr.heap.size wr W1 := hb1; have hz4 := hb1.size; have hz5 : w2.heap.size ≤ W1.heap.size := Nat.le_trans zB hz4)
            | (at_builtin; refine wpList_append_lies _ rfl _ _ _ (by rfl) w2.heap.size 33 i0 _ 2 16 Try.underlying66 hi0 hz0 hz1 hz2 rfl (by omega) _ k _ (by rfl) ((own_next hv hq1).alloc _) ⟨W1.heap.size, 0, none⟩ 1 1 [.int .i64 lo, .int .i64 hi] (by rfl) (by rfl) (World.news_of_block (cs := #[.int .i64 lo, .int .i64 hi]) (t := 33) (fr := (0, 0)) (World.alloc_heap_new W1 _)) (by simp [Value.oneCell']) (by omega) (by simp only [maxLen]; omega) (by omega) (by simp; omega) _ rfl ?_))
          intro g3 cap3 w3 hown3 hgrow3 hat3 hlt3
          go_wp2
          go_roundw
          case measure => simp only [intOf]; omega
          refine ⟨k + 1, by omega, by push_cast; rfl, (Below.alloc (hB.trans (hq1.mono zB)) hz5 _).grown hgrow3 (by simp; omega) (fun j e => (hv.lt j e).1), ?_⟩
          rw [S.out]
          exact hown3
      · obtain rfl : k = ct.rows.length := by omega
        obtain ⟨g6, c6, rfl, _, hg6⟩ := hv.form (by omega)
        have hlen : (ct.data.map (styleH m s nx)).length = ct.rows.length := by simp [TabV.data]
        rw [List.take_of_length_le (by omega)] at hv
        have hr := own_hrow hv hlen.symm
        have hcap : ct.rows.length ≤ c6 := by
          rcases hv.2 with ⟨h, _⟩ | ⟨g', cap', cur', h, _, _, hle, _⟩
          · cases h
          · cases h; exact hle
        go_wp2
        go_ret
        exact ⟨⟨some ⟨g6, 0, none⟩, c6, by rw [hlen]; rfl, by omega, hr⟩, hw2.trans (BX.of_below (hB.mono hw2.size)), hR3.next hB⟩
  · rw [h1] at c2
    rw [← h2, ha] at r2
    clear h2 hct
    go_wp2
    go_quiet (fail)
    go_wp2
    go_loopw [6, 22] (fun v6 i wr => ∃ k : Nat, k ≤ ct.rows.length ∧ i = .int .i64 k ∧ Below w2.heap.size w2 wr ∧ wr.ownsRow w2.heap.size 33 2 v6 k (flatH ((ct.data.map (styleH m s nx)).take k))) (fun _ i _ => ct.rows.length - (intOf i).toNat)
    case atStart => exact ⟨0, Nat.zero_le _, rfl, bl_drewN (Below.refl _ _) nq, ⟨by simp [flatH], .inl ⟨rfl, rfl⟩⟩⟩
    case round =>
      obtain ⟨k, hk, rfl, hB, hv⟩ := hrel
      obtain ⟨hcB, hfB⟩ := bcell hB
      have zB := hB.size
      have zb := Nat.lt_of_lt_of_le hz zB
      have zr := Nat.lt_of_lt_of_le hz2 zB
      by_cases hlt : k < ct.rows.length
      · obtain ⟨b', off', r, ha', hb, hrk, hri, hcell⟩ := (hin.below hB).at_ k hlt
        rw [ha] at ha'
        simp only [Option.some.injEq, Addr.mk.injEq, and_true] at ha'
        obtain ⟨rfl, rfl⟩ := ha'
        have hmem : r.xs ∈ ct.data := List.mem_map.2 ⟨r, List.mem_of_getElem? hrk, rfl⟩
        obtain ⟨g1, g2⟩ := hgood _ hmem
        have hsucc : flatH ((ct.data.map (styleH m s nx)).take (k + 1)) = flatH ((ct.data.map (styleH m s nx)).take k) ++ [.int .i64 (styleH m s nx r.xs).lo, .int .i64 (styleH m s nx r.xs).hi] := by
          rw [flatH_succ _ k (by simp [TabV.data]; omega)]
          simp [TabV.data, hrk]
        have v1 : ∀ v ∈ nx.map (·.lo), 0 ≤ v ∧ v ≤ 65536 := fun v hv => by
          obtain ⟨x, hx, rfl⟩ := List.mem_map.1 hv; have := hok x hx; exact ⟨this.l0, this.l1⟩
        have v2 : ∀ v ∈ nx.map (·.hi), 0 ≤ v ∧ v ≤ 65536 := fun v hv => by
          obtain ⟨x, hx, rfl⟩ := List.mem_map.1 hv; have := hok x hx; exact ⟨this.h0, this.h1⟩
        have hmean : ∀ V aa cc, Below w2.heap.size w2 V → Row V aa ((countsH s r.xs).map (.int .i64)) → Calls Try.prog 30 #[.pointer (some ⟨rb, 0, none⟩), .slice aa 17 cc, .slice (some ⟨g, 0, none⟩) 17 cap] V fun e V' =>
            e = .returned (.agg #[.int .i64 (styleH m s nx r.xs).lo, .int .i64 (styleH m s nx r.xs).hi]) ∧ Below V.heap.size V V' := fun V aa cc hV hrow => by
          have := skip_mean rb m.doubt aa cc (countsH s r.xs) (some ⟨g, 0, none⟩) cap nx V ((hR3.next hV).rcd.cell 0) (hR3.next hV).lt.1 (meanOk_of hR.good ⟨g1, g2⟩ (by simp [hnl]) v1) (meanOk_of hR.good ⟨g1, g2⟩ (by simp [hnl]) v2) hrow (hH.below hV)
          rw [hnl, (countsH_ok (s := s) ⟨g1, g2⟩).1] at this
          exact this
        have hrr := hri.row
        have hcd : countsH s r.xs = if s.ends = 0 then r.xs.set 8 0 else r.xs := rfl
        unfold RowV.v at hcell
        rw [g1] at hcell
        generalize (styleH m s nx r.xs).lo = lo at *
        generalize (styleH m s nx r.xs).hi = hi at *
        obtain ⟨i0, hi0, hz0, hz1, hz2⟩ := info_parts Try.infoHope
        have M := Lib.hid hmean; clear hmean
        have S := Lib.hid hsucc; clear hsucc
        have G := Lib.hid g2; clear g2 hgood v1 v2 hok
        by_cases hen : s.ends = 0
        · rw [if_pos hen] at hcd
          rw [hcd] at M
          have hclone : Calls Try.prog 29 #[.slice r.a 17 r.c] wr fun e w' =>
              (∃ gc cc, e = .returned (.slice (some ⟨gc, 0, none⟩) 17 cc) ∧ w'.ownsRow wr.heap.size 3 1 (.slice (some ⟨gc, 0, none⟩) 17 cc) 17 (r.xs.map (.int .i64))) ∧ Below wr.heap.size wr w' := by
            have := clone_ints r.a r.c r.xs wr hrr (by omega) (by omega)
            rw [g1] at this
            exact this
          have C := Lib.hid hclone; clear hclone
          have hbe : (s.ends == 0) = true := by simp [hen]
          clear hen hcd
          go_wp2_with (first
            | (go_at_call 29; refine (C.out).mono ?_; rintro e Wc ⟨⟨gc, cc, rfl, hown⟩, hbc⟩; obtain ⟨⟨u8', cu⟩, fu, lb, lg, lc⟩ := own_cell hown 8 (by omega); have hzc := hbc.size; obtain ⟨hcc, hfc⟩ := bcell hbc; have zbc := Nat.lt_of_lt_of_le zb hzc; have zrc := Nat.lt_of_lt_of_le zr hzc
               have hrs := own_set hown 8 (.int .i64 0); have hqs : Below wr.heap.size wr (Wc.setCell ⟨gc, 8, none⟩ (.int .i64 0)) := hbc.setCell lb _; rw [show (r.xs.map (Value.int .i64)).set 8 (.int .i64 0) = (r.xs.set 8 0).map (.int .i64) from (List.map_set ..).symm] at hrs)
            | (go_at_call 30; refine (M.out _ _ _ (hB.trans (hqs.mono zB)) hrs).mono ?_; rintro e W1 ⟨rfl, hb1⟩; have hq1 : Below wr.heap.size wr W1 := hqs.trans (hb1.mono hqs.size); have hz4 := hq1.size; have hz5 : w2.heap.size ≤ W1.heap.size := Nat.le_trans zB hz4)
            | (at_builtin; refine wpList_append_lies _ rfl _ _ _ (by rfl) w2.heap.size 33 i0 _ 2 16 Try.underlying66 hi0 hz0 hz1 hz2 rfl (by omega) _ k _ (by rfl) ((own_next hv hq1).alloc _) ⟨W1.heap.size, 0, none⟩ 1 1 [.int .i64 lo, .int .i64 hi] (by rfl) (by rfl) (World.news_of_block (cs := #[.int .i64 lo, .int .i64 hi]) (t := 33) (fr := (0, 0)) (World.alloc_heap_new W1 _)) (by simp [Value.oneCell']) (by omega) (by simp only [maxLen]; omega) (by omega) (by simp; omega) _ rfl ?_))
          intro g3 cap3 w3 hown3 hgrow3 hat3 hlt3
          go_wp2
          go_roundw
          case measure => simp only [intOf]; omega
          refine ⟨k + 1, by omega, by push_cast; rfl, (Below.alloc (hB.trans (hq1.mono zB)) hz5 _).grown hgrow3 (by simp; omega) (fun j e => (hv.lt j e).1), ?_⟩
          rw [S.out]
          exact hown3
        · rw [if_neg hen] at hcd
          rw [hcd] at M
          go_wp2_with (first
            | (go_at_call 30; refine (M.out _ _ _ hB hrr).mono ?_; rintro e W1 ⟨rfl, hb1⟩; have hq1 : Below wr.heap.size wr W1 := hb1; have hz4 := hb1.size; have hz5 : w2.heap.size ≤ W1.heap.size := Nat.le_trans zB hz4)
            | (at_builtin; refine wpList_append_lies _ rfl _ _ _ (by rfl) w2.heap.size 33 i0 _ 2 16 Try.underlying66 hi0 hz0 hz1 hz2 rfl (by omega) _ k _ (by rfl) ((own_next hv hq1).alloc _) ⟨W1.heap.size, 0, none⟩ 1 1 [.int .i64 lo, .int .i64 hi] (by rfl) (by rfl) (World.news_of_block (cs := #[.int .i64 lo, .int .i64 hi]) (t := 33) (fr := (0, 0)) (World.alloc_heap_new W1 _)) (by simp [Value.oneCell']) (by omega) (by simp only [maxLen]; omega) (by omega) (by simp; omega) _ rfl ?_))
          intro g3 cap3 w3 hown3 hgrow3 hat3 hlt3
          go_wp2
          go_roundw
          case measure => simp only [intOf]; omega
          refine ⟨k + 1, by omega, by push_cast; rfl, (Below.alloc (hB.trans (hq1.mono zB)) hz5 _).grown hgrow3 (by simp; omega) (fun j e => (hv.lt j e).1), ?_⟩
          rw [S.out]
          exact hown3
      · obtain rfl : k = ct.rows.length := by omega
        obtain ⟨g6, c6, rfl, _, hg6⟩ := hv.form (by omega)
        have hlen : (ct.data.map (styleH m s nx)).length = ct.rows.length := by simp [TabV.data]
        rw [List.take_of_length_le (by omega)] at hv
        have hr := own_hrow hv hlen.symm
        have hcap : ct.rows.length ≤ c6 := by
          rcases hv.2 with ⟨h, _⟩ | ⟨g', cap', cur', h, _, _, hle, _⟩
          · cases h
          · cases h; exact hle
        go_wp2
        go_ret
        exact ⟨⟨some ⟨g6, 0, none⟩, c6, by rw [hlen]; rfl, by omega, hr⟩, hw2.trans (BX.of_below (hB.mono hw2.size)), hR3.next hB⟩
end Go.Proofs.Ytbppjebpnpgenaa

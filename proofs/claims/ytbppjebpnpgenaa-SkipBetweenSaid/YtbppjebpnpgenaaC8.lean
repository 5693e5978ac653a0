/- A chance, of any state; the law's own walk. -/
import Derived.Test.YtbppjebpnpgenaaB19
import Derived.Test.YtbppjebpnpgenaaC7
namespace Go.Proofs.Ytbppjebpnpgenaa
open Go Go.RowKit
attribute [local go_sem ↓] Go.wp_at_zero Go.wp_at_succ

set_option maxRecDepth 100000 in
theorem chance_end (m : RivV) (down : Bool) (w0 : World) (pb bm : Nat) (s : St) (hend : s.ends = 0) (hlead : s.lead ≠ 0)
    (W : World) (o : Bool) (hP : Plays m down w0 pb bm o W) :
    Calls Try.prog 8 #[.pointer (some ⟨pb, 0, none⟩), s.v] W fun e W' => ChanceAt m down w0 pb bm s W o e W' := by
  have hA : Below W.heap.size W (W.alloc (.cells #[.int .i64 s.ends, .int .i64 s.lead, .int .i64 s.ham] 27)) := by go_grown
  have HC := Lib.hid (chanceS_end down m s hend hlead)
  have b1 : (s.ends == 0) = true := by simp [hend]
  have b2 : (s.lead == 0) = false := by simp [hlead]
  have b3 : (s.lead != 0) = true := by simp [hlead]
  clear hend hlead
  unfold St.v
  by_cases hl : 0 < s.lead
  · have hd : decide (0 < s.lead) = true := decide_eq_true hl
    go_enter Try.func8, Try.ntmps8
    go_wp2
    go_ret
    exact ⟨65536, o, rfl, by omega, by omega, id, fun _ => by rw [HC.out, if_pos hl], BY.of_below hA, hP.next hA⟩
  · have hd : decide (0 < s.lead) = false := decide_eq_false hl
    go_enter Try.func8, Try.ntmps8
    go_wp2
    go_ret
    exact ⟨0, o, rfl, by omega, by omega, id, fun _ => by rw [HC.out, if_neg (by omega)], BY.of_below hA, hP.next hA⟩

theorem chance_at (m : RivV) (down : Bool) (w0 : World) (pb bm : Nat) : ∀ (n : Nat) (s : St), s.ends.toNat = n → stB s = true → ∀ (W : World) (o : Bool), Plays m down w0 pb bm o W →
    Calls Try.prog 8 #[.pointer (some ⟨pb, 0, none⟩), s.v] W fun e W' => ChanceAt m down w0 pb bm s W o e W'
  | 0, s, hn, hs, W, o, hP => by
    have h0 := (stB_spec hs).1
    by_cases hl : s.lead = 0
    · exact chance_zero m down w0 pb bm s hs (by omega) hl W o hP
    · exact chance_end m down w0 pb bm s (by omega) hl W o hP
  | n + 1, s, hn, hs, W, o, hP =>
    chance_pos m down w0 pb bm s hs (by omega) (fun p V o' _ _ hV => chance_at m down w0 pb bm n (nextS s p) (by simp only [nextS]; omega) (nextS_ok hs (by omega)) V o' hV) W o hP

theorem Plays.by_ {m : RivV} {down : Bool} {w0 w w' : World} {pb bm b1 b2 : Nat} {odd : Bool} (h : Plays m down w0 pb bm odd w) (hB : BY w.heap.size b1 b2 w w') (h1 : w0.heap.size ≤ b1) (h2 : w0.heap.size ≤ b2) (n1 : pb ≠ b1) (n2 : pb ≠ b2) (n3 : bm ≠ b1) (n4 : bm ≠ b2) : Plays m down w0 pb bm odd w' := by
  obtain ⟨ents, hm, he⟩ := h.map
  obtain ⟨l1, l2⟩ := h.lt
  exact ⟨h.below.trans (hB.below h.below.size h1 h2), h.data, h.good, h.lpb, h.lbm, h.blk.by_ hB l1 n1 n2, ents, hm.kept (hB.block bm l2 n3 n4), he⟩

theorem eq_hp0 (w : World) : (Op.equal 33 (.agg #[.int .i64 0, .int .i64 0]) (.agg #[.int .i64 0, .int .i64 0])).run Try.prog w = .ok true w := by kernel_rfl

set_option maxRecDepth 100000 in
set_option maxHeartbeats 2000000 in
theorem between_walk (m : RivV) (s : St) (a : Option Addr) (c : Nat) (os : List Nat) (w : World) (hin : m.In w) (hrow : Row w a (os.map fun (b : Nat) => Value.int .u8 (b : Int))) (hbyte : ∀ b ∈ os, b < 256) (hol : os.length ≤ 9223372036854775807) :
    Calls Try.prog 3 #[m.v, s.v, .slice a os.length c] w fun e w' => e = .returned (.bool true) ∧ Below w.heap.size w w' := by
  have hA : Below w.heap.size w ((w.alloc (.cells #[.int .i64 m.doubt, .slice m.s0.a m.s0.rows.length m.s0.c, .slice m.s1.a m.s1.rows.length m.s1.c] 25)).alloc (.cells #[.int .i64 s.ends, .int .i64 s.lead, .int .i64 s.ham] 27)) := by go_grown
  have n0 := Lib.hid ((Blk.new w 25 [.int .i64 m.doubt, .slice m.s0.a m.s0.rows.length m.s0.c, .slice m.s1.a m.s1.rows.length m.s1.c]).alloc (.cells #[.int .i64 s.ends, .int .i64 s.lead, .int .i64 s.ham] 27))
  have n1 := Lib.hid (Blk.new2 w (.cells #[.int .i64 m.doubt, .slice m.s0.a m.s0.rows.length m.s0.c, .slice m.s1.a m.s1.rows.length m.s1.c] 25) 27 [.int .i64 s.ends, .int .i64 s.lead, .int .i64 s.ham])
  have hlong := fun W hW => long_walk m s 4 W hW
  have hvb := fun W hW h => skip_Value_bad m s W hW h
  have hv := fun W hW h1 h2 => skip_Value m s W hW h1 h2
  have hf := fun W hW hg ho hd => filled_walk m a c os W hW hg ho hd
  have hch := fun m' down w0 pb bm hs W o hP => chance_at m' down w0 pb bm _ s rfl hs W o hP
  unfold RivV.v TabV.v at hlong hvb hv hf
  unfold St.v at hlong hvb hv hch
  have HL := Lib.hid hlong; clear hlong
  have HVB := Lib.hid hvb; clear hvb
  have HV := Lib.hid hv; clear hv
  have HF := Lib.hid hf; clear hf
  have HCH := Lib.hid hch; clear hch
  have HROW := Lib.hid hrow; clear hrow
  have HBYTE := Lib.hid hbyte; clear hbyte
  have heqh := eq_hp0
  have hmk : ∀ V : World, (Instr.makeMap 39 none).run Try.prog V = .ok (.map (some V.heap.size)) (V.alloc (.map #[] 0)) := fun _ => rfl
  unfold RivV.v TabV.v St.v
  go_enter Try.func3, Try.ntmps3
  go_wp2_with fail
  refine (alive_walk _).mono ?_
  rintro e W1 ⟨rfl, hb1⟩
  have p0 := n0.out.below hb1
  have p1 := n1.out.below hb1
  have hin1 := (hin.below hA).below hb1
  have hB1 := hA.trans (hb1.mono hA.size)
  clear n0 n1 hA hb1
  have c00 := p0.cell 0
  have c01 := p0.cell 1
  have c02 := p0.cell 2
  have c10 := p1.cell 0
  have c11 := p1.cell 1
  have c12 := p1.cell 2
  have z0 := p0.lt
  have z1 := p1.lt
  dsimp only [List.getElem?_cons_zero, List.getElem?_cons_succ] at c00 c01 c02 c10 c11 c12
  go_wp2_with fail
  refine (HL.out _ hin1).mono ?_
  rintro e W2 ⟨b, rfl, hbb, hb2⟩
  clear hbb HL
  replace p0 := p0.below hb2
  replace p1 := p1.below hb2
  have hin2 := hin1.below hb2
  have hB2 := hB1.trans (hb2.mono hB1.size)
  clear hin1 hB1 hb2 c00 c01 c02 c10 c11 c12 z0 z1
  have c00 := p0.cell 0
  have c01 := p0.cell 1
  have c02 := p0.cell 2
  have c10 := p1.cell 0
  have c11 := p1.cell 1
  have c12 := p1.cell 2
  have z0 := p0.lt
  have z1 := p1.lt
  dsimp only [List.getElem?_cons_zero, List.getElem?_cons_succ] at c00 c01 c02 c10 c11 c12
  cases b with
  | true =>
    go_wp2
    go_ret
    exact ⟨rfl, hB2⟩
  | false =>
    by_cases ho : os.length ≤ 200
    · have hod : decide ((200 : Int) < (os.length : Int)) = false := decide_eq_false (by omega)
      by_cases hd : m.doubt ≤ 40
      · have hdd : decide ((40 : Int) < m.doubt) = false := decide_eq_false (by omega)
        cases hval : (rivB m && stB s) with
        | false =>
          have HV2 := HVB.out W2 hin2 hval
          clear hval
          go_wp2_with fail
          refine HV2.mono ?_
          rintro e W3 ⟨rfl, hb3⟩
          have hB3 := hB2.trans (hb3.mono hB2.size)
          go_wp2
          go_ret
          exact ⟨rfl, hB3.alloc hB3.size _⟩
        | true =>
          simp only [Bool.and_eq_true] at hval
          obtain ⟨hm, hs⟩ := hval
          have hg := goodM hm
          have HV2 := HV.out W2 hin2 hm hs
          obtain ⟨u1, u2, u3, u4⟩ := hopeS_ok hg s
          have hbt := fun m' (hmo : MoreM m m') => chanceS_btw hg hmo s (stB_spec hs).1
          have HBT := Lib.hid hbt; clear hbt
          have HM := Lib.hid hm; clear hm
          have HS := Lib.hid hs; clear hs
          generalize hopeS m s = hop at *
          go_wp2_with fail
          refine HV2.mono ?_
          rintro e W3 ⟨rfl, hb3⟩
          clear HV2
          have p2 := Blk.new W3 33 [.int .i64 hop.lo, .int .i64 hop.hi]
          replace p0 := p0.below hb3
          replace p1 := p1.below hb3
          have hin3 := hin2.below hb3
          have hB3 := hB2.trans (hb3.mono hB2.size)
          clear hin2 hB2 hb3 c00 c01 c02 c10 c11 c12 z0 z1
          have c00 := p0.cell 0
          have c01 := p0.cell 1
          have c02 := p0.cell 2
          have z0 := p0.lt
          dsimp only [List.getElem?_cons_zero, List.getElem?_cons_succ] at c00 c01 c02
          go_wp2_with fail
          clear c00 c01 c02 z0
          have hA3 := Below.alloc (Below.refl W3.heap.size W3) (Nat.le_refl _) (.cells #[.int .i64 hop.lo, .int .i64 hop.hi] 33)
          replace p0 := p0.below hA3
          replace p1 := p1.below hA3
          replace hin3 := hin3.below hA3
          replace hB3 := hB3.trans (hA3.mono hB3.size)
          clear hA3
          generalize W3.alloc (.cells #[.int .i64 hop.lo, .int .i64 hop.hi] 33) = V3 at p0 p1 p2 hin3 hB3 ⊢
          generalize W3.heap.size = b8 at p2 ⊢
          refine (HF.out V3 hin3 hg ⟨HROW.out.below hB3, ho, HBYTE.out⟩ hd).mono ?_
          rintro e W4 ⟨m', rfl, hin4, hmo, hb4⟩
          replace p0 := p0.below hb4
          replace p1 := p1.below hb4
          replace p2 := p2.below hb4
          have p1_lt4 := p1.lt
          have p2_lt4 := p2.lt
          have hB4 := hB3.trans (hb4.mono hB3.size)
          have hgf := goodF hg hmo
          have hbtw := HBT.out m' hmo
          clear hin3 hB3 hb4 HBT hg hmo
          obtain ⟨d', ⟨a0, c0, rs0⟩, ⟨a1, c1, rs1⟩⟩ := m'
          dsimp only
          have z4 := hin4
          have hX : Below W4.heap.size W4 (((((W4.alloc (.cells #[.int .i64 d', .slice a0 rs0.length c0, .slice a1 rs1.length c1] 25)).alloc (.map #[] 0)).alloc (.cells #[.int .i64 d', .slice a0 rs0.length c0, .slice a1 rs1.length c1, .bool true, .bool false, .map (some (W4.heap.size + 1))] 41)).alloc (.map #[] 0)).alloc (.cells #[.int .i64 d', .slice a0 rs0.length c0, .slice a1 rs1.length c1, .bool false, .bool false, .map (some (W4.heap.size + 1 + 1 + 1))] 41)) := by go_grown
          have hA1 : Blk (((((W4.alloc (.cells #[.int .i64 d', .slice a0 rs0.length c0, .slice a1 rs1.length c1] 25)).alloc (.map #[] 0)).alloc (.cells #[.int .i64 d', .slice a0 rs0.length c0, .slice a1 rs1.length c1, .bool true, .bool false, .map (some (W4.heap.size + 1))] 41)).alloc (.map #[] 0)).alloc (.cells #[.int .i64 d', .slice a0 rs0.length c0, .slice a1 rs1.length c1, .bool false, .bool false, .map (some (W4.heap.size + 1 + 1 + 1))] 41)) (W4.heap.size + 1 + 1) 41 [.int .i64 d', .slice a0 rs0.length c0, .slice a1 rs1.length c1, .bool true, .bool false, .map (some (W4.heap.size + 1))] := by
            have := ((Blk.new ((W4.alloc (.cells #[.int .i64 d', .slice a0 rs0.length c0, .slice a1 rs1.length c1] 25)).alloc (.map #[] 0)) 41 [.int .i64 d', .slice a0 rs0.length c0, .slice a1 rs1.length c1, .bool true, .bool false, .map (some (W4.heap.size + 1))]).alloc (.map #[] 0)).alloc (.cells #[.int .i64 d', .slice a0 rs0.length c0, .slice a1 rs1.length c1, .bool false, .bool false, .map (some (W4.heap.size + 1 + 1 + 1))] 41)
            rwa [World.size_alloc, World.size_alloc] at this
          have hA2 : Blk (((((W4.alloc (.cells #[.int .i64 d', .slice a0 rs0.length c0, .slice a1 rs1.length c1] 25)).alloc (.map #[] 0)).alloc (.cells #[.int .i64 d', .slice a0 rs0.length c0, .slice a1 rs1.length c1, .bool true, .bool false, .map (some (W4.heap.size + 1))] 41)).alloc (.map #[] 0)).alloc (.cells #[.int .i64 d', .slice a0 rs0.length c0, .slice a1 rs1.length c1, .bool false, .bool false, .map (some (W4.heap.size + 1 + 1 + 1))] 41)) (W4.heap.size + 1 + 1 + 1 + 1) 41 [.int .i64 d', .slice a0 rs0.length c0, .slice a1 rs1.length c1, .bool false, .bool false, .map (some (W4.heap.size + 1 + 1 + 1))] := by
            have := Blk.new ((((W4.alloc (.cells #[.int .i64 d', .slice a0 rs0.length c0, .slice a1 rs1.length c1] 25)).alloc (.map #[] 0)).alloc (.cells #[.int .i64 d', .slice a0 rs0.length c0, .slice a1 rs1.length c1, .bool true, .bool false, .map (some (W4.heap.size + 1))] 41)).alloc (.map #[] 0)) 41 [.int .i64 d', .slice a0 rs0.length c0, .slice a1 rs1.length c1, .bool false, .bool false, .map (some (W4.heap.size + 1 + 1 + 1))]
            rwa [World.size_alloc, World.size_alloc, World.size_alloc, World.size_alloc] at this
          have hM1 : MapAt (((((W4.alloc (.cells #[.int .i64 d', .slice a0 rs0.length c0, .slice a1 rs1.length c1] 25)).alloc (.map #[] 0)).alloc (.cells #[.int .i64 d', .slice a0 rs0.length c0, .slice a1 rs1.length c1, .bool true, .bool false, .map (some (W4.heap.size + 1))] 41)).alloc (.map #[] 0)).alloc (.cells #[.int .i64 d', .slice a0 rs0.length c0, .slice a1 rs1.length c1, .bool false, .bool false, .map (some (W4.heap.size + 1 + 1 + 1))] 41)) (W4.heap.size + 1) [] := by
            have := World.alloc_heap_new (W4.alloc (.cells #[.int .i64 d', .slice a0 rs0.length c0, .slice a1 rs1.length c1] 25)) (.map #[] 0)
            rw [World.size_alloc] at this
            exact mapAt_new _ _ 0 ((Below.heap_alloc _ _ _ (by simp)).trans ((Below.heap_alloc _ _ _ (by simp)).trans ((Below.heap_alloc _ _ _ (by simp)).trans this)))
          have hM2 : MapAt (((((W4.alloc (.cells #[.int .i64 d', .slice a0 rs0.length c0, .slice a1 rs1.length c1] 25)).alloc (.map #[] 0)).alloc (.cells #[.int .i64 d', .slice a0 rs0.length c0, .slice a1 rs1.length c1, .bool true, .bool false, .map (some (W4.heap.size + 1))] 41)).alloc (.map #[] 0)).alloc (.cells #[.int .i64 d', .slice a0 rs0.length c0, .slice a1 rs1.length c1, .bool false, .bool false, .map (some (W4.heap.size + 1 + 1 + 1))] 41)) (W4.heap.size + 1 + 1 + 1) [] := by
            have := World.alloc_heap_new (((W4.alloc (.cells #[.int .i64 d', .slice a0 rs0.length c0, .slice a1 rs1.length c1] 25)).alloc (.map #[] 0)).alloc (.cells #[.int .i64 d', .slice a0 rs0.length c0, .slice a1 rs1.length c1, .bool true, .bool false, .map (some (W4.heap.size + 1))] 41)) (.map #[] 0)
            rw [World.size_alloc, World.size_alloc, World.size_alloc] at this
            exact mapAt_new _ _ 0 ((Below.heap_alloc _ _ _ (by simp)).trans this)
          have hPA : Plays ⟨d', ⟨a0, c0, rs0⟩, ⟨a1, c1, rs1⟩⟩ true W4 (W4.heap.size + 1 + 1) (W4.heap.size + 1) false (((((W4.alloc (.cells #[.int .i64 d', .slice a0 rs0.length c0, .slice a1 rs1.length c1] 25)).alloc (.map #[] 0)).alloc (.cells #[.int .i64 d', .slice a0 rs0.length c0, .slice a1 rs1.length c1, .bool true, .bool false, .map (some (W4.heap.size + 1))] 41)).alloc (.map #[] 0)).alloc (.cells #[.int .i64 d', .slice a0 rs0.length c0, .slice a1 rs1.length c1, .bool false, .bool false, .map (some (W4.heap.size + 1 + 1 + 1))] 41)) := ⟨hX, hin4, hgf, by omega, by omega, hA1, [], hM1, fun s v h => by cases h⟩
          have hPB : Plays ⟨d', ⟨a0, c0, rs0⟩, ⟨a1, c1, rs1⟩⟩ false W4 (W4.heap.size + 1 + 1 + 1 + 1) (W4.heap.size + 1 + 1 + 1) false (((((W4.alloc (.cells #[.int .i64 d', .slice a0 rs0.length c0, .slice a1 rs1.length c1] 25)).alloc (.map #[] 0)).alloc (.cells #[.int .i64 d', .slice a0 rs0.length c0, .slice a1 rs1.length c1, .bool true, .bool false, .map (some (W4.heap.size + 1))] 41)).alloc (.map #[] 0)).alloc (.cells #[.int .i64 d', .slice a0 rs0.length c0, .slice a1 rs1.length c1, .bool false, .bool false, .map (some (W4.heap.size + 1 + 1 + 1))] 41)) := ⟨hX, hin4, hgf, by omega, by omega, hA2, [], hM2, fun s v h => by cases h⟩
          replace p0 := p0.below hX
          replace p1 := p1.below hX
          replace p2 := p2.below hX
          have hB5 := hB4.trans (hX.mono hB4.size)
          have hlt4 := hB4.size
          clear hA1 hA2 hM1 hM2 hin4 hgf hB4 z4
          go_wp2_with fail
          clear hX
          generalize (((((W4.alloc (.cells #[.int .i64 d', .slice a0 rs0.length c0, .slice a1 rs1.length c1] 25)).alloc (.map #[] 0)).alloc (.cells #[.int .i64 d', .slice a0 rs0.length c0, .slice a1 rs1.length c1, .bool true, .bool false, .map (some (W4.heap.size + 1))] 41)).alloc (.map #[] 0)).alloc (.cells #[.int .i64 d', .slice a0 rs0.length c0, .slice a1 rs1.length c1, .bool false, .bool false, .map (some (W4.heap.size + 1 + 1 + 1))] 41)) = V5 at p0 p1 p2 hPA hPB hB5 ⊢
          generalize hN : W4.heap.size = N at hPA hPB hlt4 p1_lt4 p2_lt4 ⊢
          have HNN := Lib.hid hN; clear hN
          have q10 := p1.cell 0
          have q11 := p1.cell 1
          have q12 := p1.cell 2
          have z1 := p1.lt
          dsimp only [List.getElem?_cons_zero, List.getElem?_cons_succ] at q10 q11 q12
          have nn := HNN.out
          have hPA5 := hPA.next (Below.drew (Below.refl V5.heap.size V5))
          have hPB5 := hPB.next (Below.drew (Below.refl V5.heap.size V5))
          obtain ⟨la1, la2⟩ := hPA.lt
          have HNW : Hid (w.heap.size + 1 < N ∧ b8 < N) := Lib.hid ⟨p1_lt4, p2_lt4⟩
          have HBTW := Lib.hid hbtw; clear hbtw
          clear hPA hPB nn
          go_region_held3 (fun V => V.cell? ⟨w.heap.size + 1, 0, none⟩ = some (.int .i64 s.ends) ∧ V.cell? ⟨w.heap.size + 1, 1, none⟩ = some (.int .i64 s.lead) ∧ V.cell? ⟨w.heap.size + 1, 2, none⟩ = some (.int .i64 s.ham))
            (first | exact ⟨x1.cell 0, x1.cell 1, x1.cell 2⟩ | exact ⟨u1'.cell 0, u1'.cell 1, u1'.cell 2⟩ | go_keep)
            (first
              | (go_at_call 8
                 refine (HCH.out _ false W4 (N + 1 + 1 + 1 + 1) (N + 1 + 1 + 1) HS.out _ false hpB6).mono ?_
                 rintro e V7 ⟨rB, oB, rfl, rb0, rb1, -, hrB, hyB, hpB⟩
                 have hpA7 := hpA.by_ hyB (by have := HNN.out; omega) (by have := HNN.out; omega) (by omega) (by omega) (by omega) (by omega)
                 have x1 := u1'.by_ hyB u1'.lt (by omega) (by omega)
                 have x2 := u2'.by_ hyB u2'.lt (by omega) (by omega)
                 have hB7 := hB6.trans (hyB.below (B' := w.heap.size) (by have := hB6.size; omega) (by omega) (by omega))
                 have oa := hpA7.blk.cell 4
                 have ob := hpB.blk.cell 4
                 have h0 := x2.cell 0
                 have h1 := x2.cell 1
                 have k1 := hpA7.lt.1
                 have k2 := hpB.lt.1
                 have k3 := x2.lt
                 dsimp only [List.getElem?_cons_zero, List.getElem?_cons_succ] at oa ob h0 h1)
              | (go_at_call 8
                 refine (HCH.out _ true W4 (N + 1 + 1) (N + 1) HS.out _ false hPA5).mono ?_
                 rintro e V6 ⟨rA, oA, rfl, ra0, ra1, -, hrA, hyA, hpA⟩
                 have hpB6 := hPB5.by_ hyA (by have := HNN.out; omega) (by have := HNN.out; omega) (by omega) (by omega) (by omega) (by omega)
                 have u1' := p1.drew.by_ hyA p1.drew.lt (by omega) (by omega)
                 have u2' := p2.drew.by_ hyA p2.drew.lt (by omega) (by omega)
                 have hB6 := (hB5.trans (Below.drew (Below.refl _ _))).trans (hyA.below (B' := w.heap.size) (by have := hB5.size; simp; omega) (by omega) (by omega))))
          clear hyA hyB hpA hpB hpA7 hpB6 hPA5 hPB5 heqh hmk
          cases oA with
          | true =>
            go_wp2
            go_ret
            exact ⟨rfl, hB7⟩
          | false =>
            cases oB with
            | true =>
              go_wp2
              go_ret
              exact ⟨rfl, hB7⟩
            | false =>
              obtain ⟨t1, t2, t3⟩ := HBTW.out
              rw [← hrA rfl] at t1 t2
              rw [← hrB rfl] at t2 t3
              clear hrA hrB
              go_wp2
              go_ret
              exact ⟨rfl, hB7⟩
      · have hdd : decide ((40 : Int) < m.doubt) = true := decide_eq_true (by omega)
        go_wp2
        go_ret
        exact ⟨rfl, hB2⟩
    · have hod : decide ((200 : Int) < (os.length : Int)) = true := decide_eq_true (by omega)
      go_wp2
      go_ret
      exact ⟨rfl, hB2⟩
end Go.Proofs.Ytbppjebpnpgenaa

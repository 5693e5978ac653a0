/- A chance, of a state with no end to play: walked. -/
import Derived.Test.YtbppjebpnpgenaaC6
namespace Go.Proofs.Ytbppjebpnpgenaa
open Go Go.RowKit
attribute [local go_sem ↓] Go.wp_at_zero Go.wp_at_succ

theorem valC_zero (ch : St → Int) (s : St) (h : s.ends = 0) (k : Nat) (b : Bool) (hb : gainB s ((k : Int) - 8) = b) : valC ch s k = if b = true then 65536 else 0 := by
  unfold valC
  rw [if_neg (by omega)]
  unfold pts
  rw [hb]

set_option maxRecDepth 100000 in
set_option maxHeartbeats 4000000 in
theorem chance_zero (m : RivV) (down : Bool) (w0 : World) (pb bm : Nat) (s : St) (hs : stB s = true) (hend : s.ends = 0) (hlead : s.lead = 0)
    (W : World) (o : Bool) (hP : Plays m down w0 pb bm o W) :
    Calls Try.prog 8 #[.pointer (some ⟨pb, 0, none⟩), s.v] W fun e W' => ChanceAt m down w0 pb bm s W o e W' := by
  obtain ⟨e1, e2, e3, e4, e5⟩ := stB_spec hs
  obtain ⟨l1, l2⟩ := hP.lt
  have hne := hP.ne
  obtain ⟨ents, hm, hents⟩ := hP.map
  have hA : Below W.heap.size W (W.alloc (.cells #[.int .i64 s.ends, .int .i64 s.lead, .int .i64 s.ham] 27)) := by go_grown
  have hPA := hP.next hA
  have n0 := Blk.new W 27 [.int .i64 s.ends, .int .i64 s.lead, .int .i64 s.ham]
  have hmA : MapAt (W.alloc (.cells #[.int .i64 s.ends, .int .i64 s.lead, .int .i64 s.ham] 27)) bm ents := hm.kept (hA.block bm l2)
  have hlk := lookup_st 39 31 Try.underlying39 _ zero_fix _ bm ents (hmA.kept (w' := (W.alloc (.cells #[.int .i64 s.ends, .int .i64 s.lead, .int .i64 s.ham] 27)).drew) rfl) s
  have HEN := Lib.hid (chanceS_next down m s e1 (by omega))
  have b1 : (s.ends == 0) = true := by simp [hend]
  have b2 : (s.lead == 0) = true := by simp [hlead]
  have b3 : (s.lead != 0) = false := by simp [hlead]
  have HEnd := Lib.hid hend; clear hend hlead
  have c5 := hP.blk.cell 5
  dsimp only [List.getElem?_cons_zero, List.getElem?_cons_succ] at c5
  cases hg : getL s ents with
  | some v =>
    obtain ⟨r, rfl, r0, r1, hr⟩ := hents s v hg
    rw [hg] at hlk
    simp only [Option.getD_some, Option.isSome_some] at hlk
    clear hg hents HEN
    unfold St.v at hlk ⊢
    have HR := Lib.hid hr; clear hr
    go_enter Try.func8, Try.ntmps8
    go_wp2
    go_region_held3 (fun V => V.cell? ⟨pb, 5, none⟩ = some (.map (some bm)) ∧ V.cell? ⟨W.heap.size, 0, none⟩ = some (.int .i64 s.ends) ∧ V.cell? ⟨W.heap.size, 1, none⟩ = some (.int .i64 s.lead) ∧ V.cell? ⟨W.heap.size, 2, none⟩ = some (.int .i64 s.ham)) (go_keep) (fail)
    go_wp2
    go_ret
    exact ⟨r, o, rfl, r0, r1, id, HR.out, BY.of_below (hA.trans (Below.drew (Below.refl _ _))), hP.next (hA.trans (Below.drew (Below.refl _ _)))⟩
  | none =>
    rw [hg] at hlk
    simp only [Option.getD_none, Option.isSome_none] at hlk
    clear hg hents hm hmA ents
    obtain ⟨ends, lead, ham⟩ := s
    dsimp only at e1 e2 e3 e4 e5 b1 b2 b3
    obtain ⟨h, rfl⟩ : ∃ h : Nat, ham = (h : Int) := ⟨ham.toNat, by omega⟩
    have hh0 : (0 : Int) ≤ (h : Int) := by omega
    have hh2 : (h : Int) < 2 := by omega
    have htab : (W.alloc (.cells #[.int .i64 ends, .int .i64 lead, .int .i64 h] 27)).cell? ⟨pb, 1 + h, none⟩ = some (.slice (tabOf m h).a (tabOf m h).rows.length (tabOf m h).c) := by
      have h0 := hPA.blk.cell 1
      have h1 := hPA.blk.cell 2
      rcases e5 with h5 | h5
      · have : h = 0 := by omega
        subst this; exact h0
      · have : h = 1 := by omega
        subst this; exact h1
    unfold St.v at hlk ⊢
    go_enter Try.func8, Try.ntmps8
    go_wp2
    go_region_held3 (fun V => V.cell? ⟨pb, 5, none⟩ = some (.map (some bm)) ∧ V.cell? ⟨W.heap.size, 0, none⟩ = some (.int .i64 ends) ∧ V.cell? ⟨W.heap.size, 1, none⟩ = some (.int .i64 lead) ∧ V.cell? ⟨W.heap.size, 2, none⟩ = some (.int .i64 h)) (go_keep) (fail)
    rename_i hHeld
    go_wp2
    go_quiet (fail)
    clear hlk htab c5 hHeld
    have hWA : Below W.heap.size W ((W.alloc (.cells #[.int .i64 ends, .int .i64 lead, .int .i64 h] 27)).drew.drewN nq) := bl_drewN (hA.trans (Below.drew (Below.refl _ _))) _
    have hstart : OutRel m down w0 pb bm ⟨ends, lead, h⟩ W o (stylesC down (chanceS down m) m ⟨ends, lead, h⟩) 0 o 0 ((W.alloc (.cells #[.int .i64 ends, .int .i64 lead, .int .i64 h] 27)).drew.drewN nq) :=
      ⟨hP.next hWA, BY.of_below hWA, (n0.drew).drewN nq, id, by omega, by omega, fun _ => rfl⟩
    have hgood := hP.good
    have hrows := hgood.rows h
    have heach := hgood.each h
    have hstl : (stylesC down (chanceS down m) m ⟨ends, lead, h⟩).length = (tabOf m h).rows.length := by simp [stylesC, TabV.data]
    have hstq : ∀ (q : Nat) (r : RowV), (tabOf m h).rows[q]? = some r → (stylesC down (chanceS down m) m ⟨ends, lead, h⟩)[q]?.getD 0 = styleC down (chanceS down m) ⟨ends, lead, h⟩ r.xs := fun q r hr => by simp [stylesC, TabV.data, hr]
    generalize (W.alloc (.cells #[.int .i64 ends, .int .i64 lead, .int .i64 h] 27)).drew.drewN nq = WA at hstart ⊢
    clear hA hPA n0 hWA hgood
    generalize stylesC down (chanceS down m) m ⟨ends, lead, h⟩ = st at *
    have HST := Lib.hid hstq; clear hstq
    have HSL := Lib.hid hstl; clear hstl
    have HEA := Lib.hid heach; clear heach
    have hL1 : (1 : Int) ≤ ((tabOf m h).rows.length : Int) := by omega
    have hL8 : ((tabOf m h).rows.length : Int) ≤ 8 := by omega
    clear hrows
    go_wp2
    go_loopw [7, 8, 51] (fun tb ts tq W' => ∃ (q : Nat) (o1 : Bool) (best : Int), q ≤ (tabOf m h).rows.length ∧ tq = .int .i64 (q : Int) ∧ tb = .int .i64 best ∧ ts = .bool (decide (0 < q)) ∧ OutRel m down w0 pb bm ⟨ends, lead, h⟩ W o st q o1 best W') (fun _ _ tq _ => (tabOf m h).rows.length - (intOf tq).toNat)
    case atStart => exact ⟨0, o, 0, by omega, rfl, rfl, rfl, hstart⟩
    case round =>
      obtain ⟨q, o1, best, hq, rfl, rfl, rfl, hO⟩ := hrel
      by_cases hlt : q < (tabOf m h).rows.length
      · obtain ⟨tb, toff, r, hta, htl, hr, hri, hrc⟩ := (tabOf_in hO.p.inM h).at_ q hlt
        obtain ⟨hr17, hrb⟩ := HEA.out r.xs (List.mem_map.2 ⟨r, List.mem_of_getElem? hr, rfl⟩)
        obtain ⟨rb, roff, hra, hrl, hrx⟩ := hri.row (by simp; intro e; rw [e] at hr17; simp at hr17)
        clear hrx
        have hrv : r.v = .slice (some ⟨rb, roff, none⟩) 17 r.c := by unfold RowV.v; rw [hra, hr17]
        rw [hrv] at hrc
        rw [hta]
        have HR := Lib.hid hr; clear hr
        have HRA := Lib.hid hra; clear hra
        have HR17 := Lib.hid hr17; clear hr17
        have HRB := Lib.hid hrb; clear hrb hri hrv
        have HTA := Lib.hid hta; clear hta
        clear hstart
        go_wp2
        obtain ⟨wo, hwo⟩ : ∃ wo : World, wo = wr := ⟨_, rfl⟩
        clear hwo
        go_loopw [11, 12, 57] (fun tsum tn tk W' => ∃ (k : Nat) (o2 : Bool) (sum : Int), k ≤ 17 ∧ tk = .int .i64 (k : Int) ∧ tsum = .int .i64 sum ∧ tn = .int .i64 (cntTo ⟨ends, lead, h⟩ r.xs k) ∧ InRel m down w0 pb bm ⟨ends, lead, h⟩ W o1 r.xs (valsC (chanceS down m) ⟨ends, lead, h⟩) k o2 sum W') (fun _ _ tk _ => 17 - (intOf tk).toNat)
        case atStart => exact ⟨0, o1, 0, by omega, rfl, rfl, by rw [cntTo_zero], ⟨hO.p, hO.by_, hO.blk, id, by omega, by rw [cntTo_zero]; omega, fun _ => by rw [sumTo_zero]⟩⟩
        case round =>
          obtain ⟨k, o2, sum, hk, rfl, rfl, rfl, hI⟩ := hrel
          have hcd := cntTo_bd ⟨ends, lead, h⟩ r.xs HR17.out HRB.out k hk
          by_cases hk17 : k < 17
          · obtain ⟨zr, crow⟩ := row_cell (tabOf_in hI.p.inM h) HR.out HRA.out k (by rw [HR17.out]; exact hk17)
            have hx := HRB.out _ (getD_mem (xs := r.xs) (k := k) (by rw [HR17.out]; exact hk17))
            have hcs := cntTo_succ ⟨ends, lead, h⟩ r.xs k (by rw [HR17.out]; exact hk17)
            have hss := sumTo_succ ⟨ends, lead, h⟩ r.xs (valsC (chanceS down m) ⟨ends, lead, h⟩) k (by rw [HR17.out]; exact hk17) (by rw [HR17.out, valsC_len])
            have hvk := valsC_get (chanceS down m) ⟨ends, lead, h⟩ k hk17
            rw [hvk] at hss
            have hz0 : ends = 0 := HEnd.out
            have c0 := hI.blk.cell 0
            have c1 := hI.blk.cell 1
            have c2 := hI.blk.cell 2
            have z0 := hI.blk.lt
            have hIW := hI.by_.size
            dsimp only [List.getElem?_cons_zero, List.getElem?_cons_succ] at c0 c1 c2
            have hs0 := hI.s0
            have hs1 := hI.s1
            have hcz : 0 ≤ cntTo ⟨ends, lead, h⟩ r.xs k := hcd.1
            have hcz2 : cntTo ⟨ends, lead, h⟩ r.xs k ≤ 17017000 := by omega
            have hs2 : sum ≤ 1115226112000 := by omega
            have hed : decide ((0 : Int) < ends) = false := decide_eq_false (by omega)
            by_cases hk8 : k = 8
            · have hb8 := countsH_blank ⟨ends, lead, h⟩ r.xs hz0
              rw [hk8, hb8] at hcs hss
              rw [Int.add_zero] at hcs
              rw [Int.mul_zero, Int.add_zero] at hss
              clear hz0
              have HK8 := Lib.hid hk8
              have hkd : (((k : Int) - 8) == 0) = true := by simp [hk8]
              clear hk8
              have HCS := Lib.hid hcs; clear hcs
              have HSS := Lib.hid hss; clear hss hvk
              generalize r.xs[k]?.getD 0 = x at *
              generalize hcn : cntTo ⟨ends, lead, h⟩ r.xs k = cn at *
              have HCN := Lib.hid hcn; clear hcn
              go_wp2
              go_roundw
              case measure => simp only [intOf]; omega
              refine ⟨k + 1, o2, sum, by omega, by push_cast; rfl, rfl, ?_, ?_⟩
              · rw [← HCN.out, HK8.out, HCS.out]
              · have hk8 := HK8.out
                subst hk8
                exact ⟨hI.p, hI.by_, hI.blk, hI.o0, hs0, by rw [HCS.out]; rw [HCN.out]; exact hs1, fun hf => by rw [HSS.out, hI.sk hf]⟩
            · rw [countsH_get ⟨ends, lead, h⟩ r.xs k (by rw [HR17.out]; exact hk17) (fun hc => hk8 hc.2)] at hcs hss
              have hkd : (((k : Int) - 8) == 0) = false := by simp; omega
              have hcase : (8 < k ∧ decide ((8 : Int) < (k : Int)) = true) ∨ (k < 8 ∧ decide ((8 : Int) < (k : Int)) = false) := by
                rcases Nat.lt_or_gt_of_ne hk8 with hl | hl
                · exact .inr ⟨hl, decide_eq_false (by omega)⟩
                · exact .inl ⟨hl, decide_eq_true (by omega)⟩
              have hham : ((h : Int) = 0 ∧ ((h : Int) == 0) = true) ∨ ((h : Int) = 1 ∧ ((h : Int) == 0) = false) := by
                rcases e5 with h5 | h5
                · exact .inl ⟨h5, by simp [h5]⟩
                · exact .inr ⟨h5, by simp [h5]⟩
              clear hz0 hk8
              have hx0 := hx.1
              have hx1 := hx.2
              have hgain : ∀ b : Bool, gainB ⟨ends, lead, h⟩ ((k : Int) - 8) = b → sumTo ⟨ends, lead, h⟩ r.xs (valsC (chanceS down m) ⟨ends, lead, h⟩) (k + 1) = sumTo ⟨ends, lead, h⟩ r.xs (valsC (chanceS down m) ⟨ends, lead, h⟩) k + (if b = true then 65536 else 0) * (r.xs[k]?.getD 0) := fun b hb => by
                rw [hss, valC_zero _ _ HEnd.out k b hb]
              have HG := Lib.hid hgain; clear hgain
              have HCS := Lib.hid hcs; clear hcs hss hvk
              generalize r.xs[k]?.getD 0 = x at *
              generalize cntTo ⟨ends, lead, h⟩ r.xs k = cn at *
              rcases hcase with ⟨hkc, hkp⟩ | ⟨hkc, hkp⟩ <;> rcases hham with ⟨hh, hhb⟩ | ⟨hh, hhb⟩
              all_goals
                have HH := Lib.hid hh; clear hh
              · go_wp2
                go_roundw
                case measure => simp only [intOf]; omega
                refine ⟨k + 1, o2, sum + 65536 * x, by omega, by push_cast; rfl, by (first | rfl | (congr 1; omega)), by rw [HCS.out], ?_⟩
                have hg : gainB ⟨ends, lead, h⟩ ((k : Int) - 8) = true := by
                  have := HH.out
                  simp [gainB, this]
                  try omega
                exact ⟨hI.p, hI.by_, hI.blk, hI.o0, by omega, by rw [HCS.out]; omega, fun hf => by rw [HG.out _ hg, hI.sk hf]; simp⟩
              · go_wp2
                go_roundw
                case measure => simp only [intOf]; omega
                refine ⟨k + 1, o2, sum, by omega, by push_cast; rfl, rfl, by rw [HCS.out], ?_⟩
                have hg : gainB ⟨ends, lead, h⟩ ((k : Int) - 8) = false := by
                  have := HH.out
                  simp [gainB, this]
                  try omega
                exact ⟨hI.p, hI.by_, hI.blk, hI.o0, by omega, by rw [HCS.out]; omega, fun hf => by rw [HG.out _ hg, hI.sk hf]; simp⟩
              · go_wp2
                go_roundw
                case measure => simp only [intOf]; omega
                refine ⟨k + 1, o2, sum, by omega, by push_cast; rfl, rfl, by rw [HCS.out], ?_⟩
                have hg : gainB ⟨ends, lead, h⟩ ((k : Int) - 8) = false := by
                  have := HH.out
                  simp [gainB, this]
                  try omega
                exact ⟨hI.p, hI.by_, hI.blk, hI.o0, by omega, by rw [HCS.out]; omega, fun hf => by rw [HG.out _ hg, hI.sk hf]; simp⟩
              · go_wp2
                go_roundw
                case measure => simp only [intOf]; omega
                refine ⟨k + 1, o2, sum + 65536 * x, by omega, by push_cast; rfl, by (first | rfl | (congr 1; omega)), by rw [HCS.out], ?_⟩
                have hg : gainB ⟨ends, lead, h⟩ ((k : Int) - 8) = true := by
                  have := HH.out
                  simp [gainB, this]
                  try omega
                exact ⟨hI.p, hI.by_, hI.blk, hI.o0, by omega, by rw [HCS.out]; omega, fun hf => by rw [HG.out _ hg, hI.sk hf]; simp⟩
          · obtain rfl : k = 17 := by omega
            have hcell3 := hI.p.blk.cell 3
            have hcell4 := hI.p.blk.cell 4
            have hfr4 := hI.p.blk.frozen 4
            have zp := hI.p.lt.1
            have c0 := hI.blk.cell 0
            have c2 := hI.blk.cell 2
            have z0 := hI.blk.lt
            have hIW := hI.by_.size
            dsimp only [List.getElem?_cons_zero, List.getElem?_cons_succ] at hcell3 hcell4 c0 c2
            have hs0 := hI.s0
            have hs1 := hI.s1
            have hall := cntTo_all ⟨ends, lead, h⟩ r.xs
            have hsl := sumTo_all ⟨ends, lead, h⟩ r.xs (valsC (chanceS down m) ⟨ends, lead, h⟩) (by rw [valsC_len, HR17.out])
            rw [HR17.out] at hall hsl
            have hsk := hI.sk
            rw [hsl] at hsk
            have hst := HST.out q r HR.out
            unfold styleC at hst
            rw [← hall] at hst
            have hcz : 0 ≤ cntTo ⟨ends, lead, h⟩ r.xs 17 := hcd.1
            have hcz2 : cntTo ⟨ends, lead, h⟩ r.xs 17 ≤ 17017000 := by omega
            have hsm : sum ≤ 1115226112000 := by omega
            generalize cntTo ⟨ends, lead, h⟩ r.xs 17 = cn at *
            have HSK := Lib.hid hsk; clear hsk
            have HSTQ := Lib.hid hst; clear hst hall hsl
            by_cases hz : cn = 0
            · have hzb : (cn == 0) = true := by simp [hz]
              clear hz
              go_wp2
              go_ret
              exact ⟨0, true, rfl, by omega, by omega, fun _ => rfl, (fun hf => by simp at hf), hI.by_.trans (BY.of_grown (grown_cell wr ⟨pb, 4, none⟩ (.bool true)) (.inl rfl) W.heap.size hIW), hI.p.mark true (fun _ => rfl)⟩
            · have hzb : (cn == 0) = false := by simp [hz]
              have hc1 : 1 ≤ cn := by omega
              have hdv := divR_between (L := 0) (U := 65536) (t := sum) (b := cn) (howC down) hc1 (by omega) hs1
              have hO2 : ∀ b', b' = (if q = 0 then divR (howC down) sum cn else pickI h best (divR (howC down) sum cn)) → OutRel m down w0 pb bm ⟨ends, lead, h⟩ W o st (q + 1) o2 b' wr := fun b' hb' => by
                have hb0 := hO.b0
                have hb1 := hO.b1
                refine ⟨hI.p, hI.by_, hI.blk, fun hf => hI.o0 (hO.o0 hf), ?_, ?_, fun hf => ?_⟩
                · rw [hb']; unfold pickI; (repeat' split) <;> omega
                · rw [hb']; unfold pickI; (repeat' split) <;> omega
                · have ho1 : o1 = false := by cases ho1 : o1 with | false => rfl | true => rw [hI.o0 ho1] at hf; cases hf
                  rw [hb', hO.bk ho1, HSK.out hf, ← HSTQ.out, bestK_succ _ _ _ (by rw [HSL.out]; exact hlt)]
              have HO2 := Lib.hid hO2; clear hO2 hO
              cases down with
              | true =>
                have hd : divR (howC true) sum cn = sum / cn := by simp [howC, divR]
                rw [hd] at hdv HO2
                clear hd
                have hv0 : 0 ≤ sum / cn := hdv.1
                have hv1 : sum / cn ≤ 65536 := hdv.2
                rcases Nat.eq_zero_or_pos q with hq0 | hq0
                · have hqd : decide (0 < q) = false := decide_eq_false (by omega)
                  have HQ0 := Lib.hid hq0; clear hq0
                  go_wp2
                  go_roundw
                  case measure => simp only [intOf]; omega
                  exact ⟨q + 1, o2, (sum / cn), by omega, by push_cast; rfl, rfl, by rw [show decide (0 < q + 1) = true from decide_eq_true (by omega)], HO2.out (sum / cn) (by rw [if_pos HQ0.out])⟩
                · have hqd : decide (0 < q) = true := decide_eq_true hq0
                  rcases e5 with h5 | h5
                  · have hd0 : ((h : Int) == 0) = true := by rw [h5]; rfl
                    have hd1 : ((h : Int) == 1) = false := by rw [h5]; rfl
                    have H5 := Lib.hid h5; clear h5
                    by_cases hcmp : best < (sum / cn)
                    · have hcd : decide (best < (sum / cn)) = true := decide_eq_true hcmp
                      go_wp2
                      go_roundw
                      case measure => simp only [intOf]; omega
                      exact ⟨q + 1, o2, (sum / cn), by omega, by push_cast; rfl, rfl, by rw [show decide (0 < q + 1) = true from decide_eq_true (by omega)], HO2.out (sum / cn) (by rw [if_neg (by omega)]; have := H5.out; unfold pickI; split <;> omega)⟩
                    · have hcd : decide (best < (sum / cn)) = false := decide_eq_false hcmp
                      go_wp2
                      go_roundw
                      case measure => simp only [intOf]; omega
                      exact ⟨q + 1, o2, best, by omega, by push_cast; rfl, rfl, by rw [hqd, show decide (0 < q + 1) = true from decide_eq_true (by omega)], HO2.out best (by rw [if_neg (by omega)]; have := H5.out; unfold pickI; split <;> omega)⟩
                  · have hd0 : ((h : Int) == 0) = false := by rw [h5]; rfl
                    have hd1 : ((h : Int) == 1) = true := by rw [h5]; rfl
                    have H5 := Lib.hid h5; clear h5
                    by_cases hcmp : (sum / cn) < best
                    · have hcd : decide ((sum / cn) < best) = true := decide_eq_true hcmp
                      go_wp2
                      go_roundw
                      case measure => simp only [intOf]; omega
                      exact ⟨q + 1, o2, (sum / cn), by omega, by push_cast; rfl, rfl, by rw [show decide (0 < q + 1) = true from decide_eq_true (by omega)], HO2.out (sum / cn) (by rw [if_neg (by omega)]; have := H5.out; unfold pickI; split <;> omega)⟩
                    · have hcd : decide ((sum / cn) < best) = false := decide_eq_false hcmp
                      go_wp2
                      go_roundw
                      case measure => simp only [intOf]; omega
                      exact ⟨q + 1, o2, best, by omega, by push_cast; rfl, rfl, by rw [hqd, show decide (0 < q + 1) = true from decide_eq_true (by omega)], HO2.out best (by rw [if_neg (by omega)]; have := H5.out; unfold pickI; split <;> omega)⟩
              | false =>
                have hd : divR (howC false) sum cn = if 0 < sum % cn then sum / cn + 1 else sum / cn := divR_up sum cn hc1
                rw [hd] at hdv HO2
                clear hd
                by_cases hrm : 0 < sum % cn
                · rw [if_pos hrm] at hdv HO2
                  have hv0 : 0 ≤ sum / cn := Int.ediv_nonneg hs0 (by omega)
                  have hv1 : sum / cn ≤ 65536 := by omega
                  have hrd : decide (0 < sum % cn) = true := decide_eq_true hrm
                  rcases Nat.eq_zero_or_pos q with hq0 | hq0
                  · have hqd : decide (0 < q) = false := decide_eq_false (by omega)
                    have HQ0 := Lib.hid hq0; clear hq0
                    go_wp2
                    go_roundw
                    case measure => simp only [intOf]; omega
                    exact ⟨q + 1, o2, (sum / cn + 1), by omega, by push_cast; rfl, rfl, by rw [show decide (0 < q + 1) = true from decide_eq_true (by omega)], HO2.out (sum / cn + 1) (by rw [if_pos HQ0.out])⟩
                  · have hqd : decide (0 < q) = true := decide_eq_true hq0
                    rcases e5 with h5 | h5
                    · have hd0 : ((h : Int) == 0) = true := by rw [h5]; rfl
                      have hd1 : ((h : Int) == 1) = false := by rw [h5]; rfl
                      have H5 := Lib.hid h5; clear h5
                      by_cases hcmp : best < (sum / cn + 1)
                      · have hcd : decide (best < (sum / cn + 1)) = true := decide_eq_true hcmp
                        go_wp2
                        go_roundw
                        case measure => simp only [intOf]; omega
                        exact ⟨q + 1, o2, (sum / cn + 1), by omega, by push_cast; rfl, rfl, by rw [show decide (0 < q + 1) = true from decide_eq_true (by omega)], HO2.out (sum / cn + 1) (by rw [if_neg (by omega)]; have := H5.out; unfold pickI; split <;> omega)⟩
                      · have hcd : decide (best < (sum / cn + 1)) = false := decide_eq_false hcmp
                        go_wp2
                        go_roundw
                        case measure => simp only [intOf]; omega
                        exact ⟨q + 1, o2, best, by omega, by push_cast; rfl, rfl, by rw [hqd, show decide (0 < q + 1) = true from decide_eq_true (by omega)], HO2.out best (by rw [if_neg (by omega)]; have := H5.out; unfold pickI; split <;> omega)⟩
                    · have hd0 : ((h : Int) == 0) = false := by rw [h5]; rfl
                      have hd1 : ((h : Int) == 1) = true := by rw [h5]; rfl
                      have H5 := Lib.hid h5; clear h5
                      by_cases hcmp : (sum / cn + 1) < best
                      · have hcd : decide ((sum / cn + 1) < best) = true := decide_eq_true hcmp
                        go_wp2
                        go_roundw
                        case measure => simp only [intOf]; omega
                        exact ⟨q + 1, o2, (sum / cn + 1), by omega, by push_cast; rfl, rfl, by rw [show decide (0 < q + 1) = true from decide_eq_true (by omega)], HO2.out (sum / cn + 1) (by rw [if_neg (by omega)]; have := H5.out; unfold pickI; split <;> omega)⟩
                      · have hcd : decide ((sum / cn + 1) < best) = false := decide_eq_false hcmp
                        go_wp2
                        go_roundw
                        case measure => simp only [intOf]; omega
                        exact ⟨q + 1, o2, best, by omega, by push_cast; rfl, rfl, by rw [hqd, show decide (0 < q + 1) = true from decide_eq_true (by omega)], HO2.out best (by rw [if_neg (by omega)]; have := H5.out; unfold pickI; split <;> omega)⟩
                · rw [if_neg hrm] at hdv HO2
                  have hv0 : 0 ≤ sum / cn := hdv.1
                  have hv1 : sum / cn ≤ 65536 := hdv.2
                  have hrd : decide (0 < sum % cn) = false := decide_eq_false hrm
                  rcases Nat.eq_zero_or_pos q with hq0 | hq0
                  · have hqd : decide (0 < q) = false := decide_eq_false (by omega)
                    have HQ0 := Lib.hid hq0; clear hq0
                    go_wp2
                    go_roundw
                    case measure => simp only [intOf]; omega
                    exact ⟨q + 1, o2, (sum / cn), by omega, by push_cast; rfl, rfl, by rw [show decide (0 < q + 1) = true from decide_eq_true (by omega)], HO2.out (sum / cn) (by rw [if_pos HQ0.out])⟩
                  · have hqd : decide (0 < q) = true := decide_eq_true hq0
                    rcases e5 with h5 | h5
                    · have hd0 : ((h : Int) == 0) = true := by rw [h5]; rfl
                      have hd1 : ((h : Int) == 1) = false := by rw [h5]; rfl
                      have H5 := Lib.hid h5; clear h5
                      by_cases hcmp : best < (sum / cn)
                      · have hcd : decide (best < (sum / cn)) = true := decide_eq_true hcmp
                        go_wp2
                        go_roundw
                        case measure => simp only [intOf]; omega
                        exact ⟨q + 1, o2, (sum / cn), by omega, by push_cast; rfl, rfl, by rw [show decide (0 < q + 1) = true from decide_eq_true (by omega)], HO2.out (sum / cn) (by rw [if_neg (by omega)]; have := H5.out; unfold pickI; split <;> omega)⟩
                      · have hcd : decide (best < (sum / cn)) = false := decide_eq_false hcmp
                        go_wp2
                        go_roundw
                        case measure => simp only [intOf]; omega
                        exact ⟨q + 1, o2, best, by omega, by push_cast; rfl, rfl, by rw [hqd, show decide (0 < q + 1) = true from decide_eq_true (by omega)], HO2.out best (by rw [if_neg (by omega)]; have := H5.out; unfold pickI; split <;> omega)⟩
                    · have hd0 : ((h : Int) == 0) = false := by rw [h5]; rfl
                      have hd1 : ((h : Int) == 1) = true := by rw [h5]; rfl
                      have H5 := Lib.hid h5; clear h5
                      by_cases hcmp : (sum / cn) < best
                      · have hcd : decide ((sum / cn) < best) = true := decide_eq_true hcmp
                        go_wp2
                        go_roundw
                        case measure => simp only [intOf]; omega
                        exact ⟨q + 1, o2, (sum / cn), by omega, by push_cast; rfl, rfl, by rw [show decide (0 < q + 1) = true from decide_eq_true (by omega)], HO2.out (sum / cn) (by rw [if_neg (by omega)]; have := H5.out; unfold pickI; split <;> omega)⟩
                      · have hcd : decide ((sum / cn) < best) = false := decide_eq_false hcmp
                        go_wp2
                        go_roundw
                        case measure => simp only [intOf]; omega
                        exact ⟨q + 1, o2, best, by omega, by push_cast; rfl, rfl, by rw [hqd, show decide (0 < q + 1) = true from decide_eq_true (by omega)], HO2.out best (by rw [if_neg (by omega)]; have := H5.out; unfold pickI; split <;> omega)⟩
      · obtain rfl : q = (tabOf m h).rows.length := by omega
        have hbk := hO.bk
        rw [← HSL.out, bestK_all _ _ (by rw [HSL.out]; omega), ← HEN.out] at hbk
        have HBK := Lib.hid hbk; clear hbk
        have hcell5 := hO.p.blk.cell 5
        have zp := hO.p.lt.1
        have c0 := hO.blk.cell 0
        have c1 := hO.blk.cell 1
        have c2 := hO.blk.cell 2
        have z0 := hO.blk.lt
        have hIW := hO.by_.size
        dsimp only [List.getElem?_cons_zero, List.getElem?_cons_succ] at hcell5 c0 c1 c2
        obtain ⟨ents, hm, hents⟩ := hO.p.map
        obtain ⟨ob, hup, hmo⟩ := update_st 39 31 Try.underlying39 wr.drew bm ents (hm.kept rfl) ⟨ends, lead, h⟩ (.int .i64 best)
        unfold St.v at hup
        have HM := Lib.hid hmo; clear hmo
        have HE := Lib.hid hents; clear hents hm
        have g1 := hO.p.blk.drew.grown (grown_putObj wr.drew bm ob) (by simpa using hO.p.ne)
        have g2 := hO.blk.drew.grown (grown_putObj wr.drew bm ob) (by simp; omega)
        have hin0 := hO.p.lbm
        have hsz0 := hO.p.below.size
        go_wp2
        go_region_held3 (fun V => V.cell? ⟨pb, 5, none⟩ = some (.map (some bm)) ∧ V.cell? ⟨W.heap.size, 0, none⟩ = some (.int .i64 ends) ∧ V.cell? ⟨W.heap.size, 1, none⟩ = some (.int .i64 lead) ∧ V.cell? ⟨W.heap.size, 2, none⟩ = some (.int .i64 h))
          (first | exact ⟨g1.cell 5, g2.cell 0, g2.cell 1, g2.cell 2⟩ | go_keep) (fail)
        go_wp2
        go_ret
        have hbl : Below w0.heap.size w0 (wr.drew.putObj bm ob) := (hO.p.below.trans (Below.drew (Below.refl _ _))).grown (grown_putObj wr.drew bm ob) hsz0 (by intro k hk; cases hk; exact hin0)
        exact ⟨best, o1, rfl, hO.b0, hO.b1, hO.o0, HBK.out, (hO.by_.trans (BY.of_below (Below.drew (Below.refl _ _)))).trans (BY.of_grown (grown_putObj wr.drew bm ob) (.inr rfl) W.heap.size hIW),
          ⟨hbl, hO.p.data, hO.p.good, hO.p.lpb, hO.p.lbm, g1, _, HM.out, fun s v hv => by
            rw [getL_setL] at hv
            by_cases hsx : s = ⟨ends, lead, h⟩
            · rw [if_pos hsx] at hv
              cases hv
              exact ⟨best, rfl, hO.b0, hO.b1, fun hf => by rw [hsx]; exact HBK.out hf⟩
            · rw [if_neg hsx] at hv
              exact HE.out s v hv⟩⟩
end Go.Proofs.Ytbppjebpnpgenaa

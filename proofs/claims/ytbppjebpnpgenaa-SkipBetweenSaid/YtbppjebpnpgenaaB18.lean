/- What a blank gains: walked. -/
import Derived.Test.YtbppjebpnpgenaaB17
import Derived.Test.YtbppjebpnpgenaaR1
namespace Go.Proofs.Ytbppjebpnpgenaa
open Go Go.RowKit
attribute [local go_sem ↓] Go.wp_at_zero Go.wp_at_succ

def hopeV (m : RivV) (s : St) : Value := .agg #[.int .i64 (hopeS m s).lo, .int .i64 (hopeS m s).hi]

/-- A variable that such a statement makes, behind some operations: the alloc is number i, its store number k. -/
def OutV (L : Array Bool) (B i k : Nat) (x : Value) (h : Hp) (V : World) : Prop :=
  (L.getD k true = true → L.getD i true = true) ∧
  (L.getD i true = true → ∃ b u v, x = .pointer (some ⟨b, 0, none⟩) ∧ B ≤ b ∧ Blk V b 33 [u, v] ∧ (L.getD k true = true → u = .int .i64 h.lo ∧ v = .int .i64 h.hi))
theorem OutV.set {L : Array Bool} {B i k j : Nat} {x : Value} {h : Hp} {V : World} (o : OutV L B i k x h V) (hi : i ≠ j) (hk : k ≠ j) : OutV (L.setIfInBounds j true) B i k x h V :=
  ⟨was_listed hk (fun h => by rw [getD_set_ne true (Ne.symm hi)]; exact o.1 h), fun hl => by
    obtain ⟨b, u, v, e, hb, hB, h16⟩ := was_listed hi o.2 hl
    exact ⟨b, u, v, e, hb, hB, was_listed hk h16⟩⟩
theorem OutV.below {L : Array Bool} {B i k : Nat} {x : Value} {h : Hp} {V W : World} (o : OutV L B i k x h V) (hb : Below V.heap.size V W) : OutV L B i k x h W := ⟨o.1, fun hl => by
  obtain ⟨b, u, v, e, h1, hB, h16⟩ := o.2 hl
  exact ⟨b, u, v, e, h1, hB.below hb, h16⟩⟩
theorem OutV.bx {L : Array Bool} {B i k bm : Nat} {x : Value} {h : Hp} {V W : World} (o : OutV L B i k x h V) (hb : BX V.heap.size bm V W) (hm : bm < B) : OutV L B i k x h W := ⟨o.1, fun hl => by
  obtain ⟨b, u, v, e, h1, hB, h16⟩ := o.2 hl
  exact ⟨b, u, v, e, h1, hB.bx hb hB.lt (by omega), h16⟩⟩
theorem OutV.other {L : Array Bool} {B i k b' : Nat} {x : Value} {h : Hp} {V : World} (o : OutV L B i k x h V) (hne : L.getD i true = true → x ≠ .pointer (some ⟨b', 0, none⟩)) (y z : Value) : OutV L B i k x h ((V.setCell ⟨b', 0, none⟩ y).setCell ⟨b', 1, none⟩ z) := ⟨o.1, fun hl => by
  obtain ⟨b, u, v, e, h1, hB, h16⟩ := o.2 hl
  have hbb : b ≠ b' := fun hh => hne hl (by rw [e, hh])
  exact ⟨b, u, v, e, h1, (hB.other hbb _).other hbb _, h16⟩⟩
theorem OutV.new {L : Array Bool} {B i k : Nat} {x : Value} {h : Hp} {V : World} (o : OutV L B i k x h V) (hi : L.getD i true = false) (hik : k ≠ i) (hV : B ≤ V.heap.size) (u v : Value) :
    OutV (L.setIfInBounds i true) B i k (.pointer (some ⟨V.heap.size, 0, none⟩)) h (V.alloc (.cells #[u, v] 33)) := by
  have hlt : i < L.size := by
    rcases Nat.lt_or_ge i L.size with h' | h'
    · exact h'
    · simp [Array.getElem?_eq_none h'] at hi
  refine ⟨fun _ => by simp [hlt], fun _ => ⟨V.heap.size, u, v, rfl, hV, Blk.new V _ [u, v], fun hk => ?_⟩⟩
  rw [getD_set_ne true (Ne.symm hik)] at hk
  rw [o.1 hk] at hi
  cases hi
theorem OutV.store {L : Array Bool} {B i k b : Nat} {h : Hp} {V : World} {u v : Value} (hi : L.getD i true = true) (hik : i ≠ k) (hb : B ≤ b) (hB : Blk V b 33 [u, v]) :
    OutV (L.setIfInBounds k true) B i k (.pointer (some ⟨b, 0, none⟩)) h ((V.setCell ⟨b, 0, none⟩ (.int .i64 h.lo)).setCell ⟨b, 1, none⟩ (.int .i64 h.hi)) :=
  ⟨fun _ => by rw [getD_set_ne true (Ne.symm hik)]; exact hi, fun _ => ⟨b, _, _, rfl, hb, (hB.set 0 (.int .i64 h.lo)).set 1 (.int .i64 h.hi), fun _ => ⟨rfl, rfl⟩⟩⟩
theorem OutV.ne {L : Array Bool} {B i k : Nat} {x : Value} {h : Hp} {V : World} (o : OutV L B i k x h V) : L.getD i true = true → x ≠ .pointer (some ⟨V.heap.size, 0, none⟩) := fun hl hx => by
  obtain ⟨b, u, v, e, h1, hB, h16⟩ := o.2 hl
  have := hB.lt
  rw [e] at hx
  simp at hx
theorem OutV.get {L : Array Bool} {B i k : Nat} {x : Value} {h : Hp} {V : World} (o : OutV L B i k x h V) (hi : L.getD i true = true) : ∃ b u v, x = .pointer (some ⟨b, 0, none⟩) ∧ B ≤ b ∧ Blk V b 33 [u, v] := by
  obtain ⟨b, u, v, e, h1, hB, h16⟩ := o.2 hi
  exact ⟨b, u, v, e, h1, hB⟩
theorem OutV.out {L : Array Bool} {B i k : Nat} {x : Value} {h : Hp} {V : World} (o : OutV L B i k x h V) (hi : L.getD i true = true) (hk : L.getD k true = true) : ∃ b, x = .pointer (some ⟨b, 0, none⟩) ∧ B ≤ b ∧ Blk V b 33 [.int .i64 h.lo, .int .i64 h.hi] := by
  obtain ⟨b, u, v, e, h1, hB, h16⟩ := o.2 hi
  obtain ⟨rfl, rfl⟩ := h16 hk
  exact ⟨b, e, h1, hB⟩

/-- Behind some operations of the statement that asks both hopes: what each has left. -/
def BlankJ (m : RivV) (s : St) (w0 : World) (rb rp kb bm bs B : Nat) (A : Act) (L : Array Bool) (a : Act) (V : World) : Prop :=
  ∃ x9 x10 x27 x28 x34 x35, a = ((((((A.put (some 9) x9).put (some 10) x10).put (some 27) x27).put (some 28) x28).put (some 34) x34).put (some 35) x35) ∧
    Reck m w0 rb rp kb bm V ∧ Blk V bs 27 [.int .i64 s.ends, .int .i64 s.lead, .int .i64 s.ham] ∧ B ≤ V.heap.size ∧
    (L.getD 5 true = true → x27 = (nextS s 0).v) ∧ (L.getD 6 true = true → x28 = hopeV m (nextS s 0)) ∧
    (L.getD 12 true = true → x34 = (nextS s 1).v) ∧ (L.getD 13 true = true → x35 = hopeV m (nextS s 1)) ∧
    OutV L B 14 16 x9 (hopeS m (nextS s 0)) V ∧ OutV L B 15 17 x10 (hopeS m (nextS s 1)) V ∧
    (L.getD 14 true = true → L.getD 15 true = true → x9 ≠ x10)

/-- What a blank gains, for sure and at most. -/
def blankLo (m : RivV) (s : St) : Int := if s.ham = 1 then (hopeS m (nextS s 1)).lo - (hopeS m (nextS s 0)).hi else (hopeS m (nextS s 0)).lo - (hopeS m (nextS s 1)).hi
def blankHi (m : RivV) (s : St) : Int := if s.ham = 1 then (hopeS m (nextS s 1)).hi - (hopeS m (nextS s 0)).lo else (hopeS m (nextS s 0)).hi - (hopeS m (nextS s 1)).lo
def betterI (lo hi : Int) : Int := if 0 < lo then 1 else if hi < 0 then -1 else 0

set_option maxRecDepth 100000 in
set_option maxHeartbeats 4000000 in
theorem skip_Blank (m : RivV) (s : St) (w : World) (hin : m.In w) (hm : rivB m = true) (hs : stB s = true) (hpos : 0 < s.ends) :
    Calls Try.prog 11 #[m.v, s.v] w fun e w' => e = .returned (.tuple #[.int .i64 (blankLo m s), .int .i64 (blankHi m s), .int .i64 (betterI (blankLo m s) (blankHi m s)), .int .i64 0]) ∧ Below w.heap.size w w' := by
  have hA : Below w.heap.size w ((w.alloc (.cells #[.int .i64 m.doubt, .slice m.s0.a m.s0.rows.length m.s0.c, .slice m.s1.a m.s1.rows.length m.s1.c] 25)).alloc (.cells #[.int .i64 s.ends, .int .i64 s.lead, .int .i64 s.ham] 27)) := by go_grown
  have n0 := Lib.hid ((Blk.new w 25 [.int .i64 m.doubt, .slice m.s0.a m.s0.rows.length m.s0.c, .slice m.s1.a m.s1.rows.length m.s1.c]).alloc (.cells #[.int .i64 s.ends, .int .i64 s.lead, .int .i64 s.ham] 27))
  have n1 := Lib.hid (Blk.new2 w (.cells #[.int .i64 m.doubt, .slice m.s0.a m.s0.rows.length m.s0.c, .slice m.s1.a m.s1.rows.length m.s1.c] 25) 27 [.int .i64 s.ends, .int .i64 s.lead, .int .i64 s.ham])
  have hr := skip_right m s _ (hin.below hA)
  rw [hm, hs] at hr
  have hg := goodM hm
  have hk := fun W (hW : m.In W) => skip_reckon m W hW hg
  unfold RivV.v TabV.v at hk hr
  unfold St.v at hr
  unfold RivV.v TabV.v St.v
  have HR := Lib.hid hr; clear hr
  have HK := Lib.hid hk; clear hk
  have b1 : (s.ends == 0) = false := by simp; omega
  go_enter Try.func11, Try.ntmps11
  go_wp2_with (first
    | (go_at_call 13; refine (HR.out).mono ?_; rintro e W1 ⟨rfl, hb1⟩
       have p0 := n0.out.below hb1
       have p1 := n1.out.below hb1
       have c00 := p0.cell 0
       have c01 := p0.cell 1
       have c02 := p0.cell 2
       have c10 := p1.cell 0
       have c11 := p1.cell 1
       have c12 := p1.cell 2
       have z0 := p0.lt
       have z1 := p1.lt
       have hin1 := (hin.below hA).below hb1
       dsimp only [List.getElem?_cons_zero, List.getElem?_cons_succ] at c00 c01 c02 c10 c11 c12)
    | (go_at_call 14; refine (HK.out _ hin1).mono ?_; rintro e W2 ⟨rb, rp, kb, bm, rfl, hR2, hb2⟩
       have x0 := p0.below hb2
       have x1 := p1.below hb2
       have cf := hR2.rcd.cell 3
       have zf := hR2.lt.1
       dsimp only [List.getElem?_cons_zero, List.getElem?_cons_succ, hopeF] at cf)
    | fail)
  have l2 := hR2.lt
  have nb := hR2.ne
  have hW1 := hA.trans (hb1.mono hA.size)
  have hW2 := hW1.trans (hb2.mono hW1.size)
  obtain ⟨q1, q2, q3, q4, q5⟩ := stB_spec hs
  have HP := Lib.hid (fun p W (hp : 0 ≤ p ∧ p ≤ 1) (hW : Reck m W1 rb rp kb bm W) => hope_at m W1 rb rp kb bm _ (nextS s p) rfl (nextS_ok hs hpos) W hW)
  have bs : w.heap.size + 1 ≠ bm := by have := hR2.lbm; omega
  have d0 := x1.cell 0
  have d1 := x1.cell 1
  have d2 := x1.cell 2
  have zx := x1.lt
  dsimp only [List.getElem?_cons_zero, List.getElem?_cons_succ] at d0 d1 d2
  refine wp_region_held_drew (S := fun V => V.cell? ⟨rb, 3, none⟩ = some (.func (.func 20) #[] #[.pointer (some ⟨kb, 0, none⟩), .pointer (some ⟨rp, 0, none⟩)]) ∧
      V.cell? ⟨w.heap.size + 1, 0, none⟩ = some (.int .i64 s.ends) ∧ V.cell? ⟨w.heap.size + 1, 1, none⟩ = some (.int .i64 s.lead) ∧ V.cell? ⟨w.heap.size + 1, 2, none⟩ = some (.int .i64 s.ham)) (by kernel_rfl) ⟨hR2.rcd.cell 3, x1.cell 0, x1.cell 1, x1.cell 2⟩ (fun hHeld => ?_)
  refine wpAnyH_takeL 0 (v := ?_) rfl (by kernel_rfl) (by kernel_rfl) (by kernel_rfl) (fun _ _ _ h => h) hHeld (by rfl) ?hy ?_
  case hy => (intro V hSw; (try dsimp only at hSw); go_simp; try with_reducible rfl)
  simp only [Act.put, List.setIfInBounds_toArray, List.set_cons_zero, List.set_cons_succ]
  refine wpAnyH_takeL 1 (v := ?_) rfl (by kernel_rfl) (by kernel_rfl) (by kernel_rfl) (fun _ _ _ h => h) hHeld (by rfl) ?hy ?_
  case hy => (intro V hSw; (try dsimp only at hSw); go_simp; try with_reducible rfl)
  simp only [Act.put, List.setIfInBounds_toArray, List.set_cons_zero, List.set_cons_succ]
  refine wpAnyH_takeL 2 (v := ?_) rfl (by kernel_rfl) (by kernel_rfl) (by kernel_rfl) (fun _ _ _ h => h) hHeld (by rfl) ?hy ?_
  case hy => (intro V hSw; (try dsimp only at hSw); go_simp; try with_reducible rfl)
  simp only [Act.put, List.setIfInBounds_toArray, List.set_cons_zero, List.set_cons_succ]
  refine wpAnyH_takeL 3 (v := ?_) rfl (by kernel_rfl) (by kernel_rfl) (by kernel_rfl) (fun _ _ _ h => h) hHeld (by rfl) ?hy ?_
  case hy => (intro V hSw; (try dsimp only at hSw); go_simp; try with_reducible rfl)
  simp only [Act.put, List.setIfInBounds_toArray, List.set_cons_zero, List.set_cons_succ]
  refine wpAnyH_takeL 4 (v := ?_) rfl (by kernel_rfl) (by kernel_rfl) (by kernel_rfl) (fun _ _ _ h => h) hHeld (by rfl) ?hy ?_
  case hy => (intro V hSw; (try dsimp only at hSw); go_simp; try with_reducible rfl)
  simp only [Act.put, List.setIfInBounds_toArray, List.set_cons_zero, List.set_cons_succ]
  refine wpAnyH_takeL 7 (v := ?_) rfl (by kernel_rfl) (by kernel_rfl) (by kernel_rfl) (fun _ _ _ h => h) hHeld (by rfl) ?hy ?_
  case hy => (intro V hSw; (try dsimp only at hSw); go_simp; try with_reducible rfl)
  simp only [Act.put, List.setIfInBounds_toArray, List.set_cons_zero, List.set_cons_succ]
  refine wpAnyH_takeL 8 (v := ?_) rfl (by kernel_rfl) (by kernel_rfl) (by kernel_rfl) (fun _ _ _ h => h) hHeld (by rfl) ?hy ?_
  case hy => (intro V hSw; (try dsimp only at hSw); go_simp; try with_reducible rfl)
  simp only [Act.put, List.setIfInBounds_toArray, List.set_cons_zero, List.set_cons_succ]
  refine wpAnyH_takeL 9 (v := ?_) rfl (by kernel_rfl) (by kernel_rfl) (by kernel_rfl) (fun _ _ _ h => h) hHeld (by rfl) ?hy ?_
  case hy => (intro V hSw; (try dsimp only at hSw); go_simp; try with_reducible rfl)
  simp only [Act.put, List.setIfInBounds_toArray, List.set_cons_zero, List.set_cons_succ]
  refine wpAnyH_takeL 10 (v := ?_) rfl (by kernel_rfl) (by kernel_rfl) (by kernel_rfl) (fun _ _ _ h => h) hHeld (by rfl) ?hy ?_
  case hy => (intro V hSw; (try dsimp only at hSw); go_simp; try with_reducible rfl)
  simp only [Act.put, List.setIfInBounds_toArray, List.set_cons_zero, List.set_cons_succ]
  refine wpAnyH_takeL 11 (v := ?_) rfl (by kernel_rfl) (by kernel_rfl) (by kernel_rfl) (fun _ _ _ h => h) hHeld (by rfl) ?hy ?_
  case hy => (intro V hSw; (try dsimp only at hSw); go_simp; try with_reducible rfl)
  simp only [Act.put, List.setIfInBounds_toArray, List.set_cons_zero, List.set_cons_succ]
  have hbs : w.heap.size + 1 < W2.heap.size := x1.lt
  have hbm : bm < W2.heap.size := l2.2.2.2
  refine wpAnyH_rg_at (JJ := BlankJ m s W1 rb rp kb bm (w.heap.size + 1) W2.heap.size) [5, 6, 12, 13, 14, 15, 16, 17] (by kernel_rfl) rfl (by kernel_rfl) (by decide) ?j0 ?steps ?done
  case j0 =>
    exact ⟨undef, undef, undef, undef, undef, undef, by simp only [Act.put, List.setIfInBounds_toArray, List.set_cons_zero, List.set_cons_succ], hR2.next (Below.drew (Below.refl _ _)), x1.drew, Nat.le_refl _, fun h => by simp at h, fun h => by simp at h, fun h => by simp at h, fun h => by simp at h,
      ⟨fun h => by simp at h, fun h => by simp at h⟩, ⟨fun h => by simp at h, fun h => by simp at h⟩, fun h => by simp at h⟩
  case steps =>
    refine steps_cons ?s5 ?_
    case s5 =>
      refine StepR.mk (ds := [4]) (o := _) rfl (by kernel_rfl) ?_
      rintro L a V hsz h0 hd ⟨y9, y10, y27, y28, y34, y35, rfl, hR, hB, hV, p5, p6, p12, p13, p14, p15, pne⟩
      clear hd
      intro K hK
      simp only [Act.put, List.setIfInBounds_toArray, List.set_cons_zero, List.set_cons_succ]
      go_simp
      refine (skip_next s 0 V hs (by omega) (by omega)).mono ?_
      rintro e V' ⟨rfl, hb⟩
      have hR' := hR.next hb
      have hB' := hB.below hb
      refine hK.out _ _ ⟨hR'.rcd.cell 3, hB'.cell 0, hB'.cell 1, hB'.cell 2⟩ ?_
      exact ⟨y9, y10, (nextS s 0).v, y28, y34, y35, by simp only [Act.put, List.setIfInBounds_toArray, List.set_cons_zero, List.set_cons_succ], hR', hB', Nat.le_trans hV hb.size, fun _ => rfl, was_listed (by decide) p6, was_listed (by decide) p12, was_listed (by decide) p13, (p14.set (by decide) (by decide)).below hb, (p15.set (by decide) (by decide)).below hb, fun h h' => was_listed (j := 14) (by decide) (fun h => was_listed (j := 15) (by decide) (fun h' => pne h h') h') h⟩
    refine steps_cons ?s6 ?_
    case s6 =>
      refine StepR.mk (ds := [3, 5, 5]) (o := _) rfl (by kernel_rfl) ?_
      rintro L a V hsz h0 hd ⟨y9, y10, y27, y28, y34, y35, rfl, hR, hB, hV, p5, p6, p12, p13, p14, p15, pne⟩
      obtain rfl := p5 (hd _ (by decide))
      clear hd
      intro K hK
      simp only [Act.put, List.setIfInBounds_toArray, List.set_cons_zero, List.set_cons_succ]
      go_simp
      refine (HP.out 0 V (by omega) hR).mono ?_
      rintro e V' ⟨rfl, hx, hR'⟩
      have hB' := hB.bx hx hB.lt bs
      refine hK.out _ _ ⟨hR'.rcd.cell 3, hB'.cell 0, hB'.cell 1, hB'.cell 2⟩ ?_
      exact ⟨y9, y10, (nextS s 0).v, hopeV m (nextS s 0), y34, y35, by simp only [Act.put, List.setIfInBounds_toArray, List.set_cons_zero, List.set_cons_succ, hopeV], hR', hB', Nat.le_trans hV hx.size, was_listed (by decide) (fun _ => rfl), fun _ => rfl, was_listed (by decide) p12, was_listed (by decide) p13, (p14.set (by decide) (by decide)).bx hx hbm, (p15.set (by decide) (by decide)).bx hx hbm, fun h h' => was_listed (j := 14) (by decide) (fun h => was_listed (j := 15) (by decide) (fun h' => pne h h') h') h⟩
    refine steps_cons ?s12 ?_
    case s12 =>
      refine StepR.mk (ds := [11, 6]) (o := _) rfl (by kernel_rfl) ?_
      rintro L a V hsz h0 hd ⟨y9, y10, y27, y28, y34, y35, rfl, hR, hB, hV, p5, p6, p12, p13, p14, p15, pne⟩
      clear hd
      intro K hK
      simp only [Act.put, List.setIfInBounds_toArray, List.set_cons_zero, List.set_cons_succ]
      go_simp
      refine (skip_next s 1 V hs (by omega) (by omega)).mono ?_
      rintro e V' ⟨rfl, hb⟩
      have hR' := hR.next hb
      have hB' := hB.below hb
      refine hK.out _ _ ⟨hR'.rcd.cell 3, hB'.cell 0, hB'.cell 1, hB'.cell 2⟩ ?_
      exact ⟨y9, y10, y27, y28, (nextS s 1).v, y35, by simp only [Act.put, List.setIfInBounds_toArray, List.set_cons_zero, List.set_cons_succ], hR', hB', Nat.le_trans hV hb.size, was_listed (by decide) p5, was_listed (by decide) p6, fun _ => rfl, was_listed (by decide) p13, (p14.set (by decide) (by decide)).below hb, (p15.set (by decide) (by decide)).below hb, fun h h' => was_listed (j := 14) (by decide) (fun h => was_listed (j := 15) (by decide) (fun h' => pne h h') h') h⟩
    refine steps_cons ?s13 ?_
    case s13 =>
      refine StepR.mk (ds := [10, 12, 12]) (o := _) rfl (by kernel_rfl) ?_
      rintro L a V hsz h0 hd ⟨y9, y10, y27, y28, y34, y35, rfl, hR, hB, hV, p5, p6, p12, p13, p14, p15, pne⟩
      obtain rfl := p12 (hd _ (by decide))
      clear hd
      intro K hK
      simp only [Act.put, List.setIfInBounds_toArray, List.set_cons_zero, List.set_cons_succ]
      go_simp
      refine (HP.out 1 V (by omega) hR).mono ?_
      rintro e V' ⟨rfl, hx, hR'⟩
      have hB' := hB.bx hx hB.lt bs
      refine hK.out _ _ ⟨hR'.rcd.cell 3, hB'.cell 0, hB'.cell 1, hB'.cell 2⟩ ?_
      exact ⟨y9, y10, y27, y28, (nextS s 1).v, hopeV m (nextS s 1), by simp only [Act.put, List.setIfInBounds_toArray, List.set_cons_zero, List.set_cons_succ, hopeV], hR', hB', Nat.le_trans hV hx.size, was_listed (by decide) p5, was_listed (by decide) p6, was_listed (by decide) (fun _ => rfl), fun _ => rfl, (p14.set (by decide) (by decide)).bx hx hbm, (p15.set (by decide) (by decide)).bx hx hbm, fun h h' => was_listed (j := 14) (by decide) (fun h => was_listed (j := 15) (by decide) (fun h' => pne h h') h') h⟩
    refine steps_cons ?s14 ?_
    case s14 =>
      refine StepR.mk (ds := []) (o := _) rfl (by kernel_rfl) ?_
      rintro L a V hsz h0 hd ⟨y9, y10, y27, y28, y34, y35, rfl, hR, hB, hV, p5, p6, p12, p13, p14, p15, pne⟩
      clear hd
      intro K hK
      simp only [Act.put, List.setIfInBounds_toArray, List.set_cons_zero, List.set_cons_succ]
      go_simp
      have hA' := Below.alloc (Below.refl V.heap.size V) (Nat.le_refl _) (.cells #[.int .i64 0, .int .i64 0] 33)
      have hR' := hR.next hA'
      have hB' := hB.below hA'
      refine hK.out _ _ ⟨hR'.rcd.cell 3, hB'.cell 0, hB'.cell 1, hB'.cell 2⟩ ?_
      exact ⟨.pointer (some ⟨V.heap.size, 0, none⟩), y10, y27, y28, y34, y35, by simp only [Act.put, List.setIfInBounds_toArray, List.set_cons_zero, List.set_cons_succ], hR', hB', Nat.le_trans hV hA'.size, was_listed (by decide) p5, was_listed (by decide) p6, was_listed (by decide) p12, was_listed (by decide) p13, p14.new h0 (by decide) hV _ _, (p15.set (by decide) (by decide)).below hA', fun _ h' => Ne.symm (p15.ne (was_listed (j := 15) (by decide) id h'))⟩
    refine steps_cons ?s15 ?_
    case s15 =>
      refine StepR.mk (ds := []) (o := _) rfl (by kernel_rfl) ?_
      rintro L a V hsz h0 hd ⟨y9, y10, y27, y28, y34, y35, rfl, hR, hB, hV, p5, p6, p12, p13, p14, p15, pne⟩
      clear hd
      intro K hK
      simp only [Act.put, List.setIfInBounds_toArray, List.set_cons_zero, List.set_cons_succ]
      go_simp
      have hA' := Below.alloc (Below.refl V.heap.size V) (Nat.le_refl _) (.cells #[.int .i64 0, .int .i64 0] 33)
      have hR' := hR.next hA'
      have hB' := hB.below hA'
      refine hK.out _ _ ⟨hR'.rcd.cell 3, hB'.cell 0, hB'.cell 1, hB'.cell 2⟩ ?_
      exact ⟨y9, .pointer (some ⟨V.heap.size, 0, none⟩), y27, y28, y34, y35, by simp only [Act.put, List.setIfInBounds_toArray, List.set_cons_zero, List.set_cons_succ], hR', hB', Nat.le_trans hV hA'.size, was_listed (by decide) p5, was_listed (by decide) p6, was_listed (by decide) p12, was_listed (by decide) p13, (p14.set (by decide) (by decide)).below hA', p15.new h0 (by decide) hV _ _, fun h _ => p14.ne (was_listed (j := 14) (by decide) id h)⟩
    refine steps_cons ?s16 ?_
    case s16 =>
      refine StepR.mk (ds := [14, 6, 13, 0, 1, 2, 3, 4, 5, 6, 14, 15]) (o := _) rfl (by kernel_rfl) ?_
      rintro L a V hsz h0 hd ⟨y9, y10, y27, y28, y34, y35, rfl, hR, hB, hV, p5, p6, p12, p13, p14, p15, pne⟩
      obtain rfl := p6 (hd _ (by decide))
      have hl := hd 14 (by decide)
      have P5 := Lib.hid p5; clear p5
      have P12 := Lib.hid p12; clear p12
      clear hd
      have hq := p14.get hl
      obtain ⟨b, u, v, e9, hbB, hN⟩ := hq
      subst e9
      have c0 := hN.cell 0
      have c1 := hN.cell 1
      have f0 := hN.frozen 0
      have f1 := hN.frozen 1
      have zb := hN.lt
      dsimp only [List.getElem?_cons_zero, List.getElem?_cons_succ] at c0 c1
      unfold hopeV
      intro K hK
      simp only [Act.put, List.setIfInBounds_toArray, List.set_cons_zero, List.set_cons_succ]
      go_simp
      have hA' : Below W2.heap.size V ((V.setCell ⟨b, 0, none⟩ (.int .i64 (hopeS m (nextS s 0)).lo)).setCell ⟨b, 1, none⟩ (.int .i64 (hopeS m (nextS s 0)).hi)) := Below.setCell (Below.setCell (Below.refl _ _) hbB _) hbB _
      have hR' := hR.step hA' hR2.below.size l2.1 l2.2.1 l2.2.2.1 l2.2.2.2
      have hB' : Blk ((V.setCell ⟨b, 0, none⟩ (.int .i64 (hopeS m (nextS s 0)).lo)).setCell ⟨b, 1, none⟩ (.int .i64 (hopeS m (nextS s 0)).hi)) (w.heap.size + 1) 27 [.int .i64 s.ends, .int .i64 s.lead, .int .i64 s.ham] := (hA'.block _ hbs).trans hB
      refine hK.out _ _ ⟨hR'.rcd.cell 3, hB'.cell 0, hB'.cell 1, hB'.cell 2⟩ ?_
      exact ⟨.pointer (some ⟨b, 0, none⟩), y10, y27, hopeV m (nextS s 0), y34, y35, by simp only [Act.put, List.setIfInBounds_toArray, List.set_cons_zero, List.set_cons_succ, hopeV], hR', hB', Nat.le_trans hV hA'.size, was_listed (by decide) P5.out, was_listed (by decide) (fun _ => rfl), was_listed (by decide) P12.out, was_listed (by decide) p13, OutV.store hl (by decide) hbB hN, (p15.set (by decide) (by decide)).other (fun h => fun hx => pne hl (was_listed (j := 15) (by decide) id h) hx.symm) _ _, fun h h' => was_listed (j := 14) (by decide) (fun h => was_listed (j := 15) (by decide) (fun h' => pne h h') h') h⟩
    refine steps_cons ?s17 ?_
    case s17 =>
      refine StepR.mk (ds := [15, 13, 16, 0, 1, 2, 3, 4, 5, 6, 7, 8, 9, 10, 11, 12, 13, 14, 15, 16]) (o := _) rfl (by kernel_rfl) ?_
      rintro L a V hsz h0 hd ⟨y9, y10, y27, y28, y34, y35, rfl, hR, hB, hV, p5, p6, p12, p13, p14, p15, pne⟩
      obtain rfl := p13 (hd _ (by decide))
      have hl := hd 15 (by decide)
      have P5 := Lib.hid p5; clear p5
      have P12 := Lib.hid p12; clear p12
      clear hd
      have hq := p15.get hl
      obtain ⟨b, u, v, e9, hbB, hN⟩ := hq
      subst e9
      have c0 := hN.cell 0
      have c1 := hN.cell 1
      have f0 := hN.frozen 0
      have f1 := hN.frozen 1
      have zb := hN.lt
      dsimp only [List.getElem?_cons_zero, List.getElem?_cons_succ] at c0 c1
      unfold hopeV
      intro K hK
      simp only [Act.put, List.setIfInBounds_toArray, List.set_cons_zero, List.set_cons_succ]
      go_simp
      have hA' : Below W2.heap.size V ((V.setCell ⟨b, 0, none⟩ (.int .i64 (hopeS m (nextS s 1)).lo)).setCell ⟨b, 1, none⟩ (.int .i64 (hopeS m (nextS s 1)).hi)) := Below.setCell (Below.setCell (Below.refl _ _) hbB _) hbB _
      have hR' := hR.step hA' hR2.below.size l2.1 l2.2.1 l2.2.2.1 l2.2.2.2
      have hB' : Blk ((V.setCell ⟨b, 0, none⟩ (.int .i64 (hopeS m (nextS s 1)).lo)).setCell ⟨b, 1, none⟩ (.int .i64 (hopeS m (nextS s 1)).hi)) (w.heap.size + 1) 27 [.int .i64 s.ends, .int .i64 s.lead, .int .i64 s.ham] := (hA'.block _ hbs).trans hB
      refine hK.out _ _ ⟨hR'.rcd.cell 3, hB'.cell 0, hB'.cell 1, hB'.cell 2⟩ ?_
      exact ⟨y9, .pointer (some ⟨b, 0, none⟩), y27, y28, y34, hopeV m (nextS s 1), by simp only [Act.put, List.setIfInBounds_toArray, List.set_cons_zero, List.set_cons_succ, hopeV], hR', hB', Nat.le_trans hV hA'.size, was_listed (by decide) P5.out, was_listed (by decide) p6, was_listed (by decide) P12.out, was_listed (by decide) (fun _ => rfl), (p14.set (by decide) (by decide)).other (fun h => fun hx => pne (was_listed (j := 14) (by decide) id h) hl hx) _ _, OutV.store hl (by decide) hbB hN, fun h h' => was_listed (j := 14) (by decide) (fun h => was_listed (j := 15) (by decide) (fun h' => pne h h') h') h⟩
    exact steps_nil
  case done =>
    rintro L a V hall hsz ⟨y9, y10, y27, y28, y34, y35, rfl, hR, hB, hV, p5, p6, p12, p13, p14, p15, pne⟩
    have k := fun i (h : i < 18) => hall i h
    obtain rfl := p5 (k 5 (by decide))
    obtain rfl := p6 (k 6 (by decide))
    obtain rfl := p12 (k 12 (by decide))
    obtain rfl := p13 (k 13 (by decide))
    have hne := pne (k 14 (by decide)) (k 15 (by decide))
    obtain ⟨b9, e9, h9, hN9⟩ := p14.out (k 14 (by decide)) (k 16 (by decide))
    obtain ⟨b10, e10, h10, hN10⟩ := p15.out (k 15 (by decide)) (k 17 (by decide))
    subst e9 e10
    have hbb : b9 ≠ b10 := fun h => hne (by rw [h])
    clear pne hHeld p5 p6 p12 p13 p14 p15 hall k hne
    have hWV : Below w.heap.size w V := hW1.trans (hR.below.mono hW1.size)
    have g2 := hB.cell 2
    have g9 := hN9.cell 0
    have g9' := hN9.cell 1
    have g10 := hN10.cell 0
    have g10' := hN10.cell 1
    have f9 := hN9.frozen 0
    have f9' := hN9.frozen 1
    have f10 := hN10.frozen 0
    have f10' := hN10.frozen 1
    have z9 := hN9.lt
    have z10 := hN10.lt
    dsimp only [List.getElem?_cons_zero, List.getElem?_cons_succ] at g2 g9 g9' g10 g10'
    obtain ⟨o1, o2, o3, o4⟩ := hopeS_ok hg (nextS s 0)
    obtain ⟨u1, u2, u3, u4⟩ := hopeS_ok hg (nextS s 1)
    have hbw : Below w.heap.size w V := hWV
    have hw9 : w.heap.size ≤ b9 := by omega
    have hw10 : w.heap.size ≤ b10 := by omega
    have EL : blankLo m s = if s.ham = 1 then (hopeS m (nextS s 1)).lo - (hopeS m (nextS s 0)).hi else (hopeS m (nextS s 0)).lo - (hopeS m (nextS s 1)).hi := rfl
    have EH : blankHi m s = if s.ham = 1 then (hopeS m (nextS s 1)).hi - (hopeS m (nextS s 0)).lo else (hopeS m (nextS s 0)).hi - (hopeS m (nextS s 1)).lo := rfl
    generalize hopeS m (nextS s 0) = h0 at *
    generalize hopeS m (nextS s 1) = h1 at *
    have EL' := Lib.hid EL; clear EL
    have EH' := Lib.hid EH; clear EH
    unfold hopeV
    simp only [Act.put, List.setIfInBounds_toArray, List.set_cons_zero, List.set_cons_succ]
    rcases q5 with hq | hq
    · have hq2 : (s.ham == 1) = false := by simp [hq]
      have w1 : IntKind.i64.wrap (h0.lo - h1.hi) = h0.lo - h1.hi := IntWalk.i64_in _ (by omega)
      have w2 : IntKind.i64.wrap (h0.hi - h1.lo) = h0.hi - h1.lo := IntWalk.i64_in _ (by omega)
      go_wp2
      go_quiet (fail)
      clear w1 w2
      go_wp2
      all_goals
        have EL := EL'.out
        have EH := EH'.out
        rw [if_neg (by omega)] at EL EH
      · refine bodyPost_ret (v := .tuple #[.int .i64 (h0.lo - h1.hi), .int .i64 (h0.hi - h1.lo), .int .i64 1, .int .i64 0]) (by simp [results, Try.results11, go_sem]) rfl ⟨by rw [EL, EH, betterI, if_pos (by omega)], bl_drewN hbw _⟩
      · refine bodyPost_ret (v := .tuple #[.int .i64 (h0.lo - h1.hi), .int .i64 (h0.hi - h1.lo), .int .i64 (-1), .int .i64 0]) (by simp [results, Try.results11, go_sem]) rfl ⟨by rw [EL, EH, betterI, if_neg (by omega), if_pos (by omega)], bl_drewN hbw _⟩
      · refine bodyPost_ret (v := .tuple #[.int .i64 (h0.lo - h1.hi), .int .i64 (h0.hi - h1.lo), .int .i64 0, .int .i64 0]) (by simp [results, Try.results11, go_sem]) rfl ⟨by rw [EL, EH, betterI, if_neg (by omega), if_neg (by omega)], bl_drewN hbw _⟩
    · have hq2 : (s.ham == 1) = true := by simp [hq]
      have w1 : IntKind.i64.wrap (h1.lo - h0.hi) = h1.lo - h0.hi := IntWalk.i64_in _ (by omega)
      have w2 : IntKind.i64.wrap (h1.hi - h0.lo) = h1.hi - h0.lo := IntWalk.i64_in _ (by omega)
      have hbb' : b10 ≠ b9 := Ne.symm hbb
      go_wp2
      go_quiet (fail)
      clear w1 w2
      go_wp2
      all_goals
        have EL := EL'.out
        have EH := EH'.out
        rw [if_pos hq] at EL EH
      · refine bodyPost_ret (v := .tuple #[.int .i64 (h1.lo - h0.hi), .int .i64 (h1.hi - h0.lo), .int .i64 1, .int .i64 0]) (by simp [results, Try.results11, go_sem]) rfl ⟨by rw [EL, EH, betterI, if_pos (by omega)], bl_drewN ((((hbw.setCell hw9 _).setCell hw9 _).setCell hw10 _).setCell hw10 _) _⟩
      · refine bodyPost_ret (v := .tuple #[.int .i64 (h1.lo - h0.hi), .int .i64 (h1.hi - h0.lo), .int .i64 (-1), .int .i64 0]) (by simp [results, Try.results11, go_sem]) rfl ⟨by rw [EL, EH, betterI, if_neg (by omega), if_pos (by omega)], bl_drewN ((((hbw.setCell hw9 _).setCell hw9 _).setCell hw10 _).setCell hw10 _) _⟩
      · refine bodyPost_ret (v := .tuple #[.int .i64 (h1.lo - h0.hi), .int .i64 (h1.hi - h0.lo), .int .i64 0, .int .i64 0]) (by simp [results, Try.results11, go_sem]) rfl ⟨by rw [EL, EH, betterI, if_neg (by omega), if_neg (by omega)], bl_drewN ((((hbw.setCell hw9 _).setCell hw9 _).setCell hw10 _).setCell hw10 _) _⟩
end Go.Proofs.Ytbppjebpnpgenaa

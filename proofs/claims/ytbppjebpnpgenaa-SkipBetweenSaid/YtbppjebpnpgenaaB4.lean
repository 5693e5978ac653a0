/- The mean of hopes over a style's counts: walked. -/
import Derived.Test.YtbppjebpnpgenaaB3
import Derived.Deep.RegionHeld3
import Derived.Deep.DrawnRows
namespace Go.Proofs.Ytbppjebpnpgenaa
open Go Go.RowKit
attribute [local go_sem ↓] Go.wp_at_zero Go.wp_at_succ

theorem Try.infoFix : (Try.prog.info? 31).map (fun i => (i.zero, i.size, i.bytes)) = some (some (.int .i64 0), 1, 8) := by kernel_rfl

def meanH (doubt : Int) (cs : List Int) (hs : List Hp) : Hp := ⟨lowM doubt cs (hs.map (·.lo)), highM doubt cs (hs.map (·.hi))⟩

def lhigh (doubt : Int) (cs : List Int) (hs : List Hp) : Int := highM doubt cs (hs.map (·.lo))
def llow (doubt : Int) (cs : List Int) (hs : List Hp) : Int := lowM doubt cs (hs.map (·.hi))
/-- The mark of a mean's loop: the first k hopes' two rows. -/
structure MeanAt (B : Nat) (hs : List Hp) (k : Nat) (w : World) (v1 v2 : Value) : Prop where
  two : Two B 31 w v1 k ((hs.take k).map fun h => .int .i64 h.lo) v2 k ((hs.take k).map fun h => .int .i64 h.hi)

theorem news1 {w : World} {B : Nat} {u : Value} (h : w.cell? ⟨B, 0, none⟩ = some u) : ∀ j x, [u][j]? = some x → w.cell? ((⟨B, 0, none⟩ : Addr).add j) = some x := by
  intro j x hj
  match j, hj with
  | 0, hj =>
    simp at hj
    subst hj
    rw [Addr.add_lit]
    exact h

theorem cell_grown {w w' : World} {v : Value} {N B o : Nat} {u : Value} (hg : w.grownBy w' v.ownBlock) (hv : ∀ k, v.ownBlock = some k → k < N) (hB : N ≤ B) (h : w.cell? ⟨B, o, none⟩ = some u) : w'.cell? ⟨B, o, none⟩ = some u :=
  hg.cell h (fun e => by have := hv B e.symm; omega)

theorem one_cell (u : Int) : ∀ x ∈ [Value.int .i64 u], x.oneCell' = true := by intro x hx; simp at hx; subst hx; rfl

theorem take_map_succ (hs : List Hp) (f : Hp → Value) (k : Nat) (hk : k < hs.length) : (hs.take (k + 1)).map f = (hs.take k).map f ++ [f (hs[k]?.getD default)] := by
  rw [List.take_succ_eq_append_getElem hk, List.map_append]; simp [hk]

theorem step_app_fix {ops : Array Oper} {o : Oper} {a : Act} {K : Act → World → Prop} {Q : Exit → Act → World → Prop} {E : Prop} {w : World} (s x : Operand) (hgd : o.guard = none)
    (ho : o.op = .call { callee := .builtin .append, args := #[s, x], argTypes := #[86, 86] }) {B k : Nat} {v : Value} {xs : List Value} (hs : a.eval s = v) (hown : w.ownsRow B 31 1 v k xs)
    (nb : Nat) (u : Int) (hx : a.eval x = .slice (some ⟨nb, 0, none⟩) 1 1) (hc : w.cell? ⟨nb, 0, none⟩ = some (.int .i64 u)) (hk : k ≤ 60) (hB : B ≤ w.heap.size)
    (h : ∀ g cap w', w'.ownsRow B 31 1 (.slice (some ⟨g, 0, none⟩) (k + 1) cap) (k + 1) (xs ++ [.int .i64 u]) → w.grownBy w' v.ownBlock → (v.ownBlock = some g ∨ g = w.heap.size) → K (a.put o.dst (.slice (some ⟨g, 0, none⟩) (k + 1) cap)) w') :
    if Region.wanted o (yielded ops a.tmps) = true then Oper.wp Try.prog o a w K Q else E := by
  obtain ⟨i, hi, hz0, hz1, hz2⟩ := info_parts Try.infoFix
  exact step_append_lies w hgd s x 86 ho B 31 i _ 1 8 Try.underlying86 hi hz0 hz1 hz2 rfl (by omega) v k xs hs hown ⟨nb, 0, none⟩ 1 1 _ hx (by rfl) (news1 hc) (one_cell _) (by omega) (by simp only [maxLen]; omega) (by omega) hB _ rfl
    (fun g cap w' h1 h2 h3 _ => h g cap w' h1 h2 h3)

theorem cell_alloc {w : World} {B o : Nat} {u : Value} (h : w.cell? ⟨B, o, none⟩ = some u) (ob : Obj) : (w.alloc ob).cell? ⟨B, o, none⟩ = some u :=
  (World.cell?_of_block (Below.heap_alloc w ob B (World.block_lt_of_cell? w _ h))).trans h
theorem cell_newest {w : World} {B : Nat} {u : Value} {t : TypeId} (h : B = w.heap.size) : (w.alloc (.cells #[u] t)).cell? ⟨B, 0, none⟩ = some u := by
  subst h; simp
theorem cell_drew {w : World} {B o : Nat} {u : Value} (h : w.cell? ⟨B, o, none⟩ = some u) : w.drew.cell? ⟨B, o, none⟩ = some u := h
theorem Blk.grown {w w' : World} {b t : Nat} {cs : List Value} {row : Option Nat} (h : Blk w b t cs) (hg : w.grownBy w' row) (hne : some b ≠ row) : Blk w' b t cs := (hg.block b h.lt hne).trans h
theorem Blk.grown_row {w w' : World} {b t : Nat} {cs : List Value} {v : Value} (h : Blk w b t cs) (hg : w.grownBy w' v.ownBlock) (hv : ∀ j, v.ownBlock = some j → b + 1 ≤ j) : Blk w' b t cs :=
  h.grown hg fun e => by have := hv b e.symm; omega


set_option maxRecDepth 100000 in
set_option maxHeartbeats 2000000 in
theorem skip_mean (rb : Nat) (doubt : Int) (a : Option Addr) (c : Nat) (cs : List Int) (a2 : Option Addr) (c2 : Nat) (hs : List Hp) (w : World)
    (hrb : w.cell? ⟨rb, 0, none⟩ = some (.int .i64 doubt)) (hrl : rb < w.heap.size) (hm : MeanOk cs (hs.map (·.lo)) doubt) (hm2 : MeanOk cs (hs.map (·.hi)) doubt)
    (hr : Row w a (cs.map (.int .i64))) (hr2 : HRow w a2 hs) :
    Calls Try.prog 30 #[.pointer (some ⟨rb, 0, none⟩), .slice a cs.length c, .slice a2 hs.length c2] w fun e w' =>
      e = .returned (meanH doubt cs hs).v ∧ Below w.heap.size w w' := by
  have hlen : hs.length ≤ 49 := by have := hm.len; have := hm.most; simp at *; omega
  obtain ⟨i, hi, hz0, hz1, hz2⟩ := info_parts Try.infoFix
  go_enter Try.func30, Try.ntmps30
  go_wp2
  go_loopw [7, 8, 19] (fun v1 v2 i wr => ∃ k : Nat, k ≤ hs.length ∧ i = .int .i64 k ∧ Below w.heap.size w wr ∧ Blk wr w.heap.size 33 [.int .i64 0, .int .i64 0] ∧ MeanAt (w.heap.size + 1) hs k wr v1 v2) (fun _ _ i _ => hs.length - (intOf i).toNat)
  case atStart => exact ⟨0, Nat.zero_le _, rfl, by go_grown, Blk.new _ _ [_, _], ⟨Two.nil _ (by simp)⟩⟩
  case round =>
    obtain ⟨k, hk, rfl, hB, hb1, hM⟩ := hrel
    by_cases hlt : k < hs.length
    · obtain ⟨b, off, rfl, hlb, hc0, hc1⟩ := (hr2.below hB).at_ k hlt
      have T1 := take_map_succ hs (fun h => .int .i64 h.lo) k hlt
      have T2 := take_map_succ hs (fun h => .int .i64 h.hi) k hlt
      generalize hs[k]?.getD default = x at *
      have HT1 := Lib.hid T1; clear T1
      have HT2 := Lib.hid T2; clear T2
      have hz := hb1.lt
      have hT := hM.two
      have hv1 : ∀ j, u7.ownBlock = some j → j < wr.heap.size := fun j hj => (hT.own1.lt j hj).2
      have hv2 : ∀ j, u8.ownBlock = some j → j < wr.heap.size := fun j hj => (hT.own2.lt j hj).2
      have hle := hB.size
      have hw1 : ∀ j, u7.ownBlock = some j → w.heap.size + 1 ≤ j := fun j hj => (hT.own1.lt j hj).1
      have hw2 : ∀ j, u8.ownBlock = some j → w.heap.size + 1 ≤ j := fun j hj => (hT.own2.lt j hj).1
      have hx1 : ∀ j, u7.ownBlock = some j → w.heap.size ≤ j := fun j hj => by have := hw1 j hj; omega
      have hx2 : ∀ j, u8.ownBlock = some j → w.heap.size ≤ j := fun j hj => by have := hw2 j hj; omega
      go_wp2
      go_region_held3 (fun W => W.cell? ⟨wr.heap.size, 0, none⟩ = some (.int .i64 x.lo) ∧ W.cell? ⟨wr.heap.size, 1, none⟩ = some (.int .i64 x.hi))
        (first | go_keep | (refine ⟨?_, ?_⟩ <;> (first | exact cell_grown hgrow2 hv2 (Nat.le_refl _) (by first | (simp; done) | (simp [*]; done) | ((repeat (first | (with_reducible assumption) | (with_reducible refine cell_newest ?_; simp; done) | (simp; done) | with_reducible refine cell_alloc ?_ _ | with_reducible refine cell_drew ?_)); done)) | exact cell_grown hgrow hv1 (Nat.le_refl _) (by first | (simp; done) | (simp [*]; done)))))
        (first
          | ((refine step_app_fix _ _ (by rfl) (by rfl) (B := w.heap.size + 1) (k := k) (xs := (hs.take k).map fun h => .int .i64 h.lo) (by rfl) ?_ _ x.lo (by rfl) (by first | ((repeat (first | (with_reducible assumption) | (with_reducible refine cell_newest ?_; simp; done) | (simp; done) | with_reducible refine cell_alloc ?_ _ | with_reducible refine cell_drew ?_)); done) | (refine cell_grown hgrow hv1 (by first | omega | (simp; done) | (simp; omega)) ?_; (repeat (first | (with_reducible assumption) | (with_reducible refine cell_newest ?_; simp; done) | (simp; done) | with_reducible refine cell_alloc ?_ _ | with_reducible refine cell_drew ?_)); done)) (by omega) (by first | omega | (simp; done) | (simp; omega)) ?_); (refine Two.own1 (v2 := u8) (n2 := k) (xs2 := (hs.take k).map fun h => .int .i64 h.hi) ?_; (repeat (first | assumption | with_reducible refine Two.alloc ?_ _ | with_reducible refine Two.drew ?_))); intro g cap w1 hown hgrow hat; have hT1 := Two.app1 (n1 := k) (xs1 := (hs.take k).map fun h => .int .i64 h.lo) (v2 := u8) (n2 := k) (xs2 := (hs.take k).map fun h => .int .i64 h.hi) (by (repeat (first | assumption | with_reducible refine Two.alloc ?_ _ | with_reducible refine Two.drew ?_))) hown hgrow hat; have l1 := hT1.le; have l2 := hgrow.size)
          | (refine step_app_fix _ _ (by rfl) (by rfl) (B := w.heap.size + 1) (k := k) (xs := (hs.take k).map fun h => .int .i64 h.hi) (by rfl) ?_ _ x.hi (by rfl) (by first | ((repeat (first | (with_reducible assumption) | (with_reducible refine cell_newest ?_; simp; done) | (simp; done) | with_reducible refine cell_alloc ?_ _ | with_reducible refine cell_drew ?_)); done) | (refine cell_grown hgrow hv1 (by first | omega | (simp; done) | (simp; omega)) ?_; (repeat (first | (with_reducible assumption) | (with_reducible refine cell_newest ?_; simp; done) | (simp; done) | with_reducible refine cell_alloc ?_ _ | with_reducible refine cell_drew ?_)); done)) (by omega) (by first | omega | (simp; done) | (simp; omega)) ?_; (refine Two.own2 (v1 := .slice (some ⟨g, 0, none⟩) (k + 1) cap) (n1 := k + 1) (xs1 := ((hs.take k).map fun h => .int .i64 h.lo) ++ [.int .i64 x.lo]) ?_; (repeat (first | assumption | with_reducible refine Two.alloc ?_ _ | with_reducible refine Two.drew ?_))); intro g2 cap2 w2 hown2 hgrow2 hat2; have hT2 := Two.app2 (v1 := .slice (some ⟨g, 0, none⟩) (k + 1) cap) (n1 := k + 1) (xs1 := ((hs.take k).map fun h => .int .i64 h.lo) ++ [.int .i64 x.lo]) (n2 := k) (xs2 := (hs.take k).map fun h => .int .i64 h.hi) (by (repeat (first | assumption | with_reducible refine Two.alloc ?_ _ | with_reducible refine Two.drew ?_))) hown2 hgrow2 hat2))
      all_goals
        go_wp2
        go_roundw
        case measure => simp only [intOf]; omega
        refine ⟨k + 1, by omega, by push_cast; rfl, ?_, ?_, ⟨?_⟩⟩
        · (repeat (first | with_reducible assumption | refine Below.grown ?_ hgrow2 (by first | omega | (simp; done) | (simp; omega)) hx2 | refine Below.grown ?_ hgrow (by first | omega | (simp; done) | (simp; omega)) hx1 | refine Below.alloc ?_ (by first | omega | (simp; done) | (simp; omega)) _ | with_reducible refine Below.drew ?_))
        · (repeat (first | with_reducible assumption | refine Blk.grown_row ?_ hgrow2 hw2 | refine Blk.grown_row ?_ hgrow hw1 | with_reducible refine Blk.drew ?_ | with_reducible refine Blk.alloc ?_ _))
        · rw [HT1.out, HT2.out]
          exact hT2
    · obtain rfl : k = hs.length := by omega
      have hT := hM.two
      have hlen2 : 0 < hs.length := by have := hm.len; have := hm.one; simp at *; omega
      obtain ⟨g1, cap1, rfl, _, hg1⟩ := hT.own1.form hlen2
      obtain ⟨g2, cap2, rfl, _, hg2⟩ := hT.own2.form hlen2
      have r1 := own_row hT.own1
      have r2 := own_row hT.own2
      rw [List.take_length] at r1 r2
      have M1 : ∀ W, Below wr.heap.size wr W → Calls Try.prog 37 #[.slice a cs.length c, .slice (some ⟨g1, 0, none⟩) hs.length cap1, .int .i64 doubt] W fun e W' =>
          e = .returned (.tuple #[.int .i64 (meanH doubt cs hs).lo, .int .i64 (lhigh doubt cs hs), .int .i64 0]) ∧ Below W.heap.size W W' := fun W hW => by
        have := skill_Mean a c cs (some ⟨g1, 0, none⟩) cap1 (hs.map (·.lo)) doubt W hm (hr.below (hB.trans (hW.mono hB.size))) (by have := r1.below hW; rw [List.map_map]; exact this)
        rw [List.length_map] at this
        exact this
      have M2 : ∀ W, Below wr.heap.size wr W → Calls Try.prog 37 #[.slice a cs.length c, .slice (some ⟨g2, 0, none⟩) hs.length cap2, .int .i64 doubt] W fun e W' =>
          e = .returned (.tuple #[.int .i64 (llow doubt cs hs), .int .i64 (meanH doubt cs hs).hi, .int .i64 0]) ∧ Below W.heap.size W W' := fun W hW => by
        have := skill_Mean a c cs (some ⟨g2, 0, none⟩) cap2 (hs.map (·.hi)) doubt W hm2 (hr.below (hB.trans (hW.mono hB.size))) (by have := r2.below hW; rw [List.map_map]; exact this)
        rw [List.length_map] at this
        exact this
      have hd : wr.cell? ⟨rb, 0, none⟩ = some (.int .i64 doubt) := (hB.cell (p := ⟨rb, 0, none⟩) hrl).trans hrb
      have c10 := hb1.cell 0
      have c11 := hb1.cell 1
      have f10 := hb1.frozen 0
      have f11 := hb1.frozen 1
      dsimp only [List.getElem?_cons_zero, List.getElem?_cons_succ] at c10 c11
      have hz := hb1.lt
      have hx : rb < wr.heap.size := by have := hB.size; omega
      have hBw : ∀ W, Below wr.heap.size wr W → Below w.heap.size w W := fun W hW => hB.trans (hW.mono hB.size)
      have N1 := Lib.hid M1; clear M1
      have N2 := Lib.hid M2; clear M2
      have HH := Lib.hid hb1; clear hb1
      clear hM hT r1 r2 hm hm2
      go_wp2_with fail
      refine (N1.out _ (Below.refl _ _)).mono ?_
      rintro e w1 ⟨rfl, hb1⟩
      obtain ⟨hc, hf⟩ := bcell hb1
      go_wp2_with fail
      refine (N2.out _ hb1).mono ?_
      rintro e w2 ⟨rfl, hb2⟩
      have hb2' : Below wr.heap.size wr w2 := hb1.trans (hb2.mono hb1.size)
      obtain ⟨hc2, hf2⟩ := bcell hb2'
      have e0 := ((HH.out.below hb2').set 0 (.int .i64 (meanH doubt cs hs).lo)).cell 0
      have e1 := (((HH.out.below hb2').set 0 (.int .i64 (meanH doubt cs hs).lo)).set 1 (.int .i64 (meanH doubt cs hs).hi)).cell 1
      simp only [List.set_cons_zero, List.set_cons_succ, List.getElem?_cons_zero, List.getElem?_cons_succ] at e0 e1
      go_wp2
      refine bodyPost_ret (v := (meanH doubt cs hs).v) (by simp [results, Try.results30, go_sem, e0, e1, Hp.v]) rfl ⟨rfl, ?_⟩
      have := hBw _ hb2'
      go_grown
end Go.Proofs.Ytbppjebpnpgenaa

/- What a chance's reckoning leaves: its marks; sums by outcomes. -/
import Derived.Test.YtbppjebpnpgenaaC4
namespace Go.Proofs.Ytbppjebpnpgenaa
open Go Go.RowKit

/-- All blocks below B but two stay. -/
structure BY (B b1 b2 : Nat) (a w : World) : Prop where
  os : w.os = a.os
  tape : w.tape = a.tape
  output : w.output = a.output
  size : a.heap.size ≤ w.heap.size
  block : ∀ k, k < B → k ≠ b1 → k ≠ b2 → w.heap[k]? = a.heap[k]?
theorem BY.refl (B b1 b2 : Nat) (w : World) : BY B b1 b2 w w := ⟨rfl, rfl, rfl, Nat.le_refl _, fun _ _ _ _ => rfl⟩
theorem BY.trans {B b1 b2 : Nat} {a b c : World} (h : BY B b1 b2 a b) (k : BY B b1 b2 b c) : BY B b1 b2 a c :=
  ⟨k.os.trans h.os, k.tape.trans h.tape, k.output.trans h.output, Nat.le_trans h.size k.size, fun i hi h1 h2 => (k.block i hi h1 h2).trans (h.block i hi h1 h2)⟩
theorem BY.mono {B B' b1 b2 : Nat} {a b : World} (h : BY B b1 b2 a b) (hB : B' ≤ B) : BY B' b1 b2 a b := ⟨h.os, h.tape, h.output, h.size, fun i hi h1 h2 => h.block i (by omega) h1 h2⟩
theorem BY.of_below {B b1 b2 : Nat} {a b : World} (h : Below B a b) : BY B b1 b2 a b := ⟨h.os, h.tape, h.output, h.size, fun i hi _ _ => h.block i hi⟩
theorem BY.below {B B' b1 b2 : Nat} {a b : World} (h : BY B b1 b2 a b) (hB : B' ≤ B) (h1 : B' ≤ b1) (h2 : B' ≤ b2) : Below B' a b := ⟨h.os, h.tape, h.output, h.size, fun i hi => h.block i (by omega) (by omega) (by omega)⟩
theorem Blk.by_ {w w' : World} {b t B b1 b2 : Nat} {cs : List Value} (h : Blk w b t cs) (hx : BY B b1 b2 w w') (hb : b < B) (h1 : b ≠ b1) (h2 : b ≠ b2) : Blk w' b t cs := (hx.block b hb h1 h2).trans h
theorem BY.of_grown {w w' : World} {b b1 b2 : Nat} (h : w.grownBy w' (some b)) (hb : b = b1 ∨ b = b2) (B : Nat) (hB : B ≤ w.heap.size) : BY B b1 b2 w w' :=
  ⟨h.os, h.tape, h.output, h.size, fun k hk h1 h2 => h.block k (by omega) (by rcases hb with rfl | rfl <;> simp <;> assumption)⟩

/-- What is known of rivals whose doubt is known. -/
structure GoodF (m : RivV) : Prop where
  rows : ∀ h, 1 ≤ (tabOf m h).rows.length ∧ (tabOf m h).rows.length ≤ 8
  each : ∀ h, ∀ cs ∈ (tabOf m h).data, cs.length = 17 ∧ ∀ x ∈ cs, 0 ≤ x ∧ x ≤ 1001000
theorem f2_length {α β : Type} {R : α → β → Prop} {la : List α} {lb : List β} (h : F2 R la lb) : la.length = lb.length := by
  induction h with
  | nil => rfl
  | cons _ _ ih => simp [ih]
theorem f2_right {α β : Type} {R : α → β → Prop} {la : List α} {lb : List β} (h : F2 R la lb) : ∀ b ∈ lb, ∃ a ∈ la, R a b := by
  induction h with
  | nil => intro b hb; cases hb
  | cons h1 _ ih =>
    intro b hb
    rcases List.mem_cons.1 hb with rfl | hb
    · exact ⟨_, by simp, h1⟩
    · obtain ⟨a, ha, h⟩ := ih b hb; exact ⟨a, by simp [ha], h⟩
theorem goodF {m m' : RivV} (hm : GoodM m) (h : MoreM m m') : GoodF m' := by
  refine ⟨fun t => ?_, fun t cs hcs => ?_⟩
  · have h1 := f2_length (h t)
    have h2 := hm.rows t
    simp only [TabV.data, List.length_map] at h1
    omega
  · obtain ⟨c, hc, hr⟩ := f2_right (h t) cs hcs
    have h1 := hm.each t c hc
    refine ⟨more_len hr h1.1, fun x hx => ?_⟩
    have := more_bd hr h1 x hx
    have := hm.d2
    omega

/-- A reckoning of chances as it lies: whether it rounds down, whether it has met what it cannot do; what its map holds is right unless it has. -/
structure Plays (m : RivV) (down : Bool) (w0 : World) (pb bm : Nat) (odd : Bool) (w : World) : Prop where
  below : Below w0.heap.size w0 w
  data : m.In w0
  good : GoodF m
  lpb : w0.heap.size ≤ pb
  lbm : w0.heap.size ≤ bm
  blk : Blk w pb 41 [.int .i64 m.doubt, m.s0.v, m.s1.v, .bool down, .bool odd, .map (some bm)]
  map : ∃ ents, MapAt w bm ents ∧ ∀ s v, getL s ents = some v → ∃ r, v = .int .i64 r ∧ 0 ≤ r ∧ r ≤ 65536 ∧ (odd = false → r = chanceS down m s)
section
variable {m : RivV} {down : Bool} {w0 w w' : World} {pb bm : Nat} {odd : Bool}
theorem Plays.ne (h : Plays m down w0 pb bm odd w) : pb ≠ bm := by
  obtain ⟨ents, hm, _⟩ := h.map
  exact h.blk.ne_map hm
theorem Plays.lt (h : Plays m down w0 pb bm odd w) : pb < w.heap.size ∧ bm < w.heap.size := by
  obtain ⟨ents, hm, _⟩ := h.map
  exact ⟨h.blk.lt, hm.lt⟩
theorem Plays.step {B : Nat} (h : Plays m down w0 pb bm odd w) (hB : Below B w w') (h0 : w0.heap.size ≤ B) (h1 : pb < B) (h4 : bm < B) : Plays m down w0 pb bm odd w' := by
  obtain ⟨ents, hm, he⟩ := h.map
  exact ⟨h.below.trans (hB.mono h0), h.data, h.good, h.lpb, h.lbm, (hB.block pb h1).trans h.blk, ents, hm.kept (hB.block bm h4), he⟩
theorem Plays.next (h : Plays m down w0 pb bm odd w) (hB : Below w.heap.size w w') : Plays m down w0 pb bm odd w' := by
  obtain ⟨h1, h4⟩ := h.lt
  exact h.step hB h.below.size h1 h4
theorem Plays.inM (h : Plays m down w0 pb bm odd w) : m.In w := h.data.below h.below
/-- It marks whether it has met what it cannot do. -/
theorem Plays.mark (h : Plays m down w0 pb bm odd w) (o : Bool) (ho : odd = true → o = true) : Plays m down w0 pb bm o (w.setCell ⟨pb, 4, none⟩ (.bool o)) := by
  obtain ⟨ents, hm, he⟩ := h.map
  refine ⟨h.below.setCell h.lpb _, h.data, h.good, h.lpb, h.lbm, by simpa using h.blk.set 4 (.bool o), ents, hm.other (a := ⟨pb, 4, none⟩) (Ne.symm h.ne) _, fun s v hv => ?_⟩
  obtain ⟨r, h1, h2, h3, h4⟩ := he s v hv
  exact ⟨r, h1, h2, h3, fun hf => h4 (by cases hodd : odd with | false => rfl | true => rw [ho hodd] at hf; cases hf)⟩
end

/-- How many ends the first k outcomes have, and what they give. -/
def cntTo (s : St) (cs : List Int) (k : Nat) : Int := ((countsH s cs).take k).sum
def sumTo (s : St) (cs vs : List Int) (k : Nat) : Int := sumProd ((countsH s cs).take k) (vs.take k)
theorem cntTo_succ (s : St) (cs : List Int) (k : Nat) (hk : k < cs.length) : cntTo s cs (k + 1) = cntTo s cs k + (countsH s cs)[k]?.getD 0 := by
  have h : k < (countsH s cs).length := by rw [countsH_len]; exact hk
  unfold cntTo
  rw [List.take_succ_eq_append_getElem h, List.sum_append]
  simp [h]
theorem sumTo_succ (s : St) (cs vs : List Int) (k : Nat) (hk : k < cs.length) (hv : vs.length = cs.length) : sumTo s cs vs (k + 1) = sumTo s cs vs k + vs[k]?.getD 0 * (countsH s cs)[k]?.getD 0 := by
  have h : k < (countsH s cs).length := by rw [countsH_len]; exact hk
  have h2 : k < vs.length := by omega
  have happ : ∀ (a b : List Int) (x y : Int), a.length = b.length → sumProd (a ++ [x]) (b ++ [y]) = sumProd a b + x * y := fun a b x y hab => by
    unfold sumProd
    rw [List.zip_append hab]
    simp
  unfold sumTo
  rw [List.take_succ_eq_append_getElem h, List.take_succ_eq_append_getElem h2, happ _ _ _ _ (by simp; omega)]
  simp [h, h2, Int.mul_comm]
theorem cntTo_zero (s : St) (cs : List Int) : cntTo s cs 0 = 0 := by simp [cntTo]
theorem sumTo_zero (s : St) (cs vs : List Int) : sumTo s cs vs 0 = 0 := by simp [sumTo, sumProd]
theorem cntTo_all (s : St) (cs : List Int) : cntTo s cs cs.length = (countsH s cs).sum := by
  unfold cntTo; rw [List.take_of_length_le (by rw [countsH_len]; exact Nat.le_refl _)]
theorem sumTo_all (s : St) (cs vs : List Int) (hv : vs.length = cs.length) : sumTo s cs vs cs.length = sumProd (countsH s cs) vs := by
  unfold sumTo; rw [List.take_of_length_le (by rw [countsH_len]; exact Nat.le_refl _), List.take_of_length_le (by omega)]
theorem countsH_get (s : St) (cs : List Int) (k : Nat) (_hk : k < cs.length) (h : ¬ (s.ends = 0 ∧ k = 8)) : (countsH s cs)[k]?.getD 0 = cs[k]?.getD 0 := by
  unfold countsH
  split
  · rw [List.getElem?_set_ne (by intro e; exact h ⟨by assumption, e.symm⟩)]
  · rfl
theorem countsH_blank (s : St) (cs : List Int) (h : s.ends = 0) : (countsH s cs)[8]?.getD 0 = 0 := by
  unfold countsH
  rw [if_pos h]
  by_cases h8 : 8 < cs.length
  · rw [List.getElem?_set_self h8]; rfl
  · rw [List.getElem?_eq_none (by simp; omega)]; rfl
theorem cntTo_bd (s : St) (cs : List Int) (hl : cs.length = 17) (hc : ∀ x ∈ cs, 0 ≤ x ∧ x ≤ 1001000) : ∀ k, k ≤ 17 → 0 ≤ cntTo s cs k ∧ cntTo s cs k ≤ 1001000 * k := by
  intro k
  induction k with
  | zero => intro _; rw [cntTo_zero]; omega
  | succ k ih =>
    intro hk
    have h := ih (by omega)
    rw [cntTo_succ s cs k (by omega)]
    have : 0 ≤ (countsH s cs)[k]?.getD 0 ∧ (countsH s cs)[k]?.getD 0 ≤ 1001000 := by
      by_cases hb : s.ends = 0 ∧ k = 8
      · rw [hb.2, countsH_blank s cs hb.1]; omega
      · rw [countsH_get s cs k (by omega) hb]; exact hc _ (getD_mem (by omega))
    push_cast
    omega

/-- The best value behind the first k styles; 0 where there are none. -/
def bestK (ham : Int) (vs : List Int) (k : Nat) : Int := if k = 0 then 0 else bestTo ham vs (k - 1)
theorem bestK_succ (ham : Int) (vs : List Int) (k : Nat) (hk : k < vs.length) : bestK ham vs (k + 1) = if k = 0 then vs[k]?.getD 0 else pickI ham (bestK ham vs k) (vs[k]?.getD 0) := by
  unfold bestK
  rw [if_neg (by omega), Nat.add_sub_cancel]
  by_cases h : k = 0
  · subst h; rw [if_pos rfl, bestTo_zero]
  · rw [if_neg h, if_neg h]
    obtain ⟨j, rfl⟩ : ∃ j, k = j + 1 := ⟨k - 1, by omega⟩
    rw [bestTo_succ ham vs j hk, Nat.add_sub_cancel]
theorem bestK_all (ham : Int) (vs : List Int) (h : 0 < vs.length) : bestK ham vs vs.length = bestC ham vs := by
  unfold bestK bestC; rw [if_neg (by omega)]

def ChanceAt (m : RivV) (down : Bool) (w0 : World) (pb bm : Nat) (s : St) (W : World) (o : Bool) (e : Ending) (W' : World) : Prop :=
  ∃ r o', e = .returned (.int .i64 r) ∧ 0 ≤ r ∧ r ≤ 65536 ∧ (o = true → o' = true) ∧ (o' = false → r = chanceS down m s) ∧ BY W.heap.size pb bm W W' ∧ Plays m down w0 pb bm o' W'
end Go.Proofs.Ytbppjebpnpgenaa

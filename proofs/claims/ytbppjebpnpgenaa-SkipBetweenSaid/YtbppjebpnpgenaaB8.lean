/- The hopes as the program reckons them: as plain functions, and their bounds. -/
import Derived.Test.YtbppjebpnpgenaaB7
namespace Go.Proofs.Ytbppjebpnpgenaa
open Go Go.RowKit

def sumProd (cs vs : List Int) : Int := ((cs.zip vs).map fun p => p.1 * p.2).sum

theorem dotTo_all (d : Int) (cs vs : List Int) : dotTo d cs vs cs.length = d + sumProd cs vs := by
  unfold dotTo sumProd
  rw [List.take_of_length_le (by simp; omega)]

theorem sumProd_between (L U : Int) : ∀ cs vs : List Int, vs.length = cs.length → (∀ c ∈ cs, 0 ≤ c) → (∀ v ∈ vs, L ≤ v ∧ v ≤ U) → L * cs.sum ≤ sumProd cs vs ∧ sumProd cs vs ≤ U * cs.sum
  | [], vs, _, _, _ => by simp [sumProd]
  | c :: cs, [], h, _, _ => by simp at h
  | c :: cs, v :: vs, h, hc, hv => by
    obtain ⟨h1, h2⟩ := sumProd_between L U cs vs (by simpa using h) (fun c hc' => hc c (by simp [hc'])) (fun v hv' => hv v (by simp [hv']))
    have c0 := hc c (by simp)
    obtain ⟨v1, v2⟩ := hv v (by simp)
    have e1 := Int.mul_le_mul_of_nonneg_left v1 c0
    have e2 := Int.mul_le_mul_of_nonneg_left v2 c0
    have e : sumProd (c :: cs) (v :: vs) = c * v + sumProd cs vs := by simp [sumProd]
    rw [e, List.sum_cons, Int.mul_add, Int.mul_add, Int.mul_comm L c, Int.mul_comm U c]
    omega

theorem divR_between {L U t b : Int} (how : Int) (hb : 1 ≤ b) (h1 : L * b ≤ t) (h2 : t ≤ U * b) : L ≤ divR how t b ∧ divR how t b ≤ U := by
  have a1 : L ≤ t / b := Int.le_ediv_of_mul_le (by omega) h1
  have a2 : t / b ≤ U := by
    have := Int.ediv_le_ediv (show 0 < b by omega) h2
    rwa [Int.mul_ediv_cancel _ (by omega)] at this
  have a3 : -U ≤ (-t) / b := Int.le_ediv_of_mul_le (by omega) (by rw [Int.neg_mul]; omega)
  have a4 : (-t) / b ≤ -L := by
    have := Int.ediv_le_ediv (show 0 < b by omega) (show -t ≤ (-L) * b by rw [Int.neg_mul]; omega)
    rwa [Int.mul_ediv_cancel _ (by omega)] at this
  unfold divR
  split <;> omega

theorem sum_nonneg {cs : List Int} (h : ∀ c ∈ cs, 0 ≤ c) : 0 ≤ cs.sum := by
  induction cs with
  | nil => simp
  | cons c cs ih =>
    have := h c (by simp)
    have := ih (fun c hc => h c (by simp [hc]))
    rw [List.sum_cons]; omega

theorem meanI_between {how doubt wv L U : Int} {cs vs : List Int} (hl : vs.length = cs.length) (hc : ∀ c ∈ cs, 0 ≤ c) (hd : 1 ≤ doubt) (hv : ∀ v ∈ vs, L ≤ v ∧ v ≤ U) (hw : L ≤ wv ∧ wv ≤ U) :
    L ≤ meanI how doubt wv cs vs ∧ meanI how doubt wv cs vs ≤ U := by
  have hs := sum_nonneg hc
  obtain ⟨h1, h2⟩ := sumProd_between L U cs vs hl hc hv
  have e1 := Int.mul_le_mul_of_nonneg_left hw.1 (show 0 ≤ doubt by omega)
  have e2 := Int.mul_le_mul_of_nonneg_left hw.2 (show 0 ≤ doubt by omega)
  unfold meanI
  rw [dotTo_all]
  refine divR_between how (by omega) ?_ ?_
  · rw [Int.mul_add, Int.mul_comm L doubt]; omega
  · rw [Int.mul_add, Int.mul_comm U doubt]; omega

/-- A hope between none and sure. -/
structure OkH (h : Hp) : Prop where
  l0 : 0 ≤ h.lo
  l1 : h.lo ≤ 65536
  h0 : 0 ≤ h.hi
  h1 : h.hi ≤ 65536
theorem sureH_ok (b : Bool) : OkH (sureH b) := by cases b <;> exact ⟨by decide, by decide, by decide, by decide⟩

/-- Does an end with these points go to the first team for certain? -/
def gainB (s : St) (p : Int) : Bool := (decide (0 < p) && (s.ham == 0)) || (decide (p < 0) && (s.ham == 1))
def pts (k : Nat) : Int := (k : Int) - 8
def nextH (hope : St → Hp) (s : St) (k : Nat) : Hp := if 0 < s.ends then hope (nextS s (pts k)) else sureH (gainB s (pts k))
def nextsH (hope : St → Hp) (s : St) : List Hp := (List.range 17).map (nextH hope s)
theorem nextsH_len (hope : St → Hp) (s : St) : (nextsH hope s).length = 17 := by simp [nextsH]
theorem nextsH_get (hope : St → Hp) (s : St) (k : Nat) (hk : k < 17) : (nextsH hope s)[k]?.getD default = nextH hope s k := by simp [nextsH, hk]

def countsH (s : St) (cs : List Int) : List Int := if s.ends = 0 then cs.set 8 0 else cs
def styleH (m : RivV) (s : St) (nx : List Hp) (cs : List Int) : Hp := meanH m.doubt (countsH s cs) nx
def tabOf (m : RivV) (ham : Int) : TabV := if ham = 0 then m.s0 else m.s1
def stylesH (m : RivV) (s : St) (nx : List Hp) : List Hp := (tabOf m s.ham).data.map (styleH m s nx)
def hopeN (m : RivV) : Nat → St → Hp
  | 0, s => if s.lead = 0 then chosenH s.ham (stylesH m s (nextsH (fun _ => default) s)) else sureH (decide (0 < s.lead))
  | n + 1, s => chosenH s.ham (stylesH m s (nextsH (hopeN m n) s))
/-- The hope of a state. -/
def hopeS (m : RivV) (s : St) : Hp := hopeN m s.ends.toNat s

theorem nextsH_congr {f g : St → Hp} {s : St} (h : 0 < s.ends → ∀ p, f (nextS s p) = g (nextS s p)) : nextsH f s = nextsH g s := by
  unfold nextsH
  refine List.map_congr_left fun k _ => ?_
  unfold nextH
  split
  · exact h (by assumption) _
  · rfl

theorem hopeS_next (m : RivV) (s : St) (h : 0 ≤ s.ends) (hs : ¬ (s.ends = 0 ∧ s.lead ≠ 0)) : hopeS m s = chosenH s.ham (stylesH m s (nextsH (hopeS m) s)) := by
  unfold hopeS
  cases hn : s.ends.toNat with
  | zero =>
    have : s.lead = 0 := by by_cases hl : s.lead = 0; exact hl; exact absurd ⟨by omega, hl⟩ hs
    rw [hopeN, if_pos this]
    congr 2
    exact nextsH_congr (fun h => by omega)
  | succ n =>
    rw [hopeN]
    congr 2
    refine nextsH_congr (fun _ p => ?_)
    have : (nextS s p).ends.toNat = n := by simp only [nextS]; omega
    rw [this]
theorem hopeS_end (m : RivV) (s : St) (h : s.ends = 0) (hl : s.lead ≠ 0) : hopeS m s = sureH (decide (0 < s.lead)) := by
  unfold hopeS
  rw [h, Int.toNat_zero, hopeN, if_neg hl]

/-- What validity says of rivals' counts. -/
structure GoodM (m : RivV) : Prop where
  d1 : 1 ≤ m.doubt
  d2 : m.doubt ≤ 1000
  rows : ∀ h, 1 ≤ (tabOf m h).rows.length ∧ (tabOf m h).rows.length ≤ 8
  each : ∀ h, ∀ cs ∈ (tabOf m h).data, cs.length = 17 ∧ ∀ x ∈ cs, 0 ≤ x ∧ x ≤ 1000000

theorem fullB_spec {xs : List Int} (h : fullB xs 17 = true) : xs.length = 17 ∧ ∀ x ∈ xs, 0 ≤ x ∧ x ≤ 1000000 := by
  unfold fullB countedB inB at h
  simp only [Bool.and_eq_true, beq_iff_eq, decide_eq_true_eq, Bool.not_eq_true', List.any_eq_false, Bool.not_eq_true', Bool.and_eq_false_imp] at h
  refine ⟨by omega, fun x hx => ?_⟩
  have := h.1.2 x hx
  simp at this
  exact this
theorem tabB_spec {t : TabV} (h : tabB t = true) : (1 ≤ t.rows.length ∧ t.rows.length ≤ 8) ∧ ∀ cs ∈ t.data, cs.length = 17 ∧ ∀ x ∈ cs, 0 ≤ x ∧ x ≤ 1000000 := by
  unfold tabB rowsOdd inB at h
  simp only [Bool.and_eq_true, decide_eq_true_eq, Bool.not_eq_true', List.any_eq_false, Bool.not_eq_true', Bool.not_eq_false] at h
  exact ⟨by omega, fun cs hcs => fullB_spec (by have := h.2 cs hcs; simpa using this)⟩
theorem goodM {m : RivV} (h : rivB m = true) : GoodM m := by
  unfold rivB at h
  simp only [Bool.and_eq_true] at h
  obtain ⟨⟨h0, h1⟩, hd⟩ := h
  have d := inB_true hd
  have t0 := tabB_spec h0
  have t1 := tabB_spec h1
  exact ⟨d.1, d.2, fun x => by unfold tabOf; split; exact t0.1; exact t1.1, fun x => by unfold tabOf; split; exact t0.2; exact t1.2⟩

theorem countsH_ok {s : St} {cs : List Int} (h : cs.length = 17 ∧ ∀ x ∈ cs, 0 ≤ x ∧ x ≤ 1000000) : (countsH s cs).length = 17 ∧ ∀ x ∈ countsH s cs, 0 ≤ x ∧ x ≤ 1000000 := by
  unfold countsH
  split
  · refine ⟨by simp [h.1], fun x hx => ?_⟩
    rcases List.mem_or_eq_of_mem_set hx with hx | rfl
    · exact h.2 x hx
    · omega
  · exact h

theorem meanOk_of {m : RivV} (hm : GoodM m) {s : St} {cs vs : List Int} (h : cs.length = 17 ∧ ∀ x ∈ cs, 0 ≤ x ∧ x ≤ 1000000) (hl : vs.length = 17) (hv : ∀ x ∈ vs, 0 ≤ x ∧ x ≤ 65536) : MeanOk (countsH s cs) vs m.doubt := by
  obtain ⟨h1, h2⟩ := countsH_ok (s := s) h
  exact ⟨by omega, by omega, by omega, h2, fun x hx => by have := hv x hx; omega, hm.d1, hm.d2⟩

theorem styleH_ok {m : RivV} (hm : GoodM m) {s : St} {nx : List Hp} {cs : List Int} (h : cs.length = 17 ∧ ∀ x ∈ cs, 0 ≤ x ∧ x ≤ 1000000) (hl : nx.length = 17) (hn : ∀ x ∈ nx, OkH x) : OkH (styleH m s nx cs) := by
  obtain ⟨h1, h2⟩ := countsH_ok (s := s) h
  have v1 : ∀ v ∈ nx.map (·.lo), 0 ≤ v ∧ v ≤ 65536 := fun v hv => by
    obtain ⟨x, hx, rfl⟩ := List.mem_map.1 hv; have := hn x hx; exact ⟨this.l0, this.l1⟩
  have v2 : ∀ v ∈ nx.map (·.hi), 0 ≤ v ∧ v ≤ 65536 := fun v hv => by
    obtain ⟨x, hx, rfl⟩ := List.mem_map.1 hv; have := hn x hx; exact ⟨this.h0, this.h1⟩
  have a1 := meanI_between (how := 1) (by simp [h1, hl]) (fun c hc => (h2 c hc).1) hm.d1 v1 (least_bd v1 (by simp [hl]))
  have a2 := meanI_between (how := 2) (by simp [h1, hl]) (fun c hc => (h2 c hc).1) hm.d1 v2 (most_bd v2 (by simp [hl]))
  exact ⟨a1.1, a1.2, a2.1, a2.2⟩

theorem pickH_ok {ham : Int} {x y : Hp} (hx : OkH x) (hy : OkH y) : OkH (pickH ham x y) := by
  obtain ⟨a1, a2, a3, a4⟩ := hx
  obtain ⟨b1, b2, b3, b4⟩ := hy
  unfold pickH pickI
  split <;> exact ⟨by dsimp only; omega, by dsimp only; omega, by dsimp only; omega, by dsimp only; omega⟩
theorem foldl_pick_ok {ham : Int} : ∀ (hs : List Hp) (x : Hp), OkH x → (∀ h ∈ hs, OkH h) → OkH (hs.foldl (pickH ham) x)
  | [], x, hx, _ => hx
  | h :: hs, x, hx, hh => foldl_pick_ok hs _ (pickH_ok hx (hh h (by simp))) (fun h' hh' => hh h' (by simp [hh']))
theorem chosenH_ok {ham : Int} {hs : List Hp} (h0 : 0 < hs.length) (hh : ∀ h ∈ hs, OkH h) : OkH (chosenH ham hs) := by
  cases hs with
  | nil => simp at h0
  | cons h hs =>
    unfold chosenH chosenTo
    exact foldl_pick_ok _ _ (hh h (by simp)) (fun x hx => hh x (by simp at hx; simp [hx]))

theorem hopeN_ok {m : RivV} (hm : GoodM m) : ∀ (n : Nat) (s : St), (s.ends.toNat = n) → OkH (hopeN m n s)
  | 0, s, hs => by
    rw [hopeN]
    split
    · refine chosenH_ok (by have := hm.rows s.ham; simp [stylesH, TabV.data]; omega) (fun h hh => ?_)
      obtain ⟨cs, hcs, rfl⟩ := List.mem_map.1 hh
      refine styleH_ok hm (hm.each _ cs hcs) (nextsH_len _ _) (fun x hx => ?_)
      obtain ⟨k, _, rfl⟩ := List.mem_map.1 hx
      unfold nextH
      rw [if_neg (by omega)]
      exact sureH_ok _
    · exact sureH_ok _
  | n + 1, s, hs => by
    rw [hopeN]
    refine chosenH_ok (by have := hm.rows s.ham; simp [stylesH, TabV.data]; omega) (fun h hh => ?_)
    obtain ⟨cs, hcs, rfl⟩ := List.mem_map.1 hh
    refine styleH_ok hm (hm.each _ cs hcs) (nextsH_len _ _) (fun x hx => ?_)
    obtain ⟨k, _, rfl⟩ := List.mem_map.1 hx
    unfold nextH
    split
    · exact hopeN_ok hm n _ (by simp only [nextS]; omega)
    · exact sureH_ok _
theorem hopeS_ok {m : RivV} (hm : GoodM m) (s : St) : OkH (hopeS m s) := hopeN_ok hm _ s rfl
theorem nextsH_ok {m : RivV} (hm : GoodM m) (s : St) : ∀ x ∈ nextsH (hopeS m) s, OkH x := fun x hx => by
  obtain ⟨k, _, rfl⟩ := List.mem_map.1 hx
  unfold nextH
  split
  · exact hopeS_ok hm _
  · exact sureH_ok _
end Go.Proofs.Ytbppjebpnpgenaa

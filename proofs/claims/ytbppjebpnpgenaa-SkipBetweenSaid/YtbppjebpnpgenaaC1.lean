/- Chances of rivals whose ends are all known, as plain functions; they lie between the hopes. -/
import Derived.Test.YtbppjebpnpgenaaB15
namespace Go.Proofs.Ytbppjebpnpgenaa
open Go Go.RowKit

/-- What is behind an outcome, if chances are known. -/
def valC (ch : St → Int) (s : St) (k : Nat) : Int := if 0 < s.ends then ch (nextS s (pts k)) else if gainB s (pts k) then 65536 else 0
def valsC (ch : St → Int) (s : St) : List Int := (List.range 17).map (valC ch s)
theorem valsC_len (ch : St → Int) (s : St) : (valsC ch s).length = 17 := by simp [valsC]
theorem valsC_get (ch : St → Int) (s : St) (k : Nat) (hk : k < 17) : (valsC ch s)[k]?.getD 0 = valC ch s k := by simp [valsC, hk]
def howC (down : Bool) : Int := if down then 1 else 2
def styleC (down : Bool) (ch : St → Int) (s : St) (cs : List Int) : Int := divR (howC down) (sumProd (countsH s cs) (valsC ch s)) (countsH s cs).sum
def stylesC (down : Bool) (ch : St → Int) (m : RivV) (s : St) : List Int := (tabOf m s.ham).data.map (styleC down ch s)
/-- The best one of the first k + 1 values for a team. -/
def bestTo (ham : Int) (vs : List Int) (k : Nat) : Int := (vs.tail.take k).foldl (pickI ham) (vs.headD 0)
def bestC (ham : Int) (vs : List Int) : Int := bestTo ham vs (vs.length - 1)
def chanceN (down : Bool) (m : RivV) : Nat → St → Int
  | 0, s => if s.lead = 0 then bestC s.ham (stylesC down (fun _ => 0) m s) else if 0 < s.lead then 65536 else 0
  | n + 1, s => bestC s.ham (stylesC down (chanceN down m n) m s)
/-- The chance in a state. -/
def chanceS (down : Bool) (m : RivV) (s : St) : Int := chanceN down m s.ends.toNat s

theorem bestTo_zero (ham : Int) (vs : List Int) : bestTo ham vs 0 = vs[0]?.getD 0 := by cases vs <;> simp [bestTo]
theorem bestTo_succ (ham : Int) (vs : List Int) (k : Nat) (hk : k + 1 < vs.length) : bestTo ham vs (k + 1) = pickI ham (bestTo ham vs k) (vs[k + 1]?.getD 0) := by
  have h : k < vs.tail.length := by simp; omega
  unfold bestTo
  rw [List.take_succ_eq_append_getElem h, List.foldl_append]
  simp [hk]

theorem valsC_congr {f g : St → Int} {s : St} (h : 0 < s.ends → ∀ p, f (nextS s p) = g (nextS s p)) : valsC f s = valsC g s := by
  unfold valsC
  refine List.map_congr_left fun k _ => ?_
  unfold valC
  split
  · exact h (by assumption) _
  · rfl
theorem stylesC_congr {down : Bool} {m : RivV} {f g : St → Int} {s : St} (h : 0 < s.ends → ∀ p, f (nextS s p) = g (nextS s p)) : stylesC down f m s = stylesC down g m s := by
  unfold stylesC styleC
  rw [valsC_congr h]
theorem chanceS_next (down : Bool) (m : RivV) (s : St) (h : 0 ≤ s.ends) (hs : ¬ (s.ends = 0 ∧ s.lead ≠ 0)) : chanceS down m s = bestC s.ham (stylesC down (chanceS down m) m s) := by
  unfold chanceS
  cases hn : s.ends.toNat with
  | zero =>
    have : s.lead = 0 := by by_cases hl : s.lead = 0; exact hl; exact absurd ⟨by omega, hl⟩ hs
    rw [chanceN, if_pos this, stylesC_congr (fun h => by omega)]
  | succ n =>
    rw [chanceN]
    congr 1
    refine stylesC_congr (fun _ p => ?_)
    have : (nextS s p).ends.toNat = n := by simp only [nextS]; omega
    rw [this]
theorem chanceS_end (down : Bool) (m : RivV) (s : St) (h : s.ends = 0) (hl : s.lead ≠ 0) : chanceS down m s = if 0 < s.lead then 65536 else 0 := by
  unfold chanceS
  rw [h, Int.toNat_zero, chanceN, if_neg hl]

/-- Two lists whose members are so, one by one. -/
inductive F2 {α β : Type} (R : α → β → Prop) : List α → List β → Prop
  | nil : F2 R [] []
  | cons {a b la lb} : R a b → F2 R la lb → F2 R (a :: la) (b :: lb)
theorem F2.append {α β : Type} {R : α → β → Prop} {la la' : List α} {lb lb' : List β} (h : F2 R la lb) (h' : F2 R la' lb') : F2 R (la ++ la') (lb ++ lb') := by
  induction h with
  | nil => exact h'
  | cons h1 _ ih => exact .cons h1 ih

/-- Counts to which so many ends more were added. -/
def MoreR (d : Int) (cs cs' : List Int) : Prop := ∃ xs : List Int, xs.length = 17 ∧ (∀ x ∈ xs, 0 ≤ x) ∧ xs.sum = d ∧ cs' = List.zipWith (· + ·) cs xs
/-- Rivals whose doubt is known. -/
def MoreM (m m' : RivV) : Prop := ∀ h, F2 (MoreR m.doubt) (tabOf m h).data (tabOf m' h).data

theorem sumProd_cons (c v : Int) (cs vs : List Int) : sumProd (c :: cs) (v :: vs) = c * v + sumProd cs vs := by simp [sumProd]
theorem sumProd_nil (vs : List Int) : sumProd [] vs = 0 := by simp [sumProd]

theorem sumProd_add : ∀ (cs xs vs : List Int), cs.length = vs.length → xs.length = vs.length → sumProd (List.zipWith (· + ·) cs xs) vs = sumProd cs vs + sumProd xs vs
  | [], [], vs, _, _ => by simp [sumProd]
  | c :: cs, x :: xs, v :: vs, h1, h2 => by
    have ih := sumProd_add cs xs vs (by simpa using h1) (by simpa using h2)
    rw [List.zipWith_cons_cons, sumProd_cons, sumProd_cons, sumProd_cons, ih, Int.add_mul]
    omega
  | [], _ :: _, [], _, h => by simp at h
  | [], _ :: _, _ :: _, h, _ => by simp at h
  | _ :: _, [], [], h, _ => by simp at h
  | _ :: _, [], _ :: _, _, h => by simp at h
  | _ :: _, _ :: _, [], h, _ => by simp at h
theorem sum_add : ∀ (cs xs : List Int), cs.length = xs.length → (List.zipWith (· + ·) cs xs).sum = cs.sum + xs.sum
  | [], [], _ => by simp
  | c :: cs, x :: xs, h => by
    have ih := sum_add cs xs (by simpa using h)
    rw [List.zipWith_cons_cons, List.sum_cons, List.sum_cons, List.sum_cons, ih]; omega
  | [], _ :: _, h => by simp at h
  | _ :: _, [], h => by simp at h
theorem sumProd_mono : ∀ (cs us vs : List Int), (∀ c ∈ cs, 0 ≤ c) → F2 (· ≤ ·) us vs → sumProd cs us ≤ sumProd cs vs
  | [], _, _, _, _ => by simp [sumProd]
  | _ :: _, [], [], _, _ => by simp [sumProd]
  | c :: cs, u :: us, v :: vs, hc, h => by
    cases h with
    | cons h1 h2 =>
      have ih := sumProd_mono cs us vs (fun c hc' => hc c (by simp [hc'])) h2
      have := Int.mul_le_mul_of_nonneg_left h1 (hc c (by simp))
      rw [sumProd_cons, sumProd_cons]; omega

theorem set_zipWith : ∀ (cs xs : List Int) (i : Nat), (List.zipWith (· + ·) cs xs).set i 0 = List.zipWith (· + ·) (cs.set i 0) (xs.set i 0)
  | [], _, i => by simp
  | _ :: _, [], i => by simp
  | c :: cs, x :: xs, 0 => by simp
  | c :: cs, x :: xs, i + 1 => by
    have := set_zipWith cs xs i
    simp [this]

theorem sum_set_le : ∀ (xs : List Int) (i : Nat), (∀ x ∈ xs, 0 ≤ x) → (xs.set i 0).sum ≤ xs.sum
  | [], i, _ => by simp
  | x :: xs, 0, h => by have := h x (by simp); rw [List.set_cons_zero, List.sum_cons, List.sum_cons]; omega
  | x :: xs, i + 1, h => by
    have := sum_set_le xs i (fun y hy => h y (by simp [hy]))
    rw [List.set_cons_succ, List.sum_cons, List.sum_cons]; omega

theorem divR_low (t b : Int) : divR 1 t b = t / b := by simp [divR]
theorem divR_high (t b : Int) : divR 2 t b = -((-t) / b) := by simp [divR]

/-- A mean with the least value for the doubt is not more than one of all the ends. -/
theorem mean_low {N S d x w T' : Int} (hd : 1 ≤ N + d) (hx : x ≤ d) (hw : w ≤ divR 1 (S + d * w) (N + d)) (hT : S + x * w ≤ T') (hN : 1 ≤ N + x) :
    divR 1 (S + d * w) (N + d) ≤ divR 1 T' (N + x) := by
  rw [divR_low] at *
  rw [divR_low]
  have h1 := Int.ediv_mul_le (S + d * w) (show N + d ≠ 0 by omega)
  generalize (S + d * w) / (N + d) = p at *
  refine Int.le_ediv_of_mul_le (by omega) ?_
  have h2 := Int.mul_le_mul_of_nonneg_left hw (show 0 ≤ d - x by omega)
  rw [Int.mul_add] at h1
  rw [Int.sub_mul, Int.sub_mul] at h2
  rw [Int.mul_add]
  have e1 : p * d = d * p := Int.mul_comm _ _
  have e2 : p * x = x * p := Int.mul_comm _ _
  omega
theorem mean_high {N S d x w T' : Int} (hd : 1 ≤ N + d) (hx : x ≤ d) (hw : divR 2 (S + d * w) (N + d) ≤ w) (hT : T' ≤ S + x * w) (hN : 1 ≤ N + x) :
    divR 2 T' (N + x) ≤ divR 2 (S + d * w) (N + d) := by
  rw [divR_high] at *
  rw [divR_high]
  have h1 := Int.ediv_mul_le (-(S + d * w)) (show N + d ≠ 0 by omega)
  generalize (-(S + d * w)) / (N + d) = p at *
  have : p ≤ (-T') / (N + x) := by
    refine Int.le_ediv_of_mul_le (by omega) ?_
    have h2 := Int.mul_le_mul_of_nonneg_left hw (show 0 ≤ d - x by omega)
    rw [Int.mul_add] at h1
    rw [Int.sub_mul, Int.sub_mul, Int.mul_neg, Int.mul_neg] at h2
    rw [Int.mul_add]
    have e1 : p * d = d * p := Int.mul_comm _ _
    have e2 : p * x = x * p := Int.mul_comm _ _
    omega
  omega
theorem divR_mono (how : Int) {t t' b : Int} (hb : 0 ≤ b) (h : t ≤ t') : divR how t b ≤ divR how t' b := by
  by_cases h0 : b = 0
  · subst h0; simp [divR]
  have h1 := Int.ediv_le_ediv (show 0 < b by omega) h
  have h2 := Int.ediv_le_ediv (show 0 < b by omega) (show -t' ≤ -t by omega)
  unfold divR
  split <;> omega
theorem divR_le (t b : Int) (hb : 0 ≤ b) : divR 1 t b ≤ divR 2 t b := by
  rw [divR_low, divR_high]
  by_cases h0 : b = 0
  · subst h0; simp
  have h1 := Int.ediv_mul_le t (show b ≠ 0 by omega)
  have h2 := Int.ediv_mul_le (-t) (show b ≠ 0 by omega)
  generalize t / b = p at *
  generalize (-t) / b = q at *
  have : (p + q) * b ≤ 0 := by rw [Int.add_mul]; omega
  by_cases hpq : p + q ≤ 0
  · omega
  · have := Int.mul_pos (show 0 < p + q by omega) (show 0 < b by omega)
    omega

theorem leastTo_le (xs : List Int) : ∀ (k i : Nat), k ≤ xs.length → i < k → leastTo xs k ≤ xs[i]?.getD 0
  | 0, i, _, h => by omega
  | k + 1, i, hk, hi => by
    rw [leastTo_succ xs k (by omega)]
    by_cases h : i = k
    · subst h; omega
    · have := leastTo_le xs k i (by omega) (by omega)
      omega
theorem least_le (xs : List Int) (i : Nat) (h : i < xs.length) : least xs ≤ xs[i]?.getD 0 := leastTo_le xs _ _ (Nat.le_refl _) h

/-- A chance is between a hope's bounds. -/
structure Btw (h : Hp) (a b : Int) : Prop where
  lo : h.lo ≤ a
  ab : a ≤ b
  hi : b ≤ h.hi

theorem range_forall2 {α : Type} (f g : Nat → α) (R : α → α → Prop) (n : Nat) (h : ∀ k, k < n → R (f k) (g k)) : F2 R ((List.range n).map f) ((List.range n).map g) := by
  induction n with
  | zero => exact .nil
  | succ n ih =>
    rw [List.range_succ, List.map_append, List.map_append]
    exact F2.append (ih (fun k hk => h k (by omega))) (.cons (h n (by omega)) .nil)

theorem countsH_more {s : St} {cs xs : List Int} : countsH s (List.zipWith (· + ·) cs xs) = List.zipWith (· + ·) (countsH s cs) (countsH s xs) := by
  unfold countsH
  split
  · exact set_zipWith cs xs 8
  · rfl
theorem countsH_sum {s : St} {xs : List Int} (h : ∀ x ∈ xs, 0 ≤ x) : (countsH s xs).sum ≤ xs.sum := by
  unfold countsH
  split
  · exact sum_set_le xs 8 h
  · exact Int.le_refl _
theorem countsH_nonneg {s : St} {xs : List Int} (h : ∀ x ∈ xs, 0 ≤ x) : ∀ x ∈ countsH s xs, 0 ≤ x := by
  unfold countsH
  split
  · intro x hx
    rcases List.mem_or_eq_of_mem_set hx with hx | rfl
    · exact h x hx
    · omega
  · exact h
theorem countsH_len (s : St) (xs : List Int) : (countsH s xs).length = xs.length := by unfold countsH; split <;> simp

theorem forall2_get {us vs : List Int} (h : F2 (· ≤ ·) us vs) : ∀ v ∈ vs, ∃ u ∈ us, u ≤ v := by
  intro v hv
  induction h with
  | nil => cases hv
  | cons h1 _ ih =>
    rcases List.mem_cons.1 hv with rfl | hv
    · exact ⟨_, by simp, h1⟩
    · obtain ⟨u, hu, h⟩ := ih hv; exact ⟨u, by simp [hu], h⟩
theorem forall2_get' {us vs : List Int} (h : F2 (· ≤ ·) us vs) : ∀ u ∈ us, ∃ v ∈ vs, u ≤ v := by
  intro v hv
  induction h with
  | nil => cases hv
  | cons h1 _ ih =>
    rcases List.mem_cons.1 hv with rfl | hv
    · exact ⟨_, by simp, h1⟩
    · obtain ⟨u, hu, h⟩ := ih hv; exact ⟨u, by simp [hu], h⟩
theorem least_mem {xs : List Int} {x : Int} (h : x ∈ xs) : least xs ≤ x := by
  obtain ⟨i, hi, rfl⟩ := List.mem_iff_getElem.1 h
  have := least_le xs i hi
  simpa [hi] using this
theorem mostTo_le (xs : List Int) : ∀ (k i : Nat), k ≤ xs.length → i < k → xs[i]?.getD 0 ≤ mostTo xs k
  | 0, i, _, h => by omega
  | k + 1, i, hk, hi => by
    rw [mostTo_succ xs k (by omega)]
    by_cases h : i = k
    · subst h; omega
    · have := mostTo_le xs k i (by omega) (by omega)
      omega
theorem most_mem {xs : List Int} {x : Int} (h : x ∈ xs) : x ≤ most xs := by
  obtain ⟨i, hi, rfl⟩ := List.mem_iff_getElem.1 h
  have := mostTo_le xs _ i (Nat.le_refl _) hi
  unfold most
  simpa [hi] using this

theorem sum_zero_all : ∀ {xs : List Int}, (∀ x ∈ xs, 0 ≤ x) → xs.sum = 0 → ∀ x ∈ xs, x = 0
  | [], _, _ => by simp
  | x :: xs, h, hs => by
    have h0 := h x (by simp)
    have h1 := sum_nonneg (fun y hy => h y (List.mem_cons_of_mem _ hy))
    rw [List.sum_cons] at hs
    intro y hy
    rcases List.mem_cons.1 hy with rfl | hy
    · omega
    · exact sum_zero_all (fun y hy => h y (List.mem_cons_of_mem _ hy)) (by omega) y hy

theorem list_low {c x lows vals : List Int} {d w : Int} (_h1 : c.length = vals.length) (h2 : x.length = vals.length) (c0 : ∀ y ∈ c, 0 ≤ y) (x0 : ∀ y ∈ x, 0 ≤ y) (_hd : 1 ≤ d) (hx : x.sum ≤ d)
    (hlow : F2 (· ≤ ·) lows vals) (hw : ∀ v ∈ lows, w ≤ v) (hw2 : w ≤ meanI 1 d w c lows) (hN : 1 ≤ c.sum + x.sum) : meanI 1 d w c lows ≤ divR 1 (sumProd c vals + sumProd x vals) (c.sum + x.sum) := by
  have m1 := sumProd_mono c lows vals c0 hlow
  have b := (sumProd_between w (most vals) x vals h2.symm x0 (fun v hv => ⟨by obtain ⟨u, hu, h⟩ := forall2_get hlow v hv; exact Int.le_trans (hw u hu) h, most_mem hv⟩)).1
  have cs := sum_nonneg c0
  unfold meanI at hw2 ⊢
  rw [dotTo_all, Int.add_comm (d * w)] at hw2 ⊢
  rw [Int.mul_comm] at b
  generalize sumProd c lows = S at *
  generalize sumProd c vals = S' at *
  generalize sumProd x vals = X at *
  generalize c.sum = N at *
  generalize x.sum = k at *
  exact mean_low (by omega) hx hw2 (by omega) hN
theorem list_high {c x vals his : List Int} {d w : Int} (_h1 : c.length = vals.length) (h2 : x.length = vals.length) (c0 : ∀ y ∈ c, 0 ≤ y) (x0 : ∀ y ∈ x, 0 ≤ y) (_hd : 1 ≤ d) (hx : x.sum ≤ d)
    (hhi : F2 (· ≤ ·) vals his) (hw : ∀ v ∈ his, v ≤ w) (hw2 : meanI 2 d w c his ≤ w) (hN : 1 ≤ c.sum + x.sum) : divR 2 (sumProd c vals + sumProd x vals) (c.sum + x.sum) ≤ meanI 2 d w c his := by
  have m1 := sumProd_mono c vals his c0 hhi
  have b := (sumProd_between (least vals) w x vals h2.symm x0 (fun v hv => ⟨least_mem hv, by obtain ⟨u, hu, h⟩ := forall2_get' hhi v hv; exact Int.le_trans h (hw u hu)⟩)).2
  have cs := sum_nonneg c0
  unfold meanI at hw2 ⊢
  rw [dotTo_all, Int.add_comm (d * w)] at hw2 ⊢
  rw [Int.mul_comm] at b
  generalize sumProd c his = S at *
  generalize sumProd c vals = S' at *
  generalize sumProd x vals = X at *
  generalize c.sum = N at *
  generalize x.sum = k at *
  exact mean_high (T' := S' + X) (x := k) (w := w) (by omega) hx hw2 (by omega) hN

theorem nexts_all {hop : St → Hp} {s : St} {p : Hp → Prop} (h : ∀ k, k < 17 → p (nextH hop s k)) : ∀ x ∈ nextsH hop s, p x := fun x hx => by
  unfold nextsH at hx
  obtain ⟨k, hk, rfl⟩ := List.mem_map.1 hx
  exact h k (by simpa using hk)

theorem more_sums {s : St} {cs xs : List Int} (hl : xs.length = cs.length) (vs : List Int) (hv : vs.length = cs.length) :
    sumProd (countsH s (List.zipWith (· + ·) cs xs)) vs = sumProd (countsH s cs) vs + sumProd (countsH s xs) vs ∧ (countsH s (List.zipWith (· + ·) cs xs)).sum = (countsH s cs).sum + (countsH s xs).sum := by
  rw [countsH_more]
  exact ⟨sumProd_add _ _ _ (by rw [countsH_len, hv]) (by rw [countsH_len, hl, hv]), sum_add _ _ (by rw [countsH_len, countsH_len, hl])⟩

theorem more_nonneg {s : St} {cs xs : List Int} (hc : ∀ x ∈ cs, 0 ≤ x) (hx : ∀ x ∈ xs, 0 ≤ x) : ∀ x ∈ countsH s (List.zipWith (· + ·) cs xs), 0 ≤ x := by
  refine countsH_nonneg fun x h => ?_
  obtain ⟨i, hi, rfl⟩ := List.mem_iff_getElem.1 h
  simp only [List.getElem_zipWith]
  have g1 := hc _ (List.getElem_mem (l := cs) (n := i) (by simp at hi; omega))
  have g2 := hx _ (List.getElem_mem (l := xs) (n := i) (by simp at hi; omega))
  exact Int.add_nonneg g1 g2

theorem lows_f2 {hop : St → Hp} {s : St} {a : St → Int} (h : ∀ k, k < 17 → (nextH hop s k).lo ≤ valC a s k) : F2 (· ≤ ·) ((nextsH hop s).map (·.lo)) (valsC a s) := by
  unfold nextsH valsC
  rw [List.map_map]
  exact range_forall2 ((fun h : Hp => h.lo) ∘ nextH hop s) (valC a s) (· ≤ ·) 17 h
theorem his_f2 {hop : St → Hp} {s : St} {b : St → Int} (h : ∀ k, k < 17 → valC b s k ≤ (nextH hop s k).hi) : F2 (· ≤ ·) (valsC b s) ((nextsH hop s).map (·.hi)) := by
  unfold nextsH valsC
  rw [List.map_map]
  exact range_forall2 (valC b s) ((fun h : Hp => h.hi) ∘ nextH hop s) (· ≤ ·) 17 h
theorem vals_f2 {s : St} {a b : St → Int} (h : ∀ k, k < 17 → valC a s k ≤ valC b s k) : F2 (· ≤ ·) (valsC a s) (valsC b s) := by
  unfold valsC
  exact range_forall2 (valC a s) (valC b s) (· ≤ ·) 17 h

theorem style_btw {m : RivV} (hm : GoodM m) {s : St} (he : 0 ≤ s.ends) {cs cs' : List Int} (hc : cs.length = 17 ∧ ∀ x ∈ cs, 0 ≤ x ∧ x ≤ 1000000) (hmore : MoreR m.doubt cs cs') {hop : St → Hp} {a b : St → Int}
    (hv : ∀ k, k < 17 → Btw (nextH hop s k) (valC a s k) (valC b s k)) (hok : ∀ k, k < 17 → OkH (nextH hop s k)) : Btw (styleH m s (nextsH hop s) cs) (styleC true a s cs') (styleC false b s cs') := by
  obtain ⟨xs, hxl, hx0, hxs, rfl⟩ := hmore
  have c1 := countsH_len s cs
  have c0 : ∀ x ∈ countsH s cs, 0 ≤ x := countsH_nonneg fun x hx => (hc.2 x hx).1
  have x1 := countsH_len s xs
  have x2 := countsH_nonneg (s := s) hx0
  have x3 := countsH_sum (s := s) hx0
  have csum := sum_nonneg c0
  have xsum := sum_nonneg x2
  have d1 := hm.d1
  have nl := nextsH_len hop s
  have o1 := nexts_all (p := OkH) hok
  have hlow : F2 (· ≤ ·) ((nextsH hop s).map (·.lo)) (valsC a s) := lows_f2 (fun k hk => (hv k hk).lo)
  have hhigh : F2 (· ≤ ·) (valsC b s) ((nextsH hop s).map (·.hi)) := his_f2 (fun k hk => (hv k hk).hi)
  have hab : F2 (· ≤ ·) (valsC a s) (valsC b s) := vals_f2 (fun k hk => (hv k hk).ab)
  have l1 : ∀ v ∈ (nextsH hop s).map (·.lo), 0 ≤ v ∧ v ≤ 65536 := fun v hv => by obtain ⟨h, hh, rfl⟩ := List.mem_map.1 hv; exact ⟨(o1 h hh).l0, (o1 h hh).l1⟩
  have l2 : ∀ v ∈ (nextsH hop s).map (·.hi), 0 ≤ v ∧ v ≤ 65536 := fun v hv => by obtain ⟨h, hh, rfl⟩ := List.mem_map.1 hv; exact ⟨(o1 h hh).h0, (o1 h hh).h1⟩
  have n1 : ((nextsH hop s).map (·.lo)).length = 17 := by rw [List.length_map, nl]
  have n2 : ((nextsH hop s).map (·.hi)).length = 17 := by rw [List.length_map, nl]
  have w1 := least_bd l1 (by omega)
  have w2 := most_bd l2 (by omega)
  have a1 : least ((nextsH hop s).map (·.lo)) ≤ meanI 1 m.doubt (least ((nextsH hop s).map (·.lo))) (countsH s cs) ((nextsH hop s).map (·.lo)) ∧ _ :=
    meanI_between (U := 65536) (by omega) c0 d1 (fun v hv => ⟨least_mem hv, (l1 v hv).2⟩) ⟨Int.le_refl _, w1.2⟩
  have a2 : (0 : Int) ≤ meanI 2 m.doubt (most ((nextsH hop s).map (·.hi))) (countsH s cs) ((nextsH hop s).map (·.hi)) ∧ _ ≤ most ((nextsH hop s).map (·.hi)) :=
    meanI_between (L := 0) (by omega) c0 d1 (fun v hv => ⟨(l2 v hv).1, most_mem hv⟩) ⟨w2.1, Int.le_refl _⟩
  obtain ⟨e1, e3⟩ := more_sums (s := s) (cs := cs) (xs := xs) (by rw [hxl, hc.1]) (valsC a s) (by rw [valsC_len, hc.1])
  obtain ⟨e2, _⟩ := more_sums (s := s) (cs := cs) (xs := xs) (by rw [hxl, hc.1]) (valsC b s) (by rw [valsC_len, hc.1])
  have m3 := sumProd_mono _ _ _ (more_nonneg (s := s) (fun x hx => (hc.2 x hx).1) hx0) hab
  have hb0 := sum_nonneg (more_nonneg (s := s) (fun x hx => (hc.2 x hx).1) hx0)
  unfold styleH meanH lowM highM styleC howC
  refine ⟨?_, ?_, ?_⟩
  · dsimp only
    rw [if_pos rfl]
    by_cases hN : 1 ≤ (countsH s cs).sum + (countsH s xs).sum
    · rw [e3, e1]
      exact list_low (by rw [c1, valsC_len, hc.1]) (by rw [x1, valsC_len, hxl]) c0 x2 d1 (by omega) hlow (fun v hv => least_mem hv) a1.1 hN
    · have z1 : (countsH s cs).sum = 0 := by omega
      have z2 : (countsH s xs).sum = 0 := by omega
      have hends : s.ends = 0 := by
        by_cases h : 0 < s.ends
        · have : countsH s xs = xs := by unfold countsH; rw [if_neg (by omega)]
          rw [this] at z2
          omega
        · omega
      have hl0 : least ((nextsH hop s).map (·.lo)) ≤ 0 := by
        have hg : gainB s (pts 8) = false := by simp [gainB, pts]
        exact least_mem (List.mem_map.2 ⟨nextH hop s 8, List.mem_map.2 ⟨8, by simp, rfl⟩, by rw [nextH, if_neg (by omega), hg]; rfl⟩)
      have zz : sumProd (countsH s cs) ((nextsH hop s).map (·.lo)) = 0 := by
        have := sumProd_between 0 65536 (countsH s cs) ((nextsH hop s).map (·.lo)) (by rw [List.length_map, nl, c1, hc.1]) c0 l1
        rw [z1] at this; omega
      unfold meanI
      rw [dotTo_all, e3, z1, z2, zz, divR_low, divR_low, Int.add_zero, Int.zero_add, Int.mul_comm, Int.mul_ediv_cancel _ (by omega)]
      simpa using hl0
  · rw [if_pos rfl, if_neg (by decide)]
    exact Int.le_trans (divR_mono 1 hb0 m3) (divR_le _ _ hb0)
  · dsimp only
    rw [if_neg (by decide)]
    by_cases hN : 1 ≤ (countsH s cs).sum + (countsH s xs).sum
    · rw [e3, e2]
      exact list_high (by rw [c1, valsC_len, hc.1]) (by rw [x1, valsC_len, hxl]) c0 x2 d1 (by omega) hhigh (fun v hv => most_mem hv) a2.2 hN
    · have z : (countsH s (List.zipWith (· + ·) cs xs)).sum = 0 := by omega
      rw [z]
      have : divR 2 (sumProd (countsH s (List.zipWith (· + ·) cs xs)) (valsC b s)) 0 = 0 := by simp [divR]
      rw [this]
      exact a2.1

theorem pick_btw {ham : Int} {h g : Hp} {a b a' b' : Int} (h1 : Btw h a b) (h2 : Btw g a' b') : Btw (pickH ham h g) (pickI ham a a') (pickI ham b b') := by
  obtain ⟨p1, p2, p3⟩ := h1
  obtain ⟨q1, q2, q3⟩ := h2
  unfold pickH pickI
  split <;> exact ⟨by dsimp only; omega, by omega, by dsimp only; omega⟩

inductive Btws : List Hp → List Int → List Int → Prop
  | nil : Btws [] [] []
  | cons {h a b hs la lb} : Btw h a b → Btws hs la lb → Btws (h :: hs) (a :: la) (b :: lb)
theorem fold_btw {ham : Int} {hs : List Hp} {la lb : List Int} (h : Btws hs la lb) : ∀ {x : Hp} {u v : Int}, Btw x u v → Btw (hs.foldl (pickH ham) x) (la.foldl (pickI ham) u) (lb.foldl (pickI ham) v) := by
  induction h with
  | nil => exact fun h => h
  | cons h1 _ ih => exact fun h => ih (pick_btw h h1)
theorem best_btw {ham : Int} {hs : List Hp} {la lb : List Int} (h : Btws hs la lb) (h0 : 0 < hs.length) : Btw (chosenH ham hs) (bestC ham la) (bestC ham lb) := by
  cases h with
  | nil => simp at h0
  | cons h1 h2 =>
    unfold chosenH chosenTo bestC bestTo
    simp only [List.tail_cons, List.length_cons, Nat.add_sub_cancel, List.headD_cons]
    rw [List.take_of_length_le (Nat.le_refl _), List.take_of_length_le (Nat.le_refl _), List.take_of_length_le (Nat.le_refl _)]
    exact fold_btw h2 h1

theorem styles_btw {m m' : RivV} (hm : GoodM m) (hmore : MoreM m m') {s : St} (he : 0 ≤ s.ends) {hop : St → Hp} {a b : St → Int}
    (hv : ∀ k, k < 17 → Btw (nextH hop s k) (valC a s k) (valC b s k)) (hok : ∀ k, k < 17 → OkH (nextH hop s k)) : Btws (stylesH m s (nextsH hop s)) (stylesC true a m' s) (stylesC false b m' s) := by
  unfold stylesH stylesC
  have h := hmore s.ham
  have he' := hm.each s.ham
  generalize (tabOf m s.ham).data = l at *
  generalize (tabOf m' s.ham).data = l' at *
  induction h with
  | nil => exact .nil
  | cons h1 _ ih => exact .cons (style_btw hm he (he' _ (by simp)) h1 hv hok) (ih (fun cs hcs => he' cs (by simp [hcs])))

theorem end_btw (l : Int) : Btw (sureH (decide (0 < l))) (if 0 < l then 65536 else 0) (if 0 < l then 65536 else 0) := by
  by_cases h : 0 < l <;> simp only [h, decide_true, decide_false, if_true, if_false, Bool.false_eq_true, sureH] <;> exact ⟨by decide, by decide, by decide⟩
theorem sure_btw (b : Bool) : Btw (sureH b) (if b = true then 65536 else 0) (if b = true then 65536 else 0) := by
  cases b <;> exact ⟨by decide, by decide, by decide⟩

/-- The chance is between the hope's bounds, whatever the ends that the doubt stands for. -/
theorem chance_btw {m m' : RivV} (hm : GoodM m) (hmore : MoreM m m') : ∀ (n : Nat) (s : St), 0 ≤ s.ends → s.ends.toNat = n → Btw (hopeN m n s) (chanceN true m' n s) (chanceN false m' n s)
  | 0, s, h0, hs => by
    unfold hopeN chanceN
    split
    · refine best_btw (styles_btw hm hmore h0 (fun k hk => ?_) (fun k hk => ?_)) (by have := hm.rows s.ham; simp [stylesH, TabV.data]; omega)
      · unfold nextH valC
        rw [if_neg (by omega), if_neg (by omega)]
        exact sure_btw _
      · unfold nextH
        rw [if_neg (by omega)]
        exact sureH_ok _
    · exact end_btw _
  | n + 1, s, h0, hs => by
    unfold hopeN chanceN
    have hp : 0 < s.ends := by omega
    refine best_btw (styles_btw hm hmore h0 (fun k hk => ?_) (fun k hk => ?_)) (by have := hm.rows s.ham; simp [stylesH, TabV.data]; omega)
    · unfold nextH valC
      rw [if_pos hp, if_pos hp, if_pos hp]
      exact chance_btw hm hmore n _ (by simp only [nextS]; omega) (by simp only [nextS]; omega)
    · unfold nextH
      rw [if_pos hp]
      exact hopeN_ok hm n _ (by simp only [nextS]; omega)
theorem chanceS_btw {m m' : RivV} (hm : GoodM m) (hmore : MoreM m m') (s : St) (h : 0 ≤ s.ends) : Btw (hopeS m s) (chanceS true m' s) (chanceS false m' s) := chance_btw hm hmore _ s h rfl
end Go.Proofs.Ytbppjebpnpgenaa

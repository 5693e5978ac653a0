/- Means of values: walked. -/
import Derived.Test.YtbppjebpnpgenaaA13
namespace Go.Proofs.Ytbppjebpnpgenaa
open Go Go.RowKit

theorem skill_share (t b how : Int) (w : World) (ht1 : -4611686018427387904 ≤ t) (ht2 : t ≤ 4611686018427387904) (hb : 1 ≤ b) (hb2 : b ≤ 2147483648) (hh : how = 1 ∨ how = 2) :
    Calls Try.prog 50 #[.int .i64 t, .int .i64 b, .int .i64 how] w fun e w' => e = .returned (.tuple #[.int .i64 (divR how t b), .int .i64 0]) ∧ Below w.heap.size w w' := by
  obtain ⟨hok, hm, s1, s2⟩ := share_math t b how hb hb2 hh
  obtain ⟨u1, u2⟩ := tdiv_bd t b hb _ ht1 ht2
  have h0 : (b == 0) = false := by simp; omega
  have hsc := fun w => fixed_Scale (t.tmod b) 1 b how w hok
  generalize divR how t b = d at *
  generalize scaleI (t.tmod b) 1 b how = s at *
  have HS := Lib.hid hsc; clear hsc
  have HM := Lib.hid hm; clear hm
  go_enter Try.func50, Try.ntmps50
  go_wp2
  go_quiet (fail)
  go_wp2_with fail
  refine (HS.out _).mono ?_
  rintro e w1 ⟨rfl, hb1⟩
  go_wp2
  go_ret2
  exact ⟨by rw [← HM.out]; rfl, (bl_drewN (Below.refl _ _) nq).trans (hb1.mono (by simp))⟩

/-- The sum of a number and of the values, each so many times, up to the k-th. -/
def dotTo (d : Int) (cs vs : List Int) (k : Nat) : Int := d + ((cs.zip vs).take k |>.map fun p => p.1 * p.2).sum
theorem dotTo_zero (d : Int) (cs vs : List Int) : dotTo d cs vs 0 = d := by simp [dotTo]
theorem dotTo_succ (d : Int) (cs vs : List Int) (k : Nat) (h1 : k < cs.length) (h2 : k < vs.length) :
    dotTo d cs vs (k + 1) = dotTo d cs vs k + cs[k]?.getD 0 * vs[k]?.getD 0 := by
  have hk : k < (cs.zip vs).length := by simp; omega
  unfold dotTo
  rw [List.take_succ_eq_append_getElem hk, List.map_append, List.sum_append]
  simp [h1, h2]
  omega

theorem getD_mem {xs : List Int} {k : Nat} (hk : k < xs.length) : xs[k]?.getD 0 ∈ xs := by simp [hk]

theorem mul_bd {x y : Int} (hx0 : 0 ≤ x) (hx : x ≤ 1000000) (h1 : -68719476736 ≤ y) (h2 : y ≤ 68719476736) : -68719476736000000 ≤ x * y ∧ x * y ≤ 68719476736000000 := by
  rcases Int.le_total 0 y with h | h
  · have a := Int.mul_nonneg hx0 h
    have b := Int.mul_le_mul hx h2 h (by omega)
    omega
  · have a := Int.mul_nonneg hx0 (show 0 ≤ -y by omega)
    have b := Int.mul_le_mul hx (show -y ≤ 68719476736 by omega) (by omega) (by omega)
    rw [Int.mul_neg] at a b
    omega

/-- Counts and values as a mean takes them. -/
structure MeanOk (cs vs : List Int) (doubt : Int) : Prop where
  len : vs.length = cs.length
  one : 1 ≤ cs.length
  most : cs.length ≤ 49
  cnt : ∀ x ∈ cs, 0 ≤ x ∧ x ≤ 1000000
  val : ∀ x ∈ vs, -68719476736 ≤ x ∧ x ≤ 68719476736
  d1 : 1 ≤ doubt
  d2 : doubt ≤ 1000

theorem dot_bd {cs vs : List Int} {doubt wv : Int} (h : MeanOk cs vs doubt) (w1 : -68719476736 ≤ wv) (w2 : wv ≤ 68719476736) :
    ∀ k : Nat, k ≤ cs.length → -(68719476736000000 * (k + 1) : Int) ≤ dotTo (doubt * wv) cs vs k ∧ dotTo (doubt * wv) cs vs k ≤ 68719476736000000 * (k + 1) := by
  intro k
  induction k with
  | zero => intro _; rw [dotTo_zero]; have := mul_bd (x := doubt) (y := wv) (by have := h.d1; omega) (by have := h.d2; omega) w1 w2; omega
  | succ k ih =>
    intro hk
    have i := ih (by omega)
    have hk2 : k < vs.length := by rw [h.len]; omega
    rw [dotTo_succ _ _ _ _ (by omega) hk2]
    have c := h.cnt _ (getD_mem (xs := cs) (k := k) (by omega))
    have v := h.val _ (getD_mem (xs := vs) (k := k) hk2)
    have := mul_bd c.1 c.2 v.1 v.2
    push_cast
    omega

/-- A mean with the value that the doubt has, rounded. -/
def meanI (how doubt wv : Int) (cs vs : List Int) : Int := divR how (dotTo (doubt * wv) cs vs cs.length) (cs.sum + doubt)

theorem skill_mean (g : Nat) (a : Option Addr) (c : Nat) (cs : List Int) (a2 : Option Addr) (c2 : Nat) (vs : List Int) (doubt how wv : Int) (w : World)
    (hg : ∀ args w, (callFunc g args).run Try.prog w = .ok (.enter g args) w)
    (hw : Calls Try.prog g #[.slice a2 vs.length c2] w fun e w' => e = .returned (.int .i64 wv) ∧ w = w') (h : MeanOk cs vs doubt)
    (hr : Row w a (cs.map (.int .i64))) (hr2 : Row w a2 (vs.map (.int .i64))) (w1 : -68719476736 ≤ wv) (w2 : wv ≤ 68719476736) (hh : how = 1 ∨ how = 2) :
    Calls Try.prog 44 #[.slice a cs.length c, .slice a2 vs.length c2, .int .i64 doubt, .func (.func g) #[] #[], .int .i64 how] w fun e w' =>
      e = .returned (.int .i64 (meanI how doubt wv cs vs)) ∧ Below w.heap.size w w' := by
  have hsum := skill_sum a c cs w hr h.most h.cnt
  have hsb := sum_take_bd cs cs.length h.most h.cnt
  rw [List.take_of_length_le (Nat.le_refl _)] at hsb
  have HB := Lib.hid (dot_bd h w1 w2)
  have hk0 := dot_bd h w1 w2 cs.length (Nat.le_refl _)
  have hd1 := h.d1
  have hd2 := h.d2
  have hl := h.len
  have hm := h.most
  have HC := Lib.hid h
  have HW := Lib.hid hw; clear hw
  have hsh := fun w => skill_share (dotTo (doubt * wv) cs vs cs.length) (cs.sum + doubt) how w (by omega) (by omega) (by omega) (by omega) hh
  have HS := Lib.hid hsh; clear hsh
  have HU := Lib.hid hsum; clear hsum
  have p0 := mul_bd (x := doubt) (y := wv) (by omega) (by omega) w1 w2
  have HL := Lib.hid hl; clear hl h hk0
  go_enter Try.func44, Try.ntmps44
  go_wp2_with (refine (HW.out).mono ?_; rintro e w' ⟨rfl, rfl⟩)
  go_loop [11, 23] (fun s i => ∃ k : Nat, k ≤ cs.length ∧ i = .int .i64 k ∧ s = .int .i64 (dotTo (doubt * wv) cs vs k)) (fun _ i => cs.length - (intOf i).toNat)
  case atStart => exact ⟨0, Nat.zero_le _, rfl, by rw [dotTo_zero]⟩
  case round =>
    obtain ⟨k, hk, rfl, rfl⟩ := hrel
    obtain ⟨b1, b2⟩ := HB.out k hk
    by_cases hlt : k < cs.length
    · have hlt2 : k < vs.length := by rw [HL.out]; exact hlt
      obtain ⟨b, off, ha, hb, hc⟩ := hr.int k hlt
      obtain ⟨b', off', ha', hb', hc'⟩ := hr2.int k hlt2
      have HT := Lib.hid (dotTo_succ (doubt * wv) cs vs k hlt hlt2)
      have c := HC.out.cnt _ (getD_mem hlt)
      have v := HC.out.val _ (getD_mem hlt2)
      have p := mul_bd c.1 c.2 v.1 v.2
      subst ha ha'
      generalize cs[k]?.getD 0 = x at *
      generalize vs[k]?.getD 0 = y at *
      have hk1 : (k : Int) ≤ 48 := by omega
      generalize dotTo (doubt * wv) cs vs k = t0 at *
      go_wp2
      go_round
      case rel => exact ⟨k + 1, by omega, by go_num, by rw [HT.out]⟩
      case measure => simp [intOf]; omega
    · obtain rfl : k = cs.length := by omega
      go_wp2_with (first | (go_at_call 51; refine (HU.out).mono ?_; rintro e w' ⟨rfl, rfl⟩) | (go_at_call 50; refine (HS.out _).mono ?_; rintro e w' ⟨rfl, hbs⟩))
      go_ret
      exact ⟨rfl, hbs⟩
end Go.Proofs.Ytbppjebpnpgenaa

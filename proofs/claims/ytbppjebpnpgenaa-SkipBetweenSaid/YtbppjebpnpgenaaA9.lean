/- Whole numbers of 64 and of 128 bits: sizes, products, sums, comparisons. -/
import Derived.Test.YtbppjebpnpgenaaA8
import Derived.Shelf.Bits.Mul64
import Derived.Deep.RegionWith
import Derived.StillTailTactics
import Derived.Deep.RegionHeld3
import Derived.Deep.RegionLaw
namespace Go.Proofs.Ytbppjebpnpgenaa
open Go Go.RowKit

/-- A region that draws its order, all of whose operations but those behind the n-th only read or call what leaves the world as it was. -/
theorem region_tail {P : Program} {id : Nat} {Q : Exit → Act → World → Prop} {a : Act} {w : World} {l : List Oper} (n : Nat) (hm : P.follows .mixedOrders = true) (hB : Region.lexTailB .any l.toArray n = true)
    (h : wpStill P l.toArray w.drew (fun a' => wpList P l.toArray Q (l.drop n) a' w.drew) (l.take n) a) : (Code.region id l.toArray true).wp P Q a w :=
  wp_region_still_tail n hm hB h

theorem size_fix (n : Int) (w : World) (h1 : -9223372036854775808 ≤ n) (h2 : n ≤ 9223372036854775807) :
    Calls Try.prog 61 #[.int .i64 n] w fun e w' => e = .returned (.int .u64 (n.natAbs : Int)) ∧ w = w' := by
  have e : (n.natAbs : Int) = if n < 0 then -n else n := by split <;> omega
  rw [e]
  by_cases h : n < 0
  · rw [if_pos h]
    have e2 : IntKind.u64.wrap (-IntKind.u64.wrap n) = -n := by simp only [IntKind.wrap_u64]; omega
    have E := Lib.hid e2; clear e2 e
    go_enter Try.func61, Try.ntmps61
    go_wp2
    go_ret
    exact ⟨by rw [← E.out]; rfl, rfl⟩
  · rw [if_neg h]
    clear e
    go_enter Try.func61, Try.ntmps61
    go_wp2
    go_ret
    exact ⟨rfl, rfl⟩

theorem size_int (n : Int) (w : World) (h1 : -9223372036854775808 ≤ n) (h2 : n ≤ 9223372036854775807) :
    Calls Try.prog 62 #[.int .i64 n] w fun e w' => e = .returned (.int .u64 (n.natAbs : Int)) ∧ w = w' := by
  have e : (n.natAbs : Int) = if n < 0 then -n else n := by split <;> omega
  rw [e]
  by_cases h : n < 0
  · rw [if_pos h]
    have e2 : IntKind.u64.wrap (-IntKind.u64.wrap n) = -n := by simp only [IntKind.wrap_u64]; omega
    have E := Lib.hid e2; clear e2 e
    go_enter Try.func62, Try.ntmps62
    go_wp2
    go_ret
    exact ⟨by rw [← E.out]; rfl, rfl⟩
  · rw [if_neg h]
    clear e
    go_enter Try.func62, Try.ntmps62
    go_wp2
    go_ret
    exact ⟨rfl, rfl⟩

set_option maxHeartbeats 1000000 in
theorem mul64 (x y : Nat) (hx : x < 18446744073709551616) (hy : y < 18446744073709551616) (w : World) :
    Calls Try.prog 72 #[.int .u64 x, .int .u64 y] w fun e w' => e = .returned (.tuple #[.int .u64 ((x * y / 18446744073709551616 : Nat) : Int), .int .u64 ((x * y % 18446744073709551616 : Nat) : Int)]) ∧ w = w' := by
  obtain ⟨bd, bt, bw, hhi⟩ := Lib.mul64_hi x y hx hy
  have ba := Lib.half_mul_le (a := x / 4294967296) (b := y / 4294967296) (by omega) (by omega)
  have bb := Lib.half_mul_le (a := x / 4294967296) (b := y % 4294967296) (by omega) (by omega)
  have bc := Lib.half_mul_le (a := x % 4294967296) (b := y / 4294967296) (by omega) (by omega)
  have ba' : x / 4294967296 * (y / 4294967296) < 18446744073709551616 := by omega
  have bb' : x / 4294967296 * (y % 4294967296) < 18446744073709551616 := by omega
  have bc' : x % 4294967296 * (y / 4294967296) < 18446744073709551616 := by omega
  have bh1 : x / 4294967296 * (y / 4294967296) + (x / 4294967296 * (y % 4294967296) + x % 4294967296 * (y % 4294967296) / 4294967296) / 4294967296 < 18446744073709551616 := by omega
  have bh : x / 4294967296 * (y / 4294967296) + (x / 4294967296 * (y % 4294967296) + x % 4294967296 * (y % 4294967296) / 4294967296) / 4294967296 + ((x / 4294967296 * (y % 4294967296) + x % 4294967296 * (y % 4294967296) / 4294967296) % 4294967296 + x % 4294967296 * (y / 4294967296)) / 4294967296 < 18446744073709551616 := by omega
  go_enter Try.func72, Try.ntmps72
  go_wp2
  simp only [Mul64.maskN x hx, Mul64.maskN y hy, Mul64.divN, Mul64.mulN, Mul64.addN, Mul64.wrapN _ bd, Mul64.wrapN _ bb', Mul64.wrapN _ bt, Mul64.maskN _ bt, Mul64.wrapN _ bc', Mul64.wrapN _ bw, Mul64.wrapN _ ba', Mul64.wrapN _ bh1, Mul64.wrapN _ bh, Mul64.wrapM (x * y)]
  rw [hhi]
  go_ret2
  exact ⟨rfl, rfl⟩

/-- A number of 128 bits, in two parts. -/
def wideV (n : Nat) : Value := .agg #[.int .u64 ((n / 18446744073709551616 : Nat) : Int), .int .u64 ((n % 18446744073709551616 : Nat) : Int)]

theorem fixed_product (x y : Nat) (hx : x < 18446744073709551616) (hy : y < 18446744073709551616) (w : World) :
    Calls Try.prog 60 #[.int .u64 x, .int .u64 y] w fun e w' => e = .returned (wideV (x * y)) ∧ Below w.heap.size w w' := by
  unfold wideV
  have hm := mul64 x y hx hy
  generalize x * y / 18446744073709551616 = h at hm ⊢
  generalize x * y % 18446744073709551616 = l at hm ⊢
  have HM := Lib.hid hm; clear hm
  go_enter Try.func60, Try.ntmps60
  go_wp2_with (go_at_call 72; refine (HM.out _).mono ?_; rintro e w' ⟨rfl, rfl⟩)
  go_returns
  exact ⟨rfl, by go_grown⟩

theorem isNaN_u64 (x : Int) (w : World) :
    Calls Try.prog 78 #[.int .u64 x] w fun e w' => e = .returned (.bool false) ∧ w = w' := by
  go_enter Try.func78, Try.ntmps78
  go_wp2
  go_ret
  exact ⟨by simp, rfl⟩

def cmpI (x y : Int) : Int := if x < y then -1 else if y < x then 1 else 0

theorem compare_u64 (x y : Int) (w : World) :
    Calls Try.prog 76 #[.int .u64 x, .int .u64 y] w fun e w' => e = .returned (.int .i64 (cmpI x y)) ∧ w = w' := by
  by_cases h1 : x < y
  · go_enter Try.func76, Try.ntmps76
    go_wp2_with (go_at_call 78; refine (isNaN_u64 _ _).mono ?_; rintro e w' ⟨rfl, rfl⟩)
    go_ret
    exact ⟨by simp [cmpI, h1], rfl⟩
  · by_cases h2 : y < x
    · go_enter Try.func76, Try.ntmps76
      go_wp2_with (go_at_call 78; refine (isNaN_u64 _ _).mono ?_; rintro e w' ⟨rfl, rfl⟩)
      go_ret
      exact ⟨by rw [cmpI, if_neg (by omega), if_pos h2]; rfl, rfl⟩
    · go_enter Try.func76, Try.ntmps76
      go_wp2_with (go_at_call 78; refine (isNaN_u64 _ _).mono ?_; rintro e w' ⟨rfl, rfl⟩)
      go_ret
      exact ⟨by rw [cmpI, if_neg (by omega), if_neg (by omega)]; rfl, rfl⟩

/-- The first one of two numbers that is not 0. -/
def orI (x y : Int) : Int := if x = 0 then y else x

theorem or_two (b : Nat) (x y : Int) (w : World) (h0 : w.cell? ⟨b, 0, none⟩ = some (.int .i64 x)) (h1 : w.cell? ⟨b, 1, none⟩ = some (.int .i64 y)) :
    Calls Try.prog 75 #[.slice (some ⟨b, 0, none⟩) 2 2] w fun e w' => e = .returned (.int .i64 (orI x y)) ∧ w = w' := by
  by_cases hx : x = 0
  · by_cases hy : y = 0
    · subst hx hy
      go_enter Try.func75, Try.ntmps75
      go_wp2
      go_rounds 3
      go_ret
      exact ⟨rfl, rfl⟩
    · subst hx
      have hy' : (y == 0) = false := by simpa using hy
      go_enter Try.func75, Try.ntmps75
      go_wp2
      go_rounds 3
      go_ret
      exact ⟨rfl, rfl⟩
  · have hx' : (x == 0) = false := by simpa using hx
    go_enter Try.func75, Try.ntmps75
    go_wp2
    go_rounds 3
    go_ret
    exact ⟨by rw [orI, if_neg hx]; rfl, rfl⟩

theorem add64 (x y c : Int) (hx : 0 ≤ x) (hy : 0 ≤ y) (hc0 : 0 ≤ c) (hc : c ≤ 1) (w : World) :
    (callFunc 74 #[.int .u64 x, .int .u64 y, .int .u64 c]).run Try.prog w =
      .ok (.value (.tuple #[.int .u64 ((x + y + c) % 18446744073709551616), .int .u64 ((x + y + c) / 18446744073709551616)])) w := by
  rw [run_callFunc_extern (e := add64Entry) Try.func74 (by kernel_rfl) (by kernel_rfl) (by kernel_rfl) (by kernel_rfl), run_add64 x y c hx hy hc0 hc]
  rfl

set_option maxRecDepth 100000 in
theorem wide_plus (x y : Nat) (h : x + y < 340282366920938463463374607431768211456) (w : World) :
    Calls Try.prog 69 #[wideV x, wideV y] w fun e w' => e = .returned (wideV (x + y)) ∧ Below w.heap.size w w' := by
  have e1 : (((x + y) / 18446744073709551616 : Nat) : Int) = (((x / 18446744073709551616 : Nat) : Int) + ((y / 18446744073709551616 : Nat) : Int) + (((x % 18446744073709551616 : Nat) : Int) + ((y % 18446744073709551616 : Nat) : Int) + 0) / 18446744073709551616) % 18446744073709551616 := by omega
  have e2 : (((x + y) % 18446744073709551616 : Nat) : Int) = (((x % 18446744073709551616 : Nat) : Int) + ((y % 18446744073709551616 : Nat) : Int) + 0) % 18446744073709551616 := by omega
  unfold wideV
  rw [e1, e2]
  have b1 : x % 18446744073709551616 < 18446744073709551616 := by omega
  have b2 : y % 18446744073709551616 < 18446744073709551616 := by omega
  clear e1 e2 h
  generalize x % 18446744073709551616 = xl at *
  generalize y % 18446744073709551616 = yl at *
  generalize x / 18446744073709551616 = xh at *
  generalize y / 18446744073709551616 = yh at *
  generalize hl : ((xl : Int) + yl + 0) % 18446744073709551616 = l
  generalize hc : ((xl : Int) + yl + 0) / 18446744073709551616 = c
  obtain ⟨c0, c1⟩ : 0 ≤ c ∧ c ≤ 1 := by omega
  generalize hh : ((xh : Int) + yh + c) % 18446744073709551616 = h
  have HL := Lib.hid hl; clear hl
  have HC := Lib.hid hc; clear hc
  have HH := Lib.hid hh; clear hh
  go_enter Try.func69, Try.ntmps69
  go_wp2
  rw [add64 _ _ _ (by omega) (by omega) (by omega) (by omega), HL.out, HC.out]
  go_wp2
  rw [add64 _ _ _ (by omega) (by omega) (by omega) (by omega), HH.out]
  generalize ((xh : Int) + yh + c) / 18446744073709551616 = c'
  go_wp2
  go_returns
  exact ⟨rfl, by go_grown⟩

set_option maxRecDepth 100000 in
theorem wide_compare (x y : Nat) (w : World) :
    Calls Try.prog 70 #[wideV x, wideV y] w fun e w' => e = .returned (.int .i64 (cmpI x y)) ∧ Below w.heap.size w w' := by
  have e1 : cmpI x y = orI (cmpI ((x / 18446744073709551616 : Nat) : Int) ((y / 18446744073709551616 : Nat) : Int)) (cmpI ((x % 18446744073709551616 : Nat) : Int) ((y % 18446744073709551616 : Nat) : Int)) := by
    unfold orI cmpI
    repeat' split
    all_goals omega
  unfold wideV
  rw [e1]
  clear e1
  generalize ((x % 18446744073709551616 : Nat) : Int) = xl at *
  generalize ((y % 18446744073709551616 : Nat) : Int) = yl at *
  generalize ((x / 18446744073709551616 : Nat) : Int) = xh at *
  generalize ((y / 18446744073709551616 : Nat) : Int) = yh at *
  go_enter Try.func70, Try.ntmps70
  go_wp2
  refine region_tail 10 (by kernel_rfl) (by kernel_rfl) ?_
  simp only [List.take_succ_cons, List.take_zero, List.drop_succ_cons, List.drop_zero]
  repeat (first | still_step | still_call ((compare_u64 _ _ _).mono fun _ _ ⟨h1, h2⟩ => ⟨h1, h2.symm⟩))
  refine wpStill_nil ?_
  go_wp2_with (go_at_call 75; go_call (or_two _ (cmpI xh yh) (cmpI xl yl)) as e w' ⟨rfl, rfl⟩)
  go_ret
  exact ⟨rfl, by go_grown⟩
end Go.Proofs.Ytbppjebpnpgenaa

/- What came in: rivals, a state, bytes: opened. -/
import Derived.Test.YtbppjebpnpgenaaC8
import Derived.ProofKit
import Derived.OpenShut
import Derived.ShutString
import Derived.ChangeOld
import Derived.Below
import Derived.Deep.Matrix
import Derived.Lib.SmallJoins
namespace Go.Proofs.Ytbppjebpnpgenaa
open Go.ChangeShapes Go.WideShapes Go.ChangeAt Go.RowKit Go.Deep
set_option linter.unusedVariables false

theorem row_of {w : World} {a : Option Addr} {xs : List Value} (hn : a = none → xs = []) (h : ∀ x, a = some x → ∀ i, i < xs.length → w.cell? (x.add i) = xs[i]?) : Row w a xs := by
  intro hne
  cases a with
  | none => exact absurd (hn rfl) hne
  | some x =>
    obtain ⟨b, off, spot⟩ := x
    have h0 : 0 < xs.length := by cases xs with | nil => exact absurd rfl hne | cons => simp
    have hc := h _ rfl 0 h0
    rw [List.getElem?_eq_getElem h0] at hc
    have hspot : spot = none := by simpa [Addr.add] using World.cell?_spot hc
    subst hspot
    refine ⟨b, off, rfl, ?_, fun i hi => ?_⟩
    · have := World.block_lt_of_cell? w _ hc
      simpa [Addr.add] using this
    · have := h _ rfl i hi
      rwa [Addr.add_lit] at this

section
variable {H : Type} {enc : TypeId × Value → H} {W : World} {base : Nat}

/-- A slice of slices of numbers that came in. -/
theorem open_tab {fuel : Nat} {c : Value} {x : DataW H × List MemPlace} (h : DataW.trod enc Try.prog W base (fun _ => true) true fuel 22 [c] = some x) : ∃ t : TabV, c = t.v ∧ t.In W := by
  rcases open_int_rows Try.underlying22 Try.underlying57 Try.underlying3 (by kernel_rfl) (by kernel_rfl) h with ⟨hcs, _⟩ | ⟨a, len, cap, A, L, C, Z, hcs, _, hl, hm, _, hr⟩
  · simp only [List.cons.injEq, and_true] at hcs
    subst hcs
    exact ⟨⟨none, 0, []⟩, rfl, ⟨Row.nil _ _, by simp, by simp⟩⟩
  · simp only [List.cons.injEq, and_true] at hcs
    subst hcs
    have hlen : ∀ r, r < len → ((Z r).take (L r)).length = L r := fun r hr' => by
      obtain ⟨_, e1, e2, e3, _⟩ := hr r (by omega)
      simp; omega
    refine ⟨⟨some a, cap, (List.range len).map fun r => ⟨A r, C r, (Z r).take (L r)⟩⟩, by simp [TabV.v], ?_, ?_, ?_⟩
    · refine row_of (by simp) fun y hy i hi => ?_
      cases hy
      simp only [List.length_map, List.length_range] at hi
      rw [(hr i (by omega)).1]
      simp [hi, RowV.v]
      have := hlen i hi
      simpa using this.symm
    · simp only [List.length_map, List.length_range]
      unfold maxLen at hm
      omega
    · intro r hrm
      obtain ⟨i, hi, rfl⟩ := List.mem_map.1 hrm
      have hi' := List.mem_range.1 hi
      obtain ⟨_, e1, e2, e3, _, e5, e6⟩ := hr i (by omega)
      have hll := hlen i hi'
      refine ⟨row_of (fun hn => ?_) (fun y hy j hj => ?_), by dsimp only; rw [hll]; unfold maxLen at e2; omega⟩
      · have := e5 hn
        have : (Z i).take (L i) = [] := List.eq_nil_of_length_eq_zero (by rw [hll]; omega)
        dsimp only
        rw [this]
        rfl
      · dsimp only at hj hy ⊢
        rw [List.length_map, hll] at hj
        rw [(e6 y hy).2 j (by omega), List.getElem?_map, List.getElem?_take, if_pos hj]
        have : j < (Z i).length := by omega
        simp [this]

set_option maxRecDepth 100000 in
theorem open_riv {v : Value} {d : DataW H} {p : List MemPlace} (hv : Value.okWide Try.prog W .any base 25 v) (h : DataW.Trod enc Try.prog W 0 (fun _ => true) true 25 v d p) : ∃ m : RivV, v = m.v ∧ m.In W := by
  obtain ⟨cs, rfl, hsz⟩ := okWide_struct Try.underlying25 hv
  have h3 : Try.prog.cellsOf 25 = 3 := by kernel_rfl
  obtain ⟨c0, c1, c2, rfl⟩ : ∃ c0 c1 c2, cs = #[c0, c1, c2] := by
    rw [h3] at hsz
    obtain ⟨l⟩ := cs
    match l, hsz with
    | [c0, c1, c2], _ => exact ⟨c0, c1, c2, rfl⟩
  obtain ⟨fuel, hf⟩ := h
  obtain ⟨xs, n, rfl, hx, _, hn, hel⟩ := DataW.trod_struct Try.underlying25 hf
  have k3 : Try.prog.cellsOf 3 = 1 := by kernel_rfl
  have k23 : Try.prog.cellsOf 23 = 2 := by kernel_rfl
  have k22 : Try.prog.cellsOf 22 = 1 := by kernel_rfl
  have hx2 : xs.length = 2 := hn
  have f0 := hel 0 _ rfl
  have f1 := hel 1 _ rfl
  simp only [Value.cells] at f0 f1
  have f0' : DataW.trod enc Try.prog W 0 (fun _ => true) true n 3 [c0] = some (xs[0]'(by omega)) := by rw [← List.getElem?_eq_getElem]; exact f0
  have f1' : DataW.trod enc Try.prog W 0 (fun _ => true) true n 23 [c1, c2] = some (xs[1]'(by omega)) := by rw [← List.getElem?_eq_getElem]; exact f1
  obtain ⟨dd, e0, _, _⟩ := DataW.trod_int Try.underlying3 f0'
  simp only [List.cons.injEq, and_true] at e0
  subst e0
  obtain ⟨ys, n2, rfl, _, _, hy2, hely⟩ := DataW.trod_array Try.underlying23 f1'
  have g0 := hely 0 (by omega)
  have g1 := hely 1 (by omega)
  simp only [k22, Nat.zero_mul, Nat.one_mul, List.drop_zero, List.take_succ_cons, List.take_zero, List.drop_succ_cons] at g0 g1
  rw [List.getElem?_eq_getElem (by omega)] at g0 g1
  obtain ⟨t0, rfl, i0⟩ := open_tab g0
  obtain ⟨t1, rfl, i1⟩ := open_tab g1
  exact ⟨⟨dd, t0, t1⟩, rfl, i0, i1⟩

set_option maxRecDepth 100000 in
theorem open_st {v : Value} {d : DataW H} {p : List MemPlace} (hv : Value.okWide Try.prog W .any base 27 v) (h : DataW.Trod enc Try.prog W 0 (fun _ => true) true 27 v d p) : ∃ s : St, v = s.v := by
  obtain ⟨v0, v1, v2, y0, y1, y2, n, rfl, _, _, h0, h1, h2⟩ := Joins.open_agg3 Try.underlying27 (by kernel_rfl) (by kernel_rfl) hv h
  obtain ⟨a, e0, _, _⟩ := DataW.trod_int Try.underlying3 h0
  obtain ⟨b, e1, _, _⟩ := DataW.trod_int Try.underlying3 h1
  obtain ⟨c, e2, _, _⟩ := DataW.trod_int Try.underlying3 h2
  simp only [List.cons.injEq, and_true] at e0 e1 e2
  subst e0 e1 e2
  exact ⟨⟨a, b, c⟩, rfl⟩

set_option maxRecDepth 100000 in
theorem open_bytes {v : Value} {d : DataW H} {p : List MemPlace} (hv : Value.okWide Try.prog W .any base 28 v) (h : DataW.Trod enc Try.prog W 0 (fun _ => true) true 28 v d p) :
    ∃ (a : Option Addr) (c : Nat) (os : List Nat), v = .slice a os.length c ∧ Row W a (os.map fun (b : Nat) => Value.int .u8 (b : Int)) ∧ (∀ b ∈ os, b < 256) ∧ os.length ≤ 9223372036854775807 := by
  obtain ⟨a0, len0, cap0, rfl⟩ := okWide_slice Try.underlying28 hv
  obtain ⟨fuel, hf⟩ := h
  rcases open_ints Try.underlying28 Try.underlying5 (by kernel_rfl) hf with ⟨hcs, _⟩ | ⟨x, l, c, zs, hcs, _, hl, hm, hz, _, hcell, hwz⟩
  · simp [Value.cells] at hcs
    obtain ⟨rfl, rfl, rfl⟩ := hcs
    exact ⟨none, 0, [], rfl, Row.nil _ _, by simp, by simp⟩
  · simp [Value.cells] at hcs
    obtain ⟨rfl, rfl, rfl⟩ := hcs
    simp only [if_true] at hz
    have hwf : ∀ n ∈ zs, 0 ≤ n ∧ n < 256 := fun n hn => by
      have := hwz n hn
      have e1 : IntKind.u8.min = 0 := rfl
      have e2 : IntKind.u8.max = 255 := rfl
      simp [Lit.wf, e1, e2] at this
      omega
    have hlen : ((zs.take len0).map Int.toNat).length = len0 := by simp; omega
    refine ⟨some x, cap0, (zs.take len0).map Int.toNat, by rw [hlen], row_of (by simp) (fun y hy i hi => ?_), ?_, by rw [hlen]; unfold maxLen at hm; omega⟩
    · cases hy
      rw [List.length_map, hlen] at hi
      rw [hcell i (by omega)]
      have hi2 : i < zs.length := by omega
      have := hwf _ (List.getElem_mem hi2)
      simp [hi, hi2]
      omega
    · intro b hb
      obtain ⟨n, hn, rfl⟩ := List.mem_map.1 hb
      have := hwf n (List.mem_of_mem_take hn)
      omega
end
end Go.Proofs.Ytbppjebpnpgenaa

/- Rivals whose doubt is known: walked. -/
import Derived.Test.YtbppjebpnpgenaaC3
namespace Go.Proofs.Ytbppjebpnpgenaa
open Go Go.RowKit
attribute [local go_sem ↓] Go.wp_at_zero Go.wp_at_succ

def TabMore (f : Nat → Int) (cs : List (List Int)) (l : List RowV) : Prop := l.length = cs.length ∧ ∀ p r c, l[p]? = some r → cs[p]? = some c → MoreR (f p) c r.xs

theorem more_zero {cs : List Int} (h : cs.length = 17) : MoreR 0 cs cs := by
  refine ⟨List.replicate 17 0, by simp, fun x hx => by rw [List.eq_of_mem_replicate hx]; omega, by decide, ?_⟩
  refine List.ext_getElem (by simp [h]) fun i h1 h2 => ?_
  rw [List.getElem_zipWith, List.getElem_replicate]
  omega
theorem sum_set_add : ∀ (xs : List Int) (i : Nat), i < xs.length → (xs.set i (xs[i]?.getD 0 + 1)).sum = xs.sum + 1
  | [], i, h => by simp at h
  | x :: xs, 0, _ => by simp; omega
  | x :: xs, i + 1, h => by
    have := sum_set_add xs i (by simpa using h)
    simp at this ⊢
    omega
theorem more_step {d : Int} {cs xs : List Int} (h : MoreR d cs xs) (hc : cs.length = 17) (n : Nat) (hn : n < 17) : MoreR (d + 1) cs (xs.set n (xs[n]?.getD 0 + 1)) := by
  obtain ⟨es, h1, h2, h3, rfl⟩ := h
  refine ⟨es.set n (es[n]?.getD 0 + 1), by simp [h1], ?_, by rw [sum_set_add es n (by omega), h3], ?_⟩
  · intro x hx
    rcases List.mem_or_eq_of_mem_set hx with hx | rfl
    · exact h2 x hx
    · have := h2 _ (getD_mem (xs := es) (k := n) (by omega)); omega
  · refine List.ext_getElem (by simp) fun i h4 h5 => ?_
    have i1 : i < cs.length := by simp at h5; omega
    have i2 : i < es.length := by simp at h5; omega
    rw [List.getElem_zipWith, List.getElem_set, List.getElem_set]
    by_cases hi : n = i
    · subst hi
      have hz : (List.zipWith (· + ·) cs es)[n]? = some (cs[n] + es[n]) := by rw [List.getElem?_eq_getElem (by simp; omega), List.getElem_zipWith]
      rw [if_pos rfl, if_pos rfl, hz]
      simp [i2]
      omega
    · rw [if_neg hi, if_neg hi, List.getElem_zipWith]
theorem more_len {d : Int} {cs xs : List Int} (h : MoreR d cs xs) (hc : cs.length = 17) : xs.length = 17 := by
  obtain ⟨es, h1, h2, h3, rfl⟩ := h
  simp [h1, hc]
theorem le_sum {xs : List Int} (h : ∀ x ∈ xs, 0 ≤ x) : ∀ x ∈ xs, x ≤ xs.sum := by
  induction xs with
  | nil => simp
  | cons y ys ih =>
    intro x hx
    have h1 := sum_nonneg (fun z hz => h z (List.mem_cons_of_mem _ hz))
    have h2 := h y (by simp)
    rw [List.sum_cons]
    rcases List.mem_cons.1 hx with rfl | hx
    · omega
    · have := ih (fun z hz => h z (List.mem_cons_of_mem _ hz)) x hx; omega
theorem more_bd {d : Int} {cs xs : List Int} (h : MoreR d cs xs) (hc : cs.length = 17 ∧ ∀ x ∈ cs, 0 ≤ x ∧ x ≤ 1000000) : ∀ x ∈ xs, 0 ≤ x ∧ x ≤ 1000000 + d := by
  obtain ⟨es, h1, h2, h3, rfl⟩ := h
  intro x hx
  obtain ⟨i, hi, rfl⟩ := List.mem_iff_getElem.1 hx
  have i1 : i < cs.length := by simp at hi; omega
  have i2 : i < es.length := by simp at hi; omega
  rw [List.getElem_zipWith]
  have a := hc.2 _ (List.getElem_mem i1)
  have b := h2 _ (List.getElem_mem i2)
  have c := le_sum h2 _ (List.getElem_mem i2)
  omega

theorem tabMore_step {f : Nat → Int} {cs : List (List Int)} {l : List RowV} {q : Nat} {r : RowV} (h : TabMore f cs l) (hc : ∀ c ∈ cs, c.length = 17) (hq : l[q]? = some r) (n : Nat) (hn : n < 17) {f' : Nat → Int} (hf : ∀ p, p ≠ q → f' p = f p) (hf' : f' q = f q + 1) :
    TabMore f' cs (l.set q { r with xs := r.xs.set n (r.xs[n]?.getD 0 + 1) }) := by
  refine ⟨by simpa using h.1, fun p r' c hp hcp => ?_⟩
  by_cases hpq : p = q
  · subst hpq
    rw [List.getElem?_set_self (List.getElem?_eq_some_iff.1 hq).1] at hp
    cases hp
    rw [hf']
    exact more_step (h.2 p r c hq hcp) (hc c (List.mem_of_getElem? hcp)) n hn
  · rw [List.getElem?_set_ne (Ne.symm hpq)] at hp
    rw [hf p hpq]
    exact h.2 p r' c hp hcp
theorem TabMore.congr {f f' : Nat → Int} {cs : List (List Int)} {l : List RowV} (h : TabMore f cs l) (hf : ∀ p, p < cs.length → f' p = f p) : TabMore f' cs l :=
  ⟨h.1, fun p r c hp hcp => by rw [hf p (List.getElem?_eq_some_iff.1 hcp).1]; exact h.2 p r c hp hcp⟩

/-- How many ends each row of the table at hand has got so far. -/
def soFar (d : Int) (q : Nat) (k : Int) (p : Nat) : Int := if p < q then d else if p = q then k else 0

theorem tabMore_f2 {d : Int} : ∀ {cs : List (List Int)} {l : List RowV}, TabMore (fun _ => d) cs l → F2 (MoreR d) cs (l.map (·.xs))
  | [], [], _ => .nil
  | c :: cs, r :: l, h => .cons (h.2 0 r c rfl rfl) (tabMore_f2 ⟨by simpa using h.1, fun p r' c' hp hc => h.2 (p + 1) r' c' (by simpa using hp) (by simpa using hc)⟩)
  | [], _ :: _, h => by have := h.1; simp at this
  | _ :: _, [], h => by have := h.1; simp at this


/-- The outcomes that are handed in, as they lie. -/
structure OutsIn (w : World) (a : Option Addr) (os : List Nat) : Prop where
  row : Row w a (os.map fun (b : Nat) => Value.int .u8 (b : Int))
  len : os.length ≤ 200
  byte : ∀ b ∈ os, b < 256
theorem OutsIn.at_ {w : World} {a : Option Addr} {os : List Nat} (h : OutsIn w a os) (k : Nat) (hk : k < os.length) :
    ∃ b off x, a = some ⟨b, off, none⟩ ∧ b < w.heap.size ∧ x < 256 ∧ w.cell? ⟨b, off + k, none⟩ = some (.int .u8 ((x : Nat) : Int)) := by
  obtain ⟨b, off, ha, hlt, hc⟩ := h.row.at_ k (by simpa using hk)
  exact ⟨b, off, os[k], ha, hlt, h.byte _ (List.getElem_mem hk), by rw [hc]; simp [hk]⟩
theorem OutsIn.below {w w' : World} {a : Option Addr} {os : List Nat} (h : OutsIn w a os) (hb : Below w.heap.size w w') : OutsIn w' a os := ⟨h.row.below hb, h.len, h.byte⟩

/-- The marks of the loops: what lies where, and how many ends each row has got. -/
structure FillAt (m : RivV) (w : World) (B b5 : Nat) (a0 : Option Addr) (n0 c0 : Nat) (a1 : Option Addr) (n1 c1 : Nat) (f0 f1 : Nat → Int) (l0 l1 : List RowV) (W : World) : Prop where
  below : Below w.heap.size w W
  p0 : Blk W w.heap.size 25 [.int .i64 m.doubt, m.s0.v, m.s1.v]
  p1 : Blk W (w.heap.size + 1) 25 [.int .i64 0, .slice none 0 0, .slice none 0 0]
  p2 : Blk W b5 25 [.int .i64 m.doubt, .slice a0 n0 c0, .slice a1 n1 c1]
  at_ : CopAt B W (.slice a0 n0 c0) (.slice a1 n1 c1) l0 l1
  e0 : l0.length = n0
  e1 : l1.length = n1
  m0 : TabMore f0 m.s0.data l0
  m1 : TabMore f1 m.s1.data l1
  far : ∀ r ∈ l0 ++ l1, ∀ k, r.v.ownBlock = some k → k < b5
  base : w.heap.size + 1 < B

section
variable {m : RivV} {w : World} {B b5 : Nat} {a0 : Option Addr} {n0 c0 : Nat} {a1 : Option Addr} {n1 c1 : Nat} {f0 f1 : Nat → Int} {l0 l1 : List RowV} {W : World}
theorem set_v (r : RowV) (j : Nat) (y : Int) : ({ r with xs := r.xs.set j y } : RowV).v = r.v := by simp [RowV.v]
theorem far_set {q : Nat} {r : RowV} {j : Nat} {y : Int} {l : List RowV} (hq : l[q]? = some r) (hf : ∀ r ∈ l, ∀ k, r.v.ownBlock = some k → k < b5) : ∀ x ∈ l.set q { r with xs := r.xs.set j y }, ∀ k, x.v.ownBlock = some k → k < b5 := fun x hx => by
  rcases List.mem_or_eq_of_mem_set hx with hx | rfl
  · exact hf x hx
  · rw [set_v]; exact hf r (List.mem_of_getElem? hq)
theorem FillAt.step0 {q g : Nat} {r : RowV} (h : FillAt m w B b5 a0 n0 c0 a1 n1 c1 f0 f1 l0 l1 W) (hc : ∀ c ∈ m.s0.data, c.length = 17) (hq : l0[q]? = some r) (ha : r.a = some ⟨g, 0, none⟩) (n : Nat) (hn : n < 17) {f' : Nat → Int} (hf : ∀ p, p ≠ q → f' p = f0 p) (hf' : f' q = f0 q + 1) :
    FillAt m w B b5 a0 n0 c0 a1 n1 c1 f' f1 (l0.set q { r with xs := r.xs.set n (r.xs[n]?.getD 0 + 1) }) l1 (W.setCell ⟨g, n, none⟩ (.int .i64 (r.xs[n]?.getD 0 + 1))) := by
  have hmem : r ∈ l0 ++ l1 := by simp [List.mem_of_getElem? hq]
  have hgb : r.v.ownBlock = some g := by unfold RowV.v; rw [ha]; rfl
  have hlt := (h.at_.each r hmem).lt g hgb
  have hg5 := h.far r hmem g hgb
  have hb := h.base
  refine ⟨h.below.setCell (by simp; omega) _, h.p0.other (by simp; omega) _, h.p1.other (by simp; omega) _, h.p2.other (by simp; omega) _, h.at_.set0 q hq ha _, by simpa using h.e0, h.e1, tabMore_step h.m0 hc hq n hn hf hf', h.m1, ?_, h.base⟩
  intro x hx
  rw [List.mem_append] at hx
  rcases hx with hx | hx
  · exact far_set hq (fun r hr => h.far r (by simp [hr])) x hx
  · exact h.far x (by simp [hx])
theorem FillAt.step1 {q g : Nat} {r : RowV} (h : FillAt m w B b5 a0 n0 c0 a1 n1 c1 f0 f1 l0 l1 W) (hc : ∀ c ∈ m.s1.data, c.length = 17) (hq : l1[q]? = some r) (ha : r.a = some ⟨g, 0, none⟩) (n : Nat) (hn : n < 17) {f' : Nat → Int} (hf : ∀ p, p ≠ q → f' p = f1 p) (hf' : f' q = f1 q + 1) :
    FillAt m w B b5 a0 n0 c0 a1 n1 c1 f0 f' l0 (l1.set q { r with xs := r.xs.set n (r.xs[n]?.getD 0 + 1) }) (W.setCell ⟨g, n, none⟩ (.int .i64 (r.xs[n]?.getD 0 + 1))) := by
  have hmem : r ∈ l0 ++ l1 := by simp [List.mem_of_getElem? hq]
  have hgb : r.v.ownBlock = some g := by unfold RowV.v; rw [ha]; rfl
  have hlt := (h.at_.each r hmem).lt g hgb
  have hg5 := h.far r hmem g hgb
  have hb := h.base
  refine ⟨h.below.setCell (by simp; omega) _, h.p0.other (by simp; omega) _, h.p1.other (by simp; omega) _, h.p2.other (by simp; omega) _, h.at_.set1 q hq ha _, h.e0, by simpa using h.e1, h.m0, tabMore_step h.m1 hc hq n hn hf hf', ?_, h.base⟩
  intro x hx
  rw [List.mem_append] at hx
  rcases hx with hx | hx
  · exact h.far x (by simp [hx])
  · exact far_set hq (fun r hr => h.far r (by simp [hr])) x hx
theorem FillAt.congr {g0 g1 : Nat → Int} (h : FillAt m w B b5 a0 n0 c0 a1 n1 c1 f0 f1 l0 l1 W) (h0 : ∀ p, p < m.s0.data.length → g0 p = f0 p) (h1 : ∀ p, p < m.s1.data.length → g1 p = f1 p) : FillAt m w B b5 a0 n0 c0 a1 n1 c1 g0 g1 l0 l1 W :=
  { h with m0 := h.m0.congr h0, m1 := h.m1.congr h1 }
/-- The row at hand: where it lies, and its numbers. -/
theorem FillAt.row {q : Nat} {l : List RowV} {f : Nat → Int} {cs : List (List Int)} (h : FillAt m w B b5 a0 n0 c0 a1 n1 c1 f0 f1 l0 l1 W) (hl : l = l0 ∨ l = l1) (hm : TabMore f cs l) (hc : ∀ c ∈ cs, c.length = 17 ∧ ∀ x ∈ c, 0 ≤ x ∧ x ≤ 1000000) (hq : q < l.length) (hf : f q ≤ 40) :
    ∃ r g, l[q]? = some r ∧ r.a = some ⟨g, 0, none⟩ ∧ r.xs.length = 17 ∧ r.v = .slice (some ⟨g, 0, none⟩) 17 r.c ∧ g < W.heap.size ∧
      (∀ n, n < 17 → W.cell? ⟨g, n, none⟩ = some (.int .i64 (r.xs[n]?.getD 0)) ∧ W.frozen? ⟨g, n, none⟩ = false ∧ 0 ≤ r.xs[n]?.getD 0 ∧ r.xs[n]?.getD 0 ≤ 1000040) := by
  have hr : l[q]? = some l[q] := List.getElem?_eq_getElem hq
  generalize l[q] = r at hr
  have hmem : r ∈ l0 ++ l1 := by rcases hl with rfl | rfl <;> simp [List.mem_of_getElem? hr]
  have hcq : cs[q]? = some (cs[q]'(by rw [← hm.1]; exact hq)) := List.getElem?_eq_getElem _
  have hmore := hm.2 q r _ hr hcq
  have hcc := hc _ (List.mem_of_getElem? hcq)
  have h17 := more_len hmore hcc.1
  have hbd := more_bd hmore hcc
  have hown := h.at_.each r hmem
  obtain ⟨g, cap, hv, hb, hlt⟩ := hown.form (by omega)
  have hra : r.a = some ⟨g, 0, none⟩ ∧ r.c = cap := by
    unfold RowV.v at hv
    simp only [Value.slice.injEq] at hv
    exact ⟨hv.1, hv.2.2⟩
  rw [hv] at hown
  refine ⟨r, g, hr, hra.1, h17, by rw [hv, h17, hra.2], hlt, fun n hn => ?_⟩
  have hc1 := hown.cellAt n (by omega)
  have := hbd _ (getD_mem (xs := r.xs) (k := n) (by omega))
  refine ⟨?_, hown.frozenAt n, this.1, by omega⟩
  rw [hc1, List.getElem?_map]
  simp [show n < r.xs.length by omega]
end

theorem CopAt.riv2 {base : Nat} {W : World} {l0 l1 : List RowV} {a0 a1 : Option Addr} {n0 n1 c0 c1 : Nat} {d : Int} (h : CopAt base W (.slice a0 n0 c0) (.slice a1 n1 c1) l0 l1) (e0 : l0.length = n0) (e1 : l1.length = n1) (h0 : l0.length ≤ 9223372036854775807) (h1 : l1.length ≤ 9223372036854775807) (hl : ∀ r ∈ l0 ++ l1, r.xs.length ≤ 9223372036854775807) :
    (⟨d, ⟨a0, c0, l0⟩, ⟨a1, c1, l1⟩⟩ : RivV).In W := by
  subst e0 e1
  exact h.riv h0 h1 hl

set_option maxRecDepth 100000 in
set_option maxHeartbeats 2000000 in
theorem filled_walk (m : RivV) (a : Option Addr) (c : Nat) (os : List Nat) (w : World) (hin : m.In w) (hg : GoodM m) (ho : OutsIn w a os) (hd : m.doubt ≤ 40) :
    Calls Try.prog 7 #[m.v, .slice a os.length c] w fun e w' => ∃ m', e = .returned m'.v ∧ m'.In w' ∧ MoreM m m' ∧ Below w.heap.size w w' := by
  have d1 := hg.d1
  have r0 := hg.rows 0
  have r1 := hg.rows 1
  have e0 := hg.each 0
  have e1 := hg.each 1
  have t0 : tabOf m 0 = m.s0 := rfl
  have t1 : tabOf m 1 = m.s1 := rfl
  rw [t0] at r0 e0
  rw [t1] at r1 e1
  clear t0 t1
  have hA : Below w.heap.size w ((w.alloc (.cells #[.int .i64 m.doubt, m.s0.v, m.s1.v] 25)).alloc (.cells #[.int .i64 0, .slice none 0 0, .slice none 0 0] 25)) := by go_grown
  have hcp := copied_walk m _ (hin.below hA) hg
  have HC := Lib.hid hcp; clear hcp
  have n0 := Lib.hid ((Blk.new w 25 [.int .i64 m.doubt, m.s0.v, m.s1.v]).alloc (.cells #[.int .i64 0, .slice none 0 0, .slice none 0 0] 25))
  have n1 := Lib.hid (Blk.new2 w (.cells #[.int .i64 m.doubt, m.s0.v, m.s1.v] 25) 25 [.int .i64 0, .slice none 0 0, .slice none 0 0])
  have E0 := Lib.hid e0; clear e0
  have E1 := Lib.hid e1; clear e1
  have holen := ho.len
  unfold RivV.v
  go_enter Try.func7, Try.ntmps7
  go_wp2_with fail
  refine HC.out.mono ?_
  rintro e W1 ⟨⟨dd, ⟨a0, c0, l0⟩, ⟨a1, c1, l1⟩⟩, rfl, hcp, hb1⟩
  obtain ⟨hC, k0, k1, kd⟩ := hcp
  dsimp only at kd
  subst kd
  have p0 := n0.out.below hb1
  have p1 := n1.out.below hb1
  have hC1 := hC.below (Below.alloc (Below.refl W1.heap.size W1) (Nat.le_refl _) (.cells #[.int .i64 m.doubt, .slice a0 l0.length c0, .slice a1 l1.length c1] 25))
  have p2 := Blk.new W1 25 [.int .i64 m.doubt, .slice a0 l0.length c0, .slice a1 l1.length c1]
  have hB1 := hA.trans (hb1.mono hA.size)
  have z0 : ∀ (cs : List (List Int)) (l : List RowV), l.map (·.xs) = cs → (∀ c ∈ cs, c.length = 17) → TabMore (fun _ => 0) cs l := fun cs l h hc => by
    subst h
    refine ⟨by simp, fun p r c hp hcp => ?_⟩
    rw [List.getElem?_map, hp] at hcp
    cases hcp
    exact more_zero (hc _ (List.mem_map.2 ⟨r, List.mem_of_getElem? hp, rfl⟩))
  have hF : FillAt m w (w.heap.size + 1 + 1) W1.heap.size a0 l0.length c0 a1 l1.length c1 (fun _ => 0) (fun _ => 0) l0 l1 (W1.alloc (.cells #[.int .i64 m.doubt, .slice a0 l0.length c0, .slice a1 l1.length c1] 25)) :=
    ⟨hB1.alloc hB1.size _, p0.alloc _, p1.alloc _, p2, by simpa [TabV.v] using hC1, rfl, rfl, z0 _ _ k0 (fun c hc => (E0.out c hc).1), z0 _ _ k1 (fun c hc => (E1.out c hc).1), fun r hr k hk => ((hC.each r hr).lt k hk).2, by omega⟩
  have hl0 : l0.length = m.s0.rows.length := by have := congrArg List.length k0; simpa [TabV.data] using this
  have hl1 : l1.length = m.s1.rows.length := by have := congrArg List.length k1; simpa [TabV.data] using this
  have hl0' : (l0.length : Int) ≤ 8 := by omega
  have hl1' : (l1.length : Int) ≤ 8 := by omega
  have hc0 : ∀ c ∈ m.s0.data, c.length = 17 := fun c hc => (E0.out c hc).1
  have hc1 : ∀ c ∈ m.s1.data, c.length = 17 := fun c hc => (E1.out c hc).1
  have HC0 := Lib.hid hc0; clear hc0
  have HC1 := Lib.hid hc1; clear hc1
  have hoB := ho.below (hB1.alloc hB1.size (.cells #[.int .i64 m.doubt, .slice a0 l0.length c0, .slice a1 l1.length c1] 25))
  clear z0 hC1 p0 p1 p2 hC k0 k1 hb1 HC n0 n1 hA hl0 hl1 hg
  dsimp only [RivV.v, TabV.v]
  generalize hV : W1.alloc (.cells #[.int .i64 m.doubt, .slice a0 l0.length c0, .slice a1 l1.length c1] 25) = V1 at hF hoB
  generalize hb5 : W1.heap.size = b5 at hF
  have HV := Lib.hid hV; clear hV
  have HB5 := Lib.hid hb5; clear hb5
  have i0 : ∀ w : World, (Instr.index 23 (.agg #[.slice a0 l0.length c0, .slice a1 l1.length c1]) (.int .i64 0)).run Try.prog w = .ok (.slice a0 l0.length c0) w := fun _ => by kernel_rfl
  have i1 : ∀ w : World, (Instr.index 23 (.agg #[.slice a0 l0.length c0, .slice a1 l1.length c1]) (.int .i64 1)).run Try.prog w = .ok (.slice a1 l1.length c1) w := fun _ => by kernel_rfl
  go_wp2_with fail
  rw [HV.out, HB5.out]
  go_loopw [6, 16] (fun ti tt W => ∃ (k n : Nat) (z : Int) (l0' l1' : List RowV), k ≤ 2 ∧ z = k ∧ tt = .int .i64 z ∧ ti = .int .i64 (n : Int) ∧ n ≤ 320 * k ∧ FillAt m w (w.heap.size + 1 + 1) b5 a0 l0.length c0 a1 l1.length c1 (fun _ => if 1 ≤ k then m.doubt else 0) (fun _ => if 2 ≤ k then m.doubt else 0) l0' l1' W) (fun _ tt _ => 2 - (intOf tt).toNat)
  case atStart => exact ⟨0, 0, 0, l0, l1, by omega, rfl, rfl, rfl, by omega, hF⟩
  case round =>
    clear hF
    obtain ⟨k, n, z, l0', l1', hk, hz, rfl, rfl, hn, hF⟩ := hrel
    have hk3 : k = 0 ∨ k = 1 ∨ k = 2 := by omega
    rcases hk3 with rfl | rfl | rfl
    · obtain rfl : z = 0 := by omega
      clear hz hk
      go_wp2
      obtain ⟨wo, hwo⟩ : ∃ wo : World, wo = wr := ⟨_, rfl⟩
      clear hwo
      go_loopw [6, 21] (fun ti tq W => ∃ (q n : Nat) (l0' l1' : List RowV), q ≤ l0.length ∧ tq = .int .i64 (q : Int) ∧ ti = .int .i64 (n : Int) ∧ n ≤ 320 * 0 + 40 * q ∧ FillAt m w (w.heap.size + 1 + 1) b5 a0 l0.length c0 a1 l1.length c1 (soFar m.doubt q 0) (fun _ => 0) l0' l1' W) (fun _ tq _ => l0.length - (intOf tq).toNat)
      case atStart => exact ⟨0, n, l0', l1', by omega, rfl, rfl, by omega, hF.congr (fun p hp => by simp [soFar]) (fun p hp => rfl)⟩
      case round =>
        obtain ⟨q, n, l0', l1', hq, rfl, rfl, hn, hF⟩ := hrel
        have hlen : l0'.length = l0.length := hF.e0
        have HLen := Lib.hid hlen
        by_cases hlt : q < l0.length
        · obtain ⟨r, g, hr, hra, h17, hrv, hgl, hrc⟩ := hF.row (q := q) (l := l0') (.inl rfl) hF.m0 E0.out (by omega) (by simp [soFar])
          have hown := hF.at_.t0
          rw [hlen] at hown
          obtain ⟨tb, toff, hta, htl, htc⟩ := (own_row hown).at_ q (by simp; omega)
          clear hown
          subst hta
          have hrr : wr.cell? ⟨tb, toff + q, none⟩ = some (.slice (some ⟨g, 0, none⟩) 17 r.c) := by rw [htc]; simp [hr, hrv]
          have HR := Lib.hid hr
          have HRV := Lib.hid hrv
          have c00 := hF.p0.cell 0
          have z00 := hF.p0.lt
          dsimp only [List.getElem?_cons_zero] at c00
          clear hr hrv htc hrc hra h17 hlen
          go_wp2
          obtain ⟨wo2, hwo2⟩ : ∃ wo2 : World, wo2 = wr := ⟨_, rfl⟩
          clear hwo2
          go_loopw [6, 27] (fun ti tk W => ∃ (k n : Nat) (l0' l1' : List RowV) (r : RowV), (k : Int) ≤ m.doubt ∧ tk = .int .i64 (k : Int) ∧ ti = .int .i64 (n : Int) ∧ n ≤ 320 * 0 + 40 * q + k ∧ l0'[q]? = some r ∧ r.v = .slice (some ⟨g, 0, none⟩) 17 r.c ∧ FillAt m w (w.heap.size + 1 + 1) b5 (some ⟨tb, toff, none⟩) l0.length c0 a1 l1.length c1 (soFar m.doubt q k) (fun _ => 0) l0' l1' W) (fun _ tk _ => (m.doubt - intOf tk).toNat)
          case atStart => exact ⟨0, n, l0', l1', r, by omega, rfl, rfl, by omega, HR.out, HRV.out, hF⟩
          case round =>
            obtain ⟨k, n, l0', l1', r', hkd, rfl, rfl, hn, hr', hrv', hF⟩ := hrel
            have HK := Lib.hid hn
            by_cases hlk : (k : Int) < m.doubt
            · obtain ⟨r2, g2, hr2, hra, h17, hrv2, hgl, hrc⟩ := hF.row (q := q) (l := l0') (.inl rfl) hF.m0 E0.out (by have := hF.e0; omega) (by simp [soFar]; omega)
              rw [hr'] at hr2
              cases hr2
              rw [hrv'] at hrv2
              have hg2 : g = g2 := by simpa using hrv2
              subst hg2
              have HR' := Lib.hid hr'; clear hr'
              have HRV' := Lib.hid hrv'; clear hrv' hrv2 h17
              by_cases hos : 0 < os.length
              · obtain ⟨ob, ooff, x, hoa, hol, hx, hoc⟩ := (ho.below hF.below).at_ (n % os.length) (Nat.mod_lt _ hos)
                have ho' := ho
                subst hoa
                obtain ⟨cg, fg, v1, v2⟩ := hrc (x % 17) (by omega)
                have hst := hF.step0 HC0.out HR'.out hra (x % 17) (by omega) (f' := soFar m.doubt q ((k : Int) + 1)) (fun p hp => by simp [soFar, hp]) (by simp [soFar])
                have HS := Lib.hid hst; clear hst
                clear hrc HK hra i0 i1
                generalize r'.xs[x % 17]?.getD 0 = y at *
                have hm0 : 0 ≤ (n : Int) % (os.length : Int) := Int.emod_nonneg _ (by omega)
                have hm1 : (n : Int) % (os.length : Int) < os.length := Int.emod_lt_of_pos _ (by omega)
                have hx0 : 0 ≤ (x : Int) % 17 := by omega
                have hx1 : (x : Int) % 17 < 17 := by omega
                go_wp2
                go_roundw
                case measure => simp only [intOf]; omega
                exact ⟨k + 1, n + 1, _, _, { r' with xs := r'.xs.set (x % 17) (y + 1) }, by omega, by push_cast; rfl, by push_cast; rfl, by omega, List.getElem?_set_self (List.getElem?_eq_some_iff.1 HR'.out).1, (set_v r' _ _).trans HRV'.out, by push_cast; exact HS.out⟩
              · have hos0 : os.length = 0 := by omega
                have hosz : decide ((0 : Int) < (os.length : Int)) = false := decide_eq_false (by omega)
                obtain ⟨cg, fg, v1, v2⟩ := hrc 9 (by omega)
                have hst := hF.step0 HC0.out HR'.out hra 9 (by omega) (f' := soFar m.doubt q ((k : Int) + 1)) (fun p hp => by simp [soFar, hp]) (by simp [soFar])
                have HS := Lib.hid hst; clear hst
                have HO := Lib.hid hos0; clear hos0
                clear hrc HK hra i0 i1
                generalize r'.xs[9]?.getD 0 = y at *
                go_wp2
                go_roundw
                case measure => simp only [intOf]; omega
                exact ⟨k + 1, n + 1, _, _, { r' with xs := r'.xs.set 9 (y + 1) }, by omega, by push_cast; rfl, by push_cast; rfl, by omega, List.getElem?_set_self (List.getElem?_eq_some_iff.1 HR'.out).1, (set_v r' _ _).trans HRV'.out, by push_cast; exact HS.out⟩
            · have hke : (k : Int) = m.doubt := by omega
              have HKE := Lib.hid hke; clear hke
              clear hr' hrv' i0 i1
              go_wp2
              go_roundw
              case measure => simp only [intOf]; omega
              exact ⟨q + 1, n, l0', l1', by omega, by push_cast; rfl, rfl, by have := HKE.out; omega, hF.congr (fun p hp => by unfold soFar; rw [HKE.out]; (repeat' split) <;> omega) (fun p hp => rfl)⟩
        · obtain rfl : q = l0.length := by omega
          clear i0 i1 hlen
          go_wp2
          go_roundw
          case measure => simp only [intOf]; omega
          exact ⟨1, n, 1, l0', l1', by omega, rfl, by rfl, rfl, by omega, hF.congr (fun p hp => by simp [soFar]; intro h; have := hF.m0.1; have := HLen.out; omega) (fun p hp => by simp)⟩
    · obtain rfl : z = 1 := by omega
      clear hz hk
      go_wp2
      obtain ⟨wo, hwo⟩ : ∃ wo : World, wo = wr := ⟨_, rfl⟩
      clear hwo
      go_loopw [6, 21] (fun ti tq W => ∃ (q n : Nat) (l0' l1' : List RowV), q ≤ l1.length ∧ tq = .int .i64 (q : Int) ∧ ti = .int .i64 (n : Int) ∧ n ≤ 320 * 1 + 40 * q ∧ FillAt m w (w.heap.size + 1 + 1) b5 a0 l0.length c0 a1 l1.length c1 (fun _ => m.doubt) (soFar m.doubt q 0) l0' l1' W) (fun _ tq _ => l1.length - (intOf tq).toNat)
      case atStart => exact ⟨0, n, l0', l1', by omega, rfl, rfl, by omega, hF.congr (fun p hp => by simp) (fun p hp => by simp [soFar])⟩
      case round =>
        obtain ⟨q, n, l0', l1', hq, rfl, rfl, hn, hF⟩ := hrel
        have hlen : l1'.length = l1.length := hF.e1
        have HLen := Lib.hid hlen
        by_cases hlt : q < l1.length
        · obtain ⟨r, g, hr, hra, h17, hrv, hgl, hrc⟩ := hF.row (q := q) (l := l1') (.inr rfl) hF.m1 E1.out (by omega) (by simp [soFar])
          have hown := hF.at_.t1
          rw [hlen] at hown
          obtain ⟨tb, toff, hta, htl, htc⟩ := (own_row hown).at_ q (by simp; omega)
          clear hown
          subst hta
          have hrr : wr.cell? ⟨tb, toff + q, none⟩ = some (.slice (some ⟨g, 0, none⟩) 17 r.c) := by rw [htc]; simp [hr, hrv]
          have HR := Lib.hid hr
          have HRV := Lib.hid hrv
          have c00 := hF.p0.cell 0
          have z00 := hF.p0.lt
          dsimp only [List.getElem?_cons_zero] at c00
          clear hr hrv htc hrc hra h17 hlen
          go_wp2
          obtain ⟨wo2, hwo2⟩ : ∃ wo2 : World, wo2 = wr := ⟨_, rfl⟩
          clear hwo2
          go_loopw [6, 27] (fun ti tk W => ∃ (k n : Nat) (l0' l1' : List RowV) (r : RowV), (k : Int) ≤ m.doubt ∧ tk = .int .i64 (k : Int) ∧ ti = .int .i64 (n : Int) ∧ n ≤ 320 * 1 + 40 * q + k ∧ l1'[q]? = some r ∧ r.v = .slice (some ⟨g, 0, none⟩) 17 r.c ∧ FillAt m w (w.heap.size + 1 + 1) b5 a0 l0.length c0 (some ⟨tb, toff, none⟩) l1.length c1 (fun _ => m.doubt) (soFar m.doubt q k) l0' l1' W) (fun _ tk _ => (m.doubt - intOf tk).toNat)
          case atStart => exact ⟨0, n, l0', l1', r, by omega, rfl, rfl, by omega, HR.out, HRV.out, hF⟩
          case round =>
            obtain ⟨k, n, l0', l1', r', hkd, rfl, rfl, hn, hr', hrv', hF⟩ := hrel
            have HK := Lib.hid hn
            by_cases hlk : (k : Int) < m.doubt
            · obtain ⟨r2, g2, hr2, hra, h17, hrv2, hgl, hrc⟩ := hF.row (q := q) (l := l1') (.inr rfl) hF.m1 E1.out (by have := hF.e1; omega) (by simp [soFar]; omega)
              rw [hr'] at hr2
              cases hr2
              rw [hrv'] at hrv2
              have hg2 : g = g2 := by simpa using hrv2
              subst hg2
              have HR' := Lib.hid hr'; clear hr'
              have HRV' := Lib.hid hrv'; clear hrv' hrv2 h17
              by_cases hos : 0 < os.length
              · obtain ⟨ob, ooff, x, hoa, hol, hx, hoc⟩ := (ho.below hF.below).at_ (n % os.length) (Nat.mod_lt _ hos)
                have ho' := ho
                subst hoa
                obtain ⟨cg, fg, v1, v2⟩ := hrc (x % 17) (by omega)
                have hst := hF.step1 HC1.out HR'.out hra (x % 17) (by omega) (f' := soFar m.doubt q ((k : Int) + 1)) (fun p hp => by simp [soFar, hp]) (by simp [soFar])
                have HS := Lib.hid hst; clear hst
                clear hrc HK hra i0 i1
                generalize r'.xs[x % 17]?.getD 0 = y at *
                have hm0 : 0 ≤ (n : Int) % (os.length : Int) := Int.emod_nonneg _ (by omega)
                have hm1 : (n : Int) % (os.length : Int) < os.length := Int.emod_lt_of_pos _ (by omega)
                have hx0 : 0 ≤ (x : Int) % 17 := by omega
                have hx1 : (x : Int) % 17 < 17 := by omega
                go_wp2
                go_roundw
                case measure => simp only [intOf]; omega
                exact ⟨k + 1, n + 1, _, _, { r' with xs := r'.xs.set (x % 17) (y + 1) }, by omega, by push_cast; rfl, by push_cast; rfl, by omega, List.getElem?_set_self (List.getElem?_eq_some_iff.1 HR'.out).1, (set_v r' _ _).trans HRV'.out, by push_cast; exact HS.out⟩
              · have hos0 : os.length = 0 := by omega
                have hosz : decide ((0 : Int) < (os.length : Int)) = false := decide_eq_false (by omega)
                obtain ⟨cg, fg, v1, v2⟩ := hrc 9 (by omega)
                have hst := hF.step1 HC1.out HR'.out hra 9 (by omega) (f' := soFar m.doubt q ((k : Int) + 1)) (fun p hp => by simp [soFar, hp]) (by simp [soFar])
                have HS := Lib.hid hst; clear hst
                have HO := Lib.hid hos0; clear hos0
                clear hrc HK hra i0 i1
                generalize r'.xs[9]?.getD 0 = y at *
                go_wp2
                go_roundw
                case measure => simp only [intOf]; omega
                exact ⟨k + 1, n + 1, _, _, { r' with xs := r'.xs.set 9 (y + 1) }, by omega, by push_cast; rfl, by push_cast; rfl, by omega, List.getElem?_set_self (List.getElem?_eq_some_iff.1 HR'.out).1, (set_v r' _ _).trans HRV'.out, by push_cast; exact HS.out⟩
            · have hke : (k : Int) = m.doubt := by omega
              have HKE := Lib.hid hke; clear hke
              clear hr' hrv' i0 i1
              go_wp2
              go_roundw
              case measure => simp only [intOf]; omega
              exact ⟨q + 1, n, l0', l1', by omega, by push_cast; rfl, rfl, by have := HKE.out; omega, hF.congr (fun p hp => rfl) (fun p hp => by unfold soFar; rw [HKE.out]; (repeat' split) <;> omega)⟩
        · obtain rfl : q = l1.length := by omega
          clear i0 i1 hlen
          go_wp2
          go_roundw
          case measure => simp only [intOf]; omega
          exact ⟨2, n, 2, l0', l1', by omega, rfl, by rfl, rfl, by omega, hF.congr (fun p hp => by simp) (fun p hp => by simp [soFar]; intro h; have := hF.m1.1; have := HLen.out; omega)⟩
    · obtain rfl : z = 2 := by omega
      clear hz hk i0 i1
      have q0 := hF.m0
      have q1 := hF.m1
      have e0 := hF.e0
      have e1 := hF.e1
      simp only [Nat.reduceLeDiff, if_true] at q0 q1
      have hb1 := hF.p1
      have hb2 := hF.p2
      have hB := hF.below
      have hC := hF.at_
      have hm' : ∀ r ∈ l0' ++ l1', r.xs.length = 17 := fun r hr => by
        rw [List.mem_append] at hr
        rcases hr with hr | hr
        · obtain ⟨i, hi⟩ := List.mem_iff_getElem?.1 hr
          have hlt := (List.getElem?_eq_some_iff.1 hi).1
          exact more_len (q0.2 i r _ hi (List.getElem?_eq_getElem (by rw [← q0.1]; exact hlt))) (HC0.out _ (List.getElem_mem _))
        · obtain ⟨i, hi⟩ := List.mem_iff_getElem?.1 hr
          have hlt := (List.getElem?_eq_some_iff.1 hi).1
          exact more_len (q1.2 i r _ hi (List.getElem?_eq_getElem (by rw [← q1.1]; exact hlt))) (HC1.out _ (List.getElem_mem _))
      have HM := Lib.hid hm'; clear hm'
      have Q0 := Lib.hid q0; clear q0
      have Q1 := Lib.hid q1; clear q1
      have G0 := Lib.hid e0; clear e0
      have G1 := Lib.hid e1; clear e1
      have c0' := hb2.cell 0
      have c1' := hb2.cell 1
      have c2' := hb2.cell 2
      have d0 := hb1.cell 0
      have d1' := hb1.cell 1
      have d2 := hb1.cell 2
      have f0 := hb1.frozen 0
      have f1 := hb1.frozen 1
      have f2 := hb1.frozen 2
      have z1 := hb1.lt
      have z2 := hb2.lt
      dsimp only [List.getElem?_cons_zero, List.getElem?_cons_succ] at c0' c1' c2' d0 d1' d2
      go_wp2
      have hx := ((hb1.set 0 (.int .i64 m.doubt)).set 1 (.slice a0 l0.length c0)).set 2 (.slice a1 l1.length c1)
      have e0 := hx.cell 0
      have e1 := hx.cell 1
      have e2 := hx.cell 2
      simp only [List.set_cons_zero, List.set_cons_succ, List.getElem?_cons_zero, List.getElem?_cons_succ] at e0 e1 e2
      have g1 := grown_cell wr ⟨w.heap.size + 1, 0, none⟩ (.int .i64 m.doubt)
      have g2 := grown_cell (wr.setCell ⟨w.heap.size + 1, 0, none⟩ (.int .i64 m.doubt)) ⟨w.heap.size + 1, 1, none⟩ (.slice a0 l0.length c0)
      have g3 := grown_cell ((wr.setCell ⟨w.heap.size + 1, 0, none⟩ (.int .i64 m.doubt)).setCell ⟨w.heap.size + 1, 1, none⟩ (.slice a0 l0.length c0)) ⟨w.heap.size + 1, 2, none⟩ (.slice a1 l1.length c1)
      have hC' := ((hC.low g1 (by simp)).low g2 (by simp)).low g3 (by simp)
      have G0' := G0.out
      have G1' := G1.out
      refine bodyPost_ret (v := .agg #[.int .i64 m.doubt, .slice a0 l0.length c0, .slice a1 l1.length c1]) (by simp [results, Try.results7, go_sem, e0, e1, e2]) rfl
        ⟨⟨m.doubt, ⟨a0, c0, l0'⟩, ⟨a1, c1, l1'⟩⟩, by unfold TabV.v; dsimp only; rw [G0', G1'], hC'.riv2 G0' G1' (by omega) (by omega) (fun r hr => by have := HM.out r hr; omega), ?_, ((hB.setCell (by simp) _).setCell (by simp) _).setCell (by simp) _⟩
      intro h
      unfold tabOf
      split
      · exact tabMore_f2 Q0.out
      · exact tabMore_f2 Q1.out
end Go.Proofs.Ytbppjebpnpgenaa

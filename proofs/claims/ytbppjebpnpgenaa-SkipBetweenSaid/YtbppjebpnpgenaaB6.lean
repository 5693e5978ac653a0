/- slices.Collect of an iterator over hopes that may turn one map. -/
import Derived.Test.YtbppjebpnpgenaaB5
namespace Go.Proofs.Ytbppjebpnpgenaa
open Go Go.RowKit

def apAssign : Code := (Code.region 2
        #[{ dst := some 5, op := Op.alloc 33, type := 0, pos := "iter.go:51", after := #[], guard := none },
          { dst := none, op := Op.store 33 (Operand.tmp 5) (Operand.tmp 7), type := 0, pos := "iter.go:51",
            after := #[{ on := 0, ground := Ground.data }, { on := 0, ground := Ground.phase }], guard := none }]
        false)
def apBody : Code := (Code.block 1
        (Code.region 3
          #[{ dst := some 8, op := Op.load 66 (Operand.tmp 2), type := 66, pos := "iter.go:52", after := #[],
              guard := none },
            { dst := some 9, op := Op.load 33 (Operand.tmp 5), type := 33, pos := "iter.go:52", after := #[],
              guard := none },
            { dst := some 10, op := Op.buildSlice 66 1 #[(0, Operand.tmp 9)], type := 66, pos := "iter.go:52",
              after := #[{ on := 1, ground := Ground.data }], guard := none },
            { dst := some 11,
              op :=
                Op.call
                  { callee := Callee.builtin Builtin.append, args := #[Operand.tmp 8, Operand.tmp 10],
                    argTypes := #[66, 66] },
              type := 66, pos := "iter.go:52",
              after := #[{ on := 0, ground := Ground.data }, { on := 2, ground := Ground.data }], guard := none },
            { dst := none, op := Op.store 66 (Operand.tmp 2) (Operand.tmp 11), type := 0, pos := "iter.go:52",
              after :=
                #[{ on := 3, ground := Ground.data }, { on := 3, ground := Ground.chain },
                  { on := 0, ground := Ground.phase }, { on := 1, ground := Ground.phase },
                  { on := 2, ground := Ground.phase }, { on := 3, ground := Ground.phase }],
              guard := none }]
          false))
/-- The loop's record. -/
def apRec (fn : FuncId) (sv : Value) (Bs D : Nat) (st : LoopState) : Loop :=
  { state := st, pending := none, fn, tmps := #[.slice none 0 0, sv, .pointer (some ⟨Bs, 0, none⟩), undef, .slice none 0 0, undef, sv, undef, undef, undef, undef, undef, undef], params := #[7], assign := apAssign, body := apBody, defers := D }

/-- Between two rounds. -/
structure ApAt (w0 : World) (bm : Nat) (hs : List Hp) (fn : FuncId) (sv : Value) (l D : Nat) (k : Nat) (W : World) : Prop where
  box : ∃ v, Blk W w0.heap.size 66 [v] ∧ W.ownsRow w0.heap.size 33 2 v k (flatH (hs.take k))
  L : W.heap[l]? = some (.loop (apRec fn sv w0.heap.size D .ready))
  K : W.heap[D]? = some (.deferred (some []))
  bx : BX w0.heap.size bm w0 W

theorem own_ne_block {W : World} {base : Nat} {e : TypeId} {size : Nat} {v : Value} {k : Nat} {xs : List Value} (h : W.ownsRow base e size v k xs) {j : Nat} {o : Obj} (hj : W.heap[j]? = some o) (hno : ∀ cur, o ≠ .cells cur e (0, 0)) :
    v.ownBlock = none ∨ v.ownBlock ≠ some j := by
  rcases h.2 with ⟨rfl, _⟩ | ⟨g, cap, cur, rfl, _, hgb, _⟩
  · exact .inl rfl
  · refine .inr fun e' => ?_
    have : g = j := by simpa [Value.ownBlock] using e'
    subst this; rw [hgb] at hj; cases hj; exact hno cur rfl
theorem own_ne_row {W : World} {base : Nat} {e : TypeId} {size : Nat} {v : Value} {k : Nat} {xs : List Value} (h : W.ownsRow base e size v k xs) {j : Nat} {o : Obj} (hj : W.heap[j]? = some o) (hno : ∀ cur, o ≠ .cells cur e (0, 0)) : some j ≠ v.ownBlock := by
  rcases own_ne_block h hj hno with e | e
  · rw [e]; simp
  · exact fun e' => e e'.symm
theorem grown_putObj (W : World) (l : Nat) (o : Obj) : W.grownBy (W.putObj l o) (some l) :=
  ⟨rfl, rfl, rfl, by simp, fun k _ hk => World.putObj_heap_other (fun e => hk (by rw [e]))⟩
theorem grown_setCell (W : World) (b o : Nat) (v : Value) : W.grownBy (W.setCell ⟨b, o, none⟩ v) (some b) :=
  ⟨rfl, rfl, rfl, by simp [World.setCell], fun k _ hk => Below.heap_setCell _ _ _ k (fun e => hk (by rw [e]))⟩

theorem ApAt.step {w0 : World} {bm : Nat} {hs : List Hp} {fn : FuncId} {sv : Value} {l D k : Nat} {W W' : World} (h : ApAt w0 bm hs fn sv l D k W) (hl : w0.heap.size ≤ l) (hD : w0.heap.size ≤ D) (hb : bm < w0.heap.size) (hx : BX W.heap.size bm W W') : ApAt w0 bm hs fn sv l D k W' := by
  obtain ⟨v, hv, hr⟩ := h.box
  have hs' := h.bx.size
  refine ⟨⟨v, hv.bx hx hv.lt (by omega), hr.kept (hx.grown (Nat.le_refl _)) ?_⟩, (hx.block l (Array.getElem?_eq_some_iff.1 h.L).1 (by omega)).trans h.L, (hx.block D (Array.getElem?_eq_some_iff.1 h.K).1 (by omega)).trans h.K, h.bx.trans (hx.mono hs')⟩
  cases hk : v.ownBlock with
  | none => exact .inl rfl
  | some j =>
    have := hr.lt j hk
    exact .inr (fun e => by cases e; omega)

set_option maxRecDepth 100000 in
set_option maxHeartbeats 2000000 in
theorem apYield (w0 : World) (bm : Nat) (hs : List Hp) (fn : FuncId) (sv : Value) (l D : Nat) (hl0 : w0.heap.size + 1 ≤ l) (hD0 : w0.heap.size + 1 ≤ D) (hDl : D ≠ l) (_hbm : bm < w0.heap.size)
    (k : Nat) (hk : k < hs.length) (hlen : hs.length ≤ 60) (W : World) (h : ApAt w0 bm hs fn sv l D k W) :
    YieldAt Fence.wide 0 Try.prog l #[(hs[k]?.getD default).v] W fun e W' => e = .returned (.bool true) ∧ ApAt w0 bm hs fn sv l D (k + 1) W' ∧ Below w0.heap.size W W' := by
  obtain ⟨i0, hi, hz0, hz1, hz2⟩ := info_parts Try.infoHope
  obtain ⟨v, hv, hrow⟩ := h.box
  have HS := Lib.hid (flatH_succ hs k hk)
  generalize hs[k]?.getD default = x at *
  refine ⟨fn, #[.slice none 0 0, sv, .pointer (some ⟨w0.heap.size, 0, none⟩), undef, .slice none 0 0, undef, sv, x.v, undef, undef, undef, undef, undef], apAssign, apBody, by simpa [apRec] using run_yield (P := Try.prog) (args := #[x.v]) h.L rfl, roundIn_of_wpIn trivial ?_⟩
  have hl : l < W.heap.size := (Array.getElem?_eq_some_iff.1 h.L).1
  have hDlt : D < W.heap.size := (Array.getElem?_eq_some_iff.1 h.K).1
  have hBlt := hv.lt
  unfold apAssign Hp.v
  gi_wp2_with (rw [Oper.semAt_eq _ _ _ (fun c h => by cases h)]; go_simp; try go_bits)
  obtain ⟨Wa, hWa⟩ : ∃ Wa, W.alloc (.cells #[.int .i64 x.lo, .int .i64 x.hi] 33) = Wa := ⟨_, rfl⟩
  rw [hWa]
  have hga : W.grownBy Wa none := by rw [← hWa]; exact World.grownBy_alloc _ _ _
  have hza : Wa.heap.size = W.heap.size + 1 := by rw [← hWa]; simp
  have hxa : Blk Wa W.heap.size 33 [.int .i64 x.lo, .int .i64 x.hi] := by rw [← hWa]; exact Blk.new W _ [_, _]
  have hva : Blk Wa w0.heap.size 66 [v] := hv.grown hga (by simp)
  have hrowa : Wa.ownsRow w0.heap.size 33 2 v k (flatH (hs.take k)) := hrow.kept hga (by cases v.ownBlock <;> simp)
  have hLa : Wa.heap[l]? = some (.loop (apRec fn sv w0.heap.size D .ready)) := (hga.block l hl (by simp)).trans h.L
  have hKa : Wa.heap[D]? = some (.deferred (some [])) := (hga.block D hDlt (by simp)).trans h.K
  clear hWa
  have hbr := run_beginRound (P := Try.prog) hLa rfl
  obtain ⟨W2, hW2⟩ : ∃ W2, Wa.putObj l (.loop { apRec fn sv w0.heap.size D .ready with state := .busy }) = W2 := ⟨_, rfl⟩
  rw [hW2] at hbr
  have hg2 : Wa.grownBy W2 (some l) := by rw [← hW2]; exact grown_putObj _ _ _
  have hz2' : W2.heap.size = Wa.heap.size := by rw [← hW2]; simp
  have hL2 : W2.heap[l]? = some (.loop (apRec fn sv w0.heap.size D .busy)) := by rw [← hW2]; exact World.putObj_heap_same (by omega)
  clear hW2
  have hx2 : Blk W2 W.heap.size 33 [.int .i64 x.lo, .int .i64 x.hi] := hxa.grown hg2 (by intro e; cases e; omega)
  have hv2 : Blk W2 w0.heap.size 66 [v] := hva.grown hg2 (by intro e; cases e; omega)
  have hrow2 : W2.ownsRow w0.heap.size 33 2 v k (flatH (hs.take k)) := hrowa.kept hg2 (own_ne_block hrowa hLa (by intro cur e; cases e))
  have hK2 : W2.heap[D]? = some (.deferred (some [])) := (hg2.block D (by omega) (by intro e; cases e; omega)).trans hKa
  refine ⟨W2, hbr, ?_⟩
  have c0 := hv2.cell 0
  have f0 := hv2.frozen 0
  have cx0 := hx2.cell 0
  have cx1 := hx2.cell 1
  dsimp only [List.getElem?_cons_zero, List.getElem?_cons_succ] at c0 cx0 cx1
  have hzz : W.heap.size < W2.heap.size := by omega
  have hBl : w0.heap.size < W2.heap.size := by omega
  unfold apBody
  have hnews : ∀ j u, [Value.int .i64 x.lo, Value.int .i64 x.hi][j]? = some u → (W2.alloc (.cells #[.int .i64 x.lo, .int .i64 x.hi] 33)).cell? ((⟨W.heap.size + 1, 0, none⟩ : Addr).add j) = some u := by
    have := World.news_of_block (cs := #[.int .i64 x.lo, .int .i64 x.hi]) (t := 33) (fr := (0, 0)) (World.alloc_heap_new W2 (.cells #[.int .i64 x.lo, .int .i64 x.hi] 33))
    rw [show W2.heap.size = W.heap.size + 1 by omega] at this
    exact this
  gi_wp2_with (first
    | (gi_at_builtin; refine wpListIn_append_own _ rfl _ _ 66 rfl w0.heap.size 33 i0 _ 2 16 Try.underlying66 hi hz0 hz1 hz2 rfl (by decide) _ _ _ rfl (hrow2.alloc _) ⟨W.heap.size + 1, 0, none⟩ 1 1 [.int .i64 x.lo, .int .i64 x.hi] rfl rfl hnews (by simp [Value.oneCell']) (by simp only [maxLen]; omega) (by omega) (by simp; omega) ?_)
    | (rw [Oper.semAt_eq _ _ _ (fun c h => by cases h)]; go_simp; try go_bits))
  intro v' w3 hown' hg3 hnil3
  have hv3 : Blk w3 w0.heap.size 66 [v] := (hv2.alloc _).grown hg3 (own_ne_row hrow2 hv2 (by intro cur e; cases e))
  obtain ⟨g', cap', cur', rfl, hbase', hgb', hr1, hr2, hr3, hr4⟩ : ∃ g' cap' cur', v' = .slice (some ⟨g', 0, none⟩) (k + 1) cap' ∧ w0.heap.size ≤ g' ∧ w3.heap[g']? = some (.cells cur' 33 (0, 0)) ∧ k + 1 ≤ cap' ∧ cap' ≤ maxLen ∧ cur'.size = cap' * 2 ∧ cur'.toList.take ((k + 1) * 2) = flatH (hs.take k) ++ [.int .i64 x.lo, .int .i64 x.hi] := by
    rcases hown'.2 with ⟨_, h0⟩ | h'
    · exact absurd h0 (by omega)
    · exact h'
  have c3 := hv3.cell 0
  have f3 := hv3.frozen 0
  have l3 := hv3.lt
  dsimp only [List.getElem?_cons_zero] at c3
  gi_wp2_with (rw [Oper.semAt_eq _ _ _ (fun c h => by cases h)]; go_simp; try go_bits)
  have hv3' := hg3
  have hL3 : w3.heap[l]? = some (.loop (apRec fn sv w0.heap.size D .busy)) := (hg3.block l (by simp; omega) (own_ne_row hrow2 hL2 (by intro cur e; cases e))).trans ((Below.heap_alloc _ _ l (by omega)).trans hL2)
  have hK3 : w3.heap[D]? = some (.deferred (some [])) := (hg3.block D (by simp; omega) (own_ne_row hrow2 hK2 (by intro cur e; cases e))).trans ((Below.heap_alloc _ _ D (by omega)).trans hK2)
  have hs3 := hg3.size
  rw [World.size_alloc] at hs3
  obtain ⟨w4, hw4⟩ : ∃ w4, w3.setCell ⟨w0.heap.size, 0, none⟩ (.slice (some ⟨g', 0, none⟩) (k + 1) cap') = w4 := ⟨_, rfl⟩
  rw [hw4]
  have hg4 : w3.grownBy w4 (some w0.heap.size) := by rw [← hw4]; exact grown_setCell _ _ _ _
  have hv4 : Blk w4 w0.heap.size 66 [.slice (some ⟨g', 0, none⟩) (k + 1) cap'] := by rw [← hw4]; exact hv3.set 0 _
  clear hw4
  have hL4 : w4.heap[l]? = some (.loop (apRec fn sv w0.heap.size D .busy)) := (hg4.block l (by omega) (by intro e; cases e; omega)).trans hL3
  have hK4 : w4.heap[D]? = some (.deferred (some [])) := (hg4.block D (by omega) (by intro e; cases e; omega)).trans hK3
  have hrow4 := hown'.kept hg4 (own_ne_block hown' hv3 (by intro cur e; cases e))
  obtain ⟨w5, hw5⟩ : ∃ w5, w4.putObj l (.loop { apRec fn sv w0.heap.size D .busy with state := if (none : Option Code).isNone then .ready else .done, pending := none }) = w5 := ⟨_, rfl⟩
  have hend := run_endRound (P := Try.prog) none hL4
  rw [hw5] at hend
  have hg5 : w4.grownBy w5 (some l) := by rw [← hw5]; exact grown_putObj _ _ _
  have hs4 := hg4.size
  have hL5 : w5.heap[l]? = some (.loop (apRec fn sv w0.heap.size D .ready)) := by rw [← hw5]; exact World.putObj_heap_same (by omega)
  clear hw5
  have hv5 : Blk w5 w0.heap.size 66 [.slice (some ⟨g', 0, none⟩) (k + 1) cap'] := hv4.grown hg5 (by intro e; cases e; omega)
  have hK5 : w5.heap[D]? = some (.deferred (some [])) := (hg5.block D (by omega) (by intro e; cases e; omega)).trans hK4
  have hrow5 := hrow4.kept hg5 (own_ne_block hrow4 hL4 (by intro cur e; cases e))
  have hsz := h.bx.size
  have hB : Below w0.heap.size W w5 := ((((((Below.refl w0.heap.size W).grown hga (by omega) (by simp)).grown hg2 (by omega) (by intro j e; cases e; omega)).alloc (by omega) _).grown hg3 (by simp; omega) (fun j e => (hrow2.lt j e).1)).grown hg4 (by omega) (by intro j e; cases e; omega)).grown hg5 (by omega) (by intro j e; cases e; omega)
  refine ⟨_, w5, hend, rfl, ⟨⟨_, hv5, ?_⟩, hL5, hK5, h.bx.trans (BX.of_below hB)⟩, hB⟩
  rw [HS.out]
  exact hrow5
end Go.Proofs.Ytbppjebpnpgenaa

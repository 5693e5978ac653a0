/- Rivals copied: walked. -/
import Derived.Test.YtbppjebpnpgenaaC2
namespace Go.Proofs.Ytbppjebpnpgenaa
open Go Go.RowKit
attribute [local go_sem ↓] Go.wp_at_zero Go.wp_at_succ

theorem grown_cell (w : World) (a : Addr) (v : Value) : w.grownBy (w.setCell a v) (some a.block) :=
  ⟨rfl, rfl, rfl, by simp, fun k _ hne => Below.heap_setCell w a v k (fun e => hne (by rw [e]))⟩
theorem CopAt.mono {base base' : Nat} {W : World} {S0 S1 : Value} {l0 l1 : List RowV} (h : CopAt base W S0 S1 l0 l1) (hb : base' ≤ base) : CopAt base' W S0 S1 l0 l1 := by
  have key : ∀ {e size n : Nat} {v : Value} {xs : List Value}, W.ownsRow base e size v n xs → W.ownsRow base' e size v n xs := fun o => ⟨o.1, o.2.imp id fun ⟨g, cap, cur, h1, h2, h3⟩ => ⟨g, cap, cur, h1, Nat.le_trans hb h2, h3⟩⟩
  exact ⟨Nat.le_trans hb h.le, key h.t0, key h.t1, h.ap, fun r hr => key (h.each r hr), h.apart, h.ap0⟩

/-- Rivals with the same counts, in memory of their own. -/
structure CopyR (m m' : RivV) (base : Nat) (W : World) : Prop where
  at_ : CopAt base W m'.s0.v m'.s1.v m'.s0.rows m'.s1.rows
  d0 : m'.s0.data = m.s0.data
  d1 : m'.s1.data = m.s1.data
  dd : m'.doubt = m.doubt

theorem step_app_row {ops : Array Oper} {o : Oper} {a : Act} {K : Act → World → Prop} {Q : Exit → Act → World → Prop} {E : Prop} {w : World} (s x : Operand) (hgd : o.guard = none)
    (ho : o.op = .call { callee := .builtin .append, args := #[s, x], argTypes := #[22, 22] }) {B k : Nat} {v : Value} {xs : List Value} (hs : a.eval s = v) (hown : w.ownsRow B 57 1 v k xs)
    (nb : Nat) (u : RowV) (hx : a.eval x = .slice (some ⟨nb, 0, none⟩) 1 1) (hc : w.cell? ⟨nb, 0, none⟩ = some u.v) (hk : k ≤ 60) (hB : B ≤ w.heap.size)
    (h : ∀ g cap w', w'.ownsRow B 57 1 (.slice (some ⟨g, 0, none⟩) (k + 1) cap) (k + 1) (xs ++ [u.v]) → w.grownBy w' v.ownBlock → (v.ownBlock = some g ∨ g = w.heap.size) → K (a.put o.dst (.slice (some ⟨g, 0, none⟩) (k + 1) cap)) w') :
    if Region.wanted o (yielded ops a.tmps) = true then Oper.wp Try.prog o a w K Q else E := by
  obtain ⟨i, hi, hz0, hz1, hz2⟩ := info_parts Try.infoRow
  exact step_append_lies w hgd s x 22 ho B 57 i _ 1 24 Try.underlying22 hi hz0 hz1 hz2 rfl (by omega) v k xs hs hown ⟨nb, 0, none⟩ 1 1 _ hx (by rfl) (news1 hc) (by intro x hx; simp at hx; subst hx; rfl) (by omega) (by simp only [maxLen]; omega) (by omega) hB _ rfl
    (fun g cap w' h1 h2 h3 _ => h g cap w' h1 h2 h3)
/-- A row's numbers behind an empty row that was just made. -/
theorem step_app_ints {ops : Array Oper} {o : Oper} {a : Act} {K : Act → World → Prop} {Q : Exit → Act → World → Prop} {E : Prop} {w : World} (s x : Operand) (hgd : o.guard = none)
    (ho : o.op = .call { callee := .builtin .append, args := #[s, x], argTypes := #[57, 57] }) {B : Nat} (hs : a.eval s = .slice (some ⟨B, 0, none⟩) 0 0) (hown : w.ownsRow B 3 1 (.slice (some ⟨B, 0, none⟩) 0 0) 0 [])
    {r : RowV} (hx : a.eval x = r.v) (hr : r.In w) (h1 : 0 < r.xs.length) (hk : r.xs.length ≤ 60) (hB : B ≤ w.heap.size)
    (h : ∀ g cap w', w'.ownsRow B 3 1 (.slice (some ⟨g, 0, none⟩) r.xs.length cap) r.xs.length (r.xs.map (.int .i64)) → w.grownBy w' (some B) → K (a.put o.dst (.slice (some ⟨g, 0, none⟩) r.xs.length cap)) w') :
    if Region.wanted o (yielded ops a.tmps) = true then Oper.wp Try.prog o a w K Q else E := by
  obtain ⟨i, hi, hz0, hz1, hz2⟩ := info_parts Try.infoInt
  obtain ⟨b, off, ha, hlt, hc⟩ := hr.row (by simp; intro e; rw [e] at h1; simp at h1)
  have hx' : a.eval x = .slice (some ⟨b, off, none⟩) r.xs.length r.c := by rw [hx]; unfold RowV.v; rw [ha]
  have hnews : ∀ j u, (r.xs.map (Value.int .i64))[j]? = some u → w.cell? ((⟨b, off, none⟩ : Addr).add j) = some u := by
    intro j u hj
    have hj2 : j < (r.xs.map (Value.int .i64)).length := (List.getElem?_eq_some_iff.1 hj).1
    rw [Addr.add_lit, hc j hj2, hj]
  exact step_append_lies w hgd s x 57 ho B 3 i _ 1 8 Try.underlying57 hi hz0 hz1 hz2 rfl (by omega) _ 0 [] hs hown ⟨b, off, none⟩ r.xs.length r.c _ hx' (by simp) hnews (ints_oneCell _ _) h1 (by simp only [maxLen]; omega) (by omega) hB _ rfl
    (fun g cap w' h1 h2 h3 _ => by rw [Nat.zero_add] at *; exact h g cap w' (by simpa using h1) h2)

set_option maxRecDepth 100000 in
set_option maxHeartbeats 2000000 in
theorem copied_walk (m : RivV) (w : World) (hin : m.In w) (hg : GoodM m) :
    Calls Try.prog 15 #[m.v] w fun e w' => ∃ m', e = .returned m'.v ∧ CopyR m m' w.heap.size w' ∧ Below w.heap.size w w' := by
  have g0 := hg.rows 0
  have g1 := hg.rows 1
  have e0 := hg.each 0
  have e1 := hg.each 1
  have t0 : tabOf m 0 = m.s0 := rfl
  have t1 : tabOf m 1 = m.s1 := rfl
  rw [t0] at g0 e0
  rw [t1] at g1 e1
  clear t0 t1 hg
  obtain ⟨d, ⟨a0, c0, rs0⟩, ⟨a1, c1, rs1⟩⟩ := m
  have h0 := hin.t0
  have h1 := hin.t1
  clear hin
  have l0 : (rs0.length : Int) ≤ 9223372036854775807 := by dsimp only at g0; omega
  have l1 : (rs1.length : Int) ≤ 9223372036854775807 := by dsimp only at g1; omega
  have E0 := Lib.hid e0; clear e0
  have E1 := Lib.hid e1; clear e1
  unfold RivV.v TabV.v
  dsimp only at g0 g1
  have i0 : ∀ w : World, (Instr.index 23 (.agg #[.slice a0 rs0.length c0, .slice a1 rs1.length c1]) (.int .i64 0)).run Try.prog w = .ok (.slice a0 rs0.length c0) w := fun _ => by kernel_rfl
  have i1 : ∀ w : World, (Instr.index 23 (.agg #[.slice a0 rs0.length c0, .slice a1 rs1.length c1]) (.int .i64 1)).run Try.prog w = .ok (.slice a1 rs1.length c1) w := fun _ => by kernel_rfl
  go_enter Try.func15, Try.ntmps15
  go_wp2
  go_loopw [13] (fun i W => ∃ (k : Nat) (z : Int) (a0' : Option Addr) (c0' : Nat) (l0' : List RowV) (a1' : Option Addr) (c1' : Nat) (l1' : List RowV), k ≤ 2 ∧ z = k ∧ i = .int .i64 z ∧ Below w.heap.size w W ∧ Blk W (w.heap.size + 1) 25 [.int .i64 0, .slice none 0 0, .slice none 0 0] ∧
      Blk W (w.heap.size + 1 + 1) 25 [.int .i64 d, .slice a0' l0'.length c0', .slice a1' l1'.length c1'] ∧ CopAt (w.heap.size + 1 + 1 + 1) W (.slice a0' l0'.length c0') (.slice a1' l1'.length c1') l0' l1' ∧
      (k = 0 → a0' = none ∧ c0' = 0 ∧ l0' = []) ∧ (k ≤ 1 → a1' = none ∧ c1' = 0 ∧ l1' = []) ∧ (1 ≤ k → l0'.map (·.xs) = rs0.map (·.xs)) ∧ (2 ≤ k → l1'.map (·.xs) = rs1.map (·.xs))) (fun i _ => 2 - (intOf i).toNat)
  case atStart =>
    have hB : Below w.heap.size w (((w.alloc (.cells #[.int .i64 d, .slice a0 rs0.length c0, .slice a1 rs1.length c1] 25)).alloc (.cells #[.int .i64 0, .slice none 0 0, .slice none 0 0] 25)).alloc (.cells #[.int .i64 d, .slice none 0 0, .slice none 0 0] 25)) := by go_grown
    exact ⟨0, 0, none, 0, [], none, 0, [], by omega, rfl, rfl, hB, (Blk.new2 w _ 25 [.int .i64 0, .slice none 0 0, .slice none 0 0]).alloc _, Blk.new3 w _ _ 25 [.int .i64 d, .slice none 0 0, .slice none 0 0],
      CopAt.nil _ (by simp), fun _ => ⟨rfl, rfl, rfl⟩, fun _ => ⟨rfl, rfl, rfl⟩, by omega, by omega⟩
  case round =>
    obtain ⟨k, z, a0', c0', l0', a1', c1', l1', hk, hz, rfl, hB, hb1, hb2, hC, k0, k1, k2, k3⟩ := hrel
    have hk3 : k = 0 ∨ k = 1 ∨ k = 2 := by omega
    rcases hk3 with rfl | rfl | rfl
    · obtain rfl : z = 0 := by omega
      obtain ⟨rfl, rfl, rfl⟩ := k0 rfl
      obtain ⟨rfl, rfl, rfl⟩ := k1 (by omega)
      clear k0 k1 k2 k3 hz hk
      go_wp2
      obtain ⟨wo, hwo⟩ : ∃ wo : World, wo = wr := ⟨_, rfl⟩
      go_loopw [19] (fun j W => ∃ q a0' c0' l0', q ≤ rs0.length ∧ j = .int .i64 (q : Nat) ∧ Below w.heap.size w W ∧ Blk W (w.heap.size + 1) 25 [.int .i64 0, .slice none 0 0, .slice none 0 0] ∧
          Blk W (w.heap.size + 1 + 1) 25 [.int .i64 d, .slice a0' l0'.length c0', .slice none 0 0] ∧ CopAt (w.heap.size + 1 + 1 + 1) W (.slice a0' l0'.length c0') (.slice none 0 0) l0' [] ∧
          l0'.map (·.xs) = (rs0.map (·.xs)).take q) (fun j _ => rs0.length - (intOf j).toNat)
      case atStart => exact ⟨0, none, 0, [], by omega, rfl, hB, hb1, hb2, hC, rfl⟩
      case round =>
        obtain ⟨q, a0', c0', l0', hq, rfl, hB', y1, y2, hC', hd⟩ := hrel
        have hlen : l0'.length = q := by have := congrArg List.length hd; simp at this; omega
        clear hC hb1 hb2 hB
        by_cases hlt : q < rs0.length
        · obtain ⟨b, off, r, ha, hbl, hrk, hri, hcell⟩ := (h0.below hB').at_ q hlt
          have hrow := E0.out r.xs (List.mem_map.2 ⟨r, List.mem_of_getElem? hrk, rfl⟩)
          have hr17 := hrow.1
          have hdn : ∀ (a : Option Addr) (c : Nat), (l0' ++ [(⟨a, c, r.xs⟩ : RowV)]).map (·.xs) = (rs0.map (·.xs)).take (q + 1) := by
            intro a c
            dsimp only at hrk
            rw [List.map_append, hd, List.take_add_one, List.getElem?_map, hrk]
            rfl
          have HD := Lib.hid hdn; clear hdn hd hrow
          have HK := Lib.hid hrk; clear hrk
          have HL := Lib.hid hlen
          have hr1 : 0 < r.xs.length := by omega
          have hr60 : r.xs.length ≤ 60 := by omega
          have hl60 : l0'.length ≤ 60 := by omega
          clear hr17 hlen
          have z2 := y2.lt
          have hsz := hB'.size
          dsimp only at ha hcell
          subst ha
          have hv : ∀ j, (Value.slice a0' l0'.length c0').ownBlock = some j → w.heap.size + 1 + 1 + 1 ≤ j := fun j hj => (hC'.t0.lt j hj).1
          have d1 := y2.cell 1
          have f1 := y2.frozen 1
          dsimp only [List.getElem?_cons_zero, List.getElem?_cons_succ] at d1
          clear i0 i1
          go_wp2
          refine wp_region_held_drew (S := fun _ => True) (by kernel_rfl) trivial (fun _ => ?_)
          refine wpAnyH_takeL 0 (v := ?_) rfl (by kernel_rfl) (by kernel_rfl) (by kernel_rfl) (fun _ _ _ h => h) trivial (by rfl) ?hy ?_
          case hy => (intro V hSw; (try dsimp only at hSw); go_simp; try with_reducible rfl)
          (try simp only [Act.put, List.setIfInBounds_toArray, List.set_cons_zero, List.set_cons_succ])
          refine wpAnyH_takeL 1 (v := ?_) rfl (by kernel_rfl) (by kernel_rfl) (by kernel_rfl) (fun _ _ _ h => h) trivial (by rfl) ?hy ?_
          case hy => (intro V hSw; (try dsimp only at hSw); go_simp; try with_reducible rfl)
          (try simp only [Act.put, List.setIfInBounds_toArray, List.set_cons_zero, List.set_cons_succ])
          refine wpAnyH_takeL 2 (v := ?_) rfl (by kernel_rfl) (by kernel_rfl) (by kernel_rfl) (fun _ _ _ h => h) trivial (by rfl) ?hy ?_
          case hy => (intro V hSw; (try dsimp only at hSw); go_simp; try with_reducible rfl)
          (try simp only [Act.put, List.setIfInBounds_toArray, List.set_cons_zero, List.set_cons_succ])
          refine wpAnyH_takeL 3 (v := ?_) rfl (by kernel_rfl) (by kernel_rfl) (by kernel_rfl) (fun _ _ _ h => h) trivial (by rfl) ?hy ?_
          case hy => (intro V hSw; (try dsimp only at hSw); go_simp; try with_reducible rfl)
          (try simp only [Act.put, List.setIfInBounds_toArray, List.set_cons_zero, List.set_cons_succ])
          refine wpAnyH_takeL 6 (v := ?_) rfl (by kernel_rfl) (by kernel_rfl) (by kernel_rfl) (fun _ _ _ h => h) trivial (by rfl) ?hy ?_
          case hy => (intro V hSw; (try dsimp only at hSw); go_simp; try with_reducible rfl)
          (try simp only [Act.put, List.setIfInBounds_toArray, List.set_cons_zero, List.set_cons_succ])
          refine wpAnyH_takeL 10 (v := ?_) rfl (by kernel_rfl) (by kernel_rfl) (by kernel_rfl) (fun _ _ _ h => h) trivial (by rfl) ?hy ?_
          case hy => (intro V hSw; (try dsimp only at hSw); go_simp; try with_reducible rfl)
          (try simp only [Act.put, List.setIfInBounds_toArray, List.set_cons_zero, List.set_cons_succ])
          refine wpAnyH_ready (rs := [4, 5]) (by kernel_rfl) (by simp) ?_
          refine allReady_cons 4 rfl (fun K hK => ?_) ?_
          · go_simp
            refine hK.out _ _ trivial (fun _ => ?_)
            clear hK K
            (try simp only [Act.put, List.setIfInBounds_toArray, List.set_cons_zero, List.set_cons_succ])
            refine wpAnyH_ready (rs := [5]) (by kernel_rfl) (by simp) ?_
            refine allReady_cons 5 rfl (fun K hK => ?_) AllReadyH.nil
            go_simp
            refine hK.out _ _ trivial (fun _ => ?_)
            clear hK K
            (try simp only [Act.put, List.setIfInBounds_toArray, List.set_cons_zero, List.set_cons_succ])
            refine wpAnyH_ready (rs := [7]) (by kernel_rfl) (by simp) ?_
            refine allReady_cons 7 rfl (fun K hK => ?_) AllReadyH.nil
            refine step_app_ints _ _ (by rfl) (by rfl) (B := wr.heap.size) (by rfl) (World.ownsRow_made wr.drew #[] 0 (Nat.le_refl _) (by decide) (by simp)) (r := r) (by rfl) (hri.below (by go_grown)) hr1 hr60 (by simp) ?_
            intro g cap V2 hown hgrow
            have hb2 : Below wr.heap.size wr V2 := Below.grown (by go_grown) hgrow (by simp) (by intro k hk; cases hk; simp)
            have u2 := y2.below hb2
            have c2 := u2.cell 1
            have zz2 := u2.lt
            have hs2 := hb2.size
            have hC2 := hC'.below hb2
            dsimp only [List.getElem?_cons_zero, List.getElem?_cons_succ] at c2
            refine hK.out _ _ trivial (fun _ => ?_)
            clear hK K
            (try simp only [Act.put, List.setIfInBounds_toArray, List.set_cons_zero, List.set_cons_succ])
            refine wpAnyH_ready (rs := [8]) (by kernel_rfl) (by simp) ?_
            refine allReady_cons 8 rfl (fun K hK => ?_) AllReadyH.nil
            go_simp
            refine hK.out _ _ trivial (fun _ => ?_)
            clear hK K
            (try simp only [Act.put, List.setIfInBounds_toArray, List.set_cons_zero, List.set_cons_succ])
            refine wpAnyH_ready (rs := [9]) (by kernel_rfl) (by simp) ?_
            refine allReady_cons 9 rfl (fun K hK => ?_) AllReadyH.nil
            refine step_app_row _ _ (by rfl) (by rfl) (B := w.heap.size + 1 + 1 + 1) (k := l0'.length) (v := .slice a0' l0'.length c0') (xs := l0'.map RowV.v) (by rfl) (hC2.t0.alloc _) _ ⟨some ⟨g, 0, none⟩, cap, r.xs⟩ (by rfl) (by exact cell_newest rfl) hl60 (by have := hC2.le; simp; omega) ?_
            intro g2 cap2 V4 hown2 hgrow2 hat2
            have hC4 := CopAt.app (r := ⟨some ⟨g, 0, none⟩, cap, r.xs⟩) hC' (hb2.alloc hs2 _) (hown.alloc _) hown2 hgrow2 hat2
            have hb4 : Below w.heap.size w V4 := (hB'.trans ((hb2.alloc hs2 _).mono hsz)).grown hgrow2 (by simp; omega) (by intro k hk; have := hv k hk; omega)
            have u4 := (u2.alloc (.cells #[(⟨some ⟨g, 0, none⟩, cap, r.xs⟩ : RowV).v] 57)).grown_row hgrow2 hv
            have u5 := ((y1.below hb2).alloc (.cells #[(⟨some ⟨g, 0, none⟩, cap, r.xs⟩ : RowV).v] 57)).grown_row hgrow2 (by intro k hk; have := hv k hk; omega)
            have c4 := u4.cell 1
            have f4 := u4.frozen 1
            have zz4 := u4.lt
            dsimp only [List.getElem?_cons_zero, List.getElem?_cons_succ] at c4
            refine hK.out _ _ trivial (fun _ => ?_)
            clear hK K
            (try simp only [Act.put, List.setIfInBounds_toArray, List.set_cons_zero, List.set_cons_succ])
            refine wpAnyH_takeL 11 (v := ?_) rfl (by kernel_rfl) (by kernel_rfl) (by kernel_rfl) (fun _ _ _ h => h) trivial (by rfl) ?hy ?_
            case hy => (intro V hSw; (try dsimp only at hSw); go_simp; try with_reducible rfl)
            (try simp only [Act.put, List.setIfInBounds_toArray, List.set_cons_zero, List.set_cons_succ])
            refine wpAnyH_ready (rs := [12]) (by kernel_rfl) (by simp) ?_
            refine allReady_cons 12 rfl (fun K hK => ?_) AllReadyH.nil
            go_simp
            refine hK.out _ _ trivial (fun _ => ?_)
            clear hK K
            (try simp only [Act.put, List.setIfInBounds_toArray, List.set_cons_zero, List.set_cons_succ])
            refine wpAnyH_done (by kernel_rfl) ?_ _
            go_wp2
            go_roundw
            case measure => simp only [intOf]; omega
            refine ⟨q + 1, some ⟨g2, 0, none⟩, cap2, l0' ++ [⟨some ⟨g, 0, none⟩, cap, r.xs⟩], by omega, by push_cast; rfl, hb4.setCell (by simp; omega) _, u5.other (by simp) _, ?_, ?_, HD.out _ _⟩
            · have := u4.set 1 (.slice (some ⟨g2, 0, none⟩) (l0'.length + 1) cap2)
              simpa using this
            · have := hC4.low (grown_cell V4 ⟨w.heap.size + 1 + 1, 1, none⟩ (.slice (some ⟨g2, 0, none⟩) (l0'.length + 1) cap2)) (by simp)
              simpa using this
          refine allReady_cons 5 rfl (fun K hK => ?_) AllReadyH.nil
          go_simp
          refine hK.out _ _ trivial (fun _ => ?_)
          clear hK K
          (try simp only [Act.put, List.setIfInBounds_toArray, List.set_cons_zero, List.set_cons_succ])
          refine wpAnyH_ready (rs := [4, 7]) (by kernel_rfl) (by simp) ?_
          refine allReady_cons 4 rfl (fun K hK => ?_) ?_
          · go_simp
            refine hK.out _ _ trivial (fun _ => ?_)
            clear hK K
            (try simp only [Act.put, List.setIfInBounds_toArray, List.set_cons_zero, List.set_cons_succ])
            refine wpAnyH_ready (rs := [7]) (by kernel_rfl) (by simp) ?_
            refine allReady_cons 7 rfl (fun K hK => ?_) AllReadyH.nil
            refine step_app_ints _ _ (by rfl) (by rfl) (B := wr.heap.size) (by rfl) (World.ownsRow_made wr.drew #[] 0 (Nat.le_refl _) (by decide) (by simp)) (r := r) (by rfl) (hri.below (by go_grown)) hr1 hr60 (by simp) ?_
            intro g cap V2 hown hgrow
            have hb2 : Below wr.heap.size wr V2 := Below.grown (by go_grown) hgrow (by simp) (by intro k hk; cases hk; simp)
            have u2 := y2.below hb2
            have c2 := u2.cell 1
            have zz2 := u2.lt
            have hs2 := hb2.size
            have hC2 := hC'.below hb2
            dsimp only [List.getElem?_cons_zero, List.getElem?_cons_succ] at c2
            refine hK.out _ _ trivial (fun _ => ?_)
            clear hK K
            (try simp only [Act.put, List.setIfInBounds_toArray, List.set_cons_zero, List.set_cons_succ])
            refine wpAnyH_ready (rs := [8]) (by kernel_rfl) (by simp) ?_
            refine allReady_cons 8 rfl (fun K hK => ?_) AllReadyH.nil
            go_simp
            refine hK.out _ _ trivial (fun _ => ?_)
            clear hK K
            (try simp only [Act.put, List.setIfInBounds_toArray, List.set_cons_zero, List.set_cons_succ])
            refine wpAnyH_ready (rs := [9]) (by kernel_rfl) (by simp) ?_
            refine allReady_cons 9 rfl (fun K hK => ?_) AllReadyH.nil
            refine step_app_row _ _ (by rfl) (by rfl) (B := w.heap.size + 1 + 1 + 1) (k := l0'.length) (v := .slice a0' l0'.length c0') (xs := l0'.map RowV.v) (by rfl) (hC2.t0.alloc _) _ ⟨some ⟨g, 0, none⟩, cap, r.xs⟩ (by rfl) (by exact cell_newest rfl) hl60 (by have := hC2.le; simp; omega) ?_
            intro g2 cap2 V4 hown2 hgrow2 hat2
            have hC4 := CopAt.app (r := ⟨some ⟨g, 0, none⟩, cap, r.xs⟩) hC' (hb2.alloc hs2 _) (hown.alloc _) hown2 hgrow2 hat2
            have hb4 : Below w.heap.size w V4 := (hB'.trans ((hb2.alloc hs2 _).mono hsz)).grown hgrow2 (by simp; omega) (by intro k hk; have := hv k hk; omega)
            have u4 := (u2.alloc (.cells #[(⟨some ⟨g, 0, none⟩, cap, r.xs⟩ : RowV).v] 57)).grown_row hgrow2 hv
            have u5 := ((y1.below hb2).alloc (.cells #[(⟨some ⟨g, 0, none⟩, cap, r.xs⟩ : RowV).v] 57)).grown_row hgrow2 (by intro k hk; have := hv k hk; omega)
            have c4 := u4.cell 1
            have f4 := u4.frozen 1
            have zz4 := u4.lt
            dsimp only [List.getElem?_cons_zero, List.getElem?_cons_succ] at c4
            refine hK.out _ _ trivial (fun _ => ?_)
            clear hK K
            (try simp only [Act.put, List.setIfInBounds_toArray, List.set_cons_zero, List.set_cons_succ])
            refine wpAnyH_takeL 11 (v := ?_) rfl (by kernel_rfl) (by kernel_rfl) (by kernel_rfl) (fun _ _ _ h => h) trivial (by rfl) ?hy ?_
            case hy => (intro V hSw; (try dsimp only at hSw); go_simp; try with_reducible rfl)
            (try simp only [Act.put, List.setIfInBounds_toArray, List.set_cons_zero, List.set_cons_succ])
            refine wpAnyH_ready (rs := [12]) (by kernel_rfl) (by simp) ?_
            refine allReady_cons 12 rfl (fun K hK => ?_) AllReadyH.nil
            go_simp
            refine hK.out _ _ trivial (fun _ => ?_)
            clear hK K
            (try simp only [Act.put, List.setIfInBounds_toArray, List.set_cons_zero, List.set_cons_succ])
            refine wpAnyH_done (by kernel_rfl) ?_ _
            go_wp2
            go_roundw
            case measure => simp only [intOf]; omega
            refine ⟨q + 1, some ⟨g2, 0, none⟩, cap2, l0' ++ [⟨some ⟨g, 0, none⟩, cap, r.xs⟩], by omega, by push_cast; rfl, hb4.setCell (by simp; omega) _, u5.other (by simp) _, ?_, ?_, HD.out _ _⟩
            · have := u4.set 1 (.slice (some ⟨g2, 0, none⟩) (l0'.length + 1) cap2)
              simpa using this
            · have := hC4.low (grown_cell V4 ⟨w.heap.size + 1 + 1, 1, none⟩ (.slice (some ⟨g2, 0, none⟩) (l0'.length + 1) cap2)) (by simp)
              simpa using this
          refine allReady_cons 7 rfl (fun K hK => ?_) AllReadyH.nil
          refine step_app_ints _ _ (by rfl) (by rfl) (B := wr.heap.size) (by rfl) (World.ownsRow_made wr.drew #[] 0 (Nat.le_refl _) (by decide) (by simp)) (r := r) (by rfl) (hri.below (by go_grown)) hr1 hr60 (by simp) ?_
          intro g cap V2 hown hgrow
          have hb2 : Below wr.heap.size wr V2 := Below.grown (by go_grown) hgrow (by simp) (by intro k hk; cases hk; simp)
          have u2 := y2.below hb2
          have c2 := u2.cell 1
          have zz2 := u2.lt
          have hs2 := hb2.size
          have hC2 := hC'.below hb2
          dsimp only [List.getElem?_cons_zero, List.getElem?_cons_succ] at c2
          refine hK.out _ _ trivial (fun _ => ?_)
          clear hK K
          (try simp only [Act.put, List.setIfInBounds_toArray, List.set_cons_zero, List.set_cons_succ])
          refine wpAnyH_ready (rs := [4, 8]) (by kernel_rfl) (by simp) ?_
          refine allReady_cons 4 rfl (fun K hK => ?_) ?_
          · go_simp
            refine hK.out _ _ trivial (fun _ => ?_)
            clear hK K
            (try simp only [Act.put, List.setIfInBounds_toArray, List.set_cons_zero, List.set_cons_succ])
            refine wpAnyH_ready (rs := [8]) (by kernel_rfl) (by simp) ?_
            refine allReady_cons 8 rfl (fun K hK => ?_) AllReadyH.nil
            go_simp
            refine hK.out _ _ trivial (fun _ => ?_)
            clear hK K
            (try simp only [Act.put, List.setIfInBounds_toArray, List.set_cons_zero, List.set_cons_succ])
            refine wpAnyH_ready (rs := [9]) (by kernel_rfl) (by simp) ?_
            refine allReady_cons 9 rfl (fun K hK => ?_) AllReadyH.nil
            refine step_app_row _ _ (by rfl) (by rfl) (B := w.heap.size + 1 + 1 + 1) (k := l0'.length) (v := .slice a0' l0'.length c0') (xs := l0'.map RowV.v) (by rfl) (hC2.t0.alloc _) _ ⟨some ⟨g, 0, none⟩, cap, r.xs⟩ (by rfl) (by exact cell_newest rfl) hl60 (by have := hC2.le; simp; omega) ?_
            intro g2 cap2 V4 hown2 hgrow2 hat2
            have hC4 := CopAt.app (r := ⟨some ⟨g, 0, none⟩, cap, r.xs⟩) hC' (hb2.alloc hs2 _) (hown.alloc _) hown2 hgrow2 hat2
            have hb4 : Below w.heap.size w V4 := (hB'.trans ((hb2.alloc hs2 _).mono hsz)).grown hgrow2 (by simp; omega) (by intro k hk; have := hv k hk; omega)
            have u4 := (u2.alloc (.cells #[(⟨some ⟨g, 0, none⟩, cap, r.xs⟩ : RowV).v] 57)).grown_row hgrow2 hv
            have u5 := ((y1.below hb2).alloc (.cells #[(⟨some ⟨g, 0, none⟩, cap, r.xs⟩ : RowV).v] 57)).grown_row hgrow2 (by intro k hk; have := hv k hk; omega)
            have c4 := u4.cell 1
            have f4 := u4.frozen 1
            have zz4 := u4.lt
            dsimp only [List.getElem?_cons_zero, List.getElem?_cons_succ] at c4
            refine hK.out _ _ trivial (fun _ => ?_)
            clear hK K
            (try simp only [Act.put, List.setIfInBounds_toArray, List.set_cons_zero, List.set_cons_succ])
            refine wpAnyH_takeL 11 (v := ?_) rfl (by kernel_rfl) (by kernel_rfl) (by kernel_rfl) (fun _ _ _ h => h) trivial (by rfl) ?hy ?_
            case hy => (intro V hSw; (try dsimp only at hSw); go_simp; try with_reducible rfl)
            (try simp only [Act.put, List.setIfInBounds_toArray, List.set_cons_zero, List.set_cons_succ])
            refine wpAnyH_ready (rs := [12]) (by kernel_rfl) (by simp) ?_
            refine allReady_cons 12 rfl (fun K hK => ?_) AllReadyH.nil
            go_simp
            refine hK.out _ _ trivial (fun _ => ?_)
            clear hK K
            (try simp only [Act.put, List.setIfInBounds_toArray, List.set_cons_zero, List.set_cons_succ])
            refine wpAnyH_done (by kernel_rfl) ?_ _
            go_wp2
            go_roundw
            case measure => simp only [intOf]; omega
            refine ⟨q + 1, some ⟨g2, 0, none⟩, cap2, l0' ++ [⟨some ⟨g, 0, none⟩, cap, r.xs⟩], by omega, by push_cast; rfl, hb4.setCell (by simp; omega) _, u5.other (by simp) _, ?_, ?_, HD.out _ _⟩
            · have := u4.set 1 (.slice (some ⟨g2, 0, none⟩) (l0'.length + 1) cap2)
              simpa using this
            · have := hC4.low (grown_cell V4 ⟨w.heap.size + 1 + 1, 1, none⟩ (.slice (some ⟨g2, 0, none⟩) (l0'.length + 1) cap2)) (by simp)
              simpa using this
          refine allReady_cons 8 rfl (fun K hK => ?_) AllReadyH.nil
          go_simp
          refine hK.out _ _ trivial (fun _ => ?_)
          clear hK K
          (try simp only [Act.put, List.setIfInBounds_toArray, List.set_cons_zero, List.set_cons_succ])
          refine wpAnyH_ready (rs := [4]) (by kernel_rfl) (by simp) ?_
          refine allReady_cons 4 rfl (fun K hK => ?_) AllReadyH.nil
          go_simp
          refine hK.out _ _ trivial (fun _ => ?_)
          clear hK K
          (try simp only [Act.put, List.setIfInBounds_toArray, List.set_cons_zero, List.set_cons_succ])
          refine wpAnyH_ready (rs := [9]) (by kernel_rfl) (by simp) ?_
          refine allReady_cons 9 rfl (fun K hK => ?_) AllReadyH.nil
          refine step_app_row _ _ (by rfl) (by rfl) (B := w.heap.size + 1 + 1 + 1) (k := l0'.length) (v := .slice a0' l0'.length c0') (xs := l0'.map RowV.v) (by rfl) (hC2.t0.alloc _) _ ⟨some ⟨g, 0, none⟩, cap, r.xs⟩ (by rfl) (by exact cell_newest rfl) hl60 (by have := hC2.le; simp; omega) ?_
          intro g2 cap2 V4 hown2 hgrow2 hat2
          have hC4 := CopAt.app (r := ⟨some ⟨g, 0, none⟩, cap, r.xs⟩) hC' (hb2.alloc hs2 _) (hown.alloc _) hown2 hgrow2 hat2
          have hb4 : Below w.heap.size w V4 := (hB'.trans ((hb2.alloc hs2 _).mono hsz)).grown hgrow2 (by simp; omega) (by intro k hk; have := hv k hk; omega)
          have u4 := (u2.alloc (.cells #[(⟨some ⟨g, 0, none⟩, cap, r.xs⟩ : RowV).v] 57)).grown_row hgrow2 hv
          have u5 := ((y1.below hb2).alloc (.cells #[(⟨some ⟨g, 0, none⟩, cap, r.xs⟩ : RowV).v] 57)).grown_row hgrow2 (by intro k hk; have := hv k hk; omega)
          have c4 := u4.cell 1
          have f4 := u4.frozen 1
          have zz4 := u4.lt
          dsimp only [List.getElem?_cons_zero, List.getElem?_cons_succ] at c4
          refine hK.out _ _ trivial (fun _ => ?_)
          clear hK K
          (try simp only [Act.put, List.setIfInBounds_toArray, List.set_cons_zero, List.set_cons_succ])
          refine wpAnyH_takeL 11 (v := ?_) rfl (by kernel_rfl) (by kernel_rfl) (by kernel_rfl) (fun _ _ _ h => h) trivial (by rfl) ?hy ?_
          case hy => (intro V hSw; (try dsimp only at hSw); go_simp; try with_reducible rfl)
          (try simp only [Act.put, List.setIfInBounds_toArray, List.set_cons_zero, List.set_cons_succ])
          refine wpAnyH_ready (rs := [12]) (by kernel_rfl) (by simp) ?_
          refine allReady_cons 12 rfl (fun K hK => ?_) AllReadyH.nil
          go_simp
          refine hK.out _ _ trivial (fun _ => ?_)
          clear hK K
          (try simp only [Act.put, List.setIfInBounds_toArray, List.set_cons_zero, List.set_cons_succ])
          refine wpAnyH_done (by kernel_rfl) ?_ _
          go_wp2
          go_roundw
          case measure => simp only [intOf]; omega
          refine ⟨q + 1, some ⟨g2, 0, none⟩, cap2, l0' ++ [⟨some ⟨g, 0, none⟩, cap, r.xs⟩], by omega, by push_cast; rfl, hb4.setCell (by simp; omega) _, u5.other (by simp) _, ?_, ?_, HD.out _ _⟩
          · have := u4.set 1 (.slice (some ⟨g2, 0, none⟩) (l0'.length + 1) cap2)
            simpa using this
          · have := hC4.low (grown_cell V4 ⟨w.heap.size + 1 + 1, 1, none⟩ (.slice (some ⟨g2, 0, none⟩) (l0'.length + 1) cap2)) (by simp)
            simpa using this
        · obtain rfl : q = rs0.length := by omega
          clear i0 i1
          go_wp2
          go_roundw
          case measure => simp only [intOf]; omega
          refine ⟨1, 1, a0', c0', l0', none, 0, [], by omega, rfl, by rfl, hB', y1, y2, hC', by omega, fun _ => ⟨rfl, rfl, rfl⟩, fun _ => by rw [hd, List.take_of_length_le (by simp)], by omega⟩
    · obtain rfl : z = 1 := by omega
      obtain ⟨rfl, rfl, rfl⟩ := k1 (by omega)
      have k2' := Lib.hid (k2 (by omega)); clear k2
      clear k0 k1 k3 hz hk
      go_wp2
      obtain ⟨wo, hwo⟩ : ∃ wo : World, wo = wr := ⟨_, rfl⟩
      go_loopw [19] (fun j W => ∃ q a1' c1' l1', q ≤ rs1.length ∧ j = .int .i64 (q : Nat) ∧ Below w.heap.size w W ∧ Blk W (w.heap.size + 1) 25 [.int .i64 0, .slice none 0 0, .slice none 0 0] ∧
          Blk W (w.heap.size + 1 + 1) 25 [.int .i64 d, .slice a0' l0'.length c0', .slice a1' l1'.length c1'] ∧ CopAt (w.heap.size + 1 + 1 + 1) W (.slice a0' l0'.length c0') (.slice a1' l1'.length c1') l0' l1' ∧
          l1'.map (·.xs) = (rs1.map (·.xs)).take q) (fun j _ => rs1.length - (intOf j).toNat)
      case atStart => exact ⟨0, none, 0, [], by omega, rfl, hB, hb1, hb2, hC, rfl⟩
      case round =>
        obtain ⟨q, a1', c1', l1', hq, rfl, hB', y1, y2, hC', hd⟩ := hrel
        have hlen : l1'.length = q := by have := congrArg List.length hd; simp at this; omega
        clear hC hb1 hb2 hB
        by_cases hlt : q < rs1.length
        · obtain ⟨b, off, r, ha, hbl, hrk, hri, hcell⟩ := (h1.below hB').at_ q hlt
          have hrow := E1.out r.xs (List.mem_map.2 ⟨r, List.mem_of_getElem? hrk, rfl⟩)
          have hr17 := hrow.1
          have hdn : ∀ (a : Option Addr) (c : Nat), (l1' ++ [(⟨a, c, r.xs⟩ : RowV)]).map (·.xs) = (rs1.map (·.xs)).take (q + 1) := by
            intro a c
            dsimp only at hrk
            rw [List.map_append, hd, List.take_add_one, List.getElem?_map, hrk]
            rfl
          have HD := Lib.hid hdn; clear hdn hd hrow
          have HK := Lib.hid hrk; clear hrk
          have HL := Lib.hid hlen
          have hr1 : 0 < r.xs.length := by omega
          have hr60 : r.xs.length ≤ 60 := by omega
          have hl60 : l1'.length ≤ 60 := by omega
          clear hr17 hlen
          have z2 := y2.lt
          have hsz := hB'.size
          dsimp only at ha hcell
          subst ha
          have hv : ∀ j, (Value.slice a1' l1'.length c1').ownBlock = some j → w.heap.size + 1 + 1 + 1 ≤ j := fun j hj => (hC'.t1.lt j hj).1
          have d1 := y2.cell 2
          have f1 := y2.frozen 2
          dsimp only [List.getElem?_cons_zero, List.getElem?_cons_succ] at d1
          clear i0 i1
          go_wp2
          refine wp_region_held_drew (S := fun _ => True) (by kernel_rfl) trivial (fun _ => ?_)
          refine wpAnyH_takeL 0 (v := ?_) rfl (by kernel_rfl) (by kernel_rfl) (by kernel_rfl) (fun _ _ _ h => h) trivial (by rfl) ?hy ?_
          case hy => (intro V hSw; (try dsimp only at hSw); go_simp; try with_reducible rfl)
          (try simp only [Act.put, List.setIfInBounds_toArray, List.set_cons_zero, List.set_cons_succ])
          refine wpAnyH_takeL 1 (v := ?_) rfl (by kernel_rfl) (by kernel_rfl) (by kernel_rfl) (fun _ _ _ h => h) trivial (by rfl) ?hy ?_
          case hy => (intro V hSw; (try dsimp only at hSw); go_simp; try with_reducible rfl)
          (try simp only [Act.put, List.setIfInBounds_toArray, List.set_cons_zero, List.set_cons_succ])
          refine wpAnyH_takeL 2 (v := ?_) rfl (by kernel_rfl) (by kernel_rfl) (by kernel_rfl) (fun _ _ _ h => h) trivial (by rfl) ?hy ?_
          case hy => (intro V hSw; (try dsimp only at hSw); go_simp; try with_reducible rfl)
          (try simp only [Act.put, List.setIfInBounds_toArray, List.set_cons_zero, List.set_cons_succ])
          refine wpAnyH_takeL 3 (v := ?_) rfl (by kernel_rfl) (by kernel_rfl) (by kernel_rfl) (fun _ _ _ h => h) trivial (by rfl) ?hy ?_
          case hy => (intro V hSw; (try dsimp only at hSw); go_simp; try with_reducible rfl)
          (try simp only [Act.put, List.setIfInBounds_toArray, List.set_cons_zero, List.set_cons_succ])
          refine wpAnyH_takeL 6 (v := ?_) rfl (by kernel_rfl) (by kernel_rfl) (by kernel_rfl) (fun _ _ _ h => h) trivial (by rfl) ?hy ?_
          case hy => (intro V hSw; (try dsimp only at hSw); go_simp; try with_reducible rfl)
          (try simp only [Act.put, List.setIfInBounds_toArray, List.set_cons_zero, List.set_cons_succ])
          refine wpAnyH_takeL 10 (v := ?_) rfl (by kernel_rfl) (by kernel_rfl) (by kernel_rfl) (fun _ _ _ h => h) trivial (by rfl) ?hy ?_
          case hy => (intro V hSw; (try dsimp only at hSw); go_simp; try with_reducible rfl)
          (try simp only [Act.put, List.setIfInBounds_toArray, List.set_cons_zero, List.set_cons_succ])
          refine wpAnyH_ready (rs := [4, 5]) (by kernel_rfl) (by simp) ?_
          refine allReady_cons 4 rfl (fun K hK => ?_) ?_
          · go_simp
            refine hK.out _ _ trivial (fun _ => ?_)
            clear hK K
            (try simp only [Act.put, List.setIfInBounds_toArray, List.set_cons_zero, List.set_cons_succ])
            refine wpAnyH_ready (rs := [5]) (by kernel_rfl) (by simp) ?_
            refine allReady_cons 5 rfl (fun K hK => ?_) AllReadyH.nil
            go_simp
            refine hK.out _ _ trivial (fun _ => ?_)
            clear hK K
            (try simp only [Act.put, List.setIfInBounds_toArray, List.set_cons_zero, List.set_cons_succ])
            refine wpAnyH_ready (rs := [7]) (by kernel_rfl) (by simp) ?_
            refine allReady_cons 7 rfl (fun K hK => ?_) AllReadyH.nil
            refine step_app_ints _ _ (by rfl) (by rfl) (B := wr.heap.size) (by rfl) (World.ownsRow_made wr.drew #[] 0 (Nat.le_refl _) (by decide) (by simp)) (r := r) (by rfl) (hri.below (by go_grown)) hr1 hr60 (by simp) ?_
            intro g cap V2 hown hgrow
            have hb2 : Below wr.heap.size wr V2 := Below.grown (by go_grown) hgrow (by simp) (by intro k hk; cases hk; simp)
            have u2 := y2.below hb2
            have c2 := u2.cell 2
            have zz2 := u2.lt
            have hs2 := hb2.size
            have hC2 := hC'.below hb2
            dsimp only [List.getElem?_cons_zero, List.getElem?_cons_succ] at c2
            refine hK.out _ _ trivial (fun _ => ?_)
            clear hK K
            (try simp only [Act.put, List.setIfInBounds_toArray, List.set_cons_zero, List.set_cons_succ])
            refine wpAnyH_ready (rs := [8]) (by kernel_rfl) (by simp) ?_
            refine allReady_cons 8 rfl (fun K hK => ?_) AllReadyH.nil
            go_simp
            refine hK.out _ _ trivial (fun _ => ?_)
            clear hK K
            (try simp only [Act.put, List.setIfInBounds_toArray, List.set_cons_zero, List.set_cons_succ])
            refine wpAnyH_ready (rs := [9]) (by kernel_rfl) (by simp) ?_
            refine allReady_cons 9 rfl (fun K hK => ?_) AllReadyH.nil
            refine step_app_row _ _ (by rfl) (by rfl) (B := w.heap.size + 1 + 1 + 1) (k := l1'.length) (v := .slice a1' l1'.length c1') (xs := l1'.map RowV.v) (by rfl) (hC2.t1.alloc _) _ ⟨some ⟨g, 0, none⟩, cap, r.xs⟩ (by rfl) (by exact cell_newest rfl) hl60 (by have := hC2.le; simp; omega) ?_
            intro g2 cap2 V4 hown2 hgrow2 hat2
            have hC4 := CopAt.app (r := ⟨some ⟨g, 0, none⟩, cap, r.xs⟩) hC'.swap (hb2.alloc hs2 _) (hown.alloc _) hown2 hgrow2 hat2
            have hb4 : Below w.heap.size w V4 := (hB'.trans ((hb2.alloc hs2 _).mono hsz)).grown hgrow2 (by simp; omega) (by intro k hk; have := hv k hk; omega)
            have u4 := (u2.alloc (.cells #[(⟨some ⟨g, 0, none⟩, cap, r.xs⟩ : RowV).v] 57)).grown_row hgrow2 hv
            have u5 := ((y1.below hb2).alloc (.cells #[(⟨some ⟨g, 0, none⟩, cap, r.xs⟩ : RowV).v] 57)).grown_row hgrow2 (by intro k hk; have := hv k hk; omega)
            have c4 := u4.cell 2
            have f4 := u4.frozen 2
            have zz4 := u4.lt
            dsimp only [List.getElem?_cons_zero, List.getElem?_cons_succ] at c4
            refine hK.out _ _ trivial (fun _ => ?_)
            clear hK K
            (try simp only [Act.put, List.setIfInBounds_toArray, List.set_cons_zero, List.set_cons_succ])
            refine wpAnyH_takeL 11 (v := ?_) rfl (by kernel_rfl) (by kernel_rfl) (by kernel_rfl) (fun _ _ _ h => h) trivial (by rfl) ?hy ?_
            case hy => (intro V hSw; (try dsimp only at hSw); go_simp; try with_reducible rfl)
            (try simp only [Act.put, List.setIfInBounds_toArray, List.set_cons_zero, List.set_cons_succ])
            refine wpAnyH_ready (rs := [12]) (by kernel_rfl) (by simp) ?_
            refine allReady_cons 12 rfl (fun K hK => ?_) AllReadyH.nil
            go_simp
            refine hK.out _ _ trivial (fun _ => ?_)
            clear hK K
            (try simp only [Act.put, List.setIfInBounds_toArray, List.set_cons_zero, List.set_cons_succ])
            refine wpAnyH_done (by kernel_rfl) ?_ _
            go_wp2
            go_roundw
            case measure => simp only [intOf]; omega
            refine ⟨q + 1, some ⟨g2, 0, none⟩, cap2, l1' ++ [⟨some ⟨g, 0, none⟩, cap, r.xs⟩], by omega, by push_cast; rfl, hb4.setCell (by simp; omega) _, u5.other (by simp) _, ?_, ?_, HD.out _ _⟩
            · have := u4.set 2 (.slice (some ⟨g2, 0, none⟩) (l1'.length + 1) cap2)
              simpa using this
            · have := hC4.swap.low (grown_cell V4 ⟨w.heap.size + 1 + 1, 2, none⟩ (.slice (some ⟨g2, 0, none⟩) (l1'.length + 1) cap2)) (by simp)
              simpa using this
          refine allReady_cons 5 rfl (fun K hK => ?_) AllReadyH.nil
          go_simp
          refine hK.out _ _ trivial (fun _ => ?_)
          clear hK K
          (try simp only [Act.put, List.setIfInBounds_toArray, List.set_cons_zero, List.set_cons_succ])
          refine wpAnyH_ready (rs := [4, 7]) (by kernel_rfl) (by simp) ?_
          refine allReady_cons 4 rfl (fun K hK => ?_) ?_
          · go_simp
            refine hK.out _ _ trivial (fun _ => ?_)
            clear hK K
            (try simp only [Act.put, List.setIfInBounds_toArray, List.set_cons_zero, List.set_cons_succ])
            refine wpAnyH_ready (rs := [7]) (by kernel_rfl) (by simp) ?_
            refine allReady_cons 7 rfl (fun K hK => ?_) AllReadyH.nil
            refine step_app_ints _ _ (by rfl) (by rfl) (B := wr.heap.size) (by rfl) (World.ownsRow_made wr.drew #[] 0 (Nat.le_refl _) (by decide) (by simp)) (r := r) (by rfl) (hri.below (by go_grown)) hr1 hr60 (by simp) ?_
            intro g cap V2 hown hgrow
            have hb2 : Below wr.heap.size wr V2 := Below.grown (by go_grown) hgrow (by simp) (by intro k hk; cases hk; simp)
            have u2 := y2.below hb2
            have c2 := u2.cell 2
            have zz2 := u2.lt
            have hs2 := hb2.size
            have hC2 := hC'.below hb2
            dsimp only [List.getElem?_cons_zero, List.getElem?_cons_succ] at c2
            refine hK.out _ _ trivial (fun _ => ?_)
            clear hK K
            (try simp only [Act.put, List.setIfInBounds_toArray, List.set_cons_zero, List.set_cons_succ])
            refine wpAnyH_ready (rs := [8]) (by kernel_rfl) (by simp) ?_
            refine allReady_cons 8 rfl (fun K hK => ?_) AllReadyH.nil
            go_simp
            refine hK.out _ _ trivial (fun _ => ?_)
            clear hK K
            (try simp only [Act.put, List.setIfInBounds_toArray, List.set_cons_zero, List.set_cons_succ])
            refine wpAnyH_ready (rs := [9]) (by kernel_rfl) (by simp) ?_
            refine allReady_cons 9 rfl (fun K hK => ?_) AllReadyH.nil
            refine step_app_row _ _ (by rfl) (by rfl) (B := w.heap.size + 1 + 1 + 1) (k := l1'.length) (v := .slice a1' l1'.length c1') (xs := l1'.map RowV.v) (by rfl) (hC2.t1.alloc _) _ ⟨some ⟨g, 0, none⟩, cap, r.xs⟩ (by rfl) (by exact cell_newest rfl) hl60 (by have := hC2.le; simp; omega) ?_
            intro g2 cap2 V4 hown2 hgrow2 hat2
            have hC4 := CopAt.app (r := ⟨some ⟨g, 0, none⟩, cap, r.xs⟩) hC'.swap (hb2.alloc hs2 _) (hown.alloc _) hown2 hgrow2 hat2
            have hb4 : Below w.heap.size w V4 := (hB'.trans ((hb2.alloc hs2 _).mono hsz)).grown hgrow2 (by simp; omega) (by intro k hk; have := hv k hk; omega)
            have u4 := (u2.alloc (.cells #[(⟨some ⟨g, 0, none⟩, cap, r.xs⟩ : RowV).v] 57)).grown_row hgrow2 hv
            have u5 := ((y1.below hb2).alloc (.cells #[(⟨some ⟨g, 0, none⟩, cap, r.xs⟩ : RowV).v] 57)).grown_row hgrow2 (by intro k hk; have := hv k hk; omega)
            have c4 := u4.cell 2
            have f4 := u4.frozen 2
            have zz4 := u4.lt
            dsimp only [List.getElem?_cons_zero, List.getElem?_cons_succ] at c4
            refine hK.out _ _ trivial (fun _ => ?_)
            clear hK K
            (try simp only [Act.put, List.setIfInBounds_toArray, List.set_cons_zero, List.set_cons_succ])
            refine wpAnyH_takeL 11 (v := ?_) rfl (by kernel_rfl) (by kernel_rfl) (by kernel_rfl) (fun _ _ _ h => h) trivial (by rfl) ?hy ?_
            case hy => (intro V hSw; (try dsimp only at hSw); go_simp; try with_reducible rfl)
            (try simp only [Act.put, List.setIfInBounds_toArray, List.set_cons_zero, List.set_cons_succ])
            refine wpAnyH_ready (rs := [12]) (by kernel_rfl) (by simp) ?_
            refine allReady_cons 12 rfl (fun K hK => ?_) AllReadyH.nil
            go_simp
            refine hK.out _ _ trivial (fun _ => ?_)
            clear hK K
            (try simp only [Act.put, List.setIfInBounds_toArray, List.set_cons_zero, List.set_cons_succ])
            refine wpAnyH_done (by kernel_rfl) ?_ _
            go_wp2
            go_roundw
            case measure => simp only [intOf]; omega
            refine ⟨q + 1, some ⟨g2, 0, none⟩, cap2, l1' ++ [⟨some ⟨g, 0, none⟩, cap, r.xs⟩], by omega, by push_cast; rfl, hb4.setCell (by simp; omega) _, u5.other (by simp) _, ?_, ?_, HD.out _ _⟩
            · have := u4.set 2 (.slice (some ⟨g2, 0, none⟩) (l1'.length + 1) cap2)
              simpa using this
            · have := hC4.swap.low (grown_cell V4 ⟨w.heap.size + 1 + 1, 2, none⟩ (.slice (some ⟨g2, 0, none⟩) (l1'.length + 1) cap2)) (by simp)
              simpa using this
          refine allReady_cons 7 rfl (fun K hK => ?_) AllReadyH.nil
          refine step_app_ints _ _ (by rfl) (by rfl) (B := wr.heap.size) (by rfl) (World.ownsRow_made wr.drew #[] 0 (Nat.le_refl _) (by decide) (by simp)) (r := r) (by rfl) (hri.below (by go_grown)) hr1 hr60 (by simp) ?_
          intro g cap V2 hown hgrow
          have hb2 : Below wr.heap.size wr V2 := Below.grown (by go_grown) hgrow (by simp) (by intro k hk; cases hk; simp)
          have u2 := y2.below hb2
          have c2 := u2.cell 2
          have zz2 := u2.lt
          have hs2 := hb2.size
          have hC2 := hC'.below hb2
          dsimp only [List.getElem?_cons_zero, List.getElem?_cons_succ] at c2
          refine hK.out _ _ trivial (fun _ => ?_)
          clear hK K
          (try simp only [Act.put, List.setIfInBounds_toArray, List.set_cons_zero, List.set_cons_succ])
          refine wpAnyH_ready (rs := [4, 8]) (by kernel_rfl) (by simp) ?_
          refine allReady_cons 4 rfl (fun K hK => ?_) ?_
          · go_simp
            refine hK.out _ _ trivial (fun _ => ?_)
            clear hK K
            (try simp only [Act.put, List.setIfInBounds_toArray, List.set_cons_zero, List.set_cons_succ])
            refine wpAnyH_ready (rs := [8]) (by kernel_rfl) (by simp) ?_
            refine allReady_cons 8 rfl (fun K hK => ?_) AllReadyH.nil
            go_simp
            refine hK.out _ _ trivial (fun _ => ?_)
            clear hK K
            (try simp only [Act.put, List.setIfInBounds_toArray, List.set_cons_zero, List.set_cons_succ])
            refine wpAnyH_ready (rs := [9]) (by kernel_rfl) (by simp) ?_
            refine allReady_cons 9 rfl (fun K hK => ?_) AllReadyH.nil
            refine step_app_row _ _ (by rfl) (by rfl) (B := w.heap.size + 1 + 1 + 1) (k := l1'.length) (v := .slice a1' l1'.length c1') (xs := l1'.map RowV.v) (by rfl) (hC2.t1.alloc _) _ ⟨some ⟨g, 0, none⟩, cap, r.xs⟩ (by rfl) (by exact cell_newest rfl) hl60 (by have := hC2.le; simp; omega) ?_
            intro g2 cap2 V4 hown2 hgrow2 hat2
            have hC4 := CopAt.app (r := ⟨some ⟨g, 0, none⟩, cap, r.xs⟩) hC'.swap (hb2.alloc hs2 _) (hown.alloc _) hown2 hgrow2 hat2
            have hb4 : Below w.heap.size w V4 := (hB'.trans ((hb2.alloc hs2 _).mono hsz)).grown hgrow2 (by simp; omega) (by intro k hk; have := hv k hk; omega)
            have u4 := (u2.alloc (.cells #[(⟨some ⟨g, 0, none⟩, cap, r.xs⟩ : RowV).v] 57)).grown_row hgrow2 hv
            have u5 := ((y1.below hb2).alloc (.cells #[(⟨some ⟨g, 0, none⟩, cap, r.xs⟩ : RowV).v] 57)).grown_row hgrow2 (by intro k hk; have := hv k hk; omega)
            have c4 := u4.cell 2
            have f4 := u4.frozen 2
            have zz4 := u4.lt
            dsimp only [List.getElem?_cons_zero, List.getElem?_cons_succ] at c4
            refine hK.out _ _ trivial (fun _ => ?_)
            clear hK K
            (try simp only [Act.put, List.setIfInBounds_toArray, List.set_cons_zero, List.set_cons_succ])
            refine wpAnyH_takeL 11 (v := ?_) rfl (by kernel_rfl) (by kernel_rfl) (by kernel_rfl) (fun _ _ _ h => h) trivial (by rfl) ?hy ?_
            case hy => (intro V hSw; (try dsimp only at hSw); go_simp; try with_reducible rfl)
            (try simp only [Act.put, List.setIfInBounds_toArray, List.set_cons_zero, List.set_cons_succ])
            refine wpAnyH_ready (rs := [12]) (by kernel_rfl) (by simp) ?_
            refine allReady_cons 12 rfl (fun K hK => ?_) AllReadyH.nil
            go_simp
            refine hK.out _ _ trivial (fun _ => ?_)
            clear hK K
            (try simp only [Act.put, List.setIfInBounds_toArray, List.set_cons_zero, List.set_cons_succ])
            refine wpAnyH_done (by kernel_rfl) ?_ _
            go_wp2
            go_roundw
            case measure => simp only [intOf]; omega
            refine ⟨q + 1, some ⟨g2, 0, none⟩, cap2, l1' ++ [⟨some ⟨g, 0, none⟩, cap, r.xs⟩], by omega, by push_cast; rfl, hb4.setCell (by simp; omega) _, u5.other (by simp) _, ?_, ?_, HD.out _ _⟩
            · have := u4.set 2 (.slice (some ⟨g2, 0, none⟩) (l1'.length + 1) cap2)
              simpa using this
            · have := hC4.swap.low (grown_cell V4 ⟨w.heap.size + 1 + 1, 2, none⟩ (.slice (some ⟨g2, 0, none⟩) (l1'.length + 1) cap2)) (by simp)
              simpa using this
          refine allReady_cons 8 rfl (fun K hK => ?_) AllReadyH.nil
          go_simp
          refine hK.out _ _ trivial (fun _ => ?_)
          clear hK K
          (try simp only [Act.put, List.setIfInBounds_toArray, List.set_cons_zero, List.set_cons_succ])
          refine wpAnyH_ready (rs := [4]) (by kernel_rfl) (by simp) ?_
          refine allReady_cons 4 rfl (fun K hK => ?_) AllReadyH.nil
          go_simp
          refine hK.out _ _ trivial (fun _ => ?_)
          clear hK K
          (try simp only [Act.put, List.setIfInBounds_toArray, List.set_cons_zero, List.set_cons_succ])
          refine wpAnyH_ready (rs := [9]) (by kernel_rfl) (by simp) ?_
          refine allReady_cons 9 rfl (fun K hK => ?_) AllReadyH.nil
          refine step_app_row _ _ (by rfl) (by rfl) (B := w.heap.size + 1 + 1 + 1) (k := l1'.length) (v := .slice a1' l1'.length c1') (xs := l1'.map RowV.v) (by rfl) (hC2.t1.alloc _) _ ⟨some ⟨g, 0, none⟩, cap, r.xs⟩ (by rfl) (by exact cell_newest rfl) hl60 (by have := hC2.le; simp; omega) ?_
          intro g2 cap2 V4 hown2 hgrow2 hat2
          have hC4 := CopAt.app (r := ⟨some ⟨g, 0, none⟩, cap, r.xs⟩) hC'.swap (hb2.alloc hs2 _) (hown.alloc _) hown2 hgrow2 hat2
          have hb4 : Below w.heap.size w V4 := (hB'.trans ((hb2.alloc hs2 _).mono hsz)).grown hgrow2 (by simp; omega) (by intro k hk; have := hv k hk; omega)
          have u4 := (u2.alloc (.cells #[(⟨some ⟨g, 0, none⟩, cap, r.xs⟩ : RowV).v] 57)).grown_row hgrow2 hv
          have u5 := ((y1.below hb2).alloc (.cells #[(⟨some ⟨g, 0, none⟩, cap, r.xs⟩ : RowV).v] 57)).grown_row hgrow2 (by intro k hk; have := hv k hk; omega)
          have c4 := u4.cell 2
          have f4 := u4.frozen 2
          have zz4 := u4.lt
          dsimp only [List.getElem?_cons_zero, List.getElem?_cons_succ] at c4
          refine hK.out _ _ trivial (fun _ => ?_)
          clear hK K
          (try simp only [Act.put, List.setIfInBounds_toArray, List.set_cons_zero, List.set_cons_succ])
          refine wpAnyH_takeL 11 (v := ?_) rfl (by kernel_rfl) (by kernel_rfl) (by kernel_rfl) (fun _ _ _ h => h) trivial (by rfl) ?hy ?_
          case hy => (intro V hSw; (try dsimp only at hSw); go_simp; try with_reducible rfl)
          (try simp only [Act.put, List.setIfInBounds_toArray, List.set_cons_zero, List.set_cons_succ])
          refine wpAnyH_ready (rs := [12]) (by kernel_rfl) (by simp) ?_
          refine allReady_cons 12 rfl (fun K hK => ?_) AllReadyH.nil
          go_simp
          refine hK.out _ _ trivial (fun _ => ?_)
          clear hK K
          (try simp only [Act.put, List.setIfInBounds_toArray, List.set_cons_zero, List.set_cons_succ])
          refine wpAnyH_done (by kernel_rfl) ?_ _
          go_wp2
          go_roundw
          case measure => simp only [intOf]; omega
          refine ⟨q + 1, some ⟨g2, 0, none⟩, cap2, l1' ++ [⟨some ⟨g, 0, none⟩, cap, r.xs⟩], by omega, by push_cast; rfl, hb4.setCell (by simp; omega) _, u5.other (by simp) _, ?_, ?_, HD.out _ _⟩
          · have := u4.set 2 (.slice (some ⟨g2, 0, none⟩) (l1'.length + 1) cap2)
            simpa using this
          · have := hC4.swap.low (grown_cell V4 ⟨w.heap.size + 1 + 1, 2, none⟩ (.slice (some ⟨g2, 0, none⟩) (l1'.length + 1) cap2)) (by simp)
            simpa using this
        · obtain rfl : q = rs1.length := by omega
          clear i0 i1
          go_wp2
          go_roundw
          case measure => simp only [intOf]; omega
          refine ⟨2, 2, a0', c0', l0', a1', c1', l1', by omega, rfl, by rfl, hB', y1, y2, hC', by omega, by omega, fun _ => k2'.out, fun _ => by rw [hd, List.take_of_length_le (by simp)]⟩
    · obtain rfl : z = 2 := by omega
      have q0 := Lib.hid (k2 (by omega))
      have q1 := Lib.hid (k3 (by omega))
      clear k0 k1 k2 k3 hz hk i0 i1
      have c0 := hb2.cell 0
      have c1 := hb2.cell 1
      have c2 := hb2.cell 2
      have d0 := hb1.cell 0
      have d1 := hb1.cell 1
      have d2 := hb1.cell 2
      have f0 := hb1.frozen 0
      have f1 := hb1.frozen 1
      have f2 := hb1.frozen 2
      have z1 := hb1.lt
      have z2 := hb2.lt
      dsimp only [List.getElem?_cons_zero, List.getElem?_cons_succ] at c0 c1 c2 d0 d1 d2
      go_wp2
      have hx := ((hb1.set 0 (.int .i64 d)).set 1 (.slice a0' l0'.length c0')).set 2 (.slice a1' l1'.length c1')
      have e0 := hx.cell 0
      have e1 := hx.cell 1
      have e2 := hx.cell 2
      simp only [List.set_cons_zero, List.set_cons_succ, List.getElem?_cons_zero, List.getElem?_cons_succ] at e0 e1 e2
      have g1 := grown_cell wr ⟨w.heap.size + 1, 0, none⟩ (.int .i64 d)
      have g2 := grown_cell (wr.setCell ⟨w.heap.size + 1, 0, none⟩ (.int .i64 d)) ⟨w.heap.size + 1, 1, none⟩ (.slice a0' l0'.length c0')
      have g3 := grown_cell ((wr.setCell ⟨w.heap.size + 1, 0, none⟩ (.int .i64 d)).setCell ⟨w.heap.size + 1, 1, none⟩ (.slice a0' l0'.length c0')) ⟨w.heap.size + 1, 2, none⟩ (.slice a1' l1'.length c1')
      refine bodyPost_ret (v := .agg #[.int .i64 d, .slice a0' l0'.length c0', .slice a1' l1'.length c1']) (by simp [results, Try.results15, go_sem, e0, e1, e2]) rfl
        ⟨⟨d, ⟨a0', c0', l0'⟩, ⟨a1', c1', l1'⟩⟩, rfl, ⟨(((hC.low g1 (by simp)).low g2 (by simp)).low g3 (by simp)).mono (by omega), q0.out, q1.out, rfl⟩, ?_⟩
      exact ((hB.setCell (by simp) _).setCell (by simp) _).setCell (by simp) _
end Go.Proofs.Ytbppjebpnpgenaa

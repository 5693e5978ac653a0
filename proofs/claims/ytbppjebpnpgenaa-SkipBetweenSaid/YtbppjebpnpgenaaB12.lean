/- A reckoning is made; the hope of a state. -/
import Derived.Test.YtbppjebpnpgenaaB11
import Derived.Laws.EntriesVeiled
namespace Go.Proofs.Ytbppjebpnpgenaa
open Go Go.RowKit

theorem hope_at (m : RivV) (w0 : World) (rb rp kb bm : Nat) : ∀ (n : Nat) (s : St), s.ends.toNat = n → stB s = true → HopeAt m w0 rb rp kb bm s
  | 0, s, hn, hs => hope_step m w0 rb rp kb bm s hs (fun p h _ _ => by omega)
  | n + 1, s, hn, hs => hope_step m w0 rb rp kb bm s hs (fun p h h1 h2 => hope_at m w0 rb rp kb bm n (nextS s p) (by simp only [nextS]; omega) (nextS_ok hs h))

theorem mapAt_new (w : World) (b : Nat) (clock : Nat) (h : w.heap[b]? = some (.map #[] clock)) : MapAt w b [] := ⟨#[], clock, h, rfl⟩

set_option maxRecDepth 100000 in
set_option maxHeartbeats 2000000 in
theorem skip_reckon (m : RivV) (w : World) (hin : m.In w) (hg : GoodM m) :
    Calls Try.prog 14 #[m.v] w fun e w' => ∃ rb rp kb bm, e = .returned (.pointer (some ⟨rb, 0, none⟩)) ∧ Reck m w rb rp kb bm w' ∧ Below w.heap.size w w' := by
  have hmk : ∀ V : World, (Instr.makeMap 63 none).run Try.prog V = .ok (.map (some V.heap.size)) (V.alloc (.map #[] 0)) := fun _ => rfl
  unfold RivV.v TabV.v
  have n1 := Lib.hid ((((Blk.new2 w (.cells #[.int .i64 m.doubt, .slice m.s0.a m.s0.rows.length m.s0.c, .slice m.s1.a m.s1.rows.length m.s1.c] 25) 53 [.int .i64 m.doubt, .slice m.s0.a m.s0.rows.length m.s0.c, .slice m.s1.a m.s1.rows.length m.s1.c, (.func (.func 20) #[] #[.pointer (some ⟨w.heap.size + 1 + 1 + 1 + 1, 0, none⟩), .pointer (some ⟨w.heap.size + 1 + 1, 0, none⟩)])]).alloc (.cells #[.pointer (some ⟨w.heap.size + 1, 0, none⟩)] 54)).alloc (.map #[] 0)).alloc (.cells #[.map (some (w.heap.size + 1 + 1 + 1))] 63))
  have n2 := Lib.hid (((Blk.new3 w (.cells #[.int .i64 m.doubt, .slice m.s0.a m.s0.rows.length m.s0.c, .slice m.s1.a m.s1.rows.length m.s1.c] 25) (.cells #[.int .i64 m.doubt, .slice m.s0.a m.s0.rows.length m.s0.c, .slice m.s1.a m.s1.rows.length m.s1.c, (.func (.func 20) #[] #[.pointer (some ⟨w.heap.size + 1 + 1 + 1 + 1, 0, none⟩), .pointer (some ⟨w.heap.size + 1 + 1, 0, none⟩)])] 53) 54 [.pointer (some ⟨w.heap.size + 1, 0, none⟩)]).alloc (.map #[] 0)).alloc (.cells #[.map (some (w.heap.size + 1 + 1 + 1))] 63))
  have n4 : Hid (Blk (((((w.alloc (.cells #[.int .i64 m.doubt, .slice m.s0.a m.s0.rows.length m.s0.c, .slice m.s1.a m.s1.rows.length m.s1.c] 25)).alloc (.cells #[.int .i64 m.doubt, .slice m.s0.a m.s0.rows.length m.s0.c, .slice m.s1.a m.s1.rows.length m.s1.c, (.func (.func 20) #[] #[.pointer (some ⟨w.heap.size + 1 + 1 + 1 + 1, 0, none⟩), .pointer (some ⟨w.heap.size + 1 + 1, 0, none⟩)])] 53)).alloc (.cells #[.pointer (some ⟨w.heap.size + 1, 0, none⟩)] 54)).alloc (.map #[] 0)).alloc (.cells #[.map (some (w.heap.size + 1 + 1 + 1))] 63)) (w.heap.size + 1 + 1 + 1 + 1) 63 [.map (some (w.heap.size + 1 + 1 + 1))]) := by
    have := Blk.new ((((w.alloc (.cells #[.int .i64 m.doubt, .slice m.s0.a m.s0.rows.length m.s0.c, .slice m.s1.a m.s1.rows.length m.s1.c] 25)).alloc (.cells #[.int .i64 m.doubt, .slice m.s0.a m.s0.rows.length m.s0.c, .slice m.s1.a m.s1.rows.length m.s1.c, (.func (.func 20) #[] #[.pointer (some ⟨w.heap.size + 1 + 1 + 1 + 1, 0, none⟩), .pointer (some ⟨w.heap.size + 1 + 1, 0, none⟩)])] 53)).alloc (.cells #[.pointer (some ⟨w.heap.size + 1, 0, none⟩)] 54)).alloc (.map #[] 0)) 63 [.map (some (w.heap.size + 1 + 1 + 1))]
    rw [World.size_alloc, World.size_alloc, World.size_alloc, World.size_alloc] at this
    exact Lib.hid this
  have n3 : Hid (MapAt (((((w.alloc (.cells #[.int .i64 m.doubt, .slice m.s0.a m.s0.rows.length m.s0.c, .slice m.s1.a m.s1.rows.length m.s1.c] 25)).alloc (.cells #[.int .i64 m.doubt, .slice m.s0.a m.s0.rows.length m.s0.c, .slice m.s1.a m.s1.rows.length m.s1.c, (.func (.func 20) #[] #[.pointer (some ⟨w.heap.size + 1 + 1 + 1 + 1, 0, none⟩), .pointer (some ⟨w.heap.size + 1 + 1, 0, none⟩)])] 53)).alloc (.cells #[.pointer (some ⟨w.heap.size + 1, 0, none⟩)] 54)).alloc (.map #[] 0)).alloc (.cells #[.map (some (w.heap.size + 1 + 1 + 1))] 63)) (w.heap.size + 1 + 1 + 1) []) := by
    refine Lib.hid (mapAt_new _ _ 0 ((Below.heap_alloc _ _ _ (by simp)).trans ?_))
    have := World.alloc_heap_new (((w.alloc (.cells #[.int .i64 m.doubt, .slice m.s0.a m.s0.rows.length m.s0.c, .slice m.s1.a m.s1.rows.length m.s1.c] 25)).alloc (.cells #[.int .i64 m.doubt, .slice m.s0.a m.s0.rows.length m.s0.c, .slice m.s1.a m.s1.rows.length m.s1.c, (.func (.func 20) #[] #[.pointer (some ⟨w.heap.size + 1 + 1 + 1 + 1, 0, none⟩), .pointer (some ⟨w.heap.size + 1 + 1, 0, none⟩)])] 53)).alloc (.cells #[.pointer (some ⟨w.heap.size + 1, 0, none⟩)] 54)) (.map #[] 0)
    rwa [World.size_alloc, World.size_alloc, World.size_alloc] at this
  have hB : Below w.heap.size w (((((w.alloc (.cells #[.int .i64 m.doubt, .slice m.s0.a m.s0.rows.length m.s0.c, .slice m.s1.a m.s1.rows.length m.s1.c] 25)).alloc (.cells #[.int .i64 m.doubt, .slice m.s0.a m.s0.rows.length m.s0.c, .slice m.s1.a m.s1.rows.length m.s1.c, (.func (.func 20) #[] #[.pointer (some ⟨w.heap.size + 1 + 1 + 1 + 1, 0, none⟩), .pointer (some ⟨w.heap.size + 1 + 1, 0, none⟩)])] 53)).alloc (.cells #[.pointer (some ⟨w.heap.size + 1, 0, none⟩)] 54)).alloc (.map #[] 0)).alloc (.cells #[.map (some (w.heap.size + 1 + 1 + 1))] 63)) := by go_grown
  go_enter Try.func14, Try.ntmps14
  go_wp2
  go_ret
  exact ⟨_, w.heap.size + 1 + 1, w.heap.size + 1 + 1 + 1 + 1, w.heap.size + 1 + 1 + 1, rfl, ⟨hB, hin, hg, by omega, n1.out, n2.out, n4.out, _, n3.out, fun s v h => by cases h⟩, hB⟩
end Go.Proofs.Ytbppjebpnpgenaa

/- States: the next one, or the error; hopes that are sure; the choice of a team. -/
import Derived.Test.YtbppjebpnpgenaaA7
namespace Go.Proofs.Ytbppjebpnpgenaa
open Go Go.RowKit

theorem skip_Next (s : St) (p : Int) (w : World) (h : stB s = true) (he : 0 < s.ends) (hp : inB p (-8) 8 = true) :
    Calls Try.prog 9 #[s.v, .int .i64 p] w fun e w' => e = .returned (.tuple #[(nextS s p).v, .int .i64 0]) ∧ Below w.heap.size w w' := by
  have hp' := inB_true hp
  have H := Lib.hid h
  have okE : okErr (stB s) = 0 := by rw [h]; rfl
  clear h
  have hs : s.v = .agg #[.int .i64 s.ends, .int .i64 s.lead, .int .i64 s.ham] := rfl
  rw [hs]
  go_enter Try.func9, Try.ntmps9
  go_wp2_with fail
  rw [← hs]
  refine (checkState s _).mono ?_
  rw [okE]
  rintro e w1 ⟨rfl, hb1⟩
  obtain ⟨hc, hf⟩ := bcell hb1
  have hz : w.heap.size + 1 < w1.heap.size := by have := hb1.size; simp at this; omega
  go_wp2_with (go_at_call 17; refine (skip_within _ _ _ _).mono ?_; rintro e w' ⟨rfl, rfl⟩)
  rw [← hs]
  refine (skip_next s p _ H.out hp'.1 hp'.2).mono ?_
  rintro e w2 ⟨rfl, hb2⟩
  obtain ⟨hc2, hf2⟩ := bcell hb2
  have hz2 : w.heap.size + 1 < w2.heap.size := by have := hb2.size; omega
  obtain ⟨n, hn⟩ : ∃ n, n = nextS s p := ⟨_, rfl⟩
  rw [← hn]
  have HN := Lib.hid hn; clear hn
  unfold St.v
  go_wp2
  refine bodyPost_ret (v := .tuple #[.agg #[.int .i64 n.ends, .int .i64 n.lead, .int .i64 n.ham], .int .i64 0]) (by simp [results, Try.results9, go_sem, hc, hc2, hz]) rfl ⟨by rw [HN.out]; rfl, ?_⟩
  have g2 := ((((Below.refl _ _).alloc (Nat.le_refl _) _).alloc (by simp) _).trans (hb1.mono (by simp; omega))).trans (hb2.mono (by omega))
  go_grown

end Go.Proofs.Ytbppjebpnpgenaa

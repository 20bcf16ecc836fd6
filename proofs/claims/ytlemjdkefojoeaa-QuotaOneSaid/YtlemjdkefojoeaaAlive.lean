/-
  The walk of layer 11's live question, and of 'told'.
-/
import Derived.Test.YtlemjdkefojoeaaWalksC
namespace Go.Proofs.Ytlemjdkefojoeaa
open Go.RowKit Quo

set_option maxHeartbeats 400000 in
theorem alive_any (w : World) : Calls Try.prog 6 #[] w fun e w' => e = .returned (.bool true) ∧ Below w.heap.size w w' := by
  have A : ∀ w : World, Calls Try.prog 10 #[.agg #[.int .i64 1, .int .i64 5, .int .i64 0], .bool false, .int .i64 2, .int .i64 0, .int .i64 3] w fun e w' => e = .returned (.tuple #[.agg #[.int .i64 2, .int .i64 10, .int .i64 0], .int .i64 0]) ∧ Below w.heap.size w w' :=
    put_new_ok 1 5 0 2 0 3 (by decide) (by decide) (by decide) (by decide) (by decide) (by decide) (by decide)
  have B : ∀ w : World, Calls Try.prog 10 #[.agg #[.int .i64 1, .int .i64 3999, .int .i64 0], .bool false, .int .i64 2, .int .i64 0, .int .i64 0] w fun e w' => e = .returned (.tuple #[.agg #[.int .i64 0, .int .i64 0, .int .i64 0], .int .i64 112]) ∧ Below w.heap.size w w' :=
    put_new_err 1 3999 0 2 0 0 112 (by decide) (by decide) (by decide) (by decide) (by decide) (by decide) (by decide) (by decide)
  have A' := Lib.hid A; have B' := Lib.hid B; clear A B
  go_enter Try.func6, Try.ntmps6
  go_wp2_with fail
  refine (A'.out _).mono ?_
  rintro e w1 ⟨rfl, hb1⟩
  go_wp2_with fail
  refine (B'.out _).mono ?_
  rintro e w2 ⟨rfl, hb2⟩
  obtain ⟨hc2, hf2⟩ := bcell hb2
  have hz2 : w1.heap.size < w2.heap.size := by have := hb2.size; simp at this; omega
  have hB2 : Below w.heap.size w w2 := ((hb1).alloc hb1.size _).trans (hb2.mono (by have := hb1.size; simp; omega))
  go_wp2
  go_ret
  exact ⟨rfl, hB2.alloc hB2.size _⟩

set_option maxHeartbeats 400000 in
theorem told_any (k r t : Int) (w : World) :
    Calls Try.prog 7 #[.agg #[.int .i64 k, .int .i64 r, .int .i64 t]] w fun e w' => e = .returned (.agg #[.int .i64 k, .int .i64 r, .int .i64 t]) ∧ Below w.heap.size w w' := by
  go_enter Try.func7, Try.ntmps7
  go_wp2
  refine bodyPost_ret (v := .agg #[.int .i64 k, .int .i64 r, .int .i64 t]) (by simp [results, Try.results7, go_sem]) rfl ⟨rfl, ?_⟩
  repeat (first | exact Below.refl _ _ | refine Below.setCell ?_ (by simp) _ | refine Below.alloc ?_ (by simp) _)
end Go.Proofs.Ytlemjdkefojoeaa

/-
  The walks of layer 11 (quota), on: the argument check, Put, Drop, Arm, Cancel.
-/
import Derived.Test.YtlemjdkefojoeaaWalks
namespace Go.Proofs.Ytlemjdkefojoeaa
open Go.RowKit Quo

set_option maxHeartbeats 400000 in
theorem index_nil (c : Nat) (w : World) :
    Calls Try.prog 22 #[.slice none 0 c, .func (.func 20) #[] #[]] w fun e w' => e = .returned (.int .i64 (-1)) ∧ w = w' := by
  go_enter Try.func22, Try.ntmps22
  go_wp2
  go_loop [8] (fun i => i = .int .i64 0) (fun i => (1 - (intOf i)).toNat)
  case atStart => rfl
  case round =>
    subst hrel
    go_wp2
    go_ret
    exact ⟨rfl, rfl⟩

set_option maxHeartbeats 400000 in
theorem contains_any (b off cap : Nat) (xs : List Int) (w : World) (hn : xs.length ≤ 9223372036854775807) (hc : ∀ i, i < xs.length → w.cell? ⟨b, off + i, none⟩ = some (.int .i64 (xs.getD i 0))) :
    Calls Try.prog 19 #[.slice (some ⟨b, off, none⟩) xs.length cap, .func (.func 20) #[] #[]] w fun e w' => e = .returned (.bool (decide (0 ≤ firstBad xs 0))) ∧ w = w' := by
  have I := index_any b off cap xs w hn hc
  have I' := Lib.hid I; clear I hc
  go_enter Try.func19, Try.ntmps19
  go_wp2_with (go_at_call 22; (with_reducible refine I'.out.mono ?_); rintro e w' ⟨rfl, rfl⟩)
  go_ret
  exact ⟨rfl, rfl⟩

set_option maxHeartbeats 400000 in
theorem contains_nil (c : Nat) (w : World) :
    Calls Try.prog 19 #[.slice none 0 c, .func (.func 20) #[] #[]] w fun e w' => e = .returned (.bool false) ∧ w = w' := by
  go_enter Try.func19, Try.ntmps19
  go_wp2_with (go_at_call 22; (with_reducible refine (index_nil c _).mono ?_); rintro e w' ⟨rfl, rfl⟩)
  go_ret
  exact ⟨rfl, rfl⟩

set_option maxHeartbeats 400000 in
theorem wrong_any (k r t : Int) (b off cap : Nat) (xs : List Int) (w : World) (hb : b < w.heap.size) (hn : xs.length ≤ 9223372036854775807) (hc : ∀ i, i < xs.length → w.cell? ⟨b, off + i, none⟩ = some (.int .i64 (xs.getD i 0))) :
    Calls Try.prog 17 #[.agg #[.int .i64 k, .int .i64 r, .int .i64 t], .slice (some ⟨b, off, none⟩) xs.length cap] w fun e w' => e = .returned (.bool (wrongB k r t xs)) ∧ Below w.heap.size w w' := by
  have e : wrongB k r t xs = (!rightB k r t || decide (0 ≤ firstBad xs 0)) := rfl
  rw [e]; clear e
  have R := right_any k r t
  have C := contains_any b off cap xs
  generalize rightB k r t = x at *
  generalize decide (0 ≤ firstBad xs 0) = y at *
  have R' := Lib.hid R; have C' := Lib.hid C; have HC := Lib.hid hc; clear R C hc
  cases x
  · go_enter Try.func17, Try.ntmps17
    go_wp2_with (go_at_call 11; (with_reducible refine (R'.out _).mono ?_); rintro e w1 ⟨rfl, hb1⟩)
    go_ret
    exact ⟨rfl, ((Below.refl _ _).alloc (Nat.le_refl _) _).trans (hb1.mono (by simp))⟩
  · go_enter Try.func17, Try.ntmps17
    go_wp2_with fail
    refine (R'.out _).mono ?_
    rintro e w1 ⟨rfl, hb1⟩
    have hw : Below w.heap.size w w1 := ((Below.refl _ _).alloc (Nat.le_refl _) _).trans (hb1.mono (by simp))
    have hc1 : Hid (∀ i, i < xs.length → w1.cell? ⟨b, off + i, none⟩ = some (.int .i64 (xs.getD i 0))) := fun i hi => (hw.cell (p := ⟨b, off + i, none⟩) hb).trans (HC.out i hi)
    have hw' := Lib.hid hw; clear hw
    go_wp2_with (go_at_call 19; (with_reducible refine (C'.out _ hn hc1.out).mono ?_); rintro e w2 ⟨rfl, rfl⟩)
    go_ret
    exact ⟨rfl, hw'.out⟩

set_option maxHeartbeats 400000 in
theorem wrong_nil (k r t : Int) (c : Nat) (w : World) :
    Calls Try.prog 17 #[.agg #[.int .i64 k, .int .i64 r, .int .i64 t], .slice none 0 c] w fun e w' => e = .returned (.bool (!rightB k r t)) ∧ Below w.heap.size w w' := by
  have R := right_any k r t
  generalize rightB k r t = x at *
  have R' := Lib.hid R; clear R
  cases x
  · go_enter Try.func17, Try.ntmps17
    go_wp2_with (go_at_call 11; (with_reducible refine (R'.out _).mono ?_); rintro e w1 ⟨rfl, hb1⟩)
    go_ret
    exact ⟨rfl, ((Below.refl _ _).alloc (Nat.le_refl _) _).trans (hb1.mono (by simp))⟩
  · go_enter Try.func17, Try.ntmps17
    go_wp2_with (first | (go_at_call 11; (with_reducible refine (R'.out _).mono ?_); rintro e w1 ⟨rfl, hb1⟩) | (go_at_call 19; (with_reducible refine (contains_nil _ _).mono ?_); rintro e w2 ⟨rfl, rfl⟩))
    go_ret
    exact ⟨rfl, ((Below.refl _ _).alloc (Nat.le_refl _) _).trans (hb1.mono (by simp))⟩

set_option maxHeartbeats 400000 in
theorem checked_ok (k r t : Int) (h : overV k r t = 0) (w : World) :
    Calls Try.prog 18 #[.agg #[.int .i64 k, .int .i64 r, .int .i64 t]] w fun e w' => e = .returned (.tuple #[.agg #[.int .i64 k, .int .i64 r, .int .i64 t], .int .i64 0]) ∧ Below w.heap.size w w' := by
  have O := over_any k r t
  rw [h] at O; clear h
  have O' := Lib.hid O; clear O
  go_enter Try.func18, Try.ntmps18
  go_wp2_with fail
  refine (O'.out _).mono ?_
  rintro e w1 ⟨rfl, hb1⟩
  obtain ⟨hc, hf⟩ := bcell hb1
  have hz : w.heap.size + 1 < w1.heap.size := by have := hb1.size; simp at this; omega
  go_wp2
  refine bodyPost_ret (v := .tuple #[.agg #[.int .i64 k, .int .i64 r, .int .i64 t], .int .i64 0]) (by simp [results, Try.results18, go_sem, hc]) rfl ⟨rfl, ?_⟩
  repeat (first | exact Below.refl _ _ | refine Below.setCell ?_ (by simp) _ | exact (((Below.refl _ _).alloc (Nat.le_refl _) _).alloc (by simp) _).trans (hb1.mono (by simp; omega)))

set_option maxHeartbeats 400000 in
theorem checked_err (k r t v : Int) (h : overV k r t = v) (hv : v ≠ 0) (w : World) :
    Calls Try.prog 18 #[.agg #[.int .i64 k, .int .i64 r, .int .i64 t]] w fun e w' => e = .returned (.tuple #[.agg #[.int .i64 0, .int .i64 0, .int .i64 0], .int .i64 v]) ∧ Below w.heap.size w w' := by
  have O := over_any k r t
  rw [h] at O; clear h
  have O' := Lib.hid O; clear O
  have hv1 : (v != 0) = true := by simp [hv]
  have hv2 : (v == 0) = false := by simp [hv]
  go_enter Try.func18, Try.ntmps18
  go_wp2_with fail
  refine (O'.out _).mono ?_
  rintro e w1 ⟨rfl, hb1⟩
  obtain ⟨hc, hf⟩ := bcell hb1
  have hz : w.heap.size + 1 < w1.heap.size := by have := hb1.size; simp at this; omega
  go_wp2
  refine bodyPost_ret (v := .tuple #[.agg #[.int .i64 0, .int .i64 0, .int .i64 0], .int .i64 v]) (by simp [results, Try.results18, go_sem, hc]) rfl ⟨rfl, ?_⟩
  repeat (first | exact Below.refl _ _ | refine Below.setCell ?_ (by simp) _ | exact (((Below.refl _ _).alloc (Nat.le_refl _) _).alloc (by simp) _).trans (hb1.mono (by simp; omega)))
end Go.Proofs.Ytlemjdkefojoeaa

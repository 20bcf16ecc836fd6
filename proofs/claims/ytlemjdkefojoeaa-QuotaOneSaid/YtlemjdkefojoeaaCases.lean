/-
  Layer 11: Put and Arm by whether there is an error, whatever the use and the sizes; a whole number each.
-/
import Derived.Test.YtlemjdkefojoeaaAlive
namespace Go.Proofs.Ytlemjdkefojoeaa
open Go.RowKit Quo

theorem over_pos {k r t : Int} (h : 100 < k ∨ 4000 < r ∨ 50 < t) : ∃ v, overV k r t = v ∧ v ≠ 0 := by
  refine ⟨_, rfl, ?_⟩
  unfold overV
  split
  · decide
  · split
    · decide
    · split
      · decide
      · omega

/-- A key that is new. -/
theorem put_new_cases (k r t key was value : Int) :
    (((0 ≤ k ∧ k + 1 ≤ 100) ∧ (0 ≤ r ∧ r + key + value ≤ 4000) ∧ (0 ≤ t ∧ t ≤ 50) ∧ (0 ≤ key ∧ key ≤ 4000) ∧ (0 ≤ was ∧ was ≤ 4000) ∧ (0 ≤ value ∧ value ≤ 4000)) ∧ ∀ w : World, Calls Try.prog 10 #[.agg #[.int .i64 k, .int .i64 r, .int .i64 t], .bool false, .int .i64 key, .int .i64 was, .int .i64 value] w fun e w' => e = .returned (.tuple #[.agg #[.int .i64 (k + 1), .int .i64 (r + key + value), .int .i64 t], .int .i64 0]) ∧ Below w.heap.size w w') ∨
    (∃ v, v ≠ 0 ∧ (rightB k r t = false → v = 1) ∧ ∀ w : World, Calls Try.prog 10 #[.agg #[.int .i64 k, .int .i64 r, .int .i64 t], .bool false, .int .i64 key, .int .i64 was, .int .i64 value] w fun e w' => e = .returned (.tuple #[.agg #[.int .i64 0, .int .i64 0, .int .i64 0], .int .i64 v]) ∧ Below w.heap.size w w') := by
  by_cases hw : wrongB k r t [key, was, value] = true
  · exact Or.inr ⟨1, by decide, fun _ => rfl, put_wrong k r t false key was value hw⟩
  · have hr : rightB k r t = true := by
      cases h : rightB k r t
      · exact absurd (wrong_right h) hw
      · rfl
    have hs : ∀ x ∈ [key, was, value], badB x = false := by
      intro x hx
      cases h : badB x
      · rfl
      · exact absurd (wrong_size ⟨x, hx, h⟩) hw
    simp [bad_false] at hs
    have hr' := right_iff.1 hr
    by_cases ho : 100 < k + 1 ∨ 4000 < r + key + value ∨ 50 < t
    · obtain ⟨v, hv, hv0⟩ := over_pos ho
      exact Or.inr ⟨v, hv0, (fun h => (by rw [hr] at h; cases h)), put_new_err k r t key was value v (by omega) (by omega) (by omega) (by omega) (by omega) (by omega) hv hv0⟩
    · exact Or.inl ⟨⟨by omega, by omega, by omega, by omega, by omega, by omega⟩, put_new_ok k r t key was value (by omega) (by omega) (by omega) (by omega) (by omega) (by omega) (over_zero (by omega) (by omega) (by omega))⟩

/-- A key that had a value. -/
theorem put_had_cases (k r t key was value : Int) :
    (((1 ≤ k ∧ k ≤ 100) ∧ (0 ≤ r ∧ r ≤ 4000 ∧ key + was ≤ r ∧ r - was + value ≤ 4000) ∧ (0 ≤ t ∧ t ≤ 50) ∧ (0 ≤ key ∧ key ≤ 4000) ∧ (0 ≤ was ∧ was ≤ 4000) ∧ (0 ≤ value ∧ value ≤ 4000)) ∧ ∀ w : World, Calls Try.prog 10 #[.agg #[.int .i64 k, .int .i64 r, .int .i64 t], .bool true, .int .i64 key, .int .i64 was, .int .i64 value] w fun e w' => e = .returned (.tuple #[.agg #[.int .i64 k, .int .i64 (r - was + value), .int .i64 t], .int .i64 0]) ∧ Below w.heap.size w w') ∨
    (∃ v, v ≠ 0 ∧ (rightB k r t = false → v = 1) ∧ ∀ w : World, Calls Try.prog 10 #[.agg #[.int .i64 k, .int .i64 r, .int .i64 t], .bool true, .int .i64 key, .int .i64 was, .int .i64 value] w fun e w' => e = .returned (.tuple #[.agg #[.int .i64 0, .int .i64 0, .int .i64 0], .int .i64 v]) ∧ Below w.heap.size w w') := by
  by_cases hw : wrongB k r t [key, was, value] = true
  · exact Or.inr ⟨1, by decide, fun _ => rfl, put_wrong k r t true key was value hw⟩
  · have hr : rightB k r t = true := by
      cases h : rightB k r t
      · exact absurd (wrong_right h) hw
      · rfl
    have hs : ∀ x ∈ [key, was, value], badB x = false := by
      intro x hx
      cases h : badB x
      · rfl
      · exact absurd (wrong_size ⟨x, hx, h⟩) hw
    simp [bad_false] at hs
    have hr' := right_iff.1 hr
    by_cases hq : k = 0 ∨ r < key + was
    · exact Or.inr ⟨1, by decide, fun _ => rfl, put_few k r t key was value (by omega) (by omega) (by omega) (by omega) (by omega) (by omega) hq⟩
    · by_cases ho : 100 < k ∨ 4000 < r - was + value ∨ 50 < t
      · obtain ⟨v, hv, hv0⟩ := over_pos ho
        exact Or.inr ⟨v, hv0, (fun h => (by rw [hr] at h; cases h)), put_had_err k r t key was value v (by omega) (by omega) (by omega) (by omega) (by omega) (by omega) (by omega) (by omega) hv hv0⟩
      · exact Or.inl ⟨⟨by omega, by omega, by omega, by omega, by omega, by omega⟩, put_had_ok k r t key was value (by omega) (by omega) (by omega) (by omega) (by omega) (by omega) (by omega) (by omega) (over_zero (by omega) (by omega) (by omega))⟩

/-- A timer that is new. -/
theorem arm_new_cases (k r t : Int) :
    (((0 ≤ k ∧ k ≤ 100) ∧ (0 ≤ r ∧ r ≤ 4000) ∧ (0 ≤ t ∧ t + 1 ≤ 50)) ∧ ∀ w : World, Calls Try.prog 12 #[.agg #[.int .i64 k, .int .i64 r, .int .i64 t], .bool false] w fun e w' => e = .returned (.tuple #[.agg #[.int .i64 k, .int .i64 r, .int .i64 (t + 1)], .int .i64 0]) ∧ Below w.heap.size w w') ∨
    (∃ v, v ≠ 0 ∧ (rightB k r t = false → v = 1) ∧ (rightB k r t = true → t = 50) ∧ ∀ w : World, Calls Try.prog 12 #[.agg #[.int .i64 k, .int .i64 r, .int .i64 t], .bool false] w fun e w' => e = .returned (.tuple #[.agg #[.int .i64 0, .int .i64 0, .int .i64 0], .int .i64 v]) ∧ Below w.heap.size w w') := by
  cases hr : rightB k r t
  · exact Or.inr ⟨1, (by decide), (fun _ => rfl), (fun h => (by cases h)), arm_wrong k r t false hr⟩
  · have hr' := right_iff.1 hr
    by_cases ho : 100 < k ∨ 4000 < r ∨ 50 < t + 1
    · obtain ⟨v, hv, hv0⟩ := over_pos ho
      exact Or.inr ⟨v, hv0, (fun h => (by cases h)), (fun _ => (by omega)), arm_new_err k r t v (by omega) (by omega) (by omega) hv hv0⟩
    · exact Or.inl ⟨⟨by omega, by omega, by omega⟩, arm_new_ok k r t (by omega) (by omega) (by omega) (over_zero (by omega) (by omega) (by omega))⟩
end Go.Proofs.Ytlemjdkefojoeaa

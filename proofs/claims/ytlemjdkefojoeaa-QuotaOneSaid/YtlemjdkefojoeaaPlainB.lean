/-
  Plain sums of sizes.
-/
import Derived.Test.YtlemjdkefojoeaaPlain
namespace Go.Proofs.Ytlemjdkefojoeaa.Quo

/-- The sum of those that can be. -/
def sumW : List Int → Int
  | [] => 0
  | x :: r => (if wi x 4000 = true then x else 0) + sumW r

theorem sumW_append (xs ys : List Int) : sumW (xs ++ ys) = sumW xs + sumW ys := by
  induction xs with
  | nil => simp [sumW]
  | cons x r ih => simp only [List.cons_append, sumW, ih]; omega
theorem sumW_bd (xs : List Int) : 0 ≤ sumW xs ∧ sumW xs ≤ 4000 * xs.length := by
  induction xs with
  | nil => simp [sumW]
  | cons x r ih =>
    simp only [sumW, List.length_cons]
    split
    · next h => have := wi_iff.1 h; omega
    · omega
theorem sumW_take (xs : List Int) (k : Nat) : 0 ≤ sumW (xs.take k) ∧ sumW (xs.take k) ≤ 4000 * k := by
  have h := sumW_bd (xs.take k)
  have : (xs.take k).length ≤ k := List.length_take_le k xs
  omega
theorem sumW_step (xs : List Int) (k : Nat) (h : k < xs.length) : sumW (xs.take (k + 1)) = sumW (xs.take k) + (if wi xs[k] 4000 = true then xs[k] else 0) := by
  rw [List.take_succ_eq_append_getElem h, sumW_append]
  simp [sumW]
end Go.Proofs.Ytlemjdkefojoeaa.Quo

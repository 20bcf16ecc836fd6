/-
  The plain law of layer 11 (quota): uses as three numbers, no program.
-/
namespace Go.Proofs.Ytlemjdkefojoeaa.Quo

/-- A number is 0 to another one. -/
def wi (n m : Int) : Bool := decide (0 ≤ n) && decide (n ≤ m)
/-- A use is right. -/
def rightB (k r t : Int) : Bool := wi k 100 && (wi r 4000 && wi t 50)
/-- A number of bytes that can't be. -/
def badB (n : Int) : Bool := !wi n 4000
/-- The first number of a list that can't be: its place, counted from k on; -1: none. -/
def firstBad : List Int → Int → Int
  | [], _ => -1
  | x :: r, k => if badB x = true then k else firstBad r (k + 1)
def wrongB (k r t : Int) (xs : List Int) : Bool := !rightB k r t || decide (0 ≤ firstBad xs 0)
/-- What is too much. -/
def overV (k r t : Int) : Int := if 100 < k then 111 else if 4000 < r then 112 else if 50 < t then 113 else 0

theorem wi_true {n m : Int} (h0 : 0 ≤ n) (h1 : n ≤ m) : wi n m = true := by unfold wi; simp [h0, h1]
theorem wi_iff {n m : Int} : wi n m = true ↔ 0 ≤ n ∧ n ≤ m := by unfold wi; simp
theorem wi_false {n m : Int} : wi n m = false ↔ n < 0 ∨ m < n := by unfold wi; simp; omega
theorem right_iff {k r t : Int} : rightB k r t = true ↔ (0 ≤ k ∧ k ≤ 100) ∧ (0 ≤ r ∧ r ≤ 4000) ∧ (0 ≤ t ∧ t ≤ 50) := by
  unfold rightB; simp [wi_iff]
theorem bad_iff {n : Int} : badB n = true ↔ n < 0 ∨ 4000 < n := by unfold badB; simp [wi_false]
theorem bad_false {n : Int} : badB n = false ↔ 0 ≤ n ∧ n ≤ 4000 := by unfold badB; simp [wi_iff]

theorem first_ge : ∀ (xs : List Int) (k : Int), 0 ≤ k → -1 ≤ firstBad xs k ∧ (firstBad xs k = -1 ∨ k ≤ firstBad xs k)
  | [], k, h => by simp [firstBad]
  | x :: r, k, h => by
    unfold firstBad
    split
    · omega
    · have := first_ge r (k + 1) (by omega)
      omega
theorem first_none : ∀ (xs : List Int) (k : Int), (∀ x ∈ xs, badB x = false) → firstBad xs k = -1
  | [], k, _ => rfl
  | x :: r, k, h => by
    unfold firstBad
    rw [if_neg (by rw [h x (by simp)]; simp)]
    exact first_none r (k + 1) (fun y hy => h y (by simp [hy]))
theorem first_some : ∀ (xs : List Int) (k : Int), 0 ≤ k → (∃ x ∈ xs, badB x = true) → 0 ≤ firstBad xs k
  | [], k, _, h => by obtain ⟨x, hx, _⟩ := h; cases hx
  | x :: r, k, h0, h => by
    unfold firstBad
    split
    · exact h0
    · next hx =>
      refine first_some r (k + 1) (by omega) ?_
      obtain ⟨y, hy, hb⟩ := h
      rcases List.mem_cons.1 hy with rfl | hy
      · exact absurd hb hx
      · exact ⟨y, hy, hb⟩

theorem wrong_false {k r t : Int} {xs : List Int} (h : rightB k r t = true) (hx : ∀ x ∈ xs, badB x = false) : wrongB k r t xs = false := by
  unfold wrongB; rw [h, first_none xs 0 hx]; rfl
theorem wrong_right {k r t : Int} {xs : List Int} (h : rightB k r t = false) : wrongB k r t xs = true := by
  unfold wrongB; rw [h]; rfl
theorem wrong_size {k r t : Int} {xs : List Int} (h : ∃ x ∈ xs, badB x = true) : wrongB k r t xs = true := by
  unfold wrongB; have := first_some xs 0 (by omega) h; simp [this]
theorem over_zero {k r t : Int} (h1 : k ≤ 100) (h2 : r ≤ 4000) (h3 : t ≤ 50) : overV k r t = 0 := by
  unfold overV; rw [if_neg (by omega), if_neg (by omega), if_neg (by omega)]

end Go.Proofs.Ytlemjdkefojoeaa.Quo

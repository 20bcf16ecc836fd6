/-
  More plain arithmetic of layer 5: what stands between Last and Next, what a shift does, how counts rise.
-/
import Derived.Test.YtebapkbaheifgaaPlain
namespace Go.Proofs.Ytebapkbaheifgaa.Cal

theorem stC_self (a e : Int) : stC a e a = 0 := by
  unfold stC
  rw [if_neg (by omega)]
  split
  · rfl
  · simp

theorem stR_self (a e : Int) : stR a e a = 0 := by
  unfold stR
  rw [if_neg (by omega)]
  split
  · omega
  · simp

/-- At a deadline's k-th occurrence. -/
theorem st_at (a e k : Int) (he : 0 < e) (hk : 0 ≤ k) : stC a e (a + e * k) = k ∧ stR a e (a + e * k) = 0 := by
  have h : 0 ≤ e * k := Int.mul_nonneg (by omega) hk
  have e1 : a + e * k - a = e * k := by omega
  unfold stC stR
  simp only [if_neg (show ¬ a + e * k < a by omega), if_neg (show ¬ e = 0 by omega), e1]
  exact ⟨Int.mul_ediv_cancel_left k (by omega), Int.mul_emod_right e k⟩

/-- The last occurrence is one. -/
theorem st_last (a e n : Int) (he : 0 ≤ e) (h : a ≤ n) : stC a e (n - stR a e n) = stC a e n ∧ stR a e (n - stR a e n) = 0 := by
  have s := st_sum a e n h
  by_cases h0 : e = 0
  · have r0 : stR a e n = n - a := by unfold stR; rw [if_neg (by omega), if_pos h0]
    have r1 : stC a e n = 0 := by unfold stC; rw [if_neg (by omega), if_pos h0]
    have q : n - stR a e n = a := by omega
    rw [q, r1]
    exact ⟨stC_self a e, stR_self a e⟩
  · have q : n - stR a e n = a + e * stC a e n := by omega
    rw [q]
    exact st_at a e _ (by omega) (stC_bd a e n he h).1

/-- The next one is one, and its index is one more. -/
theorem st_next (a e n : Int) (he : 0 < e) (h : a ≤ n) : stC a e (n - stR a e n + e) = stC a e n + 1 ∧ stR a e (n - stR a e n + e) = 0 := by
  have s := st_sum a e n h
  have q : n - stR a e n + e = a + e * (stC a e n + 1) := by rw [Int.mul_add, Int.mul_one]; omega
  rw [q]
  have b := (stC_bd a e n (by omega) h).1
  exact st_at a e _ he (by omega)

theorem stC_mono (a e t b : Int) (he : 0 ≤ e) (h : a ≤ t) (h2 : t ≤ b) : stC a e t ≤ stC a e b := by
  unfold stC
  simp only [if_neg (show ¬ t < a by omega), if_neg (show ¬ b < a by omega)]
  by_cases h0 : e = 0
  · simp only [if_pos h0]; omega
  · simp only [if_neg h0]; exact Int.ediv_le_ediv (by omega) (by omega)

theorem st_shift (a e n d : Int) : stC (a + d) e (n + d) = stC a e n ∧ stR (a + d) e (n + d) = stR a e n := by
  have q : n + d - (a + d) = n - a := by omega
  unfold stC stR
  rw [q]
  by_cases h : n < a
  · simp only [if_pos h, if_pos (show n + d < a + d by omega), and_self]
  · simp only [if_neg h, if_neg (show ¬ n + d < a + d by omega), and_self]

theorem count_lt (a e n : Int) (h : n < a) : countV a e n = 0 := by unfold countV; rw [if_pos h]
theorem count_ge (a e n : Int) (h : a ≤ n) : countV a e n = plusV (stC a e n) 1 := by unfold countV; rw [if_neg (by omega)]

theorem plus_bd (a b : Int) (ha : Word a) (hb : Word b) : Word (plusV a b) ∧ a ≤ plusV a b := by
  unfold Word at *
  unfold plusV
  split <;> omega
theorem plus_comm (a b : Int) : plusV a b = plusV b a := by
  unfold plusV
  split <;> split <;> omega
theorem plus_assoc (a b c : Int) (ha : Word a) (hb : Word b) (hc : Word c) : plusV (plusV a b) c = plusV a (plusV b c) := by
  unfold Word at *
  unfold plusV
  by_cases h1 : a + b < 18446744073709551616 <;> by_cases h2 : b + c < 18446744073709551616
  · simp only [if_pos h1, if_pos h2]; split <;> split <;> omega
  · simp only [if_pos h1, if_neg h2]; split <;> split <;> omega
  · simp only [if_neg h1, if_pos h2]; split <;> split <;> omega
  · simp only [if_neg h1, if_neg h2]; split <;> split <;> omega

theorem word_stC (a e n : Int) (ha : Word a) (he : Word e) (hn : Word n) : Word (stC a e n) := by
  by_cases h : n < a
  · unfold stC; rw [if_pos h]; exact ⟨by omega, by omega⟩
  · have b := stC_bd a e n he.1 (by omega)
    unfold Word at *
    omega
theorem word_count (a e n : Int) (ha : Word a) (he : Word e) (hn : Word n) : Word (countV a e n) := by
  by_cases h : n < a
  · rw [count_lt a e n h]; exact ⟨by omega, by omega⟩
  · rw [count_ge a e n (by omega)]
    exact (plus_bd _ _ (word_stC a e n ha he hn) ⟨by omega, by omega⟩).1
theorem word_last (a e n : Int) (ha : Word a) (he : Word e) (hn : Word n) : Word (lastV a e n) := by
  unfold lastV
  split
  · exact ⟨by omega, by omega⟩
  · have b := stR_bd a e n he.1 (by omega)
    unfold Word at *
    omega
theorem word_next (a e n : Int) (ha : Word a) (he : Word e) (_hn : Word n) : Word (nextV a e n) := by
  unfold nextV
  split
  · exact ha
  · next h =>
    have b := stR_bd a e n he.1 (by omega)
    split
    · unfold Word at *; omega
    · exact ⟨by omega, by omega⟩

/-- Counts rise. -/
theorem count_mono (a e t b : Int) (he : Word e) (h : t ≤ b) : countV a e t ≤ countV a e b := by
  by_cases h1 : t < a
  · rw [count_lt a e t h1]
    by_cases h2 : b < a
    · rw [count_lt a e b h2]; omega
    · rw [count_ge a e b (by omega)]
      have := (stC_bd a e b he.1 (by omega)).1
      unfold plusV
      split <;> omega
  · rw [count_ge a e t (by omega), count_ge a e b (by omega)]
    have := stC_mono a e t b he.1 (by omega) h
    unfold plusV
    split <;> split <;> omega

/-- While fewer than at b were passed there is a next one, not above b, and it counts one more. -/
theorem count_step (a e t b : Int) (ha : Word a) (he : Word e) (ht : Word t) (hb : Word b) (hm : countV a e b < 18446744073709551615) (hlt : countV a e t < countV a e b) :
    nextB a e t = true ∧ nextV a e t ≤ b ∧ countV a e (nextV a e t) = countV a e t + 1 := by
  have hab : a ≤ b := by
    by_cases h : b < a
    · rw [count_lt a e b h] at hlt
      have := (word_count a e t ha he ht).1
      omega
    · omega
  have hcb := count_ge a e b hab
  have wb := word_stC a e b ha he hb
  by_cases h1 : t < a
  · have n1 : nextV a e t = a := by unfold nextV; rw [if_pos h1]
    have n2 : nextB a e t = true := by unfold nextB; simp [h1]
    rw [n1, n2, count_lt a e t h1, count_ge a e a (by omega), stC_self]
    exact ⟨rfl, hab, by decide⟩
  · have hct := count_ge a e t (by omega)
    have wt := word_stC a e t ha he ht
    rw [hcb] at hm hlt
    rw [hct] at hlt ⊢
    unfold Word at *
    have hC : stC a e t < stC a e b := by unfold plusV at hlt; split at hlt <;> split at hlt <;> omega
    have p1 : plusV (stC a e t) 1 = stC a e t + 1 := by unfold plusV; rw [if_pos (by omega)]
    have pb : stC a e b + 1 < 18446744073709551615 := by unfold plusV at hm; split at hm <;> omega
    have h0 : e ≠ 0 := by
      intro h0
      have : stC a e b = 0 := by unfold stC; rw [if_neg (by omega), if_pos h0]
      omega
    have s := st_sum a e t (by omega)
    have sb := st_sum a e b hab
    have rb := (stR_bd a e b he.1 hab).1
    have mm : e * (stC a e t + 1) ≤ e * stC a e b := Int.mul_le_mul_of_nonneg_left (by omega) he.1
    rw [Int.mul_add, Int.mul_one] at mm
    have le : t - stR a e t + e ≤ b := by omega
    have n1 : nextV a e t = t - stR a e t + e := by unfold nextV; rw [if_neg h1, if_pos ⟨h0, by omega⟩]
    have n2 : nextB a e t = true := by unfold nextB; simp [h0]; omega
    have rt := stR_bd a e t he.1 (by omega)
    rw [n1, n2, count_ge a e _ (by omega), (st_next a e t (by omega) (by omega)).1, p1]
    refine ⟨rfl, le, ?_⟩
    unfold plusV
    rw [if_pos (by omega)]

/-- When as many as at b were passed the next one is above b. -/
theorem count_end (a e t b : Int) (ha : Word a) (he : Word e) (ht : Word t) (hb : Word b) (htb : t ≤ b) (hm : countV a e b < 18446744073709551615) (heq : countV a e t = countV a e b) (hn : nextB a e t = true) :
    b < nextV a e t := by
  by_cases h1 : t < a
  · have n1 : nextV a e t = a := by unfold nextV; rw [if_pos h1]
    rw [n1]
    by_cases h : b < a
    · exact h
    · rw [count_lt a e t h1, count_ge a e b (by omega)] at heq
      have := (stC_bd a e b he.1 (by omega)).1
      unfold plusV at heq
      split at heq <;> omega
  · have hct := count_ge a e t (by omega)
    have hcb := count_ge a e b (by omega)
    rw [hct, hcb] at heq
    rw [hcb] at hm
    have wt := word_stC a e t ha he ht
    have wb := word_stC a e b ha he hb
    unfold Word at *
    have hC : stC a e t = stC a e b := by unfold plusV at heq hm; split at heq <;> split at heq <;> split at hm <;> omega
    have q : e ≠ 0 ∧ t - stR a e t + e < 18446744073709551616 := by
      unfold nextB at hn
      simp [h1] at hn
      omega
    have n1 : nextV a e t = t - stR a e t + e := by unfold nextV; rw [if_neg h1, if_pos q]
    rw [n1]
    by_cases h : b < t - stR a e t + e
    · exact h
    · have rt := stR_bd a e t he.1 (by omega)
      have := stC_mono a e (t - stR a e t + e) b he.1 (by omega) (by omega)
      rw [(st_next a e t (by omega) (by omega)).1] at this
      omega

end Go.Proofs.Ytebapkbaheifgaa.Cal

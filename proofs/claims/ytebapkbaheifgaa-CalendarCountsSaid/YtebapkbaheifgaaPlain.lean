/-
  The plain arithmetic of layer 5 (calendar): numbers alone, no program.
-/
namespace Go.Proofs.Ytebapkbaheifgaa.Cal

/-- A tick. -/
def Word (x : Int) : Prop := 0 ≤ x ∧ x < 18446744073709551616

/-- How many times a deadline came again up to a tick. -/
def stC (a e t : Int) : Int := if t < a then 0 else if e = 0 then 0 else (t - a) / e
/-- What is left then. -/
def stR (a e t : Int) : Int := if t < a then 0 else if e = 0 then t - a else (t - a) % e

def plusV (a b : Int) : Int := if a + b < 18446744073709551616 then a + b else 18446744073709551615
def lastV (a e n : Int) : Int := if n < a then 0 else n - stR a e n
def lastB (a n : Int) : Bool := decide (a ≤ n)
def nextB (a e n : Int) : Bool := decide (n < a) || (decide (e ≠ 0) && decide (n - stR a e n + e < 18446744073709551616))
def nextV (a e n : Int) : Int := if n < a then a else if e ≠ 0 ∧ n - stR a e n + e < 18446744073709551616 then n - stR a e n + e else 0
def countV (a e n : Int) : Int := if n < a then 0 else plusV (stC a e n) 1
def indexB (a e t : Int) : Bool := decide (a ≤ t) && decide (stR a e t = 0)
def indexV (a e t : Int) : Int := if a ≤ t ∧ stR a e t = 0 then stC a e t else 0

/-- What is left is no more than what has gone by. -/
theorem stR_bd (a e t : Int) (he : 0 ≤ e) (h : a ≤ t) : 0 ≤ stR a e t ∧ stR a e t ≤ t - a := by
  unfold stR
  rw [if_neg (by omega)]
  split
  · omega
  · have h1 := Int.emod_nonneg (t - a) (b := e) (by omega)
    have h2 := Int.mul_ediv_add_emod (t - a) e
    have h3 : 0 ≤ (t - a) / e := Int.ediv_nonneg (by omega) he
    have h4 : 0 ≤ e * ((t - a) / e) := Int.mul_nonneg he h3
    omega

theorem stC_bd (a e t : Int) (he : 0 ≤ e) (h : a ≤ t) : 0 ≤ stC a e t ∧ stC a e t ≤ t - a := by
  unfold stC
  rw [if_neg (by omega)]
  split
  · omega
  · have h3 : 0 ≤ (t - a) / e := Int.ediv_nonneg (by omega) he
    have h4 : (t - a) / e ≤ t - a := Int.ediv_le_self e (by omega)
    omega

/-- From the deadline on: so many steps, and the rest. -/
theorem st_sum (a e t : Int) (h : a ≤ t) : e * stC a e t + stR a e t = t - a := by
  unfold stC stR
  simp only [if_neg (show ¬ t < a by omega)]
  by_cases h0 : e = 0
  · rw [if_pos h0, if_pos h0, h0]; omega
  · rw [if_neg h0, if_neg h0]; exact Int.mul_ediv_add_emod (t - a) e

theorem stR_lt (a e t : Int) (he : 0 < e) (h : a ≤ t) : stR a e t < e := by
  unfold stR
  rw [if_neg (by omega), if_neg (by omega)]
  exact Int.emod_lt_of_pos _ he

end Go.Proofs.Ytebapkbaheifgaa.Cal

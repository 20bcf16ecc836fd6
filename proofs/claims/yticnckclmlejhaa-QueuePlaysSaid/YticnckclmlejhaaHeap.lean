/-
  The plain law of layer 6 (queue): a heap in a list, sifted up and down. No program.
-/
namespace Go.Proofs.Yticnckclmlejhaa.Hp

section
variable {α : Type} (lt : α → α → Bool)

/-- A strict order of all. -/
structure Total : Prop where
  irr : ∀ a, lt a a = false
  tr : ∀ a b c, lt a b = true → lt b c = true → lt a c = true
  tot : ∀ a b, lt a b = false → lt b a = false → a = b

variable {lt}
theorem Total.asym (h : Total lt) {a b : α} (hab : lt a b = true) : lt b a = false := by
  cases hba : lt b a
  · rfl
  · have := h.tr a b a hab hba; rw [h.irr] at this; cases this
/-- Not above, handed on: 'lt b a = false' says that a is not above b. -/
theorem Total.le_tr (h : Total lt) {a b c : α} (h1 : lt b a = false) (h2 : lt c b = false) : lt c a = false := by
  cases hca : lt c a
  · rfl
  · cases hab : lt a b
    · have e := h.tot a b hab h1
      subst e
      rw [h2] at hca; cases hca
    · have := h.tr c a b hca hab
      rw [h2] at this; cases this
variable (lt)
variable [Inhabited α]

def elt (l : List α) (i : Nat) : α := l.getD i default
def par (i : Nat) : Nat := (i - 1) / 2
def swp (l : List α) (i j : Nat) : List α := (l.set i (elt l j)).set j (elt l i)
/-- No one stands ahead of the one that stands over it. -/
def IsHeap (l : List α) (n : Nat) : Prop := ∀ k, 0 < k → k < n → lt (elt l k) (elt l (par k)) = false
def UpInv (l : List α) (j n : Nat) : Prop :=
  (∀ k, 0 < k → k < n → k ≠ j → lt (elt l k) (elt l (par k)) = false) ∧ (∀ k, 0 < k → k < n → par k = j → 0 < j → lt (elt l k) (elt l (par j)) = false)
def DownInv (l : List α) (i n : Nat) : Prop :=
  (∀ k, 0 < k → k < n → par k ≠ i → k ≠ i → lt (elt l k) (elt l (par k)) = false) ∧ (∀ k, 0 < k → k < n → par k = i → 0 < i → lt (elt l k) (elt l (par i)) = false)

theorem elt_set {l : List α} {i k : Nat} {x : α} (hi : i < l.length) : elt (l.set i x) k = if i = k then x else elt l k := by
  unfold elt
  rw [List.getD_eq_getElem?_getD, List.getElem?_set, List.getD_eq_getElem?_getD]
  split
  · next h => simp
  · rfl
theorem elt_swp {l : List α} {i j k : Nat} (hi : i < l.length) (hj : j < l.length) : elt (swp l i j) k = if j = k then elt l i else if i = k then elt l j else elt l k := by
  unfold swp
  rw [elt_set (by simpa using hj)]
  split
  · rfl
  · rw [elt_set hi]
theorem length_swp (l : List α) (i j : Nat) : (swp l i j).length = l.length := by simp [swp]
theorem elt_elem {l : List α} {i : Nat} (h : i < l.length) : elt l i = l[i] := by simp [elt, h]
theorem swp_perm {l : List α} {i j : Nat} (hi : i < l.length) (hj : j < l.length) : (swp l i j).Perm l := by
  unfold swp
  rw [elt_elem hi, elt_elem hj]
  exact List.set_set_perm hi hj
theorem swp_self {l : List α} {i : Nat} (hi : i < l.length) : swp l i i = l := by
  unfold swp
  rw [elt_elem hi]
  simp

theorem par_lt {k : Nat} (h : 0 < k) : par k < k := by unfold par; omega

variable {lt}
theorem up_done {l : List α} {j n : Nat} (h : UpInv lt l j n) (hj : j = 0 ∨ lt (elt l j) (elt l (par j)) = false) : IsHeap lt l n := by
  intro k hk hkn
  by_cases e : k = j
  · subst e
    rcases hj with hj | hj
    · omega
    · exact hj
  · exact h.1 k hk hkn e

theorem up_step (T : Total lt) {l : List α} {j n : Nat} (hn : n ≤ l.length) (hjn : j < n) (h : UpInv lt l j n) (hj : 0 < j) (hlt : lt (elt l j) (elt l (par j)) = true) : UpInv lt (swp l (par j) j) (par j) n := by
  have hp := par_lt hj
  have g : ∀ k, elt (swp l (par j) j) k = if j = k then elt l (par j) else if par j = k then elt l j else elt l k := fun k => elt_swp (by omega) (by omega)
  refine ⟨fun k hk hkn hne => ?_, fun k hk hkn hpk hpj => ?_⟩
  · rw [g, g]
    have hpk := par_lt hk
    by_cases e1 : j = k
    · -- what came down stands under what went up
      subst e1
      rw [if_pos rfl, if_neg (by omega), if_pos rfl]
      exact T.asym hlt
    · rw [if_neg e1, if_neg (fun e => hne e.symm)]
      by_cases e2 : j = par k
      · rw [if_pos e2]
        exact h.2 k hk hkn e2.symm hj
      · rw [if_neg e2]
        by_cases e3 : par j = par k
        · rw [if_pos e3]
          -- the brother
          have h1 := h.1 k hk hkn (fun e => e1 e.symm)
          rw [← e3] at h1
          exact T.le_tr (T.asym hlt) h1
        · rw [if_neg e3]
          exact h.1 k hk hkn (fun e => e1 e.symm)
  · have hpp := par_lt hpj
    rw [g, g, if_neg (show ¬ j = par (par j) by omega), if_neg (show ¬ par j = par (par j) by omega)]
    have hup := h.1 (par j) hpj (by omega) (by omega)
    by_cases e1 : j = k
    · rw [if_pos e1]
      exact hup
    · rw [if_neg e1]
      by_cases e2 : par j = k
      · have := par_lt hk; omega
      · rw [if_neg e2]
        have h1 := h.1 k hk hkn (fun e => e1 e.symm)
        rw [hpk] at h1
        exact T.le_tr hup h1

/-- The lesser of the children. -/
theorem down_step (T : Total lt) {l : List α} {i j n : Nat} (hn : n ≤ l.length) (h : DownInv lt l i n) (hj : 0 < j) (hjn : j < n) (hp : par j = i) (hmin : ∀ k, 0 < k → k < n → par k = i → lt (elt l k) (elt l j) = false)
    (hlt : lt (elt l j) (elt l i) = true) : DownInv lt (swp l i j) j n ∧ lt (elt (swp l i j) j) (elt (swp l i j) (par j)) = false := by
  have hij : i < j := by have := par_lt hj; omega
  have g : ∀ k, elt (swp l i j) k = if j = k then elt l i else if i = k then elt l j else elt l k := fun k => elt_swp (by omega) (by omega)
  refine ⟨⟨fun k hk hkn hpk hkj => ?_, fun k hk hkn hpk _ => ?_⟩, ?_⟩
  · have gk : elt (swp l i j) k = if i = k then elt l j else elt l k := by rw [g, if_neg (fun e => hkj e.symm)]
    have gp : elt (swp l i j) (par k) = if i = par k then elt l j else elt l (par k) := by rw [g, if_neg (fun e => hpk e.symm)]
    rw [gk, gp]
    have hpl := par_lt hk
    by_cases e1 : i = k
    · subst e1
      rw [if_pos rfl, if_neg (by omega)]
      exact h.2 j hj hjn hp (by omega)
    · rw [if_neg e1]
      by_cases e2 : i = par k
      · rw [if_pos e2]
        exact hmin k hk hkn e2.symm
      · rw [if_neg e2]
        exact h.1 k hk hkn (fun e => e2 e.symm) (fun e => e1 e.symm)
  · rw [hp, g, g]
    have hpl := par_lt hk
    rw [if_neg (by omega), if_neg (by omega), if_neg (by omega), if_pos rfl]
    have h1 := h.1 k hk hkn (by omega) (by omega)
    rw [hpk] at h1
    exact h1
  · rw [hp, g, g, if_pos rfl, if_neg (by omega), if_pos rfl]
    exact T.asym hlt

theorem down_end {l : List α} {i n : Nat} (h : DownInv lt l i n) (hc : ∀ k, 0 < k → k < n → par k = i → lt (elt l k) (elt l i) = false) : UpInv lt l i n := by
  refine ⟨fun k hk hkn hki => ?_, h.2⟩
  by_cases e : par k = i
  · rw [e]; exact hc k hk hkn e
  · exact h.1 k hk hkn e hki
theorem down_of_up {l : List α} {i n : Nat} (h : UpInv lt l i n) : DownInv lt l i n := ⟨fun k hk hkn _ hki => h.1 k hk hkn hki, h.2⟩

/-- The root is not above any. -/
theorem root_le (T : Total lt) {l : List α} {n : Nat} (h : IsHeap lt l n) : ∀ k, k < n → lt (elt l k) (elt l 0) = false := by
  intro k
  induction k using Nat.strongRecOn with
  | _ k ih =>
    intro hk
    rcases Nat.eq_zero_or_pos k with rfl | hp
    · exact T.irr _
    · exact T.le_tr (ih (par k) (par_lt hp) (by have := par_lt hp; omega)) (h k hp hk)

/-- One element is set anew in a heap. -/
theorem set_inv {l : List α} {i : Nat} (T : Total lt) (h : IsHeap lt l l.length) (hi : i < l.length) (x : α) : DownInv lt (l.set i x) i l.length := by
  refine ⟨fun k hk hkn hpk hki => ?_, fun k hk hkn hpk hi0 => ?_⟩
  · rw [elt_set hi, elt_set hi, if_neg (fun e => hki e.symm), if_neg (fun e => hpk e.symm)]
    exact h k hk hkn
  · have hpl := par_lt hk
    have hpi := par_lt hi0
    rw [elt_set hi, elt_set hi, if_neg (by omega), if_neg (by omega)]
    have h1 := h k hk hkn
    rw [hpk] at h1
    exact T.le_tr (h i hi0 hi) h1
/-- The last element takes the place of the i-th one, in a heap; only what is ahead of the last place counts. -/
theorem move_inv {l : List α} {i n : Nat} (T : Total lt) (h : IsHeap lt l (n + 1)) (hl : l.length = n + 1) (hi : i < n) : DownInv lt (swp l i n) i n := by
  have g : ∀ k, elt (swp l i n) k = if n = k then elt l i else if i = k then elt l n else elt l k := fun k => elt_swp (by omega) (by omega)
  refine ⟨fun k hk hkn hpk hki => ?_, fun k hk hkn hpk hi0 => ?_⟩
  · have hpl := par_lt hk
    rw [g, g, if_neg (by omega), if_neg (by omega), if_neg (by omega), if_neg (fun e => hpk e.symm)]
    exact h k hk (by omega)
  · have hpl := par_lt hk
    have hpi := par_lt hi0
    rw [g, g, if_neg (by omega), if_neg (by omega), if_neg (by omega), if_neg (by omega)]
    have h1 := h k hk (by omega)
    rw [hpk] at h1
    exact T.le_tr (h i hi0 (by omega)) h1
/-- One is laid behind a heap. -/
theorem push_inv {l : List α} (h : IsHeap lt l l.length) (x : α) : UpInv lt (l ++ [x]) l.length (l.length + 1) := by
  have g : ∀ k, k < l.length → elt (l ++ [x]) k = elt l k := by
    intro k hk
    rw [elt_elem (by simp; omega), elt_elem hk, List.getElem_append_left hk]
  refine ⟨fun k hk hkn hne => ?_, fun k hk hkn hpk _ => ?_⟩
  · have hpl := par_lt hk
    rw [g k (by omega), g (par k) (by omega)]
    exact h k hk (by omega)
  · have hpl := par_lt hk
    omega
theorem heap_take {l : List α} {n : Nat} (h : IsHeap lt l n) (hn : n ≤ l.length) : IsHeap lt (l.take n) n := by
  have g : ∀ k, k < n → elt (l.take n) k = elt l k := by
    intro k hk
    rw [elt_elem (by simp; omega), elt_elem (by omega), List.getElem_take]
  intro k hk hkn
  have hpl := par_lt hk
  rw [g k hkn, g (par k) (by omega)]
  exact h k hk hkn
end
end Go.Proofs.Yticnckclmlejhaa.Hp

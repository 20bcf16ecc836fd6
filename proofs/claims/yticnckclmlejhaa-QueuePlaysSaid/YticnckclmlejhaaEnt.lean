/-
  Entries of layer 6 (queue): how they stand, and how they lie in a row of cells.
-/
import Derived.Test.YticnckclmlejhaaHeap
import Derived.Test.YticnckclmlejhaaLess
import Derived.Sort.Walk0
namespace Go.Proofs.Yticnckclmlejhaa
open Hp

structure Ent where
  nm : ByteArray
  tk : Int
instance : Inhabited Ent := ⟨⟨ByteArray.empty, 0⟩⟩

def lessE (a b : Ent) : Bool := decide (a.tk < b.tk) || (decide (a.tk = b.tk) && Op.bytesLess a.nm.toList b.nm.toList)

theorem toList_inj {a b : ByteArray} (h : a.toList = b.toList) : a = b := by
  have h1 : a.data.toList = b.data.toList := by
    rw [← ByteArray.toList_eq, ← ByteArray.toList_eq, h]
  obtain ⟨a⟩ := a
  obtain ⟨b⟩ := b
  have : a = b := Array.ext' h1
  rw [this]

theorem bl_irr : ∀ x : List UInt8, Op.bytesLess x x = false
  | [] => rfl
  | a :: x => by simp [Op.bytesLess, bl_irr x]
theorem bl_tr : ∀ x y z : List UInt8, Op.bytesLess x y = true → Op.bytesLess y z = true → Op.bytesLess x z = true
  | _, [], _, h, _ => by simp [Op.bytesLess] at h
  | _, _ :: _, [], _, h => by simp [Op.bytesLess] at h
  | [], _ :: _, _ :: _, _, _ => rfl
  | a :: x, b :: y, c :: z, h1, h2 => by
    simp only [Op.bytesLess, Bool.or_eq_true, decide_eq_true_eq, Bool.and_eq_true, beq_iff_eq] at h1 h2 ⊢
    rcases h1 with h1 | ⟨rfl, h1⟩
    · rcases h2 with h2 | ⟨rfl, _⟩
      · exact .inl (UInt8.lt_trans h1 h2)
      · exact .inl h1
    · rcases h2 with h2 | ⟨rfl, h2⟩
      · exact .inl h2
      · exact .inr ⟨rfl, bl_tr x y z h1 h2⟩
theorem bl_tot : ∀ x y : List UInt8, Op.bytesLess x y = false → Op.bytesLess y x = false → x = y
  | [], [], _, _ => rfl
  | _ :: _, [], _, h => by simp [Op.bytesLess] at h
  | [], _ :: _, h, _ => by simp [Op.bytesLess] at h
  | a :: x, b :: y, h1, h2 => by
    simp only [Op.bytesLess, Bool.or_eq_false_iff, decide_eq_false_iff_not, Bool.and_eq_false_iff, beq_eq_false_iff_ne] at h1 h2
    have hab : a = b := by
      by_cases e : a = b
      · exact e
      · rcases UInt8.lt_or_lt_of_ne e with h | h
        · exact absurd h h1.1
        · exact absurd h h2.1
    subst hab
    simp only [ne_eq, not_true_eq_false, false_or] at h1 h2
    rw [bl_tot x y h1.2 h2.2]

theorem less_total : Total lessE where
  irr a := by simp [lessE, bl_irr]
  tr a b c h1 h2 := by
    simp only [lessE, Bool.or_eq_true, decide_eq_true_eq, Bool.and_eq_true] at h1 h2 ⊢
    rcases h1 with h1 | ⟨e1, h1⟩
    · rcases h2 with h2 | ⟨e2, _⟩
      · left; omega
      · left; omega
    · rcases h2 with h2 | ⟨e2, h2⟩
      · left; omega
      · exact .inr ⟨by omega, bl_tr _ _ _ h1 h2⟩
  tot a b h1 h2 := by
    simp only [lessE, Bool.or_eq_false_iff, decide_eq_false_iff_not, Bool.and_eq_false_iff] at h1 h2
    have e : a.tk = b.tk := by omega
    rcases h1.2 with h | h
    · exact absurd e h
    · rcases h2.2 with h' | h'
      · exact absurd e.symm h'
      · have := toList_inj (bl_tot _ _ h h')
        cases a; cases b; simp_all

/-- The Go text's compare says the same. -/
theorem cmp_less (a b : Ent) : decide (cmpE a.nm a.tk b.nm b.tk < 0) = lessE a b := by
  unfold cmpE or2 cmpI lessE
  by_cases h1 : a.tk < b.tk
  · simp [h1]
  · by_cases h2 : b.tk < a.tk
    · have : ¬ a.tk = b.tk := by omega
      simp [h1, h2, this]
    · have h3 : a.tk = b.tk := by omega
      rw [if_neg h1, if_neg h2, if_pos rfl, decide_eq_false h1, decide_eq_true h3]
      unfold cmpS
      cases h4 : Op.bytesLess a.nm.toList b.nm.toList
      · rw [if_neg (by simp)]
        split <;> simp
      · simp

/-- A list of entries, cell by cell. -/
def flat (l : List Ent) : List Value := l.flatMap fun e => [.string e.nm, .int .u64 e.tk]
theorem flat_cons (e : Ent) (l : List Ent) : flat (e :: l) = .string e.nm :: .int .u64 e.tk :: flat l := rfl
theorem flat_nil : flat [] = [] := rfl
theorem flat_append (l m : List Ent) : flat (l ++ m) = flat l ++ flat m := by simp [flat]
theorem flat_length (l : List Ent) : (flat l).length = l.length * 2 := by
  induction l with
  | nil => rfl
  | cons e l ih => rw [flat_cons]; simp [ih]; omega
theorem flat_get (l : List Ent) (i : Nat) (h : i < l.length) : (flat l)[i * 2]? = some (.string (elt l i).nm) ∧ (flat l)[i * 2 + 1]? = some (.int .u64 (elt l i).tk) := by
  induction l generalizing i with
  | nil => simp at h
  | cons e l ih =>
    cases i with
    | zero => rw [flat_cons]; simp [elt]
    | succ i =>
      have := ih i (by simpa using h)
      rw [flat_cons, show (i + 1) * 2 = i * 2 + 1 + 1 by omega]
      simp only [List.getElem?_cons_succ]
      exact this
theorem flat_set (l : List Ent) (i : Nat) (e : Ent) : ((flat l).set (i * 2) (.string e.nm)).set (i * 2 + 1) (.int .u64 e.tk) = flat (l.set i e) := by
  induction l generalizing i with
  | nil => simp [flat]
  | cons a l ih =>
    cases i with
    | zero => simp [flat_cons]
    | succ i =>
      rw [show (i + 1) * 2 = i * 2 + 1 + 1 by omega]
      simp only [flat_cons, List.set_cons_succ, ih]
theorem flat_set_tk (l : List Ent) (i : Nat) (t : Int) (h : i < l.length) : (flat l).set (i * 2 + 1) (.int .u64 t) = flat (l.set i ⟨(elt l i).nm, t⟩) := by
  induction l generalizing i with
  | nil => simp at h
  | cons a l ih =>
    cases i with
    | zero => simp [flat_cons, elt]
    | succ i =>
      rw [show (i + 1) * 2 + 1 = i * 2 + 1 + 1 + 1 by omega]
      simp only [flat_cons, List.set_cons_succ]
      rw [ih i (by simpa using h)]
      rfl
theorem flat_take (l : List Ent) (n : Nat) : (flat l).take (n * 2) = flat (l.take n) := by
  induction l generalizing n with
  | nil => simp [flat]
  | cons a l ih =>
    cases n with
    | zero => simp [flat]
    | succ n =>
      rw [show (n + 1) * 2 = n * 2 + 1 + 1 by omega]
      simp only [flat_cons, List.take_succ_cons, ih]

/-- From names to places: this function is the list's. -/
def Whr (f : ByteArray → Option Nat) (l : List Ent) : Prop := ∀ nm k, f nm = some k ↔ k < l.length ∧ (elt l k).nm = nm

end Go.Proofs.Yticnckclmlejhaa

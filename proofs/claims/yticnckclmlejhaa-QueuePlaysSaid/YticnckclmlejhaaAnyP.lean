/-
  The plain laws of layer 6's QueueAny.
-/
import Derived.Test.YticnckclmlejhaaAny
namespace Go.Proofs.Yticnckclmlejhaa
open Hp

def putE (e : Ent) (P : List Ent) : List Ent := ins e (fltr e.nm P)
theorem putE_len (e : Ent) (P : List Ent) : (putE e P).length ≤ P.length + 1 := put_len e P
/-- Behind the entries from j on: their names are in P, no name beside. -/
def L1 (S P : List Ent) (j : Nat) : Prop := P.length ≤ 150 ∧ P.length + j ≤ S.length ∧ (∀ x ∈ P, ∃ y ∈ S, y.nm = x.nm) ∧ ∀ m, j ≤ m → m < S.length → ∃ x ∈ P, x.nm = (elt S m).nm
def L2 (S P : List Ent) (i : Nat) : Prop := P.length ≤ 150 + 2 * i ∧ (∀ x ∈ P, ∃ y ∈ S, y.nm = x.nm) ∧ (∀ y ∈ S, ∃ x ∈ P, x.nm = y.nm) ∧ ∀ m, m < i → m < S.length → elt S m ∈ P

theorem elt_mem {S : List Ent} {m : Nat} (h : m < S.length) : elt S m ∈ S := by rw [elt_elem h]; exact List.getElem_mem h
theorem put_names {S P : List Ent} {e : Ent} (h : ∀ x ∈ P, ∃ y ∈ S, y.nm = x.nm) {y : Ent} (hy : y ∈ S) (he : y.nm = e.nm) : ∀ x ∈ putE e P, ∃ y ∈ S, y.nm = x.nm := by
  intro x hx
  rcases mem_put.1 hx with rfl | ⟨hx, _⟩
  · exact ⟨y, hy, he⟩
  · exact h x hx
theorem put_has {P : List Ent} {e : Ent} {n : ByteArray} (h : ∃ x ∈ P, x.nm = n) : ∃ x ∈ putE e P, x.nm = n := by
  obtain ⟨x, hx, rfl⟩ := h
  by_cases hn : x.nm = e.nm
  · exact ⟨e, mem_put.2 (.inl rfl), hn.symm⟩
  · exact ⟨x, mem_put.2 (.inr ⟨hx, hn⟩), rfl⟩
theorem L1_start {S : List Ent} : L1 S [] S.length := ⟨by simp, by simp, by simp, fun m h1 h2 => by omega⟩
theorem L1_step {S P : List Ent} {k : Nat} (h : L1 S P (k + 1)) (hS : S.length ≤ 150) (hk : k < S.length) (t : Int) : L1 S (putE ⟨(elt S k).nm, t⟩ P) k := by
  obtain ⟨h1, h2, h3, h4⟩ := h
  have hl := putE_len ⟨(elt S k).nm, t⟩ P
  refine ⟨by omega, by omega, put_names h3 (elt_mem hk) rfl, fun m hm1 hm2 => ?_⟩
  by_cases hm : m = k
  · subst hm
    exact ⟨_, mem_put.2 (.inl rfl), rfl⟩
  · exact put_has (h4 m (by omega) hm2)
theorem L2_start {S P : List Ent} (h : L1 S P 0) : L2 S P 0 := by
  obtain ⟨h1, h2, h3, h4⟩ := h
  refine ⟨by omega, h3, fun y hy => ?_, fun m hm => by omega⟩
  obtain ⟨m, hm, rfl⟩ := List.mem_iff_getElem.1 hy
  have := h4 m (Nat.zero_le _) hm
  rwa [elt_elem hm] at this
theorem put_keeps {S P : List Ent} (hu : Uniq S) {e x : Ent} (he : e ∈ S) (hx : x ∈ S) (hp : x ∈ P) : x ∈ putE e P := by
  by_cases hn : x.nm = e.nm
  · rw [uniq_eq hu hx he hn]
    exact mem_put.2 (.inl rfl)
  · exact mem_put.2 (.inr ⟨hp, hn⟩)
theorem fnd_is {P : List Ent} {n : ByteArray} (h : ∃ x ∈ P, x.nm = n) : (fnd P n).isSome = true := by
  obtain ⟨x, hx, rfl⟩ := h
  cases hq : fnd P x.nm with
  | none => exact absurd rfl (fnd_none.1 hq x hx)
  | some y => rfl
theorem L2_step {S P : List Ent} {i k : Nat} (h : L2 S P i) (hu : Uniq S) (hi : i < S.length) (hk : k < S.length) :
    (fnd P (elt S k).nm).isSome = true ∧ (fnd (putE (elt S k) P) (elt S i).nm).isSome = true ∧ L2 S (putE (elt S i) (putE (elt S k) P)) (i + 1) := by
  obtain ⟨h1, h2, h3, h4⟩ := h
  have l1 := putE_len (elt S k) P
  have l2 := putE_len (elt S i) (putE (elt S k) P)
  refine ⟨fnd_is (h3 _ (elt_mem hk)), fnd_is (put_has (h3 _ (elt_mem hi))), by omega, put_names (put_names h2 (elt_mem hk) rfl) (elt_mem hi) rfl, fun y hy => put_has (put_has (h3 y hy)), fun m hm hms => ?_⟩
  by_cases he : m = i
  · subst he
    exact mem_put.2 (.inl rfl)
  · exact put_keeps hu (elt_mem hi) (elt_mem hms) (put_keeps hu (elt_mem hk) (elt_mem hms) (h4 m (by omega) hms))
theorem L2_end {S P : List Ent} (h : L2 S P S.length) (hs : Sorted S) (hu : Uniq S) (hp : Sorted P) (hup : Uniq P) : P = S := by
  obtain ⟨h1, h2, h3, h4⟩ := h
  refine any_eq hs hu hp hup (fun x hx => ?_) h2
  obtain ⟨m, hm, rfl⟩ := List.mem_iff_getElem.1 hx
  have := h4 m hm hm
  rwa [elt_elem hm] at this
end Go.Proofs.Yticnckclmlejhaa

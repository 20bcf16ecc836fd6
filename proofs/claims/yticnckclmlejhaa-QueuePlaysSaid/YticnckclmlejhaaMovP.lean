/-
  The plain laws of layer 6's QueueMoves.
-/
import Derived.Test.YticnckclmlejhaaAnyP
namespace Go.Proofs.Yticnckclmlejhaa
open Hp

/-- The entry that was moved, and what is left beside it. -/
theorem mov_sorted {e : Ent} {S : List Ent} (h : Sorted S) : Sorted (putE e S) := ins_sorted (fltr_sorted h) fun _ ha => (mem_fltr.1 ha).2
theorem ins_uniq' {e : Ent} {S : List Ent} (h : Uniq S) : Uniq (putE e S) := by
  refine uniq_perm (ins_perm e (fltr e.nm S)).symm ?_
  refine List.nodup_cons.2 ⟨fun hm => ?_, fltr_uniq (nm := e.nm) h⟩
  obtain ⟨x, hx, hxe⟩ := List.mem_map.1 hm
  exact (mem_fltr.1 hx).2 hxe
theorem fltr_self (n : ByteArray) (S : List Ent) : fltr n (fltr n S) = fltr n S := by simp [fltr]
theorem fltr_put (e : Ent) (S : List Ent) (h : Sorted S) : fltr e.nm (putE e S) = fltr e.nm S := by
  refine sorted_eq (fltr_sorted (mov_sorted h)) (fltr_sorted h) ?_
  have h1 : (fltr e.nm (putE e S)).Perm (fltr e.nm (e :: fltr e.nm S)) := fltr_perm (ins_perm e (fltr e.nm S))
  have h2 : fltr e.nm (e :: fltr e.nm S) = fltr e.nm (fltr e.nm S) := by simp [fltr]
  rw [h2, fltr_self] at h1
  exact h1
theorem put_length {e e0 : Ent} {S : List Ent} (hu : Uniq S) (h : e0 ∈ S) (hn : e0.nm = e.nm) : (putE e S).length = S.length := by
  obtain ⟨i, hi, rfl⟩ := List.mem_iff_getElem.1 h
  have p1 : (S[i] :: S.eraseIdx i).Perm S := erase_perm hi
  have p2 := (rem_perm hu p1).length_eq
  have p3 := p1.length_eq
  rw [hn] at p2
  unfold putE
  rw [ins_len, ← p2]
  simpa using p3
theorem put_back {e0 : Ent} {t : Int} {S : List Ent} (hs : Sorted S) (hu : Uniq S) (h : e0 ∈ S) : putE e0 (putE ⟨e0.nm, t⟩ S) = S := by
  have hf : fltr e0.nm (putE ⟨e0.nm, t⟩ S) = fltr e0.nm S := fltr_put ⟨e0.nm, t⟩ S hs
  show ins e0 (fltr e0.nm (putE ⟨e0.nm, t⟩ S)) = S
  rw [hf]
  refine sorted_eq (mov_sorted hs) hs ?_
  obtain ⟨i, hi, rfl⟩ := List.mem_iff_getElem.1 h
  have p1 : (S[i] :: S.eraseIdx i).Perm S := erase_perm hi
  exact (ins_perm _ _).trans (((rem_perm hu p1).symm.cons _).trans p1)
theorem moved_at {e x : Ent} {S : List Ent} (h : x ∈ putE e S) (hn : x.nm = e.nm) : x = e := by
  rcases mem_put.1 h with h | ⟨_, h⟩
  · exact h
  · exact absurd hn h

/-- i of M are gone through, k of S: without the name they read alike. -/
def Along (nm : ByteArray) (S M : List Ent) (i k : Nat) : Prop := fltr nm (S.take k) = fltr nm (M.take i)
theorem take_succ' {S : List Ent} {k : Nat} (h : k < S.length) : S.take (k + 1) = S.take k ++ [elt S k] := by
  rw [elt_elem h, List.take_succ_eq_append_getElem h]
theorem fltr_app (nm : ByteArray) (A B : List Ent) : fltr nm (A ++ B) = fltr nm A ++ fltr nm B := by simp [fltr]
theorem fltr_one {nm : ByteArray} {e : Ent} (h : e.nm ≠ nm) : fltr nm [e] = [e] := by simp [fltr, h]
theorem fltr_one' {nm : ByteArray} {e : Ent} (h : e.nm = nm) : fltr nm [e] = [] := by simp [fltr, h]
theorem along_start (nm : ByteArray) (S M : List Ent) : Along nm S M 0 0 := rfl
theorem along_skipS {nm : ByteArray} {S M : List Ent} {i k : Nat} (h : Along nm S M i k) (hk : k < S.length) (hn : (elt S k).nm = nm) : Along nm S M i (k + 1) := by
  unfold Along at *
  rw [take_succ' hk, fltr_app, fltr_one' hn, List.append_nil, h]
theorem along_skipM {nm : ByteArray} {S M : List Ent} {i k : Nat} (h : Along nm S M i k) (hi : i < M.length) (hn : (elt M i).nm = nm) : Along nm S M (i + 1) k := by
  unfold Along at *
  rw [take_succ' hi, fltr_app, fltr_one' hn, List.append_nil, h]
theorem along_more {nm : ByteArray} {S M : List Ent} {i k : Nat} (h : Along nm S M i k) (hF : fltr nm S = fltr nm M) (hi : i < M.length) (hn : (elt M i).nm ≠ nm) : k < S.length := by
  rcases Nat.lt_or_ge k S.length with h1 | h1
  · exact h1
  · exfalso
    unfold Along at h
    rw [List.take_of_length_le h1, hF] at h
    have h2 : M = M.take i ++ (elt M i :: M.drop (i + 1)) := by
      rw [elt_elem hi, ← List.drop_eq_getElem_cons hi, List.take_append_drop]
    have h3 := congrArg List.length h
    rw [h2] at h3
    have h4 : fltr nm (elt M i :: M.drop (i + 1)) = elt M i :: fltr nm (M.drop (i + 1)) := by simp [fltr, hn]
    rw [fltr_app, h4, ← h2] at h3
    simp at h3
theorem along_eq {nm : ByteArray} {S M : List Ent} {i k : Nat} (h : Along nm S M i k) (hF : fltr nm S = fltr nm M) (hi : i < M.length) (hk : k < S.length) (hn : (elt M i).nm ≠ nm) (hn2 : (elt S k).nm ≠ nm) : elt S k = elt M i ∧ Along nm S M (i + 1) (k + 1) := by
  have hS : S = S.take k ++ (elt S k :: S.drop (k + 1)) := by rw [elt_elem hk, ← List.drop_eq_getElem_cons hk, List.take_append_drop]
  have hM : M = M.take i ++ (elt M i :: M.drop (i + 1)) := by rw [elt_elem hi, ← List.drop_eq_getElem_cons hi, List.take_append_drop]
  have h4 : fltr nm (elt M i :: M.drop (i + 1)) = elt M i :: fltr nm (M.drop (i + 1)) := by simp [fltr, hn]
  have h5 : fltr nm (elt S k :: S.drop (k + 1)) = elt S k :: fltr nm (S.drop (k + 1)) := by simp [fltr, hn2]
  unfold Along at h
  have hF2 : fltr nm (S.take k) ++ (elt S k :: fltr nm (S.drop (k + 1))) = fltr nm (M.take i) ++ (elt M i :: fltr nm (M.drop (i + 1))) := by
    rw [← h4, ← h5, ← fltr_app, ← fltr_app, ← hS, ← hM, hF]
  rw [h] at hF2
  have h6 := List.append_cancel_left hF2
  injection h6 with h6 _
  refine ⟨h6, ?_⟩
  unfold Along
  rw [take_succ' hi, take_succ' hk, fltr_app, fltr_app, h, h6]
end Go.Proofs.Yticnckclmlejhaa

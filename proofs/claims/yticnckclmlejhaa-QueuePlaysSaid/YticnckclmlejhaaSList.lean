/-
  Plain: a list of entries in order, each name once.
-/
import Derived.Test.YticnckclmlejhaaEnt
namespace Go.Proofs.Yticnckclmlejhaa
open Hp

def Sorted (S : List Ent) : Prop := S.Pairwise (fun a b => lessE a b = true)
def Uniq (S : List Ent) : Prop := (S.map Ent.nm).Nodup
def fltr (nm : ByteArray) (S : List Ent) : List Ent := S.filter fun a => decide (a.nm ≠ nm)
def ins (e : Ent) : List Ent → List Ent
  | [] => [e]
  | a :: t => if lessE a e = true then a :: ins e t else e :: a :: t
def fnd (S : List Ent) (nm : ByteArray) : Option Ent := S.find? fun a => decide (a.nm = nm)

theorem ins_perm (e : Ent) : ∀ S, (ins e S).Perm (e :: S)
  | [] => .refl _
  | a :: t => by
    unfold ins
    split
    · exact ((ins_perm e t).cons a).trans (List.Perm.swap e a t)
    · exact .refl _
theorem mem_ins {e x : Ent} {S : List Ent} : x ∈ ins e S ↔ x = e ∨ x ∈ S := by rw [(ins_perm e S).mem_iff, List.mem_cons]
theorem ins_sorted {e : Ent} : ∀ {S}, Sorted S → (∀ a ∈ S, a.nm ≠ e.nm) → Sorted (ins e S)
  | [], _, _ => List.pairwise_singleton _ _
  | a :: t, h, hn => by
    obtain ⟨h1, h2⟩ := List.pairwise_cons.1 h
    unfold ins
    split
    · rename_i hl
      refine List.pairwise_cons.2 ⟨fun x hx => ?_, ins_sorted h2 fun b hb => hn b (List.mem_cons_of_mem _ hb)⟩
      rcases mem_ins.1 hx with rfl | hx
      · exact hl
      · exact h1 x hx
    · rename_i hl
      have hea : lessE e a = true := by
        cases hq : lessE e a
        · have := less_total.tot a e (by simpa using hl) hq
          exact absurd (congrArg Ent.nm this) (hn a (List.mem_cons_self))
        · rfl
      refine List.pairwise_cons.2 ⟨fun x hx => ?_, h⟩
      rcases List.mem_cons.1 hx with rfl | hx
      · exact hea
      · exact less_total.tr _ _ _ hea (h1 x hx)
theorem mem_fltr {nm : ByteArray} {S : List Ent} {x : Ent} : x ∈ fltr nm S ↔ x ∈ S ∧ x.nm ≠ nm := by simp [fltr]
theorem fltr_sorted {nm : ByteArray} {S : List Ent} (h : Sorted S) : Sorted (fltr nm S) := List.Pairwise.filter _ h
theorem fltr_uniq {nm : ByteArray} {S : List Ent} (h : Uniq S) : Uniq (fltr nm S) := by
  unfold Uniq fltr at *
  exact List.Nodup.sublist (List.Sublist.map _ List.filter_sublist) h
theorem fltr_perm {nm : ByteArray} {S T : List Ent} (h : S.Perm T) : (fltr nm S).Perm (fltr nm T) := h.filter _
theorem fltr_length (nm : ByteArray) (S : List Ent) : (fltr nm S).length ≤ S.length := List.length_filter_le _ _
theorem fltr_none {nm : ByteArray} {S : List Ent} (h : ∀ a ∈ S, a.nm ≠ nm) : fltr nm S = S := by
  unfold fltr
  rw [List.filter_eq_self]
  intro a ha
  simpa using h a ha
theorem uniq_perm {S T : List Ent} (h : S.Perm T) (hu : Uniq S) : Uniq T := (h.map Ent.nm).nodup_iff.1 hu
theorem rem_perm {l l' : List Ent} {e : Ent} (hu : Uniq l) (h : (e :: l').Perm l) : l'.Perm (fltr e.nm l) := by
  have hu2 := uniq_perm h.symm hu
  have h1 := fltr_perm (nm := e.nm) h
  have h2 : fltr e.nm (e :: l') = l' := by
    have hn : ∀ a ∈ l', a.nm ≠ e.nm := by
      intro a ha q
      have := (List.nodup_cons.1 (show ((e :: l').map Ent.nm).Nodup from hu2)).1
      exact this (by rw [← q]; exact List.mem_map_of_mem ha)
    have : fltr e.nm (e :: l') = fltr e.nm l' := by simp [fltr]
    rw [this, fltr_none hn]
  rw [h2] at h1
  exact h1
theorem sorted_uniq_head {l : List Ent} {e : Ent} {t : List Ent} {m : Ent} (hs : Sorted (e :: t)) (hp : (e :: t).Perm l) (hm : m ∈ l) (hmin : ∀ x ∈ l, lessE x m = false) : m = e := by
  have hm2 : m ∈ e :: t := hp.mem_iff.2 hm
  rcases List.mem_cons.1 hm2 with h | h
  · exact h
  · have h1 := (List.pairwise_cons.1 hs).1 m h
    have h2 := hmin e (hp.mem_iff.1 List.mem_cons_self)
    rw [h2] at h1; cases h1
theorem sorted_eq : ∀ {S T : List Ent}, Sorted S → Sorted T → S.Perm T → S = T
  | [], T, _, _, h => (List.nil_perm.1 h).symm
  | a :: S, [], _, _, h => absurd h.length_eq (by simp)
  | a :: S, b :: T, h1, h2, h => by
    have e : a = b := by
      have ha : a ∈ b :: T := h.mem_iff.1 List.mem_cons_self
      have hb : b ∈ a :: S := h.mem_iff.2 List.mem_cons_self
      rcases List.mem_cons.1 ha with q | q
      · exact q
      · rcases List.mem_cons.1 hb with r | r
        · exact r.symm
        · have x1 := (List.pairwise_cons.1 h2).1 a q
          have x2 := (List.pairwise_cons.1 h1).1 b r
          have := less_total.asym x1
          rw [x2] at this; cases this
    subst e
    rw [sorted_eq (List.pairwise_cons.1 h1).2 (List.pairwise_cons.1 h2).2 h.cons_inv]
theorem fnd_some {S : List Ent} {nm : ByteArray} {e : Ent} (h : fnd S nm = some e) : e ∈ S ∧ e.nm = nm := by
  unfold fnd at h
  exact ⟨List.mem_of_find?_eq_some h, by simpa using List.find?_some h⟩
theorem fnd_none {S : List Ent} {nm : ByteArray} : fnd S nm = none ↔ ∀ a ∈ S, a.nm ≠ nm := by
  unfold fnd
  rw [List.find?_eq_none]
  simp
theorem fnd_mem {S : List Ent} {e : Ent} (hu : Uniq S) (he : e ∈ S) : fnd S e.nm = some e := by
  cases h : fnd S e.nm with
  | none => exact absurd rfl (fnd_none.1 h e he)
  | some x =>
    obtain ⟨h1, h2⟩ := fnd_some h
    have : x = e := by
      obtain ⟨i, hi, rfl⟩ := List.mem_iff_getElem.1 h1
      obtain ⟨j, hj, rfl⟩ := List.mem_iff_getElem.1 he
      have := (List.getElem_inj (i := i) (j := j) (h₀ := by simpa using hi) (h₁ := by simpa using hj) (show (S.map Ent.nm).Nodup from hu)).1 (by simpa using h2)
      subst this
      rfl
    rw [this]
end Go.Proofs.Yticnckclmlejhaa

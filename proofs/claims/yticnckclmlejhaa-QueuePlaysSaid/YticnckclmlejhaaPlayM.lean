/-
  A queue, the document's list, and a box beside them.
-/
import Derived.Test.YticnckclmlejhaaStands
namespace Go.Proofs.Yticnckclmlejhaa
open Go.RowKit Go.ChangeMaps Hp

def QD (w wr : World) (q : Nat) (S : List Ent) (A : Option Addr) (L : List Ent) (E : Nat) : Prop :=
  ∃ B, Que wr q B S ∧ Below w.heap.size w wr ∧ (∀ k, B k → w.heap.size ≤ k) ∧ LRow wr A L ∧ (L ≠ [] → ∀ g off, A = some ⟨g, off, none⟩ → ¬ B g) ∧ ¬ B E ∧ E < wr.heap.size
/-- An act in its box. -/
def ActAt (w : World) (E : Nat) (k : Int) (a : ByteArray) (t : Int) : Prop := w.cell? ⟨E, 0, none⟩ = some (.int .i64 k) ∧ w.cell? ⟨E, 1, none⟩ = some (.string a) ∧ w.cell? ⟨E, 2, none⟩ = some (.int .u64 t)
theorem ActAt.keep {w w' : World} {E : Nat} {k : Int} {a : ByteArray} {t : Int} (h : ActAt w E k a t) (hb : w'.heap[E]? = w.heap[E]?) : ActAt w' E k a t :=
  ⟨(World.cell?_of_block (w := w) (a := ⟨E, 0, none⟩) hb).trans h.1, (World.cell?_of_block (w := w) (a := ⟨E, 1, none⟩) hb).trans h.2.1, (World.cell?_of_block (w := w) (a := ⟨E, 2, none⟩) hb).trans h.2.2⟩

def AF (A : Option Addr) (cap : Nat) : Prop := (A = none ∧ cap = 0) ∨ ∃ g off, A = some ⟨g, off, none⟩
theorem drop_dw (t : Int) (S : List Ent) : S.dropWhile (duep t) = S.drop (S.takeWhile (duep t)).length := by
  conv => rhs; arg 2; rw [← List.takeWhile_append_dropWhile (p := duep t) (l := S)]
  rw [List.drop_left]
theorem elt_tw {t : Int} {S : List Ent} {j : Nat} (h : j < (S.takeWhile (duep t)).length) : elt S j = elt (S.takeWhile (duep t)) j := by
  have hle := (List.takeWhile_sublist (duep t) (l := S)).length_le
  rw [elt_elem h, elt_elem (by omega : j < S.length)]
  have hsp : S.takeWhile (duep t) ++ S.dropWhile (duep t) = S := List.takeWhile_append_dropWhile
  have : S[j]? = (S.takeWhile (duep t))[j]? := by
    conv => lhs; rw [← hsp]
    rw [List.getElem?_append_left h]
  rw [List.getElem?_eq_getElem (by omega), List.getElem?_eq_getElem h] at this
  injection this
section
variable {w wr w' : World} {q E : Nat} {S L : List Ent} {A : Option Addr}
theorem QD.ql (h : QD w wr q S A L E) : QL w wr q S A L := by
  obtain ⟨B, h1, h2, h3, h4, h5, _⟩ := h
  exact ⟨B, h1, h2, h3, h4, h5⟩
theorem QD.lt (h : QD w wr q S A L E) : E < wr.heap.size := by
  obtain ⟨B, h1, h2, h3, h4, h5, h6, h7⟩ := h
  exact h7
theorem QD.below (h : QD w wr q S A L E) (hb : Below wr.heap.size wr w') : QD w w' q S A L E ∧ w'.heap[E]? = wr.heap[E]? := by
  obtain ⟨B, h1, h2, h3, h4, h5, h6, h7⟩ := h
  exact ⟨⟨B, h1.below hb, h2.trans (hb.mono h2.size), h3, h4.below hb, h5, h6, Nat.lt_of_lt_of_le h7 hb.size⟩, hb.block E h7⟩
theorem QL.box (h : QL w wr q S A L) (o : Obj) : QD w (wr.alloc o) q S A L wr.heap.size := by
  have hb : Below wr.heap.size wr (wr.alloc o) := (Below.refl _ wr).alloc (Nat.le_refl _) o
  obtain ⟨B, h1, h2, h3, h4, h5⟩ := h
  exact ⟨B, h1.below hb, h2.trans (hb.mono h2.size), h3, h4.below hb, h5, fun e => by have := h1.lt _ e; omega, by simp⟩
theorem QD.chg {B B' : Nat → Prop} {S' : List Ent} (h2 : Below w.heap.size w wr) (h3 : ∀ k, B k → w.heap.size ≤ k) (h4 : LRow wr A L) (h5 : L ≠ [] → ∀ g off, A = some ⟨g, off, none⟩ → ¬ B g) (h6 : ¬ B E) (h7 : E < wr.heap.size) (hq : Que w' q B' S') (hc : Chg B B' wr w') :
    QD w w' q S' A L E ∧ w'.heap[E]? = wr.heap[E]? := by
  refine ⟨⟨B', hq, h2.trans (hc.below h3 h2.size), hc.base h3 h2.size, ?_, fun hL g off hA e => ?_, fun e => ?_, Nat.lt_of_lt_of_le h7 hc.size⟩, hc.block E h7 h6⟩
  · rcases h4 with h | ⟨g, off, k1, k2, k3⟩
    · exact .inl h
    · by_cases hL : L = []
      · exact .inl hL
      · have hk := hc.block g k2 (h5 hL g off k1)
        exact .inr ⟨g, off, k1, Nat.lt_of_lt_of_le k2 hc.size, fun j hj => ⟨(World.cell?_of_block (w := wr) (a := ⟨g, off + j * 2, none⟩) hk).trans (k3 j hj).1, (World.cell?_of_block (w := wr) (a := ⟨g, off + j * 2 + 1, none⟩) hk).trans (k3 j hj).2⟩⟩
  · rcases hc.foot g e with e | e
    · exact h5 hL g off hA e
    · rcases h4 with h | ⟨g', off', k1, k2, k3⟩
      · exact hL h
      · rw [hA] at k1
        injection k1 with k1
        injection k1 with k1
        subst k1
        omega
  · rcases hc.foot E e with e | e
    · exact h6 e
    · omega
theorem put_QD (h : QD w wr q S A L E) (hb : S.length ≤ 999999) (a : ByteArray) (t : Int) : Calls Try.prog 18 #[.pointer (some ⟨q, 0, none⟩), .string a, .int .u64 t] wr fun r w' => r = .returned (.bool (fnd S a).isSome) ∧ QD w w' q (putE ⟨a, t⟩ S) A L E ∧ w'.heap[E]? = wr.heap[E]? := by
  obtain ⟨B, h1, h2, h3, h4, h5, h6, h7⟩ := h
  exact (put_que h1 hb ⟨a, t⟩).mono fun r w' ⟨hr, B', q1, c1⟩ => ⟨hr, QD.chg h2 h3 h4 h5 h6 h7 q1 c1⟩
theorem drop_QD (h : QD w wr q S A L E) (hb : S.length ≤ 999999) (a : ByteArray) : Calls Try.prog 13 #[.pointer (some ⟨q, 0, none⟩), .string a] wr fun r w' => r = .returned (.bool (fnd S a).isSome) ∧ QD w w' q (fltr a S) A L E ∧ w'.heap[E]? = wr.heap[E]? := by
  obtain ⟨B, h1, h2, h3, h4, h5, h6, h7⟩ := h
  exact (drop_que h1 hb a).mono fun r w' ⟨hr, B', q1, c1⟩ => ⟨hr, QD.chg h2 h3 h4 h5 h6 h7 q1 c1⟩
theorem pop_QD (h : QD w wr q S A L E) (hb : S.length ≤ 999999) : Calls Try.prog 11 #[.pointer (some ⟨q, 0, none⟩)] wr fun r w' => r = .returned (.tuple #[.agg #[.string (hdE S).nm, .int .u64 (hdE S).tk], .bool (!S.isEmpty)]) ∧ QD w w' q S.tail A L E ∧ w'.heap[E]? = wr.heap[E]? := by
  obtain ⟨B, h1, h2, h3, h4, h5, h6, h7⟩ := h
  rw [← frontV_hd]
  exact (pop_que h1 hb).mono fun r w' ⟨hr, B', q1, c1⟩ => ⟨hr, QD.chg h2 h3 h4 h5 h6 h7 q1 c1⟩
theorem due_QD (h : QD w wr q S A L E) (hb : S.length ≤ 999999) (t : Int) : Calls Try.prog 15 #[.pointer (some ⟨q, 0, none⟩), .int .u64 t] wr fun r w' => ∃ o, r = .returned o ∧ QD w w' q (S.dropWhile (duep t)) A L E ∧ w'.heap[E]? = wr.heap[E]? ∧ ERow w' o (S.takeWhile (duep t)) := by
  obtain ⟨B, h1, h2, h3, h4, h5, h6, h7⟩ := h
  refine (due_que h1 t hb).mono ?_
  rintro r w' ⟨o, B', rfl, q1, c1, hr, _⟩
  obtain ⟨k1, k2⟩ := QD.chg h2 h3 h4 h5 h6 h7 q1 c1
  exact ⟨o, rfl, k1, k2, _, hr⟩
theorem QD.new {o : Value} {L' : List Ent} (h : QD w wr q S A L E) (hd : DRow wr w' o L') : ∃ A' cap, o = .slice A' L'.length cap ∧ L'.length ≤ cap ∧ cap ≤ maxLen ∧ AF A' cap ∧ QD w w' q S A' L' E ∧ w'.heap[E]? = wr.heap[E]? := by
  have hE := hd.1.block E h.lt
  obtain ⟨B, h1, h2, h3, h4, h5, h6, h7⟩ := h
  have hlt := hd.2.lt
  obtain ⟨hl, hrow⟩ := hd.2
  have h7' : E < w'.heap.size := Nat.lt_of_lt_of_le h7 hd.1.size
  rcases hrow with ⟨e, h0⟩ | ⟨g, cap, cur, e, hg, hh, hc1, hc2, hc3, hc4⟩
  · refine ⟨none, 0, by rw [e, h0], by omega, by unfold maxLen; omega, .inl ⟨rfl, rfl⟩, ⟨B, h1.below hd.1, h2.trans (hd.1.mono h2.size), h3, .inl ?_, fun hL => ?_, h6, h7'⟩, hE⟩
    · exact List.length_eq_zero_iff.1 h0
    · exact absurd (List.length_eq_zero_iff.1 h0) hL
  · refine ⟨_, cap, e, hc1, hc2, .inr ⟨g, 0, rfl⟩, ⟨B, h1.below hd.1, h2.trans (hd.1.mono h2.size), h3, .inr ⟨g, 0, rfl, (hlt g (by rw [e]; rfl)).2, fun j hj => ?_⟩, fun _ g' off' hA hB => ?_, h6, h7'⟩, hE⟩
    · have hd' : DRow wr w' (.slice (some ⟨g, 0, none⟩) L'.length cap) L' := e ▸ hd
      obtain ⟨c0, c1, _⟩ := hd'.cells rfl hj
      rw [Nat.zero_add]
      exact ⟨c0, c1⟩
    · injection hA with hA
      injection hA with hA
      subst hA
      have := h1.lt _ hB
      omega
theorem QD.drop (h : QD w wr q S A L E) (k : Nat) {A' : Option Addr} (hA : L.drop k = [] ∨ ∀ g off, A = some ⟨g, off, none⟩ → A' = some ⟨g, off + k * 2, none⟩) : QD w wr q S A' (L.drop k) E := by
  obtain ⟨B, h1, h2, h3, h4, h5⟩ := h.ql.drop k hA
  obtain ⟨B2, k1, k2, k3, k4, k5, k6, k7⟩ := h
  by_cases hk : L.drop k = []
  · exact ⟨B2, k1, k2, k3, .inl hk, fun hL => absurd hk hL, k6, k7⟩
  · have hA := hA.resolve_left hk
    have hL : L ≠ [] := by rintro rfl; simp at hk
    rcases k4 with h | ⟨g, off, e1, _, _⟩
    · exact absurd h hL
    · refine ⟨B2, k1, k2, k3, h4, fun _ g' off' e => ?_, k6, k7⟩
      rw [hA g off e1] at e
      injection e with e
      injection e with e
      subst e
      exact k5 hL g off e1
end
theorem acts_of (a : Addr) (n : Nat) (w : World) (hpos : 0 < n) (hc : ∀ i, i < n → ∃ (x : Int) (y : ByteArray) (z : Int), z ≤ 18446744073709551615 ∧ w.cell? (a.add (i * 3)) = some (.int .i64 x) ∧ w.cell? (a.add (i * 3 + 1)) = some (.string y) ∧ w.cell? (a.add (i * 3 + 2)) = some (.int .u64 z)) :
    ∃ (b off : Nat) (K T : Nat → Int) (Nm : Nat → ByteArray), a = ⟨b, off, none⟩ ∧ Acts w b off n K T Nm := by
  obtain ⟨b, off, spot⟩ := a
  obtain ⟨x0, _, _, _, hx0, _⟩ := hc 0 hpos
  have hspot : spot = none := by simpa [Addr.add] using World.cell?_spot hx0
  subst hspot
  simp only [Go.WideShapes.add_plain] at hc
  have hb : b < w.heap.size := by
    obtain ⟨_, _, _, _, h0, _⟩ := hc 0 hpos
    exact World.block_lt_of_cell? w _ h0
  have hv : ∀ i : Nat, ∃ (x : Int) (y : ByteArray) (z : Int), i < n → w.cell? ⟨b, off + i * 3, none⟩ = some (.int .i64 x) ∧ w.cell? ⟨b, off + i * 3 + 1, none⟩ = some (.string y) ∧ w.cell? ⟨b, off + i * 3 + 2, none⟩ = some (.int .u64 z) := by
    intro i
    by_cases hi : i < n
    · obtain ⟨x, y, z, _, e0, e1, e2⟩ := hc i hi
      exact ⟨x, y, z, fun _ => ⟨e0, e1, e2⟩⟩
    · exact ⟨0, ByteArray.empty, 0, fun h => absurd h hi⟩
  exact ⟨b, off, fun i => (hv i).choose, fun i => (hv i).choose_spec.choose_spec.choose, fun i => (hv i).choose_spec.choose, rfl, hb, fun i hi => (hv i).choose_spec.choose_spec.choose_spec hi⟩
end Go.Proofs.Yticnckclmlejhaa

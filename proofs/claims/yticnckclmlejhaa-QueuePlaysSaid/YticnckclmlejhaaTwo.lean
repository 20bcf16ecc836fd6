/-
  Two queues side by side, and blocks D of others that stay as they are.
-/
import Derived.Test.YticnckclmlejhaaBuilt
namespace Go.Proofs.Yticnckclmlejhaa
open Go.RowKit Go.ChangeMaps Hp

def Kept (D : Nat → Prop) (w w' : World) : Prop := ∀ k, D k → w'.heap[k]? = w.heap[k]?
def Two (w wr : World) (q p : Nat) (D : Nat → Prop) (R1 R2 : List Ent) : Prop :=
  ∃ B C, Que wr q B R1 ∧ Que wr p C R2 ∧ (∀ k, B k → C k → False) ∧ (∀ k, D k → ¬ B k ∧ ¬ C k ∧ k < wr.heap.size) ∧ Below w.heap.size w wr ∧ ∀ k, B k ∨ C k → w.heap.size ≤ k
def One (w wr : World) (q : Nat) (D : Nat → Prop) (R1 : List Ent) : Prop :=
  ∃ B, Que wr q B R1 ∧ (∀ k, D k → ¬ B k ∧ k < wr.heap.size) ∧ Below w.heap.size w wr ∧ ∀ k, B k → w.heap.size ≤ k

theorem Mine.bel {w wr : World} {q : Nat} {S : List Ent} (h : Mine w wr q S) : Below w.heap.size w wr := by
  obtain ⟨B, _, h2, _⟩ := h
  exact h2
section
variable {w wr w' : World} {q p : Nat} {D : Nat → Prop} {R1 R2 R : List Ent}
theorem Two.symm (h : Two w wr q p D R1 R2) : Two w wr p q D R2 R1 := by
  obtain ⟨B, C, h1, h2, h3, h4, h5, h6⟩ := h
  exact ⟨C, B, h2, h1, fun k a b => h3 k b a, fun k hk => ⟨(h4 k hk).2.1, (h4 k hk).1, (h4 k hk).2.2⟩, h5, fun k hk => h6 k hk.symm⟩
theorem Two.bel (h : Two w wr q p D R1 R2) : Below w.heap.size w wr := by
  obtain ⟨B, C, h1, h2, h3, h4, h5, h6⟩ := h
  exact h5
theorem Two.below (h : Two w wr q p D R1 R2) (hb : Below wr.heap.size wr w') : Two w w' q p D R1 R2 ∧ Kept D wr w' := by
  obtain ⟨B, C, h1, h2, h3, h4, h5, h6⟩ := h
  exact ⟨⟨B, C, h1.below hb, h2.below hb, h3, fun k hk => ⟨(h4 k hk).1, (h4 k hk).2.1, Nat.lt_of_lt_of_le (h4 k hk).2.2 hb.size⟩, h5.trans (hb.mono h5.size), h6⟩, fun k hk => hb.block k (h4 k hk).2.2⟩
/-- A block that is made now is let in. -/
theorem Two.grow (h : Two w wr q p D R1 R2) (o : Obj) : Two w (wr.alloc o) q p (fun k => D k ∨ k = wr.heap.size) R1 R2 := by
  have hb : Below wr.heap.size wr (wr.alloc o) := (Below.refl _ wr).alloc (Nat.le_refl _) o
  obtain ⟨B, C, h1, h2, h3, h4, h5, h6⟩ := h
  refine ⟨B, C, h1.below hb, h2.below hb, h3, fun k hk => ?_, h5.trans (hb.mono h5.size), h6⟩
  rcases hk with hk | rfl
  · exact ⟨(h4 k hk).1, (h4 k hk).2.1, Nat.lt_of_lt_of_le (h4 k hk).2.2 hb.size⟩
  · exact ⟨fun e => by have := h1.lt _ e; omega, fun e => by have := h2.lt _ e; omega, by simp⟩
/-- A cell of a block that was let in is set. -/
theorem Two.set (h : Two w wr q p D R1 R2) {a : Addr} (ha : D a.block) (hw : w.heap.size ≤ a.block) (u : Value) : Two w (wr.setCell a u) q p D R1 R2 := by
  obtain ⟨B, C, h1, h2, h3, h4, h5, h6⟩ := h
  refine ⟨B, C, h1.keep fun k hk => Below.heap_setCell _ _ _ _ fun e => (h4 _ ha).1 (e ▸ hk), h2.keep fun k hk => Below.heap_setCell _ _ _ _ fun e => (h4 _ ha).2.1 (e ▸ hk), h3, fun k hk => ⟨(h4 k hk).1, (h4 k hk).2.1, by simpa [World.setCell] using (h4 k hk).2.2⟩, h5.setCell hw u, h6⟩
theorem Two.less (h : Two w wr q p D R1 R2) {D' : Nat → Prop} (hd : ∀ k, D' k → D k) : Two w wr q p D' R1 R2 := by
  obtain ⟨B, C, h1, h2, h3, h4, h5, h6⟩ := h
  exact ⟨B, C, h1, h2, h3, fun k hk => h4 k (hd k hk), h5, h6⟩
theorem Two.chg {B B' C : Nat → Prop} (_h1 : Que wr q B R1) (h2 : Que wr p C R2) (h3 : ∀ k, B k → C k → False) (h4 : ∀ k, D k → ¬ B k ∧ ¬ C k ∧ k < wr.heap.size) (h5 : Below w.heap.size w wr) (h6 : ∀ k, B k ∨ C k → w.heap.size ≤ k)
    (hq : Que w' q B' R) (hc : Chg B B' wr w') : Two w w' q p D R R2 ∧ Kept D wr w' := by
  obtain ⟨g1, g2⟩ := h2.other hc h3
  refine ⟨⟨B', C, hq, g1, g2, fun k hk => ⟨fun e => ?_, (h4 k hk).2.1, Nat.lt_of_lt_of_le (h4 k hk).2.2 hc.size⟩, h5.trans (hc.below (fun k hk => h6 k (.inl hk)) h5.size), fun k hk => ?_⟩, fun k hk => hc.block k (h4 k hk).2.2 (h4 k hk).1⟩
  · rcases hc.foot k e with e | e
    · exact (h4 k hk).1 e
    · have := (h4 k hk).2.2; omega
  · rcases hk with hk | hk
    · exact hc.base (fun k hk => h6 k (.inl hk)) h5.size k hk
    · exact h6 k (.inr hk)
theorem Mine.two (h : Mine w wr q R1) (hD : ∀ k, D k → k < w.heap.size) (h2 : Mine wr w' p R2) : Two w w' q p D R1 R2 := by
  obtain ⟨B, a1, a2, a3⟩ := h
  obtain ⟨C, b1, b2, b3⟩ := h2
  refine ⟨B, C, a1.below b2, b1, fun k x y => ?_, fun k hk => ⟨fun e => ?_, fun e => ?_, ?_⟩, a2.trans (b2.mono a2.size), fun k hk => ?_⟩
  · have := a1.lt k x; have := b3 k y; omega
  · have := a3 k e; have := hD k hk; omega
  · have := b3 k e; have := hD k hk; have := a2.size; omega
  · have := hD k hk; have := a2.size; have := b2.size; omega
  · rcases hk with hk | hk
    · exact a3 k hk
    · have := b3 k hk; have := a2.size; omega
theorem pop_two (h : Two w wr q p D R1 R2) (hb : R1.length ≤ 999999) : Calls Try.prog 11 #[.pointer (some ⟨q, 0, none⟩)] wr fun r w' => r = .returned (.tuple #[.agg #[.string (hdE R1).nm, .int .u64 (hdE R1).tk], .bool (!R1.isEmpty)]) ∧ Two w w' q p D R1.tail R2 ∧ Kept D wr w' := by
  obtain ⟨B, C, h1, h2, h3, h4, h5, h6⟩ := h
  rw [← frontV_hd]
  exact (pop_que h1 hb).mono fun r w' ⟨hr, B', q1, c1⟩ => ⟨hr, Two.chg h1 h2 h3 h4 h5 h6 q1 c1⟩
theorem drop_two (h : Two w wr q p D R1 R2) (hb : R1.length ≤ 999999) (nm : ByteArray) : Calls Try.prog 13 #[.pointer (some ⟨q, 0, none⟩), .string nm] wr fun r w' => r = .returned (.bool (fnd R1 nm).isSome) ∧ Two w w' q p D (fltr nm R1) R2 ∧ Kept D wr w' := by
  obtain ⟨B, C, h1, h2, h3, h4, h5, h6⟩ := h
  exact (drop_que h1 hb nm).mono fun r w' ⟨hr, B', q1, c1⟩ => ⟨hr, Two.chg h1 h2 h3 h4 h5 h6 q1 c1⟩
theorem put_two (h : Two w wr q p D R1 R2) (hb : R1.length ≤ 999999) (a : ByteArray) (t : Int) : Calls Try.prog 18 #[.pointer (some ⟨q, 0, none⟩), .string a, .int .u64 t] wr fun r w' => r = .returned (.bool (fnd R1 a).isSome) ∧ Two w w' q p D (ins ⟨a, t⟩ (fltr a R1)) R2 ∧ Kept D wr w' := by
  obtain ⟨B, C, h1, h2, h3, h4, h5, h6⟩ := h
  exact (put_que h1 hb ⟨a, t⟩).mono fun r w' ⟨hr, B', q1, c1⟩ => ⟨hr, Two.chg h1 h2 h3 h4 h5 h6 q1 c1⟩
theorem at_two (h : Two w wr q p D R1 R2) (nm : ByteArray) : Calls Try.prog 12 #[.pointer (some ⟨q, 0, none⟩), .string nm] wr fun r w' => r = .returned (atV (fnd R1 nm)) ∧ wr = w' := by
  obtain ⟨B, C, h1, _⟩ := h
  exact at_que h1 nm
theorem len_two (h : Two w wr q p D R1 R2) : Calls Try.prog 10 #[.pointer (some ⟨q, 0, none⟩)] wr fun r w' => r = .returned (.int .i64 R1.length) ∧ wr = w' := by
  obtain ⟨B, C, h1, _⟩ := h
  exact len_que h1
end
end Go.Proofs.Yticnckclmlejhaa

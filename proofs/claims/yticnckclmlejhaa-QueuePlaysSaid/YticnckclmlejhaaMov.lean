/-
  A queue that is emptied into a row, beside another row.
-/
import Derived.Test.YticnckclmlejhaaMovP
namespace Go.Proofs.Yticnckclmlejhaa
open Go.RowKit Go.ChangeMaps Hp

/-- The queue q (for R), beside the row oa (of S) and the row o (of T, all of it made since b0). -/
def MS (w wr : World) (q : Nat) (oa : Value) (S R : List Ent) (o : Value) (T : List Ent) (b0 : Nat) : Prop :=
  ∃ B, Que wr q B R ∧ Below w.heap.size w wr ∧ (∀ k, B k → w.heap.size ≤ k) ∧ (w.heap.size ≤ b0 ∧ b0 ≤ wr.heap.size) ∧ (∀ g, oa.ownBlock = some g → g < b0 ∧ ¬ B g) ∧ ERow wr oa S ∧ wr.ownsRow b0 28 2 o T.length (flat T) ∧ ∀ g, o.ownBlock = some g → ¬ B g

section
variable {w wr w' : World} {q : Nat} {oa o : Value} {S R T : List Ent} {b0 : Nat}
theorem MS.bel (h : MS w wr q oa S R o T b0) : Below w.heap.size w wr := by
  obtain ⟨B, h1, h2, _⟩ := h
  exact h2
theorem MS.all (h : MS w wr q oa S R o T b0) : ERow wr oa S := by
  obtain ⟨B, h1, h2, h3, h4, h5, h6, _⟩ := h
  exact h6
theorem MS.row (h : MS w wr q oa S R o T b0) : wr.ownsRow b0 28 2 o T.length (flat T) := by
  obtain ⟨B, h1, h2, h3, h4, h5, h6, h7, _⟩ := h
  exact h7
theorem MS.base (h : MS w wr q oa S R o T b0) : w.heap.size ≤ b0 ∧ b0 ≤ wr.heap.size := by
  obtain ⟨B, h1, h2, h3, h4, _⟩ := h
  exact h4
theorem MS.below (h : MS w wr q oa S R o T b0) (hb : Below wr.heap.size wr w') : MS w w' q oa S R o T b0 := by
  obtain ⟨B, h1, h2, h3, h4, h5, h6, h7, h8⟩ := h
  exact ⟨B, h1.below hb, h2.trans (hb.mono h2.size), h3, ⟨h4.1, Nat.le_trans h4.2 hb.size⟩, h5, h6.below hb, row_below h7 hb, h8⟩
theorem len_MS (h : MS w wr q oa S R o T b0) : Calls Try.prog 10 #[.pointer (some ⟨q, 0, none⟩)] wr fun r w' => r = .returned (.int .i64 R.length) ∧ wr = w' := by
  obtain ⟨B, h1, _⟩ := h
  exact len_que h1
theorem MS.chg {B B' : Nat → Prop} {R' : List Ent} (h2 : Below w.heap.size w wr) (h3 : ∀ k, B k → w.heap.size ≤ k) (h4 : w.heap.size ≤ b0 ∧ b0 ≤ wr.heap.size) (h5 : ∀ g, oa.ownBlock = some g → g < b0 ∧ ¬ B g) (h6 : ERow wr oa S) (h7 : wr.ownsRow b0 28 2 o T.length (flat T)) (h8 : ∀ g, o.ownBlock = some g → ¬ B g)
    (hq : Que w' q B' R') (hc : Chg B B' wr w') : MS w w' q oa S R' o T b0 := by
  have oal : ∀ g, oa.ownBlock = some g → g < wr.heap.size := fun g hg => by
    obtain ⟨base, h⟩ := h6
    exact (h.lt g hg).2
  refine ⟨B', hq, h2.trans (hc.below h3 h2.size), hc.base h3 h2.size, ⟨h4.1, Nat.le_trans h4.2 hc.size⟩, fun g hg => ⟨(h5 g hg).1, fun e => ?_⟩, h6.keep fun g hg => hc.block g (oal g hg) (h5 g hg).2, row_keep h7 fun g hg => hc.block g (h7.lt g hg).2 (h8 g hg), fun g hg e => ?_⟩
  · rcases hc.foot g e with e | e
    · exact (h5 g hg).2 e
    · have := oal g hg; omega
  · rcases hc.foot g e with e | e
    · exact h8 g hg e
    · have := (h7.lt g hg).2; omega
theorem pop_MS (h : MS w wr q oa S R o T b0) (hb : R.length ≤ 999999) :
    Calls Try.prog 11 #[.pointer (some ⟨q, 0, none⟩)] wr fun r w' => r = .returned (.tuple #[.agg #[.string (hdE R).nm, .int .u64 (hdE R).tk], .bool (!R.isEmpty)]) ∧ MS w w' q oa S R.tail o T b0 ∧ wr.heap.size ≤ w'.heap.size := by
  obtain ⟨B, h1, h2, h3, h4, h5, h6, h7, h8⟩ := h
  rw [← frontV_hd]
  exact (pop_que h1 hb).mono fun r w' ⟨hr, B', q1, c1⟩ => ⟨hr, MS.chg h2 h3 h4 h5 h6 h7 h8 q1 c1, c1.size⟩
/-- An append to the row o. -/
theorem app_MS {w3 w4 : World} {ob : Obj} {e : Ent} {g cap1 : Nat} (h : MS w w3 q oa S R o T b0) (hown : w4.ownsRow b0 28 2 (.slice (some ⟨g, 0, none⟩) (T.length + 1) cap1) (T.length + 1) (flat T ++ [.string e.nm, .int .u64 e.tk]))
    (hg : (w3.alloc ob).grownBy w4 o.ownBlock) (hat : o.ownBlock = some g ∨ g = w3.heap.size + 1) : MS w w4 q oa S R (.slice (some ⟨g, 0, none⟩) (T.length + 1) cap1) (T ++ [e]) b0 := by
  obtain ⟨B, h1, h2, h3, h4, h5, h6, h7, h8⟩ := h
  have hsz := hg.size
  have s3 : w3.heap.size + 1 ≤ w4.heap.size := by simpa using hsz
  have keep : ∀ k, k < w3.heap.size → some k ≠ o.ownBlock → w4.heap[k]? = w3.heap[k]? := fun k hk ho => (hg.block k (by simp; omega) ho).trans (Below.heap_alloc w3 ob k hk)
  have kb : ∀ k, B k → some k ≠ o.ownBlock := fun k hk e => h8 k e.symm hk
  have oal : ∀ g, oa.ownBlock = some g → g < w3.heap.size := fun g hg => by
    obtain ⟨base, h⟩ := h6
    exact (h.lt g hg).2
  refine ⟨B, h1.keep fun k hk => keep k (h1.lt k hk) (kb k hk), ?_, h3, ⟨h4.1, by omega⟩, h5, h6.keep fun g hg => keep g (oal g hg) fun e => ?_, ?_, fun g' hg' e => ?_⟩
  · refine ⟨hg.os.trans h2.os, hg.tape.trans h2.tape, hg.output.trans h2.output, ?_, fun k hk => ?_⟩
    · have := h2.size; omega
    · have := h2.size
      exact (keep k (by omega) fun e => by have := (h7.lt k e.symm).1; omega).trans (h2.block k hk)
  · have := (h7.lt g e.symm).1
    have := (h5 g hg).1
    omega
  · rw [flat_append]
    have hl : (T ++ [e]).length = T.length + 1 := by simp
    rw [hl]
    exact hown
  · simp only [Value.ownBlock, Option.some.injEq] at hg'
    subst hg'
    rcases hat with h | h
    · exact h8 _ h e
    · have := h1.lt _ e; omega
end
theorem beq_str {a b : ByteArray} (h : a ≠ b) : (a.toList == b.toList) = false := by
  cases hq : (a.toList == b.toList)
  · rfl
  · exact absurd (toList_inj (by simpa using hq)) h
/-- Two rows. -/
def R2 (w wr : World) (oa : Value) (S : List Ent) (om : Value) (M : List Ent) : Prop := Below w.heap.size w wr ∧ ERow wr oa S ∧ ERow wr om M
theorem R2.below {w wr w' : World} {oa om : Value} {S M : List Ent} (h : R2 w wr oa S om M) (hb : Below wr.heap.size wr w') : R2 w w' oa S om M :=
  ⟨h.1.trans (hb.mono h.1.size), h.2.1.below hb, h.2.2.below hb⟩
theorem MS.r2 {w wr : World} {q : Nat} {oa o : Value} {S R T : List Ent} {b0 : Nat} (h : MS w wr q oa S R o T b0) : R2 w wr oa S o T := ⟨h.bel, h.all, _, h.row⟩
/-- Due of a queue that the call has made. -/
theorem due_mine {w wr : World} {q : Nat} {S : List Ent} (h : Mine w wr q S) (hb : S.length ≤ 999999) (t : Int) (ht : ∀ e ∈ S, e.tk ≤ t) :
    Calls Try.prog 15 #[.pointer (some ⟨q, 0, none⟩), .int .u64 t] wr fun r w' => ∃ o, r = .returned o ∧ Below w.heap.size w w' ∧ ERow w' o S := by
  obtain ⟨B, a1, a2, a3⟩ := h
  refine (due_que a1 t hb).mono ?_
  rintro r w' ⟨o, B', rfl, hq, hc, hr, ho⟩
  rw [tw_self ht] at hr
  exact ⟨o, rfl, a2.trans (hc.below a3 a2.size), _, hr⟩
/-- From two queues, one of which was emptied by Due, to the start of the emptying of the other. -/
theorem ms_start {w wr : World} {q p : Nat} {D : Nat → Prop} {S R R2 : List Ent} {oa : Value} (h : Two w wr q p D R R2) (hD : ∀ g, oa.ownBlock = some g → D g) (hr : ERow wr oa S) : MS w wr q oa S R (.slice none 0 0) [] wr.heap.size := by
  obtain ⟨B, C, h1, h2, h3, h4, h5, h6⟩ := h
  exact ⟨B, h1, h5, fun k hk => h6 k (.inl hk), ⟨h5.size, Nat.le_refl _⟩, fun g hg => ⟨(h4 g (hD g hg)).2.2, (h4 g (hD g hg)).1⟩, hr, ⟨by simp [flat], .inl ⟨rfl, rfl⟩⟩, by simp [Value.ownBlock]⟩
end Go.Proofs.Yticnckclmlejhaa

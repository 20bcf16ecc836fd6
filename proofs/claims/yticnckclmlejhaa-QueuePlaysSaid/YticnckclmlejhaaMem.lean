/-
  A queue in memory: the heap's row, the map, the struct that holds them; what an operation may touch.
-/
import Derived.Test.YticnckclmlejhaaEnt
import Derived.Test.YticnckclmlejhaaMap
import Derived.Test.YticnckclmlejhaaSwap
import Derived.Test.YticnckclmlejhaaSwapB
import Derived.Laws.OwnMore
import Derived.Deep.Draws
import Derived.Laws.Rows
import Derived.Maps.AppendAt
namespace Go.Proofs.Yticnckclmlejhaa
open Go.RowKit Go.ChangeMaps Hp

/-- Block g is just these cells, none of them frozen. -/
def Blk (w : World) (g : Nat) (t : TypeId) (cs : Array Value) : Prop := w.heap[g]? = some (.cells cs t (0, 0))
section
variable {w w' : World} {g : Nat} {t : TypeId} {cs : Array Value}
theorem Blk.lt (h : Blk w g t cs) : g < w.heap.size := by
  rcases Nat.lt_or_ge g w.heap.size with hlt | hge
  · exact hlt
  · unfold Blk at h; rw [Array.getElem?_eq_none hge] at h; cases h
theorem Blk.cell (h : Blk w g t cs) (i : Nat) : w.cell? ⟨g, i, none⟩ = cs[i]? := cell_of_row w g i cs t (0, 0) h
theorem Blk.frozen (h : Blk w g t cs) (i : Nat) : w.frozen? ⟨g, i, none⟩ = false := by
  unfold Blk at h
  simp [World.frozen?, h]
theorem Blk.new (w : World) (t : TypeId) (cs : Array Value) : Blk (w.alloc (.cells cs t)) w.heap.size t cs := heap_alloc_new w _
theorem Blk.alloc (h : Blk w g t cs) (o : Obj) : Blk (w.alloc o) g t cs := (Below.heap_alloc w o g h.lt).trans h
theorem Blk.set_ (h : Blk w g t cs) (i : Nat) (u : Value) : Blk (w.setCell ⟨g, i, none⟩ u) g t (cs.setIfInBounds i u) := by
  unfold Blk at h ⊢
  simp [World.setCell, Array.getElem?_modify, h]
theorem Blk.far (h : Blk w g t cs) {p : Addr} (hp : g ≠ p.block) (u : Value) : Blk (w.setCell p u) g t cs := (Below.heap_setCell w p u g hp).trans h
theorem Blk.keep (h : Blk w g t cs) (hb : w'.heap[g]? = w.heap[g]?) : Blk w' g t cs := hb.trans h
end

theorem lt_of_heap {w : World} {g : Nat} {o : Obj} (h : w.heap[g]? = some o) : g < w.heap.size := (Array.getElem?_eq_some_iff.1 h).1

/-- The world w' is w but for the queue's own blocks, and for new ones. -/
structure Tch (X M : Nat) (v : Value) (w w' : World) : Prop where
  os : w'.os = w.os
  tape : w'.tape = w.tape
  output : w'.output = w.output
  size : w.heap.size ≤ w'.heap.size
  block : ∀ k, k < w.heap.size → k ≠ X → k ≠ M → some k ≠ v.ownBlock → w'.heap[k]? = w.heap[k]?
/-- A row stays where it was, or lies in a new block. -/
def Moved (w : World) (v v' : Value) : Prop := v'.ownBlock = v.ownBlock ∨ ∃ g, v'.ownBlock = some g ∧ w.heap.size ≤ g

theorem Tch.refl (X M : Nat) (v : Value) (w : World) : Tch X M v w w := ⟨rfl, rfl, rfl, Nat.le_refl _, fun _ _ _ _ _ => rfl⟩
theorem Tch.trans {X M : Nat} {v v' : Value} {a b c : World} (h : Tch X M v a b) (hm : Moved a v v') (k : Tch X M v' b c) : Tch X M v a c := by
  refine ⟨k.os.trans h.os, k.tape.trans h.tape, k.output.trans h.output, Nat.le_trans h.size k.size, fun i hi h1 h2 h3 => ?_⟩
  refine (k.block i (Nat.lt_of_lt_of_le hi h.size) h1 h2 ?_).trans (h.block i hi h1 h2 h3)
  rcases hm with e | ⟨g, e, hg⟩
  · rw [e]; exact h3
  · rw [e]; intro e2; cases e2; omega
theorem Tch.below {X M : Nat} {v : Value} {a b c : World} (h : Tch X M v a b) (k : Below b.heap.size b c) : Tch X M v a c :=
  ⟨k.os.trans h.os, k.tape.trans h.tape, k.output.trans h.output, Nat.le_trans h.size k.size, fun i hi h1 h2 h3 => (k.block i (Nat.lt_of_lt_of_le hi h.size)).trans (h.block i hi h1 h2 h3)⟩
theorem Tch.of_below {X M : Nat} {v : Value} {a b : World} (k : Below a.heap.size a b) : Tch X M v a b := (Tch.refl X M v a).below k
theorem Moved.refl (w : World) (v : Value) : Moved w v v := .inl rfl
theorem Moved.trans {a b : World} {v v' v'' : Value} (h : Moved a v v') (k : Moved b v' v'') (hs : a.heap.size ≤ b.heap.size) : Moved a v v'' := by
  rcases k with e | ⟨g, e, hg⟩
  · rcases h with e2 | ⟨g2, e2, hg2⟩
    · exact .inl (e.trans e2)
    · exact .inr ⟨g2, e.trans e2, hg2⟩
  · exact .inr ⟨g, e, by omega⟩

/-- The entries object X: its row v holds l, its map M is f. -/
structure QX (w : World) (X M : Nat) (v : Value) (es : Array MapEntry) (clk : Nat) (f : ByteArray → Option Nat) (l : List Ent) : Prop where
  x : Blk w X 62 #[v, .map (some M)]
  row : w.ownsRow 0 28 2 v l.length (flat l)
  mp : w.heap[M]? = some (.map es clk)
  idx : Idx es clk f
  whr : Whr f l

section
variable {w w' : World} {X M : Nat} {v : Value} {es : Array MapEntry} {clk : Nat} {f : ByteArray → Option Nat} {l : List Ent}

theorem QX.xm (h : QX w X M v es clk f l) : X ≠ M := by
  rintro rfl
  have h1 := h.x
  unfold Blk at h1
  rw [h.mp] at h1
  cases h1
theorem QX.own (h : QX w X M v es clk f l) : ∀ g, v.ownBlock = some g → g ≠ X ∧ g ≠ M ∧ g < w.heap.size := by
  intro g hg
  rcases h.row.2 with ⟨hv, _⟩ | ⟨L, cap, cur, hv, _, hh, _⟩
  · rw [hv] at hg; simp [Value.ownBlock] at hg
  · rw [hv] at hg
    simp only [Value.ownBlock, Option.some.injEq] at hg
    subst hg
    refine ⟨?_, ?_, lt_of_heap hh⟩
    · rintro rfl
      have h1 := h.x
      unfold Blk at h1
      rw [hh] at h1
      injection h1 with h1
      injection h1 with _ ht
      cases ht
    · rintro rfl
      rw [h.mp] at hh
      cases hh
/-- The row is there, where it has elements. -/
theorem QX.at (h : QX w X M v es clk f l) (h0 : 0 < l.length) : ∃ L cap, v = .slice (some ⟨L, 0, none⟩) l.length cap ∧ l.length ≤ cap ∧ L < w.heap.size ∧ X ≠ L ∧ M ≠ L ∧
    (∀ j, j < l.length → w.cell? ⟨L, j * 2, none⟩ = some (.string (elt l j).nm) ∧ w.cell? ⟨L, j * 2 + 1, none⟩ = some (.int .u64 (elt l j).tk)) ∧ ∀ o, w.frozen? ⟨L, o, none⟩ = false := by
  have hrow := h.row
  have hown := h.own
  rcases hrow.2 with ⟨_, hn⟩ | ⟨L, cap, cur, hv, _, hh, hn, _⟩
  · omega
  · subst hv
    obtain ⟨o1, o2, o3⟩ := hown L rfl
    refine ⟨L, cap, rfl, hn, o3, o1.symm, o2.symm, fun j hj => ?_, fun o => World.ownsRow.frozenAt hrow o⟩
    obtain ⟨g0, g1⟩ := flat_get l j hj
    exact ⟨(World.ownsRow.cellAt hrow (j * 2) (by omega)).trans g0, (World.ownsRow.cellAt hrow (j * 2 + 1) (by omega)).trans g1⟩
theorem QX.form (h : QX w X M v es clk f l) : ∃ A c, v = .slice A l.length c := by
  rcases h.row.2 with ⟨hv, hn⟩ | ⟨L, cap, cur, hv, _⟩
  · exact ⟨none, 0, by rw [hv, hn]⟩
  · exact ⟨_, _, hv⟩
theorem QX.cells (h : QX w X M v es clk f l) : w.cell? ⟨X, 0, none⟩ = some v ∧ w.cell? ⟨X, 1, none⟩ = some (.map (some M)) ∧ w.frozen? ⟨X, 0, none⟩ = false ∧ X < w.heap.size := by
  refine ⟨?_, ?_, h.x.frozen 0, h.x.lt⟩
  · simpa using h.x.cell 0
  · simpa using h.x.cell 1
/-- The blocks of the queue are as they were. -/
theorem QX.keep (h : QX w X M v es clk f l) (hb : ∀ k, (k = X ∨ k = M ∨ some k = v.ownBlock) → w'.heap[k]? = w.heap[k]?) : QX w' X M v es clk f l := by
  refine ⟨h.x.keep (hb X (.inl rfl)), ?_, (hb M (.inr (.inl rfl))).trans h.mp, h.idx, h.whr⟩
  obtain ⟨h1, h2⟩ := h.row
  refine ⟨h1, ?_⟩
  rcases h2 with h2 | ⟨L, cap, cur, hv, hg, hh, r⟩
  · exact .inl h2
  · exact .inr ⟨L, cap, cur, hv, hg, (hb L (.inr (.inr (by rw [hv]; rfl)))).trans hh, r⟩
theorem QX.below (h : QX w X M v es clk f l) (hb : Below w.heap.size w w') : QX w' X M v es clk f l := by
  refine h.keep fun k hk => hb.block k ?_
  rcases hk with rfl | rfl | hk
  · exact h.x.lt
  · exact lt_of_heap h.mp
  · exact (h.own k hk.symm).2.2
theorem whr_inj (h : Whr f l) {i j : Nat} (hi : i < l.length) (hj : j < l.length) (he : (elt l i).nm = (elt l j).nm) : i = j := by
  have h1 := (h (elt l i).nm i).2 ⟨hi, rfl⟩
  have h2 := (h (elt l i).nm j).2 ⟨hj, he.symm⟩
  rw [h1] at h2
  injection h2
theorem whr_swp (h : Whr f l) {i j : Nat} (hi : i < l.length) (hj : j < l.length) : Whr (upd (upd f (elt l j).nm (some i)) (elt l i).nm (some j)) (swp l i j) := by
  intro nm k
  rw [length_swp, elt_swp hi hj]
  unfold upd
  by_cases h1 : nm = (elt l i).nm
  · subst h1
    rw [if_pos rfl]
    constructor
    · intro e
      injection e with e
      subst e
      exact ⟨hj, by rw [if_pos rfl]⟩
    · rintro ⟨hk, e⟩
      by_cases e1 : j = k
      · rw [e1]
      · rw [if_neg e1] at e
        by_cases e2 : i = k
        · rw [if_pos e2] at e
          have := whr_inj h hj hi e
          omega
        · rw [if_neg e2] at e
          have := whr_inj h hk hi e
          omega
  · rw [if_neg h1]
    by_cases h2 : nm = (elt l j).nm
    · subst h2
      rw [if_pos rfl]
      constructor
      · intro e
        injection e with e
        subst e
        refine ⟨hi, ?_⟩
        by_cases e1 : j = i
        · subst e1; exact absurd rfl h1
        · rw [if_neg e1, if_pos rfl]
      · rintro ⟨hk, e⟩
        by_cases e1 : j = k
        · rw [if_pos e1] at e; exact absurd e.symm h1
        · rw [if_neg e1] at e
          by_cases e2 : i = k
          · rw [e2]
          · rw [if_neg e2] at e
            have := whr_inj h hk hj e
            omega
    · rw [if_neg h2, h nm k]
      constructor
      · rintro ⟨hk, e⟩
        refine ⟨hk, ?_⟩
        have n1 : j ≠ k := by rintro rfl; exact h2 e.symm
        have n2 : i ≠ k := by rintro rfl; exact h1 e.symm
        rw [if_neg n1, if_neg n2]
        exact e
      · rintro ⟨hk, e⟩
        by_cases e1 : j = k
        · rw [if_pos e1] at e; exact absurd e.symm h1
        · rw [if_neg e1] at e
          by_cases e2 : i = k
          · rw [if_pos e2] at e; exact absurd e.symm h2
          · rw [if_neg e2] at e
            exact ⟨hk, e⟩
end
end Go.Proofs.Yticnckclmlejhaa

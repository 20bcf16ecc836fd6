/-
  Pop and Push of the entries, over a queue in memory.
-/
import Derived.Test.YticnckclmlejhaaPush
namespace Go.Proofs.Yticnckclmlejhaa
open Go.RowKit Go.ChangeMaps Hp

section
variable {w : World} {X M : Nat} {v : Value} {es : Array MapEntry} {clk : Nat} {f : ByteArray → Option Nat} {l : List Ent}

theorem elt_take {l : List Ent} {n k : Nat} (hk : k < n) (hn : n ≤ l.length) : elt (l.take n) k = elt l k := by
  rw [elt_elem (by simp; omega), elt_elem (by omega), List.getElem_take]
theorem elt_push_lt {l : List Ent} {e : Ent} {k : Nat} (hk : k < l.length) : elt (l ++ [e]) k = elt l k := by
  rw [elt_elem (by simp; omega), elt_elem hk, List.getElem_append_left hk]
theorem elt_push_eq {l : List Ent} {e : Ent} : elt (l ++ [e]) l.length = e := by
  rw [elt_elem (by simp), List.getElem_append_right (Nat.le_refl _)]
  simp

theorem whr_take (h : Whr f l) {n : Nat} (hn : l.length = n + 1) : Whr (upd f (elt l n).nm none) (l.take n) := by
  have hlen : (l.take n).length = n := by simp; omega
  intro nm k
  rw [hlen]
  unfold upd
  by_cases h1 : nm = (elt l n).nm
  · subst h1
    rw [if_pos rfl]
    constructor
    · intro e; cases e
    · rintro ⟨hk, e⟩
      rw [elt_take hk (by omega)] at e
      have := whr_inj h (by omega) (by omega) e
      omega
  · rw [if_neg h1, h nm k]
    constructor
    · rintro ⟨hk, e⟩
      have : k ≠ n := by rintro rfl; exact h1 e.symm
      exact ⟨by omega, by rw [elt_take (by omega) (by omega)]; exact e⟩
    · rintro ⟨hk, e⟩
      rw [elt_take hk (by omega)] at e
      exact ⟨by omega, e⟩

theorem whr_push (h : Whr f l) {e : Ent} (he : f e.nm = none) : Whr (upd f e.nm (some l.length)) (l ++ [e]) := by
  intro nm k
  have hlen : (l ++ [e]).length = l.length + 1 := by simp
  rw [hlen]
  unfold upd
  by_cases h1 : nm = e.nm
  · subst h1
    rw [if_pos rfl]
    constructor
    · intro q
      injection q with q
      subst q
      exact ⟨by omega, by rw [elt_push_eq]⟩
    · rintro ⟨hk, q⟩
      by_cases h2 : k = l.length
      · rw [h2]
      · rw [elt_push_lt (by omega)] at q
        have := (h e.nm k).2 ⟨by omega, q⟩
        rw [he] at this; cases this
  · rw [if_neg h1, h nm k]
    constructor
    · rintro ⟨hk, q⟩
      exact ⟨by omega, by rw [elt_push_lt hk]; exact q⟩
    · rintro ⟨hk, q⟩
      have h2 : k ≠ l.length := by
        rintro rfl
        rw [elt_push_eq] at q
        exact h1 q.symm
      rw [elt_push_lt (by omega)] at q
      exact ⟨by omega, q⟩

theorem pop_q (h : QX w X M v es clk f l) {n : Nat} (hn : l.length = n + 1) (hbig : n ≤ 4611686018427387904) :
    Calls Try.prog 54 #[.pointer (some ⟨X, 0, none⟩)] w fun e w' => e = .returned (.iface 28 (.agg #[.string (elt l n).nm, .int .u64 (elt l n).tk])) ∧
      ∃ v' es' f', QX w' X M v' es' clk f' (l.take n) ∧ Moved w v v' ∧ Tch X M v w w' := by
  obtain ⟨c0, c1, cf, hX⟩ := h.cells
  obtain ⟨L, cap, hv, hcap, hL, hXL, hML, hc, hf⟩ := h.at (by omega)
  obtain ⟨es1, I1, D1⟩ := del_law h.idx ((h.whr (elt l n).nm n).2 ⟨by omega, rfl⟩)
  have c0' := c0
  rw [hv, hn] at c0'
  have hMs := lt_of_heap h.mp
  refine (pop_any X L M n cap (elt l n).nm (elt l n).tk es es1 clk w c0' c1 cf hX hMs h.xm.symm (by omega) hbig (hc n (by omega)).1 (hc n (by omega)).2 h.mp D1).mono ?_
  rintro e w' ⟨he, rfl⟩
  refine ⟨he, .slice (some ⟨L, 0, none⟩) n cap, es1, upd f (elt l n).nm none, ?_, .inl (by rw [hv]; rfl), ?_⟩
  · have hm0 : ((w.setCell ⟨X, 0, none⟩ (.slice (some ⟨L, 0, none⟩) n cap)).alloc (.cells #[.string (elt l n).nm, .int .u64 (elt l n).tk] 28)).drew.heap[M]? = some (.map es clk) := by
      show ((w.setCell ⟨X, 0, none⟩ (.slice (some ⟨L, 0, none⟩) n cap)).alloc (.cells #[.string (elt l n).nm, .int .u64 (elt l n).tk] 28)).heap[M]? = _
      rw [Below.heap_alloc _ _ _ (by simpa using hMs), Below.heap_setCell _ _ _ _ h.xm.symm]
      exact h.mp
    obtain ⟨b1, b2⟩ := heap_setBlock (o' := .map es1 clk) hm0
    have hlen : (l.take n).length = n := by simp; omega
    refine ⟨?_, ?_, b1, I1, whr_take h.whr hn⟩
    · have hx := ((h.x.set_ 0 (.slice (some ⟨L, 0, none⟩) n cap)).alloc (.cells #[.string (elt l n).nm, .int .u64 (elt l n).tk] 28))
      have hx2 : Blk ((w.setCell ⟨X, 0, none⟩ (.slice (some ⟨L, 0, none⟩) n cap)).alloc (.cells #[.string (elt l n).nm, .int .u64 (elt l n).tk] 28)).drew X 62 #[.slice (some ⟨L, 0, none⟩) n cap, .map (some M)] := hx
      exact hx2.keep (b2 X h.xm)
    · obtain ⟨r1, r2⟩ := h.row
      rw [hlen]
      refine ⟨by rw [flat_length, hlen], .inr ?_⟩
      rcases r2 with ⟨hv2, h0⟩ | ⟨g, cap', cur, e, hg, hh, r3, r4, r5, r6⟩
      · rw [hv] at hv2; cases hv2
      · rw [hv] at e
        have e2 : g = L ∧ cap' = cap := by
          injection e with e _ e3
          injection e with e
          injection e with e
          exact ⟨e.symm, e3.symm⟩
        obtain ⟨rfl, rfl⟩ := e2
        refine ⟨g, cap', cur, rfl, hg, ?_, by omega, r4, r5, ?_⟩
        · rw [b2 g hML.symm]
          show ((w.setCell ⟨X, 0, none⟩ (.slice (some ⟨g, 0, none⟩) n cap')).alloc (.cells #[.string (elt l n).nm, .int .u64 (elt l n).tk] 28)).heap[g]? = _
          rw [Below.heap_alloc _ _ _ (by simpa using hL), Below.heap_setCell _ _ _ _ hXL.symm]
          exact hh
        · rw [← flat_take, ← r6, List.take_take]
          congr 1
          omega
  · refine ⟨rfl, rfl, rfl, ?_, fun k hk h1 h2 _ => ?_⟩
    · rw [size_setBlock]
      simp
    · have hm0 : ((w.setCell ⟨X, 0, none⟩ (.slice (some ⟨L, 0, none⟩) n cap)).alloc (.cells #[.string (elt l n).nm, .int .u64 (elt l n).tk] 28)).drew.heap[M]? = some (.map es clk) := by
        show ((w.setCell ⟨X, 0, none⟩ (.slice (some ⟨L, 0, none⟩) n cap)).alloc (.cells #[.string (elt l n).nm, .int .u64 (elt l n).tk] 28)).heap[M]? = _
        rw [Below.heap_alloc _ _ _ (by simpa using hMs), Below.heap_setCell _ _ _ _ h.xm.symm]
        exact h.mp
      rw [(heap_setBlock (o' := .map es1 clk) hm0).2 k h2]
      show ((w.setCell ⟨X, 0, none⟩ (.slice (some ⟨L, 0, none⟩) n cap)).alloc (.cells #[.string (elt l n).nm, .int .u64 (elt l n).tk] 28)).heap[k]? = _
      rw [Below.heap_alloc _ _ _ (by simpa using hk), Below.heap_setCell _ _ _ _ h1]

theorem push_q (h : QX w X M v es clk f l) {e : Ent} (he : f e.nm = none) (hbig : l.length ≤ 4611686018427) :
    Calls Try.prog 55 #[.pointer (some ⟨X, 0, none⟩), .iface 28 (.agg #[.string e.nm, .int .u64 e.tk])] w fun r w' => r = .returned (.tuple #[]) ∧
      ∃ v' es' clk' f', QX w' X M v' es' clk' f' (l ++ [e]) ∧ Moved w v v' ∧ Tch X M v w w' := by
  obtain ⟨c0, c1, cf, hX⟩ := h.cells
  obtain ⟨A, cap, hv⟩ := h.form
  obtain ⟨es1, I1, D1⟩ := add_law h.idx he l.length
  have hMs := lt_of_heap h.mp
  have hown := h.own
  have hXA : some X ≠ v.ownBlock := fun q => (hown X q.symm).1 rfl
  have hMA : some M ≠ v.ownBlock := fun q => (hown M q.symm).2.1 rfl
  have hrow := h.row
  rw [hv] at c0 hXA hrow
  refine (push_any X M l.length cap A e.nm e.tk l es es1 clk w c0 c1 cf hX hXA hMs h.xm.symm h.mp hbig hrow D1).mono ?_
  rintro r w' ⟨hr, g, cap', W2, w3, hW2, hgrow, hown3, hat, rfl⟩
  have hm0 : w.drew.heap[M]? = some (.map es clk) := h.mp
  obtain ⟨b1, b2⟩ := heap_setBlock (o' := .map es1 (clk + 1)) hm0
  rw [hW2] at b1 b2
  have hs2 : W2.heap.size = w.heap.size := by rw [← hW2, size_setBlock]; rfl
  rw [← hv] at hgrow hat hXA
  have hsz : (W2.alloc (.cells #[.string e.nm, .int .u64 e.tk] 28)).drew.heap.size = w.heap.size + 1 := by
    show (W2.alloc (.cells #[.string e.nm, .int .u64 e.tk] 28)).heap.size = _
    rw [← hs2]; simp
  have keep : ∀ k, k < w.heap.size → k ≠ M → some k ≠ v.ownBlock → w3.heap[k]? = w.heap[k]? := by
    intro k hk h1 h2
    refine (hgrow.block k (by rw [hsz]; omega) h2).trans ?_
    refine (Below.heap_alloc W2 _ k (by omega)).trans ?_
    exact b2 k h1
  have keepM : w3.heap[M]? = some (.map es1 (clk + 1)) := by
    refine (hgrow.block M (by rw [hsz]; omega) hMA).trans ?_
    exact (Below.heap_alloc W2 _ M (by omega)).trans b1
  have hgX : g ≠ X := by
    rintro rfl
    rcases hat with q | q
    · exact hXA q.symm
    · omega
  refine ⟨hr, .slice (some ⟨g, 0, none⟩) (l.length + 1) cap', es1, clk + 1, upd f e.nm (some l.length), ⟨?_, ?_, ?_, I1, whr_push h.whr he⟩, ?_, ?_⟩
  · exact (h.x.keep (keep X hX h.xm hXA)).set_ 0 _
  · have hlen : (l ++ [e]).length = l.length + 1 := by simp
    rw [hlen, flat_append]
    obtain ⟨r1, r2⟩ := hown3
    refine ⟨r1, ?_⟩
    rcases r2 with ⟨q, _⟩ | ⟨g2, cap2, cur, q, hg, hh, r3⟩
    · cases q
    · have e2 : g2 = g := by injection q with q; injection q with q; injection q with q; exact q.symm
      subst e2
      exact .inr ⟨g2, cap2, cur, q, hg, (Below.heap_setCell _ _ _ _ hgX).trans hh, r3⟩
  · exact (Below.heap_setCell _ _ _ _ h.xm.symm).trans keepM
  · rcases hat with q | q
    · exact .inl (by rw [q]; rfl)
    · exact .inr ⟨g, rfl, by omega⟩
  · refine ⟨?_, ?_, ?_, ?_, fun k hk h1 h2 h3 => (Below.heap_setCell _ _ _ _ h1).trans (keep k hk h2 h3)⟩
    · show w3.os = w.os
      rw [hgrow.os, ← hW2]; rfl
    · show w3.tape = w.tape
      rw [hgrow.tape, ← hW2]; rfl
    · show w3.output = w.output
      rw [hgrow.output, ← hW2]; rfl
    · have := hgrow.size
      rw [hsz] at this
      simp [World.setCell]
      omega
end
end Go.Proofs.Yticnckclmlejhaa

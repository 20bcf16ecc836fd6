/-
  Len, Less, Swap and Pop of the entries, over a queue in memory.
-/
import Derived.Test.YticnckclmlejhaaMem
namespace Go.Proofs.Yticnckclmlejhaa
open Go.RowKit Go.ChangeMaps Hp

section
variable {w : World} {X M : Nat} {v : Value} {es : Array MapEntry} {clk : Nat} {f : ByteArray → Option Nat} {l : List Ent}

set_option maxHeartbeats 400000 in
theorem len_q (h : QX w X M v es clk f l) : Calls Try.prog 25 #[.pointer (some ⟨X, 0, none⟩)] w fun e w' => e = .returned (.int .i64 l.length) ∧ w = w' := by
  obtain ⟨c0, _, _, _⟩ := h.cells
  obtain ⟨A, c, rfl⟩ := h.form
  clear h
  go_enter Try.func25, Try.ntmps25
  go_wp2
  go_ret
  exact ⟨rfl, rfl⟩

theorem less_q (h : QX w X M v es clk f l) {i j : Nat} (hi : i < l.length) (hj : j < l.length) :
    Calls Try.prog 53 #[.pointer (some ⟨X, 0, none⟩), .int .i64 i, .int .i64 j] w fun e w' => e = .returned (.bool (lessE (elt l i) (elt l j))) ∧ Below w.heap.size w w' := by
  obtain ⟨c0, _, _, hX⟩ := h.cells
  obtain ⟨L, cap, rfl, hcap, hL, _, _, hc, _⟩ := h.at (by omega)
  rw [← cmp_less]
  exact less_any X L l.length cap i j _ _ _ _ w c0 hi hj hX hL (hc i hi).1 (hc i hi).2 (hc j hj).1 (hc j hj).2

theorem heap_swapW (w : World) (L i j : Nat) (a b : ByteArray) (s t : Int) (k : Nat) (hk : k ≠ L) : (swapW w L i j a b s t).heap[k]? = w.heap[k]? := by
  unfold swapW
  rw [Below.heap_setCell _ _ _ _ hk, Below.heap_setCell _ _ _ _ hk, Below.heap_setCell _ _ _ _ hk, Below.heap_setCell _ _ _ _ hk]
theorem size_swapW (w : World) (L i j : Nat) (a b : ByteArray) (s t : Int) : (swapW w L i j a b s t).heap.size = w.heap.size := by simp [swapW, World.setCell]

theorem row_swap {L cap : Nat} (hr : w.ownsRow 0 28 2 (.slice (some ⟨L, 0, none⟩) l.length cap) l.length (flat l)) (i j : Nat) :
    (swapW w L i j (elt l i).nm (elt l j).nm (elt l i).tk (elt l j).tk).ownsRow 0 28 2 (.slice (some ⟨L, 0, none⟩) l.length cap) l.length (flat (swp l i j)) := by
  have r1 := (World.ownsRow.stored hr (i * 2) (.string (elt l j).nm)).1
  have r2 := (World.ownsRow.stored r1 (i * 2 + 1) (.int .u64 (elt l j).tk)).1
  have r3 := (World.ownsRow.stored r2 (j * 2) (.string (elt l i).nm)).1
  have r4 := (World.ownsRow.stored r3 (j * 2 + 1) (.int .u64 (elt l i).tk)).1
  have ef : ((((flat l).set (i * 2) (.string (elt l j).nm)).set (i * 2 + 1) (.int .u64 (elt l j).tk)).set (j * 2) (.string (elt l i).nm)).set (j * 2 + 1) (.int .u64 (elt l i).tk) = flat (swp l i j) := by
    rw [flat_set l i (elt l j), flat_set _ j (elt l i)]; rfl
  rw [ef] at r4
  exact r4

theorem size_setBlock (w : World) (M : Nat) (o : Obj) : (setBlock w M o).heap.size = w.heap.size := by simp [setBlock]

theorem swap_world (h : QX w X M v es clk f l) {i j : Nat} (hi : i < l.length) (hj : j < l.length) {L cap : Nat} (hv : v = .slice (some ⟨L, 0, none⟩) l.length cap) (hXL : X ≠ L) (hML : M ≠ L) {es2 : Array MapEntry}
    (hI : Idx es2 clk (upd (upd f (elt l j).nm (some i)) (elt l i).nm (some j))) {W W2 : World} (hW : W = swapW w L i j (elt l i).nm (elt l j).nm (elt l i).tk (elt l j).tk)
    (hos : W2.os = W.os) (htp : W2.tape = W.tape) (hout : W2.output = W.output) (hsz : W.heap.size ≤ W2.heap.size) (hb : ∀ k, k ≠ M → W2.heap[k]? = W.heap[k]?) (hm : W2.heap[M]? = some (.map es2 clk)) :
    QX W2 X M v es2 clk (upd (upd f (elt l j).nm (some i)) (elt l i).nm (some j)) (swp l i j) ∧ Tch X M v w W2 := by
  have hb' : ∀ k, k ≠ M → k ≠ L → W2.heap[k]? = w.heap[k]? := fun k h1 h2 => (hb k h1).trans (by rw [hW]; exact heap_swapW w L i j _ _ _ _ k h2)
  have hr := h.row
  rw [hv] at hr
  have r4 := row_swap hr i j
  rw [← hW] at r4
  refine ⟨⟨h.x.keep (hb' X h.xm hXL), ?_, hm, hI, whr_swp h.whr hi hj⟩, ⟨?_, ?_, ?_, ?_, fun k _ _ h2 h3 => hb' k h2 (fun e => h3 (by rw [e, hv]; rfl))⟩⟩
  · rw [length_swp, hv]
    obtain ⟨q1, q2⟩ := r4
    refine ⟨by rw [q1], ?_⟩
    rcases q2 with q2 | ⟨g, cap', cur, e, hg, hh, r⟩
    · exact .inl q2
    · have eg : g = L := by injection e with e; injection e with e; injection e with e; exact e.symm
      subst eg
      exact .inr ⟨g, cap', cur, e, hg, (hb g hML.symm).trans hh, r⟩
  · rw [hos, hW]; rfl
  · rw [htp, hW]; rfl
  · rw [hout, hW]; rfl
  · rw [hW, size_swapW] at hsz; exact hsz

theorem swap_ends (h : QX w X M v es clk f l) {i j : Nat} (hi : i < l.length) (hj : j < l.length) {L cap : Nat} (hv : v = .slice (some ⟨L, 0, none⟩) l.length cap) (hXL : X ≠ L) (hML : M ≠ L) {es1 es2 : Array MapEntry}
    (hI : Idx es2 clk (upd (upd f (elt l j).nm (some i)) (elt l i).nm (some j))) {W w' : World} (hW : W = swapW w L i j (elt l i).nm (elt l j).nm (elt l i).tk (elt l j).tk)
    (he : setBlock (setBlock W.drew.drew M (.map es1 clk)) M (.map es2 clk) = w') :
    ∃ es' f', QX w' X M v es' clk f' (swp l i j) ∧ Tch X M v w w' := by
  have hm0 : W.drew.drew.heap[M]? = some (.map es clk) := by rw [hW]; exact (heap_swapW w L i j _ _ _ _ M hML).trans h.mp
  obtain ⟨b1, b2⟩ := heap_setBlock (o' := .map es1 clk) hm0
  obtain ⟨b3, b4⟩ := heap_setBlock (o' := .map es2 clk) b1
  subst he
  exact ⟨es2, _, swap_world h hi hj hv hXL hML hI hW rfl rfl rfl (by rw [size_setBlock, size_setBlock]; exact Nat.le_refl _) (fun k hk => (b4 k hk).trans (b2 k hk)) b3⟩

theorem swap_q (h : QX w X M v es clk f l) {i j : Nat} (hi : i < l.length) (hj : j < l.length) :
    Calls Try.prog 56 #[.pointer (some ⟨X, 0, none⟩), .int .i64 i, .int .i64 j] w fun e w' => e = .returned (.tuple #[]) ∧ ∃ es' f', QX w' X M v es' clk f' (swp l i j) ∧ Tch X M v w w' := by
  obtain ⟨c0, c1, _, hX⟩ := h.cells
  obtain ⟨L, cap, hv, hcap, hL, hXL, hML, hc, hf⟩ := h.at (by omega)
  obtain ⟨st1, es1, I1, E1, S1⟩ := set_law h.idx ((h.whr (elt l j).nm j).2 ⟨hj, rfl⟩) i
  have hfi : upd f (elt l j).nm (some i) (elt l i).nm = some i := by
    unfold upd
    split
    · rfl
    · exact (h.whr (elt l i).nm i).2 ⟨hi, rfl⟩
  obtain ⟨st2, es2, I2, E2, S2⟩ := set_law I1 hfi j
  have c0' := c0
  rw [hv] at c0'
  by_cases hij : i = j
  · have S2' := S2
    have E2' := E2
    rw [← hij] at S2'
    have c := swap_same X L M l.length cap i (elt l i).nm (elt l i).tk es es1 es2 clk st1 st2 i i w c0' c1 hi hXL hML (hc i hi).1 (hc i hi).2 hf h.mp (by have := E1; rw [← hij] at this; exact this) S1 E2' S2'
    have e1 : (Value.int .i64 (j : Int)) = .int .i64 (i : Int) := by rw [hij]
    rw [e1]
    refine c.mono ?_
    rintro e w' ⟨he, hw⟩
    exact ⟨he, swap_ends h hi hj hv hXL hML I2 (by rw [← hij]) hw⟩
  · refine (swap_any X L M l.length cap i j (elt l i).nm (elt l j).nm (elt l i).tk (elt l j).tk es es1 es2 clk st1 st2 j i w c0' c1 hi hj hij hXL hML (hc i hi).1 (hc i hi).2 (hc j hj).1 (hc j hj).2 hf h.mp E1 S1 E2 S2).mono ?_
    rintro e w' ⟨he, hw⟩
    exact ⟨he, swap_ends h hi hj hv hXL hML I2 rfl hw⟩
end
end Go.Proofs.Yticnckclmlejhaa

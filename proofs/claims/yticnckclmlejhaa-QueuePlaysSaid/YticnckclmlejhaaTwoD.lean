/-
  Due beside another queue; a row of entries in memory, read by index.
-/
import Derived.Test.YticnckclmlejhaaTwo
import Derived.Lib.SmallJoins
import Derived.Lib.FrozenHead
namespace Go.Proofs.Yticnckclmlejhaa
open Go.RowKit Go.ChangeMaps Hp

/-- A row of entries that a call has made: its value and its cells. -/
def ERow (w : World) (o : Value) (T : List Ent) : Prop := ∃ base, w.ownsRow base 28 2 o T.length (flat T)
def own1 (o : Value) (k : Nat) : Prop := o.ownBlock = some k

section
variable {w wr w' : World} {q p : Nat} {D : Nat → Prop} {R1 R2 R T : List Ent} {o : Value}
theorem ERow.keep (h : ERow w o T) (hb : ∀ g, o.ownBlock = some g → w'.heap[g]? = w.heap[g]?) : ERow w' o T := h.imp fun _ h => row_keep h hb
theorem ERow.below (h : ERow w o T) (hb : Below w.heap.size w w') : ERow w' o T := h.imp fun _ h => row_below h hb
theorem ERow.kept (h : ERow w o T) (hb : Kept D w w') (hd : ∀ g, o.ownBlock = some g → D g) : ERow w' o T := h.keep fun g hg => hb g (hd g hg)
theorem ERow.form (h : ERow w o T) : ∃ A cap, o = .slice A T.length cap := by
  obtain ⟨base, _, h2⟩ := h
  rcases h2 with ⟨e, h0⟩ | ⟨g, cap, cur, e, _⟩
  · exact ⟨none, 0, by rw [e, h0]⟩
  · exact ⟨_, cap, e⟩
theorem ERow.formN (h : ERow w o T) {n : Nat} (hn : T.length = n) : ∃ A cap, o = .slice A n cap := hn ▸ h.form
theorem flat_at2 {T : List Ent} {j : Nat} (hj : j < T.length) : (flat T)[j * 2]? = some (.string T[j].nm) ∧ (flat T)[j * 2 + 1]? = some (.int .u64 T[j].tk) := by
  induction T generalizing j with
  | nil => simp at hj
  | cons a t ih =>
    cases j with
    | zero => simp [flat]
    | succ j =>
      have := ih (j := j) (by simpa using hj)
      rw [Nat.add_mul]
      simpa [flat, Nat.add_assoc] using this
theorem ERow.at (h : ERow w o T) {j : Nat} (hj : j < T.length) : ∃ g cap, o = .slice (some ⟨g, 0, none⟩) T.length cap ∧ w.cell? ⟨g, j * 2, none⟩ = some (.string T[j].nm) ∧ w.cell? ⟨g, j * 2 + 1, none⟩ = some (.int .u64 T[j].tk) := by
  obtain ⟨base, h0⟩ := h
  obtain ⟨g, cap, e⟩ := Go.Joins.ownsRow_form h0 (by omega)
  have hc := (World.ownsRowF_of h0).cells (g := g) (by rw [e]; rfl)
  obtain ⟨f1, f2⟩ := flat_at2 hj
  exact ⟨g, cap, e, by simpa only [Go.WideShapes.add_plain, Nat.zero_add] using hc _ _ f1, by simpa only [Go.WideShapes.add_plain, Nat.zero_add] using hc _ _ f2⟩

theorem due_two (h : Two w wr q p D R1 R2) (hb : R1.length ≤ 999999) (t : Int) :
    Calls Try.prog 15 #[.pointer (some ⟨q, 0, none⟩), .int .u64 t] wr fun r w' => ∃ o, r = .returned o ∧ Two w w' q p (fun k => D k ∨ o.ownBlock = some k) (R1.dropWhile (duep t)) R2 ∧ Kept D wr w' ∧ ERow w' o (R1.takeWhile (duep t)) := by
  obtain ⟨B, C, h1, h2, h3, h4, h5, h6⟩ := h
  refine (due_que h1 t hb).mono ?_
  rintro r w' ⟨o, B', rfl, hq, hc, hr, ho⟩
  obtain ⟨g1, g2⟩ := h2.other hc h3
  refine ⟨o, rfl, ⟨B', C, hq, g1, g2, fun k hk => ?_, h5.trans (hc.below (fun k hk => h6 k (.inl hk)) h5.size), fun k hk => ?_⟩, fun k hk => hc.block k (h4 k hk).2.2 (h4 k hk).1, ⟨_, hr⟩⟩
  · rcases hk with hk | hk
    · refine ⟨fun e => ?_, (h4 k hk).2.1, Nat.lt_of_lt_of_le (h4 k hk).2.2 hc.size⟩
      rcases hc.foot k e with e | e
      · exact (h4 k hk).1 e
      · have := (h4 k hk).2.2; omega
    · refine ⟨ho k hk, fun e => ?_, (hr.lt k hk).2⟩
      have := h2.lt k e; have := (hr.lt k hk).1; omega
  · rcases hk with hk | hk
    · exact hc.base (fun k hk => h6 k (.inl hk)) h5.size k hk
    · exact h6 k (.inr hk)
theorem front_two (h : Two w wr q p D R1 R2) : Calls Try.prog 16 #[.pointer (some ⟨q, 0, none⟩)] wr fun r w' => r = .returned (.tuple #[.agg #[.string (hdE R1).nm, .int .u64 (hdE R1).tk], .bool (!R1.isEmpty)]) ∧ Two w w' q p D R1 R2 ∧ Kept D wr w' ∧ Below wr.heap.size wr w' := by
  have h0 := h
  obtain ⟨B, C, h1, h2, h3, h4, h5, h6⟩ := h
  exact (front_hd h1).mono fun r w' ⟨hr, _, hb⟩ => ⟨hr, (h0.below hb).1, (h0.below hb).2, hb⟩
end

theorem below_quiet {B : Nat} {a w : World} (h : Below B a w) (n : Nat) : Below B a (w.drewN n) := ⟨h.os, h.tape, h.output, h.size, h.block⟩
theorem below_box (w : World) (o : Obj) (n : Nat) : Below w.heap.size w ((w.alloc o).drewN n) := below_quiet ((Below.refl _ w).alloc (Nat.le_refl _) _) n
theorem tw_split {n m : Int} (h : n ≤ m) : ∀ S : List Ent, S.takeWhile (duep m) = S.takeWhile (duep n) ++ (S.dropWhile (duep n)).takeWhile (duep m) ∧ (S.dropWhile (duep n)).dropWhile (duep m) = S.dropWhile (duep m)
  | [] => by simp
  | a :: t => by
    obtain ⟨i1, i2⟩ := tw_split h t
    by_cases hn : a.tk ≤ n
    · have hm : a.tk ≤ m := by omega
      have d1 : duep n a = true := by simp [duep, hn]
      have d2 : duep m a = true := by simp [duep, hm]
      simp only [List.takeWhile_cons, List.dropWhile_cons, d1, d2, if_true]
      exact ⟨by rw [i1]; rfl, i2⟩
    · have d1 : duep n a = false := by simp [duep]; omega
      simp [List.takeWhile_cons, List.dropWhile_cons, d1]
theorem tw_mem {t : Int} {S : List Ent} {x : Ent} (h : x ∈ S.takeWhile (duep t)) : x.tk ≤ t := by
  have := List.all_takeWhile (p := duep t) (l := S)
  rw [List.all_eq_true] at this
  simpa [duep] using this x h
theorem less_tk {a b : Ent} (h : lessE a b = true) : a.tk ≤ b.tk := by
  unfold lessE at h
  simp only [Bool.or_eq_true, Bool.and_eq_true, decide_eq_true_eq] at h
  rcases h with h | h <;> omega
theorem dw_mem {t : Int} : ∀ {S : List Ent} (_ : Sorted S) {x : Ent}, x ∈ S.dropWhile (duep t) → t < x.tk
  | [], _, _, h => by simp at h
  | a :: S, hs, x, h => by
    by_cases ha : a.tk ≤ t
    · have d1 : duep t a = true := by simp [duep, ha]
      simp only [List.dropWhile_cons, d1, if_true] at h
      exact dw_mem (List.pairwise_cons.1 hs).2 h
    · have d1 : duep t a = false := by simp [duep]; omega
      simp only [List.dropWhile_cons, d1] at h
      rcases List.mem_cons.1 h with rfl | h
      · omega
      · have := less_tk ((List.pairwise_cons.1 hs).1 x h); omega
end Go.Proofs.Yticnckclmlejhaa

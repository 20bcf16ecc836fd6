/-
  The walk of layer 6 (queue): the entries' Push.
-/
import Derived.Test.YticnckclmlejhaaPop
import Derived.Deep.AppendLies
import Derived.Deep.RegionLaw
import Derived.OwnWalk
namespace Go.Proofs.Yticnckclmlejhaa
open Go.RowKit Go.ChangeMaps Hp

theorem ent_info : (Try.prog.info? 28).map (fun i => (i.zero, i.size, i.bytes)) = some (some (.agg #[.string ByteArray.empty, .int .u64 0]), 2, 24) := by kernel_rfl
theorem assert_ent (a : ByteArray) (s : Int) (w : World) : (Instr.typeAssert (.iface 28 (.agg #[.string a, .int .u64 s])) 20 28 false).run Try.prog w = .ok (.agg #[.string a, .int .u64 s]) w := by kernel_rfl

theorem field_ent (a : ByteArray) (s : Int) (w : World) : (Instr.field 28 (.agg #[.string a, .int .u64 s]) 0).run Try.prog w = .ok (.string a) w := by kernel_rfl
theorem news_two (w : World) (x y : Value) (t : TypeId) (B : Nat) (hB : B = w.heap.size) : ∀ j u, [x, y][j]? = some u → (w.alloc (.cells #[x, y] t)).cell? ((⟨B, 0, none⟩ : Addr).add j) = some u := by
  subst hB
  intro j u hj
  match j, hj with
  | 0, hj => simp at hj; subst hj; simp [Addr.add]
  | 1, hj => simp at hj; subst hj; simp [Addr.add]

set_option maxHeartbeats 800000 in
theorem push_any (X M n cap : Nat) (A : Option Addr) (a : ByteArray) (s : Int) (l : List Ent) (es es' : Array MapEntry) (clk : Nat) (w : World) (hX : w.cell? ⟨X, 0, none⟩ = some (.slice A n cap)) (hX1 : w.cell? ⟨X, 1, none⟩ = some (.map (some M))) (hXf : w.frozen? ⟨X, 0, none⟩ = false)
    (hXs : X < w.heap.size) (hXA : some X ≠ (Value.slice A n cap).ownBlock) (hMs : M < w.heap.size) (hMX : M ≠ X) (hM : w.heap[M]? = some (.map es clk)) (hn : n ≤ 4611686018427 ) (hrow : w.ownsRow 0 28 2 (.slice A n cap) n (flat l))
    (D : ∀ (M : Nat) (w : World), w.heap[M]? = some (.map es clk) → (Instr.mapUpdate 60 (.map (some M)) (.string a) (.int .i64 (n : Int))).run Try.prog w = .ok () (setBlock w M (.map es' (clk + 1)))) :
    Calls Try.prog 55 #[.pointer (some ⟨X, 0, none⟩), .iface 28 (.agg #[.string a, .int .u64 s])] w fun e w' => e = .returned (.tuple #[]) ∧
      ∃ g cap' W2 w3, setBlock w.drew M (.map es' (clk + 1)) = W2 ∧ (W2.alloc (.cells #[.string a, .int .u64 s] 28)).drew.grownBy w3 (Value.slice A n cap).ownBlock ∧
        w3.ownsRow 0 28 2 (.slice (some ⟨g, 0, none⟩) (n + 1) cap') (n + 1) (flat l ++ [.string a, .int .u64 s]) ∧ ((Value.slice A n cap).ownBlock = some g ∨ g = W2.heap.size + 1) ∧
        w' = w3.setCell ⟨X, 0, none⟩ (.slice (some ⟨g, 0, none⟩) (n + 1) cap') := by
  have D' := Lib.hid D; have HM := Lib.hid hM
  clear D hM
  have ta := assert_ent a s
  have tf := field_ent a s
  obtain ⟨i0, hi, hz0, hz1, hz2⟩ := info_parts ent_info
  go_enter Try.func55, Try.ntmps55
  go_wp2
  obtain ⟨W2, hW2⟩ : ∃ W2, setBlock w.drew M (.map es' (clk + 1)) = W2 := ⟨_, rfl⟩
  have d := D'.out M w.drew HM.out
  rw [hW2] at d
  have c0 : W2.cell? ⟨X, 0, none⟩ = some (.slice A n cap) := by
    rw [← hW2]; exact (World.cell?_of_block (w := w.drew) (a := ⟨X, 0, none⟩) ((heap_setBlock (w := w.drew) HM.out).2 _ hMX.symm)).trans hX
  have c1 : W2.frozen? ⟨X, 0, none⟩ = false := by
    rw [← hW2]; exact (World.frozen?_of_block (w := w.drew) (a := ⟨X, 0, none⟩) ((heap_setBlock (w := w.drew) HM.out).2 _ hMX.symm)).trans hXf
  have hXs2 : X < W2.heap.size := by rw [← hW2]; simpa [setBlock] using hXs
  have HW2 := Lib.hid hW2
  clear hW2
  go_region
  go_wp2
  have hrow2 : W2.ownsRow 0 28 2 (.slice A n cap) n (flat l) := by
    rw [← HW2.out]
    obtain ⟨r1, r2⟩ := hrow
    refine ⟨r1, ?_⟩
    rcases r2 with r2 | ⟨g, cap', cur, e, hg, hh, r⟩
    · exact .inl r2
    · refine .inr ⟨g, cap', cur, e, hg, ?_, r⟩
      have hne : g ≠ M := by rintro rfl; rw [HM.out] at hh; cases hh
      exact ((heap_setBlock (w := w.drew) HM.out).2 _ hne).trans hh
  clear hX hX1 hXf d hrow
  have hq : ((W2.alloc (.cells #[.string a, .int .u64 s] 28)).drew).ownsRow 0 28 2 (.slice A n cap) n (flat l) := World.ownsRow.drew (World.ownsRow.alloc hrow2 _)
  have hsz2 : (W2.alloc (.cells #[.string a, .int .u64 s] 28)).drew.heap.size = W2.heap.size + 1 := by simp

  have hnn : ∀ j u, [Value.string a, .int .u64 s][j]? = some u → ((W2.alloc (.cells #[.string a, .int .u64 s] 28)).drew).cell? ((⟨W2.heap.size, 0, none⟩ : Addr).add j) = some u := news_two W2 _ _ _ _ rfl
  have h63 : n + 1 ≤ maxLen := by unfold maxLen; omega
  have hby : (n + 1) * 24 ≤ 140737488355328 := by omega
  have hone : ∀ u ∈ [Value.string a, .int .u64 s], u.oneCell' = true := by
    intro u hu
    simp only [List.mem_cons, List.not_mem_nil, or_false] at hu
    rcases hu with rfl | rfl <;> rfl
  have hX3 : X < (W2.alloc (.cells #[.string a, .int .u64 s] 28)).drew.heap.size := by rw [hsz2]; omega
  have hf3 : ((W2.alloc (.cells #[.string a, .int .u64 s] 28)).drew).frozen? ⟨X, 0, none⟩ = false := (World.frozen?_of_block (w := W2) (a := ⟨X, 0, none⟩) (Below.heap_alloc W2 (.cells #[.string a, .int .u64 s] 28) X hXs2)).trans c1
  have hc3 : ((W2.alloc (.cells #[.string a, .int .u64 s] 28)).drew).cell? ⟨X, 0, none⟩ = some (.slice A n cap) := (World.cell?_of_block (w := W2) (a := ⟨X, 0, none⟩) (Below.heap_alloc W2 (.cells #[.string a, .int .u64 s] 28) X hXs2)).trans c0
  have hcX : W2.drew.cell? ⟨X, 0, none⟩ = some (.slice A n cap) := c0
  go_region_law (refine step_append_lies _ rfl (.tmp 20) (.tmp 23) 36 rfl 0 28 i0 (.agg #[.string ByteArray.empty, .int .u64 0]) 2 24 Try.underlying36 hi hz0 hz1 hz2 rfl (by decide) (.slice A n cap) n (flat l) rfl hq ⟨W2.heap.size, 0, none⟩ 1 1 [.string a, .int .u64 s] rfl rfl hnn hone (by decide) h63 hby (Nat.zero_le _) (W2.heap.size + 1) hsz2 ?_; intro g cap1 w3 hown hgrow hat hlt; have hf4 := (hgrow.frozen_far ⟨X, 0, none⟩ hX3 hXA).trans hf3; have hc4 := (hgrow.cell_far ⟨X, 0, none⟩ hX3 hXA).trans hc3)

  all_goals (go_wp2; go_end0; exact ⟨rfl, g, cap1, W2, w3, HW2.out, hgrow, hown, hat, rfl⟩)
end Go.Proofs.Yticnckclmlejhaa

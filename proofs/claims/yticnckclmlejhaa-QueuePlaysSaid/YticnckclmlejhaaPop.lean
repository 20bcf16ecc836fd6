/-
  The walks of layer 6 (queue): the entries' Pop and Push.
-/
import Derived.Test.YticnckclmlejhaaOps
namespace Go.Proofs.Yticnckclmlejhaa
open Go.RowKit Go.ChangeMaps Hp

set_option maxHeartbeats 800000 in
theorem pop_any (X L M n cap : Nat) (a : ByteArray) (s : Int) (es es' : Array MapEntry) (clk : Nat) (w : World) (hX : w.cell? ⟨X, 0, none⟩ = some (.slice (some ⟨L, 0, none⟩) (n + 1) cap)) (hX1 : w.cell? ⟨X, 1, none⟩ = some (.map (some M))) (hXf : w.frozen? ⟨X, 0, none⟩ = false)
    (hXs : X < w.heap.size) (hMs : M < w.heap.size) (hMX : M ≠ X) (hcap : n + 1 ≤ cap) (hbig : n ≤ 4611686018427387904)
    (h0 : w.cell? ⟨L, n * 2, none⟩ = some (.string a)) (h1 : w.cell? ⟨L, n * 2 + 1, none⟩ = some (.int .u64 s)) (hM : w.heap[M]? = some (.map es clk))
    (D : ∀ (ty : TypeId) (M : Nat) (w : World), w.heap[M]? = some (.map es clk) → (Builtin.delete_ #[60, 9] ty #[.map (some M), .string a]).run Try.prog w = .ok (.tuple #[]) (setBlock w M (.map es' clk))) :
    Calls Try.prog 54 #[.pointer (some ⟨X, 0, none⟩)] w fun e w' => e = .returned (.iface 28 (.agg #[.string a, .int .u64 s])) ∧
      setBlock ((w.setCell ⟨X, 0, none⟩ (.slice (some ⟨L, 0, none⟩) n cap)).alloc (.cells #[.string a, .int .u64 s] 28)).drew M (.map es' clk) = w' := by
  have D' := Lib.hid D; have HM := Lib.hid hM
  clear D hM
  go_enter Try.func54, Try.ntmps54
  go_wp2
  have q1 : ((w.setCell ⟨X, 0, none⟩ (.slice (some ⟨L, 0, none⟩) n cap)).alloc (.cells #[.string a, .int .u64 s] 28)).cell? ⟨X, 1, none⟩ = some (.map (some M)) := by go_simp
  have q2 : ((w.setCell ⟨X, 0, none⟩ (.slice (some ⟨L, 0, none⟩) n cap)).alloc (.cells #[.string a, .int .u64 s] 28)).cell? ⟨w.heap.size, 0, none⟩ = some (.string a) := by go_simp
  have q3 : ((w.setCell ⟨X, 0, none⟩ (.slice (some ⟨L, 0, none⟩) n cap)).alloc (.cells #[.string a, .int .u64 s] 28)).cell? ⟨w.heap.size, 1, none⟩ = some (.int .u64 s) := by go_simp
  have q4 : ((w.setCell ⟨X, 0, none⟩ (.slice (some ⟨L, 0, none⟩) n cap)).alloc (.cells #[.string a, .int .u64 s] 28)).heap[M]? = some (.map es clk) := by
    rw [Below.heap_alloc _ _ _ (by simpa using hMs), Below.heap_setCell _ _ _ _ hMX]
    exact HM.out
  change Code.wp _ _ _ _ ((w.setCell ⟨X, 0, none⟩ (.slice (some ⟨L, 0, none⟩) n cap)).alloc (.cells #[.string a, .int .u64 s] 28))
  generalize hwq : (w.setCell ⟨X, 0, none⟩ (.slice (some ⟨L, 0, none⟩) n cap)).alloc (.cells #[.string a, .int .u64 s] 28) = wq at *
  have HWQ := Lib.hid hwq; clear hwq
  obtain ⟨W2, hW2⟩ : ∃ W2, setBlock wq.drew M (.map es' clk) = W2 := ⟨_, rfl⟩
  have hM0 : wq.drew.heap[M]? = some (.map es clk) := q4
  have d := fun ty => D'.out ty M wq.drew hM0
  rw [hW2] at d
  have hne : w.heap.size ≠ M := by omega
  have r2 : W2.cell? ⟨w.heap.size, 0, none⟩ = some (.string a) := by
    rw [← hW2]; exact (World.cell?_of_block (w := wq.drew) (a := ⟨w.heap.size, 0, none⟩) ((heap_setBlock hM0).2 _ hne)).trans q2
  have r3 : W2.cell? ⟨w.heap.size, 1, none⟩ = some (.int .u64 s) := by
    rw [← hW2]; exact (World.cell?_of_block (w := wq.drew) (a := ⟨w.heap.size, 1, none⟩) ((heap_setBlock hM0).2 _ hne)).trans q3
  have HW2 := Lib.hid hW2
  clear hW2 hM0 q4 hX hX1 h0 h1 hXf
  go_region
  go_wp2
  go_ret
  exact ⟨rfl, by rw [HWQ.out, HW2.out]⟩
end Go.Proofs.Yticnckclmlejhaa

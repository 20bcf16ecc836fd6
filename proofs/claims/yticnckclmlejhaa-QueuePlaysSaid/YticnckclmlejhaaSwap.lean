/-
  The walk of layer 6 (queue): Swap.
-/
import Derived.Test.YticnckclmlejhaaLessB
import Derived.Test.YticnckclmlejhaaMap
import Derived.BigRegion
import Derived.RegionTactic
import Derived.ChangeAlike
namespace Go.Proofs.Yticnckclmlejhaa
open Go.RowKit Go.ChangeMaps

theorem heap_setBlock {w : World} {M : Nat} {o o' : Obj} (h : w.heap[M]? = some o) : (setBlock w M o').heap[M]? = some o' ∧ ∀ k, k ≠ M → (setBlock w M o').heap[k]? = w.heap[k]? := MapKept.heap_set h

/-- The four stores of an exchange. -/
def swapW (w : World) (L i j : Nat) (a b : ByteArray) (s t : Int) : World :=
  (((w.setCell ⟨L, i * 2, none⟩ (.string b)).setCell ⟨L, i * 2 + 1, none⟩ (.int .u64 t)).setCell ⟨L, j * 2, none⟩ (.string a)).setCell ⟨L, j * 2 + 1, none⟩ (.int .u64 s)

set_option maxHeartbeats 1600000 in
theorem swap_any (X L M n cap i j : Nat) (a b : ByteArray) (s t : Int) (es es1 es2 : Array MapEntry) (clk st1 st2 k1 k2 : Nat) (w : World) (hX : w.cell? ⟨X, 0, none⟩ = some (.slice (some ⟨L, 0, none⟩) n cap)) (hX1 : w.cell? ⟨X, 1, none⟩ = some (.map (some M))) (hi : i < n) (hj : j < n) (hij : i ≠ j)
    (hXL : X ≠ L) (hML : M ≠ L)
    (hi0 : w.cell? ⟨L, i * 2, none⟩ = some (.string a)) (hi1 : w.cell? ⟨L, i * 2 + 1, none⟩ = some (.int .u64 s)) (hj0 : w.cell? ⟨L, j * 2, none⟩ = some (.string b)) (hj1 : w.cell? ⟨L, j * 2 + 1, none⟩ = some (.int .u64 t))
    (hf : ∀ o, w.frozen? ⟨L, o, none⟩ = false) (hM : w.heap[M]? = some (.map es clk))
    (E1 : ∀ (M : Nat) (w : World), w.heap[M]? = some (.map es clk) → (Instr.mapEntry 60 (.map (some M)) (.string b)).run Try.prog w = .ok (.tuple #[.int .i64 (k1 : Int), .int .i64 (st1 : Int)]) w)
    (S1 : ∀ (M : Nat) (w : World), w.heap[M]? = some (.map es clk) → (Instr.entryStore 60 (.map (some M)) (.int .i64 (st1 : Int)) (.int .i64 (i : Int))).run Try.prog w = .ok () (setBlock w M (.map es1 clk)))
    (E2 : ∀ (M : Nat) (w : World), w.heap[M]? = some (.map es1 clk) → (Instr.mapEntry 60 (.map (some M)) (.string a)).run Try.prog w = .ok (.tuple #[.int .i64 (k2 : Int), .int .i64 (st2 : Int)]) w)
    (S2 : ∀ (M : Nat) (w : World), w.heap[M]? = some (.map es1 clk) → (Instr.entryStore 60 (.map (some M)) (.int .i64 (st2 : Int)) (.int .i64 (j : Int))).run Try.prog w = .ok () (setBlock w M (.map es2 clk))) :
    Calls Try.prog 56 #[.pointer (some ⟨X, 0, none⟩), .int .i64 i, .int .i64 j] w fun e w' => e = .returned (.tuple #[]) ∧ setBlock (setBlock (swapW w L i j a b s t).drew.drew M (.map es1 clk)) M (.map es2 clk) = w' := by
  have p1 : (0 : Int) ≤ (i : Int) := by omega
  have p2 : (i : Int) < (n : Int) := by omega
  have p3 : (0 : Int) ≤ (j : Int) := by omega
  have p4 : (j : Int) < (n : Int) := by omega
  have E1' := Lib.hid E1; have S1' := Lib.hid S1; have E2' := Lib.hid E2; have S2' := Lib.hid S2
  have HM := Lib.hid hM
  clear E1 S1 E2 S2 hM
  go_enter Try.func56, Try.ntmps56
  go_wp2
  go_region
  go_wp2
  have hq0 : (swapW w L i j a b s t).drew.cell? ⟨X, 0, none⟩ = some (.slice (some ⟨L, 0, none⟩) n cap) := by unfold swapW; go_simp
  have hq1 : (swapW w L i j a b s t).drew.cell? ⟨X, 1, none⟩ = some (.map (some M)) := by unfold swapW; go_simp
  have hq2 : (swapW w L i j a b s t).drew.cell? ⟨L, i * 2, none⟩ = some (.string b) := by unfold swapW; go_simp
  have hq3 : (swapW w L i j a b s t).drew.cell? ⟨L, j * 2, none⟩ = some (.string a) := by unfold swapW; go_simp
  have hq4 : (swapW w L i j a b s t).drew.heap[M]? = some (.map es clk) := by
    show (swapW w L i j a b s t).heap[M]? = _
    unfold swapW
    rw [Below.heap_setCell _ _ _ _ hML, Below.heap_setCell _ _ _ _ hML, Below.heap_setCell _ _ _ _ hML, Below.heap_setCell _ _ _ _ hML]
    exact HM.out
  change Code.wp _ _ _ _ (swapW w L i j a b s t).drew
  generalize hwq : (swapW w L i j a b s t).drew = wq at *
  have HWQ := Lib.hid hwq; clear hwq
  obtain ⟨W1, hW1⟩ : ∃ W1, setBlock wq.drew M (.map es1 clk) = W1 := ⟨_, rfl⟩
  obtain ⟨W2, hW2⟩ : ∃ W2, setBlock W1 M (.map es2 clk) = W2 := ⟨_, rfl⟩
  have hM0 : wq.drew.heap[M]? = some (.map es clk) := hq4
  have hM1 : W1.heap[M]? = some (.map es1 clk) := by rw [← hW1]; exact (heap_setBlock hM0).1
  have e1 := E1'.out M wq.drew hM0
  have s1 := S1'.out M wq.drew hM0
  have e2 := E2'.out M W1 hM1
  have s2 := S2'.out M W1 hM1
  rw [hW1] at s1
  rw [hW2] at s2
  have HW1 := Lib.hid hW1; have HW2 := Lib.hid hW2
  clear hM0 hM1 hW1 hW2 hX hX1 hi0 hi1 hj0 hj1 hf hq4
  go_region
  go_wp2
  go_end0
  exact ⟨rfl, by rw [HWQ.out, HW1.out, HW2.out]⟩
end Go.Proofs.Yticnckclmlejhaa

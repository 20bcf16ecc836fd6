/-
  The walk of layer 6 (queue): Less, over two entries of the row.
-/
import Derived.Test.YticnckclmlejhaaLess
namespace Go.Proofs.Yticnckclmlejhaa
open Go.RowKit

set_option maxHeartbeats 400000 in
theorem less_any (X L n cap i j : Nat) (a b : ByteArray) (s t : Int) (w : World) (hX : w.cell? ⟨X, 0, none⟩ = some (.slice (some ⟨L, 0, none⟩) n cap)) (hi : i < n) (hj : j < n) (hXs : X < w.heap.size) (hLs : L < w.heap.size)
    (hi0 : w.cell? ⟨L, i * 2, none⟩ = some (.string a)) (hi1 : w.cell? ⟨L, i * 2 + 1, none⟩ = some (.int .u64 s)) (hj0 : w.cell? ⟨L, j * 2, none⟩ = some (.string b)) (hj1 : w.cell? ⟨L, j * 2 + 1, none⟩ = some (.int .u64 t)) :
    Calls Try.prog 53 #[.pointer (some ⟨X, 0, none⟩), .int .i64 i, .int .i64 j] w fun e w' => e = .returned (.bool (decide (cmpE a s b t < 0))) ∧ Below w.heap.size w w' := by
  have p1 : (0 : Int) ≤ (i : Int) := by omega
  have p2 : (i : Int) < (n : Int) := by omega
  have p3 : (0 : Int) ≤ (j : Int) := by omega
  have p4 : (j : Int) < (n : Int) := by omega
  go_enter Try.func53, Try.ntmps53
  go_wp2
  go_region_held3 (fun w' => w'.cell? ⟨X, 0, none⟩ = some (.slice (some ⟨L, 0, none⟩) n cap) ∧ w'.cell? ⟨L, i * 2, none⟩ = some (.string a) ∧ w'.cell? ⟨L, i * 2 + 1, none⟩ = some (.int .u64 s) ∧ w'.cell? ⟨L, j * 2, none⟩ = some (.string b) ∧ w'.cell? ⟨L, j * 2 + 1, none⟩ = some (.int .u64 t)) (first | exact ⟨hX, hi0, hi1, hj0, hj1⟩ | exact ⟨(hb1.cell (p := ⟨X, 0, none⟩) hXs).trans hX, (hb1.cell (p := ⟨L, i * 2, none⟩) hLs).trans hi0, (hb1.cell (p := ⟨L, i * 2 + 1, none⟩) hLs).trans hi1, (hb1.cell (p := ⟨L, j * 2, none⟩) hLs).trans hj0, (hb1.cell (p := ⟨L, j * 2 + 1, none⟩) hLs).trans hj1⟩)
    (first
      | (go_at_call 52; refine (compare_any _ _ _ _ _).mono ?_; rintro e w1 ⟨rfl, hb1⟩))
  go_wp2
  go_ret
  exact ⟨rfl, (Below.refl _ _).drew.trans hb1⟩
end Go.Proofs.Yticnckclmlejhaa

/-
  The walk of layer 6's QueueNil.
-/
import Derived.Test.YticnckclmlejhaaNil
namespace Go.Proofs.Yticnckclmlejhaa
open Go.RowKit Go.ChangeMaps Hp
set_option maxHeartbeats 1600000 in
theorem nil_law (k t : Int) (nm : ByteArray) (w : World) : Calls Try.prog 7 #[.agg #[.int .i64 k, .string nm, .int .u64 t]] w fun r w' => r = .returned (.bool true) ∧ Below w.heap.size w w' := by
  go_enter Try.func7, Try.ntmps7
  go_wp2_with (first
    | (go_at_call 12; (with_reducible refine (qat_nil _ _).mono ?_); rintro r w1 ⟨rfl, rfl⟩)
    | (go_at_call 18; (with_reducible refine (put_nil _ _ _).mono ?_); rintro r w1 ⟨rfl, rfl⟩)
    | (go_at_call 13; (with_reducible refine (drop_nil _ _).mono ?_); rintro r w1 ⟨rfl, rfl⟩)
    | (go_at_call 10; (with_reducible refine (len_nil _).mono ?_); rintro r w1 ⟨rfl, rfl⟩)
    | (go_at_call 16; (with_reducible refine (front_nil _).mono ?_); rintro r w2 ⟨rfl, hb⟩
       have x1 := (hb.cell (p := ⟨w.heap.size, 1, none⟩) (by simp)).trans (by go_simp : _ = some (.string nm))
       have x2 := (hb.cell (p := ⟨w.heap.size, 2, none⟩) (by simp)).trans (by go_simp : _ = some (.int .u64 t))
       have x3 : w.heap.size < w2.heap.size := Nat.lt_of_lt_of_le (by simp) hb.size
       have HB2 : Hid (Below w.heap.size w w2) := Lib.hid (((Below.refl _ w).alloc (Nat.le_refl _) _).trans (hb.mono (by simp)))
       clear hb)
    | (go_at_call 11; (with_reducible refine (pop_nil _).mono ?_); rintro r w3 ⟨rfl, hb⟩
       have y1 := (hb.cell (p := ⟨w.heap.size, 1, none⟩) (by simp; omega)).trans (by go_simp : _ = some (.string nm))
       have y2 := (hb.cell (p := ⟨w.heap.size, 2, none⟩) (by simp; omega)).trans (by go_simp : _ = some (.int .u64 t))
       have y3 : w.heap.size < w3.heap.size := Nat.lt_of_lt_of_le (by simp; omega) hb.size
       have HB3 : Hid (Below w.heap.size w w3) := Lib.hid ((HB2.out.alloc (by omega) _).trans (hb.mono (by simp; omega)))
       clear hb)
    | (go_at_call 14; (with_reducible refine (alive_true _).mono ?_); rintro r w4 ⟨rfl, hb⟩
       have z1 := (hb.cell (p := ⟨w.heap.size, 1, none⟩) (by simp; omega)).trans (by go_simp : _ = some (.string nm))
       have z2 := (hb.cell (p := ⟨w.heap.size, 2, none⟩) (by simp; omega)).trans (by go_simp : _ = some (.int .u64 t))
       have z3 : w.heap.size < w4.heap.size := Nat.lt_of_lt_of_le (by simp; omega) hb.size
       have HB4 : Hid (Below w.heap.size w w4) := Lib.hid ((HB3.out.alloc (by omega) _).trans (hb.mono (by simp; omega)))
       clear hb)
    | (go_at_call 15; (with_reducible refine (due_nil _ _).mono ?_); rintro r w5 ⟨rfl, hb⟩
       have HB5 : Hid (Below w.heap.size w w5) := Lib.hid (HB4.out.trans (hb.mono (by omega)))
       clear hb))
  go_ret
  exact ⟨rfl, HB5.out⟩
end Go.Proofs.Yticnckclmlejhaa

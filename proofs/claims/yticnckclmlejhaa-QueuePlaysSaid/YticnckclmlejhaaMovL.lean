/-
  The walk of layer 6's QueueMoves.
-/
import Derived.Test.YticnckclmlejhaaMov
import Derived.Test.YticnckclmlejhaaAnyL
namespace Go.Proofs.Yticnckclmlejhaa
open Go.RowKit Go.ChangeMaps Hp

set_option maxRecDepth 100000 in
set_option maxHeartbeats 3200000 in
theorem mov_long (sc : Value) (S : List Ent) (w : World) (nm : ByteArray) (at' : Int) (hl : 40 < nm.size)
    (HB : ∀ wx, Below w.heap.size w wx → Calls Try.prog 9 #[sc] wx fun r w' => ∃ q, r = .returned (.pointer (some ⟨q, 0, none⟩)) ∧ Mine wx w' q S) :
    Calls Try.prog 8 #[sc, .string nm, .int .u64 at'] w fun r w' => r = .returned (.bool true) ∧ Below w.heap.size w w' := by
  have HBB := Lib.hid HB
  clear HB
  have e0 : ((40 : Int) < (nm.size : Int)) = True := by simp; omega
  go_enter Try.func8, Try.ntmps8
  go_wp2_with (first
    | (go_at_call 9; (with_reducible refine (HBB.out _ (Below.refl _ _)).mono ?_); rintro r w1 ⟨q, rfl, h1⟩; have H1 := Lib.hid h1; clear h1)
    | (go_at_call 9; (with_reducible refine (HBB.out _ H1.out.bel).mono ?_); rintro r w2 ⟨p, rfl, h2⟩; have HT : Hid (Two w w2 q p (fun _ => False) S S) := Lib.hid (H1.out.two (fun _ h => h.elim) h2); clear h2))
  go_ret
  exact ⟨rfl, HT.out.bel⟩

set_option maxRecDepth 100000 in
set_option maxHeartbeats 3200000 in
theorem mov_none (sc : Value) (S : List Ent) (w : World) (nm : ByteArray) (at' : Int) (hl : nm.size ≤ 40) (hS : S.length ≤ 150) (hf : fnd S nm = none)
    (HB : ∀ wx, Below w.heap.size w wx → Calls Try.prog 9 #[sc] wx fun r w' => ∃ q, r = .returned (.pointer (some ⟨q, 0, none⟩)) ∧ Mine wx w' q S) :
    Calls Try.prog 8 #[sc, .string nm, .int .u64 at'] w fun r w' => r = .returned (.bool true) ∧ Below w.heap.size w w' := by
  have HBB := Lib.hid HB
  have HF := Lib.hid hf
  have hl1 : S.length ≤ 999999 := by omega
  clear HB hf
  have e0 : ((40 : Int) < (nm.size : Int)) = False := by simp; omega
  go_enter Try.func8, Try.ntmps8
  go_wp2_with (first
    | (go_at_call 9; (with_reducible refine (HBB.out _ (Below.refl _ _)).mono ?_); rintro r w1 ⟨q, rfl, h1⟩; have H1 := Lib.hid h1; clear h1)
    | (go_at_call 9; (with_reducible refine (HBB.out _ H1.out.bel).mono ?_); rintro r w2 ⟨p, rfl, h2⟩; have HT : Hid (Two w w2 q p (fun _ => False) S S) := Lib.hid (H1.out.two (fun _ h => h.elim) h2); clear h2)
    | (have D := at_two HT.out nm
       rw [HF.out] at D
       have D2 : Calls Try.prog 12 #[.pointer (some ⟨q, 0, none⟩), .string nm] w2 fun r w' => r = .returned (.tuple #[.int .u64 0, .bool false]) ∧ w2 = w' := D
       go_at_call 12; (with_reducible refine D2.mono ?_); clear D D2; rintro r w3 ⟨rfl, rfl⟩)
    | (go_at_call 14; (with_reducible refine (alive_true _).mono ?_); rintro r w4 ⟨rfl, hb4⟩; have HT4 := Lib.hid (HT.out.below hb4).1; clear hb4)
    | (have D := drop_two HT4.out hl1 nm
       rw [HF.out] at D
       have D2 : Calls Try.prog 13 #[.pointer (some ⟨q, 0, none⟩), .string nm] w4 fun r w' => r = .returned (.bool false) ∧ Two w w' q p (fun _ => False) (fltr nm S) S ∧ Kept (fun _ => False) w4 w' := D
       go_at_call 13; (with_reducible refine D2.mono ?_); clear D D2; rintro r w5 ⟨rfl, t5, _⟩; have HT5 := Lib.hid t5; clear t5))
  go_ret
  exact ⟨rfl, HT5.out.bel⟩
end Go.Proofs.Yticnckclmlejhaa

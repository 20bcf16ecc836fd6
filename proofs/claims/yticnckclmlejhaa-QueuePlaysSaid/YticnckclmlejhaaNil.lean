/-
  The walks of layer 6 (queue): no queue.
-/
import Derived.Test.YticnckclmlejhaaRep
namespace Go.Proofs.Yticnckclmlejhaa
open Go.RowKit Go.ChangeMaps Hp

theorem at_nil (nm : ByteArray) (w : World) : Calls Try.prog 27 #[.pointer none, .string nm] w fun r w' => r = .returned (.tuple #[.int .i64 0, .bool false]) ∧ w = w' := by
  go_enter Try.func27, Try.ntmps27
  go_wp2
  go_ret2
  exact ⟨rfl, rfl⟩
theorem put_nil (nm : ByteArray) (t : Int) (w : World) : Calls Try.prog 18 #[.pointer none, .string nm, .int .u64 t] w fun r w' => r = .returned (.bool false) ∧ w = w' := by
  go_enter Try.func18, Try.ntmps18
  go_wp2_with (go_at_call 27; (with_reducible refine (at_nil _ _).mono ?_); rintro r w1 ⟨rfl, rfl⟩)
  go_ret
  exact ⟨rfl, rfl⟩
theorem drop_nil (nm : ByteArray) (w : World) : Calls Try.prog 13 #[.pointer none, .string nm] w fun r w' => r = .returned (.bool false) ∧ w = w' := by
  go_enter Try.func13, Try.ntmps13
  go_wp2_with (go_at_call 27; (with_reducible refine (at_nil _ _).mono ?_); rintro r w1 ⟨rfl, rfl⟩)
  go_ret
  exact ⟨rfl, rfl⟩
theorem qat_nil (nm : ByteArray) (w : World) : Calls Try.prog 12 #[.pointer none, .string nm] w fun r w' => r = .returned (.tuple #[.int .u64 0, .bool false]) ∧ w = w' := by
  go_enter Try.func12, Try.ntmps12
  go_wp2_with (go_at_call 27; (with_reducible refine (at_nil _ _).mono ?_); rintro r w1 ⟨rfl, rfl⟩)
  go_ret2
  exact ⟨rfl, rfl⟩
theorem len_nil (w : World) : Calls Try.prog 10 #[.pointer none] w fun r w' => r = .returned (.int .i64 0) ∧ w = w' := by
  go_enter Try.func10, Try.ntmps10
  go_wp2
  go_ret
  exact ⟨rfl, rfl⟩
theorem front_nil (w : World) : Calls Try.prog 16 #[.pointer none] w fun r w' => r = .returned (.tuple #[.agg #[.string ByteArray.empty, .int .u64 0], .bool false]) ∧ Below w.heap.size w w' := by
  go_enter Try.func16, Try.ntmps16
  go_wp2_with (go_at_call 10; (with_reducible refine (len_nil _).mono ?_); rintro r w1 ⟨rfl, rfl⟩)
  have t0 : (w.alloc (.cells #[.string ByteArray.empty, .int .u64 0] 28)).cell? ⟨w.heap.size, 0, none⟩ = some (.string ByteArray.empty) := by go_simp
  have t1 : (w.alloc (.cells #[.string ByteArray.empty, .int .u64 0] 28)).cell? ⟨w.heap.size, 1, none⟩ = some (.int .u64 0) := by go_simp
  refine bodyPost_ret (results_ent rfl rfl t0 t1) rfl ?_
  exact ⟨rfl, (Below.refl _ w).alloc (Nat.le_refl _) _⟩
theorem pop_nil (w : World) : Calls Try.prog 11 #[.pointer none] w fun r w' => r = .returned (.tuple #[.agg #[.string ByteArray.empty, .int .u64 0], .bool false]) ∧ Below w.heap.size w w' := by
  have B1 : Below w.heap.size w (w.alloc (.cells #[.string ⟨#[]⟩, .int .u64 0] 28)) := (Below.refl _ w).alloc (Nat.le_refl _) _
  have D1 := Lib.hid (front_nil (w.alloc (.cells #[.string ⟨#[]⟩, .int .u64 0] 28)))
  have s1 : (w.alloc (.cells #[.string ⟨#[]⟩, .int .u64 0] 28)).heap.size = w.heap.size + 1 := by simp
  have r0 : (w.alloc (.cells #[.string ⟨#[]⟩, .int .u64 0] 28)).cell? ⟨w.heap.size, 0, none⟩ = some (.string ⟨#[]⟩) := by go_simp
  have r1 : (w.alloc (.cells #[.string ⟨#[]⟩, .int .u64 0] 28)).cell? ⟨w.heap.size, 1, none⟩ = some (.int .u64 0) := by go_simp
  have r2 : (w.alloc (.cells #[.string ⟨#[]⟩, .int .u64 0] 28)).frozen? ⟨w.heap.size, 0, none⟩ = false := by go_simp
  have r3 : (w.alloc (.cells #[.string ⟨#[]⟩, .int .u64 0] 28)).frozen? ⟨w.heap.size, 1, none⟩ = false := by go_simp
  rw [s1] at D1
  have HB1 := Lib.hid B1
  have HR : Hid (∀ w2, Below (w.heap.size + 1) (w.alloc (.cells #[.string ⟨#[]⟩, .int .u64 0] 28)) w2 → w2.cell? ⟨w.heap.size, 0, none⟩ = some (.string ⟨#[]⟩) ∧ w2.cell? ⟨w.heap.size, 1, none⟩ = some (.int .u64 0) ∧ w2.frozen? ⟨w.heap.size, 0, none⟩ = false ∧ w2.frozen? ⟨w.heap.size, 1, none⟩ = false ∧ w.heap.size < w2.heap.size) := Lib.hid fun w2 hb =>
    ⟨(hb.cell (p := ⟨w.heap.size, 0, none⟩) (by simp)).trans r0, (hb.cell (p := ⟨w.heap.size, 1, none⟩) (by simp)).trans r1, (hb.frozen (p := ⟨w.heap.size, 0, none⟩) (by simp)).trans r2, (hb.frozen (p := ⟨w.heap.size, 1, none⟩) (by simp)).trans r3, by have := hb.size; omega⟩
  clear B1 s1 r0 r1 r2 r3
  go_enter Try.func11, Try.ntmps11
  go_wp2_with (go_at_call 16; (with_reducible refine D1.out.mono ?_); rintro r w2 ⟨rfl, hb2⟩; have HB2 := Lib.hid hb2; obtain ⟨x0, x1, x2, x3, x5⟩ := HR.out w2 hb2; clear hb2)
  have t0 : (((w2.setCell ⟨w.heap.size, 0, none⟩ (.string ByteArray.empty)).setCell ⟨w.heap.size, 1, none⟩ (.int .u64 0)).alloc (.cells #[.string ByteArray.empty, .int .u64 0] 28)).cell? ⟨w.heap.size, 0, none⟩ = some (.string ByteArray.empty) := by go_simp
  have t1 : (((w2.setCell ⟨w.heap.size, 0, none⟩ (.string ByteArray.empty)).setCell ⟨w.heap.size, 1, none⟩ (.int .u64 0)).alloc (.cells #[.string ByteArray.empty, .int .u64 0] 28)).cell? ⟨w.heap.size, 1, none⟩ = some (.int .u64 0) := by go_simp
  refine bodyPost_ret (results_ent rfl rfl t0 t1) rfl ⟨rfl, ?_⟩
  have hb2 : Below w.heap.size w ((w2.setCell ⟨w.heap.size, 0, none⟩ (.string ByteArray.empty)).setCell ⟨w.heap.size, 1, none⟩ (.int .u64 0)) := (((HB1.out.trans (HB2.out.mono (Nat.le_succ _))).setCell (p := ⟨w.heap.size, 0, none⟩) (Nat.le_refl _) _).setCell (p := ⟨w.heap.size, 1, none⟩) (Nat.le_refl _) _)
  exact hb2.alloc hb2.size _
theorem while_nil (A : Addr) (w : World) : Calls Try.prog 29 #[.func (.func 16) #[.pointer none] #[], .func (.func 11) #[.pointer none] #[], .func (.func 30) #[] #[.pointer (some A)]] w fun r w' => r = .returned (.slice none 0 0) ∧ Below w.heap.size w w' := by
  go_enter Try.func29, Try.ntmps29
  go_wp2_with (go_at_call 16; (with_reducible refine (front_nil _).mono ?_); rintro r w1 ⟨rfl, hb⟩; have HB := Lib.hid hb; clear hb)
  go_loopw [7, 8, 9] (fun o p b wr => ∃ E : Nat, o = .slice none 0 0 ∧ p = .pointer (some ⟨E, 0, none⟩) ∧ b = .bool false ∧ wr.cell? ⟨E, 0, none⟩ = some (.string ByteArray.empty) ∧ wr.cell? ⟨E, 1, none⟩ = some (.int .u64 0) ∧ Hid (Below w.heap.size w wr)) (fun _ _ _ _ => 0)
  case atStart => exact ⟨w1.heap.size, rfl, rfl, rfl, by go_simp, by go_simp, Lib.hid (HB.out.alloc HB.out.size _)⟩
  case round =>
    obtain ⟨E, rfl, rfl, rfl, c0, c1, hb⟩ := hrel
    go_wp2
    go_ret
    exact ⟨rfl, hb.out⟩
theorem ins_len (e : Ent) (S : List Ent) : (ins e S).length = S.length + 1 := (ins_perm e S).length_eq
theorem put_len (e : Ent) (S : List Ent) : (ins e (fltr e.nm S)).length ≤ S.length + 1 := by
  have := fltr_length e.nm S
  rw [ins_len]; omega
def eb : Ent := ⟨⟨#[98]⟩, 5⟩
def ea : Ent := ⟨⟨#[97]⟩, 5⟩
def ec : Ent := ⟨⟨#[99]⟩, 3⟩
def ec9 : Ent := ⟨⟨#[99]⟩, 9⟩
theorem al1 : (fnd ([] : List Ent) eb.nm).isSome = false := by kernel_rfl
theorem al2 : ins eb (fltr eb.nm []) = [eb] := by kernel_rfl
theorem al3 : ins ea (fltr ea.nm [eb]) = [ea, eb] := by kernel_rfl
theorem al4 : ins ec (fltr ec.nm [ea, eb]) = [ec, ea, eb] := by kernel_rfl
theorem al5 : ins ec9 (fltr ec9.nm [ec, ea, eb]) = [ea, eb, ec9] := by kernel_rfl
theorem al6 : (fnd [ea, eb] ec.nm).isSome = false := by kernel_rfl
theorem al7 : (fnd [ec, ea, eb] ec9.nm).isSome = true := by kernel_rfl
theorem al8 : (fnd [eb] ea.nm).isSome = false := by kernel_rfl
theorem alive_put {w : World} {q : Nat} {B : Nat → Prop} {S : List Ent} (h : Que w q B S) (hb : S.length ≤ 999999) (e : Ent) {b : Bool} {S' : List Ent} (h1 : (fnd S e.nm).isSome = b) (h2 : ins e (fltr e.nm S) = S') :
    Calls Try.prog 18 #[.pointer (some ⟨q, 0, none⟩), .string e.nm, .int .u64 e.tk] w fun r w' => r = .returned (.bool b) ∧ ∃ B', Que w' q B' S' ∧ Chg B B' w w' := by
  have := put_que h hb e
  rw [h1, h2] at this
  exact this

set_option maxHeartbeats 800000 in
theorem alive_true (w : World) : Calls Try.prog 14 #[] w fun r w' => r = .returned (.bool true) ∧ Below w.heap.size w w' := by
  go_enter Try.func14, Try.ntmps14
  go_wp2_with (first
    | (go_at_call 17; (with_reducible refine (new_que _).mono ?_); rintro r w1 ⟨q, B0, rfl, h1, b1, f1⟩
       have H1 := Lib.hid h1; have HB1 := Lib.hid b1; have HF1 := Lib.hid f1
       have D1 : Hid (Calls Try.prog 18 #[.pointer (some ⟨q, 0, none⟩), .string ⟨#[98]⟩, .int .u64 5] w1 fun r w' => r = .returned (.bool false) ∧ ∃ B', Que w' q B' [eb] ∧ Chg B0 B' w1 w') := Lib.hid (alive_put h1 (by simp) eb al1 al2)
       clear h1 b1 f1)
    | (go_at_call 18; (with_reducible refine D1.out.mono ?_); rintro r w2 ⟨rfl, B1, h2, c2⟩; have C2 := Lib.hid c2
       have D2 : Hid (Calls Try.prog 18 #[.pointer (some ⟨q, 0, none⟩), .string ⟨#[97]⟩, .int .u64 5] w2 fun r w' => r = .returned (.bool false) ∧ ∃ B', Que w' q B' [ea, eb] ∧ Chg B1 B' w2 w') := Lib.hid (alive_put h2 (by simp) ea al8 al3)
       clear h2 c2)
    | (go_at_call 18; (with_reducible refine D2.out.mono ?_); rintro r w3 ⟨rfl, B2, h3, c3⟩; have C3 := Lib.hid c3
       have D3 : Hid (Calls Try.prog 18 #[.pointer (some ⟨q, 0, none⟩), .string ⟨#[99]⟩, .int .u64 3] w3 fun r w' => r = .returned (.bool false) ∧ ∃ B', Que w' q B' [ec, ea, eb] ∧ Chg B2 B' w3 w') := Lib.hid (alive_put h3 (by simp) ec al6 al4)
       clear h3 c3)
    | (go_at_call 18; (with_reducible refine D3.out.mono ?_); rintro r w4 ⟨rfl, B3, h4, c4⟩; have C4 := Lib.hid c4
       have D4 : Hid (Calls Try.prog 18 #[.pointer (some ⟨q, 0, none⟩), .string ⟨#[99]⟩, .int .u64 9] w4 fun r w' => r = .returned (.bool true) ∧ ∃ B', Que w' q B' [ea, eb, ec9] ∧ Chg B3 B' w4 w') := Lib.hid (alive_put h4 (by simp) ec9 al7 al5)
       clear h4 c4)
    | (go_at_call 18; (with_reducible refine D4.out.mono ?_); rintro r w5 ⟨rfl, B4, h5, c5⟩; have C5 := Lib.hid c5
       have D5 : Hid (Calls Try.prog 11 #[.pointer (some ⟨q, 0, none⟩)] w5 fun r w' => r = .returned (.tuple #[.agg #[.string ⟨#[97]⟩, .int .u64 5], .bool true]) ∧ ∃ B', Que w' q B' [eb, ec9] ∧ Chg B4 B' w5 w') := Lib.hid (pop_que h5 (by simp))
       clear h5 c5)
    | (go_at_call 11; (with_reducible refine D5.out.mono ?_); rintro r w6 ⟨rfl, B5, h6, c6⟩; have C6 := Lib.hid c6; have H6 := Lib.hid h6
       clear h6 c6)
    | (go_at_call 10; (with_reducible refine (len_que (H6.out.below ((Below.refl _ w6).alloc (Nat.le_refl _) _))).mono ?_); rintro r w7 ⟨rfl, rfl⟩))
  go_ret
  have c := ((((C2.out.trans C3.out).trans C4.out).trans C5.out).trans C6.out).below (base := w.heap.size) HF1.out HB1.out.size
  have b := HB1.out.trans c
  exact ⟨rfl, b.alloc b.size _⟩
theorem due_nil (t : Int) (w : World) : Calls Try.prog 15 #[.pointer none, .int .u64 t] w fun r w' => r = .returned (.slice none 0 0) ∧ Below w.heap.size w w' := by
  go_enter Try.func15, Try.ntmps15
  go_wp2_with (go_at_call 29; (with_reducible refine (while_nil _ _).mono ?_); rintro r w1 ⟨rfl, hb⟩; have HB : Hid (Below w.heap.size w w1) := Lib.hid (((Below.refl _ w).alloc (Nat.le_refl _) _).trans (hb.mono (by simp))); clear hb)
  go_ret
  exact ⟨rfl, HB.out⟩
end Go.Proofs.Yticnckclmlejhaa

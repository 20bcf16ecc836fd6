/-
  The walks of layer 5: what each function of the calendar answers; behind each the world has at most new blocks.
-/
import Derived.Test.YtebapkbaheifgaaRows
import Derived.Test.YtebapkbaheifgaaPlain
import Derived.WalkKit
import Derived.WalkSpells
import Derived.Laws.Pointers
import Derived.BigQuiet
import Derived.Deep.RegionHeld3
import Derived.RowKit3
import Derived.Lib.Hide
namespace Go.Proofs.Ytebapkbaheifgaa
open Go.RowKit Cal




theorem add64 (x y c : Int) (hx : 0 ≤ x) (hy : 0 ≤ y) (hc0 : 0 ≤ c) (hc : c ≤ 1) (w : World) : (callFunc 20 #[.int .u64 x, .int .u64 y, .int .u64 c]).run Try.prog w =
    .ok (.value (.tuple #[.int .u64 ((x + y + c) % 18446744073709551616), .int .u64 ((x + y + c) / 18446744073709551616)])) w := by
  rw [run_callFunc_extern Try.func20 (by kernel_rfl) (by kernel_rfl) (by kernel_rfl) (e := add64Entry) (by kernel_rfl), run_add64 x y c hx hy hc0 hc]
  rfl
theorem add64_0 (x y : Int) (hx : 0 ≤ x) (hy : 0 ≤ y) (w : World) : (callFunc 20 #[.int .u64 x, .int .u64 y, .int .u64 0]).run Try.prog w =
    .ok (.value (.tuple #[.int .u64 ((x + y) % 18446744073709551616), .int .u64 ((x + y) / 18446744073709551616)])) w := by
  simpa using add64 x y 0 hx hy (Int.le_refl 0) (by decide) w

set_option maxHeartbeats 400000 in
theorem plus_any (a b : Int) (ha : Word a) (hb : Word b) (w : World) :
    Calls Try.prog 12 #[.int .u64 a, .int .u64 b] w fun e w' => e = .returned (.int .u64 (plusV a b)) ∧ Grown w w' := by
  obtain ⟨a1, a2⟩ := ha; obtain ⟨b1, b2⟩ := hb
  by_cases h : a + b < 18446744073709551616
  · have e0 : plusV a b = a + b := by unfold plusV; rw [if_pos h]
    have k0 : (a + b) / 18446744073709551616 = 0 := by omega
    have k1 : (a + b) % 18446744073709551616 = a + b := by omega
    rw [e0]; clear e0
    go_enter Try.func12, Try.ntmps12
    go_wp2_with (simp only [add64_0 a b a1 b1])
    go_ret
    exact ⟨rfl, Grown.refl _⟩
  · have e0 : plusV a b = 18446744073709551615 := by unfold plusV; rw [if_neg h]
    have k0 : 0 < (a + b) / 18446744073709551616 := by omega
    rw [e0]; clear e0
    go_enter Try.func12, Try.ntmps12
    go_wp2_with (simp only [add64_0 a b a1 b1])
    go_ret
    exact ⟨rfl, Grown.refl _⟩

set_option maxHeartbeats 400000 in
theorem steps_any (a e t : Int) (ha : Word a) (he : Word e) (ht : Word t) (w : World) :
    Calls Try.prog 19 #[.int .u64 a, .int .u64 e, .int .u64 t] w fun r w' => r = .returned (.agg #[.int .u64 (stC a e t), .int .u64 (stR a e t)]) ∧ Grown w w' := by
  obtain ⟨a1, a2⟩ := ha; obtain ⟨e1, e2⟩ := he; obtain ⟨t1, t2⟩ := ht
  by_cases h : t < a
  · have c1 : stC a e t = 0 := by unfold stC; rw [if_pos h]
    have c2 : stR a e t = 0 := by unfold stR; rw [if_pos h]
    rw [c1, c2]; clear c1 c2
    go_enter Try.func19, Try.ntmps19
    go_wp2
    simp [bodyPost, results, Try.results19, go_sem]
    (repeat (first | exact Grown.refl _ | apply Grown.drew | apply Grown.alloc | refine Grown.setCell ?_ (by simp) _))
  · by_cases h0 : e = 0
    · subst h0
      have c1 : stC a 0 t = 0 := by unfold stC; rw [if_neg h, if_pos rfl]
      have c2 : stR a 0 t = t - a := by unfold stR; rw [if_neg h, if_pos rfl]
      rw [c1, c2]; clear c1 c2
      go_enter Try.func19, Try.ntmps19
      go_wp2
      simp [bodyPost, results, Try.results19, go_sem]
      (repeat (first | exact Grown.refl _ | apply Grown.drew | apply Grown.alloc | refine Grown.setCell ?_ (by simp) _))
    · have c1 : stC a e t = (t - a) / e := by unfold stC; rw [if_neg h, if_neg h0]
      have c2 : stR a e t = (t - a) % e := by unfold stR; rw [if_neg h, if_neg h0]
      rw [c1, c2]; clear c1 c2
      go_enter Try.func19, Try.ntmps19
      go_wp2
      go_region
      all_goals (go_wp2; simp [bodyPost, results, Try.results19, go_sem])
      all_goals (repeat (first | exact Grown.refl _ | apply Grown.drew | apply Grown.alloc | refine Grown.setCell ?_ (by simp) _))

theorem trans {a b c : World} (h : Grown a b) (k : Grown b c) : Grown a c :=
  ⟨World.keptBut_trans h.1 k.1, fun x => (k.2.1 x).trans (h.2.1 x), Nat.le_trans h.2.2 k.2.2⟩

theorem idx0 (x y : Value) (w : World) : (Instr.index 23 (.agg #[x, y]) (.int .i64 0)).run Try.prog w = .ok x w := by kernel_rfl
theorem idx1 (x y : Value) (w : World) : (Instr.index 23 (.agg #[x, y]) (.int .i64 1)).run Try.prog w = .ok y w := by kernel_rfl

set_option maxHeartbeats 400000 in
theorem last_any (a e n : Int) (ha : Word a) (he : Word e) (hn : Word n) (w : World) :
    Calls Try.prog 9 #[.int .u64 a, .int .u64 e, .int .u64 n] w fun r w' => r = .returned (.tuple #[.int .u64 (lastV a e n), .bool (lastB a n)]) ∧ Grown w w' := by
  have S := steps_any a e n ha he hn
  obtain ⟨a1, a2⟩ := ha; obtain ⟨e1, e2⟩ := he; obtain ⟨n1, n2⟩ := hn
  by_cases h : n < a
  · have c1 : lastV a e n = 0 := by unfold lastV; rw [if_pos h]
    have c2 : lastB a n = false := by unfold lastB; simp; omega
    rw [c1, c2]; clear c1 c2 S
    go_enter Try.func9, Try.ntmps9
    go_wp2
    go_ret2
    exact ⟨rfl, Grown.refl _⟩
  · have c1 : lastV a e n = n - stR a e n := by unfold lastV; rw [if_neg h]
    have c2 : lastB a n = true := by unfold lastB; simp; omega
    have b := stR_bd a e n e1 (by omega)
    rw [c1, c2]; clear c1 c2
    have S' := Lib.hid S; clear S
    have i1 := idx1 (.int .u64 (stC a e n)) (.int .u64 (stR a e n))
    go_enter Try.func9, Try.ntmps9
    go_wp2_with (go_at_call 19; refine (S'.out _).mono ?_; rintro r w' ⟨rfl, hg⟩)
    go_ret2
    exact ⟨rfl, hg⟩

set_option maxHeartbeats 400000 in
theorem count_any (a e n : Int) (ha : Word a) (he : Word e) (hn : Word n) (w : World) :
    Calls Try.prog 10 #[.int .u64 a, .int .u64 e, .int .u64 n] w fun r w' => r = .returned (.int .u64 (countV a e n)) ∧ Grown w w' := by
  have S := steps_any a e n ha he hn
  obtain ⟨a1, a2⟩ := ha; obtain ⟨e1, e2⟩ := he; obtain ⟨n1, n2⟩ := hn
  by_cases h : n < a
  · have c1 : countV a e n = 0 := by unfold countV; rw [if_pos h]
    rw [c1]; clear c1 S
    go_enter Try.func10, Try.ntmps10
    go_wp2
    go_ret
    exact ⟨rfl, Grown.refl _⟩
  · have c1 : countV a e n = plusV (stC a e n) 1 := by unfold countV; rw [if_neg h]
    have b := stC_bd a e n e1 (by omega)
    rw [c1]; clear c1
    have S' := Lib.hid S; clear S
    have i0 := idx0 (.int .u64 (stC a e n)) (.int .u64 (stR a e n))
    go_enter Try.func10, Try.ntmps10
    go_wp2_with (first | (go_at_call 19; refine (S'.out _).mono ?_; rintro r w' ⟨rfl, hg⟩) | (go_at_call 12; refine (plus_any _ _ ⟨by omega, by omega⟩ ⟨by omega, by omega⟩ _).mono ?_; rintro r w2 ⟨rfl, hg2⟩))
    go_ret
    exact ⟨rfl, trans hg hg2⟩

set_option maxHeartbeats 400000 in
theorem next_any (a e n : Int) (ha : Word a) (he : Word e) (hn : Word n) (w : World) :
    Calls Try.prog 11 #[.int .u64 a, .int .u64 e, .int .u64 n] w fun r w' => r = .returned (.tuple #[.int .u64 (nextV a e n), .bool (nextB a e n)]) ∧ Grown w w' := by
  have S := last_any a e n ha he hn
  obtain ⟨a1, a2⟩ := ha; obtain ⟨e1, e2⟩ := he; obtain ⟨n1, n2⟩ := hn
  by_cases h : n < a
  · have c1 : nextV a e n = a := by unfold nextV; rw [if_pos h]
    have c2 : nextB a e n = true := by unfold nextB; simp [h]
    rw [c1, c2]; clear c1 c2 S
    go_enter Try.func11, Try.ntmps11
    go_wp2
    go_ret2
    exact ⟨rfl, Grown.refl _⟩
  · have l1 : lastV a e n = n - stR a e n := by unfold lastV; rw [if_neg h]
    have b := stR_bd a e n e1 (by omega)
    rw [l1] at S; clear l1
    have S' := Lib.hid S; clear S
    have z0 : 0 ≤ n - stR a e n := by omega
    by_cases h0 : e = 0
    · have c1 : nextV a e n = 0 := by unfold nextV; rw [if_neg h, if_neg (by simp [h0])]
      have c2 : nextB a e n = false := by unfold nextB; simp [h0]; omega
      rw [c1, c2]; clear c1 c2
      have h0' := Lib.hid h0; clear h0
      have h00 : (e == 0) = true := by rw [h0'.out]; rfl
      go_enter Try.func11, Try.ntmps11
      go_wp2_with (first | (go_at_call 9; refine (S'.out _).mono ?_; rintro r w' ⟨rfl, hg⟩) | simp only [add64_0 (n - stR a e n) e z0 e1])
      go_ret2
      exact ⟨rfl, hg⟩
    · have h00 : (e == 0) = false := by simp [h0]
      by_cases h1 : n - stR a e n + e < 18446744073709551616
      · have c1 : nextV a e n = n - stR a e n + e := by unfold nextV; rw [if_neg h, if_pos ⟨h0, h1⟩]
        have c2 : nextB a e n = true := by unfold nextB; simp [h0, h1]
        have k0 : (n - stR a e n + e) / 18446744073709551616 = 0 := by omega
        have k1 : (n - stR a e n + e) % 18446744073709551616 = n - stR a e n + e := by omega
        rw [c1, c2]; clear c1 c2
        go_enter Try.func11, Try.ntmps11
        go_wp2_with (first | (go_at_call 9; refine (S'.out _).mono ?_; rintro r w' ⟨rfl, hg⟩) | simp only [add64_0 (n - stR a e n) e z0 e1])
        go_ret2
        exact ⟨rfl, hg⟩
      · have c1 : nextV a e n = 0 := by unfold nextV; rw [if_neg h, if_neg (fun x => h1 x.2)]
        have c2 : nextB a e n = false := by unfold nextB; simp [h0]; omega
        have k0 : 0 < (n - stR a e n + e) / 18446744073709551616 := by omega
        rw [c1, c2]; clear c1 c2
        go_enter Try.func11, Try.ntmps11
        go_wp2_with (first | (go_at_call 9; refine (S'.out _).mono ?_; rintro r w' ⟨rfl, hg⟩) | simp only [add64_0 (n - stR a e n) e z0 e1])
        go_ret2
        exact ⟨rfl, hg⟩

set_option maxHeartbeats 400000 in
theorem index_any (a e n : Int) (ha : Word a) (he : Word e) (hn : Word n) (w : World) :
    Calls Try.prog 15 #[.int .u64 a, .int .u64 e, .int .u64 n] w fun r w' => r = .returned (.tuple #[.int .u64 (indexV a e n), .bool (indexB a e n)]) ∧ Grown w w' := by
  have S := steps_any a e n ha he hn
  obtain ⟨a1, a2⟩ := ha; obtain ⟨e1, e2⟩ := he; obtain ⟨n1, n2⟩ := hn
  have S' := Lib.hid S; clear S
  by_cases h : n < a
  · have c1 : indexV a e n = 0 := by unfold indexV; rw [if_neg (by omega)]
    have c2 : indexB a e n = false := by unfold indexB; simp; omega
    rw [c1, c2]; clear c1 c2
    go_enter Try.func15, Try.ntmps15
    go_wp2_with (go_at_call 19; refine (S'.out _).mono ?_; rintro r w' ⟨rfl, hg⟩)
    go_ret2
    exact ⟨rfl, ((hg.alloc _ _))⟩
  · have b := stR_bd a e n e1 (by omega)
    by_cases h0 : 0 < stR a e n
    · have c1 : indexV a e n = 0 := by unfold indexV; rw [if_neg (by omega)]
      have c2 : indexB a e n = false := by unfold indexB; simp; omega
      rw [c1, c2]; clear c1 c2
      go_enter Try.func15, Try.ntmps15
      go_wp2_with (go_at_call 19; refine (S'.out _).mono ?_; rintro r w' ⟨rfl, hg⟩)
      go_ret2
      exact ⟨rfl, ((hg.alloc _ _))⟩
    · have c1 : indexV a e n = stC a e n := by unfold indexV; rw [if_pos (by omega)]
      have c2 : indexB a e n = true := by unfold indexB; simp; omega
      rw [c1, c2]; clear c1 c2
      go_enter Try.func15, Try.ntmps15
      go_wp2_with (go_at_call 19; refine (S'.out _).mono ?_; rintro r w' ⟨rfl, hg⟩)
      go_ret2
      exact ⟨rfl, ((hg.alloc _ _))⟩
end Go.Proofs.Ytebapkbaheifgaa

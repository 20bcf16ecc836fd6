/-
  The walks of layer 5's reference, and of the live question: the same answers as the calendar's own functions.
-/
import Derived.Test.YtebapkbaheifgaaWalks
namespace Go.Proofs.Ytebapkbaheifgaa
open Go.RowKit Cal

set_option maxHeartbeats 400000 in
theorem rplus_any (a b : Int) (ha : Word a) (hb : Word b) (w : World) :
    Calls Try.prog 18 #[.int .u64 a, .int .u64 b] w fun e w' => e = .returned (.int .u64 (plusV a b)) ∧ Grown w w' := by
  obtain ⟨a1, a2⟩ := ha; obtain ⟨b1, b2⟩ := hb
  by_cases h : a + b < 18446744073709551616
  · have e0 : plusV a b = a + b := by unfold plusV; rw [if_pos h]
    rw [e0]; clear e0
    go_enter Try.func18, Try.ntmps18
    go_wp2
    go_ret
    exact ⟨rfl, Grown.refl _⟩
  · have e0 : plusV a b = 18446744073709551615 := by unfold plusV; rw [if_neg h]
    rw [e0]; clear e0
    go_enter Try.func18, Try.ntmps18
    go_wp2
    go_ret
    exact ⟨rfl, Grown.refl _⟩

set_option maxHeartbeats 400000 in
theorem rsteps_any (a e t : Int) (ha : Word a) (he : Word e) (ht : Word t) (hle : a ≤ t) (w : World) :
    Calls Try.prog 21 #[.int .u64 a, .int .u64 e, .int .u64 t] w fun r w' => r = .returned (.int .u64 (stC a e t)) ∧ Grown w w' := by
  obtain ⟨a1, a2⟩ := ha; obtain ⟨e1, e2⟩ := he; obtain ⟨t1, t2⟩ := ht
  by_cases h0 : e = 0
  · subst h0
    have c1 : stC a 0 t = 0 := by unfold stC; rw [if_neg (by omega), if_pos rfl]
    rw [c1]; clear c1
    go_enter Try.func21, Try.ntmps21
    go_wp2
    go_ret
    exact ⟨rfl, Grown.refl _⟩
  · have c1 : stC a e t = (t - a) / e := by unfold stC; rw [if_neg (by omega), if_neg h0]
    rw [c1]; clear c1
    go_enter Try.func21, Try.ntmps21
    go_wp2
    go_ret
    exact ⟨rfl, Grown.refl _⟩

/-- What a tick's literal says. -/
theorem word_of {a : Int} (h : (Lit.int .u64 a).wf = true) : Word a := by
  simp [Lit.wf, IntKind.min, IntKind.max, IntKind.signed, IntKind.bits] at h
  unfold Word
  omega

theorem ret_int2 {k : IntKind} {a b : Int} {c : Bool} (h : a = b) : Ending.returned (.tuple #[.int k a, .bool c]) = .returned (.tuple #[.int k b, .bool c]) := by rw [h]

set_option maxHeartbeats 400000 in
theorem rlast_any (a e n : Int) (ha : Word a) (he : Word e) (hn : Word n) (w : World) :
    Calls Try.prog 14 #[.int .u64 a, .int .u64 e, .int .u64 n] w fun r w' => r = .returned (.tuple #[.int .u64 (lastV a e n), .bool (lastB a n)]) ∧ Grown w w' := by
  by_cases h : n < a
  · have c1 : lastV a e n = 0 := by unfold lastV; rw [if_pos h]
    have c2 : lastB a n = false := by unfold lastB; simp; omega
    rw [c1, c2]; clear c1 c2
    go_enter Try.func14, Try.ntmps14
    go_wp2
    go_ret2
    exact ⟨rfl, Grown.refl _⟩
  · have S := rsteps_any a e n ha he hn (by omega)
    obtain ⟨a1, a2⟩ := ha; obtain ⟨e1, e2⟩ := he; obtain ⟨n1, n2⟩ := hn
    have c1 : lastV a e n = n - stR a e n := by unfold lastV; rw [if_neg h]
    have c2 : lastB a n = true := by unfold lastB; simp; omega
    have b := stR_bd a e n e1 (by omega)
    have b2 := stC_bd a e n e1 (by omega)
    have s := st_sum a e n (by omega)
    have m1 : 0 ≤ e * stC a e n := by omega
    have m2 : e * stC a e n ≤ n - a := by omega
    have H : Hid (a + e * stC a e n = n - stR a e n) := Lib.hid (by omega)
    rw [c1, c2]; clear c1 c2 s
    have S' := Lib.hid S; clear S
    go_enter Try.func14, Try.ntmps14
    go_wp2_with (go_at_call 21; refine (S'.out _).mono ?_; rintro r w' ⟨rfl, hg⟩)
    go_ret2
    exact ⟨ret_int2 H.out, hg⟩

set_option maxHeartbeats 400000 in
theorem rcount_any (a e n : Int) (ha : Word a) (he : Word e) (hn : Word n) (w : World) :
    Calls Try.prog 17 #[.int .u64 a, .int .u64 e, .int .u64 n] w fun r w' => r = .returned (.int .u64 (countV a e n)) ∧ Grown w w' := by
  by_cases h : n < a
  · have c1 : countV a e n = 0 := by unfold countV; rw [if_pos h]
    rw [c1]; clear c1
    go_enter Try.func17, Try.ntmps17
    go_wp2
    go_ret
    exact ⟨rfl, Grown.refl _⟩
  · have S := rsteps_any a e n ha he hn (by omega)
    obtain ⟨a1, a2⟩ := ha; obtain ⟨e1, e2⟩ := he; obtain ⟨n1, n2⟩ := hn
    have b2 := stC_bd a e n e1 (by omega)
    have S' := Lib.hid S; clear S
    by_cases h1 : stC a e n = 18446744073709551615
    · have c1 : countV a e n = 18446744073709551615 := by unfold countV plusV; rw [if_neg h, if_neg (by omega)]
      rw [c1]; clear c1
      have q : (stC a e n == 18446744073709551615) = true := by rw [h1]; rfl
      clear h1
      go_enter Try.func17, Try.ntmps17
      go_wp2_with (go_at_call 21; refine (S'.out _).mono ?_; rintro r w' ⟨rfl, hg⟩)
      go_ret
      exact ⟨rfl, hg⟩
    · have c1 : countV a e n = stC a e n + 1 := by unfold countV plusV; rw [if_neg h, if_pos (by omega)]
      rw [c1]; clear c1
      have q : (stC a e n == 18446744073709551615) = false := by simp [h1]
      have b3 : stC a e n + 1 ≤ 18446744073709551615 := by omega
      go_enter Try.func17, Try.ntmps17
      go_wp2_with (go_at_call 21; refine (S'.out _).mono ?_; rintro r w' ⟨rfl, hg⟩)
      go_ret
      exact ⟨rfl, hg⟩

set_option maxHeartbeats 400000 in
theorem rnext_any (a e n : Int) (ha : Word a) (he : Word e) (hn : Word n) (w : World) :
    Calls Try.prog 13 #[.int .u64 a, .int .u64 e, .int .u64 n] w fun r w' => r = .returned (.tuple #[.int .u64 (nextV a e n), .bool (nextB a e n)]) ∧ Grown w w' := by
  by_cases h : n < a
  · have c1 : nextV a e n = a := by unfold nextV; rw [if_pos h]
    have c2 : nextB a e n = true := by unfold nextB; simp [h]
    rw [c1, c2]; clear c1 c2
    go_enter Try.func13, Try.ntmps13
    go_wp2
    go_ret2
    exact ⟨rfl, Grown.refl _⟩
  · have S := rsteps_any a e n ha he hn (by omega)
    obtain ⟨a1, a2⟩ := ha; obtain ⟨e1, e2⟩ := he; obtain ⟨n1, n2⟩ := hn
    have b := stR_bd a e n e1 (by omega)
    have b2 := stC_bd a e n e1 (by omega)
    have s := st_sum a e n (by omega)
    have m1 : 0 ≤ e * stC a e n := by omega
    have m2 : e * stC a e n ≤ n - a := by omega
    have H : Hid (a + e * stC a e n = n - stR a e n) := Lib.hid (by omega)
    have S' := Lib.hid S; clear S
    by_cases h0 : e = 0
    · have c1 : nextV a e n = 0 := by unfold nextV; rw [if_neg h, if_neg (by simp [h0])]
      have c2 : nextB a e n = false := by unfold nextB; simp [h0]; omega
      rw [c1, c2]; clear c1 c2 s
      have h0' := Lib.hid h0; clear h0
      have h00 : (e == 0) = true := by rw [h0'.out]; rfl
      go_enter Try.func13, Try.ntmps13
      go_wp2_with (go_at_call 21; refine (S'.out _).mono ?_; rintro r w' ⟨rfl, hg⟩)
      go_ret2
      exact ⟨rfl, hg⟩
    · have h00 : (e == 0) = false := by simp [h0]
      by_cases h1 : n - stR a e n + e < 18446744073709551616
      · have c1 : nextV a e n = n - stR a e n + e := by unfold nextV; rw [if_neg h, if_pos ⟨h0, h1⟩]
        have c2 : nextB a e n = true := by unfold nextB; simp [h0, h1]
        have k0 : a + e * stC a e n + e < 18446744073709551616 := by omega
        have H2 : Hid (a + e * stC a e n + e = n - stR a e n + e) := Lib.hid (by omega)
        rw [c1, c2]; clear c1 c2 s h1
        go_enter Try.func13, Try.ntmps13
        go_wp2_with (go_at_call 21; refine (S'.out _).mono ?_; rintro r w' ⟨rfl, hg⟩)
        go_ret2
        exact ⟨ret_int2 H2.out, hg⟩
      · have c1 : nextV a e n = 0 := by unfold nextV; rw [if_neg h, if_neg (fun x => h1 x.2)]
        have c2 : nextB a e n = false := by unfold nextB; simp [h0]; omega
        have k0 : 18446744073709551616 ≤ a + e * stC a e n + e := by omega
        rw [c1, c2]; clear c1 c2 s h1
        go_enter Try.func13, Try.ntmps13
        go_wp2_with (go_at_call 21; refine (S'.out _).mono ?_; rintro r w' ⟨rfl, hg⟩)
        go_ret2
        exact ⟨rfl, hg⟩

set_option maxHeartbeats 400000 in
theorem rindex_any (a e n : Int) (ha : Word a) (he : Word e) (hn : Word n) (w : World) :
    Calls Try.prog 16 #[.int .u64 a, .int .u64 e, .int .u64 n] w fun r w' => r = .returned (.tuple #[.int .u64 (indexV a e n), .bool (indexB a e n)]) ∧ Grown w w' := by
  obtain ⟨a1, a2⟩ := ha; obtain ⟨e1, e2⟩ := he; obtain ⟨n1, n2⟩ := hn
  by_cases h : n < a
  · have c1 : indexV a e n = 0 := by unfold indexV; rw [if_neg (by omega)]
    have c2 : indexB a e n = false := by unfold indexB; simp; omega
    rw [c1, c2]; clear c1 c2
    go_enter Try.func16, Try.ntmps16
    go_wp2
    go_ret2
    exact ⟨rfl, Grown.refl _⟩
  · by_cases h0 : e = 0
    · have r0 : stR a e n = n - a := by unfold stR; rw [if_neg h, if_pos h0]
      have r1 : stC a e n = 0 := by unfold stC; rw [if_neg h, if_pos h0]
      by_cases h1 : n = a
      · have c1 : indexV a e n = 0 := by unfold indexV; rw [if_pos (by omega), r1]
        have c2 : indexB a e n = true := by unfold indexB; simp; omega
        rw [c1, c2]; clear c1 c2 r0 r1
        subst h0 h1
        go_enter Try.func16, Try.ntmps16
        go_wp2
        go_ret2
        exact ⟨rfl, Grown.refl _⟩
      · have c1 : indexV a e n = 0 := by unfold indexV; rw [if_neg (by omega)]
        have c2 : indexB a e n = false := by unfold indexB; simp; omega
        rw [c1, c2]; clear c1 c2 r0 r1
        subst h0
        have q : a < n := by omega
        have q2 : (n == a) = false := by simp [h1]
        have q3 : (n != a) = true := by simp [h1]
        go_enter Try.func16, Try.ntmps16
        go_wp2
        go_ret2
        exact ⟨rfl, Grown.refl _⟩
    · have r0 : stR a e n = (n - a) % e := by unfold stR; rw [if_neg h, if_neg h0]
      have r1 : stC a e n = (n - a) / e := by unfold stC; rw [if_neg h, if_neg h0]
      have q : (e == 0) = false := by simp [h0]
      by_cases h1 : (n - a) % e = 0
      · have c1 : indexV a e n = (n - a) / e := by unfold indexV; rw [if_pos (by omega), r1]
        have c2 : indexB a e n = true := by unfold indexB; simp; omega
        rw [c1, c2]; clear c1 c2 r0 r1
        have q2 : ((n - a) % e == 0) = true := by simp [h1]
        have q3 : ((n - a) % e != 0) = false := by simp [h1]
        clear h1
        go_enter Try.func16, Try.ntmps16
        go_wp2
        go_ret2
        exact ⟨rfl, Grown.refl _⟩
      · have c1 : indexV a e n = 0 := by unfold indexV; rw [if_neg (by omega)]
        have c2 : indexB a e n = false := by unfold indexB; simp; omega
        rw [c1, c2]; clear c1 c2 r0 r1
        have q2 : ((n - a) % e == 0) = false := by simp [h1]
        have q3 : ((n - a) % e != 0) = true := by simp [h1]
        go_enter Try.func16, Try.ntmps16
        go_wp2
        go_ret2
        exact ⟨rfl, Grown.refl _⟩

set_option maxHeartbeats 400000 in
theorem alive_any (w : World) : Calls Try.prog 8 #[] w fun r w' => r = .returned (.bool true) ∧ Grown w w' := by
  have n1 : nextV 5 3 11 = 14 := by decide
  have n2 : nextB 5 3 11 = true := by decide
  have n3 : countV 5 3 11 = 3 := by decide
  have n4 : plusV 18446744073709551615 1 = 18446744073709551615 := by decide
  have N := next_any 5 3 11 ⟨by decide, by decide⟩ ⟨by decide, by decide⟩ ⟨by decide, by decide⟩
  have C := count_any 5 3 11 ⟨by decide, by decide⟩ ⟨by decide, by decide⟩ ⟨by decide, by decide⟩
  have P := plus_any 18446744073709551615 1 ⟨by decide, by decide⟩ ⟨by decide, by decide⟩
  rw [n1, n2] at N; rw [n3] at C; rw [n4] at P; clear n1 n2 n3 n4
  have N' := Lib.hid N; have C' := Lib.hid C; have P' := Lib.hid P; clear N C P
  go_enter Try.func8, Try.ntmps8
  go_wp2_with (first | (go_at_call 11; refine (N'.out _).mono ?_; rintro r w1 ⟨rfl, hg1⟩) | (go_at_call 10; refine (C'.out _).mono ?_; rintro r w2 ⟨rfl, hg2⟩) | (go_at_call 12; refine (P'.out _).mono ?_; rintro r w3 ⟨rfl, hg3⟩))
  go_ret
  exact ⟨rfl, trans (trans hg1 hg2) hg3⟩
end Go.Proofs.Ytebapkbaheifgaa

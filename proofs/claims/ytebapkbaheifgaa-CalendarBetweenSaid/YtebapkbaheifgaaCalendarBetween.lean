/-
  CalendarBetween returns true for every deadline, period and tick, and leaves them as they were; no condition.
-/
import Derived.Test.YtebapkbaheifgaaRows
import Derived.Test.YtebapkbaheifgaaRefs
import Derived.Test.YtebapkbaheifgaaPlainB
import Derived.WalkKit
import Derived.ProofKit
import Derived.OpenShut
namespace Go.Proofs.Ytebapkbaheifgaa.calendarBetween
open Go.ChangeShapes Go.WideShapes Go.ChangeAt Go.RowKit
set_option linter.unusedVariables false      -- a walk need not use every 'w<i>' (that an integer argument fits its kind)

theorem own : ownKnob Try.prog.godebug = none := by kernel_rfl

/-! ### STEP 1: THE WALK: the Go text returns true. 'Grown w w'': the world has at most new blocks (Derived/RowKit3.lean). Part the cases AHEAD of 'go_enter' where a test parts the walk; take each callee by a contract of your own. -/
open Go.Proofs.Ytebapkbaheifgaa Cal in
set_option maxHeartbeats 400000 in
theorem walk (a0 : Int) (a1 : Int) (a2 : Int) (w0 : (Lit.int .u64 a0).wf = true) (w1 : (Lit.int .u64 a1).wf = true) (w2 : (Lit.int .u64 a2).wf = true) (w : World) :
    Calls Try.prog 6 #[.int .u64 a0, .int .u64 a1, .int .u64 a2] w fun e w' => e = .returned (.bool true) ∧ Grown w w' := by
  have k0 := word_of w0; have k1 := word_of w1; have k2 := word_of w2
  have L := last_any a0 a1 a2 k0 k1 k2
  have N := next_any a0 a1 a2 k0 k1 k2
  have I := index_any a0 a1 (lastV a0 a1 a2) k0 k1 (word_last a0 a1 a2 k0 k1 k2)
  have J := index_any a0 a1 (nextV a0 a1 a2) k0 k1 (word_next a0 a1 a2 k0 k1 k2)
  have C := count_any a0 a1 a2 k0 k1 k2
  have wI := word_stC a0 a1 a2 k0 k1 k2
  clear w0 w1 w2
  obtain ⟨p0, q0⟩ := k0; obtain ⟨p1, q1⟩ := k1; obtain ⟨p2, q2⟩ := k2
  by_cases h : a2 < a0
  · have l1 : lastV a0 a1 a2 = 0 := by unfold lastV; rw [if_pos h]
    have l2 : lastB a0 a2 = false := by unfold lastB; simp; omega
    have n1 : nextV a0 a1 a2 = a0 := by unfold nextV; rw [if_pos h]
    have n2 : nextB a0 a1 a2 = true := by unfold nextB; simp [h]
    have c1 := count_lt a0 a1 a2 h
    have j1 : indexV a0 a1 a0 = 0 := by unfold indexV; rw [if_pos ⟨by omega, stR_self a0 a1⟩, stC_self]
    have j2 : indexB a0 a1 a0 = true := by unfold indexB; simp [stR_self]
    rw [l1, l2] at L; rw [n1, n2] at N; rw [l1] at I; rw [n1, j1, j2] at J; rw [c1] at C
    clear l1 l2 n1 n2 c1 j1 j2 wI
    have L' := Lib.hid L; have N' := Lib.hid N; have I' := Lib.hid I; have J' := Lib.hid J; have C' := Lib.hid C; clear L N I J C
    go_enter Try.func6, Try.ntmps6
    go_wp2_with (first | (go_at_call 9; (with_reducible refine (L'.out _).mono ?_); rintro r x1 ⟨rfl, g1⟩) | (go_at_call 11; (with_reducible refine (N'.out _).mono ?_); rintro r x2 ⟨rfl, g2⟩) | (go_at_call 15; (with_reducible refine (I'.out _).mono ?_); rintro r x3 ⟨rfl, g3⟩) | (go_at_call 15; (with_reducible refine (J'.out _).mono ?_); rintro r x4 ⟨rfl, g4⟩) | (go_at_call 10; (with_reducible refine (C'.out _).mono ?_); rintro r x5 ⟨rfl, g5⟩) | (go_at_call 8; refine (alive_any _).mono ?_; rintro r x6 ⟨rfl, g6⟩))
    go_ret
    exact ⟨rfl, by repeat (first | exact Grown.refl _ | assumption | refine Go.Proofs.Ytebapkbaheifgaa.trans ?_ (by assumption))⟩
  · have l1 : lastV a0 a1 a2 = a2 - stR a0 a1 a2 := by unfold lastV; rw [if_neg h]
    have l2 : lastB a0 a2 = true := by unfold lastB; simp; omega
    have sl := st_last a0 a1 a2 p1 (by omega)
    have b := stR_bd a0 a1 a2 p1 (by omega)
    have c1 := count_ge a0 a1 a2 (by omega)
    have i1 : indexV a0 a1 (a2 - stR a0 a1 a2) = stC a0 a1 a2 := by unfold indexV; rw [if_pos ⟨by omega, sl.2⟩, sl.1]
    have i2 : indexB a0 a1 (a2 - stR a0 a1 a2) = true := by unfold indexB; rw [sl.2]; simp; omega
    rw [l1, l2] at L; rw [l1, i1, i2] at I; rw [c1] at C
    clear l1 l2 c1 i1 i2 sl
    obtain ⟨u0, u1⟩ := wI
    by_cases hn : a1 ≠ 0 ∧ a2 - stR a0 a1 a2 + a1 < 18446744073709551616
    · have n1 : nextV a0 a1 a2 = a2 - stR a0 a1 a2 + a1 := by unfold nextV; rw [if_neg h, if_pos hn]
      have n2 : nextB a0 a1 a2 = true := by unfold nextB; simp [hn.1, hn.2]
      have sn := st_next a0 a1 a2 (by omega) (by omega)
      have sm := st_sum a0 a1 a2 (by omega)
      have lt := stR_lt a0 a1 a2 (by omega) (by omega)
      have e1 : stC a0 a1 a2 ≤ a1 * stC a0 a1 a2 := by
        have := Int.mul_le_mul_of_nonneg_right (show 1 ≤ a1 by omega) u0
        omega
      have v1 : stC a0 a1 a2 + 1 < 18446744073709551616 := by omega
      have j1 : indexV a0 a1 (a2 - stR a0 a1 a2 + a1) = stC a0 a1 a2 + 1 := by unfold indexV; rw [if_pos ⟨by omega, sn.2⟩, sn.1]
      have j2 : indexB a0 a1 (a2 - stR a0 a1 a2 + a1) = true := by unfold indexB; rw [sn.2]; simp; omega
      have pl : plusV (stC a0 a1 a2) 1 = stC a0 a1 a2 + 1 := by unfold plusV; rw [if_pos v1]
      rw [n1, n2] at N; rw [n1, j1, j2] at J; rw [pl] at C
      clear n1 n2 j1 j2 pl sn sm e1
      obtain ⟨hn1, hn2⟩ := hn
      generalize stR a0 a1 a2 = R at *
      generalize stC a0 a1 a2 = K at *
      have z1 : a2 - R ≤ a2 := by omega
      have z2 : a0 ≤ a2 - R := by omega
      have z3 : a2 < a2 - R + a1 := by omega
      have z4 : a2 - R + a1 - (a2 - R) = a1 := by omega
      clear z4
      have L' := Lib.hid L; have N' := Lib.hid N; have I' := Lib.hid I; have J' := Lib.hid J; have C' := Lib.hid C; clear L N I J C
      go_enter Try.func6, Try.ntmps6
      go_wp2_with (first | (go_at_call 9; (with_reducible refine (L'.out _).mono ?_); rintro r x1 ⟨rfl, g1⟩) | (go_at_call 11; (with_reducible refine (N'.out _).mono ?_); rintro r x2 ⟨rfl, g2⟩) | (go_at_call 15; (with_reducible refine (I'.out _).mono ?_); rintro r x3 ⟨rfl, g3⟩) | (go_at_call 15; (with_reducible refine (J'.out _).mono ?_); rintro r x4 ⟨rfl, g4⟩) | (go_at_call 10; (with_reducible refine (C'.out _).mono ?_); rintro r x5 ⟨rfl, g5⟩) | (go_at_call 8; refine (alive_any _).mono ?_; rintro r x6 ⟨rfl, g6⟩))
      go_ret
      exact ⟨rfl, by repeat (first | exact Grown.refl _ | assumption | refine Go.Proofs.Ytebapkbaheifgaa.trans ?_ (by assumption))⟩
    · have n1 : nextV a0 a1 a2 = 0 := by unfold nextV; rw [if_neg h, if_neg hn]
      have n2 : nextB a0 a1 a2 = false := by unfold nextB; simp [h]; omega
      rw [n1, n2] at N; rw [n1] at J
      clear n1 n2
      generalize stR a0 a1 a2 = R at *
      generalize stC a0 a1 a2 = K at *
      have z1 : a2 - R ≤ a2 := by omega
      have z2 : a0 ≤ a2 - R := by omega
      clear hn
      by_cases hk : K + 1 < 18446744073709551616
      · have pl : plusV K 1 = K + 1 := by unfold plusV; rw [if_pos hk]
        rw [pl] at C; clear pl
        have L' := Lib.hid L; have N' := Lib.hid N; have I' := Lib.hid I; have J' := Lib.hid J; have C' := Lib.hid C; clear L N I J C
        go_enter Try.func6, Try.ntmps6
        go_wp2_with (first | (go_at_call 9; (with_reducible refine (L'.out _).mono ?_); rintro r x1 ⟨rfl, g1⟩) | (go_at_call 11; (with_reducible refine (N'.out _).mono ?_); rintro r x2 ⟨rfl, g2⟩) | (go_at_call 15; (with_reducible refine (I'.out _).mono ?_); rintro r x3 ⟨rfl, g3⟩) | (go_at_call 15; (with_reducible refine (J'.out _).mono ?_); rintro r x4 ⟨rfl, g4⟩) | (go_at_call 10; (with_reducible refine (C'.out _).mono ?_); rintro r x5 ⟨rfl, g5⟩) | (go_at_call 8; refine (alive_any _).mono ?_; rintro r x6 ⟨rfl, g6⟩))
        go_ret
        exact ⟨rfl, by repeat (first | exact Grown.refl _ | assumption | refine Go.Proofs.Ytebapkbaheifgaa.trans ?_ (by assumption))⟩
      · have pl : plusV K 1 = 18446744073709551615 := by unfold plusV; rw [if_neg hk]
        rw [pl] at C; clear pl
        obtain rfl : K = 18446744073709551615 := by omega
        clear hk u0 u1
        have L' := Lib.hid L; have N' := Lib.hid N; have I' := Lib.hid I; have J' := Lib.hid J; have C' := Lib.hid C; clear L N I J C
        go_enter Try.func6, Try.ntmps6
        go_wp2_with (first | (go_at_call 9; (with_reducible refine (L'.out _).mono ?_); rintro r x1 ⟨rfl, g1⟩) | (go_at_call 11; (with_reducible refine (N'.out _).mono ?_); rintro r x2 ⟨rfl, g2⟩) | (go_at_call 15; (with_reducible refine (I'.out _).mono ?_); rintro r x3 ⟨rfl, g3⟩) | (go_at_call 15; (with_reducible refine (J'.out _).mono ?_); rintro r x4 ⟨rfl, g4⟩) | (go_at_call 10; (with_reducible refine (C'.out _).mono ?_); rintro r x5 ⟨rfl, g5⟩) | (go_at_call 8; refine (alive_any _).mono ?_; rintro r x6 ⟨rfl, g6⟩))
        go_ret
        exact ⟨rfl, by repeat (first | exact Grown.refl _ | assumption | refine Go.Proofs.Ytebapkbaheifgaa.trans ?_ (by assumption))⟩

/-! ### THE ROW's STEP: WRITTEN OUT: LEAVE IT -/
set_option maxRecDepth 100000 in
theorem lifted (os : Os) (started : os.Started) (H : Type) (enc : TypeId × Value → H) :
    ReturnsInHanded {} Try.checked os 6 .any (Rows.calendarBetweenSpec.pre6 enc Try.prog Try.f6 Rows.calendarBetweenRow.domain false) (Rows.calendarBetweenSpec.post enc Try.prog Try.f6 false true false false) := by
  refine returnsInHanded_of_change (C := Try.checked) own started (by kernel_rfl) Try.func6
    (ChangeSpec.witness6 (enc := enc) (C := Try.checked) false ⟨#[], #[.int .u64 0, .int .u64 0, .int .u64 0], []⟩ 8 (by kernel_rfl) (by kernel_rfl) (by kernel_rfl) (by kernel_rfl)) ?_
  intro W base args ds gs before hval0 hW hcnd _
  have hval : ∀ (j : Nat) t v, Try.f6.params[j]? = some t → args[j]? = some v → Value.okWide Try.prog W .any base t v := hval0
  have hW' := hW
  obtain ⟨p, q, hA0, hV, rfl, hfz, hnd⟩ := hW
  have hA : DataW.TrodAll enc Try.prog W 0 (fun _ => true) true Try.f6.params.toList args.toList ds p := hA0
  rw [Try.params6] at hA hval
  obtain ⟨v0, vs0, d0, ds0, p0, q0, hargs, rfl, rfl, h0, r0⟩ := trodAll_cons hA
  obtain ⟨v1, vs1, d1, ds1, p1, q1, rfl, rfl, rfl, h1, r1⟩ := trodAll_cons r0
  obtain ⟨v2, vs2, d2, ds2, p2, q2, rfl, rfl, rfl, h2, r2⟩ := trodAll_cons r1
  obtain ⟨rfl, rfl, rfl⟩ := trodAll_nil r2
  obtain rfl : args = #[v0, v1, v2] := by cases args; simp_all
  obtain ⟨rfl, rfl⟩ := trodVars_none hV
  obtain ⟨a0, rfl, rfl, rfl, w0⟩ := open_int Try.underlying22 (hval 0 22 v0 rfl rfl) h0
  obtain ⟨a1, rfl, rfl, rfl, w1⟩ := open_int Try.underlying22 (hval 1 22 v1 rfl rfl) h1
  obtain ⟨a2, rfl, rfl, rfl, w2⟩ := open_int Try.underlying22 (hval 2 22 v2 rfl rfl) h2
  clear hA0 hval0
  simp only [List.append_nil] at hW'
  refine (walk a0 a1 a2 w0 w1 w2 W).mono fun e W' ⟨he, hg⟩ => ?_
  subst he
  exact ⟨_, rfl, post_of_same (pa := []) (pv := []) hW' (fun _ _ _ => (trodAll_cons_mk (shut_bool Try.underlying4 _) trodAll_mk0)) (fun sp _ => (trodAll_cons_mk (shut_int Try.underlying22 w0) (trodAll_cons_mk (shut_int Try.underlying22 w1) (trodAll_cons_mk (shut_int Try.underlying22 w2) trodAll_mk0)))) (fun _ _ => rfl) rfl
    (hg.frame _) hg.2.1 (ok_one (by kernel_rfl) rfl (okWide_bool_mk Try.underlying4 _))⟩

theorem over : Rows.calendarBetweenRow.holds Try.pinned (OpenSpec.ofChange Rows.calendarBetweenSpec) :=
  OpenClaim.holds_of_wide 6 Try.f6 rfl rfl rfl rfl rfl rfl rfl ⟨rfl, rfl, rfl, rfl, rfl⟩ rfl rfl rfl rfl rfl (by kernel_rfl) Try.func6 (by kernel_rfl)
    (of_decide_eq_true (by kernel_rfl)) (by unfold Func.isWrapper; first | (rw [if_pos (by decide +kernel)]; kernel_rfl) | (rw [if_neg (by decide +kernel)]; exact ⟨rfl, rfl⟩))
    (fun os started H enc _ => lifted os started H enc)

/-- ████ THE STATEMENT ████ -/
theorem proved : Rows.CalendarBetweenSaid :=
  over
#print axioms proved
end Go.Proofs.Ytebapkbaheifgaa.calendarBetween

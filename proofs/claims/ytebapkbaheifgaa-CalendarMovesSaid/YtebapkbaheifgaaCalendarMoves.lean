/-
  CalendarMoves returns true for every deadline, period, tick and shift, and leaves them as they were; no condition.
-/
import Derived.Test.YtebapkbaheifgaaRows
import Derived.Test.YtebapkbaheifgaaRefs
import Derived.Test.YtebapkbaheifgaaPlainB
import Derived.Test.YtebapkbaheifgaaPair
import Derived.WalkKit
import Derived.ProofKit
import Derived.OpenShut
namespace Go.Proofs.Ytebapkbaheifgaa.calendarMoves
open Go.ChangeShapes Go.WideShapes Go.ChangeAt Go.RowKit
set_option linter.unusedVariables false      -- a walk need not use every 'w<i>' (that an integer argument fits its kind)

theorem own : ownKnob Try.prog.godebug = none := by kernel_rfl

/-! ### STEP 1: THE WALK: the Go text returns true. 'Grown w w'': the world has at most new blocks (Derived/RowKit3.lean). Part the cases AHEAD of 'go_enter' where a test parts the walk; take each callee by a contract of your own. -/
open Go.Proofs.Ytebapkbaheifgaa Cal in
set_option maxHeartbeats 800000 in
theorem walk (a0 : Int) (a1 : Int) (b0 b1 : Int) (w0 : (Lit.int .u64 a0).wf = true) (w1 : (Lit.int .u64 a1).wf = true) (w2 : (Lit.int .u64 b0).wf = true) (w3 : (Lit.int .u64 b1).wf = true) (w : World) :
    Calls Try.prog 3 #[.int .u64 a0, .int .u64 a1, .agg #[.int .u64 b0, .int .u64 b1]] w fun e w' => e = .returned (.bool true) ∧ Grown w w' := by
  have k0 := word_of w0; have k1 := word_of w1; have k2 := word_of w2; have k3 := word_of w3
  clear w0 w1 w2 w3
  obtain ⟨p0, q0⟩ := k0; obtain ⟨p1, q1⟩ := k1; obtain ⟨p2, q2⟩ := k2; obtain ⟨p3, q3⟩ := k3
  by_cases h1 : 18446744073709551615 - a0 < b1
  · go_enter Try.func3, Try.ntmps3
    go_wp2_with (go_at_call 8; refine (alive_any _).mono ?_; rintro r x7 ⟨rfl, g7⟩)
    go_ret
    exact ⟨rfl, by repeat (first | exact Grown.refl _ | assumption | refine Go.Proofs.Ytebapkbaheifgaa.trans ?_ (by assumption) | apply Grown.alloc)⟩
  by_cases h2 : 18446744073709551615 - b0 < b1
  · go_enter Try.func3, Try.ntmps3
    go_wp2_with (go_at_call 8; refine (alive_any _).mono ?_; rintro r x7 ⟨rfl, g7⟩)
    go_ret
    exact ⟨rfl, by repeat (first | exact Grown.refl _ | assumption | refine Go.Proofs.Ytebapkbaheifgaa.trans ?_ (by assumption) | apply Grown.alloc)⟩
  have L1 := last_any a0 a1 b0 ⟨p0, q0⟩ ⟨p1, q1⟩ ⟨p2, q2⟩
  have L2 := last_any (a0 + b1) a1 (b0 + b1) ⟨by omega, by omega⟩ ⟨p1, q1⟩ ⟨by omega, by omega⟩
  have C1 := count_any a0 a1 b0 ⟨p0, q0⟩ ⟨p1, q1⟩ ⟨p2, q2⟩
  have C2 := count_any (a0 + b1) a1 (b0 + b1) ⟨by omega, by omega⟩ ⟨p1, q1⟩ ⟨by omega, by omega⟩
  have N1 := next_any a0 a1 b0 ⟨p0, q0⟩ ⟨p1, q1⟩ ⟨p2, q2⟩
  have N2 := next_any (a0 + b1) a1 (b0 + b1) ⟨by omega, by omega⟩ ⟨p1, q1⟩ ⟨by omega, by omega⟩
  by_cases h : b0 < a0
  · have h' : b0 + b1 < a0 + b1 := by omega
    have l1 : lastV a0 a1 b0 = 0 := by unfold lastV; rw [if_pos h]
    have l2 : lastB a0 b0 = false := by unfold lastB; simp; omega
    have n1 : nextV a0 a1 b0 = a0 := by unfold nextV; rw [if_pos h]
    have n2 : nextB a0 a1 b0 = true := by unfold nextB; simp [h]
    have l3 : lastV (a0 + b1) a1 (b0 + b1) = 0 := by unfold lastV; rw [if_pos h']
    have l4 : lastB (a0 + b1) (b0 + b1) = false := by unfold lastB; simp; omega
    have n3 : nextV (a0 + b1) a1 (b0 + b1) = a0 + b1 := by unfold nextV; rw [if_pos h']
    have n4 : nextB (a0 + b1) a1 (b0 + b1) = true := by unfold nextB; simp [h]
    rw [l1, l2] at L1; rw [l3, l4] at L2; rw [n1, n2] at N1; rw [n3, n4] at N2
    rw [count_lt a0 a1 b0 h] at C1; rw [count_lt (a0 + b1) a1 (b0 + b1) h'] at C2
    clear l1 l2 l3 l4 n1 n2 n3 n4 h'
    have L1' := Lib.hid L1; have L2' := Lib.hid L2; have C1' := Lib.hid C1; have C2' := Lib.hid C2; have N1' := Lib.hid N1; have N2' := Lib.hid N2; clear L1 L2 C1 C2 N1 N2
    go_enter Try.func3, Try.ntmps3
    go_wp2_with (first | (go_at_call 9; (with_reducible refine (L1'.out _).mono ?_); rintro r x1 ⟨rfl, g1⟩) | (go_at_call 9; (with_reducible refine (L2'.out _).mono ?_); rintro r x2 ⟨rfl, g2⟩) | (go_at_call 10; (with_reducible refine (C1'.out _).mono ?_); rintro r x3 ⟨rfl, g3⟩) | (go_at_call 10; (with_reducible refine (C2'.out _).mono ?_); rintro r x4 ⟨rfl, g4⟩) | (go_at_call 11; (with_reducible refine (N1'.out _).mono ?_); rintro r x5 ⟨rfl, g5⟩) | (go_at_call 11; (with_reducible refine (N2'.out _).mono ?_); rintro r x6 ⟨rfl, g6⟩) | (go_at_call 8; refine (alive_any _).mono ?_; rintro r x7 ⟨rfl, g7⟩))
    go_ret
    exact ⟨rfl, by repeat (first | exact Grown.refl _ | assumption | refine Go.Proofs.Ytebapkbaheifgaa.trans ?_ (by assumption) | apply Grown.alloc)⟩
  · have h' : ¬ b0 + b1 < a0 + b1 := by omega
    have sh := st_shift a0 a1 b0 b1
    have l1 : lastV a0 a1 b0 = b0 - stR a0 a1 b0 := by unfold lastV; rw [if_neg h]
    have l2 : lastB a0 b0 = true := by unfold lastB; simp; omega
    have l3 : lastV (a0 + b1) a1 (b0 + b1) = b0 - stR a0 a1 b0 + b1 := by unfold lastV; rw [if_neg h', sh.2]; omega
    have l4 : lastB (a0 + b1) (b0 + b1) = true := by unfold lastB; simp; omega
    have c1 := count_ge a0 a1 b0 (by omega)
    have c2 := count_ge (a0 + b1) a1 (b0 + b1) (by omega)
    rw [sh.1] at c2
    have b := stR_bd a0 a1 b0 p1 (by omega)
    have bC := plus_bd (stC a0 a1 b0) 1 (word_stC a0 a1 b0 ⟨p0, q0⟩ ⟨p1, q1⟩ ⟨p2, q2⟩) ⟨by omega, by omega⟩
    rw [l1, l2] at L1; rw [l3, l4] at L2; rw [c1] at C1; rw [c2] at C2
    clear l1 l2 l3 l4 c1 c2 bC
    generalize hK : plusV (stC a0 a1 b0) 1 = K at *
    clear hK
    by_cases hn : a1 ≠ 0 ∧ b0 - stR a0 a1 b0 + a1 < 18446744073709551616
    · have n1 : nextV a0 a1 b0 = b0 - stR a0 a1 b0 + a1 := by unfold nextV; rw [if_neg h, if_pos hn]
      have n2 : nextB a0 a1 b0 = true := by unfold nextB; simp [hn.1, hn.2]
      rw [n1, n2] at N1
      clear n1 n2
      by_cases hm : b0 - stR a0 a1 b0 + a1 + b1 < 18446744073709551616
      · have n3 : nextV (a0 + b1) a1 (b0 + b1) = b0 - stR a0 a1 b0 + a1 + b1 := by unfold nextV; rw [if_neg h', sh.2, if_pos (by omega)]; omega
        have n4 : nextB (a0 + b1) a1 (b0 + b1) = true := by unfold nextB; rw [sh.2]; simp [hn.1]; omega
        rw [n3, n4] at N2
        clear n3 n4 sh h'
        obtain ⟨hn1, hn2⟩ := hn
        generalize stR a0 a1 b0 = R at *
        have L1' := Lib.hid L1; have L2' := Lib.hid L2; have C1' := Lib.hid C1; have C2' := Lib.hid C2; have N1' := Lib.hid N1; have N2' := Lib.hid N2; clear L1 L2 C1 C2 N1 N2
        go_enter Try.func3, Try.ntmps3
        go_wp2_with (first | (go_at_call 9; (with_reducible refine (L1'.out _).mono ?_); rintro r x1 ⟨rfl, g1⟩) | (go_at_call 9; (with_reducible refine (L2'.out _).mono ?_); rintro r x2 ⟨rfl, g2⟩) | (go_at_call 10; (with_reducible refine (C1'.out _).mono ?_); rintro r x3 ⟨rfl, g3⟩) | (go_at_call 10; (with_reducible refine (C2'.out _).mono ?_); rintro r x4 ⟨rfl, g4⟩) | (go_at_call 11; (with_reducible refine (N1'.out _).mono ?_); rintro r x5 ⟨rfl, g5⟩) | (go_at_call 11; (with_reducible refine (N2'.out _).mono ?_); rintro r x6 ⟨rfl, g6⟩) | (go_at_call 8; refine (alive_any _).mono ?_; rintro r x7 ⟨rfl, g7⟩))
        go_ret
        exact ⟨rfl, by repeat (first | exact Grown.refl _ | assumption | refine Go.Proofs.Ytebapkbaheifgaa.trans ?_ (by assumption) | apply Grown.alloc)⟩
      · have n3 : nextV (a0 + b1) a1 (b0 + b1) = 0 := by unfold nextV; rw [if_neg h', sh.2, if_neg (by omega)]
        have n4 : nextB (a0 + b1) a1 (b0 + b1) = false := by unfold nextB; rw [sh.2]; simp; omega
        rw [n3, n4] at N2
        clear n3 n4 sh h'
        obtain ⟨hn1, hn2⟩ := hn
        generalize stR a0 a1 b0 = R at *
        have L1' := Lib.hid L1; have L2' := Lib.hid L2; have C1' := Lib.hid C1; have C2' := Lib.hid C2; have N1' := Lib.hid N1; have N2' := Lib.hid N2; clear L1 L2 C1 C2 N1 N2
        go_enter Try.func3, Try.ntmps3
        go_wp2_with (first | (go_at_call 9; (with_reducible refine (L1'.out _).mono ?_); rintro r x1 ⟨rfl, g1⟩) | (go_at_call 9; (with_reducible refine (L2'.out _).mono ?_); rintro r x2 ⟨rfl, g2⟩) | (go_at_call 10; (with_reducible refine (C1'.out _).mono ?_); rintro r x3 ⟨rfl, g3⟩) | (go_at_call 10; (with_reducible refine (C2'.out _).mono ?_); rintro r x4 ⟨rfl, g4⟩) | (go_at_call 11; (with_reducible refine (N1'.out _).mono ?_); rintro r x5 ⟨rfl, g5⟩) | (go_at_call 11; (with_reducible refine (N2'.out _).mono ?_); rintro r x6 ⟨rfl, g6⟩) | (go_at_call 8; refine (alive_any _).mono ?_; rintro r x7 ⟨rfl, g7⟩))
        go_ret
        exact ⟨rfl, by repeat (first | exact Grown.refl _ | assumption | refine Go.Proofs.Ytebapkbaheifgaa.trans ?_ (by assumption) | apply Grown.alloc)⟩
    · have n1 : nextV a0 a1 b0 = 0 := by unfold nextV; rw [if_neg h, if_neg hn]
      have n2 : nextB a0 a1 b0 = false := by unfold nextB; simp; omega
      have n3 : nextV (a0 + b1) a1 (b0 + b1) = 0 := by unfold nextV; rw [if_neg h', sh.2, if_neg (by omega)]
      have n4 : nextB (a0 + b1) a1 (b0 + b1) = false := by unfold nextB; rw [sh.2]; simp; omega
      rw [n1, n2] at N1
      rw [n3, n4] at N2
      clear n1 n2 n3 n4 sh h' hn
      generalize stR a0 a1 b0 = R at *
      have L1' := Lib.hid L1; have L2' := Lib.hid L2; have C1' := Lib.hid C1; have C2' := Lib.hid C2; have N1' := Lib.hid N1; have N2' := Lib.hid N2; clear L1 L2 C1 C2 N1 N2
      go_enter Try.func3, Try.ntmps3
      go_wp2_with (first | (go_at_call 9; (with_reducible refine (L1'.out _).mono ?_); rintro r x1 ⟨rfl, g1⟩) | (go_at_call 9; (with_reducible refine (L2'.out _).mono ?_); rintro r x2 ⟨rfl, g2⟩) | (go_at_call 10; (with_reducible refine (C1'.out _).mono ?_); rintro r x3 ⟨rfl, g3⟩) | (go_at_call 10; (with_reducible refine (C2'.out _).mono ?_); rintro r x4 ⟨rfl, g4⟩) | (go_at_call 11; (with_reducible refine (N1'.out _).mono ?_); rintro r x5 ⟨rfl, g5⟩) | (go_at_call 11; (with_reducible refine (N2'.out _).mono ?_); rintro r x6 ⟨rfl, g6⟩) | (go_at_call 8; refine (alive_any _).mono ?_; rintro r x7 ⟨rfl, g7⟩))
      go_ret
      exact ⟨rfl, by repeat (first | exact Grown.refl _ | assumption | refine Go.Proofs.Ytebapkbaheifgaa.trans ?_ (by assumption) | apply Grown.alloc)⟩

/-! ### THE ROW's STEP: WRITTEN OUT: LEAVE IT -/
set_option maxRecDepth 100000 in
theorem lifted (os : Os) (started : os.Started) (H : Type) (enc : TypeId × Value → H) :
    ReturnsInHanded {} Try.checked os 3 .any (Rows.calendarMovesSpec.pre6 enc Try.prog Try.f3 Rows.calendarMovesRow.domain false) (Rows.calendarMovesSpec.post enc Try.prog Try.f3 false true false false) := by
  refine returnsInHanded_of_change (C := Try.checked) own started (by kernel_rfl) Try.func3
    (ChangeSpec.witness6 (enc := enc) (C := Try.checked) false ⟨#[], #[.int .u64 0, .int .u64 0, .agg #[.int .u64 0, .int .u64 0]], []⟩ 8 (by kernel_rfl) (by kernel_rfl) (by kernel_rfl) (by kernel_rfl)) ?_
  intro W base args ds gs before hval0 hW hcnd _
  have hval : ∀ (j : Nat) t v, Try.f3.params[j]? = some t → args[j]? = some v → Value.okWide Try.prog W .any base t v := hval0
  have hW' := hW
  obtain ⟨p, q, hA0, hV, rfl, hfz, hnd⟩ := hW
  have hA : DataW.TrodAll enc Try.prog W 0 (fun _ => true) true Try.f3.params.toList args.toList ds p := hA0
  rw [Try.params3] at hA hval
  obtain ⟨v0, vs0, d0, ds0, p0, q0, hargs, rfl, rfl, h0, r0⟩ := trodAll_cons hA
  obtain ⟨v1, vs1, d1, ds1, p1, q1, rfl, rfl, rfl, h1, r1⟩ := trodAll_cons r0
  obtain ⟨v2, vs2, d2, ds2, p2, q2, rfl, rfl, rfl, h2, r2⟩ := trodAll_cons r1
  obtain ⟨rfl, rfl, rfl⟩ := trodAll_nil r2
  obtain rfl : args = #[v0, v1, v2] := by cases args; simp_all
  obtain ⟨rfl, rfl⟩ := trodVars_none hV
  obtain ⟨a0, rfl, rfl, rfl, w0⟩ := open_int Try.underlying22 (hval 0 22 v0 rfl rfl) h0
  obtain ⟨a1, rfl, rfl, rfl, w1⟩ := open_int Try.underlying22 (hval 1 22 v1 rfl rfl) h1
  obtain ⟨b0, b1, rfl, rfl, rfl, w2, w3⟩ := open_pair (hval 2 23 v2 rfl rfl) h2
  clear hA0 hval0
  simp only [List.append_nil] at hW'
  refine (walk a0 a1 b0 b1 w0 w1 w2 w3 W).mono fun e W' ⟨he, hg⟩ => ?_
  subst he
  exact ⟨_, rfl, post_of_same (pa := []) (pv := []) hW' (fun _ _ _ => (trodAll_cons_mk (shut_bool Try.underlying4 _) trodAll_mk0)) (fun sp _ => (trodAll_cons_mk (shut_int Try.underlying22 w0) (trodAll_cons_mk (shut_int Try.underlying22 w1) (trodAll_cons_mk (shut_pair w2 w3) trodAll_mk0)))) (fun _ _ => rfl) rfl
    (hg.frame _) hg.2.1 (ok_one (by kernel_rfl) rfl (okWide_bool_mk Try.underlying4 _))⟩

theorem over : Rows.calendarMovesRow.holds Try.pinned (OpenSpec.ofChange Rows.calendarMovesSpec) :=
  OpenClaim.holds_of_wide 3 Try.f3 rfl rfl rfl rfl rfl rfl rfl ⟨rfl, rfl, rfl, rfl, rfl⟩ rfl rfl rfl rfl rfl (by kernel_rfl) Try.func3 (by kernel_rfl)
    (of_decide_eq_true (by kernel_rfl)) (by unfold Func.isWrapper; first | (rw [if_pos (by decide +kernel)]; kernel_rfl) | (rw [if_neg (by decide +kernel)]; exact ⟨rfl, rfl⟩))
    (fun os started H enc _ => lifted os started H enc)

/-- ████ THE STATEMENT ████ -/
theorem proved : Rows.CalendarMovesSaid :=
  over
#print axioms proved
end Go.Proofs.Ytebapkbaheifgaa.calendarMoves

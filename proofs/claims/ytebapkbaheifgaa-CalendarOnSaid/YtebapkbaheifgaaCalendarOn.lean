/-
  The law CalendarOn returns true for every input, and leaves its arguments as they were.
-/
import Derived.Test.YtebapkbaheifgaaRows
import Derived.Test.YtebapkbaheifgaaRefs
import Derived.Test.YtebapkbaheifgaaPlainB
import Derived.WalkKit
import Derived.ProofKit
import Derived.OpenShut
namespace Go.Proofs.Ytebapkbaheifgaa.calendarOn
open Go.ChangeShapes Go.WideShapes Go.ChangeAt Go.RowKit
set_option linter.unusedVariables false      -- a walk need not use every 'w<i>' (that an integer argument fits its kind)

theorem own : ownKnob Try.prog.godebug = none := by kernel_rfl

/-! ### STEP 1: THE WALK: the Go text returns true. 'Grown w w'': the world has at most new blocks (Derived/RowKit3.lean). Part the cases AHEAD of 'go_enter' where a test parts the walk; take each callee by a contract of your own. -/
open Go.Proofs.Ytebapkbaheifgaa Cal in
set_option maxHeartbeats 800000 in
theorem walk (a0 : Int) (a1 : Int) (a2 : Int) (w0 : (Lit.int .u64 a0).wf = true) (w1 : (Lit.int .u64 a1).wf = true) (w2 : (Lit.int .i64 a2).wf = true) (w : World) :
    Calls Try.prog 7 #[.int .u64 a0, .int .u64 a1, .int .i64 a2] w fun e w' => e = .returned (.bool true) ∧ Grown w w' := by
  have k0 := word_of w0; have k1 := word_of w1
  clear w0 w1
  by_cases h : a2 < 0 ∨ 100 < a2
  · rcases h with h | h
    · go_enter Try.func7, Try.ntmps7
      go_wp2_with (go_at_call 8; refine (alive_any _).mono ?_; rintro r x6 ⟨rfl, g6⟩)
      go_ret
      exact ⟨rfl, g6⟩
    · have h' : ¬ a2 < 0 := by omega
      go_enter Try.func7, Try.ntmps7
      go_wp2_with (go_at_call 8; refine (alive_any _).mono ?_; rintro r x6 ⟨rfl, g6⟩)
      go_ret
      exact ⟨rfl, g6⟩
  · have h1 : 0 ≤ a2 := by omega
    have h2 : a2 ≤ 100 := by omega
    clear h
    obtain ⟨p0, q0⟩ := k0; obtain ⟨p1, q1⟩ := k1
    go_enter Try.func7, Try.ntmps7
    go_wp2
    go_loopw [7, 8] (fun t i wr => ∃ (k T : Int), 1 ≤ k ∧ k ≤ a2 + 1 ∧ i = .int .i64 k ∧ t = .int .u64 T ∧ Hid (T = a0 + a1 * (k - 1)) ∧ a0 ≤ T ∧ T < 18446744073709551616 ∧ Grown w wr) (fun _ i _ => (a2 + 1 - intOf i).toNat)
    case atStart => exact ⟨1, a0, by omega, by omega, rfl, rfl, Lib.hid (by simp), by omega, q0, Grown.refl _⟩
    case round =>
      obtain ⟨k, T, r1, r2, rfl, rfl, HT, r3, r4, hg⟩ := hrel
      by_cases hlt : k ≤ a2
      · have N := next_any a0 a1 T ⟨p0, q0⟩ ⟨p1, q1⟩ ⟨by omega, r4⟩
        have P := plus_any T a1 ⟨by omega, r4⟩ ⟨p1, q1⟩
        by_cases e0 : a1 = 0
        · have b1 : nextB a0 a1 T = false := by unfold nextB; simp [e0]; omega
          have b2 : nextV a0 a1 T = 0 := by unfold nextV; rw [if_neg (by omega), if_neg (by simp [e0])]
          rw [b1, b2] at N; clear b1 b2 P
          have N' := Lib.hid N; clear N
          subst e0
          go_wp2_with (first | (go_at_call 11; (with_reducible refine (N'.out _).mono ?_); rintro r x1 ⟨rfl, g1⟩) | (go_at_call 8; refine (alive_any _).mono ?_; rintro r x2 ⟨rfl, g2⟩))
          go_ret
          exact ⟨rfl, Go.Proofs.Ytebapkbaheifgaa.trans (Go.Proofs.Ytebapkbaheifgaa.trans hg g1) g2⟩
        · have sa := st_at a0 a1 (k - 1) (by omega) (by omega)
          rw [← HT.out] at sa
          have pos : 0 < a1 := by omega
          by_cases hT : T + a1 < 18446744073709551616
          · have b1 : nextB a0 a1 T = true := by unfold nextB; rw [sa.2]; simp [e0]; omega
            have b2 : nextV a0 a1 T = T + a1 := by unfold nextV; rw [if_neg (by omega), if_pos (by rw [sa.2]; omega), sa.2]; omega
            have b3 : plusV T a1 = T + a1 := by unfold plusV; rw [if_pos hT]
            rw [b1, b2] at N; rw [b3] at P; clear b1 b2 b3
            have sn := st_next a0 a1 T pos r3
            rw [sa.2, sa.1, Int.sub_zero] at sn
            have I := index_any a0 a1 (T + a1) ⟨p0, q0⟩ ⟨p1, q1⟩ ⟨by omega, hT⟩
            have b1 : indexB a0 a1 (T + a1) = true := by unfold indexB; rw [sn.2]; simp; omega
            have b2 : indexV a0 a1 (T + a1) = k := by unfold indexV; rw [if_pos ⟨by omega, sn.2⟩, sn.1]; omega
            rw [b1, b2] at I; clear b1 b2 sn sa
            have HT2 : Hid (T + a1 = a0 + a1 * (k + 1 - 1)) := by
              have := HT.out
              show _ = _
              rw [this, show k + 1 - 1 = (k - 1) + 1 by omega, Int.mul_add, Int.mul_one]
              omega
            have hq : a1 ≤ 18446744073709551615 - T := by omega
            have hd : decide (a1 ≤ 18446744073709551615 - T) = true := by simp [hq]
            have N' := Lib.hid N; have P' := Lib.hid P; have I' := Lib.hid I; clear N P I
            go_wp2_with (first | (go_at_call 11; (with_reducible refine (N'.out _).mono ?_); rintro r x1 ⟨rfl, g1⟩) | (go_at_call 15; (with_reducible refine (I'.out _).mono ?_); rintro r x2 ⟨rfl, g2⟩) | (go_at_call 12; (with_reducible refine (P'.out _).mono ?_); rintro r x3 ⟨rfl, g3⟩))
            go_roundw
            case rel => exact ⟨k + 1, T + a1, by omega, by omega, rfl, rfl, HT2, by omega, hT, Go.Proofs.Ytebapkbaheifgaa.trans (Go.Proofs.Ytebapkbaheifgaa.trans (Go.Proofs.Ytebapkbaheifgaa.trans hg g1) g2) g3⟩
            case measure => simp [intOf]; omega
          · have b1 : nextB a0 a1 T = false := by unfold nextB; rw [sa.2]; simp; omega
            have b2 : nextV a0 a1 T = 0 := by unfold nextV; rw [if_neg (by omega), if_neg (by rw [sa.2]; omega)]
            have b3 : plusV T a1 = 18446744073709551615 := by unfold plusV; rw [if_neg hT]
            rw [b1, b2] at N; rw [b3] at P; clear b1 b2 b3 sa
            have N' := Lib.hid N; have P' := Lib.hid P; clear N P
            go_wp2_with (first | (go_at_call 11; (with_reducible refine (N'.out _).mono ?_); rintro r x1 ⟨rfl, g1⟩) | (go_at_call 8; refine (alive_any _).mono ?_; rintro r x2 ⟨rfl, g2⟩) | (go_at_call 12; (with_reducible refine (P'.out _).mono ?_); rintro r x3 ⟨rfl, g3⟩))
            go_ret
            exact ⟨rfl, Go.Proofs.Ytebapkbaheifgaa.trans (Go.Proofs.Ytebapkbaheifgaa.trans (Go.Proofs.Ytebapkbaheifgaa.trans hg g1) g2) g3⟩
      · go_wp2_with (go_at_call 8; refine (alive_any _).mono ?_; rintro r x6 ⟨rfl, g6⟩)
        go_ret
        exact ⟨rfl, Go.Proofs.Ytebapkbaheifgaa.trans hg g6⟩

/-! ### THE ROW's STEP: WRITTEN OUT: LEAVE IT -/
set_option maxRecDepth 100000 in
theorem lifted (os : Os) (started : os.Started) (H : Type) (enc : TypeId × Value → H) :
    ReturnsInHanded {} Try.checked os 7 .any (Rows.calendarOnSpec.pre6 enc Try.prog Try.f7 Rows.calendarOnRow.domain false) (Rows.calendarOnSpec.post enc Try.prog Try.f7 false true false false) := by
  refine returnsInHanded_of_change (C := Try.checked) own started (by kernel_rfl) Try.func7
    (ChangeSpec.witness6 (enc := enc) (C := Try.checked) false ⟨#[], #[.int .u64 0, .int .u64 0, .int .i64 0], []⟩ 8 (by kernel_rfl) (by kernel_rfl) (by kernel_rfl) (by kernel_rfl)) ?_
  intro W base args ds gs before hval0 hW hcnd _
  have hval : ∀ (j : Nat) t v, Try.f7.params[j]? = some t → args[j]? = some v → Value.okWide Try.prog W .any base t v := hval0
  have hW' := hW
  obtain ⟨p, q, hA0, hV, rfl, hfz, hnd⟩ := hW
  have hA : DataW.TrodAll enc Try.prog W 0 (fun _ => true) true Try.f7.params.toList args.toList ds p := hA0
  rw [Try.params7] at hA hval
  obtain ⟨v0, vs0, d0, ds0, p0, q0, hargs, rfl, rfl, h0, r0⟩ := trodAll_cons hA
  obtain ⟨v1, vs1, d1, ds1, p1, q1, rfl, rfl, rfl, h1, r1⟩ := trodAll_cons r0
  obtain ⟨v2, vs2, d2, ds2, p2, q2, rfl, rfl, rfl, h2, r2⟩ := trodAll_cons r1
  obtain ⟨rfl, rfl, rfl⟩ := trodAll_nil r2
  obtain rfl : args = #[v0, v1, v2] := by cases args; simp_all
  obtain ⟨rfl, rfl⟩ := trodVars_none hV
  obtain ⟨a0, rfl, rfl, rfl, w0⟩ := open_int Try.underlying22 (hval 0 22 v0 rfl rfl) h0
  obtain ⟨a1, rfl, rfl, rfl, w1⟩ := open_int Try.underlying22 (hval 1 22 v1 rfl rfl) h1
  obtain ⟨a2, rfl, rfl, rfl, w2⟩ := open_int Try.underlying3 (hval 2 3 v2 rfl rfl) h2
  clear hA0 hval0
  simp only [List.append_nil] at hW'
  refine (walk a0 a1 a2 w0 w1 w2 W).mono fun e W' ⟨he, hg⟩ => ?_
  subst he
  exact ⟨_, rfl, post_of_same (pa := []) (pv := []) hW' (fun _ _ _ => (trodAll_cons_mk (shut_bool Try.underlying4 _) trodAll_mk0)) (fun sp _ => (trodAll_cons_mk (shut_int Try.underlying22 w0) (trodAll_cons_mk (shut_int Try.underlying22 w1) (trodAll_cons_mk (shut_int Try.underlying3 w2) trodAll_mk0)))) (fun _ _ => rfl) rfl
    (hg.frame _) hg.2.1 (ok_one (by kernel_rfl) rfl (okWide_bool_mk Try.underlying4 _))⟩

theorem over : Rows.calendarOnRow.holds Try.pinned (OpenSpec.ofChange Rows.calendarOnSpec) :=
  OpenClaim.holds_of_wide 7 Try.f7 rfl rfl rfl rfl rfl rfl rfl ⟨rfl, rfl, rfl, rfl, rfl⟩ rfl rfl rfl rfl rfl (by kernel_rfl) Try.func7 (by kernel_rfl)
    (of_decide_eq_true (by kernel_rfl)) (by unfold Func.isWrapper; first | (rw [if_pos (by decide +kernel)]; kernel_rfl) | (rw [if_neg (by decide +kernel)]; exact ⟨rfl, rfl⟩))
    (fun os started H enc _ => lifted os started H enc)

/-- ████ THE STATEMENT ████ -/
theorem proved : Rows.CalendarOnSaid :=
  over
#print axioms proved
end Go.Proofs.Ytebapkbaheifgaa.calendarOn

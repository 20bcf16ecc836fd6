/-
  CalendarCounts returns true for every deadline, period and two ticks, and leaves them as they were; no condition.
-/
import Derived.Test.YtebapkbaheifgaaRows
import Derived.Test.YtebapkbaheifgaaRefs
import Derived.Test.YtebapkbaheifgaaPlainB
import Derived.Test.YtebapkbaheifgaaPair
import Derived.WalkKit
import Derived.ProofKit
import Derived.OpenShut
namespace Go.Proofs.Ytebapkbaheifgaa.calendarCounts
open Go.ChangeShapes Go.WideShapes Go.ChangeAt Go.RowKit
set_option linter.unusedVariables false      -- a walk need not use every 'w<i>' (that an integer argument fits its kind)

theorem own : ownKnob Try.prog.godebug = none := by kernel_rfl

/-! ### STEP 1: THE WALK: the Go text returns true. 'Grown w w'': the world has at most new blocks (Derived/RowKit3.lean). Part the cases AHEAD of 'go_enter' where a test parts the walk; take each callee by a contract of your own. -/
open Go.Proofs.Ytebapkbaheifgaa Cal in
set_option maxHeartbeats 1600000 in
theorem walk (a0 : Int) (a1 : Int) (b0 b1 : Int) (w0 : (Lit.int .u64 a0).wf = true) (w1 : (Lit.int .u64 a1).wf = true) (w2 : (Lit.int .u64 b0).wf = true) (w3 : (Lit.int .u64 b1).wf = true) (w : World) :
    Calls Try.prog 4 #[.int .u64 a0, .int .u64 a1, .agg #[.int .u64 b0, .int .u64 b1]] w fun e w' => e = .returned (.bool true) ∧ Grown w w' := by
  have k0 := word_of w0; have k1 := word_of w1; have k2 := word_of w2; have k3 := word_of w3
  clear w0 w1 w2 w3
  have P0 := plus_any b0 b1 k2 k3
  have pb := plus_bd b0 b1 k2 k3
  have C1 := count_any a0 a1 b0 k0 k1 k2
  have C2 := count_any a0 a1 (plusV b0 b1) k0 k1 pb.1
  have P1 := plus_any a0 a1 k0 k1
  have P2 := plus_any a1 a0 k1 k0
  have P3 := plus_any (plusV a0 a1) b0 (plus_bd a0 a1 k0 k1).1 k2
  have P4 := plus_any a1 b0 k1 k2
  have P5 := plus_any a0 (plusV a1 b0) k0 (plus_bd a1 b0 k1 k2).1
  rw [plus_comm a1 a0] at P2
  rw [← plus_assoc a0 a1 b0 k0 k1 k2] at P5
  have mono := count_mono a0 a1 b0 (plusV b0 b1) k1 pb.2
  have wn := word_count a0 a1 b0 k0 k1 k2
  have wm := word_count a0 a1 (plusV b0 b1) k0 k1 pb.1
  generalize plusV a0 a1 = S at *
  generalize plusV S b0 = U at *
  generalize plusV a1 b0 = V at *
  generalize plusV b0 b1 = B at *
  have hn : Hid (countV a0 a1 b0 = countV a0 a1 b0) := Lib.hid rfl
  have hm : Hid (countV a0 a1 B = countV a0 a1 B) := Lib.hid rfl
  generalize hn1 : countV a0 a1 b0 = n at *
  generalize hm1 : countV a0 a1 B = m at *
  clear hn hm
  have hn := Lib.hid hn1; have hm := Lib.hid hm1; clear hn1 hm1
  obtain ⟨wB, leB⟩ := pb
  obtain ⟨p0, q0⟩ := k0; obtain ⟨p1, q1⟩ := k1; obtain ⟨p2, q2⟩ := k2; obtain ⟨p3, q3⟩ := k3; obtain ⟨p4, q4⟩ := wB; obtain ⟨p5, q5⟩ := wn; obtain ⟨p6, q6⟩ := wm
  have P0' := Lib.hid P0; have P1' := Lib.hid P1; have P2' := Lib.hid P2; have P3' := Lib.hid P3; have P4' := Lib.hid P4; have P5' := Lib.hid P5; have C1' := Lib.hid C1; have C2' := Lib.hid C2
  clear P0 P1 P2 P3 P4 P5 C1 C2
  by_cases h50 : 50 < m - n
  · go_enter Try.func4, Try.ntmps4
    go_wp2_with (first | (go_at_call 12; (with_reducible refine (P0'.out _).mono ?_); rintro r x0 ⟨rfl, g0⟩) | (go_at_call 10; (with_reducible refine (C1'.out _).mono ?_); rintro r x1 ⟨rfl, g1⟩) | (go_at_call 10; (with_reducible refine (C2'.out _).mono ?_); rintro r x2 ⟨rfl, g2⟩) | (go_at_call 12; (with_reducible refine (P1'.out _).mono ?_); rintro r x3 ⟨rfl, g3⟩) | (go_at_call 12; (with_reducible refine (P2'.out _).mono ?_); rintro r x4 ⟨rfl, g4⟩) | (go_at_call 12; (with_reducible refine (P3'.out _).mono ?_); rintro r x5 ⟨rfl, g5⟩) | (go_at_call 12; (with_reducible refine (P4'.out _).mono ?_); rintro r x6 ⟨rfl, g6⟩) | (go_at_call 12; (with_reducible refine (P5'.out _).mono ?_); rintro r x7 ⟨rfl, g7⟩) | (go_at_call 8; refine (alive_any _).mono ?_; rintro r x8 ⟨rfl, g8⟩))
    go_ret
    exact ⟨rfl, by repeat (first | exact Grown.refl _ | assumption | refine Go.Proofs.Ytebapkbaheifgaa.trans ?_ (by assumption) | apply Grown.alloc)⟩
  by_cases htop : m = 18446744073709551615
  · have ht : (m == 18446744073709551615) = true := by rw [htop]; rfl
    clear htop
    go_enter Try.func4, Try.ntmps4
    go_wp2_with (first | (go_at_call 12; (with_reducible refine (P0'.out _).mono ?_); rintro r x0 ⟨rfl, g0⟩) | (go_at_call 10; (with_reducible refine (C1'.out _).mono ?_); rintro r x1 ⟨rfl, g1⟩) | (go_at_call 10; (with_reducible refine (C2'.out _).mono ?_); rintro r x2 ⟨rfl, g2⟩) | (go_at_call 12; (with_reducible refine (P1'.out _).mono ?_); rintro r x3 ⟨rfl, g3⟩) | (go_at_call 12; (with_reducible refine (P2'.out _).mono ?_); rintro r x4 ⟨rfl, g4⟩) | (go_at_call 12; (with_reducible refine (P3'.out _).mono ?_); rintro r x5 ⟨rfl, g5⟩) | (go_at_call 12; (with_reducible refine (P4'.out _).mono ?_); rintro r x6 ⟨rfl, g6⟩) | (go_at_call 12; (with_reducible refine (P5'.out _).mono ?_); rintro r x7 ⟨rfl, g7⟩) | (go_at_call 8; refine (alive_any _).mono ?_; rintro r x8 ⟨rfl, g8⟩))
    go_ret
    exact ⟨rfl, by repeat (first | exact Grown.refl _ | assumption | refine Go.Proofs.Ytebapkbaheifgaa.trans ?_ (by assumption) | apply Grown.alloc)⟩
  have ht : (m == 18446744073709551615) = false := by simp [htop]
  have hlt : m < 18446744073709551615 := by omega
  clear htop
  go_enter Try.func4, Try.ntmps4
  go_wp2_with (first | (go_at_call 12; (with_reducible refine (P0'.out _).mono ?_); rintro r x0 ⟨rfl, g0⟩) | (go_at_call 10; (with_reducible refine (C1'.out _).mono ?_); rintro r x1 ⟨rfl, g1⟩) | (go_at_call 10; (with_reducible refine (C2'.out _).mono ?_); rintro r x2 ⟨rfl, g2⟩) | (go_at_call 12; (with_reducible refine (P1'.out _).mono ?_); rintro r x3 ⟨rfl, g3⟩) | (go_at_call 12; (with_reducible refine (P2'.out _).mono ?_); rintro r x4 ⟨rfl, g4⟩) | (go_at_call 12; (with_reducible refine (P3'.out _).mono ?_); rintro r x5 ⟨rfl, g5⟩) | (go_at_call 12; (with_reducible refine (P4'.out _).mono ?_); rintro r x6 ⟨rfl, g6⟩) | (go_at_call 12; (with_reducible refine (P5'.out _).mono ?_); rintro r x7 ⟨rfl, g7⟩) | (go_at_call 8; refine (alive_any _).mono ?_; rintro r x8 ⟨rfl, g8⟩))
  go_loopw [11, 12] (fun t i wr => ∃ (k T : Int), n ≤ k ∧ k ≤ m ∧ i = .int .u64 k ∧ t = .int .u64 T ∧ Hid (countV a0 a1 T = k) ∧ 0 ≤ T ∧ T ≤ B ∧ Grown w wr) (fun _ i _ => (m - intOf i).toNat)
  case atStart => exact ⟨n, b0, by omega, by omega, rfl, rfl, hn, by omega, by omega, by repeat (first | exact Grown.refl _ | assumption | refine Go.Proofs.Ytebapkbaheifgaa.trans ?_ (by assumption) | apply Grown.alloc)⟩
  case round =>
    obtain ⟨k, T, r1, r2, rfl, rfl, HT, r3, r4, hg⟩ := hrel
    have N := next_any a0 a1 T ⟨p0, q0⟩ ⟨p1, q1⟩ ⟨by omega, by omega⟩
    by_cases hk : k < m
    · have st := count_step a0 a1 T B ⟨p0, q0⟩ ⟨p1, q1⟩ ⟨by omega, by omega⟩ ⟨p4, q4⟩ (by rw [hm.out]; exact hlt) (by rw [hm.out, HT.out]; exact hk)
      obtain ⟨s1, s2, s3⟩ := st
      have wx := word_next a0 a1 T ⟨p0, q0⟩ ⟨p1, q1⟩ ⟨by omega, by omega⟩
      rw [s1] at N
      rw [HT.out] at s3
      generalize nextV a0 a1 T = X at *
      obtain ⟨x0', x1'⟩ := wx
      have HX := Lib.hid s3
      have N' := Lib.hid N
      clear s1 s3 N
      go_wp2_with (go_at_call 11; (with_reducible refine (N'.out _).mono ?_); rintro r y1 ⟨rfl, e1⟩)
      go_roundw
      case rel => exact ⟨k + 1, X, by omega, by omega, rfl, rfl, HX, by omega, by omega, Go.Proofs.Ytebapkbaheifgaa.trans hg e1⟩
      case measure => simp [intOf]; omega
    · by_cases hb : nextB a0 a1 T = true
      · have en := count_end a0 a1 T B ⟨p0, q0⟩ ⟨p1, q1⟩ ⟨by omega, by omega⟩ ⟨p4, q4⟩ r4 (by rw [hm.out]; exact hlt) (by rw [hm.out, HT.out]; omega) hb
        rw [hb] at N
        generalize nextV a0 a1 T = X at *
        have N' := Lib.hid N
        clear hb N
        go_wp2_with (first | (go_at_call 11; (with_reducible refine (N'.out _).mono ?_); rintro r y1 ⟨rfl, e1⟩) | (go_at_call 8; refine (alive_any _).mono ?_; rintro r y2 ⟨rfl, e2⟩))
        go_ret
        exact ⟨rfl, Go.Proofs.Ytebapkbaheifgaa.trans (Go.Proofs.Ytebapkbaheifgaa.trans hg e1) e2⟩
      · have hb' : nextB a0 a1 T = false := by simpa using hb
        rw [hb'] at N
        generalize nextV a0 a1 T = X at *
        have N' := Lib.hid N
        clear hb hb' N
        go_wp2_with (first | (go_at_call 11; (with_reducible refine (N'.out _).mono ?_); rintro r y1 ⟨rfl, e1⟩) | (go_at_call 8; refine (alive_any _).mono ?_; rintro r y2 ⟨rfl, e2⟩))
        go_ret
        exact ⟨rfl, Go.Proofs.Ytebapkbaheifgaa.trans (Go.Proofs.Ytebapkbaheifgaa.trans hg e1) e2⟩

/-! ### THE ROW's STEP: WRITTEN OUT: LEAVE IT -/
set_option maxRecDepth 100000 in
theorem lifted (os : Os) (started : os.Started) (H : Type) (enc : TypeId × Value → H) :
    ReturnsInHanded {} Try.checked os 4 .any (Rows.calendarCountsSpec.pre6 enc Try.prog Try.f4 Rows.calendarCountsRow.domain false) (Rows.calendarCountsSpec.post enc Try.prog Try.f4 false true false false) := by
  refine returnsInHanded_of_change (C := Try.checked) own started (by kernel_rfl) Try.func4
    (ChangeSpec.witness6 (enc := enc) (C := Try.checked) false ⟨#[], #[.int .u64 0, .int .u64 0, .agg #[.int .u64 0, .int .u64 0]], []⟩ 8 (by kernel_rfl) (by kernel_rfl) (by kernel_rfl) (by kernel_rfl)) ?_
  intro W base args ds gs before hval0 hW hcnd _
  have hval : ∀ (j : Nat) t v, Try.f4.params[j]? = some t → args[j]? = some v → Value.okWide Try.prog W .any base t v := hval0
  have hW' := hW
  obtain ⟨p, q, hA0, hV, rfl, hfz, hnd⟩ := hW
  have hA : DataW.TrodAll enc Try.prog W 0 (fun _ => true) true Try.f4.params.toList args.toList ds p := hA0
  rw [Try.params4] at hA hval
  obtain ⟨v0, vs0, d0, ds0, p0, q0, hargs, rfl, rfl, h0, r0⟩ := trodAll_cons hA
  obtain ⟨v1, vs1, d1, ds1, p1, q1, rfl, rfl, rfl, h1, r1⟩ := trodAll_cons r0
  obtain ⟨v2, vs2, d2, ds2, p2, q2, rfl, rfl, rfl, h2, r2⟩ := trodAll_cons r1
  obtain ⟨rfl, rfl, rfl⟩ := trodAll_nil r2
  obtain rfl : args = #[v0, v1, v2] := by cases args; simp_all
  obtain ⟨rfl, rfl⟩ := trodVars_none hV
  obtain ⟨a0, rfl, rfl, rfl, w0⟩ := open_int Try.underlying22 (hval 0 22 v0 rfl rfl) h0
  obtain ⟨a1, rfl, rfl, rfl, w1⟩ := open_int Try.underlying22 (hval 1 22 v1 rfl rfl) h1
  obtain ⟨b0, b1, rfl, rfl, rfl, w2, w3⟩ := open_pair (hval 2 23 v2 rfl rfl) h2
  clear hA0 hval0
  simp only [List.append_nil] at hW'
  refine (walk a0 a1 b0 b1 w0 w1 w2 w3 W).mono fun e W' ⟨he, hg⟩ => ?_
  subst he
  exact ⟨_, rfl, post_of_same (pa := []) (pv := []) hW' (fun _ _ _ => (trodAll_cons_mk (shut_bool Try.underlying4 _) trodAll_mk0)) (fun sp _ => (trodAll_cons_mk (shut_int Try.underlying22 w0) (trodAll_cons_mk (shut_int Try.underlying22 w1) (trodAll_cons_mk (shut_pair w2 w3) trodAll_mk0)))) (fun _ _ => rfl) rfl
    (hg.frame _) hg.2.1 (ok_one (by kernel_rfl) rfl (okWide_bool_mk Try.underlying4 _))⟩

theorem over : Rows.calendarCountsRow.holds Try.pinned (OpenSpec.ofChange Rows.calendarCountsSpec) :=
  OpenClaim.holds_of_wide 4 Try.f4 rfl rfl rfl rfl rfl rfl rfl ⟨rfl, rfl, rfl, rfl, rfl⟩ rfl rfl rfl rfl rfl (by kernel_rfl) Try.func4 (by kernel_rfl)
    (of_decide_eq_true (by kernel_rfl)) (by unfold Func.isWrapper; first | (rw [if_pos (by decide +kernel)]; kernel_rfl) | (rw [if_neg (by decide +kernel)]; exact ⟨rfl, rfl⟩))
    (fun os started H enc _ => lifted os started H enc)

/-- ████ THE STATEMENT ████ -/
theorem proved : Rows.CalendarCountsSaid :=
  over
#print axioms proved
end Go.Proofs.Ytebapkbaheifgaa.calendarCounts

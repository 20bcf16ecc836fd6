/-
  QuotaBack returns true for every use and sizes, and leaves them as they were; no condition.
-/
import Derived.Test.YtlemjdkefojoeaaRows
import Derived.Test.YtlemjdkefojoeaaCases
import Derived.Test.YtlemjdkefojoeaaBackA
import Derived.Test.YtlemjdkefojoeaaBackB
import Derived.Test.YtlemjdkefojoeaaBackC
import Derived.Test.YtlemjdkefojoeaaPost
import Derived.WalkKit
import Derived.ProofKit
import Derived.OpenShut
namespace Go.Proofs.Ytlemjdkefojoeaa.quotaBack
open Go.ChangeShapes Go.WideShapes Go.ChangeAt Go.RowKit Quo
set_option linter.unusedVariables false

theorem own : ownKnob Try.prog.godebug = none := by kernel_rfl
theorem cells27 : Try.prog.cellsOf 27 = 3 := by kernel_rfl
theorem cells33 : Try.prog.cellsOf 33 = 3 := by kernel_rfl

theorem walk (k r t key was value : Int) (w : World) :
    Calls Try.prog 5 #[.agg #[.int .i64 k, .int .i64 r, .int .i64 t], .agg #[.int .i64 key, .int .i64 was, .int .i64 value]] w fun e w' => e = .returned (.bool true) ∧ Below w.heap.size w w' := by
  have R1 : ∀ k r t : Int, rightB k r t = true → ∀ w : World, Calls Try.prog 11 #[.agg #[.int .i64 k, .int .i64 r, .int .i64 t]] w fun e w' => e = .returned (.bool true) ∧ Below w.heap.size w w' := by
    intro k r t h w
    have := right_any k r t w
    rwa [h] at this
  cases hr : rightB k r t
  · have R0 : ∀ w : World, Calls Try.prog 11 #[.agg #[.int .i64 k, .int .i64 r, .int .i64 t]] w fun e w' => e = .returned (.bool false) ∧ Below w.heap.size w w' := by
      intro w
      have := right_any k r t w
      rwa [hr] at this
    exact back_wrong k r t key was value (put_wrong k r t false key 0 value (wrong_right hr)) R0 (put_wrong k r t true key was value (wrong_right hr)) (arm_wrong k r t false hr) w
  · have RU := R1 k r t hr
    rcases put_new_cases k r t key 0 value with ⟨⟨b0, b1, b2, b3, b4, b5⟩, P1⟩ | ⟨v1, hv1, _, P1⟩
    · rcases put_had_cases k r t key was value with ⟨⟨d0, d1, d2, d3, d4, d5⟩, P2⟩ | ⟨v2, hv2, _, P2⟩
      · rcases arm_new_cases k r t with ⟨⟨f0, f1, f2⟩, A1⟩ | ⟨v3, hv3, _, _, A1⟩
        · have D1 := drop_ok (k + 1) (r + key + value) t key value (by omega) (by omega) (by omega) (by omega) (by omega) (by omega)
          rw [show k + 1 - 1 = k by omega, show r + key + value - key - value = r by omega] at D1
          have RA := R1 (k + 1) (r + key + value) t (right_iff.2 ⟨by omega, by omega, by omega⟩)
          have P3 := put_had_ok k (r - was + value) t key value was (by omega) (by omega) (by omega) (by omega) (by omega) (by omega) (by omega) (by omega) (over_zero (by omega) (by omega) (by omega))
          rw [show r - was + value - value + was = r by omega] at P3
          have RC := R1 k (r - was + value) t (right_iff.2 ⟨by omega, by omega, by omega⟩)
          have C1 := cancel_ok k r (t + 1) (by omega) (by omega) (by omega) (by omega)
          rw [show t + 1 - 1 = t by omega] at C1
          have A2 := arm_had_ok k r (t + 1) (by omega) (by omega) (by omega) (by omega)
          have RI := R1 k r (t + 1) (right_iff.2 ⟨by omega, by omega, by omega⟩)
          exact back_ooo k r t key was value P1 D1 RA RU P2 P3 RC A1 C1 A2 RI w
        · have D1 := drop_ok (k + 1) (r + key + value) t key value (by omega) (by omega) (by omega) (by omega) (by omega) (by omega)
          rw [show k + 1 - 1 = k by omega, show r + key + value - key - value = r by omega] at D1
          have RA := R1 (k + 1) (r + key + value) t (right_iff.2 ⟨by omega, by omega, by omega⟩)
          have P3 := put_had_ok k (r - was + value) t key value was (by omega) (by omega) (by omega) (by omega) (by omega) (by omega) (by omega) (by omega) (over_zero (by omega) (by omega) (by omega))
          rw [show r - was + value - value + was = r by omega] at P3
          have RC := R1 k (r - was + value) t (right_iff.2 ⟨by omega, by omega, by omega⟩)
          exact back_oox k r t key was value v3 hv3 P1 D1 RA RU P2 P3 RC A1 w
      · rcases arm_new_cases k r t with ⟨⟨f0, f1, f2⟩, A1⟩ | ⟨v3, hv3, _, _, A1⟩
        · have D1 := drop_ok (k + 1) (r + key + value) t key value (by omega) (by omega) (by omega) (by omega) (by omega) (by omega)
          rw [show k + 1 - 1 = k by omega, show r + key + value - key - value = r by omega] at D1
          have RA := R1 (k + 1) (r + key + value) t (right_iff.2 ⟨by omega, by omega, by omega⟩)
          have C1 := cancel_ok k r (t + 1) (by omega) (by omega) (by omega) (by omega)
          rw [show t + 1 - 1 = t by omega] at C1
          have A2 := arm_had_ok k r (t + 1) (by omega) (by omega) (by omega) (by omega)
          have RI := R1 k r (t + 1) (right_iff.2 ⟨by omega, by omega, by omega⟩)
          exact back_oxo k r t key was value v2 hv2 P1 D1 RA RU P2 A1 C1 A2 RI w
        · have D1 := drop_ok (k + 1) (r + key + value) t key value (by omega) (by omega) (by omega) (by omega) (by omega) (by omega)
          rw [show k + 1 - 1 = k by omega, show r + key + value - key - value = r by omega] at D1
          have RA := R1 (k + 1) (r + key + value) t (right_iff.2 ⟨by omega, by omega, by omega⟩)
          exact back_oxx k r t key was value v2 hv2 v3 hv3 P1 D1 RA RU P2 A1 w
    · rcases put_had_cases k r t key was value with ⟨⟨d0, d1, d2, d3, d4, d5⟩, P2⟩ | ⟨v2, hv2, _, P2⟩
      · rcases arm_new_cases k r t with ⟨⟨f0, f1, f2⟩, A1⟩ | ⟨v3, hv3, _, _, A1⟩
        · have P3 := put_had_ok k (r - was + value) t key value was (by omega) (by omega) (by omega) (by omega) (by omega) (by omega) (by omega) (by omega) (over_zero (by omega) (by omega) (by omega))
          rw [show r - was + value - value + was = r by omega] at P3
          have RC := R1 k (r - was + value) t (right_iff.2 ⟨by omega, by omega, by omega⟩)
          have C1 := cancel_ok k r (t + 1) (by omega) (by omega) (by omega) (by omega)
          rw [show t + 1 - 1 = t by omega] at C1
          have A2 := arm_had_ok k r (t + 1) (by omega) (by omega) (by omega) (by omega)
          have RI := R1 k r (t + 1) (right_iff.2 ⟨by omega, by omega, by omega⟩)
          exact back_xoo k r t key was value v1 hv1 P1 RU P2 P3 RC A1 C1 A2 RI w
        · have P3 := put_had_ok k (r - was + value) t key value was (by omega) (by omega) (by omega) (by omega) (by omega) (by omega) (by omega) (by omega) (over_zero (by omega) (by omega) (by omega))
          rw [show r - was + value - value + was = r by omega] at P3
          have RC := R1 k (r - was + value) t (right_iff.2 ⟨by omega, by omega, by omega⟩)
          exact back_xox k r t key was value v1 hv1 v3 hv3 P1 RU P2 P3 RC A1 w
      · rcases arm_new_cases k r t with ⟨⟨f0, f1, f2⟩, A1⟩ | ⟨v3, hv3, _, _, A1⟩
        · have C1 := cancel_ok k r (t + 1) (by omega) (by omega) (by omega) (by omega)
          rw [show t + 1 - 1 = t by omega] at C1
          have A2 := arm_had_ok k r (t + 1) (by omega) (by omega) (by omega) (by omega)
          have RI := R1 k r (t + 1) (right_iff.2 ⟨by omega, by omega, by omega⟩)
          exact back_xxo k r t key was value v1 hv1 v2 hv2 P1 RU P2 A1 C1 A2 RI w
        · exact back_xxx k r t key was value v1 hv1 v2 hv2 v3 hv3 P1 RU P2 A1 w

set_option maxRecDepth 100000 in
theorem lifted (os : Os) (started : os.Started) (H : Type) (enc : TypeId × Value → H) :
    ReturnsInHanded {} Try.checked os 5 .any (Rows.quotaBackSpec.pre6 enc Try.prog Try.f5 Rows.quotaBackRow.domain false) (Rows.quotaBackSpec.post enc Try.prog Try.f5 false true false false) := by
  refine returnsInHanded_of_change (C := Try.checked) own started (by kernel_rfl) Try.func5
    (ChangeSpec.witness6 (enc := enc) (C := Try.checked) false ⟨#[], #[.agg #[.int .i64 0, .int .i64 0, .int .i64 0], .agg #[.int .i64 0, .int .i64 0, .int .i64 0]], []⟩ 8 (by kernel_rfl) (by kernel_rfl) (by kernel_rfl) (by kernel_rfl)) ?_
  intro W base args ds gs before hval0 hW hcnd _
  have hval : ∀ (j : Nat) t v, Try.f5.params[j]? = some t → args[j]? = some v → Value.okWide Try.prog W .any base t v := hval0
  have hW' := hW
  obtain ⟨p, q, hA0, hV, rfl, hfz, hnd⟩ := hW
  have hA : DataW.TrodAll enc Try.prog W 0 (fun _ => true) true Try.f5.params.toList args.toList ds p := hA0
  rw [Try.params5] at hA hval
  obtain ⟨v0, vs0, d0, ds0, p0, q0, hargs, rfl, rfl, h0, r0⟩ := trodAll_cons hA
  obtain ⟨v1, vs1, d1, ds1, p1, q1, rfl, rfl, rfl, h1, r1⟩ := trodAll_cons r0
  obtain ⟨rfl, rfl, rfl⟩ := trodAll_nil r1
  obtain rfl : args = #[v0, v1] := by cases args; simp_all
  obtain ⟨rfl, rfl⟩ := trodVars_none hV
  obtain ⟨k, r, t, rfl, rfl, rfl, x0, x1, x2⟩ := open_three Try.underlying27 (by kernel_rfl) cells27 Try.underlying3 Try.underlying3 Try.underlying3 (hval 0 27 v0 rfl rfl) h0
  obtain ⟨key, was, value, rfl, rfl, rfl, y0, y1, y2⟩ := open_three Try.underlying33 (by kernel_rfl) cells33 Try.underlying3 Try.underlying3 Try.underlying3 (hval 1 33 v1 rfl rfl) h1
  clear hA0 hval0
  simp only [List.append_nil] at hW'
  refine (walk k r t key was value W).mono fun e W' ⟨he, hb⟩ => ?_
  subst he
  exact ⟨_, rfl, post_of_below (pa := []) (pv := []) hW' (fun _ _ _ => (trodAll_cons_mk (shut_bool Try.underlying4 _) trodAll_mk0))
    (fun sp _ => (trodAll_cons_mk (shut_three Try.underlying27 (by kernel_rfl) cells27 Try.underlying3 Try.underlying3 Try.underlying3 x0 x1 x2) (trodAll_cons_mk (shut_three Try.underlying33 (by kernel_rfl) cells33 Try.underlying3 Try.underlying3 Try.underlying3 y0 y1 y2) trodAll_mk0))) (fun _ _ => rfl) rfl
    hb (ok_one (by kernel_rfl) rfl (okWide_bool_mk Try.underlying4 _))⟩

theorem over : Rows.quotaBackRow.holds Try.pinned (OpenSpec.ofChange Rows.quotaBackSpec) :=
  OpenClaim.holds_of_wide 5 Try.f5 rfl rfl rfl rfl rfl rfl rfl ⟨rfl, rfl, rfl, rfl, rfl⟩ rfl rfl rfl rfl rfl (by kernel_rfl) Try.func5 (by kernel_rfl)
    (of_decide_eq_true (by kernel_rfl)) (by unfold Func.isWrapper; first | (rw [if_pos (by decide +kernel)]; kernel_rfl) | (rw [if_neg (by decide +kernel)]; exact ⟨rfl, rfl⟩))
    (fun os started H enc _ => lifted os started H enc)

/-- ████ THE STATEMENT ████ -/
theorem proved : Rows.QuotaBackSaid :=
  over
#print axioms proved
end Go.Proofs.Ytlemjdkefojoeaa.quotaBack

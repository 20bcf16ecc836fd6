/-
  The walks of the comparisons of layer 6 (queue).
-/
import Derived.Test.YticnckclmlejhaaRows
import Derived.WalkKit
import Derived.WalkSpells
import Derived.WalkLawsBesides
import Derived.Laws.Pointers
import Derived.BigQuiet
import Derived.Deep.QuietTactic
import Derived.Deep.RegionHeld3
import Derived.StillTailTactics
import Derived.RowKit3
import Derived.Lib.Hide
namespace Go.Proofs.Yticnckclmlejhaa
open Go.RowKit

/-- How two numbers stand. -/
def cmpI (x y : Int) : Int := if x < y then -1 else if y < x then 1 else 0
/-- How two texts stand. -/
def cmpS (x y : ByteArray) : Int := if Op.bytesLess x.toList y.toList = true then -1 else if (!(Op.bytesLess x.toList y.toList || x.toList == y.toList)) = true then 1 else 0

set_option maxHeartbeats 400000 in
theorem nanI_any (x : Int) (w : World) : Calls Try.prog 60 #[.int .u64 x] w fun e w' => e = .returned (.bool false) ∧ w = w' := by
  go_enter Try.func60, Try.ntmps60
  go_wp2
  go_ret
  exact ⟨by simp, rfl⟩

set_option maxHeartbeats 400000 in
theorem nanS_any (x : ByteArray) (w : World) : Calls Try.prog 61 #[.string x] w fun e w' => e = .returned (.bool false) ∧ w = w' := by
  go_enter Try.func61, Try.ntmps61
  go_wp2
  go_ret
  exact ⟨by simp, rfl⟩

set_option maxHeartbeats 400000 in
theorem cmpI_any (x y : Int) (w : World) : Calls Try.prog 58 #[.int .u64 x, .int .u64 y] w fun e w' => e = .returned (.int .i64 (cmpI x y)) ∧ w = w' := by
  by_cases h : x < y
  · have e : cmpI x y = -1 := by unfold cmpI; rw [if_pos h]
    rw [e]; clear e
    go_enter Try.func58, Try.ntmps58
    go_wp2_with (first | (go_at_call 60; (with_reducible refine (nanI_any x _).mono ?_); rintro e w1 ⟨rfl, rfl⟩) | (go_at_call 60; (with_reducible refine (nanI_any y _).mono ?_); rintro e w1 ⟨rfl, rfl⟩))
    go_ret
    exact ⟨rfl, rfl⟩
  by_cases h2 : y < x
  · have e : cmpI x y = 1 := by unfold cmpI; rw [if_neg h, if_pos h2]
    rw [e]; clear e
    go_enter Try.func58, Try.ntmps58
    go_wp2_with (first | (go_at_call 60; (with_reducible refine (nanI_any x _).mono ?_); rintro e w1 ⟨rfl, rfl⟩) | (go_at_call 60; (with_reducible refine (nanI_any y _).mono ?_); rintro e w1 ⟨rfl, rfl⟩))
    go_ret
    exact ⟨rfl, rfl⟩
  · have e : cmpI x y = 0 := by unfold cmpI; rw [if_neg h, if_neg h2]
    rw [e]; clear e
    go_enter Try.func58, Try.ntmps58
    go_wp2_with (first | (go_at_call 60; (with_reducible refine (nanI_any x _).mono ?_); rintro e w1 ⟨rfl, rfl⟩) | (go_at_call 60; (with_reducible refine (nanI_any y _).mono ?_); rintro e w1 ⟨rfl, rfl⟩))
    go_ret
    exact ⟨rfl, rfl⟩

set_option maxHeartbeats 400000 in
theorem cmpS_any (x y : ByteArray) (w : World) : Calls Try.prog 59 #[.string x, .string y] w fun e w' => e = .returned (.int .i64 (cmpS x y)) ∧ w = w' := by
  by_cases h : Op.bytesLess x.toList y.toList = true
  · have e : cmpS x y = -1 := by unfold cmpS; rw [if_pos h]
    rw [e]; clear e
    go_enter Try.func59, Try.ntmps59
    go_wp2_with (first | (go_at_call 61; (with_reducible refine (nanS_any x _).mono ?_); rintro e w1 ⟨rfl, rfl⟩) | (go_at_call 61; (with_reducible refine (nanS_any y _).mono ?_); rintro e w1 ⟨rfl, rfl⟩))
    go_ret
    exact ⟨rfl, rfl⟩
  have h' : Op.bytesLess x.toList y.toList = false := by simpa using h
  by_cases h2 : (x.toList == y.toList) = true
  · have e : cmpS x y = 0 := by unfold cmpS; rw [if_neg h, if_neg (by simp [h2])]
    rw [e]; clear e h
    have h3 : (!(Op.bytesLess x.toList y.toList || x.toList == y.toList)) = false := by simp [h2]
    go_enter Try.func59, Try.ntmps59
    go_wp2_with (first | (go_at_call 61; (with_reducible refine (nanS_any x _).mono ?_); rintro e w1 ⟨rfl, rfl⟩) | (go_at_call 61; (with_reducible refine (nanS_any y _).mono ?_); rintro e w1 ⟨rfl, rfl⟩))
    go_ret
    exact ⟨rfl, rfl⟩
  · have h3 : (x.toList == y.toList) = false := by simpa using h2
    have e : cmpS x y = 1 := by unfold cmpS; rw [if_neg h, if_pos (by rw [h', h3]; rfl)]
    rw [e]; clear e h h2
    go_enter Try.func59, Try.ntmps59
    go_wp2_with (first | (go_at_call 61; (with_reducible refine (nanS_any x _).mono ?_); rintro e w1 ⟨rfl, rfl⟩) | (go_at_call 61; (with_reducible refine (nanS_any y _).mono ?_); rintro e w1 ⟨rfl, rfl⟩))
    go_ret
    exact ⟨rfl, rfl⟩
end Go.Proofs.Yticnckclmlejhaa

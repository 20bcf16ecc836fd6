/-
  The walks of layer 11 (quota): what each function answers; what was there before the call is as it was.
-/
import Derived.Test.YtlemjdkefojoeaaRows
import Derived.Test.YtlemjdkefojoeaaPlain
import Derived.WalkKit
import Derived.WalkSpells
import Derived.WalkLawsBesides
import Derived.Laws.Pointers
import Derived.BigQuiet
import Derived.Deep.RegionHeld3
import Derived.RowKit3
import Derived.Lib.Hide
namespace Go.Proofs.Ytlemjdkefojoeaa
open Go.RowKit Quo

theorem bcell {W w1 : World} (hb : Below W.heap.size W w1) : (∀ b o, b < W.heap.size → w1.cell? ⟨b, o, none⟩ = W.cell? ⟨b, o, none⟩) ∧ (∀ b o, b < W.heap.size → w1.frozen? ⟨b, o, none⟩ = W.frozen? ⟨b, o, none⟩) :=
  ⟨fun b o h => hb.cell (p := ⟨b, o, none⟩) h, fun b o h => hb.frozen (p := ⟨b, o, none⟩) h⟩

set_option maxHeartbeats 400000 in
theorem within_any (n m : Int) (w : World) :
    Calls Try.prog 15 #[.int .i64 n, .int .i64 m] w fun e w' => e = .returned (.bool (wi n m)) ∧ w = w' := by
  by_cases h : 0 ≤ n
  · by_cases h2 : n ≤ m
    · have e : wi n m = true := wi_true h h2
      rw [e]; clear e
      go_enter Try.func15, Try.ntmps15
      go_wp2
      go_ret
      exact ⟨rfl, rfl⟩
    · have e : wi n m = false := wi_false.2 (by omega)
      rw [e]; clear e
      go_enter Try.func15, Try.ntmps15
      go_wp2
      go_ret
      exact ⟨rfl, rfl⟩
  · have e : wi n m = false := wi_false.2 (by omega)
    rw [e]; clear e
    go_enter Try.func15, Try.ntmps15
    go_wp2
    go_ret
    exact ⟨rfl, rfl⟩

set_option maxHeartbeats 400000 in
theorem right_any (k r t : Int) (w : World) :
    Calls Try.prog 11 #[.agg #[.int .i64 k, .int .i64 r, .int .i64 t]] w fun e w' => e = .returned (.bool (rightB k r t)) ∧ Below w.heap.size w w' := by
  have e : rightB k r t = (wi k 100 && (wi r 4000 && wi t 50)) := rfl
  rw [e]; clear e
  have A := within_any k 100
  have B := within_any r 4000
  have C := within_any t 50
  generalize wi k 100 = x at *
  generalize wi r 4000 = y at *
  generalize wi t 50 = z at *
  have A' := Lib.hid A; have B' := Lib.hid B; have C' := Lib.hid C; clear A B C
  cases x
  · go_enter Try.func11, Try.ntmps11
    go_wp2_with (first | (go_at_call 15; (with_reducible refine (A'.out _).mono ?_); rintro e w' ⟨rfl, rfl⟩))
    go_ret
    exact ⟨rfl, (Below.refl _ _).alloc (Nat.le_refl _) _⟩
  · cases y
    · go_enter Try.func11, Try.ntmps11
      go_wp2_with (first | (go_at_call 15; (with_reducible refine (A'.out _).mono ?_); rintro e w' ⟨rfl, rfl⟩) | (go_at_call 15; (with_reducible refine (B'.out _).mono ?_); rintro e w' ⟨rfl, rfl⟩))
      go_ret
      exact ⟨rfl, (Below.refl _ _).alloc (Nat.le_refl _) _⟩
    · go_enter Try.func11, Try.ntmps11
      go_wp2_with (first | (go_at_call 15; (with_reducible refine (A'.out _).mono ?_); rintro e w' ⟨rfl, rfl⟩) | (go_at_call 15; (with_reducible refine (B'.out _).mono ?_); rintro e w' ⟨rfl, rfl⟩) | (go_at_call 15; (with_reducible refine (C'.out _).mono ?_); rintro e w' ⟨rfl, rfl⟩))
      go_ret
      exact ⟨rfl, (Below.refl _ _).alloc (Nat.le_refl _) _⟩

set_option maxHeartbeats 400000 in
theorem bad_any (n : Int) (w : World) :
    Calls Try.prog 20 #[.int .i64 n] w fun e w' => e = .returned (.bool (badB n)) ∧ w = w' := by
  have e : badB n = !wi n 4000 := rfl
  rw [e]; clear e
  have A := within_any n 4000
  generalize wi n 4000 = x at *
  have A' := Lib.hid A; clear A
  go_enter Try.func20, Try.ntmps20
  go_wp2_with (go_at_call 15; (with_reducible refine (A'.out _).mono ?_); rintro e w' ⟨rfl, rfl⟩)
  go_ret
  exact ⟨rfl, rfl⟩

theorem cells_of {w : World} {b off : Nat} {xs : List Int} (hc : ∀ i, i < xs.length → w.cell? ⟨b, off + i, none⟩ = some (.int .i64 (xs.getD i 0))) {k : Nat} (hk : k < xs.length) : w.cell? ⟨b, off + k, none⟩ = some (.int .i64 (xs[k]'hk)) := by
  rw [hc k hk]; simp [hk]

set_option maxHeartbeats 400000 in
theorem index_any (b off cap : Nat) (xs : List Int) (w : World) (hn : xs.length ≤ 9223372036854775807) (hc : ∀ i, i < xs.length → w.cell? ⟨b, off + i, none⟩ = some (.int .i64 (xs.getD i 0))) :
    Calls Try.prog 22 #[.slice (some ⟨b, off, none⟩) xs.length cap, .func (.func 20) #[] #[]] w fun e w' => e = .returned (.int .i64 (firstBad xs 0)) ∧ w = w' := by
  have HC := Lib.hid hc; clear hc
  go_enter Try.func22, Try.ntmps22
  go_wp2
  go_loop [8] (fun i => ∃ k : Nat, k ≤ xs.length ∧ i = .int .i64 k ∧ Hid (firstBad xs 0 = firstBad (xs.drop k) k)) (fun i => xs.length - (intOf i).toNat)
  case atStart => exact ⟨0, Nat.zero_le _, rfl, rfl⟩
  case round =>
    obtain ⟨k, hk, rfl, hf⟩ := hrel
    by_cases hlt : k < xs.length
    · have hcell := cells_of HC.out hlt
      have hd : xs.drop k = xs[k] :: xs.drop (k + 1) := List.drop_eq_getElem_cons hlt
      have hst : firstBad (xs.drop k) k = if badB xs[k] = true then (k : Int) else firstBad (xs.drop (k + 1)) (k + 1) := by rw [hd]; rfl
      have hf2 : Hid (firstBad xs 0 = if badB xs[k] = true then (k : Int) else firstBad (xs.drop (k + 1)) (k + 1)) := hf.out.trans hst
      clear hd hst
      have B := bad_any xs[k]
      generalize xs[k] = x at *
      generalize hb : badB x = y at *
      have B' := Lib.hid B; clear B hb
      cases y
      · have hf3 : Hid (firstBad xs 0 = firstBad (xs.drop (k + 1)) ((k + 1 : Nat) : Int)) := by
          have := hf2.out
          rw [if_neg (by simp)] at this
          exact this
        go_wp2_with (go_at_call 20; (with_reducible refine (B'.out _).mono ?_); rintro e w' ⟨rfl, rfl⟩)
        go_round
        case rel => exact ⟨k + 1, by omega, by go_num, hf3⟩
        case measure => simp [intOf]; omega
      · have hf3 : Hid (firstBad xs 0 = k) := by
          have := hf2.out
          rw [if_pos rfl] at this
          exact this
        go_wp2_with (go_at_call 20; (with_reducible refine (B'.out _).mono ?_); rintro e w' ⟨rfl, rfl⟩)
        go_ret
        exact ⟨by rw [hf3.out]; rfl, rfl⟩
    · have hf3 : Hid (firstBad xs 0 = -1) := by
        have := hf.out
        rw [List.drop_eq_nil_of_le (by omega)] at this
        exact this
      go_wp2
      go_ret
      exact ⟨by rw [hf3.out]; rfl, rfl⟩

set_option maxHeartbeats 400000 in
theorem over_any (k r t : Int) (w : World) :
    Calls Try.prog 21 #[.agg #[.int .i64 k, .int .i64 r, .int .i64 t]] w fun e w' => e = .returned (.int .i64 (overV k r t)) ∧ Below w.heap.size w w' := by
  by_cases h1 : 100 < k
  · have e : overV k r t = 111 := by unfold overV; rw [if_pos h1]
    rw [e]; clear e
    go_enter Try.func21, Try.ntmps21
    go_wp2
    go_ret
    exact ⟨rfl, (Below.refl _ _).alloc (Nat.le_refl _) _⟩
  by_cases h2 : 4000 < r
  · have e : overV k r t = 112 := by unfold overV; rw [if_neg h1, if_pos h2]
    rw [e]; clear e
    go_enter Try.func21, Try.ntmps21
    go_wp2
    go_ret
    exact ⟨rfl, (Below.refl _ _).alloc (Nat.le_refl _) _⟩
  by_cases h3 : 50 < t
  · have e : overV k r t = 113 := by unfold overV; rw [if_neg h1, if_neg h2, if_pos h3]
    rw [e]; clear e
    go_enter Try.func21, Try.ntmps21
    go_wp2
    go_ret
    exact ⟨rfl, (Below.refl _ _).alloc (Nat.le_refl _) _⟩
  · have e : overV k r t = 0 := by unfold overV; rw [if_neg h1, if_neg h2, if_neg h3]
    rw [e]; clear e
    go_enter Try.func21, Try.ntmps21
    go_wp2
    go_ret
    exact ⟨rfl, (Below.refl _ _).alloc (Nat.le_refl _) _⟩
end Go.Proofs.Ytlemjdkefojoeaa

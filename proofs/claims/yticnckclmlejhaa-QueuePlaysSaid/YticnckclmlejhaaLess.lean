/-
  The walks of layer 6 (queue): cmp.Or of two, an entry's compare.
-/
import Derived.Test.YticnckclmlejhaaCmp
namespace Go.Proofs.Yticnckclmlejhaa
open Go.RowKit

theorem bcell {W w1 : World} (hb : Below W.heap.size W w1) : (∀ b o, b < W.heap.size → w1.cell? ⟨b, o, none⟩ = W.cell? ⟨b, o, none⟩) ∧ (∀ b o, b < W.heap.size → w1.frozen? ⟨b, o, none⟩ = W.frozen? ⟨b, o, none⟩) :=
  ⟨fun b o h => hb.cell (p := ⟨b, o, none⟩) h, fun b o h => hb.frozen (p := ⟨b, o, none⟩) h⟩

def or2 (x y : Int) : Int := if x = 0 then y else x

set_option maxHeartbeats 400000 in
theorem or_any (b c : Nat) (x y : Int) (w : World) (h0 : w.cell? ⟨b, 0, none⟩ = some (.int .i64 x)) (h1 : w.cell? ⟨b, 1, none⟩ = some (.int .i64 y)) :
    Calls Try.prog 57 #[.slice (some ⟨b, 0, none⟩) 2 c] w fun e w' => e = .returned (.int .i64 (or2 x y)) ∧ w = w' := by
  by_cases hx : x = 0
  · have e : or2 x y = y := by unfold or2; rw [if_pos hx]
    rw [e]; clear e
    subst hx
    by_cases hy : y = 0
    · subst hy
      go_enter Try.func57, Try.ntmps57
      go_wp2
      go_loop [8] (fun i => ∃ k : Int, 0 ≤ k ∧ k ≤ 2 ∧ i = .int .i64 k) (fun i => (2 - intOf i).toNat)
      case atStart => exact ⟨0, by omega, by omega, rfl⟩
      case round =>
        obtain ⟨k, k0, k2, rfl⟩ := hrel
        have hk : k = 0 ∨ k = 1 ∨ k = 2 := by omega
        clear k0 k2
        rcases hk with rfl | rfl | rfl
        · go_wp2
          go_round
          case rel => exact ⟨1, by omega, by omega, rfl⟩
          case measure => simp [intOf]
        · go_wp2
          go_round
          case rel => exact ⟨2, by omega, by omega, rfl⟩
          case measure => simp [intOf]
        · go_wp2
          go_ret
          exact ⟨rfl, rfl⟩
    · have hyb : (y == 0) = false := by simp [hy]
      have hyn : (y != 0) = true := by simp [hy]
      go_enter Try.func57, Try.ntmps57
      go_wp2
      go_loop [8] (fun i => ∃ k : Int, 0 ≤ k ∧ k ≤ 1 ∧ i = .int .i64 k) (fun i => (2 - intOf i).toNat)
      case atStart => exact ⟨0, by omega, by omega, rfl⟩
      case round =>
        obtain ⟨k, k0, k2, rfl⟩ := hrel
        have hk : k = 0 ∨ k = 1 := by omega
        clear k0 k2
        rcases hk with rfl | rfl
        · go_wp2
          go_round
          case rel => exact ⟨1, by omega, by omega, rfl⟩
          case measure => simp [intOf]
        · go_wp2
          go_ret
          exact ⟨rfl, rfl⟩
  · have e : or2 x y = x := by unfold or2; rw [if_neg hx]
    rw [e]; clear e
    have hxb : (x == 0) = false := by simp [hx]
    have hxn : (x != 0) = true := by simp [hx]
    go_enter Try.func57, Try.ntmps57
    go_wp2
    go_loop [8] (fun i => i = .int .i64 0) (fun i => (2 - intOf i).toNat)
    case atStart => rfl
    case round =>
      subst hrel
      go_wp2
      go_ret
      exact ⟨rfl, rfl⟩

/-- How two entries stand. -/
def cmpE (a : ByteArray) (s : Int) (b : ByteArray) (t : Int) : Int := or2 (cmpI s t) (cmpS a b)

set_option maxHeartbeats 400000 in
theorem compare_any (a b : ByteArray) (s t : Int) (w : World) :
    Calls Try.prog 52 #[.agg #[.string a, .int .u64 s], .agg #[.string b, .int .u64 t]] w fun e w' => e = .returned (.int .i64 (cmpE a s b t)) ∧ Below w.heap.size w w' := by
  go_enter Try.func52, Try.ntmps52
  go_wp2
  go_region_held3 (fun w' => w'.cell? ⟨w.heap.size, 0, none⟩ = some (.string a) ∧ w'.cell? ⟨w.heap.size, 1, none⟩ = some (.int .u64 s) ∧ w'.cell? ⟨w.heap.size + 1, 0, none⟩ = some (.string b) ∧ w'.cell? ⟨w.heap.size + 1, 1, none⟩ = some (.int .u64 t)) (simp [go_sem, World.cell?_alloc_past])
    (first
      | (go_at_call 58; refine (cmpI_any _ _ _).mono ?_; rintro e w' ⟨rfl, rfl⟩)
      | (go_at_call 59; refine (cmpS_any _ _ _).mono ?_; rintro e w' ⟨rfl, rfl⟩)
      | (go_at_call 57; refine (or_any _ _ (cmpI s t) (cmpS a b) _ (by simp [go_sem]) (by simp [go_sem])).mono ?_; rintro e w' ⟨rfl, rfl⟩))
  go_wp2
  go_ret
  exact ⟨rfl, by repeat (first | exact Below.refl _ _ | refine Below.drew ?_ | refine Below.alloc ?_ (by first | (simp; done) | (simp; omega)) _)⟩
end Go.Proofs.Yticnckclmlejhaa

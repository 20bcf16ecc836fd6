/-
  container/heap's down, over a queue in memory.
-/
import Derived.Test.YticnckclmlejhaaUp
namespace Go.Proofs.Yticnckclmlejhaa
open Go.RowKit Go.ChangeMaps Hp

theorem kid {k i : Nat} (hk : 0 < k) (h : par k = i) : k = 2 * i + 1 ∨ k = 2 * i + 2 := by unfold par at h; omega
theorem par_l (i : Nat) : par (2 * i + 1) = i := by unfold par; omega
theorem par_r (i : Nat) : par (2 * i + 2) = i := by unfold par; omega

/-- What down has done so far. -/
structure DownS (w wr : World) (X M : Nat) (v : Value) (l l1 : List Ent) (i0 i n : Nat) : Prop where
  q : QS wr X M v l1
  perm : l1.Perm l
  tail : ∀ k, n ≤ k → elt l1 k = elt l k
  tch : Tch X M v w wr
  inv : DownInv lessE l1 i n
  at_ : (i = i0 ∧ l1 = l) ∨ (i0 < i ∧ lessE (elt l1 i) (elt l1 (par i)) = false)
/-- What down leaves. -/
def DownP (w : World) (X M : Nat) (v : Value) (l : List Ent) (i0 n : Nat) (b : Bool) (w' : World) : Prop :=
  ∃ l', QS w' X M v l' ∧ l'.Perm l ∧ (∀ k, n ≤ k → elt l' k = elt l k) ∧ Tch X M v w w' ∧ (b = true → IsHeap lessE l' n) ∧ (b = false → l' = l ∧ UpInv lessE l i0 n)
def DownE (w : World) (X M : Nat) (v : Value) (l : List Ent) (i0 n : Nat) (e : Ending) (w' : World) : Prop := ∃ b, e = .returned (.bool b) ∧ DownP w X M v l i0 n b w'
section
variable {w wr w1 : World} {X M : Nat} {v : Value} {l l1 : List Ent} {i0 i j n : Nat}
theorem DownS.look (h : DownS w wr X M v l l1 i0 i n) (hq : QS w1 X M v l1) (ht : Tch X M v wr w1) : DownS w w1 X M v l l1 i0 i n := ⟨hq, h.perm, h.tail, h.tch.trans (.refl _ _) ht, h.inv, h.at_⟩
theorem DownS.last (h : DownS w wr X M v l l1 i0 i n) (hc : ∀ k, 0 < k → k < n → par k = i → lessE (elt l1 k) (elt l1 i) = false) :
    DownP w X M v l i0 n (decide (i0 < i)) wr := by
  refine ⟨l1, h.q, h.perm, h.tail, h.tch, fun hi => ?_, fun hi => ?_⟩
  · rcases h.at_ with ⟨e, _⟩ | ⟨_, e⟩
    · subst e; simp at hi
    · exact up_done (down_end h.inv hc) (.inr e)
  · rcases h.at_ with ⟨e, e2⟩ | ⟨e, _⟩
    · subst e; subst e2
      exact ⟨rfl, down_end h.inv hc⟩
    · simp at hi; omega
theorem DownS.swap (h : DownS w wr X M v l l1 i0 i n) (hn : n ≤ l1.length) (hi0 : i0 ≤ i) (hj : 0 < j) (hjn : j < n) (hp : par j = i) (hmin : ∀ k, 0 < k → k < n → par k = i → lessE (elt l1 k) (elt l1 j) = false) (hlt : lessE (elt l1 j) (elt l1 i) = true)
    (hq : QS w1 X M v (swp l1 i j)) (ht : Tch X M v wr w1) : DownS w w1 X M v l (swp l1 i j) i0 j n := by
  have hij : i < j := by have := par_lt hj; omega
  obtain ⟨d1, d2⟩ := down_step less_total hn h.inv hj hjn hp hmin hlt
  refine ⟨hq, (swp_perm (by omega) (by omega)).trans h.perm, fun k hk => ?_, h.tch.trans (.refl _ _) ht, d1, .inr ⟨by omega, d2⟩⟩
  rw [elt_swp (by omega) (by omega), if_neg (by omega), if_neg (by omega)]
  exact h.tail k hk
end

section
variable {w wr w1 : World} {X M : Nat} {v : Value} {l l1 : List Ent} {i0 i j n : Nat}
theorem DownS.over (h : DownS w wr X M v l l1 i0 i n) (hc : ∀ k, 0 < k → k < n → par k = i → lessE (elt l1 k) (elt l1 i) = false) : DownE w X M v l i0 n (.returned (.bool (decide (i0 < i)))) wr := ⟨_, rfl, h.last hc⟩
end

set_option maxHeartbeats 3200000 in
theorem down_qs (X M : Nat) (v : Value) (l : List Ent) (n i0 : Nat) (w : World) (h : QS w X M v l) (hn : n ≤ l.length) (hi0 : i0 ≤ n) (hb : l.length ≤ 1000000) (hd : DownInv lessE l i0 n) :
    Calls Try.prog 34 #[.iface 54 (.pointer (some ⟨X, 0, none⟩)), .int .i64 i0, .int .i64 n] w (DownE w X M v l i0 n) := by
  have ml := m_less; have ms := m_swap
  have HD : Hid (DownS w w X M v l l i0 i0 n) := Lib.hid ⟨h, List.Perm.refl _, fun _ _ => rfl, Tch.refl _ _ _ _, hd, .inl ⟨rfl, rfl⟩⟩
  clear h hd
  go_enter Try.func34, Try.ntmps34
  go_wp2
  go_loopw [7] (fun i wr => ∃ (ii : Nat) (l1 : List Ent), i = .int .i64 ii ∧ i0 ≤ ii ∧ ii ≤ n ∧ l1.length = l.length ∧ Hid (DownS w wr X M v l l1 i0 ii n)) (fun i _ => n - (intOf i).toNat)
  case atStart => exact ⟨i0, l, rfl, Nat.le_refl _, hi0, rfl, HD⟩
  case round =>
    obtain ⟨ii, l1, rfl, h0i, hin, hl1, HS⟩ := hrel
    clear HD
    by_cases hA : n ≤ 2 * ii + 1
    · go_wp2
      go_ret
      exact HS.out.over fun k hk hkn hp => by have := kid hk hp; omega
    · obtain ⟨j1, hj1⟩ : ∃ j1, j1 = 2 * ii + 1 := ⟨_, rfl⟩
      obtain ⟨j2, hj2⟩ : ∃ j2, j2 = 2 * ii + 2 := ⟨_, rfl⟩
      have e1 : 2 * (ii : Int) + 1 = (j1 : Int) := by omega
      have e2 : (j1 : Int) + 1 = (j2 : Int) := by omega
      have n1 : j1 < n := by omega
      have il : ii < l1.length := by omega
      have jl : j1 < l1.length := by omega
      have KID : Hid (∀ k, 0 < k → par k = ii → k = j1 ∨ k = j2) := Lib.hid fun k hk hp => by have := kid hk hp; omega
      have P1 : Hid (par j1 = ii) := Lib.hid (by rw [hj1]; exact par_l ii)
      have P2 : Hid (par j2 = ii) := Lib.hid (by rw [hj2]; exact par_r ii)
      have f1 : ((n : Int) ≤ (j1 : Int)) = False := by simp; omega
      have f2 : ((j1 : Int) < 0) = False := by simp
      have f3 : 0 < j1 := by omega
      have f4 : 0 < j2 := by omega
      have f5 : ii < j1 := by omega
      have f6 : j1 < j2 := by omega
      clear hA hj1 hj2
      by_cases hB : j2 < n
      · have jl2 : j2 < l1.length := by omega
        have f7 : ((j2 : Int) < (n : Int)) = True := by simp; omega
        cases hl12 : lessE (elt l1 j2) (elt l1 j1)
        · have hmin : Hid (∀ k, 0 < k → k < n → par k = ii → lessE (elt l1 k) (elt l1 j1) = false) := Lib.hid fun k hk hkn hp => by
            rcases KID.out k hk hp with rfl | rfl
            · exact less_total.irr _
            · exact hl12
          cases hlj : lessE (elt l1 j1) (elt l1 ii)
          · go_wp2_with (first | (go_at_call 53; (with_reducible refine (less_qs HS.out.q jl2 jl).mono ?_); rw [hl12]; rintro e w1 ⟨rfl, hq1, ht1⟩; have HS1 := Lib.hid (HS.out.look hq1 ht1); clear hq1 ht1) | (go_at_call 53; (with_reducible refine (less_qs HS1.out.q jl il).mono ?_); rw [hlj]; rintro e w2 ⟨rfl, hq1, ht1⟩; have HS2 := Lib.hid (HS1.out.look hq1 ht1); clear hq1 ht1))
            go_ret
            exact HS2.out.over fun k hk hkn hp => by
              have h1 := hmin.out k hk hkn hp
              exact less_total.le_tr hlj h1
          · go_wp2_with (first | (go_at_call 53; (with_reducible refine (less_qs HS.out.q jl2 jl).mono ?_); rw [hl12]; rintro e w1 ⟨rfl, hq1, ht1⟩; have HS1 := Lib.hid (HS.out.look hq1 ht1); clear hq1 ht1) | (go_at_call 53; (with_reducible refine (less_qs HS1.out.q jl il).mono ?_); rw [hlj]; rintro e w2 ⟨rfl, hq1, ht1⟩; have HS2 := Lib.hid (HS1.out.look hq1 ht1); clear hq1 ht1) | (go_at_call 56; (with_reducible refine (swap_qs HS2.out.q il jl).mono ?_); rintro e w3 ⟨rfl, hq3, ht3⟩; have HS3 := Lib.hid (HS2.out.swap (by omega) h0i f3 n1 P1.out hmin.out hlj hq3 ht3); clear hq3 ht3))
            go_roundw
            case rel => exact ⟨j1, swp l1 ii j1, rfl, by omega, by omega, (length_swp _ _ _).trans hl1, HS3⟩
            case measure => simp [intOf]; omega
        · have hmin : Hid (∀ k, 0 < k → k < n → par k = ii → lessE (elt l1 k) (elt l1 j2) = false) := Lib.hid fun k hk hkn hp => by
            rcases KID.out k hk hp with rfl | rfl
            · exact less_total.asym hl12
            · exact less_total.irr _
          cases hlj : lessE (elt l1 j2) (elt l1 ii)
          · go_wp2_with (first | (go_at_call 53; (with_reducible refine (less_qs HS.out.q jl2 jl).mono ?_); rw [hl12]; rintro e w1 ⟨rfl, hq1, ht1⟩; have HS1 := Lib.hid (HS.out.look hq1 ht1); clear hq1 ht1) | (go_at_call 53; (with_reducible refine (less_qs HS1.out.q jl2 il).mono ?_); rw [hlj]; rintro e w2 ⟨rfl, hq1, ht1⟩; have HS2 := Lib.hid (HS1.out.look hq1 ht1); clear hq1 ht1))
            go_ret
            exact HS2.out.over fun k hk hkn hp => by
              have h1 := hmin.out k hk hkn hp
              exact less_total.le_tr hlj h1
          · go_wp2_with (first | (go_at_call 53; (with_reducible refine (less_qs HS.out.q jl2 jl).mono ?_); rw [hl12]; rintro e w1 ⟨rfl, hq1, ht1⟩; have HS1 := Lib.hid (HS.out.look hq1 ht1); clear hq1 ht1) | (go_at_call 53; (with_reducible refine (less_qs HS1.out.q jl2 il).mono ?_); rw [hlj]; rintro e w2 ⟨rfl, hq1, ht1⟩; have HS2 := Lib.hid (HS1.out.look hq1 ht1); clear hq1 ht1) | (go_at_call 56; (with_reducible refine (swap_qs HS2.out.q il jl2).mono ?_); rintro e w3 ⟨rfl, hq3, ht3⟩; have HS3 := Lib.hid (HS2.out.swap (by omega) h0i f4 hB P2.out hmin.out hlj hq3 ht3); clear hq3 ht3))
            go_roundw
            case rel => exact ⟨j2, swp l1 ii j2, rfl, by omega, by omega, (length_swp _ _ _).trans hl1, HS3⟩
            case measure => simp [intOf]; omega
      · have f7 : ((j2 : Int) < (n : Int)) = False := by simp; omega
        have hmin : Hid (∀ k, 0 < k → k < n → par k = ii → lessE (elt l1 k) (elt l1 j1) = false) := Lib.hid fun k hk hkn hp => by
          rcases KID.out k hk hp with rfl | rfl
          · exact less_total.irr _
          · exact absurd hkn hB
        cases hlj : lessE (elt l1 j1) (elt l1 ii)
        · go_wp2_with (first | (go_at_call 53; (with_reducible refine (less_qs HS.out.q jl il).mono ?_); rw [hlj]; rintro e w2 ⟨rfl, hq1, ht1⟩; have HS2 := Lib.hid (HS.out.look hq1 ht1); clear hq1 ht1))
          go_ret
          exact HS2.out.over fun k hk hkn hp => by
            have h1 := hmin.out k hk hkn hp
            exact less_total.le_tr hlj h1
        · go_wp2_with (first | (go_at_call 53; (with_reducible refine (less_qs HS.out.q jl il).mono ?_); rw [hlj]; rintro e w2 ⟨rfl, hq1, ht1⟩; have HS2 := Lib.hid (HS.out.look hq1 ht1); clear hq1 ht1) | (go_at_call 56; (with_reducible refine (swap_qs HS2.out.q il jl).mono ?_); rintro e w3 ⟨rfl, hq3, ht3⟩; have HS3 := Lib.hid (HS2.out.swap (by omega) h0i f3 n1 P1.out hmin.out hlj hq3 ht3); clear hq3 ht3))
          go_roundw
          case rel => exact ⟨j1, swp l1 ii j1, rfl, by omega, by omega, (length_swp _ _ _).trans hl1, HS3⟩
          case measure => simp [intOf]; omega
end Go.Proofs.Yticnckclmlejhaa

/-
  container/heap's up, over a queue in memory.
-/
import Derived.Test.YticnckclmlejhaaOpsB
namespace Go.Proofs.Yticnckclmlejhaa
open Go.RowKit Go.ChangeMaps Hp

theorem m_len (a : Addr) (w : World) : (method 199 54 (.pointer (some a)) "Len").run Try.prog w = .ok (25, .pointer (some a)) w := by kernel_rfl
theorem m_less (a : Addr) (w : World) : (method 199 54 (.pointer (some a)) "Less").run Try.prog w = .ok (53, .pointer (some a)) w := by kernel_rfl
theorem m_swap (a : Addr) (w : World) : (method 199 54 (.pointer (some a)) "Swap").run Try.prog w = .ok (56, .pointer (some a)) w := by kernel_rfl
theorem m_push (a : Addr) (w : World) : (method 199 54 (.pointer (some a)) "Push").run Try.prog w = .ok (55, .pointer (some a)) w := by kernel_rfl
theorem m_pop (a : Addr) (w : World) : (method 199 54 (.pointer (some a)) "Pop").run Try.prog w = .ok (54, .pointer (some a)) w := by kernel_rfl

/-- The entries object X with the row v: l. -/
def QS (w : World) (X M : Nat) (v : Value) (l : List Ent) : Prop := ∃ es clk f, QX w X M v es clk f l

section
variable {w : World} {X M : Nat} {v : Value} {l : List Ent}
theorem len_qs (h : QS w X M v l) : Calls Try.prog 25 #[.pointer (some ⟨X, 0, none⟩)] w fun e w' => e = .returned (.int .i64 l.length) ∧ w = w' := by
  obtain ⟨_, _, _, h⟩ := h; exact len_q h
theorem less_qs (h : QS w X M v l) {i j : Nat} (hi : i < l.length) (hj : j < l.length) :
    Calls Try.prog 53 #[.pointer (some ⟨X, 0, none⟩), .int .i64 i, .int .i64 j] w fun e w' => e = .returned (.bool (lessE (elt l i) (elt l j))) ∧ QS w' X M v l ∧ Tch X M v w w' := by
  obtain ⟨_, _, _, h⟩ := h
  exact (less_q h hi hj).mono fun e w' ⟨he, hb⟩ => ⟨he, ⟨_, _, _, h.below hb⟩, Tch.of_below hb⟩
theorem swap_qs (h : QS w X M v l) {i j : Nat} (hi : i < l.length) (hj : j < l.length) :
    Calls Try.prog 56 #[.pointer (some ⟨X, 0, none⟩), .int .i64 i, .int .i64 j] w fun e w' => e = .returned (.tuple #[]) ∧ QS w' X M v (swp l i j) ∧ Tch X M v w w' := by
  obtain ⟨_, _, _, h⟩ := h
  exact (swap_q h hi hj).mono fun e w' ⟨he, _, _, hq, ht⟩ => ⟨he, ⟨_, _, _, hq⟩, ht⟩
end

theorem par_int {j : Nat} (h : 0 < j) : ((j : Int) - 1).tdiv 2 = (par j : Nat) := by
  unfold par
  rw [Int.tdiv_eq_ediv_of_nonneg (by omega)]
  omega

set_option maxHeartbeats 1600000 in
theorem up_qs (X M : Nat) (v : Value) (l : List Ent) (n j : Nat) (w : World) (h : QS w X M v l) (hn : n ≤ l.length) (hj : j < n) (hb : l.length ≤ 1000000) (hu : UpInv lessE l j n) :
    Calls Try.prog 35 #[.iface 54 (.pointer (some ⟨X, 0, none⟩)), .int .i64 j] w fun e w' => e = .returned (.tuple #[]) ∧
      ∃ l', QS w' X M v l' ∧ l'.Perm l ∧ IsHeap lessE l' n ∧ (∀ k, n ≤ k → elt l' k = elt l k) ∧ Tch X M v w w' := by
  have ml := m_less; have ms := m_swap
  have H := Lib.hid h; have HU := Lib.hid hu
  clear h hu
  go_enter Try.func35, Try.ntmps35
  go_wp2
  go_loopw [1] (fun j wr => ∃ (jj : Nat) (l1 : List Ent), j = .int .i64 jj ∧ jj < n ∧ l1.length = l.length ∧ Hid (QS wr X M v l1) ∧ Hid (l1.Perm l) ∧ Hid (UpInv lessE l1 jj n) ∧ Hid (∀ k, n ≤ k → elt l1 k = elt l k) ∧ Hid (Tch X M v w wr)) (fun j _ => (intOf j).toNat)
  case atStart => exact ⟨j, l, rfl, hj, rfl, H, Lib.hid (List.Perm.refl _), HU, Lib.hid (fun _ _ => rfl), Lib.hid (Tch.refl _ _ _ _)⟩
  case round =>
    obtain ⟨jj, l1, rfl, hjn, hl1, HQ, HP, HU1, HT, HC⟩ := hrel
    by_cases hj0 : jj = 0
    · subst hj0
      go_wp2
      go_end0
      exact ⟨rfl, l1, HQ.out, HP.out, up_done HU1.out (.inl rfl), HT.out, HC.out⟩
    · have hj1 : 0 < jj := by omega
      have e1 := par_int hj1
      have e2 := par_lt hj1
      obtain ⟨p, hp⟩ : ∃ p, par jj = p := ⟨_, rfl⟩
      have HPP := Lib.hid hp
      rw [hp] at e1 e2
      clear hp
      have hpl : p < l1.length := by omega
      have hjl : jj < l1.length := by omega
      have e3 : ((p : Int) == (jj : Int)) = false := by simp; omega
      clear hj0
      cases hless : lessE (elt l1 jj) (elt l1 p)
      · go_wp2_with (go_at_call 53; refine (less_qs HQ.out hjl hpl).mono ?_; rw [hless]; rintro e w1 ⟨rfl, hq1, ht1⟩; have HQ1 := Lib.hid hq1; have HT1 := Lib.hid ht1; clear hq1 ht1)
        go_end0
        exact ⟨rfl, l1, HQ1.out, HP.out, up_done HU1.out (.inr (by rw [HPP.out]; exact hless)), HT.out, HC.out.trans (.refl _ _) HT1.out⟩
      · go_wp2_with (first
          | (go_at_call 53; refine (less_qs HQ.out hjl hpl).mono ?_; rw [hless]; rintro e w1 ⟨rfl, hq1, ht1⟩; have HQ1 := Lib.hid hq1; have HT1 := Lib.hid ht1; clear hq1 ht1)
          | (go_at_call 56; refine (swap_qs HQ1.out hpl hjl).mono ?_; rintro e w2 ⟨rfl, hq2, ht2⟩; have HQ2 := Lib.hid hq2; have HT2 := Lib.hid ht2; clear hq2 ht2))
        go_roundw
        case rel =>
          refine ⟨p, swp l1 p jj, rfl, by omega, (length_swp _ _ _).trans hl1, HQ2, Lib.hid ((swp_perm hpl hjl).trans HP.out), Lib.hid ?_, Lib.hid ?_, Lib.hid ((HC.out.trans (.refl _ _) HT1.out).trans (.refl _ _) HT2.out)⟩
          · have u := up_step less_total (by omega) hjn HU1.out hj1 (by rw [HPP.out]; exact hless)
            rw [HPP.out] at u
            exact u
          · intro k hk
            rw [elt_swp hpl hjl, if_neg (by omega), if_neg (by omega)]
            exact HT.out k hk
        case measure => simp [intOf]; omega
end Go.Proofs.Yticnckclmlejhaa

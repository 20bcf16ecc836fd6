/-
  The walk of layer 6's QueueAny.
-/
import Derived.Test.YticnckclmlejhaaAnyP
import Derived.BigQuiet
import Derived.Deep.QuietTactic
import Derived.Deep.RegionHeld3
namespace Go.Proofs.Yticnckclmlejhaa
open Go.RowKit Go.ChangeMaps Hp

theorem ERow.atN {w : World} {A : Option Addr} {n cap : Nat} {T : List Ent} (h : ERow w (.slice A n cap) T) {j : Nat} (hn : T.length = n) (hj : j < n) :
    ∃ g, A = some ⟨g, 0, none⟩ ∧ w.cell? ⟨g, j * 2, none⟩ = some (.string (elt T j).nm) ∧ w.cell? ⟨g, j * 2 + 1, none⟩ = some (.int .u64 (elt T j).tk) ∧ g < w.heap.size := by
  subst hn
  obtain ⟨g, cap', e, h1, h2⟩ := h.at hj
  injection e with e1 e2 e3
  rw [elt_elem hj]
  exact ⟨g, e1, h1, h2, World.block_lt_of_cell? w _ h1⟩

set_option maxRecDepth 100000 in
set_option maxHeartbeats 1200000 in
theorem any_law (sc : Value) (S : List Ent) (w : World) (hS : S.length ≤ 150) (hs : Sorted S) (hu : Uniq S) (hb : ∀ e ∈ S, e.tk ≤ 18446744073709551615) (before : Int)
    (HB : ∀ wx, Below w.heap.size w wx → Calls Try.prog 9 #[sc] wx fun r w' => ∃ q, r = .returned (.pointer (some ⟨q, 0, none⟩)) ∧ Mine wx w' q S) :
    Calls Try.prog 5 #[sc, .int .u64 before] w fun r w' => r = .returned (.bool true) ∧ Below w.heap.size w w' := by
  have HBB := Lib.hid HB
  have HSO := Lib.hid hs
  have HU := Lib.hid hu
  have HTK := Lib.hid hb
  clear HB hs hu hb
  have hl1 : S.length ≤ 999999 := by omega
  obtain ⟨n, hn⟩ : ∃ n, S.length = n := ⟨_, rfl⟩
  have hn1 : n ≤ 150 := by omega
  have HN := Lib.hid hn
  clear hn
  go_enter Try.func5, Try.ntmps5
  go_wp2_with (first
    | (go_at_call 9; (with_reducible refine (HBB.out _ (Below.refl _ _)).mono ?_); rintro r w1 ⟨q, rfl, h1⟩; have H1 := Lib.hid h1; clear h1)
    | (go_at_call 17; (with_reducible refine (new_mine _).mono ?_); rintro r w2 ⟨p, rfl, h2⟩; have HT : Hid (Two w w2 q p (fun _ => False) S []) := Lib.hid (H1.out.two (fun _ h => h.elim) h2); clear h2)
    | (go_at_call 9; (with_reducible refine (HBB.out _ HT.out.bel).mono ?_); rintro r w3 ⟨l, rfl, h3⟩; have H3 := Lib.hid h3; clear h3)
    | (have D := due_AS HT.out H3.out hl1 18446744073709551615 HTK.out
       go_at_call 15
       (with_reducible refine D.mono ?_)
       clear D
       rintro r w4 ⟨o, rfl, h4⟩
       obtain ⟨A, ca, rfl⟩ := h4.choose_spec.2.2.formN HN.out
       have H4 := Lib.hid h4
       clear h4))
  go_loopw [9] (fun i wr => ∃ (j : Nat) (P : List Ent), i = .int .i64 ((j : Int) - 1) ∧ j ≤ n ∧ Hid (L1 S P j) ∧ Hid (AS w wr q p (.slice A n ca) S S P)) (fun i _ => (intOf i + 1).toNat)
  case atStart => exact ⟨n, [], rfl, Nat.le_refl _, Lib.hid (by rw [← HN.out]; exact L1_start), H4⟩
  case round =>
    obtain ⟨j, P, rfl, hj, HL, HA⟩ := hrel
    clear H4 H1 HT H3
    by_cases hj0 : 0 < j
    · obtain ⟨k, rfl⟩ : ∃ k, j = k + 1 := ⟨j - 1, by omega⟩
      have hkk : ((k + 1 : Nat) : Int) - 1 = (k : Int) := by omega
      rw [hkk]
      obtain ⟨g, rfl, c0, c1, hg⟩ := HA.out.choose_spec.2.2.atN HN.out (j := k) (by omega)
      have D := Lib.hid (put_AS HA.out.swap (Nat.le_trans HL.out.1 (by decide)) (elt S k).nm before)
      have HL' := Lib.hid (L1_step HL.out hS (by rw [HN.out]; omega) before)
      obtain ⟨nm, hnm⟩ : ∃ nm, (elt S k).nm = nm := ⟨_, rfl⟩
      rw [hnm] at c0 D HL'
      clear hnm hkk
      go_wp2_with (go_at_call 18; (with_reducible refine D.out.mono ?_); rintro r w5 ⟨rfl, h5⟩; have H5 := Lib.hid h5; clear h5)
      go_roundw
      case rel => exact ⟨k, _, by go_num, by omega, HL', Lib.hid H5.out.swap⟩
      case measure => simp [intOf]
    · obtain rfl : j = 0 := by omega
      have hkk : ((0 : Nat) : Int) - 1 = -1 := by simp
      rw [hkk]
      have HL2 := Lib.hid (L2_start HL.out)
      clear hkk hj0 HL
      go_wp2_with fail
      go_loopw [10] (fun i wr => ∃ (j : Nat) (P : List Ent), i = .int .i64 (j : Int) ∧ j ≤ n ∧ Hid (L2 S P j) ∧ Hid (AS w wr q p (.slice A n ca) S S P)) (fun i _ => n - (intOf i).toNat)
      case atStart => exact ⟨0, P, rfl, Nat.zero_le _, HL2, HA⟩
      case round =>
        clear HL2 HA
        obtain ⟨j, P, rfl, hj, HL, HA⟩ := hrel
        by_cases hjn : j < n
        · have hkn : (j * 7 + 3) % n < n := Nat.mod_lt _ (by omega)
          obtain ⟨k, hk⟩ : ∃ k, (j * 7 + 3) % n = k := ⟨_, rfl⟩
          rw [hk] at hkn
          have hm1 : IntKind.i64.wrap ((j : Int) * 7) = (j : Int) * 7 := IntWalk.i64_in _ (by omega)
          have hm2 : IntKind.i64.wrap ((j : Int) * 7 + 3) = (j : Int) * 7 + 3 := IntWalk.i64_in _ (by omega)
          have hm3 : ((j : Int) * 7 + 3) % (n : Int) = (k : Int) := by rw [← hk]; simp
          have hm4 : Int.tmod ((j : Int) * 7 + 3) (n : Int) = (k : Int) := by rw [Int.tmod_eq_emod_of_nonneg (by omega)]; exact hm3
          obtain ⟨g, rfl, c0, c1, hg⟩ := HA.out.choose_spec.2.2.atN HN.out hkn
          obtain ⟨g', he, d0, d1, _⟩ := HA.out.choose_spec.2.2.atN HN.out hjn
          obtain rfl : g = g' := by injection he with he; injection he
          clear he
          obtain ⟨f1, f2, HL'⟩ := L2_step HL.out HU.out (i := j) (k := k) (by rw [HN.out]; exact hjn) (by rw [HN.out]; exact hkn)
          have HL2 := Lib.hid HL'
          have hP0 := HL.out.1
          have hP1 : P.length ≤ 999999 := by omega
          have hP2 := putE_len (elt S k) P
          have D1 : Hid (∀ wx, Below wr.heap.size wr wx → Calls Try.prog 18 #[.pointer (some ⟨p, 0, none⟩), .string (elt S k).nm, .int .u64 (elt S k).tk] wx fun r w' => r = .returned (.bool true) ∧ AS w w' q p (.slice (some ⟨g, 0, none⟩) n ca) S S (putE (elt S k) P)) := Lib.hid fun wx hx =>
            (put_AS (HA.out.below hx).swap hP1 (elt S k).nm (elt S k).tk).mono fun r w' ⟨h1, h2⟩ => ⟨by rw [h1, f1], h2.swap⟩
          have D2 : Hid (∀ wy wx, AS w wy q p (.slice (some ⟨g, 0, none⟩) n ca) S S (putE (elt S k) P) → Below wy.heap.size wy wx → Calls Try.prog 18 #[.pointer (some ⟨p, 0, none⟩), .string (elt S j).nm, .int .u64 (elt S j).tk] wx fun r w' => r = .returned (.bool true) ∧ AS w w' q p (.slice (some ⟨g, 0, none⟩) n ca) S S (putE (elt S j) (putE (elt S k) P))) := Lib.hid fun wy wx ha hx =>
            (put_AS (ha.below hx).swap (by omega) (elt S j).nm (elt S j).tk).mono fun r w' ⟨h1, h2⟩ => ⟨by rw [h1, f2], h2.swap⟩
          have E : Hid (∀ wy P', AS w wy q p (.slice (some ⟨g, 0, none⟩) n ca) S S P' → wy.cell? ⟨g, k * 2, none⟩ = some (.string (elt S k).nm) ∧ wy.cell? ⟨g, k * 2 + 1, none⟩ = some (.int .u64 (elt S k).tk) ∧ wy.cell? ⟨g, j * 2, none⟩ = some (.string (elt S j).nm) ∧ wy.cell? ⟨g, j * 2 + 1, none⟩ = some (.int .u64 (elt S j).tk)) := Lib.hid fun wy P' ha => by
            obtain ⟨g1, e1, c0, c1, _⟩ := ha.choose_spec.2.2.atN HN.out hkn
            obtain ⟨g2, e2, d0, d1, _⟩ := ha.choose_spec.2.2.atN HN.out hjn
            injection e1 with e1; injection e1 with e1
            injection e2 with e2; injection e2 with e2
            subst e1 e2
            exact ⟨c0, c1, d0, d1⟩
          clear f1 f2 HL' hP0 hP1 hP2 hk hm3
          have hn0 : ((n : Int) == 0) = false := by simp; omega
          have hn00 : ¬ (n = 0) := by omega
          have hnp : 0 < n := by omega
          have hn01 : ¬ ((n : Int) = 0) := by omega
          have hn02 : (n : Int) ≠ 0 := hn01
          have hn03 : (0 : Int) < (n : Int) := by omega
          have hn04 : (1 : Int) ≤ (n : Int) := by omega
          have hm5 : IntKind.i64.wrap (Int.tmod ((j : Int) * 7 + 3) (n : Int)) = (k : Int) := by rw [hm4]; exact IntWalk.i64_in _ (by omega)
          obtain ⟨nk, hnk⟩ : ∃ x, (elt S k).nm = x := ⟨_, rfl⟩
          obtain ⟨tk, htk⟩ : ∃ x, (elt S k).tk = x := ⟨_, rfl⟩
          obtain ⟨nj, hnj⟩ : ∃ x, (elt S j).nm = x := ⟨_, rfl⟩
          obtain ⟨tj, htj⟩ : ∃ x, (elt S j).tk = x := ⟨_, rfl⟩
          rw [hnk, htk, hnj, htj] at E
          rw [hnk, htk] at D1
          rw [hnj, htj] at D2
          rw [hnk] at c0; rw [htk] at c1; rw [hnj] at d0; rw [htj] at d1
          clear hnk htk hnj htj
          go_wp2_with fail
          go_region_held3 (fun w' => w'.cell? ⟨g, k * 2, none⟩ = some (.string nk) ∧ w'.cell? ⟨g, k * 2 + 1, none⟩ = some (.int .u64 tk) ∧ w'.cell? ⟨g, j * 2, none⟩ = some (.string nj) ∧ w'.cell? ⟨g, j * 2 + 1, none⟩ = some (.int .u64 tj)) (first | exact ⟨c0, c1, d0, d1⟩ | exact E.out _ _ hw6 | exact E.out _ _ hw5)
            (first
              | (go_at_call 18; (with_reducible refine (D1.out _ (Below.refl _ _).drew).mono ?_); rintro e w5 ⟨rfl, hw5⟩)
              | (go_at_call 18; (with_reducible refine (D2.out _ _ hw5 (Below.refl _ _)).mono ?_); rintro e w6 ⟨rfl, hw6⟩))
          have HW6 := Lib.hid hw6
          clear hw5 hw6 E D1 D2 HA hm1 hm2 hm4 hm5 hn0 hn00 hn01 hn02 hn04
          go_wp2_with fail
          go_roundw
          case rel => exact ⟨j + 1, _, by go_num, by omega, HL2, HW6⟩
          case measure => simp [intOf]; omega
        · obtain rfl : n = j := by omega
          have hPS : S = P := Eq.symm <| L2_end (by rw [HN.out]; exact HL.out) HSO.out HU.out HA.out.swap.sorted HA.out.swap.uniq
          subst hPS
          clear HL
          go_wp2_with fail
          go_loopw [11] (fun i wr => ∃ (j : Nat), i = .int .i64 (j : Int) ∧ j ≤ n ∧ Hid (AS w wr q p (.slice A n ca) S (S.drop j) (S.drop j))) (fun i _ => n - (intOf i).toNat)
          case atStart => exact ⟨0, rfl, Nat.zero_le _, HA⟩
          case round =>
            clear HA
            obtain ⟨j, rfl, hj, HA⟩ := hrel
            by_cases hjn : j < n
            · obtain ⟨g, rfl, c0, c1, hg⟩ := HA.out.choose_spec.2.2.atN HN.out hjn
              have hjS : j < S.length := by rw [HN.out]; exact hjn
              have hd : S.drop j = elt S j :: S.drop (j + 1) := by rw [elt_elem hjS]; exact List.drop_eq_getElem_cons hjS
              obtain ⟨e, he⟩ : ∃ e, elt S j = e := ⟨_, rfl⟩
              obtain ⟨R, hR⟩ : ∃ R, S.drop (j + 1) = R := ⟨_, rfl⟩
              have hRl : (e :: R).length ≤ 999999 := by rw [← he, ← hR, ← hd]; simp; omega
              rw [hd, he, hR] at HA
              rw [he] at c0 c1
              have HR := Lib.hid hR; have HE := Lib.hid he
              clear hd he hR
              have D1 : Hid (Calls Try.prog 11 #[.pointer (some ⟨q, 0, none⟩)] wr fun r w' => r = .returned (.tuple #[.agg #[.string e.nm, .int .u64 e.tk], .bool true]) ∧ AS w w' q p (.slice (some ⟨g, 0, none⟩) n ca) S R (e :: R)) := Lib.hid (pop_AS HA.out hRl)
              go_wp2_with (first
                | (go_at_call 11; (with_reducible refine D1.out.mono ?_); rintro r w5 ⟨rfl, h5⟩
                   have D2 : Hid (Calls Try.prog 11 #[.pointer (some ⟨p, 0, none⟩)] (w5.alloc (.cells #[.string e.nm, .int .u64 e.tk] 28)) fun r w' => r = .returned (.tuple #[.agg #[.string e.nm, .int .u64 e.tk], .bool true]) ∧ AB w w' p q (.slice (some ⟨g, 0, none⟩) n ca) S R R w5.heap.size e) := Lib.hid (pop_AB (h5.box e).swap hRl)
                   clear h5)
                | (go_at_call 11; (with_reducible refine D2.out.mono ?_); rintro r w6 ⟨rfl, h6⟩
                   have H6 := Lib.hid h6
                   obtain ⟨_, _, _, hrow, _, b0, b1⟩ := h6
                   obtain ⟨g', hg', d0, d1, hgs⟩ := hrow.atN HN.out hjn
                   obtain rfl : g = g' := by injection hg' with hg'; injection hg'
                   rw [HE.out] at d0 d1
                   clear hrow hg'))
              have hb1 : w5.heap.size < w6.heap.size := World.block_lt_of_cell? w6 _ b0
              go_wp2_with fail
              go_quiet (fail)
              go_wp2_with fail
              go_roundw
              case rel => exact ⟨j + 1, by go_num, by omega, by rw [HR.out]; exact Lib.hid (H6.out.as.swap.below (below_box _ _ _))⟩
              case measure => simp [intOf]; omega
            · obtain rfl : n = j := by omega
              have hd : S.drop n = [] := by rw [List.drop_eq_nil_iff, HN.out]; exact Nat.le_refl _
              rw [hd] at HA
              clear hd
              go_wp2_with (first
                | (go_at_call 14; (with_reducible refine (alive_true _).mono ?_); rintro r w8 ⟨rfl, hb8⟩; have H8 := Lib.hid (HA.out.below hb8); clear hb8)
                | (go_at_call 10; (with_reducible refine (len_AS H8.out.swap).mono ?_); rintro r w9 ⟨rfl, rfl⟩)
                | (go_at_call 10; (with_reducible refine (len_AS H8.out).mono ?_); rintro r w9 ⟨rfl, rfl⟩))
              go_ret
              exact ⟨rfl, H8.out.bel⟩
end Go.Proofs.Yticnckclmlejhaa

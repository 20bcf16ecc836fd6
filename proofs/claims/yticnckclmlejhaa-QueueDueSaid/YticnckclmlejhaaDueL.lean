/-
  The walk of layer 6's QueueDue.
-/
import Derived.Test.YticnckclmlejhaaTwoD
import Derived.Lib.MinMax
import Derived.BigQuiet
import Derived.Deep.QuietTactic
namespace Go.Proofs.Yticnckclmlejhaa
open Go.RowKit Go.ChangeMaps Hp

set_option maxRecDepth 100000 in
set_option maxHeartbeats 3200000 in
theorem dueL_law (sc : Value) (S : List Ent) (w : World) (hS : S.length ≤ 150) (hs : Sorted S) (now later m : Int) (hm : max now later = m)
    (HB : ∀ wx, Below w.heap.size w wx → Calls Try.prog 9 #[sc] wx fun r w' => ∃ q, r = .returned (.pointer (some ⟨q, 0, none⟩)) ∧ Mine wx w' q S) :
    Calls Try.prog 4 #[sc, .int .u64 now, .int .u64 later] w fun r w' => r = .returned (.bool true) ∧ Below w.heap.size w w' := by
  have HBB := Lib.hid HB
  have HSO := Lib.hid hs
  have hnm : now ≤ m := by omega
  clear HB hs
  obtain ⟨A, hA⟩ : ∃ A, S.takeWhile (duep now) = A := ⟨_, rfl⟩
  obtain ⟨S1, hS1⟩ : ∃ S1, S.dropWhile (duep now) = S1 := ⟨_, rfl⟩
  obtain ⟨B, hB⟩ : ∃ B, S1.takeWhile (duep m) = B := ⟨_, rfl⟩
  obtain ⟨R, hR⟩ : ∃ R, S.dropWhile (duep m) = R := ⟨_, rfl⟩
  have h1 := tw_split hnm S
  rw [hS1, hR, hB, hA] at h1
  obtain ⟨hC, hR2⟩ := h1
  have hl1 : S.length ≤ 999999 := by omega
  have hl2 : S1.length ≤ 999999 := by rw [← hS1]; have := (List.dropWhile_sublist (duep now) (l := S)).length_le; omega
  obtain ⟨na, hna⟩ : ∃ n, A.length = n := ⟨_, rfl⟩
  obtain ⟨nb, hnb⟩ : ∃ n, B.length = n := ⟨_, rfl⟩
  obtain ⟨nc, hnc⟩ : ∃ n, (A ++ B).length = n := ⟨_, rfl⟩
  have hnab : na + nb = nc := by rw [← hna, ← hnb, ← hnc, List.length_append]
  have hnc1 : nc ≤ 150 := by rw [← hnc, ← hC]; have := (List.takeWhile_sublist (duep m) (l := S)).length_le; omega
  have hna1 : na ≤ nc := by omega
  have hnb1 : nb ≤ nc := by omega
  have e1 : (((na : Int) + (nb : Int)) != (nc : Int)) = false := by simp; omega
  obtain ⟨nr, hnr⟩ : ∃ n, R.length = n := ⟨_, rfl⟩
  have HNAB := Lib.hid hnab
  have HNA := Lib.hid hna; have HNB := Lib.hid hnb; have HNC := Lib.hid hnc; have HNR := Lib.hid hnr
  clear hnab hna hnb hnc hnr
  have HA := Lib.hid hA; have HS1 := Lib.hid hS1; have HB := Lib.hid hB; have HR := Lib.hid hR; have HC := Lib.hid hC; have HR2 := Lib.hid hR2
  clear hA hS1 hB hR hC hR2
  go_enter Try.func4, Try.ntmps4
  go_wp2_with (first
    | (go_at_call 9; (with_reducible refine (HBB.out _ (Below.refl _ _)).mono ?_); rintro r w1 ⟨q, rfl, h1⟩; have H1 := Lib.hid h1; clear h1)
    | (go_at_call 9; (with_reducible refine (HBB.out _ H1.out.bel).mono ?_); rintro r w2 ⟨p, rfl, h2⟩; have HT : Hid (Two w w2 q p (fun _ => False) S S) := Lib.hid (H1.out.two (fun _ h => h.elim) h2); clear h2)
    | (have D := due_two HT.out hl1 now
       rw [HA.out, HS1.out] at D
       go_at_call 15
       (with_reducible refine D.mono ?_)
       clear D
       rintro r w3 ⟨oa, rfl, t3, _, ra⟩
       obtain ⟨Aa, ca, rfl⟩ := ra.formN HNA.out
       have HT3 := Lib.hid t3
       have RA := Lib.hid ra
       clear t3 ra)
    | (have D := due_two HT3.out hl2 m
       rw [HB.out, HR2.out] at D
       go_at_call 15
       (with_reducible refine D.mono ?_)
       clear D
       rintro r w4 ⟨ob, rfl, t4, k4, rb⟩
       obtain ⟨Ab, cb, rfl⟩ := rb.formN HNB.out
       have HT4 := Lib.hid t4
       have RB := Lib.hid rb
       have RA4 := Lib.hid (RA.out.kept k4 (fun g hg => .inr hg))
       clear t4 k4 rb)
    | (have D := due_two HT4.out.symm hl1 m
       rw [HC.out, HR.out] at D
       go_at_call 15
       (with_reducible refine D.mono ?_)
       clear D
       rintro r w5 ⟨oc, rfl, t5, k5, rc⟩
       obtain ⟨Ac, cc, rfl⟩ := rc.formN HNC.out
       have HT5 := Lib.hid t5
       have RC := Lib.hid rc
       have RB5 := Lib.hid (RB.out.kept k5 (fun g hg => .inr hg))
       have RA5 := Lib.hid (RA4.out.kept k5 (fun g hg => .inl (.inr hg)))
       clear t5 k5 rc)
    | (go_at_call 10; (with_reducible refine (len_two HT5.out).mono ?_); rw [HNR.out]; rintro r w6 ⟨rfl, rfl⟩)
    | (go_at_call 10; (with_reducible refine (len_two HT5.out.symm).mono ?_); rw [HNR.out]; rintro r w6 ⟨rfl, rfl⟩))
  have HT6 : Hid (Two w w5 p q (fun _ => False) R R) := Lib.hid (HT5.out.less fun _ h => h.elim)
  go_loopw [12] (fun i wr => ∃ j : Nat, i = .int .i64 j ∧ j ≤ nc ∧ Hid (Two w wr p q (fun _ => False) R R) ∧ Hid (ERow wr (.slice Ac nc cc) (A ++ B)) ∧ Hid (ERow wr (.slice Ab nb cb) B) ∧ Hid (ERow wr (.slice Aa na ca) A)) (fun i _ => nc - (intOf i).toNat)
  case atStart => exact ⟨0, rfl, Nat.zero_le _, HT6, RC, RB5, RA5⟩
  case round =>
    obtain ⟨j, rfl, hj, HZ, ZC, ZB, ZA⟩ := hrel
    clear HT6 RC RB5 RA5 HT5 RA4 RB HT4 RA HT3 HT
    by_cases hjc : j < nc
    · obtain ⟨gc, ccc, hec, c0, c1⟩ := ZC.out.at (j := j) (by rw [HNC.out]; exact hjc)
      obtain rfl : Ac = some ⟨gc, 0, none⟩ := by injection hec
      clear hec
      by_cases hja : j < na
      · obtain ⟨ga, caa, hea, a0, a1⟩ := ZA.out.at (j := j) (by rw [HNA.out]; exact hja)
        obtain rfl : Aa = some ⟨ga, 0, none⟩ := by injection hea
        clear hea
        have hAj : j < A.length := by rw [HNA.out]; exact hja
        rw [List.getElem_append_left hAj] at c0 c1
        have hle1 : A[j].tk ≤ now := tw_mem (S := S) (by rw [HA.out]; exact List.getElem_mem hAj)
        obtain ⟨e, he⟩ : ∃ e, A[j] = e := ⟨_, rfl⟩
        rw [he] at c0 c1 a0 a1 hle1
        clear he
        have g1 : (decide (now < e.tk)) = false := by simp; omega
        have g2 : (decide (m < e.tk)) = false := by simp; omega
        have hgas : ga < wr.heap.size := World.block_lt_of_cell? wr _ a0
        have g3 : decide (j < na) = true := by simp; omega
        have g4 : decide (na ≤ j) = false := by simp; omega
        go_wp2_with fail
        go_quiet (fail)
        go_wp2_with fail
        go_roundw
        case rel => exact ⟨j + 1, by go_num, by omega, Lib.hid (HZ.out.below (below_box wr _ _)).1, Lib.hid (ZC.out.below (below_box wr _ _)), Lib.hid (ZB.out.below (below_box wr _ _)), Lib.hid (ZA.out.below (below_box wr _ _))⟩
        case measure => simp [intOf]; omega
      · have hAj : A.length ≤ j := by rw [HNA.out]; omega
        have hBj : j - A.length < B.length := by rw [HNA.out, HNB.out]; have := HNAB.out; omega
        obtain ⟨gb, cbb, heb, b0, b1⟩ := ZB.out.at hBj
        obtain rfl : Ab = some ⟨gb, 0, none⟩ := by injection heb
        clear heb
        rw [List.getElem_append_right hAj] at c0 c1
        have hle1 : now < B[j - A.length].tk := dw_mem HSO.out (by rw [HS1.out]; exact (List.takeWhile_sublist (duep m)).subset (by rw [HB.out]; exact List.getElem_mem hBj))
        have hle2 : B[j - A.length].tk ≤ m := tw_mem (S := S1) (by rw [HB.out]; exact List.getElem_mem hBj)
        obtain ⟨e, he⟩ : ∃ e, B[j - A.length] = e := ⟨_, rfl⟩
        rw [he] at c0 c1 b0 b1 hle1 hle2
        clear he
        obtain ⟨k, hk⟩ : ∃ k, j - A.length = k := ⟨_, rfl⟩
        rw [hk] at b0 b1 hBj
        rw [HNA.out] at hk
        rw [HNB.out] at hBj
        have hw : IntKind.i64.wrap ((j : Int) - (na : Int)) = (k : Int) := by rw [IntWalk.i64_in _ (by omega)]; omega
        have g1 : (decide (e.tk ≤ now)) = false := by simp; omega
        have g2 : (decide (m < e.tk)) = false := by simp; omega
        have hgbs : gb < wr.heap.size := World.block_lt_of_cell? wr _ b0
        have g3 : decide (j < na) = false := by simp; omega
        have g4 : decide (na ≤ j) = true := by simp; omega
        have HK := Lib.hid hk
        clear hk hAj
        go_wp2_with fail
        go_quiet (fail)
        clear hw
        go_wp2_with fail
        go_roundw
        case rel => exact ⟨j + 1, by go_num, by omega, Lib.hid (HZ.out.below (below_box wr _ _)).1, Lib.hid (ZC.out.below (below_box wr _ _)), Lib.hid (ZB.out.below (below_box wr _ _)), Lib.hid (ZA.out.below (below_box wr _ _))⟩
        case measure => simp [intOf]; omega
    · have hjn : j = nc := by omega
      cases R with
      | nil =>
        go_wp2_with (first
          | (go_at_call 16; (with_reducible refine (front_two HZ.out).mono ?_); rintro r w7 ⟨rfl, t7, _, b7⟩; have HT7 := Lib.hid t7; clear t7 b7)
          | (go_at_call 14; (with_reducible refine (alive_true _).mono ?_); rintro r w8 ⟨rfl, hb8⟩; have HT8 := Lib.hid ((HT7.out.below ((Below.refl _ w7).alloc (Nat.le_refl _) _)).1.below hb8).1; clear hb8))
        go_ret
        exact ⟨rfl, HT8.out.bel⟩
      | cons e R =>
        have hle : m < e.tk := dw_mem (S := S) HSO.out (by rw [HR.out]; exact List.mem_cons_self)
        have g1 : (decide (m < e.tk)) = true := by simp; omega
        go_wp2_with (first
          | (have D := front_two HZ.out
             have D2 : Calls Try.prog 16 #[.pointer (some ⟨p, 0, none⟩)] wr fun r w' => r = .returned (.tuple #[.agg #[.string e.nm, .int .u64 e.tk], .bool true]) ∧ Two w w' p q (fun _ => False) (e :: R) (e :: R) ∧ Kept (fun _ => False) wr w' ∧ Below wr.heap.size wr w' := D
             go_at_call 16; (with_reducible refine D2.mono ?_); clear D D2; rintro r w7 ⟨rfl, t7, _, b7⟩; have HT7 := Lib.hid t7; clear t7 b7)
          | (go_at_call 14; (with_reducible refine (alive_true _).mono ?_); rintro r w8 ⟨rfl, hb8⟩; have HT8 := Lib.hid ((HT7.out.below ((Below.refl _ w7).alloc (Nat.le_refl _) _)).1.below hb8).1
             have z1 : w8.cell? ⟨w7.heap.size, 1, none⟩ = some (.int .u64 e.tk) := (hb8.cell (p := ⟨w7.heap.size, 1, none⟩) (by simp)).trans (by go_simp)
             clear hb8))
        go_ret
        exact ⟨rfl, HT8.out.bel⟩
end Go.Proofs.Yticnckclmlejhaa

/-
  The walk of layer 6's QueuePlays.
-/
import Derived.Test.YticnckclmlejhaaPlayM
namespace Go.Proofs.Yticnckclmlejhaa
open Go.RowKit Go.ChangeMaps Hp

set_option maxRecDepth 100000 in
set_option maxHeartbeats 3200000 in
theorem plays_law (b off n0 cap0 : Nat) (K T : Nat → Int) (Nm : Nat → ByteArray) (w : World) (hA : Acts w b off n0 K T Nm) :
    Calls Try.prog 6 #[.slice (some ⟨b, off, none⟩) n0 cap0] w fun r w' => r = .returned (.bool true) ∧ Below w.heap.size w w' := by
  have HA := Lib.hid hA
  clear hA
  go_enter Try.func6, Try.ntmps6
  go_wp2_with (go_at_call 17; (with_reducible refine (new_mine _).mono ?_); rintro r w1 ⟨q, rfl, h1⟩
               have HQ : Hid (QL w w1 q [] none []) := Lib.hid (by obtain ⟨B, k1, k2, k3⟩ := h1; exact ⟨B, k1, k2, k3, .inl rfl, fun h => absurd rfl h⟩)
               clear h1)
  go_loopw [4, 5] (fun lv i wr => ∃ (j : Nat) (S : List Ent) (A : Option Addr) (m cap : Nat), i = .int .i64 (j : Int) ∧ lv = .slice A m cap ∧ j ≤ n0 ∧ j ≤ 150 ∧ m ≤ j ∧ m ≤ cap ∧ cap ≤ maxLen ∧ Hid (AF A cap) ∧ Hid (S.length = m) ∧ Hid (QL w wr q S A S)) (fun _ i _ => n0 - (intOf i).toNat)
  case atStart => exact ⟨0, [], none, 0, 0, rfl, rfl, Nat.zero_le _, Nat.zero_le _, Nat.le_refl _, Nat.le_refl _, Nat.zero_le _, Lib.hid (.inl ⟨rfl, rfl⟩), Lib.hid rfl, HQ⟩
  case round =>
    clear HQ
    obtain ⟨j, S, A, m, cap, rfl, rfl, hj1, hj2, hmj, hmc, hcm, HAF, HM, HQ⟩ := hrel
    unfold maxLen at hcm
    by_cases hc1 : j < n0
    · by_cases hc2 : j < 150
      · have hA := (HA.out.below HQ.out.bel HA.out.1)
        obtain ⟨c0, c1, c2⟩ := hA.2 j hc1
        have hbl : b < wr.heap.size := hA.1
        clear hA
        obtain ⟨k, hk⟩ : ∃ k, K j = k := ⟨_, rfl⟩
        obtain ⟨a, ha⟩ : ∃ a, Nm j = a := ⟨_, rfl⟩
        obtain ⟨t, ht⟩ : ∃ t, T j = t := ⟨_, rfl⟩
        rw [hk] at c0; rw [ha] at c1; rw [ht] at c2
        clear hk ha ht
        have p1 : (0 : Int) ≤ (j : Int) := by omega
        have p2 : (j : Int) < (n0 : Int) := by omega
        have hm9 : m ≤ 999999 := by omega
        have hSl : S.length ≤ 999999 := by rw [HM.out]; exact hm9
        have HQE := Lib.hid (HQ.out.box (.cells #[.int .i64 k, .string a, .int .u64 t] 44))
        have HE : Hid (ActAt (wr.alloc (.cells #[.int .i64 k, .string a, .int .u64 t] 44)) wr.heap.size k a t) := Lib.hid ⟨by go_simp, by go_simp, by go_simp⟩
        by_cases hs : a.size ≤ 40
        · have e0 : ((40 : Int) < (a.size : Int)) = False := by simp; omega
          obtain ⟨bb, hbb⟩ : ∃ bb, (fnd S a).isSome = bb := ⟨_, rfl⟩
          have HBB := Lib.hid hbb
          clear hbb
          have D1 : Hid (Calls Try.prog 19 #[.slice A m cap, .string a] (wr.alloc (.cells #[.int .i64 k, .string a, .int .u64 t] 44)) (FindP S a (wr.alloc (.cells #[.int .i64 k, .string a, .int .u64 t] 44)))) := Lib.hid (find_ref A m cap S a _ HQE.out.ql.row HM.out hm9)
          by_cases hk1 : k = 1
          · subst hk1
            have e1 : ((1 : Int) == 1) = true := rfl
            have D2 : Hid (Calls Try.prog 18 #[.pointer (some ⟨q, 0, none⟩), .string a, .int .u64 t] (wr.alloc (.cells #[.int .i64 1, .string a, .int .u64 t] 44)) fun r w' => r = .returned (.bool bb) ∧ QD w w' q (putE ⟨a, t⟩ S) A S wr.heap.size ∧ w'.heap[wr.heap.size]? = (wr.alloc (.cells #[.int .i64 1, .string a, .int .u64 t] 44)).heap[wr.heap.size]?) := Lib.hid (by have := put_QD HQE.out hSl a t; rw [HBB.out] at this; exact this)
            have HSS := Lib.hid HQ.out.sorted
            have HPL := Lib.hid (putE_len ⟨a, t⟩ S)
            go_wp2_with (first
              | (go_at_call 19; (with_reducible refine D1.out.mono ?_); rintro r w2 ⟨x, rfl, hx, rfl⟩; rw [HBB.out] at hx)
              | (go_at_call 18; (with_reducible refine D2.out.mono ?_); rintro r w3 ⟨rfl, h3, k3⟩
                 have H3 := Lib.hid h3; have HE3 := Lib.hid (HE.out.keep k3)
                 obtain ⟨x0, x1, x2⟩ := HE3.out
                 have hE3 : wr.heap.size < w3.heap.size := h3.lt
                 clear h3 k3)
              | (have D3 := put_ref A m cap S a t w3 H3.out.ql.row HM.out hm9 HSS.out
                 go_at_call 20; (with_reducible refine D3.mono ?_); clear D3; rintro r w4 ⟨o, rfl, hd⟩
                 obtain ⟨A', cap', rfl, hc', hcm', haf, h4, k4⟩ := H3.out.new hd
                 have H4 := Lib.hid h4; have HE4 := Lib.hid (HE3.out.keep k4)
                 obtain ⟨y0, y1, y2⟩ := HE4.out
                 have hE4 : wr.heap.size < w4.heap.size := h4.lt
                 have HAF' := Lib.hid haf
                 clear h4 k4 hd haf)
              | (have D5 := stands_law q _ cap' A' (putE ⟨a, t⟩ S) a w w4 H4.out.ql rfl (by have := HPL.out; have := HM.out; omega)
                 go_at_call 24; (with_reducible refine D5.mono ?_); clear D5; rintro r w5 ⟨rfl, hb5⟩
                 have H5 := Lib.hid (H4.out.below hb5).1
                 clear hb5)
              | fail)
            go_roundw
            case rel => exact ⟨j + 1, putE ⟨a, t⟩ S, A', _, cap', by go_num, rfl, by omega, by omega, by have := HPL.out; have := HM.out; omega, hc', hcm', HAF', Lib.hid rfl, Lib.hid H5.out.ql⟩
            case measure => simp [intOf]; omega
          · have e1 : (k == 1) = false := by simp [hk1]
            by_cases hk2 : k = 2
            · subst hk2
              have e2 : ((2 : Int) == 2) = true := rfl
              have D2 : Hid (Calls Try.prog 13 #[.pointer (some ⟨q, 0, none⟩), .string a] (wr.alloc (.cells #[.int .i64 2, .string a, .int .u64 t] 44)) fun r w' => r = .returned (.bool bb) ∧ QD w w' q (fltr a S) A S wr.heap.size ∧ w'.heap[wr.heap.size]? = (wr.alloc (.cells #[.int .i64 2, .string a, .int .u64 t] 44)).heap[wr.heap.size]?) := Lib.hid (by have := drop_QD HQE.out hSl a; rw [HBB.out] at this; exact this)
              have HPL := Lib.hid (fltr_length a S)
              go_wp2_with (first
                | (go_at_call 19; (with_reducible refine D1.out.mono ?_); rintro r w2 ⟨x, rfl, hx, rfl⟩; rw [HBB.out] at hx)
                | (go_at_call 13; (with_reducible refine D2.out.mono ?_); rintro r w3 ⟨rfl, h3, k3⟩
                   have H3 := Lib.hid h3; have HE3 := Lib.hid (HE.out.keep k3)
                   obtain ⟨x0, x1, x2⟩ := HE3.out
                   have hE3 : wr.heap.size < w3.heap.size := h3.lt
                   clear h3 k3)
                | (have D3 := drop_ref A m cap S a w3 H3.out.ql.row HM.out hm9
                   go_at_call 21; (with_reducible refine D3.mono ?_); clear D3; rintro r w4 ⟨o, rfl, hd⟩
                   obtain ⟨A', cap', rfl, hc', hcm', haf, h4, k4⟩ := H3.out.new hd
                   have H4 := Lib.hid h4; have HE4 := Lib.hid (HE3.out.keep k4)
                   obtain ⟨y0, y1, y2⟩ := HE4.out
                   have hE4 : wr.heap.size < w4.heap.size := h4.lt
                   have HAF' := Lib.hid haf
                   clear h4 k4 hd haf)
                | (have D5 := stands_law q _ cap' A' (fltr a S) a w w4 H4.out.ql rfl (by have := HPL.out; have := HM.out; omega)
                   go_at_call 24; (with_reducible refine D5.mono ?_); clear D5; rintro r w5 ⟨rfl, hb5⟩
                   have H5 := Lib.hid (H4.out.below hb5).1
                   clear hb5)
                | fail)
              go_roundw
              case rel => exact ⟨j + 1, fltr a S, A', _, cap', by go_num, rfl, by omega, by omega, by have := HPL.out; have := HM.out; omega, hc', hcm', HAF', Lib.hid rfl, Lib.hid H5.out.ql⟩
              case measure => simp [intOf]; omega
            · have e2 : (k == 2) = false := by simp [hk2]
              by_cases hk3 : k = 3
              · subst hk3
                have e3 : ((3 : Int) == 3) = true := rfl
                cases S with
                | nil =>
                  have D2 : Hid (Calls Try.prog 11 #[.pointer (some ⟨q, 0, none⟩)] (wr.alloc (.cells #[.int .i64 3, .string a, .int .u64 t] 44)) fun r w' => r = .returned (.tuple #[.agg #[.string ByteArray.empty, .int .u64 0], .bool false]) ∧ QD w w' q [] A [] wr.heap.size ∧ w'.heap[wr.heap.size]? = (wr.alloc (.cells #[.int .i64 3, .string a, .int .u64 t] 44)).heap[wr.heap.size]?) := Lib.hid (pop_QD HQE.out hSl)
                  have hm0 : ¬ 0 < m := by rw [← HM.out]; simp
                  have g0 : decide (0 < m) = false := by simp; omega
                  go_wp2_with (first
                    | (go_at_call 19; (with_reducible refine D1.out.mono ?_); rintro r w2 ⟨x, rfl, hx, rfl⟩; rw [HBB.out] at hx)
                    | (go_at_call 11; (with_reducible refine D2.out.mono ?_); rintro r w3 ⟨rfl, h3, k3⟩
                       have H3 := Lib.hid h3; have HE3 := Lib.hid (HE.out.keep k3)
                       obtain ⟨x0, x1, x2⟩ := HE3.out
                       have hE3 : wr.heap.size < w3.heap.size := h3.lt
                       clear h3 k3)
                    | fail)
                  go_quiet (fail)
                  have H4 := Lib.hid (H3.out.below (below_box w3 (.cells #[.string ByteArray.empty, .int .u64 0] 28) nq)).1
                  go_wp2_with (first
                    | (have D5 := stands_law q m cap A [] a w _ H4.out.ql HM.out hm9
                       go_at_call 24; (with_reducible refine D5.mono ?_); clear D5; rintro r w5 ⟨rfl, hb5⟩
                       have H5 := Lib.hid (H4.out.below hb5).1
                       clear hb5)
                    | fail)
                  go_roundw
                  case rel => exact ⟨j + 1, [], A, m, cap, by go_num, rfl, by omega, by omega, by omega, hmc, by unfold maxLen; omega, HAF, HM, Lib.hid H5.out.ql⟩
                  case measure => simp [intOf]; omega
                | cons e R =>
                  have D2 : Hid (Calls Try.prog 11 #[.pointer (some ⟨q, 0, none⟩)] (wr.alloc (.cells #[.int .i64 3, .string a, .int .u64 t] 44)) fun r w' => r = .returned (.tuple #[.agg #[.string e.nm, .int .u64 e.tk], .bool true]) ∧ QD w w' q R A (e :: R) wr.heap.size ∧ w'.heap[wr.heap.size]? = (wr.alloc (.cells #[.int .i64 3, .string a, .int .u64 t] 44)).heap[wr.heap.size]?) := Lib.hid (pop_QD HQE.out hSl)
                  have hm1 : m = R.length + 1 := by rw [← HM.out]; simp
                  have HM1 := Lib.hid hm1
                  have hm0 : 0 < m := by omega
                  have hm01 : (0 : Int) < (m : Int) := by omega
                  have hm02 : (1 : Int) ≤ (m : Int) := by omega
                  have g0 : decide (0 < m) = true := by simp; omega
                  clear hm1
                  go_wp2_with (first
                    | (go_at_call 19; (with_reducible refine D1.out.mono ?_); rintro r w2 ⟨x, rfl, hx, rfl⟩; rw [HBB.out] at hx)
                    | (go_at_call 11; (with_reducible refine D2.out.mono ?_); rintro r w3 ⟨rfl, h3, k3⟩
                       have H3 := Lib.hid h3; have HE3 := Lib.hid (HE.out.keep k3)
                       obtain ⟨x0, x1, x2⟩ := HE3.out
                       have hE3 : wr.heap.size < w3.heap.size := h3.lt
                       clear h3 k3)
                    | fail)
                  obtain ⟨g, off', rfl, hg, l0, l1⟩ := H3.out.ql.row.at (j := 0) (by simp)
                  have he0 : elt (e :: R) 0 = e := rfl
                  rw [he0] at l0 l1
                  simp only [Nat.zero_mul, Nat.add_zero] at l0 l1
                  have KK : Hid (∀ wx, Below (w3.alloc (.cells #[.string e.nm, .int .u64 e.tk] 28)).heap.size (w3.alloc (.cells #[.string e.nm, .int .u64 e.tk] 28)) wx → wx.cell? ⟨w3.heap.size, 0, none⟩ = some (.string e.nm) ∧ wx.cell? ⟨w3.heap.size, 1, none⟩ = some (.int .u64 e.tk) ∧ wx.cell? ⟨g, off', none⟩ = some (.string e.nm) ∧ wx.cell? ⟨g, off' + 1, none⟩ = some (.int .u64 e.tk)) := Lib.hid fun wx hx =>
                    ⟨(hx.cell (p := ⟨w3.heap.size, 0, none⟩) (by simp)).trans (by go_simp), (hx.cell (p := ⟨w3.heap.size, 1, none⟩) (by simp)).trans (by go_simp), (hx.cell (p := ⟨g, off', none⟩) (by simp; omega)).trans (by go_simp), (hx.cell (p := ⟨g, off' + 1, none⟩) (by simp; omega)).trans (by go_simp)⟩
                  clear he0 l0 l1 x0 x2
                  go_region_held3 (fun w' => w'.cell? ⟨w3.heap.size, 0, none⟩ = some (.string e.nm) ∧ w'.cell? ⟨w3.heap.size, 1, none⟩ = some (.int .u64 e.tk) ∧ w'.cell? ⟨g, off', none⟩ = some (.string e.nm) ∧ w'.cell? ⟨g, off' + 1, none⟩ = some (.int .u64 e.tk))
                    (first
                      | exact KK.out _ (Below.refl _ _)
                      | exact KK.out _ (Below.refl _ _).drew
                      | exact KK.out _ ((Below.refl _ _).drew.trans hb4)
                      | fail)
                    (first
                      | (go_at_call 22; (with_reducible refine (told_ref _ _ _).mono ?_); rintro r w4 ⟨rfl, hb4⟩)
                      | fail)
                  have HB4 : Hid (Below w3.heap.size w3 w4) := Lib.hid (((Below.refl _ w3).alloc (Nat.le_refl _) _).trans (((Below.refl _ _).drew.trans hb4).mono (by simp)))
                  clear hb4
                  have H4 := Lib.hid (H3.out.below HB4.out).1
                  have HE4 := Lib.hid (HE3.out.keep (H3.out.below HB4.out).2)
                  obtain ⟨y0, y1, y2⟩ := HE4.out
                  by_cases hcap : cap = 1
                  · subst hcap
                    obtain rfl : m = 1 := by omega
                    have hR : R = [] := by have := HM1.out; exact List.length_eq_zero_iff.1 (by omega)
                    subst hR
                    have H6 : Hid (QD w w4 q [] (some ⟨g, off', none⟩) [] wr.heap.size) := Lib.hid (H4.out.drop 1 (.inl rfl))
                    go_wp2_with (first
                      | (have D5 := stands_law q 0 0 (some ⟨g, off', none⟩) [] a w w4 H6.out.ql rfl (by omega)
                         go_at_call 24; (with_reducible refine D5.mono ?_); clear D5; rintro r w5 ⟨rfl, hb5⟩
                         have H5 := Lib.hid (H6.out.below hb5).1
                         clear hb5)
                      | fail)
                    go_roundw
                    case rel => exact ⟨j + 1, [], some ⟨g, off', none⟩, 0, 0, by go_num, rfl, by omega, by omega, by omega, by omega, by unfold maxLen; omega, Lib.hid (.inr ⟨_, _, rfl⟩), Lib.hid rfl, Lib.hid H5.out.ql⟩
                    case measure => simp [intOf]; omega
                  · have H6 : Hid (QD w w4 q R (some ⟨g, off' + 2, none⟩) R wr.heap.size) := Lib.hid (H4.out.drop 1 (.inr fun g1 off1 h => by injection h with h; injection h with h1 h2; subst h1 h2; rfl))
                    have hc3 : ¬ cap - 1 = 0 := by omega
                    have hc4 : 1 < cap := by omega
                    go_wp2_with (first
                      | (have D5 := stands_law q (m - 1) (cap - 1) (some ⟨g, off' + 2, none⟩) R a w w4 H6.out.ql (by have := HM1.out; omega) (by omega)
                         go_at_call 24; (with_reducible refine D5.mono ?_); clear D5; rintro r w5 ⟨rfl, hb5⟩
                         have H5 := Lib.hid (H6.out.below hb5).1
                         clear hb5)
                      | fail)
                    go_roundw
                    case rel => exact ⟨j + 1, R, some ⟨g, off' + 2, none⟩, m - 1, cap - 1, by go_num, rfl, by omega, by omega, by omega, by omega, by unfold maxLen; omega, Lib.hid (.inr ⟨_, _, rfl⟩), Lib.hid (by have := HM1.out; omega), Lib.hid H5.out.ql⟩
                    case measure => simp [intOf]; omega
              · have e3 : (k == 3) = false := by simp [hk3]
                by_cases hk4 : k = 4
                · subst hk4
                  have e4 : ((4 : Int) == 4) = true := rfl
                  have D2 := due_QD HQE.out hSl t
                  have hU := drop_dw t S
                  have HET : Hid (∀ i, i < (S.takeWhile (duep t)).length → elt S i = elt (S.takeWhile (duep t)) i) := Lib.hid fun i hi => elt_tw hi
                  have hTl := (List.takeWhile_sublist (duep t) (l := S)).length_le
                  obtain ⟨U, hUU⟩ : ∃ U, S.dropWhile (duep t) = U := ⟨_, rfl⟩
                  obtain ⟨TT, hTT⟩ : ∃ TT, S.takeWhile (duep t) = TT := ⟨_, rfl⟩
                  rw [hTT] at HET hTl hU D2
                  rw [hUU] at hU D2
                  obtain ⟨nd, hnd⟩ : ∃ nd, TT.length = nd := ⟨_, rfl⟩
                  rw [hnd] at HET hTl hU
                  rw [HM.out] at hTl
                  have HU := Lib.hid hU; have HTT := Lib.hid hTT; have HND := Lib.hid hnd; have HD2 := Lib.hid D2
                  clear hU hUU hTT hnd D2
                  go_wp2_with (first
                    | (go_at_call 19; (with_reducible refine D1.out.mono ?_); rintro r w2 ⟨x, rfl, hx, rfl⟩; rw [HBB.out] at hx)
                    | (go_at_call 15; (with_reducible refine HD2.out.mono ?_); rintro r w3 ⟨o, rfl, h3, k3, r3⟩
                       obtain ⟨Ao, co, rfl⟩ := r3.formN HND.out
                       have H3 := Lib.hid h3; have HE3 := Lib.hid (HE.out.keep k3); have HR3 := Lib.hid r3
                       obtain ⟨x0, x1, x2⟩ := HE3.out
                       have hE3 : wr.heap.size < w3.heap.size := h3.lt
                       clear h3 k3 r3)
                    | (have D3 := due_ref A m cap S t w3 H3.out.ql.row HM.out hm9
                       rw [HTT.out, HND.out] at D3
                       go_at_call 23; (with_reducible refine D3.mono ?_); clear D3; rintro r w4 ⟨rfl, rfl⟩)
                    | fail)
                  obtain ⟨E, hEE⟩ : ∃ E, wr.heap.size = E := ⟨_, rfl⟩
                  rw [hEE] at H3 HE3
                  rw [hEE]
                  clear x0 x1 x2 hE3
                  clear hEE
                  go_loopw [12] (fun kv wz => ∃ kk : Nat, kv = .int .i64 (kk : Int) ∧ kk ≤ nd ∧ Hid (QD w wz q U A S E) ∧ Hid (ActAt wz E 4 a t) ∧ Hid (ERow wz (.slice Ao nd co) TT)) (fun kv _ => nd - (intOf kv).toNat)
                  case atStart => exact ⟨0, rfl, Nat.zero_le _, H3, HE3, HR3⟩
                  case round =>
                    clear H3 HE3 HR3
                    obtain ⟨kk, rfl, hkk, HZ, HZE, HZR⟩ := hrel
                    by_cases hkn : kk < nd
                    · obtain ⟨gd, rfl, d0, d1, hgd⟩ := HZR.out.atN HND.out hkn
                      obtain ⟨gl, offl, rfl, hgl, l0, l1⟩ := HZ.out.ql.row.at (j := kk) (by rw [HM.out]; omega)
                      rw [HET.out kk hkn] at l0 l1
                      obtain ⟨e, he⟩ : ∃ e, elt TT kk = e := ⟨_, rfl⟩
                      rw [he] at d0 d1 l0 l1
                      clear he
                      have q1 : (0 : Int) ≤ (kk : Int) := by omega
                      have q2 : (kk : Int) < (nd : Int) := by omega
                      have q3 : (kk : Int) < (m : Int) := by omega
                      have KK : Hid (∀ wx, Below wr.heap.size wr wx → wx.cell? ⟨gd, kk * 2, none⟩ = some (.string e.nm) ∧ wx.cell? ⟨gd, kk * 2 + 1, none⟩ = some (.int .u64 e.tk) ∧ wx.cell? ⟨gl, offl + kk * 2, none⟩ = some (.string e.nm) ∧ wx.cell? ⟨gl, offl + kk * 2 + 1, none⟩ = some (.int .u64 e.tk)) := Lib.hid fun wx hx =>
                        ⟨(hx.cell (p := ⟨gd, kk * 2, none⟩) hgd).trans d0, (hx.cell (p := ⟨gd, kk * 2 + 1, none⟩) hgd).trans d1, (hx.cell (p := ⟨gl, offl + kk * 2, none⟩) hgl).trans l0, (hx.cell (p := ⟨gl, offl + kk * 2 + 1, none⟩) hgl).trans l1⟩
                      go_wp2_with fail
                      go_region_held3 (fun w' => w'.cell? ⟨gd, kk * 2, none⟩ = some (.string e.nm) ∧ w'.cell? ⟨gd, kk * 2 + 1, none⟩ = some (.int .u64 e.tk) ∧ w'.cell? ⟨gl, offl + kk * 2, none⟩ = some (.string e.nm) ∧ w'.cell? ⟨gl, offl + kk * 2 + 1, none⟩ = some (.int .u64 e.tk))
                        (first
                          | exact ⟨d0, d1, l0, l1⟩
                          | exact KK.out _ ((Below.refl _ _).drew.trans hb4)
                          | fail)
                        (first
                          | (go_at_call 22; (with_reducible refine (told_ref _ _ _).mono ?_); rintro r w4 ⟨rfl, hb4⟩)
                          | fail)
                      have HB4 : Hid (Below wr.heap.size wr w4) := Lib.hid ((Below.refl _ _).drew.trans hb4)
                      clear hb4 d0 d1 l0 l1
                      go_wp2_with fail
                      go_roundw
                      case rel => exact ⟨kk + 1, by go_num, by omega, Lib.hid (HZ.out.below HB4.out).1, Lib.hid (HZE.out.keep (HZ.out.below HB4.out).2), Lib.hid (HZR.out.below HB4.out)⟩
                      case measure => simp [intOf]; omega
                    · obtain rfl : nd = kk := by omega
                      obtain ⟨y0, y1, y2⟩ := HZE.out
                      have hEl := HZ.out.lt
                      rcases HAF.out with ⟨hA0, hc0⟩ | ⟨g, off', hA0⟩
                      · subst hA0 hc0
                        obtain rfl : m = 0 := by omega
                        obtain rfl : nd = 0 := by omega
                        have hU0 : U = [] := by rw [HU.out, List.length_eq_zero_iff.1 HM.out]; rfl
                        subst hU0
                        have H6 : Hid (QD w wr q [] none [] E) := Lib.hid (by have := HZ.out; rw [List.length_eq_zero_iff.1 HM.out] at this; exact this)
                        go_wp2_with (first
                          | (have D5 := stands_law q 0 0 none [] a w wr H6.out.ql rfl (by omega)
                             go_at_call 24; (with_reducible refine D5.mono ?_); clear D5; rintro r w5 ⟨rfl, hb5⟩
                             have H5 := Lib.hid (H6.out.below hb5).1
                             clear hb5)
                          | fail)
                        go_roundw
                        case rel => exact ⟨j + 1, [], none, 0, 0, by go_num, rfl, by omega, by omega, by omega, by omega, by unfold maxLen; omega, Lib.hid (.inl ⟨rfl, rfl⟩), Lib.hid rfl, Lib.hid H5.out.ql⟩
                        case measure => simp [intOf]; omega
                      · subst hA0
                        by_cases hcap : cap = nd
                        · subst hcap
                          obtain rfl : cap = m := by omega
                          have hU0 : U = [] := by rw [HU.out]; exact List.drop_eq_nil_of_le (by rw [HM.out]; exact Nat.le_refl _)
                          have H6 : Hid (QD w wr q U (some ⟨g, off', none⟩) U E) := Lib.hid (by
                            have h := HZ.out.drop cap (A' := some ⟨g, off', none⟩) (.inl (by rw [← HU.out]; exact hU0))
                            rw [← HU.out] at h; exact h)
                          subst hU0
                          have hmm : cap - cap = 0 := by omega
                          go_wp2_with (first
                            | (have D5 := stands_law q 0 0 (some ⟨g, off', none⟩) [] a w wr H6.out.ql rfl (by omega)
                               go_at_call 24; (with_reducible refine D5.mono ?_); clear D5; rintro r w5 ⟨rfl, hb5⟩
                               have H5 := Lib.hid (H6.out.below hb5).1
                               clear hb5)
                            | fail)
                          go_roundw
                          case rel => exact ⟨j + 1, [], some ⟨g, off', none⟩, 0, 0, by go_num, rfl, by omega, by omega, by omega, by omega, by unfold maxLen; omega, Lib.hid (.inr ⟨_, _, rfl⟩), Lib.hid rfl, Lib.hid H5.out.ql⟩
                          case measure => simp [intOf]; omega
                        · have H6 : Hid (QD w wr q U (some ⟨g, off' + nd * 2, none⟩) U E) := Lib.hid (by
                            have h := HZ.out.drop nd (A' := some ⟨g, off' + nd * 2, none⟩) (.inr fun g1 off1 h => by injection h with h; injection h with h1 h2; subst h1 h2; rfl)
                            rw [← HU.out] at h; exact h)
                          have hUl : Hid (U.length = m - nd) := Lib.hid (by rw [HU.out, List.length_drop, HM.out])
                          have hc3 : ¬ cap - nd = 0 := by omega
                          have hc4 : nd < cap := by omega
                          go_wp2_with (first
                            | (have D5 := stands_law q (m - nd) (cap - nd) (some ⟨g, off' + nd * 2, none⟩) U a w wr H6.out.ql hUl.out (by omega)
                               go_at_call 24; (with_reducible refine D5.mono ?_); clear D5; rintro r w5 ⟨rfl, hb5⟩
                               have H5 := Lib.hid (H6.out.below hb5).1
                               clear hb5)
                            | fail)
                          go_roundw
                          case rel => exact ⟨j + 1, U, some ⟨g, off' + nd * 2, none⟩, m - nd, cap - nd, by go_num, rfl, by omega, by omega, by omega, by omega, by unfold maxLen; omega, Lib.hid (.inr ⟨_, _, rfl⟩), hUl, Lib.hid H5.out.ql⟩
                          case measure => simp [intOf]; omega
                · have e4 : (k == 4) = false := by simp [hk4]
                  go_wp2_with (first
                    | (go_at_call 19; (with_reducible refine D1.out.mono ?_); rintro r w2 ⟨x, rfl, hx, rfl⟩; rw [HBB.out] at hx)
                    | (have D5 := stands_law q m cap A S a w _ HQE.out.ql HM.out hm9
                       go_at_call 24; (with_reducible refine D5.mono ?_); clear D5; rintro r w5 ⟨rfl, hb5⟩
                       have H5 := Lib.hid (HQE.out.below hb5).1
                       clear hb5)
                    | fail)
                  go_roundw
                  case rel => exact ⟨j + 1, S, A, m, cap, by go_num, rfl, by omega, by omega, by omega, hmc, by unfold maxLen; omega, HAF, HM, Lib.hid H5.out.ql⟩
                  case measure => simp [intOf]; omega
        · have e0 : ((40 : Int) < (a.size : Int)) = True := by simp; omega
          go_wp2
          go_roundw
          case rel => exact ⟨j + 1, S, A, m, cap, by go_num, rfl, by omega, by omega, by omega, hmc, by unfold maxLen; omega, HAF, HM, Lib.hid HQE.out.ql⟩
          case measure => simp [intOf]; omega
      · go_wp2_with (go_at_call 14; (with_reducible refine (alive_true _).mono ?_); rintro r w2 ⟨rfl, hb2⟩; have HB2 := Lib.hid (HQ.out.below hb2).bel; clear hb2)
        go_ret
        exact ⟨rfl, HB2.out⟩
    · go_wp2_with (go_at_call 14; (with_reducible refine (alive_true _).mono ?_); rintro r w2 ⟨rfl, hb2⟩; have HB2 := Lib.hid (HQ.out.below hb2).bel; clear hb2)
      go_ret
      exact ⟨rfl, HB2.out⟩

theorem plays_empty (A0 : Option Addr) (cap0 : Nat) (w : World) :
    Calls Try.prog 6 #[.slice A0 0 cap0] w fun r w' => r = .returned (.bool true) ∧ Below w.heap.size w w' := by
  go_enter Try.func6, Try.ntmps6
  go_wp2_with (go_at_call 17; (with_reducible refine (new_mine _).mono ?_); rintro r w1 ⟨q, rfl, h1⟩; have HB1 := Lib.hid h1.bel; clear h1)
  go_loopw [4, 5] (fun lv i wr => i = .int .i64 0 ∧ lv = .slice none 0 0 ∧ Hid (Below w.heap.size w wr)) (fun _ _ _ => 0)
  case atStart => exact ⟨rfl, rfl, HB1⟩
  case round =>
    clear HB1
    obtain ⟨rfl, rfl, HB⟩ := hrel
    go_wp2_with (go_at_call 14; (with_reducible refine (alive_true _).mono ?_); rintro r w2 ⟨rfl, hb2⟩; have HB2 := Lib.hid (HB.out.trans (hb2.mono HB.out.size)); clear hb2)
    go_ret
    exact ⟨rfl, HB2.out⟩
end Go.Proofs.Yticnckclmlejhaa

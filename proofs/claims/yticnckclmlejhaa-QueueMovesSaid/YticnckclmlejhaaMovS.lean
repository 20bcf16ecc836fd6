/-
  The walk of layer 6's QueueMoves, where the name is there.
-/
import Derived.Test.YticnckclmlejhaaMovL
namespace Go.Proofs.Yticnckclmlejhaa
open Go.RowKit Go.ChangeMaps Hp

set_option maxRecDepth 100000 in
set_option maxHeartbeats 3200000 in
theorem mov_some (sc : Value) (S : List Ent) (w : World) (nm : ByteArray) (at' : Int) (hl : nm.size ≤ 40) (hS : S.length ≤ 150) (hs : Sorted S) (hu : Uniq S) (hb : ∀ e ∈ S, e.tk ≤ 18446744073709551615) (e1 : Ent) (hf : fnd S nm = some e1)
    (HB : ∀ wx, Below w.heap.size w wx → Calls Try.prog 9 #[sc] wx fun r w' => ∃ q, r = .returned (.pointer (some ⟨q, 0, none⟩)) ∧ Mine wx w' q S) :
    Calls Try.prog 8 #[sc, .string nm, .int .u64 at'] w fun r w' => r = .returned (.bool true) ∧ Below w.heap.size w w' := by
  have HBB := Lib.hid HB
  have HF := Lib.hid hf
  have HSO := Lib.hid hs; have HU := Lib.hid hu; have HTK := Lib.hid hb
  have hl1 : S.length ≤ 999999 := by omega
  have HE := Lib.hid (fnd_some hf)
  have HML : Hid ((putE ⟨nm, at'⟩ S).length = S.length) := Lib.hid (put_length hu (fnd_some hf).1 (fnd_some hf).2)
  have HMS : Hid (Sorted (putE ⟨nm, at'⟩ S)) := Lib.hid (mov_sorted hs)
  have HMU : Hid (Uniq (putE ⟨nm, at'⟩ S)) := Lib.hid (ins_uniq' hu)
  have HMF : Hid (fltr nm S = fltr nm (putE ⟨nm, at'⟩ S)) := Lib.hid (fltr_put ⟨nm, at'⟩ S hs).symm
  have HMA : Hid (∀ x ∈ putE ⟨nm, at'⟩ S, x.nm = nm → x = ⟨nm, at'⟩) := Lib.hid fun x hx hn => moved_at hx hn
  obtain ⟨M, hM⟩ : ∃ M, putE ⟨nm, at'⟩ S = M := ⟨_, rfl⟩
  rw [hM] at HML HMS HMU HMF HMA
  have HM := Lib.hid hM
  obtain ⟨n, hn⟩ : ∃ n, S.length = n := ⟨_, rfl⟩
  have hn1 : n ≤ 150 := by omega
  rw [hn] at HML
  have HN := Lib.hid hn
  have hMl : M.length ≤ 150 := by rw [HML.out]; omega
  obtain ⟨i0, hi, hz0, hz1, hz2⟩ := info_parts ent_info
  clear HB hf hs hu hb hM hn
  have e0 : ((40 : Int) < (nm.size : Int)) = False := by simp; omega
  go_enter Try.func8, Try.ntmps8
  go_wp2_with (first
    | (go_at_call 9; (with_reducible refine (HBB.out _ (Below.refl _ _)).mono ?_); rintro r w1 ⟨q, rfl, h1⟩; have H1 := Lib.hid h1; clear h1)
    | (go_at_call 9; (with_reducible refine (HBB.out _ H1.out.bel).mono ?_); rintro r w2 ⟨p, rfl, h2⟩; have HT : Hid (Two w w2 q p (fun _ => False) S S) := Lib.hid (H1.out.two (fun _ h => h.elim) h2); clear h2)
    | (have D := at_two HT.out nm
       rw [HF.out] at D
       have D2 : Calls Try.prog 12 #[.pointer (some ⟨q, 0, none⟩), .string nm] w2 fun r w' => r = .returned (.tuple #[.int .u64 e1.tk, .bool true]) ∧ w2 = w' := D
       go_at_call 12; (with_reducible refine D2.mono ?_); clear D D2; rintro r w3 ⟨rfl, rfl⟩)
    | (have D := due_two HT.out.symm hl1 18446744073709551615
       rw [tw_self HTK.out] at D
       go_at_call 15
       (with_reducible refine D.mono ?_)
       clear D
       rintro r w4 ⟨oa, rfl, t4, _, ra⟩
       obtain ⟨Aa, ca, rfl⟩ := ra.formN HN.out
       have HT4 := Lib.hid t4.symm
       have RA := Lib.hid ra
       clear t4 ra)
    | (have D := put_two HT4.out hl1 nm at'
       go_at_call 18
       (with_reducible refine D.mono ?_)
       clear D
       rintro r w5 ⟨rfl, t5, k5⟩
       have HM5 : Hid (MS w w5 q (.slice Aa n ca) S M (.slice none 0 0) [] w5.heap.size) := Lib.hid (by
         have := ms_start t5 (fun g hg => .inr hg) (RA.out.kept k5 (fun g hg => .inr hg))
         rw [← HM.out]; exact this)
       clear t5 k5))
  obtain ⟨b0, hb0⟩ : ∃ b0, w5.heap.size = b0 := ⟨_, rfl⟩
  rw [hb0] at HM5
  clear hb0
  go_loopw [12] (fun o wr => ∃ (T R : List Ent), Hid (T ++ R = M) ∧ Hid (MS w wr q (.slice Aa n ca) S R o T b0)) (fun o _ => M.length - lenV o)
  case atStart => exact ⟨[], M, Lib.hid rfl, HM5⟩
  case round =>
    obtain ⟨T, R, HTR, HS⟩ := hrel
    clear HM5 RA HT4 HT H1
    cases R with
    | cons e R =>
      have hTl : T.length + 1 ≤ M.length := by rw [← HTR.out]; simp
      have hRl : (e :: R).length ≤ 999999 := by have := congrArg List.length HTR.out; simp at this; simp; omega
      have h63 : T.length + 1 ≤ maxLen := by unfold maxLen; omega
      have hby : (T.length + 1) * 24 ≤ 140737488355328 := by omega
      have hgt : 0 < (e :: R).length := by simp
      have D1 : Hid (Calls Try.prog 10 #[.pointer (some ⟨q, 0, none⟩)] wr fun r w' => r = .returned (.int .i64 (e :: R).length) ∧ wr = w') := Lib.hid (len_MS HS.out)
      obtain ⟨k, hk⟩ : ∃ k, (e :: R).length = k := ⟨_, rfl⟩
      rw [hk] at D1 hgt
      clear hk
      go_wp2_with (first
        | (go_at_call 10; (with_reducible refine D1.out.mono ?_); rintro r w6 ⟨rfl, rfl⟩)
        | (have D := pop_MS HS.out hRl
           have D2 : Calls Try.prog 11 #[.pointer (some ⟨q, 0, none⟩)] wr fun r w' => r = .returned (.tuple #[.agg #[.string e.nm, .int .u64 e.tk], .bool true]) ∧ MS w w' q (.slice Aa n ca) S R u12 T b0 ∧ wr.heap.size ≤ w'.heap.size := D
           go_at_call 11; (with_reducible refine D2.mono ?_); clear D D2; rintro r w7 ⟨rfl, m7, s7⟩; have HM7 := Lib.hid m7; clear m7)
        | (at_builtin
           have hw8 : b0 ≤ w7.heap.size := HM7.out.base.2
           refine wpList_append_lies _ rfl (.tmp 70) (.tmp 72) 36 rfl b0 28 i0 (.agg #[.string ByteArray.empty, .int .u64 0]) 2 24 Try.underlying36 hi hz0 hz1 hz2 rfl (by decide) u12 T.length (flat T) rfl ((HM7.out.row.alloc _).alloc _) ⟨w7.heap.size + 1, 0, none⟩ 1 1 [.string e.nm, .int .u64 e.tk] rfl rfl (news_two (w7.alloc (.cells #[.string e.nm, .int .u64 e.tk] 28)) _ _ _ _ (by simp)) (ones e) (by decide) h63 hby (Nat.le_trans hw8 (by simp; omega)) (w7.heap.size + 1 + 1) (by simp) ?_
           intro g cap1 w4 hown4 hgrow hat hlt
           have HM9 := Lib.hid (app_MS (HM7.out.below ((Below.refl _ w7).alloc (Nat.le_refl _) (.cells #[.string e.nm, .int .u64 e.tk] 28))) hown4 hgrow (by simpa using hat))
           clear hown4 hgrow hat hlt hw8))
      have hlr := lenV_row HS.out.row
      go_roundw
      case rel => exact ⟨T ++ [e], R, Lib.hid (by rw [← HTR.out]; simp), HM9⟩
      case measure =>
        rw [hlr]
        simp [lenV]
        omega
    | nil =>
      have hTM : T = M := by have := HTR.out; simpa using this
      subst hTM
      obtain ⟨Am, cm, rfl⟩ := HS.out.r2.2.2.formN HML.out
      have hgt : ¬ 0 < ([] : List Ent).length := by simp
      have D1 : Hid (Calls Try.prog 10 #[.pointer (some ⟨q, 0, none⟩)] wr fun r w' => r = .returned (.int .i64 0) ∧ wr = w') := Lib.hid (len_MS HS.out)
      have HR2 := Lib.hid HS.out.r2
      go_wp2_with (go_at_call 10; (with_reducible refine D1.out.mono ?_); rintro r w6 ⟨rfl, rfl⟩)
      clear HS D1
      go_loopw [15, 16] (fun kv iv wr => ∃ i k : Nat, kv = .int .i64 (k : Int) ∧ iv = .int .i64 (i : Int) ∧ i ≤ n ∧ k ≤ n ∧ Hid (Along nm S T i k) ∧ Hid (R2 w wr (.slice Aa n ca) S (.slice Am n cm) T)) (fun _ iv _ => n - (intOf iv).toNat)
      case atStart => exact ⟨0, 0, rfl, rfl, Nat.zero_le _, Nat.zero_le _, Lib.hid (along_start _ _ _), HR2⟩
      case round =>
        clear HR2
        obtain ⟨i, k, rfl, rfl, hin', hk, HA, HR⟩ := hrel
        by_cases hin : i < n
        · obtain ⟨gm, rfl, m0, m1, hgm⟩ := HR.out.2.2.atN HML.out hin
          have HEM := Lib.hid (elt_mem (S := T) (m := i) (by rw [HML.out]; exact hin))
          have hcase : i = 0 ∨ (0 < i ∧ lessE (elt T (i - 1)) (elt T i) = true) := by
            by_cases h0 : i = 0
            · exact .inl h0
            · refine .inr ⟨by omega, ?_⟩
              have h1 : i < T.length := by rw [HML.out]; exact hin
              rw [elt_elem h1, elt_elem (by omega : i - 1 < T.length)]
              exact List.pairwise_iff_getElem.1 HMS.out (i - 1) i (by omega) h1 (by omega)
          obtain ⟨e, he⟩ : ∃ e, elt T i = e := ⟨_, rfl⟩
          rw [he] at m0 m1 HEM hcase
          have HEI := Lib.hid he
          clear he
          rcases hcase with hi0 | ⟨hi0, hlt⟩
          · have g0 : decide (0 < i) = false := by simp; omega
            clear hi0
            go_wp2_with fail
            go_quiet (fail)
            by_cases hen : e.nm = nm
            · obtain rfl : e = ⟨nm, at'⟩ := HMA.out e HEM.out hen
              have HA2 := Lib.hid (along_skipM HA.out (by rw [HML.out]; exact hin) (by rw [HEI.out]))
              clear hen
              go_wp2_with fail
              go_roundw
              case rel => exact ⟨i + 1, k, rfl, by go_num, by omega, hk, HA2, Lib.hid (HR.out.below (below_quiet (Below.refl _ _) _))⟩
              case measure => simp [intOf]; omega
            · have hne : (e.nm.toList == nm.toList) = false := beq_str hen
              have HEN := Lib.hid hen
              clear hen
              go_wp2_with fail
              go_loopw [15] (fun kv wr2 => ∃ k : Nat, kv = .int .i64 (k : Int) ∧ k ≤ n ∧ Hid (Along nm S T i k) ∧ Hid (R2 w wr2 (.slice Aa n ca) S (.slice (some ⟨gm, 0, none⟩) n cm) T)) (fun kv _ => n - (intOf kv).toNat)
              case atStart => exact ⟨k, rfl, hk, HA, Lib.hid (HR.out.below (below_quiet (Below.refl _ _) _))⟩
              case round =>
                clear HA HR m0 m1 hgm
                obtain ⟨k, rfl, hk, HA, HR⟩ := hrel
                have hkn : k < n := by rw [← HN.out]; exact along_more HA.out HMF.out (i := i) (by rw [HML.out]; exact hin) (by rw [HEI.out]; exact HEN.out)
                obtain ⟨ga, rfl, s0, s1, hga⟩ := HR.out.2.1.atN HN.out hkn
                by_cases hsn : (elt S k).nm = nm
                · have HA2 := Lib.hid (along_skipS HA.out (by rw [HN.out]; exact hkn) hsn)
                  rw [hsn] at s0
                  clear hsn
                  go_wp2_with fail
                  go_roundw
                  case rel => exact ⟨k + 1, by go_num, by omega, HA2, HR⟩
                  case measure => simp [intOf]; omega
                · obtain ⟨hee, hA2⟩ := along_eq HA.out HMF.out (by rw [HML.out]; exact hin) (by rw [HN.out]; exact hkn) (by rw [HEI.out]; exact HEN.out) hsn
                  have HA2 := Lib.hid hA2
                  rw [HEI.out] at hee
                  rw [hee] at s0 s1
                  clear hsn hee hA2
                  obtain ⟨gm', hgm', m0, m1, hgm⟩ := HR.out.2.2.atN HML.out hin
                  obtain rfl : gm = gm' := by injection hgm' with hgm'; injection hgm'
                  rw [HEI.out] at m0 m1
                  clear hgm'
                  have g5 : decide (n ≤ k) = false := by simp; omega
                  go_wp2_with fail
                  go_quiet (fail)
                  go_wp2_with fail
                  go_roundw
                  case rel => exact ⟨i + 1, k + 1, by go_num, by go_num, by omega, by omega, HA2, Lib.hid (HR.out.below (below_quiet (Below.refl _ _) _))⟩
                  case measure => simp [intOf]; omega
          · obtain ⟨gl, hgl, l0, l1, _⟩ := HR.out.2.2.atN HML.out (j := i - 1) (by omega)
            obtain rfl : gm = gl := by injection hgl with hgl; injection hgl
            obtain ⟨l, hl'⟩ : ∃ l, elt T (i - 1) = l := ⟨_, rfl⟩
            rw [hl'] at l0 l1 hlt
            obtain ⟨i', hi'⟩ : ∃ i', i - 1 = i' := ⟨_, rfl⟩
            rw [hi'] at l0 l1
            have g0 : decide (0 < i) = true := by simp; omega
            have g1 : IntKind.i64.wrap ((i : Int) - 1) = (i' : Int) := by rw [IntWalk.i64_in _ (by omega)]; omega
            have g2 : i' < n := by omega
            clear hgl hl' hi'
            unfold lessE at hlt
            simp only [Bool.or_eq_true, Bool.and_eq_true, decide_eq_true_eq] at hlt
            rcases hlt with hlt | ⟨hlt, hbl⟩
            · have g3 : decide (e.tk < l.tk) = false := by simp; omega
              have g4 : (e.tk == l.tk) = false := by simp; omega
              go_wp2_with fail
              go_quiet (fail)
              clear g1
              by_cases hen : e.nm = nm
              · obtain rfl : e = ⟨nm, at'⟩ := HMA.out e HEM.out hen
                have HA2 := Lib.hid (along_skipM HA.out (by rw [HML.out]; exact hin) (by rw [HEI.out]))
                clear hen
                go_wp2_with fail
                go_roundw
                case rel => exact ⟨i + 1, k, rfl, by go_num, by omega, hk, HA2, Lib.hid (HR.out.below (below_quiet (Below.refl _ _) _))⟩
                case measure => simp [intOf]; omega
              · have hne : (e.nm.toList == nm.toList) = false := beq_str hen
                have HEN := Lib.hid hen
                clear hen
                go_wp2_with fail
                go_loopw [15] (fun kv wr2 => ∃ k : Nat, kv = .int .i64 (k : Int) ∧ k ≤ n ∧ Hid (Along nm S T i k) ∧ Hid (R2 w wr2 (.slice Aa n ca) S (.slice (some ⟨gm, 0, none⟩) n cm) T)) (fun kv _ => n - (intOf kv).toNat)
                case atStart => exact ⟨k, rfl, hk, HA, Lib.hid (HR.out.below (below_quiet (Below.refl _ _) _))⟩
                case round =>
                  clear HA HR m0 m1 hgm
                  obtain ⟨k, rfl, hk, HA, HR⟩ := hrel
                  have hkn : k < n := by rw [← HN.out]; exact along_more HA.out HMF.out (i := i) (by rw [HML.out]; exact hin) (by rw [HEI.out]; exact HEN.out)
                  obtain ⟨ga, rfl, s0, s1, hga⟩ := HR.out.2.1.atN HN.out hkn
                  by_cases hsn : (elt S k).nm = nm
                  · have HA2 := Lib.hid (along_skipS HA.out (by rw [HN.out]; exact hkn) hsn)
                    rw [hsn] at s0
                    clear hsn
                    go_wp2_with fail
                    go_roundw
                    case rel => exact ⟨k + 1, by go_num, by omega, HA2, HR⟩
                    case measure => simp [intOf]; omega
                  · obtain ⟨hee, hA2⟩ := along_eq HA.out HMF.out (by rw [HML.out]; exact hin) (by rw [HN.out]; exact hkn) (by rw [HEI.out]; exact HEN.out) hsn
                    have HA2 := Lib.hid hA2
                    rw [HEI.out] at hee
                    rw [hee] at s0 s1
                    clear hsn hee hA2
                    obtain ⟨gm', hgm', m0, m1, hgm⟩ := HR.out.2.2.atN HML.out hin
                    obtain rfl : gm = gm' := by injection hgm' with hgm'; injection hgm'
                    rw [HEI.out] at m0 m1
                    clear hgm'
                    have g5 : decide (n ≤ k) = false := by simp; omega
                    go_wp2_with fail
                    go_quiet (fail)
                    go_wp2_with fail
                    go_roundw
                    case rel => exact ⟨i + 1, k + 1, by go_num, by go_num, by omega, by omega, HA2, Lib.hid (HR.out.below (below_quiet (Below.refl _ _) _))⟩
                    case measure => simp [intOf]; omega
            · have g3 : decide (e.tk < l.tk) = false := by simp; omega
              have g4 : (e.tk == l.tk) = true := by simp; omega
              have b1 : Op.bytesLess e.nm.toList l.nm.toList = false := by
                cases hq : Op.bytesLess e.nm.toList l.nm.toList
                · rfl
                · have := bl_tr _ _ _ hbl hq
                  rw [bl_irr] at this; cases this
              have b2 : (e.nm.toList == l.nm.toList) = false := by
                cases hq : (e.nm.toList == l.nm.toList)
                · rfl
                · have hq2 : e.nm.toList = l.nm.toList := by simpa using hq
                  rw [hq2, bl_irr] at hbl; cases hbl
              clear hbl
              go_wp2_with fail
              go_quiet (fail)
              clear g1
              by_cases hen : e.nm = nm
              · obtain rfl : e = ⟨nm, at'⟩ := HMA.out e HEM.out hen
                have HA2 := Lib.hid (along_skipM HA.out (by rw [HML.out]; exact hin) (by rw [HEI.out]))
                clear hen
                go_wp2_with fail
                go_roundw
                case rel => exact ⟨i + 1, k, rfl, by go_num, by omega, hk, HA2, Lib.hid (HR.out.below (below_quiet (Below.refl _ _) _))⟩
                case measure => simp [intOf]; omega
              · have hne : (e.nm.toList == nm.toList) = false := beq_str hen
                have HEN := Lib.hid hen
                clear hen
                go_wp2_with fail
                go_loopw [15] (fun kv wr2 => ∃ k : Nat, kv = .int .i64 (k : Int) ∧ k ≤ n ∧ Hid (Along nm S T i k) ∧ Hid (R2 w wr2 (.slice Aa n ca) S (.slice (some ⟨gm, 0, none⟩) n cm) T)) (fun kv _ => n - (intOf kv).toNat)
                case atStart => exact ⟨k, rfl, hk, HA, Lib.hid (HR.out.below (below_quiet (Below.refl _ _) _))⟩
                case round =>
                  clear HA HR m0 m1 hgm
                  obtain ⟨k, rfl, hk, HA, HR⟩ := hrel
                  have hkn : k < n := by rw [← HN.out]; exact along_more HA.out HMF.out (i := i) (by rw [HML.out]; exact hin) (by rw [HEI.out]; exact HEN.out)
                  obtain ⟨ga, rfl, s0, s1, hga⟩ := HR.out.2.1.atN HN.out hkn
                  by_cases hsn : (elt S k).nm = nm
                  · have HA2 := Lib.hid (along_skipS HA.out (by rw [HN.out]; exact hkn) hsn)
                    rw [hsn] at s0
                    clear hsn
                    go_wp2_with fail
                    go_roundw
                    case rel => exact ⟨k + 1, by go_num, by omega, HA2, HR⟩
                    case measure => simp [intOf]; omega
                  · obtain ⟨hee, hA2⟩ := along_eq HA.out HMF.out (by rw [HML.out]; exact hin) (by rw [HN.out]; exact hkn) (by rw [HEI.out]; exact HEN.out) hsn
                    have HA2 := Lib.hid hA2
                    rw [HEI.out] at hee
                    rw [hee] at s0 s1
                    clear hsn hee hA2
                    obtain ⟨gm', hgm', m0, m1, hgm⟩ := HR.out.2.2.atN HML.out hin
                    obtain rfl : gm = gm' := by injection hgm' with hgm'; injection hgm'
                    rw [HEI.out] at m0 m1
                    clear hgm'
                    have g5 : decide (n ≤ k) = false := by simp; omega
                    go_wp2_with fail
                    go_quiet (fail)
                    go_wp2_with fail
                    go_roundw
                    case rel => exact ⟨i + 1, k + 1, by go_num, by go_num, by omega, by omega, HA2, Lib.hid (HR.out.below (below_quiet (Below.refl _ _) _))⟩
                    case measure => simp [intOf]; omega
        · obtain rfl : n = i := by omega
          have HB1 : Hid (putE ⟨nm, at'⟩ S = T) := HM
          have HB2 : Hid (putE ⟨nm, e1.tk⟩ T = S) := Lib.hid (by
            have h := put_back (t := at') HSO.out HU.out HE.out.1
            rw [HE.out.2] at h
            rw [← HM.out]
            have h2 : e1 = ⟨nm, e1.tk⟩ := by rw [← HE.out.2]
            rw [← h2]; exact h)
          have HBZ : Hid (Below w.heap.size w wr) := Lib.hid HR.out.1
          clear HA
          go_wp2_with (first
            | (go_at_call 9; (with_reducible refine (HBB.out _ HBZ.out).mono ?_); rintro r w7 ⟨p7, rfl, h7⟩
               have HR7 := Lib.hid (HR.out.below h7.bel); have H7 := Lib.hid h7; clear h7)
            | (have D : Calls Try.prog 18 #[.pointer (some ⟨p7, 0, none⟩), .string nm, .int .u64 at'] w7 fun r w' => r = .returned (.bool (fnd S nm).isSome) ∧ Mine wr w' p7 (putE ⟨nm, at'⟩ S) := put_mine H7.out hl1 nm at'
               rw [HB1.out] at D
               go_at_call 18; (with_reducible refine D.mono ?_); clear D; rintro r w8 ⟨rfl, h8⟩; have H8 := Lib.hid h8; clear h8)
            | (have D : Calls Try.prog 18 #[.pointer (some ⟨p7, 0, none⟩), .string nm, .int .u64 e1.tk] w8 fun r w' => r = .returned (.bool (fnd T nm).isSome) ∧ Mine wr w' p7 (putE ⟨nm, e1.tk⟩ T) := put_mine H8.out (by omega) nm e1.tk
               rw [HB2.out] at D
               go_at_call 18; (with_reducible refine D.mono ?_); clear D; rintro r w9 ⟨rfl, h9⟩; have H9 := Lib.hid h9; clear h9)
            | (have D := due_mine H9.out hl1 18446744073709551615 HTK.out
               go_at_call 15; (with_reducible refine D.mono ?_); clear D; rintro r w10 ⟨ob, rfl, hb10, hr10⟩
               obtain ⟨Ab, cb, rfl⟩ := hr10.formN HN.out
               have HR10 : Hid (R2 w w10 (.slice Aa n ca) S (.slice Ab n cb) S) := Lib.hid ⟨(HR.out.below hb10).1, (HR.out.below hb10).2.1, hr10⟩
               clear hb10 hr10))
          clear HR HR7 H7 H8 H9
          go_loopw [19] (fun iv wr => ∃ i : Nat, iv = .int .i64 (i : Int) ∧ i ≤ n ∧ Hid (R2 w wr (.slice Aa n ca) S (.slice Ab n cb) S)) (fun iv _ => n - (intOf iv).toNat)
          case atStart => exact ⟨0, rfl, Nat.zero_le _, HR10⟩
          case round =>
            clear HR10
            obtain ⟨i, rfl, hi9, HR⟩ := hrel
            by_cases hin : i < n
            · obtain ⟨ga, rfl, a0, a1, hga⟩ := HR.out.2.1.atN HN.out hin
              obtain ⟨gb, rfl, d0, d1, hgb⟩ := HR.out.2.2.atN HN.out hin
              go_wp2_with fail
              go_quiet (fail)
              go_wp2_with fail
              go_roundw
              case rel => exact ⟨i + 1, by go_num, by omega, Lib.hid (HR.out.below (below_quiet (Below.refl _ _) _))⟩
              case measure => simp [intOf]; omega
            · go_wp2_with (go_at_call 14; (with_reducible refine (alive_true _).mono ?_); rintro r w12 ⟨rfl, hb12⟩; have HR12 := Lib.hid (HR.out.below hb12); clear hb12)
              go_ret
              exact ⟨rfl, HR12.out.1⟩
end Go.Proofs.Yticnckclmlejhaa

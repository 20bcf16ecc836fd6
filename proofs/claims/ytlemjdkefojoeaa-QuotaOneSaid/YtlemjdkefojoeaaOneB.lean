/-
  The law QuotaOne: its walk.
-/
import Derived.Test.YtlemjdkefojoeaaOneA
import Derived.Test.YtlemjdkefojoeaaCases
import Derived.Laws.StructEq
import Derived.Deep.DeepMust
namespace Go.Proofs.Ytlemjdkefojoeaa
open Go.RowKit Quo

/-- What comes in: a slice of sizes; its cells. -/
def Sizes (w : World) (b off n : Nat) (f : Nat → Int) : Prop := ∀ i, i < n * 3 → b < w.heap.size ∧ w.cell? ⟨b, off + i, none⟩ = some (.int .i64 (f i))

theorem OneW.alloc {w : World} {ks vs : List Int} {va vb : Value} {wr : World} (h : OneW w ks vs va vb wr) (o : Obj) : OneW w ks vs va vb (wr.alloc o) := by
  obtain ⟨h1, h2, h3, h4, h5⟩ := h
  exact ⟨h1.alloc h1.size _, h2.alloc _, h3.alloc _, h4.alloc _, h5⟩

set_option maxRecDepth 100000 in
set_option maxHeartbeats 1600000 in
theorem one_walk (b off n cap : Nat) (f : Nat → Int) (t : Int) (w : World) (hn : n ≤ 9223372036854775807) (hb : b < w.heap.size) (hF : Sizes w b off n f) :
    Calls Try.prog 4 #[.slice (some ⟨b, off, none⟩) n cap, .int .i64 t] w fun e w' => e = .returned (.bool true) ∧ Below w.heap.size w w' := by
  have hF' := Lib.hid hF; clear hF
  obtain ⟨i0, hi, hz0, hz1, hz2⟩ := info_parts int_info
  go_enter Try.func4, Try.ntmps4
  go_wp2
  go_loopw [6, 7, 8] (fun va vb i wr => ∃ (k : Nat) (ks vs : List Int), k ≤ n ∧ k ≤ 200 ∧ i = .int .i64 k ∧ ks.length ≤ 100 ∧ Hid (vs.length = ks.length) ∧ sumW ks + sumW vs ≤ 4000 ∧ OneW w ks vs va vb wr) (fun _ _ i _ => n - (intOf i).toNat)
  case atStart =>
    refine ⟨0, [], [], by omega, by omega, rfl, by simp, rfl, by simp [sumW], (Below.refl _ _).alloc (Nat.le_refl _) _, ?_, World.ownsRow_nil _ _ _ _, World.ownsRow_nil _ _ _ _, fun k hk => by simp [Value.ownBlock] at hk⟩
    have := Blk.new w 27 #[.int .i64 0, .int .i64 0, .int .i64 0]
    simpa [sumW] using this
  case round =>
    obtain ⟨k, ks, vs, hk, hk2, rfl, hl, hlen, hsum, hbl, hu, hA, hB, hs⟩ := hrel
    obtain ⟨A1, m1, d1, rfl⟩ := hA.form
    obtain ⟨A2, m2, d2, rfl⟩ := hB.form
    by_cases hlt : k < n
    · by_cases hlt2 : k < 200
      · have f0 := (hbl.cell (p := ⟨b, off + k * 3, none⟩) hb).trans (hF'.out (k * 3) (by omega)).2
        have f1 := (hbl.cell (p := ⟨b, off + (k * 3 + 1), none⟩) hb).trans (hF'.out (k * 3 + 1) (by omega)).2
        have f2 := (hbl.cell (p := ⟨b, off + (k * 3 + 2), none⟩) hb).trans (hF'.out (k * 3 + 2) (by omega)).2
        rw [← Nat.add_assoc] at f1 f2
        generalize f (k * 3) = key at *
        generalize f (k * 3 + 1) = was at *
        generalize f (k * 3 + 2) = value at *
        have HV : OneW w ks vs (.slice A1 m1 d1) (.slice A2 m2 d2) wr := ⟨hbl, hu, hA, hB, hs⟩
        by_cases q1 : key < 0
        · clear hbl hu hA hB hs
          have HV' := HV.alloc (.cells #[.int .i64 key, .int .i64 was, .int .i64 value] 33)
          go_wp2
          go_roundw
          case rel => exact ⟨k + 1, ks, vs, by omega, by omega, by go_num, hl, hlen, hsum, HV'⟩
          case measure => simp [intOf]; omega
        by_cases q2 : 4000 < key
        · clear hbl hu hA hB hs
          have HV' := HV.alloc (.cells #[.int .i64 key, .int .i64 was, .int .i64 value] 33)
          go_wp2
          go_roundw
          case rel => exact ⟨k + 1, ks, vs, by omega, by omega, by go_num, hl, hlen, hsum, HV'⟩
          case measure => simp [intOf]; omega
        by_cases q3 : value < 0
        · clear hbl hu hA hB hs
          have HV' := HV.alloc (.cells #[.int .i64 key, .int .i64 was, .int .i64 value] 33)
          go_wp2
          go_roundw
          case rel => exact ⟨k + 1, ks, vs, by omega, by omega, by go_num, hl, hlen, hsum, HV'⟩
          case measure => simp [intOf]; omega
        by_cases q4 : 4000 < value
        · clear hbl hu hA hB hs
          have HV' := HV.alloc (.cells #[.int .i64 key, .int .i64 was, .int .i64 value] 33)
          go_wp2
          go_roundw
          case rel => exact ⟨k + 1, ks, vs, by omega, by omega, by go_num, hl, hlen, hsum, HV'⟩
          case measure => simp [intOf]; omega
        clear hbl hu hs
        obtain ⟨K, hK⟩ : ∃ K : Int, (ks.length : Int) = K := ⟨_, rfl⟩
        obtain ⟨R, hR⟩ : ∃ R : Int, sumW ks + sumW vs = R := ⟨_, rfl⟩
        have S0 := HV.start key was value
        rw [hK, hR] at S0
        have hK0 : 0 ≤ K := by omega
        have hK1 : K ≤ 100 := by omega
        have bk := sumW_bd ks; have bv := sumW_bd vs
        have hR0 : 0 ≤ R := by omega
        have hR1 : R ≤ 4000 := by omega
        have wk : wi key 4000 = true := wi_true (by omega) (by omega)
        have wv : wi value 4000 = true := wi_true (by omega) (by omega)
        have sumN : Hid (sumW (ks ++ [key]) + sumW (vs ++ [value]) = R + key + value) := by
          show _ = _
          rw [sumW_append, sumW_append]
          simp only [sumW]
          rw [if_pos wk, if_pos wv]
          omega
        clear bk bv wk wv
        have HK := Lib.hid hK; have HR := Lib.hid hR; clear hK hR
        have p0 : w.heap.size < wr.heap.size := S0.past
        clear hA hB HV
        go_wp2_with (at_builtin; refine wpList_append_own_at _ rfl (.tmp 49) (.tmp 52) 22 rfl (w.heap.size + 1) 3 i0 (.int .i64 0) 1 8 Try.underlying22 hi hz0 hz1 hz2 rfl (by decide) (.slice A1 m1 d1) ks.length (ks.map (.int .i64)) rfl (S0.alloc (.cells #[.int .i64 key] 3)).keys ⟨wr.heap.size + 1, 0, none⟩ 1 1 [.int .i64 key] rfl rfl (cell_one_at _ _ _ _ (by simp)) ?c2 ?c3 ?c4 ?c5 ?_)
        case c2 => rfl
        case c3 => unfold maxLen; omega
        case c4 => omega
        case c5 => (try simp); omega
        intro v1 w1 hown1 hgrow1 _ hat1
        have S1 := S0.appA key hown1 hgrow1 hat1 (by simp)
        clear S0 hown1 hgrow1 hat1 f0 f1 f2
        obtain ⟨⟨c0, c1, c2⟩, ⟨d0, d1', d2'⟩, e0, e1⟩ := S1.cells
        have hlv : vs.length ≤ 100 := by have := hlen.out; omega
        go_wp2_with (at_builtin; refine wpList_append_own_at _ rfl (.tmp 54) (.tmp 57) 22 rfl (w.heap.size + 1) 3 i0 (.int .i64 0) 1 8 Try.underlying22 hi hz0 hz1 hz2 rfl (by decide) (.slice A2 m2 d2) vs.length (vs.map (.int .i64)) rfl (S1.alloc (.cells #[.int .i64 value] 3)).vals ⟨w1.heap.size, 0, none⟩ 1 1 [.int .i64 value] rfl rfl (cell_one_at _ _ _ _ rfl) ?c12 ?c13 ?c14 ?c15 ?_)
        case c12 => intro u hu; simp at hu; subst hu; rfl
        case c13 => unfold maxLen; omega
        case c14 => omega
        case c15 => (try simp); omega
        intro v2 w2 hown2 hgrow2 _ hat2
        have S2 := S1.appB value hown2 hgrow2 hat2 rfl
        clear S1 hown2 hgrow2 hat2 c0 c1 c2 d0 d1' d2' e0 e1
        obtain ⟨⟨c0, c1, c2⟩, ⟨d0, d1', d2'⟩, e0, e1⟩ := S2.cells
        clear c0 c1 c2 d0 d1' d2' e0 e1
        have hlen1 : Hid (vs.length + 1 = ks.length + 1) := by show _ = _; rw [hlen.out]
        obtain ⟨g1, q1', rfl, hq1, I1⟩ := S2.keys.at' (n := ks.length + 1) (by simp) (by omega)
        obtain ⟨g2, q2', rfl, hq2, I2⟩ := S2.vals.at' (n := vs.length + 1) (by simp) (by omega)
        have OF := of_pos g1 0 g2 0 (ks.length + 1) (vs.length + 1) q1' q2' (ks.length + 1) (ks ++ [key]) (vs ++ [value]) 0 0 w2 (by omega) hq1 hq2 (by omega) (by have := hlen1.out; omega) (by have := hlen1.out; omega) (by decide) (by simp) (by have := hlen1.out; simp; omega) I1 I2
        rw [sumN.out, show ((ks.length + 1 : Nat) : Int) = K + 1 from by have := HK.out; omega] at OF
        have OF' := Lib.hid OF; clear OF I1 I2
        go_wp2_with fail
        refine OF'.out.mono ?_
        rintro e w3 ⟨rfl, hb3⟩
        have S3 := S2.call hb3
        clear S2 OF' hb3
        obtain ⟨⟨c0, c1, c2⟩, ⟨d0, d1', d2'⟩, e0, e1⟩ := S3.cells
        have hz3 : w3.heap.size < w3.heap.size + 1 := by omega
        by_cases hov : 100 < K + 1 ∨ 4000 < R + key + value
        · obtain ⟨v, hv, hv0⟩ := over_pos (k := K + 1) (r := R + key + value) (t := 0) (by omega)
          have P := put_new_err K R 0 key 0 value v (by omega) (by omega) (by omega) (by omega) (by omega) (by omega) hv hv0
          have hrt : rightB (K + 1) (R + key + value) 0 = false := by
            cases h : rightB (K + 1) (R + key + value) 0
            · rfl
            · have := right_iff.1 h; omega
          have RT := right_any (K + 1) (R + key + value) 0
          rw [hrt] at RT
          have hv1 : (v == 0) = false := by simp [hv0]
          have hv1b : (v != 0) = true := by simp [hv0]
          have P' := Lib.hid P; have RT' := Lib.hid RT; clear P RT hrt hv hv0
          go_wp2_with fail
          refine (P'.out _).mono ?_
          rintro e w4 ⟨rfl, hb4⟩
          have S4 := (S3.alloc (.cells #[.int .i64 (K + 1), .int .i64 (R + key + value), .int .i64 0] 27)).call hb4
          obtain ⟨hc4, hf4⟩ := bcell hb4
          have hz4 : w3.heap.size < w4.heap.size := by have := hb4.size; (try simp at this); omega
          clear c0 c1 c2 d0 d1' d2' e0 e1 S3
          obtain ⟨⟨c0, c1, c2⟩, ⟨d0, d1', d2'⟩, e0, e1⟩ := S4.cells
          go_wp2_with fail
          refine (RT'.out _).mono ?_
          rintro e w5 ⟨rfl, hb5⟩
          have S5 := (S4.alloc (.cells #[.int .i64 0, .int .i64 0, .int .i64 0] 27)).call hb5
          clear S4 hb4 hb5 hc4 hf4 hz4 c0 c1 c2 d0 d1' d2' e0 e1
          have hbz := S5.below
          have huz := S5.use
          clear S5
          obtain ⟨⟨k0, k1, k2⟩, ⟨l0, l1, l2⟩, ksz⟩ := use3 huz
          have hst := set3 hbz huz (.int .i64 0) (.int .i64 0) (.int .i64 0)
          have hst' := Lib.hid hst; clear hst
          go_wp2
          go_loopw [13, 14] (fun nn i wr => ∃ (j c : Int), 0 ≤ j ∧ j ≤ 100 ∧ i = .int .i64 j ∧ nn = .int .i64 c ∧ 0 ≤ c ∧ c ≤ 50 ∧ Below w.heap.size w wr ∧ Blk wr w.heap.size 27 #[.int .i64 0, .int .i64 0, .int .i64 c]) (fun _ i _ => (100 - intOf i).toNat)
          case atStart => exact ⟨0, 0, by omega, by omega, rfl, rfl, by omega, by omega, hst'.out.1, hst'.out.2⟩
          case round =>
            clear hbz huz k0 k1 k2 l0 l1 l2 ksz
            obtain ⟨j, c, j0, j1, rfl, rfl, c0', c1', hbz, huz⟩ := hrel
            obtain ⟨⟨k0, k1, k2⟩, ⟨l0, l1, l2⟩, ksz⟩ := use3 huz
            by_cases ht1 : j < t
            · by_cases ht2 : j < 100
              · by_cases hc : c < 50
                · have A := arm_new_ok 0 0 c (by omega) (by omega) (by omega) (over_zero (by omega) (by omega) (by omega))
                  have A' := Lib.hid A; clear A
                  go_wp2_with fail
                  refine (A'.out _).mono ?_
                  rintro e x1 ⟨rfl, hx1⟩
                  have hb1 := hbz.trans (hx1.mono hbz.size)
                  have hu1 := huz.below hx1 huz.lt
                  have hst2 := set3 hb1 hu1 (.int .i64 0) (.int .i64 0) (.int .i64 (c + 1))
                  have hst3 := Lib.hid hst2; clear hst2
                  clear k0 k1 k2 l0 l1 l2 ksz
                  obtain ⟨⟨k0, k1, k2⟩, ⟨l0, l1, l2⟩, ksz⟩ := use3 hu1
                  go_wp2
                  go_roundw
                  case rel => exact ⟨j + 1, c + 1, by omega, by omega, rfl, rfl, by omega, by omega, hst3.out.1.alloc hst3.out.1.size _, hst3.out.2.alloc _⟩
                  case measure => simp [intOf]; omega
                · have A := arm_new_err 0 0 c 113 (by omega) (by omega) (by omega) (by unfold overV; rw [if_neg (by omega), if_neg (by omega), if_pos (by omega)]) (by decide)
                  have A' := Lib.hid A; clear A
                  go_wp2_with fail
                  refine (A'.out _).mono ?_
                  rintro e x1 ⟨rfl, hx1⟩
                  have hb1 := hbz.trans (hx1.mono hbz.size)
                  have hu1 := huz.below hx1 huz.lt
                  have hb2 := hb1.alloc hb1.size (.cells #[.int .i64 0, .int .i64 0, .int .i64 0] 27)
                  have hu2 := hu1.alloc (.cells #[.int .i64 0, .int .i64 0, .int .i64 0] 27)
                  clear k0 k1 k2 l0 l1 l2 ksz
                  go_wp2
                  go_roundw
                  case rel => exact ⟨j + 1, c, by omega, by omega, rfl, rfl, by omega, by omega, hb2, hu2⟩
                  case measure => simp [intOf]; omega
              · have OF := fun wx => of_zero none (some ⟨g1, 0, none⟩) 0 (ks.length + 1) 0 q1' c c wx (by omega) (by omega)
                have OF' := Lib.hid OF; clear OF
                go_wp2_with fail
                refine (alive_any _).mono ?_
                rintro e x1 ⟨rfl, hx1⟩
                have hb1 := hbz.trans (hx1.mono hbz.size)
                have hu1 := huz.below hx1 huz.lt
                clear k0 k1 k2 l0 l1 l2 ksz
                obtain ⟨⟨k0, k1, k2⟩, ⟨l0, l1, l2⟩, ksz⟩ := use3 hu1
                go_wp2_with fail
                refine (OF'.out _).mono ?_
                rintro e x2 ⟨rfl, hx2⟩
                go_wp2
                go_ret
                exact ⟨rfl, hb1.trans (hx2.mono hb1.size)⟩

            · have OF := fun wx => of_zero none (some ⟨g1, 0, none⟩) 0 (ks.length + 1) 0 q1' c c wx (by omega) (by omega)
              have OF' := Lib.hid OF; clear OF
              go_wp2_with fail
              refine (alive_any _).mono ?_
              rintro e x1 ⟨rfl, hx1⟩
              have hb1 := hbz.trans (hx1.mono hbz.size)
              have hu1 := huz.below hx1 huz.lt
              clear k0 k1 k2 l0 l1 l2 ksz
              obtain ⟨⟨k0, k1, k2⟩, ⟨l0, l1, l2⟩, ksz⟩ := use3 hu1
              go_wp2_with fail
              refine (OF'.out _).mono ?_
              rintro e x2 ⟨rfl, hx2⟩
              go_wp2
              go_ret
              exact ⟨rfl, hb1.trans (hx2.mono hb1.size)⟩

        · have P := put_new_ok K R 0 key 0 value (by omega) (by omega) (by omega) (by omega) (by omega) (by omega) (over_zero (by omega) (by omega) (by omega))
          have hrt : rightB (K + 1) (R + key + value) 0 = true := right_iff.2 ⟨by omega, by omega, by omega⟩
          have RT := right_any (K + 1) (R + key + value) 0
          rw [hrt] at RT
          have P' := Lib.hid P; have RT' := Lib.hid RT; clear P RT hrt
          go_wp2_with fail
          refine (P'.out _).mono ?_
          rintro e w4 ⟨rfl, hb4⟩
          have S4 := (S3.alloc (.cells #[.int .i64 (K + 1), .int .i64 (R + key + value), .int .i64 0] 27)).call hb4
          obtain ⟨hc4, hf4⟩ := bcell hb4
          have hz4 : w3.heap.size < w4.heap.size := by have := hb4.size; (try simp at this); omega
          clear c0 c1 c2 d0 d1' d2' e0 e1 S3
          obtain ⟨⟨c0, c1, c2⟩, ⟨d0, d1', d2'⟩, e0, e1⟩ := S4.cells
          go_wp2_with fail
          refine (RT'.out _).mono ?_
          rintro e w5 ⟨rfl, hb5⟩
          have S5 := (S4.alloc (.cells #[.int .i64 (K + 1), .int .i64 (R + key + value), .int .i64 0] 27)).call hb5
          obtain ⟨hc5, hf5⟩ := bcell hb5
          have hz5 : w3.heap.size < w5.heap.size := by have := hb5.size; (try simp at this); omega
          have hz5a : w4.heap.size < w5.heap.size := by have := hb5.size; (try simp at this); omega
          have u5 := S5.use
          clear S4 c0 c1 c2 d0 d1' d2' e0 e1
          obtain ⟨⟨c0, c1, c2⟩, ⟨d0, d1', d2'⟩, e0, e1⟩ := S5.cells
          have fz := use3 u5
          obtain ⟨_, ⟨l0, l1, l2⟩, ksz⟩ := fz
          have FIN := S5.finish (K' := K + 1) (R' := R + key + value) (by have := HK.out; simp; omega) sumN.out.symm
          have FIN' := Lib.hid FIN; clear FIN S5
          go_wp2
          go_roundw
          case rel => exact ⟨k + 1, ks ++ [key], vs ++ [value], by omega, by omega, by go_num, by have := HK.out; simp; omega, by show _ = _; simp; exact hlen.out, by rw [sumN.out]; omega, FIN'.out⟩
          case measure => simp [intOf]; omega
      · have hbz := hbl
        have huz := hu
        clear hbl hu hA hB hs
        obtain ⟨⟨k0, k1, k2⟩, ⟨l0, l1, l2⟩, ksz⟩ := use3 huz
        have hst := set3 hbz huz (.int .i64 0) (.int .i64 0) (.int .i64 0)
        have hst' := Lib.hid hst; clear hst
        go_wp2
        go_loopw [13, 14] (fun nn i wr => ∃ (j c : Int), 0 ≤ j ∧ j ≤ 100 ∧ i = .int .i64 j ∧ nn = .int .i64 c ∧ 0 ≤ c ∧ c ≤ 50 ∧ Below w.heap.size w wr ∧ Blk wr w.heap.size 27 #[.int .i64 0, .int .i64 0, .int .i64 c]) (fun _ i _ => (100 - intOf i).toNat)
        case atStart => exact ⟨0, 0, by omega, by omega, rfl, rfl, by omega, by omega, hst'.out.1, hst'.out.2⟩
        case round =>
          clear hbz huz k0 k1 k2 l0 l1 l2 ksz
          obtain ⟨j, c, j0, j1, rfl, rfl, c0', c1', hbz, huz⟩ := hrel
          obtain ⟨⟨k0, k1, k2⟩, ⟨l0, l1, l2⟩, ksz⟩ := use3 huz
          by_cases ht1 : j < t
          · by_cases ht2 : j < 100
            · by_cases hc : c < 50
              · have A := arm_new_ok 0 0 c (by omega) (by omega) (by omega) (over_zero (by omega) (by omega) (by omega))
                have A' := Lib.hid A; clear A
                go_wp2_with fail
                refine (A'.out _).mono ?_
                rintro e x1 ⟨rfl, hx1⟩
                have hb1 := hbz.trans (hx1.mono hbz.size)
                have hu1 := huz.below hx1 huz.lt
                have hst2 := set3 hb1 hu1 (.int .i64 0) (.int .i64 0) (.int .i64 (c + 1))
                have hst3 := Lib.hid hst2; clear hst2
                clear k0 k1 k2 l0 l1 l2 ksz
                obtain ⟨⟨k0, k1, k2⟩, ⟨l0, l1, l2⟩, ksz⟩ := use3 hu1
                go_wp2
                go_roundw
                case rel => exact ⟨j + 1, c + 1, by omega, by omega, rfl, rfl, by omega, by omega, hst3.out.1.alloc hst3.out.1.size _, hst3.out.2.alloc _⟩
                case measure => simp [intOf]; omega
              · have A := arm_new_err 0 0 c 113 (by omega) (by omega) (by omega) (by unfold overV; rw [if_neg (by omega), if_neg (by omega), if_pos (by omega)]) (by decide)
                have A' := Lib.hid A; clear A
                go_wp2_with fail
                refine (A'.out _).mono ?_
                rintro e x1 ⟨rfl, hx1⟩
                have hb1 := hbz.trans (hx1.mono hbz.size)
                have hu1 := huz.below hx1 huz.lt
                have hb2 := hb1.alloc hb1.size (.cells #[.int .i64 0, .int .i64 0, .int .i64 0] 27)
                have hu2 := hu1.alloc (.cells #[.int .i64 0, .int .i64 0, .int .i64 0] 27)
                clear k0 k1 k2 l0 l1 l2 ksz
                go_wp2
                go_roundw
                case rel => exact ⟨j + 1, c, by omega, by omega, rfl, rfl, by omega, by omega, hb2, hu2⟩
                case measure => simp [intOf]; omega
            · have OF := fun wx => of_zero none A1 0 m1 0 d1 c c wx (by omega) (by omega)
              have OF' := Lib.hid OF; clear OF
              go_wp2_with fail
              refine (alive_any _).mono ?_
              rintro e x1 ⟨rfl, hx1⟩
              have hb1 := hbz.trans (hx1.mono hbz.size)
              have hu1 := huz.below hx1 huz.lt
              clear k0 k1 k2 l0 l1 l2 ksz
              obtain ⟨⟨k0, k1, k2⟩, ⟨l0, l1, l2⟩, ksz⟩ := use3 hu1
              go_wp2_with fail
              refine (OF'.out _).mono ?_
              rintro e x2 ⟨rfl, hx2⟩
              go_wp2
              go_ret
              exact ⟨rfl, hb1.trans (hx2.mono hb1.size)⟩

          · have OF := fun wx => of_zero none A1 0 m1 0 d1 c c wx (by omega) (by omega)
            have OF' := Lib.hid OF; clear OF
            go_wp2_with fail
            refine (alive_any _).mono ?_
            rintro e x1 ⟨rfl, hx1⟩
            have hb1 := hbz.trans (hx1.mono hbz.size)
            have hu1 := huz.below hx1 huz.lt
            clear k0 k1 k2 l0 l1 l2 ksz
            obtain ⟨⟨k0, k1, k2⟩, ⟨l0, l1, l2⟩, ksz⟩ := use3 hu1
            go_wp2_with fail
            refine (OF'.out _).mono ?_
            rintro e x2 ⟨rfl, hx2⟩
            go_wp2
            go_ret
            exact ⟨rfl, hb1.trans (hx2.mono hb1.size)⟩

    · have hbz := hbl
      have huz := hu
      clear hbl hu hA hB hs
      obtain ⟨⟨k0, k1, k2⟩, ⟨l0, l1, l2⟩, ksz⟩ := use3 huz
      have hst := set3 hbz huz (.int .i64 0) (.int .i64 0) (.int .i64 0)
      have hst' := Lib.hid hst; clear hst
      go_wp2
      go_loopw [13, 14] (fun nn i wr => ∃ (j c : Int), 0 ≤ j ∧ j ≤ 100 ∧ i = .int .i64 j ∧ nn = .int .i64 c ∧ 0 ≤ c ∧ c ≤ 50 ∧ Below w.heap.size w wr ∧ Blk wr w.heap.size 27 #[.int .i64 0, .int .i64 0, .int .i64 c]) (fun _ i _ => (100 - intOf i).toNat)
      case atStart => exact ⟨0, 0, by omega, by omega, rfl, rfl, by omega, by omega, hst'.out.1, hst'.out.2⟩
      case round =>
        clear hbz huz k0 k1 k2 l0 l1 l2 ksz
        obtain ⟨j, c, j0, j1, rfl, rfl, c0', c1', hbz, huz⟩ := hrel
        obtain ⟨⟨k0, k1, k2⟩, ⟨l0, l1, l2⟩, ksz⟩ := use3 huz
        by_cases ht1 : j < t
        · by_cases ht2 : j < 100
          · by_cases hc : c < 50
            · have A := arm_new_ok 0 0 c (by omega) (by omega) (by omega) (over_zero (by omega) (by omega) (by omega))
              have A' := Lib.hid A; clear A
              go_wp2_with fail
              refine (A'.out _).mono ?_
              rintro e x1 ⟨rfl, hx1⟩
              have hb1 := hbz.trans (hx1.mono hbz.size)
              have hu1 := huz.below hx1 huz.lt
              have hst2 := set3 hb1 hu1 (.int .i64 0) (.int .i64 0) (.int .i64 (c + 1))
              have hst3 := Lib.hid hst2; clear hst2
              clear k0 k1 k2 l0 l1 l2 ksz
              obtain ⟨⟨k0, k1, k2⟩, ⟨l0, l1, l2⟩, ksz⟩ := use3 hu1
              go_wp2
              go_roundw
              case rel => exact ⟨j + 1, c + 1, by omega, by omega, rfl, rfl, by omega, by omega, hst3.out.1.alloc hst3.out.1.size _, hst3.out.2.alloc _⟩
              case measure => simp [intOf]; omega
            · have A := arm_new_err 0 0 c 113 (by omega) (by omega) (by omega) (by unfold overV; rw [if_neg (by omega), if_neg (by omega), if_pos (by omega)]) (by decide)
              have A' := Lib.hid A; clear A
              go_wp2_with fail
              refine (A'.out _).mono ?_
              rintro e x1 ⟨rfl, hx1⟩
              have hb1 := hbz.trans (hx1.mono hbz.size)
              have hu1 := huz.below hx1 huz.lt
              have hb2 := hb1.alloc hb1.size (.cells #[.int .i64 0, .int .i64 0, .int .i64 0] 27)
              have hu2 := hu1.alloc (.cells #[.int .i64 0, .int .i64 0, .int .i64 0] 27)
              clear k0 k1 k2 l0 l1 l2 ksz
              go_wp2
              go_roundw
              case rel => exact ⟨j + 1, c, by omega, by omega, rfl, rfl, by omega, by omega, hb2, hu2⟩
              case measure => simp [intOf]; omega
          · have OF := fun wx => of_zero none A1 0 m1 0 d1 c c wx (by omega) (by omega)
            have OF' := Lib.hid OF; clear OF
            go_wp2_with fail
            refine (alive_any _).mono ?_
            rintro e x1 ⟨rfl, hx1⟩
            have hb1 := hbz.trans (hx1.mono hbz.size)
            have hu1 := huz.below hx1 huz.lt
            clear k0 k1 k2 l0 l1 l2 ksz
            obtain ⟨⟨k0, k1, k2⟩, ⟨l0, l1, l2⟩, ksz⟩ := use3 hu1
            go_wp2_with fail
            refine (OF'.out _).mono ?_
            rintro e x2 ⟨rfl, hx2⟩
            go_wp2
            go_ret
            exact ⟨rfl, hb1.trans (hx2.mono hb1.size)⟩

        · have OF := fun wx => of_zero none A1 0 m1 0 d1 c c wx (by omega) (by omega)
          have OF' := Lib.hid OF; clear OF
          go_wp2_with fail
          refine (alive_any _).mono ?_
          rintro e x1 ⟨rfl, hx1⟩
          have hb1 := hbz.trans (hx1.mono hbz.size)
          have hu1 := huz.below hx1 huz.lt
          clear k0 k1 k2 l0 l1 l2 ksz
          obtain ⟨⟨k0, k1, k2⟩, ⟨l0, l1, l2⟩, ksz⟩ := use3 hu1
          go_wp2_with fail
          refine (OF'.out _).mono ?_
          rintro e x2 ⟨rfl, hx2⟩
          go_wp2
          go_ret
          exact ⟨rfl, hb1.trans (hx2.mono hb1.size)⟩

end Go.Proofs.Ytlemjdkefojoeaa

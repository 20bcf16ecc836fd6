/-
  The walks of layer 11's Of, and of the reference's.
-/
import Derived.Test.YtlemjdkefojoeaaAlive
import Derived.Test.YtlemjdkefojoeaaPlainB
import Derived.RegionTactic
import Derived.ChangeAlike
import Derived.Lib.MinMax
import Derived.Laws.OwnMore
import Derived.Deep.Draws
import Derived.Laws.Rows
namespace Go.Proofs.Ytlemjdkefojoeaa
open Go.RowKit Quo

/-- Block g is just these cells, none of them frozen. -/
def Blk (w : World) (g : Nat) (t : TypeId) (cs : Array Value) : Prop := w.heap[g]? = some (.cells cs t (0, 0))
theorem Blk.lt {w : World} {g : Nat} {t : TypeId} {cs : Array Value} (h : Blk w g t cs) : g < w.heap.size := by
  rcases Nat.lt_or_ge g w.heap.size with hlt | hge
  · exact hlt
  · unfold Blk at h; rw [Array.getElem?_eq_none hge] at h; cases h
theorem Blk.cell {w : World} {g : Nat} {t : TypeId} {cs : Array Value} (h : Blk w g t cs) (i : Nat) : w.cell? ⟨g, i, none⟩ = cs[i]? := cell_of_row w g i cs t (0, 0) h
theorem Blk.frozen {w : World} {g : Nat} {t : TypeId} {cs : Array Value} (h : Blk w g t cs) (i : Nat) : w.frozen? ⟨g, i, none⟩ = false := by
  unfold Blk at h
  simp [World.frozen?, h]
theorem Blk.new (w : World) (t : TypeId) (cs : Array Value) : Blk (w.alloc (.cells cs t)) w.heap.size t cs := heap_alloc_new w _
theorem Blk.alloc {w : World} {g : Nat} {t : TypeId} {cs : Array Value} (h : Blk w g t cs) (o : Obj) : Blk (w.alloc o) g t cs := (Below.heap_alloc w o g h.lt).trans h
theorem Blk.drew {w : World} {g : Nat} {t : TypeId} {cs : Array Value} (h : Blk w g t cs) : Blk w.drew g t cs := h
theorem Blk.set_ {w : World} {g : Nat} {t : TypeId} {cs : Array Value} (h : Blk w g t cs) (i : Nat) (u : Value) : Blk (w.setCell ⟨g, i, none⟩ u) g t (cs.setIfInBounds i u) := by
  unfold Blk at h ⊢
  simp [World.setCell, Array.getElem?_modify, h]
theorem Blk.far {w : World} {g : Nat} {t : TypeId} {cs : Array Value} (h : Blk w g t cs) {p : Addr} (hp : g ≠ p.block) (u : Value) : Blk (w.setCell p u) g t cs := (Below.heap_setCell w p u g hp).trans h

/-- The cells from there on are these numbers. -/
def IntsAt (w : World) (b off : Nat) (xs : List Int) : Prop :=
  b < w.heap.size ∧ ∀ i (h : i < xs.length), w.cell? ⟨b, off + i, none⟩ = some (.int .i64 xs[i])

/-- The world in the midst of Of. -/
def OfW (w : World) (A1 A2 : Option Addr) (n c1 c2 : Nat) (T R : Int) (wr : World) : Prop :=
  Below w.heap.size w wr ∧ Blk wr w.heap.size 27 #[.int .i64 0, .int .i64 0, .int .i64 0] ∧ Blk wr (w.heap.size + 1) 27 #[.int .i64 n, .int .i64 R, .int .i64 T] ∧ Blk wr (w.heap.size + 2) 22 #[.slice A1 n c1, .slice A2 n c2]

theorem OfW.start (w : World) (A1 A2 : Option Addr) (n c1 c2 : Nat) (T : Int) : OfW w A1 A2 n c1 c2 T 0 ((((w.alloc (.cells #[.int .i64 0, .int .i64 0, .int .i64 0] 27)).alloc (.cells #[.int .i64 n, .int .i64 0, .int .i64 T] 27)).alloc (.cells #[.slice A1 n c1, .slice A2 n c2] 22)).drew) := by
  refine ⟨?_, ?_, ?_, ?_⟩
  · exact ((((Below.refl _ _).alloc (Nat.le_refl _) _).alloc (by simp) _).alloc (by simp; omega) _).drew
  · exact (((Blk.new w 27 _).alloc _).alloc _).drew
  · have h := ((Blk.new (w.alloc (.cells #[.int .i64 0, .int .i64 0, .int .i64 0] 27)) 27 #[.int .i64 n, .int .i64 0, .int .i64 T]).alloc (.cells #[.slice A1 n c1, .slice A2 n c2] 22)).drew
    simpa using h
  · have h := (Blk.new ((w.alloc (.cells #[.int .i64 0, .int .i64 0, .int .i64 0] 27)).alloc (.cells #[.int .i64 n, .int .i64 0, .int .i64 T] 27)) 22 #[.slice A1 n c1, .slice A2 n c2]).drew
    simpa using h

theorem OfW.set {w : World} {A1 A2 : Option Addr} {n c1 c2 : Nat} {T R : Int} {wr : World} (h : OfW w A1 A2 n c1 c2 T R wr) (R' : Int) : OfW w A1 A2 n c1 c2 T R' (wr.setCell ⟨w.heap.size + 1, 1, none⟩ (.int .i64 R')) := by
  obtain ⟨h1, h2, h3, h4⟩ := h
  refine ⟨h1.setCell (by simp) _, h2.far (by simp) _, ?_, h4.far (by simp) _⟩
  have := h3.set_ 1 (.int .i64 R')
  simpa using this

theorem IntsAt.at {w wr : World} {b off : Nat} {xs : List Int} (h : IntsAt w b off xs) (hb : Below w.heap.size w wr) {i : Nat} (hi : i < xs.length) :
    wr.cell? ⟨b, off + i, none⟩ = some (.int .i64 xs[i]) :=
  (hb.cell (p := ⟨b, off + i, none⟩) h.1).trans (h.2 i hi)

set_option maxHeartbeats 1600000 in
theorem of_pos (b1 o1 b2 o2 : Nat) (n1 n2 c1 c2 n : Nat) (xs ys : List Int) (t T : Int) (w : World) (h1 : n ≤ 3000) (h3 : n1 ≤ c1) (h4 : n2 ≤ c2) (hn1 : n ≤ n1) (hn2 : n ≤ n2)
    (hm : min (n1 : Int) (n2 : Int) = (n : Int)) (hT : min (max t 0) 2147483647 = T) (hx : n = xs.length) (hy : n = ys.length) (hX : IntsAt w b1 o1 xs) (hY : IntsAt w b2 o2 ys) :
    Calls Try.prog 8 #[.slice (some ⟨b1, o1, none⟩) n1 c1, .slice (some ⟨b2, o2, none⟩) n2 c2, .int .i64 t] w fun e w' => e = .returned (.agg #[.int .i64 n, .int .i64 (sumW xs + sumW ys), .int .i64 T]) ∧ Below w.heap.size w w' := by
  have hm2 : min (n : Int) 2147483647 = n := by omega
  have hX' := Lib.hid hX; have hY' := Lib.hid hY; clear hX hY
  have hx' : n ≤ xs.length := by omega
  have hy' : n ≤ ys.length := by omega
  have hxx : xs.length ≤ n := by omega
  have hyy : ys.length ≤ n := by omega
  have Hx := Lib.hid hx; have Hy := Lib.hid hy; clear hx hy
  have bx := sumW_bd xs; have by' := sumW_bd ys
  go_enter Try.func8, Try.ntmps8
  go_wp2
  go_region
  go_wp2
  go_loopw [10, 12, 32, 35, 36, 37, 38] (fun _ _ i _ _ _ _ wr => ∃ (k : Int) (R : Int), 0 ≤ k ∧ k ≤ 2 ∧ i = .int .i64 k ∧ Hid (R = if k = 0 then 0 else if k = 1 then sumW xs else sumW xs + sumW ys) ∧ OfW w (some ⟨b1, o1, none⟩) (some ⟨b2, o2, none⟩) n c1 c2 T R wr) (fun _ _ i _ _ _ _ _ => (2 - intOf i).toNat)
  case atStart => exact ⟨0, 0, by omega, by omega, rfl, rfl, OfW.start w (some ⟨b1, o1, none⟩) (some ⟨b2, o2, none⟩) n c1 c2 T⟩
  case round =>
    obtain ⟨k, S, hk0, hk, rfl, hS, v1, v2, v3, v4⟩ := hrel
    have f0 := v4.cell 0
    have f1 := v4.cell 1
    simp at f0 f1
    have hk' : k = 0 ∨ k = 1 ∨ k = 2 := by omega
    clear hk hk0
    rcases hk' with rfl | rfl | rfl
    · have hS1 : S = 0 := hS.out
      have hS2 : Hid (S = 0) := Lib.hid hS1
      have hS3 : 0 ≤ S := by omega
      have hS4 : S ≤ 12000000 := by omega
      clear hS1 hS
      go_wp2
      obtain ⟨wo, rfl⟩ : ∃ wo : World, wo = wr := ⟨_, rfl⟩
      go_loopw [12, 38] (fun _ i wr => ∃ (j : Nat) (R : Int), j ≤ n ∧ i = .int .i64 j ∧ Hid (R = S + sumW (xs.take j)) ∧ OfW w (some ⟨b1, o1, none⟩) (some ⟨b2, o2, none⟩) n c1 c2 T R wr) (fun _ i _ => n - (intOf i).toNat)
      case atStart => exact ⟨0, S, Nat.zero_le _, rfl, Lib.hid (by simp [sumW]), v1, v2, v3, v4⟩
      case round =>
        clear v1 v2 v3 v4
        obtain ⟨j, R, hj, rfl, hR, v1, v2, v3, v4⟩ := hrel
        have e1 := v3.cell 1
        have e2 := v3.frozen 1
        simp at e1
        by_cases hlt : j < n
        · have hxl : j < xs.length := by omega
          have hcell := hX'.out.at v1 hxl
          have hst := sumW_step xs j hxl
          have sb := sumW_take xs j
          have hRv := hR.out
          have hR0 : 0 ≤ R := by omega
          have hR1 : R ≤ 24000000 := by omega
          have HV : OfW w (some ⟨b1, o1, none⟩) (some ⟨b2, o2, none⟩) n c1 c2 T R wr := ⟨v1, v2, v3, v4⟩
          have W := within_any xs[j] 4000
          cases hwi : wi xs[j] 4000
          · rw [hwi, if_neg (by simp)] at hst
            have hR2 : Hid (R = S + sumW (xs.take (j + 1))) := by show _ = _; omega
            rw [hwi] at W
            have W' := Lib.hid W
            generalize xs[j] = x at *
            clear hst sb hRv W hwi
            go_wp2_with (go_at_call 15; (with_reducible refine (W'.out _).mono ?_); rintro e w' ⟨rfl, rfl⟩)
            go_roundw
            case rel => exact ⟨j + 1, R, by omega, by go_num, hR2, HV⟩
            case measure => simp [intOf]; omega
          · rw [hwi, if_pos rfl] at hst
            have hR2 : Hid (R + xs[j] = S + sumW (xs.take (j + 1))) := by show _ = _; omega
            have hxb := wi_iff.1 hwi
            rw [hwi] at W
            have W' := Lib.hid W
            generalize xs[j] = x at *
            clear hst sb hRv W hwi
            obtain ⟨x0, x1⟩ := hxb
            have hmn : min (R + x) 2147483647 = R + x := by omega
            have HV2 := HV.set (R + x)
            go_wp2_with (go_at_call 15; (with_reducible refine (W'.out _).mono ?_); rintro e w' ⟨rfl, rfl⟩)
            go_roundw
            case rel => exact ⟨j + 1, R + x, by omega, by go_num, hR2, HV2⟩
            case measure => simp [intOf]; omega
        · obtain rfl : j = n := by omega
          have HV : OfW w (some ⟨b1, o1, none⟩) (some ⟨b2, o2, none⟩) j c1 c2 T R wr := ⟨v1, v2, v3, v4⟩
          have hRv := hR.out
          rw [List.take_of_length_le (by rw [← Hx.out]; omega)] at hRv
          have hRR := Lib.hid hRv; clear hRv
          go_wp2
          go_roundw
          case rel => exact ⟨1, R, by omega, by omega, rfl, by show _ = _; rw [hRR.out, hS2.out]; simp, HV⟩
          case measure => simp [intOf]
    · have hS1 : S = sumW xs := hS.out
      have hS2 : Hid (S = sumW xs) := Lib.hid hS1
      have hS3 : 0 ≤ S := by omega
      have hS4 : S ≤ 12000000 := by omega
      clear hS1 hS
      go_wp2
      obtain ⟨wo, rfl⟩ : ∃ wo : World, wo = wr := ⟨_, rfl⟩
      go_loopw [12, 38] (fun _ i wr => ∃ (j : Nat) (R : Int), j ≤ n ∧ i = .int .i64 j ∧ Hid (R = S + sumW (ys.take j)) ∧ OfW w (some ⟨b1, o1, none⟩) (some ⟨b2, o2, none⟩) n c1 c2 T R wr) (fun _ i _ => n - (intOf i).toNat)
      case atStart => exact ⟨0, S, Nat.zero_le _, rfl, Lib.hid (by simp [sumW]), v1, v2, v3, v4⟩
      case round =>
        clear v1 v2 v3 v4
        obtain ⟨j, R, hj, rfl, hR, v1, v2, v3, v4⟩ := hrel
        have e1 := v3.cell 1
        have e2 := v3.frozen 1
        simp at e1
        by_cases hlt : j < n
        · have hxl : j < ys.length := by omega
          have hcell := hY'.out.at v1 hxl
          have hst := sumW_step ys j hxl
          have sb := sumW_take ys j
          have hRv := hR.out
          have hR0 : 0 ≤ R := by omega
          have hR1 : R ≤ 24000000 := by omega
          have HV : OfW w (some ⟨b1, o1, none⟩) (some ⟨b2, o2, none⟩) n c1 c2 T R wr := ⟨v1, v2, v3, v4⟩
          have W := within_any ys[j] 4000
          cases hwi : wi ys[j] 4000
          · rw [hwi, if_neg (by simp)] at hst
            have hR2 : Hid (R = S + sumW (ys.take (j + 1))) := by show _ = _; omega
            rw [hwi] at W
            have W' := Lib.hid W
            generalize ys[j] = x at *
            clear hst sb hRv W hwi
            go_wp2_with (go_at_call 15; (with_reducible refine (W'.out _).mono ?_); rintro e w' ⟨rfl, rfl⟩)
            go_roundw
            case rel => exact ⟨j + 1, R, by omega, by go_num, hR2, HV⟩
            case measure => simp [intOf]; omega
          · rw [hwi, if_pos rfl] at hst
            have hR2 : Hid (R + ys[j] = S + sumW (ys.take (j + 1))) := by show _ = _; omega
            have hxb := wi_iff.1 hwi
            rw [hwi] at W
            have W' := Lib.hid W
            generalize ys[j] = x at *
            clear hst sb hRv W hwi
            obtain ⟨x0, x1⟩ := hxb
            have hmn : min (R + x) 2147483647 = R + x := by omega
            have HV2 := HV.set (R + x)
            go_wp2_with (go_at_call 15; (with_reducible refine (W'.out _).mono ?_); rintro e w' ⟨rfl, rfl⟩)
            go_roundw
            case rel => exact ⟨j + 1, R + x, by omega, by go_num, hR2, HV2⟩
            case measure => simp [intOf]; omega
        · obtain rfl : j = n := by omega
          have HV : OfW w (some ⟨b1, o1, none⟩) (some ⟨b2, o2, none⟩) j c1 c2 T R wr := ⟨v1, v2, v3, v4⟩
          have hRv := hR.out
          rw [List.take_of_length_le (by rw [← Hy.out]; omega)] at hRv
          have hRR := Lib.hid hRv; clear hRv
          go_wp2
          go_roundw
          case rel => exact ⟨2, R, by omega, by omega, rfl, by show _ = _; rw [hRR.out, hS2.out]; simp, HV⟩
          case measure => simp [intOf]
    · have hS1 : S = sumW xs + sumW ys := hS.out
      have hS2 := Lib.hid hS1
      clear hS1 hS
      have e0 := v3.cell 0
      have e1 := v3.cell 1
      have e2 := v3.cell 2
      have g0 := v2.cell 0
      have g1 := v2.cell 1
      have g2 := v2.cell 2
      have q0 := v2.frozen 0
      have q1 := v2.frozen 1
      have q2 := v2.frozen 2
      simp at e0 e1 e2 g0 g1 g2
      go_wp2
      refine bodyPost_ret (v := .agg #[.int .i64 n, .int .i64 S, .int .i64 T]) (by simp [results, Try.results8, go_sem, g0, g1, g2]) rfl ⟨by rw [hS2.out], ?_⟩
      repeat (first | exact v1 | refine Below.setCell ?_ (by simp) _)

set_option maxHeartbeats 1600000 in
theorem of_zero (A1 A2 : Option Addr) (n1 n2 c1 c2 : Nat) (t T : Int) (w : World)
    (hm : min (n1 : Int) (n2 : Int) = 0) (hT : min (max t 0) 2147483647 = T) :
    Calls Try.prog 8 #[.slice A1 n1 c1, .slice A2 n2 c2, .int .i64 t] w fun e w' => e = .returned (.agg #[.int .i64 0, .int .i64 0, .int .i64 T]) ∧ Below w.heap.size w w' := by
  go_enter Try.func8, Try.ntmps8
  go_wp2
  go_region
  go_wp2
  go_loopw [10, 12, 32, 35, 36, 37, 38] (fun _ _ i _ _ _ _ wr => ∃ k : Int, 0 ≤ k ∧ k ≤ 2 ∧ i = .int .i64 k ∧ OfW w A1 A2 0 c1 c2 T 0 wr) (fun _ _ i _ _ _ _ _ => (2 - intOf i).toNat)
  case atStart => exact ⟨0, by omega, by omega, rfl, OfW.start w A1 A2 0 c1 c2 T⟩
  case round =>
    obtain ⟨k, hk0, hk, rfl, v1, v2, v3, v4⟩ := hrel
    have f0 := v4.cell 0
    have f1 := v4.cell 1
    simp at f0 f1
    have hk' : k = 0 ∨ k = 1 ∨ k = 2 := by omega
    clear hk hk0
    rcases hk' with rfl | rfl | rfl
    · have HV : OfW w A1 A2 0 c1 c2 T 0 wr := ⟨v1, v2, v3, v4⟩
      clear v1 v2 v3 v4
      go_wp2
      obtain ⟨wo, rfl⟩ : ∃ wo : World, wo = wr := ⟨_, rfl⟩
      go_loopw [38] (fun i wr => i = .int .i64 0 ∧ wr = wo) (fun i _ => (1 - intOf i).toNat)
      case atStart => exact ⟨rfl, rfl⟩
      case round =>
        obtain ⟨rfl, rfl⟩ := hrel
        go_wp2
        go_roundw
        case rel => exact ⟨1, by omega, by omega, rfl, HV⟩
        case measure => simp [intOf]
    · have HV : OfW w A1 A2 0 c1 c2 T 0 wr := ⟨v1, v2, v3, v4⟩
      clear v1 v2 v3 v4
      go_wp2
      obtain ⟨wo, rfl⟩ : ∃ wo : World, wo = wr := ⟨_, rfl⟩
      go_loopw [38] (fun i wr => i = .int .i64 0 ∧ wr = wo) (fun i _ => (1 - intOf i).toNat)
      case atStart => exact ⟨rfl, rfl⟩
      case round =>
        obtain ⟨rfl, rfl⟩ := hrel
        go_wp2
        go_roundw
        case rel => exact ⟨2, by omega, by omega, rfl, HV⟩
        case measure => simp [intOf]
    · have e0 := v3.cell 0
      have e1 := v3.cell 1
      have e2 := v3.cell 2
      have g0 := v2.cell 0
      have g1 := v2.cell 1
      have g2 := v2.cell 2
      have q0 := v2.frozen 0
      have q1 := v2.frozen 1
      have q2 := v2.frozen 2
      simp at e0 e1 e2 g0 g1 g2
      go_wp2
      refine bodyPost_ret (v := .agg #[.int .i64 0, .int .i64 0, .int .i64 T]) (by simp [results, Try.results8, go_sem, g0, g1, g2]) rfl ⟨rfl, ?_⟩
      repeat (first | exact v1 | refine Below.setCell ?_ (by simp) _)

/-- ref.go's size. -/
theorem size_any (n : Int) (w : World) :
    Calls Try.prog 16 #[.int .i64 n] w fun e w' => e = .returned (.bool (wi n 4000)) ∧ w = w' := by
  by_cases h : 0 ≤ n
  · by_cases h2 : n ≤ 4000
    · have e : wi n 4000 = true := wi_true h h2
      rw [e]; clear e
      go_enter Try.func16, Try.ntmps16
      go_wp2
      go_ret
      exact ⟨rfl, rfl⟩
    · have e : wi n 4000 = false := wi_false.2 (by omega)
      rw [e]; clear e
      go_enter Try.func16, Try.ntmps16
      go_wp2
      go_ret
      exact ⟨rfl, rfl⟩
  · have e : wi n 4000 = false := wi_false.2 (by omega)
    rw [e]; clear e
    go_enter Try.func16, Try.ntmps16
    go_wp2
    go_ret
    exact ⟨rfl, rfl⟩

set_option maxHeartbeats 1600000 in
theorem rof_zero (A1 A2 : Option Addr) (n1 n2 c1 c2 : Nat) (t T : Int) (w : World)
    (hm : min (n1 : Int) (n2 : Int) = 0) (hT : min (max t 0) 2147483647 = T) :
    Calls Try.prog 9 #[.slice A1 n1 c1, .slice A2 n2 c2, .int .i64 t] w fun e w' => e = .returned (.agg #[.int .i64 0, .int .i64 0, .int .i64 T]) ∧ Below w.heap.size w w' := by
  have hz0 : min (0 : Int) 2147483647 = 0 := by decide
  go_enter Try.func9, Try.ntmps9
  go_wp2
  go_loopw [8, 9] (fun r i wr => r = .int .i64 0 ∧ i = .int .i64 0 ∧ wr = w.alloc (.cells #[.int .i64 0, .int .i64 0, .int .i64 0] 25)) (fun _ i _ => (1 - intOf i).toNat)
  case atStart => exact ⟨rfl, rfl, rfl⟩
  case round =>
    obtain ⟨rfl, rfl, rfl⟩ := hrel
    go_wp2
    refine bodyPost_ret (v := .agg #[.int .i64 0, .int .i64 0, .int .i64 T]) (by simp [results, Try.results9, go_sem]) rfl ⟨rfl, ?_⟩
    repeat (first | exact Below.refl _ _ | refine Below.setCell ?_ (by simp) _ | refine Below.alloc ?_ (by simp) _)

set_option maxHeartbeats 1600000 in
theorem rof_pos (b1 o1 b2 o2 : Nat) (n1 n2 c1 c2 n : Nat) (xs ys : List Int) (t T : Int) (w : World) (h1 : n ≤ 3000) (hn1 : n ≤ n1) (hn2 : n ≤ n2)
    (hm : min (n1 : Int) (n2 : Int) = (n : Int)) (hT : min (max t 0) 2147483647 = T) (hx : n = xs.length) (hy : n = ys.length) (hX : IntsAt w b1 o1 xs) (hY : IntsAt w b2 o2 ys) :
    Calls Try.prog 9 #[.slice (some ⟨b1, o1, none⟩) n1 c1, .slice (some ⟨b2, o2, none⟩) n2 c2, .int .i64 t] w fun e w' => e = .returned (.agg #[.int .i64 n, .int .i64 (sumW xs + sumW ys), .int .i64 T]) ∧ Below w.heap.size w w' := by
  have hm2 : min (n : Int) 2147483647 = n := by omega
  have hb : Below w.heap.size w (w.alloc (.cells #[.int .i64 0, .int .i64 0, .int .i64 0] 25)) := (Below.refl _ _).alloc (Nat.le_refl _) _
  have hX' := Lib.hid hX; have hY' := Lib.hid hY; clear hX hY
  have hx' : n ≤ xs.length := by omega
  have hy' : n ≤ ys.length := by omega
  have hxx : xs.length ≤ n := by omega
  have hyy : ys.length ≤ n := by omega
  have Hx := Lib.hid hx; have Hy := Lib.hid hy; clear hx hy
  go_enter Try.func9, Try.ntmps9
  go_wp2
  go_loopw [8, 9] (fun r i wr => ∃ (j : Nat) (R : Int), j ≤ n ∧ r = .int .i64 R ∧ i = .int .i64 j ∧ Hid (R = sumW (xs.take j) + sumW (ys.take j)) ∧ wr = w.alloc (.cells #[.int .i64 0, .int .i64 0, .int .i64 0] 25)) (fun _ i _ => n - (intOf i).toNat)
  case atStart => exact ⟨0, 0, Nat.zero_le _, rfl, rfl, rfl, rfl⟩
  case round =>
    obtain ⟨j, R, hj, rfl, rfl, hR, rfl⟩ := hrel
    by_cases hlt : j < n
    · have hxl : j < xs.length := by omega
      have hyl : j < ys.length := by omega
      have hcx := hX'.out.at hb hxl
      have hcy := hY'.out.at hb hyl
      have sx := sumW_step xs j hxl
      have sy := sumW_step ys j hyl
      have bx := sumW_take xs j
      have by' := sumW_take ys j
      have hRv := hR.out
      have hR0 : 0 ≤ R := by omega
      have hR1 : R ≤ 24000000 := by omega
      have W1 := size_any xs[j]
      have W2 := size_any ys[j]
      have hx0 : wi xs[j] 4000 = true → 0 ≤ xs[j] ∧ xs[j] ≤ 4000 := fun h => wi_iff.1 h
      have hy0 : wi ys[j] 4000 = true → 0 ≤ ys[j] ∧ ys[j] ≤ 4000 := fun h => wi_iff.1 h
      generalize wi xs[j] 4000 = p at *
      generalize wi ys[j] 4000 = q at *
      generalize xs[j] = x at *
      generalize ys[j] = y at *
      have W1' := Lib.hid W1; have W2' := Lib.hid W2; clear W1 W2
      cases p <;> cases q
      · rw [if_neg (by simp)] at sx sy
        have hR2 : Hid (R = sumW (xs.take (j + 1)) + sumW (ys.take (j + 1))) := by show _ = _; omega
        clear sx sy hRv hx0 hy0
        have hmn : min R 2147483647 = R := by omega
        go_wp2_with (first | (go_at_call 16; (with_reducible refine (W1'.out _).mono ?_); rintro e w' ⟨rfl, rfl⟩) | (go_at_call 16; (with_reducible refine (W2'.out _).mono ?_); rintro e w' ⟨rfl, rfl⟩))
        go_roundw
        case rel => exact ⟨j + 1, R, by omega, rfl, by go_num, hR2, trivial⟩
        case measure => simp [intOf]; omega
      · rw [if_neg (by simp)] at sx
        rw [if_pos rfl] at sy
        have hR2 : Hid (R + y = sumW (xs.take (j + 1)) + sumW (ys.take (j + 1))) := by show _ = _; omega
        obtain ⟨y0, y1⟩ := hy0 rfl
        clear sx sy hRv hx0 hy0
        have hmn : min (R + y) 2147483647 = R + y := by omega
        go_wp2_with (first | (go_at_call 16; (with_reducible refine (W1'.out _).mono ?_); rintro e w' ⟨rfl, rfl⟩) | (go_at_call 16; (with_reducible refine (W2'.out _).mono ?_); rintro e w' ⟨rfl, rfl⟩))
        go_roundw
        case rel => exact ⟨j + 1, R + y, by omega, rfl, by go_num, hR2, trivial⟩
        case measure => simp [intOf]; omega
      · rw [if_pos rfl] at sx
        rw [if_neg (by simp)] at sy
        have hR2 : Hid (R + x = sumW (xs.take (j + 1)) + sumW (ys.take (j + 1))) := by show _ = _; omega
        obtain ⟨x0, x1⟩ := hx0 rfl
        clear sx sy hRv hx0 hy0
        have hmn : min (R + x) 2147483647 = R + x := by omega
        go_wp2_with (first | (go_at_call 16; (with_reducible refine (W1'.out _).mono ?_); rintro e w' ⟨rfl, rfl⟩) | (go_at_call 16; (with_reducible refine (W2'.out _).mono ?_); rintro e w' ⟨rfl, rfl⟩))
        go_roundw
        case rel => exact ⟨j + 1, R + x, by omega, rfl, by go_num, hR2, trivial⟩
        case measure => simp [intOf]; omega
      · rw [if_pos rfl] at sx sy
        have hR2 : Hid (R + x + y = sumW (xs.take (j + 1)) + sumW (ys.take (j + 1))) := by show _ = _; omega
        obtain ⟨x0, x1⟩ := hx0 rfl
        obtain ⟨y0, y1⟩ := hy0 rfl
        clear sx sy hRv hx0 hy0
        have hmn : min (R + x + y) 2147483647 = R + x + y := by omega
        go_wp2_with (first | (go_at_call 16; (with_reducible refine (W1'.out _).mono ?_); rintro e w' ⟨rfl, rfl⟩) | (go_at_call 16; (with_reducible refine (W2'.out _).mono ?_); rintro e w' ⟨rfl, rfl⟩))
        go_roundw
        case rel => exact ⟨j + 1, R + x + y, by omega, rfl, by go_num, hR2, trivial⟩
        case measure => simp [intOf]; omega
    · obtain rfl : j = n := by omega
      have hRv := hR.out
      rw [List.take_of_length_le hxx, List.take_of_length_le hyy] at hRv
      have HR := Lib.hid hRv; clear hRv
      go_wp2
      refine bodyPost_ret (v := .agg #[.int .i64 j, .int .i64 R, .int .i64 T]) (by simp [results, Try.results9, go_sem]) rfl ⟨by rw [HR.out], ?_⟩
      exact (Below.refl _ _).alloc (Nat.le_refl _) _
end Go.Proofs.Ytlemjdkefojoeaa

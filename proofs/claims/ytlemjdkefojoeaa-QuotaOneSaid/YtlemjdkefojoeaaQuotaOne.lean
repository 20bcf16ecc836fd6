/-
  QuotaOne returns true for every sizes and timers, and leaves them as they were; no condition.
-/
import Derived.Test.YtlemjdkefojoeaaRows
import Derived.Test.YtlemjdkefojoeaaOneB
import Derived.WalkKit
import Derived.ProofKit
import Derived.OpenShut
import Derived.ShutString
import Derived.ChangeOld
import Derived.Below
import Derived.Deep.Slices
import Derived.Deep.Fields
import Derived.ChangeSame
namespace Go.Proofs.Ytlemjdkefojoeaa.quotaOne
open Go.ChangeShapes Go.WideShapes Go.ChangeAt Go.RowKit Go.Deep
open Quo
set_option linter.unusedVariables false

theorem own : ownKnob Try.prog.godebug = none := by kernel_rfl
theorem laidOut : laidOutB Try.prog = true := by kernel_rfl

set_option maxRecDepth 100000 in
set_option maxHeartbeats 1600000 in
theorem one_empty (A : Option Addr) (cap : Nat) (t : Int) (w : World) :
    Calls Try.prog 4 #[.slice A 0 cap, .int .i64 t] w fun e w' => e = .returned (.bool true) ∧ Below w.heap.size w w' := by
  go_enter Try.func4, Try.ntmps4
  go_wp2
  go_loopw [6, 7, 8] (fun va vb i wr => i = .int .i64 0 ∧ va = .slice none 0 0 ∧ Below w.heap.size w wr ∧ Blk wr w.heap.size 27 #[.int .i64 0, .int .i64 0, .int .i64 0]) (fun _ _ i _ => (1 - intOf i).toNat)
  case atStart => exact ⟨rfl, rfl, (Below.refl _ _).alloc (Nat.le_refl _) _, Blk.new w 27 #[.int .i64 0, .int .i64 0, .int .i64 0]⟩
  case round =>
    obtain ⟨rfl, rfl, hbl, hu⟩ := hrel
    have hbz := hbl
    have huz := hu
    obtain ⟨⟨k0, k1, k2⟩, ⟨l0, l1, l2⟩, ksz⟩ := use3 huz
    have hst := set3 hbz huz (.int .i64 0) (.int .i64 0) (.int .i64 0)
    have hst' := Lib.hid hst; clear hst
    go_wp2
    go_loopw [13, 14] (fun nn i wr => ∃ (j c : Int), 0 ≤ j ∧ j ≤ 100 ∧ i = .int .i64 j ∧ nn = .int .i64 c ∧ 0 ≤ c ∧ c ≤ 50 ∧ Below w.heap.size w wr ∧ Blk wr w.heap.size 27 #[.int .i64 0, .int .i64 0, .int .i64 c]) (fun _ i _ => (100 - intOf i).toNat)
    case atStart => exact ⟨0, 0, by omega, by omega, rfl, rfl, by omega, by omega, hst'.out.1, hst'.out.2⟩
    case round =>
      clear hbz huz k0 k1 k2 l0 l1 l2 ksz
      obtain ⟨j, c, j0, j1, rfl, rfl, c0', c1', hbz, huz⟩ := hrel
      obtain ⟨⟨k0, k1, k2⟩, ⟨l0, l1, l2⟩, ksz⟩ := use3 huz
      by_cases ht1 : j < t
      · by_cases ht2 : j < 100
        · by_cases hc : c < 50
          · have A := arm_new_ok 0 0 c (by omega) (by omega) (by omega) (over_zero (by omega) (by omega) (by omega))
            have A' := Lib.hid A; clear A
            go_wp2_with fail
            refine (A'.out _).mono ?_
            rintro e x1 ⟨rfl, hx1⟩
            have hb1 := hbz.trans (hx1.mono hbz.size)
            have hu1 := huz.below hx1 huz.lt
            have hst2 := set3 hb1 hu1 (.int .i64 0) (.int .i64 0) (.int .i64 (c + 1))
            have hst3 := Lib.hid hst2; clear hst2
            clear k0 k1 k2 l0 l1 l2 ksz
            obtain ⟨⟨k0, k1, k2⟩, ⟨l0, l1, l2⟩, ksz⟩ := use3 hu1
            go_wp2
            go_roundw
            case rel => exact ⟨j + 1, c + 1, by omega, by omega, rfl, rfl, by omega, by omega, hst3.out.1.alloc hst3.out.1.size _, hst3.out.2.alloc _⟩
            case measure => simp [intOf]; omega
          · have A := arm_new_err 0 0 c 113 (by omega) (by omega) (by omega) (by unfold overV; rw [if_neg (by omega), if_neg (by omega), if_pos (by omega)]) (by decide)
            have A' := Lib.hid A; clear A
            go_wp2_with fail
            refine (A'.out _).mono ?_
            rintro e x1 ⟨rfl, hx1⟩
            have hb1 := hbz.trans (hx1.mono hbz.size)
            have hu1 := huz.below hx1 huz.lt
            have hb2 := hb1.alloc hb1.size (.cells #[.int .i64 0, .int .i64 0, .int .i64 0] 27)
            have hu2 := hu1.alloc (.cells #[.int .i64 0, .int .i64 0, .int .i64 0] 27)
            clear k0 k1 k2 l0 l1 l2 ksz
            go_wp2
            go_roundw
            case rel => exact ⟨j + 1, c, by omega, by omega, rfl, rfl, by omega, by omega, hb2, hu2⟩
            case measure => simp [intOf]; omega
        · have OF := fun wx => of_zero none none 0 0 0 0 c c wx (by omega) (by omega)
          have OF' := Lib.hid OF; clear OF
          go_wp2_with fail
          refine (alive_any _).mono ?_
          rintro e x1 ⟨rfl, hx1⟩
          have hb1 := hbz.trans (hx1.mono hbz.size)
          have hu1 := huz.below hx1 huz.lt
          clear k0 k1 k2 l0 l1 l2 ksz
          obtain ⟨⟨k0, k1, k2⟩, ⟨l0, l1, l2⟩, ksz⟩ := use3 hu1
          go_wp2_with fail
          refine (OF'.out _).mono ?_
          rintro e x2 ⟨rfl, hx2⟩
          go_wp2
          go_ret
          exact ⟨rfl, hb1.trans (hx2.mono hb1.size)⟩

      · have OF := fun wx => of_zero none none 0 0 0 0 c c wx (by omega) (by omega)
        have OF' := Lib.hid OF; clear OF
        go_wp2_with fail
        refine (alive_any _).mono ?_
        rintro e x1 ⟨rfl, hx1⟩
        have hb1 := hbz.trans (hx1.mono hbz.size)
        have hu1 := huz.below hx1 huz.lt
        clear k0 k1 k2 l0 l1 l2 ksz
        obtain ⟨⟨k0, k1, k2⟩, ⟨l0, l1, l2⟩, ksz⟩ := use3 hu1
        go_wp2_with fail
        refine (OF'.out _).mono ?_
        rintro e x2 ⟨rfl, hx2⟩
        go_wp2
        go_ret
        exact ⟨rfl, hb1.trans (hx2.mono hb1.size)⟩


section
variable {H : Type} {enc : TypeId × Value → H} {P : Program} {w : World} {base : Nat} {spare : Nat → Bool} {held : Bool}
/-- A slice of sizes that came in: its cells. -/
theorem open_sizes {t e : TypeId} {f0 f1 f2 : Field} {fuel : Nat} {cs : List Value} {x : DataW H × List MemPlace} (ht : P.underlying t = some (.slice e)) (he : P.underlying e = some (.struct #[f0, f1, f2]))
    (hone : oneCellFields P #[f0, f1, f2] = true) (hC : P.cellsOf e = 3) (h0 : P.underlying f0.type = some (.int .i64)) (h1 : P.underlying f1.type = some (.int .i64)) (h2 : P.underlying f2.type = some (.int .i64))
    (h : DataW.trod enc P w base spare held fuel t cs = some x) :
    cs = [.slice none 0 0] ∨ ∃ (a : Addr) (len cap : Nat), cs = [.slice (some a) len cap] ∧ len ≤ cap ∧ cap ≤ maxLen ∧
      ∀ i, i < len → ∃ x y z : Int, w.cell? (a.add (i * 3)) = some (.int .i64 x) ∧ w.cell? (a.add (i * 3 + 1)) = some (.int .i64 y) ∧ w.cell? (a.add (i * 3 + 2)) = some (.int .i64 z) := by
  rcases open_slice ht h with ⟨h0, _⟩ | ⟨a, len, cap, m, n, D, Pl, hcs, hb, hl, hm, hmm, hx, hi⟩
  · exact .inl h0
  · refine .inr ⟨a, len, cap, hcs, hl, hm, fun i hil => ?_⟩
    have him : i < m := by rw [hmm]; split <;> omega
    obtain ⟨cs', hc, ht'⟩ := hi i him
    rw [hC] at hc
    obtain ⟨ys, n', hn', hy, hlen, hyl, hf⟩ := DataW.trod_struct he ht'
    obtain ⟨_, hcl, hat⟩ := World.cells?_some hc
    obtain ⟨o0, k0⟩ := hone_of hone 0 f0 rfl
    obtain ⟨o1, k1⟩ := hone_of hone 1 f1 rfl
    obtain ⟨o2, k2⟩ := hone_of hone 2 f2 rfl
    obtain ⟨c0, c1, c2, rfl⟩ : ∃ a b c, cs' = [a, b, c] := by
      match cs', hcl with
      | [a, b, c], _ => exact ⟨a, b, c, rfl⟩
    have g0 := hf 0 f0 rfl
    have g1 := hf 1 f1 rfl
    have g2 := hf 2 f2 rfl
    rw [o0, k0] at g0
    rw [o1, k1] at g1
    rw [o2, k2] at g2
    match ys, hyl with
    | [y0, y1, y2], _ =>
      simp at g0 g1 g2
      obtain ⟨x, e0, _, _⟩ := DataW.trod_int h0 g0
      obtain ⟨y, e1, _, _⟩ := DataW.trod_int h1 g1
      obtain ⟨z, e2, _, _⟩ := DataW.trod_int h2 g2
      simp at e0 e1 e2
      subst e0 e1 e2
      have q0 := hat 0 (by omega)
      have q1 := hat 1 (by omega)
      have q2 := hat 2 (by omega)
      refine ⟨x, y, z, ?_, ?_, ?_⟩
      · simpa [Go.Deep.add_add] using q0
      · simpa [Go.Deep.add_add] using q1
      · simpa [Go.Deep.add_add] using q2
end

theorem cell_lt {w : World} {b o : Nat} {v : Value} (h : w.cell? ⟨b, o, none⟩ = some v) : b < w.heap.size := by
  rcases Nat.lt_or_ge b w.heap.size with h1 | h1
  · exact h1
  · simp [World.cell?, Array.getElem?_eq_none h1] at h

theorem walk (a0 : Option Addr) (len0 cap0 : Nat) (t : Int) (w : World)
    (h : len0 = 0 ∨ ∃ a, a0 = some a ∧ len0 ≤ maxLen ∧ ∀ i, i < len0 → ∃ x y z : Int, w.cell? (a.add (i * 3)) = some (.int .i64 x) ∧ w.cell? (a.add (i * 3 + 1)) = some (.int .i64 y) ∧ w.cell? (a.add (i * 3 + 2)) = some (.int .i64 z)) :
    Calls Try.prog 4 #[.slice a0 len0 cap0, .int .i64 t] w fun e w' => e = .returned (.bool true) ∧ Below w.heap.size w w' := by
  rcases Nat.eq_zero_or_pos len0 with rfl | hpos
  · exact one_empty a0 cap0 t w
  · rcases h with h | ⟨a, rfl, hm, hc⟩
    · omega
    · obtain ⟨b, off, spot⟩ := a
      obtain ⟨x0, _, _, hx0, _⟩ := hc 0 hpos
      have hspot : spot = none := by simpa [Addr.add] using World.cell?_spot hx0
      subst hspot
      simp only [Go.WideShapes.add_plain] at hc
      have hb : b < w.heap.size := by
        obtain ⟨_, _, _, h0, _⟩ := hc 0 hpos
        exact cell_lt h0
      have hv : ∀ i, i < len0 * 3 → ∃ x : Int, w.cell? ⟨b, off + i, none⟩ = some (.int .i64 x) := by
        intro i hi
        obtain ⟨x, y, z, e0, e1, e2⟩ := hc (i / 3) (by omega)
        have hr : i % 3 = 0 ∨ i % 3 = 1 ∨ i % 3 = 2 := by omega
        rcases hr with hr | hr | hr
        · rw [show i / 3 * 3 = i by omega] at e0; exact ⟨x, e0⟩
        · rw [show i / 3 * 3 + 1 = i by omega] at e1; exact ⟨y, e1⟩
        · rw [show i / 3 * 3 + 2 = i by omega] at e2; exact ⟨z, e2⟩
      refine one_walk b off len0 cap0 (fun i => if h : i < len0 * 3 then (hv i h).choose else 0) t w (by unfold maxLen at hm; omega) hb ?_
      intro i hi
      refine ⟨hb, ?_⟩
      simp only [dif_pos hi]
      exact (hv i hi).choose_spec

set_option maxRecDepth 100000 in
theorem lifted (os : Os) (started : os.Started) (H : Type) (enc : TypeId × Value → H) :
    ReturnsInHanded {} Try.checked os 4 .any (Rows.quotaOneSpec.pre6 enc Try.prog Try.f4 Rows.quotaOneRow.domain false) (Rows.quotaOneSpec.post enc Try.prog Try.f4 false true false false) := by
  refine returnsInHanded_of_change (C := Try.checked) own started (by kernel_rfl) Try.func4
    (ChangeSpec.witness6 (enc := enc) (C := Try.checked) false ⟨#[], #[.slice none 0 0, .int .i64 0], []⟩ 8 (by kernel_rfl) (by kernel_rfl) (by kernel_rfl) (by kernel_rfl)) ?_
  intro W base args ds gs before hval0 hW hcnd _
  have hval : ∀ (j : Nat) t v, Try.f4.params[j]? = some t → args[j]? = some v → Value.okWide Try.prog W .any base t v := hval0
  have hW' := hW
  obtain ⟨p, q, hA0, hV, rfl, hfz, hnd⟩ := hW
  have hA : DataW.TrodAll enc Try.prog W 0 (fun _ => true) true Try.f4.params.toList args.toList ds p := hA0
  rw [Try.params4] at hA hval
  obtain ⟨v0, vs0, d0, ds0, p0, q0, hargs, rfl, rfl, h0, r0⟩ := trodAll_cons hA
  obtain ⟨v1, vs1, d1, ds1, p1, q1, rfl, rfl, rfl, h1, r1⟩ := trodAll_cons r0
  obtain ⟨rfl, rfl, rfl⟩ := trodAll_nil r1
  obtain rfl : args = #[v0, v1] := by cases args; simp_all
  obtain ⟨rfl, rfl⟩ := trodVars_none hV
  obtain ⟨a0, len0, cap0, rfl⟩ := okWide_slice Try.underlying31 (hval 0 31 v0 rfl rfl)
  have k0 := h0
  have lt0 : ∀ x ∈ p0, x.block < W.heap.size := by obtain ⟨m, hm⟩ := k0; exact DataW.trod_lt m _ _ _ hm
  have w0 : len0 = 0 ∨ ∃ a, a0 = some a ∧ len0 ≤ maxLen ∧ ∀ i, i < len0 → ∃ x y z : Int, W.cell? (a.add (i * 3)) = some (.int .i64 x) ∧ W.cell? (a.add (i * 3 + 1)) = some (.int .i64 y) ∧ W.cell? (a.add (i * 3 + 2)) = some (.int .i64 z) := by
    obtain ⟨fuel, hf⟩ := h0
    rcases open_sizes Try.underlying31 Try.underlying33 (by kernel_rfl) (by kernel_rfl) Try.underlying3 Try.underlying3 Try.underlying3 hf with hcs | ⟨x, l, c, hcs, hl, hm, hcell⟩
    · simp [Value.cells] at hcs
      exact .inl hcs.2.1
    · simp [Value.cells] at hcs
      obtain ⟨rfl, rfl, rfl⟩ := hcs
      exact .inr ⟨_, rfl, by omega, hcell⟩
  obtain ⟨a1, rfl, rfl, rfl, w1⟩ := open_int Try.underlying3 (hval 1 3 v1 rfl rfl) h1
  clear hA0 hval0
  refine (walk a0 len0 cap0 a1 W w0).mono fun e W' ⟨he, bel⟩ => ?_
  subst he
  exact ⟨_, rfl, _, _, _, [], _, [], hW', trodAll_mk1 (shut_bool Try.underlying4 _), (trodAll_cons_mk (Below.trod laidOut (by kernel_rfl) (of_decide_eq_true (by kernel_rfl)) k0 bel lt0) (trodAll_cons_mk (shut_int Try.underlying3 w1) trodAll_mk0)), rfl, bel.frame _, fun h => by cases h⟩

theorem over : Rows.quotaOneRow.holds Try.pinned (OpenSpec.ofChange Rows.quotaOneSpec) :=
  OpenClaim.holds_of_wide 4 Try.f4 rfl rfl rfl rfl rfl rfl rfl ⟨rfl, rfl, rfl, rfl, rfl⟩ rfl rfl rfl rfl rfl (by kernel_rfl) Try.func4 (by kernel_rfl)
    (of_decide_eq_true (by kernel_rfl)) (by unfold Func.isWrapper; first | (rw [if_pos (by decide +kernel)]; kernel_rfl) | (rw [if_neg (by decide +kernel)]; exact ⟨rfl, rfl⟩))
    (fun os started H enc _ => lifted os started H enc)

/-- ████ THE STATEMENT ████ -/
theorem proved : Rows.QuotaOneSaid := over
#print axioms proved
end Go.Proofs.Ytlemjdkefojoeaa.quotaOne

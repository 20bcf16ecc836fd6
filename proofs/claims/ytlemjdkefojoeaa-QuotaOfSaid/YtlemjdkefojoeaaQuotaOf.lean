/-
  QuotaOf returns true for every keys, values and timers, and leaves them as they were; no condition.
-/
import Derived.Test.YtlemjdkefojoeaaRows
import Derived.Test.YtlemjdkefojoeaaOf
import Derived.WalkKit
import Derived.ProofKit
import Derived.OpenShut
import Derived.ShutString
import Derived.ChangeOld
import Derived.Below
namespace Go.Proofs.Ytlemjdkefojoeaa.quotaOf
open Go.ChangeShapes Go.WideShapes Go.ChangeAt Go.RowKit
open Go.ChangeMaps (open_string shut_string)
open Quo
set_option linter.unusedVariables false

theorem own : ownKnob Try.prog.godebug = none := by kernel_rfl
theorem laidOut : laidOutB Try.prog = true := by kernel_rfl

/-- WHAT THE WALK IS TOLD OF A SLICE OF INTEGERS THAT CAME IN: it is nil; or it leads to a row of 'cap' cells, the numbers 'zs' (the first 'len' are its elements, the rest its spare room), each fitting its kind. -/
def IsRow (k : IntKind) (w : World) (a : Option Addr) (len cap : Nat) (zs : List Int) : Prop :=
  (a = none ∧ len = 0 ∧ cap = 0 ∧ zs = []) ∨
  ∃ x, a = some x ∧ len ≤ cap ∧ cap ≤ maxLen ∧ zs.length = cap ∧ (∀ i, i < zs.length → w.cell? (x.add i) = some (.int k (zs.getD i 0))) ∧ ∀ n ∈ zs, (Lit.int k n).wf = true

theorem cell_lt {w : World} {b o : Nat} {v : Value} (h : w.cell? ⟨b, o, none⟩ = some v) : b < w.heap.size := by
  rcases Nat.lt_or_ge b w.heap.size with h1 | h1
  · exact h1
  · simp [World.cell?, Array.getElem?_eq_none h1] at h

/-- A row that came in, as far as it has elements: its place, and its first n numbers. -/
theorem row_at {w : World} {a : Option Addr} {len cap : Nat} {zs : List Int} (h : IsRow .i64 w a len cap zs) {n : Nat} (h0 : 0 < n) (hn : n ≤ len) :
    ∃ b o, a = some ⟨b, o, none⟩ ∧ len ≤ cap ∧ n = (zs.take n).length ∧ IntsAt w b o (zs.take n) := by
  rcases h with ⟨_, rfl, _⟩ | ⟨x, rfl, hl, _, hz, hc, _⟩
  · omega
  · obtain ⟨b, o, rfl, hc'⟩ := ints_at hc (by omega)
    refine ⟨b, o, rfl, hl, by simp; omega, ?_, ?_⟩
    · have := hc' 0 (by omega)
      exact cell_lt this
    · intro i hi
      have hi' : i < zs.length := by simp at hi; omega
      rw [hc' i hi', List.getElem_take]
      simp [hi']

theorem ints_keep {w wx : World} {b off : Nat} {xs : List Int} (h : IntsAt w b off xs) (hb : Below w.heap.size w wx) : IntsAt wx b off xs :=
  ⟨Nat.lt_of_lt_of_le h.1 hb.size, fun i hi => h.at hb hi⟩

set_option maxHeartbeats 800000 in
theorem core (a0 : Option Addr) (len0 cap0 : Nat) (a1 : Option Addr) (len1 cap1 : Nat) (a2 : Int) (n : Nat) (R T : Int) (w : World) (h1 : len0 ≤ 3000) (h2 : len1 ≤ 3000)
    (O : ∀ wx, Below w.heap.size w wx → Calls Try.prog 8 #[.slice a0 len0 cap0, .slice a1 len1 cap1, .int .i64 a2] wx fun e w' => e = .returned (.agg #[.int .i64 n, .int .i64 R, .int .i64 T]) ∧ Below wx.heap.size wx w')
    (Q : ∀ wx, Below w.heap.size w wx → Calls Try.prog 9 #[.slice a0 len0 cap0, .slice a1 len1 cap1, .int .i64 a2] wx fun e w' => e = .returned (.agg #[.int .i64 n, .int .i64 R, .int .i64 T]) ∧ Below wx.heap.size wx w') :
    Calls Try.prog 3 #[.slice a0 len0 cap0, .slice a1 len1 cap1, .int .i64 a2] w fun e w' => e = .returned (.bool true) ∧ Below w.heap.size w w' := by
  have O' := Lib.hid O; have Q' := Lib.hid Q; clear O Q
  go_enter Try.func3, Try.ntmps3
  go_wp2_with fail
  refine (alive_any _).mono ?_
  rintro e y1 ⟨rfl, b1⟩
  go_wp2_with fail
  refine (O'.out _ b1).mono ?_
  rintro e y2 ⟨rfl, b2⟩
  have b3 : Below w.heap.size w y2 := b1.trans (b2.mono b1.size)
  go_wp2_with fail
  refine (told_any _ _ _ _).mono ?_
  rintro e y3 ⟨rfl, b4⟩
  have b5 : Below w.heap.size w y3 := b3.trans (b4.mono b3.size)
  go_wp2_with fail
  refine (Q'.out _ b5).mono ?_
  rintro e y4 ⟨rfl, b6⟩
  have b7 : Below w.heap.size w y4 := b5.trans (b6.mono b5.size)
  go_wp2
  go_ret
  exact ⟨rfl, b7⟩

theorem walk (a0 : Option Addr) (len0 cap0 : Nat) (z0 : List Int) (a1 : Option Addr) (len1 cap1 : Nat) (z1 : List Int) (a2 : Int) (w : World) (w0 : IsRow .i64 w a0 len0 cap0 z0) (w1 : IsRow .i64 w a1 len1 cap1 z1) (w2 : (Lit.int .i64 a2).wf = true) :
    Calls Try.prog 3 #[.slice a0 len0 cap0, .slice a1 len1 cap1, .int .i64 a2] w fun e w' => e = .returned (.bool true) ∧ Below w.heap.size w w' := by
  by_cases h1 : 3000 < len0
  · clear w0 w1 w2
    go_enter Try.func3, Try.ntmps3
    go_wp2_with (refine (alive_any _).mono ?_; rintro e y1 ⟨rfl, b1⟩)
    go_ret
    exact ⟨rfl, b1⟩
  by_cases h2 : 3000 < len1
  · clear w0 w1 w2
    go_enter Try.func3, Try.ntmps3
    go_wp2_with (refine (alive_any _).mono ?_; rintro e y1 ⟨rfl, b1⟩)
    go_ret
    exact ⟨rfl, b1⟩
  · by_cases h0 : len0 = 0 ∨ len1 = 0
    · exact core a0 len0 cap0 a1 len1 cap1 a2 0 0 _ w (by omega) (by omega) (fun wx _ => of_zero a0 a1 len0 len1 cap0 cap1 a2 _ wx (by omega) rfl) (fun wx _ => rof_zero a0 a1 len0 len1 cap0 cap1 a2 _ wx (by omega) rfl)
    · obtain ⟨n, hn⟩ : ∃ n : Nat, min (len0 : Int) (len1 : Int) = n := ⟨min len0 len1, by omega⟩
      obtain ⟨b, o, rfl, c0, e0, r0⟩ := row_at w0 (n := n) (by omega) (by omega)
      obtain ⟨b', o', rfl, c1, e1, r1⟩ := row_at w1 (n := n) (by omega) (by omega)
      exact core _ len0 cap0 _ len1 cap1 a2 n _ _ w (by omega) (by omega)
        (fun wx hb => of_pos b o b' o' len0 len1 cap0 cap1 n (z0.take n) (z1.take n) a2 _ wx (by omega) c0 c1 (by omega) (by omega) hn rfl e0 e1 (ints_keep r0 hb) (ints_keep r1 hb))
        (fun wx hb => rof_pos b o b' o' len0 len1 cap0 cap1 n (z0.take n) (z1.take n) a2 _ wx (by omega) (by omega) (by omega) hn rfl e0 e1 (ints_keep r0 hb) (ints_keep r1 hb))

/-! ### THE ROW's STEP: WRITTEN OUT: LEAVE IT -/
set_option maxRecDepth 100000 in
theorem lifted (os : Os) (started : os.Started) (H : Type) (enc : TypeId × Value → H) :
    ReturnsInHanded {} Try.checked os 3 .any (Rows.quotaOfSpec.pre6 enc Try.prog Try.f3 Rows.quotaOfRow.domain false) (Rows.quotaOfSpec.post enc Try.prog Try.f3 false true false false) := by
  refine returnsInHanded_of_change (C := Try.checked) own started (by kernel_rfl) Try.func3
    (ChangeSpec.witness6 (enc := enc) (C := Try.checked) false ⟨#[], #[.slice none 0 0, .slice none 0 0, .int .i64 0], []⟩ 8 (by kernel_rfl) (by kernel_rfl) (by kernel_rfl) (by kernel_rfl)) ?_
  intro W base args ds gs before hval0 hW hcnd _
  have hval : ∀ (j : Nat) t v, Try.f3.params[j]? = some t → args[j]? = some v → Value.okWide Try.prog W .any base t v := hval0
  have hW' := hW
  obtain ⟨p, q, hA0, hV, rfl, hfz, hnd⟩ := hW
  have hA : DataW.TrodAll enc Try.prog W 0 (fun _ => true) true Try.f3.params.toList args.toList ds p := hA0
  rw [Try.params3] at hA hval
  obtain ⟨v0, vs0, d0, ds0, p0, q0, hargs, rfl, rfl, h0, r0⟩ := trodAll_cons hA
  obtain ⟨v1, vs1, d1, ds1, p1, q1, rfl, rfl, rfl, h1, r1⟩ := trodAll_cons r0
  obtain ⟨v2, vs2, d2, ds2, p2, q2, rfl, rfl, rfl, h2, r2⟩ := trodAll_cons r1
  obtain ⟨rfl, rfl, rfl⟩ := trodAll_nil r2
  obtain rfl : args = #[v0, v1, v2] := by cases args; simp_all
  obtain ⟨rfl, rfl⟩ := trodVars_none hV
  obtain ⟨a0, len0, cap0, rfl⟩ := okWide_slice Try.underlying22 (hval 0 22 v0 rfl rfl)
  have k0 := h0
  have lt0 : ∀ x ∈ p0, x.block < W.heap.size := by obtain ⟨m, hm⟩ := k0; exact DataW.trod_lt m _ _ _ hm
  obtain ⟨z0, w0⟩ : ∃ zs, IsRow .i64 W a0 len0 cap0 zs := by
    obtain ⟨fuel, hf⟩ := h0
    rcases open_ints Try.underlying22 Try.underlying3 (by kernel_rfl) hf with ⟨hcs, _⟩ | ⟨x, l, c, zs, hcs, _, hl, hm, hz, _, hcell, hwz⟩
    · simp [Value.cells] at hcs
      obtain ⟨rfl, rfl, rfl⟩ := hcs
      exact ⟨[], .inl ⟨rfl, rfl, rfl, rfl⟩⟩
    · simp [Value.cells] at hcs
      obtain ⟨rfl, rfl, rfl⟩ := hcs
      exact ⟨zs, .inr ⟨_, rfl, hl, hm, by simpa using hz, hcell, hwz⟩⟩
  obtain ⟨a1, len1, cap1, rfl⟩ := okWide_slice Try.underlying22 (hval 1 22 v1 rfl rfl)
  have k1 := h1
  have lt1 : ∀ x ∈ p1, x.block < W.heap.size := by obtain ⟨m, hm⟩ := k1; exact DataW.trod_lt m _ _ _ hm
  obtain ⟨z1, w1⟩ : ∃ zs, IsRow .i64 W a1 len1 cap1 zs := by
    obtain ⟨fuel, hf⟩ := h1
    rcases open_ints Try.underlying22 Try.underlying3 (by kernel_rfl) hf with ⟨hcs, _⟩ | ⟨x, l, c, zs, hcs, _, hl, hm, hz, _, hcell, hwz⟩
    · simp [Value.cells] at hcs
      obtain ⟨rfl, rfl, rfl⟩ := hcs
      exact ⟨[], .inl ⟨rfl, rfl, rfl, rfl⟩⟩
    · simp [Value.cells] at hcs
      obtain ⟨rfl, rfl, rfl⟩ := hcs
      exact ⟨zs, .inr ⟨_, rfl, hl, hm, by simpa using hz, hcell, hwz⟩⟩
  obtain ⟨a2, rfl, rfl, rfl, w2⟩ := open_int Try.underlying3 (hval 2 3 v2 rfl rfl) h2
  clear hA0 hval0
  refine (walk a0 len0 cap0 z0 a1 len1 cap1 z1 a2 W w0 w1 w2).mono fun e W' ⟨he, bel⟩ => ?_
  subst he
  exact ⟨_, rfl, _, _, _, [], _, [], hW', trodAll_mk1 (shut_bool Try.underlying4 _), (trodAll_cons_mk (Below.trod laidOut (by kernel_rfl) (of_decide_eq_true (by kernel_rfl)) k0 bel lt0) (trodAll_cons_mk (Below.trod laidOut (by kernel_rfl) (of_decide_eq_true (by kernel_rfl)) k1 bel lt1) (trodAll_cons_mk (shut_int Try.underlying3 w2) trodAll_mk0))), rfl, bel.frame _, fun h => by cases h⟩

theorem over : Rows.quotaOfRow.holds Try.pinned (OpenSpec.ofChange Rows.quotaOfSpec) :=
  OpenClaim.holds_of_wide 3 Try.f3 rfl rfl rfl rfl rfl rfl rfl ⟨rfl, rfl, rfl, rfl, rfl⟩ rfl rfl rfl rfl rfl (by kernel_rfl) Try.func3 (by kernel_rfl)
    (of_decide_eq_true (by kernel_rfl)) (by unfold Func.isWrapper; first | (rw [if_pos (by decide +kernel)]; kernel_rfl) | (rw [if_neg (by decide +kernel)]; exact ⟨rfl, rfl⟩))
    (fun os started H enc _ => lifted os started H enc)

/-- ████ THE STATEMENT ████ -/
theorem proved : Rows.QuotaOfSaid := over
#print axioms proved
end Go.Proofs.Ytlemjdkefojoeaa.quotaOf

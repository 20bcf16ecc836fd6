/-
  A script that came in: its cells; built over it, whatever it is.
-/
import Derived.Test.YticnckclmlejhaaBuilt
import Derived.WalkKit
import Derived.ProofKit
import Derived.OpenShut
import Derived.ShutString
import Derived.ChangeOld
import Derived.Below
import Derived.Deep.Slices
import Derived.Deep.Fields
import Derived.ChangeSame
namespace Go.Proofs.Yticnckclmlejhaa
open Go.ChangeShapes Go.WideShapes Go.ChangeAt Go.RowKit Go.Deep
set_option linter.unusedVariables false

section
variable {H : Type} {enc : TypeId × Value → H} {P : Program} {w : World} {base : Nat} {spare : Nat → Bool} {held : Bool}
theorem open_acts {t e : TypeId} {f0 f1 f2 : Field} {fuel : Nat} {cs : List Value} {x : DataW H × List MemPlace} (ht : P.underlying t = some (.slice e)) (he : P.underlying e = some (.struct #[f0, f1, f2]))
    (hone : oneCellFields P #[f0, f1, f2] = true) (hC : P.cellsOf e = 3) (h0 : P.underlying f0.type = some (.int .i64)) (h1 : P.underlying f1.type = some .string) (h2 : P.underlying f2.type = some (.int .u64))
    (h : DataW.trod enc P w base spare held fuel t cs = some x) :
    cs = [.slice none 0 0] ∨ ∃ (a : Addr) (len cap : Nat), cs = [.slice (some a) len cap] ∧ len ≤ cap ∧ cap ≤ maxLen ∧
      ∀ i, i < len → ∃ (x : Int) (y : ByteArray) (z : Int), z ≤ 18446744073709551615 ∧ w.cell? (a.add (i * 3)) = some (.int .i64 x) ∧ w.cell? (a.add (i * 3 + 1)) = some (.string y) ∧ w.cell? (a.add (i * 3 + 2)) = some (.int .u64 z) := by
  rcases open_slice ht h with ⟨h0, _⟩ | ⟨a, len, cap, m, n, D, Pl, hcs, hb, hl, hm, hmm, hx, hi⟩
  · exact .inl h0
  · refine .inr ⟨a, len, cap, hcs, hl, hm, fun i hil => ?_⟩
    have him : i < m := by rw [hmm]; split <;> omega
    obtain ⟨cs', hc, ht'⟩ := hi i him
    rw [hC] at hc
    obtain ⟨ys, n', hn', hy, hlen, hyl, hf⟩ := DataW.trod_struct he ht'
    obtain ⟨_, hcl, hat⟩ := World.cells?_some hc
    obtain ⟨o0, k0⟩ := hone_of hone 0 f0 rfl
    obtain ⟨o1, k1⟩ := hone_of hone 1 f1 rfl
    obtain ⟨o2, k2⟩ := hone_of hone 2 f2 rfl
    obtain ⟨c0, c1, c2, rfl⟩ : ∃ a b c, cs' = [a, b, c] := by
      match cs', hcl with
      | [a, b, c], _ => exact ⟨a, b, c, rfl⟩
    have g0 := hf 0 f0 rfl
    have g1 := hf 1 f1 rfl
    have g2 := hf 2 f2 rfl
    rw [o0, k0] at g0
    rw [o1, k1] at g1
    rw [o2, k2] at g2
    match ys, hyl with
    | [y0, y1, y2], _ =>
      simp at g0 g1 g2
      obtain ⟨x, e0, _, _⟩ := DataW.trod_int h0 g0
      obtain ⟨y, e1, _, _⟩ := DataW.trod_string h1 g1
      obtain ⟨z, e2, _, hz⟩ := DataW.trod_int h2 g2
      simp at e0 e1 e2
      subst e0 e1 e2
      have q0 := hat 0 (by omega)
      have q1 := hat 1 (by omega)
      have q2 := hat 2 (by omega)
      refine ⟨x, y, z, (bounds_u64 hz).2, ?_, ?_, ?_⟩
      · simpa [Go.Deep.add_add] using q0
      · simpa [Go.Deep.add_add] using q1
      · simpa [Go.Deep.add_add] using q2
end

theorem ins_uniq {e : Ent} {S : List Ent} (h : Uniq S) : Uniq (ins e (fltr e.nm S)) := by
  have h2 := fltr_uniq (nm := e.nm) h
  refine uniq_perm (ins_perm e (fltr e.nm S)).symm ?_
  refine List.nodup_cons.2 ⟨fun hm => ?_, h2⟩
  obtain ⟨x, hx, hxe⟩ := List.mem_map.1 hm
  exact (mem_fltr.1 hx).2 hxe
theorem bld_sorted (K T : Nat → Int) (Nm : Nat → ByteArray) : ∀ i, Sorted (bld K T Nm i) ∧ Uniq (bld K T Nm i)
  | 0 => ⟨List.Pairwise.nil, List.nodup_nil⟩
  | i + 1 => by
    obtain ⟨h1, h2⟩ := bld_sorted K T Nm i
    unfold bld act1
    split
    · split
      · exact ⟨ins_sorted (fltr_sorted h1) fun a ha => (mem_fltr.1 ha).2, ins_uniq (e := ⟨Nm i, T i⟩) h2⟩
      · split
        · exact ⟨fltr_sorted h1, fltr_uniq h2⟩
        · exact ⟨h1, h2⟩
    · exact ⟨h1, h2⟩
theorem bld_bounds (K T : Nat → Int) (Nm : Nat → ByteArray) (hT : ∀ i, T i ≤ 18446744073709551615) : ∀ i, (∀ e ∈ bld K T Nm i, e.tk ≤ 18446744073709551615) ∧ ∀ e ∈ bld K T Nm i, e.nm.size ≤ 40
  | 0 => ⟨by simp [bld], by simp [bld]⟩
  | i + 1 => by
    obtain ⟨h1, h2⟩ := bld_bounds K T Nm hT i
    have h3 : ∀ (nm : ByteArray) (e : Ent), e ∈ fltr nm (bld K T Nm i) → e.tk ≤ 18446744073709551615 ∧ e.nm.size ≤ 40 := fun nm e he => ⟨h1 e (mem_fltr.1 he).1, h2 e (mem_fltr.1 he).1⟩
    unfold bld act1
    split
    · split
      · refine ⟨fun e he => ?_, fun e he => ?_⟩
        · rcases mem_ins.1 he with rfl | he
          · exact hT i
          · exact (h3 _ e he).1
        · rcases mem_ins.1 he with rfl | he
          · assumption
          · exact (h3 _ e he).2
      · split
        · exact ⟨fun e he => (h3 _ e he).1, fun e he => (h3 _ e he).2⟩
        · exact ⟨h1, h2⟩
    · exact ⟨h1, h2⟩
/-- Whatever the script: one list, in order, each name once, at most 150; built makes it in every world that has come of w. -/
theorem built_any (a0 : Option Addr) (len0 cap0 : Nat) (w : World)
    (h : len0 = 0 ∨ ∃ a, a0 = some a ∧ len0 ≤ maxLen ∧ ∀ i, i < len0 → ∃ (x : Int) (y : ByteArray) (z : Int), z ≤ 18446744073709551615 ∧ w.cell? (a.add (i * 3)) = some (.int .i64 x) ∧ w.cell? (a.add (i * 3 + 1)) = some (.string y) ∧ w.cell? (a.add (i * 3 + 2)) = some (.int .u64 z)) :
    ∃ S : List Ent, S.length ≤ 150 ∧ (Sorted S ∧ Uniq S ∧ (∀ e ∈ S, e.tk ≤ 18446744073709551615) ∧ ∀ e ∈ S, e.nm.size ≤ 40) ∧ ∀ wx, Below w.heap.size w wx → Calls Try.prog 9 #[.slice a0 len0 cap0] wx fun r w' => ∃ q, r = .returned (.pointer (some ⟨q, 0, none⟩)) ∧ Mine wx w' q S := by
  rcases Nat.eq_zero_or_pos len0 with rfl | hpos
  · exact ⟨[], by simp, ⟨List.Pairwise.nil, List.nodup_nil, by simp, by simp⟩, fun wx _ => built_empty a0 cap0 wx⟩
  · rcases h with h | ⟨a, rfl, hm, hc⟩
    · omega
    · obtain ⟨b, off, spot⟩ := a
      obtain ⟨x0, _, _, _, hx0, _⟩ := hc 0 hpos
      have hspot : spot = none := by simpa [Addr.add] using World.cell?_spot hx0
      subst hspot
      simp only [Go.WideShapes.add_plain] at hc
      have hb : b < w.heap.size := by
        obtain ⟨_, _, _, _, h0, _⟩ := hc 0 hpos
        exact World.block_lt_of_cell? w _ h0
      have hv : ∀ i : Nat, ∃ (x : Int) (y : ByteArray) (z : Int), z ≤ 18446744073709551615 ∧ (i < len0 → w.cell? ⟨b, off + i * 3, none⟩ = some (.int .i64 x) ∧ w.cell? ⟨b, off + i * 3 + 1, none⟩ = some (.string y) ∧ w.cell? ⟨b, off + i * 3 + 2, none⟩ = some (.int .u64 z)) := by
        intro i
        by_cases hi : i < len0
        · obtain ⟨x, y, z, ez, e0, e1, e2⟩ := hc i hi
          exact ⟨x, y, z, ez, fun _ => ⟨e0, e1, e2⟩⟩
        · exact ⟨0, ByteArray.empty, 0, by decide, fun h => absurd h hi⟩
      let K := fun i => (hv i).choose
      let Nm := fun i => (hv i).choose_spec.choose
      let T := fun i => (hv i).choose_spec.choose_spec.choose
      have hA : Acts w b off len0 K T Nm := ⟨hb, fun i hi => (hv i).choose_spec.choose_spec.choose_spec.2 hi⟩
      have hT : ∀ i, T i ≤ 18446744073709551615 := fun i => (hv i).choose_spec.choose_spec.choose_spec.1
      refine ⟨bld K T Nm (min len0 150), Nat.le_trans (bld_len K T Nm _) (Nat.min_le_right _ _), ⟨(bld_sorted K T Nm _).1, (bld_sorted K T Nm _).2, (bld_bounds K T Nm hT _).1, (bld_bounds K T Nm hT _).2⟩, fun wx hx => ?_⟩
      exact built_law b off len0 cap0 K T Nm wx (hA.below hx hb) (by unfold maxLen at hm; omega)
end Go.Proofs.Yticnckclmlejhaa

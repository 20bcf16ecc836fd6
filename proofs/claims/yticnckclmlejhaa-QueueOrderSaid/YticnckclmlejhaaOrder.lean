/-
  The walk of layer 6's QueueOrder.
-/
import Derived.Test.YticnckclmlejhaaTwo
namespace Go.Proofs.Yticnckclmlejhaa
open Go.RowKit Go.ChangeMaps Hp

def lastE (S : List Ent) (j : Nat) : Ent := if j = 0 then ⟨ByteArray.empty, 0⟩ else elt S (j - 1)

theorem last_less {S : List Ent} (h : Sorted S) {j : Nat} (hj : j < S.length) : j = 0 ∨ (0 < j ∧ lessE (lastE S j) (elt S j) = true) := by
  by_cases h0 : j = 0
  · exact .inl h0
  · refine .inr ⟨by omega, ?_⟩
    unfold lastE
    rw [if_neg h0, elt_elem hj, elt_elem (by omega : j - 1 < S.length)]
    exact List.pairwise_iff_getElem.1 h (j - 1) j (by omega) hj (by omega)
theorem uniq_drop {S : List Ent} (h : Uniq S) (j : Nat) : Uniq (S.drop j) := by
  unfold Uniq at *
  exact List.Nodup.sublist (List.Sublist.map _ (List.drop_sublist j S)) h
theorem fltr_head {e : Ent} {R : List Ent} (h : Uniq (e :: R)) : fltr e.nm (e :: R) = R := by
  have hn : ∀ a ∈ R, a.nm ≠ e.nm := by
    intro a ha q
    have := (List.nodup_cons.1 (show ((e :: R).map Ent.nm).Nodup from h)).1
    exact this (by rw [← q]; exact List.mem_map_of_mem ha)
  have : fltr e.nm (e :: R) = fltr e.nm R := by simp [fltr]
  rw [this, fltr_none hn]
theorem kept_ent {D : Nat → Prop} {w w' : World} (h : Kept D w w') {L : Nat} (hL : D L) {a b : Value} (l0 : w.cell? ⟨L, 0, none⟩ = some a) (l1 : w.cell? ⟨L, 1, none⟩ = some b) (l2 : w.frozen? ⟨L, 0, none⟩ = false) (l3 : w.frozen? ⟨L, 1, none⟩ = false) :
    w'.cell? ⟨L, 0, none⟩ = some a ∧ w'.cell? ⟨L, 1, none⟩ = some b ∧ w'.frozen? ⟨L, 0, none⟩ = false ∧ w'.frozen? ⟨L, 1, none⟩ = false ∧ L < w'.heap.size := by
  have c0 := (World.cell?_of_block (w := w) (a := ⟨L, 0, none⟩) (h L hL)).trans l0
  exact ⟨c0, (World.cell?_of_block (w := w) (a := ⟨L, 1, none⟩) (h L hL)).trans l1, (World.frozen?_of_block (w := w) (a := ⟨L, 0, none⟩) (h L hL)).trans l2, (World.frozen?_of_block (w := w) (a := ⟨L, 1, none⟩) (h L hL)).trans l3, World.block_lt_of_cell? w' _ c0⟩

set_option maxRecDepth 100000 in
set_option maxHeartbeats 3200000 in
theorem order_law (sc : Value) (S : List Ent) (w : World) (hS : S.length ≤ 150) (hs : Sorted S) (hu : Uniq S)
    (HB : ∀ wx, Below w.heap.size w wx → Calls Try.prog 9 #[sc] wx fun r w' => ∃ q, r = .returned (.pointer (some ⟨q, 0, none⟩)) ∧ Mine wx w' q S) :
    Calls Try.prog 3 #[sc] w fun r w' => r = .returned (.bool true) ∧ Below w.heap.size w w' := by
  have HBB := Lib.hid HB
  have HSO := Lib.hid hs; have HU := Lib.hid hu
  clear HB hs hu
  obtain ⟨m, hm⟩ : ∃ m, S.length = m := ⟨_, rfl⟩
  go_enter Try.func3, Try.ntmps3
  go_wp2_with (first
    | (go_at_call 9; (with_reducible refine (HBB.out _ (Below.refl _ _)).mono ?_); rintro r w1 ⟨q, rfl, h1⟩; have H1 := Lib.hid h1; clear h1)
    | (go_at_call 9; (with_reducible refine (HBB.out _ H1.out.bel).mono ?_); rintro r w2 ⟨p, rfl, h2⟩; have HT : Hid (Two w w2 q p (fun _ => False) S S) := Lib.hid (H1.out.two (fun _ h => h.elim) h2); clear h2)
    | (go_at_call 10; (with_reducible refine (len_two HT.out).mono ?_); rw [hm]; rintro r w3 ⟨rfl, rfl⟩))
  have hL : w.heap.size ≤ w2.heap.size := HT.out.bel.size
  obtain ⟨L, hLe⟩ : ∃ L, w2.heap.size = L := ⟨_, rfl⟩
  have HG := Lib.hid (HT.out.grow (.cells #[.string ⟨#[]⟩, .int .u64 0] 28))
  have hl0 : (w2.alloc (.cells #[.string ⟨#[]⟩, .int .u64 0] 28)).cell? ⟨w2.heap.size, 0, none⟩ = some (.string ⟨#[]⟩) := by go_simp
  have hl1 : (w2.alloc (.cells #[.string ⟨#[]⟩, .int .u64 0] 28)).cell? ⟨w2.heap.size, 1, none⟩ = some (.int .u64 0) := by go_simp
  have hl2 : (w2.alloc (.cells #[.string ⟨#[]⟩, .int .u64 0] 28)).frozen? ⟨w2.heap.size, 0, none⟩ = false := by go_simp
  have hl3 : (w2.alloc (.cells #[.string ⟨#[]⟩, .int .u64 0] 28)).frozen? ⟨w2.heap.size, 1, none⟩ = false := by go_simp
  rw [hLe] at hl0 hl1 hl2 hl3 HG hL
  rw [hLe]
  go_loopw [7] (fun i wr => ∃ j : Nat, i = .int .i64 j ∧ j ≤ m ∧ Hid (Two w wr q p (fun k => False ∨ k = L) (S.drop j) (S.drop j)) ∧ wr.cell? ⟨L, 0, none⟩ = some (.string (lastE S j).nm) ∧ wr.cell? ⟨L, 1, none⟩ = some (.int .u64 (lastE S j).tk) ∧ wr.frozen? ⟨L, 0, none⟩ = false ∧ wr.frozen? ⟨L, 1, none⟩ = false) (fun i _ => m - (intOf i).toNat)
  case atStart => exact ⟨0, rfl, Nat.zero_le _, HG, hl0, hl1, hl2, hl3⟩
  case round =>
    obtain ⟨j, rfl, hj, HS, l0, l1, l2, l3⟩ := hrel
    clear hl0 hl1 hl2 hl3 HG
    by_cases hjm : j < m
    · have hjS : j < S.length := by omega
      have hd : S.drop j = elt S j :: S.drop (j + 1) := by rw [elt_elem hjS]; exact List.drop_eq_getElem_cons hjS
      have hlt := last_less HSO.out hjS
      have huj := HU.out
      have hne : lastE S (j + 1) = elt S j := by simp [lastE]
      obtain ⟨e, he⟩ : ∃ e, elt S j = e := ⟨_, rfl⟩
      obtain ⟨R, hR⟩ : ∃ R, S.drop (j + 1) = R := ⟨_, rfl⟩
      rw [he, hR] at hd
      rw [he] at hlt hne
      rw [hd] at HS
      have huR : Uniq (e :: R) := by rw [← hd]; exact uniq_drop huj j
      have hRl : (e :: R).length ≤ 999999 := by rw [← hd]; simp; omega
      have hfl : fltr e.nm (e :: R) = R := fltr_head huR
      have hfn : fnd (e :: R) e.nm = some e := fnd_mem huR List.mem_cons_self
      have D1 : Hid (Calls Try.prog 11 #[.pointer (some ⟨q, 0, none⟩)] wr fun r w' => r = .returned (.tuple #[.agg #[.string e.nm, .int .u64 e.tk], .bool true]) ∧ Two w w' q p (fun k => False ∨ k = L) R (e :: R) ∧ Kept (fun k => False ∨ k = L) wr w') := Lib.hid (pop_two HS.out hRl)
      obtain ⟨le, hle⟩ : ∃ le, lastE S j = le := ⟨_, rfl⟩
      rw [hle] at hlt l0 l1
      have HNE := Lib.hid hne
      have HR := Lib.hid hR; have HFL := Lib.hid hfl; have HFN := Lib.hid hfn; have HUR := Lib.hid huR
      have hLs : L < wr.heap.size := World.block_lt_of_cell? wr _ l0
      clear hne hR hfl hfn huR hd huj he hle
      rcases hlt with hj0 | ⟨hj0, hlt⟩
      · subst hj0
        go_wp2_with (first
          | (go_at_call 11; (with_reducible refine D1.out.mono ?_); rintro r w3 ⟨rfl, t3, k3⟩
             have HT3 := Lib.hid t3
             obtain ⟨m0, m1, m2, m3, m4⟩ := kept_ent k3 (.inr rfl) l0 l1 l2 l3
             clear t3 k3)
          | (have t4 := (HT3.out.below ((Below.refl _ w3).alloc (Nat.le_refl _) (.cells #[.string e.nm, .int .u64 e.tk] 28))).1
             have D2 := at_two t4.symm e.nm
             rw [HFN.out] at D2
             have D3 : Calls Try.prog 12 #[.pointer (some ⟨p, 0, none⟩), .string e.nm] (w3.alloc (.cells #[.string e.nm, .int .u64 e.tk] 28)) fun r w' => r = .returned (.tuple #[.int .u64 e.tk, .bool true]) ∧ w3.alloc (.cells #[.string e.nm, .int .u64 e.tk] 28) = w' := D2
             go_at_call 12
             (with_reducible refine D3.mono ?_)
             clear D2 D3 t4
             rintro r w4 ⟨rfl, rfl⟩)
          | (have t5 := ((((HT3.out.set (a := ⟨L, 0, none⟩) (.inr rfl) hL (.string e.nm)).set (a := ⟨L, 1, none⟩) (.inr rfl) hL (.int .u64 e.tk))).below ((Below.refl _ _).alloc (Nat.le_refl _) (.cells #[.string e.nm, .int .u64 e.tk] 28))).1
             have D4 := drop_two t5.symm hRl e.nm
             go_at_call 13
             (with_reducible refine D4.mono ?_)
             clear D4 t5
             rintro r w6 ⟨rfl, t6, k6⟩
             rw [HFL.out] at t6
             have HT6 := Lib.hid t6.symm
             obtain ⟨n0, n1, n2, n3, n4⟩ := kept_ent k6 (.inr rfl) (L := L) (by go_simp : _ = some (.string e.nm)) (by go_simp : _ = some (.int .u64 e.tk)) (by go_simp) (by go_simp)
             clear t6 k6))
        go_roundw
        case rel => exact ⟨0 + 1, by go_num, by omega, by rw [HR.out]; exact HT6, by rw [HNE.out]; exact n0, by rw [HNE.out]; exact n1, n2, n3⟩
        case measure => simp [intOf]; omega
      · have g0 : (0 : Int) < (j : Int) := by omega
        unfold lessE at hlt
        simp only [Bool.or_eq_true, Bool.and_eq_true, decide_eq_true_eq] at hlt
        rcases hlt with hlt | ⟨hlt, hbl⟩
        · have g1 : (e.tk < le.tk) = False := by simp; omega
          have g2 : (e.tk == le.tk) = false := by simp; omega
          go_wp2_with (first
            | (go_at_call 11; (with_reducible refine D1.out.mono ?_); rintro r w3 ⟨rfl, t3, k3⟩
               have HT3 := Lib.hid t3
               obtain ⟨m0, m1, m2, m3, m4⟩ := kept_ent k3 (.inr rfl) l0 l1 l2 l3
               clear t3 k3)
            | (have t4 := (HT3.out.below ((Below.refl _ w3).alloc (Nat.le_refl _) (.cells #[.string e.nm, .int .u64 e.tk] 28))).1
               have D2 := at_two t4.symm e.nm
               rw [HFN.out] at D2
               have D3 : Calls Try.prog 12 #[.pointer (some ⟨p, 0, none⟩), .string e.nm] (w3.alloc (.cells #[.string e.nm, .int .u64 e.tk] 28)) fun r w' => r = .returned (.tuple #[.int .u64 e.tk, .bool true]) ∧ w3.alloc (.cells #[.string e.nm, .int .u64 e.tk] 28) = w' := D2
               go_at_call 12
               (with_reducible refine D3.mono ?_)
               clear D2 D3 t4
               rintro r w4 ⟨rfl, rfl⟩)
            | (have t5 := ((((HT3.out.set (a := ⟨L, 0, none⟩) (.inr rfl) hL (.string e.nm)).set (a := ⟨L, 1, none⟩) (.inr rfl) hL (.int .u64 e.tk))).below ((Below.refl _ _).alloc (Nat.le_refl _) (.cells #[.string e.nm, .int .u64 e.tk] 28))).1
               have D4 := drop_two t5.symm hRl e.nm
               go_at_call 13
               (with_reducible refine D4.mono ?_)
               clear D4 t5
               rintro r w6 ⟨rfl, t6, k6⟩
               rw [HFL.out] at t6
               have HT6 := Lib.hid t6.symm
               obtain ⟨n0, n1, n2, n3, n4⟩ := kept_ent k6 (.inr rfl) (L := L) (by go_simp : _ = some (.string e.nm)) (by go_simp : _ = some (.int .u64 e.tk)) (by go_simp) (by go_simp)
               clear t6 k6))
          go_roundw
          case rel => exact ⟨j + 1, by go_num, by omega, by rw [HR.out]; exact HT6, by rw [HNE.out]; exact n0, by rw [HNE.out]; exact n1, n2, n3⟩
          case measure => simp [intOf]; omega
        · have g1 : (e.tk < le.tk) = False := by simp; omega
          have g2 : (e.tk == le.tk) = true := by simp; omega
          have b1 : Op.bytesLess e.nm.toList le.nm.toList = false := by
            cases hq : Op.bytesLess e.nm.toList le.nm.toList
            · rfl
            · have := bl_tr _ _ _ hbl hq
              rw [bl_irr] at this; cases this
          have b2 : (e.nm.toList == le.nm.toList) = false := by
            cases hq : (e.nm.toList == le.nm.toList)
            · rfl
            · have hq2 : e.nm.toList = le.nm.toList := by simpa using hq
              rw [hq2, bl_irr] at hbl; cases hbl
          clear hbl
          go_wp2_with (first
            | (go_at_call 11; (with_reducible refine D1.out.mono ?_); rintro r w3 ⟨rfl, t3, k3⟩
               have HT3 := Lib.hid t3
               obtain ⟨m0, m1, m2, m3, m4⟩ := kept_ent k3 (.inr rfl) l0 l1 l2 l3
               clear t3 k3)
            | (have t4 := (HT3.out.below ((Below.refl _ w3).alloc (Nat.le_refl _) (.cells #[.string e.nm, .int .u64 e.tk] 28))).1
               have D2 := at_two t4.symm e.nm
               rw [HFN.out] at D2
               have D3 : Calls Try.prog 12 #[.pointer (some ⟨p, 0, none⟩), .string e.nm] (w3.alloc (.cells #[.string e.nm, .int .u64 e.tk] 28)) fun r w' => r = .returned (.tuple #[.int .u64 e.tk, .bool true]) ∧ w3.alloc (.cells #[.string e.nm, .int .u64 e.tk] 28) = w' := D2
               go_at_call 12
               (with_reducible refine D3.mono ?_)
               clear D2 D3 t4
               rintro r w4 ⟨rfl, rfl⟩)
            | (have t5 := ((((HT3.out.set (a := ⟨L, 0, none⟩) (.inr rfl) hL (.string e.nm)).set (a := ⟨L, 1, none⟩) (.inr rfl) hL (.int .u64 e.tk))).below ((Below.refl _ _).alloc (Nat.le_refl _) (.cells #[.string e.nm, .int .u64 e.tk] 28))).1
               have D4 := drop_two t5.symm hRl e.nm
               go_at_call 13
               (with_reducible refine D4.mono ?_)
               clear D4 t5
               rintro r w6 ⟨rfl, t6, k6⟩
               rw [HFL.out] at t6
               have HT6 := Lib.hid t6.symm
               obtain ⟨n0, n1, n2, n3, n4⟩ := kept_ent k6 (.inr rfl) (L := L) (by go_simp : _ = some (.string e.nm)) (by go_simp : _ = some (.int .u64 e.tk)) (by go_simp) (by go_simp)
               clear t6 k6))
          go_roundw
          case rel => exact ⟨j + 1, by go_num, by omega, by rw [HR.out]; exact HT6, by rw [HNE.out]; exact n0, by rw [HNE.out]; exact n1, n2, n3⟩
          case measure => simp [intOf]; omega
    · have hjm' : j = m := by omega
      have hd : S.drop j = [] := by rw [List.drop_eq_nil_iff]; omega
      rw [hd] at HS
      have D := Lib.hid (pop_two HS.out (by simp))
      go_wp2_with (first
        | (go_at_call 11; (with_reducible refine D.out.mono ?_); rintro r w3 ⟨rfl, t3, _⟩; have HT3 := Lib.hid t3; clear t3)
        | (go_at_call 14; (with_reducible refine (alive_true _).mono ?_); rintro r w4 ⟨rfl, hb4⟩; have HT4 := Lib.hid ((HT3.out.below ((Below.refl _ w3).alloc (Nat.le_refl _) _)).1.below hb4).1; clear hb4)
        | (go_at_call 10; (with_reducible refine (len_two HT4.out).mono ?_); rintro r w5 ⟨rfl, rfl⟩)
        | (go_at_call 10; (with_reducible refine (len_two HT4.out.symm).mono ?_); rintro r w5 ⟨rfl, rfl⟩))
      go_ret
      exact ⟨rfl, HT4.out.bel⟩
end Go.Proofs.Yticnckclmlejhaa

/-
  The walks of layer 6 (queue): New, and Pop of a queue.
-/
import Derived.Test.YticnckclmlejhaaQue
namespace Go.Proofs.Yticnckclmlejhaa
open Go.RowKit Go.ChangeMaps Hp

theorem Tch.cell {X M : Nat} {v : Value} {w w' : World} (h : Tch X M v w w') {k i : Nat} (hk : k < w.heap.size) (h1 : k ≠ X) (h2 : k ≠ M) (h3 : some k ≠ v.ownBlock) : w'.cell? ⟨k, i, none⟩ = w.cell? ⟨k, i, none⟩ := World.cell?_of_block (h.block k hk h1 h2 h3)
theorem Tch.frozen {X M : Nat} {v : Value} {w w' : World} (h : Tch X M v w w') {k i : Nat} (hk : k < w.heap.size) (h1 : k ≠ X) (h2 : k ≠ M) (h3 : some k ≠ v.ownBlock) : w'.frozen? ⟨k, i, none⟩ = w.frozen? ⟨k, i, none⟩ := World.frozen?_of_block (h.block k hk h1 h2 h3)

theorem Tch.below' {X M : Nat} {v : Value} {a b c : World} (h : Tch X M v a b) (k : Below a.heap.size b c) : Tch X M v a c :=
  ⟨k.os.trans h.os, k.tape.trans h.tape, k.output.trans h.output, Nat.le_trans h.size k.size, fun i hi h1 h2 h3 => (k.block i hi).trans (h.block i hi h1 h2 h3)⟩
theorem QS.keep {w w' : World} {X M : Nat} {v : Value} {l : List Ent} (h : QS w X M v l) (hb : ∀ k, (k = X ∨ k = M ∨ some k = v.ownBlock) → w'.heap[k]? = w.heap[k]?) : QS w' X M v l := by
  obtain ⟨_, _, _, h⟩ := h
  exact ⟨_, _, _, h.keep hb⟩
theorem QS.own {w : World} {X M : Nat} {v : Value} {l : List Ent} (h : QS w X M v l) : X < w.heap.size ∧ M < w.heap.size ∧ ∀ g, some g = v.ownBlock → g < w.heap.size := by
  obtain ⟨_, _, _, h⟩ := h
  exact ⟨h.x.lt, lt_of_heap h.mp, fun g e => (h.own g e.symm).2.2⟩
section
variable {w : World} {q X M : Nat} {v : Value} {es : Array MapEntry} {clk : Nat} {f : ByteArray → Option Nat} {l : List Ent}
set_option maxHeartbeats 200000 in
theorem qpop_some (h : QX w X M v es clk f l) (hq : w.cell? ⟨q, 0, none⟩ = some (.pointer (some ⟨X, 0, none⟩))) (hh : IsHeap lessE l l.length) {n : Nat} (hn : l.length = n + 1) (hb : n ≤ 999999) :
    Calls Try.prog 11 #[.pointer (some ⟨q, 0, none⟩)] w fun r w' => r = .returned (.tuple #[.agg #[.string (elt l 0).nm, .int .u64 (elt l 0).tk], .bool true]) ∧ Left w X M v (fun l' => (elt l 0 :: l').Perm l) w' := by
  have hqs : q < w.heap.size := World.block_lt_of_cell? w _ hq
  have H := Lib.hid h; have HH := Lib.hid hh
  clear h hh
  go_enter Try.func11, Try.ntmps11
  have hX := H.out.cells.2.2.2
  have hMs := lt_of_heap H.out.mp
  have OWN : Hid (∀ g, some g = v.ownBlock → g < w.heap.size) := Lib.hid fun g e => (H.out.own g e.symm).2.2
  have B1 : Below w.heap.size w (w.alloc (.cells #[.string ⟨#[]⟩, .int .u64 0] 28)) := (Below.refl _ w).alloc (Nat.le_refl _) _
  have H1 := Lib.hid (H.out.below B1)
  have hq1 := (B1.cell (p := ⟨q, 0, none⟩) hqs).trans hq
  have D1 := Lib.hid (front_some H1.out hq1 (by omega))
  have s1 : (w.alloc (.cells #[.string ⟨#[]⟩, .int .u64 0] 28)).heap.size = w.heap.size + 1 := by simp
  have r0 : (w.alloc (.cells #[.string ⟨#[]⟩, .int .u64 0] 28)).cell? ⟨w.heap.size, 0, none⟩ = some (.string ⟨#[]⟩) := by go_simp
  have r1 : (w.alloc (.cells #[.string ⟨#[]⟩, .int .u64 0] 28)).cell? ⟨w.heap.size, 1, none⟩ = some (.int .u64 0) := by go_simp
  have r2 : (w.alloc (.cells #[.string ⟨#[]⟩, .int .u64 0] 28)).frozen? ⟨w.heap.size, 0, none⟩ = false := by go_simp
  have r3 : (w.alloc (.cells #[.string ⟨#[]⟩, .int .u64 0] 28)).frozen? ⟨w.heap.size, 1, none⟩ = false := by go_simp
  rw [s1] at D1
  have HB1 := Lib.hid B1
  have HQ1 := Lib.hid hq1
  have HR : Hid (∀ w2, Below (w.heap.size + 1) (w.alloc (.cells #[.string ⟨#[]⟩, .int .u64 0] 28)) w2 → w2.cell? ⟨w.heap.size, 0, none⟩ = some (.string ⟨#[]⟩) ∧ w2.cell? ⟨w.heap.size, 1, none⟩ = some (.int .u64 0) ∧ w2.frozen? ⟨w.heap.size, 0, none⟩ = false ∧ w2.frozen? ⟨w.heap.size, 1, none⟩ = false ∧ w2.cell? ⟨q, 0, none⟩ = some (.pointer (some ⟨X, 0, none⟩)) ∧ w.heap.size < w2.heap.size ∧ q < w2.heap.size) := Lib.hid fun w2 hb =>
    ⟨(hb.cell (p := ⟨w.heap.size, 0, none⟩) (by simp)).trans r0, (hb.cell (p := ⟨w.heap.size, 1, none⟩) (by simp)).trans r1, (hb.frozen (p := ⟨w.heap.size, 0, none⟩) (by simp)).trans r2, (hb.frozen (p := ⟨w.heap.size, 1, none⟩) (by simp)).trans r3, (hb.cell (p := ⟨q, 0, none⟩) (by simp; omega)).trans hq1, by have := hb.size; omega, by have := hb.size; omega⟩
  clear B1 hq1 s1 r0 r1 r2 r3 hq
  go_wp2_with (first
    | (go_at_call 16; (with_reducible refine D1.out.mono ?_); rintro r w2 ⟨rfl, hb2⟩; have HB2 := Lib.hid hb2; obtain ⟨x0, x1, x2, x3, x4, x5, x6⟩ := HR.out w2 hb2; clear hb2)
    | (have B3 : Below w.heap.size w (w2.alloc (.cells #[.string (elt l 0).nm, .int .u64 (elt l 0).tk] 28)) := ((HB1.out.trans (HB2.out.mono (Nat.le_succ _))).alloc (Nat.le_of_lt x5) _)
       have HB3 := Lib.hid B3
       have D2 := heap_pop X M v l _ n ⟨_, _, _, H.out.below B3⟩ HH.out hn hb
       go_at_call 26
       (with_reducible refine D2.mono ?_)
       clear D2 B3
       rintro r w4 ⟨rfl, v', l', hq', hp', hh', hm', ht'⟩
       have y0 := (ht'.cell (k := w2.heap.size) (i := 0) (by simp) (by omega) (by omega) (fun e => by have := OWN.out _ e; omega)).trans (by go_simp : _ = some (.string (elt l 0).nm))
       have y1 := (ht'.cell (k := w2.heap.size) (i := 1) (by simp) (by omega) (by omega) (fun e => by have := OWN.out _ e; omega)).trans (by go_simp : _ = some (.int .u64 (elt l 0).tk))
       have y2 := (ht'.cell (k := w.heap.size) (i := 0) (by simp; omega) (by omega) (by omega) (fun e => by have := OWN.out _ e; omega)).trans (by go_simp : _ = some (.string ⟨#[]⟩))
       have y3 := (ht'.cell (k := w.heap.size) (i := 1) (by simp; omega) (by omega) (by omega) (fun e => by have := OWN.out _ e; omega)).trans (by go_simp : _ = some (.int .u64 0))
       have y4 := (ht'.frozen (k := w.heap.size) (i := 0) (by simp; omega) (by omega) (by omega) (fun e => by have := OWN.out _ e; omega)).trans (by go_simp : _ = false)
       have y5 := (ht'.frozen (k := w.heap.size) (i := 1) (by simp; omega) (by omega) (by omega) (fun e => by have := OWN.out _ e; omega)).trans (by go_simp : _ = false)
       have y6 : w.heap.size < w4.heap.size := Nat.lt_of_lt_of_le (by simp; omega) ht'.size
       have y7 : w2.heap.size < w4.heap.size := Nat.lt_of_lt_of_le (by simp) ht'.size
       have HQ4 := Lib.hid hq'; have HP4 := Lib.hid hp'; have HH4 := Lib.hid hh'; have HM4 := Lib.hid hm'; have HT4 := Lib.hid ht'
       clear hq' hp' hh' hm' ht' x0 x1 x2 x3 x4))
  have hs3 : w.heap.size < (w2.alloc (.cells #[.string (elt l 0).nm, .int .u64 (elt l 0).tk] 28)).heap.size := by simp; omega
  have t0 : ((w4.setCell ⟨w.heap.size, 0, none⟩ (.string (elt l 0).nm)).setCell ⟨w.heap.size, 1, none⟩ (.int .u64 (elt l 0).tk)).cell? ⟨w.heap.size, 0, none⟩ = some (.string (elt l 0).nm) := by go_simp
  have t1 : ((w4.setCell ⟨w.heap.size, 0, none⟩ (.string (elt l 0).nm)).setCell ⟨w.heap.size, 1, none⟩ (.int .u64 (elt l 0).tk)).cell? ⟨w.heap.size, 1, none⟩ = some (.int .u64 (elt l 0).tk) := by go_simp
  refine bodyPost_ret (results_ent rfl rfl t0 t1) rfl ⟨rfl, ?_⟩
  have far : ∀ k, k ≠ w.heap.size → ((w4.setCell ⟨w.heap.size, 0, none⟩ (.string (elt l 0).nm)).setCell ⟨w.heap.size, 1, none⟩ (.int .u64 (elt l 0).tk)).heap[k]? = w4.heap[k]? := fun k hk => (Below.heap_setCell _ _ _ _ hk).trans (Below.heap_setCell _ _ _ _ hk)
  refine ⟨v', l', HQ4.out.keep fun k hk => far k ?_, HP4.out, HH4.out, HM4.out.weaken HB3.out.size, ((Tch.of_below HB3.out).trans (.refl _ _) HT4.out).below' (((Below.refl w.heap.size w4).setCell (Nat.le_refl _) _).setCell (Nat.le_refl _) _)⟩
  rintro rfl
  rcases hk with e | e | e
  · omega
  · omega
  · rcases HM4.out with m | ⟨g, m, hg⟩
    · rw [m] at e
      have := OWN.out _ e
      omega
    · rw [m] at e
      injection e with e
      omega

theorem qpop_none (h : QX w X M v es clk f l) (hq : w.cell? ⟨q, 0, none⟩ = some (.pointer (some ⟨X, 0, none⟩))) (hn : l.length = 0) :
    Calls Try.prog 11 #[.pointer (some ⟨q, 0, none⟩)] w fun r w' => r = .returned (.tuple #[.agg #[.string ByteArray.empty, .int .u64 0], .bool false]) ∧ Below w.heap.size w w' := by
  have hqs : q < w.heap.size := World.block_lt_of_cell? w _ hq
  have H := Lib.hid h
  clear h
  have B1 : Below w.heap.size w (w.alloc (.cells #[.string ⟨#[]⟩, .int .u64 0] 28)) := (Below.refl _ w).alloc (Nat.le_refl _) _
  have H1 := Lib.hid (H.out.below B1)
  have hq1 := (B1.cell (p := ⟨q, 0, none⟩) hqs).trans hq
  have D1 := Lib.hid (front_none H1.out hq1 hn)
  have s1 : (w.alloc (.cells #[.string ⟨#[]⟩, .int .u64 0] 28)).heap.size = w.heap.size + 1 := by simp
  have r0 : (w.alloc (.cells #[.string ⟨#[]⟩, .int .u64 0] 28)).cell? ⟨w.heap.size, 0, none⟩ = some (.string ⟨#[]⟩) := by go_simp
  have r1 : (w.alloc (.cells #[.string ⟨#[]⟩, .int .u64 0] 28)).cell? ⟨w.heap.size, 1, none⟩ = some (.int .u64 0) := by go_simp
  have r2 : (w.alloc (.cells #[.string ⟨#[]⟩, .int .u64 0] 28)).frozen? ⟨w.heap.size, 0, none⟩ = false := by go_simp
  have r3 : (w.alloc (.cells #[.string ⟨#[]⟩, .int .u64 0] 28)).frozen? ⟨w.heap.size, 1, none⟩ = false := by go_simp
  rw [s1] at D1
  have HB1 := Lib.hid B1
  have HR : Hid (∀ w2, Below (w.heap.size + 1) (w.alloc (.cells #[.string ⟨#[]⟩, .int .u64 0] 28)) w2 → w2.cell? ⟨w.heap.size, 0, none⟩ = some (.string ⟨#[]⟩) ∧ w2.cell? ⟨w.heap.size, 1, none⟩ = some (.int .u64 0) ∧ w2.frozen? ⟨w.heap.size, 0, none⟩ = false ∧ w2.frozen? ⟨w.heap.size, 1, none⟩ = false ∧ w.heap.size < w2.heap.size) := Lib.hid fun w2 hb =>
    ⟨(hb.cell (p := ⟨w.heap.size, 0, none⟩) (by simp)).trans r0, (hb.cell (p := ⟨w.heap.size, 1, none⟩) (by simp)).trans r1, (hb.frozen (p := ⟨w.heap.size, 0, none⟩) (by simp)).trans r2, (hb.frozen (p := ⟨w.heap.size, 1, none⟩) (by simp)).trans r3, by have := hb.size; omega⟩
  clear B1 hq1 s1 r0 r1 r2 r3 hq H1
  go_enter Try.func11, Try.ntmps11
  go_wp2_with (go_at_call 16; (with_reducible refine D1.out.mono ?_); rintro r w2 ⟨rfl, hb2⟩; have HB2 := Lib.hid hb2; obtain ⟨x0, x1, x2, x3, x5⟩ := HR.out w2 hb2; clear hb2)
  have t0 : (((w2.setCell ⟨w.heap.size, 0, none⟩ (.string ByteArray.empty)).setCell ⟨w.heap.size, 1, none⟩ (.int .u64 0)).alloc (.cells #[.string ByteArray.empty, .int .u64 0] 28)).cell? ⟨w.heap.size, 0, none⟩ = some (.string ByteArray.empty) := by go_simp
  have t1 : (((w2.setCell ⟨w.heap.size, 0, none⟩ (.string ByteArray.empty)).setCell ⟨w.heap.size, 1, none⟩ (.int .u64 0)).alloc (.cells #[.string ByteArray.empty, .int .u64 0] 28)).cell? ⟨w.heap.size, 1, none⟩ = some (.int .u64 0) := by go_simp
  refine bodyPost_ret (results_ent rfl rfl t0 t1) rfl ⟨rfl, ?_⟩
  have hb2 : Below w.heap.size w ((w2.setCell ⟨w.heap.size, 0, none⟩ (.string ByteArray.empty)).setCell ⟨w.heap.size, 1, none⟩ (.int .u64 0)) := (((HB1.out.trans (HB2.out.mono (Nat.le_succ _))).setCell (p := ⟨w.heap.size, 0, none⟩) (Nat.le_refl _) _).setCell (p := ⟨w.heap.size, 1, none⟩) (Nat.le_refl _) _)
  exact hb2.alloc hb2.size _
end

theorem new_q (w : World) : Calls Try.prog 17 #[] w fun r w' => r = .returned (.pointer (some ⟨w.heap.size + 1 + 1, 0, none⟩)) ∧
    ((w.alloc (.map #[] 0)).alloc (.cells #[.slice none 0 0, .map (some w.heap.size)] 62)).alloc (.cells #[.pointer (some ⟨w.heap.size + 1, 0, none⟩)] 56) = w' := by
  have hm := fun w => run_makeMap (P := Try.prog) 60 w
  go_enter Try.func17, Try.ntmps17
  go_wp2
  go_ret
  exact ⟨rfl, rfl⟩
end Go.Proofs.Yticnckclmlejhaa

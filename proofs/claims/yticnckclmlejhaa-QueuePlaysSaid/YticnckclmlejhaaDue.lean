/-
  The walk of layer 6 (queue): while, over a queue in memory.
-/
import Derived.Test.YticnckclmlejhaaNil
import Derived.Deep.AppendLies
namespace Go.Proofs.Yticnckclmlejhaa
open Go.RowKit Go.ChangeMaps Hp

theorem due1 (N : Nat) (a : ByteArray) (s t : Int) (w : World) (hN : w.cell? ⟨N, 0, none⟩ = some (.int .u64 t)) :
    Calls Try.prog 30 #[.agg #[.string a, .int .u64 s], .pointer (some ⟨N, 0, none⟩)] w fun r w' => r = .returned (.bool (decide (s ≤ t))) ∧ Below w.heap.size w w' := by
  have hNs : N < w.heap.size := World.block_lt_of_cell? w _ hN
  go_enter Try.func30, Try.ntmps30
  go_wp2
  go_ret
  exact ⟨rfl, (Below.refl _ w).alloc (Nat.le_refl _) _⟩

def lenV : Value → Nat
  | .slice _ n _ => n
  | _ => 0
theorem lenV_row {w : World} {b : Nat} {o : Value} {n : Nat} {xs : List Value} (h : w.ownsRow b 28 2 o n xs) : lenV o = n := by
  rcases h.2 with ⟨e, h0⟩ | ⟨g, cap, cur, e, _⟩
  · rw [e, h0]; rfl
  · rw [e]; rfl
def hdE : List Ent → Ent
  | [] => ⟨ByteArray.empty, 0⟩
  | e :: _ => e
theorem frontV_hd (R : List Ent) : frontV R = .tuple #[.agg #[.string (hdE R).nm, .int .u64 (hdE R).tk], .bool (!R.isEmpty)] := by cases R <;> rfl

theorem row_below {w w' : World} {b n : Nat} {o : Value} {xs : List Value} (h : w.ownsRow b 28 2 o n xs) (hb : Below w.heap.size w w') : w'.ownsRow b 28 2 o n xs := by
  obtain ⟨h1, h2⟩ := h
  refine ⟨h1, ?_⟩
  rcases h2 with h2 | ⟨g, cap, cur, hv, hg, hh, r⟩
  · exact .inl h2
  · exact .inr ⟨g, cap, cur, hv, hg, (hb.block g (lt_of_heap hh)).trans hh, r⟩
theorem row_keep {w w' : World} {b n : Nat} {o : Value} {xs : List Value} (h : w.ownsRow b 28 2 o n xs) (hb : ∀ g, o.ownBlock = some g → w'.heap[g]? = w.heap[g]?) : w'.ownsRow b 28 2 o n xs := by
  obtain ⟨h1, h2⟩ := h
  refine ⟨h1, ?_⟩
  rcases h2 with h2 | ⟨g, cap, cur, hv, hg, hh, r⟩
  · exact .inl h2
  · exact .inr ⟨g, cap, cur, hv, hg, (hb g (by rw [hv]; rfl)).trans hh, r⟩
theorem ones (e : Ent) : ∀ u ∈ [Value.string e.nm, .int .u64 e.tk], u.oneCell' = true := by
  intro u hu
  simp only [List.mem_cons, List.not_mem_nil, or_false] at hu
  rcases hu with rfl | rfl <;> rfl
/-- while, underway: T is taken, R is left. -/
structure WS (w wr : World) (q N : Nat) (B : Nat → Prop) (S : List Ent) (t : Int) (T R : List Ent) (o : Value) (E : Nat) : Prop where
  eq : T ++ R = S
  due : ∀ x ∈ T, x.tk ≤ t
  que : ∃ B', Que wr q B' R ∧ Chg B B' w wr ∧ ¬ B' E ∧ ¬ B' N ∧ ∀ g, o.ownBlock = some g → ¬ B' g
  row : wr.ownsRow w.heap.size 28 2 o T.length (flat T)
  og : ∀ g, o.ownBlock = some g → g ≠ E
  el : w.heap.size ≤ E
/-- The cells that while reads. -/
structure WC (wr : World) (N E : Nat) (t : Int) (R : List Ent) : Prop where
  now : wr.cell? ⟨N, 0, none⟩ = some (.int .u64 t)
  e0 : wr.cell? ⟨E, 0, none⟩ = some (.string (hdE R).nm)
  e1 : wr.cell? ⟨E, 1, none⟩ = some (.int .u64 (hdE R).tk)

def WhileP (w : World) (q : Nat) (B : Nat → Prop) (S : List Ent) (t : Int) (r : Ending) (w' : World) : Prop :=
  ∃ T R o B', r = .returned o ∧ T ++ R = S ∧ (∀ x ∈ T, x.tk ≤ t) ∧ (∀ x, R.head? = some x → ¬ x.tk ≤ t) ∧ Que w' q B' R ∧ Chg B B' w w' ∧ w'.ownsRow w.heap.size 28 2 o T.length (flat T) ∧ ∀ g, o.ownBlock = some g → ¬ B' g

theorem front_hd {w : World} {q : Nat} {B : Nat → Prop} {R : List Ent} (h : Que w q B R) : Calls Try.prog 16 #[.pointer (some ⟨q, 0, none⟩)] w fun r w' => r = .returned (.tuple #[.agg #[.string (hdE R).nm, .int .u64 (hdE R).tk], .bool (!R.isEmpty)]) ∧ Que w' q B R ∧ Below w.heap.size w w' := by
  rw [← frontV_hd]; exact front_que h

theorem while_app {w3 w4 : World} {E i : Nat} {v o : Value} {ob : Obj} (hg : (w3.alloc ob).grownBy w4 o.ownBlock) (hE : E < w3.heap.size) (hn : ∀ g, o.ownBlock = some g → g ≠ E) (x : w3.cell? ⟨E, i, none⟩ = some v) : w4.cell? ⟨E, i, none⟩ = some v := by
  refine (hg.cell_far ⟨E, i, none⟩ ?_ fun q => hn E q.symm rfl).trans ((World.cell?_of_block (w := w3) (a := ⟨E, i, none⟩) (Below.heap_alloc w3 ob E hE)).trans x)
  show E < (w3.alloc ob).heap.size
  simp
  omega
theorem while_w3 {w wr w2 w3 : World} {B B1 B2 : Nat → Prop} (h1 : Chg B B1 w wr) (h2 : Below wr.heap.size wr w2) (h3 : Chg B1 B2 w2 w3) : w.heap.size ≤ w3.heap.size := Nat.le_trans h1.size (Nat.le_trans h2.size h3.size)
theorem while_q4 {w2 w3 w4 : World} {q wrs : Nat} {B1 B2 : Nat → Prop} {R : List Ent} {o : Value} {ob : Obj} (h : Que w3 q B2 R) (hf : ∀ k, B2 k → B1 k ∨ w2.heap.size ≤ k) (ho : ∀ g, o.ownBlock = some g → ¬ B1 g)
    (hs : ∀ {k : Nat}, k < wrs → k < w2.heap.size) (hl : ∀ g, o.ownBlock = some g → g < wrs) (hg : (w3.alloc ob).grownBy w4 o.ownBlock) : Que w4 q B2 R := by
  refine h.keep fun k hk => ?_
  have hk3 := h.lt k hk
  refine (hg.block k (by simp; omega) fun e => ?_).trans (Below.heap_alloc w3 ob k hk3)
  rcases hf k hk with hb | hb
  · exact ho k e.symm hb
  · have := hs (hl k e.symm); omega

theorem while_step {w wr w2 w3 w4 w6 : World} {q N : Nat} {B B1 B2 : Nat → Prop} {S T R : List Ent} {e : Ent} {t : Int} {o : Value} {E g cap1 : Nat} {ob : Obj} (h1 : Chg B B1 w wr) (h2 : Below wr.heap.size wr w2) (h3 : Chg B1 B2 w2 w3)
    (hs : WS w wr q N B S t T (e :: R) o E) (hn : wr.cell? ⟨N, 0, none⟩ = some (.int .u64 t)) (h4 : ¬ B1 N) (h5 : ∀ g, o.ownBlock = some g → ¬ B1 g) (hle : e.tk ≤ t)
    (h6 : w4.ownsRow w.heap.size 28 2 (.slice (some ⟨g, 0, none⟩) (T.length + 1) cap1) (T.length + 1) (flat T ++ [.string e.nm, .int .u64 e.tk])) (h7 : (w3.alloc ob).grownBy w4 o.ownBlock) (h8 : o.ownBlock = some g ∨ g = w3.heap.size + 1) (h9 : g < w4.heap.size)
    (h10 : Que w4 q B2 R) (h12 : ∀ k, B2 k → k < w3.heap.size) (h11 : Below w4.heap.size w4 w6) (hN : N < w.heap.size) (a b : Value) :
    WS w ((w6.setCell ⟨w4.heap.size, 0, none⟩ a).setCell ⟨w4.heap.size, 1, none⟩ b) q N B S t (T ++ [e]) R (.slice (some ⟨g, 0, none⟩) (T.length + 1) cap1) w4.heap.size ∧
      ((w6.setCell ⟨w4.heap.size, 0, none⟩ a).setCell ⟨w4.heap.size, 1, none⟩ b).cell? ⟨N, 0, none⟩ = some (.int .u64 t) := by
  have b7 : Below w4.heap.size w4 ((w6.setCell ⟨w4.heap.size, 0, none⟩ a).setCell ⟨w4.heap.size, 1, none⟩ b) := (h11.setCell (p := ⟨w4.heap.size, 0, none⟩) (Nat.le_refl _) _).setCell (p := ⟨w4.heap.size, 1, none⟩) (Nat.le_refl _) _
  have own : ∀ g, o.ownBlock = some g → w.heap.size ≤ g ∧ g < wr.heap.size := hs.row.lt
  have s4 : w3.heap.size + 1 ≤ w4.heap.size := by have := h7.size; simpa using this
  have s1 := h1.size
  have s2 := h2.size
  have s3 := h3.size
  have keep : ∀ k, k < wr.heap.size → ¬ B1 k → some k ≠ o.ownBlock → ((w6.setCell ⟨w4.heap.size, 0, none⟩ a).setCell ⟨w4.heap.size, 1, none⟩ b).heap[k]? = wr.heap[k]? := fun k hk hb ho =>
    (b7.block k (by omega)).trans ((h7.block k (by simp; omega) ho).trans ((Below.heap_alloc w3 ob k (by omega)).trans ((h3.block k (by omega) hb).trans (h2.block k hk))))
  refine ⟨⟨by rw [← hs.eq]; simp, ?_, ⟨B2, h10.keep fun k hk => b7.block k (h10.lt k hk), ⟨?_, ?_, ?_, ?_, ?_, ?_⟩, ?_, ?_, ?_⟩, ?_, ?_, by omega⟩, ?_⟩
  · intro x hx
    rcases List.mem_append.1 hx with hx | hx
    · exact hs.due x hx
    · simp at hx; subst hx; exact hle
  · exact b7.os.trans (h7.os.trans (h3.os.trans (h2.os.trans h1.os)))
  · exact b7.tape.trans (h7.tape.trans (h3.tape.trans (h2.tape.trans h1.tape)))
  · exact b7.output.trans (h7.output.trans (h3.output.trans (h2.output.trans h1.output)))
  · have := b7.size; omega
  · intro k hk hb
    refine (keep k (by omega) (fun hb1 => ?_) fun ho => ?_).trans (h1.block k hk hb)
    · rcases h1.foot k hb1 with hh | hh
      · exact hb hh
      · omega
    · have := (own k ho.symm).1; omega
  · intro k hk
    rcases h3.foot k hk with hh | hh
    · exact h1.foot k hh
    · exact .inr (by omega)
  · intro hk; have := h12 _ hk; omega
  · intro hk
    rcases h3.foot _ hk with hh | hh
    · exact h4 hh
    · omega
  · intro g' hg'
    simp only [Value.ownBlock, Option.some.injEq] at hg'
    subst hg'
    intro hk
    rcases h8 with h8 | h8
    · rcases h3.foot _ hk with hh | hh
      · exact h5 _ h8 hh
      · have := (own _ h8).2; omega
    · have := h12 _ hk; omega
  · rw [flat_append]
    have hl : (T ++ [e]).length = T.length + 1 := by simp
    rw [hl]
    exact row_below h6 b7
  · intro g' hg'
    simp only [Value.ownBlock, Option.some.injEq] at hg'
    subst hg'
    omega
  · exact (World.cell?_of_block (w := wr) (a := ⟨N, 0, none⟩) (keep N (by omega) h4 fun ho => by have := (own N ho.symm).1; omega)).trans hn

set_option maxHeartbeats 1600000 in
theorem while_que (q N : Nat) (B : Nat → Prop) (S : List Ent) (t : Int) (w : World) (h : Que w q B S) (hN : w.cell? ⟨N, 0, none⟩ = some (.int .u64 t)) (hNB : ¬ B N) (hb : S.length ≤ 999999) :
    Calls Try.prog 29 #[.func (.func 16) #[.pointer (some ⟨q, 0, none⟩)] #[], .func (.func 11) #[.pointer (some ⟨q, 0, none⟩)] #[], .func (.func 30) #[] #[.pointer (some ⟨N, 0, none⟩)]] w (WhileP w q B S t) := by
  have hNs : N < w.heap.size := World.block_lt_of_cell? w _ hN
  have H := Lib.hid h; have HN := Lib.hid hN
  obtain ⟨i0, hi, hz0, hz1, hz2⟩ := info_parts ent_info
  clear h hN
  go_enter Try.func29, Try.ntmps29
  go_wp2_with (go_at_call 16; (with_reducible refine (front_hd H.out).mono ?_); rintro r w1 ⟨rfl, h1, hb1⟩; have H1 := Lib.hid h1; have HB1 := Lib.hid hb1; clear h1 hb1)
  go_loopw [7, 8, 9] (fun o p b wr => ∃ (T R : List Ent) (E : Nat), p = .pointer (some ⟨E, 0, none⟩) ∧ b = .bool (!R.isEmpty) ∧ Hid (WS w wr q N B S t T R o E) ∧ Hid (WC wr N E t R)) (fun o _ _ _ => S.length - lenV o)
  case atStart =>
    refine ⟨[], S, w1.heap.size, rfl, rfl, Lib.hid ⟨rfl, by simp, ⟨B, H1.out.below ((Below.refl _ w1).alloc (Nat.le_refl _) _), Chg.of_below B (HB1.out.alloc HB1.out.size _), ?_, hNB, by simp [Value.ownBlock]⟩, ⟨by simp [flat], .inl ⟨rfl, rfl⟩⟩, by simp [Value.ownBlock], HB1.out.size⟩, Lib.hid ⟨?_, by go_simp, by go_simp⟩⟩
    · intro hk; have := H1.out.lt _ hk; omega
    · rw [Below.cell (HB1.out.alloc HB1.out.size _) hNs]; exact HN.out
  case round =>
    obtain ⟨T, R, E, rfl, rfl, HS, HC⟩ := hrel
    clear H1 HB1
    cases R with
    | nil =>
      have e0 := HC.out.e0
      have e1 := HC.out.e1
      go_wp2
      go_ret
      obtain ⟨B', a1, a2, a3, a4, a5⟩ := HS.out.que
      exact ⟨T, [], u7, B', rfl, HS.out.eq, HS.out.due, by simp, a1, a2, HS.out.row, a5⟩
    | cons e R =>
      have e0 : wr.cell? ⟨E, 0, none⟩ = some (.string e.nm) := HC.out.e0
      have e1 : wr.cell? ⟨E, 1, none⟩ = some (.int .u64 e.tk) := HC.out.e1
      have hbb : (!(e :: R).isEmpty) = true := rfl
      rw [hbb]
      have D1 := Lib.hid (due1 N e.nm e.tk t wr HC.out.now)
      by_cases hle : e.tk ≤ t
      · have hd : decide (e.tk ≤ t) = true := decide_eq_true hle
        rw [hd] at D1
        clear hd
        obtain ⟨B1, a1, a2, a3, a4, a5⟩ := HS.out.que
        have A1 := Lib.hid a1; have A2 := Lib.hid a2; have A3 := Lib.hid a3; have A4 := Lib.hid a4; have A5 := Lib.hid a5
        clear a1 a2 a3 a4 a5
        have hEs : E < wr.heap.size := World.block_lt_of_cell? wr _ e0
        have hTl : T.length ≤ 999999 := by
          have := congrArg List.length HS.out.eq
          rw [List.length_append] at this
          omega
        have h63 : T.length + 1 ≤ maxLen := by unfold maxLen; omega
        have hby : (T.length + 1) * 24 ≤ 140737488355328 := by omega
        have hRl : (e :: R).length ≤ 999999 := by
          have := congrArg List.length HS.out.eq
          rw [List.length_append] at this
          omega
        go_wp2_with (first
          | (go_at_call 30; (with_reducible refine D1.out.mono ?_); rintro r w2 ⟨rfl, hb2⟩; have HB2 := Lib.hid hb2; clear hb2)
          | (have D2 := pop_que (A1.out.below HB2.out) hRl
             go_at_call 11
             (with_reducible refine D2.mono ?_)
             clear D2
             rintro r w3 ⟨rfl, B2, q3, ch3⟩
             have hE2 : E < w2.heap.size := Nat.lt_of_lt_of_le hEs HB2.out.size
             have x0 : w3.cell? ⟨E, 0, none⟩ = some (.string e.nm) := (World.cell?_of_block (w := w2) (a := ⟨E, 0, none⟩) (ch3.block E hE2 A3.out)).trans ((HB2.out.cell (p := ⟨E, 0, none⟩) hEs).trans e0)
             have x1 : w3.cell? ⟨E, 1, none⟩ = some (.int .u64 e.tk) := (World.cell?_of_block (w := w2) (a := ⟨E, 1, none⟩) (ch3.block E hE2 A3.out)).trans ((HB2.out.cell (p := ⟨E, 1, none⟩) hEs).trans e1)
             have hE3 : E < w3.heap.size := Nat.lt_of_lt_of_le hE2 ch3.size
             have hown3 : w3.ownsRow w.heap.size 28 2 u7 T.length (flat T) := row_keep (row_below HS.out.row HB2.out) fun g hg => ch3.block g ((row_below HS.out.row HB2.out).lt g hg).2 (A5.out g hg)
             have HO3 := Lib.hid hown3
             have Q3 := Lib.hid q3; have CH3 := Lib.hid ch3
             clear q3 ch3 hown3)
          | (at_builtin
             have hw3 : w.heap.size ≤ w3.heap.size := while_w3 A2.out HB2.out CH3.out
             refine wpList_append_lies _ rfl (.tmp 28) (.tmp 30) 36 rfl w.heap.size 28 i0 (.agg #[.string ByteArray.empty, .int .u64 0]) 2 24 Try.underlying36 hi hz0 hz1 hz2 rfl (by decide) u7 T.length (flat T) rfl (HO3.out.alloc _) ⟨w3.heap.size, 0, none⟩ 1 1 [.string e.nm, .int .u64 e.tk] rfl rfl (news_two w3 _ _ _ _ rfl) (ones e) (by decide) h63 hby (Nat.le_trans hw3 (by simp)) (w3.heap.size + 1) (by simp) ?_
             intro g cap1 w4 hown4 hgrow hat hlt
             have y0 : w4.cell? ⟨E, 0, none⟩ = some (.string e.nm) := while_app hgrow hE3 HS.out.og x0
             have y1 : w4.cell? ⟨E, 1, none⟩ = some (.int .u64 e.tk) := while_app hgrow hE3 HS.out.og x1
             have hE4 : E < w4.heap.size := World.block_lt_of_cell? w4 _ y0
             have HO4 := Lib.hid hown4; have HG4 := Lib.hid hgrow; have HA4 := Lib.hid hat; have HL4 := Lib.hid hlt; have HW3 := Lib.hid hw3
             clear hown4 hgrow hat hlt hw3)
          | (have Q4 := while_q4 Q3.out CH3.out.foot A5.out (Nat.lt_of_lt_of_le · HB2.out.size) (fun g hg => (HS.out.row.lt g hg).2) HG4.out
             have B5 : Below w4.heap.size w4 (w4.alloc (.cells #[.string e.nm, .int .u64 e.tk] 28)) := (Below.refl _ w4).alloc (Nat.le_refl _) _
             have D3 := front_hd (Q4.below B5)
             go_at_call 16
             (with_reducible refine D3.mono ?_)
             rintro r w6 ⟨rfl, q6, b6⟩
             have hs5 : (w4.alloc (.cells #[.string e.nm, .int .u64 e.tk] 28)).heap.size = w4.heap.size + 1 := by simp
             have z0 : w6.cell? ⟨w4.heap.size, 0, none⟩ = some (.string e.nm) := (b6.cell (p := ⟨w4.heap.size, 0, none⟩) (by simp)).trans (by go_simp)
             have z1 : w6.cell? ⟨w4.heap.size, 1, none⟩ = some (.int .u64 e.tk) := (b6.cell (p := ⟨w4.heap.size, 1, none⟩) (by simp)).trans (by go_simp)
             have z2 : w6.frozen? ⟨w4.heap.size, 0, none⟩ = false := (b6.frozen (p := ⟨w4.heap.size, 0, none⟩) (by simp)).trans (by go_simp)
             have z3 : w6.frozen? ⟨w4.heap.size, 1, none⟩ = false := (b6.frozen (p := ⟨w4.heap.size, 1, none⟩) (by simp)).trans (by go_simp)
             have z4 : w4.heap.size < w6.heap.size := Nat.lt_of_lt_of_le (by simp) b6.size
             have Q6 := Lib.hid q6
             have B46 : Hid (Below w4.heap.size w4 w6) := Lib.hid (B5.trans (b6.mono (by simp)))
             have HQ4 := Lib.hid Q4
             clear q6 b6 D3 B5 Q4 hs5))
        obtain ⟨k1, k2⟩ := while_step A2.out HB2.out CH3.out HS.out HC.out.now A4.out A5.out hle HO4.out HG4.out HA4.out HL4.out HQ4.out Q3.out.lt B46.out hNs (.string (hdE R).nm) (.int .u64 (hdE R).tk)
        have hl7 := lenV_row HS.out.row
        have hlS := congrArg List.length HS.out.eq
        go_roundw
        case rel =>
          refine ⟨T ++ [e], R, w4.heap.size, rfl, rfl, Lib.hid k1, Lib.hid ⟨k2, ?_, ?_⟩⟩
          · go_simp
          · go_simp
        case measure =>
          rw [hl7]
          simp [lenV]
          simp at hlS
          omega
      · have hd : decide (e.tk ≤ t) = false := decide_eq_false hle
        rw [hd] at D1
        clear hd
        go_wp2_with (go_at_call 30; (with_reducible refine D1.out.mono ?_); rintro r w2 ⟨rfl, hb2⟩; have HB2 := Lib.hid hb2; clear hb2)
        go_ret
        obtain ⟨B', a1, a2, a3, a4, a5⟩ := HS.out.que
        refine ⟨T, e :: R, u7, B', rfl, HS.out.eq, HS.out.due, by simpa using hle, a1.below HB2.out, a2.trans (Chg.of_below B' HB2.out), ?_, a5⟩
        exact row_below HS.out.row HB2.out
end Go.Proofs.Yticnckclmlejhaa

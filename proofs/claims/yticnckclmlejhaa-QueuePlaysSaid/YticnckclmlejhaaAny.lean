/-
  Two queues beside a row of entries; the plain law of layer 6's QueueAny.
-/
import Derived.Test.YticnckclmlejhaaTwoD
namespace Go.Proofs.Yticnckclmlejhaa
open Go.RowKit Go.ChangeMaps Hp

/-- The queues q (for Q) and p (for P), beside the row o of the entries S. -/
def AS (w wr : World) (q p : Nat) (o : Value) (S Q P : List Ent) : Prop :=
  ∃ D, Two w wr q p D Q P ∧ (∀ g, o.ownBlock = some g → D g) ∧ ERow wr o S

theorem tw_self {t : Int} : ∀ {S : List Ent} (_ : ∀ e ∈ S, e.tk ≤ t), S.takeWhile (duep t) = S
  | [], _ => rfl
  | a :: S, h => by
    have d : duep t a = true := by simpa [duep] using h a List.mem_cons_self
    rw [List.takeWhile_cons, if_pos d, tw_self fun e he => h e (List.mem_cons_of_mem _ he)]
section
variable {w wr w' : World} {q p : Nat} {o : Value} {S Q P : List Ent}
theorem AS.bel (h : AS w wr q p o S Q P) : Below w.heap.size w wr := by
  obtain ⟨D, h1, _⟩ := h
  exact h1.bel
theorem AS.swap (h : AS w wr q p o S Q P) : AS w wr p q o S P Q := by
  obtain ⟨D, h1, h2, h3⟩ := h
  exact ⟨D, h1.symm, h2, h3⟩
theorem AS.below (h : AS w wr q p o S Q P) (hb : Below wr.heap.size wr w') : AS w w' q p o S Q P := by
  obtain ⟨D, h1, h2, h3⟩ := h
  exact ⟨D, (h1.below hb).1, h2, h3.below hb⟩
theorem put_AS (h : AS w wr q p o S Q P) (hb : Q.length ≤ 999999) (a : ByteArray) (t : Int) :
    Calls Try.prog 18 #[.pointer (some ⟨q, 0, none⟩), .string a, .int .u64 t] wr fun r w' => r = .returned (.bool (fnd Q a).isSome) ∧ AS w w' q p o S (ins ⟨a, t⟩ (fltr a Q)) P := by
  obtain ⟨D, h1, h2, h3⟩ := h
  exact (put_two h1 hb a t).mono fun r w' ⟨hr, t1, k1⟩ => ⟨hr, D, t1, h2, h3.kept k1 h2⟩
theorem drop_AS (h : AS w wr q p o S Q P) (hb : Q.length ≤ 999999) (a : ByteArray) :
    Calls Try.prog 13 #[.pointer (some ⟨q, 0, none⟩), .string a] wr fun r w' => r = .returned (.bool (fnd Q a).isSome) ∧ AS w w' q p o S (fltr a Q) P := by
  obtain ⟨D, h1, h2, h3⟩ := h
  exact (drop_two h1 hb a).mono fun r w' ⟨hr, t1, k1⟩ => ⟨hr, D, t1, h2, h3.kept k1 h2⟩
theorem pop_AS (h : AS w wr q p o S Q P) (hb : Q.length ≤ 999999) :
    Calls Try.prog 11 #[.pointer (some ⟨q, 0, none⟩)] wr fun r w' => r = .returned (.tuple #[.agg #[.string (hdE Q).nm, .int .u64 (hdE Q).tk], .bool (!Q.isEmpty)]) ∧ AS w w' q p o S Q.tail P := by
  obtain ⟨D, h1, h2, h3⟩ := h
  exact (pop_two h1 hb).mono fun r w' ⟨hr, t1, k1⟩ => ⟨hr, D, t1, h2, h3.kept k1 h2⟩
theorem len_AS (h : AS w wr q p o S Q P) : Calls Try.prog 10 #[.pointer (some ⟨q, 0, none⟩)] wr fun r w' => r = .returned (.int .i64 Q.length) ∧ wr = w' := by
  obtain ⟨D, h1, h2, h3⟩ := h
  exact len_two h1
theorem AS.uniq (h : AS w wr q p o S Q P) : Uniq Q := by
  obtain ⟨D, ⟨B, C, h1, _⟩, _⟩ := h
  exact h1.uniq
theorem AS.sorted (h : AS w wr q p o S Q P) : Sorted Q := by
  obtain ⟨D, ⟨B, C, h1, _⟩, _⟩ := h
  exact h1.sorted
/-- Beside all that, a box L that holds e. -/
def AB (w wr : World) (q p : Nat) (o : Value) (S Q P : List Ent) (L : Nat) (e : Ent) : Prop :=
  ∃ D, Two w wr q p D Q P ∧ (∀ g, o.ownBlock = some g → D g) ∧ ERow wr o S ∧ D L ∧ wr.cell? ⟨L, 0, none⟩ = some (.string e.nm) ∧ wr.cell? ⟨L, 1, none⟩ = some (.int .u64 e.tk)
theorem AS.box (h : AS w wr q p o S Q P) (e : Ent) : AB w (wr.alloc (.cells #[.string e.nm, .int .u64 e.tk] 28)) q p o S Q P wr.heap.size e := by
  obtain ⟨D, h1, h2, h3⟩ := h
  exact ⟨_, h1.grow _, fun g hg => .inl (h2 g hg), h3.below ((Below.refl _ _).alloc (Nat.le_refl _) _), .inr rfl, by go_simp, by go_simp⟩
theorem AB.swap {L : Nat} {e : Ent} (h : AB w wr q p o S Q P L e) : AB w wr p q o S P Q L e := by
  obtain ⟨D, h1, h2, h3⟩ := h
  exact ⟨D, h1.symm, h2, h3⟩
theorem AB.as {L : Nat} {e : Ent} (h : AB w wr q p o S Q P L e) : AS w wr q p o S Q P := by
  obtain ⟨D, h1, h2, h3, _⟩ := h
  exact ⟨D, h1, h2, h3⟩
theorem pop_AB {L : Nat} {e : Ent} (h : AB w wr q p o S Q P L e) (hb : Q.length ≤ 999999) :
    Calls Try.prog 11 #[.pointer (some ⟨q, 0, none⟩)] wr fun r w' => r = .returned (.tuple #[.agg #[.string (hdE Q).nm, .int .u64 (hdE Q).tk], .bool (!Q.isEmpty)]) ∧ AB w w' q p o S Q.tail P L e := by
  obtain ⟨D, h1, h2, h3, h4, h5, h6⟩ := h
  exact (pop_two h1 hb).mono fun r w' ⟨hr, t1, k1⟩ => ⟨hr, D, t1, h2, h3.kept k1 h2, h4, (World.cell?_of_block (w := wr) (a := ⟨L, 0, none⟩) (k1 L h4)).trans h5, (World.cell?_of_block (w := wr) (a := ⟨L, 1, none⟩) (k1 L h4)).trans h6⟩
/-- A further queue, made beside the two, is emptied by Due: its row is let in. -/
theorem due_AS {w2 : World} {l : Nat} {D : Nat → Prop} (h : Two w w2 q p D Q P) (hm : Mine w2 wr l S) (hb : S.length ≤ 999999) (t : Int) (ht : ∀ e ∈ S, e.tk ≤ t) :
    Calls Try.prog 15 #[.pointer (some ⟨l, 0, none⟩), .int .u64 t] wr fun r w' => ∃ o, r = .returned o ∧ AS w w' q p o S Q P := by
  obtain ⟨B, a1, a2, a3⟩ := hm
  have htw : S.takeWhile (duep t) = S := by
    exact tw_self ht
  refine (due_que a1 t hb).mono ?_
  rintro r w' ⟨o, B', rfl, hq, hc, hr, ho⟩
  rw [htw] at hr
  have hbel : Below w2.heap.size w2 w' := a2.trans (hc.below a3 a2.size)
  obtain ⟨B1, C1, b1, b2, b3, b4, b5, b6⟩ := h
  refine ⟨o, rfl, fun k => D k ∨ o.ownBlock = some k, ⟨B1, C1, b1.below hbel, b2.below hbel, b3, fun k hk => ?_, b5.trans (hbel.mono b5.size), b6⟩, fun g hg => .inr hg, _, hr⟩
  rcases hk with hk | hk
  · exact ⟨(b4 k hk).1, (b4 k hk).2.1, Nat.lt_of_lt_of_le (b4 k hk).2.2 hbel.size⟩
  · have := hr.lt k hk
    have := a2.size
    exact ⟨fun e => by have := b1.lt k e; omega, fun e => by have := b2.lt k e; omega, by omega⟩
end

theorem uniq_eq {S : List Ent} (hu : Uniq S) {a b : Ent} (ha : a ∈ S) (hb : b ∈ S) (h : a.nm = b.nm) : a = b := by
  have h1 := fnd_mem hu ha
  have h2 := fnd_mem hu hb
  rw [h, h2] at h1
  injection h1 with h1
  exact h1.symm
theorem uniq_nodup : ∀ {S : List Ent} (_ : Uniq S), S.Nodup
  | [], _ => List.nodup_nil
  | a :: S, hu => by
    obtain ⟨h1, h2⟩ := List.nodup_cons.1 (show ((a :: S).map Ent.nm).Nodup from hu)
    exact List.nodup_cons.2 ⟨fun h => h1 (List.mem_map_of_mem h), uniq_nodup h2⟩
theorem mem_put {e x : Ent} {P : List Ent} : x ∈ ins e (fltr e.nm P) ↔ x = e ∨ (x ∈ P ∧ x.nm ≠ e.nm) := by rw [mem_ins, mem_fltr]
/-- Two lists in order, each name once, of which one holds all of the other, and no name beside. -/
theorem any_eq {S P : List Ent} (hs : Sorted S) (hus : Uniq S) (hp : Sorted P) (hup : Uniq P) (h1 : ∀ x ∈ S, x ∈ P) (h2 : ∀ x ∈ P, ∃ y ∈ S, y.nm = x.nm) : P = S := by
  refine sorted_eq hp hs ?_
  rw [List.perm_ext_iff_of_nodup (uniq_nodup hup) (uniq_nodup hus)]
  intro x
  refine ⟨fun hx => ?_, h1 x⟩
  obtain ⟨y, hy, hn⟩ := h2 x hx
  rw [← uniq_eq hup (h1 y hy) hx hn]
  exact hy
end Go.Proofs.Yticnckclmlejhaa

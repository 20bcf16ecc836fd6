/-
  The law QuotaOne's first loop: what it keeps from round to round.
-/
import Derived.Test.YtlemjdkefojoeaaOf
import Derived.OwnWalk
import Derived.Maps.AppendAt
namespace Go.Proofs.Ytlemjdkefojoeaa
open Go.RowKit Quo

theorem int_info : (Try.prog.info? 3).map (fun i => (i.zero, i.size, i.bytes)) = some (some (.int .i64 0), 1, 8) := by kernel_rfl

theorem cell_one_at (w : World) (x : Value) (t : TypeId) (B : Nat) (hB : B = w.heap.size) : ∀ j u, [x][j]? = some u → (w.alloc (.cells #[x] t)).cell? ((⟨B, 0, none⟩ : Addr).add j) = some u := by
  subst hB; exact cell_one_new w x t

theorem Blk.grown {w w' : World} {g : Nat} {t : TypeId} {cs : Array Value} {row : Option Nat} (h : Blk w g t cs) (hb : w.grownBy w' row) (hg : some g ≠ row) : Blk w' g t cs := (hb.block g h.lt hg).trans h
theorem Blk.below {w w' : World} {g B : Nat} {t : TypeId} {cs : Array Value} (h : Blk w g t cs) (hb : Below B w w') (hg : g < B) : Blk w' g t cs := (hb.block g hg).trans h

/-- A row of whole numbers that the call itself made. -/
def Own (wr : World) (base : Nat) (v : Value) (xs : List Int) : Prop := wr.ownsRow base 3 1 v xs.length (xs.map (Value.int .i64))
/-- Two rows do not lie in one block. -/
def Sep (va vb : Value) : Prop := ∀ k, va.ownBlock = some k → vb.ownBlock ≠ some k

theorem Own.ne {wr : World} {base g : Nat} {v : Value} {xs : List Int} (h : Own wr base v xs) (hg : g < base ∨ wr.heap.size ≤ g) : some g ≠ v.ownBlock := by
  intro e
  have := World.ownsRow.lt h g e.symm
  omega
theorem Own.kept {wr w' : World} {base : Nat} {v vo : Value} {xs : List Int} (h : Own wr base v xs) (hg : wr.grownBy w' vo.ownBlock) (hs : Sep v vo) : Own w' base v xs := by
  refine World.ownsRow.kept h hg ?_
  cases hv : v.ownBlock with
  | none => exact Or.inl rfl
  | some k => exact Or.inr (fun e => hs k hv e.symm)
theorem Own.below {wr w' : World} {base : Nat} {v : Value} {xs : List Int} (h : Own wr base v xs) (hb : Below wr.heap.size wr w') : Own w' base v xs := by
  refine World.ownsRow.kept (row := none) h ⟨hb.os, hb.tape, hb.output, hb.size, fun k hk _ => hb.block k hk⟩ ?_
  cases hv : v.ownBlock with
  | none => exact Or.inl rfl
  | some k => exact Or.inr (fun e => by cases e)
theorem Own.far {wr : World} {base : Nat} {v : Value} {xs : List Int} (h : Own wr base v xs) {p : Addr} (hp : p.block < base) (u : Value) : Own (wr.setCell p u) base v xs := by
  obtain ⟨h1, h2⟩ := h
  refine ⟨h1, ?_⟩
  rcases h2 with h2 | ⟨g, cap, cur, hv, hg, hh, r⟩
  · exact Or.inl h2
  · exact Or.inr ⟨g, cap, cur, hv, hg, by rw [Below.heap_setCell _ _ _ _ (by omega)]; exact hh, r⟩
theorem Own.alloc {wr : World} {base : Nat} {v : Value} {xs : List Int} (h : Own wr base v xs) (o : Obj) : Own (wr.alloc o) base v xs := World.ownsRow.alloc h o

theorem sep_after {wr : World} {base : Nat} {va va' vb : Value} {ys : List Int} (hs : Sep va vb) (hb : Own wr base vb ys) (hat : va'.ownBlock = va.ownBlock ∨ va'.ownBlock = some wr.heap.size) : Sep va' vb := by
  intro k hk e
  rcases hat with h | h
  · exact hs k (h ▸ hk) e
  · rw [h] at hk
    cases hk
    have := World.ownsRow.lt hb _ e
    omega
theorem Sep.symm {va vb : Value} (h : Sep va vb) : Sep vb va := fun k hk e => h k e hk

/-- A row of the call's own with an element: its place and its numbers. -/
theorem Own.at {wr : World} {base : Nat} {v : Value} {xs : List Int} (h : Own wr base v xs) (h0 : 0 < xs.length) :
    ∃ g cap, v = .slice (some ⟨g, 0, none⟩) xs.length cap ∧ xs.length ≤ cap ∧ IntsAt wr g 0 xs := by
  have hlt := World.ownsRow.lt h
  have hc := fun g => World.ownsRow.cells (g := g) h
  rcases h.2 with ⟨_, h2⟩ | ⟨g, cap, cur, hv, _, _, hn, _⟩
  · omega
  · refine ⟨g, cap, hv, hn, (hlt g (by rw [hv]; rfl)).2, fun i hi => ?_⟩
    have := hc g (by rw [hv]; rfl) i (.int .i64 xs[i]) (by simp [hi])
    simpa [Go.WideShapes.add_plain] using this
theorem Own.form {wr : World} {base : Nat} {v : Value} {xs : List Int} (h : Own wr base v xs) : ∃ A n c, v = .slice A n c := by
  rcases h.2 with ⟨h2, _⟩ | ⟨g, cap, cur, hv, _⟩
  · exact ⟨_, _, _, h2⟩
  · exact ⟨_, _, _, hv⟩

/-- What the first loop keeps: the keys and values that were put, and the use that they are. -/
def OneW (w : World) (ks vs : List Int) (va vb : Value) (wr : World) : Prop :=
  Below w.heap.size w wr ∧ Blk wr w.heap.size 27 #[.int .i64 ks.length, .int .i64 (sumW ks + sumW vs), .int .i64 0] ∧ Own wr (w.heap.size + 1) va ks ∧ Own wr (w.heap.size + 1) vb vs ∧ Sep va vb

/-- In the midst of a round: the sizes lie in a block of their own. -/
structure StW (w : World) (sb : Nat) (key was value K R : Int) (ks vs : List Int) (va vb : Value) (wr : World) : Prop where
  below : Below w.heap.size w wr
  use : Blk wr w.heap.size 27 #[.int .i64 K, .int .i64 R, .int .i64 0]
  past : w.heap.size < sb
  size : Blk wr sb 33 #[.int .i64 key, .int .i64 was, .int .i64 value]
  keys : Own wr (w.heap.size + 1) va ks
  vals : Own wr (w.heap.size + 1) vb vs
  sep : Sep va vb

theorem own_blk {wr : World} {base g : Nat} {v : Value} {xs : List Int} {t : TypeId} {cs : Array Value} (h : Own wr base v xs) (hb : Blk wr g t cs) (hne : (3 : TypeId) ≠ t) : some g ≠ v.ownBlock := by
  rcases h.2 with ⟨rfl, _⟩ | ⟨g', cap, cur, rfl, _, hh, _⟩
  · simp [Value.ownBlock]
  · intro he
    have : g = g' := by simpa [Value.ownBlock] using he
    subst this
    unfold Blk at hb
    rw [hh] at hb
    injection hb with hb
    injection hb with _ ht
    exact hne ht

section
variable {w : World} {sb : Nat} {key was value K R : Int} {ks vs : List Int} {va vb : Value} {wr : World}

theorem StW.alloc (h : StW w sb key was value K R ks vs va vb wr) (o : Obj) : StW w sb key was value K R ks vs va vb (wr.alloc o) :=
  ⟨h.below.alloc h.below.size _, h.use.alloc _, h.past, h.size.alloc _, h.keys.alloc _, h.vals.alloc _, h.sep⟩
theorem StW.call (h : StW w sb key was value K R ks vs va vb wr) {w' : World} (hb : Below wr.heap.size wr w') : StW w sb key was value K R ks vs va vb w' :=
  ⟨h.below.trans (hb.mono h.below.size), h.use.below hb h.use.lt, h.past, h.size.below hb h.size.lt, h.keys.below hb, h.vals.below hb, h.sep⟩
theorem StW.appA (h : StW w sb key was value K R ks vs va vb wr) (x : Int) {v' : Value} {w' : World} (hown : w'.ownsRow (w.heap.size + 1) 3 1 v' (ks.length + 1) (ks.map (Value.int .i64) ++ [.int .i64 x]))
    (hg : (wr.alloc (.cells #[.int .i64 x] 3)).grownBy w' va.ownBlock) {B : Nat} (hat : v'.ownBlock = va.ownBlock ∨ v'.ownBlock = some B) (hB : wr.heap.size + 1 = B) :
    StW w sb key was value K R (ks ++ [x]) vs v' vb w' := by
  have h1 := h.alloc (.cells #[.int .i64 x] 3)
  refine ⟨h1.below.grown hg h1.below.size (fun k hk => by have := World.ownsRow.lt h1.keys k hk; omega), h1.use.grown hg (own_blk h1.keys h1.use (by decide)), h.past, h1.size.grown hg (own_blk h1.keys h1.size (by decide)), ?_, h1.vals.kept hg h.sep.symm, sep_after h.sep h1.vals (by subst hB; simpa using hat)⟩
  unfold Own
  simpa using hown
theorem StW.appB (h : StW w sb key was value K R ks vs va vb wr) (x : Int) {v' : Value} {w' : World} (hown : w'.ownsRow (w.heap.size + 1) 3 1 v' (vs.length + 1) (vs.map (Value.int .i64) ++ [.int .i64 x]))
    (hg : (wr.alloc (.cells #[.int .i64 x] 3)).grownBy w' vb.ownBlock) {B : Nat} (hat : v'.ownBlock = vb.ownBlock ∨ v'.ownBlock = some B) (hB : wr.heap.size + 1 = B) :
    StW w sb key was value K R ks (vs ++ [x]) va v' w' := by
  have h1 := h.alloc (.cells #[.int .i64 x] 3)
  refine ⟨h1.below.grown hg h1.below.size (fun k hk => by have := World.ownsRow.lt h1.vals k hk; omega), h1.use.grown hg (own_blk h1.vals h1.use (by decide)), h.past, h1.size.grown hg (own_blk h1.vals h1.size (by decide)), h1.keys.kept hg h.sep, ?_, (sep_after h.sep.symm h1.keys (by subst hB; simpa using hat)).symm⟩
  unfold Own
  simpa using hown
theorem OneW.start (h : OneW w ks vs va vb wr) (key was value : Int) : StW w wr.heap.size key was value ks.length (sumW ks + sumW vs) ks vs va vb (wr.alloc (.cells #[.int .i64 key, .int .i64 was, .int .i64 value] 33)) := by
  obtain ⟨h1, h2, h3, h4, h5⟩ := h
  exact ⟨h1.alloc h1.size _, h2.alloc _, h2.lt, Blk.new _ _ _, h3.alloc _, h4.alloc _, h5⟩
/-- The three cells of the use, and of the sizes. -/
theorem StW.cells (h : StW w sb key was value K R ks vs va vb wr) :
    (wr.cell? ⟨w.heap.size, 0, none⟩ = some (.int .i64 K) ∧ wr.cell? ⟨w.heap.size, 1, none⟩ = some (.int .i64 R) ∧ wr.cell? ⟨w.heap.size, 2, none⟩ = some (.int .i64 0)) ∧
    (wr.cell? ⟨sb, 0, none⟩ = some (.int .i64 key) ∧ wr.cell? ⟨sb, 1, none⟩ = some (.int .i64 was) ∧ wr.cell? ⟨sb, 2, none⟩ = some (.int .i64 value)) ∧ w.heap.size < wr.heap.size ∧ sb < wr.heap.size := by
  refine ⟨⟨?_, ?_, ?_⟩, ⟨?_, ?_, ?_⟩, h.use.lt, h.size.lt⟩
  · simpa using h.use.cell 0
  · simpa using h.use.cell 1
  · simpa using h.use.cell 2
  · simpa using h.size.cell 0
  · simpa using h.size.cell 1
  · simpa using h.size.cell 2
end

/-- The three cells of the use are stored anew. -/
theorem set3 {w wr : World} {x y z : Value} (hb : Below w.heap.size w wr) (hu : Blk wr w.heap.size 27 #[x, y, z]) (a b c : Value) :
    Below w.heap.size w (((wr.setCell ⟨w.heap.size, 0, none⟩ a).setCell ⟨w.heap.size, 1, none⟩ b).setCell ⟨w.heap.size, 2, none⟩ c) ∧
    Blk (((wr.setCell ⟨w.heap.size, 0, none⟩ a).setCell ⟨w.heap.size, 1, none⟩ b).setCell ⟨w.heap.size, 2, none⟩ c) w.heap.size 27 #[a, b, c] := by
  refine ⟨((hb.setCell (Nat.le_refl _) _).setCell (Nat.le_refl _) _).setCell (Nat.le_refl _) _, ?_⟩
  have := ((hu.set_ 0 a).set_ 1 b).set_ 2 c
  simpa using this
theorem StW.finish {w : World} {sb : Nat} {key was value K R : Int} {ks vs : List Int} {va vb : Value} {wr : World} (h : StW w sb key was value K R ks vs va vb wr) {K' R' : Int} (hK : K' = ks.length) (hR : R' = sumW ks + sumW vs) :
    OneW w ks vs va vb (((wr.setCell ⟨w.heap.size, 0, none⟩ (.int .i64 K')).setCell ⟨w.heap.size, 1, none⟩ (.int .i64 R')).setCell ⟨w.heap.size, 2, none⟩ (.int .i64 0)) := by
  subst hK hR
  obtain ⟨h1, h2⟩ := set3 h.below h.use (.int .i64 ks.length) (.int .i64 (sumW ks + sumW vs)) (.int .i64 0)
  exact ⟨h1, h2, ((h.keys.far (by simp) _).far (by simp) _).far (by simp) _, ((h.vals.far (by simp) _).far (by simp) _).far (by simp) _, h.sep⟩
theorem Own.at' {wr : World} {base n : Nat} {v : Value} {xs : List Int} (h : Own wr base v xs) (hn : xs.length = n) (h0 : 0 < n) :
    ∃ g cap, v = .slice (some ⟨g, 0, none⟩) n cap ∧ n ≤ cap ∧ IntsAt wr g 0 xs := by
  subst hn; exact h.at h0
theorem use3 {wr : World} {g : Nat} {x y z : Value} (h : Blk wr g 27 #[x, y, z]) : (wr.cell? ⟨g, 0, none⟩ = some x ∧ wr.cell? ⟨g, 1, none⟩ = some y ∧ wr.cell? ⟨g, 2, none⟩ = some z) ∧ (wr.frozen? ⟨g, 0, none⟩ = false ∧ wr.frozen? ⟨g, 1, none⟩ = false ∧ wr.frozen? ⟨g, 2, none⟩ = false) ∧ g < wr.heap.size := by
  refine ⟨⟨?_, ?_, ?_⟩, ⟨h.frozen 0, h.frozen 1, h.frozen 2⟩, h.lt⟩
  · simpa using h.cell 0
  · simpa using h.cell 1
  · simpa using h.cell 2
end Go.Proofs.Ytlemjdkefojoeaa

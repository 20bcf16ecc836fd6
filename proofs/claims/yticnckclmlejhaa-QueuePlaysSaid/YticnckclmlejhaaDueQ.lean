/-
  Due of a queue that stands for a list.
-/
import Derived.Test.YticnckclmlejhaaDue
import Derived.Deep.Onto
namespace Go.Proofs.Yticnckclmlejhaa
open Go.RowKit Go.ChangeMaps Hp

def duep (t : Int) (e : Ent) : Bool := decide (e.tk ≤ t)
theorem tw_eq {t : Int} : ∀ {T R S : List Ent}, T ++ R = S → (∀ x ∈ T, x.tk ≤ t) → (∀ x, R.head? = some x → ¬ x.tk ≤ t) → T = S.takeWhile (duep t) ∧ R = S.dropWhile (duep t)
  | [], R, S, h, _, h3 => by
    simp at h; subst h
    cases R with
    | nil => simp
    | cons x R =>
      have := h3 x rfl
      simp [duep, this]
  | x :: T, R, S, h, h2, h3 => by
    subst h
    have hx := h2 x List.mem_cons_self
    have ih := tw_eq (T := T) (R := R) rfl (fun y hy => h2 y (List.mem_cons_of_mem _ hy)) h3
    have hd : duep t x = true := by simp [duep, hx]
    simp only [List.cons_append, List.takeWhile_cons, List.dropWhile_cons, hd, if_true]
    exact ⟨by rw [← ih.1], ih.2⟩

def DueP (w : World) (q : Nat) (B : Nat → Prop) (S : List Ent) (t : Int) (r : Ending) (w' : World) : Prop :=
  ∃ o B', r = .returned o ∧ Que w' q B' (S.dropWhile (duep t)) ∧ Chg B B' w w' ∧ w'.ownsRow w.heap.size 28 2 o (S.takeWhile (duep t)).length (flat (S.takeWhile (duep t))) ∧ ∀ g, o.ownBlock = some g → ¬ B' g

theorem due_of_while {w w0 w1 : World} {q : Nat} {B : Nat → Prop} {S : List Ent} {t : Int} {r : Ending} (hb : Below w.heap.size w w0) (h : WhileP w0 q B S t r w1) : ∃ o, r = .returned o ∧ DueP w q B S t (.returned o) w1 := by
  obtain ⟨T, R, o, B', rfl, a1, a2, a3, a4, a5, a6, a7⟩ := h
  obtain ⟨e1, e2⟩ := tw_eq a1 a2 a3
  rw [e2] at a4
  rw [e1] at a6
  exact ⟨o, rfl, o, B', rfl, a4, (Chg.of_below B hb).trans a5, a6.mono hb.size, a7⟩
theorem due_que {w : World} {q : Nat} {B : Nat → Prop} {S : List Ent} (h : Que w q B S) (t : Int) (hb : S.length ≤ 999999) :
    Calls Try.prog 15 #[.pointer (some ⟨q, 0, none⟩), .int .u64 t] w (DueP w q B S t) := by
  have b1 : Below w.heap.size w (w.alloc (.cells #[.int .u64 t] 26)) := (Below.refl _ w).alloc (Nat.le_refl _) _
  have hn : (w.alloc (.cells #[.int .u64 t] 26)).cell? ⟨w.heap.size, 0, none⟩ = some (.int .u64 t) := by go_simp
  have D := Lib.hid ((while_que q w.heap.size B S t _ (h.below b1) hn (fun hk => by have := h.lt _ hk; omega) hb).mono fun r w1 hp => due_of_while b1 hp)
  clear h b1 hn
  go_enter Try.func15, Try.ntmps15
  go_wp2_with (go_at_call 29; (with_reducible refine D.out.mono ?_); rintro r w1 ⟨o, hr, hp⟩; subst hr; have HP := Lib.hid hp; clear hp)
  go_ret
  exact HP.out
end Go.Proofs.Yticnckclmlejhaa

/-
  An array of two ticks as a parameter: how it reads, and that it reads so in every world.
-/
import Derived.Test.YtebapkbaheifgaaRows
import Derived.WalkKit
import Derived.ProofKit
import Derived.OpenShut
import Derived.WideShapes
namespace Go.Proofs.Ytebapkbaheifgaa
open Go.ChangeShapes Go.WideShapes Go.ChangeAt Go.RowKit

theorem Try.cells22 : Try.prog.cellsOf 22 = 1 := by kernel_rfl
theorem Try.cells23 : Try.prog.cellsOf 23 = 2 := by kernel_rfl

theorem list2 {α : Type} {l : List α} (h : l.length = 2) : ∃ a b, l = [a, b] := by
  match l, h with
  | [a, b], _ => exact ⟨a, b, rfl⟩

theorem open_pair {H : Type} {enc : TypeId × Value → H} {W : World} {r : Reach} {b0 base : Nat} {sp : Nat → Bool} {held : Bool} {v : Value} {d : DataW H} {p : List MemPlace}
    (hv : Value.okWide Try.prog W r b0 23 v) (h : DataW.Trod enc Try.prog W base sp held 23 v d p) :
    ∃ x y : Int, v = .agg #[.int .u64 x, .int .u64 y] ∧ d = .agg [.lit (.int .u64 x), .lit (.int .u64 y)] ∧ p = [] ∧ (Lit.int .u64 x).wf = true ∧ (Lit.int .u64 y).wf = true := by
  simp only [Value.okWide, Try.underlying23] at hv
  obtain ⟨cs, rfl, hsz, _⟩ := hv
  rw [Try.cells23] at hsz
  obtain ⟨l⟩ := cs
  obtain ⟨c0, c1, rfl⟩ := list2 (l := l) (by simpa using hsz)
  obtain ⟨fuel, hf⟩ := h
  obtain ⟨xs, m, rfl, hx, hl, hlen, hall⟩ := DataW.trod_array Try.underlying23 hf
  obtain ⟨y0, y1, rfl⟩ := list2 hlen
  have h0 := hall 0 (by omega)
  have h1 := hall 1 (by omega)
  simp [Try.cells22, Value.cells] at h0 h1
  obtain ⟨x, e0, rfl, wx⟩ := DataW.trod_int Try.underlying22 h0
  obtain ⟨y, e1, rfl, wy⟩ := DataW.trod_int Try.underlying22 h1
  simp at e0 e1
  subst e0 e1
  simp at hx
  exact ⟨x, y, rfl, hx.1, hx.2, wx, wy⟩

theorem shut_pair {H : Type} {enc : TypeId × Value → H} {W : World} {base : Nat} {sp : Nat → Bool} {held : Bool} {x y : Int} (wx : (Lit.int .u64 x).wf = true) (wy : (Lit.int .u64 y).wf = true) :
    DataW.Trod enc Try.prog W base sp held 23 (.agg #[.int .u64 x, .int .u64 y]) (.agg [.lit (.int .u64 x), .lit (.int .u64 y)]) [] := by
  refine ⟨2, ?_⟩
  have r2 : List.range 2 = [0, 1] := rfl
  simp [DataW.trod, Value.cells, Try.underlying23, Try.underlying22, Try.cells22, Try.cells23, r2, wx, wy]

end Go.Proofs.Ytebapkbaheifgaa

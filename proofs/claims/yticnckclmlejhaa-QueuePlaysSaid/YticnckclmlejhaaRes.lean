/-
  What a function hands back whose first result lies in a variable of its own: an entry.
-/
import Derived.Test.YticnckclmlejhaaHOps
namespace Go.Proofs.Yticnckclmlejhaa
open Go.RowKit Go.ChangeMaps Hp

theorem agg28 (w : World) : (isAgg 28).run Try.prog w = .ok true w := by kernel_rfl
theorem size28 (w : World) : (sizeOf 28).run Try.prog w = .ok 2 w := by kernel_rfl
theorem load_ent {w : World} {B : Nat} {a : ByteArray} {s : Int} (h0 : w.cell? ⟨B, 0, none⟩ = some (.string a)) (h1 : w.cell? ⟨B, 1, none⟩ = some (.int .u64 s)) :
    (loadVar 28 ⟨B, 0, none⟩).run Try.prog w = .ok (.agg #[.string a, .int .u64 s]) w := by
  have h := run_loadCells_list (P := Try.prog) w ⟨B, 0, none⟩ [.string a, .int .u64 s] (fun j v hv => by
    match j, hv with
    | 0, hv => simp at hv; subst hv; simpa [Addr.add] using h0
    | 1, hv => simp at hv; subst hv; simpa [Addr.add] using h1)
  have h' : (loadCells ⟨B, 0, none⟩ 2).run Try.prog w = .ok #[.string a, .int .u64 s] w := by simpa using h
  simp only [loadVar, Sem.run_bind, agg28, size28, Result.andThen, h', Sem.run_pure, if_true]
theorem results_ent {fn : Func} {c u : Tmp} (h : fn.results = #[.cell c 28, .tmp u]) {tmps : Array Value} {w : World} {B : Nat} {a : ByteArray} {s : Int} (hc : tmps.getD c undef = .pointer (some ⟨B, 0, none⟩))
    (h0 : w.cell? ⟨B, 0, none⟩ = some (.string a)) (h1 : w.cell? ⟨B, 1, none⟩ = some (.int .u64 s)) :
    (results fn tmps).run Try.prog w = .ok (.tuple #[.agg #[.string a, .int .u64 s], tmps.getD u undef]) w := by
  have hl := load_ent h0 h1
  have hc' : tmps[c]?.getD undef = .pointer (some ⟨B, 0, none⟩) := by simpa using hc
  simp [results, h, hc', asAddr, hl, Result.andThen]
theorem results_ent1 {fn : Func} {c : Tmp} (h : fn.results = #[.cell c 28]) {tmps : Array Value} {w : World} {B : Nat} {a : ByteArray} {s : Int} (hc : tmps.getD c undef = .pointer (some ⟨B, 0, none⟩))
    (h0 : w.cell? ⟨B, 0, none⟩ = some (.string a)) (h1 : w.cell? ⟨B, 1, none⟩ = some (.int .u64 s)) :
    (results fn tmps).run Try.prog w = .ok (.agg #[.string a, .int .u64 s]) w := by
  have hl := load_ent h0 h1
  have hc' : tmps[c]?.getD undef = .pointer (some ⟨B, 0, none⟩) := by simpa using hc
  simp [results, h, hc', asAddr, hl]
end Go.Proofs.Yticnckclmlejhaa

/- That a struct of one int is a key that the laws on maps take: facts on the types of this program's maps. -/
import Derived.Test.YtfmkpkmhhlakoaaProg
import Derived.Test.YtfmkpkmhhlakoaaMaps
import Derived.WideKeyArgs
import Derived.DeepKeys4
import Derived.KernelRfl
set_option linter.unusedVariables false
set_option linter.unusedSimpArgs false
namespace Go.Proofs.Ytfmkpkmhhlakoaa
open Go.WideMaps Go.Maps

theorem laidOut : laidOutB Try.prog = true := by kernel_rfl
def kv (x : Int) : Value := .agg #[.int .i64 x]
theorem kv_inj (x y : Int) (h : kv x = kv y) : x = y := by
  unfold kv at h
  simpa using h

theorem keyLits_one {P : Program} {k e : TypeId} {f : Field} (hk : P.underlying k = some (.struct #[f])) (hf : f.type = e) (ho : f.offset = 0) (he : P.underlying e = some (.int .i64)) (hn : (f.name != "_") = true)
    (hc : P.cellsOf k = 1) (hce : P.cellsOf e = 1) (hsz : ∃ m, P.types.size = m + 1) (x : Int) (hw : (Lit.int .i64 x).wf = true) : ∃ l, P.keyLits (P.types.size + 1) k [.int .i64 x] = some l := by
  obtain ⟨m, hm⟩ := hsz
  rw [hm]
  simp [Program.keyLits, hk, hc, hn, hf, ho, hce, he, hw]

theorem keyOf_one {P : Program} {k e : TypeId} {f : Field} (hk : P.underlying k = some (.struct #[f])) (hf : f.type = e) (ho : f.offset = 0) (he : P.underlying e = some (.int .i64)) (hn : (f.name != "_") = true)
    (hc : P.cellsOf k = 1) (hce : P.cellsOf e = 1) (hsz : ∃ m, P.types.size = m + 1) (hkt : P.keyType k = true) (x : Int) (hw : (Lit.int .i64 x).wf = true) : ∃ l, keyOf P k (kv x) = some l := by
  obtain ⟨l, hl⟩ := keyLits_one hk hf ho he hn hc hce hsz x hw
  refine ⟨.string (keyBytes l), ?_⟩
  simp [keyOf, hk, hkt, kv, Value.formed, hc, Value.cells, hl]

theorem size_types : ∃ m, Try.prog.types.size = m + 1 := ⟨Try.prog.types.size - 1, by have : 0 < Try.prog.types.size := of_decide_eq_true (by kernel_rfl); omega⟩

theorem key_number : Mx.KeyFn Try.prog 101 kv := ⟨Keyed.of_law (deep_law_laid laidOut (m := 2) (by omega) (of_decide_eq_true (by kernel_rfl)) (by kernel_rfl) (by kernel_rfl)), keyOf_one Try.underlying101 rfl rfl Try.underlying3 (by kernel_rfl) (by kernel_rfl) (by kernel_rfl) size_types (by kernel_rfl), kv_inj⟩
theorem key_place : Mx.KeyFn Try.prog 117 kv := ⟨Keyed.of_law (deep_law_laid laidOut (m := 2) (by omega) (of_decide_eq_true (by kernel_rfl)) (by kernel_rfl) (by kernel_rfl)), keyOf_one Try.underlying117 rfl rfl Try.underlying3 (by kernel_rfl) (by kernel_rfl) (by kernel_rfl) size_types (by kernel_rfl), kv_inj⟩
end Go.Proofs.Ytfmkpkmhhlakoaa

/- Rooms held against each other. -/
import Derived.Test.YtfmkpkmhhlakoaaSk23
set_option linter.unusedVariables false
set_option linter.unusedSimpArgs false
namespace Go.Proofs.Ytfmkpkmhhlakoaa.Sx
open Go

attribute [local simp ↓] ifb_true' ifb_false'
attribute [local simp] ifb_true ifb_false ifb_eq sx argsT find ev evOp evs evo evBin evInt evStr evNil evNilA ptrA slcA isNoneA asB evLoad look del cellsB evUn evConv kdec fld evFieldA evField evIdxA evIdx evSlc bndL bndH evLen mmi put resV guardV gvL setO tupV cellsOf ones one upd lits nv exitTo SV.val CV.val TI.agg rdyA allR keepB scan simpO gsp isS subs keepT pickT wr memN pubs Res.fact Region.binds bld rest give delL back Res.eqv vi vb num Sv.val undef
abbrev rmT : Nat := 93
/-- Two rooms are held against each other. -/
theorem room_eq (x y : Operand) (a b c a' b' c' : Int) (w : World) : (do eqGuard .eql rmT x y (.agg #[.int .i64 a, .int .i64 b, .int .i64 c]) (.agg #[.int .i64 a', .int .i64 b', .int .i64 c']); binOp .eql rmT (.agg #[.int .i64 a, .int .i64 b, .int .i64 c]) (.agg #[.int .i64 a', .int .i64 b', .int .i64 c']) : Sem Value).run Try.prog w = .ok (.bool (decide (a = a' ∧ b = b' ∧ c = c'))) w := by
  have hp : Try.prog.stoodInHeld rmT = false := by kernel_rfl
  have hm : Try.prog.eqGuardType Try.prog.depth rmT = false := by kernel_rfl
  have ht : Try.prog.underlying rmT = some (.struct (Try.prog.fieldsOf rmT)) := by kernel_rfl
  have hi : Try.prog.underlying 3 = some (.int .i64) := Try.underlying3
  simp only [Sem.run_bind, run_eqGuard_agg w .eql rmT x y _ _ hm, Result.andThen_ok, run_eql_struct, run_equalIn_agg w 9999 rmT _ _ ht hp]
  simp only [Program.fieldsOf, Try.underlying93]
  simp [Op.eqFields, part, isAgg, underlying, hi, run_equalIn_int]
  by_cases h1 : a = a' <;> by_cases h2 : b = b' <;> by_cases h3 : c = c' <;> simp [h1, h2, h3]
end Go.Proofs.Ytfmkpkmhhlakoaa.Sx

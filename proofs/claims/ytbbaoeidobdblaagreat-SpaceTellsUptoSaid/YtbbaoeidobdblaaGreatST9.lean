/- Laid together: Sg16, Sg17, Sg18, Sg19, Sg20, Sg21. -/
import Derived.Test.YtbbaoeidobdblaaGreatST8
/- garretplay: deeds of one op, Small. -/
set_option linter.unusedVariables false
set_option linter.unusedSimpArgs false
namespace Go.Proofs.YtbbaoeidobdblaaGreat.Sx
open Go
attribute [local simp ↓] ifb_true' ifb_false'
attribute [local simp] ifb_true ifb_false ifb_eq sx argsT find ev evOp evs evo evBin evInt evStr evNil evNilA ptrA slcA isNoneA asB evLoad look del cellsB evUn evConv kdec fld evFieldA evField evIdxA evIdx evSlc bndL bndH evLen mmi put resV guardV gvL setO tupV cellsOf ones one upd lits nv exitTo SV.val CV.val TI.agg rdyA allR keepB scan simpO gsp isS subs keepT pickT wr memN pubs Res.fact Region.binds bld rest give delL back Res.eqv vi vb num Sv.val undef
structure Opg where
  kind : Int
  path : ByteArray
  other : ByteArray
  n : Int
abbrev opgC (o : Opg) : List Value := [.int .i64 o.kind, .string o.path, .string o.other, .int .i64 o.n]
def dOpg : Dt Opg := flat 4 opgC (fun _ => rfl) (fun x u hu => by simp at hu; rcases hu with rfl | rfl | rfl | rfl <;> rfl)
set_option maxRecDepth 100000 in
set_option maxHeartbeats 4000000 in
theorem deedsOf0 (w : World) (I : Nat → Prop) (hI : ∀ b, I b → b < w.heap.size) (s : Sta) (si sb : Sl) (o : Opg) (h : ∀ W, Ext I w W → StaR W s si sb) (hl : s.inos.length ≤ 1000) (hok : ∀ x, x ∈ s.inos → InoOk x) (ho : o.other.size ≤ 1000000) :
    Fn0 Tryz.prog 85 #[.agg (staC s si sb).toArray, .agg (opgC o).toArray, .slice none 0 0] w I (fun y : Sl × List Dee => .slice y.1.1 y.2.length y.1.2) (fun y W => Sl.ok dDee W y.1 y.2 ∧ DeedsOk s y.2) := by
  refine enter (svs := [.ag ((staC s si sb).map .v), .ag ((opgC o).map .v), .c (.v (.slice none 0 0))]) tysOk Tryz.func85 rfl Tryz.ntmps85 Tryz.results85 (by kernel_rfl) (by simp) hI (fun W => StaR W s si sb) h fun C hC hN ok => ?_
  obtain ⟨ia, ic⟩ := si
  obtain ⟨ba, bc⟩ := sb
  have hemp : emp.size ≤ 1000000 := by decide
  simp [hN]
  intro g3 g4
  refine call0 ok rfl rfl rfl (fun w I hI hG => mod0 w I hI o.kind 8 (by decide) (by decide)) fun v W _ => ?_
  by_cases k0 : v = 0
  · simp (maxSteps := 2000000) -implicitDefEqProofs [hN, k0]
    refine call0 ok rfl rfl rfl (fun w I hI hG => make0 w I hI s (ia, ic) (ba, bc) o.path 1 emp (fun W e => ((by first | exact (hG W e) | exact (hG W e).1 | exact (hG W e).1.1 | exact (hG W e).1.2 | exact (hG W e).1.2.1 | exact (hG W e).1.2.2.1 | exact (hG W e).1.2.2.2.1 | exact (hG W e).1.2.2.2 | exact (hG W e).2 | exact (hG W e).2.1 | exact (hG W e).2.1.1 | exact (hG W e).2.1.2 | exact (hG W e).2.1.2.1 | exact (hG W e).2.1.2.2.1 | exact (hG W e).2.1.2.2.2.1 | exact (hG W e).2.1.2.2.2 | exact (hG W e).2.2 | exact (hG W e).2.2.1 | exact (hG W e).2.2.1.1 | exact (hG W e).2.2.1.2 | exact (hG W e).2.2.1.2.1 | exact (hG W e).2.2.1.2.2.1 | exact (hG W e).2.2.1.2.2.2.1 | exact (hG W e).2.2.1.2.2.2 | exact (hG W e).2.2.2 | exact (hG W e).2.2.2.1 | exact (hG W e).2.2.2.1.1 | exact (hG W e).2.2.2.1.2 | exact (hG W e).2.2.2.1.2.1 | exact (hG W e).2.2.2.1.2.2.1 | exact (hG W e).2.2.2.1.2.2.2.1 | exact (hG W e).2.2.2.1.2.2.2 | exact (hG W e).2.2.2.2 | exact (hG W e).2.2.2.2.1 | exact (hG W e).2.2.2.2.1.1 | exact (hG W e).2.2.2.2.1.2 | exact (hG W e).2.2.2.2.1.2.1 | exact (hG W e).2.2.2.2.1.2.2.1 | exact (hG W e).2.2.2.2.1.2.2.2.1 | exact (hG W e).2.2.2.2.1.2.2.2 | exact (hG W e).2.2.2.2.2 | exact (hG W e).2.2.2.2.2.1 | exact (hG W e).2.2.2.2.2.1.1 | exact (hG W e).2.2.2.2.2.1.2 | exact (hG W e).2.2.2.2.2.1.2.1 | exact (hG W e).2.2.2.2.2.1.2.2.1 | exact (hG W e).2.2.2.2.2.1.2.2.2.1 | exact (hG W e).2.2.2.2.2.1.2.2.2 | exact (hG W e).2.2.2.2.2.2 | exact (hG W e).2.2.2.2.2.2.1 | exact (hG W e).2.2.2.2.2.2.1.1 | exact (hG W e).2.2.2.2.2.2.1.2 | exact (hG W e).2.2.2.2.2.2.1.2.1 | exact (hG W e).2.2.2.2.2.2.1.2.2.1 | exact (hG W e).2.2.2.2.2.2.1.2.2.2.1 | exact (hG W e).2.2.2.2.2.2.1.2.2.2 | exact (hG W e).2.2.2.2.2.2.2 | exact (hG W e).2.2.2.2.2.2.2.1 | exact (hG W e).2.2.2.2.2.2.2.1.1 | exact (hG W e).2.2.2.2.2.2.2.1.2 | exact (hG W e).2.2.2.2.2.2.2.1.2.1 | exact (hG W e).2.2.2.2.2.2.2.1.2.2.1 | exact (hG W e).2.2.2.2.2.2.2.1.2.2.2.1 | exact (hG W e).2.2.2.2.2.2.2.1.2.2.2 | exact (hG W e).2.2.2.2.2.2.2.2 | exact (hG W e).2.2.2.2.2.2.2.2.1 | exact (hG W e).2.2.2.2.2.2.2.2.1.1 | exact (hG W e).2.2.2.2.2.2.2.2.1.2 | exact (hG W e).2.2.2.2.2.2.2.2.1.2.1 | exact (hG W e).2.2.2.2.2.2.2.2.1.2.2.1 | exact (hG W e).2.2.2.2.2.2.2.2.1.2.2.2.1 | exact (hG W e).2.2.2.2.2.2.2.2.1.2.2.2 | exact (hG W e).2.2.2.2.2.2.2.2.2) : StaR W s (ia, ic) (ba, bc))) hl hok hemp) fun y W _ => ?_
    obtain ⟨⟨da, dc⟩, l, no, e⟩ := y
    simp (maxSteps := 2000000) -implicitDefEqProofs [hN, k0]
    exact ret0 hC ((da, dc), l) rfl fun W _ hG => hG.1
  by_cases k1 : v = 1
  · simp (maxSteps := 2000000) -implicitDefEqProofs [hN, k1]
    refine call0 ok rfl rfl rfl (fun w I hI hG => make0 w I hI s (ia, ic) (ba, bc) o.path 2 emp (fun W e => ((by first | exact (hG W e) | exact (hG W e).1 | exact (hG W e).1.1 | exact (hG W e).1.2 | exact (hG W e).1.2.1 | exact (hG W e).1.2.2.1 | exact (hG W e).1.2.2.2.1 | exact (hG W e).1.2.2.2 | exact (hG W e).2 | exact (hG W e).2.1 | exact (hG W e).2.1.1 | exact (hG W e).2.1.2 | exact (hG W e).2.1.2.1 | exact (hG W e).2.1.2.2.1 | exact (hG W e).2.1.2.2.2.1 | exact (hG W e).2.1.2.2.2 | exact (hG W e).2.2 | exact (hG W e).2.2.1 | exact (hG W e).2.2.1.1 | exact (hG W e).2.2.1.2 | exact (hG W e).2.2.1.2.1 | exact (hG W e).2.2.1.2.2.1 | exact (hG W e).2.2.1.2.2.2.1 | exact (hG W e).2.2.1.2.2.2 | exact (hG W e).2.2.2 | exact (hG W e).2.2.2.1 | exact (hG W e).2.2.2.1.1 | exact (hG W e).2.2.2.1.2 | exact (hG W e).2.2.2.1.2.1 | exact (hG W e).2.2.2.1.2.2.1 | exact (hG W e).2.2.2.1.2.2.2.1 | exact (hG W e).2.2.2.1.2.2.2 | exact (hG W e).2.2.2.2 | exact (hG W e).2.2.2.2.1 | exact (hG W e).2.2.2.2.1.1 | exact (hG W e).2.2.2.2.1.2 | exact (hG W e).2.2.2.2.1.2.1 | exact (hG W e).2.2.2.2.1.2.2.1 | exact (hG W e).2.2.2.2.1.2.2.2.1 | exact (hG W e).2.2.2.2.1.2.2.2 | exact (hG W e).2.2.2.2.2 | exact (hG W e).2.2.2.2.2.1 | exact (hG W e).2.2.2.2.2.1.1 | exact (hG W e).2.2.2.2.2.1.2 | exact (hG W e).2.2.2.2.2.1.2.1 | exact (hG W e).2.2.2.2.2.1.2.2.1 | exact (hG W e).2.2.2.2.2.1.2.2.2.1 | exact (hG W e).2.2.2.2.2.1.2.2.2 | exact (hG W e).2.2.2.2.2.2 | exact (hG W e).2.2.2.2.2.2.1 | exact (hG W e).2.2.2.2.2.2.1.1 | exact (hG W e).2.2.2.2.2.2.1.2 | exact (hG W e).2.2.2.2.2.2.1.2.1 | exact (hG W e).2.2.2.2.2.2.1.2.2.1 | exact (hG W e).2.2.2.2.2.2.1.2.2.2.1 | exact (hG W e).2.2.2.2.2.2.1.2.2.2 | exact (hG W e).2.2.2.2.2.2.2 | exact (hG W e).2.2.2.2.2.2.2.1 | exact (hG W e).2.2.2.2.2.2.2.1.1 | exact (hG W e).2.2.2.2.2.2.2.1.2 | exact (hG W e).2.2.2.2.2.2.2.1.2.1 | exact (hG W e).2.2.2.2.2.2.2.1.2.2.1 | exact (hG W e).2.2.2.2.2.2.2.1.2.2.2.1 | exact (hG W e).2.2.2.2.2.2.2.1.2.2.2 | exact (hG W e).2.2.2.2.2.2.2.2 | exact (hG W e).2.2.2.2.2.2.2.2.1 | exact (hG W e).2.2.2.2.2.2.2.2.1.1 | exact (hG W e).2.2.2.2.2.2.2.2.1.2 | exact (hG W e).2.2.2.2.2.2.2.2.1.2.1 | exact (hG W e).2.2.2.2.2.2.2.2.1.2.2.1 | exact (hG W e).2.2.2.2.2.2.2.2.1.2.2.2.1 | exact (hG W e).2.2.2.2.2.2.2.2.1.2.2.2 | exact (hG W e).2.2.2.2.2.2.2.2.2) : StaR W s (ia, ic) (ba, bc))) hl hok hemp) fun y W _ => ?_
    obtain ⟨⟨da, dc⟩, l, no, e⟩ := y
    simp (maxSteps := 2000000) -implicitDefEqProofs [hN, k1]
    exact ret0 hC ((da, dc), l) rfl fun W _ hG => hG.1
  by_cases k2 : v = 2
  · simp (maxSteps := 2000000) -implicitDefEqProofs [hN, k2]
    refine call0 ok rfl rfl rfl (fun w I hI hG => make0 w I hI s (ia, ic) (ba, bc) o.path 3 o.other (fun W e => ((by first | exact (hG W e) | exact (hG W e).1 | exact (hG W e).1.1 | exact (hG W e).1.2 | exact (hG W e).1.2.1 | exact (hG W e).1.2.2.1 | exact (hG W e).1.2.2.2.1 | exact (hG W e).1.2.2.2 | exact (hG W e).2 | exact (hG W e).2.1 | exact (hG W e).2.1.1 | exact (hG W e).2.1.2 | exact (hG W e).2.1.2.1 | exact (hG W e).2.1.2.2.1 | exact (hG W e).2.1.2.2.2.1 | exact (hG W e).2.1.2.2.2 | exact (hG W e).2.2 | exact (hG W e).2.2.1 | exact (hG W e).2.2.1.1 | exact (hG W e).2.2.1.2 | exact (hG W e).2.2.1.2.1 | exact (hG W e).2.2.1.2.2.1 | exact (hG W e).2.2.1.2.2.2.1 | exact (hG W e).2.2.1.2.2.2 | exact (hG W e).2.2.2 | exact (hG W e).2.2.2.1 | exact (hG W e).2.2.2.1.1 | exact (hG W e).2.2.2.1.2 | exact (hG W e).2.2.2.1.2.1 | exact (hG W e).2.2.2.1.2.2.1 | exact (hG W e).2.2.2.1.2.2.2.1 | exact (hG W e).2.2.2.1.2.2.2 | exact (hG W e).2.2.2.2 | exact (hG W e).2.2.2.2.1 | exact (hG W e).2.2.2.2.1.1 | exact (hG W e).2.2.2.2.1.2 | exact (hG W e).2.2.2.2.1.2.1 | exact (hG W e).2.2.2.2.1.2.2.1 | exact (hG W e).2.2.2.2.1.2.2.2.1 | exact (hG W e).2.2.2.2.1.2.2.2 | exact (hG W e).2.2.2.2.2 | exact (hG W e).2.2.2.2.2.1 | exact (hG W e).2.2.2.2.2.1.1 | exact (hG W e).2.2.2.2.2.1.2 | exact (hG W e).2.2.2.2.2.1.2.1 | exact (hG W e).2.2.2.2.2.1.2.2.1 | exact (hG W e).2.2.2.2.2.1.2.2.2.1 | exact (hG W e).2.2.2.2.2.1.2.2.2 | exact (hG W e).2.2.2.2.2.2 | exact (hG W e).2.2.2.2.2.2.1 | exact (hG W e).2.2.2.2.2.2.1.1 | exact (hG W e).2.2.2.2.2.2.1.2 | exact (hG W e).2.2.2.2.2.2.1.2.1 | exact (hG W e).2.2.2.2.2.2.1.2.2.1 | exact (hG W e).2.2.2.2.2.2.1.2.2.2.1 | exact (hG W e).2.2.2.2.2.2.1.2.2.2 | exact (hG W e).2.2.2.2.2.2.2 | exact (hG W e).2.2.2.2.2.2.2.1 | exact (hG W e).2.2.2.2.2.2.2.1.1 | exact (hG W e).2.2.2.2.2.2.2.1.2 | exact (hG W e).2.2.2.2.2.2.2.1.2.1 | exact (hG W e).2.2.2.2.2.2.2.1.2.2.1 | exact (hG W e).2.2.2.2.2.2.2.1.2.2.2.1 | exact (hG W e).2.2.2.2.2.2.2.1.2.2.2 | exact (hG W e).2.2.2.2.2.2.2.2 | exact (hG W e).2.2.2.2.2.2.2.2.1 | exact (hG W e).2.2.2.2.2.2.2.2.1.1 | exact (hG W e).2.2.2.2.2.2.2.2.1.2 | exact (hG W e).2.2.2.2.2.2.2.2.1.2.1 | exact (hG W e).2.2.2.2.2.2.2.2.1.2.2.1 | exact (hG W e).2.2.2.2.2.2.2.2.1.2.2.2.1 | exact (hG W e).2.2.2.2.2.2.2.2.1.2.2.2 | exact (hG W e).2.2.2.2.2.2.2.2.2) : StaR W s (ia, ic) (ba, bc))) hl hok ho) fun y W _ => ?_
    obtain ⟨⟨da, dc⟩, l, no, e⟩ := y
    simp (maxSteps := 2000000) -implicitDefEqProofs [hN, k2]
    exact ret0 hC ((da, dc), l) rfl fun W _ hG => hG.1
  by_cases k3 : v = 3
  · simp (maxSteps := 2000000) -implicitDefEqProofs [hN, k3]
    refine call0 ok rfl rfl rfl (fun w I hI hG => hard0 w I hI s (ia, ic) (ba, bc) o.path o.other (fun W e => ((by first | exact (hG W e) | exact (hG W e).1 | exact (hG W e).1.1 | exact (hG W e).1.2 | exact (hG W e).1.2.1 | exact (hG W e).1.2.2.1 | exact (hG W e).1.2.2.2.1 | exact (hG W e).1.2.2.2 | exact (hG W e).2 | exact (hG W e).2.1 | exact (hG W e).2.1.1 | exact (hG W e).2.1.2 | exact (hG W e).2.1.2.1 | exact (hG W e).2.1.2.2.1 | exact (hG W e).2.1.2.2.2.1 | exact (hG W e).2.1.2.2.2 | exact (hG W e).2.2 | exact (hG W e).2.2.1 | exact (hG W e).2.2.1.1 | exact (hG W e).2.2.1.2 | exact (hG W e).2.2.1.2.1 | exact (hG W e).2.2.1.2.2.1 | exact (hG W e).2.2.1.2.2.2.1 | exact (hG W e).2.2.1.2.2.2 | exact (hG W e).2.2.2 | exact (hG W e).2.2.2.1 | exact (hG W e).2.2.2.1.1 | exact (hG W e).2.2.2.1.2 | exact (hG W e).2.2.2.1.2.1 | exact (hG W e).2.2.2.1.2.2.1 | exact (hG W e).2.2.2.1.2.2.2.1 | exact (hG W e).2.2.2.1.2.2.2 | exact (hG W e).2.2.2.2 | exact (hG W e).2.2.2.2.1 | exact (hG W e).2.2.2.2.1.1 | exact (hG W e).2.2.2.2.1.2 | exact (hG W e).2.2.2.2.1.2.1 | exact (hG W e).2.2.2.2.1.2.2.1 | exact (hG W e).2.2.2.2.1.2.2.2.1 | exact (hG W e).2.2.2.2.1.2.2.2 | exact (hG W e).2.2.2.2.2 | exact (hG W e).2.2.2.2.2.1 | exact (hG W e).2.2.2.2.2.1.1 | exact (hG W e).2.2.2.2.2.1.2 | exact (hG W e).2.2.2.2.2.1.2.1 | exact (hG W e).2.2.2.2.2.1.2.2.1 | exact (hG W e).2.2.2.2.2.1.2.2.2.1 | exact (hG W e).2.2.2.2.2.1.2.2.2 | exact (hG W e).2.2.2.2.2.2 | exact (hG W e).2.2.2.2.2.2.1 | exact (hG W e).2.2.2.2.2.2.1.1 | exact (hG W e).2.2.2.2.2.2.1.2 | exact (hG W e).2.2.2.2.2.2.1.2.1 | exact (hG W e).2.2.2.2.2.2.1.2.2.1 | exact (hG W e).2.2.2.2.2.2.1.2.2.2.1 | exact (hG W e).2.2.2.2.2.2.1.2.2.2 | exact (hG W e).2.2.2.2.2.2.2 | exact (hG W e).2.2.2.2.2.2.2.1 | exact (hG W e).2.2.2.2.2.2.2.1.1 | exact (hG W e).2.2.2.2.2.2.2.1.2 | exact (hG W e).2.2.2.2.2.2.2.1.2.1 | exact (hG W e).2.2.2.2.2.2.2.1.2.2.1 | exact (hG W e).2.2.2.2.2.2.2.1.2.2.2.1 | exact (hG W e).2.2.2.2.2.2.2.1.2.2.2 | exact (hG W e).2.2.2.2.2.2.2.2 | exact (hG W e).2.2.2.2.2.2.2.2.1 | exact (hG W e).2.2.2.2.2.2.2.2.1.1 | exact (hG W e).2.2.2.2.2.2.2.2.1.2 | exact (hG W e).2.2.2.2.2.2.2.2.1.2.1 | exact (hG W e).2.2.2.2.2.2.2.2.1.2.2.1 | exact (hG W e).2.2.2.2.2.2.2.2.1.2.2.2.1 | exact (hG W e).2.2.2.2.2.2.2.2.1.2.2.2 | exact (hG W e).2.2.2.2.2.2.2.2.2) : StaR W s (ia, ic) (ba, bc))) hl hok) fun y W _ => ?_
    obtain ⟨⟨da, dc⟩, l, e⟩ := y
    simp (maxSteps := 2000000) -implicitDefEqProofs [hN, k3]
    exact ret0 hC ((da, dc), l) rfl fun W _ hG => hG.1
  by_cases k4 : v = 4
  · simp (maxSteps := 2000000) -implicitDefEqProofs [hN, k4]
    refine call0 ok rfl rfl rfl (fun w I hI hG => rename0 w I hI s (ia, ic) (ba, bc) o.path o.other (fun W e => ((by first | exact (hG W e) | exact (hG W e).1 | exact (hG W e).1.1 | exact (hG W e).1.2 | exact (hG W e).1.2.1 | exact (hG W e).1.2.2.1 | exact (hG W e).1.2.2.2.1 | exact (hG W e).1.2.2.2 | exact (hG W e).2 | exact (hG W e).2.1 | exact (hG W e).2.1.1 | exact (hG W e).2.1.2 | exact (hG W e).2.1.2.1 | exact (hG W e).2.1.2.2.1 | exact (hG W e).2.1.2.2.2.1 | exact (hG W e).2.1.2.2.2 | exact (hG W e).2.2 | exact (hG W e).2.2.1 | exact (hG W e).2.2.1.1 | exact (hG W e).2.2.1.2 | exact (hG W e).2.2.1.2.1 | exact (hG W e).2.2.1.2.2.1 | exact (hG W e).2.2.1.2.2.2.1 | exact (hG W e).2.2.1.2.2.2 | exact (hG W e).2.2.2 | exact (hG W e).2.2.2.1 | exact (hG W e).2.2.2.1.1 | exact (hG W e).2.2.2.1.2 | exact (hG W e).2.2.2.1.2.1 | exact (hG W e).2.2.2.1.2.2.1 | exact (hG W e).2.2.2.1.2.2.2.1 | exact (hG W e).2.2.2.1.2.2.2 | exact (hG W e).2.2.2.2 | exact (hG W e).2.2.2.2.1 | exact (hG W e).2.2.2.2.1.1 | exact (hG W e).2.2.2.2.1.2 | exact (hG W e).2.2.2.2.1.2.1 | exact (hG W e).2.2.2.2.1.2.2.1 | exact (hG W e).2.2.2.2.1.2.2.2.1 | exact (hG W e).2.2.2.2.1.2.2.2 | exact (hG W e).2.2.2.2.2 | exact (hG W e).2.2.2.2.2.1 | exact (hG W e).2.2.2.2.2.1.1 | exact (hG W e).2.2.2.2.2.1.2 | exact (hG W e).2.2.2.2.2.1.2.1 | exact (hG W e).2.2.2.2.2.1.2.2.1 | exact (hG W e).2.2.2.2.2.1.2.2.2.1 | exact (hG W e).2.2.2.2.2.1.2.2.2 | exact (hG W e).2.2.2.2.2.2 | exact (hG W e).2.2.2.2.2.2.1 | exact (hG W e).2.2.2.2.2.2.1.1 | exact (hG W e).2.2.2.2.2.2.1.2 | exact (hG W e).2.2.2.2.2.2.1.2.1 | exact (hG W e).2.2.2.2.2.2.1.2.2.1 | exact (hG W e).2.2.2.2.2.2.1.2.2.2.1 | exact (hG W e).2.2.2.2.2.2.1.2.2.2 | exact (hG W e).2.2.2.2.2.2.2 | exact (hG W e).2.2.2.2.2.2.2.1 | exact (hG W e).2.2.2.2.2.2.2.1.1 | exact (hG W e).2.2.2.2.2.2.2.1.2 | exact (hG W e).2.2.2.2.2.2.2.1.2.1 | exact (hG W e).2.2.2.2.2.2.2.1.2.2.1 | exact (hG W e).2.2.2.2.2.2.2.1.2.2.2.1 | exact (hG W e).2.2.2.2.2.2.2.1.2.2.2 | exact (hG W e).2.2.2.2.2.2.2.2 | exact (hG W e).2.2.2.2.2.2.2.2.1 | exact (hG W e).2.2.2.2.2.2.2.2.1.1 | exact (hG W e).2.2.2.2.2.2.2.2.1.2 | exact (hG W e).2.2.2.2.2.2.2.2.1.2.1 | exact (hG W e).2.2.2.2.2.2.2.2.1.2.2.1 | exact (hG W e).2.2.2.2.2.2.2.2.1.2.2.2.1 | exact (hG W e).2.2.2.2.2.2.2.2.1.2.2.2 | exact (hG W e).2.2.2.2.2.2.2.2.2) : StaR W s (ia, ic) (ba, bc))) hl hok) fun y W _ => ?_
    obtain ⟨⟨da, dc⟩, l, e⟩ := y
    simp (maxSteps := 2000000) -implicitDefEqProofs [hN, k4]
    exact ret0 hC ((da, dc), l) rfl fun W _ hG => hG.1
  by_cases k5 : v = 5
  · simp (maxSteps := 2000000) -implicitDefEqProofs [hN, k5]
    refine call0 ok rfl rfl rfl (fun w I hI hG => unlink0 w I hI s (ia, ic) (ba, bc) o.path (fun W e => ((by first | exact (hG W e) | exact (hG W e).1 | exact (hG W e).1.1 | exact (hG W e).1.2 | exact (hG W e).1.2.1 | exact (hG W e).1.2.2.1 | exact (hG W e).1.2.2.2.1 | exact (hG W e).1.2.2.2 | exact (hG W e).2 | exact (hG W e).2.1 | exact (hG W e).2.1.1 | exact (hG W e).2.1.2 | exact (hG W e).2.1.2.1 | exact (hG W e).2.1.2.2.1 | exact (hG W e).2.1.2.2.2.1 | exact (hG W e).2.1.2.2.2 | exact (hG W e).2.2 | exact (hG W e).2.2.1 | exact (hG W e).2.2.1.1 | exact (hG W e).2.2.1.2 | exact (hG W e).2.2.1.2.1 | exact (hG W e).2.2.1.2.2.1 | exact (hG W e).2.2.1.2.2.2.1 | exact (hG W e).2.2.1.2.2.2 | exact (hG W e).2.2.2 | exact (hG W e).2.2.2.1 | exact (hG W e).2.2.2.1.1 | exact (hG W e).2.2.2.1.2 | exact (hG W e).2.2.2.1.2.1 | exact (hG W e).2.2.2.1.2.2.1 | exact (hG W e).2.2.2.1.2.2.2.1 | exact (hG W e).2.2.2.1.2.2.2 | exact (hG W e).2.2.2.2 | exact (hG W e).2.2.2.2.1 | exact (hG W e).2.2.2.2.1.1 | exact (hG W e).2.2.2.2.1.2 | exact (hG W e).2.2.2.2.1.2.1 | exact (hG W e).2.2.2.2.1.2.2.1 | exact (hG W e).2.2.2.2.1.2.2.2.1 | exact (hG W e).2.2.2.2.1.2.2.2 | exact (hG W e).2.2.2.2.2 | exact (hG W e).2.2.2.2.2.1 | exact (hG W e).2.2.2.2.2.1.1 | exact (hG W e).2.2.2.2.2.1.2 | exact (hG W e).2.2.2.2.2.1.2.1 | exact (hG W e).2.2.2.2.2.1.2.2.1 | exact (hG W e).2.2.2.2.2.1.2.2.2.1 | exact (hG W e).2.2.2.2.2.1.2.2.2 | exact (hG W e).2.2.2.2.2.2 | exact (hG W e).2.2.2.2.2.2.1 | exact (hG W e).2.2.2.2.2.2.1.1 | exact (hG W e).2.2.2.2.2.2.1.2 | exact (hG W e).2.2.2.2.2.2.1.2.1 | exact (hG W e).2.2.2.2.2.2.1.2.2.1 | exact (hG W e).2.2.2.2.2.2.1.2.2.2.1 | exact (hG W e).2.2.2.2.2.2.1.2.2.2 | exact (hG W e).2.2.2.2.2.2.2 | exact (hG W e).2.2.2.2.2.2.2.1 | exact (hG W e).2.2.2.2.2.2.2.1.1 | exact (hG W e).2.2.2.2.2.2.2.1.2 | exact (hG W e).2.2.2.2.2.2.2.1.2.1 | exact (hG W e).2.2.2.2.2.2.2.1.2.2.1 | exact (hG W e).2.2.2.2.2.2.2.1.2.2.2.1 | exact (hG W e).2.2.2.2.2.2.2.1.2.2.2 | exact (hG W e).2.2.2.2.2.2.2.2 | exact (hG W e).2.2.2.2.2.2.2.2.1 | exact (hG W e).2.2.2.2.2.2.2.2.1.1 | exact (hG W e).2.2.2.2.2.2.2.2.1.2 | exact (hG W e).2.2.2.2.2.2.2.2.1.2.1 | exact (hG W e).2.2.2.2.2.2.2.2.1.2.2.1 | exact (hG W e).2.2.2.2.2.2.2.2.1.2.2.2.1 | exact (hG W e).2.2.2.2.2.2.2.2.1.2.2.2 | exact (hG W e).2.2.2.2.2.2.2.2.2) : StaR W s (ia, ic) (ba, bc))) hl hok) fun y W _ => ?_
    obtain ⟨⟨da, dc⟩, l, e⟩ := y
    simp (maxSteps := 2000000) -implicitDefEqProofs [hN, k5]
    exact ret0 hC ((da, dc), l) rfl fun W _ hG => hG.1
  by_cases k6 : v = 6
  · simp (maxSteps := 2000000) -implicitDefEqProofs [hN, k6]
    refine call0 ok rfl rfl rfl (fun w I hI hG => rmdir0 w I hI s (ia, ic) (ba, bc) o.path (fun W e => ((by first | exact (hG W e) | exact (hG W e).1 | exact (hG W e).1.1 | exact (hG W e).1.2 | exact (hG W e).1.2.1 | exact (hG W e).1.2.2.1 | exact (hG W e).1.2.2.2.1 | exact (hG W e).1.2.2.2 | exact (hG W e).2 | exact (hG W e).2.1 | exact (hG W e).2.1.1 | exact (hG W e).2.1.2 | exact (hG W e).2.1.2.1 | exact (hG W e).2.1.2.2.1 | exact (hG W e).2.1.2.2.2.1 | exact (hG W e).2.1.2.2.2 | exact (hG W e).2.2 | exact (hG W e).2.2.1 | exact (hG W e).2.2.1.1 | exact (hG W e).2.2.1.2 | exact (hG W e).2.2.1.2.1 | exact (hG W e).2.2.1.2.2.1 | exact (hG W e).2.2.1.2.2.2.1 | exact (hG W e).2.2.1.2.2.2 | exact (hG W e).2.2.2 | exact (hG W e).2.2.2.1 | exact (hG W e).2.2.2.1.1 | exact (hG W e).2.2.2.1.2 | exact (hG W e).2.2.2.1.2.1 | exact (hG W e).2.2.2.1.2.2.1 | exact (hG W e).2.2.2.1.2.2.2.1 | exact (hG W e).2.2.2.1.2.2.2 | exact (hG W e).2.2.2.2 | exact (hG W e).2.2.2.2.1 | exact (hG W e).2.2.2.2.1.1 | exact (hG W e).2.2.2.2.1.2 | exact (hG W e).2.2.2.2.1.2.1 | exact (hG W e).2.2.2.2.1.2.2.1 | exact (hG W e).2.2.2.2.1.2.2.2.1 | exact (hG W e).2.2.2.2.1.2.2.2 | exact (hG W e).2.2.2.2.2 | exact (hG W e).2.2.2.2.2.1 | exact (hG W e).2.2.2.2.2.1.1 | exact (hG W e).2.2.2.2.2.1.2 | exact (hG W e).2.2.2.2.2.1.2.1 | exact (hG W e).2.2.2.2.2.1.2.2.1 | exact (hG W e).2.2.2.2.2.1.2.2.2.1 | exact (hG W e).2.2.2.2.2.1.2.2.2 | exact (hG W e).2.2.2.2.2.2 | exact (hG W e).2.2.2.2.2.2.1 | exact (hG W e).2.2.2.2.2.2.1.1 | exact (hG W e).2.2.2.2.2.2.1.2 | exact (hG W e).2.2.2.2.2.2.1.2.1 | exact (hG W e).2.2.2.2.2.2.1.2.2.1 | exact (hG W e).2.2.2.2.2.2.1.2.2.2.1 | exact (hG W e).2.2.2.2.2.2.1.2.2.2 | exact (hG W e).2.2.2.2.2.2.2 | exact (hG W e).2.2.2.2.2.2.2.1 | exact (hG W e).2.2.2.2.2.2.2.1.1 | exact (hG W e).2.2.2.2.2.2.2.1.2 | exact (hG W e).2.2.2.2.2.2.2.1.2.1 | exact (hG W e).2.2.2.2.2.2.2.1.2.2.1 | exact (hG W e).2.2.2.2.2.2.2.1.2.2.2.1 | exact (hG W e).2.2.2.2.2.2.2.1.2.2.2 | exact (hG W e).2.2.2.2.2.2.2.2 | exact (hG W e).2.2.2.2.2.2.2.2.1 | exact (hG W e).2.2.2.2.2.2.2.2.1.1 | exact (hG W e).2.2.2.2.2.2.2.2.1.2 | exact (hG W e).2.2.2.2.2.2.2.2.1.2.1 | exact (hG W e).2.2.2.2.2.2.2.2.1.2.2.1 | exact (hG W e).2.2.2.2.2.2.2.2.1.2.2.2.1 | exact (hG W e).2.2.2.2.2.2.2.2.1.2.2.2 | exact (hG W e).2.2.2.2.2.2.2.2.2) : StaR W s (ia, ic) (ba, bc))) hl hok) fun y W _ => ?_
    obtain ⟨⟨da, dc⟩, l, e⟩ := y
    simp (maxSteps := 2000000) -implicitDefEqProofs [hN, k6]
    exact ret0 hC ((da, dc), l) rfl fun W _ hG => hG.1
  simp (maxSteps := 2000000) -implicitDefEqProofs [hN, k0, k1, k2, k3, k4, k5, k6]
  exact ret0 hC ((none, 0), []) rfl fun W _ _ => ⟨nilSl dDee W, deedsNil s⟩
end Go.Proofs.YtbbaoeidobdblaaGreat.Sx

/- garretplay: Small, Grown. -/
set_option linter.unusedVariables false
set_option linter.unusedSimpArgs false
namespace Go.Proofs.YtbbaoeidobdblaaGreat.Sx
open Go
attribute [local simp ↓] ifb_true' ifb_false'
attribute [local simp] ifb_true ifb_false ifb_eq sx argsT find ev evOp evs evo evBin evInt evStr evNil evNilA ptrA slcA isNoneA asB evLoad look del cellsB evUn evConv kdec fld evFieldA evField evIdxA evIdx evSlc bndL bndH evLen mmi put resV guardV gvL setO tupV cellsOf ones one upd lits nv exitTo SV.val CV.val TI.agg rdyA allR keepB scan simpO gsp isS subs keepT pickT wr memN pubs Res.fact Region.binds bld rest give delL back Res.eqv vi vb num Sv.val undef
def opsz (l : List Opg) : Nat := (l.map fun o => o.path.size + o.other.size).sum
theorem opsz_take (l : List Opg) (i : Nat) (hi : i < l.length) : opsz (l.take (i + 1)) = opsz (l.take i) + (l[i].path.size + l[i].other.size) := by
  rw [List.take_add_one, List.getElem?_eq_getElem hi]
  unfold opsz
  rw [List.map_append, List.sum_append]
  simp only [Option.toList, List.map_cons, List.map_nil, List.sum_cons, List.sum_nil]
  omega
theorem opsz_le (l : List Opg) (i : Nat) : opsz (l.take i) ≤ opsz l := by
  conv => rhs; rw [← List.take_append_drop i l]
  unfold opsz
  rw [List.map_append, List.sum_append]
  omega
theorem opsz_mem {l : List Opg} {o : Opg} (h : o ∈ l) : o.path.size + o.other.size ≤ opsz l := by
  induction l with
  | nil => simp at h
  | cons x r ih =>
    simp only [opsz, List.map_cons, List.sum_cons]
    rcases List.mem_cons.1 h with rfl | h
    · omega
    · have := ih h
      unfold opsz at this
      omega
theorem opg_get {W : World} {a : Option Addr} {n c : Nat} {l : List Opg} (h : Sv.ok dOpg W (a, n, c) l) {i : Nat} (hi : i < l.length) : ∃ b o, a = some ⟨b, o, none⟩ ∧ ∀ j v, (opgC l[i])[j]? = some v → W.cell? ⟨b, o + i * 4 + j, none⟩ = some v := by
  obtain ⟨b, o, e⟩ := h.2.2.2.is_some (show 0 < l.length by omega)
  cases e
  obtain ⟨cs, hk, _, hc⟩ := h.2.2.2.get hi
  exact ⟨b, o, rfl, by rw [hk] at hc; exact hc⟩
set_option maxRecDepth 100000 in
set_option maxHeartbeats 4000000 in
theorem small0 (w : World) (I : Nat → Prop) (hI : ∀ b, I b → b < w.heap.size) {a : Option Addr} {n c : Nat} (l : List Opg) (h : ∀ W, Ext I w W → Sv.ok dOpg W (a, n, c) l) (hs : opsz l ≤ 1000000000000) :
    Fn0 Tryz.prog 44 #[.slice a n c] w I (fun b : Bool => .bool b) (fun y W => y = decide (opsz l ≤ 20000)) := by
  obtain rfl : n = l.length := (h w (Ext.refl _ _)).1
  have hlen := (h w (Ext.refl _ _)).2.2.1
  refine enter (svs := [.c (.v (.slice a l.length c))]) tysOk Tryz.func44 rfl Tryz.ntmps44 Tryz.results44 (by kernel_rfl) (by simp) hI (fun W => Sv.ok dOpg W (a, l.length, c) l) h fun C hC hN ok => ?_
  simp [hN]
  refine loop ok (fun i : Nat => [(4, .c (.v (.int .i64 i))), (3, .c (.v (.int .i64 (opsz (l.take i) : Nat))))]) (fun _ => []) (fun i W => i ≤ l.length) (fun i => l.length - i) 0 ?_ ?_ (fun W hW => Nat.zero_le _) ?_
  · simp [opsz]
  · simp
  rintro i W hi hG next
  rcases Nat.lt_or_ge i l.length with hlt | hge
  · obtain ⟨b, o, e, _⟩ := opg_get (show Sv.ok dOpg W (a, l.length, c) l from hG) hlt
    cases e
    have e6 : IntKind.i64.wrap ((i : Int) + 1) = (i + 1 : Nat) := by rw [w64 (by omega) (by omega)]; omega
    have hltI : (i : Int) < (l.length : Nat) := by omega
    have ht := opsz_take l i hlt
    have ht2 := opsz_le l (i + 1)
    have e7 : IntKind.i64.wrap ((opsz (l.take i) : Nat) + (l[i].path.size : Nat)) = (opsz (l.take i) : Nat) + (l[i].path.size : Nat) := w64 (by omega) (by omega)
    have e8 : IntKind.i64.wrap ((opsz (l.take i) : Nat) + (l[i].path.size : Nat) + (l[i].other.size : Nat)) = (opsz (l.take (i + 1)) : Nat) := by rw [w64 (by omega) (by omega)]; omega
    have get : ∀ W, Sv.ok dOpg W (some ⟨b, o, none⟩, l.length, c) l → W.cell? ⟨b, o + i * 4 + 1, none⟩ = some (.string l[i].path) ∧ W.cell? ⟨b, o + i * 4 + 2, none⟩ = some (.string l[i].other) := fun W hW => by
      obtain ⟨b', o', e, hc⟩ := opg_get hW hlt
      cases e
      exact ⟨hc 1 _ rfl, hc 2 _ rfl⟩
    simp (maxSteps := 2000000) -implicitDefEqProofs [hN, hltI]
    refine drawK ok mixed (by kernel_rfl) ?_
    simp (maxSteps := 2000000) -implicitDefEqProofs [hN, hlt, hltI]
    refine ⟨?_, ?_⟩
    · refine load1 ok rfl rfl rfl rfl (fun v W => v = .string l[i].path) (fun W hW => ⟨_, (get W hW.2).1, rfl⟩) ?_
      rintro v W rfl _
      simp (maxSteps := 2000000) -implicitDefEqProofs [hN, hlt, hltI, e7]
      refine load1 ok rfl rfl rfl rfl (fun v W => v = .string l[i].other) (fun W hW => ⟨_, (get W (by first | exact (hW) | exact (hW).1 | exact (hW).1.1 | exact (hW).1.2 | exact (hW).1.2.1 | exact (hW).1.2.2.1 | exact (hW).1.2.2.2.1 | exact (hW).1.2.2.2 | exact (hW).2 | exact (hW).2.1 | exact (hW).2.1.1 | exact (hW).2.1.2 | exact (hW).2.1.2.1 | exact (hW).2.1.2.2.1 | exact (hW).2.1.2.2.2.1 | exact (hW).2.1.2.2.2 | exact (hW).2.2 | exact (hW).2.2.1 | exact (hW).2.2.1.1 | exact (hW).2.2.1.2 | exact (hW).2.2.1.2.1 | exact (hW).2.2.1.2.2.1 | exact (hW).2.2.1.2.2.2.1 | exact (hW).2.2.1.2.2.2 | exact (hW).2.2.2 | exact (hW).2.2.2.1 | exact (hW).2.2.2.1.1 | exact (hW).2.2.2.1.2 | exact (hW).2.2.2.1.2.1 | exact (hW).2.2.2.1.2.2.1 | exact (hW).2.2.2.1.2.2.2.1 | exact (hW).2.2.2.1.2.2.2 | exact (hW).2.2.2.2 | exact (hW).2.2.2.2.1 | exact (hW).2.2.2.2.1.1 | exact (hW).2.2.2.2.1.2 | exact (hW).2.2.2.2.1.2.1 | exact (hW).2.2.2.2.1.2.2.1 | exact (hW).2.2.2.2.1.2.2.2.1 | exact (hW).2.2.2.2.1.2.2.2 | exact (hW).2.2.2.2.2 | exact (hW).2.2.2.2.2.1 | exact (hW).2.2.2.2.2.1.1 | exact (hW).2.2.2.2.2.1.2 | exact (hW).2.2.2.2.2.1.2.1 | exact (hW).2.2.2.2.2.1.2.2.1 | exact (hW).2.2.2.2.2.1.2.2.2.1 | exact (hW).2.2.2.2.2.1.2.2.2 | exact (hW).2.2.2.2.2.2 | exact (hW).2.2.2.2.2.2.1 | exact (hW).2.2.2.2.2.2.1.1 | exact (hW).2.2.2.2.2.2.1.2 | exact (hW).2.2.2.2.2.2.1.2.1 | exact (hW).2.2.2.2.2.2.1.2.2.1 | exact (hW).2.2.2.2.2.2.1.2.2.2.1 | exact (hW).2.2.2.2.2.2.1.2.2.2 | exact (hW).2.2.2.2.2.2.2 | exact (hW).2.2.2.2.2.2.2.1 | exact (hW).2.2.2.2.2.2.2.1.1 | exact (hW).2.2.2.2.2.2.2.1.2 | exact (hW).2.2.2.2.2.2.2.1.2.1 | exact (hW).2.2.2.2.2.2.2.1.2.2.1 | exact (hW).2.2.2.2.2.2.2.1.2.2.2.1 | exact (hW).2.2.2.2.2.2.2.1.2.2.2 | exact (hW).2.2.2.2.2.2.2.2 | exact (hW).2.2.2.2.2.2.2.2.1 | exact (hW).2.2.2.2.2.2.2.2.1.1 | exact (hW).2.2.2.2.2.2.2.2.1.2 | exact (hW).2.2.2.2.2.2.2.2.1.2.1 | exact (hW).2.2.2.2.2.2.2.2.1.2.2.1 | exact (hW).2.2.2.2.2.2.2.2.1.2.2.2.1 | exact (hW).2.2.2.2.2.2.2.2.1.2.2.2 | exact (hW).2.2.2.2.2.2.2.2.2)).2, rfl⟩) ?_
      rintro v W rfl _
      simp (maxSteps := 2000000) -implicitDefEqProofs [hN, hlt, hltI, e7, e8, e6]
      refine next (i + 1) _ _ (by omega) (fun W hW => ⟨hlt, (by first | exact (hW) | exact (hW).1 | exact (hW).1.1 | exact (hW).1.2 | exact (hW).1.2.1 | exact (hW).1.2.2.1 | exact (hW).1.2.2.2.1 | exact (hW).1.2.2.2 | exact (hW).2 | exact (hW).2.1 | exact (hW).2.1.1 | exact (hW).2.1.2 | exact (hW).2.1.2.1 | exact (hW).2.1.2.2.1 | exact (hW).2.1.2.2.2.1 | exact (hW).2.1.2.2.2 | exact (hW).2.2 | exact (hW).2.2.1 | exact (hW).2.2.1.1 | exact (hW).2.2.1.2 | exact (hW).2.2.1.2.1 | exact (hW).2.2.1.2.2.1 | exact (hW).2.2.1.2.2.2.1 | exact (hW).2.2.1.2.2.2 | exact (hW).2.2.2 | exact (hW).2.2.2.1 | exact (hW).2.2.2.1.1 | exact (hW).2.2.2.1.2 | exact (hW).2.2.2.1.2.1 | exact (hW).2.2.2.1.2.2.1 | exact (hW).2.2.2.1.2.2.2.1 | exact (hW).2.2.2.1.2.2.2 | exact (hW).2.2.2.2 | exact (hW).2.2.2.2.1 | exact (hW).2.2.2.2.1.1 | exact (hW).2.2.2.2.1.2 | exact (hW).2.2.2.2.1.2.1 | exact (hW).2.2.2.2.1.2.2.1 | exact (hW).2.2.2.2.1.2.2.2.1 | exact (hW).2.2.2.2.1.2.2.2 | exact (hW).2.2.2.2.2 | exact (hW).2.2.2.2.2.1 | exact (hW).2.2.2.2.2.1.1 | exact (hW).2.2.2.2.2.1.2 | exact (hW).2.2.2.2.2.1.2.1 | exact (hW).2.2.2.2.2.1.2.2.1 | exact (hW).2.2.2.2.2.1.2.2.2.1 | exact (hW).2.2.2.2.2.1.2.2.2 | exact (hW).2.2.2.2.2.2 | exact (hW).2.2.2.2.2.2.1 | exact (hW).2.2.2.2.2.2.1.1 | exact (hW).2.2.2.2.2.2.1.2 | exact (hW).2.2.2.2.2.2.1.2.1 | exact (hW).2.2.2.2.2.2.1.2.2.1 | exact (hW).2.2.2.2.2.2.1.2.2.2.1 | exact (hW).2.2.2.2.2.2.1.2.2.2 | exact (hW).2.2.2.2.2.2.2 | exact (hW).2.2.2.2.2.2.2.1 | exact (hW).2.2.2.2.2.2.2.1.1 | exact (hW).2.2.2.2.2.2.2.1.2 | exact (hW).2.2.2.2.2.2.2.1.2.1 | exact (hW).2.2.2.2.2.2.2.1.2.2.1 | exact (hW).2.2.2.2.2.2.2.1.2.2.2.1 | exact (hW).2.2.2.2.2.2.2.1.2.2.2 | exact (hW).2.2.2.2.2.2.2.2 | exact (hW).2.2.2.2.2.2.2.2.1 | exact (hW).2.2.2.2.2.2.2.2.1.1 | exact (hW).2.2.2.2.2.2.2.2.1.2 | exact (hW).2.2.2.2.2.2.2.2.1.2.1 | exact (hW).2.2.2.2.2.2.2.2.1.2.2.1 | exact (hW).2.2.2.2.2.2.2.2.1.2.2.2.1 | exact (hW).2.2.2.2.2.2.2.2.1.2.2.2 | exact (hW).2.2.2.2.2.2.2.2.2)⟩) ?_
      simp
    · refine load1 ok rfl rfl rfl rfl (fun v W => v = .string l[i].other) (fun W hW => ⟨_, (get W hW.2).2, rfl⟩) ?_
      rintro v W rfl _
      simp (maxSteps := 2000000) -implicitDefEqProofs [hN, hlt, hltI, e7]
      refine load1 ok rfl rfl rfl rfl (fun v W => v = .string l[i].path) (fun W hW => ⟨_, (get W (by first | exact (hW) | exact (hW).1 | exact (hW).1.1 | exact (hW).1.2 | exact (hW).1.2.1 | exact (hW).1.2.2.1 | exact (hW).1.2.2.2.1 | exact (hW).1.2.2.2 | exact (hW).2 | exact (hW).2.1 | exact (hW).2.1.1 | exact (hW).2.1.2 | exact (hW).2.1.2.1 | exact (hW).2.1.2.2.1 | exact (hW).2.1.2.2.2.1 | exact (hW).2.1.2.2.2 | exact (hW).2.2 | exact (hW).2.2.1 | exact (hW).2.2.1.1 | exact (hW).2.2.1.2 | exact (hW).2.2.1.2.1 | exact (hW).2.2.1.2.2.1 | exact (hW).2.2.1.2.2.2.1 | exact (hW).2.2.1.2.2.2 | exact (hW).2.2.2 | exact (hW).2.2.2.1 | exact (hW).2.2.2.1.1 | exact (hW).2.2.2.1.2 | exact (hW).2.2.2.1.2.1 | exact (hW).2.2.2.1.2.2.1 | exact (hW).2.2.2.1.2.2.2.1 | exact (hW).2.2.2.1.2.2.2 | exact (hW).2.2.2.2 | exact (hW).2.2.2.2.1 | exact (hW).2.2.2.2.1.1 | exact (hW).2.2.2.2.1.2 | exact (hW).2.2.2.2.1.2.1 | exact (hW).2.2.2.2.1.2.2.1 | exact (hW).2.2.2.2.1.2.2.2.1 | exact (hW).2.2.2.2.1.2.2.2 | exact (hW).2.2.2.2.2 | exact (hW).2.2.2.2.2.1 | exact (hW).2.2.2.2.2.1.1 | exact (hW).2.2.2.2.2.1.2 | exact (hW).2.2.2.2.2.1.2.1 | exact (hW).2.2.2.2.2.1.2.2.1 | exact (hW).2.2.2.2.2.1.2.2.2.1 | exact (hW).2.2.2.2.2.1.2.2.2 | exact (hW).2.2.2.2.2.2 | exact (hW).2.2.2.2.2.2.1 | exact (hW).2.2.2.2.2.2.1.1 | exact (hW).2.2.2.2.2.2.1.2 | exact (hW).2.2.2.2.2.2.1.2.1 | exact (hW).2.2.2.2.2.2.1.2.2.1 | exact (hW).2.2.2.2.2.2.1.2.2.2.1 | exact (hW).2.2.2.2.2.2.1.2.2.2 | exact (hW).2.2.2.2.2.2.2 | exact (hW).2.2.2.2.2.2.2.1 | exact (hW).2.2.2.2.2.2.2.1.1 | exact (hW).2.2.2.2.2.2.2.1.2 | exact (hW).2.2.2.2.2.2.2.1.2.1 | exact (hW).2.2.2.2.2.2.2.1.2.2.1 | exact (hW).2.2.2.2.2.2.2.1.2.2.2.1 | exact (hW).2.2.2.2.2.2.2.1.2.2.2 | exact (hW).2.2.2.2.2.2.2.2 | exact (hW).2.2.2.2.2.2.2.2.1 | exact (hW).2.2.2.2.2.2.2.2.1.1 | exact (hW).2.2.2.2.2.2.2.2.1.2 | exact (hW).2.2.2.2.2.2.2.2.1.2.1 | exact (hW).2.2.2.2.2.2.2.2.1.2.2.1 | exact (hW).2.2.2.2.2.2.2.2.1.2.2.2.1 | exact (hW).2.2.2.2.2.2.2.2.1.2.2.2 | exact (hW).2.2.2.2.2.2.2.2.2)).1, rfl⟩) ?_
      rintro v W rfl _
      simp (maxSteps := 2000000) -implicitDefEqProofs [hN, hlt, hltI, e7, e8, e6]
      refine next (i + 1) _ _ (by omega) (fun W hW => ⟨hlt, (by first | exact (hW) | exact (hW).1 | exact (hW).1.1 | exact (hW).1.2 | exact (hW).1.2.1 | exact (hW).1.2.2.1 | exact (hW).1.2.2.2.1 | exact (hW).1.2.2.2 | exact (hW).2 | exact (hW).2.1 | exact (hW).2.1.1 | exact (hW).2.1.2 | exact (hW).2.1.2.1 | exact (hW).2.1.2.2.1 | exact (hW).2.1.2.2.2.1 | exact (hW).2.1.2.2.2 | exact (hW).2.2 | exact (hW).2.2.1 | exact (hW).2.2.1.1 | exact (hW).2.2.1.2 | exact (hW).2.2.1.2.1 | exact (hW).2.2.1.2.2.1 | exact (hW).2.2.1.2.2.2.1 | exact (hW).2.2.1.2.2.2 | exact (hW).2.2.2 | exact (hW).2.2.2.1 | exact (hW).2.2.2.1.1 | exact (hW).2.2.2.1.2 | exact (hW).2.2.2.1.2.1 | exact (hW).2.2.2.1.2.2.1 | exact (hW).2.2.2.1.2.2.2.1 | exact (hW).2.2.2.1.2.2.2 | exact (hW).2.2.2.2 | exact (hW).2.2.2.2.1 | exact (hW).2.2.2.2.1.1 | exact (hW).2.2.2.2.1.2 | exact (hW).2.2.2.2.1.2.1 | exact (hW).2.2.2.2.1.2.2.1 | exact (hW).2.2.2.2.1.2.2.2.1 | exact (hW).2.2.2.2.1.2.2.2 | exact (hW).2.2.2.2.2 | exact (hW).2.2.2.2.2.1 | exact (hW).2.2.2.2.2.1.1 | exact (hW).2.2.2.2.2.1.2 | exact (hW).2.2.2.2.2.1.2.1 | exact (hW).2.2.2.2.2.1.2.2.1 | exact (hW).2.2.2.2.2.1.2.2.2.1 | exact (hW).2.2.2.2.2.1.2.2.2 | exact (hW).2.2.2.2.2.2 | exact (hW).2.2.2.2.2.2.1 | exact (hW).2.2.2.2.2.2.1.1 | exact (hW).2.2.2.2.2.2.1.2 | exact (hW).2.2.2.2.2.2.1.2.1 | exact (hW).2.2.2.2.2.2.1.2.2.1 | exact (hW).2.2.2.2.2.2.1.2.2.2.1 | exact (hW).2.2.2.2.2.2.1.2.2.2 | exact (hW).2.2.2.2.2.2.2 | exact (hW).2.2.2.2.2.2.2.1 | exact (hW).2.2.2.2.2.2.2.1.1 | exact (hW).2.2.2.2.2.2.2.1.2 | exact (hW).2.2.2.2.2.2.2.1.2.1 | exact (hW).2.2.2.2.2.2.2.1.2.2.1 | exact (hW).2.2.2.2.2.2.2.1.2.2.2.1 | exact (hW).2.2.2.2.2.2.2.1.2.2.2 | exact (hW).2.2.2.2.2.2.2.2 | exact (hW).2.2.2.2.2.2.2.2.1 | exact (hW).2.2.2.2.2.2.2.2.1.1 | exact (hW).2.2.2.2.2.2.2.2.1.2 | exact (hW).2.2.2.2.2.2.2.2.1.2.1 | exact (hW).2.2.2.2.2.2.2.2.1.2.2.1 | exact (hW).2.2.2.2.2.2.2.2.1.2.2.2.1 | exact (hW).2.2.2.2.2.2.2.2.1.2.2.2 | exact (hW).2.2.2.2.2.2.2.2.2)⟩) ?_
      simp
  · have e : l.take i = l := List.take_of_length_le hge
    rw [e]
    simp (maxSteps := 2000000) -implicitDefEqProofs [hN, Nat.not_lt.2 hge]
    exact ret0 hC (decide (opsz l ≤ 20000)) (by simp; omega) fun _ _ _ => rfl
end Go.Proofs.YtbbaoeidobdblaaGreat.Sx

/- garretplay.Grown: a state that reads, and is fine. -/
set_option linter.unusedVariables false
set_option linter.unusedSimpArgs false
namespace Go.Proofs.YtbbaoeidobdblaaGreat.Sx
open Go
attribute [local simp ↓] ifb_true' ifb_false'
attribute [local simp] ifb_true ifb_false ifb_eq sx argsT find ev evOp evs evo evBin evInt evStr evNil evNilA ptrA slcA isNoneA asB evLoad look del cellsB evUn evConv kdec fld evFieldA evField evIdxA evIdx evSlc bndL bndH evLen mmi put resV guardV gvL setO tupV cellsOf ones one upd lits nv exitTo SV.val CV.val TI.agg rdyA allR keepB scan simpO gsp isS subs keepT pickT wr memN pubs Res.fact Region.binds bld rest give delL back Res.eqv vi vb num Sv.val undef
/-- How far it has grown. -/
structure Gw where
  i : Nat
  s : Sta
  si : Sl
  sb : Sl
  next : Nat
set_option maxRecDepth 100000 in
set_option maxHeartbeats 8000000 in
theorem grown0 (w : World) (I : Nat → Prop) (hI : ∀ b, I b → b < w.heap.size) {a : Option Addr} {n c : Nat} (l : List Opg) (pages : Int) (hp : 0 ≤ pages ∧ pages ≤ 100000) (h : ∀ W, Ext I w W → Sv.ok dOpg W (a, n, c) l) (hs : ∀ o, o ∈ l → o.other.size ≤ 1000000) :
    Fn0 Tryz.prog 46 #[.slice a n c, .slice none 0 0, .int .i64 pages] w I (fun y : Sta × Sl × Sl => .agg (staC y.1 y.2.1 y.2.2).toArray) (fun y W => StaR W y.1 y.2.1 y.2.2 ∧ ∃ m : Nat, ∃ k, Fine y.1 m k ∧ (m : Int) ≤ pages ∧ k ≤ 40) := by
  obtain rfl : n = l.length := (h w (Ext.refl _ _)).1
  have hlen := (h w (Ext.refl _ _)).2.2.1
  refine enter (svs := [.c (.v (.slice a l.length c)), .c (.v (.slice none 0 0)), .c (.v (.int .i64 pages))]) tysOk Tryz.func46 rfl Tryz.ntmps46 Tryz.results46 (by kernel_rfl) (by simp) hI (fun W => Sv.ok dOpg W (a, l.length, c) l) h fun C hC hN ok => ?_
  simp [hN]
  intro g6
  refine call0 ok rfl rfl rfl (fun w I hI hG => newSta0 w I hI) fun y W _ => ?_
  obtain ⟨ia, ic⟩ := y
  simp (maxSteps := 2000000) -implicitDefEqProofs [hN]
  intro g7
  refine loopK [0, 1, 2, 6, 7] ok (fun y : Gw => [(9, .c (.v (.int .i64 (y.i : Nat)))), (8, .c (.v (.int .i64 (y.next : Nat))))]) (fun y => [(7, .box g7 39 ((staC y.s y.si y.sb).map .v)), (6, .box g6 39 ((staC ⟨0, [], []⟩ (none, 0) (none, 0)).map .v))]) (fun y W => y.i ≤ l.length ∧ y.i ≤ 40 ∧ StaR W y.s y.si y.sb ∧ Fine y.s y.next y.i ∧ (y.next : Int) ≤ pages) (fun y => 40 - y.i) ⟨0, newSta, (ia, ic), (none, 0), 0⟩ ?_ ?_ (fun W hW => ⟨Nat.zero_le _, Nat.zero_le _, hW.1, fine_begin, hp.1⟩) ?_
  · simp
  · simp
  rintro ⟨i, s, ⟨sia, sic⟩, ⟨sba, sbc⟩, nx⟩ W ⟨h1, h2, h3, h4, h5⟩ hG next
  simp only at h1 h2 h3 h4 h5
  have hin := fine_inos h4
  have hbl : s.bad.length = 0 := by rw [h4.bad]; rfl
  by_cases hgo : i < l.length ∧ i < 40
  · obtain ⟨hlt, hlt2⟩ := hgo
    obtain ⟨b, o, e, _⟩ := opg_get (show Sv.ok dOpg W (a, l.length, c) l from (by first | exact (hG) | exact (hG).1 | exact (hG).1.1 | exact (hG).1.2 | exact (hG).1.2.1 | exact (hG).1.2.2.1 | exact (hG).1.2.2.2.1 | exact (hG).1.2.2.2 | exact (hG).2 | exact (hG).2.1 | exact (hG).2.1.1 | exact (hG).2.1.2 | exact (hG).2.1.2.1 | exact (hG).2.1.2.2.1 | exact (hG).2.1.2.2.2.1 | exact (hG).2.1.2.2.2 | exact (hG).2.2 | exact (hG).2.2.1 | exact (hG).2.2.1.1 | exact (hG).2.2.1.2 | exact (hG).2.2.1.2.1 | exact (hG).2.2.1.2.2.1 | exact (hG).2.2.1.2.2.2.1 | exact (hG).2.2.1.2.2.2 | exact (hG).2.2.2 | exact (hG).2.2.2.1 | exact (hG).2.2.2.1.1 | exact (hG).2.2.2.1.2 | exact (hG).2.2.2.1.2.1 | exact (hG).2.2.2.1.2.2.1 | exact (hG).2.2.2.1.2.2.2.1 | exact (hG).2.2.2.1.2.2.2 | exact (hG).2.2.2.2 | exact (hG).2.2.2.2.1 | exact (hG).2.2.2.2.1.1 | exact (hG).2.2.2.2.1.2 | exact (hG).2.2.2.2.1.2.1 | exact (hG).2.2.2.2.1.2.2.1 | exact (hG).2.2.2.2.1.2.2.2.1 | exact (hG).2.2.2.2.1.2.2.2 | exact (hG).2.2.2.2.2 | exact (hG).2.2.2.2.2.1 | exact (hG).2.2.2.2.2.1.1 | exact (hG).2.2.2.2.2.1.2 | exact (hG).2.2.2.2.2.1.2.1 | exact (hG).2.2.2.2.2.1.2.2.1 | exact (hG).2.2.2.2.2.1.2.2.2.1 | exact (hG).2.2.2.2.2.1.2.2.2 | exact (hG).2.2.2.2.2.2 | exact (hG).2.2.2.2.2.2.1 | exact (hG).2.2.2.2.2.2.1.1 | exact (hG).2.2.2.2.2.2.1.2 | exact (hG).2.2.2.2.2.2.1.2.1 | exact (hG).2.2.2.2.2.2.1.2.2.1 | exact (hG).2.2.2.2.2.2.1.2.2.2.1 | exact (hG).2.2.2.2.2.2.1.2.2.2 | exact (hG).2.2.2.2.2.2.2 | exact (hG).2.2.2.2.2.2.2.1 | exact (hG).2.2.2.2.2.2.2.1.1 | exact (hG).2.2.2.2.2.2.2.1.2 | exact (hG).2.2.2.2.2.2.2.1.2.1 | exact (hG).2.2.2.2.2.2.2.1.2.2.1 | exact (hG).2.2.2.2.2.2.2.1.2.2.2.1 | exact (hG).2.2.2.2.2.2.2.1.2.2.2 | exact (hG).2.2.2.2.2.2.2.2 | exact (hG).2.2.2.2.2.2.2.2.1 | exact (hG).2.2.2.2.2.2.2.2.1.1 | exact (hG).2.2.2.2.2.2.2.2.1.2 | exact (hG).2.2.2.2.2.2.2.2.1.2.1 | exact (hG).2.2.2.2.2.2.2.2.1.2.2.1 | exact (hG).2.2.2.2.2.2.2.2.1.2.2.2.1 | exact (hG).2.2.2.2.2.2.2.2.1.2.2.2 | exact (hG).2.2.2.2.2.2.2.2.2)) hlt
    cases e
    have hltI : (i : Int) < (l.length : Nat) := by omega
    have hlt2I : (i : Int) < 40 := by omega
    have e6 : IntKind.i64.wrap ((i : Int) + 1) = (i + 1 : Nat) := by rw [w64 (by omega) (by omega)]; omega
    have hos := hs l[i] (List.getElem_mem hlt)
    simp (maxSteps := 2000000) -implicitDefEqProofs [hN, hlt, hltI, hlt2I]
    refine loadA ok rfl rfl rfl rfl (fun cs W => cs = opgC l[i]) (fun W hW => ?_) ?_
    · obtain ⟨b', o', e, hc⟩ := opg_get (show Sv.ok dOpg W (some ⟨b, o, none⟩, l.length, c) l from (by first | exact (hW) | exact (hW).1 | exact (hW).1.1 | exact (hW).1.2 | exact (hW).1.2.1 | exact (hW).1.2.2.1 | exact (hW).1.2.2.2.1 | exact (hW).1.2.2.2 | exact (hW).2 | exact (hW).2.1 | exact (hW).2.1.1 | exact (hW).2.1.2 | exact (hW).2.1.2.1 | exact (hW).2.1.2.2.1 | exact (hW).2.1.2.2.2.1 | exact (hW).2.1.2.2.2 | exact (hW).2.2 | exact (hW).2.2.1 | exact (hW).2.2.1.1 | exact (hW).2.2.1.2 | exact (hW).2.2.1.2.1 | exact (hW).2.2.1.2.2.1 | exact (hW).2.2.1.2.2.2.1 | exact (hW).2.2.1.2.2.2 | exact (hW).2.2.2 | exact (hW).2.2.2.1 | exact (hW).2.2.2.1.1 | exact (hW).2.2.2.1.2 | exact (hW).2.2.2.1.2.1 | exact (hW).2.2.2.1.2.2.1 | exact (hW).2.2.2.1.2.2.2.1 | exact (hW).2.2.2.1.2.2.2 | exact (hW).2.2.2.2 | exact (hW).2.2.2.2.1 | exact (hW).2.2.2.2.1.1 | exact (hW).2.2.2.2.1.2 | exact (hW).2.2.2.2.1.2.1 | exact (hW).2.2.2.2.1.2.2.1 | exact (hW).2.2.2.2.1.2.2.2.1 | exact (hW).2.2.2.2.1.2.2.2 | exact (hW).2.2.2.2.2 | exact (hW).2.2.2.2.2.1 | exact (hW).2.2.2.2.2.1.1 | exact (hW).2.2.2.2.2.1.2 | exact (hW).2.2.2.2.2.1.2.1 | exact (hW).2.2.2.2.2.1.2.2.1 | exact (hW).2.2.2.2.2.1.2.2.2.1 | exact (hW).2.2.2.2.2.1.2.2.2 | exact (hW).2.2.2.2.2.2 | exact (hW).2.2.2.2.2.2.1 | exact (hW).2.2.2.2.2.2.1.1 | exact (hW).2.2.2.2.2.2.1.2 | exact (hW).2.2.2.2.2.2.1.2.1 | exact (hW).2.2.2.2.2.2.1.2.2.1 | exact (hW).2.2.2.2.2.2.1.2.2.2.1 | exact (hW).2.2.2.2.2.2.1.2.2.2 | exact (hW).2.2.2.2.2.2.2 | exact (hW).2.2.2.2.2.2.2.1 | exact (hW).2.2.2.2.2.2.2.1.1 | exact (hW).2.2.2.2.2.2.2.1.2 | exact (hW).2.2.2.2.2.2.2.1.2.1 | exact (hW).2.2.2.2.2.2.2.1.2.2.1 | exact (hW).2.2.2.2.2.2.2.1.2.2.2.1 | exact (hW).2.2.2.2.2.2.2.1.2.2.2 | exact (hW).2.2.2.2.2.2.2.2 | exact (hW).2.2.2.2.2.2.2.2.1 | exact (hW).2.2.2.2.2.2.2.2.1.1 | exact (hW).2.2.2.2.2.2.2.2.1.2 | exact (hW).2.2.2.2.2.2.2.2.1.2.1 | exact (hW).2.2.2.2.2.2.2.2.1.2.2.1 | exact (hW).2.2.2.2.2.2.2.2.1.2.2.2.1 | exact (hW).2.2.2.2.2.2.2.2.1.2.2.2 | exact (hW).2.2.2.2.2.2.2.2.2)) hlt
      cases e
      exact ⟨opgC l[i], rfl, hc, rfl⟩
    rintro v W _ rfl _
    generalize l[i] = p at hos
    simp (maxSteps := 2000000) -implicitDefEqProofs [hN]
    intro g10
    refine call0 ok rfl rfl rfl (fun w I hI hG => mod0 w I hI p.kind 8 (by decide) (by decide)) fun v W _ => ?_
    by_cases hv : v = 7
    · have again : ∀ W, (StaR W s (sia, sic) (sba, sbc)) → i + 1 ≤ l.length ∧ i + 1 ≤ 40 ∧ StaR W s (sia, sic) (sba, sbc) ∧ Fine s nx (i + 1) ∧ (nx : Int) ≤ pages := fun W hW => ⟨hlt, hlt2, hW, fine_up h4, h5⟩
      simp (maxSteps := 2000000) -implicitDefEqProofs [hN, hv]
      refine call0 ok rfl rfl rfl (fun w I hI hG => resolve0 w I hI s (sia, sic) (sba, sbc) p.path true (fun W e => ((by first | exact (hG W e) | exact (hG W e).1 | exact (hG W e).1.1 | exact (hG W e).1.2 | exact (hG W e).1.2.1 | exact (hG W e).1.2.2.1 | exact (hG W e).1.2.2.2.1 | exact (hG W e).1.2.2.2 | exact (hG W e).2 | exact (hG W e).2.1 | exact (hG W e).2.1.1 | exact (hG W e).2.1.2 | exact (hG W e).2.1.2.1 | exact (hG W e).2.1.2.2.1 | exact (hG W e).2.1.2.2.2.1 | exact (hG W e).2.1.2.2.2 | exact (hG W e).2.2 | exact (hG W e).2.2.1 | exact (hG W e).2.2.1.1 | exact (hG W e).2.2.1.2 | exact (hG W e).2.2.1.2.1 | exact (hG W e).2.2.1.2.2.1 | exact (hG W e).2.2.1.2.2.2.1 | exact (hG W e).2.2.1.2.2.2 | exact (hG W e).2.2.2 | exact (hG W e).2.2.2.1 | exact (hG W e).2.2.2.1.1 | exact (hG W e).2.2.2.1.2 | exact (hG W e).2.2.2.1.2.1 | exact (hG W e).2.2.2.1.2.2.1 | exact (hG W e).2.2.2.1.2.2.2.1 | exact (hG W e).2.2.2.1.2.2.2 | exact (hG W e).2.2.2.2 | exact (hG W e).2.2.2.2.1 | exact (hG W e).2.2.2.2.1.1 | exact (hG W e).2.2.2.2.1.2 | exact (hG W e).2.2.2.2.1.2.1 | exact (hG W e).2.2.2.2.1.2.2.1 | exact (hG W e).2.2.2.2.1.2.2.2.1 | exact (hG W e).2.2.2.2.1.2.2.2 | exact (hG W e).2.2.2.2.2 | exact (hG W e).2.2.2.2.2.1 | exact (hG W e).2.2.2.2.2.1.1 | exact (hG W e).2.2.2.2.2.1.2 | exact (hG W e).2.2.2.2.2.1.2.1 | exact (hG W e).2.2.2.2.2.1.2.2.1 | exact (hG W e).2.2.2.2.2.1.2.2.2.1 | exact (hG W e).2.2.2.2.2.1.2.2.2 | exact (hG W e).2.2.2.2.2.2 | exact (hG W e).2.2.2.2.2.2.1 | exact (hG W e).2.2.2.2.2.2.1.1 | exact (hG W e).2.2.2.2.2.2.1.2 | exact (hG W e).2.2.2.2.2.2.1.2.1 | exact (hG W e).2.2.2.2.2.2.1.2.2.1 | exact (hG W e).2.2.2.2.2.2.1.2.2.2.1 | exact (hG W e).2.2.2.2.2.2.1.2.2.2 | exact (hG W e).2.2.2.2.2.2.2 | exact (hG W e).2.2.2.2.2.2.2.1 | exact (hG W e).2.2.2.2.2.2.2.1.1 | exact (hG W e).2.2.2.2.2.2.2.1.2 | exact (hG W e).2.2.2.2.2.2.2.1.2.1 | exact (hG W e).2.2.2.2.2.2.2.1.2.2.1 | exact (hG W e).2.2.2.2.2.2.2.1.2.2.2.1 | exact (hG W e).2.2.2.2.2.2.2.1.2.2.2 | exact (hG W e).2.2.2.2.2.2.2.2 | exact (hG W e).2.2.2.2.2.2.2.2.1 | exact (hG W e).2.2.2.2.2.2.2.2.1.1 | exact (hG W e).2.2.2.2.2.2.2.2.1.2 | exact (hG W e).2.2.2.2.2.2.2.2.1.2.1 | exact (hG W e).2.2.2.2.2.2.2.2.1.2.2.1 | exact (hG W e).2.2.2.2.2.2.2.2.1.2.2.2.1 | exact (hG W e).2.2.2.2.2.2.2.2.1.2.2.2 | exact (hG W e).2.2.2.2.2.2.2.2.2) : StaR W s (sia, sic) (sba, sbc))) (by omega)) fun y W _ => ?_
      obtain ⟨no, e⟩ := y
      simp (maxSteps := 2000000) -implicitDefEqProofs [hN]
      refine call0 ok rfl rfl rfl (fun w I hI hG => findIno0 w I hI s (sia, sic) (sba, sbc) no (fun W e => ((by first | exact (hG W e) | exact (hG W e).1 | exact (hG W e).1.1 | exact (hG W e).1.2 | exact (hG W e).1.2.1 | exact (hG W e).1.2.2.1 | exact (hG W e).1.2.2.2.1 | exact (hG W e).1.2.2.2 | exact (hG W e).2 | exact (hG W e).2.1 | exact (hG W e).2.1.1 | exact (hG W e).2.1.2 | exact (hG W e).2.1.2.1 | exact (hG W e).2.1.2.2.1 | exact (hG W e).2.1.2.2.2.1 | exact (hG W e).2.1.2.2.2 | exact (hG W e).2.2 | exact (hG W e).2.2.1 | exact (hG W e).2.2.1.1 | exact (hG W e).2.2.1.2 | exact (hG W e).2.2.1.2.1 | exact (hG W e).2.2.1.2.2.1 | exact (hG W e).2.2.1.2.2.2.1 | exact (hG W e).2.2.1.2.2.2 | exact (hG W e).2.2.2 | exact (hG W e).2.2.2.1 | exact (hG W e).2.2.2.1.1 | exact (hG W e).2.2.2.1.2 | exact (hG W e).2.2.2.1.2.1 | exact (hG W e).2.2.2.1.2.2.1 | exact (hG W e).2.2.2.1.2.2.2.1 | exact (hG W e).2.2.2.1.2.2.2 | exact (hG W e).2.2.2.2 | exact (hG W e).2.2.2.2.1 | exact (hG W e).2.2.2.2.1.1 | exact (hG W e).2.2.2.2.1.2 | exact (hG W e).2.2.2.2.1.2.1 | exact (hG W e).2.2.2.2.1.2.2.1 | exact (hG W e).2.2.2.2.1.2.2.2.1 | exact (hG W e).2.2.2.2.1.2.2.2 | exact (hG W e).2.2.2.2.2 | exact (hG W e).2.2.2.2.2.1 | exact (hG W e).2.2.2.2.2.1.1 | exact (hG W e).2.2.2.2.2.1.2 | exact (hG W e).2.2.2.2.2.1.2.1 | exact (hG W e).2.2.2.2.2.1.2.2.1 | exact (hG W e).2.2.2.2.2.1.2.2.2.1 | exact (hG W e).2.2.2.2.2.1.2.2.2 | exact (hG W e).2.2.2.2.2.2 | exact (hG W e).2.2.2.2.2.2.1 | exact (hG W e).2.2.2.2.2.2.1.1 | exact (hG W e).2.2.2.2.2.2.1.2 | exact (hG W e).2.2.2.2.2.2.1.2.1 | exact (hG W e).2.2.2.2.2.2.1.2.2.1 | exact (hG W e).2.2.2.2.2.2.1.2.2.2.1 | exact (hG W e).2.2.2.2.2.2.1.2.2.2 | exact (hG W e).2.2.2.2.2.2.2 | exact (hG W e).2.2.2.2.2.2.2.1 | exact (hG W e).2.2.2.2.2.2.2.1.1 | exact (hG W e).2.2.2.2.2.2.2.1.2 | exact (hG W e).2.2.2.2.2.2.2.1.2.1 | exact (hG W e).2.2.2.2.2.2.2.1.2.2.1 | exact (hG W e).2.2.2.2.2.2.2.1.2.2.2.1 | exact (hG W e).2.2.2.2.2.2.2.1.2.2.2 | exact (hG W e).2.2.2.2.2.2.2.2 | exact (hG W e).2.2.2.2.2.2.2.2.1 | exact (hG W e).2.2.2.2.2.2.2.2.1.1 | exact (hG W e).2.2.2.2.2.2.2.2.1.2 | exact (hG W e).2.2.2.2.2.2.2.2.1.2.1 | exact (hG W e).2.2.2.2.2.2.2.2.1.2.2.1 | exact (hG W e).2.2.2.2.2.2.2.2.1.2.2.2.1 | exact (hG W e).2.2.2.2.2.2.2.2.1.2.2.2 | exact (hG W e).2.2.2.2.2.2.2.2.2) : StaR W s (sia, sic) (sba, sbc))) (by omega)) fun y W hx => ?_
      obtain ⟨⟨x, ⟨xa, xc⟩, ⟨ya, yc⟩⟩, has⟩ := y
      by_cases he : e = 0
      · by_cases hk : x.kind = 1
        · by_cases hnx : pages ≤ (nx : Nat)
          · simp (maxSteps := 2000000) -implicitDefEqProofs [hN, he, hk, hnx, e6]
            intro g13
            refine next ⟨i + 1, s, (sia, sic), (sba, sbc), nx⟩ _ _ ?_ ?_ ?_
            · simp only; omega
            · exact fun W hW => ⟨again W (by first | exact (hW) | exact (hW).1 | exact (hW).1.1 | exact (hW).1.2 | exact (hW).1.2.1 | exact (hW).1.2.2.1 | exact (hW).1.2.2.2.1 | exact (hW).1.2.2.2 | exact (hW).2 | exact (hW).2.1 | exact (hW).2.1.1 | exact (hW).2.1.2 | exact (hW).2.1.2.1 | exact (hW).2.1.2.2.1 | exact (hW).2.1.2.2.2.1 | exact (hW).2.1.2.2.2 | exact (hW).2.2 | exact (hW).2.2.1 | exact (hW).2.2.1.1 | exact (hW).2.2.1.2 | exact (hW).2.2.1.2.1 | exact (hW).2.2.1.2.2.1 | exact (hW).2.2.1.2.2.2.1 | exact (hW).2.2.1.2.2.2 | exact (hW).2.2.2 | exact (hW).2.2.2.1 | exact (hW).2.2.2.1.1 | exact (hW).2.2.2.1.2 | exact (hW).2.2.2.1.2.1 | exact (hW).2.2.2.1.2.2.1 | exact (hW).2.2.2.1.2.2.2.1 | exact (hW).2.2.2.1.2.2.2 | exact (hW).2.2.2.2 | exact (hW).2.2.2.2.1 | exact (hW).2.2.2.2.1.1 | exact (hW).2.2.2.2.1.2 | exact (hW).2.2.2.2.1.2.1 | exact (hW).2.2.2.2.1.2.2.1 | exact (hW).2.2.2.2.1.2.2.2.1 | exact (hW).2.2.2.2.1.2.2.2 | exact (hW).2.2.2.2.2 | exact (hW).2.2.2.2.2.1 | exact (hW).2.2.2.2.2.1.1 | exact (hW).2.2.2.2.2.1.2 | exact (hW).2.2.2.2.2.1.2.1 | exact (hW).2.2.2.2.2.1.2.2.1 | exact (hW).2.2.2.2.2.1.2.2.2.1 | exact (hW).2.2.2.2.2.1.2.2.2 | exact (hW).2.2.2.2.2.2 | exact (hW).2.2.2.2.2.2.1 | exact (hW).2.2.2.2.2.2.1.1 | exact (hW).2.2.2.2.2.2.1.2 | exact (hW).2.2.2.2.2.2.1.2.1 | exact (hW).2.2.2.2.2.2.1.2.2.1 | exact (hW).2.2.2.2.2.2.1.2.2.2.1 | exact (hW).2.2.2.2.2.2.1.2.2.2 | exact (hW).2.2.2.2.2.2.2 | exact (hW).2.2.2.2.2.2.2.1 | exact (hW).2.2.2.2.2.2.2.1.1 | exact (hW).2.2.2.2.2.2.2.1.2 | exact (hW).2.2.2.2.2.2.2.1.2.1 | exact (hW).2.2.2.2.2.2.2.1.2.2.1 | exact (hW).2.2.2.2.2.2.2.1.2.2.2.1 | exact (hW).2.2.2.2.2.2.2.1.2.2.2 | exact (hW).2.2.2.2.2.2.2.2 | exact (hW).2.2.2.2.2.2.2.2.1 | exact (hW).2.2.2.2.2.2.2.2.1.1 | exact (hW).2.2.2.2.2.2.2.2.1.2 | exact (hW).2.2.2.2.2.2.2.2.1.2.1 | exact (hW).2.2.2.2.2.2.2.2.1.2.2.1 | exact (hW).2.2.2.2.2.2.2.2.1.2.2.2.1 | exact (hW).2.2.2.2.2.2.2.2.1.2.2.2 | exact (hW).2.2.2.2.2.2.2.2.2), (by first | exact (hW) | exact (hW).1 | exact (hW).1.1 | exact (hW).1.2 | exact (hW).1.2.1 | exact (hW).1.2.2.1 | exact (hW).1.2.2.2.1 | exact (hW).1.2.2.2 | exact (hW).2 | exact (hW).2.1 | exact (hW).2.1.1 | exact (hW).2.1.2 | exact (hW).2.1.2.1 | exact (hW).2.1.2.2.1 | exact (hW).2.1.2.2.2.1 | exact (hW).2.1.2.2.2 | exact (hW).2.2 | exact (hW).2.2.1 | exact (hW).2.2.1.1 | exact (hW).2.2.1.2 | exact (hW).2.2.1.2.1 | exact (hW).2.2.1.2.2.1 | exact (hW).2.2.1.2.2.2.1 | exact (hW).2.2.1.2.2.2 | exact (hW).2.2.2 | exact (hW).2.2.2.1 | exact (hW).2.2.2.1.1 | exact (hW).2.2.2.1.2 | exact (hW).2.2.2.1.2.1 | exact (hW).2.2.2.1.2.2.1 | exact (hW).2.2.2.1.2.2.2.1 | exact (hW).2.2.2.1.2.2.2 | exact (hW).2.2.2.2 | exact (hW).2.2.2.2.1 | exact (hW).2.2.2.2.1.1 | exact (hW).2.2.2.2.1.2 | exact (hW).2.2.2.2.1.2.1 | exact (hW).2.2.2.2.1.2.2.1 | exact (hW).2.2.2.2.1.2.2.2.1 | exact (hW).2.2.2.2.1.2.2.2 | exact (hW).2.2.2.2.2 | exact (hW).2.2.2.2.2.1 | exact (hW).2.2.2.2.2.1.1 | exact (hW).2.2.2.2.2.1.2 | exact (hW).2.2.2.2.2.1.2.1 | exact (hW).2.2.2.2.2.1.2.2.1 | exact (hW).2.2.2.2.2.1.2.2.2.1 | exact (hW).2.2.2.2.2.1.2.2.2 | exact (hW).2.2.2.2.2.2 | exact (hW).2.2.2.2.2.2.1 | exact (hW).2.2.2.2.2.2.1.1 | exact (hW).2.2.2.2.2.2.1.2 | exact (hW).2.2.2.2.2.2.1.2.1 | exact (hW).2.2.2.2.2.2.1.2.2.1 | exact (hW).2.2.2.2.2.2.1.2.2.2.1 | exact (hW).2.2.2.2.2.2.1.2.2.2 | exact (hW).2.2.2.2.2.2.2 | exact (hW).2.2.2.2.2.2.2.1 | exact (hW).2.2.2.2.2.2.2.1.1 | exact (hW).2.2.2.2.2.2.2.1.2 | exact (hW).2.2.2.2.2.2.2.1.2.1 | exact (hW).2.2.2.2.2.2.2.1.2.2.1 | exact (hW).2.2.2.2.2.2.2.1.2.2.2.1 | exact (hW).2.2.2.2.2.2.2.1.2.2.2 | exact (hW).2.2.2.2.2.2.2.2 | exact (hW).2.2.2.2.2.2.2.2.1 | exact (hW).2.2.2.2.2.2.2.2.1.1 | exact (hW).2.2.2.2.2.2.2.2.1.2 | exact (hW).2.2.2.2.2.2.2.2.1.2.1 | exact (hW).2.2.2.2.2.2.2.2.1.2.2.1 | exact (hW).2.2.2.2.2.2.2.2.1.2.2.2.1 | exact (hW).2.2.2.2.2.2.2.2.1.2.2.2 | exact (hW).2.2.2.2.2.2.2.2.2)⟩
            · simp
          · simp (maxSteps := 2000000) -implicitDefEqProofs [hN, he, hk, hnx]
            intro g13
            have hxi : x ∈ s.inos := by
              cases has with
              | true => exact (hx.2.1 rfl).1
              | false =>
                have := (hx.2.2 rfl).1
                simp only at this
                rw [this] at hk
                exact absurd hk (by decide)
            have hxo := h4.ok x hxi
            refine call0 ok rfl rfl rfl (fun w I hI hG => mod0 w I hI p.n 8 (by decide) (by decide)) fun kv W hkv => ?_
            have hkb : 0 ≤ kv ∧ kv < 8 := by rw [hkv]; exact ⟨Int.emod_nonneg _ (by decide), Int.emod_lt_of_pos _ (by decide)⟩
            have e7 : IntKind.i64.wrap (kv + 1) = kv + 1 := w64 (by omega) (by omega)
            have e8 : IntKind.i64.wrap ((kv + 1) * 16) = (kv + 1) * 16 := w64 (by omega) (by omega)
            have e9 : IntKind.i64.wrap ((nx : Int) + 1) = (nx + 1 : Nat) := by rw [w64 (by omega) (by omega)]; omega
            simp (maxSteps := 2000000) -implicitDefEqProofs [hN]
            refine call0 ok rfl rfl rfl (fun w I hI hG => setRun0 w I hI x.runs kv (nx : Nat) (fun W e => ⟨rfl, ((by first | exact (hG W e) | exact (hG W e).1 | exact (hG W e).1.1 | exact (hG W e).1.2 | exact (hG W e).1.2.1 | exact (hG W e).1.2.2.1 | exact (hG W e).1.2.2.2.1 | exact (hG W e).1.2.2.2 | exact (hG W e).2 | exact (hG W e).2.1 | exact (hG W e).2.1.1 | exact (hG W e).2.1.2 | exact (hG W e).2.1.2.1 | exact (hG W e).2.1.2.2.1 | exact (hG W e).2.1.2.2.2.1 | exact (hG W e).2.1.2.2.2 | exact (hG W e).2.2 | exact (hG W e).2.2.1 | exact (hG W e).2.2.1.1 | exact (hG W e).2.2.1.2 | exact (hG W e).2.2.1.2.1 | exact (hG W e).2.2.1.2.2.1 | exact (hG W e).2.2.1.2.2.2.1 | exact (hG W e).2.2.1.2.2.2 | exact (hG W e).2.2.2 | exact (hG W e).2.2.2.1 | exact (hG W e).2.2.2.1.1 | exact (hG W e).2.2.2.1.2 | exact (hG W e).2.2.2.1.2.1 | exact (hG W e).2.2.2.1.2.2.1 | exact (hG W e).2.2.2.1.2.2.2.1 | exact (hG W e).2.2.2.1.2.2.2 | exact (hG W e).2.2.2.2 | exact (hG W e).2.2.2.2.1 | exact (hG W e).2.2.2.2.1.1 | exact (hG W e).2.2.2.2.1.2 | exact (hG W e).2.2.2.2.1.2.1 | exact (hG W e).2.2.2.2.1.2.2.1 | exact (hG W e).2.2.2.2.1.2.2.2.1 | exact (hG W e).2.2.2.2.1.2.2.2 | exact (hG W e).2.2.2.2.2 | exact (hG W e).2.2.2.2.2.1 | exact (hG W e).2.2.2.2.2.1.1 | exact (hG W e).2.2.2.2.2.1.2 | exact (hG W e).2.2.2.2.2.1.2.1 | exact (hG W e).2.2.2.2.2.1.2.2.1 | exact (hG W e).2.2.2.2.2.1.2.2.2.1 | exact (hG W e).2.2.2.2.2.1.2.2.2 | exact (hG W e).2.2.2.2.2.2 | exact (hG W e).2.2.2.2.2.2.1 | exact (hG W e).2.2.2.2.2.2.1.1 | exact (hG W e).2.2.2.2.2.2.1.2 | exact (hG W e).2.2.2.2.2.2.1.2.1 | exact (hG W e).2.2.2.2.2.2.1.2.2.1 | exact (hG W e).2.2.2.2.2.2.1.2.2.2.1 | exact (hG W e).2.2.2.2.2.2.1.2.2.2 | exact (hG W e).2.2.2.2.2.2.2 | exact (hG W e).2.2.2.2.2.2.2.1 | exact (hG W e).2.2.2.2.2.2.2.1.1 | exact (hG W e).2.2.2.2.2.2.2.1.2 | exact (hG W e).2.2.2.2.2.2.2.1.2.1 | exact (hG W e).2.2.2.2.2.2.2.1.2.2.1 | exact (hG W e).2.2.2.2.2.2.2.1.2.2.2.1 | exact (hG W e).2.2.2.2.2.2.2.1.2.2.2 | exact (hG W e).2.2.2.2.2.2.2.2 | exact (hG W e).2.2.2.2.2.2.2.2.1 | exact (hG W e).2.2.2.2.2.2.2.2.1.1 | exact (hG W e).2.2.2.2.2.2.2.2.1.2 | exact (hG W e).2.2.2.2.2.2.2.2.1.2.1 | exact (hG W e).2.2.2.2.2.2.2.2.1.2.2.1 | exact (hG W e).2.2.2.2.2.2.2.2.1.2.2.2.1 | exact (hG W e).2.2.2.2.2.2.2.2.1.2.2.2 | exact (hG W e).2.2.2.2.2.2.2.2.2) : InoR W x (xa, xc) (ya, yc)).2⟩)) fun r W hr => ?_
            obtain ⟨ra, rn, rc⟩ := r
            obtain rfl : rn = (setRunL x.runs kv (nx : Nat)).length := hr.1
            obtain ⟨hrr, M, hM, hperm⟩ := setRun_pages hxo.right (x := kv) (p := (nx : Nat)) ⟨hkb.1, by omega⟩ ⟨by omega, by omega⟩
            generalize hR : setRunL x.runs kv (nx : Nat) = R at hrr hperm
            simp (maxSteps := 2000000) -implicitDefEqProofs [hN, e7, e8, e9, hR]
            intro g87
            obtain ⟨z, hz⟩ : ∃ z : Ino, z = ⟨x.no, 1, x.links, if x.size < (kv + 1) * 16 then (kv + 1) * 16 else x.size, x.target, x.ents, R⟩ := ⟨_, rfl⟩
            have hzo : InoOk z := by rw [hz]; exact ⟨hrr, hxo.ents, hxo.names, hxo.tgt⟩
            have hfin : Fine (applyL s [⟨2, 0, z⟩]) (nx + 1 : Nat) (i + 1) := by
              have e : applyL s [⟨2, 0, z⟩] = { s with inos := putInoL s.inos z } := by
                show applyOne s ⟨2, 0, z⟩ = _
                rw [applyOne, if_neg (show ¬ (2 : Int) = 1 by decide), if_pos rfl]
              rw [e]
              have := fine_page (x := z) h4 hxi (by rw [hz]) hzo hM (by rw [hz]; exact hperm) (by omega)
              simpa using this
            refine pub 87 rfl (by decide) ?_
            refine call0 ok rfl rfl rfl (fun w I hI hG => refApply0 w I hI s (sia, sic) (sba, sbc) (a := some ⟨g87, 0, none⟩) (n := 1) (c := 1) [⟨2, 0, z⟩] (fun W e => ((by first | exact (hG W e) | exact (hG W e).1 | exact (hG W e).1.1 | exact (hG W e).1.2 | exact (hG W e).1.2.1 | exact (hG W e).1.2.2.1 | exact (hG W e).1.2.2.2.1 | exact (hG W e).1.2.2.2 | exact (hG W e).2 | exact (hG W e).2.1 | exact (hG W e).2.1.1 | exact (hG W e).2.1.2 | exact (hG W e).2.1.2.1 | exact (hG W e).2.1.2.2.1 | exact (hG W e).2.1.2.2.2.1 | exact (hG W e).2.1.2.2.2 | exact (hG W e).2.2 | exact (hG W e).2.2.1 | exact (hG W e).2.2.1.1 | exact (hG W e).2.2.1.2 | exact (hG W e).2.2.1.2.1 | exact (hG W e).2.2.1.2.2.1 | exact (hG W e).2.2.1.2.2.2.1 | exact (hG W e).2.2.1.2.2.2 | exact (hG W e).2.2.2 | exact (hG W e).2.2.2.1 | exact (hG W e).2.2.2.1.1 | exact (hG W e).2.2.2.1.2 | exact (hG W e).2.2.2.1.2.1 | exact (hG W e).2.2.2.1.2.2.1 | exact (hG W e).2.2.2.1.2.2.2.1 | exact (hG W e).2.2.2.1.2.2.2 | exact (hG W e).2.2.2.2 | exact (hG W e).2.2.2.2.1 | exact (hG W e).2.2.2.2.1.1 | exact (hG W e).2.2.2.2.1.2 | exact (hG W e).2.2.2.2.1.2.1 | exact (hG W e).2.2.2.2.1.2.2.1 | exact (hG W e).2.2.2.2.1.2.2.2.1 | exact (hG W e).2.2.2.2.1.2.2.2 | exact (hG W e).2.2.2.2.2 | exact (hG W e).2.2.2.2.2.1 | exact (hG W e).2.2.2.2.2.1.1 | exact (hG W e).2.2.2.2.2.1.2 | exact (hG W e).2.2.2.2.2.1.2.1 | exact (hG W e).2.2.2.2.2.1.2.2.1 | exact (hG W e).2.2.2.2.2.1.2.2.2.1 | exact (hG W e).2.2.2.2.2.1.2.2.2 | exact (hG W e).2.2.2.2.2.2 | exact (hG W e).2.2.2.2.2.2.1 | exact (hG W e).2.2.2.2.2.2.1.1 | exact (hG W e).2.2.2.2.2.2.1.2 | exact (hG W e).2.2.2.2.2.2.1.2.1 | exact (hG W e).2.2.2.2.2.2.1.2.2.1 | exact (hG W e).2.2.2.2.2.2.1.2.2.2.1 | exact (hG W e).2.2.2.2.2.2.1.2.2.2 | exact (hG W e).2.2.2.2.2.2.2 | exact (hG W e).2.2.2.2.2.2.2.1 | exact (hG W e).2.2.2.2.2.2.2.1.1 | exact (hG W e).2.2.2.2.2.2.2.1.2 | exact (hG W e).2.2.2.2.2.2.2.1.2.1 | exact (hG W e).2.2.2.2.2.2.2.1.2.2.1 | exact (hG W e).2.2.2.2.2.2.2.1.2.2.2.1 | exact (hG W e).2.2.2.2.2.2.2.1.2.2.2 | exact (hG W e).2.2.2.2.2.2.2.2 | exact (hG W e).2.2.2.2.2.2.2.2.1 | exact (hG W e).2.2.2.2.2.2.2.2.1.1 | exact (hG W e).2.2.2.2.2.2.2.2.1.2 | exact (hG W e).2.2.2.2.2.2.2.2.1.2.1 | exact (hG W e).2.2.2.2.2.2.2.2.1.2.2.1 | exact (hG W e).2.2.2.2.2.2.2.2.1.2.2.2.1 | exact (hG W e).2.2.2.2.2.2.2.2.1.2.2.2 | exact (hG W e).2.2.2.2.2.2.2.2.2) : StaR W s (sia, sic) (sba, sbc))) (fun W e => ⟨rfl, dees_sl (l := [(⟨2, 0, z⟩, (xa, xc), (ra, rc))]) (e := 46) (by rw [hz]; exact (hG W e).1) (fun y hy => by
              rw [List.mem_singleton.1 hy, hz]
              exact ⟨((by first | exact (hG W e) | exact (hG W e).1 | exact (hG W e).1.1 | exact (hG W e).1.2 | exact (hG W e).1.2.1 | exact (hG W e).1.2.2.1 | exact (hG W e).1.2.2.2.1 | exact (hG W e).1.2.2.2 | exact (hG W e).2 | exact (hG W e).2.1 | exact (hG W e).2.1.1 | exact (hG W e).2.1.2 | exact (hG W e).2.1.2.1 | exact (hG W e).2.1.2.2.1 | exact (hG W e).2.1.2.2.2.1 | exact (hG W e).2.1.2.2.2 | exact (hG W e).2.2 | exact (hG W e).2.2.1 | exact (hG W e).2.2.1.1 | exact (hG W e).2.2.1.2 | exact (hG W e).2.2.1.2.1 | exact (hG W e).2.2.1.2.2.1 | exact (hG W e).2.2.1.2.2.2.1 | exact (hG W e).2.2.1.2.2.2 | exact (hG W e).2.2.2 | exact (hG W e).2.2.2.1 | exact (hG W e).2.2.2.1.1 | exact (hG W e).2.2.2.1.2 | exact (hG W e).2.2.2.1.2.1 | exact (hG W e).2.2.2.1.2.2.1 | exact (hG W e).2.2.2.1.2.2.2.1 | exact (hG W e).2.2.2.1.2.2.2 | exact (hG W e).2.2.2.2 | exact (hG W e).2.2.2.2.1 | exact (hG W e).2.2.2.2.1.1 | exact (hG W e).2.2.2.2.1.2 | exact (hG W e).2.2.2.2.1.2.1 | exact (hG W e).2.2.2.2.1.2.2.1 | exact (hG W e).2.2.2.2.1.2.2.2.1 | exact (hG W e).2.2.2.2.1.2.2.2 | exact (hG W e).2.2.2.2.2 | exact (hG W e).2.2.2.2.2.1 | exact (hG W e).2.2.2.2.2.1.1 | exact (hG W e).2.2.2.2.2.1.2 | exact (hG W e).2.2.2.2.2.1.2.1 | exact (hG W e).2.2.2.2.2.1.2.2.1 | exact (hG W e).2.2.2.2.2.1.2.2.2.1 | exact (hG W e).2.2.2.2.2.1.2.2.2 | exact (hG W e).2.2.2.2.2.2 | exact (hG W e).2.2.2.2.2.2.1 | exact (hG W e).2.2.2.2.2.2.1.1 | exact (hG W e).2.2.2.2.2.2.1.2 | exact (hG W e).2.2.2.2.2.2.1.2.1 | exact (hG W e).2.2.2.2.2.2.1.2.2.1 | exact (hG W e).2.2.2.2.2.2.1.2.2.2.1 | exact (hG W e).2.2.2.2.2.2.1.2.2.2 | exact (hG W e).2.2.2.2.2.2.2 | exact (hG W e).2.2.2.2.2.2.2.1 | exact (hG W e).2.2.2.2.2.2.2.1.1 | exact (hG W e).2.2.2.2.2.2.2.1.2 | exact (hG W e).2.2.2.2.2.2.2.1.2.1 | exact (hG W e).2.2.2.2.2.2.2.1.2.2.1 | exact (hG W e).2.2.2.2.2.2.2.1.2.2.2.1 | exact (hG W e).2.2.2.2.2.2.2.1.2.2.2 | exact (hG W e).2.2.2.2.2.2.2.2 | exact (hG W e).2.2.2.2.2.2.2.2.1 | exact (hG W e).2.2.2.2.2.2.2.2.1.1 | exact (hG W e).2.2.2.2.2.2.2.2.1.2 | exact (hG W e).2.2.2.2.2.2.2.2.1.2.1 | exact (hG W e).2.2.2.2.2.2.2.2.1.2.2.1 | exact (hG W e).2.2.2.2.2.2.2.2.1.2.2.2.1 | exact (hG W e).2.2.2.2.2.2.2.2.1.2.2.2 | exact (hG W e).2.2.2.2.2.2.2.2.2) : InoR W x (xa, xc) (ya, yc)).1, ((by first | exact (hG W e) | exact (hG W e).1 | exact (hG W e).1.1 | exact (hG W e).1.2 | exact (hG W e).1.2.1 | exact (hG W e).1.2.2.1 | exact (hG W e).1.2.2.2.1 | exact (hG W e).1.2.2.2 | exact (hG W e).2 | exact (hG W e).2.1 | exact (hG W e).2.1.1 | exact (hG W e).2.1.2 | exact (hG W e).2.1.2.1 | exact (hG W e).2.1.2.2.1 | exact (hG W e).2.1.2.2.2.1 | exact (hG W e).2.1.2.2.2 | exact (hG W e).2.2 | exact (hG W e).2.2.1 | exact (hG W e).2.2.1.1 | exact (hG W e).2.2.1.2 | exact (hG W e).2.2.1.2.1 | exact (hG W e).2.2.1.2.2.1 | exact (hG W e).2.2.1.2.2.2.1 | exact (hG W e).2.2.1.2.2.2 | exact (hG W e).2.2.2 | exact (hG W e).2.2.2.1 | exact (hG W e).2.2.2.1.1 | exact (hG W e).2.2.2.1.2 | exact (hG W e).2.2.2.1.2.1 | exact (hG W e).2.2.2.1.2.2.1 | exact (hG W e).2.2.2.1.2.2.2.1 | exact (hG W e).2.2.2.1.2.2.2 | exact (hG W e).2.2.2.2 | exact (hG W e).2.2.2.2.1 | exact (hG W e).2.2.2.2.1.1 | exact (hG W e).2.2.2.2.1.2 | exact (hG W e).2.2.2.2.1.2.1 | exact (hG W e).2.2.2.2.1.2.2.1 | exact (hG W e).2.2.2.2.1.2.2.2.1 | exact (hG W e).2.2.2.2.1.2.2.2 | exact (hG W e).2.2.2.2.2 | exact (hG W e).2.2.2.2.2.1 | exact (hG W e).2.2.2.2.2.1.1 | exact (hG W e).2.2.2.2.2.1.2 | exact (hG W e).2.2.2.2.2.1.2.1 | exact (hG W e).2.2.2.2.2.1.2.2.1 | exact (hG W e).2.2.2.2.2.1.2.2.2.1 | exact (hG W e).2.2.2.2.2.1.2.2.2 | exact (hG W e).2.2.2.2.2.2 | exact (hG W e).2.2.2.2.2.2.1 | exact (hG W e).2.2.2.2.2.2.1.1 | exact (hG W e).2.2.2.2.2.2.1.2 | exact (hG W e).2.2.2.2.2.2.1.2.1 | exact (hG W e).2.2.2.2.2.2.1.2.2.1 | exact (hG W e).2.2.2.2.2.2.1.2.2.2.1 | exact (hG W e).2.2.2.2.2.2.1.2.2.2 | exact (hG W e).2.2.2.2.2.2.2 | exact (hG W e).2.2.2.2.2.2.2.1 | exact (hG W e).2.2.2.2.2.2.2.1.1 | exact (hG W e).2.2.2.2.2.2.2.1.2 | exact (hG W e).2.2.2.2.2.2.2.1.2.1 | exact (hG W e).2.2.2.2.2.2.2.1.2.2.1 | exact (hG W e).2.2.2.2.2.2.2.1.2.2.2.1 | exact (hG W e).2.2.2.2.2.2.2.1.2.2.2 | exact (hG W e).2.2.2.2.2.2.2.2 | exact (hG W e).2.2.2.2.2.2.2.2.1 | exact (hG W e).2.2.2.2.2.2.2.2.1.1 | exact (hG W e).2.2.2.2.2.2.2.2.1.2 | exact (hG W e).2.2.2.2.2.2.2.2.1.2.1 | exact (hG W e).2.2.2.2.2.2.2.2.1.2.2.1 | exact (hG W e).2.2.2.2.2.2.2.2.1.2.2.2.1 | exact (hG W e).2.2.2.2.2.2.2.2.1.2.2.2 | exact (hG W e).2.2.2.2.2.2.2.2.2) : Sv.ok dRn W (ra, R.length, rc) R).2⟩) (by simp)⟩) (by simp; omega)) fun y W _ => ?_
            obtain ⟨⟨na, nc⟩, ⟨ma, mc⟩⟩ := y
            simp (maxSteps := 2000000) -implicitDefEqProofs [hN, e6]
            refine next ⟨i + 1, applyL s [⟨2, 0, z⟩], (na, nc), (ma, mc), nx + 1⟩ _ _ ?_ ?_ ?_
            · simp only; omega
            · exact fun W hW => ⟨⟨hlt, hlt2, hW.1, hfin, by simp only; omega⟩, (by first | exact (hW) | exact (hW).1 | exact (hW).1.1 | exact (hW).1.2 | exact (hW).1.2.1 | exact (hW).1.2.2.1 | exact (hW).1.2.2.2.1 | exact (hW).1.2.2.2 | exact (hW).2 | exact (hW).2.1 | exact (hW).2.1.1 | exact (hW).2.1.2 | exact (hW).2.1.2.1 | exact (hW).2.1.2.2.1 | exact (hW).2.1.2.2.2.1 | exact (hW).2.1.2.2.2 | exact (hW).2.2 | exact (hW).2.2.1 | exact (hW).2.2.1.1 | exact (hW).2.2.1.2 | exact (hW).2.2.1.2.1 | exact (hW).2.2.1.2.2.1 | exact (hW).2.2.1.2.2.2.1 | exact (hW).2.2.1.2.2.2 | exact (hW).2.2.2 | exact (hW).2.2.2.1 | exact (hW).2.2.2.1.1 | exact (hW).2.2.2.1.2 | exact (hW).2.2.2.1.2.1 | exact (hW).2.2.2.1.2.2.1 | exact (hW).2.2.2.1.2.2.2.1 | exact (hW).2.2.2.1.2.2.2 | exact (hW).2.2.2.2 | exact (hW).2.2.2.2.1 | exact (hW).2.2.2.2.1.1 | exact (hW).2.2.2.2.1.2 | exact (hW).2.2.2.2.1.2.1 | exact (hW).2.2.2.2.1.2.2.1 | exact (hW).2.2.2.2.1.2.2.2.1 | exact (hW).2.2.2.2.1.2.2.2 | exact (hW).2.2.2.2.2 | exact (hW).2.2.2.2.2.1 | exact (hW).2.2.2.2.2.1.1 | exact (hW).2.2.2.2.2.1.2 | exact (hW).2.2.2.2.2.1.2.1 | exact (hW).2.2.2.2.2.1.2.2.1 | exact (hW).2.2.2.2.2.1.2.2.2.1 | exact (hW).2.2.2.2.2.1.2.2.2 | exact (hW).2.2.2.2.2.2 | exact (hW).2.2.2.2.2.2.1 | exact (hW).2.2.2.2.2.2.1.1 | exact (hW).2.2.2.2.2.2.1.2 | exact (hW).2.2.2.2.2.2.1.2.1 | exact (hW).2.2.2.2.2.2.1.2.2.1 | exact (hW).2.2.2.2.2.2.1.2.2.2.1 | exact (hW).2.2.2.2.2.2.1.2.2.2 | exact (hW).2.2.2.2.2.2.2 | exact (hW).2.2.2.2.2.2.2.1 | exact (hW).2.2.2.2.2.2.2.1.1 | exact (hW).2.2.2.2.2.2.2.1.2 | exact (hW).2.2.2.2.2.2.2.1.2.1 | exact (hW).2.2.2.2.2.2.2.1.2.2.1 | exact (hW).2.2.2.2.2.2.2.1.2.2.2.1 | exact (hW).2.2.2.2.2.2.2.1.2.2.2 | exact (hW).2.2.2.2.2.2.2.2 | exact (hW).2.2.2.2.2.2.2.2.1 | exact (hW).2.2.2.2.2.2.2.2.1.1 | exact (hW).2.2.2.2.2.2.2.2.1.2 | exact (hW).2.2.2.2.2.2.2.2.1.2.1 | exact (hW).2.2.2.2.2.2.2.2.1.2.2.1 | exact (hW).2.2.2.2.2.2.2.2.1.2.2.2.1 | exact (hW).2.2.2.2.2.2.2.2.1.2.2.2 | exact (hW).2.2.2.2.2.2.2.2.2)⟩
            · simp
        · simp (maxSteps := 2000000) -implicitDefEqProofs [hN, he, hk, e6]
          intro g13
          refine next ⟨i + 1, s, (sia, sic), (sba, sbc), nx⟩ _ _ ?_ ?_ ?_
          · simp only; omega
          · exact fun W hW => ⟨again W (by first | exact (hW) | exact (hW).1 | exact (hW).1.1 | exact (hW).1.2 | exact (hW).1.2.1 | exact (hW).1.2.2.1 | exact (hW).1.2.2.2.1 | exact (hW).1.2.2.2 | exact (hW).2 | exact (hW).2.1 | exact (hW).2.1.1 | exact (hW).2.1.2 | exact (hW).2.1.2.1 | exact (hW).2.1.2.2.1 | exact (hW).2.1.2.2.2.1 | exact (hW).2.1.2.2.2 | exact (hW).2.2 | exact (hW).2.2.1 | exact (hW).2.2.1.1 | exact (hW).2.2.1.2 | exact (hW).2.2.1.2.1 | exact (hW).2.2.1.2.2.1 | exact (hW).2.2.1.2.2.2.1 | exact (hW).2.2.1.2.2.2 | exact (hW).2.2.2 | exact (hW).2.2.2.1 | exact (hW).2.2.2.1.1 | exact (hW).2.2.2.1.2 | exact (hW).2.2.2.1.2.1 | exact (hW).2.2.2.1.2.2.1 | exact (hW).2.2.2.1.2.2.2.1 | exact (hW).2.2.2.1.2.2.2 | exact (hW).2.2.2.2 | exact (hW).2.2.2.2.1 | exact (hW).2.2.2.2.1.1 | exact (hW).2.2.2.2.1.2 | exact (hW).2.2.2.2.1.2.1 | exact (hW).2.2.2.2.1.2.2.1 | exact (hW).2.2.2.2.1.2.2.2.1 | exact (hW).2.2.2.2.1.2.2.2 | exact (hW).2.2.2.2.2 | exact (hW).2.2.2.2.2.1 | exact (hW).2.2.2.2.2.1.1 | exact (hW).2.2.2.2.2.1.2 | exact (hW).2.2.2.2.2.1.2.1 | exact (hW).2.2.2.2.2.1.2.2.1 | exact (hW).2.2.2.2.2.1.2.2.2.1 | exact (hW).2.2.2.2.2.1.2.2.2 | exact (hW).2.2.2.2.2.2 | exact (hW).2.2.2.2.2.2.1 | exact (hW).2.2.2.2.2.2.1.1 | exact (hW).2.2.2.2.2.2.1.2 | exact (hW).2.2.2.2.2.2.1.2.1 | exact (hW).2.2.2.2.2.2.1.2.2.1 | exact (hW).2.2.2.2.2.2.1.2.2.2.1 | exact (hW).2.2.2.2.2.2.1.2.2.2 | exact (hW).2.2.2.2.2.2.2 | exact (hW).2.2.2.2.2.2.2.1 | exact (hW).2.2.2.2.2.2.2.1.1 | exact (hW).2.2.2.2.2.2.2.1.2 | exact (hW).2.2.2.2.2.2.2.1.2.1 | exact (hW).2.2.2.2.2.2.2.1.2.2.1 | exact (hW).2.2.2.2.2.2.2.1.2.2.2.1 | exact (hW).2.2.2.2.2.2.2.1.2.2.2 | exact (hW).2.2.2.2.2.2.2.2 | exact (hW).2.2.2.2.2.2.2.2.1 | exact (hW).2.2.2.2.2.2.2.2.1.1 | exact (hW).2.2.2.2.2.2.2.2.1.2 | exact (hW).2.2.2.2.2.2.2.2.1.2.1 | exact (hW).2.2.2.2.2.2.2.2.1.2.2.1 | exact (hW).2.2.2.2.2.2.2.2.1.2.2.2.1 | exact (hW).2.2.2.2.2.2.2.2.1.2.2.2 | exact (hW).2.2.2.2.2.2.2.2.2), (by first | exact (hW) | exact (hW).1 | exact (hW).1.1 | exact (hW).1.2 | exact (hW).1.2.1 | exact (hW).1.2.2.1 | exact (hW).1.2.2.2.1 | exact (hW).1.2.2.2 | exact (hW).2 | exact (hW).2.1 | exact (hW).2.1.1 | exact (hW).2.1.2 | exact (hW).2.1.2.1 | exact (hW).2.1.2.2.1 | exact (hW).2.1.2.2.2.1 | exact (hW).2.1.2.2.2 | exact (hW).2.2 | exact (hW).2.2.1 | exact (hW).2.2.1.1 | exact (hW).2.2.1.2 | exact (hW).2.2.1.2.1 | exact (hW).2.2.1.2.2.1 | exact (hW).2.2.1.2.2.2.1 | exact (hW).2.2.1.2.2.2 | exact (hW).2.2.2 | exact (hW).2.2.2.1 | exact (hW).2.2.2.1.1 | exact (hW).2.2.2.1.2 | exact (hW).2.2.2.1.2.1 | exact (hW).2.2.2.1.2.2.1 | exact (hW).2.2.2.1.2.2.2.1 | exact (hW).2.2.2.1.2.2.2 | exact (hW).2.2.2.2 | exact (hW).2.2.2.2.1 | exact (hW).2.2.2.2.1.1 | exact (hW).2.2.2.2.1.2 | exact (hW).2.2.2.2.1.2.1 | exact (hW).2.2.2.2.1.2.2.1 | exact (hW).2.2.2.2.1.2.2.2.1 | exact (hW).2.2.2.2.1.2.2.2 | exact (hW).2.2.2.2.2 | exact (hW).2.2.2.2.2.1 | exact (hW).2.2.2.2.2.1.1 | exact (hW).2.2.2.2.2.1.2 | exact (hW).2.2.2.2.2.1.2.1 | exact (hW).2.2.2.2.2.1.2.2.1 | exact (hW).2.2.2.2.2.1.2.2.2.1 | exact (hW).2.2.2.2.2.1.2.2.2 | exact (hW).2.2.2.2.2.2 | exact (hW).2.2.2.2.2.2.1 | exact (hW).2.2.2.2.2.2.1.1 | exact (hW).2.2.2.2.2.2.1.2 | exact (hW).2.2.2.2.2.2.1.2.1 | exact (hW).2.2.2.2.2.2.1.2.2.1 | exact (hW).2.2.2.2.2.2.1.2.2.2.1 | exact (hW).2.2.2.2.2.2.1.2.2.2 | exact (hW).2.2.2.2.2.2.2 | exact (hW).2.2.2.2.2.2.2.1 | exact (hW).2.2.2.2.2.2.2.1.1 | exact (hW).2.2.2.2.2.2.2.1.2 | exact (hW).2.2.2.2.2.2.2.1.2.1 | exact (hW).2.2.2.2.2.2.2.1.2.2.1 | exact (hW).2.2.2.2.2.2.2.1.2.2.2.1 | exact (hW).2.2.2.2.2.2.2.1.2.2.2 | exact (hW).2.2.2.2.2.2.2.2 | exact (hW).2.2.2.2.2.2.2.2.1 | exact (hW).2.2.2.2.2.2.2.2.1.1 | exact (hW).2.2.2.2.2.2.2.2.1.2 | exact (hW).2.2.2.2.2.2.2.2.1.2.1 | exact (hW).2.2.2.2.2.2.2.2.1.2.2.1 | exact (hW).2.2.2.2.2.2.2.2.1.2.2.2.1 | exact (hW).2.2.2.2.2.2.2.2.1.2.2.2 | exact (hW).2.2.2.2.2.2.2.2.2)⟩
          · simp
      · simp (maxSteps := 2000000) -implicitDefEqProofs [hN, he, e6]
        intro g13
        refine next ⟨i + 1, s, (sia, sic), (sba, sbc), nx⟩ _ _ ?_ ?_ ?_
        · simp only; omega
        · exact fun W hW => ⟨again W (by first | exact (hW) | exact (hW).1 | exact (hW).1.1 | exact (hW).1.2 | exact (hW).1.2.1 | exact (hW).1.2.2.1 | exact (hW).1.2.2.2.1 | exact (hW).1.2.2.2 | exact (hW).2 | exact (hW).2.1 | exact (hW).2.1.1 | exact (hW).2.1.2 | exact (hW).2.1.2.1 | exact (hW).2.1.2.2.1 | exact (hW).2.1.2.2.2.1 | exact (hW).2.1.2.2.2 | exact (hW).2.2 | exact (hW).2.2.1 | exact (hW).2.2.1.1 | exact (hW).2.2.1.2 | exact (hW).2.2.1.2.1 | exact (hW).2.2.1.2.2.1 | exact (hW).2.2.1.2.2.2.1 | exact (hW).2.2.1.2.2.2 | exact (hW).2.2.2 | exact (hW).2.2.2.1 | exact (hW).2.2.2.1.1 | exact (hW).2.2.2.1.2 | exact (hW).2.2.2.1.2.1 | exact (hW).2.2.2.1.2.2.1 | exact (hW).2.2.2.1.2.2.2.1 | exact (hW).2.2.2.1.2.2.2 | exact (hW).2.2.2.2 | exact (hW).2.2.2.2.1 | exact (hW).2.2.2.2.1.1 | exact (hW).2.2.2.2.1.2 | exact (hW).2.2.2.2.1.2.1 | exact (hW).2.2.2.2.1.2.2.1 | exact (hW).2.2.2.2.1.2.2.2.1 | exact (hW).2.2.2.2.1.2.2.2 | exact (hW).2.2.2.2.2 | exact (hW).2.2.2.2.2.1 | exact (hW).2.2.2.2.2.1.1 | exact (hW).2.2.2.2.2.1.2 | exact (hW).2.2.2.2.2.1.2.1 | exact (hW).2.2.2.2.2.1.2.2.1 | exact (hW).2.2.2.2.2.1.2.2.2.1 | exact (hW).2.2.2.2.2.1.2.2.2 | exact (hW).2.2.2.2.2.2 | exact (hW).2.2.2.2.2.2.1 | exact (hW).2.2.2.2.2.2.1.1 | exact (hW).2.2.2.2.2.2.1.2 | exact (hW).2.2.2.2.2.2.1.2.1 | exact (hW).2.2.2.2.2.2.1.2.2.1 | exact (hW).2.2.2.2.2.2.1.2.2.2.1 | exact (hW).2.2.2.2.2.2.1.2.2.2 | exact (hW).2.2.2.2.2.2.2 | exact (hW).2.2.2.2.2.2.2.1 | exact (hW).2.2.2.2.2.2.2.1.1 | exact (hW).2.2.2.2.2.2.2.1.2 | exact (hW).2.2.2.2.2.2.2.1.2.1 | exact (hW).2.2.2.2.2.2.2.1.2.2.1 | exact (hW).2.2.2.2.2.2.2.1.2.2.2.1 | exact (hW).2.2.2.2.2.2.2.1.2.2.2 | exact (hW).2.2.2.2.2.2.2.2 | exact (hW).2.2.2.2.2.2.2.2.1 | exact (hW).2.2.2.2.2.2.2.2.1.1 | exact (hW).2.2.2.2.2.2.2.2.1.2 | exact (hW).2.2.2.2.2.2.2.2.1.2.1 | exact (hW).2.2.2.2.2.2.2.2.1.2.2.1 | exact (hW).2.2.2.2.2.2.2.2.1.2.2.2.1 | exact (hW).2.2.2.2.2.2.2.2.1.2.2.2 | exact (hW).2.2.2.2.2.2.2.2.2), (by first | exact (hW) | exact (hW).1 | exact (hW).1.1 | exact (hW).1.2 | exact (hW).1.2.1 | exact (hW).1.2.2.1 | exact (hW).1.2.2.2.1 | exact (hW).1.2.2.2 | exact (hW).2 | exact (hW).2.1 | exact (hW).2.1.1 | exact (hW).2.1.2 | exact (hW).2.1.2.1 | exact (hW).2.1.2.2.1 | exact (hW).2.1.2.2.2.1 | exact (hW).2.1.2.2.2 | exact (hW).2.2 | exact (hW).2.2.1 | exact (hW).2.2.1.1 | exact (hW).2.2.1.2 | exact (hW).2.2.1.2.1 | exact (hW).2.2.1.2.2.1 | exact (hW).2.2.1.2.2.2.1 | exact (hW).2.2.1.2.2.2 | exact (hW).2.2.2 | exact (hW).2.2.2.1 | exact (hW).2.2.2.1.1 | exact (hW).2.2.2.1.2 | exact (hW).2.2.2.1.2.1 | exact (hW).2.2.2.1.2.2.1 | exact (hW).2.2.2.1.2.2.2.1 | exact (hW).2.2.2.1.2.2.2 | exact (hW).2.2.2.2 | exact (hW).2.2.2.2.1 | exact (hW).2.2.2.2.1.1 | exact (hW).2.2.2.2.1.2 | exact (hW).2.2.2.2.1.2.1 | exact (hW).2.2.2.2.1.2.2.1 | exact (hW).2.2.2.2.1.2.2.2.1 | exact (hW).2.2.2.2.1.2.2.2 | exact (hW).2.2.2.2.2 | exact (hW).2.2.2.2.2.1 | exact (hW).2.2.2.2.2.1.1 | exact (hW).2.2.2.2.2.1.2 | exact (hW).2.2.2.2.2.1.2.1 | exact (hW).2.2.2.2.2.1.2.2.1 | exact (hW).2.2.2.2.2.1.2.2.2.1 | exact (hW).2.2.2.2.2.1.2.2.2 | exact (hW).2.2.2.2.2.2 | exact (hW).2.2.2.2.2.2.1 | exact (hW).2.2.2.2.2.2.1.1 | exact (hW).2.2.2.2.2.2.1.2 | exact (hW).2.2.2.2.2.2.1.2.1 | exact (hW).2.2.2.2.2.2.1.2.2.1 | exact (hW).2.2.2.2.2.2.1.2.2.2.1 | exact (hW).2.2.2.2.2.2.1.2.2.2 | exact (hW).2.2.2.2.2.2.2 | exact (hW).2.2.2.2.2.2.2.1 | exact (hW).2.2.2.2.2.2.2.1.1 | exact (hW).2.2.2.2.2.2.2.1.2 | exact (hW).2.2.2.2.2.2.2.1.2.1 | exact (hW).2.2.2.2.2.2.2.1.2.2.1 | exact (hW).2.2.2.2.2.2.2.1.2.2.2.1 | exact (hW).2.2.2.2.2.2.2.1.2.2.2 | exact (hW).2.2.2.2.2.2.2.2 | exact (hW).2.2.2.2.2.2.2.2.1 | exact (hW).2.2.2.2.2.2.2.2.1.1 | exact (hW).2.2.2.2.2.2.2.2.1.2 | exact (hW).2.2.2.2.2.2.2.2.1.2.1 | exact (hW).2.2.2.2.2.2.2.2.1.2.2.1 | exact (hW).2.2.2.2.2.2.2.2.1.2.2.2.1 | exact (hW).2.2.2.2.2.2.2.2.1.2.2.2 | exact (hW).2.2.2.2.2.2.2.2.2)⟩
        · simp
    · simp (maxSteps := 2000000) -implicitDefEqProofs [hN, hv]
      refine draw ok [(10, .box g10 141 ((opgC p).map .v))] (by rw [ok.P]; exact mixed) (by kernel_rfl) ?_
      simp (maxSteps := 2000000) -implicitDefEqProofs [hN]
      refine ⟨?_, ?_, ?_⟩
      all_goals
        refine call0 ok rfl rfl rfl (fun w I hI hG => deedsOf0 w I hI s (sia, sic) (sba, sbc) p (fun W e => ((by first | exact (hG W e) | exact (hG W e).1 | exact (hG W e).1.1 | exact (hG W e).1.2 | exact (hG W e).1.2.1 | exact (hG W e).1.2.2.1 | exact (hG W e).1.2.2.2.1 | exact (hG W e).1.2.2.2 | exact (hG W e).2 | exact (hG W e).2.1 | exact (hG W e).2.1.1 | exact (hG W e).2.1.2 | exact (hG W e).2.1.2.1 | exact (hG W e).2.1.2.2.1 | exact (hG W e).2.1.2.2.2.1 | exact (hG W e).2.1.2.2.2 | exact (hG W e).2.2 | exact (hG W e).2.2.1 | exact (hG W e).2.2.1.1 | exact (hG W e).2.2.1.2 | exact (hG W e).2.2.1.2.1 | exact (hG W e).2.2.1.2.2.1 | exact (hG W e).2.2.1.2.2.2.1 | exact (hG W e).2.2.1.2.2.2 | exact (hG W e).2.2.2 | exact (hG W e).2.2.2.1 | exact (hG W e).2.2.2.1.1 | exact (hG W e).2.2.2.1.2 | exact (hG W e).2.2.2.1.2.1 | exact (hG W e).2.2.2.1.2.2.1 | exact (hG W e).2.2.2.1.2.2.2.1 | exact (hG W e).2.2.2.1.2.2.2 | exact (hG W e).2.2.2.2 | exact (hG W e).2.2.2.2.1 | exact (hG W e).2.2.2.2.1.1 | exact (hG W e).2.2.2.2.1.2 | exact (hG W e).2.2.2.2.1.2.1 | exact (hG W e).2.2.2.2.1.2.2.1 | exact (hG W e).2.2.2.2.1.2.2.2.1 | exact (hG W e).2.2.2.2.1.2.2.2 | exact (hG W e).2.2.2.2.2 | exact (hG W e).2.2.2.2.2.1 | exact (hG W e).2.2.2.2.2.1.1 | exact (hG W e).2.2.2.2.2.1.2 | exact (hG W e).2.2.2.2.2.1.2.1 | exact (hG W e).2.2.2.2.2.1.2.2.1 | exact (hG W e).2.2.2.2.2.1.2.2.2.1 | exact (hG W e).2.2.2.2.2.1.2.2.2 | exact (hG W e).2.2.2.2.2.2 | exact (hG W e).2.2.2.2.2.2.1 | exact (hG W e).2.2.2.2.2.2.1.1 | exact (hG W e).2.2.2.2.2.2.1.2 | exact (hG W e).2.2.2.2.2.2.1.2.1 | exact (hG W e).2.2.2.2.2.2.1.2.2.1 | exact (hG W e).2.2.2.2.2.2.1.2.2.2.1 | exact (hG W e).2.2.2.2.2.2.1.2.2.2 | exact (hG W e).2.2.2.2.2.2.2 | exact (hG W e).2.2.2.2.2.2.2.1 | exact (hG W e).2.2.2.2.2.2.2.1.1 | exact (hG W e).2.2.2.2.2.2.2.1.2 | exact (hG W e).2.2.2.2.2.2.2.1.2.1 | exact (hG W e).2.2.2.2.2.2.2.1.2.2.1 | exact (hG W e).2.2.2.2.2.2.2.1.2.2.2.1 | exact (hG W e).2.2.2.2.2.2.2.1.2.2.2 | exact (hG W e).2.2.2.2.2.2.2.2 | exact (hG W e).2.2.2.2.2.2.2.2.1 | exact (hG W e).2.2.2.2.2.2.2.2.1.1 | exact (hG W e).2.2.2.2.2.2.2.2.1.2 | exact (hG W e).2.2.2.2.2.2.2.2.1.2.1 | exact (hG W e).2.2.2.2.2.2.2.2.1.2.2.1 | exact (hG W e).2.2.2.2.2.2.2.2.1.2.2.2.1 | exact (hG W e).2.2.2.2.2.2.2.2.1.2.2.2 | exact (hG W e).2.2.2.2.2.2.2.2.2) : StaR W s (sia, sic) (sba, sbc))) (by omega) h4.ok hos) fun y W hy => ?_
        obtain ⟨⟨da, dc⟩, ds⟩ := y
        have hds := hy.2
        have hdl : ds.length ≤ 3 := hds.1
        simp only at hds
        simp (maxSteps := 2000000) -implicitDefEqProofs [hN]
        refine call0 ok rfl rfl rfl (fun w I hI hG => refApply0 w I hI s (sia, sic) (sba, sbc) ds (fun W e => ((by first | exact (hG W e) | exact (hG W e).1 | exact (hG W e).1.1 | exact (hG W e).1.2 | exact (hG W e).1.2.1 | exact (hG W e).1.2.2.1 | exact (hG W e).1.2.2.2.1 | exact (hG W e).1.2.2.2 | exact (hG W e).2 | exact (hG W e).2.1 | exact (hG W e).2.1.1 | exact (hG W e).2.1.2 | exact (hG W e).2.1.2.1 | exact (hG W e).2.1.2.2.1 | exact (hG W e).2.1.2.2.2.1 | exact (hG W e).2.1.2.2.2 | exact (hG W e).2.2 | exact (hG W e).2.2.1 | exact (hG W e).2.2.1.1 | exact (hG W e).2.2.1.2 | exact (hG W e).2.2.1.2.1 | exact (hG W e).2.2.1.2.2.1 | exact (hG W e).2.2.1.2.2.2.1 | exact (hG W e).2.2.1.2.2.2 | exact (hG W e).2.2.2 | exact (hG W e).2.2.2.1 | exact (hG W e).2.2.2.1.1 | exact (hG W e).2.2.2.1.2 | exact (hG W e).2.2.2.1.2.1 | exact (hG W e).2.2.2.1.2.2.1 | exact (hG W e).2.2.2.1.2.2.2.1 | exact (hG W e).2.2.2.1.2.2.2 | exact (hG W e).2.2.2.2 | exact (hG W e).2.2.2.2.1 | exact (hG W e).2.2.2.2.1.1 | exact (hG W e).2.2.2.2.1.2 | exact (hG W e).2.2.2.2.1.2.1 | exact (hG W e).2.2.2.2.1.2.2.1 | exact (hG W e).2.2.2.2.1.2.2.2.1 | exact (hG W e).2.2.2.2.1.2.2.2 | exact (hG W e).2.2.2.2.2 | exact (hG W e).2.2.2.2.2.1 | exact (hG W e).2.2.2.2.2.1.1 | exact (hG W e).2.2.2.2.2.1.2 | exact (hG W e).2.2.2.2.2.1.2.1 | exact (hG W e).2.2.2.2.2.1.2.2.1 | exact (hG W e).2.2.2.2.2.1.2.2.2.1 | exact (hG W e).2.2.2.2.2.1.2.2.2 | exact (hG W e).2.2.2.2.2.2 | exact (hG W e).2.2.2.2.2.2.1 | exact (hG W e).2.2.2.2.2.2.1.1 | exact (hG W e).2.2.2.2.2.2.1.2 | exact (hG W e).2.2.2.2.2.2.1.2.1 | exact (hG W e).2.2.2.2.2.2.1.2.2.1 | exact (hG W e).2.2.2.2.2.2.1.2.2.2.1 | exact (hG W e).2.2.2.2.2.2.1.2.2.2 | exact (hG W e).2.2.2.2.2.2.2 | exact (hG W e).2.2.2.2.2.2.2.1 | exact (hG W e).2.2.2.2.2.2.2.1.1 | exact (hG W e).2.2.2.2.2.2.2.1.2 | exact (hG W e).2.2.2.2.2.2.2.1.2.1 | exact (hG W e).2.2.2.2.2.2.2.1.2.2.1 | exact (hG W e).2.2.2.2.2.2.2.1.2.2.2.1 | exact (hG W e).2.2.2.2.2.2.2.1.2.2.2 | exact (hG W e).2.2.2.2.2.2.2.2 | exact (hG W e).2.2.2.2.2.2.2.2.1 | exact (hG W e).2.2.2.2.2.2.2.2.1.1 | exact (hG W e).2.2.2.2.2.2.2.2.1.2 | exact (hG W e).2.2.2.2.2.2.2.2.1.2.1 | exact (hG W e).2.2.2.2.2.2.2.2.1.2.2.1 | exact (hG W e).2.2.2.2.2.2.2.2.1.2.2.2.1 | exact (hG W e).2.2.2.2.2.2.2.2.1.2.2.2 | exact (hG W e).2.2.2.2.2.2.2.2.2) : StaR W s (sia, sic) (sba, sbc))) (fun W e => ⟨rfl, (hG W e).1.1⟩) (by omega)) fun y W _ => ?_
        obtain ⟨⟨na, nc⟩, ⟨ma, mc⟩⟩ := y
        simp (maxSteps := 2000000) -implicitDefEqProofs [hN, e6]
        refine next ⟨i + 1, applyL s ds, (na, nc), (ma, mc), nx⟩ _ _ ?_ ?_ ?_
        · simp only; omega
        · exact fun W hW => ⟨⟨hlt, hlt2, hW.1, fine_deeds h4 hds, h5⟩, (by first | exact (hW) | exact (hW).1 | exact (hW).1.1 | exact (hW).1.2 | exact (hW).1.2.1 | exact (hW).1.2.2.1 | exact (hW).1.2.2.2.1 | exact (hW).1.2.2.2 | exact (hW).2 | exact (hW).2.1 | exact (hW).2.1.1 | exact (hW).2.1.2 | exact (hW).2.1.2.1 | exact (hW).2.1.2.2.1 | exact (hW).2.1.2.2.2.1 | exact (hW).2.1.2.2.2 | exact (hW).2.2 | exact (hW).2.2.1 | exact (hW).2.2.1.1 | exact (hW).2.2.1.2 | exact (hW).2.2.1.2.1 | exact (hW).2.2.1.2.2.1 | exact (hW).2.2.1.2.2.2.1 | exact (hW).2.2.1.2.2.2 | exact (hW).2.2.2 | exact (hW).2.2.2.1 | exact (hW).2.2.2.1.1 | exact (hW).2.2.2.1.2 | exact (hW).2.2.2.1.2.1 | exact (hW).2.2.2.1.2.2.1 | exact (hW).2.2.2.1.2.2.2.1 | exact (hW).2.2.2.1.2.2.2 | exact (hW).2.2.2.2 | exact (hW).2.2.2.2.1 | exact (hW).2.2.2.2.1.1 | exact (hW).2.2.2.2.1.2 | exact (hW).2.2.2.2.1.2.1 | exact (hW).2.2.2.2.1.2.2.1 | exact (hW).2.2.2.2.1.2.2.2.1 | exact (hW).2.2.2.2.1.2.2.2 | exact (hW).2.2.2.2.2 | exact (hW).2.2.2.2.2.1 | exact (hW).2.2.2.2.2.1.1 | exact (hW).2.2.2.2.2.1.2 | exact (hW).2.2.2.2.2.1.2.1 | exact (hW).2.2.2.2.2.1.2.2.1 | exact (hW).2.2.2.2.2.1.2.2.2.1 | exact (hW).2.2.2.2.2.1.2.2.2 | exact (hW).2.2.2.2.2.2 | exact (hW).2.2.2.2.2.2.1 | exact (hW).2.2.2.2.2.2.1.1 | exact (hW).2.2.2.2.2.2.1.2 | exact (hW).2.2.2.2.2.2.1.2.1 | exact (hW).2.2.2.2.2.2.1.2.2.1 | exact (hW).2.2.2.2.2.2.1.2.2.2.1 | exact (hW).2.2.2.2.2.2.1.2.2.2 | exact (hW).2.2.2.2.2.2.2 | exact (hW).2.2.2.2.2.2.2.1 | exact (hW).2.2.2.2.2.2.2.1.1 | exact (hW).2.2.2.2.2.2.2.1.2 | exact (hW).2.2.2.2.2.2.2.1.2.1 | exact (hW).2.2.2.2.2.2.2.1.2.2.1 | exact (hW).2.2.2.2.2.2.2.1.2.2.2.1 | exact (hW).2.2.2.2.2.2.2.1.2.2.2 | exact (hW).2.2.2.2.2.2.2.2 | exact (hW).2.2.2.2.2.2.2.2.1 | exact (hW).2.2.2.2.2.2.2.2.1.1 | exact (hW).2.2.2.2.2.2.2.2.1.2 | exact (hW).2.2.2.2.2.2.2.2.1.2.1 | exact (hW).2.2.2.2.2.2.2.2.1.2.2.1 | exact (hW).2.2.2.2.2.2.2.2.1.2.2.2.1 | exact (hW).2.2.2.2.2.2.2.2.1.2.2.2 | exact (hW).2.2.2.2.2.2.2.2.2)⟩
        · simp
  · have e1 : l.length ≤ i ∨ i = 40 := by omega
    rcases Nat.lt_or_ge i l.length with hlt | hge
    · have hltI : (i : Int) < (l.length : Nat) := by omega
      have hlt2I : ¬ (i : Int) < 40 := by omega
      simp (maxSteps := 2000000) -implicitDefEqProofs [hN, hltI, hlt2I]
      exact ret0 hC (s, (sia, sic), (sba, sbc)) rfl fun W _ hG => ⟨hG.1.2.2.1, nx, i, h4, h5, h2⟩
    · have hltI : ¬ (i : Int) < (l.length : Nat) := by omega
      simp (maxSteps := 2000000) -implicitDefEqProofs [hN, hltI]
      exact ret0 hC (s, (sia, sic), (sba, sbc)) rfl fun W _ hG => ⟨hG.1.2.2.1, nx, i, h4, h5, h2⟩
end Go.Proofs.YtbbaoeidobdblaaGreat.Sx

/- RightGeometry, PagesOf, Room, Ceil of the reference. -/
set_option linter.unusedVariables false
set_option linter.unusedSimpArgs false
namespace Go.Proofs.YtbbaoeidobdblaaGreat.Sx
open Go
attribute [local simp ↓] ifb_true' ifb_false'
attribute [local simp] ifb_true ifb_false ifb_eq sx argsT find ev evOp evs evo evBin evInt evStr evNil evNilA ptrA slcA isNoneA asB evLoad look del cellsB evUn evConv kdec fld evFieldA evField evIdxA evIdx evSlc bndL bndH evLen mmi put resV guardV gvL setO tupV cellsOf ones one upd lits nv exitTo SV.val CV.val TI.agg rdyA allR keepB scan simpO gsp isS subs keepT pickT wr memN pubs Res.fact Region.binds bld rest give delL back Res.eqv vi vb num Sv.val undef
set_option maxRecDepth 100000 in
set_option maxHeartbeats 4000000 in
theorem refRightG0 (w : World) (I : Nat → Prop) (hI : ∀ b, I b → b < w.heap.size) (g : Geo) :
    Fn0 Tryz.prog 66 #[.agg (geoC g).toArray] w I (fun b : Bool => .bool b) (fun y W => y = decide g.right) := by
  by_cases hg : g.right
  · have := refRight0 w I hI g hg
    simpa [hg] using this
  refine enter (svs := [.ag ((geoC g).map .v)]) tysOk Tryz.func66 rfl Tryz.ntmps66 Tryz.results66 (by kernel_rfl) (by simp) hI (fun _ => True) (fun _ _ => trivial) fun C hC hN ok => ?_
  simp (maxSteps := 2000000) -implicitDefEqProofs [hN]
  intro g1
  refine ⟨fun q1 => ?_, fun _ => ret0 hC false rfl fun _ _ _ => (decide_eq_false hg).symm⟩
  refine ⟨fun q2 => ?_, fun _ => ret0 hC false rfl fun _ _ _ => (decide_eq_false hg).symm⟩
  refine ⟨fun q3 => ?_, fun _ => ret0 hC false rfl fun _ _ _ => (decide_eq_false hg).symm⟩
  refine ⟨fun q4 => ?_, fun _ => ret0 hC false rfl fun _ _ _ => (decide_eq_false hg).symm⟩
  refine ⟨fun q5 => ?_, fun _ => ret0 hC false rfl fun _ _ _ => (decide_eq_false hg).symm⟩
  refine ⟨fun q6 => ?_, fun _ => ret0 hC false rfl fun _ _ _ => (decide_eq_false hg).symm⟩
  refine ⟨fun q7 => ?_, fun _ => ret0 hC false rfl fun _ _ _ => (decide_eq_false hg).symm⟩
  refine ⟨fun q8 => ?_, fun _ => ret0 hC false rfl fun _ _ _ => (decide_eq_false hg).symm⟩
  refine ⟨fun q9 => ?_, fun _ => ret0 hC false rfl fun _ _ _ => (decide_eq_false hg).symm⟩
  refine ⟨fun q10 => ?_, fun _ => ret0 hC false rfl fun _ _ _ => (decide_eq_false hg).symm⟩
  refine ret0 hC (decide (g.page ≤ 256)) rfl fun _ _ _ => ?_
  rw [decide_eq_false hg]
  exact decide_eq_false fun h => hg ⟨q3, ⟨q1, q2⟩, ⟨q4, q5⟩, ⟨q6, q7⟩, ⟨q8, q9⟩, ⟨q10, h⟩⟩
theorem pagesL_of {l : List Rn} (h : RightL l) : pagesL l = posL (placesL l) := by rw [pagesL, if_pos h, pages_places h]
theorem posL_take {l : List Int} {i : Nat} (hi : i < l.length) : posL (l.take (i + 1)) = posL (l.take i) ++ if 0 ≤ l[i] then [l[i]] else [] := by
  rw [List.take_add_one, List.getElem?_eq_getElem hi]
  unfold posL
  rw [List.filter_append]
  congr 1
  by_cases h0 : 0 ≤ l[i] <;> simp [h0]
theorem posL_len (l : List Int) : (posL l).length ≤ l.length := List.length_filter_le _ _
set_option maxRecDepth 100000 in
set_option maxHeartbeats 4000000 in
theorem pagesOf0 (w : World) (I : Nat → Prop) (hI : ∀ b, I b → b < w.heap.size) {a : Option Addr} {n c : Nat} (l : List Rn) (h : ∀ W, Ext I w W → Sv.ok dRn W (a, n, c) l) :
    Fn0 Tryz.prog 90 #[.slice a n c] w I (fun y : Sl × List Int => .slice y.1.1 y.2.length y.1.2) (fun y W => Sl.ok dInt W y.1 y.2 ∧ y.2 = pagesL l) := by
  obtain rfl : n = l.length := (h w (Ext.refl _ _)).1
  refine enter (svs := [.c (.v (.slice a l.length c))]) tysOk Tryz.func90 rfl Tryz.ntmps90 Tryz.results90 (by kernel_rfl) (by simp) hI (fun W => Sv.ok dRn W (a, l.length, c) l) h fun C hC hN ok => ?_
  simp [hN]
  refine call0 ok rfl rfl rfl (fun w I hI hG => rightRuns0 w I hI l hG) fun y W hy => ?_
  cases y with
  | false =>
    have hr : ¬ RightL l := fun h => by have := hy.2 h; cases this
    simp [hN]
    exact ret0 hC ((none, 0), []) rfl fun W _ _ => ⟨nilSl dInt W, by rw [pagesL, if_neg hr]⟩
  | true =>
    have hr : RightL l := hy.1 rfl
    have hpl : pagesL l = posL (placesL l) := pagesL_of hr
    have hlen := placesL_len l
    simp [hN]
    have k1 : ∀ w I, (∀ b, I b → b < w.heap.size) → (∀ W, Ext I w W → RightL l ∧ Sv.ok dRn W (a, l.length, c) l) → FnS Tryz.prog 138 #[.slice a l.length c] w I noS (fun g : Nat => .slice (some ⟨g, 0, none⟩) 64 64) (fun g => [.row (some ⟨g, 0, none⟩) 64 64 3 1 (iC (placesL l))]) (fun _ _ => True) := fun w I hI hG => placesOf0 w I hI l (fun W e => (hG W e).2) (right_okR hr)
    refine callS ok rfl rfl rfl [] [] trivial rfl (fun g : Nat => [(600, .row (some ⟨g, 0, none⟩) 64 64 3 1 (iC (placesL l)))]) (fun w I S hI hG hO hS => (k1 w I hI hG).lone hO) (fun r => by simp [back, memN, Res.eqv]) (.inl fun k hk => by cases hk) fun g W _ => ?_
    simp (maxSteps := 2000000) -implicitDefEqProofs [hN]
    refine pub 600 rfl (by decide) ?_
    refine lessG (fun W => Sl.ok dInt W (some ⟨g, 0, none⟩, 64) (placesL l)) (fun W hW => by
      have := hW.1
      have h2 : W.ownsRow 0 3 1 (.slice (some ⟨g, 0, none⟩) (placesL l).length 64) (placesL l).length ((placesL l).map (Value.int .i64)) := by rw [hlen, ← iC_val]; exact this
      exact ints_sl h2 (by omega)) ?_
    refine nilr 603 3 1 (tagA 3 (.c (.rw 603 none 0 0)) rfl rfl ?_)
    refine loopK [4] ok (fun y : Nat × Option Addr × Nat => [(5, .c (.v (.int .i64 (y.1 : Nat)))), (3, .c (.rw 603 y.2.1 (posL ((placesL l).take y.1)).length y.2.2))]) (fun y => [(603, .row y.2.1 (posL ((placesL l).take y.1)).length y.2.2 3 1 (iC (posL ((placesL l).take y.1))))]) (fun y W => y.1 ≤ 64) (fun y => 64 - y.1) (0, none, 0) ?_ ?_ (fun W hW => Nat.zero_le _) ?_
    · simp [posL]
    · simp [posL, iC]
    rintro ⟨i, ra, rc⟩ W hi hG next
    simp only at hi
    have hb := posL_len ((placesL l).take i)
    rw [List.length_take, hlen] at hb
    rcases Nat.lt_or_ge i 64 with hlt | hge
    · have hlt2 : i < (placesL l).length := by omega
      have hT := posL_take hlt2
      have e6 : IntKind.i64.wrap ((i : Int) + 1) = (i + 1 : Nat) := by rw [w64 (by omega) (by omega)]; omega
      have hltI : (i : Int) < 64 := by omega
      simp (maxSteps := 2000000) -implicitDefEqProofs [hN, hlt, hltI]
      obtain ⟨v, hv⟩ : ∃ v, v = (placesL l)[i] := ⟨_, rfl⟩
      have get : ∀ W, Sl.ok dInt W (some ⟨g, 0, none⟩, 64) (placesL l) → W.cell? ⟨g, i, none⟩ = some (.int .i64 v) := fun W hW => by
        obtain ⟨b', o', e, hc⟩ := intS_get (⟨rfl, hW⟩ : Sv.ok dInt W (some ⟨g, 0, none⟩, (placesL l).length, 64) (placesL l)) hlt2
        cases e
        rw [hv]
        simpa using hc
      rw [← hv] at hT
      refine load1 ok rfl rfl rfl rfl (fun u W => u = .int .i64 v) (fun W hW => ⟨_, get W (by first | exact (hW) | exact (hW).1 | exact (hW).1.1 | exact (hW).1.2 | exact (hW).1.2.1 | exact (hW).1.2.2.1 | exact (hW).1.2.2.2.1 | exact (hW).1.2.2.2 | exact (hW).2 | exact (hW).2.1 | exact (hW).2.1.1 | exact (hW).2.1.2 | exact (hW).2.1.2.1 | exact (hW).2.1.2.2.1 | exact (hW).2.1.2.2.2.1 | exact (hW).2.1.2.2.2 | exact (hW).2.2 | exact (hW).2.2.1 | exact (hW).2.2.1.1 | exact (hW).2.2.1.2 | exact (hW).2.2.1.2.1 | exact (hW).2.2.1.2.2.1 | exact (hW).2.2.1.2.2.2.1 | exact (hW).2.2.1.2.2.2 | exact (hW).2.2.2 | exact (hW).2.2.2.1 | exact (hW).2.2.2.1.1 | exact (hW).2.2.2.1.2 | exact (hW).2.2.2.1.2.1 | exact (hW).2.2.2.1.2.2.1 | exact (hW).2.2.2.1.2.2.2.1 | exact (hW).2.2.2.1.2.2.2 | exact (hW).2.2.2.2 | exact (hW).2.2.2.2.1 | exact (hW).2.2.2.2.1.1 | exact (hW).2.2.2.2.1.2 | exact (hW).2.2.2.2.1.2.1 | exact (hW).2.2.2.2.1.2.2.1 | exact (hW).2.2.2.2.1.2.2.2.1 | exact (hW).2.2.2.2.1.2.2.2 | exact (hW).2.2.2.2.2 | exact (hW).2.2.2.2.2.1 | exact (hW).2.2.2.2.2.1.1 | exact (hW).2.2.2.2.2.1.2 | exact (hW).2.2.2.2.2.1.2.1 | exact (hW).2.2.2.2.2.1.2.2.1 | exact (hW).2.2.2.2.2.1.2.2.2.1 | exact (hW).2.2.2.2.2.1.2.2.2 | exact (hW).2.2.2.2.2.2 | exact (hW).2.2.2.2.2.2.1 | exact (hW).2.2.2.2.2.2.1.1 | exact (hW).2.2.2.2.2.2.1.2 | exact (hW).2.2.2.2.2.2.1.2.1 | exact (hW).2.2.2.2.2.2.1.2.2.1 | exact (hW).2.2.2.2.2.2.1.2.2.2.1 | exact (hW).2.2.2.2.2.2.1.2.2.2 | exact (hW).2.2.2.2.2.2.2 | exact (hW).2.2.2.2.2.2.2.1 | exact (hW).2.2.2.2.2.2.2.1.1 | exact (hW).2.2.2.2.2.2.2.1.2 | exact (hW).2.2.2.2.2.2.2.1.2.1 | exact (hW).2.2.2.2.2.2.2.1.2.2.1 | exact (hW).2.2.2.2.2.2.2.1.2.2.2.1 | exact (hW).2.2.2.2.2.2.2.1.2.2.2 | exact (hW).2.2.2.2.2.2.2.2 | exact (hW).2.2.2.2.2.2.2.2.1 | exact (hW).2.2.2.2.2.2.2.2.1.1 | exact (hW).2.2.2.2.2.2.2.2.1.2 | exact (hW).2.2.2.2.2.2.2.2.1.2.1 | exact (hW).2.2.2.2.2.2.2.2.1.2.2.1 | exact (hW).2.2.2.2.2.2.2.2.1.2.2.2.1 | exact (hW).2.2.2.2.2.2.2.2.1.2.2.2 | exact (hW).2.2.2.2.2.2.2.2.2), rfl⟩) ?_
      rintro u W rfl _
      simp (maxSteps := 2000000) -implicitDefEqProofs [hN, hlt, hltI, e6]
      refine ⟨fun h0 => ?_, fun h0 => ?_⟩
      · rw [if_pos h0] at hT
        refine load1 ok rfl rfl rfl rfl (fun u W => u = .int .i64 v) (fun W hW => ⟨_, get W (by first | exact (hW) | exact (hW).1 | exact (hW).1.1 | exact (hW).1.2 | exact (hW).1.2.1 | exact (hW).1.2.2.1 | exact (hW).1.2.2.2.1 | exact (hW).1.2.2.2 | exact (hW).2 | exact (hW).2.1 | exact (hW).2.1.1 | exact (hW).2.1.2 | exact (hW).2.1.2.1 | exact (hW).2.1.2.2.1 | exact (hW).2.1.2.2.2.1 | exact (hW).2.1.2.2.2 | exact (hW).2.2 | exact (hW).2.2.1 | exact (hW).2.2.1.1 | exact (hW).2.2.1.2 | exact (hW).2.2.1.2.1 | exact (hW).2.2.1.2.2.1 | exact (hW).2.2.1.2.2.2.1 | exact (hW).2.2.1.2.2.2 | exact (hW).2.2.2 | exact (hW).2.2.2.1 | exact (hW).2.2.2.1.1 | exact (hW).2.2.2.1.2 | exact (hW).2.2.2.1.2.1 | exact (hW).2.2.2.1.2.2.1 | exact (hW).2.2.2.1.2.2.2.1 | exact (hW).2.2.2.1.2.2.2 | exact (hW).2.2.2.2 | exact (hW).2.2.2.2.1 | exact (hW).2.2.2.2.1.1 | exact (hW).2.2.2.2.1.2 | exact (hW).2.2.2.2.1.2.1 | exact (hW).2.2.2.2.1.2.2.1 | exact (hW).2.2.2.2.1.2.2.2.1 | exact (hW).2.2.2.2.1.2.2.2 | exact (hW).2.2.2.2.2 | exact (hW).2.2.2.2.2.1 | exact (hW).2.2.2.2.2.1.1 | exact (hW).2.2.2.2.2.1.2 | exact (hW).2.2.2.2.2.1.2.1 | exact (hW).2.2.2.2.2.1.2.2.1 | exact (hW).2.2.2.2.2.1.2.2.2.1 | exact (hW).2.2.2.2.2.1.2.2.2 | exact (hW).2.2.2.2.2.2 | exact (hW).2.2.2.2.2.2.1 | exact (hW).2.2.2.2.2.2.1.1 | exact (hW).2.2.2.2.2.2.1.2 | exact (hW).2.2.2.2.2.2.1.2.1 | exact (hW).2.2.2.2.2.2.1.2.2.1 | exact (hW).2.2.2.2.2.2.1.2.2.2.1 | exact (hW).2.2.2.2.2.2.1.2.2.2 | exact (hW).2.2.2.2.2.2.2 | exact (hW).2.2.2.2.2.2.2.1 | exact (hW).2.2.2.2.2.2.2.1.1 | exact (hW).2.2.2.2.2.2.2.1.2 | exact (hW).2.2.2.2.2.2.2.1.2.1 | exact (hW).2.2.2.2.2.2.2.1.2.2.1 | exact (hW).2.2.2.2.2.2.2.1.2.2.2.1 | exact (hW).2.2.2.2.2.2.2.1.2.2.2 | exact (hW).2.2.2.2.2.2.2.2 | exact (hW).2.2.2.2.2.2.2.2.1 | exact (hW).2.2.2.2.2.2.2.2.1.1 | exact (hW).2.2.2.2.2.2.2.2.1.2 | exact (hW).2.2.2.2.2.2.2.2.1.2.1 | exact (hW).2.2.2.2.2.2.2.2.1.2.2.1 | exact (hW).2.2.2.2.2.2.2.2.1.2.2.2.1 | exact (hW).2.2.2.2.2.2.2.2.1.2.2.2 | exact (hW).2.2.2.2.2.2.2.2.2), rfl⟩) ?_
        rintro u W rfl _
        simp (maxSteps := 2000000) -implicitDefEqProofs [hN, hlt, hltI, e6]
        intro g27
        refine appR ok 603 27 rfl rfl rfl rfl rfl (by decide) rfl rfl rfl rfl rfl rfl rfl (by decide) (by simp) (by show ((posL (List.take i (placesL l))).length + 1) * 8 ≤ _; omega) (by omega) fun g' c' => ?_
        simp (maxSteps := 2000000) -implicitDefEqProofs [hN, e6]
        refine next (i + 1, some ⟨g', 0, none⟩, c') _ _ (by simp only; omega) (fun W hW => ⟨hlt, (by first | exact (hW) | exact (hW).1 | exact (hW).1.1 | exact (hW).1.2 | exact (hW).1.2.1 | exact (hW).1.2.2.1 | exact (hW).1.2.2.2.1 | exact (hW).1.2.2.2 | exact (hW).2 | exact (hW).2.1 | exact (hW).2.1.1 | exact (hW).2.1.2 | exact (hW).2.1.2.1 | exact (hW).2.1.2.2.1 | exact (hW).2.1.2.2.2.1 | exact (hW).2.1.2.2.2 | exact (hW).2.2 | exact (hW).2.2.1 | exact (hW).2.2.1.1 | exact (hW).2.2.1.2 | exact (hW).2.2.1.2.1 | exact (hW).2.2.1.2.2.1 | exact (hW).2.2.1.2.2.2.1 | exact (hW).2.2.1.2.2.2 | exact (hW).2.2.2 | exact (hW).2.2.2.1 | exact (hW).2.2.2.1.1 | exact (hW).2.2.2.1.2 | exact (hW).2.2.2.1.2.1 | exact (hW).2.2.2.1.2.2.1 | exact (hW).2.2.2.1.2.2.2.1 | exact (hW).2.2.2.1.2.2.2 | exact (hW).2.2.2.2 | exact (hW).2.2.2.2.1 | exact (hW).2.2.2.2.1.1 | exact (hW).2.2.2.2.1.2 | exact (hW).2.2.2.2.1.2.1 | exact (hW).2.2.2.2.1.2.2.1 | exact (hW).2.2.2.2.1.2.2.2.1 | exact (hW).2.2.2.2.1.2.2.2 | exact (hW).2.2.2.2.2 | exact (hW).2.2.2.2.2.1 | exact (hW).2.2.2.2.2.1.1 | exact (hW).2.2.2.2.2.1.2 | exact (hW).2.2.2.2.2.1.2.1 | exact (hW).2.2.2.2.2.1.2.2.1 | exact (hW).2.2.2.2.2.1.2.2.2.1 | exact (hW).2.2.2.2.2.1.2.2.2 | exact (hW).2.2.2.2.2.2 | exact (hW).2.2.2.2.2.2.1 | exact (hW).2.2.2.2.2.2.1.1 | exact (hW).2.2.2.2.2.2.1.2 | exact (hW).2.2.2.2.2.2.1.2.1 | exact (hW).2.2.2.2.2.2.1.2.2.1 | exact (hW).2.2.2.2.2.2.1.2.2.2.1 | exact (hW).2.2.2.2.2.2.1.2.2.2 | exact (hW).2.2.2.2.2.2.2 | exact (hW).2.2.2.2.2.2.2.1 | exact (hW).2.2.2.2.2.2.2.1.1 | exact (hW).2.2.2.2.2.2.2.1.2 | exact (hW).2.2.2.2.2.2.2.1.2.1 | exact (hW).2.2.2.2.2.2.2.1.2.2.1 | exact (hW).2.2.2.2.2.2.2.1.2.2.2.1 | exact (hW).2.2.2.2.2.2.2.1.2.2.2 | exact (hW).2.2.2.2.2.2.2.2 | exact (hW).2.2.2.2.2.2.2.2.1 | exact (hW).2.2.2.2.2.2.2.2.1.1 | exact (hW).2.2.2.2.2.2.2.2.1.2 | exact (hW).2.2.2.2.2.2.2.2.1.2.1 | exact (hW).2.2.2.2.2.2.2.2.1.2.2.1 | exact (hW).2.2.2.2.2.2.2.2.1.2.2.2.1 | exact (hW).2.2.2.2.2.2.2.2.1.2.2.2 | exact (hW).2.2.2.2.2.2.2.2.2)⟩) ?_
        simp [hT, iC]
      · rw [if_neg (by omega), List.append_nil] at hT
        refine next (i + 1, ra, rc) _ _ (by simp only; omega) (fun W hW => ⟨hlt, (by first | exact (hW) | exact (hW).1 | exact (hW).1.1 | exact (hW).1.2 | exact (hW).1.2.1 | exact (hW).1.2.2.1 | exact (hW).1.2.2.2.1 | exact (hW).1.2.2.2 | exact (hW).2 | exact (hW).2.1 | exact (hW).2.1.1 | exact (hW).2.1.2 | exact (hW).2.1.2.1 | exact (hW).2.1.2.2.1 | exact (hW).2.1.2.2.2.1 | exact (hW).2.1.2.2.2 | exact (hW).2.2 | exact (hW).2.2.1 | exact (hW).2.2.1.1 | exact (hW).2.2.1.2 | exact (hW).2.2.1.2.1 | exact (hW).2.2.1.2.2.1 | exact (hW).2.2.1.2.2.2.1 | exact (hW).2.2.1.2.2.2 | exact (hW).2.2.2 | exact (hW).2.2.2.1 | exact (hW).2.2.2.1.1 | exact (hW).2.2.2.1.2 | exact (hW).2.2.2.1.2.1 | exact (hW).2.2.2.1.2.2.1 | exact (hW).2.2.2.1.2.2.2.1 | exact (hW).2.2.2.1.2.2.2 | exact (hW).2.2.2.2 | exact (hW).2.2.2.2.1 | exact (hW).2.2.2.2.1.1 | exact (hW).2.2.2.2.1.2 | exact (hW).2.2.2.2.1.2.1 | exact (hW).2.2.2.2.1.2.2.1 | exact (hW).2.2.2.2.1.2.2.2.1 | exact (hW).2.2.2.2.1.2.2.2 | exact (hW).2.2.2.2.2 | exact (hW).2.2.2.2.2.1 | exact (hW).2.2.2.2.2.1.1 | exact (hW).2.2.2.2.2.1.2 | exact (hW).2.2.2.2.2.1.2.1 | exact (hW).2.2.2.2.2.1.2.2.1 | exact (hW).2.2.2.2.2.1.2.2.2.1 | exact (hW).2.2.2.2.2.1.2.2.2 | exact (hW).2.2.2.2.2.2 | exact (hW).2.2.2.2.2.2.1 | exact (hW).2.2.2.2.2.2.1.1 | exact (hW).2.2.2.2.2.2.1.2 | exact (hW).2.2.2.2.2.2.1.2.1 | exact (hW).2.2.2.2.2.2.1.2.2.1 | exact (hW).2.2.2.2.2.2.1.2.2.2.1 | exact (hW).2.2.2.2.2.2.1.2.2.2 | exact (hW).2.2.2.2.2.2.2 | exact (hW).2.2.2.2.2.2.2.1 | exact (hW).2.2.2.2.2.2.2.1.1 | exact (hW).2.2.2.2.2.2.2.1.2 | exact (hW).2.2.2.2.2.2.2.1.2.1 | exact (hW).2.2.2.2.2.2.2.1.2.2.1 | exact (hW).2.2.2.2.2.2.2.1.2.2.2.1 | exact (hW).2.2.2.2.2.2.2.1.2.2.2 | exact (hW).2.2.2.2.2.2.2.2 | exact (hW).2.2.2.2.2.2.2.2.1 | exact (hW).2.2.2.2.2.2.2.2.1.1 | exact (hW).2.2.2.2.2.2.2.2.1.2 | exact (hW).2.2.2.2.2.2.2.2.1.2.1 | exact (hW).2.2.2.2.2.2.2.2.1.2.2.1 | exact (hW).2.2.2.2.2.2.2.2.1.2.2.2.1 | exact (hW).2.2.2.2.2.2.2.2.1.2.2.2 | exact (hW).2.2.2.2.2.2.2.2.2)⟩) ?_
        simp [hT, iC]
    · have e : (placesL l).take i = placesL l := List.take_of_length_le (by omega)
      have hltI : ¬ (i : Int) < 64 := by omega
      rw [e]
      simp (maxSteps := 2000000) -implicitDefEqProofs [hN, hltI]
      have hb2 := posL_len (placesL l)
      exact ret0 hC ((ra, rc), posL (placesL l)) rfl fun W hp hG => ⟨ints_sl (l := posL (placesL l)) (e := 3) (by have := hp.1; simpa [iC_val] using this) (by omega), hpl.symm⟩
set_option maxRecDepth 100000 in
set_option maxHeartbeats 4000000 in
theorem refRoom0 (w : World) (I : Nat → Prop) (hI : ∀ b, I b → b < w.heap.size) (s : Sta) (si sb : Sl) (g : Geo) (h : ∀ W, Ext I w W → StaR W s si sb) (hs : Small s) :
    Fn0 Tryz.prog 48 #[.agg (staC s si sb).toArray, .agg (geoC g).toArray] w I roomV (fun y W => y = roomOf s g) := by
  obtain ⟨ia, ic⟩ := si
  obtain ⟨ba, bc⟩ := sb
  obtain ⟨s1, s2, s3⟩ := hs
  refine enter (svs := [.ag ((staC s (ia, ic) (ba, bc)).map .v), .ag ((geoC g).map .v)]) tysOk Tryz.func48 rfl Tryz.ntmps48 Tryz.results48 (by kernel_rfl) (by simp) hI (fun W => StaR W s (ia, ic) (ba, bc)) h fun C hC hN ok => ?_
  simp (maxSteps := 2000000) -implicitDefEqProofs [hN]
  intro g2 g3 g4
  refine call0 ok rfl rfl rfl (fun w I hI hG => refRightG0 w I hI g) fun y W hy => ?_
  by_cases hr : g.right
  · obtain rfl : y = true := by rw [hy]; exact decide_eq_true hr
    obtain ⟨_, _, _, q1, q2, _⟩ := id hr
    have m1 : 0 ≤ g.blocks * g.pages := Int.mul_nonneg (by omega) (by omega)
    have m2 : g.blocks * g.pages ≤ 64 * 32 := Int.mul_le_mul q1.2 q2.2 (by omega) (by decide)
    have m3 : 0 ≤ (s.bad.length : Int) * g.pages := Int.mul_nonneg (by omega) (by omega)
    have m4 : (s.bad.length : Int) * g.pages ≤ 1000000 * 32 := Int.mul_le_mul (by omega) q2.2 (by omega) (by decide)
    have e1 : IntKind.i64.wrap (g.blocks * g.pages) = g.blocks * g.pages := w64 (by omega) (by omega)
    have e2 : IntKind.i64.wrap ((s.bad.length : Int) * g.pages) = (s.bad.length : Int) * g.pages := w64 (by omega) (by omega)
    simp (maxSteps := 2000000) -implicitDefEqProofs [hN]
    refine loopK [2, 3, 4] ok (fun i : Nat => [(6, .c (.v (.int .i64 i))), (5, .c (.v (.int .i64 (liveL (s.inos.take i)))))]) (fun _ => [(2, .box g2 39 ((staC s (ia, ic) (ba, bc)).map .v)), (3, .box g3 23 ((geoC g).map .v)), (4, .box g4 96 [.v (.int .i64 0), .v (.int .i64 0), .v (.int .i64 0)])]) (fun i W => i ≤ s.inos.length) (fun i => s.inos.length - i) 0 ?_ ?_ (fun W hW => Nat.zero_le _) ?_
    · simp [liveL]
    · simp
    rintro i W hi hG next
    rcases Nat.lt_or_ge i s.inos.length with hlt | hge
    · have e6 : IntKind.i64.wrap ((i : Int) + 1) = (i + 1 : Nat) := by rw [w64 (by omega) (by omega)]; omega
      have hltI : (i : Int) < (s.inos.length : Nat) := by omega
      have hsv : ∀ W, StaR W s (ia, ic) (ba, bc) → Sv.ok dIno W (ia, s.inos.length, ic) s.inos := fun W hW => ⟨rfl, hW.1⟩
      obtain ⟨b, o, e, _⟩ := ino_no (hsv W (by first | exact (hG) | exact (hG).1 | exact (hG).1.1 | exact (hG).1.2 | exact (hG).1.2.1 | exact (hG).1.2.2.1 | exact (hG).1.2.2.2.1 | exact (hG).1.2.2.2 | exact (hG).2 | exact (hG).2.1 | exact (hG).2.1.1 | exact (hG).2.1.2 | exact (hG).2.1.2.1 | exact (hG).2.1.2.2.1 | exact (hG).2.1.2.2.2.1 | exact (hG).2.1.2.2.2 | exact (hG).2.2 | exact (hG).2.2.1 | exact (hG).2.2.1.1 | exact (hG).2.2.1.2 | exact (hG).2.2.1.2.1 | exact (hG).2.2.1.2.2.1 | exact (hG).2.2.1.2.2.2.1 | exact (hG).2.2.1.2.2.2 | exact (hG).2.2.2 | exact (hG).2.2.2.1 | exact (hG).2.2.2.1.1 | exact (hG).2.2.2.1.2 | exact (hG).2.2.2.1.2.1 | exact (hG).2.2.2.1.2.2.1 | exact (hG).2.2.2.1.2.2.2.1 | exact (hG).2.2.2.1.2.2.2 | exact (hG).2.2.2.2 | exact (hG).2.2.2.2.1 | exact (hG).2.2.2.2.1.1 | exact (hG).2.2.2.2.1.2 | exact (hG).2.2.2.2.1.2.1 | exact (hG).2.2.2.2.1.2.2.1 | exact (hG).2.2.2.2.1.2.2.2.1 | exact (hG).2.2.2.2.1.2.2.2 | exact (hG).2.2.2.2.2 | exact (hG).2.2.2.2.2.1 | exact (hG).2.2.2.2.2.1.1 | exact (hG).2.2.2.2.2.1.2 | exact (hG).2.2.2.2.2.1.2.1 | exact (hG).2.2.2.2.2.1.2.2.1 | exact (hG).2.2.2.2.2.1.2.2.2.1 | exact (hG).2.2.2.2.2.1.2.2.2 | exact (hG).2.2.2.2.2.2 | exact (hG).2.2.2.2.2.2.1 | exact (hG).2.2.2.2.2.2.1.1 | exact (hG).2.2.2.2.2.2.1.2 | exact (hG).2.2.2.2.2.2.1.2.1 | exact (hG).2.2.2.2.2.2.1.2.2.1 | exact (hG).2.2.2.2.2.2.1.2.2.2.1 | exact (hG).2.2.2.2.2.2.1.2.2.2 | exact (hG).2.2.2.2.2.2.2 | exact (hG).2.2.2.2.2.2.2.1 | exact (hG).2.2.2.2.2.2.2.1.1 | exact (hG).2.2.2.2.2.2.2.1.2 | exact (hG).2.2.2.2.2.2.2.1.2.1 | exact (hG).2.2.2.2.2.2.2.1.2.2.1 | exact (hG).2.2.2.2.2.2.2.1.2.2.2.1 | exact (hG).2.2.2.2.2.2.2.1.2.2.2 | exact (hG).2.2.2.2.2.2.2.2 | exact (hG).2.2.2.2.2.2.2.2.1 | exact (hG).2.2.2.2.2.2.2.2.1.1 | exact (hG).2.2.2.2.2.2.2.2.1.2 | exact (hG).2.2.2.2.2.2.2.2.1.2.1 | exact (hG).2.2.2.2.2.2.2.2.1.2.2.1 | exact (hG).2.2.2.2.2.2.2.2.1.2.2.2.1 | exact (hG).2.2.2.2.2.2.2.2.1.2.2.2 | exact (hG).2.2.2.2.2.2.2.2.2)) hlt
      cases e
      have ft : s.inos.take (i + 1) = s.inos.take i ++ [s.inos[i]] := by rw [List.take_add_one, List.getElem?_eq_getElem hlt]; rfl
      have hd3 := s3 _ (List.getElem_mem hlt)
      have hlv := liveL_le (s.inos.take i) fun x hx => s3 x (List.mem_of_mem_take hx)
      rw [List.length_take, Nat.min_eq_left hi] at hlv
      have hlv2 := liveL_snoc (s.inos.take i) s.inos[i]
      rw [← ft] at hlv2
      have get : ∀ W, StaR W s (some ⟨b, o, none⟩, ic) (ba, bc) → ∃ v, W.cell? ⟨b, o + i * 7 + 6, none⟩ = some v ∧ slQ dRn s.inos[i].runs v W := fun W hW => by
        obtain ⟨cs, hk, _, hc⟩ := (hsv W hW).2.2.2.get hlt
        obtain ⟨⟨ea, ec⟩, ⟨ra, rc⟩, rfl, hR⟩ := hk
        exact ⟨_, hc 6 _ rfl, (ra, rc), rfl, hR.2⟩
      generalize hd : s.inos[i] = d at ft hd3 hlv2 get
      have hcl := countL_le d.runs
      have e9 : IntKind.i64.wrap (liveL (s.inos.take i) + countL d.runs) = liveL (s.inos.take (i + 1)) := by rw [hlv2]; exact w64 (by omega) (by omega)
      simp (maxSteps := 2000000) -implicitDefEqProofs [hN, hlt, hltI]
      refine load1 ok rfl rfl rfl rfl (slQ dRn d.runs) (fun W hW => get W (by first | exact (hW) | exact (hW).1 | exact (hW).1.1 | exact (hW).1.2 | exact (hW).1.2.1 | exact (hW).1.2.2.1 | exact (hW).1.2.2.2.1 | exact (hW).1.2.2.2 | exact (hW).2 | exact (hW).2.1 | exact (hW).2.1.1 | exact (hW).2.1.2 | exact (hW).2.1.2.1 | exact (hW).2.1.2.2.1 | exact (hW).2.1.2.2.2.1 | exact (hW).2.1.2.2.2 | exact (hW).2.2 | exact (hW).2.2.1 | exact (hW).2.2.1.1 | exact (hW).2.2.1.2 | exact (hW).2.2.1.2.1 | exact (hW).2.2.1.2.2.1 | exact (hW).2.2.1.2.2.2.1 | exact (hW).2.2.1.2.2.2 | exact (hW).2.2.2 | exact (hW).2.2.2.1 | exact (hW).2.2.2.1.1 | exact (hW).2.2.2.1.2 | exact (hW).2.2.2.1.2.1 | exact (hW).2.2.2.1.2.2.1 | exact (hW).2.2.2.1.2.2.2.1 | exact (hW).2.2.2.1.2.2.2 | exact (hW).2.2.2.2 | exact (hW).2.2.2.2.1 | exact (hW).2.2.2.2.1.1 | exact (hW).2.2.2.2.1.2 | exact (hW).2.2.2.2.1.2.1 | exact (hW).2.2.2.2.1.2.2.1 | exact (hW).2.2.2.2.1.2.2.2.1 | exact (hW).2.2.2.2.1.2.2.2 | exact (hW).2.2.2.2.2 | exact (hW).2.2.2.2.2.1 | exact (hW).2.2.2.2.2.1.1 | exact (hW).2.2.2.2.2.1.2 | exact (hW).2.2.2.2.2.1.2.1 | exact (hW).2.2.2.2.2.1.2.2.1 | exact (hW).2.2.2.2.2.1.2.2.2.1 | exact (hW).2.2.2.2.2.1.2.2.2 | exact (hW).2.2.2.2.2.2 | exact (hW).2.2.2.2.2.2.1 | exact (hW).2.2.2.2.2.2.1.1 | exact (hW).2.2.2.2.2.2.1.2 | exact (hW).2.2.2.2.2.2.1.2.1 | exact (hW).2.2.2.2.2.2.1.2.2.1 | exact (hW).2.2.2.2.2.2.1.2.2.2.1 | exact (hW).2.2.2.2.2.2.1.2.2.2 | exact (hW).2.2.2.2.2.2.2 | exact (hW).2.2.2.2.2.2.2.1 | exact (hW).2.2.2.2.2.2.2.1.1 | exact (hW).2.2.2.2.2.2.2.1.2 | exact (hW).2.2.2.2.2.2.2.1.2.1 | exact (hW).2.2.2.2.2.2.2.1.2.2.1 | exact (hW).2.2.2.2.2.2.2.1.2.2.2.1 | exact (hW).2.2.2.2.2.2.2.1.2.2.2 | exact (hW).2.2.2.2.2.2.2.2 | exact (hW).2.2.2.2.2.2.2.2.1 | exact (hW).2.2.2.2.2.2.2.2.1.1 | exact (hW).2.2.2.2.2.2.2.2.1.2 | exact (hW).2.2.2.2.2.2.2.2.1.2.1 | exact (hW).2.2.2.2.2.2.2.2.1.2.2.1 | exact (hW).2.2.2.2.2.2.2.2.1.2.2.2.1 | exact (hW).2.2.2.2.2.2.2.2.1.2.2.2 | exact (hW).2.2.2.2.2.2.2.2.2)) ?_
      rintro v W ⟨⟨ra, rc⟩, rfl, _⟩ _
      simp (maxSteps := 2000000) -implicitDefEqProofs [hN]
      refine call0 ok rfl rfl rfl (fun w I hI hG => pagesOf0 w I hI d.runs (fun W e => ⟨rfl, (slQ.get (hG W e).1).2⟩)) fun z W hz => ?_
      obtain ⟨⟨za, zc⟩, z⟩ := z
      have hzl : (z.length : Int) = countL d.runs := by have := hz.2; simp only at this; rw [this]; rfl
      simp (maxSteps := 2000000) -implicitDefEqProofs [hN, hzl, e9, e6]
      refine next (i + 1) _ _ (by omega) (fun W hW => ⟨hlt, (by first | exact (hW) | exact (hW).1 | exact (hW).1.1 | exact (hW).1.2 | exact (hW).1.2.1 | exact (hW).1.2.2.1 | exact (hW).1.2.2.2.1 | exact (hW).1.2.2.2 | exact (hW).2 | exact (hW).2.1 | exact (hW).2.1.1 | exact (hW).2.1.2 | exact (hW).2.1.2.1 | exact (hW).2.1.2.2.1 | exact (hW).2.1.2.2.2.1 | exact (hW).2.1.2.2.2 | exact (hW).2.2 | exact (hW).2.2.1 | exact (hW).2.2.1.1 | exact (hW).2.2.1.2 | exact (hW).2.2.1.2.1 | exact (hW).2.2.1.2.2.1 | exact (hW).2.2.1.2.2.2.1 | exact (hW).2.2.1.2.2.2 | exact (hW).2.2.2 | exact (hW).2.2.2.1 | exact (hW).2.2.2.1.1 | exact (hW).2.2.2.1.2 | exact (hW).2.2.2.1.2.1 | exact (hW).2.2.2.1.2.2.1 | exact (hW).2.2.2.1.2.2.2.1 | exact (hW).2.2.2.1.2.2.2 | exact (hW).2.2.2.2 | exact (hW).2.2.2.2.1 | exact (hW).2.2.2.2.1.1 | exact (hW).2.2.2.2.1.2 | exact (hW).2.2.2.2.1.2.1 | exact (hW).2.2.2.2.1.2.2.1 | exact (hW).2.2.2.2.1.2.2.2.1 | exact (hW).2.2.2.2.1.2.2.2 | exact (hW).2.2.2.2.2 | exact (hW).2.2.2.2.2.1 | exact (hW).2.2.2.2.2.1.1 | exact (hW).2.2.2.2.2.1.2 | exact (hW).2.2.2.2.2.1.2.1 | exact (hW).2.2.2.2.2.1.2.2.1 | exact (hW).2.2.2.2.2.1.2.2.2.1 | exact (hW).2.2.2.2.2.1.2.2.2 | exact (hW).2.2.2.2.2.2 | exact (hW).2.2.2.2.2.2.1 | exact (hW).2.2.2.2.2.2.1.1 | exact (hW).2.2.2.2.2.2.1.2 | exact (hW).2.2.2.2.2.2.1.2.1 | exact (hW).2.2.2.2.2.2.1.2.2.1 | exact (hW).2.2.2.2.2.2.1.2.2.2.1 | exact (hW).2.2.2.2.2.2.1.2.2.2 | exact (hW).2.2.2.2.2.2.2 | exact (hW).2.2.2.2.2.2.2.1 | exact (hW).2.2.2.2.2.2.2.1.1 | exact (hW).2.2.2.2.2.2.2.1.2 | exact (hW).2.2.2.2.2.2.2.1.2.1 | exact (hW).2.2.2.2.2.2.2.1.2.2.1 | exact (hW).2.2.2.2.2.2.2.1.2.2.2.1 | exact (hW).2.2.2.2.2.2.2.1.2.2.2 | exact (hW).2.2.2.2.2.2.2.2 | exact (hW).2.2.2.2.2.2.2.2.1 | exact (hW).2.2.2.2.2.2.2.2.1.1 | exact (hW).2.2.2.2.2.2.2.2.1.2 | exact (hW).2.2.2.2.2.2.2.2.1.2.1 | exact (hW).2.2.2.2.2.2.2.2.1.2.2.1 | exact (hW).2.2.2.2.2.2.2.2.1.2.2.2.1 | exact (hW).2.2.2.2.2.2.2.2.1.2.2.2 | exact (hW).2.2.2.2.2.2.2.2.2)⟩) ?_
      simp
    · have e : s.inos.take i = s.inos := List.take_of_length_le hge
      have hltI : ¬ (i : Int) < (s.inos.length : Nat) := by omega
      rw [e]
      simp (maxSteps := 2000000) -implicitDefEqProofs [hN, hltI, e1, e2]
      exact ret0 hC ⟨g.blocks * g.pages, liveL s.inos, (s.bad.length : Int) * g.pages⟩ rfl fun W _ _ => by rw [roomOf, if_pos hr, Int.mul_comm (s.bad.length : Int)]
  · obtain rfl : y = false := by rw [hy]; exact decide_eq_false hr
    simp (maxSteps := 2000000) -implicitDefEqProofs [hN]
    exact ret0 hC ⟨0, 0, 0⟩ rfl fun W _ _ => by rw [roomOf, if_neg hr]
end Go.Proofs.YtbbaoeidobdblaaGreat.Sx

/- Ceil, Sure of the reference; space.Sure of a geometry that isn't right. -/
set_option linter.unusedVariables false
set_option linter.unusedSimpArgs false
namespace Go.Proofs.YtbbaoeidobdblaaGreat.Sx
open Go
attribute [local simp ↓] ifb_true' ifb_false'
attribute [local simp] ifb_true ifb_false ifb_eq sx argsT find ev evOp evs evo evBin evInt evStr evNil evNilA ptrA slcA isNoneA asB evLoad look del cellsB evUn evConv kdec fld evFieldA evField evIdxA evIdx evSlc bndL bndH evLen mmi put resV guardV gvL setO tupV cellsOf ones one upd lits nv exitTo SV.val CV.val TI.agg rdyA allR keepB scan simpO gsp isS subs keepT pickT wr memN pubs Res.fact Region.binds bld rest give delL back Res.eqv vi vb num Sv.val undef
set_option maxHeartbeats 1000000 in
theorem refCeil0 (w : World) (I : Nat → Prop) (hI : ∀ b, I b → b < w.heap.size) (n p : Int) (hn : n ≤ 1000000000000) :
    Fn0 Tryz.prog 92 #[.int .i64 n, .int .i64 p] w I (fun v : Int => .int .i64 v) (fun y W => y = ceilP n p) := by
  refine enter (svs := [.c (.v (.int .i64 n)), .c (.v (.int .i64 p))]) tysOk Tryz.func92 rfl Tryz.ntmps92 Tryz.results92 (by kernel_rfl) (by simp) hI (fun _ => True) (fun _ _ => trivial) fun C hC hN ok => ?_
  by_cases h1 : n < 1
  · simp [hN, h1]
    exact ret0 hC _ rfl fun W _ _ => by rw [ceilP, if_pos (.inl (by omega))]
  · by_cases h2 : p < 1
    · simp [hN, h1, h2]
      exact ret0 hC _ rfl fun W _ _ => by rw [ceilP, if_pos (.inr (by omega))]
    · simp [hN, h1, h2]
      refine ⟨by omega, ret0 hC _ rfl fun W _ _ => ?_⟩
      rw [ceilP, if_neg (by omega), w64 (x := n - 1) (by omega) (by omega), Int.tdiv_eq_ediv_of_nonneg (by omega)]
      have h3 : 0 ≤ (n - 1) / p := Int.ediv_nonneg (by omega) (by omega)
      have h4 : (n - 1) / p ≤ n - 1 := Int.ediv_le_self _ (by omega)
      rw [w64 (x := (n - 1) / p) (by omega) (by omega), w64 (by omega) (by omega)]
set_option maxRecDepth 100000 in
set_option maxHeartbeats 4000000 in
theorem sureNot0 (w : World) (I : Nat → Prop) (hI : ∀ b, I b → b < w.heap.size) (s : Sta) (si sb : Sl) (g : Geo) (pages : Int) (h : ∀ W, Ext I w W → StaR W s si sb) (hr : ¬ g.right) :
    Fn0 Tryz.prog 49 #[.agg (staC s si sb).toArray, .agg (geoC g).toArray, .int .i64 pages] w I (fun b : Bool => .bool b) (fun y W => y = true ↔ sureOf s g pages) := by
  obtain ⟨ia, ic⟩ := si
  obtain ⟨ba, bc⟩ := sb
  refine enter (svs := [.ag ((staC s (ia, ic) (ba, bc)).map .v), .ag ((geoC g).map .v), .c (.v (.int .i64 pages))]) tysOk Tryz.func49 rfl Tryz.ntmps49 Tryz.results49 (by kernel_rfl) (by simp) hI (fun W => StaR W s (ia, ic) (ba, bc)) h fun C hC hN ok => ?_
  simp [hN]
  intro g1 g2
  refine drawK ok mixed (by kernel_rfl) ?_
  simp (maxSteps := 2000000) -implicitDefEqProofs [hN]
  refine call0 ok rfl rfl rfl (fun w I hI hG => norRight0 w I hI g) fun y W hy => ?_
  obtain rfl : y = false := by rw [hy]; exact decide_eq_false hr
  simp (maxSteps := 2000000) -implicitDefEqProofs [hN]
  exact ret0 hC false rfl fun W _ _ => ⟨fun h => absurd h (by decide), fun h => absurd h.1 hr⟩
theorem sureG0 (w : World) (I : Nat → Prop) (hI : ∀ b, I b → b < w.heap.size) (s : Sta) (si sb : Sl) (g : Geo) (pages : Int) (h : ∀ W, Ext I w W → StaR W s si sb) (hs : Small s) :
    Fn0 Tryz.prog 49 #[.agg (staC s si sb).toArray, .agg (geoC g).toArray, .int .i64 pages] w I (fun b : Bool => .bool b) (fun y W => y = true ↔ sureOf s g pages) := by
  by_cases hr : g.right
  · exact sure0 w I hI s si sb g pages h hs (by obtain ⟨_, _, _, q1, _⟩ := hr; omega)
  · exact sureNot0 w I hI s si sb g pages h hr
set_option maxRecDepth 100000 in
set_option maxHeartbeats 4000000 in
theorem refSure0 (w : World) (I : Nat → Prop) (hI : ∀ b, I b → b < w.heap.size) (s : Sta) (si sb : Sl) (g : Geo) (pages : Int) (h : ∀ W, Ext I w W → StaR W s si sb) (hs : Small s) :
    Fn0 Tryz.prog 50 #[.agg (staC s si sb).toArray, .agg (geoC g).toArray, .int .i64 pages] w I (fun b : Bool => .bool b) (fun y W => y = true ↔ sureOf s g pages) := by
  obtain ⟨ia, ic⟩ := si
  obtain ⟨ba, bc⟩ := sb
  refine enter (svs := [.ag ((staC s (ia, ic) (ba, bc)).map .v), .ag ((geoC g).map .v), .c (.v (.int .i64 pages))]) tysOk Tryz.func50 rfl Tryz.ntmps50 Tryz.results50 (by kernel_rfl) (by simp) hI (fun W => StaR W s (ia, ic) (ba, bc)) h fun C hC hN ok => ?_
  simp (maxSteps := 2000000) -implicitDefEqProofs [hN]
  intro g3 g4
  refine call0 ok rfl rfl rfl (fun w I hI hG => refRoom0 w I hI s (ia, ic) (ba, bc) g hG hs) fun z W hz => ?_
  subst hz
  have s2 := hs.2.1
  have hlv := liveL_le s.inos hs.2.2
  have hs1 := hs.1
  by_cases hr : g.right
  · obtain ⟨_, _, _, q1, q2, _⟩ := id hr
    have hro : (roomOf s g).live = liveL s.inos := by rw [roomOf, if_pos hr]
    by_cases hp : 0 ≤ pages ∧ pages ≤ 64
    · obtain ⟨p1, p2⟩ := hp
      have e1 : IntKind.i64.wrap (g.blocks - (s.bad.length : Int)) = g.blocks - s.bad.length := w64 (by omega) (by omega)
      have e2 : IntKind.i64.wrap (g.blocks - (s.bad.length : Int) - 2) = g.blocks - s.bad.length - 2 := w64 (by omega) (by omega)
      have hce : 0 ≤ ceilP pages g.pages ∧ ceilP pages g.pages ≤ 64 := by
        unfold ceilP
        split
        · omega
        · rename_i hn
          have k1 : 0 ≤ (pages - 1) / g.pages := Int.ediv_nonneg (by omega) (by omega)
          have k2 : (pages - 1) / g.pages ≤ pages - 1 := Int.ediv_le_self _ (by omega)
          omega
      have e3 : IntKind.i64.wrap (g.blocks - (s.bad.length : Int) - 2 - ceilP pages g.pages) = g.blocks - s.bad.length - 2 - ceilP pages g.pages := w64 (by omega) (by omega)
      have k1 : g.pages * (g.blocks - (s.bad.length : Int) - 2 - ceilP pages g.pages) ≤ 32 * 64 := by
        rcases Int.le_total 0 (g.blocks - (s.bad.length : Int) - 2 - ceilP pages g.pages) with k | k
        · exact Int.mul_le_mul q2.2 (by omega) k (by decide)
        · have := Int.mul_nonpos_of_nonneg_of_nonpos (show 0 ≤ g.pages by omega) k
          omega
      have k2 : 32 * (-2000000) ≤ g.pages * (g.blocks - (s.bad.length : Int) - 2 - ceilP pages g.pages) := by
        rcases Int.le_total 0 (g.blocks - (s.bad.length : Int) - 2 - ceilP pages g.pages) with k | k
        · have := Int.mul_nonneg (show 0 ≤ g.pages by omega) k
          omega
        · have h5 : g.pages * (-(g.blocks - (s.bad.length : Int) - 2 - ceilP pages g.pages)) ≤ 32 * 2000000 := Int.mul_le_mul q2.2 (by omega) (by omega) (by decide)
          rw [Int.mul_neg] at h5
          omega
      have e4 : IntKind.i64.wrap (g.pages * (g.blocks - (s.bad.length : Int) - 2 - ceilP pages g.pages)) = g.pages * (g.blocks - (s.bad.length : Int) - 2 - ceilP pages g.pages) := w64 (by omega) (by omega)
      simp (maxSteps := 2000000) -implicitDefEqProofs [hN]
      intro g7
      refine drawK ok mixed (by kernel_rfl) ?_
      simp (maxSteps := 2000000) -implicitDefEqProofs [hN]
      refine call0 ok rfl rfl rfl (fun w I hI hG => refRightG0 w I hI g) fun y W hy => ?_
      obtain rfl : y = true := by rw [hy]; exact decide_eq_true hr
      simp (maxSteps := 2000000) -implicitDefEqProofs [hN, p1, p2, e1, e2, hro]
      refine call0 ok rfl rfl rfl (fun w I hI hG => refCeil0 w I hI pages g.pages (by omega)) fun z W hz => ?_
      subst hz
      simp (maxSteps := 2000000) -implicitDefEqProofs [hN, e3, e4]
      refine ret0 hC _ rfl fun W _ _ => ?_
      simp [sureOf, hr, p1, p2]
    · simp (maxSteps := 2000000) -implicitDefEqProofs [hN]
      intro g7
      refine drawK ok mixed (by kernel_rfl) ?_
      simp (maxSteps := 2000000) -implicitDefEqProofs [hN]
      refine call0 ok rfl rfl rfl (fun w I hI hG => refRightG0 w I hI g) fun y W hy => ?_
      obtain rfl : y = true := by rw [hy]; exact decide_eq_true hr
      by_cases p1 : 0 ≤ pages
      · have p2 : ¬ pages ≤ 64 := fun h => hp ⟨p1, h⟩
        simp (maxSteps := 2000000) -implicitDefEqProofs [hN, p1, p2]
        exact ret0 hC false rfl fun W _ _ => ⟨fun h => absurd h (by decide), fun h => absurd h.2.2.1 p2⟩
      · simp (maxSteps := 2000000) -implicitDefEqProofs [hN, p1]
        exact ret0 hC false rfl fun W _ _ => ⟨fun h => absurd h (by decide), fun h => absurd h.2.1 p1⟩
  · simp (maxSteps := 2000000) -implicitDefEqProofs [hN]
    intro g7
    refine drawK ok mixed (by kernel_rfl) ?_
    simp (maxSteps := 2000000) -implicitDefEqProofs [hN]
    refine call0 ok rfl rfl rfl (fun w I hI hG => refRightG0 w I hI g) fun y W hy => ?_
    obtain rfl : y = false := by rw [hy]; exact decide_eq_false hr
    simp (maxSteps := 2000000) -implicitDefEqProofs [hN]
    exact ret0 hC false rfl fun W _ _ => ⟨fun h => absurd h (by decide), fun h => absurd h.1 hr⟩
end Go.Proofs.YtbbaoeidobdblaaGreat.Sx

/- Fits of the reference; the law SpaceTells. -/
set_option linter.unusedVariables false
set_option linter.unusedSimpArgs false
namespace Go.Proofs.YtbbaoeidobdblaaGreat.Sx
open Go
attribute [local simp ↓] ifb_true' ifb_false'
attribute [local simp] ifb_true ifb_false ifb_eq sx argsT find ev evOp evs evo evBin evInt evStr evNil evNilA ptrA slcA isNoneA asB evLoad look del cellsB evUn evConv kdec fld evFieldA evField evIdxA evIdx evSlc bndL bndH evLen mmi put resV guardV gvL setO tupV cellsOf ones one upd lits nv exitTo SV.val CV.val TI.agg rdyA allR keepB scan simpO gsp isS subs keepT pickT wr memN pubs Res.fact Region.binds bld rest give delL back Res.eqv vi vb num Sv.val undef
set_option maxHeartbeats 1000000 in
theorem firstG0 (w : World) (I : Nat → Prop) (hI : ∀ b, I b → b < w.heap.size) (e : Int) (s : Sta) (si sb : Sl) (h : ∀ W, Ext I w W → StaR W s si sb) (hl : s.inos.length + s.bad.length ≤ 1000000000) (hl2 : (deedsB (wholeL s)).length ≤ 10000000000) :
    Fn0 Tryz.prog 65 #[.int .i64 e, .agg (staC s si sb).toArray] w I (fun r : Sl => .slice r.1 (firstB e s).length r.2) (fun r W => r.ok dByte W (firstB e s)) := by
  obtain ⟨ia, ic⟩ := si
  obtain ⟨ba, bc⟩ := sb
  refine enter (svs := [.c (.v (.int .i64 e)), .ag ((staC s (ia, ic) (ba, bc)).map .v)]) tysOk Tryz.func65 rfl Tryz.ntmps65 Tryz.results65 (by kernel_rfl) (by simp) hI (fun W => StaR W s (ia, ic) (ba, bc)) h fun C hC hN ok => ?_
  simp [hN]
  intro g1
  refine drawK ok mixed (by kernel_rfl) ?_
  simp (maxSteps := 2000000) -implicitDefEqProofs [hN, u64_wrap]
  refine callS ok rfl rfl rfl [] [] trivial rfl (fun x : Sl => [(600, .row x.1 8 x.2 5 1 (bC (intB e)))]) (fun w I S hI hG hO hS => (refPutS w I hI [] (none, 0) _ 8 (fun W _ => by simp [Sl.ok, Rd]) (by simp) (by omega) (Int.emod_nonneg _ (by decide))).lone hO) (fun r => by simp [intB]) (.inl fun k hk => by cases hk) fun x W _ => ?_
  simp (maxSteps := 2000000) -implicitDefEqProofs [hN]
  refine call0 ok rfl rfl rfl (fun w I hI hG => refWhole0 w I hI s (ia, ic) (ba, bc) (fun W e => hG W e) hl) fun y W hy => ?_
  simp (maxSteps := 2000000) -implicitDefEqProofs [hN]
  refine call0 ok rfl rfl rfl (fun w I hI hG => refPackG0 w I hI (wholeL s) y (fun W e => (hG W e).1) hl2) fun z W hz => ?_
  simp (maxSteps := 2000000) -implicitDefEqProofs [hN]
  obtain ⟨za, zn, zc⟩ := z
  have hzn : zn = (deedsB (wholeL s)).length := hz.1
  refine appV ok 600 rfl rfl rfl rfl rfl (by decide) rfl rfl rfl rfl rfl rfl dByte (deedsB (wholeL s)) rfl (by show (8 + _) * 1 ≤ _; omega) (by omega) (fun W hW => hW.1) fun l a' c'' W hl hr _ => ?_
  simp (maxSteps := 2000000) -implicitDefEqProofs [hN]
  have hll : l = (deedsB (wholeL s)).map (Value.int .u8) := rows_byte.1 hr
  have hrow : bC (intB e) ++ l.map nv = bC (firstB e s) := by rw [hll, bC_nv, bC_app, firstB]
  rw [hrow]
  refine ret0 hC (a', c'') (by simp [firstB_length]) fun W hp hG => ?_
  simp only [pubs, Res.fact] at hp
  exact (byte_ok (xs := firstB e s) hp.1 (by rw [firstB_length]; omega)).2
noncomputable abbrev fitB (s : Sta) (g : Geo) (l : List Dee) : Bool := decide ((wholeB (applyL s l) : Int) + 15 ≤ if g.right then g.sectors / 2 * g.sector else 0)
set_option maxRecDepth 100000 in
set_option maxHeartbeats 2000000 in
theorem refFits0 (w : World) (I : Nat → Prop) (hI : ∀ b, I b → b < w.heap.size) (s : Sta) (si sb : Sl) (g : Geo) {a : Option Addr} {n c : Nat} (l : List Dee) (h : ∀ W, Ext I w W → StaR W s si sb) (hd : ∀ W, Ext I w W → Sv.ok dDee W (a, n, c) l) (hl : s.inos.length + l.length ≤ 1000000000 ∧ s.bad.length + l.length ≤ 1000000000)
    (hl2 : (applyL s l).inos.length + (applyL s l).bad.length ≤ 1000000000) (hl3 : (deedsB (wholeL (applyL s l))).length ≤ 1000000000) :
    Fn0 Tryz.prog 18 #[.agg (staC s si sb).toArray, .agg (geoC g).toArray, .slice a n c] w I (fun b : Bool => .bool b) (fun y W => y = fitB s g l) := by
  obtain ⟨ia, ic⟩ := si
  obtain ⟨ba, bc⟩ := sb
  refine enter (svs := [.ag ((staC s (ia, ic) (ba, bc)).map .v), .ag ((geoC g).map .v), .c (.v (.slice a n c))]) tysOk Tryz.func18 rfl Tryz.ntmps18 Tryz.results18 (by kernel_rfl) (by simp) hI (fun W => StaR W s (ia, ic) (ba, bc) ∧ Sv.ok dDee W (a, n, c) l) (fun W e => ⟨h W e, hd W e⟩) fun C hC hN ok => ?_
  have hB : wholeB (applyL s l) = (deedsB (wholeL (applyL s l))).length := rfl
  simp [hN]
  intro g1 g2
  refine call0 ok rfl rfl rfl (fun w I hI hG => refApply0 w I hI s (ia, ic) (ba, bc) l (fun W e => (hG W e).1) (fun W e => (hG W e).2) hl) fun y W _ => ?_
  obtain ⟨⟨ya, yc⟩, ⟨za, zc⟩⟩ := y
  simp [hN]
  refine call0 ok rfl rfl rfl (fun w I hI hG => firstG0 w I hI 1 (applyL s l) (ya, yc) (za, zc) (fun W e => (hG W e).1) hl2 (by omega)) fun y W _ => ?_
  have hfl : (firstB 1 (applyL s l)).length = 8 + wholeB (applyL s l) := firstB_length _ _
  rw [hfl]
  have hf : fitB s g l = decide ((wholeB (applyL s l) : Int) + 15 ≤ if g.right then g.sectors / 2 * g.sector else 0) := rfl
  rw [hf] at hC
  obtain ⟨K, hK⟩ : ∃ K, K = wholeB (applyL s l) := ⟨_, rfl⟩
  rw [← hK] at hB hC ⊢
  have e1 : IntKind.i64.wrap (8 + (K : Int) + 7) = 8 + K + 7 := w64 (by omega) (by omega)
  simp [hN]
  refine call0 ok rfl rfl rfl (fun w I hI hG => refRightG0 w I hI g) fun y W hy => ?_
  by_cases hg : g.right
  · obtain rfl : y = true := by rw [hy]; exact decide_eq_true hg
    obtain ⟨k1, k2⟩ := hS_le hg
    rw [if_pos hg] at hC
    simp (maxSteps := 2000000) -implicitDefEqProofs [hN]
    refine ⟨fun h1 => ?_, fun h1 => ret0 hC false rfl fun W _ _ => (decide_eq_false (by omega)).symm⟩
    refine call0 ok rfl rfl rfl (fun w I hI hG => refHalf0 w I hI g hg) fun y W hy => ?_
    subst hy
    simp (maxSteps := 2000000) -implicitDefEqProofs [hN, e1]
    exact ret0 hC _ rfl fun W _ _ => by congr 1; exact propext ⟨fun h => by omega, fun h => by omega⟩
  · obtain rfl : y = false := by rw [hy]; exact decide_eq_false hg
    rw [if_neg hg] at hC
    simp (maxSteps := 2000000) -implicitDefEqProofs [hN]
    exact ret0 hC false rfl fun W _ _ => (decide_eq_false (by omega)).symm
end Go.Proofs.YtbbaoeidobdblaaGreat.Sx

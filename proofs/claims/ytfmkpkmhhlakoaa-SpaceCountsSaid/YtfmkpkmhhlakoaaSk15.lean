/- awake of law 27. -/
import Derived.Test.YtfmkpkmhhlakoaaSk14
set_option linter.unusedVariables false
set_option linter.unusedSimpArgs false
namespace Go.Proofs.Ytfmkpkmhhlakoaa.Sx
open Go

attribute [local simp ↓] ifb_true' ifb_false'
attribute [local simp] ifb_true ifb_false ifb_eq sx argsT find ev evOp evs evo evBin evInt evStr evNil evNilA ptrA slcA isNoneA asB evLoad look del cellsB evUn evConv kdec fld evFieldA evField evIdxA evIdx evSlc bndL bndH evLen mmi put resV guardV gvL setO tupV cellsOf ones one upd lits nv exitTo SV.val CV.val TI.agg rdyA allR keepB scan simpO gsp isS subs keepT pickT wr memN pubs Res.fact Region.binds bld rest give delL back Res.eqv vi vb num Sv.val undef
def wideG : Geo := ⟨8, 2048, 12, 8, 32⟩
theorem wide_right : wideG.right := by decide
theorem small_new : Small newSta := ⟨by simp [newSta], by simp [newSta], fun x hx => by simp [newSta] at hx; subst hx; simp [newIno]⟩
theorem count_nil : countL [] = 0 := by simp [countL, pagesL]
theorem live_new : liveL newSta.inos = 0 := by simp [newSta, liveL, newIno, count_nil]
theorem room_new : roomOf newSta wideG = ⟨96, 0, 0⟩ := by
  rw [roomOf, if_pos wide_right, live_new]
  simp [wideG, newSta]
theorem sure_new : sureOf newSta wideG 5 := by
  refine ⟨wide_right, by decide, by decide, ?_⟩
  rw [live_new]
  decide
theorem whole_new : wholeB newSta = 54 := by
  simp [wholeB, wholeL, newSta, deedsB, deedB, tailB, lowB_length, intB_length, inoB_length, newIno, emp]
  rfl
set_option maxRecDepth 100000 in
set_option maxHeartbeats 4000000 in
theorem awake27 (w : World) (I : Nat → Prop) (hI : ∀ b, I b → b < w.heap.size) :
    Fn0 Try.prog 46 #[] w I (fun _ : Unit => .bool true) (fun y W => True) := by
  refine enter (svs := []) tysOk Try.func46 rfl Try.ntmps46 Try.results46 (by kernel_rfl) (by simp) hI (fun _ => True) (fun _ _ => trivial) fun C hC hN ok => ?_
  simp [hN]
  refine call0 ok rfl rfl rfl (fun w I hI hG => newSta0 w I hI) fun y W _ => ?_
  obtain ⟨a, c⟩ := y
  simp [hN]
  refine call0 ok rfl rfl rfl (fun w I hI hG => wide0 w I hI) fun y W _ => ?_
  simp [hN]
  refine call0 ok rfl rfl rfl (fun w I hI hG => of0 w I hI newSta (a, c) (none, 0) wideG (fun W e => (hG W e)) small_new) fun y W hy => ?_
  rw [room_new] at hy
  subst hy
  simp [hN]
  intro g1
  refine call0 ok rfl rfl rfl (fun w I hI hG => newSta0 w I hI) fun y W _ => ?_
  obtain ⟨a2, c2⟩ := y
  simp [hN]
  refine call0 ok rfl rfl rfl (fun w I hI hG => wide0 w I hI) fun y W _ => ?_
  simp [hN]
  refine call0 ok rfl rfl rfl (fun w I hI hG => sure0 w I hI newSta (a2, c2) (none, 0) wideG 5 (fun W e => (hG W e).1) small_new (by decide)) fun y W hy => ?_
  rw [hy.2 sure_new]
  simp [hN]
  refine call0 ok rfl rfl rfl (fun w I hI hG => newSta0 w I hI) fun y W _ => ?_
  obtain ⟨a3, c3⟩ := y
  simp [hN]
  refine call0 ok rfl rfl rfl (fun w I hI hG => wide0 w I hI) fun y W _ => ?_
  simp [hN]
  refine call0 ok rfl rfl rfl (fun w I hI hG => journalNil0 w I hI newSta (a3, c3) (none, 0) wideG (fun W e => (hG W e).1) small_new (by rw [whole_new]; decide)) fun y W hy => ?_
  have hy' : y = true := by
    rw [hy, whole_new, if_pos wide_right]
    decide
  subst hy'
  simp [hN]
  exact ret0 hC () rfl fun _ _ _ => trivial
end Go.Proofs.Ytfmkpkmhhlakoaa.Sx

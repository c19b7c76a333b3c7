/- Laid together: Sb12, Sb13, Rowlb, Rdkb, BlocksAll. -/
import Derived.Test.YtbbaoeidobdblaaBA8
import Derived.WalkKit
import Derived.ProofKit
import Derived.OpenShut
import Derived.ShutString
import Derived.ChangeOld
import Derived.Below
import Derived.Lib.SmallJoins
import Derived.Test.YtbbaoeidobdblaaRows
import Derived.ChangeArms
import Derived.JoinedCond
/- garretlaw18.awake. -/
set_option linter.unusedVariables false
set_option linter.unusedSimpArgs false
namespace Go.Proofs.Ytbbaoeidobdblaa.Sx
open Go Go.Proofs.Ytbbaoeidobdblaa
attribute [local simp ↓] ifb_true' ifb_false'
attribute [local simp] ifb_true ifb_false ifb_eq sx argsT find ev evOp evs evo evBin evInt evStr evNil evNilA ptrA slcA isNoneA asB evLoad look del cellsB evUn evConv kdec fld evFieldA evField evIdxA evIdx evSlc bndL bndH evLen mmi put resV guardV gvL setO tupV cellsOf ones one upd lits nv exitTo SV.val CV.val TI.agg rdyA allR keepB scan simpO gsp isS subs keepT pickT wr memN pubs Res.fact Region.binds bld rest give delL back Res.eqv vi vb num Sv.val undef
def run18 : Rn := ⟨2, 3, 1⟩
def ino18 : Ino := ⟨5, 1, 0, 0, emp, [], [run18]⟩
def sta18 : Sta := ⟨0, [ino18], []⟩
theorem right18 : RightL [run18] := by
  intro j hj hj2
  have : j = 0 := by simp at hj; omega
  subst this
  exact ⟨(by decide : okR run18), fun h => absurd rfl (Nat.ne_of_gt h)⟩
theorem allW18 : allW sta18.inos = [3] := by
  show pagesL [run18] ++ [] = [3]
  rw [pagesL, if_pos right18]
  decide
theorem live18 : liveTL sta18 1 2 = [(5, 2)] := by
  rw [← live_of_WI (l := [3]) ⟨by simp, fun q => by rw [allW18]; simp; intro h; subst h; decide, by rw [allW18]; exact Nat.le_refl _⟩]
  show [(ownI [ino18] 3).getD (0, 0)] = [(5, 2)]
  rw [ownI_right right18]
  decide
theorem sta18R {W : World} {e1 e2 : TypeId} {g3 g5 : Nat} (h3 : W.ownsRow 0 e1 3 (.slice (some ⟨g3, 0, none⟩) 1 1) 1 (rnC run18)) (h5 : W.ownsRow 0 e2 7 (.slice (some ⟨g5, 0, none⟩) 1 1) 1 (inoC ino18 (none, 0) (some ⟨g3, 0, none⟩, 1))) : StaR W sta18 (some ⟨g5, 0, none⟩, 1) (none, 0) := by
  have r1 : Rows dRn W [run18] (rnC run18) := rowsR.2 (by simp)
  obtain ⟨a1, a2, a3⟩ := r1.rd h3 (by decide)
  have h1 : Rows dIno W [ino18] (inoC ino18 (none, 0) (some ⟨g3, 0, none⟩, 1)) := by
    refine Rows.cons_iff.2 ⟨_, [], (List.append_nil _).symm, ⟨(none, 0), (some ⟨g3, 0, none⟩, 1), rfl, ⟨Nat.le_refl _, by simp [ino18], rd_nil _ _ _⟩, ⟨Nat.le_refl _, by simp [ino18], a3⟩⟩, rows_nil _ _⟩
  obtain ⟨k1, k2, k3⟩ := h1.rd h5 (by decide)
  exact ⟨⟨by simp [sta18], by simp [sta18], k3⟩, ⟨Nat.le_refl _, by simp [sta18], rd_nil _ _ _⟩⟩
def geo18 : Geo := ⟨2, 256, 4, 2, 16⟩
theorem geoP18 : geoP ⟨0, 0, 0, 0, 0⟩ = geo18 := by decide
theorem right_geo18 : geo18.right := by rw [← geoP18]; exact geoP_right _
theorem zero4 {W : World} {e : TypeId} {g : Nat} {l : List Value} (h : W.ownsRow 0 e 1 (.slice (some ⟨g, 0, none⟩) 4 4) 4 l) (hl : l = [.int .i64 0, .int .i64 0, .int .i64 0, .int .i64 0] := by rfl) : Sl.ok dInt W (some ⟨g, 0, none⟩, 4) [0, 0, 0, 0] := by
  subst hl
  exact ints_sl (l := [0, 0, 0, 0]) h (by decide)
set_option maxRecDepth 100000 in
set_option maxHeartbeats 8000000 in
theorem awake18 (w : World) (I : Nat → Prop) (hI : ∀ b, I b → b < w.heap.size) :
    Fn0 Try.prog 15 #[] w I (fun _ : Unit => .bool true) (fun y W => True) := by
  refine enter (svs := []) tysOk Try.func15 rfl Try.ntmps15 Try.results15 (by kernel_rfl) (by simp) hI (fun _ => True) (fun _ _ => trivial) fun C hC hN ok => ?_
  have hol : (ownersT sta18.inos).length ≤ 1000000 := by have := owners_le sta18; rw [allW18] at this; simp at this; omega
  have hil : sta18.inos.length ≤ 1000000000 := by simp [sta18]
  simp (maxSteps := 2000000) -implicitDefEqProofs [hN]
  intro g3 g5 g1
  refine pub 3 rfl (by decide) (pub 5 rfl (by decide) ?_)
  refine lessG (fun W => StaR W sta18 (some ⟨g5, 0, none⟩, 1) (none, 0)) (fun W hW => ?_) ?_
  · exact sta18R (by simpa [rnC, run18] using hW.2.1) (by simpa [inoC, ino18, emp] using hW.1)
  refine tellG 1 (r' := .box g1 47 ((staC sta18 (some ⟨g5, 0, none⟩, 1) (none, 0)).map .v)) rfl (by simp [sta18]) ?_
  refine draw ok [(1, .box g1 47 ((staC sta18 (some ⟨g5, 0, none⟩, 1) (none, 0)).map .v))] (by rw [ok.P]; exact mixed) (by kernel_rfl) ?_
  simp (maxSteps := 2000000) -implicitDefEqProofs [hN]
  refine ⟨?_, ?_⟩
  · refine call0 ok rfl rfl rfl (fun w I hI hG => bLive0 w I hI sta18 (some ⟨g5, 0, none⟩, 1) (none, 0) 1 2 (fun W e => ((by first | exact ((hG W e)) | exact ((hG W e)).1 | exact ((hG W e)).1.1 | exact ((hG W e)).1.2 | exact ((hG W e)).1.2.1 | exact ((hG W e)).1.2.2.1 | exact ((hG W e)).1.2.2.2.1 | exact ((hG W e)).1.2.2.2 | exact ((hG W e)).2 | exact ((hG W e)).2.1 | exact ((hG W e)).2.1.1 | exact ((hG W e)).2.1.2 | exact ((hG W e)).2.1.2.1 | exact ((hG W e)).2.1.2.2.1 | exact ((hG W e)).2.1.2.2.2.1 | exact ((hG W e)).2.1.2.2.2 | exact ((hG W e)).2.2 | exact ((hG W e)).2.2.1 | exact ((hG W e)).2.2.1.1 | exact ((hG W e)).2.2.1.2 | exact ((hG W e)).2.2.1.2.1 | exact ((hG W e)).2.2.1.2.2.1 | exact ((hG W e)).2.2.1.2.2.2.1 | exact ((hG W e)).2.2.1.2.2.2 | exact ((hG W e)).2.2.2 | exact ((hG W e)).2.2.2.1 | exact ((hG W e)).2.2.2.1.1 | exact ((hG W e)).2.2.2.1.2 | exact ((hG W e)).2.2.2.1.2.1 | exact ((hG W e)).2.2.2.1.2.2.1 | exact ((hG W e)).2.2.2.1.2.2.2.1 | exact ((hG W e)).2.2.2.1.2.2.2 | exact ((hG W e)).2.2.2.2 | exact ((hG W e)).2.2.2.2.1 | exact ((hG W e)).2.2.2.2.1.1 | exact ((hG W e)).2.2.2.2.1.2 | exact ((hG W e)).2.2.2.2.1.2.1 | exact ((hG W e)).2.2.2.2.1.2.2.1 | exact ((hG W e)).2.2.2.2.1.2.2.2.1 | exact ((hG W e)).2.2.2.2.1.2.2.2 | exact ((hG W e)).2.2.2.2.2 | exact ((hG W e)).2.2.2.2.2.1 | exact ((hG W e)).2.2.2.2.2.1.1 | exact ((hG W e)).2.2.2.2.2.1.2 | exact ((hG W e)).2.2.2.2.2.1.2.1 | exact ((hG W e)).2.2.2.2.2.1.2.2.1 | exact ((hG W e)).2.2.2.2.2.1.2.2.2.1 | exact ((hG W e)).2.2.2.2.2.1.2.2.2 | exact ((hG W e)).2.2.2.2.2.2 | exact ((hG W e)).2.2.2.2.2.2.1 | exact ((hG W e)).2.2.2.2.2.2.1.1 | exact ((hG W e)).2.2.2.2.2.2.1.2 | exact ((hG W e)).2.2.2.2.2.2.1.2.1 | exact ((hG W e)).2.2.2.2.2.2.1.2.2.1 | exact ((hG W e)).2.2.2.2.2.2.1.2.2.2.1 | exact ((hG W e)).2.2.2.2.2.2.1.2.2.2 | exact ((hG W e)).2.2.2.2.2.2.2 | exact ((hG W e)).2.2.2.2.2.2.2.1 | exact ((hG W e)).2.2.2.2.2.2.2.1.1 | exact ((hG W e)).2.2.2.2.2.2.2.1.2 | exact ((hG W e)).2.2.2.2.2.2.2.1.2.1 | exact ((hG W e)).2.2.2.2.2.2.2.1.2.2.1 | exact ((hG W e)).2.2.2.2.2.2.2.1.2.2.2.1 | exact ((hG W e)).2.2.2.2.2.2.2.1.2.2.2 | exact ((hG W e)).2.2.2.2.2.2.2.2 | exact ((hG W e)).2.2.2.2.2.2.2.2.1 | exact ((hG W e)).2.2.2.2.2.2.2.2.1.1 | exact ((hG W e)).2.2.2.2.2.2.2.2.1.2 | exact ((hG W e)).2.2.2.2.2.2.2.2.1.2.1 | exact ((hG W e)).2.2.2.2.2.2.2.2.1.2.2.1 | exact ((hG W e)).2.2.2.2.2.2.2.2.1.2.2.2.1 | exact ((hG W e)).2.2.2.2.2.2.2.2.1.2.2.2 | exact ((hG W e)).2.2.2.2.2.2.2.2.2) : StaR W sta18 (some ⟨g5, 0, none⟩, 1) (none, 0))) hil hol) fun y W hy => ?_
    obtain ⟨⟨za, zc⟩, zs⟩ := y
    obtain ⟨hz1, hz2⟩ := hy
    simp only at hz2
    rw [live18] at hz2
    subst hz2
    simp (maxSteps := 2000000) -implicitDefEqProofs [hN]
    intro g10
    refine pub 10 rfl (by decide) ?_
    refine call0 ok rfl rfl rfl (fun w I hI hG => plainT0 w I hI (n := 1) (n' := 1) [(5, 2)] [(5, 2)] (fun W e => ⟨⟨rfl, ((by first | exact ((hG W e)) | exact ((hG W e)).1 | exact ((hG W e)).1.1 | exact ((hG W e)).1.2 | exact ((hG W e)).1.2.1 | exact ((hG W e)).1.2.2.1 | exact ((hG W e)).1.2.2.2.1 | exact ((hG W e)).1.2.2.2 | exact ((hG W e)).2 | exact ((hG W e)).2.1 | exact ((hG W e)).2.1.1 | exact ((hG W e)).2.1.2 | exact ((hG W e)).2.1.2.1 | exact ((hG W e)).2.1.2.2.1 | exact ((hG W e)).2.1.2.2.2.1 | exact ((hG W e)).2.1.2.2.2 | exact ((hG W e)).2.2 | exact ((hG W e)).2.2.1 | exact ((hG W e)).2.2.1.1 | exact ((hG W e)).2.2.1.2 | exact ((hG W e)).2.2.1.2.1 | exact ((hG W e)).2.2.1.2.2.1 | exact ((hG W e)).2.2.1.2.2.2.1 | exact ((hG W e)).2.2.1.2.2.2 | exact ((hG W e)).2.2.2 | exact ((hG W e)).2.2.2.1 | exact ((hG W e)).2.2.2.1.1 | exact ((hG W e)).2.2.2.1.2 | exact ((hG W e)).2.2.2.1.2.1 | exact ((hG W e)).2.2.2.1.2.2.1 | exact ((hG W e)).2.2.2.1.2.2.2.1 | exact ((hG W e)).2.2.2.1.2.2.2 | exact ((hG W e)).2.2.2.2 | exact ((hG W e)).2.2.2.2.1 | exact ((hG W e)).2.2.2.2.1.1 | exact ((hG W e)).2.2.2.2.1.2 | exact ((hG W e)).2.2.2.2.1.2.1 | exact ((hG W e)).2.2.2.2.1.2.2.1 | exact ((hG W e)).2.2.2.2.1.2.2.2.1 | exact ((hG W e)).2.2.2.2.1.2.2.2 | exact ((hG W e)).2.2.2.2.2 | exact ((hG W e)).2.2.2.2.2.1 | exact ((hG W e)).2.2.2.2.2.1.1 | exact ((hG W e)).2.2.2.2.2.1.2 | exact ((hG W e)).2.2.2.2.2.1.2.1 | exact ((hG W e)).2.2.2.2.2.1.2.2.1 | exact ((hG W e)).2.2.2.2.2.1.2.2.2.1 | exact ((hG W e)).2.2.2.2.2.1.2.2.2 | exact ((hG W e)).2.2.2.2.2.2 | exact ((hG W e)).2.2.2.2.2.2.1 | exact ((hG W e)).2.2.2.2.2.2.1.1 | exact ((hG W e)).2.2.2.2.2.2.1.2 | exact ((hG W e)).2.2.2.2.2.2.1.2.1 | exact ((hG W e)).2.2.2.2.2.2.1.2.2.1 | exact ((hG W e)).2.2.2.2.2.2.1.2.2.2.1 | exact ((hG W e)).2.2.2.2.2.2.1.2.2.2 | exact ((hG W e)).2.2.2.2.2.2.2 | exact ((hG W e)).2.2.2.2.2.2.2.1 | exact ((hG W e)).2.2.2.2.2.2.2.1.1 | exact ((hG W e)).2.2.2.2.2.2.2.1.2 | exact ((hG W e)).2.2.2.2.2.2.2.1.2.1 | exact ((hG W e)).2.2.2.2.2.2.2.1.2.2.1 | exact ((hG W e)).2.2.2.2.2.2.2.1.2.2.2.1 | exact ((hG W e)).2.2.2.2.2.2.2.1.2.2.2 | exact ((hG W e)).2.2.2.2.2.2.2.2 | exact ((hG W e)).2.2.2.2.2.2.2.2.1 | exact ((hG W e)).2.2.2.2.2.2.2.2.1.1 | exact ((hG W e)).2.2.2.2.2.2.2.2.1.2 | exact ((hG W e)).2.2.2.2.2.2.2.2.1.2.1 | exact ((hG W e)).2.2.2.2.2.2.2.2.1.2.2.1 | exact ((hG W e)).2.2.2.2.2.2.2.2.1.2.2.2.1 | exact ((hG W e)).2.2.2.2.2.2.2.2.1.2.2.2 | exact ((hG W e)).2.2.2.2.2.2.2.2.2) : Sl.ok dTg W (za, zc) [(5, 2)])⟩, ⟨rfl, tgs_sl (e := 58) (l := [(5, 2)]) (by have h : W.ownsRow 0 58 3 (.slice (some ⟨g10, 0, none⟩) 1 1) 1 _ := (hG W e).1; simpa using h) (by decide)⟩⟩)) fun _ W _ => ?_
    rw [tB_true rfl]
    simp (maxSteps := 2000000) -implicitDefEqProofs [hN]
    refine ⟨?_, ?_, ?_⟩
    · refine call0 ok rfl rfl rfl (fun w I hI hG => geometry0 w I hI ⟨0, 0, 0, 0, 0⟩) fun _ W _ => ?_
      rw [geoP18]
      simp (maxSteps := 2000000) -implicitDefEqProofs [hN]
      refine ⟨?_, ?_⟩
      · refine mksl ok rfl rfl rfl rfl rfl rfl rfl rfl rfl (by decide) (by decide) (by decide) fun g16 => ?_
        simp (maxSteps := 2000000) -implicitDefEqProofs [hN]
        refine mksl ok rfl rfl rfl rfl rfl rfl rfl rfl rfl (by decide) (by decide) (by decide) fun g17 => ?_
        simp (maxSteps := 2000000) -implicitDefEqProofs [hN]
        refine pub 16 rfl (by decide) (pub 17 rfl (by decide) ?_)
        refine call0 ok rfl rfl rfl (fun w I hI hG => bCount0 w I hI sta18 (some ⟨g5, 0, none⟩, 1) (none, 0) geo18 (pa := some ⟨g16, 0, none⟩) (pn := 4) (pc := 4) (ea := some ⟨g17, 0, none⟩) (en := 4) (ec := 4) [0, 0, 0, 0] [0, 0, 0, 0] (fun W e => ((by first | exact ((hG W e)) | exact ((hG W e)).1 | exact ((hG W e)).1.1 | exact ((hG W e)).1.2 | exact ((hG W e)).1.2.1 | exact ((hG W e)).1.2.2.1 | exact ((hG W e)).1.2.2.2.1 | exact ((hG W e)).1.2.2.2 | exact ((hG W e)).2 | exact ((hG W e)).2.1 | exact ((hG W e)).2.1.1 | exact ((hG W e)).2.1.2 | exact ((hG W e)).2.1.2.1 | exact ((hG W e)).2.1.2.2.1 | exact ((hG W e)).2.1.2.2.2.1 | exact ((hG W e)).2.1.2.2.2 | exact ((hG W e)).2.2 | exact ((hG W e)).2.2.1 | exact ((hG W e)).2.2.1.1 | exact ((hG W e)).2.2.1.2 | exact ((hG W e)).2.2.1.2.1 | exact ((hG W e)).2.2.1.2.2.1 | exact ((hG W e)).2.2.1.2.2.2.1 | exact ((hG W e)).2.2.1.2.2.2 | exact ((hG W e)).2.2.2 | exact ((hG W e)).2.2.2.1 | exact ((hG W e)).2.2.2.1.1 | exact ((hG W e)).2.2.2.1.2 | exact ((hG W e)).2.2.2.1.2.1 | exact ((hG W e)).2.2.2.1.2.2.1 | exact ((hG W e)).2.2.2.1.2.2.2.1 | exact ((hG W e)).2.2.2.1.2.2.2 | exact ((hG W e)).2.2.2.2 | exact ((hG W e)).2.2.2.2.1 | exact ((hG W e)).2.2.2.2.1.1 | exact ((hG W e)).2.2.2.2.1.2 | exact ((hG W e)).2.2.2.2.1.2.1 | exact ((hG W e)).2.2.2.2.1.2.2.1 | exact ((hG W e)).2.2.2.2.1.2.2.2.1 | exact ((hG W e)).2.2.2.2.1.2.2.2 | exact ((hG W e)).2.2.2.2.2 | exact ((hG W e)).2.2.2.2.2.1 | exact ((hG W e)).2.2.2.2.2.1.1 | exact ((hG W e)).2.2.2.2.2.1.2 | exact ((hG W e)).2.2.2.2.2.1.2.1 | exact ((hG W e)).2.2.2.2.2.1.2.2.1 | exact ((hG W e)).2.2.2.2.2.1.2.2.2.1 | exact ((hG W e)).2.2.2.2.2.1.2.2.2 | exact ((hG W e)).2.2.2.2.2.2 | exact ((hG W e)).2.2.2.2.2.2.1 | exact ((hG W e)).2.2.2.2.2.2.1.1 | exact ((hG W e)).2.2.2.2.2.2.1.2 | exact ((hG W e)).2.2.2.2.2.2.1.2.1 | exact ((hG W e)).2.2.2.2.2.2.1.2.2.1 | exact ((hG W e)).2.2.2.2.2.2.1.2.2.2.1 | exact ((hG W e)).2.2.2.2.2.2.1.2.2.2 | exact ((hG W e)).2.2.2.2.2.2.2 | exact ((hG W e)).2.2.2.2.2.2.2.1 | exact ((hG W e)).2.2.2.2.2.2.2.1.1 | exact ((hG W e)).2.2.2.2.2.2.2.1.2 | exact ((hG W e)).2.2.2.2.2.2.2.1.2.1 | exact ((hG W e)).2.2.2.2.2.2.2.1.2.2.1 | exact ((hG W e)).2.2.2.2.2.2.2.1.2.2.2.1 | exact ((hG W e)).2.2.2.2.2.2.2.1.2.2.2 | exact ((hG W e)).2.2.2.2.2.2.2.2 | exact ((hG W e)).2.2.2.2.2.2.2.2.1 | exact ((hG W e)).2.2.2.2.2.2.2.2.1.1 | exact ((hG W e)).2.2.2.2.2.2.2.2.1.2 | exact ((hG W e)).2.2.2.2.2.2.2.2.1.2.1 | exact ((hG W e)).2.2.2.2.2.2.2.2.1.2.2.1 | exact ((hG W e)).2.2.2.2.2.2.2.2.1.2.2.2.1 | exact ((hG W e)).2.2.2.2.2.2.2.2.1.2.2.2 | exact ((hG W e)).2.2.2.2.2.2.2.2.2) : StaR W sta18 (some ⟨g5, 0, none⟩, 1) (none, 0))) (fun W e => ⟨rfl, zero4 (hG W e).2.1⟩) (fun W e => ⟨rfl, zero4 (hG W e).1⟩) hil hol) fun y W hy => ?_
        obtain ⟨⟨za, zc⟩, zs⟩ := y
        obtain ⟨hz1, hz2⟩ := hy
        simp only at hz2
        have hzl : zs.length = 4 := by rw [hz2, cntOr, if_pos ⟨right_geo18, by decide, by decide⟩, blkL_len]; rfl
        simp (maxSteps := 2000000) -implicitDefEqProofs [hN, hzl]
        exact ret0 hC () rfl fun _ _ _ => trivial
      · refine mksl ok rfl rfl rfl rfl rfl rfl rfl rfl rfl (by decide) (by decide) (by decide) fun g17 => ?_
        simp (maxSteps := 2000000) -implicitDefEqProofs [hN]
        refine mksl ok rfl rfl rfl rfl rfl rfl rfl rfl rfl (by decide) (by decide) (by decide) fun g16 => ?_
        simp (maxSteps := 2000000) -implicitDefEqProofs [hN]
        refine pub 16 rfl (by decide) (pub 17 rfl (by decide) ?_)
        refine call0 ok rfl rfl rfl (fun w I hI hG => bCount0 w I hI sta18 (some ⟨g5, 0, none⟩, 1) (none, 0) geo18 (pa := some ⟨g16, 0, none⟩) (pn := 4) (pc := 4) (ea := some ⟨g17, 0, none⟩) (en := 4) (ec := 4) [0, 0, 0, 0] [0, 0, 0, 0] (fun W e => ((by first | exact ((hG W e)) | exact ((hG W e)).1 | exact ((hG W e)).1.1 | exact ((hG W e)).1.2 | exact ((hG W e)).1.2.1 | exact ((hG W e)).1.2.2.1 | exact ((hG W e)).1.2.2.2.1 | exact ((hG W e)).1.2.2.2 | exact ((hG W e)).2 | exact ((hG W e)).2.1 | exact ((hG W e)).2.1.1 | exact ((hG W e)).2.1.2 | exact ((hG W e)).2.1.2.1 | exact ((hG W e)).2.1.2.2.1 | exact ((hG W e)).2.1.2.2.2.1 | exact ((hG W e)).2.1.2.2.2 | exact ((hG W e)).2.2 | exact ((hG W e)).2.2.1 | exact ((hG W e)).2.2.1.1 | exact ((hG W e)).2.2.1.2 | exact ((hG W e)).2.2.1.2.1 | exact ((hG W e)).2.2.1.2.2.1 | exact ((hG W e)).2.2.1.2.2.2.1 | exact ((hG W e)).2.2.1.2.2.2 | exact ((hG W e)).2.2.2 | exact ((hG W e)).2.2.2.1 | exact ((hG W e)).2.2.2.1.1 | exact ((hG W e)).2.2.2.1.2 | exact ((hG W e)).2.2.2.1.2.1 | exact ((hG W e)).2.2.2.1.2.2.1 | exact ((hG W e)).2.2.2.1.2.2.2.1 | exact ((hG W e)).2.2.2.1.2.2.2 | exact ((hG W e)).2.2.2.2 | exact ((hG W e)).2.2.2.2.1 | exact ((hG W e)).2.2.2.2.1.1 | exact ((hG W e)).2.2.2.2.1.2 | exact ((hG W e)).2.2.2.2.1.2.1 | exact ((hG W e)).2.2.2.2.1.2.2.1 | exact ((hG W e)).2.2.2.2.1.2.2.2.1 | exact ((hG W e)).2.2.2.2.1.2.2.2 | exact ((hG W e)).2.2.2.2.2 | exact ((hG W e)).2.2.2.2.2.1 | exact ((hG W e)).2.2.2.2.2.1.1 | exact ((hG W e)).2.2.2.2.2.1.2 | exact ((hG W e)).2.2.2.2.2.1.2.1 | exact ((hG W e)).2.2.2.2.2.1.2.2.1 | exact ((hG W e)).2.2.2.2.2.1.2.2.2.1 | exact ((hG W e)).2.2.2.2.2.1.2.2.2 | exact ((hG W e)).2.2.2.2.2.2 | exact ((hG W e)).2.2.2.2.2.2.1 | exact ((hG W e)).2.2.2.2.2.2.1.1 | exact ((hG W e)).2.2.2.2.2.2.1.2 | exact ((hG W e)).2.2.2.2.2.2.1.2.1 | exact ((hG W e)).2.2.2.2.2.2.1.2.2.1 | exact ((hG W e)).2.2.2.2.2.2.1.2.2.2.1 | exact ((hG W e)).2.2.2.2.2.2.1.2.2.2 | exact ((hG W e)).2.2.2.2.2.2.2 | exact ((hG W e)).2.2.2.2.2.2.2.1 | exact ((hG W e)).2.2.2.2.2.2.2.1.1 | exact ((hG W e)).2.2.2.2.2.2.2.1.2 | exact ((hG W e)).2.2.2.2.2.2.2.1.2.1 | exact ((hG W e)).2.2.2.2.2.2.2.1.2.2.1 | exact ((hG W e)).2.2.2.2.2.2.2.1.2.2.2.1 | exact ((hG W e)).2.2.2.2.2.2.2.1.2.2.2 | exact ((hG W e)).2.2.2.2.2.2.2.2 | exact ((hG W e)).2.2.2.2.2.2.2.2.1 | exact ((hG W e)).2.2.2.2.2.2.2.2.1.1 | exact ((hG W e)).2.2.2.2.2.2.2.2.1.2 | exact ((hG W e)).2.2.2.2.2.2.2.2.1.2.1 | exact ((hG W e)).2.2.2.2.2.2.2.2.1.2.2.1 | exact ((hG W e)).2.2.2.2.2.2.2.2.1.2.2.2.1 | exact ((hG W e)).2.2.2.2.2.2.2.2.1.2.2.2 | exact ((hG W e)).2.2.2.2.2.2.2.2.2) : StaR W sta18 (some ⟨g5, 0, none⟩, 1) (none, 0))) (fun W e => ⟨rfl, zero4 (hG W e).2.1⟩) (fun W e => ⟨rfl, zero4 (hG W e).1⟩) hil hol) fun y W hy => ?_
        obtain ⟨⟨za, zc⟩, zs⟩ := y
        obtain ⟨hz1, hz2⟩ := hy
        simp only at hz2
        have hzl : zs.length = 4 := by rw [hz2, cntOr, if_pos ⟨right_geo18, by decide, by decide⟩, blkL_len]; rfl
        simp (maxSteps := 2000000) -implicitDefEqProofs [hN, hzl]
        exact ret0 hC () rfl fun _ _ _ => trivial
    · refine mksl ok rfl rfl rfl rfl rfl rfl rfl rfl rfl (by decide) (by decide) (by decide) fun g16 => ?_
      simp (maxSteps := 2000000) -implicitDefEqProofs [hN]
      refine ⟨?_, ?_⟩
      · refine call0 ok rfl rfl rfl (fun w I hI hG => geometry0 w I hI ⟨0, 0, 0, 0, 0⟩) fun _ W _ => ?_
        rw [geoP18]
        simp (maxSteps := 2000000) -implicitDefEqProofs [hN]
        refine mksl ok rfl rfl rfl rfl rfl rfl rfl rfl rfl (by decide) (by decide) (by decide) fun g17 => ?_
        simp (maxSteps := 2000000) -implicitDefEqProofs [hN]
        refine pub 16 rfl (by decide) (pub 17 rfl (by decide) ?_)
        refine call0 ok rfl rfl rfl (fun w I hI hG => bCount0 w I hI sta18 (some ⟨g5, 0, none⟩, 1) (none, 0) geo18 (pa := some ⟨g16, 0, none⟩) (pn := 4) (pc := 4) (ea := some ⟨g17, 0, none⟩) (en := 4) (ec := 4) [0, 0, 0, 0] [0, 0, 0, 0] (fun W e => ((by first | exact ((hG W e)) | exact ((hG W e)).1 | exact ((hG W e)).1.1 | exact ((hG W e)).1.2 | exact ((hG W e)).1.2.1 | exact ((hG W e)).1.2.2.1 | exact ((hG W e)).1.2.2.2.1 | exact ((hG W e)).1.2.2.2 | exact ((hG W e)).2 | exact ((hG W e)).2.1 | exact ((hG W e)).2.1.1 | exact ((hG W e)).2.1.2 | exact ((hG W e)).2.1.2.1 | exact ((hG W e)).2.1.2.2.1 | exact ((hG W e)).2.1.2.2.2.1 | exact ((hG W e)).2.1.2.2.2 | exact ((hG W e)).2.2 | exact ((hG W e)).2.2.1 | exact ((hG W e)).2.2.1.1 | exact ((hG W e)).2.2.1.2 | exact ((hG W e)).2.2.1.2.1 | exact ((hG W e)).2.2.1.2.2.1 | exact ((hG W e)).2.2.1.2.2.2.1 | exact ((hG W e)).2.2.1.2.2.2 | exact ((hG W e)).2.2.2 | exact ((hG W e)).2.2.2.1 | exact ((hG W e)).2.2.2.1.1 | exact ((hG W e)).2.2.2.1.2 | exact ((hG W e)).2.2.2.1.2.1 | exact ((hG W e)).2.2.2.1.2.2.1 | exact ((hG W e)).2.2.2.1.2.2.2.1 | exact ((hG W e)).2.2.2.1.2.2.2 | exact ((hG W e)).2.2.2.2 | exact ((hG W e)).2.2.2.2.1 | exact ((hG W e)).2.2.2.2.1.1 | exact ((hG W e)).2.2.2.2.1.2 | exact ((hG W e)).2.2.2.2.1.2.1 | exact ((hG W e)).2.2.2.2.1.2.2.1 | exact ((hG W e)).2.2.2.2.1.2.2.2.1 | exact ((hG W e)).2.2.2.2.1.2.2.2 | exact ((hG W e)).2.2.2.2.2 | exact ((hG W e)).2.2.2.2.2.1 | exact ((hG W e)).2.2.2.2.2.1.1 | exact ((hG W e)).2.2.2.2.2.1.2 | exact ((hG W e)).2.2.2.2.2.1.2.1 | exact ((hG W e)).2.2.2.2.2.1.2.2.1 | exact ((hG W e)).2.2.2.2.2.1.2.2.2.1 | exact ((hG W e)).2.2.2.2.2.1.2.2.2 | exact ((hG W e)).2.2.2.2.2.2 | exact ((hG W e)).2.2.2.2.2.2.1 | exact ((hG W e)).2.2.2.2.2.2.1.1 | exact ((hG W e)).2.2.2.2.2.2.1.2 | exact ((hG W e)).2.2.2.2.2.2.1.2.1 | exact ((hG W e)).2.2.2.2.2.2.1.2.2.1 | exact ((hG W e)).2.2.2.2.2.2.1.2.2.2.1 | exact ((hG W e)).2.2.2.2.2.2.1.2.2.2 | exact ((hG W e)).2.2.2.2.2.2.2 | exact ((hG W e)).2.2.2.2.2.2.2.1 | exact ((hG W e)).2.2.2.2.2.2.2.1.1 | exact ((hG W e)).2.2.2.2.2.2.2.1.2 | exact ((hG W e)).2.2.2.2.2.2.2.1.2.1 | exact ((hG W e)).2.2.2.2.2.2.2.1.2.2.1 | exact ((hG W e)).2.2.2.2.2.2.2.1.2.2.2.1 | exact ((hG W e)).2.2.2.2.2.2.2.1.2.2.2 | exact ((hG W e)).2.2.2.2.2.2.2.2 | exact ((hG W e)).2.2.2.2.2.2.2.2.1 | exact ((hG W e)).2.2.2.2.2.2.2.2.1.1 | exact ((hG W e)).2.2.2.2.2.2.2.2.1.2 | exact ((hG W e)).2.2.2.2.2.2.2.2.1.2.1 | exact ((hG W e)).2.2.2.2.2.2.2.2.1.2.2.1 | exact ((hG W e)).2.2.2.2.2.2.2.2.1.2.2.2.1 | exact ((hG W e)).2.2.2.2.2.2.2.2.1.2.2.2 | exact ((hG W e)).2.2.2.2.2.2.2.2.2) : StaR W sta18 (some ⟨g5, 0, none⟩, 1) (none, 0))) (fun W e => ⟨rfl, zero4 (hG W e).2.1⟩) (fun W e => ⟨rfl, zero4 (hG W e).1⟩) hil hol) fun y W hy => ?_
        obtain ⟨⟨za, zc⟩, zs⟩ := y
        obtain ⟨hz1, hz2⟩ := hy
        simp only at hz2
        have hzl : zs.length = 4 := by rw [hz2, cntOr, if_pos ⟨right_geo18, by decide, by decide⟩, blkL_len]; rfl
        simp (maxSteps := 2000000) -implicitDefEqProofs [hN, hzl]
        exact ret0 hC () rfl fun _ _ _ => trivial
      · refine mksl ok rfl rfl rfl rfl rfl rfl rfl rfl rfl (by decide) (by decide) (by decide) fun g17 => ?_
        simp (maxSteps := 2000000) -implicitDefEqProofs [hN]
        refine call0 ok rfl rfl rfl (fun w I hI hG => geometry0 w I hI ⟨0, 0, 0, 0, 0⟩) fun _ W _ => ?_
        rw [geoP18]
        simp (maxSteps := 2000000) -implicitDefEqProofs [hN]
        refine pub 16 rfl (by decide) (pub 17 rfl (by decide) ?_)
        refine call0 ok rfl rfl rfl (fun w I hI hG => bCount0 w I hI sta18 (some ⟨g5, 0, none⟩, 1) (none, 0) geo18 (pa := some ⟨g16, 0, none⟩) (pn := 4) (pc := 4) (ea := some ⟨g17, 0, none⟩) (en := 4) (ec := 4) [0, 0, 0, 0] [0, 0, 0, 0] (fun W e => ((by first | exact ((hG W e)) | exact ((hG W e)).1 | exact ((hG W e)).1.1 | exact ((hG W e)).1.2 | exact ((hG W e)).1.2.1 | exact ((hG W e)).1.2.2.1 | exact ((hG W e)).1.2.2.2.1 | exact ((hG W e)).1.2.2.2 | exact ((hG W e)).2 | exact ((hG W e)).2.1 | exact ((hG W e)).2.1.1 | exact ((hG W e)).2.1.2 | exact ((hG W e)).2.1.2.1 | exact ((hG W e)).2.1.2.2.1 | exact ((hG W e)).2.1.2.2.2.1 | exact ((hG W e)).2.1.2.2.2 | exact ((hG W e)).2.2 | exact ((hG W e)).2.2.1 | exact ((hG W e)).2.2.1.1 | exact ((hG W e)).2.2.1.2 | exact ((hG W e)).2.2.1.2.1 | exact ((hG W e)).2.2.1.2.2.1 | exact ((hG W e)).2.2.1.2.2.2.1 | exact ((hG W e)).2.2.1.2.2.2 | exact ((hG W e)).2.2.2 | exact ((hG W e)).2.2.2.1 | exact ((hG W e)).2.2.2.1.1 | exact ((hG W e)).2.2.2.1.2 | exact ((hG W e)).2.2.2.1.2.1 | exact ((hG W e)).2.2.2.1.2.2.1 | exact ((hG W e)).2.2.2.1.2.2.2.1 | exact ((hG W e)).2.2.2.1.2.2.2 | exact ((hG W e)).2.2.2.2 | exact ((hG W e)).2.2.2.2.1 | exact ((hG W e)).2.2.2.2.1.1 | exact ((hG W e)).2.2.2.2.1.2 | exact ((hG W e)).2.2.2.2.1.2.1 | exact ((hG W e)).2.2.2.2.1.2.2.1 | exact ((hG W e)).2.2.2.2.1.2.2.2.1 | exact ((hG W e)).2.2.2.2.1.2.2.2 | exact ((hG W e)).2.2.2.2.2 | exact ((hG W e)).2.2.2.2.2.1 | exact ((hG W e)).2.2.2.2.2.1.1 | exact ((hG W e)).2.2.2.2.2.1.2 | exact ((hG W e)).2.2.2.2.2.1.2.1 | exact ((hG W e)).2.2.2.2.2.1.2.2.1 | exact ((hG W e)).2.2.2.2.2.1.2.2.2.1 | exact ((hG W e)).2.2.2.2.2.1.2.2.2 | exact ((hG W e)).2.2.2.2.2.2 | exact ((hG W e)).2.2.2.2.2.2.1 | exact ((hG W e)).2.2.2.2.2.2.1.1 | exact ((hG W e)).2.2.2.2.2.2.1.2 | exact ((hG W e)).2.2.2.2.2.2.1.2.1 | exact ((hG W e)).2.2.2.2.2.2.1.2.2.1 | exact ((hG W e)).2.2.2.2.2.2.1.2.2.2.1 | exact ((hG W e)).2.2.2.2.2.2.1.2.2.2 | exact ((hG W e)).2.2.2.2.2.2.2 | exact ((hG W e)).2.2.2.2.2.2.2.1 | exact ((hG W e)).2.2.2.2.2.2.2.1.1 | exact ((hG W e)).2.2.2.2.2.2.2.1.2 | exact ((hG W e)).2.2.2.2.2.2.2.1.2.1 | exact ((hG W e)).2.2.2.2.2.2.2.1.2.2.1 | exact ((hG W e)).2.2.2.2.2.2.2.1.2.2.2.1 | exact ((hG W e)).2.2.2.2.2.2.2.1.2.2.2 | exact ((hG W e)).2.2.2.2.2.2.2.2 | exact ((hG W e)).2.2.2.2.2.2.2.2.1 | exact ((hG W e)).2.2.2.2.2.2.2.2.1.1 | exact ((hG W e)).2.2.2.2.2.2.2.2.1.2 | exact ((hG W e)).2.2.2.2.2.2.2.2.1.2.1 | exact ((hG W e)).2.2.2.2.2.2.2.2.1.2.2.1 | exact ((hG W e)).2.2.2.2.2.2.2.2.1.2.2.2.1 | exact ((hG W e)).2.2.2.2.2.2.2.2.1.2.2.2 | exact ((hG W e)).2.2.2.2.2.2.2.2.2) : StaR W sta18 (some ⟨g5, 0, none⟩, 1) (none, 0))) (fun W e => ⟨rfl, zero4 (hG W e).2.1⟩) (fun W e => ⟨rfl, zero4 (hG W e).1⟩) hil hol) fun y W hy => ?_
        obtain ⟨⟨za, zc⟩, zs⟩ := y
        obtain ⟨hz1, hz2⟩ := hy
        simp only at hz2
        have hzl : zs.length = 4 := by rw [hz2, cntOr, if_pos ⟨right_geo18, by decide, by decide⟩, blkL_len]; rfl
        simp (maxSteps := 2000000) -implicitDefEqProofs [hN, hzl]
        exact ret0 hC () rfl fun _ _ _ => trivial
    · refine mksl ok rfl rfl rfl rfl rfl rfl rfl rfl rfl (by decide) (by decide) (by decide) fun g17 => ?_
      simp (maxSteps := 2000000) -implicitDefEqProofs [hN]
      refine ⟨?_, ?_⟩
      · refine call0 ok rfl rfl rfl (fun w I hI hG => geometry0 w I hI ⟨0, 0, 0, 0, 0⟩) fun _ W _ => ?_
        rw [geoP18]
        simp (maxSteps := 2000000) -implicitDefEqProofs [hN]
        refine mksl ok rfl rfl rfl rfl rfl rfl rfl rfl rfl (by decide) (by decide) (by decide) fun g16 => ?_
        simp (maxSteps := 2000000) -implicitDefEqProofs [hN]
        refine pub 16 rfl (by decide) (pub 17 rfl (by decide) ?_)
        refine call0 ok rfl rfl rfl (fun w I hI hG => bCount0 w I hI sta18 (some ⟨g5, 0, none⟩, 1) (none, 0) geo18 (pa := some ⟨g16, 0, none⟩) (pn := 4) (pc := 4) (ea := some ⟨g17, 0, none⟩) (en := 4) (ec := 4) [0, 0, 0, 0] [0, 0, 0, 0] (fun W e => ((by first | exact ((hG W e)) | exact ((hG W e)).1 | exact ((hG W e)).1.1 | exact ((hG W e)).1.2 | exact ((hG W e)).1.2.1 | exact ((hG W e)).1.2.2.1 | exact ((hG W e)).1.2.2.2.1 | exact ((hG W e)).1.2.2.2 | exact ((hG W e)).2 | exact ((hG W e)).2.1 | exact ((hG W e)).2.1.1 | exact ((hG W e)).2.1.2 | exact ((hG W e)).2.1.2.1 | exact ((hG W e)).2.1.2.2.1 | exact ((hG W e)).2.1.2.2.2.1 | exact ((hG W e)).2.1.2.2.2 | exact ((hG W e)).2.2 | exact ((hG W e)).2.2.1 | exact ((hG W e)).2.2.1.1 | exact ((hG W e)).2.2.1.2 | exact ((hG W e)).2.2.1.2.1 | exact ((hG W e)).2.2.1.2.2.1 | exact ((hG W e)).2.2.1.2.2.2.1 | exact ((hG W e)).2.2.1.2.2.2 | exact ((hG W e)).2.2.2 | exact ((hG W e)).2.2.2.1 | exact ((hG W e)).2.2.2.1.1 | exact ((hG W e)).2.2.2.1.2 | exact ((hG W e)).2.2.2.1.2.1 | exact ((hG W e)).2.2.2.1.2.2.1 | exact ((hG W e)).2.2.2.1.2.2.2.1 | exact ((hG W e)).2.2.2.1.2.2.2 | exact ((hG W e)).2.2.2.2 | exact ((hG W e)).2.2.2.2.1 | exact ((hG W e)).2.2.2.2.1.1 | exact ((hG W e)).2.2.2.2.1.2 | exact ((hG W e)).2.2.2.2.1.2.1 | exact ((hG W e)).2.2.2.2.1.2.2.1 | exact ((hG W e)).2.2.2.2.1.2.2.2.1 | exact ((hG W e)).2.2.2.2.1.2.2.2 | exact ((hG W e)).2.2.2.2.2 | exact ((hG W e)).2.2.2.2.2.1 | exact ((hG W e)).2.2.2.2.2.1.1 | exact ((hG W e)).2.2.2.2.2.1.2 | exact ((hG W e)).2.2.2.2.2.1.2.1 | exact ((hG W e)).2.2.2.2.2.1.2.2.1 | exact ((hG W e)).2.2.2.2.2.1.2.2.2.1 | exact ((hG W e)).2.2.2.2.2.1.2.2.2 | exact ((hG W e)).2.2.2.2.2.2 | exact ((hG W e)).2.2.2.2.2.2.1 | exact ((hG W e)).2.2.2.2.2.2.1.1 | exact ((hG W e)).2.2.2.2.2.2.1.2 | exact ((hG W e)).2.2.2.2.2.2.1.2.1 | exact ((hG W e)).2.2.2.2.2.2.1.2.2.1 | exact ((hG W e)).2.2.2.2.2.2.1.2.2.2.1 | exact ((hG W e)).2.2.2.2.2.2.1.2.2.2 | exact ((hG W e)).2.2.2.2.2.2.2 | exact ((hG W e)).2.2.2.2.2.2.2.1 | exact ((hG W e)).2.2.2.2.2.2.2.1.1 | exact ((hG W e)).2.2.2.2.2.2.2.1.2 | exact ((hG W e)).2.2.2.2.2.2.2.1.2.1 | exact ((hG W e)).2.2.2.2.2.2.2.1.2.2.1 | exact ((hG W e)).2.2.2.2.2.2.2.1.2.2.2.1 | exact ((hG W e)).2.2.2.2.2.2.2.1.2.2.2 | exact ((hG W e)).2.2.2.2.2.2.2.2 | exact ((hG W e)).2.2.2.2.2.2.2.2.1 | exact ((hG W e)).2.2.2.2.2.2.2.2.1.1 | exact ((hG W e)).2.2.2.2.2.2.2.2.1.2 | exact ((hG W e)).2.2.2.2.2.2.2.2.1.2.1 | exact ((hG W e)).2.2.2.2.2.2.2.2.1.2.2.1 | exact ((hG W e)).2.2.2.2.2.2.2.2.1.2.2.2.1 | exact ((hG W e)).2.2.2.2.2.2.2.2.1.2.2.2 | exact ((hG W e)).2.2.2.2.2.2.2.2.2) : StaR W sta18 (some ⟨g5, 0, none⟩, 1) (none, 0))) (fun W e => ⟨rfl, zero4 (hG W e).2.1⟩) (fun W e => ⟨rfl, zero4 (hG W e).1⟩) hil hol) fun y W hy => ?_
        obtain ⟨⟨za, zc⟩, zs⟩ := y
        obtain ⟨hz1, hz2⟩ := hy
        simp only at hz2
        have hzl : zs.length = 4 := by rw [hz2, cntOr, if_pos ⟨right_geo18, by decide, by decide⟩, blkL_len]; rfl
        simp (maxSteps := 2000000) -implicitDefEqProofs [hN, hzl]
        exact ret0 hC () rfl fun _ _ _ => trivial
      · refine mksl ok rfl rfl rfl rfl rfl rfl rfl rfl rfl (by decide) (by decide) (by decide) fun g16 => ?_
        simp (maxSteps := 2000000) -implicitDefEqProofs [hN]
        refine call0 ok rfl rfl rfl (fun w I hI hG => geometry0 w I hI ⟨0, 0, 0, 0, 0⟩) fun _ W _ => ?_
        rw [geoP18]
        simp (maxSteps := 2000000) -implicitDefEqProofs [hN]
        refine pub 16 rfl (by decide) (pub 17 rfl (by decide) ?_)
        refine call0 ok rfl rfl rfl (fun w I hI hG => bCount0 w I hI sta18 (some ⟨g5, 0, none⟩, 1) (none, 0) geo18 (pa := some ⟨g16, 0, none⟩) (pn := 4) (pc := 4) (ea := some ⟨g17, 0, none⟩) (en := 4) (ec := 4) [0, 0, 0, 0] [0, 0, 0, 0] (fun W e => ((by first | exact ((hG W e)) | exact ((hG W e)).1 | exact ((hG W e)).1.1 | exact ((hG W e)).1.2 | exact ((hG W e)).1.2.1 | exact ((hG W e)).1.2.2.1 | exact ((hG W e)).1.2.2.2.1 | exact ((hG W e)).1.2.2.2 | exact ((hG W e)).2 | exact ((hG W e)).2.1 | exact ((hG W e)).2.1.1 | exact ((hG W e)).2.1.2 | exact ((hG W e)).2.1.2.1 | exact ((hG W e)).2.1.2.2.1 | exact ((hG W e)).2.1.2.2.2.1 | exact ((hG W e)).2.1.2.2.2 | exact ((hG W e)).2.2 | exact ((hG W e)).2.2.1 | exact ((hG W e)).2.2.1.1 | exact ((hG W e)).2.2.1.2 | exact ((hG W e)).2.2.1.2.1 | exact ((hG W e)).2.2.1.2.2.1 | exact ((hG W e)).2.2.1.2.2.2.1 | exact ((hG W e)).2.2.1.2.2.2 | exact ((hG W e)).2.2.2 | exact ((hG W e)).2.2.2.1 | exact ((hG W e)).2.2.2.1.1 | exact ((hG W e)).2.2.2.1.2 | exact ((hG W e)).2.2.2.1.2.1 | exact ((hG W e)).2.2.2.1.2.2.1 | exact ((hG W e)).2.2.2.1.2.2.2.1 | exact ((hG W e)).2.2.2.1.2.2.2 | exact ((hG W e)).2.2.2.2 | exact ((hG W e)).2.2.2.2.1 | exact ((hG W e)).2.2.2.2.1.1 | exact ((hG W e)).2.2.2.2.1.2 | exact ((hG W e)).2.2.2.2.1.2.1 | exact ((hG W e)).2.2.2.2.1.2.2.1 | exact ((hG W e)).2.2.2.2.1.2.2.2.1 | exact ((hG W e)).2.2.2.2.1.2.2.2 | exact ((hG W e)).2.2.2.2.2 | exact ((hG W e)).2.2.2.2.2.1 | exact ((hG W e)).2.2.2.2.2.1.1 | exact ((hG W e)).2.2.2.2.2.1.2 | exact ((hG W e)).2.2.2.2.2.1.2.1 | exact ((hG W e)).2.2.2.2.2.1.2.2.1 | exact ((hG W e)).2.2.2.2.2.1.2.2.2.1 | exact ((hG W e)).2.2.2.2.2.1.2.2.2 | exact ((hG W e)).2.2.2.2.2.2 | exact ((hG W e)).2.2.2.2.2.2.1 | exact ((hG W e)).2.2.2.2.2.2.1.1 | exact ((hG W e)).2.2.2.2.2.2.1.2 | exact ((hG W e)).2.2.2.2.2.2.1.2.1 | exact ((hG W e)).2.2.2.2.2.2.1.2.2.1 | exact ((hG W e)).2.2.2.2.2.2.1.2.2.2.1 | exact ((hG W e)).2.2.2.2.2.2.1.2.2.2 | exact ((hG W e)).2.2.2.2.2.2.2 | exact ((hG W e)).2.2.2.2.2.2.2.1 | exact ((hG W e)).2.2.2.2.2.2.2.1.1 | exact ((hG W e)).2.2.2.2.2.2.2.1.2 | exact ((hG W e)).2.2.2.2.2.2.2.1.2.1 | exact ((hG W e)).2.2.2.2.2.2.2.1.2.2.1 | exact ((hG W e)).2.2.2.2.2.2.2.1.2.2.2.1 | exact ((hG W e)).2.2.2.2.2.2.2.1.2.2.2 | exact ((hG W e)).2.2.2.2.2.2.2.2 | exact ((hG W e)).2.2.2.2.2.2.2.2.1 | exact ((hG W e)).2.2.2.2.2.2.2.2.1.1 | exact ((hG W e)).2.2.2.2.2.2.2.2.1.2 | exact ((hG W e)).2.2.2.2.2.2.2.2.1.2.1 | exact ((hG W e)).2.2.2.2.2.2.2.2.1.2.2.1 | exact ((hG W e)).2.2.2.2.2.2.2.2.1.2.2.2.1 | exact ((hG W e)).2.2.2.2.2.2.2.2.1.2.2.2 | exact ((hG W e)).2.2.2.2.2.2.2.2.2) : StaR W sta18 (some ⟨g5, 0, none⟩, 1) (none, 0))) (fun W e => ⟨rfl, zero4 (hG W e).2.1⟩) (fun W e => ⟨rfl, zero4 (hG W e).1⟩) hil hol) fun y W hy => ?_
        obtain ⟨⟨za, zc⟩, zs⟩ := y
        obtain ⟨hz1, hz2⟩ := hy
        simp only at hz2
        have hzl : zs.length = 4 := by rw [hz2, cntOr, if_pos ⟨right_geo18, by decide, by decide⟩, blkL_len]; rfl
        simp (maxSteps := 2000000) -implicitDefEqProofs [hN, hzl]
        exact ret0 hC () rfl fun _ _ _ => trivial
  · intro g10
    refine call0 ok rfl rfl rfl (fun w I hI hG => bLive0 w I hI sta18 (some ⟨g5, 0, none⟩, 1) (none, 0) 1 2 (fun W e => ((by first | exact ((hG W e)) | exact ((hG W e)).1 | exact ((hG W e)).1.1 | exact ((hG W e)).1.2 | exact ((hG W e)).1.2.1 | exact ((hG W e)).1.2.2.1 | exact ((hG W e)).1.2.2.2.1 | exact ((hG W e)).1.2.2.2 | exact ((hG W e)).2 | exact ((hG W e)).2.1 | exact ((hG W e)).2.1.1 | exact ((hG W e)).2.1.2 | exact ((hG W e)).2.1.2.1 | exact ((hG W e)).2.1.2.2.1 | exact ((hG W e)).2.1.2.2.2.1 | exact ((hG W e)).2.1.2.2.2 | exact ((hG W e)).2.2 | exact ((hG W e)).2.2.1 | exact ((hG W e)).2.2.1.1 | exact ((hG W e)).2.2.1.2 | exact ((hG W e)).2.2.1.2.1 | exact ((hG W e)).2.2.1.2.2.1 | exact ((hG W e)).2.2.1.2.2.2.1 | exact ((hG W e)).2.2.1.2.2.2 | exact ((hG W e)).2.2.2 | exact ((hG W e)).2.2.2.1 | exact ((hG W e)).2.2.2.1.1 | exact ((hG W e)).2.2.2.1.2 | exact ((hG W e)).2.2.2.1.2.1 | exact ((hG W e)).2.2.2.1.2.2.1 | exact ((hG W e)).2.2.2.1.2.2.2.1 | exact ((hG W e)).2.2.2.1.2.2.2 | exact ((hG W e)).2.2.2.2 | exact ((hG W e)).2.2.2.2.1 | exact ((hG W e)).2.2.2.2.1.1 | exact ((hG W e)).2.2.2.2.1.2 | exact ((hG W e)).2.2.2.2.1.2.1 | exact ((hG W e)).2.2.2.2.1.2.2.1 | exact ((hG W e)).2.2.2.2.1.2.2.2.1 | exact ((hG W e)).2.2.2.2.1.2.2.2 | exact ((hG W e)).2.2.2.2.2 | exact ((hG W e)).2.2.2.2.2.1 | exact ((hG W e)).2.2.2.2.2.1.1 | exact ((hG W e)).2.2.2.2.2.1.2 | exact ((hG W e)).2.2.2.2.2.1.2.1 | exact ((hG W e)).2.2.2.2.2.1.2.2.1 | exact ((hG W e)).2.2.2.2.2.1.2.2.2.1 | exact ((hG W e)).2.2.2.2.2.1.2.2.2 | exact ((hG W e)).2.2.2.2.2.2 | exact ((hG W e)).2.2.2.2.2.2.1 | exact ((hG W e)).2.2.2.2.2.2.1.1 | exact ((hG W e)).2.2.2.2.2.2.1.2 | exact ((hG W e)).2.2.2.2.2.2.1.2.1 | exact ((hG W e)).2.2.2.2.2.2.1.2.2.1 | exact ((hG W e)).2.2.2.2.2.2.1.2.2.2.1 | exact ((hG W e)).2.2.2.2.2.2.1.2.2.2 | exact ((hG W e)).2.2.2.2.2.2.2 | exact ((hG W e)).2.2.2.2.2.2.2.1 | exact ((hG W e)).2.2.2.2.2.2.2.1.1 | exact ((hG W e)).2.2.2.2.2.2.2.1.2 | exact ((hG W e)).2.2.2.2.2.2.2.1.2.1 | exact ((hG W e)).2.2.2.2.2.2.2.1.2.2.1 | exact ((hG W e)).2.2.2.2.2.2.2.1.2.2.2.1 | exact ((hG W e)).2.2.2.2.2.2.2.1.2.2.2 | exact ((hG W e)).2.2.2.2.2.2.2.2 | exact ((hG W e)).2.2.2.2.2.2.2.2.1 | exact ((hG W e)).2.2.2.2.2.2.2.2.1.1 | exact ((hG W e)).2.2.2.2.2.2.2.2.1.2 | exact ((hG W e)).2.2.2.2.2.2.2.2.1.2.1 | exact ((hG W e)).2.2.2.2.2.2.2.2.1.2.2.1 | exact ((hG W e)).2.2.2.2.2.2.2.2.1.2.2.2.1 | exact ((hG W e)).2.2.2.2.2.2.2.2.1.2.2.2 | exact ((hG W e)).2.2.2.2.2.2.2.2.2) : StaR W sta18 (some ⟨g5, 0, none⟩, 1) (none, 0))) hil hol) fun y W hy => ?_
    obtain ⟨⟨za, zc⟩, zs⟩ := y
    obtain ⟨hz1, hz2⟩ := hy
    simp only at hz2
    rw [live18] at hz2
    subst hz2
    simp (maxSteps := 2000000) -implicitDefEqProofs [hN]
    refine pub 10 rfl (by decide) ?_
    refine call0 ok rfl rfl rfl (fun w I hI hG => plainT0 w I hI (n := 1) (n' := 1) [(5, 2)] [(5, 2)] (fun W e => ⟨⟨rfl, ((by first | exact ((hG W e)) | exact ((hG W e)).1 | exact ((hG W e)).1.1 | exact ((hG W e)).1.2 | exact ((hG W e)).1.2.1 | exact ((hG W e)).1.2.2.1 | exact ((hG W e)).1.2.2.2.1 | exact ((hG W e)).1.2.2.2 | exact ((hG W e)).2 | exact ((hG W e)).2.1 | exact ((hG W e)).2.1.1 | exact ((hG W e)).2.1.2 | exact ((hG W e)).2.1.2.1 | exact ((hG W e)).2.1.2.2.1 | exact ((hG W e)).2.1.2.2.2.1 | exact ((hG W e)).2.1.2.2.2 | exact ((hG W e)).2.2 | exact ((hG W e)).2.2.1 | exact ((hG W e)).2.2.1.1 | exact ((hG W e)).2.2.1.2 | exact ((hG W e)).2.2.1.2.1 | exact ((hG W e)).2.2.1.2.2.1 | exact ((hG W e)).2.2.1.2.2.2.1 | exact ((hG W e)).2.2.1.2.2.2 | exact ((hG W e)).2.2.2 | exact ((hG W e)).2.2.2.1 | exact ((hG W e)).2.2.2.1.1 | exact ((hG W e)).2.2.2.1.2 | exact ((hG W e)).2.2.2.1.2.1 | exact ((hG W e)).2.2.2.1.2.2.1 | exact ((hG W e)).2.2.2.1.2.2.2.1 | exact ((hG W e)).2.2.2.1.2.2.2 | exact ((hG W e)).2.2.2.2 | exact ((hG W e)).2.2.2.2.1 | exact ((hG W e)).2.2.2.2.1.1 | exact ((hG W e)).2.2.2.2.1.2 | exact ((hG W e)).2.2.2.2.1.2.1 | exact ((hG W e)).2.2.2.2.1.2.2.1 | exact ((hG W e)).2.2.2.2.1.2.2.2.1 | exact ((hG W e)).2.2.2.2.1.2.2.2 | exact ((hG W e)).2.2.2.2.2 | exact ((hG W e)).2.2.2.2.2.1 | exact ((hG W e)).2.2.2.2.2.1.1 | exact ((hG W e)).2.2.2.2.2.1.2 | exact ((hG W e)).2.2.2.2.2.1.2.1 | exact ((hG W e)).2.2.2.2.2.1.2.2.1 | exact ((hG W e)).2.2.2.2.2.1.2.2.2.1 | exact ((hG W e)).2.2.2.2.2.1.2.2.2 | exact ((hG W e)).2.2.2.2.2.2 | exact ((hG W e)).2.2.2.2.2.2.1 | exact ((hG W e)).2.2.2.2.2.2.1.1 | exact ((hG W e)).2.2.2.2.2.2.1.2 | exact ((hG W e)).2.2.2.2.2.2.1.2.1 | exact ((hG W e)).2.2.2.2.2.2.1.2.2.1 | exact ((hG W e)).2.2.2.2.2.2.1.2.2.2.1 | exact ((hG W e)).2.2.2.2.2.2.1.2.2.2 | exact ((hG W e)).2.2.2.2.2.2.2 | exact ((hG W e)).2.2.2.2.2.2.2.1 | exact ((hG W e)).2.2.2.2.2.2.2.1.1 | exact ((hG W e)).2.2.2.2.2.2.2.1.2 | exact ((hG W e)).2.2.2.2.2.2.2.1.2.1 | exact ((hG W e)).2.2.2.2.2.2.2.1.2.2.1 | exact ((hG W e)).2.2.2.2.2.2.2.1.2.2.2.1 | exact ((hG W e)).2.2.2.2.2.2.2.1.2.2.2 | exact ((hG W e)).2.2.2.2.2.2.2.2 | exact ((hG W e)).2.2.2.2.2.2.2.2.1 | exact ((hG W e)).2.2.2.2.2.2.2.2.1.1 | exact ((hG W e)).2.2.2.2.2.2.2.2.1.2 | exact ((hG W e)).2.2.2.2.2.2.2.2.1.2.1 | exact ((hG W e)).2.2.2.2.2.2.2.2.1.2.2.1 | exact ((hG W e)).2.2.2.2.2.2.2.2.1.2.2.2.1 | exact ((hG W e)).2.2.2.2.2.2.2.2.1.2.2.2 | exact ((hG W e)).2.2.2.2.2.2.2.2.2) : Sl.ok dTg W (za, zc) [(5, 2)])⟩, ⟨rfl, tgs_sl (e := 58) (l := [(5, 2)]) (by have h : W.ownsRow 0 58 3 (.slice (some ⟨g10, 0, none⟩) 1 1) 1 _ := (hG W e).1; simpa using h) (by decide)⟩⟩)) fun _ W _ => ?_
    rw [tB_true rfl]
    simp (maxSteps := 2000000) -implicitDefEqProofs [hN]
    refine ⟨?_, ?_, ?_⟩
    · refine call0 ok rfl rfl rfl (fun w I hI hG => geometry0 w I hI ⟨0, 0, 0, 0, 0⟩) fun _ W _ => ?_
      rw [geoP18]
      simp (maxSteps := 2000000) -implicitDefEqProofs [hN]
      refine ⟨?_, ?_⟩
      · refine mksl ok rfl rfl rfl rfl rfl rfl rfl rfl rfl (by decide) (by decide) (by decide) fun g16 => ?_
        simp (maxSteps := 2000000) -implicitDefEqProofs [hN]
        refine mksl ok rfl rfl rfl rfl rfl rfl rfl rfl rfl (by decide) (by decide) (by decide) fun g17 => ?_
        simp (maxSteps := 2000000) -implicitDefEqProofs [hN]
        refine pub 16 rfl (by decide) (pub 17 rfl (by decide) ?_)
        refine call0 ok rfl rfl rfl (fun w I hI hG => bCount0 w I hI sta18 (some ⟨g5, 0, none⟩, 1) (none, 0) geo18 (pa := some ⟨g16, 0, none⟩) (pn := 4) (pc := 4) (ea := some ⟨g17, 0, none⟩) (en := 4) (ec := 4) [0, 0, 0, 0] [0, 0, 0, 0] (fun W e => ((by first | exact ((hG W e)) | exact ((hG W e)).1 | exact ((hG W e)).1.1 | exact ((hG W e)).1.2 | exact ((hG W e)).1.2.1 | exact ((hG W e)).1.2.2.1 | exact ((hG W e)).1.2.2.2.1 | exact ((hG W e)).1.2.2.2 | exact ((hG W e)).2 | exact ((hG W e)).2.1 | exact ((hG W e)).2.1.1 | exact ((hG W e)).2.1.2 | exact ((hG W e)).2.1.2.1 | exact ((hG W e)).2.1.2.2.1 | exact ((hG W e)).2.1.2.2.2.1 | exact ((hG W e)).2.1.2.2.2 | exact ((hG W e)).2.2 | exact ((hG W e)).2.2.1 | exact ((hG W e)).2.2.1.1 | exact ((hG W e)).2.2.1.2 | exact ((hG W e)).2.2.1.2.1 | exact ((hG W e)).2.2.1.2.2.1 | exact ((hG W e)).2.2.1.2.2.2.1 | exact ((hG W e)).2.2.1.2.2.2 | exact ((hG W e)).2.2.2 | exact ((hG W e)).2.2.2.1 | exact ((hG W e)).2.2.2.1.1 | exact ((hG W e)).2.2.2.1.2 | exact ((hG W e)).2.2.2.1.2.1 | exact ((hG W e)).2.2.2.1.2.2.1 | exact ((hG W e)).2.2.2.1.2.2.2.1 | exact ((hG W e)).2.2.2.1.2.2.2 | exact ((hG W e)).2.2.2.2 | exact ((hG W e)).2.2.2.2.1 | exact ((hG W e)).2.2.2.2.1.1 | exact ((hG W e)).2.2.2.2.1.2 | exact ((hG W e)).2.2.2.2.1.2.1 | exact ((hG W e)).2.2.2.2.1.2.2.1 | exact ((hG W e)).2.2.2.2.1.2.2.2.1 | exact ((hG W e)).2.2.2.2.1.2.2.2 | exact ((hG W e)).2.2.2.2.2 | exact ((hG W e)).2.2.2.2.2.1 | exact ((hG W e)).2.2.2.2.2.1.1 | exact ((hG W e)).2.2.2.2.2.1.2 | exact ((hG W e)).2.2.2.2.2.1.2.1 | exact ((hG W e)).2.2.2.2.2.1.2.2.1 | exact ((hG W e)).2.2.2.2.2.1.2.2.2.1 | exact ((hG W e)).2.2.2.2.2.1.2.2.2 | exact ((hG W e)).2.2.2.2.2.2 | exact ((hG W e)).2.2.2.2.2.2.1 | exact ((hG W e)).2.2.2.2.2.2.1.1 | exact ((hG W e)).2.2.2.2.2.2.1.2 | exact ((hG W e)).2.2.2.2.2.2.1.2.1 | exact ((hG W e)).2.2.2.2.2.2.1.2.2.1 | exact ((hG W e)).2.2.2.2.2.2.1.2.2.2.1 | exact ((hG W e)).2.2.2.2.2.2.1.2.2.2 | exact ((hG W e)).2.2.2.2.2.2.2 | exact ((hG W e)).2.2.2.2.2.2.2.1 | exact ((hG W e)).2.2.2.2.2.2.2.1.1 | exact ((hG W e)).2.2.2.2.2.2.2.1.2 | exact ((hG W e)).2.2.2.2.2.2.2.1.2.1 | exact ((hG W e)).2.2.2.2.2.2.2.1.2.2.1 | exact ((hG W e)).2.2.2.2.2.2.2.1.2.2.2.1 | exact ((hG W e)).2.2.2.2.2.2.2.1.2.2.2 | exact ((hG W e)).2.2.2.2.2.2.2.2 | exact ((hG W e)).2.2.2.2.2.2.2.2.1 | exact ((hG W e)).2.2.2.2.2.2.2.2.1.1 | exact ((hG W e)).2.2.2.2.2.2.2.2.1.2 | exact ((hG W e)).2.2.2.2.2.2.2.2.1.2.1 | exact ((hG W e)).2.2.2.2.2.2.2.2.1.2.2.1 | exact ((hG W e)).2.2.2.2.2.2.2.2.1.2.2.2.1 | exact ((hG W e)).2.2.2.2.2.2.2.2.1.2.2.2 | exact ((hG W e)).2.2.2.2.2.2.2.2.2) : StaR W sta18 (some ⟨g5, 0, none⟩, 1) (none, 0))) (fun W e => ⟨rfl, zero4 (hG W e).2.1⟩) (fun W e => ⟨rfl, zero4 (hG W e).1⟩) hil hol) fun y W hy => ?_
        obtain ⟨⟨za, zc⟩, zs⟩ := y
        obtain ⟨hz1, hz2⟩ := hy
        simp only at hz2
        have hzl : zs.length = 4 := by rw [hz2, cntOr, if_pos ⟨right_geo18, by decide, by decide⟩, blkL_len]; rfl
        simp (maxSteps := 2000000) -implicitDefEqProofs [hN, hzl]
        exact ret0 hC () rfl fun _ _ _ => trivial
      · refine mksl ok rfl rfl rfl rfl rfl rfl rfl rfl rfl (by decide) (by decide) (by decide) fun g17 => ?_
        simp (maxSteps := 2000000) -implicitDefEqProofs [hN]
        refine mksl ok rfl rfl rfl rfl rfl rfl rfl rfl rfl (by decide) (by decide) (by decide) fun g16 => ?_
        simp (maxSteps := 2000000) -implicitDefEqProofs [hN]
        refine pub 16 rfl (by decide) (pub 17 rfl (by decide) ?_)
        refine call0 ok rfl rfl rfl (fun w I hI hG => bCount0 w I hI sta18 (some ⟨g5, 0, none⟩, 1) (none, 0) geo18 (pa := some ⟨g16, 0, none⟩) (pn := 4) (pc := 4) (ea := some ⟨g17, 0, none⟩) (en := 4) (ec := 4) [0, 0, 0, 0] [0, 0, 0, 0] (fun W e => ((by first | exact ((hG W e)) | exact ((hG W e)).1 | exact ((hG W e)).1.1 | exact ((hG W e)).1.2 | exact ((hG W e)).1.2.1 | exact ((hG W e)).1.2.2.1 | exact ((hG W e)).1.2.2.2.1 | exact ((hG W e)).1.2.2.2 | exact ((hG W e)).2 | exact ((hG W e)).2.1 | exact ((hG W e)).2.1.1 | exact ((hG W e)).2.1.2 | exact ((hG W e)).2.1.2.1 | exact ((hG W e)).2.1.2.2.1 | exact ((hG W e)).2.1.2.2.2.1 | exact ((hG W e)).2.1.2.2.2 | exact ((hG W e)).2.2 | exact ((hG W e)).2.2.1 | exact ((hG W e)).2.2.1.1 | exact ((hG W e)).2.2.1.2 | exact ((hG W e)).2.2.1.2.1 | exact ((hG W e)).2.2.1.2.2.1 | exact ((hG W e)).2.2.1.2.2.2.1 | exact ((hG W e)).2.2.1.2.2.2 | exact ((hG W e)).2.2.2 | exact ((hG W e)).2.2.2.1 | exact ((hG W e)).2.2.2.1.1 | exact ((hG W e)).2.2.2.1.2 | exact ((hG W e)).2.2.2.1.2.1 | exact ((hG W e)).2.2.2.1.2.2.1 | exact ((hG W e)).2.2.2.1.2.2.2.1 | exact ((hG W e)).2.2.2.1.2.2.2 | exact ((hG W e)).2.2.2.2 | exact ((hG W e)).2.2.2.2.1 | exact ((hG W e)).2.2.2.2.1.1 | exact ((hG W e)).2.2.2.2.1.2 | exact ((hG W e)).2.2.2.2.1.2.1 | exact ((hG W e)).2.2.2.2.1.2.2.1 | exact ((hG W e)).2.2.2.2.1.2.2.2.1 | exact ((hG W e)).2.2.2.2.1.2.2.2 | exact ((hG W e)).2.2.2.2.2 | exact ((hG W e)).2.2.2.2.2.1 | exact ((hG W e)).2.2.2.2.2.1.1 | exact ((hG W e)).2.2.2.2.2.1.2 | exact ((hG W e)).2.2.2.2.2.1.2.1 | exact ((hG W e)).2.2.2.2.2.1.2.2.1 | exact ((hG W e)).2.2.2.2.2.1.2.2.2.1 | exact ((hG W e)).2.2.2.2.2.1.2.2.2 | exact ((hG W e)).2.2.2.2.2.2 | exact ((hG W e)).2.2.2.2.2.2.1 | exact ((hG W e)).2.2.2.2.2.2.1.1 | exact ((hG W e)).2.2.2.2.2.2.1.2 | exact ((hG W e)).2.2.2.2.2.2.1.2.1 | exact ((hG W e)).2.2.2.2.2.2.1.2.2.1 | exact ((hG W e)).2.2.2.2.2.2.1.2.2.2.1 | exact ((hG W e)).2.2.2.2.2.2.1.2.2.2 | exact ((hG W e)).2.2.2.2.2.2.2 | exact ((hG W e)).2.2.2.2.2.2.2.1 | exact ((hG W e)).2.2.2.2.2.2.2.1.1 | exact ((hG W e)).2.2.2.2.2.2.2.1.2 | exact ((hG W e)).2.2.2.2.2.2.2.1.2.1 | exact ((hG W e)).2.2.2.2.2.2.2.1.2.2.1 | exact ((hG W e)).2.2.2.2.2.2.2.1.2.2.2.1 | exact ((hG W e)).2.2.2.2.2.2.2.1.2.2.2 | exact ((hG W e)).2.2.2.2.2.2.2.2 | exact ((hG W e)).2.2.2.2.2.2.2.2.1 | exact ((hG W e)).2.2.2.2.2.2.2.2.1.1 | exact ((hG W e)).2.2.2.2.2.2.2.2.1.2 | exact ((hG W e)).2.2.2.2.2.2.2.2.1.2.1 | exact ((hG W e)).2.2.2.2.2.2.2.2.1.2.2.1 | exact ((hG W e)).2.2.2.2.2.2.2.2.1.2.2.2.1 | exact ((hG W e)).2.2.2.2.2.2.2.2.1.2.2.2 | exact ((hG W e)).2.2.2.2.2.2.2.2.2) : StaR W sta18 (some ⟨g5, 0, none⟩, 1) (none, 0))) (fun W e => ⟨rfl, zero4 (hG W e).2.1⟩) (fun W e => ⟨rfl, zero4 (hG W e).1⟩) hil hol) fun y W hy => ?_
        obtain ⟨⟨za, zc⟩, zs⟩ := y
        obtain ⟨hz1, hz2⟩ := hy
        simp only at hz2
        have hzl : zs.length = 4 := by rw [hz2, cntOr, if_pos ⟨right_geo18, by decide, by decide⟩, blkL_len]; rfl
        simp (maxSteps := 2000000) -implicitDefEqProofs [hN, hzl]
        exact ret0 hC () rfl fun _ _ _ => trivial
    · refine mksl ok rfl rfl rfl rfl rfl rfl rfl rfl rfl (by decide) (by decide) (by decide) fun g16 => ?_
      simp (maxSteps := 2000000) -implicitDefEqProofs [hN]
      refine ⟨?_, ?_⟩
      · refine call0 ok rfl rfl rfl (fun w I hI hG => geometry0 w I hI ⟨0, 0, 0, 0, 0⟩) fun _ W _ => ?_
        rw [geoP18]
        simp (maxSteps := 2000000) -implicitDefEqProofs [hN]
        refine mksl ok rfl rfl rfl rfl rfl rfl rfl rfl rfl (by decide) (by decide) (by decide) fun g17 => ?_
        simp (maxSteps := 2000000) -implicitDefEqProofs [hN]
        refine pub 16 rfl (by decide) (pub 17 rfl (by decide) ?_)
        refine call0 ok rfl rfl rfl (fun w I hI hG => bCount0 w I hI sta18 (some ⟨g5, 0, none⟩, 1) (none, 0) geo18 (pa := some ⟨g16, 0, none⟩) (pn := 4) (pc := 4) (ea := some ⟨g17, 0, none⟩) (en := 4) (ec := 4) [0, 0, 0, 0] [0, 0, 0, 0] (fun W e => ((by first | exact ((hG W e)) | exact ((hG W e)).1 | exact ((hG W e)).1.1 | exact ((hG W e)).1.2 | exact ((hG W e)).1.2.1 | exact ((hG W e)).1.2.2.1 | exact ((hG W e)).1.2.2.2.1 | exact ((hG W e)).1.2.2.2 | exact ((hG W e)).2 | exact ((hG W e)).2.1 | exact ((hG W e)).2.1.1 | exact ((hG W e)).2.1.2 | exact ((hG W e)).2.1.2.1 | exact ((hG W e)).2.1.2.2.1 | exact ((hG W e)).2.1.2.2.2.1 | exact ((hG W e)).2.1.2.2.2 | exact ((hG W e)).2.2 | exact ((hG W e)).2.2.1 | exact ((hG W e)).2.2.1.1 | exact ((hG W e)).2.2.1.2 | exact ((hG W e)).2.2.1.2.1 | exact ((hG W e)).2.2.1.2.2.1 | exact ((hG W e)).2.2.1.2.2.2.1 | exact ((hG W e)).2.2.1.2.2.2 | exact ((hG W e)).2.2.2 | exact ((hG W e)).2.2.2.1 | exact ((hG W e)).2.2.2.1.1 | exact ((hG W e)).2.2.2.1.2 | exact ((hG W e)).2.2.2.1.2.1 | exact ((hG W e)).2.2.2.1.2.2.1 | exact ((hG W e)).2.2.2.1.2.2.2.1 | exact ((hG W e)).2.2.2.1.2.2.2 | exact ((hG W e)).2.2.2.2 | exact ((hG W e)).2.2.2.2.1 | exact ((hG W e)).2.2.2.2.1.1 | exact ((hG W e)).2.2.2.2.1.2 | exact ((hG W e)).2.2.2.2.1.2.1 | exact ((hG W e)).2.2.2.2.1.2.2.1 | exact ((hG W e)).2.2.2.2.1.2.2.2.1 | exact ((hG W e)).2.2.2.2.1.2.2.2 | exact ((hG W e)).2.2.2.2.2 | exact ((hG W e)).2.2.2.2.2.1 | exact ((hG W e)).2.2.2.2.2.1.1 | exact ((hG W e)).2.2.2.2.2.1.2 | exact ((hG W e)).2.2.2.2.2.1.2.1 | exact ((hG W e)).2.2.2.2.2.1.2.2.1 | exact ((hG W e)).2.2.2.2.2.1.2.2.2.1 | exact ((hG W e)).2.2.2.2.2.1.2.2.2 | exact ((hG W e)).2.2.2.2.2.2 | exact ((hG W e)).2.2.2.2.2.2.1 | exact ((hG W e)).2.2.2.2.2.2.1.1 | exact ((hG W e)).2.2.2.2.2.2.1.2 | exact ((hG W e)).2.2.2.2.2.2.1.2.1 | exact ((hG W e)).2.2.2.2.2.2.1.2.2.1 | exact ((hG W e)).2.2.2.2.2.2.1.2.2.2.1 | exact ((hG W e)).2.2.2.2.2.2.1.2.2.2 | exact ((hG W e)).2.2.2.2.2.2.2 | exact ((hG W e)).2.2.2.2.2.2.2.1 | exact ((hG W e)).2.2.2.2.2.2.2.1.1 | exact ((hG W e)).2.2.2.2.2.2.2.1.2 | exact ((hG W e)).2.2.2.2.2.2.2.1.2.1 | exact ((hG W e)).2.2.2.2.2.2.2.1.2.2.1 | exact ((hG W e)).2.2.2.2.2.2.2.1.2.2.2.1 | exact ((hG W e)).2.2.2.2.2.2.2.1.2.2.2 | exact ((hG W e)).2.2.2.2.2.2.2.2 | exact ((hG W e)).2.2.2.2.2.2.2.2.1 | exact ((hG W e)).2.2.2.2.2.2.2.2.1.1 | exact ((hG W e)).2.2.2.2.2.2.2.2.1.2 | exact ((hG W e)).2.2.2.2.2.2.2.2.1.2.1 | exact ((hG W e)).2.2.2.2.2.2.2.2.1.2.2.1 | exact ((hG W e)).2.2.2.2.2.2.2.2.1.2.2.2.1 | exact ((hG W e)).2.2.2.2.2.2.2.2.1.2.2.2 | exact ((hG W e)).2.2.2.2.2.2.2.2.2) : StaR W sta18 (some ⟨g5, 0, none⟩, 1) (none, 0))) (fun W e => ⟨rfl, zero4 (hG W e).2.1⟩) (fun W e => ⟨rfl, zero4 (hG W e).1⟩) hil hol) fun y W hy => ?_
        obtain ⟨⟨za, zc⟩, zs⟩ := y
        obtain ⟨hz1, hz2⟩ := hy
        simp only at hz2
        have hzl : zs.length = 4 := by rw [hz2, cntOr, if_pos ⟨right_geo18, by decide, by decide⟩, blkL_len]; rfl
        simp (maxSteps := 2000000) -implicitDefEqProofs [hN, hzl]
        exact ret0 hC () rfl fun _ _ _ => trivial
      · refine mksl ok rfl rfl rfl rfl rfl rfl rfl rfl rfl (by decide) (by decide) (by decide) fun g17 => ?_
        simp (maxSteps := 2000000) -implicitDefEqProofs [hN]
        refine call0 ok rfl rfl rfl (fun w I hI hG => geometry0 w I hI ⟨0, 0, 0, 0, 0⟩) fun _ W _ => ?_
        rw [geoP18]
        simp (maxSteps := 2000000) -implicitDefEqProofs [hN]
        refine pub 16 rfl (by decide) (pub 17 rfl (by decide) ?_)
        refine call0 ok rfl rfl rfl (fun w I hI hG => bCount0 w I hI sta18 (some ⟨g5, 0, none⟩, 1) (none, 0) geo18 (pa := some ⟨g16, 0, none⟩) (pn := 4) (pc := 4) (ea := some ⟨g17, 0, none⟩) (en := 4) (ec := 4) [0, 0, 0, 0] [0, 0, 0, 0] (fun W e => ((by first | exact ((hG W e)) | exact ((hG W e)).1 | exact ((hG W e)).1.1 | exact ((hG W e)).1.2 | exact ((hG W e)).1.2.1 | exact ((hG W e)).1.2.2.1 | exact ((hG W e)).1.2.2.2.1 | exact ((hG W e)).1.2.2.2 | exact ((hG W e)).2 | exact ((hG W e)).2.1 | exact ((hG W e)).2.1.1 | exact ((hG W e)).2.1.2 | exact ((hG W e)).2.1.2.1 | exact ((hG W e)).2.1.2.2.1 | exact ((hG W e)).2.1.2.2.2.1 | exact ((hG W e)).2.1.2.2.2 | exact ((hG W e)).2.2 | exact ((hG W e)).2.2.1 | exact ((hG W e)).2.2.1.1 | exact ((hG W e)).2.2.1.2 | exact ((hG W e)).2.2.1.2.1 | exact ((hG W e)).2.2.1.2.2.1 | exact ((hG W e)).2.2.1.2.2.2.1 | exact ((hG W e)).2.2.1.2.2.2 | exact ((hG W e)).2.2.2 | exact ((hG W e)).2.2.2.1 | exact ((hG W e)).2.2.2.1.1 | exact ((hG W e)).2.2.2.1.2 | exact ((hG W e)).2.2.2.1.2.1 | exact ((hG W e)).2.2.2.1.2.2.1 | exact ((hG W e)).2.2.2.1.2.2.2.1 | exact ((hG W e)).2.2.2.1.2.2.2 | exact ((hG W e)).2.2.2.2 | exact ((hG W e)).2.2.2.2.1 | exact ((hG W e)).2.2.2.2.1.1 | exact ((hG W e)).2.2.2.2.1.2 | exact ((hG W e)).2.2.2.2.1.2.1 | exact ((hG W e)).2.2.2.2.1.2.2.1 | exact ((hG W e)).2.2.2.2.1.2.2.2.1 | exact ((hG W e)).2.2.2.2.1.2.2.2 | exact ((hG W e)).2.2.2.2.2 | exact ((hG W e)).2.2.2.2.2.1 | exact ((hG W e)).2.2.2.2.2.1.1 | exact ((hG W e)).2.2.2.2.2.1.2 | exact ((hG W e)).2.2.2.2.2.1.2.1 | exact ((hG W e)).2.2.2.2.2.1.2.2.1 | exact ((hG W e)).2.2.2.2.2.1.2.2.2.1 | exact ((hG W e)).2.2.2.2.2.1.2.2.2 | exact ((hG W e)).2.2.2.2.2.2 | exact ((hG W e)).2.2.2.2.2.2.1 | exact ((hG W e)).2.2.2.2.2.2.1.1 | exact ((hG W e)).2.2.2.2.2.2.1.2 | exact ((hG W e)).2.2.2.2.2.2.1.2.1 | exact ((hG W e)).2.2.2.2.2.2.1.2.2.1 | exact ((hG W e)).2.2.2.2.2.2.1.2.2.2.1 | exact ((hG W e)).2.2.2.2.2.2.1.2.2.2 | exact ((hG W e)).2.2.2.2.2.2.2 | exact ((hG W e)).2.2.2.2.2.2.2.1 | exact ((hG W e)).2.2.2.2.2.2.2.1.1 | exact ((hG W e)).2.2.2.2.2.2.2.1.2 | exact ((hG W e)).2.2.2.2.2.2.2.1.2.1 | exact ((hG W e)).2.2.2.2.2.2.2.1.2.2.1 | exact ((hG W e)).2.2.2.2.2.2.2.1.2.2.2.1 | exact ((hG W e)).2.2.2.2.2.2.2.1.2.2.2 | exact ((hG W e)).2.2.2.2.2.2.2.2 | exact ((hG W e)).2.2.2.2.2.2.2.2.1 | exact ((hG W e)).2.2.2.2.2.2.2.2.1.1 | exact ((hG W e)).2.2.2.2.2.2.2.2.1.2 | exact ((hG W e)).2.2.2.2.2.2.2.2.1.2.1 | exact ((hG W e)).2.2.2.2.2.2.2.2.1.2.2.1 | exact ((hG W e)).2.2.2.2.2.2.2.2.1.2.2.2.1 | exact ((hG W e)).2.2.2.2.2.2.2.2.1.2.2.2 | exact ((hG W e)).2.2.2.2.2.2.2.2.2) : StaR W sta18 (some ⟨g5, 0, none⟩, 1) (none, 0))) (fun W e => ⟨rfl, zero4 (hG W e).2.1⟩) (fun W e => ⟨rfl, zero4 (hG W e).1⟩) hil hol) fun y W hy => ?_
        obtain ⟨⟨za, zc⟩, zs⟩ := y
        obtain ⟨hz1, hz2⟩ := hy
        simp only at hz2
        have hzl : zs.length = 4 := by rw [hz2, cntOr, if_pos ⟨right_geo18, by decide, by decide⟩, blkL_len]; rfl
        simp (maxSteps := 2000000) -implicitDefEqProofs [hN, hzl]
        exact ret0 hC () rfl fun _ _ _ => trivial
    · refine mksl ok rfl rfl rfl rfl rfl rfl rfl rfl rfl (by decide) (by decide) (by decide) fun g17 => ?_
      simp (maxSteps := 2000000) -implicitDefEqProofs [hN]
      refine ⟨?_, ?_⟩
      · refine call0 ok rfl rfl rfl (fun w I hI hG => geometry0 w I hI ⟨0, 0, 0, 0, 0⟩) fun _ W _ => ?_
        rw [geoP18]
        simp (maxSteps := 2000000) -implicitDefEqProofs [hN]
        refine mksl ok rfl rfl rfl rfl rfl rfl rfl rfl rfl (by decide) (by decide) (by decide) fun g16 => ?_
        simp (maxSteps := 2000000) -implicitDefEqProofs [hN]
        refine pub 16 rfl (by decide) (pub 17 rfl (by decide) ?_)
        refine call0 ok rfl rfl rfl (fun w I hI hG => bCount0 w I hI sta18 (some ⟨g5, 0, none⟩, 1) (none, 0) geo18 (pa := some ⟨g16, 0, none⟩) (pn := 4) (pc := 4) (ea := some ⟨g17, 0, none⟩) (en := 4) (ec := 4) [0, 0, 0, 0] [0, 0, 0, 0] (fun W e => ((by first | exact ((hG W e)) | exact ((hG W e)).1 | exact ((hG W e)).1.1 | exact ((hG W e)).1.2 | exact ((hG W e)).1.2.1 | exact ((hG W e)).1.2.2.1 | exact ((hG W e)).1.2.2.2.1 | exact ((hG W e)).1.2.2.2 | exact ((hG W e)).2 | exact ((hG W e)).2.1 | exact ((hG W e)).2.1.1 | exact ((hG W e)).2.1.2 | exact ((hG W e)).2.1.2.1 | exact ((hG W e)).2.1.2.2.1 | exact ((hG W e)).2.1.2.2.2.1 | exact ((hG W e)).2.1.2.2.2 | exact ((hG W e)).2.2 | exact ((hG W e)).2.2.1 | exact ((hG W e)).2.2.1.1 | exact ((hG W e)).2.2.1.2 | exact ((hG W e)).2.2.1.2.1 | exact ((hG W e)).2.2.1.2.2.1 | exact ((hG W e)).2.2.1.2.2.2.1 | exact ((hG W e)).2.2.1.2.2.2 | exact ((hG W e)).2.2.2 | exact ((hG W e)).2.2.2.1 | exact ((hG W e)).2.2.2.1.1 | exact ((hG W e)).2.2.2.1.2 | exact ((hG W e)).2.2.2.1.2.1 | exact ((hG W e)).2.2.2.1.2.2.1 | exact ((hG W e)).2.2.2.1.2.2.2.1 | exact ((hG W e)).2.2.2.1.2.2.2 | exact ((hG W e)).2.2.2.2 | exact ((hG W e)).2.2.2.2.1 | exact ((hG W e)).2.2.2.2.1.1 | exact ((hG W e)).2.2.2.2.1.2 | exact ((hG W e)).2.2.2.2.1.2.1 | exact ((hG W e)).2.2.2.2.1.2.2.1 | exact ((hG W e)).2.2.2.2.1.2.2.2.1 | exact ((hG W e)).2.2.2.2.1.2.2.2 | exact ((hG W e)).2.2.2.2.2 | exact ((hG W e)).2.2.2.2.2.1 | exact ((hG W e)).2.2.2.2.2.1.1 | exact ((hG W e)).2.2.2.2.2.1.2 | exact ((hG W e)).2.2.2.2.2.1.2.1 | exact ((hG W e)).2.2.2.2.2.1.2.2.1 | exact ((hG W e)).2.2.2.2.2.1.2.2.2.1 | exact ((hG W e)).2.2.2.2.2.1.2.2.2 | exact ((hG W e)).2.2.2.2.2.2 | exact ((hG W e)).2.2.2.2.2.2.1 | exact ((hG W e)).2.2.2.2.2.2.1.1 | exact ((hG W e)).2.2.2.2.2.2.1.2 | exact ((hG W e)).2.2.2.2.2.2.1.2.1 | exact ((hG W e)).2.2.2.2.2.2.1.2.2.1 | exact ((hG W e)).2.2.2.2.2.2.1.2.2.2.1 | exact ((hG W e)).2.2.2.2.2.2.1.2.2.2 | exact ((hG W e)).2.2.2.2.2.2.2 | exact ((hG W e)).2.2.2.2.2.2.2.1 | exact ((hG W e)).2.2.2.2.2.2.2.1.1 | exact ((hG W e)).2.2.2.2.2.2.2.1.2 | exact ((hG W e)).2.2.2.2.2.2.2.1.2.1 | exact ((hG W e)).2.2.2.2.2.2.2.1.2.2.1 | exact ((hG W e)).2.2.2.2.2.2.2.1.2.2.2.1 | exact ((hG W e)).2.2.2.2.2.2.2.1.2.2.2 | exact ((hG W e)).2.2.2.2.2.2.2.2 | exact ((hG W e)).2.2.2.2.2.2.2.2.1 | exact ((hG W e)).2.2.2.2.2.2.2.2.1.1 | exact ((hG W e)).2.2.2.2.2.2.2.2.1.2 | exact ((hG W e)).2.2.2.2.2.2.2.2.1.2.1 | exact ((hG W e)).2.2.2.2.2.2.2.2.1.2.2.1 | exact ((hG W e)).2.2.2.2.2.2.2.2.1.2.2.2.1 | exact ((hG W e)).2.2.2.2.2.2.2.2.1.2.2.2 | exact ((hG W e)).2.2.2.2.2.2.2.2.2) : StaR W sta18 (some ⟨g5, 0, none⟩, 1) (none, 0))) (fun W e => ⟨rfl, zero4 (hG W e).2.1⟩) (fun W e => ⟨rfl, zero4 (hG W e).1⟩) hil hol) fun y W hy => ?_
        obtain ⟨⟨za, zc⟩, zs⟩ := y
        obtain ⟨hz1, hz2⟩ := hy
        simp only at hz2
        have hzl : zs.length = 4 := by rw [hz2, cntOr, if_pos ⟨right_geo18, by decide, by decide⟩, blkL_len]; rfl
        simp (maxSteps := 2000000) -implicitDefEqProofs [hN, hzl]
        exact ret0 hC () rfl fun _ _ _ => trivial
      · refine mksl ok rfl rfl rfl rfl rfl rfl rfl rfl rfl (by decide) (by decide) (by decide) fun g16 => ?_
        simp (maxSteps := 2000000) -implicitDefEqProofs [hN]
        refine call0 ok rfl rfl rfl (fun w I hI hG => geometry0 w I hI ⟨0, 0, 0, 0, 0⟩) fun _ W _ => ?_
        rw [geoP18]
        simp (maxSteps := 2000000) -implicitDefEqProofs [hN]
        refine pub 16 rfl (by decide) (pub 17 rfl (by decide) ?_)
        refine call0 ok rfl rfl rfl (fun w I hI hG => bCount0 w I hI sta18 (some ⟨g5, 0, none⟩, 1) (none, 0) geo18 (pa := some ⟨g16, 0, none⟩) (pn := 4) (pc := 4) (ea := some ⟨g17, 0, none⟩) (en := 4) (ec := 4) [0, 0, 0, 0] [0, 0, 0, 0] (fun W e => ((by first | exact ((hG W e)) | exact ((hG W e)).1 | exact ((hG W e)).1.1 | exact ((hG W e)).1.2 | exact ((hG W e)).1.2.1 | exact ((hG W e)).1.2.2.1 | exact ((hG W e)).1.2.2.2.1 | exact ((hG W e)).1.2.2.2 | exact ((hG W e)).2 | exact ((hG W e)).2.1 | exact ((hG W e)).2.1.1 | exact ((hG W e)).2.1.2 | exact ((hG W e)).2.1.2.1 | exact ((hG W e)).2.1.2.2.1 | exact ((hG W e)).2.1.2.2.2.1 | exact ((hG W e)).2.1.2.2.2 | exact ((hG W e)).2.2 | exact ((hG W e)).2.2.1 | exact ((hG W e)).2.2.1.1 | exact ((hG W e)).2.2.1.2 | exact ((hG W e)).2.2.1.2.1 | exact ((hG W e)).2.2.1.2.2.1 | exact ((hG W e)).2.2.1.2.2.2.1 | exact ((hG W e)).2.2.1.2.2.2 | exact ((hG W e)).2.2.2 | exact ((hG W e)).2.2.2.1 | exact ((hG W e)).2.2.2.1.1 | exact ((hG W e)).2.2.2.1.2 | exact ((hG W e)).2.2.2.1.2.1 | exact ((hG W e)).2.2.2.1.2.2.1 | exact ((hG W e)).2.2.2.1.2.2.2.1 | exact ((hG W e)).2.2.2.1.2.2.2 | exact ((hG W e)).2.2.2.2 | exact ((hG W e)).2.2.2.2.1 | exact ((hG W e)).2.2.2.2.1.1 | exact ((hG W e)).2.2.2.2.1.2 | exact ((hG W e)).2.2.2.2.1.2.1 | exact ((hG W e)).2.2.2.2.1.2.2.1 | exact ((hG W e)).2.2.2.2.1.2.2.2.1 | exact ((hG W e)).2.2.2.2.1.2.2.2 | exact ((hG W e)).2.2.2.2.2 | exact ((hG W e)).2.2.2.2.2.1 | exact ((hG W e)).2.2.2.2.2.1.1 | exact ((hG W e)).2.2.2.2.2.1.2 | exact ((hG W e)).2.2.2.2.2.1.2.1 | exact ((hG W e)).2.2.2.2.2.1.2.2.1 | exact ((hG W e)).2.2.2.2.2.1.2.2.2.1 | exact ((hG W e)).2.2.2.2.2.1.2.2.2 | exact ((hG W e)).2.2.2.2.2.2 | exact ((hG W e)).2.2.2.2.2.2.1 | exact ((hG W e)).2.2.2.2.2.2.1.1 | exact ((hG W e)).2.2.2.2.2.2.1.2 | exact ((hG W e)).2.2.2.2.2.2.1.2.1 | exact ((hG W e)).2.2.2.2.2.2.1.2.2.1 | exact ((hG W e)).2.2.2.2.2.2.1.2.2.2.1 | exact ((hG W e)).2.2.2.2.2.2.1.2.2.2 | exact ((hG W e)).2.2.2.2.2.2.2 | exact ((hG W e)).2.2.2.2.2.2.2.1 | exact ((hG W e)).2.2.2.2.2.2.2.1.1 | exact ((hG W e)).2.2.2.2.2.2.2.1.2 | exact ((hG W e)).2.2.2.2.2.2.2.1.2.1 | exact ((hG W e)).2.2.2.2.2.2.2.1.2.2.1 | exact ((hG W e)).2.2.2.2.2.2.2.1.2.2.2.1 | exact ((hG W e)).2.2.2.2.2.2.2.1.2.2.2 | exact ((hG W e)).2.2.2.2.2.2.2.2 | exact ((hG W e)).2.2.2.2.2.2.2.2.1 | exact ((hG W e)).2.2.2.2.2.2.2.2.1.1 | exact ((hG W e)).2.2.2.2.2.2.2.2.1.2 | exact ((hG W e)).2.2.2.2.2.2.2.2.1.2.1 | exact ((hG W e)).2.2.2.2.2.2.2.2.1.2.2.1 | exact ((hG W e)).2.2.2.2.2.2.2.2.1.2.2.2.1 | exact ((hG W e)).2.2.2.2.2.2.2.2.1.2.2.2 | exact ((hG W e)).2.2.2.2.2.2.2.2.2) : StaR W sta18 (some ⟨g5, 0, none⟩, 1) (none, 0))) (fun W e => ⟨rfl, zero4 (hG W e).2.1⟩) (fun W e => ⟨rfl, zero4 (hG W e).1⟩) hil hol) fun y W hy => ?_
        obtain ⟨⟨za, zc⟩, zs⟩ := y
        obtain ⟨hz1, hz2⟩ := hy
        simp only at hz2
        have hzl : zs.length = 4 := by rw [hz2, cntOr, if_pos ⟨right_geo18, by decide, by decide⟩, blkL_len]; rfl
        simp (maxSteps := 2000000) -implicitDefEqProofs [hN, hzl]
        exact ret0 hC () rfl fun _ _ _ => trivial
end Go.Proofs.Ytbbaoeidobdblaa.Sx

/- The law BlocksAll. -/
set_option linter.unusedVariables false
set_option linter.unusedSimpArgs false
namespace Go.Proofs.Ytbbaoeidobdblaa.Sx
open Go Go.Proofs.Ytbbaoeidobdblaa
attribute [local simp ↓] ifb_true' ifb_false'
attribute [local simp] ifb_true ifb_false ifb_eq sx argsT find ev evOp evs evo evBin evInt evStr evNil evNilA ptrA slcA isNoneA asB evLoad look del cellsB evUn evConv kdec fld evFieldA evField evIdxA evIdx evSlc bndL bndH evLen mmi put resV guardV gvL setO tupV cellsOf ones one upd lits nv exitTo SV.val CV.val TI.agg rdyA allR keepB scan simpO gsp isS subs keepT pickT wr memN pubs Res.fact Region.binds bld rest give delL back Res.eqv vi vb num Sv.val undef
theorem allW_take (l : List Ino) (i : Nat) : (allW (l.take i)).length ≤ (allW l).length := by
  have e : (allW l).length = (allW (l.take i)).length + (allW (l.drop i)).length := by
    conv => lhs; rw [← List.take_append_drop i l]
    unfold allW
    rw [List.flatMap_append, List.length_append]
  omega
theorem tag_get {W : World} {a : Option Addr} {n c : Nat} {l : List Tg} (h : Sv.ok dTg W (a, n, c) l) {i : Nat} (hi : i < l.length) : ∃ b o, a = some ⟨b, o, none⟩ ∧ W.cell? ⟨b, o + i * 3, none⟩ = some (.int .i64 l[i].1) ∧ W.cell? ⟨b, o + i * 3 + 1, none⟩ = some (.int .i64 l[i].2) ∧ W.cell? ⟨b, o + i * 3 + 2, none⟩ = some (.int .u32 0) := by
  obtain ⟨b, o, e, cs, hk, hl, hc⟩ := rd_get1 h hi
  have hk' : cs = tgC l[i] := hk
  subst hk'
  exact ⟨b, o, e, hc 0 _ rfl, hc 1 _ rfl, hc 2 _ rfl⟩
set_option maxRecDepth 100000 in
set_option maxHeartbeats 8000000 in
theorem blocksAllLaw0 (w : World) (I : Nat → Prop) (hI : ∀ b, I b → b < w.heap.size) {oa : Option Addr} {on oc : Nat} (ops : List Opg) (ho : ∀ W, Ext I w W → Sv.ok dOpg W (oa, on, oc) ops) (h1 : opsz ops ≤ 1000000000000) :
    Fn0 Try.prog 5 #[.slice oa on oc] w I (fun b : Bool => .bool b) (fun y W => y = true) := by
  obtain rfl : on = ops.length := (ho w (Ext.refl _ _)).1
  refine enter (svs := [.c (.v (.slice oa ops.length oc))]) tysOk Try.func5 rfl Try.ntmps5 Try.results5 (by kernel_rfl) (by simp) hI (fun W => Sv.ok dOpg W (oa, ops.length, oc) ops) ho fun C hC hN ok => ?_
  simp (maxSteps := 2000000) -implicitDefEqProofs [hN]
  refine call0 ok rfl rfl rfl (fun w I hI hG => small0 w I hI ops (fun W e => (by first | exact (hG W e) | exact (hG W e).1 | exact (hG W e).1.1 | exact (hG W e).1.2 | exact (hG W e).1.2.1 | exact (hG W e).1.2.2.1 | exact (hG W e).1.2.2.2.1 | exact (hG W e).1.2.2.2 | exact (hG W e).2 | exact (hG W e).2.1 | exact (hG W e).2.1.1 | exact (hG W e).2.1.2 | exact (hG W e).2.1.2.1 | exact (hG W e).2.1.2.2.1 | exact (hG W e).2.1.2.2.2.1 | exact (hG W e).2.1.2.2.2 | exact (hG W e).2.2 | exact (hG W e).2.2.1 | exact (hG W e).2.2.1.1 | exact (hG W e).2.2.1.2 | exact (hG W e).2.2.1.2.1 | exact (hG W e).2.2.1.2.2.1 | exact (hG W e).2.2.1.2.2.2.1 | exact (hG W e).2.2.1.2.2.2 | exact (hG W e).2.2.2 | exact (hG W e).2.2.2.1 | exact (hG W e).2.2.2.1.1 | exact (hG W e).2.2.2.1.2 | exact (hG W e).2.2.2.1.2.1 | exact (hG W e).2.2.2.1.2.2.1 | exact (hG W e).2.2.2.1.2.2.2.1 | exact (hG W e).2.2.2.1.2.2.2 | exact (hG W e).2.2.2.2 | exact (hG W e).2.2.2.2.1 | exact (hG W e).2.2.2.2.1.1 | exact (hG W e).2.2.2.2.1.2 | exact (hG W e).2.2.2.2.1.2.1 | exact (hG W e).2.2.2.2.1.2.2.1 | exact (hG W e).2.2.2.2.1.2.2.2.1 | exact (hG W e).2.2.2.2.1.2.2.2 | exact (hG W e).2.2.2.2.2 | exact (hG W e).2.2.2.2.2.1 | exact (hG W e).2.2.2.2.2.1.1 | exact (hG W e).2.2.2.2.2.1.2 | exact (hG W e).2.2.2.2.2.1.2.1 | exact (hG W e).2.2.2.2.2.1.2.2.1 | exact (hG W e).2.2.2.2.2.1.2.2.2.1 | exact (hG W e).2.2.2.2.2.1.2.2.2 | exact (hG W e).2.2.2.2.2.2 | exact (hG W e).2.2.2.2.2.2.1 | exact (hG W e).2.2.2.2.2.2.1.1 | exact (hG W e).2.2.2.2.2.2.1.2 | exact (hG W e).2.2.2.2.2.2.1.2.1 | exact (hG W e).2.2.2.2.2.2.1.2.2.1 | exact (hG W e).2.2.2.2.2.2.1.2.2.2.1 | exact (hG W e).2.2.2.2.2.2.1.2.2.2 | exact (hG W e).2.2.2.2.2.2.2 | exact (hG W e).2.2.2.2.2.2.2.1 | exact (hG W e).2.2.2.2.2.2.2.1.1 | exact (hG W e).2.2.2.2.2.2.2.1.2 | exact (hG W e).2.2.2.2.2.2.2.1.2.1 | exact (hG W e).2.2.2.2.2.2.2.1.2.2.1 | exact (hG W e).2.2.2.2.2.2.2.1.2.2.2.1 | exact (hG W e).2.2.2.2.2.2.2.1.2.2.2 | exact (hG W e).2.2.2.2.2.2.2.2 | exact (hG W e).2.2.2.2.2.2.2.2.1 | exact (hG W e).2.2.2.2.2.2.2.2.1.1 | exact (hG W e).2.2.2.2.2.2.2.2.1.2 | exact (hG W e).2.2.2.2.2.2.2.2.1.2.1 | exact (hG W e).2.2.2.2.2.2.2.2.1.2.2.1 | exact (hG W e).2.2.2.2.2.2.2.2.1.2.2.2.1 | exact (hG W e).2.2.2.2.2.2.2.2.1.2.2.2 | exact (hG W e).2.2.2.2.2.2.2.2.2)) h1) fun y W hy => ?_
  by_cases hs1 : opsz ops ≤ 20000
  case neg =>
    obtain rfl : y = false := by rw [hy]; exact decide_eq_false hs1
    simp (maxSteps := 2000000) -implicitDefEqProofs [hN]
    refine call0 ok rfl rfl rfl (fun w I hI hG => awake18 w I hI) fun _ W _ => ?_
    simp (maxSteps := 2000000) -implicitDefEqProofs [hN]
    exact ret0 hC true rfl fun _ _ _ => rfl
  obtain rfl : y = true := by rw [hy]; exact decide_eq_true hs1
  simp (maxSteps := 2000000) -implicitDefEqProofs [hN]
  refine call0 ok rfl rfl rfl (fun w I hI hG => wide0 w I hI) fun _ W _ => ?_
  have e96 : IntKind.i64.wrap 96 = 96 := w64 (by decide) (by decide)
  simp (maxSteps := 2000000) -implicitDefEqProofs [hN, e96]
  intro g3
  refine call0 ok rfl rfl rfl (fun w I hI hG => grown0 w I hI ops 96 (by decide) (fun W e => (by first | exact (hG W e) | exact (hG W e).1 | exact (hG W e).1.1 | exact (hG W e).1.2 | exact (hG W e).1.2.1 | exact (hG W e).1.2.2.1 | exact (hG W e).1.2.2.2.1 | exact (hG W e).1.2.2.2 | exact (hG W e).2 | exact (hG W e).2.1 | exact (hG W e).2.1.1 | exact (hG W e).2.1.2 | exact (hG W e).2.1.2.1 | exact (hG W e).2.1.2.2.1 | exact (hG W e).2.1.2.2.2.1 | exact (hG W e).2.1.2.2.2 | exact (hG W e).2.2 | exact (hG W e).2.2.1 | exact (hG W e).2.2.1.1 | exact (hG W e).2.2.1.2 | exact (hG W e).2.2.1.2.1 | exact (hG W e).2.2.1.2.2.1 | exact (hG W e).2.2.1.2.2.2.1 | exact (hG W e).2.2.1.2.2.2 | exact (hG W e).2.2.2 | exact (hG W e).2.2.2.1 | exact (hG W e).2.2.2.1.1 | exact (hG W e).2.2.2.1.2 | exact (hG W e).2.2.2.1.2.1 | exact (hG W e).2.2.2.1.2.2.1 | exact (hG W e).2.2.2.1.2.2.2.1 | exact (hG W e).2.2.2.1.2.2.2 | exact (hG W e).2.2.2.2 | exact (hG W e).2.2.2.2.1 | exact (hG W e).2.2.2.2.1.1 | exact (hG W e).2.2.2.2.1.2 | exact (hG W e).2.2.2.2.1.2.1 | exact (hG W e).2.2.2.2.1.2.2.1 | exact (hG W e).2.2.2.2.1.2.2.2.1 | exact (hG W e).2.2.2.2.1.2.2.2 | exact (hG W e).2.2.2.2.2 | exact (hG W e).2.2.2.2.2.1 | exact (hG W e).2.2.2.2.2.1.1 | exact (hG W e).2.2.2.2.2.1.2 | exact (hG W e).2.2.2.2.2.1.2.1 | exact (hG W e).2.2.2.2.2.1.2.2.1 | exact (hG W e).2.2.2.2.2.1.2.2.2.1 | exact (hG W e).2.2.2.2.2.1.2.2.2 | exact (hG W e).2.2.2.2.2.2 | exact (hG W e).2.2.2.2.2.2.1 | exact (hG W e).2.2.2.2.2.2.1.1 | exact (hG W e).2.2.2.2.2.2.1.2 | exact (hG W e).2.2.2.2.2.2.1.2.1 | exact (hG W e).2.2.2.2.2.2.1.2.2.1 | exact (hG W e).2.2.2.2.2.2.1.2.2.2.1 | exact (hG W e).2.2.2.2.2.2.1.2.2.2 | exact (hG W e).2.2.2.2.2.2.2 | exact (hG W e).2.2.2.2.2.2.2.1 | exact (hG W e).2.2.2.2.2.2.2.1.1 | exact (hG W e).2.2.2.2.2.2.2.1.2 | exact (hG W e).2.2.2.2.2.2.2.1.2.1 | exact (hG W e).2.2.2.2.2.2.2.1.2.2.1 | exact (hG W e).2.2.2.2.2.2.2.1.2.2.2.1 | exact (hG W e).2.2.2.2.2.2.2.1.2.2.2 | exact (hG W e).2.2.2.2.2.2.2.2 | exact (hG W e).2.2.2.2.2.2.2.2.1 | exact (hG W e).2.2.2.2.2.2.2.2.1.1 | exact (hG W e).2.2.2.2.2.2.2.2.1.2 | exact (hG W e).2.2.2.2.2.2.2.2.1.2.1 | exact (hG W e).2.2.2.2.2.2.2.2.1.2.2.1 | exact (hG W e).2.2.2.2.2.2.2.2.1.2.2.2.1 | exact (hG W e).2.2.2.2.2.2.2.2.1.2.2.2 | exact (hG W e).2.2.2.2.2.2.2.2.2)) (fun o ho => by have := opsz_mem ho; omega)) fun y W hgr => ?_
  obtain ⟨s, ⟨ia, ic⟩, ⟨ba, bc⟩⟩ := y
  obtain ⟨_, m, k, hF, hm, hk⟩ := hgr
  replace hF : Fine s m k := hF
  obtain ⟨hw1, hw2, hw3, hw4⟩ := fine_allW hF hk
  have hol : (ownersT s.inos).length ≤ 1000000 := by have := owners_le s; omega
  have hbel : belowN s 8 12 = (allW s.inos).length := by
    rw [← owners_eq hw3]
    refine below_all fun q hq => ?_
    rw [hw1] at hq
    have := hF.lt q hq
    rw [Int.tdiv_eq_ediv_of_nonneg this.1]
    omega
  simp (maxSteps := 2000000) -implicitDefEqProofs [hN]
  intro g4
  refine lessG (fun W => StaR W s (ia, ic) (ba, bc)) (fun W hW => (by first | exact (hW) | exact (hW).1 | exact (hW).1.1 | exact (hW).1.2 | exact (hW).1.2.1 | exact (hW).1.2.2.1 | exact (hW).1.2.2.2.1 | exact (hW).1.2.2.2 | exact (hW).2 | exact (hW).2.1 | exact (hW).2.1.1 | exact (hW).2.1.2 | exact (hW).2.1.2.1 | exact (hW).2.1.2.2.1 | exact (hW).2.1.2.2.2.1 | exact (hW).2.1.2.2.2 | exact (hW).2.2 | exact (hW).2.2.1 | exact (hW).2.2.1.1 | exact (hW).2.2.1.2 | exact (hW).2.2.1.2.1 | exact (hW).2.2.1.2.2.1 | exact (hW).2.2.1.2.2.2.1 | exact (hW).2.2.1.2.2.2 | exact (hW).2.2.2 | exact (hW).2.2.2.1 | exact (hW).2.2.2.1.1 | exact (hW).2.2.2.1.2 | exact (hW).2.2.2.1.2.1 | exact (hW).2.2.2.1.2.2.1 | exact (hW).2.2.2.1.2.2.2.1 | exact (hW).2.2.2.1.2.2.2 | exact (hW).2.2.2.2 | exact (hW).2.2.2.2.1 | exact (hW).2.2.2.2.1.1 | exact (hW).2.2.2.2.1.2 | exact (hW).2.2.2.2.1.2.1 | exact (hW).2.2.2.2.1.2.2.1 | exact (hW).2.2.2.2.1.2.2.2.1 | exact (hW).2.2.2.2.1.2.2.2 | exact (hW).2.2.2.2.2 | exact (hW).2.2.2.2.2.1 | exact (hW).2.2.2.2.2.1.1 | exact (hW).2.2.2.2.2.1.2 | exact (hW).2.2.2.2.2.1.2.1 | exact (hW).2.2.2.2.2.1.2.2.1 | exact (hW).2.2.2.2.2.1.2.2.2.1 | exact (hW).2.2.2.2.2.1.2.2.2 | exact (hW).2.2.2.2.2.2 | exact (hW).2.2.2.2.2.2.1 | exact (hW).2.2.2.2.2.2.1.1 | exact (hW).2.2.2.2.2.2.1.2 | exact (hW).2.2.2.2.2.2.1.2.1 | exact (hW).2.2.2.2.2.2.1.2.2.1 | exact (hW).2.2.2.2.2.2.1.2.2.2.1 | exact (hW).2.2.2.2.2.2.1.2.2.2 | exact (hW).2.2.2.2.2.2.2 | exact (hW).2.2.2.2.2.2.2.1 | exact (hW).2.2.2.2.2.2.2.1.1 | exact (hW).2.2.2.2.2.2.2.1.2 | exact (hW).2.2.2.2.2.2.2.1.2.1 | exact (hW).2.2.2.2.2.2.2.1.2.2.1 | exact (hW).2.2.2.2.2.2.2.1.2.2.2.1 | exact (hW).2.2.2.2.2.2.2.1.2.2.2 | exact (hW).2.2.2.2.2.2.2.2 | exact (hW).2.2.2.2.2.2.2.2.1 | exact (hW).2.2.2.2.2.2.2.2.1.1 | exact (hW).2.2.2.2.2.2.2.2.1.2 | exact (hW).2.2.2.2.2.2.2.2.1.2.1 | exact (hW).2.2.2.2.2.2.2.2.1.2.2.1 | exact (hW).2.2.2.2.2.2.2.2.1.2.2.2.1 | exact (hW).2.2.2.2.2.2.2.2.1.2.2.2 | exact (hW).2.2.2.2.2.2.2.2.2)) ?_
  refine loopK [2, 3, 4] ok (fun i : Nat => [(5, .c (.v (.int .i64 (belowN s 8 i : Nat)))), (6, .c (.v (.int .i64 0))), (7, .c (.v (.int .i64 (i : Nat))))]) (fun _ => [(3, .box g3 23 ((geoC ⟨8, 2048, 12, 8, 32⟩).map .v)), (4, .box g4 47 ((staC s (ia, ic) (ba, bc)).map .v))]) (fun i W => i ≤ 12) (fun i => 12 - i) 0 ?_ ?_ (fun W hW => Nat.zero_le _) ?_
  · simp [below_zero]
  · simp
  rintro b W hb hG next
  rcases Nat.lt_or_ge b 12 with hlt | hge
  · have e6 : IntKind.i64.wrap ((b : Int) + 1) = (b + 1 : Nat) := by rw [w64 (by omega) (by omega)]; omega
    have hltI : (b : Int) < 12 := by omega
    have hsu := below_succ (s := s) (p := 8) (by decide) b
    have hbl : belowN s 8 (b + 1) ≤ 205 := by
      have : belowN s 8 (b + 1) ≤ (ownersT s.inos).length := List.length_filter_le _ _
      have := owners_le s
      omega
    simp (maxSteps := 2000000) -implicitDefEqProofs [hN, hlt, hltI]
    refine call0 ok rfl rfl rfl (fun w I hI hG => bLive0 w I hI s (ia, ic) (ba, bc) b 8 (fun W e => ((by first | exact ((hG W e)) | exact ((hG W e)).1 | exact ((hG W e)).1.1 | exact ((hG W e)).1.2 | exact ((hG W e)).1.2.1 | exact ((hG W e)).1.2.2.1 | exact ((hG W e)).1.2.2.2.1 | exact ((hG W e)).1.2.2.2 | exact ((hG W e)).2 | exact ((hG W e)).2.1 | exact ((hG W e)).2.1.1 | exact ((hG W e)).2.1.2 | exact ((hG W e)).2.1.2.1 | exact ((hG W e)).2.1.2.2.1 | exact ((hG W e)).2.1.2.2.2.1 | exact ((hG W e)).2.1.2.2.2 | exact ((hG W e)).2.2 | exact ((hG W e)).2.2.1 | exact ((hG W e)).2.2.1.1 | exact ((hG W e)).2.2.1.2 | exact ((hG W e)).2.2.1.2.1 | exact ((hG W e)).2.2.1.2.2.1 | exact ((hG W e)).2.2.1.2.2.2.1 | exact ((hG W e)).2.2.1.2.2.2 | exact ((hG W e)).2.2.2 | exact ((hG W e)).2.2.2.1 | exact ((hG W e)).2.2.2.1.1 | exact ((hG W e)).2.2.2.1.2 | exact ((hG W e)).2.2.2.1.2.1 | exact ((hG W e)).2.2.2.1.2.2.1 | exact ((hG W e)).2.2.2.1.2.2.2.1 | exact ((hG W e)).2.2.2.1.2.2.2 | exact ((hG W e)).2.2.2.2 | exact ((hG W e)).2.2.2.2.1 | exact ((hG W e)).2.2.2.2.1.1 | exact ((hG W e)).2.2.2.2.1.2 | exact ((hG W e)).2.2.2.2.1.2.1 | exact ((hG W e)).2.2.2.2.1.2.2.1 | exact ((hG W e)).2.2.2.2.1.2.2.2.1 | exact ((hG W e)).2.2.2.2.1.2.2.2 | exact ((hG W e)).2.2.2.2.2 | exact ((hG W e)).2.2.2.2.2.1 | exact ((hG W e)).2.2.2.2.2.1.1 | exact ((hG W e)).2.2.2.2.2.1.2 | exact ((hG W e)).2.2.2.2.2.1.2.1 | exact ((hG W e)).2.2.2.2.2.1.2.2.1 | exact ((hG W e)).2.2.2.2.2.1.2.2.2.1 | exact ((hG W e)).2.2.2.2.2.1.2.2.2 | exact ((hG W e)).2.2.2.2.2.2 | exact ((hG W e)).2.2.2.2.2.2.1 | exact ((hG W e)).2.2.2.2.2.2.1.1 | exact ((hG W e)).2.2.2.2.2.2.1.2 | exact ((hG W e)).2.2.2.2.2.2.1.2.1 | exact ((hG W e)).2.2.2.2.2.2.1.2.2.1 | exact ((hG W e)).2.2.2.2.2.2.1.2.2.2.1 | exact ((hG W e)).2.2.2.2.2.2.1.2.2.2 | exact ((hG W e)).2.2.2.2.2.2.2 | exact ((hG W e)).2.2.2.2.2.2.2.1 | exact ((hG W e)).2.2.2.2.2.2.2.1.1 | exact ((hG W e)).2.2.2.2.2.2.2.1.2 | exact ((hG W e)).2.2.2.2.2.2.2.1.2.1 | exact ((hG W e)).2.2.2.2.2.2.2.1.2.2.1 | exact ((hG W e)).2.2.2.2.2.2.2.1.2.2.2.1 | exact ((hG W e)).2.2.2.2.2.2.2.1.2.2.2 | exact ((hG W e)).2.2.2.2.2.2.2.2 | exact ((hG W e)).2.2.2.2.2.2.2.2.1 | exact ((hG W e)).2.2.2.2.2.2.2.2.1.1 | exact ((hG W e)).2.2.2.2.2.2.2.2.1.2 | exact ((hG W e)).2.2.2.2.2.2.2.2.1.2.1 | exact ((hG W e)).2.2.2.2.2.2.2.2.1.2.2.1 | exact ((hG W e)).2.2.2.2.2.2.2.2.1.2.2.2.1 | exact ((hG W e)).2.2.2.2.2.2.2.2.1.2.2.2 | exact ((hG W e)).2.2.2.2.2.2.2.2.2) : StaR W s (ia, ic) (ba, bc))) (by omega) hol) fun y W hy => ?_
    obtain ⟨⟨za, zc⟩, zs⟩ := y
    obtain ⟨hz1, hz2⟩ := hy
    simp only at hz2
    have htag : ∀ t, t ∈ zs → _ := fun t ht => tag_there hF (b := b) (p := 8) (t := t) (by rw [← hz2]; exact ht)
    rw [← hz2] at hsu
    have e7 : IntKind.i64.wrap ((belowN s 8 b : Int) + (zs.length : Nat)) = (belowN s 8 (b + 1) : Nat) := by rw [w64 (by omega) (by omega)]; omega
    simp (maxSteps := 2000000) -implicitDefEqProofs [hN, e7]
    refine loopK [2, 3, 4, 6, 7, 8] ok (fun i : Nat => [(9, .c (.v (.int .i64 (i : Nat)))), (5, .c (.v (.int .i64 (belowN s 8 (b + 1) : Nat))))]) (fun _ => [(3, .box g3 23 ((geoC ⟨8, 2048, 12, 8, 32⟩).map .v)), (4, .box g4 47 ((staC s (ia, ic) (ba, bc)).map .v))]) (fun i W => i ≤ zs.length) (fun i => zs.length - i) 0 ?_ ?_ (fun W hW => Nat.zero_le _) ?_
    · simp
    · simp
    rintro i W hi hG next2
    rcases Nat.lt_or_ge i zs.length with hil | hig
    · have hsv : ∀ W, Sl.ok dTg W (za, zc) zs → Sv.ok dTg W (za, zs.length, zc) zs := fun W hW => ⟨rfl, hW⟩
      obtain ⟨zb, zo, e0, _⟩ := tag_get (hsv W (by first | exact (hG) | exact (hG).1 | exact (hG).1.1 | exact (hG).1.2 | exact (hG).1.2.1 | exact (hG).1.2.2.1 | exact (hG).1.2.2.2.1 | exact (hG).1.2.2.2 | exact (hG).2 | exact (hG).2.1 | exact (hG).2.1.1 | exact (hG).2.1.2 | exact (hG).2.1.2.1 | exact (hG).2.1.2.2.1 | exact (hG).2.1.2.2.2.1 | exact (hG).2.1.2.2.2 | exact (hG).2.2 | exact (hG).2.2.1 | exact (hG).2.2.1.1 | exact (hG).2.2.1.2 | exact (hG).2.2.1.2.1 | exact (hG).2.2.1.2.2.1 | exact (hG).2.2.1.2.2.2.1 | exact (hG).2.2.1.2.2.2 | exact (hG).2.2.2 | exact (hG).2.2.2.1 | exact (hG).2.2.2.1.1 | exact (hG).2.2.2.1.2 | exact (hG).2.2.2.1.2.1 | exact (hG).2.2.2.1.2.2.1 | exact (hG).2.2.2.1.2.2.2.1 | exact (hG).2.2.2.1.2.2.2 | exact (hG).2.2.2.2 | exact (hG).2.2.2.2.1 | exact (hG).2.2.2.2.1.1 | exact (hG).2.2.2.2.1.2 | exact (hG).2.2.2.2.1.2.1 | exact (hG).2.2.2.2.1.2.2.1 | exact (hG).2.2.2.2.1.2.2.2.1 | exact (hG).2.2.2.2.1.2.2.2 | exact (hG).2.2.2.2.2 | exact (hG).2.2.2.2.2.1 | exact (hG).2.2.2.2.2.1.1 | exact (hG).2.2.2.2.2.1.2 | exact (hG).2.2.2.2.2.1.2.1 | exact (hG).2.2.2.2.2.1.2.2.1 | exact (hG).2.2.2.2.2.1.2.2.2.1 | exact (hG).2.2.2.2.2.1.2.2.2 | exact (hG).2.2.2.2.2.2 | exact (hG).2.2.2.2.2.2.1 | exact (hG).2.2.2.2.2.2.1.1 | exact (hG).2.2.2.2.2.2.1.2 | exact (hG).2.2.2.2.2.2.1.2.1 | exact (hG).2.2.2.2.2.2.1.2.2.1 | exact (hG).2.2.2.2.2.2.1.2.2.2.1 | exact (hG).2.2.2.2.2.2.1.2.2.2 | exact (hG).2.2.2.2.2.2.2 | exact (hG).2.2.2.2.2.2.2.1 | exact (hG).2.2.2.2.2.2.2.1.1 | exact (hG).2.2.2.2.2.2.2.1.2 | exact (hG).2.2.2.2.2.2.2.1.2.1 | exact (hG).2.2.2.2.2.2.2.1.2.2.1 | exact (hG).2.2.2.2.2.2.2.1.2.2.2.1 | exact (hG).2.2.2.2.2.2.2.1.2.2.2 | exact (hG).2.2.2.2.2.2.2.2 | exact (hG).2.2.2.2.2.2.2.2.1 | exact (hG).2.2.2.2.2.2.2.2.1.1 | exact (hG).2.2.2.2.2.2.2.2.1.2 | exact (hG).2.2.2.2.2.2.2.2.1.2.1 | exact (hG).2.2.2.2.2.2.2.2.1.2.2.1 | exact (hG).2.2.2.2.2.2.2.2.1.2.2.2.1 | exact (hG).2.2.2.2.2.2.2.2.1.2.2.2 | exact (hG).2.2.2.2.2.2.2.2.2)) hil
      cases e0
      have hilI : (i : Int) < (zs.length : Nat) := by omega
      have f6 : IntKind.i64.wrap ((i : Int) + 1) = (i + 1 : Nat) := by rw [w64 (by omega) (by omega)]; omega
      have get : ∀ W, Sl.ok dTg W (some ⟨zb, zo, none⟩, zc) zs → W.cell? ⟨zb, zo + i * 3, none⟩ = some (.int .i64 zs[i].1) ∧ W.cell? ⟨zb, zo + i * 3 + 1, none⟩ = some (.int .i64 zs[i].2) ∧ W.cell? ⟨zb, zo + i * 3 + 2, none⟩ = some (.int .u32 0) := fun W hW => by
        obtain ⟨b', o', e, hc⟩ := tag_get (hsv W hW) hil
        cases e
        exact hc
      obtain ⟨_, x0, q, hx0, hxn, hxr, hxg, hqd, hq0, hq1, ht0, ht1⟩ := htag _ (List.getElem_mem hil)
      obtain ⟨no, hno⟩ : ∃ no, no = zs[i].1 := ⟨_, rfl⟩
      obtain ⟨ix, hix⟩ : ∃ ix, ix = zs[i].2 := ⟨_, rfl⟩
      rw [← hno] at hxn
      rw [← hix] at hxg ht0 ht1
      have get : ∀ W, Sl.ok dTg W (some ⟨zb, zo, none⟩, zc) zs → W.cell? ⟨zb, zo + i * 3, none⟩ = some (.int .i64 no) ∧ W.cell? ⟨zb, zo + i * 3 + 1, none⟩ = some (.int .i64 ix) ∧ W.cell? ⟨zb, zo + i * 3 + 2, none⟩ = some (.int .u32 0) := fun W hW => by
        rw [hno, hix]
        exact get W hW
      have hd8 : IntKind.i64.wrap (q.tdiv 8) = (b : Nat) := by rw [hqd]; exact w64 (by omega) (by omega)
      simp (maxSteps := 2000000) -implicitDefEqProofs [hN, hil, hilI]
      refine draw ok [(3, .box g3 23 ((geoC ⟨8, 2048, 12, 8, 32⟩).map .v)), (4, .box g4 47 ((staC s (ia, ic) (ba, bc)).map .v))] (by rw [ok.P]; exact mixed) (by kernel_rfl) ?_
      simp (maxSteps := 2000000) -implicitDefEqProofs [hN, hil, hilI]
      refine ⟨?_, ?_⟩
      · refine load1 ok rfl rfl rfl rfl (fun u W => u = .int .i64 no) (fun W hW => ⟨_, (get W (by first | exact (hW) | exact (hW).1 | exact (hW).1.1 | exact (hW).1.2 | exact (hW).1.2.1 | exact (hW).1.2.2.1 | exact (hW).1.2.2.2.1 | exact (hW).1.2.2.2 | exact (hW).2 | exact (hW).2.1 | exact (hW).2.1.1 | exact (hW).2.1.2 | exact (hW).2.1.2.1 | exact (hW).2.1.2.2.1 | exact (hW).2.1.2.2.2.1 | exact (hW).2.1.2.2.2 | exact (hW).2.2 | exact (hW).2.2.1 | exact (hW).2.2.1.1 | exact (hW).2.2.1.2 | exact (hW).2.2.1.2.1 | exact (hW).2.2.1.2.2.1 | exact (hW).2.2.1.2.2.2.1 | exact (hW).2.2.1.2.2.2 | exact (hW).2.2.2 | exact (hW).2.2.2.1 | exact (hW).2.2.2.1.1 | exact (hW).2.2.2.1.2 | exact (hW).2.2.2.1.2.1 | exact (hW).2.2.2.1.2.2.1 | exact (hW).2.2.2.1.2.2.2.1 | exact (hW).2.2.2.1.2.2.2 | exact (hW).2.2.2.2 | exact (hW).2.2.2.2.1 | exact (hW).2.2.2.2.1.1 | exact (hW).2.2.2.2.1.2 | exact (hW).2.2.2.2.1.2.1 | exact (hW).2.2.2.2.1.2.2.1 | exact (hW).2.2.2.2.1.2.2.2.1 | exact (hW).2.2.2.2.1.2.2.2 | exact (hW).2.2.2.2.2 | exact (hW).2.2.2.2.2.1 | exact (hW).2.2.2.2.2.1.1 | exact (hW).2.2.2.2.2.1.2 | exact (hW).2.2.2.2.2.1.2.1 | exact (hW).2.2.2.2.2.1.2.2.1 | exact (hW).2.2.2.2.2.1.2.2.2.1 | exact (hW).2.2.2.2.2.1.2.2.2 | exact (hW).2.2.2.2.2.2 | exact (hW).2.2.2.2.2.2.1 | exact (hW).2.2.2.2.2.2.1.1 | exact (hW).2.2.2.2.2.2.1.2 | exact (hW).2.2.2.2.2.2.1.2.1 | exact (hW).2.2.2.2.2.2.1.2.2.1 | exact (hW).2.2.2.2.2.2.1.2.2.2.1 | exact (hW).2.2.2.2.2.2.1.2.2.2 | exact (hW).2.2.2.2.2.2.2 | exact (hW).2.2.2.2.2.2.2.1 | exact (hW).2.2.2.2.2.2.2.1.1 | exact (hW).2.2.2.2.2.2.2.1.2 | exact (hW).2.2.2.2.2.2.2.1.2.1 | exact (hW).2.2.2.2.2.2.2.1.2.2.1 | exact (hW).2.2.2.2.2.2.2.1.2.2.2.1 | exact (hW).2.2.2.2.2.2.2.1.2.2.2 | exact (hW).2.2.2.2.2.2.2.2 | exact (hW).2.2.2.2.2.2.2.2.1 | exact (hW).2.2.2.2.2.2.2.2.1.1 | exact (hW).2.2.2.2.2.2.2.2.1.2 | exact (hW).2.2.2.2.2.2.2.2.1.2.1 | exact (hW).2.2.2.2.2.2.2.2.1.2.2.1 | exact (hW).2.2.2.2.2.2.2.2.1.2.2.2.1 | exact (hW).2.2.2.2.2.2.2.2.1.2.2.2 | exact (hW).2.2.2.2.2.2.2.2.2)).1, rfl⟩) ?_
        rintro u W rfl _
        simp (maxSteps := 2000000) -implicitDefEqProofs [hN, hil, hilI]
        refine ⟨?_, ?_⟩
        · refine call0 ok rfl rfl rfl (fun w I hI hG => findIno0 w I hI s (ia, ic) (ba, bc) no (fun W e => ((by first | exact ((hG W e)) | exact ((hG W e)).1 | exact ((hG W e)).1.1 | exact ((hG W e)).1.2 | exact ((hG W e)).1.2.1 | exact ((hG W e)).1.2.2.1 | exact ((hG W e)).1.2.2.2.1 | exact ((hG W e)).1.2.2.2 | exact ((hG W e)).2 | exact ((hG W e)).2.1 | exact ((hG W e)).2.1.1 | exact ((hG W e)).2.1.2 | exact ((hG W e)).2.1.2.1 | exact ((hG W e)).2.1.2.2.1 | exact ((hG W e)).2.1.2.2.2.1 | exact ((hG W e)).2.1.2.2.2 | exact ((hG W e)).2.2 | exact ((hG W e)).2.2.1 | exact ((hG W e)).2.2.1.1 | exact ((hG W e)).2.2.1.2 | exact ((hG W e)).2.2.1.2.1 | exact ((hG W e)).2.2.1.2.2.1 | exact ((hG W e)).2.2.1.2.2.2.1 | exact ((hG W e)).2.2.1.2.2.2 | exact ((hG W e)).2.2.2 | exact ((hG W e)).2.2.2.1 | exact ((hG W e)).2.2.2.1.1 | exact ((hG W e)).2.2.2.1.2 | exact ((hG W e)).2.2.2.1.2.1 | exact ((hG W e)).2.2.2.1.2.2.1 | exact ((hG W e)).2.2.2.1.2.2.2.1 | exact ((hG W e)).2.2.2.1.2.2.2 | exact ((hG W e)).2.2.2.2 | exact ((hG W e)).2.2.2.2.1 | exact ((hG W e)).2.2.2.2.1.1 | exact ((hG W e)).2.2.2.2.1.2 | exact ((hG W e)).2.2.2.2.1.2.1 | exact ((hG W e)).2.2.2.2.1.2.2.1 | exact ((hG W e)).2.2.2.2.1.2.2.2.1 | exact ((hG W e)).2.2.2.2.1.2.2.2 | exact ((hG W e)).2.2.2.2.2 | exact ((hG W e)).2.2.2.2.2.1 | exact ((hG W e)).2.2.2.2.2.1.1 | exact ((hG W e)).2.2.2.2.2.1.2 | exact ((hG W e)).2.2.2.2.2.1.2.1 | exact ((hG W e)).2.2.2.2.2.1.2.2.1 | exact ((hG W e)).2.2.2.2.2.1.2.2.2.1 | exact ((hG W e)).2.2.2.2.2.1.2.2.2 | exact ((hG W e)).2.2.2.2.2.2 | exact ((hG W e)).2.2.2.2.2.2.1 | exact ((hG W e)).2.2.2.2.2.2.1.1 | exact ((hG W e)).2.2.2.2.2.2.1.2 | exact ((hG W e)).2.2.2.2.2.2.1.2.1 | exact ((hG W e)).2.2.2.2.2.2.1.2.2.1 | exact ((hG W e)).2.2.2.2.2.2.1.2.2.2.1 | exact ((hG W e)).2.2.2.2.2.2.1.2.2.2 | exact ((hG W e)).2.2.2.2.2.2.2 | exact ((hG W e)).2.2.2.2.2.2.2.1 | exact ((hG W e)).2.2.2.2.2.2.2.1.1 | exact ((hG W e)).2.2.2.2.2.2.2.1.2 | exact ((hG W e)).2.2.2.2.2.2.2.1.2.1 | exact ((hG W e)).2.2.2.2.2.2.2.1.2.2.1 | exact ((hG W e)).2.2.2.2.2.2.2.1.2.2.2.1 | exact ((hG W e)).2.2.2.2.2.2.2.1.2.2.2 | exact ((hG W e)).2.2.2.2.2.2.2.2 | exact ((hG W e)).2.2.2.2.2.2.2.2.1 | exact ((hG W e)).2.2.2.2.2.2.2.2.1.1 | exact ((hG W e)).2.2.2.2.2.2.2.2.1.2 | exact ((hG W e)).2.2.2.2.2.2.2.2.1.2.1 | exact ((hG W e)).2.2.2.2.2.2.2.2.1.2.2.1 | exact ((hG W e)).2.2.2.2.2.2.2.2.1.2.2.2.1 | exact ((hG W e)).2.2.2.2.2.2.2.2.1.2.2.2 | exact ((hG W e)).2.2.2.2.2.2.2.2.2) : StaR W s (ia, ic) (ba, bc))) (by omega)) fun y W hy => ?_
          obtain ⟨⟨x, ⟨ea, ec⟩, ⟨ra, rc⟩⟩, has⟩ := y
          obtain ⟨hyr, hy1, hy2⟩ := hy
          simp only at hy1 hy2
          have hh : has = true := by
            cases has with
            | true => rfl
            | false => exact absurd hxn ((hy2 rfl).2 x0 hx0)
          subst hh
          obtain ⟨hyx, hyn⟩ := hy1 rfl
          obtain rfl : x = x0 := nos_one hF.nos hyx hx0 (hyn.trans hxn.symm)
          clear hy1 hy2 hyr
          simp (maxSteps := 2000000) -implicitDefEqProofs [hN, hil, hilI]
          intro g10
          refine draw ok [(3, .box g3 23 ((geoC ⟨8, 2048, 12, 8, 32⟩).map .v)), (4, .box g4 47 ((staC s (ia, ic) (ba, bc)).map .v)), (10, .box g10 39 ((inoC x (ea, ec) (ra, rc)).map .v))] (by rw [ok.P]; exact mixed) (by kernel_rfl) ?_
          simp (maxSteps := 2000000) -implicitDefEqProofs [hN, hil, hilI]
          refine load1 ok rfl rfl rfl rfl (fun u W => u = .int .i64 ix) (fun W hW => ⟨_, (get W (by first | exact (hW) | exact (hW).1 | exact (hW).1.1 | exact (hW).1.2 | exact (hW).1.2.1 | exact (hW).1.2.2.1 | exact (hW).1.2.2.2.1 | exact (hW).1.2.2.2 | exact (hW).2 | exact (hW).2.1 | exact (hW).2.1.1 | exact (hW).2.1.2 | exact (hW).2.1.2.1 | exact (hW).2.1.2.2.1 | exact (hW).2.1.2.2.2.1 | exact (hW).2.1.2.2.2 | exact (hW).2.2 | exact (hW).2.2.1 | exact (hW).2.2.1.1 | exact (hW).2.2.1.2 | exact (hW).2.2.1.2.1 | exact (hW).2.2.1.2.2.1 | exact (hW).2.2.1.2.2.2.1 | exact (hW).2.2.1.2.2.2 | exact (hW).2.2.2 | exact (hW).2.2.2.1 | exact (hW).2.2.2.1.1 | exact (hW).2.2.2.1.2 | exact (hW).2.2.2.1.2.1 | exact (hW).2.2.2.1.2.2.1 | exact (hW).2.2.2.1.2.2.2.1 | exact (hW).2.2.2.1.2.2.2 | exact (hW).2.2.2.2 | exact (hW).2.2.2.2.1 | exact (hW).2.2.2.2.1.1 | exact (hW).2.2.2.2.1.2 | exact (hW).2.2.2.2.1.2.1 | exact (hW).2.2.2.2.1.2.2.1 | exact (hW).2.2.2.2.1.2.2.2.1 | exact (hW).2.2.2.2.1.2.2.2 | exact (hW).2.2.2.2.2 | exact (hW).2.2.2.2.2.1 | exact (hW).2.2.2.2.2.1.1 | exact (hW).2.2.2.2.2.1.2 | exact (hW).2.2.2.2.2.1.2.1 | exact (hW).2.2.2.2.2.1.2.2.1 | exact (hW).2.2.2.2.2.1.2.2.2.1 | exact (hW).2.2.2.2.2.1.2.2.2 | exact (hW).2.2.2.2.2.2 | exact (hW).2.2.2.2.2.2.1 | exact (hW).2.2.2.2.2.2.1.1 | exact (hW).2.2.2.2.2.2.1.2 | exact (hW).2.2.2.2.2.2.1.2.1 | exact (hW).2.2.2.2.2.2.1.2.2.1 | exact (hW).2.2.2.2.2.2.1.2.2.2.1 | exact (hW).2.2.2.2.2.2.1.2.2.2 | exact (hW).2.2.2.2.2.2.2 | exact (hW).2.2.2.2.2.2.2.1 | exact (hW).2.2.2.2.2.2.2.1.1 | exact (hW).2.2.2.2.2.2.2.1.2 | exact (hW).2.2.2.2.2.2.2.1.2.1 | exact (hW).2.2.2.2.2.2.2.1.2.2.1 | exact (hW).2.2.2.2.2.2.2.1.2.2.2.1 | exact (hW).2.2.2.2.2.2.2.1.2.2.2 | exact (hW).2.2.2.2.2.2.2.2 | exact (hW).2.2.2.2.2.2.2.2.1 | exact (hW).2.2.2.2.2.2.2.2.1.1 | exact (hW).2.2.2.2.2.2.2.2.1.2 | exact (hW).2.2.2.2.2.2.2.2.1.2.1 | exact (hW).2.2.2.2.2.2.2.2.1.2.2.1 | exact (hW).2.2.2.2.2.2.2.2.1.2.2.2.1 | exact (hW).2.2.2.2.2.2.2.2.1.2.2.2 | exact (hW).2.2.2.2.2.2.2.2.2)).2.1, rfl⟩) ?_
          rintro u W rfl _
          simp (maxSteps := 2000000) -implicitDefEqProofs [hN, hil, hilI]
          refine call0 ok rfl rfl rfl (fun w I hI hG => getRun0 w I hI x.runs ix (fun W e => ⟨rfl, ((by first | exact ((hG W e)) | exact ((hG W e)).1 | exact ((hG W e)).1.1 | exact ((hG W e)).1.2 | exact ((hG W e)).1.2.1 | exact ((hG W e)).1.2.2.1 | exact ((hG W e)).1.2.2.2.1 | exact ((hG W e)).1.2.2.2 | exact ((hG W e)).2 | exact ((hG W e)).2.1 | exact ((hG W e)).2.1.1 | exact ((hG W e)).2.1.2 | exact ((hG W e)).2.1.2.1 | exact ((hG W e)).2.1.2.2.1 | exact ((hG W e)).2.1.2.2.2.1 | exact ((hG W e)).2.1.2.2.2 | exact ((hG W e)).2.2 | exact ((hG W e)).2.2.1 | exact ((hG W e)).2.2.1.1 | exact ((hG W e)).2.2.1.2 | exact ((hG W e)).2.2.1.2.1 | exact ((hG W e)).2.2.1.2.2.1 | exact ((hG W e)).2.2.1.2.2.2.1 | exact ((hG W e)).2.2.1.2.2.2 | exact ((hG W e)).2.2.2 | exact ((hG W e)).2.2.2.1 | exact ((hG W e)).2.2.2.1.1 | exact ((hG W e)).2.2.2.1.2 | exact ((hG W e)).2.2.2.1.2.1 | exact ((hG W e)).2.2.2.1.2.2.1 | exact ((hG W e)).2.2.2.1.2.2.2.1 | exact ((hG W e)).2.2.2.1.2.2.2 | exact ((hG W e)).2.2.2.2 | exact ((hG W e)).2.2.2.2.1 | exact ((hG W e)).2.2.2.2.1.1 | exact ((hG W e)).2.2.2.2.1.2 | exact ((hG W e)).2.2.2.2.1.2.1 | exact ((hG W e)).2.2.2.2.1.2.2.1 | exact ((hG W e)).2.2.2.2.1.2.2.2.1 | exact ((hG W e)).2.2.2.2.1.2.2.2 | exact ((hG W e)).2.2.2.2.2 | exact ((hG W e)).2.2.2.2.2.1 | exact ((hG W e)).2.2.2.2.2.1.1 | exact ((hG W e)).2.2.2.2.2.1.2 | exact ((hG W e)).2.2.2.2.2.1.2.1 | exact ((hG W e)).2.2.2.2.2.1.2.2.1 | exact ((hG W e)).2.2.2.2.2.1.2.2.2.1 | exact ((hG W e)).2.2.2.2.2.1.2.2.2 | exact ((hG W e)).2.2.2.2.2.2 | exact ((hG W e)).2.2.2.2.2.2.1 | exact ((hG W e)).2.2.2.2.2.2.1.1 | exact ((hG W e)).2.2.2.2.2.2.1.2 | exact ((hG W e)).2.2.2.2.2.2.1.2.1 | exact ((hG W e)).2.2.2.2.2.2.1.2.2.1 | exact ((hG W e)).2.2.2.2.2.2.1.2.2.2.1 | exact ((hG W e)).2.2.2.2.2.2.1.2.2.2 | exact ((hG W e)).2.2.2.2.2.2.2 | exact ((hG W e)).2.2.2.2.2.2.2.1 | exact ((hG W e)).2.2.2.2.2.2.2.1.1 | exact ((hG W e)).2.2.2.2.2.2.2.1.2 | exact ((hG W e)).2.2.2.2.2.2.2.1.2.1 | exact ((hG W e)).2.2.2.2.2.2.2.1.2.2.1 | exact ((hG W e)).2.2.2.2.2.2.2.1.2.2.2.1 | exact ((hG W e)).2.2.2.2.2.2.2.1.2.2.2 | exact ((hG W e)).2.2.2.2.2.2.2.2 | exact ((hG W e)).2.2.2.2.2.2.2.2.1 | exact ((hG W e)).2.2.2.2.2.2.2.2.1.1 | exact ((hG W e)).2.2.2.2.2.2.2.2.1.2 | exact ((hG W e)).2.2.2.2.2.2.2.2.1.2.1 | exact ((hG W e)).2.2.2.2.2.2.2.2.1.2.2.1 | exact ((hG W e)).2.2.2.2.2.2.2.2.1.2.2.2.1 | exact ((hG W e)).2.2.2.2.2.2.2.2.1.2.2.2 | exact ((hG W e)).2.2.2.2.2.2.2.2.2) : InoR W x (ea, ec) (ra, rc)).2⟩) (right_okR hxr) (by omega)) fun y W hy => ?_
          rw [hxg] at hy
          subst hy
          simp (maxSteps := 2000000) -implicitDefEqProofs [hN, hil, hilI, hd8]
          refine load1 ok rfl rfl rfl rfl (fun u W => u = .int .u32 0) (fun W hW => ⟨_, (get W (by first | exact (hW) | exact (hW).1 | exact (hW).1.1 | exact (hW).1.2 | exact (hW).1.2.1 | exact (hW).1.2.2.1 | exact (hW).1.2.2.2.1 | exact (hW).1.2.2.2 | exact (hW).2 | exact (hW).2.1 | exact (hW).2.1.1 | exact (hW).2.1.2 | exact (hW).2.1.2.1 | exact (hW).2.1.2.2.1 | exact (hW).2.1.2.2.2.1 | exact (hW).2.1.2.2.2 | exact (hW).2.2 | exact (hW).2.2.1 | exact (hW).2.2.1.1 | exact (hW).2.2.1.2 | exact (hW).2.2.1.2.1 | exact (hW).2.2.1.2.2.1 | exact (hW).2.2.1.2.2.2.1 | exact (hW).2.2.1.2.2.2 | exact (hW).2.2.2 | exact (hW).2.2.2.1 | exact (hW).2.2.2.1.1 | exact (hW).2.2.2.1.2 | exact (hW).2.2.2.1.2.1 | exact (hW).2.2.2.1.2.2.1 | exact (hW).2.2.2.1.2.2.2.1 | exact (hW).2.2.2.1.2.2.2 | exact (hW).2.2.2.2 | exact (hW).2.2.2.2.1 | exact (hW).2.2.2.2.1.1 | exact (hW).2.2.2.2.1.2 | exact (hW).2.2.2.2.1.2.1 | exact (hW).2.2.2.2.1.2.2.1 | exact (hW).2.2.2.2.1.2.2.2.1 | exact (hW).2.2.2.2.1.2.2.2 | exact (hW).2.2.2.2.2 | exact (hW).2.2.2.2.2.1 | exact (hW).2.2.2.2.2.1.1 | exact (hW).2.2.2.2.2.1.2 | exact (hW).2.2.2.2.2.1.2.1 | exact (hW).2.2.2.2.2.1.2.2.1 | exact (hW).2.2.2.2.2.1.2.2.2.1 | exact (hW).2.2.2.2.2.1.2.2.2 | exact (hW).2.2.2.2.2.2 | exact (hW).2.2.2.2.2.2.1 | exact (hW).2.2.2.2.2.2.1.1 | exact (hW).2.2.2.2.2.2.1.2 | exact (hW).2.2.2.2.2.2.1.2.1 | exact (hW).2.2.2.2.2.2.1.2.2.1 | exact (hW).2.2.2.2.2.2.1.2.2.2.1 | exact (hW).2.2.2.2.2.2.1.2.2.2 | exact (hW).2.2.2.2.2.2.2 | exact (hW).2.2.2.2.2.2.2.1 | exact (hW).2.2.2.2.2.2.2.1.1 | exact (hW).2.2.2.2.2.2.2.1.2 | exact (hW).2.2.2.2.2.2.2.1.2.1 | exact (hW).2.2.2.2.2.2.2.1.2.2.1 | exact (hW).2.2.2.2.2.2.2.1.2.2.2.1 | exact (hW).2.2.2.2.2.2.2.1.2.2.2 | exact (hW).2.2.2.2.2.2.2.2 | exact (hW).2.2.2.2.2.2.2.2.1 | exact (hW).2.2.2.2.2.2.2.2.1.1 | exact (hW).2.2.2.2.2.2.2.2.1.2 | exact (hW).2.2.2.2.2.2.2.2.1.2.1 | exact (hW).2.2.2.2.2.2.2.2.1.2.2.1 | exact (hW).2.2.2.2.2.2.2.2.1.2.2.2.1 | exact (hW).2.2.2.2.2.2.2.2.1.2.2.2 | exact (hW).2.2.2.2.2.2.2.2.2)).2.2, rfl⟩) ?_
          rintro u W rfl _
          simp (maxSteps := 2000000) -implicitDefEqProofs [hN, hil, hilI, f6]
          refine next2 (i + 1) _ _ (by omega) (fun W hW => ⟨hil, (by first | exact (hW) | exact (hW).1 | exact (hW).1.1 | exact (hW).1.2 | exact (hW).1.2.1 | exact (hW).1.2.2.1 | exact (hW).1.2.2.2.1 | exact (hW).1.2.2.2 | exact (hW).2 | exact (hW).2.1 | exact (hW).2.1.1 | exact (hW).2.1.2 | exact (hW).2.1.2.1 | exact (hW).2.1.2.2.1 | exact (hW).2.1.2.2.2.1 | exact (hW).2.1.2.2.2 | exact (hW).2.2 | exact (hW).2.2.1 | exact (hW).2.2.1.1 | exact (hW).2.2.1.2 | exact (hW).2.2.1.2.1 | exact (hW).2.2.1.2.2.1 | exact (hW).2.2.1.2.2.2.1 | exact (hW).2.2.1.2.2.2 | exact (hW).2.2.2 | exact (hW).2.2.2.1 | exact (hW).2.2.2.1.1 | exact (hW).2.2.2.1.2 | exact (hW).2.2.2.1.2.1 | exact (hW).2.2.2.1.2.2.1 | exact (hW).2.2.2.1.2.2.2.1 | exact (hW).2.2.2.1.2.2.2 | exact (hW).2.2.2.2 | exact (hW).2.2.2.2.1 | exact (hW).2.2.2.2.1.1 | exact (hW).2.2.2.2.1.2 | exact (hW).2.2.2.2.1.2.1 | exact (hW).2.2.2.2.1.2.2.1 | exact (hW).2.2.2.2.1.2.2.2.1 | exact (hW).2.2.2.2.1.2.2.2 | exact (hW).2.2.2.2.2 | exact (hW).2.2.2.2.2.1 | exact (hW).2.2.2.2.2.1.1 | exact (hW).2.2.2.2.2.1.2 | exact (hW).2.2.2.2.2.1.2.1 | exact (hW).2.2.2.2.2.1.2.2.1 | exact (hW).2.2.2.2.2.1.2.2.2.1 | exact (hW).2.2.2.2.2.1.2.2.2 | exact (hW).2.2.2.2.2.2 | exact (hW).2.2.2.2.2.2.1 | exact (hW).2.2.2.2.2.2.1.1 | exact (hW).2.2.2.2.2.2.1.2 | exact (hW).2.2.2.2.2.2.1.2.1 | exact (hW).2.2.2.2.2.2.1.2.2.1 | exact (hW).2.2.2.2.2.2.1.2.2.2.1 | exact (hW).2.2.2.2.2.2.1.2.2.2 | exact (hW).2.2.2.2.2.2.2 | exact (hW).2.2.2.2.2.2.2.1 | exact (hW).2.2.2.2.2.2.2.1.1 | exact (hW).2.2.2.2.2.2.2.1.2 | exact (hW).2.2.2.2.2.2.2.1.2.1 | exact (hW).2.2.2.2.2.2.2.1.2.2.1 | exact (hW).2.2.2.2.2.2.2.1.2.2.2.1 | exact (hW).2.2.2.2.2.2.2.1.2.2.2 | exact (hW).2.2.2.2.2.2.2.2 | exact (hW).2.2.2.2.2.2.2.2.1 | exact (hW).2.2.2.2.2.2.2.2.1.1 | exact (hW).2.2.2.2.2.2.2.2.1.2 | exact (hW).2.2.2.2.2.2.2.2.1.2.1 | exact (hW).2.2.2.2.2.2.2.2.1.2.2.1 | exact (hW).2.2.2.2.2.2.2.2.1.2.2.2.1 | exact (hW).2.2.2.2.2.2.2.2.1.2.2.2 | exact (hW).2.2.2.2.2.2.2.2.2)⟩) ?_
          simp
        · intro g10
          refine call0 ok rfl rfl rfl (fun w I hI hG => findIno0 w I hI s (ia, ic) (ba, bc) no (fun W e => ((by first | exact ((hG W e)) | exact ((hG W e)).1 | exact ((hG W e)).1.1 | exact ((hG W e)).1.2 | exact ((hG W e)).1.2.1 | exact ((hG W e)).1.2.2.1 | exact ((hG W e)).1.2.2.2.1 | exact ((hG W e)).1.2.2.2 | exact ((hG W e)).2 | exact ((hG W e)).2.1 | exact ((hG W e)).2.1.1 | exact ((hG W e)).2.1.2 | exact ((hG W e)).2.1.2.1 | exact ((hG W e)).2.1.2.2.1 | exact ((hG W e)).2.1.2.2.2.1 | exact ((hG W e)).2.1.2.2.2 | exact ((hG W e)).2.2 | exact ((hG W e)).2.2.1 | exact ((hG W e)).2.2.1.1 | exact ((hG W e)).2.2.1.2 | exact ((hG W e)).2.2.1.2.1 | exact ((hG W e)).2.2.1.2.2.1 | exact ((hG W e)).2.2.1.2.2.2.1 | exact ((hG W e)).2.2.1.2.2.2 | exact ((hG W e)).2.2.2 | exact ((hG W e)).2.2.2.1 | exact ((hG W e)).2.2.2.1.1 | exact ((hG W e)).2.2.2.1.2 | exact ((hG W e)).2.2.2.1.2.1 | exact ((hG W e)).2.2.2.1.2.2.1 | exact ((hG W e)).2.2.2.1.2.2.2.1 | exact ((hG W e)).2.2.2.1.2.2.2 | exact ((hG W e)).2.2.2.2 | exact ((hG W e)).2.2.2.2.1 | exact ((hG W e)).2.2.2.2.1.1 | exact ((hG W e)).2.2.2.2.1.2 | exact ((hG W e)).2.2.2.2.1.2.1 | exact ((hG W e)).2.2.2.2.1.2.2.1 | exact ((hG W e)).2.2.2.2.1.2.2.2.1 | exact ((hG W e)).2.2.2.2.1.2.2.2 | exact ((hG W e)).2.2.2.2.2 | exact ((hG W e)).2.2.2.2.2.1 | exact ((hG W e)).2.2.2.2.2.1.1 | exact ((hG W e)).2.2.2.2.2.1.2 | exact ((hG W e)).2.2.2.2.2.1.2.1 | exact ((hG W e)).2.2.2.2.2.1.2.2.1 | exact ((hG W e)).2.2.2.2.2.1.2.2.2.1 | exact ((hG W e)).2.2.2.2.2.1.2.2.2 | exact ((hG W e)).2.2.2.2.2.2 | exact ((hG W e)).2.2.2.2.2.2.1 | exact ((hG W e)).2.2.2.2.2.2.1.1 | exact ((hG W e)).2.2.2.2.2.2.1.2 | exact ((hG W e)).2.2.2.2.2.2.1.2.1 | exact ((hG W e)).2.2.2.2.2.2.1.2.2.1 | exact ((hG W e)).2.2.2.2.2.2.1.2.2.2.1 | exact ((hG W e)).2.2.2.2.2.2.1.2.2.2 | exact ((hG W e)).2.2.2.2.2.2.2 | exact ((hG W e)).2.2.2.2.2.2.2.1 | exact ((hG W e)).2.2.2.2.2.2.2.1.1 | exact ((hG W e)).2.2.2.2.2.2.2.1.2 | exact ((hG W e)).2.2.2.2.2.2.2.1.2.1 | exact ((hG W e)).2.2.2.2.2.2.2.1.2.2.1 | exact ((hG W e)).2.2.2.2.2.2.2.1.2.2.2.1 | exact ((hG W e)).2.2.2.2.2.2.2.1.2.2.2 | exact ((hG W e)).2.2.2.2.2.2.2.2 | exact ((hG W e)).2.2.2.2.2.2.2.2.1 | exact ((hG W e)).2.2.2.2.2.2.2.2.1.1 | exact ((hG W e)).2.2.2.2.2.2.2.2.1.2 | exact ((hG W e)).2.2.2.2.2.2.2.2.1.2.1 | exact ((hG W e)).2.2.2.2.2.2.2.2.1.2.2.1 | exact ((hG W e)).2.2.2.2.2.2.2.2.1.2.2.2.1 | exact ((hG W e)).2.2.2.2.2.2.2.2.1.2.2.2 | exact ((hG W e)).2.2.2.2.2.2.2.2.2) : StaR W s (ia, ic) (ba, bc))) (by omega)) fun y W hy => ?_
          obtain ⟨⟨x, ⟨ea, ec⟩, ⟨ra, rc⟩⟩, has⟩ := y
          obtain ⟨hyr, hy1, hy2⟩ := hy
          simp only at hy1 hy2
          have hh : has = true := by
            cases has with
            | true => rfl
            | false => exact absurd hxn ((hy2 rfl).2 x0 hx0)
          subst hh
          obtain ⟨hyx, hyn⟩ := hy1 rfl
          obtain rfl : x = x0 := nos_one hF.nos hyx hx0 (hyn.trans hxn.symm)
          clear hy1 hy2 hyr
          simp (maxSteps := 2000000) -implicitDefEqProofs [hN, hil, hilI]
          refine draw ok [(3, .box g3 23 ((geoC ⟨8, 2048, 12, 8, 32⟩).map .v)), (4, .box g4 47 ((staC s (ia, ic) (ba, bc)).map .v)), (10, .box g10 39 ((inoC x (ea, ec) (ra, rc)).map .v))] (by rw [ok.P]; exact mixed) (by kernel_rfl) ?_
          simp (maxSteps := 2000000) -implicitDefEqProofs [hN, hil, hilI]
          refine load1 ok rfl rfl rfl rfl (fun u W => u = .int .i64 ix) (fun W hW => ⟨_, (get W (by first | exact (hW) | exact (hW).1 | exact (hW).1.1 | exact (hW).1.2 | exact (hW).1.2.1 | exact (hW).1.2.2.1 | exact (hW).1.2.2.2.1 | exact (hW).1.2.2.2 | exact (hW).2 | exact (hW).2.1 | exact (hW).2.1.1 | exact (hW).2.1.2 | exact (hW).2.1.2.1 | exact (hW).2.1.2.2.1 | exact (hW).2.1.2.2.2.1 | exact (hW).2.1.2.2.2 | exact (hW).2.2 | exact (hW).2.2.1 | exact (hW).2.2.1.1 | exact (hW).2.2.1.2 | exact (hW).2.2.1.2.1 | exact (hW).2.2.1.2.2.1 | exact (hW).2.2.1.2.2.2.1 | exact (hW).2.2.1.2.2.2 | exact (hW).2.2.2 | exact (hW).2.2.2.1 | exact (hW).2.2.2.1.1 | exact (hW).2.2.2.1.2 | exact (hW).2.2.2.1.2.1 | exact (hW).2.2.2.1.2.2.1 | exact (hW).2.2.2.1.2.2.2.1 | exact (hW).2.2.2.1.2.2.2 | exact (hW).2.2.2.2 | exact (hW).2.2.2.2.1 | exact (hW).2.2.2.2.1.1 | exact (hW).2.2.2.2.1.2 | exact (hW).2.2.2.2.1.2.1 | exact (hW).2.2.2.2.1.2.2.1 | exact (hW).2.2.2.2.1.2.2.2.1 | exact (hW).2.2.2.2.1.2.2.2 | exact (hW).2.2.2.2.2 | exact (hW).2.2.2.2.2.1 | exact (hW).2.2.2.2.2.1.1 | exact (hW).2.2.2.2.2.1.2 | exact (hW).2.2.2.2.2.1.2.1 | exact (hW).2.2.2.2.2.1.2.2.1 | exact (hW).2.2.2.2.2.1.2.2.2.1 | exact (hW).2.2.2.2.2.1.2.2.2 | exact (hW).2.2.2.2.2.2 | exact (hW).2.2.2.2.2.2.1 | exact (hW).2.2.2.2.2.2.1.1 | exact (hW).2.2.2.2.2.2.1.2 | exact (hW).2.2.2.2.2.2.1.2.1 | exact (hW).2.2.2.2.2.2.1.2.2.1 | exact (hW).2.2.2.2.2.2.1.2.2.2.1 | exact (hW).2.2.2.2.2.2.1.2.2.2 | exact (hW).2.2.2.2.2.2.2 | exact (hW).2.2.2.2.2.2.2.1 | exact (hW).2.2.2.2.2.2.2.1.1 | exact (hW).2.2.2.2.2.2.2.1.2 | exact (hW).2.2.2.2.2.2.2.1.2.1 | exact (hW).2.2.2.2.2.2.2.1.2.2.1 | exact (hW).2.2.2.2.2.2.2.1.2.2.2.1 | exact (hW).2.2.2.2.2.2.2.1.2.2.2 | exact (hW).2.2.2.2.2.2.2.2 | exact (hW).2.2.2.2.2.2.2.2.1 | exact (hW).2.2.2.2.2.2.2.2.1.1 | exact (hW).2.2.2.2.2.2.2.2.1.2 | exact (hW).2.2.2.2.2.2.2.2.1.2.1 | exact (hW).2.2.2.2.2.2.2.2.1.2.2.1 | exact (hW).2.2.2.2.2.2.2.2.1.2.2.2.1 | exact (hW).2.2.2.2.2.2.2.2.1.2.2.2 | exact (hW).2.2.2.2.2.2.2.2.2)).2.1, rfl⟩) ?_
          rintro u W rfl _
          simp (maxSteps := 2000000) -implicitDefEqProofs [hN, hil, hilI]
          refine call0 ok rfl rfl rfl (fun w I hI hG => getRun0 w I hI x.runs ix (fun W e => ⟨rfl, ((by first | exact ((hG W e)) | exact ((hG W e)).1 | exact ((hG W e)).1.1 | exact ((hG W e)).1.2 | exact ((hG W e)).1.2.1 | exact ((hG W e)).1.2.2.1 | exact ((hG W e)).1.2.2.2.1 | exact ((hG W e)).1.2.2.2 | exact ((hG W e)).2 | exact ((hG W e)).2.1 | exact ((hG W e)).2.1.1 | exact ((hG W e)).2.1.2 | exact ((hG W e)).2.1.2.1 | exact ((hG W e)).2.1.2.2.1 | exact ((hG W e)).2.1.2.2.2.1 | exact ((hG W e)).2.1.2.2.2 | exact ((hG W e)).2.2 | exact ((hG W e)).2.2.1 | exact ((hG W e)).2.2.1.1 | exact ((hG W e)).2.2.1.2 | exact ((hG W e)).2.2.1.2.1 | exact ((hG W e)).2.2.1.2.2.1 | exact ((hG W e)).2.2.1.2.2.2.1 | exact ((hG W e)).2.2.1.2.2.2 | exact ((hG W e)).2.2.2 | exact ((hG W e)).2.2.2.1 | exact ((hG W e)).2.2.2.1.1 | exact ((hG W e)).2.2.2.1.2 | exact ((hG W e)).2.2.2.1.2.1 | exact ((hG W e)).2.2.2.1.2.2.1 | exact ((hG W e)).2.2.2.1.2.2.2.1 | exact ((hG W e)).2.2.2.1.2.2.2 | exact ((hG W e)).2.2.2.2 | exact ((hG W e)).2.2.2.2.1 | exact ((hG W e)).2.2.2.2.1.1 | exact ((hG W e)).2.2.2.2.1.2 | exact ((hG W e)).2.2.2.2.1.2.1 | exact ((hG W e)).2.2.2.2.1.2.2.1 | exact ((hG W e)).2.2.2.2.1.2.2.2.1 | exact ((hG W e)).2.2.2.2.1.2.2.2 | exact ((hG W e)).2.2.2.2.2 | exact ((hG W e)).2.2.2.2.2.1 | exact ((hG W e)).2.2.2.2.2.1.1 | exact ((hG W e)).2.2.2.2.2.1.2 | exact ((hG W e)).2.2.2.2.2.1.2.1 | exact ((hG W e)).2.2.2.2.2.1.2.2.1 | exact ((hG W e)).2.2.2.2.2.1.2.2.2.1 | exact ((hG W e)).2.2.2.2.2.1.2.2.2 | exact ((hG W e)).2.2.2.2.2.2 | exact ((hG W e)).2.2.2.2.2.2.1 | exact ((hG W e)).2.2.2.2.2.2.1.1 | exact ((hG W e)).2.2.2.2.2.2.1.2 | exact ((hG W e)).2.2.2.2.2.2.1.2.1 | exact ((hG W e)).2.2.2.2.2.2.1.2.2.1 | exact ((hG W e)).2.2.2.2.2.2.1.2.2.2.1 | exact ((hG W e)).2.2.2.2.2.2.1.2.2.2 | exact ((hG W e)).2.2.2.2.2.2.2 | exact ((hG W e)).2.2.2.2.2.2.2.1 | exact ((hG W e)).2.2.2.2.2.2.2.1.1 | exact ((hG W e)).2.2.2.2.2.2.2.1.2 | exact ((hG W e)).2.2.2.2.2.2.2.1.2.1 | exact ((hG W e)).2.2.2.2.2.2.2.1.2.2.1 | exact ((hG W e)).2.2.2.2.2.2.2.1.2.2.2.1 | exact ((hG W e)).2.2.2.2.2.2.2.1.2.2.2 | exact ((hG W e)).2.2.2.2.2.2.2.2 | exact ((hG W e)).2.2.2.2.2.2.2.2.1 | exact ((hG W e)).2.2.2.2.2.2.2.2.1.1 | exact ((hG W e)).2.2.2.2.2.2.2.2.1.2 | exact ((hG W e)).2.2.2.2.2.2.2.2.1.2.1 | exact ((hG W e)).2.2.2.2.2.2.2.2.1.2.2.1 | exact ((hG W e)).2.2.2.2.2.2.2.2.1.2.2.2.1 | exact ((hG W e)).2.2.2.2.2.2.2.2.1.2.2.2 | exact ((hG W e)).2.2.2.2.2.2.2.2.2) : InoR W x (ea, ec) (ra, rc)).2⟩) (right_okR hxr) (by omega)) fun y W hy => ?_
          rw [hxg] at hy
          subst hy
          simp (maxSteps := 2000000) -implicitDefEqProofs [hN, hil, hilI, hd8]
          refine load1 ok rfl rfl rfl rfl (fun u W => u = .int .u32 0) (fun W hW => ⟨_, (get W (by first | exact (hW) | exact (hW).1 | exact (hW).1.1 | exact (hW).1.2 | exact (hW).1.2.1 | exact (hW).1.2.2.1 | exact (hW).1.2.2.2.1 | exact (hW).1.2.2.2 | exact (hW).2 | exact (hW).2.1 | exact (hW).2.1.1 | exact (hW).2.1.2 | exact (hW).2.1.2.1 | exact (hW).2.1.2.2.1 | exact (hW).2.1.2.2.2.1 | exact (hW).2.1.2.2.2 | exact (hW).2.2 | exact (hW).2.2.1 | exact (hW).2.2.1.1 | exact (hW).2.2.1.2 | exact (hW).2.2.1.2.1 | exact (hW).2.2.1.2.2.1 | exact (hW).2.2.1.2.2.2.1 | exact (hW).2.2.1.2.2.2 | exact (hW).2.2.2 | exact (hW).2.2.2.1 | exact (hW).2.2.2.1.1 | exact (hW).2.2.2.1.2 | exact (hW).2.2.2.1.2.1 | exact (hW).2.2.2.1.2.2.1 | exact (hW).2.2.2.1.2.2.2.1 | exact (hW).2.2.2.1.2.2.2 | exact (hW).2.2.2.2 | exact (hW).2.2.2.2.1 | exact (hW).2.2.2.2.1.1 | exact (hW).2.2.2.2.1.2 | exact (hW).2.2.2.2.1.2.1 | exact (hW).2.2.2.2.1.2.2.1 | exact (hW).2.2.2.2.1.2.2.2.1 | exact (hW).2.2.2.2.1.2.2.2 | exact (hW).2.2.2.2.2 | exact (hW).2.2.2.2.2.1 | exact (hW).2.2.2.2.2.1.1 | exact (hW).2.2.2.2.2.1.2 | exact (hW).2.2.2.2.2.1.2.1 | exact (hW).2.2.2.2.2.1.2.2.1 | exact (hW).2.2.2.2.2.1.2.2.2.1 | exact (hW).2.2.2.2.2.1.2.2.2 | exact (hW).2.2.2.2.2.2 | exact (hW).2.2.2.2.2.2.1 | exact (hW).2.2.2.2.2.2.1.1 | exact (hW).2.2.2.2.2.2.1.2 | exact (hW).2.2.2.2.2.2.1.2.1 | exact (hW).2.2.2.2.2.2.1.2.2.1 | exact (hW).2.2.2.2.2.2.1.2.2.2.1 | exact (hW).2.2.2.2.2.2.1.2.2.2 | exact (hW).2.2.2.2.2.2.2 | exact (hW).2.2.2.2.2.2.2.1 | exact (hW).2.2.2.2.2.2.2.1.1 | exact (hW).2.2.2.2.2.2.2.1.2 | exact (hW).2.2.2.2.2.2.2.1.2.1 | exact (hW).2.2.2.2.2.2.2.1.2.2.1 | exact (hW).2.2.2.2.2.2.2.1.2.2.2.1 | exact (hW).2.2.2.2.2.2.2.1.2.2.2 | exact (hW).2.2.2.2.2.2.2.2 | exact (hW).2.2.2.2.2.2.2.2.1 | exact (hW).2.2.2.2.2.2.2.2.1.1 | exact (hW).2.2.2.2.2.2.2.2.1.2 | exact (hW).2.2.2.2.2.2.2.2.1.2.1 | exact (hW).2.2.2.2.2.2.2.2.1.2.2.1 | exact (hW).2.2.2.2.2.2.2.2.1.2.2.2.1 | exact (hW).2.2.2.2.2.2.2.2.1.2.2.2 | exact (hW).2.2.2.2.2.2.2.2.2)).2.2, rfl⟩) ?_
          rintro u W rfl _
          simp (maxSteps := 2000000) -implicitDefEqProofs [hN, hil, hilI, f6]
          refine next2 (i + 1) _ _ (by omega) (fun W hW => ⟨hil, (by first | exact (hW) | exact (hW).1 | exact (hW).1.1 | exact (hW).1.2 | exact (hW).1.2.1 | exact (hW).1.2.2.1 | exact (hW).1.2.2.2.1 | exact (hW).1.2.2.2 | exact (hW).2 | exact (hW).2.1 | exact (hW).2.1.1 | exact (hW).2.1.2 | exact (hW).2.1.2.1 | exact (hW).2.1.2.2.1 | exact (hW).2.1.2.2.2.1 | exact (hW).2.1.2.2.2 | exact (hW).2.2 | exact (hW).2.2.1 | exact (hW).2.2.1.1 | exact (hW).2.2.1.2 | exact (hW).2.2.1.2.1 | exact (hW).2.2.1.2.2.1 | exact (hW).2.2.1.2.2.2.1 | exact (hW).2.2.1.2.2.2 | exact (hW).2.2.2 | exact (hW).2.2.2.1 | exact (hW).2.2.2.1.1 | exact (hW).2.2.2.1.2 | exact (hW).2.2.2.1.2.1 | exact (hW).2.2.2.1.2.2.1 | exact (hW).2.2.2.1.2.2.2.1 | exact (hW).2.2.2.1.2.2.2 | exact (hW).2.2.2.2 | exact (hW).2.2.2.2.1 | exact (hW).2.2.2.2.1.1 | exact (hW).2.2.2.2.1.2 | exact (hW).2.2.2.2.1.2.1 | exact (hW).2.2.2.2.1.2.2.1 | exact (hW).2.2.2.2.1.2.2.2.1 | exact (hW).2.2.2.2.1.2.2.2 | exact (hW).2.2.2.2.2 | exact (hW).2.2.2.2.2.1 | exact (hW).2.2.2.2.2.1.1 | exact (hW).2.2.2.2.2.1.2 | exact (hW).2.2.2.2.2.1.2.1 | exact (hW).2.2.2.2.2.1.2.2.1 | exact (hW).2.2.2.2.2.1.2.2.2.1 | exact (hW).2.2.2.2.2.1.2.2.2 | exact (hW).2.2.2.2.2.2 | exact (hW).2.2.2.2.2.2.1 | exact (hW).2.2.2.2.2.2.1.1 | exact (hW).2.2.2.2.2.2.1.2 | exact (hW).2.2.2.2.2.2.1.2.1 | exact (hW).2.2.2.2.2.2.1.2.2.1 | exact (hW).2.2.2.2.2.2.1.2.2.2.1 | exact (hW).2.2.2.2.2.2.1.2.2.2 | exact (hW).2.2.2.2.2.2.2 | exact (hW).2.2.2.2.2.2.2.1 | exact (hW).2.2.2.2.2.2.2.1.1 | exact (hW).2.2.2.2.2.2.2.1.2 | exact (hW).2.2.2.2.2.2.2.1.2.1 | exact (hW).2.2.2.2.2.2.2.1.2.2.1 | exact (hW).2.2.2.2.2.2.2.1.2.2.2.1 | exact (hW).2.2.2.2.2.2.2.1.2.2.2 | exact (hW).2.2.2.2.2.2.2.2 | exact (hW).2.2.2.2.2.2.2.2.1 | exact (hW).2.2.2.2.2.2.2.2.1.1 | exact (hW).2.2.2.2.2.2.2.2.1.2 | exact (hW).2.2.2.2.2.2.2.2.1.2.1 | exact (hW).2.2.2.2.2.2.2.2.1.2.2.1 | exact (hW).2.2.2.2.2.2.2.2.1.2.2.2.1 | exact (hW).2.2.2.2.2.2.2.2.1.2.2.2 | exact (hW).2.2.2.2.2.2.2.2.2)⟩) ?_
          simp
      · intro g10
        refine load1 ok rfl rfl rfl rfl (fun u W => u = .int .i64 no) (fun W hW => ⟨_, (get W (by first | exact (hW) | exact (hW).1 | exact (hW).1.1 | exact (hW).1.2 | exact (hW).1.2.1 | exact (hW).1.2.2.1 | exact (hW).1.2.2.2.1 | exact (hW).1.2.2.2 | exact (hW).2 | exact (hW).2.1 | exact (hW).2.1.1 | exact (hW).2.1.2 | exact (hW).2.1.2.1 | exact (hW).2.1.2.2.1 | exact (hW).2.1.2.2.2.1 | exact (hW).2.1.2.2.2 | exact (hW).2.2 | exact (hW).2.2.1 | exact (hW).2.2.1.1 | exact (hW).2.2.1.2 | exact (hW).2.2.1.2.1 | exact (hW).2.2.1.2.2.1 | exact (hW).2.2.1.2.2.2.1 | exact (hW).2.2.1.2.2.2 | exact (hW).2.2.2 | exact (hW).2.2.2.1 | exact (hW).2.2.2.1.1 | exact (hW).2.2.2.1.2 | exact (hW).2.2.2.1.2.1 | exact (hW).2.2.2.1.2.2.1 | exact (hW).2.2.2.1.2.2.2.1 | exact (hW).2.2.2.1.2.2.2 | exact (hW).2.2.2.2 | exact (hW).2.2.2.2.1 | exact (hW).2.2.2.2.1.1 | exact (hW).2.2.2.2.1.2 | exact (hW).2.2.2.2.1.2.1 | exact (hW).2.2.2.2.1.2.2.1 | exact (hW).2.2.2.2.1.2.2.2.1 | exact (hW).2.2.2.2.1.2.2.2 | exact (hW).2.2.2.2.2 | exact (hW).2.2.2.2.2.1 | exact (hW).2.2.2.2.2.1.1 | exact (hW).2.2.2.2.2.1.2 | exact (hW).2.2.2.2.2.1.2.1 | exact (hW).2.2.2.2.2.1.2.2.1 | exact (hW).2.2.2.2.2.1.2.2.2.1 | exact (hW).2.2.2.2.2.1.2.2.2 | exact (hW).2.2.2.2.2.2 | exact (hW).2.2.2.2.2.2.1 | exact (hW).2.2.2.2.2.2.1.1 | exact (hW).2.2.2.2.2.2.1.2 | exact (hW).2.2.2.2.2.2.1.2.1 | exact (hW).2.2.2.2.2.2.1.2.2.1 | exact (hW).2.2.2.2.2.2.1.2.2.2.1 | exact (hW).2.2.2.2.2.2.1.2.2.2 | exact (hW).2.2.2.2.2.2.2 | exact (hW).2.2.2.2.2.2.2.1 | exact (hW).2.2.2.2.2.2.2.1.1 | exact (hW).2.2.2.2.2.2.2.1.2 | exact (hW).2.2.2.2.2.2.2.1.2.1 | exact (hW).2.2.2.2.2.2.2.1.2.2.1 | exact (hW).2.2.2.2.2.2.2.1.2.2.2.1 | exact (hW).2.2.2.2.2.2.2.1.2.2.2 | exact (hW).2.2.2.2.2.2.2.2 | exact (hW).2.2.2.2.2.2.2.2.1 | exact (hW).2.2.2.2.2.2.2.2.1.1 | exact (hW).2.2.2.2.2.2.2.2.1.2 | exact (hW).2.2.2.2.2.2.2.2.1.2.1 | exact (hW).2.2.2.2.2.2.2.2.1.2.2.1 | exact (hW).2.2.2.2.2.2.2.2.1.2.2.2.1 | exact (hW).2.2.2.2.2.2.2.2.1.2.2.2 | exact (hW).2.2.2.2.2.2.2.2.2)).1, rfl⟩) ?_
        rintro u W rfl _
        simp (maxSteps := 2000000) -implicitDefEqProofs [hN, hil, hilI]
        refine call0 ok rfl rfl rfl (fun w I hI hG => findIno0 w I hI s (ia, ic) (ba, bc) no (fun W e => ((by first | exact ((hG W e)) | exact ((hG W e)).1 | exact ((hG W e)).1.1 | exact ((hG W e)).1.2 | exact ((hG W e)).1.2.1 | exact ((hG W e)).1.2.2.1 | exact ((hG W e)).1.2.2.2.1 | exact ((hG W e)).1.2.2.2 | exact ((hG W e)).2 | exact ((hG W e)).2.1 | exact ((hG W e)).2.1.1 | exact ((hG W e)).2.1.2 | exact ((hG W e)).2.1.2.1 | exact ((hG W e)).2.1.2.2.1 | exact ((hG W e)).2.1.2.2.2.1 | exact ((hG W e)).2.1.2.2.2 | exact ((hG W e)).2.2 | exact ((hG W e)).2.2.1 | exact ((hG W e)).2.2.1.1 | exact ((hG W e)).2.2.1.2 | exact ((hG W e)).2.2.1.2.1 | exact ((hG W e)).2.2.1.2.2.1 | exact ((hG W e)).2.2.1.2.2.2.1 | exact ((hG W e)).2.2.1.2.2.2 | exact ((hG W e)).2.2.2 | exact ((hG W e)).2.2.2.1 | exact ((hG W e)).2.2.2.1.1 | exact ((hG W e)).2.2.2.1.2 | exact ((hG W e)).2.2.2.1.2.1 | exact ((hG W e)).2.2.2.1.2.2.1 | exact ((hG W e)).2.2.2.1.2.2.2.1 | exact ((hG W e)).2.2.2.1.2.2.2 | exact ((hG W e)).2.2.2.2 | exact ((hG W e)).2.2.2.2.1 | exact ((hG W e)).2.2.2.2.1.1 | exact ((hG W e)).2.2.2.2.1.2 | exact ((hG W e)).2.2.2.2.1.2.1 | exact ((hG W e)).2.2.2.2.1.2.2.1 | exact ((hG W e)).2.2.2.2.1.2.2.2.1 | exact ((hG W e)).2.2.2.2.1.2.2.2 | exact ((hG W e)).2.2.2.2.2 | exact ((hG W e)).2.2.2.2.2.1 | exact ((hG W e)).2.2.2.2.2.1.1 | exact ((hG W e)).2.2.2.2.2.1.2 | exact ((hG W e)).2.2.2.2.2.1.2.1 | exact ((hG W e)).2.2.2.2.2.1.2.2.1 | exact ((hG W e)).2.2.2.2.2.1.2.2.2.1 | exact ((hG W e)).2.2.2.2.2.1.2.2.2 | exact ((hG W e)).2.2.2.2.2.2 | exact ((hG W e)).2.2.2.2.2.2.1 | exact ((hG W e)).2.2.2.2.2.2.1.1 | exact ((hG W e)).2.2.2.2.2.2.1.2 | exact ((hG W e)).2.2.2.2.2.2.1.2.1 | exact ((hG W e)).2.2.2.2.2.2.1.2.2.1 | exact ((hG W e)).2.2.2.2.2.2.1.2.2.2.1 | exact ((hG W e)).2.2.2.2.2.2.1.2.2.2 | exact ((hG W e)).2.2.2.2.2.2.2 | exact ((hG W e)).2.2.2.2.2.2.2.1 | exact ((hG W e)).2.2.2.2.2.2.2.1.1 | exact ((hG W e)).2.2.2.2.2.2.2.1.2 | exact ((hG W e)).2.2.2.2.2.2.2.1.2.1 | exact ((hG W e)).2.2.2.2.2.2.2.1.2.2.1 | exact ((hG W e)).2.2.2.2.2.2.2.1.2.2.2.1 | exact ((hG W e)).2.2.2.2.2.2.2.1.2.2.2 | exact ((hG W e)).2.2.2.2.2.2.2.2 | exact ((hG W e)).2.2.2.2.2.2.2.2.1 | exact ((hG W e)).2.2.2.2.2.2.2.2.1.1 | exact ((hG W e)).2.2.2.2.2.2.2.2.1.2 | exact ((hG W e)).2.2.2.2.2.2.2.2.1.2.1 | exact ((hG W e)).2.2.2.2.2.2.2.2.1.2.2.1 | exact ((hG W e)).2.2.2.2.2.2.2.2.1.2.2.2.1 | exact ((hG W e)).2.2.2.2.2.2.2.2.1.2.2.2 | exact ((hG W e)).2.2.2.2.2.2.2.2.2) : StaR W s (ia, ic) (ba, bc))) (by omega)) fun y W hy => ?_
        obtain ⟨⟨x, ⟨ea, ec⟩, ⟨ra, rc⟩⟩, has⟩ := y
        obtain ⟨hyr, hy1, hy2⟩ := hy
        simp only at hy1 hy2
        have hh : has = true := by
          cases has with
          | true => rfl
          | false => exact absurd hxn ((hy2 rfl).2 x0 hx0)
        subst hh
        obtain ⟨hyx, hyn⟩ := hy1 rfl
        obtain rfl : x = x0 := nos_one hF.nos hyx hx0 (hyn.trans hxn.symm)
        clear hy1 hy2 hyr
        simp (maxSteps := 2000000) -implicitDefEqProofs [hN, hil, hilI]
        refine draw ok [(3, .box g3 23 ((geoC ⟨8, 2048, 12, 8, 32⟩).map .v)), (4, .box g4 47 ((staC s (ia, ic) (ba, bc)).map .v)), (10, .box g10 39 ((inoC x (ea, ec) (ra, rc)).map .v))] (by rw [ok.P]; exact mixed) (by kernel_rfl) ?_
        simp (maxSteps := 2000000) -implicitDefEqProofs [hN, hil, hilI]
        refine load1 ok rfl rfl rfl rfl (fun u W => u = .int .i64 ix) (fun W hW => ⟨_, (get W (by first | exact (hW) | exact (hW).1 | exact (hW).1.1 | exact (hW).1.2 | exact (hW).1.2.1 | exact (hW).1.2.2.1 | exact (hW).1.2.2.2.1 | exact (hW).1.2.2.2 | exact (hW).2 | exact (hW).2.1 | exact (hW).2.1.1 | exact (hW).2.1.2 | exact (hW).2.1.2.1 | exact (hW).2.1.2.2.1 | exact (hW).2.1.2.2.2.1 | exact (hW).2.1.2.2.2 | exact (hW).2.2 | exact (hW).2.2.1 | exact (hW).2.2.1.1 | exact (hW).2.2.1.2 | exact (hW).2.2.1.2.1 | exact (hW).2.2.1.2.2.1 | exact (hW).2.2.1.2.2.2.1 | exact (hW).2.2.1.2.2.2 | exact (hW).2.2.2 | exact (hW).2.2.2.1 | exact (hW).2.2.2.1.1 | exact (hW).2.2.2.1.2 | exact (hW).2.2.2.1.2.1 | exact (hW).2.2.2.1.2.2.1 | exact (hW).2.2.2.1.2.2.2.1 | exact (hW).2.2.2.1.2.2.2 | exact (hW).2.2.2.2 | exact (hW).2.2.2.2.1 | exact (hW).2.2.2.2.1.1 | exact (hW).2.2.2.2.1.2 | exact (hW).2.2.2.2.1.2.1 | exact (hW).2.2.2.2.1.2.2.1 | exact (hW).2.2.2.2.1.2.2.2.1 | exact (hW).2.2.2.2.1.2.2.2 | exact (hW).2.2.2.2.2 | exact (hW).2.2.2.2.2.1 | exact (hW).2.2.2.2.2.1.1 | exact (hW).2.2.2.2.2.1.2 | exact (hW).2.2.2.2.2.1.2.1 | exact (hW).2.2.2.2.2.1.2.2.1 | exact (hW).2.2.2.2.2.1.2.2.2.1 | exact (hW).2.2.2.2.2.1.2.2.2 | exact (hW).2.2.2.2.2.2 | exact (hW).2.2.2.2.2.2.1 | exact (hW).2.2.2.2.2.2.1.1 | exact (hW).2.2.2.2.2.2.1.2 | exact (hW).2.2.2.2.2.2.1.2.1 | exact (hW).2.2.2.2.2.2.1.2.2.1 | exact (hW).2.2.2.2.2.2.1.2.2.2.1 | exact (hW).2.2.2.2.2.2.1.2.2.2 | exact (hW).2.2.2.2.2.2.2 | exact (hW).2.2.2.2.2.2.2.1 | exact (hW).2.2.2.2.2.2.2.1.1 | exact (hW).2.2.2.2.2.2.2.1.2 | exact (hW).2.2.2.2.2.2.2.1.2.1 | exact (hW).2.2.2.2.2.2.2.1.2.2.1 | exact (hW).2.2.2.2.2.2.2.1.2.2.2.1 | exact (hW).2.2.2.2.2.2.2.1.2.2.2 | exact (hW).2.2.2.2.2.2.2.2 | exact (hW).2.2.2.2.2.2.2.2.1 | exact (hW).2.2.2.2.2.2.2.2.1.1 | exact (hW).2.2.2.2.2.2.2.2.1.2 | exact (hW).2.2.2.2.2.2.2.2.1.2.1 | exact (hW).2.2.2.2.2.2.2.2.1.2.2.1 | exact (hW).2.2.2.2.2.2.2.2.1.2.2.2.1 | exact (hW).2.2.2.2.2.2.2.2.1.2.2.2 | exact (hW).2.2.2.2.2.2.2.2.2)).2.1, rfl⟩) ?_
        rintro u W rfl _
        simp (maxSteps := 2000000) -implicitDefEqProofs [hN, hil, hilI]
        refine call0 ok rfl rfl rfl (fun w I hI hG => getRun0 w I hI x.runs ix (fun W e => ⟨rfl, ((by first | exact ((hG W e)) | exact ((hG W e)).1 | exact ((hG W e)).1.1 | exact ((hG W e)).1.2 | exact ((hG W e)).1.2.1 | exact ((hG W e)).1.2.2.1 | exact ((hG W e)).1.2.2.2.1 | exact ((hG W e)).1.2.2.2 | exact ((hG W e)).2 | exact ((hG W e)).2.1 | exact ((hG W e)).2.1.1 | exact ((hG W e)).2.1.2 | exact ((hG W e)).2.1.2.1 | exact ((hG W e)).2.1.2.2.1 | exact ((hG W e)).2.1.2.2.2.1 | exact ((hG W e)).2.1.2.2.2 | exact ((hG W e)).2.2 | exact ((hG W e)).2.2.1 | exact ((hG W e)).2.2.1.1 | exact ((hG W e)).2.2.1.2 | exact ((hG W e)).2.2.1.2.1 | exact ((hG W e)).2.2.1.2.2.1 | exact ((hG W e)).2.2.1.2.2.2.1 | exact ((hG W e)).2.2.1.2.2.2 | exact ((hG W e)).2.2.2 | exact ((hG W e)).2.2.2.1 | exact ((hG W e)).2.2.2.1.1 | exact ((hG W e)).2.2.2.1.2 | exact ((hG W e)).2.2.2.1.2.1 | exact ((hG W e)).2.2.2.1.2.2.1 | exact ((hG W e)).2.2.2.1.2.2.2.1 | exact ((hG W e)).2.2.2.1.2.2.2 | exact ((hG W e)).2.2.2.2 | exact ((hG W e)).2.2.2.2.1 | exact ((hG W e)).2.2.2.2.1.1 | exact ((hG W e)).2.2.2.2.1.2 | exact ((hG W e)).2.2.2.2.1.2.1 | exact ((hG W e)).2.2.2.2.1.2.2.1 | exact ((hG W e)).2.2.2.2.1.2.2.2.1 | exact ((hG W e)).2.2.2.2.1.2.2.2 | exact ((hG W e)).2.2.2.2.2 | exact ((hG W e)).2.2.2.2.2.1 | exact ((hG W e)).2.2.2.2.2.1.1 | exact ((hG W e)).2.2.2.2.2.1.2 | exact ((hG W e)).2.2.2.2.2.1.2.1 | exact ((hG W e)).2.2.2.2.2.1.2.2.1 | exact ((hG W e)).2.2.2.2.2.1.2.2.2.1 | exact ((hG W e)).2.2.2.2.2.1.2.2.2 | exact ((hG W e)).2.2.2.2.2.2 | exact ((hG W e)).2.2.2.2.2.2.1 | exact ((hG W e)).2.2.2.2.2.2.1.1 | exact ((hG W e)).2.2.2.2.2.2.1.2 | exact ((hG W e)).2.2.2.2.2.2.1.2.1 | exact ((hG W e)).2.2.2.2.2.2.1.2.2.1 | exact ((hG W e)).2.2.2.2.2.2.1.2.2.2.1 | exact ((hG W e)).2.2.2.2.2.2.1.2.2.2 | exact ((hG W e)).2.2.2.2.2.2.2 | exact ((hG W e)).2.2.2.2.2.2.2.1 | exact ((hG W e)).2.2.2.2.2.2.2.1.1 | exact ((hG W e)).2.2.2.2.2.2.2.1.2 | exact ((hG W e)).2.2.2.2.2.2.2.1.2.1 | exact ((hG W e)).2.2.2.2.2.2.2.1.2.2.1 | exact ((hG W e)).2.2.2.2.2.2.2.1.2.2.2.1 | exact ((hG W e)).2.2.2.2.2.2.2.1.2.2.2 | exact ((hG W e)).2.2.2.2.2.2.2.2 | exact ((hG W e)).2.2.2.2.2.2.2.2.1 | exact ((hG W e)).2.2.2.2.2.2.2.2.1.1 | exact ((hG W e)).2.2.2.2.2.2.2.2.1.2 | exact ((hG W e)).2.2.2.2.2.2.2.2.1.2.1 | exact ((hG W e)).2.2.2.2.2.2.2.2.1.2.2.1 | exact ((hG W e)).2.2.2.2.2.2.2.2.1.2.2.2.1 | exact ((hG W e)).2.2.2.2.2.2.2.2.1.2.2.2 | exact ((hG W e)).2.2.2.2.2.2.2.2.2) : InoR W x (ea, ec) (ra, rc)).2⟩) (right_okR hxr) (by omega)) fun y W hy => ?_
        rw [hxg] at hy
        subst hy
        simp (maxSteps := 2000000) -implicitDefEqProofs [hN, hil, hilI, hd8]
        refine load1 ok rfl rfl rfl rfl (fun u W => u = .int .u32 0) (fun W hW => ⟨_, (get W (by first | exact (hW) | exact (hW).1 | exact (hW).1.1 | exact (hW).1.2 | exact (hW).1.2.1 | exact (hW).1.2.2.1 | exact (hW).1.2.2.2.1 | exact (hW).1.2.2.2 | exact (hW).2 | exact (hW).2.1 | exact (hW).2.1.1 | exact (hW).2.1.2 | exact (hW).2.1.2.1 | exact (hW).2.1.2.2.1 | exact (hW).2.1.2.2.2.1 | exact (hW).2.1.2.2.2 | exact (hW).2.2 | exact (hW).2.2.1 | exact (hW).2.2.1.1 | exact (hW).2.2.1.2 | exact (hW).2.2.1.2.1 | exact (hW).2.2.1.2.2.1 | exact (hW).2.2.1.2.2.2.1 | exact (hW).2.2.1.2.2.2 | exact (hW).2.2.2 | exact (hW).2.2.2.1 | exact (hW).2.2.2.1.1 | exact (hW).2.2.2.1.2 | exact (hW).2.2.2.1.2.1 | exact (hW).2.2.2.1.2.2.1 | exact (hW).2.2.2.1.2.2.2.1 | exact (hW).2.2.2.1.2.2.2 | exact (hW).2.2.2.2 | exact (hW).2.2.2.2.1 | exact (hW).2.2.2.2.1.1 | exact (hW).2.2.2.2.1.2 | exact (hW).2.2.2.2.1.2.1 | exact (hW).2.2.2.2.1.2.2.1 | exact (hW).2.2.2.2.1.2.2.2.1 | exact (hW).2.2.2.2.1.2.2.2 | exact (hW).2.2.2.2.2 | exact (hW).2.2.2.2.2.1 | exact (hW).2.2.2.2.2.1.1 | exact (hW).2.2.2.2.2.1.2 | exact (hW).2.2.2.2.2.1.2.1 | exact (hW).2.2.2.2.2.1.2.2.1 | exact (hW).2.2.2.2.2.1.2.2.2.1 | exact (hW).2.2.2.2.2.1.2.2.2 | exact (hW).2.2.2.2.2.2 | exact (hW).2.2.2.2.2.2.1 | exact (hW).2.2.2.2.2.2.1.1 | exact (hW).2.2.2.2.2.2.1.2 | exact (hW).2.2.2.2.2.2.1.2.1 | exact (hW).2.2.2.2.2.2.1.2.2.1 | exact (hW).2.2.2.2.2.2.1.2.2.2.1 | exact (hW).2.2.2.2.2.2.1.2.2.2 | exact (hW).2.2.2.2.2.2.2 | exact (hW).2.2.2.2.2.2.2.1 | exact (hW).2.2.2.2.2.2.2.1.1 | exact (hW).2.2.2.2.2.2.2.1.2 | exact (hW).2.2.2.2.2.2.2.1.2.1 | exact (hW).2.2.2.2.2.2.2.1.2.2.1 | exact (hW).2.2.2.2.2.2.2.1.2.2.2.1 | exact (hW).2.2.2.2.2.2.2.1.2.2.2 | exact (hW).2.2.2.2.2.2.2.2 | exact (hW).2.2.2.2.2.2.2.2.1 | exact (hW).2.2.2.2.2.2.2.2.1.1 | exact (hW).2.2.2.2.2.2.2.2.1.2 | exact (hW).2.2.2.2.2.2.2.2.1.2.1 | exact (hW).2.2.2.2.2.2.2.2.1.2.2.1 | exact (hW).2.2.2.2.2.2.2.2.1.2.2.2.1 | exact (hW).2.2.2.2.2.2.2.2.1.2.2.2 | exact (hW).2.2.2.2.2.2.2.2.2)).2.2, rfl⟩) ?_
        rintro u W rfl _
        simp (maxSteps := 2000000) -implicitDefEqProofs [hN, hil, hilI, f6]
        refine next2 (i + 1) _ _ (by omega) (fun W hW => ⟨hil, (by first | exact (hW) | exact (hW).1 | exact (hW).1.1 | exact (hW).1.2 | exact (hW).1.2.1 | exact (hW).1.2.2.1 | exact (hW).1.2.2.2.1 | exact (hW).1.2.2.2 | exact (hW).2 | exact (hW).2.1 | exact (hW).2.1.1 | exact (hW).2.1.2 | exact (hW).2.1.2.1 | exact (hW).2.1.2.2.1 | exact (hW).2.1.2.2.2.1 | exact (hW).2.1.2.2.2 | exact (hW).2.2 | exact (hW).2.2.1 | exact (hW).2.2.1.1 | exact (hW).2.2.1.2 | exact (hW).2.2.1.2.1 | exact (hW).2.2.1.2.2.1 | exact (hW).2.2.1.2.2.2.1 | exact (hW).2.2.1.2.2.2 | exact (hW).2.2.2 | exact (hW).2.2.2.1 | exact (hW).2.2.2.1.1 | exact (hW).2.2.2.1.2 | exact (hW).2.2.2.1.2.1 | exact (hW).2.2.2.1.2.2.1 | exact (hW).2.2.2.1.2.2.2.1 | exact (hW).2.2.2.1.2.2.2 | exact (hW).2.2.2.2 | exact (hW).2.2.2.2.1 | exact (hW).2.2.2.2.1.1 | exact (hW).2.2.2.2.1.2 | exact (hW).2.2.2.2.1.2.1 | exact (hW).2.2.2.2.1.2.2.1 | exact (hW).2.2.2.2.1.2.2.2.1 | exact (hW).2.2.2.2.1.2.2.2 | exact (hW).2.2.2.2.2 | exact (hW).2.2.2.2.2.1 | exact (hW).2.2.2.2.2.1.1 | exact (hW).2.2.2.2.2.1.2 | exact (hW).2.2.2.2.2.1.2.1 | exact (hW).2.2.2.2.2.1.2.2.1 | exact (hW).2.2.2.2.2.1.2.2.2.1 | exact (hW).2.2.2.2.2.1.2.2.2 | exact (hW).2.2.2.2.2.2 | exact (hW).2.2.2.2.2.2.1 | exact (hW).2.2.2.2.2.2.1.1 | exact (hW).2.2.2.2.2.2.1.2 | exact (hW).2.2.2.2.2.2.1.2.1 | exact (hW).2.2.2.2.2.2.1.2.2.1 | exact (hW).2.2.2.2.2.2.1.2.2.2.1 | exact (hW).2.2.2.2.2.2.1.2.2.2 | exact (hW).2.2.2.2.2.2.2 | exact (hW).2.2.2.2.2.2.2.1 | exact (hW).2.2.2.2.2.2.2.1.1 | exact (hW).2.2.2.2.2.2.2.1.2 | exact (hW).2.2.2.2.2.2.2.1.2.1 | exact (hW).2.2.2.2.2.2.2.1.2.2.1 | exact (hW).2.2.2.2.2.2.2.1.2.2.2.1 | exact (hW).2.2.2.2.2.2.2.1.2.2.2 | exact (hW).2.2.2.2.2.2.2.2 | exact (hW).2.2.2.2.2.2.2.2.1 | exact (hW).2.2.2.2.2.2.2.2.1.1 | exact (hW).2.2.2.2.2.2.2.2.1.2 | exact (hW).2.2.2.2.2.2.2.2.1.2.1 | exact (hW).2.2.2.2.2.2.2.2.1.2.2.1 | exact (hW).2.2.2.2.2.2.2.2.1.2.2.2.1 | exact (hW).2.2.2.2.2.2.2.2.1.2.2.2 | exact (hW).2.2.2.2.2.2.2.2.2)⟩) ?_
        simp
    · have hj2 : i = zs.length := by omega
      have hilI : ¬ (i : Int) < (zs.length : Nat) := by omega
      simp (maxSteps := 2000000) -implicitDefEqProofs [hN, hilI, e6]
      refine next (b + 1) _ _ (by omega) (fun W hW => ⟨hlt, (by first | exact (hW) | exact (hW).1 | exact (hW).1.1 | exact (hW).1.2 | exact (hW).1.2.1 | exact (hW).1.2.2.1 | exact (hW).1.2.2.2.1 | exact (hW).1.2.2.2 | exact (hW).2 | exact (hW).2.1 | exact (hW).2.1.1 | exact (hW).2.1.2 | exact (hW).2.1.2.1 | exact (hW).2.1.2.2.1 | exact (hW).2.1.2.2.2.1 | exact (hW).2.1.2.2.2 | exact (hW).2.2 | exact (hW).2.2.1 | exact (hW).2.2.1.1 | exact (hW).2.2.1.2 | exact (hW).2.2.1.2.1 | exact (hW).2.2.1.2.2.1 | exact (hW).2.2.1.2.2.2.1 | exact (hW).2.2.1.2.2.2 | exact (hW).2.2.2 | exact (hW).2.2.2.1 | exact (hW).2.2.2.1.1 | exact (hW).2.2.2.1.2 | exact (hW).2.2.2.1.2.1 | exact (hW).2.2.2.1.2.2.1 | exact (hW).2.2.2.1.2.2.2.1 | exact (hW).2.2.2.1.2.2.2 | exact (hW).2.2.2.2 | exact (hW).2.2.2.2.1 | exact (hW).2.2.2.2.1.1 | exact (hW).2.2.2.2.1.2 | exact (hW).2.2.2.2.1.2.1 | exact (hW).2.2.2.2.1.2.2.1 | exact (hW).2.2.2.2.1.2.2.2.1 | exact (hW).2.2.2.2.1.2.2.2 | exact (hW).2.2.2.2.2 | exact (hW).2.2.2.2.2.1 | exact (hW).2.2.2.2.2.1.1 | exact (hW).2.2.2.2.2.1.2 | exact (hW).2.2.2.2.2.1.2.1 | exact (hW).2.2.2.2.2.1.2.2.1 | exact (hW).2.2.2.2.2.1.2.2.2.1 | exact (hW).2.2.2.2.2.1.2.2.2 | exact (hW).2.2.2.2.2.2 | exact (hW).2.2.2.2.2.2.1 | exact (hW).2.2.2.2.2.2.1.1 | exact (hW).2.2.2.2.2.2.1.2 | exact (hW).2.2.2.2.2.2.1.2.1 | exact (hW).2.2.2.2.2.2.1.2.2.1 | exact (hW).2.2.2.2.2.2.1.2.2.2.1 | exact (hW).2.2.2.2.2.2.1.2.2.2 | exact (hW).2.2.2.2.2.2.2 | exact (hW).2.2.2.2.2.2.2.1 | exact (hW).2.2.2.2.2.2.2.1.1 | exact (hW).2.2.2.2.2.2.2.1.2 | exact (hW).2.2.2.2.2.2.2.1.2.1 | exact (hW).2.2.2.2.2.2.2.1.2.2.1 | exact (hW).2.2.2.2.2.2.2.1.2.2.2.1 | exact (hW).2.2.2.2.2.2.2.1.2.2.2 | exact (hW).2.2.2.2.2.2.2.2 | exact (hW).2.2.2.2.2.2.2.2.1 | exact (hW).2.2.2.2.2.2.2.2.1.1 | exact (hW).2.2.2.2.2.2.2.2.1.2 | exact (hW).2.2.2.2.2.2.2.2.1.2.1 | exact (hW).2.2.2.2.2.2.2.2.1.2.2.1 | exact (hW).2.2.2.2.2.2.2.2.1.2.2.2.1 | exact (hW).2.2.2.2.2.2.2.2.1.2.2.2 | exact (hW).2.2.2.2.2.2.2.2.2)⟩) ?_
      simp
  · have hb12 : b = 12 := by omega
    subst hb12
    rw [hbel]
    simp (maxSteps := 2000000) -implicitDefEqProofs [hN]
    refine loopK [2, 3, 4, 5] ok (fun i : Nat => [(14, .c (.v (.int .i64 (i : Nat)))), (6, .c (.v (.int .i64 ((allW (s.inos.take i)).length : Nat))))]) (fun _ => [(4, .box g4 47 ((staC s (ia, ic) (ba, bc)).map .v))]) (fun i W => i ≤ s.inos.length) (fun i => s.inos.length - i) 0 ?_ ?_ (fun W hW => Nat.zero_le _) ?_
    · simp [allW]
    · simp
    rintro i W hi hG next2
    rcases Nat.lt_or_ge i s.inos.length with hil | hig
    · have f6 : IntKind.i64.wrap ((i : Int) + 1) = (i + 1 : Nat) := by rw [w64 (by omega) (by omega)]; omega
      have hilI : (i : Int) < (s.inos.length : Nat) := by omega
      have hsv : ∀ W, StaR W s (ia, ic) (ba, bc) → Sv.ok dIno W (ia, s.inos.length, ic) s.inos := fun W hW => ⟨rfl, hW.1⟩
      obtain ⟨b, o, e, _⟩ := ino_no (hsv W (by first | exact (hG) | exact (hG).1 | exact (hG).1.1 | exact (hG).1.2 | exact (hG).1.2.1 | exact (hG).1.2.2.1 | exact (hG).1.2.2.2.1 | exact (hG).1.2.2.2 | exact (hG).2 | exact (hG).2.1 | exact (hG).2.1.1 | exact (hG).2.1.2 | exact (hG).2.1.2.1 | exact (hG).2.1.2.2.1 | exact (hG).2.1.2.2.2.1 | exact (hG).2.1.2.2.2 | exact (hG).2.2 | exact (hG).2.2.1 | exact (hG).2.2.1.1 | exact (hG).2.2.1.2 | exact (hG).2.2.1.2.1 | exact (hG).2.2.1.2.2.1 | exact (hG).2.2.1.2.2.2.1 | exact (hG).2.2.1.2.2.2 | exact (hG).2.2.2 | exact (hG).2.2.2.1 | exact (hG).2.2.2.1.1 | exact (hG).2.2.2.1.2 | exact (hG).2.2.2.1.2.1 | exact (hG).2.2.2.1.2.2.1 | exact (hG).2.2.2.1.2.2.2.1 | exact (hG).2.2.2.1.2.2.2 | exact (hG).2.2.2.2 | exact (hG).2.2.2.2.1 | exact (hG).2.2.2.2.1.1 | exact (hG).2.2.2.2.1.2 | exact (hG).2.2.2.2.1.2.1 | exact (hG).2.2.2.2.1.2.2.1 | exact (hG).2.2.2.2.1.2.2.2.1 | exact (hG).2.2.2.2.1.2.2.2 | exact (hG).2.2.2.2.2 | exact (hG).2.2.2.2.2.1 | exact (hG).2.2.2.2.2.1.1 | exact (hG).2.2.2.2.2.1.2 | exact (hG).2.2.2.2.2.1.2.1 | exact (hG).2.2.2.2.2.1.2.2.1 | exact (hG).2.2.2.2.2.1.2.2.2.1 | exact (hG).2.2.2.2.2.1.2.2.2 | exact (hG).2.2.2.2.2.2 | exact (hG).2.2.2.2.2.2.1 | exact (hG).2.2.2.2.2.2.1.1 | exact (hG).2.2.2.2.2.2.1.2 | exact (hG).2.2.2.2.2.2.1.2.1 | exact (hG).2.2.2.2.2.2.1.2.2.1 | exact (hG).2.2.2.2.2.2.1.2.2.2.1 | exact (hG).2.2.2.2.2.2.1.2.2.2 | exact (hG).2.2.2.2.2.2.2 | exact (hG).2.2.2.2.2.2.2.1 | exact (hG).2.2.2.2.2.2.2.1.1 | exact (hG).2.2.2.2.2.2.2.1.2 | exact (hG).2.2.2.2.2.2.2.1.2.1 | exact (hG).2.2.2.2.2.2.2.1.2.2.1 | exact (hG).2.2.2.2.2.2.2.1.2.2.2.1 | exact (hG).2.2.2.2.2.2.2.1.2.2.2 | exact (hG).2.2.2.2.2.2.2.2 | exact (hG).2.2.2.2.2.2.2.2.1 | exact (hG).2.2.2.2.2.2.2.2.1.1 | exact (hG).2.2.2.2.2.2.2.2.1.2 | exact (hG).2.2.2.2.2.2.2.2.1.2.1 | exact (hG).2.2.2.2.2.2.2.2.1.2.2.1 | exact (hG).2.2.2.2.2.2.2.2.1.2.2.2.1 | exact (hG).2.2.2.2.2.2.2.2.1.2.2.2 | exact (hG).2.2.2.2.2.2.2.2.2)) hil
      cases e
      have ft : s.inos.take (i + 1) = s.inos.take i ++ [s.inos[i]] := by rw [List.take_add_one, List.getElem?_eq_getElem hil]; rfl
      have get : ∀ W, StaR W s (some ⟨b, o, none⟩, ic) (ba, bc) → ∃ v, W.cell? ⟨b, o + i * 7 + 6, none⟩ = some v ∧ slQ dRn s.inos[i].runs v W := fun W hW => by
        obtain ⟨cs, hk, _, hc⟩ := (hsv W hW).2.2.2.get hil
        obtain ⟨⟨ea, ec⟩, ⟨ra, rc⟩, rfl, hR⟩ := hk
        exact ⟨_, hc 6 _ rfl, (ra, rc), rfl, hR.2⟩
      have hle := allW_take s.inos (i + 1)
      have hsn := allW_snoc (s.inos.take i) s.inos[i]
      rw [← ft] at hsn
      generalize s.inos[i] = d at ft get hsn
      simp (maxSteps := 2000000) -implicitDefEqProofs [hN, hil, hilI]
      refine load1 ok rfl rfl rfl rfl (slQ dRn d.runs) (fun W hW => get W (by first | exact (hW) | exact (hW).1 | exact (hW).1.1 | exact (hW).1.2 | exact (hW).1.2.1 | exact (hW).1.2.2.1 | exact (hW).1.2.2.2.1 | exact (hW).1.2.2.2 | exact (hW).2 | exact (hW).2.1 | exact (hW).2.1.1 | exact (hW).2.1.2 | exact (hW).2.1.2.1 | exact (hW).2.1.2.2.1 | exact (hW).2.1.2.2.2.1 | exact (hW).2.1.2.2.2 | exact (hW).2.2 | exact (hW).2.2.1 | exact (hW).2.2.1.1 | exact (hW).2.2.1.2 | exact (hW).2.2.1.2.1 | exact (hW).2.2.1.2.2.1 | exact (hW).2.2.1.2.2.2.1 | exact (hW).2.2.1.2.2.2 | exact (hW).2.2.2 | exact (hW).2.2.2.1 | exact (hW).2.2.2.1.1 | exact (hW).2.2.2.1.2 | exact (hW).2.2.2.1.2.1 | exact (hW).2.2.2.1.2.2.1 | exact (hW).2.2.2.1.2.2.2.1 | exact (hW).2.2.2.1.2.2.2 | exact (hW).2.2.2.2 | exact (hW).2.2.2.2.1 | exact (hW).2.2.2.2.1.1 | exact (hW).2.2.2.2.1.2 | exact (hW).2.2.2.2.1.2.1 | exact (hW).2.2.2.2.1.2.2.1 | exact (hW).2.2.2.2.1.2.2.2.1 | exact (hW).2.2.2.2.1.2.2.2 | exact (hW).2.2.2.2.2 | exact (hW).2.2.2.2.2.1 | exact (hW).2.2.2.2.2.1.1 | exact (hW).2.2.2.2.2.1.2 | exact (hW).2.2.2.2.2.1.2.1 | exact (hW).2.2.2.2.2.1.2.2.1 | exact (hW).2.2.2.2.2.1.2.2.2.1 | exact (hW).2.2.2.2.2.1.2.2.2 | exact (hW).2.2.2.2.2.2 | exact (hW).2.2.2.2.2.2.1 | exact (hW).2.2.2.2.2.2.1.1 | exact (hW).2.2.2.2.2.2.1.2 | exact (hW).2.2.2.2.2.2.1.2.1 | exact (hW).2.2.2.2.2.2.1.2.2.1 | exact (hW).2.2.2.2.2.2.1.2.2.2.1 | exact (hW).2.2.2.2.2.2.1.2.2.2 | exact (hW).2.2.2.2.2.2.2 | exact (hW).2.2.2.2.2.2.2.1 | exact (hW).2.2.2.2.2.2.2.1.1 | exact (hW).2.2.2.2.2.2.2.1.2 | exact (hW).2.2.2.2.2.2.2.1.2.1 | exact (hW).2.2.2.2.2.2.2.1.2.2.1 | exact (hW).2.2.2.2.2.2.2.1.2.2.2.1 | exact (hW).2.2.2.2.2.2.2.1.2.2.2 | exact (hW).2.2.2.2.2.2.2.2 | exact (hW).2.2.2.2.2.2.2.2.1 | exact (hW).2.2.2.2.2.2.2.2.1.1 | exact (hW).2.2.2.2.2.2.2.2.1.2 | exact (hW).2.2.2.2.2.2.2.2.1.2.1 | exact (hW).2.2.2.2.2.2.2.2.1.2.2.1 | exact (hW).2.2.2.2.2.2.2.2.1.2.2.2.1 | exact (hW).2.2.2.2.2.2.2.2.1.2.2.2 | exact (hW).2.2.2.2.2.2.2.2.2)) ?_
      rintro v W ⟨⟨ra, rc⟩, rfl, _⟩ _
      simp (maxSteps := 2000000) -implicitDefEqProofs [hN]
      refine call0 ok rfl rfl rfl (fun w I hI hG => pagesOf0 w I hI d.runs (fun W e => ⟨rfl, (slQ.get (hG W e).1).2⟩)) fun z W hz => ?_
      obtain ⟨⟨za, zc⟩, z⟩ := z
      obtain ⟨hz1, hz2⟩ := hz
      simp only at hz2
      rw [← hz2] at hsn
      have hsl : (allW (s.inos.take (i + 1))).length = (allW (s.inos.take i)).length + z.length := by rw [hsn, List.length_append]
      have e9 : IntKind.i64.wrap (((allW (s.inos.take i)).length : Int) + (z.length : Nat)) = ((allW (s.inos.take (i + 1))).length : Nat) := by rw [w64 (by omega) (by omega)]; omega
      simp (maxSteps := 2000000) -implicitDefEqProofs [hN, e9, f6]
      refine next2 (i + 1) _ _ (by omega) (fun W hW => ⟨hil, (by first | exact (hW) | exact (hW).1 | exact (hW).1.1 | exact (hW).1.2 | exact (hW).1.2.1 | exact (hW).1.2.2.1 | exact (hW).1.2.2.2.1 | exact (hW).1.2.2.2 | exact (hW).2 | exact (hW).2.1 | exact (hW).2.1.1 | exact (hW).2.1.2 | exact (hW).2.1.2.1 | exact (hW).2.1.2.2.1 | exact (hW).2.1.2.2.2.1 | exact (hW).2.1.2.2.2 | exact (hW).2.2 | exact (hW).2.2.1 | exact (hW).2.2.1.1 | exact (hW).2.2.1.2 | exact (hW).2.2.1.2.1 | exact (hW).2.2.1.2.2.1 | exact (hW).2.2.1.2.2.2.1 | exact (hW).2.2.1.2.2.2 | exact (hW).2.2.2 | exact (hW).2.2.2.1 | exact (hW).2.2.2.1.1 | exact (hW).2.2.2.1.2 | exact (hW).2.2.2.1.2.1 | exact (hW).2.2.2.1.2.2.1 | exact (hW).2.2.2.1.2.2.2.1 | exact (hW).2.2.2.1.2.2.2 | exact (hW).2.2.2.2 | exact (hW).2.2.2.2.1 | exact (hW).2.2.2.2.1.1 | exact (hW).2.2.2.2.1.2 | exact (hW).2.2.2.2.1.2.1 | exact (hW).2.2.2.2.1.2.2.1 | exact (hW).2.2.2.2.1.2.2.2.1 | exact (hW).2.2.2.2.1.2.2.2 | exact (hW).2.2.2.2.2 | exact (hW).2.2.2.2.2.1 | exact (hW).2.2.2.2.2.1.1 | exact (hW).2.2.2.2.2.1.2 | exact (hW).2.2.2.2.2.1.2.1 | exact (hW).2.2.2.2.2.1.2.2.1 | exact (hW).2.2.2.2.2.1.2.2.2.1 | exact (hW).2.2.2.2.2.1.2.2.2 | exact (hW).2.2.2.2.2.2 | exact (hW).2.2.2.2.2.2.1 | exact (hW).2.2.2.2.2.2.1.1 | exact (hW).2.2.2.2.2.2.1.2 | exact (hW).2.2.2.2.2.2.1.2.1 | exact (hW).2.2.2.2.2.2.1.2.2.1 | exact (hW).2.2.2.2.2.2.1.2.2.2.1 | exact (hW).2.2.2.2.2.2.1.2.2.2 | exact (hW).2.2.2.2.2.2.2 | exact (hW).2.2.2.2.2.2.2.1 | exact (hW).2.2.2.2.2.2.2.1.1 | exact (hW).2.2.2.2.2.2.2.1.2 | exact (hW).2.2.2.2.2.2.2.1.2.1 | exact (hW).2.2.2.2.2.2.2.1.2.2.1 | exact (hW).2.2.2.2.2.2.2.1.2.2.2.1 | exact (hW).2.2.2.2.2.2.2.1.2.2.2 | exact (hW).2.2.2.2.2.2.2.2 | exact (hW).2.2.2.2.2.2.2.2.1 | exact (hW).2.2.2.2.2.2.2.2.1.1 | exact (hW).2.2.2.2.2.2.2.2.1.2 | exact (hW).2.2.2.2.2.2.2.2.1.2.1 | exact (hW).2.2.2.2.2.2.2.2.1.2.2.1 | exact (hW).2.2.2.2.2.2.2.2.1.2.2.2.1 | exact (hW).2.2.2.2.2.2.2.2.1.2.2.2 | exact (hW).2.2.2.2.2.2.2.2.2)⟩) ?_
      simp
    · have e : s.inos.take i = s.inos := List.take_of_length_le hig
      have hilI : ¬ (i : Int) < (s.inos.length : Nat) := by omega
      rw [e]
      simp (maxSteps := 2000000) -implicitDefEqProofs [hN, hilI]
      refine call0 ok rfl rfl rfl (fun w I hI hG => awake18 w I hI) fun _ W _ => ?_
      simp (maxSteps := 2000000) -implicitDefEqProofs [hN]
      exact ret0 hC true rfl fun _ _ _ => rfl
end Go.Proofs.Ytbbaoeidobdblaa.Sx

/- What the rows share: structs of ints that came in, opened; contracts, as a row wants them. -/
set_option linter.unusedVariables false
set_option linter.unusedSimpArgs false
namespace Go.Proofs.Ytbbaoeidobdblaa.Rowl
open Go.ChangeShapes Go.WideShapes Go.ChangeAt Go.RowKit Go.Joins Go.Deep
section
variable {H : Type} {enc : TypeId × Value → H} {P : Program} {w : World} {base : Nat} {spare : Nat → Bool} {held : Bool}
end
theorem row_calls {P : Program} {f : FuncId} {args : Array Value} {w : World} {I : Nat → Prop} (h : Sx.Fn0 P f args w I (fun b : Bool => .bool b) (fun y _ => y = true)) : Calls P f args w fun e w' => e = .returned (.bool true) ∧ w.grownBy w' none :=
  Calls.mono h.2 (by
    rintro e w' ⟨x, S', rfl, hg, _, _, hR⟩
    have := hR w' (Sx.Ext.refl _ _)
    simp only at this
    subst this
    exact ⟨rfl, ⟨hg.os, hg.tape, hg.output, hg.size, fun k hk _ => hg.block k ⟨hk, fun h => h⟩⟩⟩)
end Go.Proofs.Ytbbaoeidobdblaa.Rowl

/- What comes in, read (without the journal's texts): numbers, texts, bytes, slices of such, entries, runs, inodes, deeds (their bulk is bounded). -/
set_option linter.unusedVariables false
set_option linter.unusedSimpArgs false
namespace Go.Proofs.Ytbbaoeidobdblaa.Sx
open Go
def sumN (l : List Nat) : Nat := l.foldr (· + ·) 0
@[simp] theorem sumN_nil : sumN [] = 0 := rfl
@[simp] theorem sumN_cons (x : Nat) (l : List Nat) : sumN (x :: l) = x + sumN l := rfl
theorem cell_keep {w W : World} (h : Ext (fun b => b < w.heap.size) w W) {a : Addr} {v : Value} (hc : w.cell? a = some v) : W.cell? a = some v := by
  have hb : a.block < w.heap.size := by
    rcases Nat.lt_or_ge a.block w.heap.size with hb | hb
    · exact hb
    · simp only [World.cell?, Array.getElem?_eq_none hb] at hc
      simp at hc
  rw [h.cell hb, hc]
def Keeps {α : Type} (d : Dt α) : Prop := ∀ {w W : World} {x : α} {cs : List Value}, Ext (fun b => b < w.heap.size) w W → d.K w x cs → d.K W x cs
theorem rd_keep {α : Type} {d : Dt α} (hd : Keeps d) {w W : World} (h : Ext (fun b => b < w.heap.size) w W) {a : Option Addr} {xs : List α} (hr : Rd d w a xs) : Rd d W a xs := fun hne => by
  obtain ⟨b, o, e, hc⟩ := hr hne
  exact ⟨b, o, e, fun i x hx => by
    obtain ⟨cs, k1, k2⟩ := hc i x hx
    exact ⟨cs, hd h k1, fun j v hv => cell_keep h (k2 j v hv)⟩⟩
theorem sl_keep {α : Type} {d : Dt α} (hd : Keeps d) {w W : World} (h : Ext (fun b => b < w.heap.size) w W) {s : Sl} {xs : List α} (hr : Sl.ok d w s xs) : Sl.ok d W s xs := ⟨hr.1, hr.2.1, rd_keep hd h hr.2.2⟩
end Go.Proofs.Ytbbaoeidobdblaa.Sx
namespace Go.Proofs.Ytbbaoeidobdblaa.Rdk
open Go Go.Proofs.Ytbbaoeidobdblaa.Sx
theorem one_le {H : Type} (d : DataW H) : 1 ≤ Rows.uptoBulk d := by
  cases d with
  | lit l => cases l <;> simp [Rows.uptoBulk]
  | nil => simp [Rows.uptoBulk]
  | ptr d => simp [Rows.uptoBulk]
  | slice elems spare => simp [Rows.uptoBulk]
  | agg parts => simp [Rows.uptoBulk]
  | iface t d => simp [Rows.uptoBulk]
  | map entries => simp [Rows.uptoBulk]
  | held h => simp [Rows.uptoBulk]
theorem part_le {H : Type} {l : List (DataW H)} {i : Nat} {d : DataW H} (h : l[i]? = some d) : Rows.uptoBulk d ≤ Rows.uptoBulkAll l := by
  induction l generalizing i with
  | nil => simp at h
  | cons x r ih =>
    simp only [Rows.uptoBulkAll]
    cases i with
    | zero => simp at h; subst h; omega
    | succ i => have := ih (by simpa using h); omega
/-- Two parts of a whole. -/
theorem part_two {H : Type} {l : List (DataW H)} {i j : Nat} {d e : DataW H} (hij : i < j) (h : l[i]? = some d) (k : l[j]? = some e) : Rows.uptoBulk d + Rows.uptoBulk e ≤ Rows.uptoBulkAll l := by
  induction l generalizing i j with
  | nil => simp at h
  | cons x r ih =>
    obtain ⟨j, rfl⟩ : ∃ q, j = q + 1 := ⟨j - 1, by omega⟩
    simp only [Rows.uptoBulkAll]
    cases i with
    | zero =>
      simp at h
      subst h
      have := part_le (l := r) (i := j) (by simpa using k)
      omega
    | succ i => have := ih (i := i) (j := j) (by omega) (by simpa using h) (by simpa using k); omega
/-- A kind of things can be read off cells of a type. -/
structure RdT (P : Program) (w : World) {α : Type} (t : TypeId) (d : Dt α) (fit : α → Prop) (sz : α → Nat) : Prop where
  get : ∀ {H : Type} {enc : TypeId × Value → H} {base : Nat} {spare : Nat → Bool} {held : Bool} {n : Nat} {cs : List Value} {y : DataW H × List MemPlace}, DataW.trod enc P w base spare held n t cs = some y → Rows.uptoBulk y.1 ≤ 1048576 → ∃ x, d.K w x cs ∧ fit x ∧ sz x ≤ Rows.uptoBulk y.1
theorem fold_parts {α : Type} {H : Type} (Q : Nat → α → Prop) (sz : α → Nat) : ∀ (elems : List (DataW H × List MemPlace)) (i0 : Nat), (∀ k y, elems[k]? = some y → ∃ x, Q (i0 + k) x ∧ sz x ≤ Rows.uptoBulk y.1) → ∃ xs : List α, xs.length = elems.length ∧ (∀ k x, xs[k]? = some x → Q (i0 + k) x) ∧ sumN (xs.map sz) ≤ Rows.uptoBulkAll (elems.map (·.1))
  | [], i0, _ => ⟨[], rfl, fun k x h => by simp at h, Nat.le_refl _⟩
  | y :: r, i0, h => by
    obtain ⟨x, h1, h2⟩ := h 0 y rfl
    obtain ⟨xs, h3, h4, h5⟩ := fold_parts Q sz r (i0 + 1) fun k z hz => by
      have := h (k + 1) z (by simpa using hz)
      rw [show i0 + 1 + k = i0 + (k + 1) by omega]
      exact this
    refine ⟨x :: xs, by simp [h3], fun k z hz => ?_, ?_⟩
    · cases k with
      | zero => simp at hz; subst hz; exact h1
      | succ k =>
        have := h4 k z (by simpa using hz)
        rw [show i0 + (k + 1) = i0 + 1 + k by omega]
        exact this
    · simp only [List.map_cons, sumN_cons, Rows.uptoBulkAll]
      omega
theorem len_bulk {H : Type} (l : List (DataW H)) : l.length ≤ Rows.uptoBulkAll l := by
  induction l with
  | nil => simp [Rows.uptoBulkAll]
  | cons x r ih => have := one_le x; simp only [Rows.uptoBulkAll, List.length_cons]; omega
/-- A slice is read. -/
theorem rdSlice {P : Program} {w : World} {α : Type} {t e : TypeId} {d : Dt α} {fit : α → Prop} {sz : α → Nat} (R : RdT P w e d fit sz) (ht : P.underlying t = some (.slice e)) (hc : P.cellsOf e = d.sz) (h0 : 0 < d.sz)
    {H : Type} {enc : TypeId × Value → H} {base : Nat} {spare : Nat → Bool} {held : Bool} {n : Nat} {cs : List Value} {y : DataW H × List MemPlace} (h : DataW.trod enc P w base spare held n t cs = some y) (hb : Rows.uptoBulk y.1 ≤ 1048576) :
    ∃ (s : Sl) (xs : List α), cs = [.slice s.1 xs.length s.2] ∧ Sl.ok d w s xs ∧ (∀ x ∈ xs, fit x) ∧ sumN (xs.map sz) + 1 ≤ Rows.uptoBulk y.1 ∧ xs.length + 1 ≤ Rows.uptoBulk y.1 := by
  rcases DataW.trod_slice ht h with ⟨rfl, rfl⟩ | ⟨a, len, cap, elems, rest, m, rfl, rfl, rfl, h1, h2, h3, h4, h5, _, _⟩
  · exact ⟨(none, 0), [], rfl, ⟨Nat.le_refl _, Nat.zero_le _, rd_nil _ _ _⟩, fun x hx => absurd hx List.not_mem_nil, by simp [Rows.uptoBulk], by simp [Rows.uptoBulk]⟩
  · simp only [Rows.uptoBulk] at hb ⊢
    have hp : ∀ k y, elems[k]? = some y → ∃ x, (fun i x => fit x ∧ ∃ cs, d.K w x cs ∧ ∀ j, j < d.sz → w.cell? ((a.add (i * d.sz)).add j) = cs[j]?) (0 + k) x ∧ sz x ≤ Rows.uptoBulk y.1 := fun k y hy => by
      have hk : k < len := by rw [← h4]; exact (List.getElem?_eq_some_iff.1 hy).1
      have h6 := h5 k hk
      rw [hy, Option.bind_eq_some_iff] at h6
      obtain ⟨cs, h7, h8⟩ := h6
      have hyb : Rows.uptoBulk y.1 ≤ Rows.uptoBulkAll (elems.map (·.1)) := part_le (i := k) (by simp [hy])
      obtain ⟨x, k1, k2, k3⟩ := R.get h8 (by omega)
      obtain ⟨_, c1, c2⟩ := World.cells?_some h7
      rw [hc] at c2
      exact ⟨x, ⟨k2, cs, k1, by rw [Nat.zero_add]; exact c2⟩, k3⟩
    obtain ⟨xs, l1, l2, l3⟩ := fold_parts (fun i x => fit x ∧ ∃ cs, d.K w x cs ∧ ∀ j, j < d.sz → w.cell? ((a.add (i * d.sz)).add j) = cs[j]?) sz elems 0 hp
    have hlen := len_bulk (elems.map (·.1))
    rw [List.length_map] at hlen
    have hxl : xs.length = len := by rw [l1, h4]
    refine ⟨(some a, cap), xs, by rw [hxl], ⟨by simp only; omega, by omega, fun hne => ?_⟩, fun x hx => ?_, by omega, by omega⟩
    · have hpos : 0 < xs.length := List.length_pos_iff.2 hne
      obtain ⟨_, cs, k1, k2⟩ := l2 0 xs[0] (List.getElem?_eq_getElem hpos)
      have hcl := d.len k1
      have hsp : a.spot = none := by
        have := World.cell?_spot (k2 0 h0 |>.trans (List.getElem?_eq_getElem (by omega)))
        simpa [Addr.add] using this
      obtain ⟨b, o, sp⟩ := a
      simp only at hsp
      subst hsp
      refine ⟨b, o, rfl, fun i x hx => ?_⟩
      obtain ⟨_, cs, k1, k2⟩ := l2 i x hx
      refine ⟨cs, k1, fun j v hv => ?_⟩
      have hj : j < d.sz := by rw [← d.len k1]; exact (List.getElem?_eq_some_iff.1 hv).1
      have := k2 j hj
      rw [addr_add, addr_add, Nat.zero_add] at this
      rw [this, hv]
    · obtain ⟨i, hi⟩ := List.mem_iff_getElem?.1 hx
      exact (l2 i x hi).1
/-- The parts of a struct, one by one. -/
theorem rdStruct {P : Program} {w : World} {t : TypeId} {fs : Array Field} (ht : P.underlying t = some (.struct fs)) {H : Type} {enc : TypeId × Value → H} {base : Nat} {spare : Nat → Bool} {held : Bool} {n : Nat} {cs : List Value} {y : DataW H × List MemPlace} (h : DataW.trod enc P w base spare held n t cs = some y) :
    ∃ (l : List (DataW H × List MemPlace)) (m : Nat), Rows.uptoBulk y.1 = Rows.uptoBulkAll (l.map (·.1)) + 1 ∧ cs.length = P.cellsOf t ∧ ∀ (i : Nat) (f : Field), fs.toList[i]? = some f → ∃ z, l[i]? = some z ∧ DataW.trod enc P w base spare held m f.type ((cs.drop f.offset).take (P.cellsOf f.type)) = some z := by
  obtain ⟨xs, m, rfl, rfl, h1, h2, h3⟩ := DataW.trod_struct ht h
  refine ⟨xs, m, by simp [Rows.uptoBulk], h1, fun i f hf => ?_⟩
  rw [Array.getElem?_toList] at hf
  have h4 := h3 i f hf
  have hi : i < xs.length := by rw [h2]; exact (Array.getElem?_eq_some_iff.1 hf).1
  exact ⟨xs[i], List.getElem?_eq_getElem hi, by rw [h4]; exact List.getElem?_eq_getElem hi⟩
theorem cellInt : Try.prog.cellsOf 3 = 1 := by kernel_rfl
theorem cellStr : Try.prog.cellsOf 9 = 1 := by kernel_rfl
theorem len4g {l : List Value} (h : l.length = 4) : ∃ a b c d, l = [a, b, c, d] := by
  match l, h with
  | [a, b, c, d], _ => exact ⟨a, b, c, d, rfl⟩
theorem cellOpg : Try.prog.cellsOf 100 = 4 := by kernel_rfl
def szOg (x : Opg) : Nat := x.path.size + x.other.size
theorem rdOpg (w : World) : RdT Try.prog w 100 dOpg (fun _ => True) szOg := ⟨fun {H enc base spare held n cs y} h hb => by
  obtain ⟨l, m, hB, hl, hp⟩ := rdStruct Try.underlying100 h
  obtain ⟨z0, e0, t0⟩ := hp 0 _ rfl
  obtain ⟨z1, e1, t1⟩ := hp 1 _ rfl
  obtain ⟨z2, e2, t2⟩ := hp 2 _ rfl
  obtain ⟨z3, e3, t3⟩ := hp 3 _ rfl
  simp only [cellInt, cellStr] at t0 t1 t2 t3
  obtain ⟨v0, c0, rfl, h0⟩ := DataW.trod_int Try.underlying3 t0
  obtain ⟨s1, c1, rfl, _⟩ := DataW.trod_string Try.underlying9 t1
  obtain ⟨s2, c2, rfl, _⟩ := DataW.trod_string Try.underlying9 t2
  obtain ⟨v3, c3, rfl, h3⟩ := DataW.trod_int Try.underlying3 t3
  have g1 : (l.map (·.1))[1]? = some (.lit (.string s1.data.toList)) := by rw [List.getElem?_map, e1]; rfl
  have g2 : (l.map (·.1))[2]? = some (.lit (.string s2.data.toList)) := by rw [List.getElem?_map, e2]; rfl
  have hbb := part_two (by omega) g1 g2
  have hs1 : s1.data.toList.length = s1.size := by simp
  have hs2 : s2.data.toList.length = s2.size := by simp
  simp only [Rows.uptoBulk] at hbb
  rw [cellOpg] at hl
  obtain ⟨a0, a1, a2, a3, rfl⟩ := len4g hl
  focus
    simp at c0 c1 c2 c3
    subst c0 c1 c2 c3
    exact ⟨⟨v0, s1, s2, v3⟩, rfl, trivial, by simp only [szOg]; omega⟩⟩
theorem opsz_raw : ∀ (l : List Opg), opsz l = sumN (l.map szOg)
  | [] => rfl
  | x :: r => by
    have := opsz_raw r
    unfold opsz at this ⊢
    simp only [List.map_cons, List.sum_cons, sumN_cons, szOg]
    omega
end Go.Proofs.Ytbbaoeidobdblaa.Rdk

/- BlocksAll: live pages of all blocks are all pages of all runs, each once, by whose they are (what comes in is of bulk 1048576 at most). -/
set_option linter.unusedVariables false
set_option linter.unusedSimpArgs false
namespace Go.Proofs.Ytbbaoeidobdblaa.blocksAll
open Go.ChangeShapes Go.WideShapes Go.ChangeAt Go.RowKit Go.Deep Go.Proofs.Ytbbaoeidobdblaa.Rowl
theorem own : ownKnob Try.prog.godebug = none := by kernel_rfl
theorem laidOut : laidOutB Try.prog = true := by kernel_rfl

set_option maxRecDepth 100000 in
theorem lifted (os : Os) (started : os.Started) (H : Type) (enc : TypeId × Value → H) (F : Stop.Interp) :
    ReturnsInHanded {} Try.checked os 5 .any ((Rows.OpenSpec.upto Rows.blocksAllSpec).pre6 enc Try.prog Try.f5 Rows.blocksAllUptoRow.domain false) (((Rows.OpenSpec.upto Rows.blocksAllSpec).at F).post enc Try.prog Try.f5 false true false false) := by
  refine returnsInHanded_of_cond (C := Try.checked) (s := Rows.OpenSpec.upto Rows.blocksAllSpec) (k := Rows.uptoSmall) rfl own started (by kernel_rfl) Try.func5
    (OpenSpec.witness (enc := enc) (C := Try.checked) (s := Rows.OpenSpec.upto Rows.blocksAllSpec) (k := Rows.uptoSmall) rfl false ⟨#[], #[.slice none 0 0], []⟩ 8 (by kernel_rfl) (by kernel_rfl) (by kernel_rfl)
      (x := ([.nil], [], [])) (by kernel_rfl) rfl (by kernel_rfl)) ?_
  intro W base args ds gs before hval0 hW hcnd hk0 _
  have hval : ∀ (j : Nat) t v, Try.f5.params[j]? = some t → args[j]? = some v → Value.okWide Try.prog W .any base t v := hval0
  have hW' := hW
  obtain ⟨p, q, hA0, hV, rfl, hfz, hnd⟩ := hW
  have hA : DataW.TrodAll enc Try.prog W 0 (fun _ => true) true Try.f5.params.toList args.toList ds p := hA0
  rw [Try.params5] at hA hval
  obtain ⟨v0, vs0, d0, ds0, p0, q0, hargs, rfl, rfl, h0, r0⟩ := trodAll_cons hA
  obtain ⟨rfl, rfl, rfl⟩ := trodAll_nil r0
  obtain rfl : args = #[v0] := by cases args; simp_all
  obtain ⟨rfl, rfl⟩ := trodVars_none hV
  have hk : Rows.uptoBulk d0 ≤ 1048576 := by
    have h := of_decide_eq_true hk0
    simp only [Rows.uptoBulkAll, List.append_nil] at h
    omega
  have k0 := h0
  have lt0 : ∀ x ∈ p0, x.block < W.heap.size := by obtain ⟨m, hm⟩ := k0; exact DataW.trod_lt m _ _ _ hm
  obtain ⟨b0, len0, cap0, rfl⟩ := okWide_slice Try.underlying51 (hval 0 51 v0 rfl rfl)
  obtain ⟨m0, f0⟩ := h0
  obtain ⟨s0, l0, e0, ok0, fit0, sz0, ln0⟩ := Rdk.rdSlice (Rdk.rdOpg W) Try.underlying51 (by kernel_rfl) (by decide) f0 (by simp only; omega)
  obtain ⟨rfl, rfl, rfl⟩ : b0 = s0.1 ∧ len0 = l0.length ∧ cap0 = s0.2 := by simpa [Value.cells] using e0
  simp only at sz0 ln0
  clear hA0 hval0
  refine (row_calls (Sx.blocksAllLaw0 W _ (fun _ h => h) l0 (fun W' e => ⟨rfl, Sx.sl_keep (fun _ h => h) e ok0⟩) (by rw [Rdk.opsz_raw]; omega))).mono fun e W' ⟨he, gr⟩ => ?_
  subst he
  have bel : Below W.heap.size W W' := ⟨gr.os, gr.tape, gr.output, gr.size, fun k hk => gr.block k hk (by simp)⟩
  exact ⟨_, rfl, _, _, _, [], _, [], hW', trodAll_mk1 (shut_bool Try.underlying4 _), (trodAll_cons_mk (Below.trod laidOut (by kernel_rfl) (of_decide_eq_true (by kernel_rfl)) k0 bel lt0) trodAll_mk0), rfl, bel.frame _, fun h => by cases h⟩

theorem over : Rows.blocksAllUptoRow.holds Try.pinned (Rows.OpenSpec.upto Rows.blocksAllSpec) :=
  OpenClaim.holds_of_cond 5 Try.f5 rfl rfl rfl rfl rfl rfl rfl ⟨rfl, rfl, rfl, rfl, rfl⟩ rfl rfl rfl rfl rfl (by kernel_rfl) Try.func5 (by kernel_rfl)
    (of_decide_eq_true (by kernel_rfl)) (by unfold Func.isWrapper; first | (rw [if_pos (by decide +kernel)]; kernel_rfl) | (rw [if_neg (by decide +kernel)]; exact ⟨rfl, rfl⟩))
    (fun os started H enc _ F => lifted os started H enc F)

/-- The statement. -/
theorem proved : Rows.BlocksAllUptoSaid := over
#print axioms proved
end Go.Proofs.Ytbbaoeidobdblaa.blocksAll

/- space.Sure. -/
import Derived.Test.YtfmkpkmhhlakoaaSk11
set_option linter.unusedVariables false
set_option linter.unusedSimpArgs false
namespace Go.Proofs.Ytfmkpkmhhlakoaa.Sx
open Go

attribute [local simp ↓] ifb_true' ifb_false'
attribute [local simp] ifb_true ifb_false ifb_eq sx argsT find ev evOp evs evo evBin evInt evStr evNil evNilA ptrA slcA isNoneA asB evLoad look del cellsB evUn evConv kdec fld evFieldA evField evIdxA evIdx evSlc bndL bndH evLen mmi put resV guardV gvL setO tupV cellsOf ones one upd lits nv exitTo SV.val CV.val TI.agg rdyA allR keepB scan simpO gsp isS subs keepT pickT wr memN pubs Res.fact Region.binds bld rest give delL back Res.eqv vi vb num Sv.val undef
def ceilP (n p : Int) : Int := if n ≤ 0 ∨ p ≤ 0 then 0 else (n - 1) / p + 1
def sureOf (s : Sta) (g : Geo) (pages : Int) : Prop := g.right ∧ 0 ≤ pages ∧ pages ≤ 64 ∧ liveL s.inos < g.pages * (g.blocks - s.bad.length - 2 - ceilP pages g.pages)
set_option maxRecDepth 100000 in
set_option maxHeartbeats 4000000 in
theorem sure0 (w : World) (I : Nat → Prop) (hI : ∀ b, I b → b < w.heap.size) (s : Sta) (si sb : Sl) (g : Geo) (pages : Int) (h : ∀ W, Ext I w W → StaR W s si sb) (hs : Small s) (hb : -1000000000000 ≤ g.blocks ∧ g.blocks ≤ 1000000000000) :
    Fn0 Try.prog 48 #[.agg (staC s si sb).toArray, .agg (geoC g).toArray, .int .i64 pages] w I (fun b : Bool => .bool b) (fun y W => y = true ↔ sureOf s g pages) := by
  obtain ⟨ia, ic⟩ := si
  obtain ⟨ba, bc⟩ := sb
  refine enter (svs := [.ag ((staC s (ia, ic) (ba, bc)).map .v), .ag ((geoC g).map .v), .c (.v (.int .i64 pages))]) tysOk Try.func48 rfl Try.ntmps48 Try.results48 (by kernel_rfl) (by simp) hI (fun W => StaR W s (ia, ic) (ba, bc)) h fun C hC hN ok => ?_
  have s2 := hs.2.1
  have e1 : IntKind.i64.wrap (g.blocks - (s.bad.length : Int)) = g.blocks - s.bad.length := w64 (by omega) (by omega)
  simp [hN, e1]
  intro g1 g2
  refine drawK ok mixed (by kernel_rfl) ?_
  simp (maxSteps := 2000000) -implicitDefEqProofs [hN]
  refine call0 ok rfl rfl rfl (fun w I hI hG => norRight0 w I hI g) fun y W hy => ?_
  simp (maxSteps := 2000000) -implicitDefEqProofs [hN]
  refine ⟨fun h1 => ⟨fun h2 => ⟨fun h3 => ?_, fun h3 => ret0 hC false rfl fun W _ _ => ?_⟩, fun h2 => ret0 hC false rfl fun W _ _ => ?_⟩, fun h1 => ret0 hC false rfl fun W _ _ => ?_⟩
  rotate_left
  · simp only [sureOf]
    exact ⟨fun h => (by cases h), fun h => by omega⟩
  · simp only [sureOf]
    exact ⟨fun h => (by cases h), fun h => by omega⟩
  · rw [hy] at h1
    simp only [sureOf]
    exact ⟨fun h => (by cases h), fun h => absurd h.1 (of_decide_eq_false h1)⟩
  rw [hy] at h1
  have hr : g.right := of_decide_eq_true h1
  have hr' := hr
  obtain ⟨_, _, _, q1, q2, _⟩ := hr'
  have hlv := liveL_le s.inos hs.2.2
  have hs1 := hs.1
  have hro : (roomOf s g).live = liveL s.inos := by rw [roomOf, if_pos hr]
  refine call0 ok rfl rfl rfl (fun w I hI hG => of0 w I hI s (ia, ic) (ba, bc) g (fun W e => (hG W e).2) hs) fun z W hz => ?_
  subst hz
  have e2 : IntKind.i64.wrap (g.blocks - (s.bad.length : Int) - 2) = g.blocks - s.bad.length - 2 := w64 (by omega) (by omega)
  simp (maxSteps := 2000000) -implicitDefEqProofs [hN, e2, hro]
  refine call0 ok rfl rfl rfl (fun w I hI hG => ceil0 w I hI pages g.pages (by omega)) fun z W hz => ?_
  have hz' : z = ceilP pages g.pages := hz
  subst hz'
  have hce : 0 ≤ ceilP pages g.pages ∧ ceilP pages g.pages ≤ 64 := by
    unfold ceilP
    split
    · omega
    · rename_i hn
      have k1 : 0 ≤ (pages - 1) / g.pages := Int.ediv_nonneg (by omega) (by omega)
      have k2 : (pages - 1) / g.pages ≤ pages - 1 := Int.ediv_le_self _ (by omega)
      omega
  have e3 : IntKind.i64.wrap (g.blocks - (s.bad.length : Int) - 2 - ceilP pages g.pages) = g.blocks - s.bad.length - 2 - ceilP pages g.pages := w64 (by omega) (by omega)
  have k1 : g.pages * (g.blocks - (s.bad.length : Int) - 2 - ceilP pages g.pages) ≤ 32 * 64 := by
    rcases Int.le_total 0 (g.blocks - (s.bad.length : Int) - 2 - ceilP pages g.pages) with k | k
    · exact Int.mul_le_mul q2.2 (by omega) k (by decide)
    · have := Int.mul_nonpos_of_nonneg_of_nonpos (show 0 ≤ g.pages by omega) k
      omega
  have k2 : 32 * (-2000000) ≤ g.pages * (g.blocks - (s.bad.length : Int) - 2 - ceilP pages g.pages) := by
    rcases Int.le_total 0 (g.blocks - (s.bad.length : Int) - 2 - ceilP pages g.pages) with k | k
    · have := Int.mul_nonneg (show 0 ≤ g.pages by omega) k
      omega
    · have h5 : g.pages * (-(g.blocks - (s.bad.length : Int) - 2 - ceilP pages g.pages)) ≤ 32 * 2000000 := Int.mul_le_mul q2.2 (by omega) (by omega) (by decide)
      rw [Int.mul_neg] at h5
      omega
  have e4 : IntKind.i64.wrap (g.pages * (g.blocks - (s.bad.length : Int) - 2 - ceilP pages g.pages)) = g.pages * (g.blocks - (s.bad.length : Int) - 2 - ceilP pages g.pages) := w64 (by omega) (by omega)
  simp (maxSteps := 2000000) -implicitDefEqProofs [hN, e3, e4]
  refine ret0 hC _ rfl fun W _ _ => ?_
  simp [sureOf, hr, h2, h3]
end Go.Proofs.Ytfmkpkmhhlakoaa.Sx

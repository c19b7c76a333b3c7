/- state.Apply of no deeds; space.Journal of no deeds. -/
import Derived.Test.YtfmkpkmhhlakoaaSk12
set_option linter.unusedVariables false
set_option linter.unusedSimpArgs false
namespace Go.Proofs.Ytfmkpkmhhlakoaa.Sx
open Go

attribute [local simp ↓] ifb_true' ifb_false'
attribute [local simp] ifb_true ifb_false ifb_eq sx argsT find ev evOp evs evo evBin evInt evStr evNil evNilA ptrA slcA isNoneA asB evLoad look del cellsB evUn evConv kdec fld evFieldA evField evIdxA evIdx evSlc bndL bndH evLen mmi put resV guardV gvL setO tupV cellsOf ones one upd lits nv exitTo SV.val CV.val TI.agg rdyA allR keepB scan simpO gsp isS subs keepT pickT wr memN pubs Res.fact Region.binds bld rest give delL back Res.eqv vi vb num Sv.val undef
set_option maxRecDepth 100000 in
set_option maxHeartbeats 4000000 in
theorem applyNil0 (w : World) (I : Nat → Prop) (hI : ∀ b, I b → b < w.heap.size) (s : Sta) (si sb : Sl) (h : ∀ W, Ext I w W → StaR W s si sb) (hs : Small s) :
    Fn0 Try.prog 89 #[.agg (staC s si sb).toArray, .slice none 0 0] w I (fun y : Sl × Sl => .agg (staC s y.1 y.2).toArray) (fun y W => StaR W s y.1 y.2) := by
  obtain ⟨ia, ic⟩ := si
  obtain ⟨ba, bc⟩ := sb
  have s1 := hs.1
  have s2 := hs.2.1
  refine enter (svs := [.ag ((staC s (ia, ic) (ba, bc)).map .v), .c (.v (.slice none 0 0))]) tysOk Try.func89 rfl Try.ntmps89 Try.results89 (by kernel_rfl) (by simp) hI (fun W => StaR W s (ia, ic) (ba, bc)) h fun C hC hN ok => ?_
  simp [hN]
  intro g1 g2
  refine drawW ok mixed (by kernel_rfl) ?_
  have k1 : ∀ w I, (∀ b, I b → b < w.heap.size) → (∀ W, Ext I w W → StaR W s (ia, ic) (ba, bc)) → FnS Try.prog 121 #[.slice ia s.inos.length ic] w I noS Inos.val (fun r => [Inos.res r]) (fun r W => r.2.2.map Prod.fst = s.inos ∧ InosR W r.2.2) := fun w I hI h => copied0 w I hI s.inos (fun W e => (sta_get (h W e)).1) (by omega)
  have k2 : ∀ w I, (∀ b, I b → b < w.heap.size) → (∀ W, Ext I w W → StaR W s (ia, ic) (ba, bc)) → Fn0 Try.prog 122 #[.slice ba s.bad.length bc] w I Sv.val (fun r W => Sv.ok dInt W r s.bad) := fun w I hI h => cloneI w I hI s.bad fun W e => (sta_get (h W e)).2
  simp (maxSteps := 2000000) -implicitDefEqProofs [hN]
  and_intros
  all_goals
    refine callS ok rfl rfl rfl [] [] trivial rfl (fun r : Inos => [(600, Inos.res r)]) (fun w I S hI hG hO hS => (k1 w I hI hG).lone hO) (fun r => by simp [back, memN, Res.eqv]) (.inl fun k hk => by cases hk) fun r W hr => ?_
    obtain ⟨ra, rc, l⟩ := r
    have hll : l.length = s.inos.length := by have := congrArg List.length hr.1; simpa using this
    simp (maxSteps := 2000000) -implicitDefEqProofs [hN, hll, Inos.val, Inos.res]
    refine call0 ok rfl rfl rfl (fun w I hI hG => k2 w I hI fun W e => (hG W e).2) fun q W hq => ?_
    obtain ⟨qa, qn, qc⟩ := q
    obtain rfl : qn = s.bad.length := hq.1
    simp (maxSteps := 2000000) -implicitDefEqProofs [hN, hll, Inos.val, Inos.res]
    refine loop ok (fun _ : Unit => [(17, .c (.v (.int .i64 0)))]) (fun _ => [(600, .row ra s.inos.length rc 63 7 (inosC l)), (4, .box g2 43 [.v (.int .i64 0), .v (.slice none 0 0), .v (.slice none 0 0)]), (2, .box g1 43 [.v (.int .i64 s.next), .v (.slice ra s.inos.length rc), .v (.slice qa s.bad.length qc)])]) (fun _ W => True) (fun _ => 0) () ?_ ?_ (fun W _ => trivial) ?_
    · simp
    · simp [hll]
    rintro _ W _ hG next
    simp [hN]
    refine ret0 hC ((ra, rc), (qa, qc)) rfl fun W hp hG => ?_
    have h1 : W.ownsRow 0 63 7 (.slice ra s.inos.length rc) s.inos.length ((inosC l).map CV.val) := by simpa [hll] using hp.2.1
    have h2 : Sv.ok dInt W (qa, s.bad.length, qc) s.bad ∧ (l.map Prod.fst = s.inos ∧ InosR W l) ∧ StaR W s (ia, ic) (ba, bc) := by simpa using hG
    have h3 := inos_rows l h2.2.1.2
    rw [h2.2.1.1] at h3
    obtain ⟨k3, k4, k5⟩ := h3.rd h1 (by decide)
    exact ⟨⟨k4, by omega, k5⟩, h2.1.2⟩
/-- How long a state's record is. -/
def wholeB (s : Sta) : Nat := (deedsB (wholeL s)).length
set_option maxRecDepth 100000 in
set_option maxHeartbeats 4000000 in
theorem journalNil0 (w : World) (I : Nat → Prop) (hI : ∀ b, I b → b < w.heap.size) (s : Sta) (si sb : Sl) (g : Geo) (h : ∀ W, Ext I w W → StaR W s si sb) (hs : Small s) (hl : wholeB s ≤ 100000000000) :
    Fn0 Try.prog 72 #[.agg (staC s si sb).toArray, .agg (geoC g).toArray, .slice none 0 0] w I (fun b : Bool => .bool b) (fun y W => y = decide ((wholeB s : Int) + 15 ≤ if g.right then g.sectors / 2 * g.sector else 0)) := by
  obtain ⟨ia, ic⟩ := si
  obtain ⟨ba, bc⟩ := sb
  have s1 := hs.1
  have s2 := hs.2.1
  refine enter (svs := [.ag ((staC s (ia, ic) (ba, bc)).map .v), .ag ((geoC g).map .v), .c (.v (.slice none 0 0))]) tysOk Try.func72 rfl Try.ntmps72 Try.results72 (by kernel_rfl) (by simp) hI (fun W => StaR W s (ia, ic) (ba, bc)) h fun C hC hN ok => ?_
  simp [hN]
  intro g1 g2
  refine call0 ok rfl rfl rfl (fun w I hI hG => applyNil0 w I hI s (ia, ic) (ba, bc) hG hs) fun y W _ => ?_
  obtain ⟨⟨ja, jc⟩, ⟨ca, cc⟩⟩ := y
  simp [hN]
  refine call0 ok rfl rfl rfl (fun w I hI hG => whole0 w I hI s (ja, jc) (ca, cc) (fun W e => (hG W e).1) (by omega)) fun y W _ => ?_
  obtain ⟨la, ln, lc⟩ := y
  simp [hN]
  refine call0 ok rfl rfl rfl (fun w I hI hG => deeds0 w I hI (wholeL s) (la, ln, lc) (fun W e => (hG W e).1) hl) fun y W hy => ?_
  obtain ⟨da, dn, dc⟩ := y
  obtain rfl : dn = wholeB s := hy.1
  have e1 : IntKind.i64.wrap (8 + (wholeB s : Int)) = 8 + wholeB s := w64 (by omega) (by omega)
  simp [hN, e1]
  refine drawK ok mixed (by kernel_rfl) ?_
  simp (maxSteps := 2000000) -implicitDefEqProofs [hN]
  refine call0 ok rfl rfl rfl (fun w I hI hG => frameSize0 w I hI (8 + (wholeB s : Int)) (by omega) (by omega)) fun y W hy => ?_
  subst hy
  simp (maxSteps := 2000000) -implicitDefEqProofs [hN]
  refine call0 ok rfl rfl rfl (fun w I hI hG => halfSize0 w I hI g) fun y W hy => ?_
  subst hy
  simp (maxSteps := 2000000) -implicitDefEqProofs [hN]
  have e2 : 8 + (wholeB s : Int) + 7 = wholeB s + 15 := by omega
  exact ret0 hC _ rfl fun W _ _ => by rw [e2]
end Go.Proofs.Ytfmkpkmhhlakoaa.Sx

/- space.Of, space.Sure. -/
import Derived.Test.YtfmkpkmhhlakoaaSk10
set_option linter.unusedVariables false
set_option linter.unusedSimpArgs false
namespace Go.Proofs.Ytfmkpkmhhlakoaa.Sx
open Go

attribute [local simp ↓] ifb_true' ifb_false'
attribute [local simp] ifb_true ifb_false ifb_eq sx argsT find ev evOp evs evo evBin evInt evStr evNil evNilA ptrA slcA isNoneA asB evLoad look del cellsB evUn evConv kdec fld evFieldA evField evIdxA evIdx evSlc bndL bndH evLen mmi put resV guardV gvL setO tupV cellsOf ones one upd lits nv exitTo SV.val CV.val TI.agg rdyA allR keepB scan simpO gsp isS subs keepT pickT wr memN pubs Res.fact Region.binds bld rest give delL back Res.eqv vi vb num Sv.val undef
theorem countL_le (l : List Rn) : 0 ≤ countL l ∧ countL l ≤ 64 * l.length := by
  unfold countL pagesL
  split
  · rename_i h
    have := fm_len (l := l) fun r hr => by
      obtain ⟨j, hj, rfl⟩ := List.getElem_of_mem hr
      exact (h j hj hj).1.2.2.2.1
    omega
  · simp
    omega
/-- How many pages live. -/
noncomputable def liveL (l : List Ino) : Int := (l.map fun x => countL x.runs).sum
theorem liveL_snoc (l : List Ino) (x : Ino) : liveL (l ++ [x]) = liveL l + countL x.runs := by simp [liveL]
theorem liveL_le (l : List Ino) (h : ∀ x, x ∈ l → x.runs.length ≤ 1000000) : 0 ≤ liveL l ∧ liveL l ≤ 64000000 * l.length := by
  induction l with
  | nil => simp [liveL]
  | cons x r ih =>
    have h1 := countL_le x.runs
    have h2 := h x List.mem_cons_self
    have h3 := ih fun y hy => h y (List.mem_cons_of_mem _ hy)
    simp only [liveL, List.map_cons, List.sum_cons, List.length_cons] at h3 ⊢
    omega
structure Room where
  all : Int
  live : Int
  bad : Int
deriving DecidableEq
abbrev roomV (r : Room) : Value := .agg #[.int .i64 r.all, .int .i64 r.live, .int .i64 r.bad]
noncomputable def roomOf (s : Sta) (g : Geo) : Room := if g.right then ⟨g.blocks * g.pages, liveL s.inos, g.pages * s.bad.length⟩ else ⟨0, 0, 0⟩
def Small (s : Sta) : Prop := s.inos.length ≤ 1000000 ∧ s.bad.length ≤ 1000000 ∧ ∀ x, x ∈ s.inos → x.runs.length ≤ 1000000
theorem of0 (w : World) (I : Nat → Prop) (hI : ∀ b, I b → b < w.heap.size) (s : Sta) (si sb : Sl) (g : Geo) (h : ∀ W, Ext I w W → StaR W s si sb) (hs : Small s) :
    Fn0 Try.prog 47 #[.agg (staC s si sb).toArray, .agg (geoC g).toArray] w I roomV (fun y W => y = roomOf s g) := by
  obtain ⟨ia, ic⟩ := si
  obtain ⟨ba, bc⟩ := sb
  obtain ⟨s1, s2, s3⟩ := hs
  refine enter (svs := [.ag ((staC s (ia, ic) (ba, bc)).map .v), .ag ((geoC g).map .v)]) tysOk Try.func47 rfl Try.ntmps47 Try.results47 (by kernel_rfl) (by simp) hI (fun W => StaR W s (ia, ic) (ba, bc)) h fun C hC hN ok => ?_
  simp [hN]
  intro g1 g2 g3
  refine call0 ok rfl rfl rfl (fun w I hI hG => norRight0 w I hI g) fun y W hy => ?_
  simp [hN]
  refine ⟨fun hno => ?_, fun hyes => ?_⟩
  · rw [hy] at hno
    simp at hno
    exact ret0 hC ⟨0, 0, 0⟩ rfl fun W _ _ => by rw [roomOf, if_neg hno]
  rw [hy] at hyes
  simp at hyes
  have hr := hyes
  obtain ⟨_, _, _, q1, q2, _⟩ := hyes
  have m1 : 0 ≤ g.blocks * g.pages := Int.mul_nonneg (by omega) (by omega)
  have m2 : g.blocks * g.pages ≤ 64 * 32 := Int.mul_le_mul q1.2 q2.2 (by omega) (by decide)
  have m3 : 0 ≤ g.pages * (s.bad.length : Int) := Int.mul_nonneg (by omega) (by omega)
  have m4 : g.pages * (s.bad.length : Int) ≤ 32 * 1000000 := Int.mul_le_mul q2.2 (by omega) (by omega) (by decide)
  have e1 : IntKind.i64.wrap (g.blocks * g.pages) = g.blocks * g.pages := w64 (by omega) (by omega)
  have e2 : IntKind.i64.wrap (g.pages * (s.bad.length : Int)) = g.pages * s.bad.length := w64 (by omega) (by omega)
  rw [e1, e2]
  intro g4
  refine loop ok (fun i : Nat => [(27, .c (.v (.int .i64 i)))]) (fun i => [(5, .box g4 93 [.v (.int .i64 (g.blocks * g.pages)), .v (.int .i64 (liveL (s.inos.take i))), .v (.int .i64 (g.pages * s.bad.length))]), (4, .box g3 93 [.v (.int .i64 0), .v (.int .i64 0), .v (.int .i64 0)])]) (fun i W => i ≤ s.inos.length) (fun i => s.inos.length - i) 0 ?_ ?_ (fun W hW => Nat.zero_le _) ?_
  · simp
  · simp [liveL]
  rintro i W hi hG next
  rcases Nat.lt_or_ge i s.inos.length with hlt | hge
  · obtain ⟨b, o, e⟩ := (sta_get (show StaR W s (ia, ic) (ba, bc) from hG.2)).1.2.2.2.is_some (Nat.lt_of_le_of_lt (Nat.zero_le _) hlt)
    cases e
    have e6 : IntKind.i64.wrap ((i : Int) + 1) = (i + 1 : Nat) := by rw [w64 (by omega) (by omega)]; omega
    have ft : s.inos.take (i + 1) = s.inos.take i ++ [s.inos[i]] := by rw [List.take_add_one, List.getElem?_eq_getElem hlt]; rfl
    have hd3 := s3 _ (List.getElem_mem hlt)
    have hlv := liveL_le (s.inos.take i) fun x hx => s3 x (List.mem_of_mem_take hx)
    rw [List.length_take, Nat.min_eq_left hi] at hlv
    have hlv2 := liveL_snoc (s.inos.take i) s.inos[i]
    rw [← ft] at hlv2
    generalize hd : s.inos[i] = d at ft hd3 hlv2
    have hcl := countL_le d.runs
    simp [hN, hlt]
    refine loadA ok rfl rfl rfl rfl (fun c W => dIno.K W d c) (fun W hW => ?_) ?_
    · obtain ⟨cs, hk, hl, hc⟩ := (sta_get hW.2.2).1.2.2.2.get hlt
      rw [hd] at hk
      exact ⟨cs, hl, hc, hk⟩
    rintro v W _ ⟨⟨ea, ec⟩, ⟨ra, rc⟩, rfl, hR⟩ hG2
    simp [hN]
    intro g7
    refine drawW ok mixed (by kernel_rfl) ?_
    have e9 : IntKind.i64.wrap (liveL (s.inos.take i) + countL d.runs) = liveL (s.inos.take (i + 1)) := by rw [hlv2]; exact w64 (by omega) (by omega)
    generalize hL : liveL (s.inos.take i) = L at *
    simp (maxSteps := 2000000) -implicitDefEqProofs [hN]
    and_intros
    all_goals
      refine call0 ok rfl rfl rfl (fun w I hI hG => runsCount0 w I hI d.runs (fun W e => ⟨rfl, (ino_get (hG W e).1).2⟩) (by omega)) fun z W hz => ?_
      subst hz
      simp (maxSteps := 2000000) -implicitDefEqProofs [hN, e9, e6]
      refine next (i + 1) _ _ (by omega) (fun W h => ⟨hlt, h.2.2⟩) ?_
      simp [hy, hr]
  · have hi' : i = s.inos.length := by omega
    subst hi'
    have hT : s.inos.take s.inos.length = s.inos := List.take_length
    rw [hT] at *
    simp [hN]
    refine ret0 hC ⟨g.blocks * g.pages, liveL s.inos, g.pages * s.bad.length⟩ rfl fun W hp hG => ?_
    rw [roomOf, if_pos hr]
end Go.Proofs.Ytfmkpkmhhlakoaa.Sx

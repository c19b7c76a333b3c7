/- runs.goes, Right, Pages, Count. -/
import Derived.Test.YtfmkpkmhhlakoaaSk8
set_option linter.unusedVariables false
set_option linter.unusedSimpArgs false
namespace Go.Proofs.Ytfmkpkmhhlakoaa.Sx
open Go

attribute [local simp ↓] ifb_true' ifb_false'
attribute [local simp] ifb_true ifb_false ifb_eq sx argsT find ev evOp evs evo evBin evInt evStr evNil evNilA ptrA slcA isNoneA asB evLoad look del cellsB evUn evConv kdec fld evFieldA evField evIdxA evIdx evSlc bndL bndH evLen mmi put resV guardV gvL setO tupV cellsOf ones one upd lits nv exitTo SV.val CV.val TI.agg rdyA allR keepB scan simpO gsp isS subs keepT pickT wr memN pubs Res.fact Region.binds bld rest give delL back Res.eqv vi vb num Sv.val undef
abbrev rnC (x : Rn) : List Value := [.int .i64 x.fr, .int .i64 x.at_, .int .i64 x.ct]
def okR (r : Rn) : Prop := 0 ≤ r.fr ∧ 0 ≤ r.at_ ∧ 1 ≤ r.ct ∧ r.ct ≤ 64 ∧ r.fr ≤ 64 - r.ct ∧ r.at_ ≤ 2147483648 - r.ct
def goesP (p r : Rn) : Prop := r.fr = p.fr + p.ct ∧ r.at_ = p.at_ + p.ct
def okS (p r : Rn) : Prop := p.fr + p.ct ≤ r.fr ∧ ¬ goesP p r
instance (r : Rn) : Decidable (okR r) := by unfold okR; infer_instance
instance (p r : Rn) : Decidable (goesP p r) := by unfold goesP; infer_instance
instance (p r : Rn) : Decidable (okS p r) := by unfold okS; infer_instance
theorem goes0 (w : World) (I : Nat → Prop) (hI : ∀ b, I b → b < w.heap.size) (p r : Rn) (hp : okR p) :
    Fn0 Try.prog 134 #[.agg (rnC p).toArray, .agg (rnC r).toArray] w I (fun b : Bool => .bool b) (fun y W => y = decide (goesP p r)) := by
  refine enter (svs := [.ag ((rnC p).map .v), .ag ((rnC r).map .v)]) tysOk Try.func134 rfl Try.ntmps134 Try.results134 (by kernel_rfl) (by simp) hI (fun _ => True) (fun _ _ => trivial) fun C hC hN ok => ?_
  obtain ⟨p0, p1, p2, p3, p4, p5⟩ := hp
  have e1 : IntKind.i64.wrap (p.fr + p.ct) = p.fr + p.ct := w64 (by omega) (by omega)
  have e2 : IntKind.i64.wrap (p.at_ + p.ct) = p.at_ + p.ct := w64 (by omega) (by omega)
  simp [hN, e1, e2]
  exact fun g1 g2 => ⟨fun h => ret0 hC _ rfl fun W _ _ => by simp [goesP, h], fun h => ret0 hC _ rfl fun W _ _ => by simp [goesP, h]⟩
/-- All before are as they should be. -/
def rightTo (l : List Rn) (i : Nat) : Prop := ∀ j (h : j < l.length), j < i → okR l[j] ∧ ∀ h0 : 0 < j, okS (l[j - 1]'(by omega)) l[j]
abbrev RightL (l : List Rn) : Prop := rightTo l l.length
theorem rn_get {W : World} {a : Option Addr} {n c : Nat} {l : List Rn} (h : Sv.ok dRn W (a, n, c) l) {i : Nat} (hi : i < l.length) : ∃ b o, a = some ⟨b, o, none⟩ ∧ ∀ j v, (rnC l[i])[j]? = some v → W.cell? ⟨b, o + i * 3 + j, none⟩ = some v := by
  obtain ⟨b, o, e⟩ := h.2.2.2.is_some (show 0 < l.length by omega)
  cases e
  obtain ⟨cs, hk, _, hc⟩ := h.2.2.2.get hi
  exact ⟨b, o, rfl, by rw [hk] at hc; exact hc⟩
set_option maxRecDepth 100000 in
set_option maxHeartbeats 4000000 in
theorem runsRight0 (w : World) (I : Nat → Prop) (hI : ∀ b, I b → b < w.heap.size) {a : Option Addr} {n c : Nat} (l : List Rn) (h : ∀ W, Ext I w W → Sv.ok dRn W (a, n, c) l) :
    Fn0 Try.prog 116 #[.slice a n c] w I (fun b : Bool => .bool b) (fun y W => y = true ↔ RightL l) := by
  obtain rfl : n = l.length := (h w (Ext.refl _ _)).1
  have hx := (h w (Ext.refl _ _)).2.2.1
  refine enter (svs := [.c (.v (.slice a l.length c))]) tysOk Try.func116 rfl Try.ntmps116 Try.results116 (by kernel_rfl) (by simp) hI (fun W => Sv.ok dRn W (a, l.length, c) l) h fun C hC hN ok => ?_
  simp [hN]
  refine loopK [0, 5, 6, 2] ok (fun i : Nat => [(7, .c (.v (.int .i64 i)))]) (fun _ => []) (fun i W => i ≤ l.length ∧ rightTo l i) (fun i => l.length - i) 0 ?_ ?_ (fun W hW => ⟨Nat.zero_le _, fun j _ hj => absurd hj (Nat.not_lt_zero _)⟩) ?_
  · simp
  · simp
  rintro i W ⟨hi, hr⟩ hG next
  rcases Nat.lt_or_ge i l.length with hlt | hge
  · obtain ⟨b, o, e⟩ := (show Sv.ok dRn W (a, l.length, c) l from hG).2.2.2.is_some (Nat.lt_of_le_of_lt (Nat.zero_le _) hlt)
    cases e
    simp [hN, hlt]
    have e6 : IntKind.i64.wrap ((i : Int) + 1) = (i + 1 : Nat) := by rw [w64 (by omega) (by omega)]; omega
    refine loadA ok rfl rfl rfl rfl (fun c W => c = rnC l[i]) (fun W hW => ?_) ?_
    · obtain ⟨cs, hk, _, hc⟩ := hW.2.2.2.2.get hlt
      exact ⟨cs, by rw [hk]; rfl, hc, hk⟩
    rintro v W _ rfl hG2
    have hni : ¬ okR l[i] → ¬ RightL l := fun h1 h2 => h1 (h2 i hlt hlt).1
    generalize hd : l[i] = d at hni
    simp [hN]
    intro g4
    have no : ¬ okR d → RetP C (.bool false) ⟨fun _ => True, fun W => (i ≤ l.length ∧ rightTo l i) ∧ Sv.ok dRn W (some ⟨b, o, none⟩, l.length, c) l, [(4, .box g4 107 [.v (.int .i64 d.fr), .v (.int .i64 d.at_), .v (.int .i64 d.ct)])]⟩ := fun h => ret0 hC false rfl fun W _ _ => by simp [hni h]
    refine ⟨fun h1 => ⟨fun h2 => ⟨fun h3 => ⟨fun h4 => ?_, fun h4 => no fun hk => ?_⟩, fun h3 => no fun hk => ?_⟩, fun h2 => no fun hk => ?_⟩, fun h1 => no fun hk => ?_⟩
    rotate_left
    · have := hk.2.2.2.1
      omega
    · have := hk.2.2.1
      omega
    · have := hk.2.1
      omega
    · have := hk.1
      omega
    have e8 : IntKind.i64.wrap (64 - d.ct) = 64 - d.ct := w64 (by omega) (by omega)
    have e9 : IntKind.i64.wrap (2147483648 - d.ct) = 2147483648 - d.ct := w64 (by omega) (by omega)
    rw [e8, e9]
    refine ⟨fun h5 => ⟨fun h6 => no fun hk => ?_, fun h6 => ?_⟩, fun h5 => no fun hk => ?_⟩
    · have := hk.2.2.2.2.2
      omega
    rotate_left
    · have := hk.2.2.2.2.1
      omega
    have hk : okR d := ⟨h1, h2, h3, h4, h5, h6⟩
    refine drawK ok mixed (by kernel_rfl) ?_
    by_cases h0 : i = 0
    · subst h0
      simp (maxSteps := 2000000) -implicitDefEqProofs [hN]
      have e1 : IntKind.i64.wrap 1 = 1 := w64 (by omega) (by omega)
      rw [e1]
      refine next 1 _ _ (by omega) (fun W h => ⟨⟨hlt, fun j hj hj1 => ?_⟩, h.2⟩) ?_
      · obtain rfl : j = 0 := by omega
        rw [hd]
        exact ⟨hk, fun h => absurd h (Nat.lt_irrefl _)⟩
      · simp
    · have h0' : 0 < i := by omega
      have e7 : IntKind.i64.wrap ((i : Int) - 1) = (i - 1 : Nat) := by rw [w64 (by omega) (by omega)]; omega
      have hpl : i - 1 < l.length := by omega
      have hokp := (hr (i - 1) hpl (by omega)).1
      have hcl : ∀ W, Sv.ok dRn W (some ⟨b, o, none⟩, l.length, c) l → ∀ j v, (rnC l[i - 1])[j]? = some v → W.cell? ⟨b, o + (i - 1) * 3 + j, none⟩ = some v := fun W hW => by
        obtain ⟨b', o', e, hh⟩ := rn_get hW hpl
        cases e
        exact hh
      have hns : ¬ okS l[i - 1] d → ¬ RightL l := fun h1 h2 => h1 (by rw [← hd]; exact (h2 i hlt hlt).2 h0')
      generalize hq : l[i - 1] = p at hokp hcl hns
      obtain ⟨p0, p1, p2, p3, p4, p5⟩ := id hokp
      have e10 : IntKind.i64.wrap (p.fr + p.ct) = p.fr + p.ct := w64 (by omega) (by omega)
      simp (maxSteps := 2000000) -implicitDefEqProofs [hN, h0', e7]
      refine ⟨by omega, ?_⟩
      refine ⟨?_, ?_⟩
      · refine load1 ok rfl rfl rfl rfl (fun v W => v = .int .i64 p.fr) (fun W hW => ⟨_, by simpa using hcl W hW.2 0 _ rfl, rfl⟩) ?_
        rintro v W rfl _
        simp (maxSteps := 2000000) -implicitDefEqProofs [hN, e7]
        refine load1 ok rfl rfl rfl rfl (fun v W => v = .int .i64 p.ct) (fun W hW => ⟨_, hcl W hW.2 2 _ rfl, rfl⟩) ?_
        rintro v W rfl _
        simp (maxSteps := 2000000) -implicitDefEqProofs [hN, e10, e7]
        refine ⟨fun h7 => ret0 hC false rfl fun W _ _ => by simp [hns fun h => by have := h.1; omega], fun h7 => ⟨by omega, ?_⟩⟩
        refine loadA ok rfl rfl rfl rfl (fun c W => c = rnC p) (fun W hW => ⟨rnC p, rfl, hcl W hW.2, rfl⟩) ?_
        rintro v W _ rfl _
        simp (maxSteps := 2000000) -implicitDefEqProofs [hN]
        refine call0 ok rfl rfl rfl (fun w I hI hG => goes0 w I hI p d hokp) fun y W hy => ?_
        simp (maxSteps := 2000000) -implicitDefEqProofs [hN, e6]
        refine ⟨fun h8 => ?_, fun h8 => ?_⟩
        · rw [hy] at h8
          simp at h8
          exact ret0 hC false rfl fun W _ _ => by simp [hns fun h => h.2 h8]
        · rw [hy] at h8
          simp at h8
          refine next (i + 1) _ _ (by omega) (fun W h => ⟨⟨hlt, fun j hj hj1 => ?_⟩, h.2.2⟩) ?_
          · rcases Nat.lt_or_ge j i with hji | hji
            · exact hr j hj hji
            · obtain rfl : j = i := by omega
              rw [hd]
              exact ⟨hk, fun _ => by rw [hq]; exact ⟨h7, h8⟩⟩
          · simp
      · refine load1 ok rfl rfl rfl rfl (fun v W => v = .int .i64 p.ct) (fun W hW => ⟨_, hcl W hW.2 2 _ rfl, rfl⟩) ?_
        rintro v W rfl _
        simp (maxSteps := 2000000) -implicitDefEqProofs [hN, e7]
        refine load1 ok rfl rfl rfl rfl (fun v W => v = .int .i64 p.fr) (fun W hW => ⟨_, by simpa using hcl W hW.2 0 _ rfl, rfl⟩) ?_
        rintro v W rfl _
        simp (maxSteps := 2000000) -implicitDefEqProofs [hN, e10, e7]
        refine ⟨fun h7 => ret0 hC false rfl fun W _ _ => by simp [hns fun h => by have := h.1; omega], fun h7 => ⟨by omega, ?_⟩⟩
        refine loadA ok rfl rfl rfl rfl (fun c W => c = rnC p) (fun W hW => ⟨rnC p, rfl, hcl W hW.2, rfl⟩) ?_
        rintro v W _ rfl _
        simp (maxSteps := 2000000) -implicitDefEqProofs [hN]
        refine call0 ok rfl rfl rfl (fun w I hI hG => goes0 w I hI p d hokp) fun y W hy => ?_
        simp (maxSteps := 2000000) -implicitDefEqProofs [hN, e6]
        refine ⟨fun h8 => ?_, fun h8 => ?_⟩
        · rw [hy] at h8
          simp at h8
          exact ret0 hC false rfl fun W _ _ => by simp [hns fun h => h.2 h8]
        · rw [hy] at h8
          simp at h8
          refine next (i + 1) _ _ (by omega) (fun W h => ⟨⟨hlt, fun j hj hj1 => ?_⟩, h.2.2⟩) ?_
          · rcases Nat.lt_or_ge j i with hji | hji
            · exact hr j hj hji
            · obtain rfl : j = i := by omega
              rw [hd]
              exact ⟨hk, fun _ => by rw [hq]; exact ⟨h7, h8⟩⟩
          · simp
  · simp [hN, Nat.not_lt.2 hge]
    exact ret0 hC true rfl fun W _ _ => by
      have hi' : i = l.length := by omega
      subst hi'
      simp only [true_iff]
      exact hr
end Go.Proofs.Ytfmkpkmhhlakoaa.Sx

/- RightRuns, GetRun of the reference. -/
import Derived.Test.YtfmkpkmhhlakoaaSk19
set_option linter.unusedVariables false
set_option linter.unusedSimpArgs false
namespace Go.Proofs.Ytfmkpkmhhlakoaa.Sx
open Go

attribute [local simp ↓] ifb_true' ifb_false'
attribute [local simp] ifb_true ifb_false ifb_eq sx argsT find ev evOp evs evo evBin evInt evStr evNil evNilA ptrA slcA isNoneA asB evLoad look del cellsB evUn evConv kdec fld evFieldA evField evIdxA evIdx evSlc bndL bndH evLen mmi put resV guardV gvL setO tupV cellsOf ones one upd lits nv exitTo SV.val CV.val TI.agg rdyA allR keepB scan simpO gsp isS subs keepT pickT wr memN pubs Res.fact Region.binds bld rest give delL back Res.eqv vi vb num Sv.val undef
set_option maxRecDepth 100000 in
set_option maxHeartbeats 4000000 in
theorem rightRuns0 (w : World) (I : Nat → Prop) (hI : ∀ b, I b → b < w.heap.size) {a : Option Addr} {n c : Nat} (l : List Rn) (h : ∀ W, Ext I w W → Sv.ok dRn W (a, n, c) l) :
    Fn0 Try.prog 65 #[.slice a n c] w I (fun b : Bool => .bool b) (fun y W => y = true ↔ RightL l) := by
  obtain rfl : n = l.length := (h w (Ext.refl _ _)).1
  have hx := (h w (Ext.refl _ _)).2.2.1
  refine enter (svs := [.c (.v (.slice a l.length c))]) tysOk Try.func65 rfl Try.ntmps65 Try.results65 (by kernel_rfl) (by simp) hI (fun W => Sv.ok dRn W (a, l.length, c) l) h fun C hC hN ok => ?_
  simp [hN]
  refine loopK [0] ok (fun i : Nat => [(3, .c (.v (.int .i64 i)))]) (fun _ => []) (fun i W => i ≤ l.length ∧ rightTo l i) (fun i => l.length - i) 0 ?_ ?_ (fun W hW => ⟨Nat.zero_le _, fun j _ hj => absurd hj (Nat.not_lt_zero _)⟩) ?_
  · simp
  · simp
  rintro i W ⟨hi, hr⟩ hG next
  rcases Nat.lt_or_ge i l.length with hlt | hge
  · obtain ⟨b, o, e⟩ := (show Sv.ok dRn W (a, l.length, c) l from hG).2.2.2.is_some (Nat.lt_of_le_of_lt (Nat.zero_le _) hlt)
    cases e
    simp [hN, hlt]
    have e6 : IntKind.i64.wrap ((i : Int) + 1) = (i + 1 : Nat) := by rw [w64 (by omega) (by omega)]; omega
    refine loadA ok rfl rfl rfl rfl (fun c W => c = rnC l[i]) (fun W hW => ?_) ?_
    · obtain ⟨cs, hk, _, hc⟩ := hW.2.2.2.2.get hlt
      exact ⟨cs, by rw [hk]; rfl, hc, hk⟩
    rintro v W _ rfl hG2
    have hni : ¬ okR l[i] → ¬ RightL l := fun h1 h2 => h1 (h2 i hlt hlt).1
    generalize hd : l[i] = d at hni
    simp [hN]
    intro g4
    have no : ¬ okR d → RetP C (.bool false) ⟨fun _ => True, fun W => (i ≤ l.length ∧ rightTo l i) ∧ Sv.ok dRn W (some ⟨b, o, none⟩, l.length, c) l, [(4, .box g4 107 [.v (.int .i64 d.fr), .v (.int .i64 d.at_), .v (.int .i64 d.ct)])]⟩ := fun h => ret0 hC false rfl fun W _ _ => by simp [hni h]
    refine ⟨fun h1 => ⟨fun h2 => ⟨fun h3 => ?_, fun h3 => no fun hk => ?_⟩, fun h2 => no fun hk => ?_⟩, fun h1 => no fun hk => ?_⟩
    rotate_left
    · have := hk.2.2.1; have := hk.2.2.2.2.1; omega
    · have := hk.2.2.1; omega
    · have := hk.1; omega
    have e8 : IntKind.i64.wrap (64 - d.fr) = 64 - d.fr := w64 (by omega) (by omega)
    rw [e8]
    refine ⟨fun h4 => ?_, fun h4 => no fun hk => ?_⟩
    rotate_left
    · have := hk.2.2.2.2.1; omega
    have e9 : IntKind.i64.wrap (2147483648 - d.ct) = 2147483648 - d.ct := w64 (by omega) (by omega)
    rw [e9]
    refine ⟨fun h5 => ⟨fun h6 => no fun hk => ?_, fun h6 => ?_⟩, fun h5 => no fun hk => ?_⟩
    · have := hk.2.2.2.2.2; omega
    rotate_left
    · have := hk.2.1; omega
    have hk : okR d := ⟨h1, h5, h2, by omega, by omega, h6⟩
    refine ⟨fun h0 => ?_, fun h0 => ?_⟩
    · have e7 : IntKind.i64.wrap ((i : Int) - 1) = (i - 1 : Nat) := by rw [w64 (by omega) (by omega)]; omega
      have hpl : i - 1 < l.length := by omega
      have hokp := (hr (i - 1) hpl (by omega)).1
      have hcl : ∀ W, Sv.ok dRn W (some ⟨b, o, none⟩, l.length, c) l → ∀ j v, (rnC l[i - 1])[j]? = some v → W.cell? ⟨b, o + (i - 1) * 3 + j, none⟩ = some v := fun W hW => by
        obtain ⟨b', o', e, hh⟩ := rn_get hW hpl
        cases e
        exact hh
      have hns : ¬ okS l[i - 1] d → ¬ RightL l := fun h1 h2 => h1 (by rw [← hd]; exact (h2 i hlt hlt).2 h0)
      generalize hq : l[i - 1] = p at hokp hcl hns
      obtain ⟨p0, p1, p2, p3, p4, p5⟩ := id hokp
      have e10 : IntKind.i64.wrap (p.fr + p.ct) = p.fr + p.ct := w64 (by omega) (by omega)
      have e11 : IntKind.i64.wrap (p.at_ + p.ct) = p.at_ + p.ct := w64 (by omega) (by omega)
      rw [e7]
      refine ⟨⟨by omega, by omega⟩, ?_⟩
      refine loadA ok rfl rfl rfl rfl (fun c W => c = rnC p) (fun W hW => ⟨rnC p, rfl, by simpa using hcl W hW.2, rfl⟩) ?_
      rintro v W _ rfl _
      simp [hN, e10, e11, e6]
      intro g5
      have ns : ¬ okS p d → ∀ rs, RetP C (.bool false) ⟨fun _ => True, fun W => (i ≤ l.length ∧ rightTo l i) ∧ Sv.ok dRn W (some ⟨b, o, none⟩, l.length, c) l, rs⟩ := fun h rs => ret0 hC false rfl fun W _ _ => by simp [hns h]
      have hF : okS p d → rightTo l (i + 1) := fun hs j hj hj1 => by
        rcases Nat.lt_or_ge j i with hji | hji
        · exact hr j hj hji
        · obtain rfl : j = i := by omega
          rw [hd]
          exact ⟨hk, fun _ => by rw [hq]; exact hs⟩
      refine ⟨fun h7 => ⟨fun h8 => ⟨fun h9 => ns (fun h => h.2 ⟨h8, h9⟩) _, fun h9 => next (i + 1) _ _ (by omega) (fun W h => ⟨⟨hlt, hF ⟨h7, fun h => h9 h.2⟩⟩, h.2⟩) ?_⟩, fun h8 => next (i + 1) _ _ (by omega) (fun W h => ⟨⟨hlt, hF ⟨h7, fun h => h8 h.1⟩⟩, h.2⟩) ?_⟩, fun h7 => ns (fun h => by have := h.1; omega) _⟩
      · simp
      · simp
    · subst h0
      have e1 : IntKind.i64.wrap 1 = 1 := w64 (by omega) (by omega)
      refine next 1 _ _ (by omega) (fun W h => ⟨⟨hlt, fun j hj hj1 => ?_⟩, h.2⟩) ?_
      · obtain rfl : j = 0 := by omega
        rw [hd]
        exact ⟨hk, fun h => absurd h (Nat.lt_irrefl _)⟩
      · simp [e1]
  · simp [hN, Nat.not_lt.2 hge]
    exact ret0 hC true rfl fun W _ _ => by
      have hi' : i = l.length := by omega
      subst hi'
      simp only [true_iff]
      exact hr
def getL : List Rn → Int → Option Int
  | [], _ => none
  | r :: t, x => if r.fr ≤ x ∧ x < r.fr + r.ct then some (r.at_ + x - r.fr) else getL t x
theorem getL_at : ∀ (l : List Rn) (x : Int) (i : Nat) (hi : i < l.length), (∀ r, r ∈ l.take i → ¬ (r.fr ≤ x ∧ x < r.fr + r.ct)) → l[i].fr ≤ x ∧ x < l[i].fr + l[i].ct → getL l x = some (l[i].at_ + x - l[i].fr)
  | [], x, i, hi, _, _ => by simp at hi
  | r :: t, x, 0, _, _, h => by simp only [List.getElem_cons_zero] at h ⊢; rw [getL, if_pos h]
  | r :: t, x, i + 1, hi, h1, h2 => by
    rw [getL, if_neg (h1 r (by simp))]
    simp only [List.getElem_cons_succ] at h2 ⊢
    exact getL_at t x i (by simpa using hi) (fun z hz => h1 z (by simp [hz])) h2
theorem getL_none : ∀ (l : List Rn) (x : Int), (∀ r, r ∈ l → ¬ (r.fr ≤ x ∧ x < r.fr + r.ct)) → getL l x = none
  | [], x, _ => rfl
  | r :: t, x, h => by
    rw [getL, if_neg (h r (by simp))]
    exact getL_none t x fun z hz => h z (by simp [hz])
abbrev optV (o : Option Int) : Value := .tuple #[.int .i64 (o.getD 0), .bool o.isSome]
set_option maxRecDepth 100000 in
set_option maxHeartbeats 4000000 in
theorem getRun0 (w : World) (I : Nat → Prop) (hI : ∀ b, I b → b < w.heap.size) {a : Option Addr} {n c : Nat} (l : List Rn) (x : Int) (h : ∀ W, Ext I w W → Sv.ok dRn W (a, n, c) l) (hr : ∀ r, r ∈ l → okR r) (hx : -1000000000000 ≤ x ∧ x ≤ 1000000000000) :
    Fn0 Try.prog 31 #[.slice a n c, .int .i64 x] w I optV (fun y W => y = getL l x) := by
  obtain rfl : n = l.length := (h w (Ext.refl _ _)).1
  have hbig := (h w (Ext.refl _ _)).2.2.1
  refine enter (svs := [.c (.v (.slice a l.length c)), .c (.v (.int .i64 x))]) tysOk Try.func31 rfl Try.ntmps31 Try.results31 (by kernel_rfl) (by simp) hI (fun W => Sv.ok dRn W (a, l.length, c) l) h fun C hC hN ok => ?_
  simp [hN]
  refine loopK [0, 1] ok (fun i : Nat => [(6, .c (.v (.int .i64 i)))]) (fun _ => []) (fun i W => i ≤ l.length ∧ ∀ r, r ∈ l.take i → ¬ (r.fr ≤ x ∧ x < r.fr + r.ct)) (fun i => l.length - i) 0 ?_ ?_ (fun W hW => ⟨Nat.zero_le _, by simp⟩) ?_
  · simp
  · simp
  rintro i W ⟨hi, hne⟩ hG next
  rcases Nat.lt_or_ge i l.length with hlt | hge
  · obtain ⟨b, o, e, _⟩ := rn_get (show Sv.ok dRn W (a, l.length, c) l from hG) hlt
    cases e
    have hcl : ∀ W, Sv.ok dRn W (some ⟨b, o, none⟩, l.length, c) l → ∀ j v, (rnC l[i])[j]? = some v → W.cell? ⟨b, o + i * 3 + j, none⟩ = some v := fun W hW => by
      obtain ⟨b', o', e, hh⟩ := rn_get hW hlt
      cases e
      exact hh
    have e6 : IntKind.i64.wrap ((i : Int) + 1) = (i + 1 : Nat) := by rw [w64 (by omega) (by omega)]; omega
    have ft : l.take (i + 1) = l.take i ++ [l[i]] := by rw [List.take_add_one, List.getElem?_eq_getElem hlt]; rfl
    have hgo := getL_at l x i hlt hne
    obtain ⟨d0, d1, d2, d3, d4, d5⟩ := hr _ (List.getElem_mem hlt)
    have hnx : ¬ (l[i].fr ≤ x ∧ x < l[i].fr + l[i].ct) → ∀ r, r ∈ l.take (i + 1) → ¬ (r.fr ≤ x ∧ x < r.fr + r.ct) := fun h r hr => by
      rw [ft] at hr
      rcases List.mem_append.1 hr with hr | hr
      · exact hne r hr
      · rw [List.mem_singleton.1 hr]; exact h
    generalize l[i] = d at *
    simp [hN, hlt]
    refine drawK ok mixed (by kernel_rfl) ?_
    simp (maxSteps := 2000000) -implicitDefEqProofs [hN, hlt]
    refine load1 ok rfl rfl rfl rfl (fun v W => v = .int .i64 d.ct) (fun W hW => ⟨_, hcl W hW.2 2 _ rfl, rfl⟩) ?_
    rintro v W rfl _
    simp (maxSteps := 2000000) -implicitDefEqProofs [hN, hlt, show 0 < d.ct by omega]
    refine load1 ok rfl rfl rfl rfl (fun v W => v = .int .i64 d.fr) (fun W hW => ⟨_, by simpa using hcl W hW.2 0 _ rfl, rfl⟩) ?_
    rintro v W rfl _
    simp (maxSteps := 2000000) -implicitDefEqProofs [hN, hlt, e6]
    refine ⟨fun h1 => ?_, fun h1 => next (i + 1) _ _ (by omega) (fun W h => ⟨⟨hlt, hnx (by omega)⟩, h.2⟩) (by simp)⟩
    have w1 : IntKind.u64.wrap (IntKind.i64.wrap (x - d.fr)) = x - d.fr := by rw [w64 (by omega) (by omega), IntKind.wrap_u64]; omega
    have w2 : IntKind.u64.wrap d.ct = d.ct := by rw [IntKind.wrap_u64]; omega
    refine ⟨?_, ?_⟩
    · refine load1 ok rfl rfl rfl rfl (fun v W => v = .int .i64 d.fr) (fun W hW => ⟨_, by simpa using hcl W hW.2 0 _ rfl, rfl⟩) ?_
      rintro v W rfl _
      simp (maxSteps := 2000000) -implicitDefEqProofs [hN, hlt, e6, w1, w2]
      refine load1 ok rfl rfl rfl rfl (fun v W => v = .int .i64 d.ct) (fun W hW => ⟨_, by simpa using hcl W hW.2 2 _ rfl, rfl⟩) ?_
      rintro v W rfl _
      simp (maxSteps := 2000000) -implicitDefEqProofs [hN, hlt, e6, w1, w2]
      refine ⟨fun h2 => ?_, fun h2 => next (i + 1) _ _ (by omega) (fun W h => ⟨⟨hlt, hnx (by omega)⟩, h.2⟩) (by simp)⟩
      have hgt := hgo ⟨h1, by omega⟩
      have w3 : IntKind.i64.wrap (d.at_ + x) = d.at_ + x := w64 (by omega) (by omega)
      have w4 : IntKind.i64.wrap (d.at_ + x - d.fr) = d.at_ + x - d.fr := w64 (by omega) (by omega)
      refine drawK ok mixed (by kernel_rfl) ?_
      simp (maxSteps := 2000000) -implicitDefEqProofs [hN, hlt, e6, w1, w2, w3, w4]
      refine ⟨?_, ?_⟩
      · refine load1 ok rfl rfl rfl rfl (fun v W => v = .int .i64 d.at_) (fun W hW => ⟨_, by simpa using hcl W hW.2 1 _ rfl, rfl⟩) ?_
        rintro v W rfl _
        simp (maxSteps := 2000000) -implicitDefEqProofs [hN, hlt, e6, w1, w2, w3, w4]
        refine load1 ok rfl rfl rfl rfl (fun v W => v = .int .i64 d.fr) (fun W hW => ⟨_, by simpa using hcl W hW.2 0 _ rfl, rfl⟩) ?_
        rintro v W rfl _
        simp (maxSteps := 2000000) -implicitDefEqProofs [hN, hlt, e6, w1, w2, w3, w4]
        exact ret0 hC (some (d.at_ + x - d.fr)) rfl fun W _ _ => hgt.symm
      · refine load1 ok rfl rfl rfl rfl (fun v W => v = .int .i64 d.fr) (fun W hW => ⟨_, by simpa using hcl W hW.2 0 _ rfl, rfl⟩) ?_
        rintro v W rfl _
        simp (maxSteps := 2000000) -implicitDefEqProofs [hN, hlt, e6, w1, w2, w3, w4]
        refine load1 ok rfl rfl rfl rfl (fun v W => v = .int .i64 d.at_) (fun W hW => ⟨_, by simpa using hcl W hW.2 1 _ rfl, rfl⟩) ?_
        rintro v W rfl _
        simp (maxSteps := 2000000) -implicitDefEqProofs [hN, hlt, e6, w1, w2, w3, w4]
        exact ret0 hC (some (d.at_ + x - d.fr)) rfl fun W _ _ => hgt.symm
    · refine load1 ok rfl rfl rfl rfl (fun v W => v = .int .i64 d.ct) (fun W hW => ⟨_, by simpa using hcl W hW.2 2 _ rfl, rfl⟩) ?_
      rintro v W rfl _
      simp (maxSteps := 2000000) -implicitDefEqProofs [hN, hlt, e6, w1, w2]
      refine load1 ok rfl rfl rfl rfl (fun v W => v = .int .i64 d.fr) (fun W hW => ⟨_, by simpa using hcl W hW.2 0 _ rfl, rfl⟩) ?_
      rintro v W rfl _
      simp (maxSteps := 2000000) -implicitDefEqProofs [hN, hlt, e6, w1, w2]
      refine ⟨fun h2 => ?_, fun h2 => next (i + 1) _ _ (by omega) (fun W h => ⟨⟨hlt, hnx (by omega)⟩, h.2⟩) (by simp)⟩
      have hgt := hgo ⟨h1, by omega⟩
      have w3 : IntKind.i64.wrap (d.at_ + x) = d.at_ + x := w64 (by omega) (by omega)
      have w4 : IntKind.i64.wrap (d.at_ + x - d.fr) = d.at_ + x - d.fr := w64 (by omega) (by omega)
      refine drawK ok mixed (by kernel_rfl) ?_
      simp (maxSteps := 2000000) -implicitDefEqProofs [hN, hlt, e6, w1, w2, w3, w4]
      refine ⟨?_, ?_⟩
      · refine load1 ok rfl rfl rfl rfl (fun v W => v = .int .i64 d.at_) (fun W hW => ⟨_, by simpa using hcl W hW.2 1 _ rfl, rfl⟩) ?_
        rintro v W rfl _
        simp (maxSteps := 2000000) -implicitDefEqProofs [hN, hlt, e6, w1, w2, w3, w4]
        refine load1 ok rfl rfl rfl rfl (fun v W => v = .int .i64 d.fr) (fun W hW => ⟨_, by simpa using hcl W hW.2 0 _ rfl, rfl⟩) ?_
        rintro v W rfl _
        simp (maxSteps := 2000000) -implicitDefEqProofs [hN, hlt, e6, w1, w2, w3, w4]
        exact ret0 hC (some (d.at_ + x - d.fr)) rfl fun W _ _ => hgt.symm
      · refine load1 ok rfl rfl rfl rfl (fun v W => v = .int .i64 d.fr) (fun W hW => ⟨_, by simpa using hcl W hW.2 0 _ rfl, rfl⟩) ?_
        rintro v W rfl _
        simp (maxSteps := 2000000) -implicitDefEqProofs [hN, hlt, e6, w1, w2, w3, w4]
        refine load1 ok rfl rfl rfl rfl (fun v W => v = .int .i64 d.at_) (fun W hW => ⟨_, by simpa using hcl W hW.2 1 _ rfl, rfl⟩) ?_
        rintro v W rfl _
        simp (maxSteps := 2000000) -implicitDefEqProofs [hN, hlt, e6, w1, w2, w3, w4]
        exact ret0 hC (some (d.at_ + x - d.fr)) rfl fun W _ _ => hgt.symm
  · simp [hN, Nat.not_lt.2 hge]
    exact ret0 hC none rfl fun W _ _ => by
      rw [getL_none]
      rwa [List.take_of_length_le hge] at hne
end Go.Proofs.Ytfmkpkmhhlakoaa.Sx

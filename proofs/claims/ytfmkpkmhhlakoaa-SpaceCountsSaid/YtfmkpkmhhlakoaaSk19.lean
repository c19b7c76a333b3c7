/- Apply of the reference. -/
import Derived.Test.YtfmkpkmhhlakoaaSk18
set_option linter.unusedVariables false
set_option linter.unusedSimpArgs false
namespace Go.Proofs.Ytfmkpkmhhlakoaa.Sx
open Go

attribute [local simp ↓] ifb_true' ifb_false'
attribute [local simp] ifb_true ifb_false ifb_eq sx argsT find ev evOp evs evo evBin evInt evStr evNil evNilA ptrA slcA isNoneA asB evLoad look del cellsB evUn evConv kdec fld evFieldA evField evIdxA evIdx evSlc bndL bndH evLen mmi put resV guardV gvL setO tupV cellsOf ones one upd lits nv exitTo SV.val CV.val TI.agg rdyA allR keepB scan simpO gsp isS subs keepT pickT wr memN pubs Res.fact Region.binds bld rest give delL back Res.eqv vi vb num Sv.val undef
noncomputable def applyOne (s : Sta) (d : Dee) : Sta :=
  if d.kind = 1 then { s with next := d.no } else if d.kind = 2 then { s with inos := putInoL s.inos d.ino } else if d.kind = 3 then { s with inos := s.inos.filter fun x => decide (x.no ≠ d.no) } else if d.kind = 4 then { s with bad := addBadL s.bad d.no } else s
noncomputable def applyL (s : Sta) (l : List Dee) : Sta := l.foldl applyOne s
theorem applyL_snoc (s : Sta) (l : List Dee) (d : Dee) : applyL s (l ++ [d]) = applyOne (applyL s l) d := by simp [applyL]
theorem replI_len : ∀ (l : List Ino) (x : Ino), (replI l x).length = l.length
  | [], _ => rfl
  | y :: r, x => by
    unfold replI
    split
    · rfl
    · simp [replI_len r x]
theorem insI_len : ∀ (l : List Ino) (x : Ino), (insI l x).length = l.length + 1
  | [], _ => rfl
  | y :: r, x => by
    unfold insI
    split
    · simp [insI_len r x]
    · rfl
theorem insL_len : ∀ (l : List Int) (x : Int), (insL l x).length = l.length + 1
  | [], _ => rfl
  | y :: r, x => by
    unfold insL
    split
    · simp [insL_len r x]
    · rfl
theorem putInoL_len (l : List Ino) (x : Ino) : (putInoL l x).length ≤ l.length + 1 := by
  unfold putInoL
  split
  · rw [replI_len]; omega
  · rw [insI_len]; omega
theorem addBadL_len (l : List Int) (x : Int) : (addBadL l x).length ≤ l.length + 1 := by
  unfold addBadL
  split
  · omega
  · rw [insL_len]; omega
theorem applyOne_len (s : Sta) (d : Dee) : (applyOne s d).inos.length ≤ s.inos.length + 1 ∧ (applyOne s d).bad.length ≤ s.bad.length + 1 := by
  unfold applyOne
  have h1 := putInoL_len s.inos d.ino
  have h2 := addBadL_len s.bad d.no
  have h3 := List.length_filter_le (fun x : Ino => decide (x.no ≠ d.no)) s.inos
  split
  · constructor <;> simp
  · split
    · exact ⟨h1, by simp⟩
    · split
      · exact ⟨by simp only; omega, by simp⟩
      · split
        · exact ⟨by simp, h2⟩
        · constructor <;> omega
theorem applyL_len (s : Sta) (l : List Dee) : (applyL s l).inos.length ≤ s.inos.length + l.length ∧ (applyL s l).bad.length ≤ s.bad.length + l.length := by
  induction l generalizing s with
  | nil => exact ⟨Nat.le_refl _, Nat.le_refl _⟩
  | cons d r ih =>
    have h1 := ih (applyOne s d)
    have h2 := applyOne_len s d
    simp only [applyL, List.foldl_cons, List.length_cons] at h1 ⊢
    omega
set_option maxHeartbeats 4000000 in
theorem refApply0 (w : World) (I : Nat → Prop) (hI : ∀ b, I b → b < w.heap.size) (s : Sta) (si sb : Sl) {a : Option Addr} {n c : Nat} (l : List Dee) (h : ∀ W, Ext I w W → StaR W s si sb) (hd : ∀ W, Ext I w W → Sv.ok dDee W (a, n, c) l) (hl : s.inos.length + l.length ≤ 1000000000 ∧ s.bad.length + l.length ≤ 1000000000) :
    Fn0 Try.prog 45 #[.agg (staC s si sb).toArray, .slice a n c] w I (fun y : Sl × Sl => .agg (staC (applyL s l) y.1 y.2).toArray) (fun y W => StaR W (applyL s l) y.1 y.2) := by
  obtain rfl : n = l.length := (hd w (Ext.refl _ _)).1
  refine enter (svs := [.ag ((staC s si sb).map .v), .c (.v (.slice a l.length c))]) tysOk Try.func45 rfl Try.ntmps45 Try.results45 (by kernel_rfl) (by simp) hI (fun W => StaR W s si sb ∧ Sv.ok dDee W (a, l.length, c) l) (fun W e => ⟨h W e, hd W e⟩) fun C hC hN ok => ?_
  obtain ⟨ia, ic⟩ := si
  obtain ⟨ba, bc⟩ := sb
  simp [hN]
  intro g2 g4
  refine loop ok (fun y : Nat × Sl × Sl => [(5, .c (.v (.int .i64 (y.1 : Nat))))]) (fun y => [(2, .box g2 43 ((staC (applyL s (l.take y.1)) y.2.1 y.2.2).map .v)), (4, .box g4 43 [.v (.int .i64 0), .v (.slice none 0 0), .v (.slice none 0 0)])]) (fun y W => y.1 ≤ l.length ∧ StaR W (applyL s (l.take y.1)) y.2.1 y.2.2) (fun y => l.length - y.1) (0, (ia, ic), (ba, bc)) ?_ ?_ (fun W hW => ⟨Nat.zero_le _, hW.1⟩) ?_
  · simp
  · simp [applyL]
  rintro ⟨i, ⟨pa, pc⟩, ⟨qa, qc⟩⟩ W ⟨hi, hS⟩ hG next
  have hlen := applyL_len s (l.take i)
  rw [List.length_take] at hlen
  generalize hSe : applyL s (l.take i) = S at next hlen hS
  simp only at hS hi
  rcases Nat.lt_or_ge i l.length with hlt | hge
  · obtain ⟨b, o, e⟩ := (show Sv.ok dDee W (a, l.length, c) l from hG.2).2.2.2.is_some (show 0 < l.length by omega)
    cases e
    have e6 : IntKind.i64.wrap ((i : Int) + 1) = (i + 1 : Nat) := by rw [w64 (by omega) (by omega)]; omega
    have ft : l.take (i + 1) = l.take i ++ [l[i]] := by rw [List.take_add_one, List.getElem?_eq_getElem hlt]; rfl
    generalize hde : l[i] = d at ft
    have fa : applyL s (l.take (i + 1)) = applyOne S d := by rw [ft, applyL_snoc, hSe]
    simp [hN, hlt]
    refine loadA ok rfl rfl rfl rfl (fun q W => dDee.K W d q) (fun W hW => ?_) ?_
    · obtain ⟨cs, hk, hcl, hc⟩ := hW.2.2.2.2.2.get hlt
      rw [hde] at hk
      exact ⟨cs, hcl, hc, hk⟩
    rintro v W _ ⟨⟨ea, ec⟩, ⟨ra, rc⟩, rfl, hR⟩ hG2
    simp [hN]
    intro g6
    refine ⟨fun k1 => ?_, fun k1 => ⟨fun k2 => ?_, fun k2 => ⟨fun k3 => ?_, fun k3 => ⟨fun k4 => ?_, fun k4 => ?_⟩⟩⟩⟩
    · have fo : applyOne S d = { S with next := d.no } := by simp [applyOne, k1]
      refine next (i + 1, (pa, pc), (qa, qc)) _ _ (by simp; omega) (fun W h => ⟨⟨hlt, ?_⟩, h.2.2⟩) ?_
      · simp only [fa, fo]; exact h.2.1.2
      · simp [e6, fa, fo]
    · have fo : applyOne S d = { S with inos := putInoL S.inos d.ino } := by simp [applyOne, k2]
      refine call0 ok rfl rfl rfl (fun w I hI hG => putIno0 w I hI S.inos d.ino (ea, ec) (ra, rc) (fun W e => ⟨rfl, (hG W e).2.1.2.1⟩) (fun W e => dee_get (hG W e).1) (by omega)) fun q W hq => ?_
      obtain ⟨ua, un, uc⟩ := q
      obtain rfl : un = _ := hq.1
      simp [hN]
      refine next (i + 1, (ua, uc), (qa, qc)) _ _ (by simp; omega) (fun W h => ⟨⟨hlt, ?_⟩, h.2.2.2⟩) ?_
      · simp only [fa, fo]; exact ⟨h.1.2, h.2.2.1.2.2⟩
      · simp [e6, fa, fo]
    · have fo : applyOne S d = { S with inos := S.inos.filter fun x => decide (x.no ≠ d.no) } := by simp [applyOne, k3]
      refine nilr 600 63 7 (loop ok (fun y : Nat × Sl × List Value => [(8, .c (.v (.int .i64 (y.1 : Nat)))), (7, .c (.v (.slice y.2.1.1 ((S.inos.take y.1).filter fun x => decide (x.no ≠ d.no)).length y.2.1.2)))]) (fun y => [(600, .row y.2.1.1 ((S.inos.take y.1).filter fun x => decide (x.no ≠ d.no)).length y.2.1.2 63 7 (y.2.2.map nv)), (6, .box g6 90 ((deeC d (ea, ec) (ra, rc)).map .v)), (2, .box g2 43 ((staC S (pa, pc) (qa, qc)).map .v)), (4, .box g4 43 [.v (.int .i64 0), .v (.slice none 0 0), .v (.slice none 0 0)])]) (fun y W => y.1 ≤ S.inos.length ∧ Rows dIno W ((S.inos.take y.1).filter fun x => decide (x.no ≠ d.no)) y.2.2) (fun y => S.inos.length - y.1) (0, (none, 0), []) ?_ ?_ (fun W hW => ⟨Nat.zero_le _, rows_nil _ _⟩) ?_)
      · simp
      · simp
      rintro ⟨k, ⟨oa, oc⟩, q⟩ W ⟨hk, hrw⟩ hGk nextk
      simp only at hk hrw
      rcases Nat.lt_or_ge k S.inos.length with hkl | hkg
      · obtain ⟨b', o', e, _⟩ := ino_no (show Sv.ok dIno W (pa, S.inos.length, pc) S.inos from ⟨rfl, hGk.2.1.2.1⟩) hkl
        cases e
        have e7 : IntKind.i64.wrap ((k : Int) + 1) = (k + 1 : Nat) := by rw [w64 (by omega) (by omega)]; omega
        have fk : S.inos.take (k + 1) = S.inos.take k ++ [S.inos[k]] := by rw [List.take_add_one, List.getElem?_eq_getElem hkl]; rfl
        have flen : ((S.inos.take k).filter fun x => decide (x.no ≠ d.no)).length ≤ k := Nat.le_trans (List.length_filter_le _ _) (by simp; omega)
        generalize hLk : (S.inos.take k).filter (fun x => decide (x.no ≠ d.no)) = L at hrw flen nextk
        simp [hN, hkl]
        refine drawK ok mixed (by kernel_rfl) ?_
        simp (maxSteps := 2000000) -implicitDefEqProofs [hN, hkl]
        refine load1 ok rfl rfl rfl rfl (fun v W => v = .int .i64 S.inos[k].no) (fun W hW => ?_) ?_
        · obtain ⟨b'', o'', e, hc⟩ := ino_no (show Sv.ok dIno W _ S.inos from ⟨rfl, hW.2.2.1.2.1⟩) hkl
          cases e
          exact ⟨_, hc, rfl⟩
        rintro v W rfl _
        simp (maxSteps := 2000000) -implicitDefEqProofs [hN, e7]
        refine ⟨fun hne => ⟨hkl, ?_⟩, fun heq => ?_⟩
        · have fk2 : (S.inos.take (k + 1)).filter (fun x => decide (x.no ≠ d.no)) = L ++ [S.inos[k]] := by rw [fk, List.filter_append, hLk]; simp [hne]
          generalize hxe : S.inos[k] = x at fk2
          refine loadA ok rfl rfl rfl rfl (fun v W => dIno.K W x v) (fun W hW => ?_) ?_
          · obtain ⟨cs, hk2, hcl, hc⟩ := (show Sv.ok dIno W (_, S.inos.length, pc) S.inos from ⟨rfl, hW.2.2.1.2.1⟩).2.2.2.get hkl
            rw [hxe] at hk2
            exact ⟨cs, hcl, hc, hk2⟩
          rintro v W _ ⟨⟨ea2, ec2⟩, ⟨ra2, rc2⟩, rfl, hR2⟩ _
          simp (maxSteps := 2000000) -implicitDefEqProofs [hN, e7]
          intro g58
          refine appR ok 600 58 rfl rfl rfl rfl rfl (by decide) rfl rfl rfl rfl rfl rfl rfl (by decide) (by simp) (by show (L.length + 1) * 96 ≤ _; omega) (by omega) fun g' c' => ?_
          simp (maxSteps := 2000000) -implicitDefEqProofs [hN, e7]
          refine nextk (k + 1, (some ⟨g', 0, none⟩, c'), q ++ inoC x (ea2, ec2) (ra2, rc2)) _ _ (by simp; omega) (fun W h => ⟨⟨hkl, ?_⟩, h.2.2⟩) ?_
          · simp only [fk2]
            exact h.2.1.2.snoc h.1
          · simp only [fk2]
            simp [k1, k2, k3]
        · have fk2 : (S.inos.take (k + 1)).filter (fun x => decide (x.no ≠ d.no)) = L := by rw [fk, List.filter_append, hLk]; simp [heq]
          refine nextk (k + 1, (oa, oc), q) _ _ (by simp; omega) (fun W h => ⟨⟨hkl, ?_⟩, h.2⟩) ?_
          · simp only [fk2]
            exact h.1.2
          · simp only [fk2]
            simp [k1, k2, k3]
      · have hk' : S.inos.take k = S.inos := List.take_of_length_le hkg
        simp only [hk'] at hrw ⊢
        clear nextk
        simp [hN, Nat.not_lt.2 hkg]
        have flen : (S.inos.filter fun x => decide (x.no ≠ d.no)).length ≤ S.inos.length := List.length_filter_le _ _
        refine pub 600 rfl (by decide) (next (i + 1, (oa, oc), (qa, qc)) _ _ (by simp; omega) (fun W h => ⟨⟨hlt, ?_⟩, h.2.2.2.2⟩) ?_)
        · simp only [fa, fo]
          have hr : Rows dIno W (S.inos.filter fun x => decide (x.no ≠ d.no)) q := by have := h.2.1.2; simpa using this
          have h1 : W.ownsRow 0 63 dIno.sz (.slice oa (S.inos.filter fun x => decide (x.no ≠ d.no)).length oc) (S.inos.filter fun x => decide (x.no ≠ d.no)).length q := by have h1 := h.1; simp at h1; simpa [dIno] using h1
          exact ⟨(Rows.sv hr (by decide) (by omega) h1).2, h.2.2.2.1.2.2⟩
        · simp [e6, fa, fo]
    · have fo : applyOne S d = { S with bad := addBadL S.bad d.no } := by simp [applyOne, k4]
      refine call0 ok rfl rfl rfl (fun w I hI hG => addBad0 w I hI S.bad d.no (fun W e => ⟨rfl, (hG W e).2.1.2.2⟩) (by omega)) fun q W hq => ?_
      obtain ⟨ua, un, uc⟩ := q
      obtain rfl : un = _ := hq.1
      simp [hN]
      refine next (i + 1, (pa, pc), (ua, uc)) _ _ (by simp; omega) (fun W h => ⟨⟨hlt, ?_⟩, h.2.2.2⟩) ?_
      · simp only [fa, fo]; exact ⟨h.2.2.1.2.1, h.1.2⟩
      · simp [e6, fa, fo]
    · have fo : applyOne S d = S := by simp [applyOne, k1, k2, k3, k4]
      refine next (i + 1, (pa, pc), (qa, qc)) _ _ (by simp; omega) (fun W h => ⟨⟨hlt, ?_⟩, h.2.2⟩) ?_
      · simp only [fa, fo]; exact h.2.1.2
      · simp [e6, fa, fo]
  · have hi' : i = l.length := by omega
    have hT : l.take i = l := List.take_of_length_le hge
    rw [hT] at hSe
    subst hSe
    simp [hN, Nat.not_lt.2 hge]
    exact ret0 hC ((pa, pc), (qa, qc)) rfl fun W _ hG => hG.1.2
end Go.Proofs.Ytfmkpkmhhlakoaa.Sx

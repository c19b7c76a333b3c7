/- putInode of the reference. -/
import Derived.Test.YtfmkpkmhhlakoaaSk17
set_option linter.unusedVariables false
set_option linter.unusedSimpArgs false
namespace Go.Proofs.Ytfmkpkmhhlakoaa.Sx
open Go

attribute [local simp ↓] ifb_true' ifb_false'
attribute [local simp] ifb_true ifb_false ifb_eq sx argsT find ev evOp evs evo evBin evInt evStr evNil evNilA ptrA slcA isNoneA asB evLoad look del cellsB evUn evConv kdec fld evFieldA evField evIdxA evIdx evSlc bndL bndH evLen mmi put resV guardV gvL setO tupV cellsOf ones one upd lits nv exitTo SV.val CV.val TI.agg rdyA allR keepB scan simpO gsp isS subs keepT pickT wr memN pubs Res.fact Region.binds bld rest give delL back Res.eqv vi vb num Sv.val undef
def replI : List Ino → Ino → List Ino
  | [], _ => []
  | y :: r, x => if y.no = x.no then x :: r else y :: replI r x
/-- An inode is laid behind all whose numbers are not larger. -/
def insI : List Ino → Ino → List Ino
  | [], x => [x]
  | y :: r, x => if y.no ≤ x.no then y :: insI r x else x :: y :: r
theorem replI_at : ∀ (l : List Ino) (x : Ino) (i : Nat) (hi : i < l.length), (∀ y, y ∈ l.take i → y.no ≠ x.no) → l[i].no = x.no → replI l x = l.set i x
  | [], x, i, hi, _, _ => by simp at hi
  | y :: r, x, 0, _, _, h => by simp at h; simp [replI, h]
  | y :: r, x, i + 1, hi, h1, h2 => by
    have := h1 y (by simp)
    simp only [replI, if_neg this, List.set_cons_succ]
    rw [replI_at r x i (by simpa using hi) (fun z hz => h1 z (by simp [hz])) (by simpa using h2)]
theorem insI_at : ∀ (l : List Ino) (x : Ino) (i : Nat), i ≤ l.length → (∀ y, y ∈ l.take i → y.no ≤ x.no) → (∀ h : i < l.length, x.no < l[i].no) → insI l x = l.take i ++ x :: l.drop i
  | [], x, i, _, _, _ => by simp [insI]
  | y :: r, x, 0, _, _, h => by
    have := h (by simp)
    simp only [List.getElem_cons_zero] at this
    simp only [insI]
    rw [if_neg (by omega)]
    simp
  | y :: r, x, i + 1, hi, h1, h2 => by
    have := h1 y (by simp)
    simp only [insI, if_pos this, List.take_succ_cons, List.drop_succ_cons, List.cons_append]
    rw [insI_at r x i (by simpa using hi) (fun z hz => h1 z (by simp [hz])) (fun h => by have := h2 (by simpa using h); simpa using this)]
def hasI (l : List Ino) (no : Int) : Prop := ∃ y, y ∈ l ∧ y.no = no
open Classical in
noncomputable def putInoL (l : List Ino) (x : Ino) : List Ino := if hasI l x.no then replI l x else insI l x
theorem ino_no {W : World} {a : Option Addr} {n c : Nat} {l : List Ino} (h : Sv.ok dIno W (a, n, c) l) {i : Nat} (hi : i < l.length) : ∃ b o, a = some ⟨b, o, none⟩ ∧ W.cell? ⟨b, o + i * 7, none⟩ = some (.int .i64 l[i].no) := by
  obtain ⟨b, o, e⟩ := h.2.2.2.is_some (show 0 < l.length by omega)
  cases e
  obtain ⟨cs, hk, _, hc⟩ := h.2.2.2.get hi
  refine ⟨b, o, rfl, ?_⟩
  obtain ⟨e, r, rfl, _⟩ := hk
  exact hc 0 (.int .i64 l[i].no) rfl
theorem rows_no {W : World} {l : List Ino} {q : List Value} (h : Rows dIno W l q) {i : Nat} (hi : i < l.length) : q[i * 7]? = some (.int .i64 l[i].no) := by
  obtain ⟨c, hk, _, hc⟩ := h.at hi
  obtain ⟨e, r, rfl, _⟩ := hk
  exact hc 0 _ rfl
set_option maxHeartbeats 4000000 in
theorem putIno0 (w : World) (I : Nat → Prop) (hI : ∀ b, I b → b < w.heap.size) {a : Option Addr} {n c : Nat} (l : List Ino) (x : Ino) (e r : Sl) (h : ∀ W, Ext I w W → Sv.ok dIno W (a, n, c) l) (hx : ∀ W, Ext I w W → InoR W x e r) (hl : l.length ≤ 1000000000) :
    Fn0 Try.prog 70 #[.slice a n c, .agg (inoC x e r).toArray] w I Sv.val (fun q W => Sv.ok dIno W q (putInoL l x)) := by
  obtain rfl : n = l.length := (h w (Ext.refl _ _)).1
  have hcap : l.length ≤ c := (h w (Ext.refl _ _)).2.1
  refine enter (svs := [.c (.v (.slice a l.length c)), .ag ((inoC x e r).map .v)]) tysOk Try.func70 rfl Try.ntmps70 Try.results70 (by kernel_rfl) (by simp) hI (fun W => Sv.ok dIno W (a, l.length, c) l ∧ InoR W x e r) (fun W e => ⟨h W e, hx W e⟩) fun C hC hN ok => ?_
  obtain ⟨ea, ec⟩ := e
  obtain ⟨ra, rc⟩ := r
  simp [hN]
  intro g3
  refine nilr 600 63 7 (appV ok 600 rfl rfl rfl rfl rfl (by decide) rfl rfl rfl rfl rfl rfl dIno l rfl (by show (0 + _) * 96 ≤ _; omega) (by omega) (fun W hW => hW.1) fun q a2 c2 W hql hq _ => ?_)
  replace hql : q.length = l.length * 7 := hql
  simp [hN]
  refine rowAddr 600 rfl fun hsh => rowLe 600 rfl fun hc2 => ?_
  refine loop ok (fun i : Nat => [(6, .c (.v (.int .i64 i)))]) (fun _ => [(600, .row a2 l.length c2 63 7 (q.map nv)), (3, .box g3 63 ((inoC x (ea, ec) (ra, rc)).map .v))]) (fun i W => i ≤ l.length ∧ ∀ y, y ∈ l.take i → y.no ≠ x.no) (fun i => l.length - i) 0 ?_ ?_ (fun W hW => ⟨Nat.zero_le _, by simp⟩) ?_
  · simp
  · simp
  rintro i W ⟨hi, hne⟩ hG next
  rcases Nat.lt_or_ge i l.length with hlt | hge
  · have e6 : IntKind.i64.wrap ((i : Int) + 1) = (i + 1 : Nat) := by rw [w64 (by omega) (by omega)]; omega
    have ft : l.take (i + 1) = l.take i ++ [l[i]] := by rw [List.take_add_one, List.getElem?_eq_getElem hlt]; rfl
    have hqn := rows_no hq hlt
    have hqb : i * 7 < q.length := by rw [hql]; show i * 7 < l.length * 7; omega
    simp [hN, hlt]
    refine rowSome 600 rfl (by omega) fun g e => ?_
    subst e
    refine drawK ok mixed (by kernel_rfl) ?_
    simp (maxSteps := 2000000) -implicitDefEqProofs [hN, hlt, hqn]
    refine ⟨by omega, fun hy => ⟨by omega, ?_⟩, fun hn => ?_⟩
    · refine ret0 hC (some ⟨g, 0, none⟩, l.length, c2) rfl fun W hp hG => ?_
      have hpl : putInoL l x = l.set i x := by
        rw [putInoL, if_pos ⟨l[i], List.getElem_mem _, hy⟩]
        exact replI_at l x i hlt hne hy
      rw [hpl]
      refine (Rows.set hG.2.1 ⟨(ea, ec), (ra, rc), rfl, hG.2.2.2⟩ hlt).sv (base := 0) (e := 63) (by decide) (by simp; omega) ?_
      have h1 := hp.1
      simp [List.map_set] at h1
      simpa [updV, dIno] using h1
    · refine next (i + 1) _ _ (by omega) (fun W h => ⟨⟨hlt, fun z hz => ?_⟩, h.2⟩) ?_
      · rw [ft] at hz
        rcases List.mem_append.1 hz with hz | hz
        · exact hne z hz
        · rw [List.mem_singleton.1 hz]
          exact hn
      · simp [e6]
  · have hnh : ¬ hasI l x.no := by
      rintro ⟨y, hy, e⟩
      refine hne y ?_ e
      rwa [List.take_of_length_le hge]
    have hpl : putInoL l x = insI l x := by rw [putInoL, if_neg hnh]
    clear next hne
    simp [hN, Nat.not_lt.2 hge]
    refine loop ok (fun i : Nat => [(7, .c (.v (.int .i64 i)))]) (fun _ => [(600, .row a2 l.length c2 63 7 (q.map nv)), (3, .box g3 63 ((inoC x (ea, ec) (ra, rc)).map .v))]) (fun i W => i ≤ l.length ∧ ∀ y, y ∈ l.take i → y.no ≤ x.no) (fun i => l.length - i) 0 ?_ ?_ (fun W hW => ⟨Nat.zero_le _, by simp⟩) ?_
    · simp
    · simp
    rintro j W ⟨hj, hle⟩ hG next
    rcases Nat.lt_or_ge j l.length with hlt | hgj
    · obtain ⟨b, o, e, _⟩ := ino_no (show Sv.ok dIno W (a, l.length, c) l from hG.2.2.1) hlt
      cases e
      have e6 : IntKind.i64.wrap ((j : Int) + 1) = (j + 1 : Nat) := by rw [w64 (by omega) (by omega)]; omega
      have ft : l.take (j + 1) = l.take j ++ [l[j]] := by rw [List.take_add_one, List.getElem?_eq_getElem hlt]; rfl
      simp [hN]
      refine drawK ok mixed (by kernel_rfl) ?_
      simp (maxSteps := 2000000) -implicitDefEqProofs [hN, hlt]
      refine load1 ok rfl rfl rfl rfl (fun v W => v = .int .i64 l[j].no) (fun W hW => ?_) ?_
      · obtain ⟨b', o', e, hc⟩ := ino_no hW.2.2.2.1 hlt
        cases e
        exact ⟨_, hc, rfl⟩
      rintro v W rfl _
      simp (maxSteps := 2000000) -implicitDefEqProofs [hN, e6]
      refine ⟨fun he => next (j + 1) _ _ (by omega) (fun W h => ⟨⟨hlt, fun z hz => ?_⟩, h.2⟩) ?_, fun he => ?_⟩
      · rw [ft] at hz
        rcases List.mem_append.1 hz with hz | hz
        · exact hle z hz
        · rw [List.mem_singleton.1 hz]
          exact he
      · simp
      · have hins : insI l x = l.take j ++ x :: l.drop j := insI_at l x j hj hle fun _ => by omega
        refine pub 600 rfl (by decide) (nilr 601 63 7 (draw ok [(3, .box g3 63 ((inoC x (ea, ec) (ra, rc)).map .v))] (by rw [ok.P]; exact mixed) (by kernel_rfl) ?_))
        simp (maxSteps := 2000000) -implicitDefEqProofs [hN]
        and_intros
        all_goals try omega
        rotate_left 1
        intro g
        all_goals
          refine slc3 ok rfl rfl rfl rfl rfl rfl rfl rfl rfl (by omega) (Int.le_refl _) (by omega) ?_
          simp (maxSteps := 2000000) -implicitDefEqProofs [hN]
        rotate_left 1
        intro g
        all_goals
          refine appF ok 601 50 rfl rfl rfl rfl rfl (by decide) rfl rfl rfl rfl rfl rfl rfl (by decide) (by simp) dIno (l.take j) rfl (by show (_ + 1) * 96 ≤ _; omega) (by omega) (fun W hW => ?_) (by rcases hsh with h | h; exact .inl h.1; exact .inr h) fun q2 g2 c3 W _ hq2 _ => ?_
          · exact Sv.full (Rows.sv (d := dIno) (base := 0) (e := 63) hW.2.2.2.1 (by decide) (by omega) hW.1) hj
          simp (maxSteps := 2000000) -implicitDefEqProofs [hN]
          refine appV ok 601 rfl rfl rfl rfl rfl (by decide) rfl rfl rfl rfl rfl rfl dIno (l.drop j) rfl (by show (_ + _) * 96 ≤ _; simp; omega) (by simp; omega) (fun W hW => by have := Sv.drop hW.2.2.2.2.2.1 hj; simpa [dIno] using this) fun q3 a4 c4 W _ hq3 _ => ?_
          simp (maxSteps := 2000000) -implicitDefEqProofs [hN]
          refine ret0 hC (a4, min j l.length + 1 + (l.length - j), c4) rfl fun W hp hG => ?_
          rw [hpl, hins]
          refine (hG.2.1.append ((Rows.sole (d := dIno) (x := x) ⟨(ea, ec), (ra, rc), rfl, hG.2.2.2.2.2.2.2⟩).append hG.1)).sv (base := 0) (e := 63) (by decide) (by simp; omega) ?_
          have h1 := hp.1
          simpa [dIno] using h1
    · simp [hN]
      refine drawK ok mixed (by kernel_rfl) ?_
      simp (maxSteps := 2000000) -implicitDefEqProofs [hN, Nat.not_lt.2 hgj]
      have hins : insI l x = l.take j ++ x :: l.drop j := insI_at l x j hj hle fun h => absurd h (by omega)
      refine pub 600 rfl (by decide) (nilr 601 63 7 (draw ok [(3, .box g3 63 ((inoC x (ea, ec) (ra, rc)).map .v))] (by rw [ok.P]; exact mixed) (by kernel_rfl) ?_))
      simp (maxSteps := 2000000) -implicitDefEqProofs [hN]
      and_intros
      all_goals try omega
      rotate_left 1
      intro g
      all_goals
        refine slc3 ok rfl rfl rfl rfl rfl rfl rfl rfl rfl (by omega) (Int.le_refl _) (by omega) ?_
        simp (maxSteps := 2000000) -implicitDefEqProofs [hN]
      rotate_left 1
      intro g
      all_goals
        refine appF ok 601 50 rfl rfl rfl rfl rfl (by decide) rfl rfl rfl rfl rfl rfl rfl (by decide) (by simp) dIno (l.take j) rfl (by show (_ + 1) * 96 ≤ _; omega) (by omega) (fun W hW => ?_) (by rcases hsh with h | h; exact .inl h.1; exact .inr h) fun q2 g2 c3 W _ hq2 _ => ?_
        · exact Sv.full (Rows.sv (d := dIno) (base := 0) (e := 63) hW.2.2.2.1 (by decide) (by omega) hW.1) hj
        simp (maxSteps := 2000000) -implicitDefEqProofs [hN]
        refine appV ok 601 rfl rfl rfl rfl rfl (by decide) rfl rfl rfl rfl rfl rfl dIno (l.drop j) rfl (by show (_ + _) * 96 ≤ _; simp; omega) (by simp; omega) (fun W hW => by have := Sv.drop hW.2.2.2.2.2.1 hj; simpa [dIno] using this) fun q3 a4 c4 W _ hq3 _ => ?_
        simp (maxSteps := 2000000) -implicitDefEqProofs [hN]
        refine ret0 hC (a4, min j l.length + 1 + (l.length - j), c4) rfl fun W hp hG => ?_
        rw [hpl, hins]
        refine (hG.2.1.append ((Rows.sole (d := dIno) (x := x) ⟨(ea, ec), (ra, rc), rfl, hG.2.2.2.2.2.2.2⟩).append hG.1)).sv (base := 0) (e := 63) (by decide) (by simp; omega) ?_
        have h1 := hp.1
        simpa [dIno] using h1
end Go.Proofs.Ytfmkpkmhhlakoaa.Sx

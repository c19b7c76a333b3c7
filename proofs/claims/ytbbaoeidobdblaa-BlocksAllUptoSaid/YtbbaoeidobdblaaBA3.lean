/- Laid together: Sk17, Sk18, Sk19, Sk20, Sk21, Sk22, Sk23, Sxm, Sk30, Sp3, Maps, Sxn, Keya, Sk33, Sk36, Sk39, Sk44, Sp4, Sp5, Shelf, Intb, Keyb, Sb1, Sg1, Sg2. -/
import Derived.Test.YtbbaoeidobdblaaBA2
import Derived.Maps.RangeWalk
import Derived.Maps.OwnSet
import Derived.Carry
import Derived.OwnWalk
import Derived.Test.YtbbaoeidobdblaaProg
import Derived.WideKeyArgs
import Derived.DeepKeys4
import Derived.KernelRfl
import Derived.Shelf.Small.Bits
import Derived.Shelf.Small.Wraps
import Derived.Shelf.Strconv.Itoa0
import Derived.Shelf.Sort.Plain
import Derived.Shelf.Bits.Mul64
import Derived.Shelf.Slices.Turned
import Derived.Shelf.Slices.Reverse
import Derived.Ground.Names2Prog
import Derived.Shelf.Slices.Clone
import Derived.Shelf.Slices.SearchI
import Derived.Shelf.Slices.Cells
import Derived.Shelf.Slices.In.SortNone
import Derived.Ground.SlgnProg
import Derived.Shelf.SlicesE.Clone
import Derived.Lib.OwnBridge
import Derived.WalkKit
import Derived.WalkSpells
import Derived.StillTailTactics
import Derived.Lib.Hide
import Derived.Deep.RegionWith
import Derived.Deep.LoopGhost
import Derived.WalkLawsBesides
import Derived.Lib.SlicesCompact
/- addBad of the reference. -/
set_option linter.unusedVariables false
set_option linter.unusedSimpArgs false
namespace Go.Proofs.Ytbbaoeidobdblaa.Sx
open Go
attribute [local simp ↓] ifb_true' ifb_false'
attribute [local simp] ifb_true ifb_false ifb_eq sx argsT find ev evOp evs evo evBin evInt evStr evNil evNilA ptrA slcA isNoneA asB evLoad look del cellsB evUn evConv kdec fld evFieldA evField evIdxA evIdx evSlc bndL bndH evLen mmi put resV guardV gvL setO tupV cellsOf ones one upd lits nv exitTo SV.val CV.val TI.agg rdyA allR keepB scan simpO gsp isS subs keepT pickT wr memN pubs Res.fact Region.binds bld rest give delL back Res.eqv vi vb num Sv.val undef
/-- A number is laid behind all that are not larger. -/
def insL : List Int → Int → List Int
  | [], x => [x]
  | y :: r, x => if y ≤ x then y :: insL r x else x :: y :: r
theorem insL_at : ∀ (l : List Int) (x : Int) (i : Nat), i ≤ l.length → (∀ y, y ∈ l.take i → y ≤ x) → (∀ h : i < l.length, x < l[i]) → insL l x = l.take i ++ x :: l.drop i
  | [], x, i, _, _, _ => by simp [insL]
  | y :: r, x, 0, _, _, h => by
    have := h (by simp)
    simp only [List.getElem_cons_zero] at this
    simp only [insL]
    rw [if_neg (by omega)]
    simp
  | y :: r, x, i + 1, hi, h1, h2 => by
    have := h1 y (by simp)
    simp only [insL, if_pos this, List.take_succ_cons, List.drop_succ_cons, List.cons_append]
    rw [insL_at r x i (by simpa using hi) (fun z hz => h1 z (by simp [hz])) (fun h => by have := h2 (by simpa using h); simpa using this)]
def addBadL (l : List Int) (x : Int) : List Int := if x ∈ l then l else insL l x
theorem addBad0 (w : World) (I : Nat → Prop) (hI : ∀ b, I b → b < w.heap.size) {a : Option Addr} {n c : Nat} (l : List Int) (x : Int) (h : ∀ W, Ext I w W → Sv.ok dInt W (a, n, c) l) (hl : l.length ≤ 1000000000) :
    Fn0 Try.prog 85 #[.slice a n c, .int .i64 x] w I Sv.val (fun r W => Sv.ok dInt W r (addBadL l x)) := by
  obtain rfl : n = l.length := (h w (Ext.refl _ _)).1
  refine enter (svs := [.c (.v (.slice a l.length c)), .c (.v (.int .i64 x))]) tysOk Try.func85 rfl Try.ntmps85 Try.results85 (by kernel_rfl) (by simp) hI (fun W => Sv.ok dInt W (a, l.length, c) l) h fun C hC hN ok => ?_
  simp [hN]
  refine call0 ok rfl rfl rfl (fun w I hI hG => in0 w I hI l x hG) fun y W hy => ?_
  simp [hN]
  refine ⟨fun hyes => ?_, fun hno => ?_⟩
  · rw [hy] at hyes
    exact ret0 hC (a, l.length, c) rfl fun W _ hG => by rw [addBadL, if_pos (of_decide_eq_true hyes)]; exact hG.2
  rw [hy] at hno
  have hm : addBadL l x = insL l x := by rw [addBadL, if_neg (of_decide_eq_false hno)]
  rw [hm] at hC
  refine nilr 600 3 1 (loop ok (fun i : Nat => [(5, .c (.v (.int .i64 i)))]) (fun _ => [(600, .row none 0 0 3 1 [])]) (fun i W => i ≤ l.length ∧ ∀ y, y ∈ l.take i → y ≤ x) (fun i => l.length - i) 0 ?_ ?_ (fun W hW => ⟨Nat.zero_le _, by simp⟩) ?_)
  · simp
  · simp
  rintro i W ⟨hi, hle⟩ hG next
  rcases Nat.lt_or_ge i l.length with hlt | hge
  · obtain ⟨b, o, e, _⟩ := int_get (show Sv.ok dInt W (a, l.length, c) l from hG.2) hlt
    cases e
    have e6 : IntKind.i64.wrap ((i : Int) + 1) = (i + 1 : Nat) := by rw [w64 (by omega) (by omega)]; omega
    have ft : l.take (i + 1) = l.take i ++ [l[i]] := by rw [List.take_add_one, List.getElem?_eq_getElem hlt]; rfl
    have hcap : l.length ≤ c := (h w (Ext.refl _ _)).2.1
    simp [hN, hlt]
    refine load1 ok rfl rfl rfl rfl (fun v W => v = .int .i64 l[i]) (fun W hW => ?_) ?_
    · obtain ⟨b', o', e, hc⟩ := int_get hW.2.2 hlt
      cases e
      exact ⟨_, hc, rfl⟩
    rintro v W rfl _
    simp [hN, e6]
    refine ⟨fun he => next (i + 1) _ _ (by omega) (fun W h => ⟨⟨hlt, fun z hz => ?_⟩, h.2⟩) ?_, fun he => ?_⟩
    · rw [ft] at hz
      rcases List.mem_append.1 hz with hz | hz
      · exact hle z hz
      · rw [List.mem_singleton.1 hz]
        exact he
    · simp [hy, of_decide_eq_false hno]
    · have hlt2 : x < l[i] := by omega
      have hins := insL_at l x i hi hle (fun _ => hlt2)
      have hti : (l.take i).length = i := by simp; omega
      have hdi : (l.drop i).length = l.length - i := by simp
      refine drawW ok mixed (by kernel_rfl) ?_
      simp (maxSteps := 2000000) -implicitDefEqProofs [hN]
      and_intros
      all_goals try omega
      rotate_left 1
      intro g
      all_goals
        refine appV ok 600 rfl rfl rfl rfl rfl (by decide) rfl rfl rfl rfl rfl rfl dInt (l.take i) rfl (by show (_ + _) * 8 ≤ _; simp; omega) (by simp; omega) (fun W hW => Sv.take hW.2.2 hi) fun q a2 c2 W _ hq _ => ?_
        obtain rfl := rows_int.1 hq
        simp (maxSteps := 2000000) -implicitDefEqProofs [hN]
      rotate_left 1
      intro g
      all_goals
        refine appR ok 600 29 rfl rfl rfl rfl rfl (by decide) rfl rfl rfl rfl rfl rfl rfl (by decide) (by simp) (by show (_ + 1) * 8 ≤ _; omega) (by omega) fun g3 c3 => ?_
        simp (maxSteps := 2000000) -implicitDefEqProofs [hN]
        refine appV ok 600 rfl rfl rfl rfl rfl (by decide) rfl rfl rfl rfl rfl rfl dInt (l.drop i) rfl (by show (_ + _) * 8 ≤ _; simp; omega) (by simp; omega) (fun W hW => by have := Sv.drop hW.2.2.2 hi; simpa [dInt, flat] using this) fun q2 a4 c4 W _ hq2 _ => ?_
        obtain rfl := rows_int.1 hq2
        simp (maxSteps := 2000000) -implicitDefEqProofs [hN]
        refine ret0 hC (a4, min i l.length + 1 + (l.length - i), c4) rfl fun W hp hG => ?_
        rw [hins]
        exact (rows_int.2 rfl : Rows dInt W (l.take i ++ x :: l.drop i) _).sv (by decide) (by simp; omega) (by have h1 := hp.1; simpa [Function.comp_def, dInt, flat] using h1)
  · simp [hN, Nat.not_lt.2 hge]
    have hlen : i = l.length := by omega
    have hcap : l.length ≤ c := (h w (Ext.refl _ _)).2.1
    have hins := insL_at l x i hi hle (fun h => absurd h (by omega))
    have hti : (l.take i).length = i := by simp; omega
    have hdi : (l.drop i).length = l.length - i := by simp
    refine drawW ok mixed (by kernel_rfl) ?_
    simp (maxSteps := 2000000) -implicitDefEqProofs [hN]
    and_intros
    all_goals try omega
    rotate_left 1
    intro g
    all_goals
      refine appV ok 600 rfl rfl rfl rfl rfl (by decide) rfl rfl rfl rfl rfl rfl dInt (l.take i) rfl (by show (_ + _) * 8 ≤ _; simp; omega) (by simp; omega) (fun W hW => Sv.take hW.2.2 hi) fun q a2 c2 W _ hq _ => ?_
      obtain rfl := rows_int.1 hq
      simp (maxSteps := 2000000) -implicitDefEqProofs [hN]
    rotate_left 1
    intro g
    all_goals
      refine appR ok 600 29 rfl rfl rfl rfl rfl (by decide) rfl rfl rfl rfl rfl rfl rfl (by decide) (by simp) (by show (_ + 1) * 8 ≤ _; omega) (by omega) fun g3 c3 => ?_
      simp (maxSteps := 2000000) -implicitDefEqProofs [hN]
      refine appV ok 600 rfl rfl rfl rfl rfl (by decide) rfl rfl rfl rfl rfl rfl dInt (l.drop i) rfl (by show (_ + _) * 8 ≤ _; simp; omega) (by simp; omega) (fun W hW => by have := Sv.drop hW.2.2.2 hi; simpa [dInt, flat] using this) fun q2 a4 c4 W _ hq2 _ => ?_
      obtain rfl := rows_int.1 hq2
      simp (maxSteps := 2000000) -implicitDefEqProofs [hN]
      refine ret0 hC (a4, min i l.length + 1 + (l.length - i), c4) rfl fun W hp hG => ?_
      rw [hins]
      exact (rows_int.2 rfl : Rows dInt W (l.take i ++ x :: l.drop i) _).sv (by decide) (by simp; omega) (by have h1 := hp.1; simpa [Function.comp_def, dInt, flat] using h1)
end Go.Proofs.Ytbbaoeidobdblaa.Sx

/- putInode of the reference. -/
set_option linter.unusedVariables false
set_option linter.unusedSimpArgs false
namespace Go.Proofs.Ytbbaoeidobdblaa.Sx
open Go
attribute [local simp ↓] ifb_true' ifb_false'
attribute [local simp] ifb_true ifb_false ifb_eq sx argsT find ev evOp evs evo evBin evInt evStr evNil evNilA ptrA slcA isNoneA asB evLoad look del cellsB evUn evConv kdec fld evFieldA evField evIdxA evIdx evSlc bndL bndH evLen mmi put resV guardV gvL setO tupV cellsOf ones one upd lits nv exitTo SV.val CV.val TI.agg rdyA allR keepB scan simpO gsp isS subs keepT pickT wr memN pubs Res.fact Region.binds bld rest give delL back Res.eqv vi vb num Sv.val undef
def replI : List Ino → Ino → List Ino
  | [], _ => []
  | y :: r, x => if y.no = x.no then x :: r else y :: replI r x
/-- An inode is laid behind all whose numbers are not larger. -/
def insI : List Ino → Ino → List Ino
  | [], x => [x]
  | y :: r, x => if y.no ≤ x.no then y :: insI r x else x :: y :: r
theorem replI_at : ∀ (l : List Ino) (x : Ino) (i : Nat) (hi : i < l.length), (∀ y, y ∈ l.take i → y.no ≠ x.no) → l[i].no = x.no → replI l x = l.set i x
  | [], x, i, hi, _, _ => by simp at hi
  | y :: r, x, 0, _, _, h => by simp at h; simp [replI, h]
  | y :: r, x, i + 1, hi, h1, h2 => by
    have := h1 y (by simp)
    simp only [replI, if_neg this, List.set_cons_succ]
    rw [replI_at r x i (by simpa using hi) (fun z hz => h1 z (by simp [hz])) (by simpa using h2)]
theorem insI_at : ∀ (l : List Ino) (x : Ino) (i : Nat), i ≤ l.length → (∀ y, y ∈ l.take i → y.no ≤ x.no) → (∀ h : i < l.length, x.no < l[i].no) → insI l x = l.take i ++ x :: l.drop i
  | [], x, i, _, _, _ => by simp [insI]
  | y :: r, x, 0, _, _, h => by
    have := h (by simp)
    simp only [List.getElem_cons_zero] at this
    simp only [insI]
    rw [if_neg (by omega)]
    simp
  | y :: r, x, i + 1, hi, h1, h2 => by
    have := h1 y (by simp)
    simp only [insI, if_pos this, List.take_succ_cons, List.drop_succ_cons, List.cons_append]
    rw [insI_at r x i (by simpa using hi) (fun z hz => h1 z (by simp [hz])) (fun h => by have := h2 (by simpa using h); simpa using this)]
def hasI (l : List Ino) (no : Int) : Prop := ∃ y, y ∈ l ∧ y.no = no
open Classical in
noncomputable def putInoL (l : List Ino) (x : Ino) : List Ino := if hasI l x.no then replI l x else insI l x
theorem ino_no {W : World} {a : Option Addr} {n c : Nat} {l : List Ino} (h : Sv.ok dIno W (a, n, c) l) {i : Nat} (hi : i < l.length) : ∃ b o, a = some ⟨b, o, none⟩ ∧ W.cell? ⟨b, o + i * 7, none⟩ = some (.int .i64 l[i].no) := by
  obtain ⟨b, o, e⟩ := h.2.2.2.is_some (show 0 < l.length by omega)
  cases e
  obtain ⟨cs, hk, _, hc⟩ := h.2.2.2.get hi
  refine ⟨b, o, rfl, ?_⟩
  obtain ⟨e, r, rfl, _⟩ := hk
  exact hc 0 (.int .i64 l[i].no) rfl
theorem rows_no {W : World} {l : List Ino} {q : List Value} (h : Rows dIno W l q) {i : Nat} (hi : i < l.length) : q[i * 7]? = some (.int .i64 l[i].no) := by
  obtain ⟨c, hk, _, hc⟩ := h.at hi
  obtain ⟨e, r, rfl, _⟩ := hk
  exact hc 0 _ rfl
set_option maxHeartbeats 4000000 in
theorem putIno0 (w : World) (I : Nat → Prop) (hI : ∀ b, I b → b < w.heap.size) {a : Option Addr} {n c : Nat} (l : List Ino) (x : Ino) (e r : Sl) (h : ∀ W, Ext I w W → Sv.ok dIno W (a, n, c) l) (hx : ∀ W, Ext I w W → InoR W x e r) (hl : l.length ≤ 1000000000) :
    Fn0 Try.prog 84 #[.slice a n c, .agg (inoC x e r).toArray] w I Sv.val (fun q W => Sv.ok dIno W q (putInoL l x)) := by
  obtain rfl : n = l.length := (h w (Ext.refl _ _)).1
  have hcap : l.length ≤ c := (h w (Ext.refl _ _)).2.1
  refine enter (svs := [.c (.v (.slice a l.length c)), .ag ((inoC x e r).map .v)]) tysOk Try.func84 rfl Try.ntmps84 Try.results84 (by kernel_rfl) (by simp) hI (fun W => Sv.ok dIno W (a, l.length, c) l ∧ InoR W x e r) (fun W e => ⟨h W e, hx W e⟩) fun C hC hN ok => ?_
  obtain ⟨ea, ec⟩ := e
  obtain ⟨ra, rc⟩ := r
  simp [hN]
  intro g3
  refine nilr 600 39 7 (appV ok 600 rfl rfl rfl rfl rfl (by decide) rfl rfl rfl rfl rfl rfl dIno l rfl (by show (0 + _) * 96 ≤ _; omega) (by omega) (fun W hW => hW.1) fun q a2 c2 W hql hq _ => ?_)
  replace hql : q.length = l.length * 7 := hql
  simp [hN]
  refine rowAddr 600 rfl fun hsh => rowLe 600 rfl fun hc2 => ?_
  refine loop ok (fun i : Nat => [(6, .c (.v (.int .i64 i)))]) (fun _ => [(600, .row a2 l.length c2 39 7 (q.map nv)), (3, .box g3 39 ((inoC x (ea, ec) (ra, rc)).map .v))]) (fun i W => i ≤ l.length ∧ ∀ y, y ∈ l.take i → y.no ≠ x.no) (fun i => l.length - i) 0 ?_ ?_ (fun W hW => ⟨Nat.zero_le _, by simp⟩) ?_
  · simp
  · simp
  rintro i W ⟨hi, hne⟩ hG next
  rcases Nat.lt_or_ge i l.length with hlt | hge
  · have e6 : IntKind.i64.wrap ((i : Int) + 1) = (i + 1 : Nat) := by rw [w64 (by omega) (by omega)]; omega
    have ft : l.take (i + 1) = l.take i ++ [l[i]] := by rw [List.take_add_one, List.getElem?_eq_getElem hlt]; rfl
    have hqn := rows_no hq hlt
    have hqb : i * 7 < q.length := by rw [hql]; show i * 7 < l.length * 7; omega
    simp [hN, hlt]
    refine rowSome 600 rfl (by omega) fun g e => ?_
    subst e
    refine drawK ok mixed (by kernel_rfl) ?_
    simp (maxSteps := 2000000) -implicitDefEqProofs [hN, hlt, hqn]
    refine ⟨by omega, fun hy => ⟨by omega, ?_⟩, fun hn => ?_⟩
    · refine ret0 hC (some ⟨g, 0, none⟩, l.length, c2) rfl fun W hp hG => ?_
      have hpl : putInoL l x = l.set i x := by
        rw [putInoL, if_pos ⟨l[i], List.getElem_mem _, hy⟩]
        exact replI_at l x i hlt hne hy
      rw [hpl]
      refine (Rows.set hG.2.1 ⟨(ea, ec), (ra, rc), rfl, hG.2.2.2⟩ hlt).sv (base := 0) (e := 39) (by decide) (by simp; omega) ?_
      have h1 := hp.1
      simp [List.map_set] at h1
      simpa [updV, dIno] using h1
    · refine next (i + 1) _ _ (by omega) (fun W h => ⟨⟨hlt, fun z hz => ?_⟩, h.2⟩) ?_
      · rw [ft] at hz
        rcases List.mem_append.1 hz with hz | hz
        · exact hne z hz
        · rw [List.mem_singleton.1 hz]
          exact hn
      · simp [e6]
  · have hnh : ¬ hasI l x.no := by
      rintro ⟨y, hy, e⟩
      refine hne y ?_ e
      rwa [List.take_of_length_le hge]
    have hpl : putInoL l x = insI l x := by rw [putInoL, if_neg hnh]
    clear next hne
    simp [hN, Nat.not_lt.2 hge]
    refine loop ok (fun i : Nat => [(7, .c (.v (.int .i64 i)))]) (fun _ => [(600, .row a2 l.length c2 39 7 (q.map nv)), (3, .box g3 39 ((inoC x (ea, ec) (ra, rc)).map .v))]) (fun i W => i ≤ l.length ∧ ∀ y, y ∈ l.take i → y.no ≤ x.no) (fun i => l.length - i) 0 ?_ ?_ (fun W hW => ⟨Nat.zero_le _, by simp⟩) ?_
    · simp
    · simp
    rintro j W ⟨hj, hle⟩ hG next
    rcases Nat.lt_or_ge j l.length with hlt | hgj
    · obtain ⟨b, o, e, _⟩ := ino_no (show Sv.ok dIno W (a, l.length, c) l from hG.2.2.1) hlt
      cases e
      have e6 : IntKind.i64.wrap ((j : Int) + 1) = (j + 1 : Nat) := by rw [w64 (by omega) (by omega)]; omega
      have ft : l.take (j + 1) = l.take j ++ [l[j]] := by rw [List.take_add_one, List.getElem?_eq_getElem hlt]; rfl
      simp [hN]
      refine drawK ok mixed (by kernel_rfl) ?_
      simp (maxSteps := 2000000) -implicitDefEqProofs [hN, hlt]
      refine load1 ok rfl rfl rfl rfl (fun v W => v = .int .i64 l[j].no) (fun W hW => ?_) ?_
      · obtain ⟨b', o', e, hc⟩ := ino_no hW.2.2.2.1 hlt
        cases e
        exact ⟨_, hc, rfl⟩
      rintro v W rfl _
      simp (maxSteps := 2000000) -implicitDefEqProofs [hN, e6]
      refine ⟨fun he => next (j + 1) _ _ (by omega) (fun W h => ⟨⟨hlt, fun z hz => ?_⟩, h.2⟩) ?_, fun he => ?_⟩
      · rw [ft] at hz
        rcases List.mem_append.1 hz with hz | hz
        · exact hle z hz
        · rw [List.mem_singleton.1 hz]
          exact he
      · simp
      · have hins : insI l x = l.take j ++ x :: l.drop j := insI_at l x j hj hle fun _ => by omega
        refine pub 600 rfl (by decide) (nilr 601 39 7 (draw ok [(3, .box g3 39 ((inoC x (ea, ec) (ra, rc)).map .v))] (by rw [ok.P]; exact mixed) (by kernel_rfl) ?_))
        simp (maxSteps := 2000000) -implicitDefEqProofs [hN]
        and_intros
        all_goals try omega
        rotate_left 1
        intro g
        all_goals
          refine slc3 ok rfl rfl rfl rfl rfl rfl rfl rfl rfl (by omega) (Int.le_refl _) (by omega) ?_
          simp (maxSteps := 2000000) -implicitDefEqProofs [hN]
        rotate_left 1
        intro g
        all_goals
          refine appF ok 601 50 rfl rfl rfl rfl rfl (by decide) rfl rfl rfl rfl rfl rfl rfl (by decide) (by simp) dIno (l.take j) rfl (by show (_ + 1) * 96 ≤ _; omega) (by omega) (fun W hW => ?_) (by rcases hsh with h | h; exact .inl h.1; exact .inr h) fun q2 g2 c3 W _ hq2 _ => ?_
          · exact Sv.full (Rows.sv (d := dIno) (base := 0) (e := 39) hW.2.2.2.1 (by decide) (by omega) hW.1) hj
          simp (maxSteps := 2000000) -implicitDefEqProofs [hN]
          refine appV ok 601 rfl rfl rfl rfl rfl (by decide) rfl rfl rfl rfl rfl rfl dIno (l.drop j) rfl (by show (_ + _) * 96 ≤ _; simp; omega) (by simp; omega) (fun W hW => by have := Sv.drop hW.2.2.2.2.2.1 hj; simpa [dIno] using this) fun q3 a4 c4 W _ hq3 _ => ?_
          simp (maxSteps := 2000000) -implicitDefEqProofs [hN]
          refine ret0 hC (a4, min j l.length + 1 + (l.length - j), c4) rfl fun W hp hG => ?_
          rw [hpl, hins]
          refine (hG.2.1.append ((Rows.sole (d := dIno) (x := x) ⟨(ea, ec), (ra, rc), rfl, hG.2.2.2.2.2.2.2⟩).append hG.1)).sv (base := 0) (e := 39) (by decide) (by simp; omega) ?_
          have h1 := hp.1
          simpa [dIno] using h1
    · simp [hN]
      refine drawK ok mixed (by kernel_rfl) ?_
      simp (maxSteps := 2000000) -implicitDefEqProofs [hN, Nat.not_lt.2 hgj]
      have hins : insI l x = l.take j ++ x :: l.drop j := insI_at l x j hj hle fun h => absurd h (by omega)
      refine pub 600 rfl (by decide) (nilr 601 39 7 (draw ok [(3, .box g3 39 ((inoC x (ea, ec) (ra, rc)).map .v))] (by rw [ok.P]; exact mixed) (by kernel_rfl) ?_))
      simp (maxSteps := 2000000) -implicitDefEqProofs [hN]
      and_intros
      all_goals try omega
      rotate_left 1
      intro g
      all_goals
        refine slc3 ok rfl rfl rfl rfl rfl rfl rfl rfl rfl (by omega) (Int.le_refl _) (by omega) ?_
        simp (maxSteps := 2000000) -implicitDefEqProofs [hN]
      rotate_left 1
      intro g
      all_goals
        refine appF ok 601 50 rfl rfl rfl rfl rfl (by decide) rfl rfl rfl rfl rfl rfl rfl (by decide) (by simp) dIno (l.take j) rfl (by show (_ + 1) * 96 ≤ _; omega) (by omega) (fun W hW => ?_) (by rcases hsh with h | h; exact .inl h.1; exact .inr h) fun q2 g2 c3 W _ hq2 _ => ?_
        · exact Sv.full (Rows.sv (d := dIno) (base := 0) (e := 39) hW.2.2.2.1 (by decide) (by omega) hW.1) hj
        simp (maxSteps := 2000000) -implicitDefEqProofs [hN]
        refine appV ok 601 rfl rfl rfl rfl rfl (by decide) rfl rfl rfl rfl rfl rfl dIno (l.drop j) rfl (by show (_ + _) * 96 ≤ _; simp; omega) (by simp; omega) (fun W hW => by have := Sv.drop hW.2.2.2.2.2.1 hj; simpa [dIno] using this) fun q3 a4 c4 W _ hq3 _ => ?_
        simp (maxSteps := 2000000) -implicitDefEqProofs [hN]
        refine ret0 hC (a4, min j l.length + 1 + (l.length - j), c4) rfl fun W hp hG => ?_
        rw [hpl, hins]
        refine (hG.2.1.append ((Rows.sole (d := dIno) (x := x) ⟨(ea, ec), (ra, rc), rfl, hG.2.2.2.2.2.2.2⟩).append hG.1)).sv (base := 0) (e := 39) (by decide) (by simp; omega) ?_
        have h1 := hp.1
        simpa [dIno] using h1
end Go.Proofs.Ytbbaoeidobdblaa.Sx

/- Apply of the reference. -/
set_option linter.unusedVariables false
set_option linter.unusedSimpArgs false
namespace Go.Proofs.Ytbbaoeidobdblaa.Sx
open Go
attribute [local simp ↓] ifb_true' ifb_false'
attribute [local simp] ifb_true ifb_false ifb_eq sx argsT find ev evOp evs evo evBin evInt evStr evNil evNilA ptrA slcA isNoneA asB evLoad look del cellsB evUn evConv kdec fld evFieldA evField evIdxA evIdx evSlc bndL bndH evLen mmi put resV guardV gvL setO tupV cellsOf ones one upd lits nv exitTo SV.val CV.val TI.agg rdyA allR keepB scan simpO gsp isS subs keepT pickT wr memN pubs Res.fact Region.binds bld rest give delL back Res.eqv vi vb num Sv.val undef
noncomputable def applyOne (s : Sta) (d : Dee) : Sta :=
  if d.kind = 1 then { s with next := d.no } else if d.kind = 2 then { s with inos := putInoL s.inos d.ino } else if d.kind = 3 then { s with inos := s.inos.filter fun x => decide (x.no ≠ d.no) } else if d.kind = 4 then { s with bad := addBadL s.bad d.no } else s
noncomputable def applyL (s : Sta) (l : List Dee) : Sta := l.foldl applyOne s
theorem applyL_snoc (s : Sta) (l : List Dee) (d : Dee) : applyL s (l ++ [d]) = applyOne (applyL s l) d := by simp [applyL]
theorem replI_len : ∀ (l : List Ino) (x : Ino), (replI l x).length = l.length
  | [], _ => rfl
  | y :: r, x => by
    unfold replI
    split
    · rfl
    · simp [replI_len r x]
theorem insI_len : ∀ (l : List Ino) (x : Ino), (insI l x).length = l.length + 1
  | [], _ => rfl
  | y :: r, x => by
    unfold insI
    split
    · simp [insI_len r x]
    · rfl
theorem insL_len : ∀ (l : List Int) (x : Int), (insL l x).length = l.length + 1
  | [], _ => rfl
  | y :: r, x => by
    unfold insL
    split
    · simp [insL_len r x]
    · rfl
theorem putInoL_len (l : List Ino) (x : Ino) : (putInoL l x).length ≤ l.length + 1 := by
  unfold putInoL
  split
  · rw [replI_len]; omega
  · rw [insI_len]; omega
theorem addBadL_len (l : List Int) (x : Int) : (addBadL l x).length ≤ l.length + 1 := by
  unfold addBadL
  split
  · omega
  · rw [insL_len]; omega
theorem applyOne_len (s : Sta) (d : Dee) : (applyOne s d).inos.length ≤ s.inos.length + 1 ∧ (applyOne s d).bad.length ≤ s.bad.length + 1 := by
  unfold applyOne
  have h1 := putInoL_len s.inos d.ino
  have h2 := addBadL_len s.bad d.no
  have h3 := List.length_filter_le (fun x : Ino => decide (x.no ≠ d.no)) s.inos
  split
  · constructor <;> simp
  · split
    · exact ⟨h1, by simp⟩
    · split
      · exact ⟨by simp only; omega, by simp⟩
      · split
        · exact ⟨by simp, h2⟩
        · constructor <;> omega
theorem applyL_len (s : Sta) (l : List Dee) : (applyL s l).inos.length ≤ s.inos.length + l.length ∧ (applyL s l).bad.length ≤ s.bad.length + l.length := by
  induction l generalizing s with
  | nil => exact ⟨Nat.le_refl _, Nat.le_refl _⟩
  | cons d r ih =>
    have h1 := ih (applyOne s d)
    have h2 := applyOne_len s d
    simp only [applyL, List.foldl_cons, List.length_cons] at h1 ⊢
    omega
set_option maxHeartbeats 4000000 in
theorem refApply0 (w : World) (I : Nat → Prop) (hI : ∀ b, I b → b < w.heap.size) (s : Sta) (si sb : Sl) {a : Option Addr} {n c : Nat} (l : List Dee) (h : ∀ W, Ext I w W → StaR W s si sb) (hd : ∀ W, Ext I w W → Sv.ok dDee W (a, n, c) l) (hl : s.inos.length + l.length ≤ 1000000000 ∧ s.bad.length + l.length ≤ 1000000000) :
    Fn0 Try.prog 45 #[.agg (staC s si sb).toArray, .slice a n c] w I (fun y : Sl × Sl => .agg (staC (applyL s l) y.1 y.2).toArray) (fun y W => StaR W (applyL s l) y.1 y.2) := by
  obtain rfl : n = l.length := (hd w (Ext.refl _ _)).1
  refine enter (svs := [.ag ((staC s si sb).map .v), .c (.v (.slice a l.length c))]) tysOk Try.func45 rfl Try.ntmps45 Try.results45 (by kernel_rfl) (by simp) hI (fun W => StaR W s si sb ∧ Sv.ok dDee W (a, l.length, c) l) (fun W e => ⟨h W e, hd W e⟩) fun C hC hN ok => ?_
  obtain ⟨ia, ic⟩ := si
  obtain ⟨ba, bc⟩ := sb
  simp [hN]
  intro g2 g4
  refine loop ok (fun y : Nat × Sl × Sl => [(5, .c (.v (.int .i64 (y.1 : Nat))))]) (fun y => [(2, .box g2 47 ((staC (applyL s (l.take y.1)) y.2.1 y.2.2).map .v)), (4, .box g4 47 [.v (.int .i64 0), .v (.slice none 0 0), .v (.slice none 0 0)])]) (fun y W => y.1 ≤ l.length ∧ StaR W (applyL s (l.take y.1)) y.2.1 y.2.2) (fun y => l.length - y.1) (0, (ia, ic), (ba, bc)) ?_ ?_ (fun W hW => ⟨Nat.zero_le _, hW.1⟩) ?_
  · simp
  · simp [applyL]
  rintro ⟨i, ⟨pa, pc⟩, ⟨qa, qc⟩⟩ W ⟨hi, hS⟩ hG next
  have hlen := applyL_len s (l.take i)
  rw [List.length_take] at hlen
  generalize hSe : applyL s (l.take i) = S at next hlen hS
  simp only at hS hi
  rcases Nat.lt_or_ge i l.length with hlt | hge
  · obtain ⟨b, o, e⟩ := (show Sv.ok dDee W (a, l.length, c) l from hG.2).2.2.2.is_some (show 0 < l.length by omega)
    cases e
    have e6 : IntKind.i64.wrap ((i : Int) + 1) = (i + 1 : Nat) := by rw [w64 (by omega) (by omega)]; omega
    have ft : l.take (i + 1) = l.take i ++ [l[i]] := by rw [List.take_add_one, List.getElem?_eq_getElem hlt]; rfl
    generalize hde : l[i] = d at ft
    have fa : applyL s (l.take (i + 1)) = applyOne S d := by rw [ft, applyL_snoc, hSe]
    simp [hN, hlt]
    refine loadA ok rfl rfl rfl rfl (fun q W => dDee.K W d q) (fun W hW => ?_) ?_
    · obtain ⟨cs, hk, hcl, hc⟩ := hW.2.2.2.2.2.get hlt
      rw [hde] at hk
      exact ⟨cs, hcl, hc, hk⟩
    rintro v W _ ⟨⟨ea, ec⟩, ⟨ra, rc⟩, rfl, hR⟩ hG2
    simp [hN]
    intro g6
    refine ⟨fun k1 => ?_, fun k1 => ⟨fun k2 => ?_, fun k2 => ⟨fun k3 => ?_, fun k3 => ⟨fun k4 => ?_, fun k4 => ?_⟩⟩⟩⟩
    · have fo : applyOne S d = { S with next := d.no } := by simp [applyOne, k1]
      refine next (i + 1, (pa, pc), (qa, qc)) _ _ (by simp; omega) (fun W h => ⟨⟨hlt, ?_⟩, h.2.2⟩) ?_
      · simp only [fa, fo]; exact h.2.1.2
      · simp [e6, fa, fo]
    · have fo : applyOne S d = { S with inos := putInoL S.inos d.ino } := by simp [applyOne, k2]
      refine call0 ok rfl rfl rfl (fun w I hI hG => putIno0 w I hI S.inos d.ino (ea, ec) (ra, rc) (fun W e => ⟨rfl, (hG W e).2.1.2.1⟩) (fun W e => dee_get (hG W e).1) (by omega)) fun q W hq => ?_
      obtain ⟨ua, un, uc⟩ := q
      obtain rfl : un = _ := hq.1
      simp [hN]
      refine next (i + 1, (ua, uc), (qa, qc)) _ _ (by simp; omega) (fun W h => ⟨⟨hlt, ?_⟩, h.2.2.2⟩) ?_
      · simp only [fa, fo]; exact ⟨h.1.2, h.2.2.1.2.2⟩
      · simp [e6, fa, fo]
    · have fo : applyOne S d = { S with inos := S.inos.filter fun x => decide (x.no ≠ d.no) } := by simp [applyOne, k3]
      refine nilr 600 39 7 (loop ok (fun y : Nat × Sl × List Value => [(8, .c (.v (.int .i64 (y.1 : Nat)))), (7, .c (.v (.slice y.2.1.1 ((S.inos.take y.1).filter fun x => decide (x.no ≠ d.no)).length y.2.1.2)))]) (fun y => [(600, .row y.2.1.1 ((S.inos.take y.1).filter fun x => decide (x.no ≠ d.no)).length y.2.1.2 39 7 (y.2.2.map nv)), (6, .box g6 41 ((deeC d (ea, ec) (ra, rc)).map .v)), (2, .box g2 47 ((staC S (pa, pc) (qa, qc)).map .v)), (4, .box g4 47 [.v (.int .i64 0), .v (.slice none 0 0), .v (.slice none 0 0)])]) (fun y W => y.1 ≤ S.inos.length ∧ Rows dIno W ((S.inos.take y.1).filter fun x => decide (x.no ≠ d.no)) y.2.2) (fun y => S.inos.length - y.1) (0, (none, 0), []) ?_ ?_ (fun W hW => ⟨Nat.zero_le _, rows_nil _ _⟩) ?_)
      · simp
      · simp
      rintro ⟨k, ⟨oa, oc⟩, q⟩ W ⟨hk, hrw⟩ hGk nextk
      simp only at hk hrw
      rcases Nat.lt_or_ge k S.inos.length with hkl | hkg
      · obtain ⟨b', o', e, _⟩ := ino_no (show Sv.ok dIno W (pa, S.inos.length, pc) S.inos from ⟨rfl, hGk.2.1.2.1⟩) hkl
        cases e
        have e7 : IntKind.i64.wrap ((k : Int) + 1) = (k + 1 : Nat) := by rw [w64 (by omega) (by omega)]; omega
        have fk : S.inos.take (k + 1) = S.inos.take k ++ [S.inos[k]] := by rw [List.take_add_one, List.getElem?_eq_getElem hkl]; rfl
        have flen : ((S.inos.take k).filter fun x => decide (x.no ≠ d.no)).length ≤ k := Nat.le_trans (List.length_filter_le _ _) (by simp; omega)
        generalize hLk : (S.inos.take k).filter (fun x => decide (x.no ≠ d.no)) = L at hrw flen nextk
        simp [hN, hkl]
        refine drawK ok mixed (by kernel_rfl) ?_
        simp (maxSteps := 2000000) -implicitDefEqProofs [hN, hkl]
        refine load1 ok rfl rfl rfl rfl (fun v W => v = .int .i64 S.inos[k].no) (fun W hW => ?_) ?_
        · obtain ⟨b'', o'', e, hc⟩ := ino_no (show Sv.ok dIno W _ S.inos from ⟨rfl, hW.2.2.1.2.1⟩) hkl
          cases e
          exact ⟨_, hc, rfl⟩
        rintro v W rfl _
        simp (maxSteps := 2000000) -implicitDefEqProofs [hN, e7]
        refine ⟨fun hne => ⟨hkl, ?_⟩, fun heq => ?_⟩
        · have fk2 : (S.inos.take (k + 1)).filter (fun x => decide (x.no ≠ d.no)) = L ++ [S.inos[k]] := by rw [fk, List.filter_append, hLk]; simp [hne]
          generalize hxe : S.inos[k] = x at fk2
          refine loadA ok rfl rfl rfl rfl (fun v W => dIno.K W x v) (fun W hW => ?_) ?_
          · obtain ⟨cs, hk2, hcl, hc⟩ := (show Sv.ok dIno W (_, S.inos.length, pc) S.inos from ⟨rfl, hW.2.2.1.2.1⟩).2.2.2.get hkl
            rw [hxe] at hk2
            exact ⟨cs, hcl, hc, hk2⟩
          rintro v W _ ⟨⟨ea2, ec2⟩, ⟨ra2, rc2⟩, rfl, hR2⟩ _
          simp (maxSteps := 2000000) -implicitDefEqProofs [hN, e7]
          intro g58
          refine appR ok 600 58 rfl rfl rfl rfl rfl (by decide) rfl rfl rfl rfl rfl rfl rfl (by decide) (by simp) (by show (L.length + 1) * 96 ≤ _; omega) (by omega) fun g' c' => ?_
          simp (maxSteps := 2000000) -implicitDefEqProofs [hN, e7]
          refine nextk (k + 1, (some ⟨g', 0, none⟩, c'), q ++ inoC x (ea2, ec2) (ra2, rc2)) _ _ (by simp; omega) (fun W h => ⟨⟨hkl, ?_⟩, h.2.2⟩) ?_
          · simp only [fk2]
            exact h.2.1.2.snoc h.1
          · simp only [fk2]
            simp [k1, k2, k3]
        · have fk2 : (S.inos.take (k + 1)).filter (fun x => decide (x.no ≠ d.no)) = L := by rw [fk, List.filter_append, hLk]; simp [heq]
          refine nextk (k + 1, (oa, oc), q) _ _ (by simp; omega) (fun W h => ⟨⟨hkl, ?_⟩, h.2⟩) ?_
          · simp only [fk2]
            exact h.1.2
          · simp only [fk2]
            simp [k1, k2, k3]
      · have hk' : S.inos.take k = S.inos := List.take_of_length_le hkg
        simp only [hk'] at hrw ⊢
        clear nextk
        simp [hN, Nat.not_lt.2 hkg]
        have flen : (S.inos.filter fun x => decide (x.no ≠ d.no)).length ≤ S.inos.length := List.length_filter_le _ _
        refine pub 600 rfl (by decide) (next (i + 1, (oa, oc), (qa, qc)) _ _ (by simp; omega) (fun W h => ⟨⟨hlt, ?_⟩, h.2.2.2.2⟩) ?_)
        · simp only [fa, fo]
          have hr : Rows dIno W (S.inos.filter fun x => decide (x.no ≠ d.no)) q := by have := h.2.1.2; simpa using this
          have h1 : W.ownsRow 0 39 dIno.sz (.slice oa (S.inos.filter fun x => decide (x.no ≠ d.no)).length oc) (S.inos.filter fun x => decide (x.no ≠ d.no)).length q := by have h1 := h.1; simp at h1; simpa [dIno] using h1
          exact ⟨(Rows.sv hr (by decide) (by omega) h1).2, h.2.2.2.1.2.2⟩
        · simp [e6, fa, fo]
    · have fo : applyOne S d = { S with bad := addBadL S.bad d.no } := by simp [applyOne, k4]
      refine call0 ok rfl rfl rfl (fun w I hI hG => addBad0 w I hI S.bad d.no (fun W e => ⟨rfl, (hG W e).2.1.2.2⟩) (by omega)) fun q W hq => ?_
      obtain ⟨ua, un, uc⟩ := q
      obtain rfl : un = _ := hq.1
      simp [hN]
      refine next (i + 1, (pa, pc), (ua, uc)) _ _ (by simp; omega) (fun W h => ⟨⟨hlt, ?_⟩, h.2.2.2⟩) ?_
      · simp only [fa, fo]; exact ⟨h.2.2.1.2.1, h.1.2⟩
      · simp [e6, fa, fo]
    · have fo : applyOne S d = S := by simp [applyOne, k1, k2, k3, k4]
      refine next (i + 1, (pa, pc), (qa, qc)) _ _ (by simp; omega) (fun W h => ⟨⟨hlt, ?_⟩, h.2.2⟩) ?_
      · simp only [fa, fo]; exact h.2.1.2
      · simp [e6, fa, fo]
  · have hi' : i = l.length := by omega
    have hT : l.take i = l := List.take_of_length_le hge
    rw [hT] at hSe
    subst hSe
    simp [hN, Nat.not_lt.2 hge]
    exact ret0 hC ((pa, pc), (qa, qc)) rfl fun W _ hG => hG.1.2
end Go.Proofs.Ytbbaoeidobdblaa.Sx

/- RightRuns, GetRun of the reference. -/
set_option linter.unusedVariables false
set_option linter.unusedSimpArgs false
namespace Go.Proofs.Ytbbaoeidobdblaa.Sx
open Go
attribute [local simp ↓] ifb_true' ifb_false'
attribute [local simp] ifb_true ifb_false ifb_eq sx argsT find ev evOp evs evo evBin evInt evStr evNil evNilA ptrA slcA isNoneA asB evLoad look del cellsB evUn evConv kdec fld evFieldA evField evIdxA evIdx evSlc bndL bndH evLen mmi put resV guardV gvL setO tupV cellsOf ones one upd lits nv exitTo SV.val CV.val TI.agg rdyA allR keepB scan simpO gsp isS subs keepT pickT wr memN pubs Res.fact Region.binds bld rest give delL back Res.eqv vi vb num Sv.val undef
set_option maxRecDepth 100000 in
set_option maxHeartbeats 4000000 in
theorem rightRuns0 (w : World) (I : Nat → Prop) (hI : ∀ b, I b → b < w.heap.size) {a : Option Addr} {n c : Nat} (l : List Rn) (h : ∀ W, Ext I w W → Sv.ok dRn W (a, n, c) l) :
    Fn0 Try.prog 60 #[.slice a n c] w I (fun b : Bool => .bool b) (fun y W => y = true ↔ RightL l) := by
  obtain rfl : n = l.length := (h w (Ext.refl _ _)).1
  have hx := (h w (Ext.refl _ _)).2.2.1
  refine enter (svs := [.c (.v (.slice a l.length c))]) tysOk Try.func60 rfl Try.ntmps60 Try.results60 (by kernel_rfl) (by simp) hI (fun W => Sv.ok dRn W (a, l.length, c) l) h fun C hC hN ok => ?_
  simp [hN]
  refine loopK [0] ok (fun i : Nat => [(3, .c (.v (.int .i64 i)))]) (fun _ => []) (fun i W => i ≤ l.length ∧ rightTo l i) (fun i => l.length - i) 0 ?_ ?_ (fun W hW => ⟨Nat.zero_le _, fun j _ hj => absurd hj (Nat.not_lt_zero _)⟩) ?_
  · simp
  · simp
  rintro i W ⟨hi, hr⟩ hG next
  rcases Nat.lt_or_ge i l.length with hlt | hge
  · obtain ⟨b, o, e⟩ := (show Sv.ok dRn W (a, l.length, c) l from hG).2.2.2.is_some (Nat.lt_of_le_of_lt (Nat.zero_le _) hlt)
    cases e
    simp [hN, hlt]
    have e6 : IntKind.i64.wrap ((i : Int) + 1) = (i + 1 : Nat) := by rw [w64 (by omega) (by omega)]; omega
    refine loadA ok rfl rfl rfl rfl (fun c W => c = rnC l[i]) (fun W hW => ?_) ?_
    · obtain ⟨cs, hk, _, hc⟩ := hW.2.2.2.2.get hlt
      exact ⟨cs, by rw [hk]; rfl, hc, hk⟩
    rintro v W _ rfl hG2
    have hni : ¬ okR l[i] → ¬ RightL l := fun h1 h2 => h1 (h2 i hlt hlt).1
    generalize hd : l[i] = d at hni
    simp [hN]
    intro g4
    have no : ¬ okR d → RetP C (.bool false) ⟨fun _ => True, fun W => (i ≤ l.length ∧ rightTo l i) ∧ Sv.ok dRn W (some ⟨b, o, none⟩, l.length, c) l, [(4, .box g4 102 [.v (.int .i64 d.fr), .v (.int .i64 d.at_), .v (.int .i64 d.ct)])]⟩ := fun h => ret0 hC false rfl fun W _ _ => by simp [hni h]
    refine ⟨fun h1 => ⟨fun h2 => ⟨fun h3 => ?_, fun h3 => no fun hk => ?_⟩, fun h2 => no fun hk => ?_⟩, fun h1 => no fun hk => ?_⟩
    rotate_left
    · have := hk.2.2.1; have := hk.2.2.2.2.1; omega
    · have := hk.2.2.1; omega
    · have := hk.1; omega
    have e8 : IntKind.i64.wrap (64 - d.fr) = 64 - d.fr := w64 (by omega) (by omega)
    rw [e8]
    refine ⟨fun h4 => ?_, fun h4 => no fun hk => ?_⟩
    rotate_left
    · have := hk.2.2.2.2.1; omega
    have e9 : IntKind.i64.wrap (2147483648 - d.ct) = 2147483648 - d.ct := w64 (by omega) (by omega)
    rw [e9]
    refine ⟨fun h5 => ⟨fun h6 => no fun hk => ?_, fun h6 => ?_⟩, fun h5 => no fun hk => ?_⟩
    · have := hk.2.2.2.2.2; omega
    rotate_left
    · have := hk.2.1; omega
    have hk : okR d := ⟨h1, h5, h2, by omega, by omega, h6⟩
    refine ⟨fun h0 => ?_, fun h0 => ?_⟩
    · have e7 : IntKind.i64.wrap ((i : Int) - 1) = (i - 1 : Nat) := by rw [w64 (by omega) (by omega)]; omega
      have hpl : i - 1 < l.length := by omega
      have hokp := (hr (i - 1) hpl (by omega)).1
      have hcl : ∀ W, Sv.ok dRn W (some ⟨b, o, none⟩, l.length, c) l → ∀ j v, (rnC l[i - 1])[j]? = some v → W.cell? ⟨b, o + (i - 1) * 3 + j, none⟩ = some v := fun W hW => by
        obtain ⟨b', o', e, hh⟩ := rn_get hW hpl
        cases e
        exact hh
      have hns : ¬ okS l[i - 1] d → ¬ RightL l := fun h1 h2 => h1 (by rw [← hd]; exact (h2 i hlt hlt).2 h0)
      generalize hq : l[i - 1] = p at hokp hcl hns
      obtain ⟨p0, p1, p2, p3, p4, p5⟩ := id hokp
      have e10 : IntKind.i64.wrap (p.fr + p.ct) = p.fr + p.ct := w64 (by omega) (by omega)
      have e11 : IntKind.i64.wrap (p.at_ + p.ct) = p.at_ + p.ct := w64 (by omega) (by omega)
      rw [e7]
      refine ⟨⟨by omega, by omega⟩, ?_⟩
      refine loadA ok rfl rfl rfl rfl (fun c W => c = rnC p) (fun W hW => ⟨rnC p, rfl, by simpa using hcl W hW.2, rfl⟩) ?_
      rintro v W _ rfl _
      simp [hN, e10, e11, e6]
      intro g5
      have ns : ¬ okS p d → ∀ rs, RetP C (.bool false) ⟨fun _ => True, fun W => (i ≤ l.length ∧ rightTo l i) ∧ Sv.ok dRn W (some ⟨b, o, none⟩, l.length, c) l, rs⟩ := fun h rs => ret0 hC false rfl fun W _ _ => by simp [hns h]
      have hF : okS p d → rightTo l (i + 1) := fun hs j hj hj1 => by
        rcases Nat.lt_or_ge j i with hji | hji
        · exact hr j hj hji
        · obtain rfl : j = i := by omega
          rw [hd]
          exact ⟨hk, fun _ => by rw [hq]; exact hs⟩
      refine ⟨fun h7 => ⟨fun h8 => ⟨fun h9 => ns (fun h => h.2 ⟨h8, h9⟩) _, fun h9 => next (i + 1) _ _ (by omega) (fun W h => ⟨⟨hlt, hF ⟨h7, fun h => h9 h.2⟩⟩, h.2⟩) ?_⟩, fun h8 => next (i + 1) _ _ (by omega) (fun W h => ⟨⟨hlt, hF ⟨h7, fun h => h8 h.1⟩⟩, h.2⟩) ?_⟩, fun h7 => ns (fun h => by have := h.1; omega) _⟩
      · simp
      · simp
    · subst h0
      have e1 : IntKind.i64.wrap 1 = 1 := w64 (by omega) (by omega)
      refine next 1 _ _ (by omega) (fun W h => ⟨⟨hlt, fun j hj hj1 => ?_⟩, h.2⟩) ?_
      · obtain rfl : j = 0 := by omega
        rw [hd]
        exact ⟨hk, fun h => absurd h (Nat.lt_irrefl _)⟩
      · simp [e1]
  · simp [hN, Nat.not_lt.2 hge]
    exact ret0 hC true rfl fun W _ _ => by
      have hi' : i = l.length := by omega
      subst hi'
      simp only [true_iff]
      exact hr
def getL : List Rn → Int → Option Int
  | [], _ => none
  | r :: t, x => if r.fr ≤ x ∧ x < r.fr + r.ct then some (r.at_ + x - r.fr) else getL t x
theorem getL_at : ∀ (l : List Rn) (x : Int) (i : Nat) (hi : i < l.length), (∀ r, r ∈ l.take i → ¬ (r.fr ≤ x ∧ x < r.fr + r.ct)) → l[i].fr ≤ x ∧ x < l[i].fr + l[i].ct → getL l x = some (l[i].at_ + x - l[i].fr)
  | [], x, i, hi, _, _ => by simp at hi
  | r :: t, x, 0, _, _, h => by simp only [List.getElem_cons_zero] at h ⊢; rw [getL, if_pos h]
  | r :: t, x, i + 1, hi, h1, h2 => by
    rw [getL, if_neg (h1 r (by simp))]
    simp only [List.getElem_cons_succ] at h2 ⊢
    exact getL_at t x i (by simpa using hi) (fun z hz => h1 z (by simp [hz])) h2
theorem getL_none : ∀ (l : List Rn) (x : Int), (∀ r, r ∈ l → ¬ (r.fr ≤ x ∧ x < r.fr + r.ct)) → getL l x = none
  | [], x, _ => rfl
  | r :: t, x, h => by
    rw [getL, if_neg (h r (by simp))]
    exact getL_none t x fun z hz => h z (by simp [hz])
abbrev optV (o : Option Int) : Value := .tuple #[.int .i64 (o.getD 0), .bool o.isSome]
set_option maxRecDepth 100000 in
set_option maxHeartbeats 4000000 in
theorem getRun0 (w : World) (I : Nat → Prop) (hI : ∀ b, I b → b < w.heap.size) {a : Option Addr} {n c : Nat} (l : List Rn) (x : Int) (h : ∀ W, Ext I w W → Sv.ok dRn W (a, n, c) l) (hr : ∀ r, r ∈ l → okR r) (hx : -1000000000000 ≤ x ∧ x ≤ 1000000000000) :
    Fn0 Try.prog 26 #[.slice a n c, .int .i64 x] w I optV (fun y W => y = getL l x) := by
  obtain rfl : n = l.length := (h w (Ext.refl _ _)).1
  have hbig := (h w (Ext.refl _ _)).2.2.1
  refine enter (svs := [.c (.v (.slice a l.length c)), .c (.v (.int .i64 x))]) tysOk Try.func26 rfl Try.ntmps26 Try.results26 (by kernel_rfl) (by simp) hI (fun W => Sv.ok dRn W (a, l.length, c) l) h fun C hC hN ok => ?_
  simp [hN]
  refine loopK [0, 1] ok (fun i : Nat => [(6, .c (.v (.int .i64 i)))]) (fun _ => []) (fun i W => i ≤ l.length ∧ ∀ r, r ∈ l.take i → ¬ (r.fr ≤ x ∧ x < r.fr + r.ct)) (fun i => l.length - i) 0 ?_ ?_ (fun W hW => ⟨Nat.zero_le _, by simp⟩) ?_
  · simp
  · simp
  rintro i W ⟨hi, hne⟩ hG next
  rcases Nat.lt_or_ge i l.length with hlt | hge
  · obtain ⟨b, o, e, _⟩ := rn_get (show Sv.ok dRn W (a, l.length, c) l from hG) hlt
    cases e
    have hcl : ∀ W, Sv.ok dRn W (some ⟨b, o, none⟩, l.length, c) l → ∀ j v, (rnC l[i])[j]? = some v → W.cell? ⟨b, o + i * 3 + j, none⟩ = some v := fun W hW => by
      obtain ⟨b', o', e, hh⟩ := rn_get hW hlt
      cases e
      exact hh
    have e6 : IntKind.i64.wrap ((i : Int) + 1) = (i + 1 : Nat) := by rw [w64 (by omega) (by omega)]; omega
    have ft : l.take (i + 1) = l.take i ++ [l[i]] := by rw [List.take_add_one, List.getElem?_eq_getElem hlt]; rfl
    have hgo := getL_at l x i hlt hne
    obtain ⟨d0, d1, d2, d3, d4, d5⟩ := hr _ (List.getElem_mem hlt)
    have hnx : ¬ (l[i].fr ≤ x ∧ x < l[i].fr + l[i].ct) → ∀ r, r ∈ l.take (i + 1) → ¬ (r.fr ≤ x ∧ x < r.fr + r.ct) := fun h r hr => by
      rw [ft] at hr
      rcases List.mem_append.1 hr with hr | hr
      · exact hne r hr
      · rw [List.mem_singleton.1 hr]; exact h
    generalize l[i] = d at *
    simp [hN, hlt]
    refine drawK ok mixed (by kernel_rfl) ?_
    simp (maxSteps := 2000000) -implicitDefEqProofs [hN, hlt]
    refine load1 ok rfl rfl rfl rfl (fun v W => v = .int .i64 d.ct) (fun W hW => ⟨_, hcl W hW.2 2 _ rfl, rfl⟩) ?_
    rintro v W rfl _
    simp (maxSteps := 2000000) -implicitDefEqProofs [hN, hlt, show 0 < d.ct by omega]
    refine load1 ok rfl rfl rfl rfl (fun v W => v = .int .i64 d.fr) (fun W hW => ⟨_, by simpa using hcl W hW.2 0 _ rfl, rfl⟩) ?_
    rintro v W rfl _
    simp (maxSteps := 2000000) -implicitDefEqProofs [hN, hlt, e6]
    refine ⟨fun h1 => ?_, fun h1 => next (i + 1) _ _ (by omega) (fun W h => ⟨⟨hlt, hnx (by omega)⟩, h.2⟩) (by simp)⟩
    have w1 : IntKind.u64.wrap (IntKind.i64.wrap (x - d.fr)) = x - d.fr := by rw [w64 (by omega) (by omega), IntKind.wrap_u64]; omega
    have w2 : IntKind.u64.wrap d.ct = d.ct := by rw [IntKind.wrap_u64]; omega
    refine ⟨?_, ?_⟩
    · refine load1 ok rfl rfl rfl rfl (fun v W => v = .int .i64 d.fr) (fun W hW => ⟨_, by simpa using hcl W hW.2 0 _ rfl, rfl⟩) ?_
      rintro v W rfl _
      simp (maxSteps := 2000000) -implicitDefEqProofs [hN, hlt, e6, w1, w2]
      refine load1 ok rfl rfl rfl rfl (fun v W => v = .int .i64 d.ct) (fun W hW => ⟨_, by simpa using hcl W hW.2 2 _ rfl, rfl⟩) ?_
      rintro v W rfl _
      simp (maxSteps := 2000000) -implicitDefEqProofs [hN, hlt, e6, w1, w2]
      refine ⟨fun h2 => ?_, fun h2 => next (i + 1) _ _ (by omega) (fun W h => ⟨⟨hlt, hnx (by omega)⟩, h.2⟩) (by simp)⟩
      have hgt := hgo ⟨h1, by omega⟩
      have w3 : IntKind.i64.wrap (d.at_ + x) = d.at_ + x := w64 (by omega) (by omega)
      have w4 : IntKind.i64.wrap (d.at_ + x - d.fr) = d.at_ + x - d.fr := w64 (by omega) (by omega)
      refine drawK ok mixed (by kernel_rfl) ?_
      simp (maxSteps := 2000000) -implicitDefEqProofs [hN, hlt, e6, w1, w2, w3, w4]
      refine ⟨?_, ?_⟩
      · refine load1 ok rfl rfl rfl rfl (fun v W => v = .int .i64 d.at_) (fun W hW => ⟨_, by simpa using hcl W hW.2 1 _ rfl, rfl⟩) ?_
        rintro v W rfl _
        simp (maxSteps := 2000000) -implicitDefEqProofs [hN, hlt, e6, w1, w2, w3, w4]
        refine load1 ok rfl rfl rfl rfl (fun v W => v = .int .i64 d.fr) (fun W hW => ⟨_, by simpa using hcl W hW.2 0 _ rfl, rfl⟩) ?_
        rintro v W rfl _
        simp (maxSteps := 2000000) -implicitDefEqProofs [hN, hlt, e6, w1, w2, w3, w4]
        exact ret0 hC (some (d.at_ + x - d.fr)) rfl fun W _ _ => hgt.symm
      · refine load1 ok rfl rfl rfl rfl (fun v W => v = .int .i64 d.fr) (fun W hW => ⟨_, by simpa using hcl W hW.2 0 _ rfl, rfl⟩) ?_
        rintro v W rfl _
        simp (maxSteps := 2000000) -implicitDefEqProofs [hN, hlt, e6, w1, w2, w3, w4]
        refine load1 ok rfl rfl rfl rfl (fun v W => v = .int .i64 d.at_) (fun W hW => ⟨_, by simpa using hcl W hW.2 1 _ rfl, rfl⟩) ?_
        rintro v W rfl _
        simp (maxSteps := 2000000) -implicitDefEqProofs [hN, hlt, e6, w1, w2, w3, w4]
        exact ret0 hC (some (d.at_ + x - d.fr)) rfl fun W _ _ => hgt.symm
    · refine load1 ok rfl rfl rfl rfl (fun v W => v = .int .i64 d.ct) (fun W hW => ⟨_, by simpa using hcl W hW.2 2 _ rfl, rfl⟩) ?_
      rintro v W rfl _
      simp (maxSteps := 2000000) -implicitDefEqProofs [hN, hlt, e6, w1, w2]
      refine load1 ok rfl rfl rfl rfl (fun v W => v = .int .i64 d.fr) (fun W hW => ⟨_, by simpa using hcl W hW.2 0 _ rfl, rfl⟩) ?_
      rintro v W rfl _
      simp (maxSteps := 2000000) -implicitDefEqProofs [hN, hlt, e6, w1, w2]
      refine ⟨fun h2 => ?_, fun h2 => next (i + 1) _ _ (by omega) (fun W h => ⟨⟨hlt, hnx (by omega)⟩, h.2⟩) (by simp)⟩
      have hgt := hgo ⟨h1, by omega⟩
      have w3 : IntKind.i64.wrap (d.at_ + x) = d.at_ + x := w64 (by omega) (by omega)
      have w4 : IntKind.i64.wrap (d.at_ + x - d.fr) = d.at_ + x - d.fr := w64 (by omega) (by omega)
      refine drawK ok mixed (by kernel_rfl) ?_
      simp (maxSteps := 2000000) -implicitDefEqProofs [hN, hlt, e6, w1, w2, w3, w4]
      refine ⟨?_, ?_⟩
      · refine load1 ok rfl rfl rfl rfl (fun v W => v = .int .i64 d.at_) (fun W hW => ⟨_, by simpa using hcl W hW.2 1 _ rfl, rfl⟩) ?_
        rintro v W rfl _
        simp (maxSteps := 2000000) -implicitDefEqProofs [hN, hlt, e6, w1, w2, w3, w4]
        refine load1 ok rfl rfl rfl rfl (fun v W => v = .int .i64 d.fr) (fun W hW => ⟨_, by simpa using hcl W hW.2 0 _ rfl, rfl⟩) ?_
        rintro v W rfl _
        simp (maxSteps := 2000000) -implicitDefEqProofs [hN, hlt, e6, w1, w2, w3, w4]
        exact ret0 hC (some (d.at_ + x - d.fr)) rfl fun W _ _ => hgt.symm
      · refine load1 ok rfl rfl rfl rfl (fun v W => v = .int .i64 d.fr) (fun W hW => ⟨_, by simpa using hcl W hW.2 0 _ rfl, rfl⟩) ?_
        rintro v W rfl _
        simp (maxSteps := 2000000) -implicitDefEqProofs [hN, hlt, e6, w1, w2, w3, w4]
        refine load1 ok rfl rfl rfl rfl (fun v W => v = .int .i64 d.at_) (fun W hW => ⟨_, by simpa using hcl W hW.2 1 _ rfl, rfl⟩) ?_
        rintro v W rfl _
        simp (maxSteps := 2000000) -implicitDefEqProofs [hN, hlt, e6, w1, w2, w3, w4]
        exact ret0 hC (some (d.at_ + x - d.fr)) rfl fun W _ _ => hgt.symm
  · simp [hN, Nat.not_lt.2 hge]
    exact ret0 hC none rfl fun W _ _ => by
      rw [getL_none]
      rwa [List.take_of_length_le hge] at hne
end Go.Proofs.Ytbbaoeidobdblaa.Sx

/- placesOf of the reference. -/
set_option linter.unusedVariables false
set_option linter.unusedSimpArgs false
namespace Go.Proofs.Ytbbaoeidobdblaa.Sx
open Go
attribute [local simp ↓] ifb_true' ifb_false'
attribute [local simp] ifb_true ifb_false ifb_eq sx argsT find ev evOp evs evo evBin evInt evStr evNil evNilA ptrA slcA isNoneA asB evLoad look del cellsB evUn evConv kdec fld evFieldA evField evIdxA evIdx evSlc bndL bndH evLen mmi put resV guardV gvL setO tupV cellsOf ones one upd lits nv exitTo SV.val CV.val TI.agg rdyA allR keepB scan simpO gsp isS subs keepT pickT wr memN pubs Res.fact Region.binds bld rest give delL back Res.eqv vi vb num Sv.val undef
def plOf (l : List Rn) (j : Nat) : Int := (getL l j).getD (-1)
def placesL (l : List Rn) : List Int := (List.range 64).map (plOf l)
def placesN (l : List Rn) (i : Nat) : List Int := (List.range i).map (plOf l) ++ List.replicate (64 - i) 0
theorem placesN_len (l : List Rn) (i : Nat) (hi : i ≤ 64) : (placesN l i).length = 64 := by simp [placesN]; omega
theorem placesN_set (l : List Rn) (i : Nat) (hi : i < 64) : (placesN l i).set i (plOf l i) = placesN l (i + 1) := by
  have h1 : List.replicate (64 - i) (0 : Int) = 0 :: List.replicate (64 - (i + 1)) 0 := by
    rw [show 64 - i = (64 - (i + 1)) + 1 by omega, List.replicate_succ]
  rw [placesN, h1, List.set_append_right _ _ (by simp)]
  simp [placesN, List.range_succ]
theorem placesN_set2 (l : List Rn) (i : Nat) (x : Int) (hi : i < 64) : ((placesN l i).set i x).set i (plOf l i) = placesN l (i + 1) := by
  rw [List.set_set, placesN_set l i hi]
theorem iC_set (l : List Int) (i : Nat) (x : Int) : (iC l).set i (.v (.int .i64 x)) = iC (l.set i x) := by simp [iC, List.map_set]
theorem iC_len (l : List Int) : (iC l).length = l.length := by simp [iC]
abbrev Sv.row (T sz : Nat) (cs : List CV) (s : Sv) : Res := .row s.1 s.2.1 s.2.2 T sz cs
set_option maxHeartbeats 4000000 in
theorem placesOf0 (w : World) (I : Nat → Prop) (hI : ∀ b, I b → b < w.heap.size) {a : Option Addr} {n c : Nat} (l : List Rn) (h : ∀ W, Ext I w W → Sv.ok dRn W (a, n, c) l) (hr : ∀ r, r ∈ l → okR r) :
    FnS Try.prog 61 #[.slice a n c] w I noS (fun g : Nat => .slice (some ⟨g, 0, none⟩) 64 64) (fun g => [.row (some ⟨g, 0, none⟩) 64 64 3 1 (iC (placesL l))]) (fun _ _ => True) := by
  obtain rfl : n = l.length := (h w (Ext.refl _ _)).1
  refine enterS (svs := [.c (.v (.slice a l.length c))]) tysOk Try.func61 rfl Try.ntmps61 Try.results61 (by kernel_rfl) (by simp) hI [] (owns_nil w) (fun b hb => hb.elim) (fun W => Sv.ok dRn W (a, l.length, c) l) h fun C hC hN ok => ?_
  simp [hN]
  refine mksl ok rfl rfl rfl rfl rfl rfl rfl rfl rfl (by decide) (by decide) (by decide) fun g => ?_
  simp [hN]
  refine loop ok (fun i : Nat => [(4, .c (.v (.int .i64 i)))]) (fun i => [(7, .row (some ⟨g, 0, none⟩) 64 64 3 1 (iC (placesN l i)))]) (fun i W => i ≤ 64) (fun i => 64 - i) 0 ?_ ?_ (fun W hW => Nat.zero_le _) ?_
  · simp
  · simp [placesN, iC]
  rintro i W hi hG next
  have hlen := placesN_len l i hi
  rcases Nat.lt_or_ge i 64 with hlt | hge
  · have e6 : IntKind.i64.wrap ((i : Int) + 1) = (i + 1 : Nat) := by rw [w64 (by omega) (by omega)]; omega
    simp [hN, show ((i : Int) < 64) by omega]
    refine call0 ok rfl rfl rfl (fun w I hI hG => getRun0 w I hI l i (fun W e => (hG W e).2) hr (by omega)) fun y W hy => ?_
    have h2 := placesN_set l i hlt
    have h3 := placesN_set2 l i
    rcases hgy : getL l i with _ | v
    · rw [hgy] at hy
      subst hy
      simp only [plOf, hgy, Option.getD_none] at h2 h3
      simp [hN, iC_set, iC_len, hlen, hlt]
      exact ⟨by omega, by omega, by omega, by omega, next (i + 1) _ _ (by omega) (fun W h => ⟨hlt, h.2⟩) (by simp [e6, h2])⟩
    · rw [hgy] at hy
      subst hy
      simp only [plOf, hgy, Option.getD_some] at h2 h3
      simp [hN, iC_set, iC_len, hlen, hlt]
      exact ⟨by omega, by omega, next (i + 1) _ _ (by omega) (fun W h => ⟨hlt, h.2⟩) (by simp [e6, h2])⟩
  · obtain rfl : i = 64 := by omega
    simp [hN]
    refine retS hC g [7] rfl ?_ fun W _ _ => trivial
    simp [placesL, placesN]
end Go.Proofs.Ytbbaoeidobdblaa.Sx

/- runsOf, SetRun of the reference. -/
set_option linter.unusedVariables false
set_option linter.unusedSimpArgs false
namespace Go.Proofs.Ytbbaoeidobdblaa.Sx
open Go
attribute [local simp ↓] ifb_true' ifb_false'
attribute [local simp] ifb_true ifb_false ifb_eq sx argsT find ev evOp evs evo evBin evInt evStr evNil evNilA ptrA slcA isNoneA asB evLoad look del cellsB evUn evConv kdec fld evFieldA evField evIdxA evIdx evSlc bndL bndH evLen mmi put resV guardV gvL setO tupV cellsOf ones one upd lits nv exitTo SV.val CV.val TI.agg rdyA allR keepB scan simpO gsp isS subs keepT pickT wr memN pubs Res.fact Region.binds bld rest give delL back Res.eqv vi vb num Sv.val undef
def stepR (acc : List Rn) (i : Nat) (p : Int) : List Rn :=
  if p < 0 then acc else
    match acc.getLast? with
    | some q => if q.fr + q.ct = i ∧ q.at_ + q.ct = p then acc.dropLast ++ [⟨q.fr, q.at_, q.ct + 1⟩] else acc ++ [⟨i, p, 1⟩]
    | none => [⟨i, p, 1⟩]
def runsFrom (acc : List Rn) (i : Nat) : List Int → List Rn
  | [] => acc
  | p :: r => runsFrom (stepR acc i p) (i + 1) r
def runsL (l : List Int) : List Rn := runsFrom [] 0 l
theorem runsFrom_snoc : ∀ (l : List Int) (acc : List Rn) (i : Nat) (p : Int), runsFrom acc i (l ++ [p]) = stepR (runsFrom acc i l) (i + l.length) p
  | [], acc, i, p => rfl
  | x :: r, acc, i, p => by
    simp only [List.cons_append, runsFrom, runsFrom_snoc r, List.length_cons]
    congr 1
    omega
theorem runsL_snoc (l : List Int) (p : Int) : runsL (l ++ [p]) = stepR (runsL l) l.length p := by
  unfold runsL
  rw [runsFrom_snoc, Nat.zero_add]
/-- What is known of a row of runs while it is made. -/
def RunsB (B : Int) (acc : List Rn) (i : Nat) : Prop := acc.length ≤ i ∧ ∀ q, q ∈ acc → 0 ≤ q.fr ∧ 1 ≤ q.ct ∧ q.fr + q.ct ≤ i ∧ 0 ≤ q.at_ ∧ q.at_ + q.ct ≤ B + 1
theorem stepR_B {B : Int} {acc : List Rn} {i : Nat} {p : Int} (h : RunsB B acc i) (hp : p ≤ B) : RunsB B (stepR acc i p) (i + 1) := by
  have weak : RunsB B acc (i + 1) := ⟨by have := h.1; omega, fun q hq => by have := h.2 q hq; omega⟩
  have new : 0 ≤ p → ∀ q, q ∈ [(⟨i, p, 1⟩ : Rn)] → 0 ≤ q.fr ∧ 1 ≤ q.ct ∧ q.fr + q.ct ≤ (i + 1 : Nat) ∧ 0 ≤ q.at_ ∧ q.at_ + q.ct ≤ B + 1 := fun h0 q hq => by
    rw [List.mem_singleton.1 hq]
    simp only
    omega
  unfold stepR
  split
  · exact weak
  · split
    · rename_i q hq
      obtain ⟨ys, rfl⟩ := List.getLast?_eq_some_iff.1 hq
      split
      · rename_i hc
        have hqq := h.2 q (by simp)
        refine ⟨by have := h.1; simp at this ⊢; omega, fun z hz => ?_⟩
        simp at hz
        rcases hz with hz | rfl
        · exact weak.2 z (by simp [hz])
        · simp only
          omega
      · refine ⟨by have := h.1; simp at this ⊢; omega, fun z hz => ?_⟩
        rcases List.mem_append.1 hz with hz | hz
        · exact weak.2 z hz
        · exact new (by omega) z hz
    · exact ⟨by simp, new (by omega)⟩
theorem runsL_B {B : Int} (l : List Int) (h : ∀ p, p ∈ l → p ≤ B) : ∀ i, i ≤ l.length → RunsB B (runsL (l.take i)) i := by
  intro i
  induction i with
  | zero => exact fun _ => ⟨by simp [runsL, runsFrom], fun q hq => by simp [runsL, runsFrom] at hq⟩
  | succ i ih =>
    intro hi
    rw [List.take_add_one, List.getElem?_eq_getElem (by omega)]
    simp only [Option.toList]
    rw [runsL_snoc, List.length_take, Nat.min_eq_left (by omega)]
    exact stepR_B (ih (by omega)) (h _ (List.getElem_mem _))
def rC (l : List Rn) : List CV := l.flatMap fun y => (rnC y).map .v
theorem rC_snoc (l : List Rn) (y : Rn) : rC (l ++ [y]) = rC l ++ (rnC y).map .v := by simp [rC]
theorem rC_len (l : List Rn) : (rC l).length = l.length * 3 := by
  induction l with
  | nil => rfl
  | cons x r ih => simp [rC] at ih ⊢; omega
theorem rC_val (l : List Rn) : (rC l).map CV.val = l.flatMap rnC := by
  induction l with
  | nil => rfl
  | cons x r ih => simp [rC, CV.val] at ih ⊢; exact ih
theorem rC_last (l : List Rn) (y : Rn) : (rC (l ++ [y]))[l.length * 3]? = some (.v (.int .i64 y.fr)) ∧ (rC (l ++ [y]))[l.length * 3 + 1]? = some (.v (.int .i64 y.at_)) ∧ (rC (l ++ [y]))[l.length * 3 + 2]? = some (.v (.int .i64 y.ct)) := by
  rw [rC_snoc]
  refine ⟨?_, ?_, ?_⟩ <;> rw [List.getElem?_append_right (by rw [rC_len]; omega), rC_len] <;> simp
theorem rC_setl (l : List Rn) (y : Rn) (v : Int) : (rC (l ++ [y])).set (l.length * 3 + 2) (.v (.int .i64 v)) = rC (l ++ [⟨y.fr, y.at_, v⟩]) := by
  rw [rC_snoc, rC_snoc, List.set_append_right _ _ (by rw [rC_len]; omega), rC_len, show l.length * 3 + 2 - l.length * 3 = 2 by omega]
  rfl
theorem rowsR {W : World} {xs : List Rn} {l : List Value} : Rows dRn W xs l ↔ l = xs.flatMap rnC := by
  unfold dRn
  rw [rows_flat]
set_option maxRecDepth 100000 in
set_option maxHeartbeats 1000000 in
theorem runsOf0 (w : World) (I : Nat → Prop) (hI : ∀ b, I b → b < w.heap.size) {a : Option Addr} {n c : Nat} (l : List Int) (h : ∀ W, Ext I w W → Sv.ok dInt W (a, n, c) l) (hl : l.length ≤ 1000000000) (hp : ∀ p, p ∈ l → p ≤ 1000000000000) :
    Fn0 Try.prog 93 #[.slice a n c] w I Sv.val (fun r W => Sv.ok dRn W r (runsL l)) := by
  obtain rfl : n = l.length := (h w (Ext.refl _ _)).1
  refine enter (svs := [.c (.v (.slice a l.length c))]) tysOk Try.func93 rfl Try.ntmps93 Try.results93 (by kernel_rfl) (by simp) hI (fun W => Sv.ok dInt W (a, l.length, c) l) h fun C hC hN ok => ?_
  simp [hN]
  refine nilr 600 102 3 (loopK [0] ok (fun y : Nat × Sl => [(4, .c (.v (.int .i64 (y.1 : Nat)))), (3, .c (.rw 600 y.2.1 (runsL (l.take y.1)).length y.2.2))]) (fun y => [(600, .row y.2.1 (runsL (l.take y.1)).length y.2.2 102 3 (rC (runsL (l.take y.1))))]) (fun y W => y.1 ≤ l.length) (fun y => l.length - y.1) (0, none, 0) ?_ ?_ (fun W hW => Nat.zero_le _) ?_)
  · simp [runsL, runsFrom]
  · simp [runsL, runsFrom, rC]
  rintro ⟨i, ra, rc⟩ W hi hG next
  simp only at hi
  rcases Nat.lt_or_ge i l.length with hlt | hge
  · obtain ⟨b, o, e, _⟩ := int_get (show Sv.ok dInt W (a, l.length, c) l from hG) hlt
    cases e
    have hB := runsL_B l hp i hi
    have e6 : IntKind.i64.wrap ((i : Int) + 1) = (i + 1 : Nat) := by rw [w64 (by omega) (by omega)]; omega
    have ft : runsL (l.take (i + 1)) = stepR (runsL (l.take i)) i l[i] := by
      rw [List.take_add_one, List.getElem?_eq_getElem hlt]
      simp only [Option.toList]
      rw [runsL_snoc, List.length_take, Nat.min_eq_left (by omega)]
    have hpi := hp _ (List.getElem_mem hlt)
    have hload : ∀ W, Sv.ok dInt W (some ⟨b, o, none⟩, l.length, c) l → ∃ v, W.cell? ⟨b, o + i, none⟩ = some v ∧ v = .int .i64 l[i] := fun W hW => by
      obtain ⟨b', o', e, hc⟩ := int_get hW hlt
      cases e
      exact ⟨_, hc, rfl⟩
    generalize l[i] = p at ft hpi hload
    generalize hA : runsL (l.take i) = A at ft hB next
    simp [hN, hlt]
    refine load1 ok rfl rfl rfl rfl (fun v W => v = .int .i64 p) (fun W hW => hload W hW.2) ?_
    rintro v W rfl _
    simp [hN]
    refine ⟨fun hneg => next (i + 1, ra, rc) _ _ (by simp; omega) (fun W h => ⟨hlt, h.2⟩) (by simp [e6, ft, stepR, hneg]), fun hpos => ?_⟩
    rcases List.eq_nil_or_concat A with rfl | ⟨ys, q, hc⟩
    · have fs : stepR [] i p = [⟨i, p, 1⟩] := by simp [stepR, show ¬ p < 0 by omega]
      refine drawK ok mixed (by kernel_rfl) ?_
      simp (maxSteps := 2000000) -implicitDefEqProofs [hN]
      refine ⟨hlt, load1 ok rfl rfl rfl rfl (fun v W => v = .int .i64 p) (fun W hW => hload W hW.2) ?_⟩
      rintro v W rfl _
      simp (maxSteps := 2000000) -implicitDefEqProofs [hN]
      intro g74
      refine appR ok 600 74 rfl rfl rfl rfl rfl (by decide) rfl rfl rfl rfl rfl rfl rfl (by decide) (by simp) (by show (0 + 1) * 24 ≤ _; omega) (by simp) fun g' c' => ?_
      simp (maxSteps := 2000000) -implicitDefEqProofs [hN]
      exact next (i + 1, some ⟨g', 0, none⟩, c') _ _ (by simp; omega) (fun W h => ⟨hlt, h.2⟩) (by simp [e6, ft, fs, rC])
    · rw [List.concat_eq_append] at hc
      subst hc
      have hqq := hB.2 q (by simp)
      obtain ⟨l0, l1, l2⟩ := rC_last ys q
      have hsl := rC_setl ys q (q.ct + 1)
      have hrl := rC_len (ys ++ [q])
      have hyl := hB.1
      have e8 : IntKind.i64.wrap (q.fr + q.ct) = q.fr + q.ct := w64 (by omega) (by omega)
      have e9 : IntKind.i64.wrap (q.at_ + q.ct) = q.at_ + q.ct := w64 (by omega) (by omega)
      have e10 : IntKind.i64.wrap (q.ct + 1) = q.ct + 1 := w64 (by omega) (by omega)
      obtain ⟨n, hn⟩ : ∃ n, n = (ys ++ [q]).length := ⟨_, rfl⟩
      have hyn : ys.length = n - 1 := by rw [hn]; simp
      rw [← hn] at hrl hyl
      rw [hyn] at l0 l1 l2 hsl
      have hn0 : 0 < n := by rw [hn]; simp
      have e7 : IntKind.i64.wrap ((n : Int) - 1) = (n - 1 : Nat) := by rw [w64 (by omega) (by omega)]; omega
      have e11 : n - 1 < n := by omega

      refine rowSome 600 rfl (by simp) fun g e => ?_
      subst e
      rw [← hn]
      refine drawK ok mixed (by kernel_rfl) ?_
      generalize hR : rC (ys ++ [q]) = R at *
      have hy1 : ys.length + 1 = n := by omega
      have fs2 : ¬ (q.fr + q.ct = i ∧ q.at_ + q.ct = p) → stepR (ys ++ [q]) i p = ys ++ [q] ++ [⟨i, p, 1⟩] := fun hno => by
        simp only [stepR, List.getLast?_append, List.getLast?_singleton, Option.some_or, if_neg hno, if_neg (show ¬ p < 0 by omega)]
      have fs1 : q.fr + q.ct = i ∧ q.at_ + q.ct = p → stepR (ys ++ [q]) i p = ys ++ [⟨q.fr, q.at_, q.ct + 1⟩] := fun hno => by
        simp only [stepR, List.getLast?_append, List.getLast?_singleton, Option.some_or, if_pos hno, if_neg (show ¬ p < 0 by omega), List.dropLast_concat]
      have g0 : ∀ h : (n - 1) * 3 < R.length, R[(n - 1) * 3]'h = .v (.int .i64 q.fr) := fun h => by rw [List.getElem?_eq_getElem h] at l0; exact Option.some.inj l0
      simp (maxSteps := 2000000) -implicitDefEqProofs [hN, e7, e8, e9, e10, e11, l0, l1, l2, g0, hrl, hn0, hlt]
      refine ⟨by omega, by omega, fun hfr => ⟨by omega, by omega, ?_⟩, fun hnf => ?_⟩
      · refine load1 ok rfl rfl rfl rfl (fun v W => v = .int .i64 p) (fun W hW => hload W hW.2) ?_
        rintro v W rfl _
        simp (maxSteps := 2000000) -implicitDefEqProofs [hN, e7, e8, e9, e10, e11, l0, l1, l2, g0, hrl, hn0, hlt]
        refine ⟨fun hat => ?_, fun hna => ?_⟩
        · exact ⟨by omega, next (i + 1, some ⟨g, 0, none⟩, rc) _ _ (by simp; omega) (fun W h => ⟨hlt, h.2⟩) (by simp [e6, ft, fs1 ⟨hfr, hat⟩, hy1, hsl])⟩
        · refine load1 ok rfl rfl rfl rfl (fun v W => v = .int .i64 p) (fun W hW => hload W hW.2) ?_
          rintro v W rfl _
          simp (maxSteps := 2000000) -implicitDefEqProofs [hN, e7, e8, e9, e10, e11, l0, l1, l2, g0, hrl, hn0, hlt]
          intro g74
          refine appR ok 600 74 rfl rfl rfl rfl rfl (by decide) rfl rfl rfl rfl rfl rfl rfl (by decide) (by simp) (by show (n + 1) * 24 ≤ _; omega) (by omega) fun g' c' => ?_
          simp (maxSteps := 2000000) -implicitDefEqProofs [hN, e7, e8, e9, e10, e11, l0, l1, l2, g0, hrl, hn0, hlt]
          exact next (i + 1, some ⟨g', 0, none⟩, c') _ _ (by simp; omega) (fun W h => ⟨hlt, h.2⟩) (by simp only [ft, fs2 (fun h => hna h.2), rC_snoc (ys ++ [q]), hR]; simp [e6, hy1])
      · refine load1 ok rfl rfl rfl rfl (fun v W => v = .int .i64 p) (fun W hW => hload W hW.2) ?_
        rintro v W rfl _
        simp (maxSteps := 2000000) -implicitDefEqProofs [hN, e7, e8, e9, e10, e11, l0, l1, l2, g0, hrl, hn0, hlt]
        intro g74
        refine appR ok 600 74 rfl rfl rfl rfl rfl (by decide) rfl rfl rfl rfl rfl rfl rfl (by decide) (by simp) (by show (n + 1) * 24 ≤ _; omega) (by omega) fun g' c' => ?_
        simp (maxSteps := 2000000) -implicitDefEqProofs [hN, e7, e8, e9, e10, e11, l0, l1, l2, g0, hrl, hn0, hlt]
        exact next (i + 1, some ⟨g', 0, none⟩, c') _ _ (by simp; omega) (fun W h => ⟨hlt, h.2⟩) (by simp only [ft, fs2 (fun h => hnf h.1), rC_snoc (ys ++ [q]), hR]; simp [e6, hy1])
  · have hT : l.take i = l := List.take_of_length_le hge
    simp only [hT]
    simp [hN, Nat.not_lt.2 hge]
    have hB := runsL_B l hp i hi
    rw [hT] at hB
    refine ret0 hC (ra, (runsL l).length, rc) rfl fun W hp hG => ?_
    refine (rowsR.2 rfl : Rows dRn W (runsL l) _).sv (base := 0) (e := 102) (by decide) (by have := hB.1; omega) ?_
    have h1 : W.ownsRow 0 102 3 (.slice ra (runsL l).length rc) (runsL l).length ((rC (runsL l)).map CV.val) := hp.1
    rw [rC_val] at h1
    exact h1
end Go.Proofs.Ytbbaoeidobdblaa.Sx

/- SetRun of the reference. -/
set_option linter.unusedVariables false
set_option linter.unusedSimpArgs false
namespace Go.Proofs.Ytbbaoeidobdblaa.Sx
open Go
attribute [local simp ↓] ifb_true' ifb_false'
attribute [local simp] ifb_true ifb_false ifb_eq sx argsT find ev evOp evs evo evBin evInt evStr evNil evNilA ptrA slcA isNoneA asB evLoad look del cellsB evUn evConv kdec fld evFieldA evField evIdxA evIdx evSlc bndL bndH evLen mmi put resV guardV gvL setO tupV cellsOf ones one upd lits nv exitTo SV.val CV.val TI.agg rdyA allR keepB scan simpO gsp isS subs keepT pickT wr memN pubs Res.fact Region.binds bld rest give delL back Res.eqv vi vb num Sv.val undef
/-- Places, with one of them set. -/
def setP (l : List Int) (x p : Int) : List Int := if 0 ≤ x ∧ x < 64 ∧ 0 ≤ p ∧ p ≤ 2147483647 then l.set x.toNat p else l
open Classical in
noncomputable def setRunL (l : List Rn) (x p : Int) : List Rn := if RightL l then runsL (setP (placesL l) x p) else []
theorem right_okR {l : List Rn} (h : RightL l) : ∀ r, r ∈ l → okR r := fun r hr => by
  obtain ⟨i, hi, rfl⟩ := List.mem_iff_getElem.1 hr
  exact (h i hi hi).1
theorem getL_le : ∀ {l : List Rn} {x v : Int}, (∀ r, r ∈ l → okR r) → getL l x = some v → 0 ≤ v ∧ v ≤ 2147483647
  | [], x, v, _, h => by cases h
  | r :: t, x, v, hr, h => by
    rw [getL] at h
    split at h
    · obtain ⟨d0, d1, d2, d3, d4, d5⟩ := hr r List.mem_cons_self
      cases h
      omega
    · exact getL_le (fun z hz => hr z (List.mem_cons_of_mem _ hz)) h
theorem placesL_len (l : List Rn) : (placesL l).length = 64 := by simp [placesL]
theorem placesL_le {l : List Rn} (hr : ∀ r, r ∈ l → okR r) : ∀ p, p ∈ placesL l → p ≤ 2147483647 := fun p hp => by
  simp only [placesL, List.mem_map, List.mem_range] at hp
  obtain ⟨j, _, rfl⟩ := hp
  unfold plOf
  cases hg : getL l j with
  | none => simp
  | some v => have := getL_le hr hg; simp; omega
theorem setP_len (l : List Int) (x p : Int) : (setP l x p).length = l.length := by
  unfold setP
  split <;> simp
theorem setP_le {l : List Int} {x p : Int} (h : ∀ q, q ∈ l → q ≤ 2147483647) : ∀ q, q ∈ setP l x p → q ≤ 2147483647 := fun q hq => by
  unfold setP at hq
  split at hq
  · rcases List.mem_or_eq_of_mem_set hq with hq | rfl
    · exact h q hq
    · omega
  · exact h q hq
set_option maxHeartbeats 1000000 in
theorem setRun0 (w : World) (I : Nat → Prop) (hI : ∀ b, I b → b < w.heap.size) {a : Option Addr} {n c : Nat} (l : List Rn) (x p : Int) (h : ∀ W, Ext I w W → Sv.ok dRn W (a, n, c) l) :
    Fn0 Try.prog 48 #[.slice a n c, .int .i64 x, .int .i64 p] w I Sv.val (fun r W => Sv.ok dRn W r (setRunL l x p)) := by
  obtain rfl : n = l.length := (h w (Ext.refl _ _)).1
  refine enter (svs := [.c (.v (.slice a l.length c)), .c (.v (.int .i64 x)), .c (.v (.int .i64 p))]) tysOk Try.func48 rfl Try.ntmps48 Try.results48 (by kernel_rfl) (by simp) hI (fun W => Sv.ok dRn W (a, l.length, c) l) h fun C hC hN ok => ?_
  simp [hN]
  refine call0 ok rfl rfl rfl (fun w I hI hG => rightRuns0 w I hI l hG) fun y W hy => ?_
  simp [hN]
  refine ⟨fun hno => ?_, fun hyes => ?_⟩
  · have hs : setRunL l x p = [] := by rw [setRunL, if_neg]; rw [← hy, hno]; simp
    exact ret0 hC (none, 0, 0) rfl fun W _ _ => by rw [hs]; exact Sv.nil _ _
  · have hR : RightL l := hy.1 hyes
    have hs : setRunL l x p = runsL (setP (placesL l) x p) := by rw [setRunL, if_pos hR]
    rw [hs] at hC
    have hr := right_okR hR
    have k1 : ∀ w I, (∀ b, I b → b < w.heap.size) → (∀ W, Ext I w W → (y = true ↔ RightL l) ∧ Sv.ok dRn W (a, l.length, c) l) → FnS Try.prog 61 #[.slice a l.length c] w I noS (fun g : Nat => .slice (some ⟨g, 0, none⟩) 64 64) (fun g => [.row (some ⟨g, 0, none⟩) 64 64 3 1 (iC (placesL l))]) (fun _ _ => True) := fun w I hI hG => placesOf0 w I hI l (fun W e => (hG W e).2) hr
    refine callS ok rfl rfl rfl [] [] trivial rfl (fun g : Nat => [(600, .row (some ⟨g, 0, none⟩) 64 64 3 1 (iC (placesL l)))]) (fun w I S hI hG hO hS => (k1 w I hI hG).lone hO) (fun r => by simp [back, memN, Res.eqv]) (.inl fun k hk => by cases hk) fun g W _ => ?_
    have hpl := placesL_len l
    simp [hN]
    refine ⟨fun h1 => ⟨fun h2 => ⟨fun h3 => ⟨fun h4 => ⟨⟨h1, h2⟩, ?_⟩, fun h4 => ?_⟩, fun h3 => ?_⟩, fun h2 => ?_⟩, fun h1 => ?_⟩
    · refine tag ok 30 (.c (.bp 600 g x.toNat)) rfl rfl ?_
      simp [hN, iC_set, iC_len, hpl]
      refine ⟨by omega, ?_⟩
      have hq : setP (placesL l) x p = (placesL l).set x.toNat p := by rw [setP, if_pos ⟨h1, h2, h3, h4⟩]
      have hql := setP_len (placesL l) x p
      have hqb := setP_le (x := x) (p := p) (placesL_le hr)
      rw [hq] at hC hql hqb
      rw [hpl] at hql
      refine pub 600 rfl (by decide) (call0 ok rfl rfl rfl (fun w I hI hG => runsOf0 w I hI (a := some ⟨g, 0, none⟩) (n := 64) (c := 64) ((placesL l).set x.toNat p) (fun W e => int_ok (by have h1 := (hG W e).1; simp only [Res.fact, iC_val] at h1; exact h1) (by omega)) (by omega) (fun z hz => by have := hqb z hz; omega)) fun r W _ => ?_)
      simp [hN]
      exact ret0 hC r rfl fun W _ hG => hG.1
    · have hq : setP (placesL l) x p = placesL l := by rw [setP, if_neg (by omega)]
      have hql := setP_len (placesL l) x p
      have hqb := setP_le (x := x) (p := p) (placesL_le hr)
      rw [hq] at hC hql hqb
      rw [hpl] at hql
      refine pub 600 rfl (by decide) (call0 ok rfl rfl rfl (fun w I hI hG => runsOf0 w I hI (a := some ⟨g, 0, none⟩) (n := 64) (c := 64) (placesL l) (fun W e => int_ok (by have h1 := (hG W e).1; simp only [Res.fact, iC_val] at h1; exact h1) (by omega)) (by omega) (fun z hz => by have := hqb z hz; omega)) fun r W _ => ?_)
      simp [hN]
      exact ret0 hC r rfl fun W _ hG => hG.1
    · have hq : setP (placesL l) x p = placesL l := by rw [setP, if_neg (by omega)]
      have hql := setP_len (placesL l) x p
      have hqb := setP_le (x := x) (p := p) (placesL_le hr)
      rw [hq] at hC hql hqb
      rw [hpl] at hql
      refine pub 600 rfl (by decide) (call0 ok rfl rfl rfl (fun w I hI hG => runsOf0 w I hI (a := some ⟨g, 0, none⟩) (n := 64) (c := 64) (placesL l) (fun W e => int_ok (by have h1 := (hG W e).1; simp only [Res.fact, iC_val] at h1; exact h1) (by omega)) (by omega) (fun z hz => by have := hqb z hz; omega)) fun r W _ => ?_)
      simp [hN]
      exact ret0 hC r rfl fun W _ hG => hG.1
    · have hq : setP (placesL l) x p = placesL l := by rw [setP, if_neg (by omega)]
      have hql := setP_len (placesL l) x p
      have hqb := setP_le (x := x) (p := p) (placesL_le hr)
      rw [hq] at hC hql hqb
      rw [hpl] at hql
      refine pub 600 rfl (by decide) (call0 ok rfl rfl rfl (fun w I hI hG => runsOf0 w I hI (a := some ⟨g, 0, none⟩) (n := 64) (c := 64) (placesL l) (fun W e => int_ok (by have h1 := (hG W e).1; simp only [Res.fact, iC_val] at h1; exact h1) (by omega)) (by omega) (fun z hz => by have := hqb z hz; omega)) fun r W _ => ?_)
      simp [hN]
      exact ret0 hC r rfl fun W _ hG => hG.1
    · have hq : setP (placesL l) x p = placesL l := by rw [setP, if_neg (by omega)]
      have hql := setP_len (placesL l) x p
      have hqb := setP_le (x := x) (p := p) (placesL_le hr)
      rw [hq] at hC hql hqb
      rw [hpl] at hql
      refine pub 600 rfl (by decide) (call0 ok rfl rfl rfl (fun w I hI hG => runsOf0 w I hI (a := some ⟨g, 0, none⟩) (n := 64) (c := 64) (placesL l) (fun W e => int_ok (by have h1 := (hG W e).1; simp only [Res.fact, iC_val] at h1; exact h1) (by omega)) (by omega) (fun z hz => by have := hqb z hz; omega)) fun r W _ => ?_)
      simp [hN]
      exact ret0 hC r rfl fun W _ hG => hG.1
theorem rn_eq (a b : Rn) : a = b ↔ a.fr = b.fr ∧ a.at_ = b.at_ ∧ a.ct = b.ct := by
  cases a; cases b; simp
instance : DecidableEq Rn := fun a b => decidable_of_iff _ (rn_eq a b).symm
end Go.Proofs.Ytbbaoeidobdblaa.Sx

/- Sx, part 13: clear; zeros appended to a part of a row that has no room; slices.overlaps of two rows of one's own. -/
set_option linter.unusedVariables false
set_option linter.unusedSimpArgs false
namespace Go.Proofs.Ytbbaoeidobdblaa.Sx
open Go
section
variable {P : Program} {C : Ctx} {T : Ty} {res : List ResultVar} {p : Pos} {tm : Tm} {m : Mem}
theorem tagA (t : Nat) {x : SV} (y : SV) (hx : find t tm = some x) (hv : x.val = y.val) (h : At C p ((t, y) :: tm) m) : At C p tm m :=
  fun a w cs hR hJ => h a w cs (hR.same hx hv) hJ
end
end Go.Proofs.Ytbbaoeidobdblaa.Sx

/- Owned numbers: Clone, Index, Contains, IndexFunc, state.bad. -/
set_option linter.unusedVariables false
set_option linter.unusedSimpArgs false
namespace Go.Proofs.Ytbbaoeidobdblaa.Sx
open Go
attribute [local simp ↓] ifb_true' ifb_false'
attribute [local simp] ifb_true ifb_false ifb_eq sx argsT find ev evOp evs evo evBin evInt evStr evNil evNilA ptrA slcA isNoneA asB evLoad look del cellsB evUn evConv kdec fld evFieldA evField evIdxA evIdx evSlc bndL bndH evLen mmi put resV guardV gvL setO tupV cellsOf ones one upd lits nv exitTo SV.val CV.val TI.agg rdyA allR keepB scan simpO gsp isS subs keepT pickT wr memN pubs Res.fact Region.binds bld rest give delL back Res.eqv vi vb num Sv.val undef
/-- Slices of one's own that hold numbers. -/
abbrev Nums := Option Addr × Nat × List Int
abbrev Nums.val (r : Nums) : Value := .slice r.1 r.2.2.length r.2.1
abbrev Nums.res (r : Nums) : Res := .row r.1 r.2.2.length r.2.1 3 1 (iC r.2.2)
end Go.Proofs.Ytbbaoeidobdblaa.Sx

/- Models of power, and of a chip whose bits are cleared one by one. -/
set_option linter.unusedVariables false
set_option linter.unusedSimpArgs false
namespace Go.Proofs.Ytbbaoeidobdblaa.Sx
open Go
/-- Power: steps left (below 0: as many as may be), the mask, whether it is off, steps done. -/
structure Pw where
  left : Int
  mask : Int
  off : Bool
  done : Int
end Go.Proofs.Ytbbaoeidobdblaa.Sx

/- Laws on a map whose keys are one number each (a struct or an array of one int), kept as a list of keys and values: mget up, store, delete, count, range. No program in sight. -/
set_option linter.unusedVariables false
set_option linter.unusedSimpArgs false
namespace Go.Proofs.Ytbbaoeidobdblaa.Mx
open Go Go.MapKept
open Go.ChangeMaps (setBlock heap_setBlock_same heap_setBlock_other set_perm)
open Go.Maps (Keyed)
/-! ### lists of keys and values -/
def mget {α : Type} (l : List (Int × α)) (k : Int) : Option α := (l.find? (fun p => p.1 == k)).map (·.2)
def mdel {α : Type} (l : List (Int × α)) (k : Int) : List (Int × α) := l.filter (fun p => !(p.1 == k))
def mput {α : Type} (l : List (Int × α)) (k : Int) (v : α) : List (Int × α) := (k, v) :: mdel l k

theorem mget_cons {α : Type} (p : Int × α) (l : List (Int × α)) (k : Int) : mget (p :: l) k = if p.1 = k then some p.2 else mget l k := by
  unfold mget
  by_cases h : p.1 = k <;> simp [h]
theorem mget_mdel {α : Type} (l : List (Int × α)) (k j : Int) : mget (mdel l k) j = if j = k then none else mget l j := by
  induction l with
  | nil => simp [mdel, mget]
  | cons p l ih =>
    by_cases hp : p.1 = k
    · have : mdel (p :: l) k = mdel l k := by simp [mdel, hp]
      rw [this, ih, mget_cons]
      by_cases hj : j = k
      · simp [hj]
      · rw [if_neg hj, if_neg hj, if_neg (by rw [hp]; exact fun e => hj e.symm)]
    · have : mdel (p :: l) k = p :: mdel l k := by simp [mdel, hp]
      rw [this, mget_cons, mget_cons, ih]
      by_cases hj : j = k
      · subst hj; simp [hp]
      · simp [hj]
theorem mget_mput {α : Type} (l : List (Int × α)) (k : Int) (v : α) (j : Int) : mget (mput l k v) j = if j = k then some v else mget l j := by
  unfold mput
  rw [mget_cons, mget_mdel]
  by_cases hj : j = k
  · subst hj; simp
  · rw [if_neg hj, if_neg (fun e => hj (show j = k from e.symm)), if_neg hj]
theorem mget_mem {α : Type} {l : List (Int × α)} {k : Int} {v : α} (h : mget l k = some v) : (k, v) ∈ l := by
  unfold mget at h
  rw [Option.map_eq_some_iff] at h
  obtain ⟨p, hp, rfl⟩ := h
  have h1 := List.find?_some hp
  have h2 := List.mem_of_find?_eq_some hp
  have : p.1 = k := by simpa using h1
  subst this
  exact h2
theorem mget_of_mem {α : Type} {l : List (Int × α)} (hn : (l.map Prod.fst).Nodup) {k : Int} {v : α} (h : (k, v) ∈ l) : mget l k = some v := by
  induction l with
  | nil => simp at h
  | cons p l ih =>
    rw [mget_cons]
    rw [List.map_cons, List.nodup_cons] at hn
    rcases List.mem_cons.1 h with rfl | h
    · simp
    · have : p.1 ≠ k := fun e => hn.1 (List.mem_map.2 ⟨(k, v), h, e.symm⟩)
      rw [if_neg this]
      exact ih hn.2 h
theorem mget_none {α : Type} {l : List (Int × α)} {k : Int} (h : mget l k = none) : ∀ p ∈ l, p.1 ≠ k := by
  intro p hp e
  unfold mget at h
  rw [Option.map_eq_none_iff, List.find?_eq_none] at h
  have := h p hp
  simp [e] at this
theorem mdel_none {α : Type} {l : List (Int × α)} {k : Int} (h : mget l k = none) : mdel l k = l := by
  unfold mdel
  rw [List.filter_eq_self]
  intro p hp
  simp [mget_none h p hp]
/-! ### the map in memory -/
/-- The keys of type kt are one number each. -/
structure KeyFn (P : Program) (kt : TypeId) (kv : Int → Value) : Prop where
  K : Keyed P kt
  key : ∀ x, (Lit.int .i64 x).wf = true → ∃ l, keyOf P kt (kv x) = some l
  inj : ∀ x y, kv x = kv y → x = y

def pr (kv : Int → Value) (p : Int × Value) : Value × Value := (kv p.1, p.2)
def pe (e : MapEntry) : Value × Value := (e.key, e.val)

/-- Block b is a map that has just these keys and values. -/
def MapAt (kv : Int → Value) (w : World) (b : Nat) (l : List (Int × Value)) : Prop :=
  ∃ es clock, w.heap[b]? = some (.map es clock) ∧ Stamped es clock ∧ (es.toList.map pe).Perm (l.map (pr kv)) ∧ ∀ p ∈ l, (Lit.int .i64 p.1).wf = true

section
variable {P : Program} {kt et t : TypeId} {kv : Int → Value} {w : World} {b : Nat} {l : List (Int × Value)}
theorem MapAt.lt (h : MapAt kv w b l) : b < w.heap.size := by
  obtain ⟨es, clock, hb, _⟩ := h
  exact (Array.getElem?_eq_some_iff.1 hb).1
theorem MapAt.made (kv : Int → Value) (w : World) : MapAt kv (w.alloc (.map #[] 0)) w.heap.size [] :=
  ⟨#[], 0, (MapKept.heap_alloc w _).1, stamped_empty 0, by simp, by simp⟩
theorem MapAt.block {w' : World} (h : MapAt kv w b l) (hb : w'.heap[b]? = w.heap[b]?) : MapAt kv w' b l := by
  obtain ⟨es, clock, h1, r⟩ := h
  exact ⟨es, clock, hb.trans h1, r⟩
theorem MapAt.kept {w' : World} {row : Option Nat} (h : MapAt kv w b l) (hg : w.grownBy w' row) (hne : some b ≠ row) : MapAt kv w' b l := h.block (hg.block b h.lt hne)
theorem MapAt.alloc (h : MapAt kv w b l) (o : Obj) : MapAt kv (w.alloc o) b l := h.kept (World.grownBy_alloc w o none) (by simp)
theorem MapAt.drew (h : MapAt kv w b l) : MapAt kv w.drew b l := h
theorem MapAt.setCell (h : MapAt kv w b l) {a : Addr} (ha : b ≠ a.block) (u : Value) : MapAt kv (w.setCell a u) b l := h.block (RowKit.Below.heap_setCell _ _ _ _ ha)
theorem MapAt.nodup (h : MapAt kv w b l) : (l.map Prod.fst).Nodup := by
  obtain ⟨es, clock, _, ⟨_, _, hk⟩, hp, _⟩ := h
  have e1 : es.toList.map (·.key) = (es.toList.map pe).map Prod.fst := by simp [pe, Function.comp_def]
  have e2 : (l.map (pr kv)).map Prod.fst = (l.map Prod.fst).map kv := by simp [pr, Function.comp_def]
  rw [e1, (hp.map Prod.fst).nodup_iff, e2] at hk
  exact List.Pairwise.of_map kv (fun a c h e => h (congrArg kv e)) hk

theorem MapAt.keys {es : Array MapEntry} (F : KeyFn P kt kv) (hp : (es.toList.map pe).Perm (l.map (pr kv))) (hw : ∀ p ∈ l, (Lit.int .i64 p.1).wf = true) : ∀ e ∈ es.toList, ∃ x, keyOf P kt e.key = some x := by
  intro e he
  have : pe e ∈ l.map (pr kv) := hp.mem_iff.1 (List.mem_map.2 ⟨e, he, rfl⟩)
  obtain ⟨p, hp1, hp2⟩ := List.mem_map.1 this
  obtain ⟨x, hx⟩ := F.key p.1 (hw p hp1)
  exact ⟨x, by rw [← hx, show e.key = kv p.1 from (congrArg Prod.fst hp2).symm]⟩

/-- Where a key is found, or not. -/
theorem MapAt.find {es : Array MapEntry} (F : KeyFn P kt kv) (hst : (l.map Prod.fst).Nodup) (hp : (es.toList.map pe).Perm (l.map (pr kv))) (hw : ∀ p ∈ l, (Lit.int .i64 p.1).wf = true) (k : Int) (hk : (Lit.int .i64 k).wf = true) (w : World) :
    ((Instr.findKey kt (kv k) es.toList).run P w = .ok none w ∧ (∀ e ∈ es.toList, e.key ≠ kv k) ∧ mget l k = none) ∨
    ∃ j e, (Instr.findKey kt (kv k) es.toList).run P w = .ok (some (j, e.val)) w ∧ es.toList[j]? = some e ∧ e.key = kv k ∧ mget l k = some e.val := by
  obtain ⟨x, hx⟩ := F.key k hk
  rcases F.K.find w hx es.toList (MapAt.keys F hp hw) with ⟨h1, h2⟩ | ⟨j, e, h1, h2, h3⟩
  · refine .inl ⟨h1, h2, ?_⟩
    cases hl : mget l k with
    | none => rfl
    | some v =>
      have : pr kv (k, v) ∈ es.toList.map pe := hp.mem_iff.2 (List.mem_map.2 ⟨_, mget_mem hl, rfl⟩)
      obtain ⟨e, he, e2⟩ := List.mem_map.1 this
      exact absurd (congrArg Prod.fst e2) (h2 e he)
  · refine .inr ⟨j, e, h1, h2, h3, ?_⟩
    have : pe e ∈ l.map (pr kv) := hp.mem_iff.1 (List.mem_map.2 ⟨e, List.mem_of_getElem? h2, rfl⟩)
    obtain ⟨p, hp1, hp2⟩ := List.mem_map.1 this
    have h4 : kv p.1 = kv k := (congrArg Prod.fst hp2).trans h3
    have h5 := F.inj _ _ h4
    have h6 : p.2 = e.val := congrArg Prod.snd hp2
    exact mget_of_mem hst (by rw [← h5, ← h6]; exact hp1)

/-- 'v, is := m[k]' and 'm[k]'. -/
theorem MapAt.lookup (h : MapAt kv w b l) (F : KeyFn P kt kv) (ht : P.underlying t = some (.map kt et)) {z : Value} (hz : (zeroValue et).run P w = .ok z w) (k : Int) (hk : (Lit.int .i64 k).wf = true) (c : Bool) :
    (Instr.lookup t (.map (some b)) (kv k) c).run P w = .ok (if c then .tuple #[(mget l k).getD z, .bool (mget l k).isSome] else (mget l k).getD z) w := by
  have hn := h.nodup
  obtain ⟨es, clock, hb, hs, hp, hw⟩ := h
  obtain ⟨x, hx⟩ := F.key k hk
  rcases MapAt.find F hn hp hw k hk w with ⟨h1, _, h3⟩ | ⟨j, e, h1, _, _, h4⟩
  · simp [Instr.lookup, run_underlying ht, MapKept.run_getObj_map hb, F.K.check w _ hx, h1, hz, Result.andThen, h3]
  · simp [Instr.lookup, run_underlying ht, MapKept.run_getObj_map hb, F.K.check w _ hx, h1, Result.andThen, h4]

theorem perm_erase {es : List MapEntry} {j : Nat} {e : MapEntry} (hj : es[j]? = some e) : es.Perm (e :: es.eraseIdx j) := by
  induction es generalizing j with
  | nil => simp at hj
  | cons a es ih =>
    cases j with
    | zero => simp at hj; subst hj; simp
    | succ j =>
      simp only [List.getElem?_cons_succ] at hj
      have := ih hj
      exact (this.cons a).trans (by simpa using List.Perm.swap e a _)
theorem erase_perm {es : List MapEntry} (hst : (l.map Prod.fst).Nodup) (F : KeyFn P kt kv) (hp : (es.map pe).Perm (l.map (pr kv))) {j : Nat} {e : MapEntry} {k : Int} (hj : es[j]? = some e) (hk : e.key = kv k) :
    ((es.eraseIdx j).map pe).Perm ((mdel l k).map (pr kv)) := by
  have h1 : (pe e :: (es.eraseIdx j).map pe).Perm (l.map (pr kv)) := (((perm_erase hj).map pe).symm).trans hp
  have hm : pe e ∈ l.map (pr kv) := h1.mem_iff.1 (by simp)
  obtain ⟨p, hp1, hp2⟩ := List.mem_map.1 hm
  have h5 : p.1 = k := F.inj _ _ ((congrArg Prod.fst hp2).trans hk)
  have hl : mget l k = some p.2 := mget_of_mem hst (by rw [← h5]; exact hp1)
  have h2 : l.Perm (p :: mdel l k) := by
    clear h1 hm hl hp hp2 hj hk
    induction l with
    | nil => simp at hp1
    | cons q l ih =>
      rw [List.map_cons, List.nodup_cons] at hst
      by_cases hq : q.1 = k
      · have hn : mget l k = none := by
          cases hl : mget l k with
          | none => rfl
          | some v => exact absurd (List.mem_map.2 ⟨(k, v), mget_mem hl, hq.symm⟩) hst.1
        have : mdel (q :: l) k = l := by
          have : mdel (q :: l) k = mdel l k := by simp [mdel, hq]
          rw [this, mdel_none hn]
        rw [this]
        rcases List.mem_cons.1 hp1 with rfl | hp1
        · exact List.Perm.refl _
        · exact absurd h5 (mget_none hn p hp1)
      · have : mdel (q :: l) k = q :: mdel l k := by simp [mdel, hq]
        rw [this]
        rcases List.mem_cons.1 hp1 with rfl | hp1
        · exact absurd h5 hq
        · exact ((ih hst.2 hp1).cons q).trans (List.Perm.swap p q _)
  have h3 : (pe e :: (es.eraseIdx j).map pe).Perm (pe e :: (mdel l k).map (pr kv)) := by
    refine h1.trans ((h2.map (pr kv)).trans ?_)
    rw [List.map_cons, hp2]
  exact h3.cons_inv

theorem grownBy_setBlock (hb : ∃ es clock, w.heap[b]? = some (.map es clock)) (es' : Array MapEntry) (clock' : Nat) : w.grownBy (setBlock w b (.map es' clock')) (some b) := by
  obtain ⟨es, clock, hb⟩ := hb
  exact ⟨rfl, rfl, rfl, by simp [setBlock], fun i _ hi => heap_setBlock_other hb _ (fun e => hi (by rw [e]))⟩

/-- 'm[k] = v'. -/
theorem MapAt.update (h : MapAt kv w b l) (F : KeyFn P kt kv) (ht : P.underlying t = some (.map kt et)) (k : Int) (hk : (Lit.int .i64 k).wf = true) (v : Value) :
    ∃ w', (Instr.mapUpdate t (.map (some b)) (kv k) v).run P w = .ok () w' ∧ MapAt kv w' b (mput l k v) ∧ w.grownBy w' (some b) ∧ w'.heap.size = w.heap.size := by
  have hn := h.nodup
  obtain ⟨es, clock, hb, hs, hp, hw⟩ := h
  obtain ⟨x, hx⟩ := F.key k hk
  have hwd : ∀ p ∈ mput l k v, (Lit.int .i64 p.1).wf = true := by
    intro p hp
    rcases List.mem_cons.1 hp with rfl | hp
    · exact hk
    · exact hw p (List.mem_filter.1 hp).1
  rcases MapAt.find F hn hp hw k hk w with ⟨h1, h2, h3⟩ | ⟨j, e, h1, h2, h3, h4⟩
  · refine ⟨setBlock w b (.map (es.push ⟨kv k, v, clock⟩) (clock + 1)), ?_, ⟨_, _, heap_setBlock_same hb _, stamped_push hs h2, ?_, hwd⟩, grownBy_setBlock ⟨_, _, hb⟩ _ _, by simp [setBlock]⟩
    · simp [Instr.mapUpdate, run_underlying ht, MapKept.run_getObj_map hb, F.K.check w _ hx, h1, MapKept.run_setObj_map _ hb, Result.andThen, setBlock]
    · unfold mput
      rw [mdel_none h3, Array.toList_push, List.map_append, List.map_cons]
      exact (List.perm_append_singleton _ _).trans (by simpa [pe, pr] using hp)
  · have hj : es[j]? = some e := by simpa using h2
    have hlist : (es.modify j (fun e' => { e' with key := kv k, val := v })).toList = es.toList.set j { e with key := kv k, val := v } := by rw [Array.toList_modify, ChangeMaps.modify_eq_set _ _ _ _ h2]
    have hjl : j < es.toList.length := (List.getElem?_eq_some_iff.1 h2).1
    refine ⟨setBlock w b (.map (es.modify j (fun e' => { e' with key := kv k, val := v })) clock), ?_, ⟨_, _, heap_setBlock_same hb _, stamped_modify hs _ _ (fun _ _ => rfl) (fun e' _ he' => by rw [hj] at he'; cases he'; exact h3.symm), ?_, hwd⟩, grownBy_setBlock ⟨_, _, hb⟩ _ _, by simp [setBlock]⟩
    · simp [Instr.mapUpdate, run_underlying ht, MapKept.run_getObj_map hb, F.K.check w _ hx, h1, hj, h3, F.K.stays w hx, MapKept.run_setObj_map _ hb, Result.andThen, setBlock]
    · rw [hlist]
      refine ((set_perm _ _ hjl _).map pe).trans ?_
      unfold mput
      rw [List.map_cons, List.map_cons]
      exact (erase_perm hn F hp h2 h3).cons _

/-- 'len(m)'. -/
theorem MapAt.len (h : MapAt kv w b l) (ht : P.underlying t = some (.map kt et)) (ty : TypeId) : (Builtin.len_ #[t] ty #[.map (some b)]).run P w = .ok (.int .i64 l.length) w := by
  obtain ⟨es, clock, hb, hs, hp, hw⟩ := h
  have : es.size = l.length := by simpa using hp.length_eq
  simp [Builtin.len_, run_underlying ht, MapKept.run_getObj_map hb, Result.andThen, goInt, this]

/-! ### ranging -/
/-- Block r walks over the map in block b; 'todo': what is still to come. -/
def RangeAt (kv : Int → Value) (w : World) (b r : Nat) (l todo : List (Int × Value)) : Prop :=
  ∃ es clock seen c0, w.heap[b]? = some (.map es clock) ∧ Stamped es clock ∧ (es.toList.map pe).Perm (l.map (pr kv)) ∧ (∀ p ∈ l, (Lit.int .i64 p.1).wf = true) ∧
    w.heap[r]? = some (.mapIter (some b) clock seen c0) ∧ clock ≤ c0 ∧ ((leftOf es seen).toList.map pe).Perm (todo.map (pr kv))

theorem RangeAt.map {r : Nat} {todo : List (Int × Value)} (h : RangeAt kv w b r l todo) : MapAt kv w b l := by
  obtain ⟨es, clock, seen, c0, h1, h2, h3, h4, _⟩ := h
  exact ⟨es, clock, h1, h2, h3, h4⟩
theorem RangeAt.lt {r : Nat} {todo : List (Int × Value)} (h : RangeAt kv w b r l todo) : r < w.heap.size := by
  obtain ⟨es, clock, seen, c0, h1, h2, h3, h4, h5, _⟩ := h
  exact (Array.getElem?_eq_some_iff.1 h5).1
theorem RangeAt.ne {r : Nat} {todo : List (Int × Value)} (h : RangeAt kv w b r l todo) : r ≠ b := by
  obtain ⟨es, clock, seen, c0, h1, h2, h3, h4, h5, _⟩ := h
  rintro rfl
  rw [h1] at h5
  cases h5
theorem RangeAt.kept {w' : World} {row : Option Nat} {r : Nat} {todo : List (Int × Value)} (h : RangeAt kv w b r l todo) (hg : w.grownBy w' row) (hb : some b ≠ row) (hr : some r ≠ row) : RangeAt kv w' b r l todo := by
  have h1 := h.lt
  have h2 := h.map.lt
  obtain ⟨es, clock, seen, c0, e1, e2, e3, e4, e5, e6⟩ := h
  exact ⟨es, clock, seen, c0, (hg.block b h2 hb).trans e1, e2, e3, e4, (hg.block r h1 hr).trans e5, e6⟩
theorem RangeAt.alloc {r : Nat} {todo : List (Int × Value)} (h : RangeAt kv w b r l todo) (o : Obj) : RangeAt kv (w.alloc o) b r l todo := h.kept (World.grownBy_alloc w o none) (by simp) (by simp)

theorem RangeAt.left_eq {r : Nat} {todo : List (Int × Value)} (h : RangeAt kv w b r l todo) : w.rangeLeft b r = todo.length := by
  obtain ⟨es, clock, seen, c0, e1, e2, e3, e4, e5, e6, e7⟩ := h
  have := e7.length_eq
  simp only [World.rangeLeft, e1, e5]
  simpa using this
theorem MapAt.range (h : MapAt kv w b l) (ht : P.underlying t = some (.map kt et)) :
    ∃ w', (Instr.range t (.map (some b))).run P w = .ok (.pointer (some ⟨w.heap.size, 0, none⟩)) w' ∧ RangeAt kv w' b w.heap.size l l ∧ w.grownBy w' none ∧ w'.heap.size = w.heap.size + 1 := by
  have hlt := h.lt
  obtain ⟨es, clock, hb, hs, hp, hw⟩ := h
  refine ⟨_, run_range_map w t kt et b es clock ht hb, ⟨es, clock, #[], clock, ((MapKept.heap_alloc w _).2 b hlt).trans hb, hs, hp, hw, (MapKept.heap_alloc w _).1, Nat.le_refl _, ?_⟩, World.grownBy_alloc w _ none, by simp⟩
  have : (leftOf es #[]).toList = es.toList := by simp [leftOf]
  rw [this]; exact hp

theorem left_push {es : List MapEntry} (seen : Array Nat) {e : MapEntry} (hn : (es.map (·.born)).Nodup) (he : e ∈ es) (hs : seen.contains e.born = false) :
    (es.filter fun x => !seen.contains x.born).Perm (e :: es.filter fun x => !(seen.push e.born).contains x.born) := by
  induction es with
  | nil => simp at he
  | cons a es ih =>
    rw [List.map_cons, List.nodup_cons] at hn
    rcases List.mem_cons.1 he with rfl | he
    · have h1 : ∀ x ∈ es, (!(seen.push e.born).contains x.born) = !seen.contains x.born := by
        intro x hx
        rw [contains_push]
        have : (x.born == e.born) = false := by
          rw [beq_eq_false_iff_ne]
          exact fun h => hn.1 (List.mem_map.2 ⟨x, hx, h⟩)
        simp [this]
      rw [List.filter_cons_of_pos (by simp only [hs]; rfl), List.filter_cons_of_neg (by rw [contains_push]; simp), List.filter_congr h1]
    · have h1 : (a.born == e.born) = false := by
        rw [beq_eq_false_iff_ne]
        exact fun h => hn.1 (List.mem_map.2 ⟨e, he, h.symm⟩)
      have ih := ih hn.2 he
      by_cases ha : seen.contains a.born = true
      · rw [List.filter_cons_of_neg (by rw [ha]; simp), List.filter_cons_of_neg (by rw [contains_push, ha]; simp)]
        exact ih
      · have ha' : seen.contains a.born = false := by simpa using ha
        rw [List.filter_cons_of_pos (by rw [ha']; rfl), List.filter_cons_of_pos (by rw [contains_push, ha', h1]; rfl)]
        exact (ih.cons a).trans (List.Perm.swap _ _ _)

/-- A step of the range: nothing is left; or one of those that are left comes, whichever. -/
theorem RangeAt.next {r : Nat} {todo : List (Int × Value)} (h : RangeAt kv w b r l todo) (F : KeyFn P kt kv) (ty : TypeId) :
    (todo = [] ∧ (Instr.next (.pointer (some ⟨r, 0, none⟩)) false ty).run P w = .ok (.tuple #[.bool false]) w) ∨
    ∃ k v todo' w', todo.Perm ((k, v) :: todo') ∧ (k, v) ∈ l ∧ (Instr.next (.pointer (some ⟨r, 0, none⟩)) false ty).run P w = .ok (.tuple #[.bool true, kv k, v]) w' ∧ RangeAt kv w' b r l todo' ∧
      w.grownBy w' (some r) ∧ w'.heap.size = w.heap.size ∧ (Instr.entry (.pointer (some ⟨r, 0, none⟩))).run P w' = .ok (.tuple #[kv k, v]) w' := by
  have hne := h.ne
  obtain ⟨es, clock, seen, c0, hb, hs, hp, hw, hr, hc, hl⟩ := h
  rcases run_next_at (P := P) w ty r b clock c0 seen es clock hr hb hs.1 hc with ⟨h0, hrun⟩ | ⟨e, he, w1, hal, hrun⟩
  · refine .inl ⟨?_, hrun⟩
    have : (leftOf es seen).toList = [] := by simpa using h0
    rw [this] at hl
    have := hl.length_eq
    simpa using this.symm
  · have hm := mem_left he
    have hpm : (leftOf es seen).toList.Perm (e :: (leftOf es (seen.push e.born)).toList) := by
      simp only [leftOf, Array.toList_filter]
      exact left_push seen hs.2.1 hm.1 hm.2
    have hl' : (pe e :: (leftOf es (seen.push e.born)).toList.map pe).Perm (todo.map (pr kv)) := ((hpm.map pe).symm).trans hl
    obtain ⟨q, hq, hqe⟩ := List.mem_map.1 (hl'.mem_iff.1 (List.mem_cons_self ..))
    obtain ⟨s, u, hsu⟩ := List.append_of_mem hq
    have hpq : todo.Perm (q :: (s ++ u)) := by rw [hsu]; exact List.perm_middle
    have hr1 : w1.heap[r]? = some (.mapIter (some b) clock seen c0) := by rcases hal with rfl | rfl <;> exact hr
    have hb1 : w1.heap[b]? = some (.map es clock) := by rcases hal with rfl | rfl <;> exact hb
    have hsz1 : w1.heap.size = w.heap.size := by rcases hal with rfl | rfl <;> rfl
    have hrlt : r < w1.heap.size := (Array.getElem?_eq_some_iff.1 hr1).1
    have hrr : (setBlock w1 r (.mapIter (some b) clock (seen.push e.born) clock)).heap[r]? = some (.mapIter (some b) clock (seen.push e.born) clock) := by simp [setBlock, hrlt]
    have hro : ∀ i, i ≠ r → (setBlock w1 r (.mapIter (some b) clock (seen.push e.born) clock)).heap[i]? = w1.heap[i]? := fun i hi => by simp [setBlock, Ne.symm hi]
    have e1 : e.key = kv q.1 := (congrArg Prod.fst hqe).symm
    have e2 : e.val = q.2 := (congrArg Prod.snd hqe).symm
    have hql : q ∈ l := by
      have : pe e ∈ l.map (pr kv) := hp.mem_iff.1 (List.mem_map.2 ⟨e, hm.1, rfl⟩)
      obtain ⟨q', hq', e'⟩ := List.mem_map.1 this
      have h7 : kv q'.1 = kv q.1 := (congrArg Prod.fst e').trans (congrArg Prod.fst hqe).symm
      have h8 : q'.2 = q.2 := (congrArg Prod.snd e').trans (congrArg Prod.snd hqe).symm
      have : q' = q := Prod.ext (F.inj _ _ h7) h8
      rw [← this]; exact hq'
    refine .inr ⟨q.1, q.2, (s ++ u), _, hpq, hql, by rw [← e1, ← e2]; exact hrun, ⟨es, clock, seen.push e.born, clock, (hro b (fun e => hne e.symm)).trans hb1, hs, hp, hw, hrr, Nat.le_refl _, ?_⟩, ⟨?_, ?_, ?_, ?_, ?_⟩, ?_, ?_⟩
    · have h3 : (pe e :: (leftOf es (seen.push e.born)).toList.map pe).Perm (pe e :: ((s ++ u)).map (pr kv)) := hl'.trans (((hpq.map (pr kv))).trans (by rw [List.map_cons, hqe]))
      exact h3.cons_inv
    · rcases hal with rfl | rfl <;> rfl
    · rcases hal with rfl | rfl <;> rfl
    · rcases hal with rfl | rfl <;> rfl
    · rcases hal with rfl | rfl <;> simp [setBlock]
    · intro k _ hk
      rw [hro k (fun e => hk (by rw [e]))]
      rcases hal with rfl | rfl <;> rfl
    · rcases hal with rfl | rfl <;> simp [setBlock]
    · rw [← e1, ← e2]
      exact run_entry_at _ r b clock seen es clock e hrr ((hro b (fun e => hne e.symm)).trans hb1) hm.1 hs.2.1
end
/-! ### at the operations, for the walk -/
section
variable {P : Program} (w : World) {ops : Array Oper} {rest : List Oper} {o : Oper} {a : Act} {Q : Exit → Act → World → Prop} {kt et t : TypeId} {kv : Int → Value}
theorem wpList_range (hg : o.guard = none) (m : Operand) (t : TypeId) (hop : o.op = Op.range t m) (kt et : TypeId) (kv : Int → Value) (ht : P.underlying t = some (.map kt et))
    (b : Nat) (l : List (Int × Value)) (hm : a.eval m = .map (some b)) (h : MapAt kv w b l)
    (hK : ∀ w', RangeAt kv w' b w.heap.size l l → w.grownBy w' none → w'.heap.size = w.heap.size + 1 → wpList P ops Q rest (a.put o.dst (.pointer (some ⟨w.heap.size, 0, none⟩))) w') : wpList P ops Q (o :: rest) a w := by
  refine wpList_plain hg fun K' hK' => ?_
  obtain ⟨w', hrun, h1, h2, h3⟩ := h.range ht
  unfold Oper.wp
  simp [execOp, hop, hm, hrun, Result.andThen]
  exact hK' _ _ (hK w' h1 h2 h3)
/-- 'mk': the elements' shape. -/
theorem wpList_next {α : Type} (hg : o.guard = none) (it : Operand) (hop : o.op = Op.next it false) (kt : TypeId) (kv : Int → Value) (F : KeyFn P kt kv) (mk : α → Value)
    (b r : Nat) (l todo : List (Int × α)) (hit : a.eval it = .pointer (some ⟨r, 0, none⟩)) (h : RangeAt kv w b r (l.map fun p => (p.1, mk p.2)) (todo.map fun p => (p.1, mk p.2)))
    (hDone : todo = [] → wpList P ops Q rest (a.put o.dst (.tuple #[.bool false])) w)
    (hMore : ∀ (k : Int) (v : α) (todo' : List (Int × α)) (w' : World), todo.Perm ((k, v) :: todo') → RangeAt kv w' b r (l.map fun p => (p.1, mk p.2)) (todo'.map fun p => (p.1, mk p.2)) → w.grownBy w' (some r) → w'.heap.size = w.heap.size →
      (Instr.entry (.pointer (some ⟨r, 0, none⟩))).run P w' = .ok (.tuple #[kv k, mk v]) w' → wpList P ops Q rest (a.put o.dst (.tuple #[.bool true, kv k, mk v])) w') : wpList P ops Q (o :: rest) a w := by
  refine wpList_plain hg fun K' hK' => ?_
  unfold Oper.wp
  rcases h.next F o.type with ⟨h0, hrun⟩ | ⟨k, v, todo', w', hp, _, hrun, hr, hg', hs, he⟩
  · simp [execOp, hop, hit, hrun, Result.andThen]
    exact hK' _ _ (hDone (by simpa using h0))
  · have hm : (k, v) ∈ todo.map fun p => (p.1, mk p.2) := hp.mem_iff.2 (by simp)
    obtain ⟨q, hq, hqe⟩ := List.mem_map.1 hm
    obtain ⟨s, u, hsu⟩ := List.append_of_mem hq
    obtain rfl : q.1 = k := congrArg Prod.fst hqe
    obtain rfl : mk q.2 = v := congrArg Prod.snd hqe
    have hpq : todo.Perm (q :: (s ++ u)) := by rw [hsu]; exact List.perm_middle
    have hp2 : todo'.Perm ((s ++ u).map fun p => (p.1, mk p.2)) := by
      have h1 := hp.symm.trans (hpq.map fun p => (p.1, mk p.2))
      rw [List.map_cons] at h1
      exact h1.cons_inv
    have hr' : RangeAt kv w' b r (l.map fun p => (p.1, mk p.2)) ((s ++ u).map fun p => (p.1, mk p.2)) := by
      obtain ⟨es, clock, seen, c0, e1, e2, e3, e4, e5, e6, e7⟩ := hr
      exact ⟨es, clock, seen, c0, e1, e2, e3, e4, e5, e6, e7.trans (hp2.map _)⟩
    simp [execOp, hop, hit, hrun, Result.andThen]
    exact hK' _ _ (hMore q.1 q.2 (s ++ u) w' hpq hr' hg' hs he)
end
/-! ### lists of keys and values of another shape -/
section
variable {α β : Type} (f : α → β)
def mv (l : List (Int × α)) : List (Int × β) := l.map fun p => (p.1, f p.2)
theorem mget_mv (l : List (Int × α)) (k : Int) : mget (mv f l) k = (mget l k).map f := by
  induction l with
  | nil => rfl
  | cons p l ih =>
    show mget ((p.1, f p.2) :: mv f l) k = _
    rw [mget_cons, mget_cons, ih]
    by_cases h : p.1 = k <;> simp [h]
theorem mdel_mv (l : List (Int × α)) (k : Int) : mdel (mv f l) k = mv f (mdel l k) := by
  induction l with
  | nil => rfl
  | cons p l ih =>
    by_cases h : p.1 = k
    · have e1 : mdel (mv f (p :: l)) k = mdel (mv f l) k := by simp [mdel, mv, h]
      have e2 : mdel (p :: l) k = mdel l k := by simp [mdel, h]
      rw [e1, e2, ih]
    · have e1 : mdel (mv f (p :: l)) k = (p.1, f p.2) :: mdel (mv f l) k := by simp [mdel, mv, h]
      have e2 : mdel (p :: l) k = p :: mdel l k := by simp [mdel, h]
      rw [e1, e2, ih]
      rfl
theorem mput_mv (l : List (Int × α)) (k : Int) (v : α) : mput (mv f l) k (f v) = mv f (mput l k v) := by
  unfold mput
  rw [mdel_mv]
  rfl
theorem length_mv (l : List (Int × α)) : (mv f l).length = l.length := by simp [mv]
end
end Go.Proofs.Ytbbaoeidobdblaa.Mx

/- Sx, part 14: maps of one's own (keys are one number each). -/
set_option linter.unusedVariables false
set_option linter.unusedSimpArgs false
namespace Go.Proofs.Ytbbaoeidobdblaa.Sx
open Go
/-- A map of one's own: these keys, and values. -/
def mapR (kv : Int → Value) (g : Nat) (l : List (Int × Value)) : Res := .usr fun S W => (∀ b, S b ↔ b = g) ∧ Mx.MapAt kv W g l
theorem mapR_get {kv : Int → Value} {g : Nat} {l : List (Int × Value)} {S : Nat → Prop} {w : World} (h : (mapR kv g l).holds S w) : (∀ b, S b ↔ b = g) ∧ Mx.MapAt kv w g l := h w (Ext.refl _ _)
theorem mapR_of {kv : Int → Value} {g : Nat} {l : List (Int × Value)} {S : Nat → Prop} {w : World} (hS : ∀ b, S b ↔ b = g) (h : Mx.MapAt kv w g l) : (mapR kv g l).holds S w := fun W e => ⟨hS, h.block (e.block g ((hS g).2 rfl))⟩
theorem wf64 {x : Int} (h : -9223372036854775808 ≤ x) (k : x ≤ 9223372036854775807) : (Lit.int .i64 x).wf = true := by
  simp [Lit.wf, IntKind.min, IntKind.max, IntKind.signed, IntKind.bits]
  omega
open Go.MapKept Go.ChangeMaps Mx in
/-- An entry of a map: its key, and its stamp. -/
def Born (kv : Int → Value) (w : World) (b : Nat) (k : Int) (s : Nat) : Prop := ∃ (es : Array MapEntry) (clock j : Nat) (e : MapEntry), w.heap[b]? = some (.map es clock) ∧ es.toList[j]? = some e ∧ e.key = kv k ∧ e.born = s
theorem Born.block {kv : Int → Value} {w w' : World} {b : Nat} {k : Int} {s : Nat} (h : Born kv w b k s) (hb : w'.heap[b]? = w.heap[b]?) : Born kv w' b k s := by
  obtain ⟨es, clock, j, e, h1, r⟩ := h
  exact ⟨es, clock, j, e, hb.trans h1, r⟩
section
open Go.MapKept Go.ChangeMaps Mx
variable {P : Program} {kt et t : TypeId} {kv : Int → Value} {w : World} {b : Nat} {l : List (Int × Value)}
end
section
variable {P : Program} {C : Ctx} {T : Ty} {res : List ResultVar} {p : Pos} {tm : Tm} {m : Mem}
theorem mapMk (ok : Okc P T C res) {o : Oper} {t d : Nat} (ho : o.op = .makeMap t none) (hd : o.dst = some d) (kv : Int → Value)
    (kk : ∀ g, sx T C res 1000 p (put C.n (some d) (.c (.v (.map (some g)))) tm) ⟨m.B, m.G, (d, mapR kv g []) :: del d (del d m.rs)⟩) : At C (.op o p) tm m := by
  rintro act w cs0 hR ⟨I, F, hJ⟩
  have hrun : (execOp act.eval o).run C.P w = .ok (.value (.map (some w.heap.size))) (w.alloc (.map #[] 0)) := by
    simp [execOp, ho, Instr.makeMap, newObj, Sem.run]
  have hup := hJ.upd d d (mapR kv w.heap.size []) noS (fun b => b = w.heap.size) (fun b hb => hb.elim) (Ext.alloc _ w _ fun b hb => hb.1) (mapR_of (fun b => Iff.rfl) (Mx.MapAt.made kv w)) (fun b hb => ⟨by simp [hb], .inr (by omega)⟩) id
  have hRp := hR.put (some d) (.c (.v (.map (some w.heap.size))))
  exact op_value (ok.sx (kk w.heap.size)) hrun (by rw [hd]; exact hRp) ⟨I, _, hup⟩
theorem mapLook (ok : Okc P T C res) (k : Nat) {o : Oper} {t : Nat} {om ox : Operand} {c : Bool} (ho : o.op = .lookup t om ox c) {kt et : TypeId} {kv : Int → Value} (F : Mx.KeyFn P kt kv) (ht : P.underlying t = some (.map kt et)) {z : Value} (hz : ∀ w, (zeroValue et).run P w = .ok z w)
    {g : Nat} {l : List (Int × Value)} {u : SV} {key : Int} (hk : look k m.rs = some (mapR kv g l)) (hm : ev tm om = some (.c (.v (.map (some g))))) (hx : ev tm ox = some u) (hu : u.val = kv key) (hw : (Lit.int .i64 key).wf = true)
    (kk : sx T C res 1000 p (put C.n o.dst (.c (nv (if c then .tuple #[(Mx.mget l key).getD z, .bool (Mx.mget l key).isSome] else (Mx.mget l key).getD z))) tm) m) : At C (.op o p) tm m := by
  obtain rfl := ok.P
  intro act w cs0 hR hJ
  have hM : Mx.MapAt kv w g l := by
    obtain ⟨I, Fo, hi⟩ := hJ
    exact (mapR_get (hi.own _ (look_mem hk))).2
  have e1 : act.eval om = .map (some g) := hR.eval hm
  have e2 : act.eval ox = kv key := by rw [hR.eval hx, hu]
  have hl := hM.lookup F ht (hz w) key hw c
  have hrun : (execOp act.eval o).run C.P w = .ok (.value (if c then .tuple #[(Mx.mget l key).getD z, .bool (Mx.mget l key).isSome] else (Mx.mget l key).getD z)) w := by
    simp only [execOp, ho, e1, e2]
    simp [hl, Result.andThen]
  have hRp := hR.put o.dst (.c (nv (if c then .tuple #[(Mx.mget l key).getD z, .bool (Mx.mget l key).isSome] else (Mx.mget l key).getD z)))
  simp only [SV.val, nv_val] at hRp
  exact op_value (ok.sx kk) hrun hRp hJ
theorem mapSet (ok : Okc P T C res) (k : Nat) {o : Oper} {t : Nat} {om ox ov : Operand} (ho : o.op = .mapUpdate t om ox ov) (hd : o.dst = none) {kt et : TypeId} {kv : Int → Value} (F : Mx.KeyFn P kt kv) (ht : P.underlying t = some (.map kt et))
    {g : Nat} {l : List (Int × Value)} {u v : SV} {key : Int} (hk : look k m.rs = some (mapR kv g l)) (hm : ev tm om = some (.c (.v (.map (some g))))) (hx : ev tm ox = some u) (hu : u.val = kv key) (hv : ev tm ov = some v) (hw : (Lit.int .i64 key).wf = true)
    (kk : sx T C res 1000 p tm ⟨m.B, m.G, (k, mapR kv g (Mx.mput l key v.val)) :: del k (del k m.rs)⟩) : At C (.op o p) tm m := by
  obtain rfl := ok.P
  rintro act w cs0 hR ⟨I, Fo, hJ⟩
  have h0 := mapR_get (hJ.own _ (look_mem hk))
  have e1 : act.eval om = .map (some g) := hR.eval hm
  have e2 : act.eval ox = kv key := by rw [hR.eval hx, hu]
  have e3 : act.eval ov = v.val := hR.eval hv
  obtain ⟨w', hr, hM, hg, hs⟩ := h0.2.update F ht key hw v.val
  have hrun : (execOp act.eval o).run C.P w = .ok .skip w' := by
    simp only [execOp, ho, e1, e2, e3]
    simp [hr, Result.andThen]
  have hup := hJ.upd k k (mapR kv g (Mx.mput l key v.val)) (fun b => b = g) (fun b => b = g) (fun b hb => ⟨(h0.1 b).2 hb, _, look_mem hk⟩) ⟨hg.os, hg.tape, hg.output, hg.size, fun b hb => hg.block b hb.1 (fun e => hb.2 (by simpa using e))⟩ (mapR_of (fun b => Iff.rfl) hM) (fun b hb => by subst hb; exact ⟨hM.lt, .inl rfl⟩) id
  exact op_skip (ok.sx kk) hrun (by rw [hd]; exact hR) ⟨I, _, hup⟩
end
end Go.Proofs.Ytbbaoeidobdblaa.Sx

/- That an array of one int is a key that the laws on maps take. -/
set_option linter.unusedVariables false
set_option linter.unusedSimpArgs false
namespace Go.Proofs.Ytbbaoeidobdblaa.Keya
open Go.WideMaps Go.Maps
theorem laidOut : laidOutB Try.prog = true := by kernel_rfl
def kv1 (x : Int) : Value := .agg #[.int .i64 x]
theorem size_types : ∃ m, Try.prog.types.size = m + 1 := ⟨Try.prog.types.size - 1, by have : 0 < Try.prog.types.size := of_decide_eq_true (by kernel_rfl); omega⟩
end Go.Proofs.Ytbbaoeidobdblaa.Keya

/- power: New, Step, Mask; nor.Chip: Geometry, ask. -/
set_option linter.unusedVariables false
set_option linter.unusedSimpArgs false
namespace Go.Proofs.Ytbbaoeidobdblaa.Sx
open Go
attribute [local simp ↓] ifb_true' ifb_false'
attribute [local simp] ifb_true ifb_false ifb_eq sx argsT find ev evOp evs evo evBin evInt evStr evNil evNilA ptrA slcA isNoneA asB evLoad look del cellsB evUn evConv kdec fld evFieldA evField evIdxA evIdx evSlc bndL bndH evLen mmi put resV guardV gvL setO tupV cellsOf ones one upd lits nv exitTo SV.val CV.val TI.agg rdyA allR keepB scan simpO gsp isS subs keepT pickT wr memN pubs Res.fact Region.binds bld rest give delL back Res.eqv vi vb num Sv.val undef
abbrev powB (p : Pw) (fl : Value) : List CV := [.v (.int .i64 p.left), .v (.int .u8 p.mask), .b p.off, .v fl, .v (.int .i64 p.done)]
/-- A chip: its form, where its parts stand, its power, its bytes, how often each sector was erased. -/
structure Cp where
  g : Geo
  gc : Nat
  gp : Nat
  gb : Nat
  gm : Nat
  cap : Nat
  bc : Nat
  p : Pw
  fl : Value
  b : List Int
  er : List (Int × Int)
abbrev kv1 := Keya.kv1
abbrev Cp.chip (c : Cp) : Res := .box c.gc 79 [.v (.int .i64 c.g.sectors), .v (.int .i64 c.g.sector), .v (.int .i64 c.g.blocks), .v (.int .i64 c.g.pages), .v (.int .i64 c.g.page), .bp 1001 c.gp 0, .rw 1002 (some ⟨c.gb, 0, none⟩) c.b.length c.cap, .v (.map (some c.gm))]
abbrev Cp.pow (c : Cp) : Res := .box c.gp 82 (powB c.p c.fl)
abbrev Cp.row (c : Cp) : Res := .row (some ⟨c.gb, 0, none⟩) c.b.length c.bc 5 1 (bC c.b)
abbrev Cp.map (c : Cp) : Res := mapR kv1 c.gm (Mx.mv (Value.int .i64) c.er)
abbrev Cp.res (c : Cp) : List Res := [c.chip, c.pow, c.row, c.map]
abbrev ptrV (g : Nat) : Value := .pointer (some ⟨g, 0, none⟩)
end Go.Proofs.Ytbbaoeidobdblaa.Sx

/- half.ask, half.Wipe. -/
set_option linter.unusedVariables false
set_option linter.unusedSimpArgs false
namespace Go.Proofs.Ytbbaoeidobdblaa.Sx
open Go
attribute [local simp ↓] ifb_true' ifb_false'
attribute [local simp] ifb_true ifb_false ifb_eq sx argsT find ev evOp evs evo evBin evInt evStr evNil evNilA ptrA slcA isNoneA asB evLoad look del cellsB evUn evConv kdec fld evFieldA evField evIdxA evIdx evSlc bndL bndH evLen mmi put resV guardV gvL setO tupV cellsOf ones one upd lits nv exitTo SV.val CV.val TI.agg rdyA allR keepB scan simpO gsp isS subs keepT pickT wr memN pubs Res.fact Region.binds bld rest give delL back Res.eqv vi vb num Sv.val undef
/-- What a chip is like that is used. -/
structure Cp.fit (c : Cp) : Prop where
  right : c.g.right
  len : (c.b.length : Int) = c.g.sectors * c.g.sector
  cap : c.b.length ≤ c.cap
  left : c.p.left ≤ 9223372036854775807
/-- The same chip, later on. -/
structure Cp.same (c d : Cp) : Prop where
  g : d.g = c.g
  gc : d.gc = c.gc
  gp : d.gp = c.gp
  gb : d.gb = c.gb
  gm : d.gm = c.gm
  cap : d.cap = c.cap
  bc : d.bc = c.bc
  fl : d.fl = c.fl
  len : d.b.length = c.b.length
theorem Cp.same.refl (c : Cp) : c.same c := ⟨rfl, rfl, rfl, rfl, rfl, rfl, rfl, rfl, rfl⟩
theorem Cp.same.trans {a b c : Cp} (h : a.same b) (k : b.same c) : a.same c := ⟨k.g.trans h.g, k.gc.trans h.gc, k.gp.trans h.gp, k.gb.trans h.gb, k.gm.trans h.gm, k.cap.trans h.cap, k.bc.trans h.bc, k.fl.trans h.fl, k.len.trans h.len⟩
def halfN (c : Cp) : Nat := (c.g.sectors / 2).toNat
end Go.Proofs.Ytbbaoeidobdblaa.Sx

/- half.Append. -/
set_option linter.unusedVariables false
set_option linter.unusedSimpArgs false
namespace Go.Proofs.Ytbbaoeidobdblaa.Sx
open Go
attribute [local simp ↓] ifb_true' ifb_false'
attribute [local simp] ifb_true ifb_false ifb_eq sx argsT find ev evOp evs evo evBin evInt evStr evNil evNilA ptrA slcA isNoneA asB evLoad look del cellsB evUn evConv kdec fld evFieldA evField evIdxA evIdx evSlc bndL bndH evLen mmi put resV guardV gvL setO tupV cellsOf ones one upd lits nv exitTo SV.val CV.val TI.agg rdyA allR keepB scan simpO gsp isS subs keepT pickT wr memN pubs Res.fact Region.binds bld rest give delL back Res.eqv vi vb num Sv.val undef
/-- How many bytes a half has. -/
def halfSz (c : Cp) : Nat := halfN c * c.g.sector.toNat
theorem Cp.same.halfN {c d : Cp} (h : c.same d) : halfN d = halfN c := by unfold Sx.halfN; rw [h.g]
theorem Cp.same.halfSz {c d : Cp} (h : c.same d) : halfSz d = halfSz c := by unfold Sx.halfSz; rw [h.halfN, h.g]
end Go.Proofs.Ytbbaoeidobdblaa.Sx

/- journal.Journal: room, State. -/
set_option linter.unusedVariables false
set_option linter.unusedSimpArgs false
namespace Go.Proofs.Ytbbaoeidobdblaa.Sx
open Go
attribute [local simp ↓] ifb_true' ifb_false'
attribute [local simp] ifb_true ifb_false ifb_eq sx argsT find ev evOp evs evo evBin evInt evStr evNil evNilA ptrA slcA isNoneA asB evLoad look del cellsB evUn evConv kdec fld evFieldA evField evIdxA evIdx evSlc bndL bndH evLen mmi put resV guardV gvL setO tupV cellsOf ones one upd lits nv exitTo SV.val CV.val TI.agg rdyA allR keepB scan simpO gsp isS subs keepT pickT wr memN pubs Res.fact Region.binds bld rest give delL back Res.eqv vi vb num Sv.val undef
/-- A journal: its chip, where it stands, the half in use, the epoch, how much is used, the state, whether it ended. -/
structure Jn where
  c : Cp
  gj : Nat
  half : Nat
  ep : Int
  used : Nat
  s : Sta
  si : Sl
  sb : Sl
  ended : Bool
abbrev jnC (j : Jn) : List CV := [.v (ptrV j.c.gc), .v (.int .i64 (j.half : Nat)), .v (.int .i64 j.ep), .v (.int .i64 (j.used : Nat)), .v (.int .i64 j.s.next), .v (.slice j.si.1 j.s.inos.length j.si.2), .v (.slice j.sb.1 j.s.bad.length j.sb.2), .b j.ended]
abbrev Jn.box (j : Jn) : Res := .box j.gj 85 (jnC j)
abbrev Jn.res (j : Jn) : List Res := [j.c.chip, j.c.pow, j.c.row, j.c.map, j.box]
end Go.Proofs.Ytbbaoeidobdblaa.Sx

/- Plain: chips whose power stays. -/
set_option linter.unusedVariables false
set_option linter.unusedSimpArgs false
namespace Go.Proofs.Ytbbaoeidobdblaa.Sx
open Go
/-- Power that stays. -/
def live (p : Pw) : Prop := p.left < 0 ∧ p.off = false
/-- So many bytes are clean, from somewhere on. -/
def clean (b : List Int) (o n : Nat) : Prop := ∀ i, o ≤ i → i < o + n → b[i]? = some 255
theorem clean.mono {b : List Int} {o n o' n' : Nat} (h : clean b o n) (h1 : o ≤ o') (h2 : o' + n' ≤ o + n) : clean b o' n' := fun i h3 h4 => h i (by omega) (by omega)
end Go.Proofs.Ytbbaoeidobdblaa.Sx

/- Plain: a journal whose power stays: committed, or no room. -/
set_option linter.unusedVariables false
set_option linter.unusedSimpArgs false
namespace Go.Proofs.Ytbbaoeidobdblaa.Sx
open Go
structure Jok (j : Jn) : Prop where
  fit : j.c.fit
  half : j.half < 2
  live : live j.c.p
  ended : j.ended = false
  used : j.used ≤ halfSz j.c
  clean : clean j.c.b (j.half * halfSz j.c + j.used) (halfSz j.c - j.used)
  ep : 1 ≤ j.ep ∧ j.ep ≤ 2147483647
end Go.Proofs.Ytbbaoeidobdblaa.Sx

/-
  DERIVED: THE SHELF's CONTRACTS AT THIS DUMP, IN PLAIN WORDS (tools/lay-plain.mjs out of 'YtbbaoeidobdblaaShelf.lean', which tools/lay-shelf.mjs wrote): THE SAME DECLARATIONS UNDER THE SAME NAMES: 'import', 'namespace', 'open', 'def', 'theorem' AND NOTHING ELSE: no command of the shelf's: FOR A HAND-IN. Each laying: the table of numbers ('.._ren') and one theorem, a field a fact of the dump's own or the kernel's comparison; each contract: ONE APPLICATION.
-/
namespace Go.Proofs
open Go.Shelf
def Try.lays189_ren : Go.Shelf.Ren := ⟨fun | 189 => 95 | 125 => 132 | 257 => 131 | 128 => 149 | 129 => 150 | 294 => 140 | 295 => 141 | 296 => 142 | 297 => 143 | 298 => 144 | 299 => 145 | 216 => 146 | 300 => 147 | 301 => 148 | 328 => 153 | 329 => 154 | 330 => 155 | 331 => 156 | 332 => 157 | 215 => 158 | 343 => 161 | n => n, fun | 28 => 45 | 3 => 3 | 46 => 25 | 0 => 0 | 51 => 56 | 53 => 132 | 4 => 4 | 183 => 209 | 182 => 208 | 131 => 70 | 5 => 5 | 9 => 9 | 218 => 217 | 222 => 221 | 228 => 224 | 229 => 225 | n => n, fun | n => n⟩
theorem Try.lays189 : Go.Proofs.Lays.n189 Try.prog Try.lays189_ren := {
  mixed := by kernel_rfl
  f125 := Try.func132.trans (congrArg some (by kernel_rfl))
  f128 := Try.func149.trans (congrArg some (by kernel_rfl))
  f129 := Try.func150.trans (congrArg some (by kernel_rfl))
  f189 := Try.func95.trans (congrArg some (by kernel_rfl))
  f215 := Try.func158.trans (congrArg some (by kernel_rfl))
  f216 := Try.func146.trans (congrArg some (by kernel_rfl))
  f257 := Try.func131.trans (congrArg some (by kernel_rfl))
  f294 := Try.func140.trans (congrArg some (by kernel_rfl))
  f295 := Try.func141.trans (congrArg some (by kernel_rfl))
  f296 := Try.func142.trans (congrArg some (by kernel_rfl))
  f297 := Try.func143.trans (congrArg some (by kernel_rfl))
  f298 := Try.func144.trans (congrArg some (by kernel_rfl))
  f299 := Try.func145.trans (congrArg some (by kernel_rfl))
  f300 := Try.func147.trans (congrArg some (by kernel_rfl))
  f301 := Try.func148.trans (congrArg some (by kernel_rfl))
  f328 := Try.func153.trans (congrArg some (by kernel_rfl))
  f329 := Try.func154.trans (congrArg some (by kernel_rfl))
  f330 := Try.func155.trans (congrArg some (by kernel_rfl))
  f331 := Try.func156.trans (congrArg some (by kernel_rfl))
  f332 := Try.func157.trans (congrArg some (by kernel_rfl))
  f343 := Try.func161.trans (congrArg some (by kernel_rfl))
  t0 := Try.underlying0
  a0 := Try.isAgg0
  z0 := Try.sizeOf0
  v0 := Try.zeroValue0
  t3 := Try.underlying3
  a3 := Try.isAgg3
  z3 := Try.sizeOf3
  v3 := Try.zeroValue3
  t4 := Try.underlying4
  a4 := Try.isAgg4
  z4 := Try.sizeOf4
  v4 := Try.zeroValue4
  t5 := Try.underlying5
  a5 := Try.isAgg5
  z5 := Try.sizeOf5
  v5 := Try.zeroValue5
  t9 := Try.underlying9
  a9 := Try.isAgg9
  z9 := Try.sizeOf9
  v9 := Try.zeroValue9
  t28 := Try.underlying45
  a28 := Try.isAgg45
  z28 := Try.sizeOf45
  v28 := Try.zeroValue45
  t46 := Try.underlying25
  a46 := Try.isAgg25
  z46 := Try.sizeOf25
  v46 := Try.zeroValue25
  t51 := Try.underlying56
  a51 := Try.isAgg56
  z51 := Try.sizeOf56
  v51 := Try.zeroValue56
  t53 := Try.underlying132
  a53 := Try.isAgg132
  z53 := Try.sizeOf132
  v53 := Try.zeroValue132
  t131 := Try.underlying70
  a131 := Try.isAgg70
  z131 := Try.sizeOf70
  v131 := Try.zeroValue70
  t182 := Try.underlying208
  a182 := Try.isAgg208
  z182 := Try.sizeOf208
  v182 := Try.zeroValue208
  t183 := Try.underlying209
  a183 := Try.isAgg209
  z183 := Try.sizeOf209
  v183 := Try.zeroValue209
  t218 := Try.underlying217
  a218 := Try.isAgg217
  z218 := Try.sizeOf217
  v218 := Try.zeroValue217
  t222 := Try.underlying221
  a222 := Try.isAgg221
  z222 := Try.sizeOf221
  v222 := Try.zeroValue221
  t228 := Try.underlying224
  a228 := Try.isAgg224
  z228 := Try.sizeOf224
  v228 := Try.zeroValue224
  t229 := Try.underlying225
  a229 := Try.isAgg225
  z229 := Try.sizeOf225
  v229 := Try.zeroValue225 }
open Go.Sort Go.RowKit in
theorem Try.slices_Sort_int (blk off cap : Nat) (zs : List Int) (w : World) (hH : Holds (Value.int .i64) w blk off zs.toArray) (hblk : blk < w.heap.size) (hsz : zs.length < 4611686018427387904) :
    Calls Try.prog 95 #[.slice (some ⟨blk, off, none⟩) zs.length cap] w fun e w' =>
      e = .returned (.tuple #[]) ∧ ∃ n os, w' = grow (putRow (Value.int .i64) (Sort.ahead w n) blk off (zs.mergeSort fun x y => decide (x ≤ y)).toArray) os := Any.slices_Sort_int Try.lays189 blk off cap zs w hH hblk hsz
def Try.lays107_ren : Go.Shelf.Ren := ⟨fun | 107 => 57 | 108 => 96 | n => n, fun | 28 => 45 | 3 => 3 | 4 => 4 | 0 => 0 | n => n, fun | n => n⟩
theorem Try.lays107 : Go.Proofs.Lays.n107 Try.prog Try.lays107_ren := {
  mixed := by kernel_rfl
  f107 := Try.func57.trans (congrArg some (by kernel_rfl))
  f108 := Try.func96.trans (congrArg some (by kernel_rfl))
  t0 := Try.underlying0
  a0 := Try.isAgg0
  z0 := Try.sizeOf0
  v0 := Try.zeroValue0
  t3 := Try.underlying3
  a3 := Try.isAgg3
  z3 := Try.sizeOf3
  v3 := Try.zeroValue3
  t4 := Try.underlying4
  a4 := Try.isAgg4
  z4 := Try.sizeOf4
  v4 := Try.zeroValue4
  t28 := Try.underlying45
  a28 := Try.isAgg45
  z28 := Try.sizeOf45
  v28 := Try.zeroValue45 }
open Go.Lib in
/-- slices.Contains at []int: "Contains reports whether v is present in s.": IT RETURNS 'elements.contains v'; the world is as it was. ITS CALLEE slices.Index IS MET BY ITS OWN CONTRACT OFF THE SHELF (lay that first): no loop is walked here. (LAID: no walk: one application.) -/
theorem Try.slices_Contains_int (b off n c : Nat) (zs : List Int) (x : Int) (w : World) (hz : n ≤ zs.length) (hbig : n ≤ 9223372036854775807) (hc : ∀ j, j < zs.length → w.cell? ⟨b, off + j, none⟩ = some (.int .i64 (zs.getD j 0))) :
    Calls Try.prog 57 #[.slice (some ⟨b, off, none⟩) n c, .int .i64 x] w fun e w' => e = .returned (.bool ((zs.take n).contains x)) ∧ w' = w := Any.slices_Contains_int Try.lays107 b off n c zs x w hz hbig hc
open Go.Lib in
/-- The same at a slice of length 0, a nil one too. (LAID: no walk: one application.) -/
theorem Try.slices_Contains_int_empty (a : Option Addr) (c : Nat) (x : Int) (w : World) :
    Calls Try.prog 57 #[.slice a 0 c, .int .i64 x] w fun e w' => e = .returned (.bool false) ∧ w' = w := Any.slices_Contains_int_empty Try.lays107 a c x w
open Go.RowKit Go.Sort in
/-- .. and plain. (LAID: no walk: one application.) -/
theorem Try.slices_Sort_int_none (p : Option Addr) (cap : Nat) (w : World) :
    Calls Try.prog 95 #[.slice p 0 cap] w fun e w' => e = .returned (.tuple #[]) ∧ w' = w := Any.slices_Sort_int_none Try.lays189 p cap w
end Go.Proofs

/- The library's Sort on a slice of ints of the call's own. -/
set_option linter.unusedVariables false
set_option linter.unusedSimpArgs false
namespace Go.Proofs.Ytbbaoeidobdblaa.Ints
open Go Go.RowKit Go.Sort Go.Lib
def sorted (zs : List Int) : List Int := zs.mergeSort fun x y => decide (x ≤ y)
theorem sorted_length (zs : List Int) : (sorted zs).length = zs.length := List.length_mergeSort _
theorem sorted_perm (zs : List Int) : (sorted zs).Perm zs := List.mergeSort_perm _ _
theorem sorted_le (zs : List Int) : (sorted zs).Pairwise (fun x y => x ≤ y) := by
  have := List.pairwise_mergeSort (le := fun x y : Int => decide (x ≤ y)) (fun a b c h1 h2 => by simp at *; omega) (fun a b => by simp; omega) zs
  exact this.imp (fun h => by simpa using h)
theorem eq_of_perm_le : ∀ {xs ys : List Int}, xs.Perm ys → xs.Pairwise (fun x y => x ≤ y) → ys.Pairwise (fun x y => x ≤ y) → xs = ys
  | [], ys, h, _, _ => by simpa using h.symm
  | x :: xs, ys, h, h1, h2 => by
    cases ys with
    | nil => simp at h
    | cons y ys =>
      obtain ⟨a1, a2⟩ := List.pairwise_cons.1 h1
      obtain ⟨b1, b2⟩ := List.pairwise_cons.1 h2
      have hxy : x = y := by
        have m1 : x ∈ y :: ys := h.mem_iff.1 (by simp)
        have m2 : y ∈ x :: xs := h.mem_iff.2 (by simp)
        rcases List.mem_cons.1 m1 with e | m1
        · exact e
        · rcases List.mem_cons.1 m2 with e | m2
          · exact e.symm
          · have := a1 y m2; have := b1 x m1; omega
      subst hxy
      rw [eq_of_perm_le h.cons_inv a2 b2]
theorem sorted_of_perm {xs ys : List Int} (h : xs.Perm ys) : sorted xs = sorted ys :=
  eq_of_perm_le ((sorted_perm xs).trans (h.trans (sorted_perm ys).symm)) (sorted_le xs) (sorted_le ys)
theorem grownBy_putRow {w : World} {g q : Nat} {enc : Int → Value} {d : Array Int} : w.grownBy (putRow enc (Sort.ahead w q) g 0 d) (some g) :=
  ⟨rfl, rfl, rfl, by simp [putRow, mapBlock, Sort.ahead], fun k _ hk => by
    have : g ≠ k := fun e => hk (by rw [e])
    simp [putRow, mapBlock, Sort.ahead, Array.getElem?_modify, this]⟩
theorem grownBy_grow {w w1 : World} {row : Option Nat} {os : Array Obj} (h : w.grownBy w1 row) : w.grownBy (grow w1 os) row :=
  ⟨h.os, h.tape, h.output, by have := h.size; simp [grow]; omega, fun k hk hne => by
    rw [← h.block k hk hne]
    exact heap_grow_old _ _ (by have := h.size; omega)⟩
theorem ownsRow_grow {w1 : World} {base e size n : Nat} {v : Value} {xs : List Value} {os : Array Obj} (h : w1.ownsRow base e size v n xs) : (grow w1 os).ownsRow base e size v n xs :=
  h.kept (grownBy_grow ⟨rfl, rfl, rfl, Nat.le_refl _, fun _ _ _ => rfl⟩ : w1.grownBy (grow w1 os) none) (by
    cases v.ownBlock with
    | none => exact .inl rfl
    | some g => exact .inr (by simp))

theorem sort_own (w : World) (base : Nat) (v : Value) (zs : List Int) (h : w.ownsRow base 3 1 v zs.length (zs.map (Value.int .i64))) (hz : zs.length < 4611686018427387904) :
    Calls Try.prog 95 #[v] w fun e w' => e = .returned (.tuple #[]) ∧ w'.ownsRow base 3 1 v zs.length ((sorted zs).map (Value.int .i64)) ∧ w.grownBy w' v.ownBlock := by
  by_cases hv : v = .slice none 0 0
  · subst hv
    have h0 : zs = [] := by
      rcases h.2 with ⟨_, h1⟩ | ⟨g, cap, cur, e, _⟩
      · exact List.eq_nil_of_length_eq_zero h1
      · cases e
    subst h0
    refine (Try.slices_Sort_int_none none 0 w).mono ?_
    rintro e w' ⟨rfl, rfl⟩
    exact ⟨rfl, by simpa [sorted] using h, ⟨rfl, rfl, rfl, Nat.le_refl _, fun _ _ _ => rfl⟩⟩
  · obtain ⟨g, cap, rfl, hb, hg, hn, hm, hl, hH⟩ := holds_of_ownsRow h hv
    refine (Try.slices_Sort_int g 0 cap zs w hH hg hz).mono ?_
    rintro e w' ⟨rfl, n, os, rfl⟩
    refine ⟨rfl, ?_, grownBy_grow grownBy_putRow⟩
    have := ownsRow_putRow (q := n) (k := zs.length) (ys := sorted zs) h (sorted_length zs) (Nat.le_refl _)
    rw [List.take_of_length_le (by rw [sorted_length]; exact Nat.le_refl _)] at this
    exact ownsRow_grow this

end Go.Proofs.Ytbbaoeidobdblaa.Ints

/- That a struct of one int is a key that the laws on maps take: facts on the types of this program's maps. -/
set_option linter.unusedVariables false
set_option linter.unusedSimpArgs false
namespace Go.Proofs.Ytbbaoeidobdblaa
open Go.WideMaps Go.Maps
theorem laidOut : laidOutB Try.prog = true := by kernel_rfl
def kv (x : Int) : Value := .agg #[.int .i64 x]
theorem kv_inj (x y : Int) (h : kv x = kv y) : x = y := by
  unfold kv at h
  simpa using h

theorem keyLits_one {P : Program} {k e : TypeId} {f : Field} (hk : P.underlying k = some (.struct #[f])) (hf : f.type = e) (ho : f.offset = 0) (he : P.underlying e = some (.int .i64)) (hn : (f.name != "_") = true)
    (hc : P.cellsOf k = 1) (hce : P.cellsOf e = 1) (hsz : ∃ m, P.types.size = m + 1) (x : Int) (hw : (Lit.int .i64 x).wf = true) : ∃ l, P.keyLits (P.types.size + 1) k [.int .i64 x] = some l := by
  obtain ⟨m, hm⟩ := hsz
  rw [hm]
  simp [Program.keyLits, hk, hc, hn, hf, ho, hce, he, hw]

theorem keyOf_one {P : Program} {k e : TypeId} {f : Field} (hk : P.underlying k = some (.struct #[f])) (hf : f.type = e) (ho : f.offset = 0) (he : P.underlying e = some (.int .i64)) (hn : (f.name != "_") = true)
    (hc : P.cellsOf k = 1) (hce : P.cellsOf e = 1) (hsz : ∃ m, P.types.size = m + 1) (hkt : P.keyType k = true) (x : Int) (hw : (Lit.int .i64 x).wf = true) : ∃ l, keyOf P k (kv x) = some l := by
  obtain ⟨l, hl⟩ := keyLits_one hk hf ho he hn hc hce hsz x hw
  refine ⟨.string (keyBytes l), ?_⟩
  simp [keyOf, hk, hkt, kv, Value.formed, hc, Value.cells, hl]

theorem size_types : ∃ m, Try.prog.types.size = m + 1 := ⟨Try.prog.types.size - 1, by have : 0 < Try.prog.types.size := of_decide_eq_true (by kernel_rfl); omega⟩

theorem key_place : Mx.KeyFn Try.prog 113 kv := ⟨Keyed.of_law (deep_law_laid laidOut (m := 2) (by omega) (of_decide_eq_true (by kernel_rfl)) (by kernel_rfl) (by kernel_rfl)), keyOf_one Try.underlying113 rfl rfl Try.underlying3 (by kernel_rfl) (by kernel_rfl) (by kernel_rfl) size_types (by kernel_rfl), kv_inj⟩
end Go.Proofs.Ytbbaoeidobdblaa

/- blocks.live: the places of a block that are somebody's, in order. -/
set_option linter.unusedVariables false
set_option linter.unusedSimpArgs false
namespace Go.Proofs.Ytbbaoeidobdblaa.Bk
open Go.RowKit Go.Proofs.Ytbbaoeidobdblaa.Mx
def tagv (p : Int × Int) : Value := .agg #[.int .i64 p.1, .int .i64 p.2, .int .u32 0]

theorem ownsRow_base_le {w : World} {base base' e size n : Nat} {v : Value} {xs : List Value} (h : w.ownsRow base e size v n xs) (hb : base' ≤ base) : w.ownsRow base' e size v n xs := by
  obtain ⟨h1, h2⟩ := h
  exact ⟨h1, h2.imp id fun ⟨g, cap, cur, he, hb2, hr⟩ => ⟨g, cap, cur, he, Nat.le_trans hb hb2, hr⟩⟩
theorem infoInt : (Try.prog.info? 3).map (fun i => (i.zero, i.size, i.bytes)) = some (some (.int .i64 0), 1, 8) := by kernel_rfl
/-- The places of a block, in whatever order. -/
def selP (L : List (Int × (Int × Int))) (block pages : Int) : List Int := (L.filter fun p => decide (wrap64 (p.1.tdiv pages) = block)).map Prod.fst
def liveP (L : List (Int × (Int × Int))) (block pages : Int) : List Int := Ints.sorted (selP L block pages)
theorem selP_length (L : List (Int × (Int × Int))) (block pages : Int) : (selP L block pages).length ≤ L.length := by
  unfold selP
  rw [List.length_map]
  exact List.length_filter_le _ _
theorem selP_perm {L L' : List (Int × (Int × Int))} (h : L.Perm L') (block pages : Int) : (selP L block pages).Perm (selP L' block pages) := (h.filter _).map _
def LiveOk (w : World) (zs : List Int) (e : Ending) (w' : World) : Prop :=
  ∃ v, e = .returned v ∧ w'.ownsRow w.heap.size 3 1 v zs.length (zs.map (Value.int .i64)) ∧ w.grownBy w' none

set_option maxHeartbeats 2000000 in
set_option maxRecDepth 100000 in
theorem live_any (w : World) (b : Nat) (L : List (Int × (Int × Int))) (block pages : Int) (hm : MapAt kv w b (mv tagv L)) (hp : 0 < pages) (hL : L.length ≤ 1000000000000) :
    Calls Try.prog 52 #[.map (some b), .int .i64 block, .int .i64 pages] w (LiveOk w (liveP L block pages)) := by
  have hmb := hm.lt
  obtain ⟨i0, hi, hz0, hz1, hz2⟩ := info_parts infoInt
  have hp0 : pages ≠ 0 := by omega
  go_enter Try.func52, Try.ntmps52
  go_wp2_with (first
    | (at_range; refine wpList_range _ rfl _ 109 rfl _ 58 kv Try.underlying109 b (mv tagv L) rfl hm ?_; intro w0 hrg0 hg0 hs0)
    | go_in)
  go_frame
  go_loopw [7] (fun v wr => ∃ (todo done : List (Int × (Int × Int))), L.Perm (done ++ todo) ∧ RangeAt kv wr b w.heap.size (mv tagv L) (mv tagv todo) ∧ wr.ownsRow (w.heap.size + 1) 3 1 v (selP done block pages).length ((selP done block pages).map (Value.int .i64)) ∧ w.grownBy wr none ∧ w.heap.size + 1 ≤ wr.heap.size)
    (fun _ wr => wr.rangeLeft b w.heap.size)
  case atStart =>
    exact ⟨L, [], by simp, hrg0, World.ownsRow_nil _ _ _ _, hg0, by omega⟩
  case round =>
    obtain ⟨todo, done, hperm, hrg, hown, hg, hsz⟩ := hrel
    have Hp := Lib.hid hperm
    have hlen := hperm.length_eq
    simp only [List.length_append] at hlen
    have hdl : done.length + todo.length ≤ 1000000000000 := by omega
    have hsl := selP_length done block pages
    have Hl := Lib.hid hlen
    clear hperm hlen
    go_wp2_with (first
      | (at_next; refine wpList_next _ rfl _ rfl 113 kv key_place tagv b w.heap.size L todo rfl hrg ?_ ?_)
      | go_in)
    · intro h0
      have hpm : L.Perm done := by have := Hp.out; rwa [h0, List.append_nil] at this
      have hso : Ints.sorted (selP done block pages) = liveP L block pages := Ints.sorted_of_perm (selP_perm hpm.symm _ _)
      have hob : ∀ j, u7.ownBlock = some j → w.heap.size + 1 ≤ j := fun j hj => (hown.lt j hj).1
      have Hso := Lib.hid hso
      clear hso hpm h0
      generalize hzs : selP done block pages = zs at *
      have hzl : zs.length ≤ 1000000000000 := by omega
      have Hzs := Lib.hid hzs
      clear hzs
      go_wp2_with fail
      refine (Ints.sort_own wr _ u7 zs hown (by omega)).mono ?_
      rintro e w1 ⟨rfl, hown3, hg3⟩
      go_wp2
      go_ret
      rw [← Hso.out]
      refine ⟨_, rfl, ?_, hg.andThen hg3 (fun j hj => .inl (by have := hob j hj; omega))⟩
      rw [Ints.sorted_length]
      exact ownsRow_base_le hown3 (Nat.le_succ _)
    · intro k o1 o2 todo' w1 hp1 hrg1 hg1 hs1 hen
      simp only [kv, tagv] at hen ⊢
      have Hs1 := Lib.hid hs1
      have Hp1 := Lib.hid hp1
      have hlp := hp1.length_eq
      simp only [List.length_cons] at hlp
      clear hs1 hp1
      have hlt1 := hrg1.lt
      have hown1 := hown.kept hg1 (by
        rcases hb : u7.ownBlock with _ | q
        · exact .inl rfl
        · have := (hown.lt q hb).1
          refine .inr fun e => ?_
          have := Option.some.inj e
          omega)
      by_cases hq : wrap64 (k.tdiv pages) = block
      · have hsel : selP (done ++ [(k, (o1, o2))]) block pages = selP done block pages ++ [k] := by simp [selP, hq]
        have HS := Lib.hid hsel
        clear hsel
        generalize hzs : selP done block pages = zs at *
        have Hzs := Lib.hid hzs
        clear hzs
        go_wp2_with (first
          | (at_builtin; refine wpList_append_own _ rfl _ _ 45 rfl (w.heap.size + 1) 3 i0 (.int .i64 0) 1 8 Try.underlying45 hi hz0 hz1 hz2 rfl (by decide) _ _ _ rfl ((hown1.alloc _).alloc _) ⟨w1.heap.size + 1, 0, none⟩ 1 1 [.int .i64 k] rfl rfl ?c1 ?c2 ?c3 ?c4 ?c5 ?_)
          | go_in)
        case c1 =>
          intro j u hj
          match j, hj with
          | 0, hj => simp at hj; subst hj; simp [Addr.add]
        case c2 => exact ints_oneCell .i64 [k]
        case c3 => unfold maxLen; omega
        case c4 => omega
        case c5 => have := Hs1.out; simp; omega
        intro v' w2 hown' hgrow _
        have hob : ∀ j, u7.ownBlock = some j → w.heap.size + 1 ≤ j := fun j hj => (hown.lt j hj).1
        have hrg2 : RangeAt kv w2 b w.heap.size (mv tagv L) (mv tagv todo') := ((hrg1.alloc _).alloc _).kept hgrow (fun e => by have := hob _ e.symm; omega) (fun e => by have := hob _ e.symm; omega)
        have hg2 : w.grownBy w2 none := ((hg.andThen hg1 (fun j hj => .inl (by have := Option.some.inj hj; omega))).trans ((World.grownBy_alloc _ _ none).trans (World.grownBy_alloc _ _ none))).andThen hgrow (fun j hj => .inl (by have := hob j hj; omega))
        have hsz2 : w.heap.size + 1 ≤ w2.heap.size := by have h1 := hgrow.size; have h2 := Hs1.out; simp at h1; omega
        clear hob hgrow
        go_wp2
        go_roundw
        case rel =>
          refine ⟨todo', done ++ [(k, (o1, o2))], ?_, hrg2, ?_, hg2, hsz2⟩
          · exact Hp.out.trans (by simpa using Hp1.out.append_left done)
          · rw [HS.out]
            simpa using hown'
        case measure =>
          rw [hrg2.left_eq, hrg.left_eq, length_mv, length_mv]
          omega
      · have hsel : selP (done ++ [(k, (o1, o2))]) block pages = selP done block pages := by simp [selP, hq]
        have HS := Lib.hid hsel
        clear hsel
        have hrg2 : RangeAt kv (w1.alloc (.cells #[.int .i64 k] 113)) b w.heap.size (mv tagv L) (mv tagv todo') := hrg1.alloc _
        have hg2 : w.grownBy (w1.alloc (.cells #[.int .i64 k] 113)) none := (hg.andThen hg1 (fun j hj => .inl (by have := Option.some.inj hj; omega))).trans (World.grownBy_alloc _ _ none)
        have ho2 := hown1.alloc (.cells #[.int .i64 k] 113)
        go_wp2_with fail
        refine ⟨⟨todo', done ++ [(k, (o1, o2))], ?_, hrg2, ?_, hg2, ?_⟩, ?_⟩
        · exact Hp.out.trans (by simpa using Hp1.out.append_left done)
        · rw [HS.out]
          exact ho2
        · have h1 := hg2.size; have h2 := Hs1.out; simp; omega
        · rw [hrg2.left_eq, hrg.left_eq, length_mv, length_mv]
          omega
end Go.Proofs.Ytbbaoeidobdblaa.Bk

/- RightName, Parts, Split of the reference: what is known of what they answer. -/
set_option linter.unusedVariables false
set_option linter.unusedSimpArgs false
namespace Go.Proofs.Ytbbaoeidobdblaa.Sx
open Go
attribute [local simp ↓] ifb_true' ifb_false'
attribute [local simp] ifb_true ifb_false ifb_eq sx argsT find ev evOp evs evo evBin evInt evStr evNil evNilA ptrA slcA isNoneA asB evLoad look del cellsB evUn evConv kdec fld evFieldA evField evIdxA evIdx evSlc bndL bndH evLen mmi put resV guardV gvL setO tupV cellsOf ones one upd lits nv exitTo SV.val CV.val TI.agg rdyA allR keepB scan simpO gsp isS subs keepT pickT wr memN pubs Res.fact Region.binds bld rest give delL back Res.eqv vi vb num Sv.val undef
set_option maxRecDepth 100000 in
set_option maxHeartbeats 1000000 in
theorem rightName0 (w : World) (I : Nat → Prop) (hI : ∀ b, I b → b < w.heap.size) (s : ByteArray) (hs : s.size ≤ 1000000000) :
    Fn0 Try.prog 138 #[.string s] w I (fun b : Bool => .bool b) (fun b _ => b = true → s.size ≤ 32) := by
  refine enter (svs := [.c (.v (.string s))]) tysOk Try.func138 rfl Try.ntmps138 Try.results138 (by kernel_rfl) (by simp) hI (fun _ => True) (fun _ _ => trivial) fun C hC hN ok => ?_
  simp [hN]
  refine loop ok (fun i : Nat => [(3, .c (.v (.int .i64 i)))]) (fun _ => []) (fun i W => i ≤ s.size) (fun i => s.size - i) 0 ?_ ?_ (fun W hW => Nat.zero_le _) ?_
  · simp
  · simp
  rintro i W hi hG next
  rcases Nat.lt_or_ge i s.size with hlt | hge
  · have e6 : IntKind.i64.wrap ((i : Int) + 1) = (i + 1 : Nat) := by rw [w64 (by omega) (by omega)]; omega
    have hltI : (i : Int) < (s.size : Nat) := by omega
    simp [hN, hlt, hltI, e6]
    refine ⟨fun h1 => ⟨fun h2 => ret0 hC false rfl fun _ _ _ => by simp, fun h2 => next (i + 1) _ _ (by omega) (fun W h => ⟨hlt, trivial⟩) ?_⟩, fun h1 => ret0 hC false rfl fun _ _ _ => by simp⟩
    simp
  · simp [hN, Nat.not_lt.2 hge]
    refine ⟨fun h1 => ⟨fun h2 => ⟨fun h3 => ret0 hC _ rfl fun _ _ _ _ => by omega, fun h3 => ret0 hC false rfl fun _ _ _ => by simp⟩, fun h2 => ret0 hC false rfl fun _ _ _ => by simp⟩, fun h1 => ret0 hC false rfl fun _ _ _ => by simp⟩
theorem nilSl {α : Type} (d : Dt α) (W : World) : Sl.ok d W (none, 0) [] := ⟨Nat.le_refl _, Nat.zero_le _, rd_nil _ _ _⟩
theorem txt_len {s : ByteArray} {l : List UInt8} (h : s.toList = l) : s.size = l.length := by
  rw [← h, ByteArray.toList_eq]
  simp
/-- Names that are short. -/
def NmL (l : List ByteArray) : Prop := ∀ n, n ∈ l → n.size ≤ 32
theorem rowsT {W : World} {xs : List ByteArray} {l : List Value} : Rows dStr W xs l ↔ l = xs.flatMap fun x => [.string x] := by
  unfold dStr
  rw [rows_flat]
def sC (l : List ByteArray) : List CV := l.map fun s => .v (.string s)
theorem sC_val (l : List ByteArray) : (sC l).map CV.val = l.flatMap fun x => [.string x] := by
  induction l with
  | nil => rfl
  | cons x r ih => simp [sC, CV.val] at ih ⊢; exact ih
set_option maxRecDepth 100000 in
set_option maxHeartbeats 1000000 in
theorem parts0 (w : World) (I : Nat → Prop) (hI : ∀ b, I b → b < w.heap.size) (s : ByteArray) :
    Fn0 Try.prog 118 #[.string s] w I (fun y : Sl × List ByteArray × Bool × Int => .tuple #[.slice y.1.1 y.2.1.length y.1.2, .bool y.2.2.1, .int .i64 y.2.2.2]) (fun y W => Sl.ok dStr W y.1 y.2.1 ∧ y.2.1.length ≤ 401 ∧ NmL y.2.1) := by
  refine enter (svs := [.c (.v (.string s))]) tysOk Try.func118 rfl Try.ntmps118 Try.results118 (by kernel_rfl) (by simp) hI (fun _ => True) (fun _ _ => trivial) fun C hC hN ok => ?_
  have nl : ∀ (b : Bool) (e : Int), ∃ y : Sl × List ByteArray × Bool × Int, y = ((none, 0), [], b, e) := fun b e => ⟨_, rfl⟩
  simp [hN]
  refine ⟨fun hl1 => ⟨fun hl2 => ?_, fun hl2 => ?_⟩, fun hl1 => ?_⟩
  · exact ret0 hC ((none, 0), [], false, 17) rfl fun W _ _ => ⟨nilSl dStr W, by simp, fun n h => by simp at h⟩
  · have hs1 : 1 ≤ s.size := by omega
    have hs2 : s.size ≤ 400 := by omega
    refine nilr 600 9 1 (loopK [0] ok (fun y : Nat × Nat × List ByteArray × Sl => [(7, .c (.v (.int .i64 (y.1 : Nat)))), (6, .c (.v (.int .i64 (y.2.1 : Nat)))), (5, .c (.rw 600 y.2.2.2.1 y.2.2.1.length y.2.2.2.2))]) (fun y => [(600, .row y.2.2.2.1 y.2.2.1.length y.2.2.2.2 9 1 (sC y.2.2.1))]) (fun y W => y.2.1 ≤ y.1 ∧ y.1 ≤ s.size + 1 ∧ y.2.2.1.length ≤ y.1 ∧ NmL y.2.2.1) (fun y => s.size + 1 - y.1) (0, 0, [], (none, 0)) ?_ ?_ (fun W hW => ⟨Nat.le_refl _, Nat.zero_le _, Nat.zero_le _, fun n h => by simp at h⟩) ?_)
    · simp
    · simp [sC]
    rintro ⟨i, f, l, ra, rc⟩ W ⟨hf, hi, hll, hnm⟩ hG next
    simp only at hf hi hll hnm
    have e6 : IntKind.i64.wrap ((i : Int) + 1) = (i + 1 : Nat) := by rw [w64 (by omega) (by omega)]; omega
    by_cases hgo : i ≤ s.size
    · have hgoI : (i : Int) ≤ (s.size : Nat) := by omega
      simp [hN, hgo, hgoI, e6]
      have hx : (s.extract f i).size ≤ 400 := by rw [ByteArray.size_extract]; omega
      generalize s.extract f i = x at hx
      have go : ∀ {p q : Prop}, p → q → p ∧ q := fun a b => ⟨a, b⟩
      refine ⟨fun hlt => ⟨hlt, fun _ => next (i + 1, f, l, ra, rc) _ _ (by simp only; omega) (fun W h => ⟨⟨by simp only; omega, by simp only; omega, by simp only; omega, hnm⟩, trivial⟩) ?_, fun _ => ?_⟩, fun hge => ?_⟩
      · simp
      all_goals
        refine ⟨hf, fun n1 => ⟨fun n2 => next (i + 1, i + 1, l, ra, rc) _ _ (by simp only; omega) (fun W h => ⟨⟨Nat.le_refl _, by simp only; omega, by simp only; omega, hnm⟩, trivial⟩) ?_, fun n2 => ⟨fun n3 => ?_, fun n3 => ?_⟩⟩, fun n1 => next (i + 1, i + 1, l, ra, rc) _ _ (by simp only; omega) (fun W h => ⟨⟨Nat.le_refl _, by simp only; omega, by simp only; omega, hnm⟩, trivial⟩) ?_⟩
        · simp
        · refine call0 ok rfl rfl rfl (fun w I hI hG => rightName0 w I hI x (by omega)) fun y W hy => ?_
          cases y with
          | false =>
            simp [hN]
            exact ret0 hC ((none, 0), [], false, 17) rfl fun W _ _ => ⟨nilSl dStr W, by simp, fun n h => by simp at h⟩
          | true =>
            have hx2 := hy rfl
            simp [hN]
            intro g
            refine appR ok 600 54 rfl rfl rfl rfl rfl (by decide) rfl rfl rfl rfl rfl rfl rfl (by decide) (by simp) (by show (l.length + 1) * 16 ≤ _; omega) (by omega) fun g' c' => ?_
            simp [hN, e6]
            exact next (i + 1, i + 1, l ++ [x], some ⟨g', 0, none⟩, c') _ _ (by simp only; omega) (fun W h => ⟨⟨Nat.le_refl _, by simp only; omega, by simp; omega, fun n hn => by rcases List.mem_append.1 hn with hn | hn; exact hnm n hn; rw [List.mem_singleton.1 hn]; exact hx2⟩, trivial⟩) (by simp [sC])
        · intro g
          have hx2 := txt_len n3
          refine appR ok 600 54 rfl rfl rfl rfl rfl (by decide) rfl rfl rfl rfl rfl rfl rfl (by decide) (by simp) (by show (l.length + 1) * 16 ≤ _; omega) (by omega) fun g' c' => ?_
          simp [hN, e6]
          exact next (i + 1, i + 1, l ++ [x], some ⟨g', 0, none⟩, c') _ _ (by simp only; omega) (fun W h => ⟨⟨Nat.le_refl _, by simp only; omega, by simp; omega, fun n hn => by rcases List.mem_append.1 hn with hn | hn; exact hnm n hn; rw [List.mem_singleton.1 hn, hx2]; decide⟩, trivial⟩) (by simp [sC])
        · simp
    · simp [hN, hgo]
      refine drawK ok mixed (by kernel_rfl) ?_
      simp (maxSteps := 2000000) -implicitDefEqProofs [hN]

      refine ⟨by omega, ret0 hC ((ra, rc), l, decide (bts s 0 = 47), 0) rfl fun W hp hG => ⟨?_, by show l.length ≤ 401; omega, hnm⟩⟩
      have h1 : W.ownsRow 0 9 1 (.slice ra l.length rc) l.length ((sC l).map CV.val) := hp.1
      rw [sC_val] at h1
      exact ((rowsT.2 rfl : Rows dStr W l _).sv (base := 0) (e := 9) (by decide) (by show l.length ≤ _; omega) h1).2
  · exact ret0 hC ((none, 0), [], false, 17) rfl fun W _ _ => ⟨nilSl dStr W, by simp, fun n h => by simp at h⟩
end Go.Proofs.Ytbbaoeidobdblaa.Sx

/- Split, FindInode, Find of the reference: what is known of what they answer. -/
set_option linter.unusedVariables false
set_option linter.unusedSimpArgs false
namespace Go.Proofs.Ytbbaoeidobdblaa.Sx
open Go
attribute [local simp ↓] ifb_true' ifb_false'
attribute [local simp] ifb_true ifb_false ifb_eq sx argsT find ev evOp evs evo evBin evInt evStr evNil evNilA ptrA slcA isNoneA asB evLoad look del cellsB evUn evConv kdec fld evFieldA evField evIdxA evIdx evSlc bndL bndH evLen mmi put resV guardV gvL setO tupV cellsOf ones one upd lits nv exitTo SV.val CV.val TI.agg rdyA allR keepB scan simpO gsp isS subs keepT pickT wr memN pubs Res.fact Region.binds bld rest give delL back Res.eqv vi vb num Sv.val undef
set_option maxRecDepth 100000 in
set_option maxHeartbeats 1000000 in
theorem split0 (w : World) (I : Nat → Prop) (hI : ∀ b, I b → b < w.heap.size) (s : ByteArray) :
    Fn0 Try.prog 91 #[.string s] w I (fun y : Sl × List ByteArray × Int => .tuple #[.slice y.1.1 y.2.1.length y.1.2, .int .i64 y.2.2]) (fun y W => Sl.ok dStr W y.1 y.2.1 ∧ y.2.1.length ≤ 401 ∧ NmL y.2.1) := by
  refine enter (svs := [.c (.v (.string s))]) tysOk Try.func91 rfl Try.ntmps91 Try.results91 (by kernel_rfl) (by simp) hI (fun _ => True) (fun _ _ => trivial) fun C hC hN ok => ?_
  simp [hN]
  refine call0 ok rfl rfl rfl (fun w I hI hG => parts0 w I hI s) fun y W hy => ?_
  obtain ⟨⟨pa, pc⟩, l, top, e⟩ := y
  have nl : ∀ (W : World), Sl.ok dStr W (none, 0) [] ∧ ([] : List ByteArray).length ≤ 401 ∧ NmL [] := fun W => ⟨nilSl dStr W, by simp, fun n h => by simp at h⟩
  by_cases he : e = 0
  · subst he
    cases top with
    | false =>
      simp [hN]
      exact ret0 hC ((none, 0), [], 17) rfl fun W _ _ => nl W
    | true =>
      simp [hN]
      exact ret0 hC ((pa, pc), l, 0) rfl fun W _ hG => hG
  · simp [hN, he]
    exact ret0 hC ((none, 0), [], e) rfl fun W _ _ => nl W
theorem ino_of {W : World} {x : Ino} {e r : Sl} (h : dIno.K W x (inoC x e r)) : InoR W x e r := by
  obtain ⟨⟨ea', ec'⟩, ⟨ra', rc'⟩, h1, h2⟩ := h
  obtain ⟨ea, ec⟩ := e
  obtain ⟨ra, rc⟩ := r
  simp at h1
  obtain ⟨⟨rfl, rfl⟩, rfl, rfl⟩ := h1
  exact h2
theorem inoNilR (W : World) : InoR W inoZ (none, 0) (none, 0) := ⟨nilSl dEnt W, nilSl dRn W⟩
set_option maxRecDepth 100000 in
set_option maxHeartbeats 1000000 in
theorem findIno0 (w : World) (I : Nat → Prop) (hI : ∀ b, I b → b < w.heap.size) (s : Sta) (si sb : Sl) (no : Int) (h : ∀ W, Ext I w W → StaR W s si sb) (hl : s.inos.length ≤ 1000000000) :
    Fn0 Try.prog 25 #[.agg (staC s si sb).toArray, .int .i64 no] w I (fun y : (Ino × Sl × Sl) × Bool => .tuple #[.agg (inoC y.1.1 y.1.2.1 y.1.2.2).toArray, .bool y.2]) (fun y W => InoR W y.1.1 y.1.2.1 y.1.2.2 ∧ (y.2 = true → y.1.1 ∈ s.inos ∧ y.1.1.no = no) ∧ (y.2 = false → y.1.1 = inoZ ∧ ∀ x, x ∈ s.inos → x.no ≠ no)) := by
  refine enter (svs := [.ag ((staC s si sb).map .v), .c (.v (.int .i64 no))]) tysOk Try.func25 rfl Try.ntmps25 Try.results25 (by kernel_rfl) (by simp) hI (fun W => StaR W s si sb) h fun C hC hN ok => ?_
  obtain ⟨ia, ic⟩ := si
  simp [hN]
  intro g2 g4
  refine loop ok (fun i : Nat => [(6, .c (.v (.int .i64 i)))]) (fun _ => [(2, .box g2 47 ((staC s (ia, ic) sb).map .v)), (4, .box g4 39 ((inoC inoZ (none, 0) (none, 0)).map .v))]) (fun i W => i ≤ s.inos.length ∧ ∀ x, x ∈ s.inos.take i → x.no ≠ no) (fun i => s.inos.length - i) 0 ?_ ?_ (fun W hW => ⟨Nat.zero_le _, by simp⟩) ?_
  · simp
  · simp [inoZ]
  rintro i W ⟨hi, hpre⟩ hG next
  rcases Nat.lt_or_ge i s.inos.length with hlt | hge
  · have e6 : IntKind.i64.wrap ((i : Int) + 1) = (i + 1 : Nat) := by rw [w64 (by omega) (by omega)]; omega
    have hsv : ∀ W, StaR W s (ia, ic) sb → Sv.ok dIno W (ia, s.inos.length, ic) s.inos := fun W hW => ⟨rfl, hW.1⟩
    have hpre1 : ¬ s.inos[i].no = no → ∀ x, x ∈ s.inos.take (i + 1) → x.no ≠ no := fun hne x hx => by
      rw [List.take_add_one, List.getElem?_eq_getElem hlt] at hx
      simp only [Option.toList, List.mem_append, List.mem_singleton] at hx
      rcases hx with hx | rfl
      · exact hpre x hx
      · exact hne
    obtain ⟨b, o, e, _⟩ := ino_no (hsv W hG) hlt
    cases e
    simp [hN, hlt, e6]
    refine load1 ok rfl rfl rfl rfl (fun v W => v = .int .i64 s.inos[i].no) (fun W hW => ?_) ?_
    · obtain ⟨b', o', e, hc⟩ := ino_no (hsv W hW.2) hlt
      cases e
      exact ⟨_, hc, rfl⟩
    rintro v W rfl _
    simp [hN, hlt]
    refine ⟨fun he => ?_, fun he => next (i + 1) _ _ (by omega) (fun W h => ⟨⟨hlt, hpre1 he⟩, h.2⟩) ?_⟩
    · refine loadA ok rfl rfl rfl rfl (fun c W => dIno.K W s.inos[i] c) (fun W hW => ?_) ?_
      · obtain ⟨cs, k1, k2, k3⟩ := (hsv W (by first | exact (hW) | exact (hW).2 | exact (hW).2.2 | exact (hW).2.2.2 | exact (hW).2.2.2.2 | exact (hW).2.2.2.2.2 | exact (hW).2.2.2.2.2.2 | exact (hW).2.2.2.2.2.2.2 | exact (hW).2.2.2.2.2.2.2.2)).2.2.2.get hlt
        exact ⟨cs, k2, k3, k1⟩
      rintro v W _ ⟨e, r, rfl, hir⟩ hG2
      simp [hN]
      exact ret0 hC ((s.inos[i], e, r), true) rfl fun W _ hG => ⟨ino_of hG.1, fun _ => ⟨List.getElem_mem hlt, he⟩, by simp⟩
    · simp [e6]
  · simp [hN, Nat.not_lt.2 hge]
    exact ret0 hC ((inoZ, (none, 0), (none, 0)), false) rfl fun W _ hG => ⟨inoNilR W, by simp, fun _ => ⟨rfl, fun x hx => hpre x (by rw [List.take_of_length_le (by omega)]; exact hx)⟩⟩
end Go.Proofs.Ytbbaoeidobdblaa.Sx

/- addBad of the reference. -/
import Derived.Test.YtfmkpkmhhlakoaaSk16
import Derived.Test.YtfmkpkmhhlakoaaSxk
set_option linter.unusedVariables false
set_option linter.unusedSimpArgs false
namespace Go.Proofs.Ytfmkpkmhhlakoaa.Sx
open Go

attribute [local simp ↓] ifb_true' ifb_false'
attribute [local simp] ifb_true ifb_false ifb_eq sx argsT find ev evOp evs evo evBin evInt evStr evNil evNilA ptrA slcA isNoneA asB evLoad look del cellsB evUn evConv kdec fld evFieldA evField evIdxA evIdx evSlc bndL bndH evLen mmi put resV guardV gvL setO tupV cellsOf ones one upd lits nv exitTo SV.val CV.val TI.agg rdyA allR keepB scan simpO gsp isS subs keepT pickT wr memN pubs Res.fact Region.binds bld rest give delL back Res.eqv vi vb num Sv.val undef
/-- A number is laid behind all that are not larger. -/
def insL : List Int → Int → List Int
  | [], x => [x]
  | y :: r, x => if y ≤ x then y :: insL r x else x :: y :: r
theorem insL_at : ∀ (l : List Int) (x : Int) (i : Nat), i ≤ l.length → (∀ y, y ∈ l.take i → y ≤ x) → (∀ h : i < l.length, x < l[i]) → insL l x = l.take i ++ x :: l.drop i
  | [], x, i, _, _, _ => by simp [insL]
  | y :: r, x, 0, _, _, h => by
    have := h (by simp)
    simp only [List.getElem_cons_zero] at this
    simp only [insL]
    rw [if_neg (by omega)]
    simp
  | y :: r, x, i + 1, hi, h1, h2 => by
    have := h1 y (by simp)
    simp only [insL, if_pos this, List.take_succ_cons, List.drop_succ_cons, List.cons_append]
    rw [insL_at r x i (by simpa using hi) (fun z hz => h1 z (by simp [hz])) (fun h => by have := h2 (by simpa using h); simpa using this)]
def addBadL (l : List Int) (x : Int) : List Int := if x ∈ l then l else insL l x
theorem addBad0 (w : World) (I : Nat → Prop) (hI : ∀ b, I b → b < w.heap.size) {a : Option Addr} {n c : Nat} (l : List Int) (x : Int) (h : ∀ W, Ext I w W → Sv.ok dInt W (a, n, c) l) (hl : l.length ≤ 1000000000) :
    Fn0 Try.prog 71 #[.slice a n c, .int .i64 x] w I Sv.val (fun r W => Sv.ok dInt W r (addBadL l x)) := by
  obtain rfl : n = l.length := (h w (Ext.refl _ _)).1
  refine enter (svs := [.c (.v (.slice a l.length c)), .c (.v (.int .i64 x))]) tysOk Try.func71 rfl Try.ntmps71 Try.results71 (by kernel_rfl) (by simp) hI (fun W => Sv.ok dInt W (a, l.length, c) l) h fun C hC hN ok => ?_
  simp [hN]
  refine call0 ok rfl rfl rfl (fun w I hI hG => in0 w I hI l x hG) fun y W hy => ?_
  simp [hN]
  refine ⟨fun hyes => ?_, fun hno => ?_⟩
  · rw [hy] at hyes
    exact ret0 hC (a, l.length, c) rfl fun W _ hG => by rw [addBadL, if_pos (of_decide_eq_true hyes)]; exact hG.2
  rw [hy] at hno
  have hm : addBadL l x = insL l x := by rw [addBadL, if_neg (of_decide_eq_false hno)]
  rw [hm] at hC
  refine nilr 600 3 1 (loop ok (fun i : Nat => [(5, .c (.v (.int .i64 i)))]) (fun _ => [(600, .row none 0 0 3 1 [])]) (fun i W => i ≤ l.length ∧ ∀ y, y ∈ l.take i → y ≤ x) (fun i => l.length - i) 0 ?_ ?_ (fun W hW => ⟨Nat.zero_le _, by simp⟩) ?_)
  · simp
  · simp
  rintro i W ⟨hi, hle⟩ hG next
  rcases Nat.lt_or_ge i l.length with hlt | hge
  · obtain ⟨b, o, e, _⟩ := int_get (show Sv.ok dInt W (a, l.length, c) l from hG.2) hlt
    cases e
    have e6 : IntKind.i64.wrap ((i : Int) + 1) = (i + 1 : Nat) := by rw [w64 (by omega) (by omega)]; omega
    have ft : l.take (i + 1) = l.take i ++ [l[i]] := by rw [List.take_add_one, List.getElem?_eq_getElem hlt]; rfl
    have hcap : l.length ≤ c := (h w (Ext.refl _ _)).2.1
    simp [hN, hlt]
    refine load1 ok rfl rfl rfl rfl (fun v W => v = .int .i64 l[i]) (fun W hW => ?_) ?_
    · obtain ⟨b', o', e, hc⟩ := int_get hW.2.2 hlt
      cases e
      exact ⟨_, hc, rfl⟩
    rintro v W rfl _
    simp [hN, e6]
    refine ⟨fun he => next (i + 1) _ _ (by omega) (fun W h => ⟨⟨hlt, fun z hz => ?_⟩, h.2⟩) ?_, fun he => ?_⟩
    · rw [ft] at hz
      rcases List.mem_append.1 hz with hz | hz
      · exact hle z hz
      · rw [List.mem_singleton.1 hz]
        exact he
    · simp [hy, of_decide_eq_false hno]
    · have hlt2 : x < l[i] := by omega
      have hins := insL_at l x i hi hle (fun _ => hlt2)
      have hti : (l.take i).length = i := by simp; omega
      have hdi : (l.drop i).length = l.length - i := by simp
      refine drawW ok mixed (by kernel_rfl) ?_
      simp (maxSteps := 2000000) -implicitDefEqProofs [hN]
      and_intros
      all_goals try omega
      rotate_left 1
      intro g
      all_goals
        refine appV ok 600 rfl rfl rfl rfl rfl (by decide) rfl rfl rfl rfl rfl rfl dInt (l.take i) rfl (by show (_ + _) * 8 ≤ _; simp; omega) (by simp; omega) (fun W hW => Sv.take hW.2.2 hi) fun q a2 c2 W _ hq _ => ?_
        obtain rfl := rows_int.1 hq
        simp (maxSteps := 2000000) -implicitDefEqProofs [hN]
      rotate_left 1
      intro g
      all_goals
        refine appR ok 600 29 rfl rfl rfl rfl rfl (by decide) rfl rfl rfl rfl rfl rfl rfl (by decide) (by simp) (by show (_ + 1) * 8 ≤ _; omega) (by omega) fun g3 c3 => ?_
        simp (maxSteps := 2000000) -implicitDefEqProofs [hN]
        refine appV ok 600 rfl rfl rfl rfl rfl (by decide) rfl rfl rfl rfl rfl rfl dInt (l.drop i) rfl (by show (_ + _) * 8 ≤ _; simp; omega) (by simp; omega) (fun W hW => by have := Sv.drop hW.2.2.2 hi; simpa [dInt, flat] using this) fun q2 a4 c4 W _ hq2 _ => ?_
        obtain rfl := rows_int.1 hq2
        simp (maxSteps := 2000000) -implicitDefEqProofs [hN]
        refine ret0 hC (a4, min i l.length + 1 + (l.length - i), c4) rfl fun W hp hG => ?_
        rw [hins]
        exact (rows_int.2 rfl : Rows dInt W (l.take i ++ x :: l.drop i) _).sv (by decide) (by simp; omega) (by have h1 := hp.1; simpa [Function.comp_def, dInt, flat] using h1)
  · simp [hN, Nat.not_lt.2 hge]
    have hlen : i = l.length := by omega
    have hcap : l.length ≤ c := (h w (Ext.refl _ _)).2.1
    have hins := insL_at l x i hi hle (fun h => absurd h (by omega))
    have hti : (l.take i).length = i := by simp; omega
    have hdi : (l.drop i).length = l.length - i := by simp
    refine drawW ok mixed (by kernel_rfl) ?_
    simp (maxSteps := 2000000) -implicitDefEqProofs [hN]
    and_intros
    all_goals try omega
    rotate_left 1
    intro g
    all_goals
      refine appV ok 600 rfl rfl rfl rfl rfl (by decide) rfl rfl rfl rfl rfl rfl dInt (l.take i) rfl (by show (_ + _) * 8 ≤ _; simp; omega) (by simp; omega) (fun W hW => Sv.take hW.2.2 hi) fun q a2 c2 W _ hq _ => ?_
      obtain rfl := rows_int.1 hq
      simp (maxSteps := 2000000) -implicitDefEqProofs [hN]
    rotate_left 1
    intro g
    all_goals
      refine appR ok 600 29 rfl rfl rfl rfl rfl (by decide) rfl rfl rfl rfl rfl rfl rfl (by decide) (by simp) (by show (_ + 1) * 8 ≤ _; omega) (by omega) fun g3 c3 => ?_
      simp (maxSteps := 2000000) -implicitDefEqProofs [hN]
      refine appV ok 600 rfl rfl rfl rfl rfl (by decide) rfl rfl rfl rfl rfl rfl dInt (l.drop i) rfl (by show (_ + _) * 8 ≤ _; simp; omega) (by simp; omega) (fun W hW => by have := Sv.drop hW.2.2.2 hi; simpa [dInt, flat] using this) fun q2 a4 c4 W _ hq2 _ => ?_
      obtain rfl := rows_int.1 hq2
      simp (maxSteps := 2000000) -implicitDefEqProofs [hN]
      refine ret0 hC (a4, min i l.length + 1 + (l.length - i), c4) rfl fun W hp hG => ?_
      rw [hins]
      exact (rows_int.2 rfl : Rows dInt W (l.take i ++ x :: l.drop i) _).sv (by decide) (by simp; omega) (by have h1 := hp.1; simpa [Function.comp_def, dInt, flat] using h1)
end Go.Proofs.Ytfmkpkmhhlakoaa.Sx

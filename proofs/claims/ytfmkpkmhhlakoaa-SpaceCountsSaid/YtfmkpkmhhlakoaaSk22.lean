/- runsOf, SetRun of the reference. -/
import Derived.Test.YtfmkpkmhhlakoaaSk21
set_option linter.unusedVariables false
set_option linter.unusedSimpArgs false
namespace Go.Proofs.Ytfmkpkmhhlakoaa.Sx
open Go

attribute [local simp ↓] ifb_true' ifb_false'
attribute [local simp] ifb_true ifb_false ifb_eq sx argsT find ev evOp evs evo evBin evInt evStr evNil evNilA ptrA slcA isNoneA asB evLoad look del cellsB evUn evConv kdec fld evFieldA evField evIdxA evIdx evSlc bndL bndH evLen mmi put resV guardV gvL setO tupV cellsOf ones one upd lits nv exitTo SV.val CV.val TI.agg rdyA allR keepB scan simpO gsp isS subs keepT pickT wr memN pubs Res.fact Region.binds bld rest give delL back Res.eqv vi vb num Sv.val undef
def stepR (acc : List Rn) (i : Nat) (p : Int) : List Rn :=
  if p < 0 then acc else
    match acc.getLast? with
    | some q => if q.fr + q.ct = i ∧ q.at_ + q.ct = p then acc.dropLast ++ [⟨q.fr, q.at_, q.ct + 1⟩] else acc ++ [⟨i, p, 1⟩]
    | none => [⟨i, p, 1⟩]
def runsFrom (acc : List Rn) (i : Nat) : List Int → List Rn
  | [] => acc
  | p :: r => runsFrom (stepR acc i p) (i + 1) r
def runsL (l : List Int) : List Rn := runsFrom [] 0 l
theorem runsFrom_snoc : ∀ (l : List Int) (acc : List Rn) (i : Nat) (p : Int), runsFrom acc i (l ++ [p]) = stepR (runsFrom acc i l) (i + l.length) p
  | [], acc, i, p => rfl
  | x :: r, acc, i, p => by
    simp only [List.cons_append, runsFrom, runsFrom_snoc r, List.length_cons]
    congr 1
    omega
theorem runsL_snoc (l : List Int) (p : Int) : runsL (l ++ [p]) = stepR (runsL l) l.length p := by
  unfold runsL
  rw [runsFrom_snoc, Nat.zero_add]
/-- What is known of a row of runs while it is made. -/
def RunsB (B : Int) (acc : List Rn) (i : Nat) : Prop := acc.length ≤ i ∧ ∀ q, q ∈ acc → 0 ≤ q.fr ∧ 1 ≤ q.ct ∧ q.fr + q.ct ≤ i ∧ 0 ≤ q.at_ ∧ q.at_ + q.ct ≤ B + 1
theorem stepR_B {B : Int} {acc : List Rn} {i : Nat} {p : Int} (h : RunsB B acc i) (hp : p ≤ B) : RunsB B (stepR acc i p) (i + 1) := by
  have weak : RunsB B acc (i + 1) := ⟨by have := h.1; omega, fun q hq => by have := h.2 q hq; omega⟩
  have new : 0 ≤ p → ∀ q, q ∈ [(⟨i, p, 1⟩ : Rn)] → 0 ≤ q.fr ∧ 1 ≤ q.ct ∧ q.fr + q.ct ≤ (i + 1 : Nat) ∧ 0 ≤ q.at_ ∧ q.at_ + q.ct ≤ B + 1 := fun h0 q hq => by
    rw [List.mem_singleton.1 hq]
    simp only
    omega
  unfold stepR
  split
  · exact weak
  · split
    · rename_i q hq
      obtain ⟨ys, rfl⟩ := List.getLast?_eq_some_iff.1 hq
      split
      · rename_i hc
        have hqq := h.2 q (by simp)
        refine ⟨by have := h.1; simp at this ⊢; omega, fun z hz => ?_⟩
        simp at hz
        rcases hz with hz | rfl
        · exact weak.2 z (by simp [hz])
        · simp only
          omega
      · refine ⟨by have := h.1; simp at this ⊢; omega, fun z hz => ?_⟩
        rcases List.mem_append.1 hz with hz | hz
        · exact weak.2 z hz
        · exact new (by omega) z hz
    · exact ⟨by simp, new (by omega)⟩
theorem runsL_B {B : Int} (l : List Int) (h : ∀ p, p ∈ l → p ≤ B) : ∀ i, i ≤ l.length → RunsB B (runsL (l.take i)) i := by
  intro i
  induction i with
  | zero => exact fun _ => ⟨by simp [runsL, runsFrom], fun q hq => by simp [runsL, runsFrom] at hq⟩
  | succ i ih =>
    intro hi
    rw [List.take_add_one, List.getElem?_eq_getElem (by omega)]
    simp only [Option.toList]
    rw [runsL_snoc, List.length_take, Nat.min_eq_left (by omega)]
    exact stepR_B (ih (by omega)) (h _ (List.getElem_mem _))
def rC (l : List Rn) : List CV := l.flatMap fun y => (rnC y).map .v
theorem rC_snoc (l : List Rn) (y : Rn) : rC (l ++ [y]) = rC l ++ (rnC y).map .v := by simp [rC]
theorem rC_len (l : List Rn) : (rC l).length = l.length * 3 := by
  induction l with
  | nil => rfl
  | cons x r ih => simp [rC] at ih ⊢; omega
theorem rC_val (l : List Rn) : (rC l).map CV.val = l.flatMap rnC := by
  induction l with
  | nil => rfl
  | cons x r ih => simp [rC, CV.val] at ih ⊢; exact ih
theorem rC_last (l : List Rn) (y : Rn) : (rC (l ++ [y]))[l.length * 3]? = some (.v (.int .i64 y.fr)) ∧ (rC (l ++ [y]))[l.length * 3 + 1]? = some (.v (.int .i64 y.at_)) ∧ (rC (l ++ [y]))[l.length * 3 + 2]? = some (.v (.int .i64 y.ct)) := by
  rw [rC_snoc]
  refine ⟨?_, ?_, ?_⟩ <;> rw [List.getElem?_append_right (by rw [rC_len]; omega), rC_len] <;> simp
theorem rC_setl (l : List Rn) (y : Rn) (v : Int) : (rC (l ++ [y])).set (l.length * 3 + 2) (.v (.int .i64 v)) = rC (l ++ [⟨y.fr, y.at_, v⟩]) := by
  rw [rC_snoc, rC_snoc, List.set_append_right _ _ (by rw [rC_len]; omega), rC_len, show l.length * 3 + 2 - l.length * 3 = 2 by omega]
  rfl
theorem rowsR {W : World} {xs : List Rn} {l : List Value} : Rows dRn W xs l ↔ l = xs.flatMap rnC := by
  unfold dRn
  rw [rows_flat]
set_option maxRecDepth 100000 in
set_option maxHeartbeats 1000000 in
theorem runsOf0 (w : World) (I : Nat → Prop) (hI : ∀ b, I b → b < w.heap.size) {a : Option Addr} {n c : Nat} (l : List Int) (h : ∀ W, Ext I w W → Sv.ok dInt W (a, n, c) l) (hl : l.length ≤ 1000000000) (hp : ∀ p, p ∈ l → p ≤ 1000000000000) :
    Fn0 Try.prog 67 #[.slice a n c] w I Sv.val (fun r W => Sv.ok dRn W r (runsL l)) := by
  obtain rfl : n = l.length := (h w (Ext.refl _ _)).1
  refine enter (svs := [.c (.v (.slice a l.length c))]) tysOk Try.func67 rfl Try.ntmps67 Try.results67 (by kernel_rfl) (by simp) hI (fun W => Sv.ok dInt W (a, l.length, c) l) h fun C hC hN ok => ?_
  simp [hN]
  refine nilr 600 107 3 (loopK [0] ok (fun y : Nat × Sl => [(4, .c (.v (.int .i64 (y.1 : Nat)))), (3, .c (.rw 600 y.2.1 (runsL (l.take y.1)).length y.2.2))]) (fun y => [(600, .row y.2.1 (runsL (l.take y.1)).length y.2.2 107 3 (rC (runsL (l.take y.1))))]) (fun y W => y.1 ≤ l.length) (fun y => l.length - y.1) (0, none, 0) ?_ ?_ (fun W hW => Nat.zero_le _) ?_)
  · simp [runsL, runsFrom]
  · simp [runsL, runsFrom, rC]
  rintro ⟨i, ra, rc⟩ W hi hG next
  simp only at hi
  rcases Nat.lt_or_ge i l.length with hlt | hge
  · obtain ⟨b, o, e, _⟩ := int_get (show Sv.ok dInt W (a, l.length, c) l from hG) hlt
    cases e
    have hB := runsL_B l hp i hi
    have e6 : IntKind.i64.wrap ((i : Int) + 1) = (i + 1 : Nat) := by rw [w64 (by omega) (by omega)]; omega
    have ft : runsL (l.take (i + 1)) = stepR (runsL (l.take i)) i l[i] := by
      rw [List.take_add_one, List.getElem?_eq_getElem hlt]
      simp only [Option.toList]
      rw [runsL_snoc, List.length_take, Nat.min_eq_left (by omega)]
    have hpi := hp _ (List.getElem_mem hlt)
    have hload : ∀ W, Sv.ok dInt W (some ⟨b, o, none⟩, l.length, c) l → ∃ v, W.cell? ⟨b, o + i, none⟩ = some v ∧ v = .int .i64 l[i] := fun W hW => by
      obtain ⟨b', o', e, hc⟩ := int_get hW hlt
      cases e
      exact ⟨_, hc, rfl⟩
    generalize l[i] = p at ft hpi hload
    generalize hA : runsL (l.take i) = A at ft hB next
    simp [hN, hlt]
    refine load1 ok rfl rfl rfl rfl (fun v W => v = .int .i64 p) (fun W hW => hload W hW.2) ?_
    rintro v W rfl _
    simp [hN]
    refine ⟨fun hneg => next (i + 1, ra, rc) _ _ (by simp; omega) (fun W h => ⟨hlt, h.2⟩) (by simp [e6, ft, stepR, hneg]), fun hpos => ?_⟩
    rcases List.eq_nil_or_concat A with rfl | ⟨ys, q, hc⟩
    · have fs : stepR [] i p = [⟨i, p, 1⟩] := by simp [stepR, show ¬ p < 0 by omega]
      refine drawK ok mixed (by kernel_rfl) ?_
      simp (maxSteps := 2000000) -implicitDefEqProofs [hN]
      refine ⟨hlt, load1 ok rfl rfl rfl rfl (fun v W => v = .int .i64 p) (fun W hW => hload W hW.2) ?_⟩
      rintro v W rfl _
      simp (maxSteps := 2000000) -implicitDefEqProofs [hN]
      intro g74
      refine appR ok 600 74 rfl rfl rfl rfl rfl (by decide) rfl rfl rfl rfl rfl rfl rfl (by decide) (by simp) (by show (0 + 1) * 24 ≤ _; omega) (by simp) fun g' c' => ?_
      simp (maxSteps := 2000000) -implicitDefEqProofs [hN]
      exact next (i + 1, some ⟨g', 0, none⟩, c') _ _ (by simp; omega) (fun W h => ⟨hlt, h.2⟩) (by simp [e6, ft, fs, rC])
    · rw [List.concat_eq_append] at hc
      subst hc
      have hqq := hB.2 q (by simp)
      obtain ⟨l0, l1, l2⟩ := rC_last ys q
      have hsl := rC_setl ys q (q.ct + 1)
      have hrl := rC_len (ys ++ [q])
      have hyl := hB.1
      have e8 : IntKind.i64.wrap (q.fr + q.ct) = q.fr + q.ct := w64 (by omega) (by omega)
      have e9 : IntKind.i64.wrap (q.at_ + q.ct) = q.at_ + q.ct := w64 (by omega) (by omega)
      have e10 : IntKind.i64.wrap (q.ct + 1) = q.ct + 1 := w64 (by omega) (by omega)
      obtain ⟨n, hn⟩ : ∃ n, n = (ys ++ [q]).length := ⟨_, rfl⟩
      have hyn : ys.length = n - 1 := by rw [hn]; simp
      rw [← hn] at hrl hyl
      rw [hyn] at l0 l1 l2 hsl
      have hn0 : 0 < n := by rw [hn]; simp
      have e7 : IntKind.i64.wrap ((n : Int) - 1) = (n - 1 : Nat) := by rw [w64 (by omega) (by omega)]; omega
      have e11 : n - 1 < n := by omega

      refine rowSome 600 rfl (by simp) fun g e => ?_
      subst e
      rw [← hn]
      refine drawK ok mixed (by kernel_rfl) ?_
      generalize hR : rC (ys ++ [q]) = R at *
      have hy1 : ys.length + 1 = n := by omega
      have fs2 : ¬ (q.fr + q.ct = i ∧ q.at_ + q.ct = p) → stepR (ys ++ [q]) i p = ys ++ [q] ++ [⟨i, p, 1⟩] := fun hno => by
        simp only [stepR, List.getLast?_append, List.getLast?_singleton, Option.some_or, if_neg hno, if_neg (show ¬ p < 0 by omega)]
      have fs1 : q.fr + q.ct = i ∧ q.at_ + q.ct = p → stepR (ys ++ [q]) i p = ys ++ [⟨q.fr, q.at_, q.ct + 1⟩] := fun hno => by
        simp only [stepR, List.getLast?_append, List.getLast?_singleton, Option.some_or, if_pos hno, if_neg (show ¬ p < 0 by omega), List.dropLast_concat]
      have g0 : ∀ h : (n - 1) * 3 < R.length, R[(n - 1) * 3]'h = .v (.int .i64 q.fr) := fun h => by rw [List.getElem?_eq_getElem h] at l0; exact Option.some.inj l0
      simp (maxSteps := 2000000) -implicitDefEqProofs [hN, e7, e8, e9, e10, e11, l0, l1, l2, g0, hrl, hn0, hlt]
      refine ⟨by omega, by omega, fun hfr => ⟨by omega, by omega, ?_⟩, fun hnf => ?_⟩
      · refine load1 ok rfl rfl rfl rfl (fun v W => v = .int .i64 p) (fun W hW => hload W hW.2) ?_
        rintro v W rfl _
        simp (maxSteps := 2000000) -implicitDefEqProofs [hN, e7, e8, e9, e10, e11, l0, l1, l2, g0, hrl, hn0, hlt]
        refine ⟨fun hat => ?_, fun hna => ?_⟩
        · exact ⟨by omega, next (i + 1, some ⟨g, 0, none⟩, rc) _ _ (by simp; omega) (fun W h => ⟨hlt, h.2⟩) (by simp [e6, ft, fs1 ⟨hfr, hat⟩, hy1, hsl])⟩
        · refine load1 ok rfl rfl rfl rfl (fun v W => v = .int .i64 p) (fun W hW => hload W hW.2) ?_
          rintro v W rfl _
          simp (maxSteps := 2000000) -implicitDefEqProofs [hN, e7, e8, e9, e10, e11, l0, l1, l2, g0, hrl, hn0, hlt]
          intro g74
          refine appR ok 600 74 rfl rfl rfl rfl rfl (by decide) rfl rfl rfl rfl rfl rfl rfl (by decide) (by simp) (by show (n + 1) * 24 ≤ _; omega) (by omega) fun g' c' => ?_
          simp (maxSteps := 2000000) -implicitDefEqProofs [hN, e7, e8, e9, e10, e11, l0, l1, l2, g0, hrl, hn0, hlt]
          exact next (i + 1, some ⟨g', 0, none⟩, c') _ _ (by simp; omega) (fun W h => ⟨hlt, h.2⟩) (by simp only [ft, fs2 (fun h => hna h.2), rC_snoc (ys ++ [q]), hR]; simp [e6, hy1])
      · refine load1 ok rfl rfl rfl rfl (fun v W => v = .int .i64 p) (fun W hW => hload W hW.2) ?_
        rintro v W rfl _
        simp (maxSteps := 2000000) -implicitDefEqProofs [hN, e7, e8, e9, e10, e11, l0, l1, l2, g0, hrl, hn0, hlt]
        intro g74
        refine appR ok 600 74 rfl rfl rfl rfl rfl (by decide) rfl rfl rfl rfl rfl rfl rfl (by decide) (by simp) (by show (n + 1) * 24 ≤ _; omega) (by omega) fun g' c' => ?_
        simp (maxSteps := 2000000) -implicitDefEqProofs [hN, e7, e8, e9, e10, e11, l0, l1, l2, g0, hrl, hn0, hlt]
        exact next (i + 1, some ⟨g', 0, none⟩, c') _ _ (by simp; omega) (fun W h => ⟨hlt, h.2⟩) (by simp only [ft, fs2 (fun h => hnf h.1), rC_snoc (ys ++ [q]), hR]; simp [e6, hy1])
  · have hT : l.take i = l := List.take_of_length_le hge
    simp only [hT]
    simp [hN, Nat.not_lt.2 hge]
    have hB := runsL_B l hp i hi
    rw [hT] at hB
    refine ret0 hC (ra, (runsL l).length, rc) rfl fun W hp hG => ?_
    refine (rowsR.2 rfl : Rows dRn W (runsL l) _).sv (base := 0) (e := 107) (by decide) (by have := hB.1; omega) ?_
    have h1 : W.ownsRow 0 107 3 (.slice ra (runsL l).length rc) (runsL l).length ((rC (runsL l)).map CV.val) := hp.1
    rw [rC_val] at h1
    exact h1
end Go.Proofs.Ytfmkpkmhhlakoaa.Sx

/- Laid together: Sk21, Sk22, Sk23, Sk25, Sxl, Sxm, Sk26, Sk27, Sk28, Sk29, Sk27n, Sk30, Sk31, Sk32, Sp3, Maps, Sxn, Keya, Sk33, Sk36, Sk37, Sk39, Sk43, Sk44, Sk49, Sp4, Sp5, Sp6, Sxp, Sk51, Sk55, Sk56, Sk58. -/
import Derived.Test.YtbbaoeidobdblaaGreatST3
import Derived.Laws.CopyRow
import Derived.Lib.Overlaps
import Derived.Lib.AppendZerosOnto
import Derived.Laws.Externs
import Derived.Maps.RangeWalk
import Derived.Maps.OwnSet
import Derived.Carry
import Derived.OwnWalk
import Derived.Test.YtbbaoeidobdblaaGreatProg
import Derived.WideKeyArgs
import Derived.DeepKeys4
import Derived.KernelRfl
import Derived.Laws.BytesString
import Derived.Lib.BytesEntry
/- placesOf of the reference. -/
set_option linter.unusedVariables false
set_option linter.unusedSimpArgs false
namespace Go.Proofs.YtbbaoeidobdblaaGreat.Sx
open Go
attribute [local simp ↓] ifb_true' ifb_false'
attribute [local simp] ifb_true ifb_false ifb_eq sx argsT find ev evOp evs evo evBin evInt evStr evNil evNilA ptrA slcA isNoneA asB evLoad look del cellsB evUn evConv kdec fld evFieldA evField evIdxA evIdx evSlc bndL bndH evLen mmi put resV guardV gvL setO tupV cellsOf ones one upd lits nv exitTo SV.val CV.val TI.agg rdyA allR keepB scan simpO gsp isS subs keepT pickT wr memN pubs Res.fact Region.binds bld rest give delL back Res.eqv vi vb num Sv.val undef
def plOf (l : List Rn) (j : Nat) : Int := (getL l j).getD (-1)
def placesL (l : List Rn) : List Int := (List.range 64).map (plOf l)
def placesN (l : List Rn) (i : Nat) : List Int := (List.range i).map (plOf l) ++ List.replicate (64 - i) 0
theorem placesN_len (l : List Rn) (i : Nat) (hi : i ≤ 64) : (placesN l i).length = 64 := by simp [placesN]; omega
theorem placesN_set (l : List Rn) (i : Nat) (hi : i < 64) : (placesN l i).set i (plOf l i) = placesN l (i + 1) := by
  have h1 : List.replicate (64 - i) (0 : Int) = 0 :: List.replicate (64 - (i + 1)) 0 := by
    rw [show 64 - i = (64 - (i + 1)) + 1 by omega, List.replicate_succ]
  rw [placesN, h1, List.set_append_right _ _ (by simp)]
  simp [placesN, List.range_succ]
theorem placesN_set2 (l : List Rn) (i : Nat) (x : Int) (hi : i < 64) : ((placesN l i).set i x).set i (plOf l i) = placesN l (i + 1) := by
  rw [List.set_set, placesN_set l i hi]
theorem iC_set (l : List Int) (i : Nat) (x : Int) : (iC l).set i (.v (.int .i64 x)) = iC (l.set i x) := by simp [iC, List.map_set]
theorem iC_len (l : List Int) : (iC l).length = l.length := by simp [iC]
abbrev Sv.row (T sz : Nat) (cs : List CV) (s : Sv) : Res := .row s.1 s.2.1 s.2.2 T sz cs
set_option maxHeartbeats 4000000 in
theorem placesOf0 (w : World) (I : Nat → Prop) (hI : ∀ b, I b → b < w.heap.size) {a : Option Addr} {n c : Nat} (l : List Rn) (h : ∀ W, Ext I w W → Sv.ok dRn W (a, n, c) l) (hr : ∀ r, r ∈ l → okR r) :
    FnS Tryz.prog 138 #[.slice a n c] w I noS (fun g : Nat => .slice (some ⟨g, 0, none⟩) 64 64) (fun g => [.row (some ⟨g, 0, none⟩) 64 64 3 1 (iC (placesL l))]) (fun _ _ => True) := by
  obtain rfl : n = l.length := (h w (Ext.refl _ _)).1
  refine enterS (svs := [.c (.v (.slice a l.length c))]) tysOk Tryz.func138 rfl Tryz.ntmps138 Tryz.results138 (by kernel_rfl) (by simp) hI [] (owns_nil w) (fun b hb => hb.elim) (fun W => Sv.ok dRn W (a, l.length, c) l) h fun C hC hN ok => ?_
  simp [hN]
  refine mksl ok rfl rfl rfl rfl rfl rfl rfl rfl rfl (by decide) (by decide) (by decide) fun g => ?_
  simp [hN]
  refine loop ok (fun i : Nat => [(4, .c (.v (.int .i64 i)))]) (fun i => [(7, .row (some ⟨g, 0, none⟩) 64 64 3 1 (iC (placesN l i)))]) (fun i W => i ≤ 64) (fun i => 64 - i) 0 ?_ ?_ (fun W hW => Nat.zero_le _) ?_
  · simp
  · simp [placesN, iC]
  rintro i W hi hG next
  have hlen := placesN_len l i hi
  rcases Nat.lt_or_ge i 64 with hlt | hge
  · have e6 : IntKind.i64.wrap ((i : Int) + 1) = (i + 1 : Nat) := by rw [w64 (by omega) (by omega)]; omega
    simp [hN, show ((i : Int) < 64) by omega]
    refine call0 ok rfl rfl rfl (fun w I hI hG => getRun0 w I hI l i (fun W e => (hG W e).2) hr (by omega)) fun y W hy => ?_
    have h2 := placesN_set l i hlt
    have h3 := placesN_set2 l i
    rcases hgy : getL l i with _ | v
    · rw [hgy] at hy
      subst hy
      simp only [plOf, hgy, Option.getD_none] at h2 h3
      simp [hN, iC_set, iC_len, hlen, hlt]
      exact ⟨by omega, by omega, by omega, by omega, next (i + 1) _ _ (by omega) (fun W h => ⟨hlt, h.2⟩) (by simp [e6, h2])⟩
    · rw [hgy] at hy
      subst hy
      simp only [plOf, hgy, Option.getD_some] at h2 h3
      simp [hN, iC_set, iC_len, hlen, hlt]
      exact ⟨by omega, by omega, next (i + 1) _ _ (by omega) (fun W h => ⟨hlt, h.2⟩) (by simp [e6, h2])⟩
  · obtain rfl : i = 64 := by omega
    simp [hN]
    refine retS hC g [7] rfl ?_ fun W _ _ => trivial
    simp [placesL, placesN]
end Go.Proofs.YtbbaoeidobdblaaGreat.Sx

/- runsOf, SetRun of the reference. -/
set_option linter.unusedVariables false
set_option linter.unusedSimpArgs false
namespace Go.Proofs.YtbbaoeidobdblaaGreat.Sx
open Go
attribute [local simp ↓] ifb_true' ifb_false'
attribute [local simp] ifb_true ifb_false ifb_eq sx argsT find ev evOp evs evo evBin evInt evStr evNil evNilA ptrA slcA isNoneA asB evLoad look del cellsB evUn evConv kdec fld evFieldA evField evIdxA evIdx evSlc bndL bndH evLen mmi put resV guardV gvL setO tupV cellsOf ones one upd lits nv exitTo SV.val CV.val TI.agg rdyA allR keepB scan simpO gsp isS subs keepT pickT wr memN pubs Res.fact Region.binds bld rest give delL back Res.eqv vi vb num Sv.val undef
def stepR (acc : List Rn) (i : Nat) (p : Int) : List Rn :=
  if p < 0 then acc else
    match acc.getLast? with
    | some q => if q.fr + q.ct = i ∧ q.at_ + q.ct = p then acc.dropLast ++ [⟨q.fr, q.at_, q.ct + 1⟩] else acc ++ [⟨i, p, 1⟩]
    | none => [⟨i, p, 1⟩]
def runsFrom (acc : List Rn) (i : Nat) : List Int → List Rn
  | [] => acc
  | p :: r => runsFrom (stepR acc i p) (i + 1) r
def runsL (l : List Int) : List Rn := runsFrom [] 0 l
theorem runsFrom_snoc : ∀ (l : List Int) (acc : List Rn) (i : Nat) (p : Int), runsFrom acc i (l ++ [p]) = stepR (runsFrom acc i l) (i + l.length) p
  | [], acc, i, p => rfl
  | x :: r, acc, i, p => by
    simp only [List.cons_append, runsFrom, runsFrom_snoc r, List.length_cons]
    congr 1
    omega
theorem runsL_snoc (l : List Int) (p : Int) : runsL (l ++ [p]) = stepR (runsL l) l.length p := by
  unfold runsL
  rw [runsFrom_snoc, Nat.zero_add]
/-- What is known of a row of runs while it is made. -/
def RunsB (B : Int) (acc : List Rn) (i : Nat) : Prop := acc.length ≤ i ∧ ∀ q, q ∈ acc → 0 ≤ q.fr ∧ 1 ≤ q.ct ∧ q.fr + q.ct ≤ i ∧ 0 ≤ q.at_ ∧ q.at_ + q.ct ≤ B + 1
theorem stepR_B {B : Int} {acc : List Rn} {i : Nat} {p : Int} (h : RunsB B acc i) (hp : p ≤ B) : RunsB B (stepR acc i p) (i + 1) := by
  have weak : RunsB B acc (i + 1) := ⟨by have := h.1; omega, fun q hq => by have := h.2 q hq; omega⟩
  have new : 0 ≤ p → ∀ q, q ∈ [(⟨i, p, 1⟩ : Rn)] → 0 ≤ q.fr ∧ 1 ≤ q.ct ∧ q.fr + q.ct ≤ (i + 1 : Nat) ∧ 0 ≤ q.at_ ∧ q.at_ + q.ct ≤ B + 1 := fun h0 q hq => by
    rw [List.mem_singleton.1 hq]
    simp only
    omega
  unfold stepR
  split
  · exact weak
  · split
    · rename_i q hq
      obtain ⟨ys, rfl⟩ := List.getLast?_eq_some_iff.1 hq
      split
      · rename_i hc
        have hqq := h.2 q (by simp)
        refine ⟨by have := h.1; simp at this ⊢; omega, fun z hz => ?_⟩
        simp at hz
        rcases hz with hz | rfl
        · exact weak.2 z (by simp [hz])
        · simp only
          omega
      · refine ⟨by have := h.1; simp at this ⊢; omega, fun z hz => ?_⟩
        rcases List.mem_append.1 hz with hz | hz
        · exact weak.2 z hz
        · exact new (by omega) z hz
    · exact ⟨by simp, new (by omega)⟩
theorem runsL_B {B : Int} (l : List Int) (h : ∀ p, p ∈ l → p ≤ B) : ∀ i, i ≤ l.length → RunsB B (runsL (l.take i)) i := by
  intro i
  induction i with
  | zero => exact fun _ => ⟨by simp [runsL, runsFrom], fun q hq => by simp [runsL, runsFrom] at hq⟩
  | succ i ih =>
    intro hi
    rw [List.take_add_one, List.getElem?_eq_getElem (by omega)]
    simp only [Option.toList]
    rw [runsL_snoc, List.length_take, Nat.min_eq_left (by omega)]
    exact stepR_B (ih (by omega)) (h _ (List.getElem_mem _))
def rC (l : List Rn) : List CV := l.flatMap fun y => (rnC y).map .v
theorem rC_snoc (l : List Rn) (y : Rn) : rC (l ++ [y]) = rC l ++ (rnC y).map .v := by simp [rC]
theorem rC_len (l : List Rn) : (rC l).length = l.length * 3 := by
  induction l with
  | nil => rfl
  | cons x r ih => simp [rC] at ih ⊢; omega
theorem rC_val (l : List Rn) : (rC l).map CV.val = l.flatMap rnC := by
  induction l with
  | nil => rfl
  | cons x r ih => simp [rC, CV.val] at ih ⊢; exact ih
theorem rC_last (l : List Rn) (y : Rn) : (rC (l ++ [y]))[l.length * 3]? = some (.v (.int .i64 y.fr)) ∧ (rC (l ++ [y]))[l.length * 3 + 1]? = some (.v (.int .i64 y.at_)) ∧ (rC (l ++ [y]))[l.length * 3 + 2]? = some (.v (.int .i64 y.ct)) := by
  rw [rC_snoc]
  refine ⟨?_, ?_, ?_⟩ <;> rw [List.getElem?_append_right (by rw [rC_len]; omega), rC_len] <;> simp
theorem rC_setl (l : List Rn) (y : Rn) (v : Int) : (rC (l ++ [y])).set (l.length * 3 + 2) (.v (.int .i64 v)) = rC (l ++ [⟨y.fr, y.at_, v⟩]) := by
  rw [rC_snoc, rC_snoc, List.set_append_right _ _ (by rw [rC_len]; omega), rC_len, show l.length * 3 + 2 - l.length * 3 = 2 by omega]
  rfl
theorem rowsR {W : World} {xs : List Rn} {l : List Value} : Rows dRn W xs l ↔ l = xs.flatMap rnC := by
  unfold dRn
  rw [rows_flat]
set_option maxRecDepth 100000 in
set_option maxHeartbeats 1000000 in
theorem runsOf0 (w : World) (I : Nat → Prop) (hI : ∀ b, I b → b < w.heap.size) {a : Option Addr} {n c : Nat} (l : List Int) (h : ∀ W, Ext I w W → Sv.ok dInt W (a, n, c) l) (hl : l.length ≤ 1000000000) (hp : ∀ p, p ∈ l → p ≤ 1000000000000) :
    Fn0 Tryz.prog 139 #[.slice a n c] w I Sv.val (fun r W => Sv.ok dRn W r (runsL l)) := by
  obtain rfl : n = l.length := (h w (Ext.refl _ _)).1
  refine enter (svs := [.c (.v (.slice a l.length c))]) tysOk Tryz.func139 rfl Tryz.ntmps139 Tryz.results139 (by kernel_rfl) (by simp) hI (fun W => Sv.ok dInt W (a, l.length, c) l) h fun C hC hN ok => ?_
  simp [hN]
  refine nilr 600 139 3 (loopK [0] ok (fun y : Nat × Sl => [(4, .c (.v (.int .i64 (y.1 : Nat)))), (3, .c (.rw 600 y.2.1 (runsL (l.take y.1)).length y.2.2))]) (fun y => [(600, .row y.2.1 (runsL (l.take y.1)).length y.2.2 139 3 (rC (runsL (l.take y.1))))]) (fun y W => y.1 ≤ l.length) (fun y => l.length - y.1) (0, none, 0) ?_ ?_ (fun W hW => Nat.zero_le _) ?_)
  · simp [runsL, runsFrom]
  · simp [runsL, runsFrom, rC]
  rintro ⟨i, ra, rc⟩ W hi hG next
  simp only at hi
  rcases Nat.lt_or_ge i l.length with hlt | hge
  · obtain ⟨b, o, e, _⟩ := int_get (show Sv.ok dInt W (a, l.length, c) l from hG) hlt
    cases e
    have hB := runsL_B l hp i hi
    have e6 : IntKind.i64.wrap ((i : Int) + 1) = (i + 1 : Nat) := by rw [w64 (by omega) (by omega)]; omega
    have ft : runsL (l.take (i + 1)) = stepR (runsL (l.take i)) i l[i] := by
      rw [List.take_add_one, List.getElem?_eq_getElem hlt]
      simp only [Option.toList]
      rw [runsL_snoc, List.length_take, Nat.min_eq_left (by omega)]
    have hpi := hp _ (List.getElem_mem hlt)
    have hload : ∀ W, Sv.ok dInt W (some ⟨b, o, none⟩, l.length, c) l → ∃ v, W.cell? ⟨b, o + i, none⟩ = some v ∧ v = .int .i64 l[i] := fun W hW => by
      obtain ⟨b', o', e, hc⟩ := int_get hW hlt
      cases e
      exact ⟨_, hc, rfl⟩
    generalize l[i] = p at ft hpi hload
    generalize hA : runsL (l.take i) = A at ft hB next
    simp [hN, hlt]
    refine load1 ok rfl rfl rfl rfl (fun v W => v = .int .i64 p) (fun W hW => hload W hW.2) ?_
    rintro v W rfl _
    simp [hN]
    refine ⟨fun hneg => next (i + 1, ra, rc) _ _ (by simp; omega) (fun W h => ⟨hlt, h.2⟩) (by simp [e6, ft, stepR, hneg]), fun hpos => ?_⟩
    rcases List.eq_nil_or_concat A with rfl | ⟨ys, q, hc⟩
    · have fs : stepR [] i p = [⟨i, p, 1⟩] := by simp [stepR, show ¬ p < 0 by omega]
      refine drawK ok mixed (by kernel_rfl) ?_
      simp (maxSteps := 2000000) -implicitDefEqProofs [hN]
      refine ⟨hlt, load1 ok rfl rfl rfl rfl (fun v W => v = .int .i64 p) (fun W hW => hload W hW.2) ?_⟩
      rintro v W rfl _
      simp (maxSteps := 2000000) -implicitDefEqProofs [hN]
      intro g74
      refine appR ok 600 74 rfl rfl rfl rfl rfl (by decide) rfl rfl rfl rfl rfl rfl rfl (by decide) (by simp) (by show (0 + 1) * 24 ≤ _; omega) (by simp) fun g' c' => ?_
      simp (maxSteps := 2000000) -implicitDefEqProofs [hN]
      exact next (i + 1, some ⟨g', 0, none⟩, c') _ _ (by simp; omega) (fun W h => ⟨hlt, h.2⟩) (by simp [e6, ft, fs, rC])
    · rw [List.concat_eq_append] at hc
      subst hc
      have hqq := hB.2 q (by simp)
      obtain ⟨l0, l1, l2⟩ := rC_last ys q
      have hsl := rC_setl ys q (q.ct + 1)
      have hrl := rC_len (ys ++ [q])
      have hyl := hB.1
      have e8 : IntKind.i64.wrap (q.fr + q.ct) = q.fr + q.ct := w64 (by omega) (by omega)
      have e9 : IntKind.i64.wrap (q.at_ + q.ct) = q.at_ + q.ct := w64 (by omega) (by omega)
      have e10 : IntKind.i64.wrap (q.ct + 1) = q.ct + 1 := w64 (by omega) (by omega)
      obtain ⟨n, hn⟩ : ∃ n, n = (ys ++ [q]).length := ⟨_, rfl⟩
      have hyn : ys.length = n - 1 := by rw [hn]; simp
      rw [← hn] at hrl hyl
      rw [hyn] at l0 l1 l2 hsl
      have hn0 : 0 < n := by rw [hn]; simp
      have e7 : IntKind.i64.wrap ((n : Int) - 1) = (n - 1 : Nat) := by rw [w64 (by omega) (by omega)]; omega
      have e11 : n - 1 < n := by omega

      refine rowSome 600 rfl (by simp) fun g e => ?_
      subst e
      rw [← hn]
      refine drawK ok mixed (by kernel_rfl) ?_
      generalize hR : rC (ys ++ [q]) = R at *
      have hy1 : ys.length + 1 = n := by omega
      have fs2 : ¬ (q.fr + q.ct = i ∧ q.at_ + q.ct = p) → stepR (ys ++ [q]) i p = ys ++ [q] ++ [⟨i, p, 1⟩] := fun hno => by
        simp only [stepR, List.getLast?_append, List.getLast?_singleton, Option.some_or, if_neg hno, if_neg (show ¬ p < 0 by omega)]
      have fs1 : q.fr + q.ct = i ∧ q.at_ + q.ct = p → stepR (ys ++ [q]) i p = ys ++ [⟨q.fr, q.at_, q.ct + 1⟩] := fun hno => by
        simp only [stepR, List.getLast?_append, List.getLast?_singleton, Option.some_or, if_pos hno, if_neg (show ¬ p < 0 by omega), List.dropLast_concat]
      have g0 : ∀ h : (n - 1) * 3 < R.length, R[(n - 1) * 3]'h = .v (.int .i64 q.fr) := fun h => by rw [List.getElem?_eq_getElem h] at l0; exact Option.some.inj l0
      simp (maxSteps := 2000000) -implicitDefEqProofs [hN, e7, e8, e9, e10, e11, l0, l1, l2, g0, hrl, hn0, hlt]
      refine ⟨by omega, by omega, fun hfr => ⟨by omega, by omega, ?_⟩, fun hnf => ?_⟩
      · refine load1 ok rfl rfl rfl rfl (fun v W => v = .int .i64 p) (fun W hW => hload W hW.2) ?_
        rintro v W rfl _
        simp (maxSteps := 2000000) -implicitDefEqProofs [hN, e7, e8, e9, e10, e11, l0, l1, l2, g0, hrl, hn0, hlt]
        refine ⟨fun hat => ?_, fun hna => ?_⟩
        · exact ⟨by omega, next (i + 1, some ⟨g, 0, none⟩, rc) _ _ (by simp; omega) (fun W h => ⟨hlt, h.2⟩) (by simp [e6, ft, fs1 ⟨hfr, hat⟩, hy1, hsl])⟩
        · refine load1 ok rfl rfl rfl rfl (fun v W => v = .int .i64 p) (fun W hW => hload W hW.2) ?_
          rintro v W rfl _
          simp (maxSteps := 2000000) -implicitDefEqProofs [hN, e7, e8, e9, e10, e11, l0, l1, l2, g0, hrl, hn0, hlt]
          intro g74
          refine appR ok 600 74 rfl rfl rfl rfl rfl (by decide) rfl rfl rfl rfl rfl rfl rfl (by decide) (by simp) (by show (n + 1) * 24 ≤ _; omega) (by omega) fun g' c' => ?_
          simp (maxSteps := 2000000) -implicitDefEqProofs [hN, e7, e8, e9, e10, e11, l0, l1, l2, g0, hrl, hn0, hlt]
          exact next (i + 1, some ⟨g', 0, none⟩, c') _ _ (by simp; omega) (fun W h => ⟨hlt, h.2⟩) (by simp only [ft, fs2 (fun h => hna h.2), rC_snoc (ys ++ [q]), hR]; simp [e6, hy1])
      · refine load1 ok rfl rfl rfl rfl (fun v W => v = .int .i64 p) (fun W hW => hload W hW.2) ?_
        rintro v W rfl _
        simp (maxSteps := 2000000) -implicitDefEqProofs [hN, e7, e8, e9, e10, e11, l0, l1, l2, g0, hrl, hn0, hlt]
        intro g74
        refine appR ok 600 74 rfl rfl rfl rfl rfl (by decide) rfl rfl rfl rfl rfl rfl rfl (by decide) (by simp) (by show (n + 1) * 24 ≤ _; omega) (by omega) fun g' c' => ?_
        simp (maxSteps := 2000000) -implicitDefEqProofs [hN, e7, e8, e9, e10, e11, l0, l1, l2, g0, hrl, hn0, hlt]
        exact next (i + 1, some ⟨g', 0, none⟩, c') _ _ (by simp; omega) (fun W h => ⟨hlt, h.2⟩) (by simp only [ft, fs2 (fun h => hnf h.1), rC_snoc (ys ++ [q]), hR]; simp [e6, hy1])
  · have hT : l.take i = l := List.take_of_length_le hge
    simp only [hT]
    simp [hN, Nat.not_lt.2 hge]
    have hB := runsL_B l hp i hi
    rw [hT] at hB
    refine ret0 hC (ra, (runsL l).length, rc) rfl fun W hp hG => ?_
    refine (rowsR.2 rfl : Rows dRn W (runsL l) _).sv (base := 0) (e := 139) (by decide) (by have := hB.1; omega) ?_
    have h1 : W.ownsRow 0 139 3 (.slice ra (runsL l).length rc) (runsL l).length ((rC (runsL l)).map CV.val) := hp.1
    rw [rC_val] at h1
    exact h1
end Go.Proofs.YtbbaoeidobdblaaGreat.Sx

/- SetRun of the reference. -/
set_option linter.unusedVariables false
set_option linter.unusedSimpArgs false
namespace Go.Proofs.YtbbaoeidobdblaaGreat.Sx
open Go
attribute [local simp ↓] ifb_true' ifb_false'
attribute [local simp] ifb_true ifb_false ifb_eq sx argsT find ev evOp evs evo evBin evInt evStr evNil evNilA ptrA slcA isNoneA asB evLoad look del cellsB evUn evConv kdec fld evFieldA evField evIdxA evIdx evSlc bndL bndH evLen mmi put resV guardV gvL setO tupV cellsOf ones one upd lits nv exitTo SV.val CV.val TI.agg rdyA allR keepB scan simpO gsp isS subs keepT pickT wr memN pubs Res.fact Region.binds bld rest give delL back Res.eqv vi vb num Sv.val undef
/-- Places, with one of them set. -/
def setP (l : List Int) (x p : Int) : List Int := if 0 ≤ x ∧ x < 64 ∧ 0 ≤ p ∧ p ≤ 2147483647 then l.set x.toNat p else l
open Classical in
noncomputable def setRunL (l : List Rn) (x p : Int) : List Rn := if RightL l then runsL (setP (placesL l) x p) else []
theorem right_okR {l : List Rn} (h : RightL l) : ∀ r, r ∈ l → okR r := fun r hr => by
  obtain ⟨i, hi, rfl⟩ := List.mem_iff_getElem.1 hr
  exact (h i hi hi).1
theorem getL_le : ∀ {l : List Rn} {x v : Int}, (∀ r, r ∈ l → okR r) → getL l x = some v → 0 ≤ v ∧ v ≤ 2147483647
  | [], x, v, _, h => by cases h
  | r :: t, x, v, hr, h => by
    rw [getL] at h
    split at h
    · obtain ⟨d0, d1, d2, d3, d4, d5⟩ := hr r List.mem_cons_self
      cases h
      omega
    · exact getL_le (fun z hz => hr z (List.mem_cons_of_mem _ hz)) h
theorem placesL_len (l : List Rn) : (placesL l).length = 64 := by simp [placesL]
theorem placesL_le {l : List Rn} (hr : ∀ r, r ∈ l → okR r) : ∀ p, p ∈ placesL l → p ≤ 2147483647 := fun p hp => by
  simp only [placesL, List.mem_map, List.mem_range] at hp
  obtain ⟨j, _, rfl⟩ := hp
  unfold plOf
  cases hg : getL l j with
  | none => simp
  | some v => have := getL_le hr hg; simp; omega
theorem setP_len (l : List Int) (x p : Int) : (setP l x p).length = l.length := by
  unfold setP
  split <;> simp
theorem setP_le {l : List Int} {x p : Int} (h : ∀ q, q ∈ l → q ≤ 2147483647) : ∀ q, q ∈ setP l x p → q ≤ 2147483647 := fun q hq => by
  unfold setP at hq
  split at hq
  · rcases List.mem_or_eq_of_mem_set hq with hq | rfl
    · exact h q hq
    · omega
  · exact h q hq
set_option maxHeartbeats 1000000 in
theorem setRun0 (w : World) (I : Nat → Prop) (hI : ∀ b, I b → b < w.heap.size) {a : Option Addr} {n c : Nat} (l : List Rn) (x p : Int) (h : ∀ W, Ext I w W → Sv.ok dRn W (a, n, c) l) :
    Fn0 Tryz.prog 88 #[.slice a n c, .int .i64 x, .int .i64 p] w I Sv.val (fun r W => Sv.ok dRn W r (setRunL l x p)) := by
  obtain rfl : n = l.length := (h w (Ext.refl _ _)).1
  refine enter (svs := [.c (.v (.slice a l.length c)), .c (.v (.int .i64 x)), .c (.v (.int .i64 p))]) tysOk Tryz.func88 rfl Tryz.ntmps88 Tryz.results88 (by kernel_rfl) (by simp) hI (fun W => Sv.ok dRn W (a, l.length, c) l) h fun C hC hN ok => ?_
  simp [hN]
  refine call0 ok rfl rfl rfl (fun w I hI hG => rightRuns0 w I hI l hG) fun y W hy => ?_
  simp [hN]
  refine ⟨fun hno => ?_, fun hyes => ?_⟩
  · have hs : setRunL l x p = [] := by rw [setRunL, if_neg]; rw [← hy, hno]; simp
    exact ret0 hC (none, 0, 0) rfl fun W _ _ => by rw [hs]; exact Sv.nil _ _
  · have hR : RightL l := hy.1 hyes
    have hs : setRunL l x p = runsL (setP (placesL l) x p) := by rw [setRunL, if_pos hR]
    rw [hs] at hC
    have hr := right_okR hR
    have k1 : ∀ w I, (∀ b, I b → b < w.heap.size) → (∀ W, Ext I w W → (y = true ↔ RightL l) ∧ Sv.ok dRn W (a, l.length, c) l) → FnS Tryz.prog 138 #[.slice a l.length c] w I noS (fun g : Nat => .slice (some ⟨g, 0, none⟩) 64 64) (fun g => [.row (some ⟨g, 0, none⟩) 64 64 3 1 (iC (placesL l))]) (fun _ _ => True) := fun w I hI hG => placesOf0 w I hI l (fun W e => (hG W e).2) hr
    refine callS ok rfl rfl rfl [] [] trivial rfl (fun g : Nat => [(600, .row (some ⟨g, 0, none⟩) 64 64 3 1 (iC (placesL l)))]) (fun w I S hI hG hO hS => (k1 w I hI hG).lone hO) (fun r => by simp [back, memN, Res.eqv]) (.inl fun k hk => by cases hk) fun g W _ => ?_
    have hpl := placesL_len l
    simp [hN]
    refine ⟨fun h1 => ⟨fun h2 => ⟨fun h3 => ⟨fun h4 => ⟨⟨h1, h2⟩, ?_⟩, fun h4 => ?_⟩, fun h3 => ?_⟩, fun h2 => ?_⟩, fun h1 => ?_⟩
    · refine tag ok 30 (.c (.bp 600 g x.toNat)) rfl rfl ?_
      simp [hN, iC_set, iC_len, hpl]
      refine ⟨by omega, ?_⟩
      have hq : setP (placesL l) x p = (placesL l).set x.toNat p := by rw [setP, if_pos ⟨h1, h2, h3, h4⟩]
      have hql := setP_len (placesL l) x p
      have hqb := setP_le (x := x) (p := p) (placesL_le hr)
      rw [hq] at hC hql hqb
      rw [hpl] at hql
      refine pub 600 rfl (by decide) (call0 ok rfl rfl rfl (fun w I hI hG => runsOf0 w I hI (a := some ⟨g, 0, none⟩) (n := 64) (c := 64) ((placesL l).set x.toNat p) (fun W e => int_ok (by have h1 := (hG W e).1; simp only [Res.fact, iC_val] at h1; exact h1) (by omega)) (by omega) (fun z hz => by have := hqb z hz; omega)) fun r W _ => ?_)
      simp [hN]
      exact ret0 hC r rfl fun W _ hG => hG.1
    · have hq : setP (placesL l) x p = placesL l := by rw [setP, if_neg (by omega)]
      have hql := setP_len (placesL l) x p
      have hqb := setP_le (x := x) (p := p) (placesL_le hr)
      rw [hq] at hC hql hqb
      rw [hpl] at hql
      refine pub 600 rfl (by decide) (call0 ok rfl rfl rfl (fun w I hI hG => runsOf0 w I hI (a := some ⟨g, 0, none⟩) (n := 64) (c := 64) (placesL l) (fun W e => int_ok (by have h1 := (hG W e).1; simp only [Res.fact, iC_val] at h1; exact h1) (by omega)) (by omega) (fun z hz => by have := hqb z hz; omega)) fun r W _ => ?_)
      simp [hN]
      exact ret0 hC r rfl fun W _ hG => hG.1
    · have hq : setP (placesL l) x p = placesL l := by rw [setP, if_neg (by omega)]
      have hql := setP_len (placesL l) x p
      have hqb := setP_le (x := x) (p := p) (placesL_le hr)
      rw [hq] at hC hql hqb
      rw [hpl] at hql
      refine pub 600 rfl (by decide) (call0 ok rfl rfl rfl (fun w I hI hG => runsOf0 w I hI (a := some ⟨g, 0, none⟩) (n := 64) (c := 64) (placesL l) (fun W e => int_ok (by have h1 := (hG W e).1; simp only [Res.fact, iC_val] at h1; exact h1) (by omega)) (by omega) (fun z hz => by have := hqb z hz; omega)) fun r W _ => ?_)
      simp [hN]
      exact ret0 hC r rfl fun W _ hG => hG.1
    · have hq : setP (placesL l) x p = placesL l := by rw [setP, if_neg (by omega)]
      have hql := setP_len (placesL l) x p
      have hqb := setP_le (x := x) (p := p) (placesL_le hr)
      rw [hq] at hC hql hqb
      rw [hpl] at hql
      refine pub 600 rfl (by decide) (call0 ok rfl rfl rfl (fun w I hI hG => runsOf0 w I hI (a := some ⟨g, 0, none⟩) (n := 64) (c := 64) (placesL l) (fun W e => int_ok (by have h1 := (hG W e).1; simp only [Res.fact, iC_val] at h1; exact h1) (by omega)) (by omega) (fun z hz => by have := hqb z hz; omega)) fun r W _ => ?_)
      simp [hN]
      exact ret0 hC r rfl fun W _ hG => hG.1
    · have hq : setP (placesL l) x p = placesL l := by rw [setP, if_neg (by omega)]
      have hql := setP_len (placesL l) x p
      have hqb := setP_le (x := x) (p := p) (placesL_le hr)
      rw [hq] at hC hql hqb
      rw [hpl] at hql
      refine pub 600 rfl (by decide) (call0 ok rfl rfl rfl (fun w I hI hG => runsOf0 w I hI (a := some ⟨g, 0, none⟩) (n := 64) (c := 64) (placesL l) (fun W e => int_ok (by have h1 := (hG W e).1; simp only [Res.fact, iC_val] at h1; exact h1) (by omega)) (by omega) (fun z hz => by have := hqb z hz; omega)) fun r W _ => ?_)
      simp [hN]
      exact ret0 hC r rfl fun W _ hG => hG.1
theorem rn_eq (a b : Rn) : a = b ↔ a.fr = b.fr ∧ a.at_ = b.at_ ∧ a.ct = b.ct := by
  cases a; cases b; simp
instance : DecidableEq Rn := fun a b => decidable_of_iff _ (rn_eq a b).symm
end Go.Proofs.YtbbaoeidobdblaaGreat.Sx

/- Rooms held against each other. -/
set_option linter.unusedVariables false
set_option linter.unusedSimpArgs false
namespace Go.Proofs.YtbbaoeidobdblaaGreat.Sx
open Go
attribute [local simp ↓] ifb_true' ifb_false'
attribute [local simp] ifb_true ifb_false ifb_eq sx argsT find ev evOp evs evo evBin evInt evStr evNil evNilA ptrA slcA isNoneA asB evLoad look del cellsB evUn evConv kdec fld evFieldA evField evIdxA evIdx evSlc bndL bndH evLen mmi put resV guardV gvL setO tupV cellsOf ones one upd lits nv exitTo SV.val CV.val TI.agg rdyA allR keepB scan simpO gsp isS subs keepT pickT wr memN pubs Res.fact Region.binds bld rest give delL back Res.eqv vi vb num Sv.val undef
abbrev rmT : Nat := 96
/-- Two rooms are held against each other. -/
theorem room_eq (x y : Operand) (a b c a' b' c' : Int) (w : World) : (do eqGuard .eql rmT x y (.agg #[.int .i64 a, .int .i64 b, .int .i64 c]) (.agg #[.int .i64 a', .int .i64 b', .int .i64 c']); binOp .eql rmT (.agg #[.int .i64 a, .int .i64 b, .int .i64 c]) (.agg #[.int .i64 a', .int .i64 b', .int .i64 c']) : Sem Value).run Tryz.prog w = .ok (.bool (decide (a = a' ∧ b = b' ∧ c = c'))) w := by
  have hp : Tryz.prog.stoodInHeld rmT = false := by kernel_rfl
  have hm : Tryz.prog.eqGuardType Tryz.prog.depth rmT = false := by kernel_rfl
  have ht : Tryz.prog.underlying rmT = some (.struct (Tryz.prog.fieldsOf rmT)) := by kernel_rfl
  have hi : Tryz.prog.underlying 3 = some (.int .i64) := Tryz.underlying3
  simp only [Sem.run_bind, run_eqGuard_agg w .eql rmT x y _ _ hm, Result.andThen_ok, run_eql_struct, run_equalIn_agg w 9999 rmT _ _ ht hp]
  simp only [Program.fieldsOf, Tryz.underlying96]
  simp [Op.eqFields, part, isAgg, underlying, hi, run_equalIn_int]
  by_cases h1 : a = a' <;> by_cases h2 : b = b' <;> by_cases h3 : c = c' <;> simp [h1, h2, h3]
end Go.Proofs.YtbbaoeidobdblaaGreat.Sx

/- Sx, part 12: rows of one's own: made longer within their room, copied into, cleared; zeros appended to a part; two slices that do not overlap. -/
set_option linter.unusedVariables false
set_option linter.unusedSimpArgs false
namespace Go.Proofs.YtbbaoeidobdblaaGreat.Sx
open Go
section
variable {P : Program} {C : Ctx} {T : Ty} {res : List ResultVar} {p : Pos} {tm : Tm} {m : Mem}
/-- A row of one's own is written anew, in place. -/
theorem J.setRow {w : World} (k : Nat) {g n n' c : Nat} {e : TypeId} {sz : Nat} {cs cs' : List CV} {arr cur : Array Value} (hJ : J C m w) (hl : look k m.rs = some (.row (some ⟨g, 0, none⟩) n c e sz cs)) (hg : w.heap[g]? = some (.cells cur e (0, 0)))
    (hs : arr.size = cur.size) (hn : n' ≤ c) (hcl : cs'.length = n' * sz) (ht : arr.toList.take (n' * sz) = cs'.map CV.val) : J C ⟨m.B, m.G, (k, .row (some ⟨g, 0, none⟩) n' c e sz cs') :: del k (del k m.rs)⟩ (w.setRow g arr) := by
  obtain ⟨I, F, hi⟩ := hJ
  have o1 := hi.own _ (look_mem hl)
  have hlt := (Array.getElem?_eq_some_iff.1 hg).1
  obtain ⟨h1, h2, h3⟩ := o1
  rcases h3 with ⟨h4, _⟩ | ⟨g', cap, cur', h4, _, h5, h6, h7, h8, h9⟩
  · cases h4
  · obtain ⟨rfl, rfl⟩ : g = g' ∧ c = cap := by simpa using h4
    rw [hg] at h5
    cases h5
    refine ⟨I, _, hi.upd k k _ (fun b => b = g) (fun b => b = g) (fun b hb => ⟨(h1 b).2 (by rw [hb]; rfl), _, look_mem hl⟩) ⟨rfl, rfl, rfl, by simp, fun b hb => setRow_other w g b _ (fun e => hb.2 e)⟩ ⟨fun b => by simp [Value.ownBlock]; exact ⟨fun h => h.symm, fun h => h.symm⟩, by simpa using hcl, .inr ⟨g, c, arr, rfl, Nat.zero_le _, setRow_heap w g _ _ e _ hg, hn, h7, by rw [hs]; exact h8, ht⟩⟩ (fun b hb => by subst hb; exact ⟨by simp [hlt], .inl rfl⟩) id⟩
theorem J.rowAt {w : World} {k g n c : Nat} {e : TypeId} {sz : Nat} {cs : List CV} (hJ : J C m w) (hl : look k m.rs = some (.row (some ⟨g, 0, none⟩) n c e sz cs)) : ∃ cur : Array Value, w.heap[g]? = some (.cells cur e (0, 0)) ∧ n ≤ c ∧ cur.size = c * sz ∧ cur.toList.take (n * sz) = cs.map CV.val ∧ cs.length = n * sz := by
  obtain ⟨I, F, hi⟩ := hJ
  obtain ⟨h1, h2, h3⟩ := hi.own _ (look_mem hl)
  rcases h3 with ⟨h4, _⟩ | ⟨g', cap, cur', h4, _, h5, h6, h7, h8, h9⟩
  · cases h4
  · obtain ⟨rfl, rfl⟩ : g = g' ∧ c = cap := by simpa using h4
    exact ⟨cur', h5, h6, h8, h9, by simpa using h2⟩
/-- A row is longer, within its room: what stands there is not known. -/
theorem extend (k h : Nat) {a : Option Addr} {n c : Nat} {e : TypeId} {sz : Nat} {cs : List CV} (hl : look k m.rs = some (.row a n c e sz cs)) (hle : n ≤ h) (hc : h ≤ c) (kk : ∀ junk : List Value, junk.length = (h - n) * sz → At C p tm ⟨m.B, m.G, (k, .row a h c e sz (cs ++ junk.map .v)) :: del k (del k m.rs)⟩) : At C p tm m := by
  intro act w cs0 hR hJ
  obtain ⟨I, F, hi⟩ := hJ
  have o1 := hi.own _ (look_mem hl)
  have o1' := o1
  obtain ⟨h1, h2, h3⟩ := o1
  rcases h3 with ⟨h4, h5⟩ | ⟨g, cap, cur, h4, _, h5, h6, h7, h8, h9⟩
  · cases h4
    obtain rfl : h = 0 := by omega
    refine kk [] (by simp) act w cs0 hR ⟨I, _, hi.upd k k _ noS (fun b => (Value.slice none 0 0).ownBlock = some b) (fun b hb => hb.elim) (Ext.refl _ w) ⟨fun b => Iff.rfl, by simpa using o1'.2⟩ (fun b hb => by simp [Value.ownBlock] at hb) id⟩
  · obtain ⟨rfl, rfl⟩ : a = some ⟨g, 0, none⟩ ∧ c = cap := by simpa using h4
    have hle2 : h * sz ≤ cur.size := by rw [h8]; exact Nat.mul_le_mul_right _ hc
    have hn2 : n * sz ≤ h * sz := Nat.mul_le_mul_right _ hle
    have hlt := (Array.getElem?_eq_some_iff.1 h5).1
    have hsplit : cur.toList.take (h * sz) = cs.map CV.val ++ (cur.toList.drop (n * sz)).take ((h - n) * sz) := by
      rw [← h9, show h * sz = n * sz + (h - n) * sz by rw [← Nat.add_mul]; congr 1; omega, List.take_add]
    refine kk ((cur.toList.drop (n * sz)).take ((h - n) * sz)) (by simp [Nat.sub_mul]; omega) act w cs0 hR ⟨I, _, hi.upd k k _ (fun b => b = g) (fun b => b = g) (fun b hb => ⟨(h1 b).2 (by rw [hb]; rfl), _, look_mem hl⟩) ((Ext.refl (fun _ => True) w).mono fun _ _ => trivial) ⟨fun b => by simp [Value.ownBlock]; exact ⟨fun h => h.symm, fun h => h.symm⟩, ?_, .inr ⟨g, c, cur, rfl, Nat.zero_le _, h5, hc, h7, h8, ?_⟩⟩ (fun b hb => by subst hb; exact ⟨hlt, .inl rfl⟩) id⟩
    · have h10 : (cs.map CV.val).length = n * sz := h2
      simp only [List.length_map] at h10
      simp only [List.length_map, List.length_append, List.length_take, List.length_drop, Array.length_toList, h10]
      rw [Nat.min_eq_left (by rw [Nat.sub_mul]; omega), ← Nat.add_mul]
      congr 1
      omega
    · rw [hsplit]
      simp [Function.comp_def, CV.val]
/-- Cells that are written anew: from some place on. -/
def lay (cs : List CV) (o : Nat) (src : List CV) : List CV := cs.take o ++ src ++ cs.drop (o + src.length)
theorem lay_len (cs : List CV) (o : Nat) (src : List CV) (h : o + src.length ≤ cs.length) : (lay cs o src).length = cs.length := by simp [lay]; omega
theorem copyRun {P : Program} (w : World) (dT sT ty elem : TypeId) {ie : TI} (g o dLen dCap : Nat) (sa : Option Addr) (sLen sCap : Nat) (cur : Array Value) (t : TypeId) (src : List Value)
    (hu : P.underlying dT = some (.slice elem)) (hs : TIok P elem ie)
    (hg : w.heap[g]? = some (.cells cur t (0, 0))) (hn : src.length = Nat.min sLen dLen * ie.sz)
    (hsrc : ∀ j v, src[j]? = some v → ∃ b f, sa = some ⟨b, f, none⟩ ∧ w.cell? ⟨b, f + j, none⟩ = some v) (hsh : ∃ b f, sa = some ⟨b, f, none⟩) (hfit : o + src.length ≤ cur.size) (h1 : ∀ v ∈ src, v.oneCell' = true) :
    (Builtin.copy_ #[dT, sT] ty #[.slice (some ⟨g, o, none⟩) dLen dCap, .slice sa sLen sCap]).run P w =
      .ok (goInt (Nat.min sLen dLen)) (w.setRow g (cur.toList.take o ++ src ++ cur.toList.drop (o + src.length)).toArray) := by
  obtain ⟨b, f, rfl⟩ := hsh
  have hl := run_loadCells_list (P := P) w ⟨b, f, none⟩ src (fun j v hv => by
    obtain ⟨b', f', e, hc⟩ := hsrc j v hv
    cases e
    rw [addr_add]
    exact hc)
  have hst := run_storeCells_at P g o t src 0 cur w hg (by simpa using hfit) h1
  have hz := hs.g_sizeOf (P := P)
  rw [hn] at hl
  simp [Builtin.copy_, run_underlying hu, Builtin.lenOf, Builtin.firstCells, hz, hl, hst]
/-- What stands in a row of one's own (k', or k itself) is copied into one (k). -/
theorem copyR (ok : Okc P T C res) (k k' : Nat) {o : Oper} {d s : Operand} {dT sT : Nat} (ho : o.op = .call ⟨.builtin .copy, #[d, s], #[dT, sT]⟩) {i ie : TI} (hi : tf dT T = some i) (hik : i.kd = 3) (hie : tf i.el T = some ie)
    {g n c g' n' c' off soff dLen dCap sLen sCap : Nat} {e' : TypeId} {cs cs' : List CV} {u v : SV} (hk : look k m.rs = some (.row (some ⟨g, 0, none⟩) n c i.el ie.sz cs)) (hk' : look k' m.rs = some (.row (some ⟨g', 0, none⟩) n' c' e' ie.sz cs'))
    (hd : ev tm d = some u) (hu : u.val = .slice (some ⟨g, off, none⟩) dLen dCap) (hs : ev tm s = some v) (hv : v.val = .slice (some ⟨g', soff, none⟩) sLen sCap)
    (hf : off + Nat.min sLen dLen * ie.sz ≤ n * ie.sz) (hf' : soff + Nat.min sLen dLen * ie.sz ≤ n' * ie.sz) (h1 : ones ((cs'.drop soff).take (Nat.min sLen dLen * ie.sz)))
    (kk : sx T C res 1000 p (put C.n o.dst (.c (.v (.int .i64 (Nat.min sLen dLen)))) tm) ⟨m.B, m.G, (k, .row (some ⟨g, 0, none⟩) n c i.el ie.sz (lay cs off ((cs'.drop soff).take (Nat.min sLen dLen * ie.sz)))) :: del k (del k m.rs)⟩) : At C (.op o p) tm m := by
  intro act w cs0 hR hJ
  obtain ⟨cur, hg, hnc, hsz, htk, hcl⟩ := hJ.rowAt hk
  obtain ⟨cur', hg', hnc', hsz', htk', hcl'⟩ := hJ.rowAt hk'
  have e1 : act.eval d = .slice (some ⟨g, off, none⟩) dLen dCap := by rw [hR.eval hd, hu]
  have e2 : act.eval s = .slice (some ⟨g', soff, none⟩) sLen sCap := by rw [hR.eval hs, hv]
  have hle : n * ie.sz ≤ cur.size := by rw [hsz]; exact Nat.mul_le_mul_right _ hnc
  have hsl : ((cs'.drop soff).take (Nat.min sLen dLen * ie.sz)).length = Nat.min sLen dLen * ie.sz := by simp; omega
  have hslv : (((cs'.drop soff).take (Nat.min sLen dLen * ie.sz)).map CV.val).length = Nat.min sLen dLen * ie.sz := by rw [List.length_map, hsl]
  have hr := copyRun (P := C.P) w dT sT o.type i.el (ie := ie) g off dLen dCap (some ⟨g', soff, none⟩) sLen sCap cur _ (((cs'.drop soff).take (Nat.min sLen dLen * ie.sz)).map CV.val) ((ok.ty.get hi).g_slice hik) (ok.ty.get hie) hg hslv (fun j v hv => ⟨g', soff, rfl, by
    have hj : j < Nat.min sLen dLen * ie.sz := by have := (List.getElem?_eq_some_iff.1 hv).1; rwa [hslv] at this
    have h2 := hJ.ok k' _ g' cs' hk' rfl (soff + j) (by omega)
    rw [h2]
    rw [List.getElem?_map, List.getElem?_take, if_pos hj, List.getElem?_drop] at hv
    rw [List.getElem?_eq_getElem (by omega)] at hv
    simp only [Option.map_some, Option.some.injEq] at hv
    rw [← hv, List.getD_eq_getElem?_getD, List.getElem?_eq_getElem (by omega)]
    rfl⟩) ⟨_, _, rfl⟩ (by rw [hslv]; omega) (ones_cells h1)
  have hrun : (execOp act.eval o).run C.P w = .ok (.value (goInt (Nat.min sLen dLen))) (w.setRow g (cur.toList.take off ++ ((cs'.drop soff).take (Nat.min sLen dLen * ie.sz)).map CV.val ++ cur.toList.drop (off + (((cs'.drop soff).take (Nat.min sLen dLen * ie.sz)).map CV.val).length)).toArray) := by
    simp [execOp, ho, resolve, invoke, builtin, e1, e2, hr]
  have hRp := hR.put o.dst (.c (.v (.int .i64 (Nat.min sLen dLen))))
  refine op_value (ok.sx kk) hrun hRp (hJ.setRow k hk hg ?_ hnc ?_ ?_)
  · simp only [List.size_toArray, List.length_append, List.length_take, List.length_drop, Array.length_toList, hslv]
    omega
  · rw [lay_len _ _ _ (by rw [hsl]; omega), hcl]
  · rw [hslv]
    have e3 : cs.map CV.val = cur.toList.take (n * ie.sz) := htk.symm
    simp only [lay, List.map_append, List.map_take, List.map_drop, e3, hsl]
    simp only [List.append_assoc]
    rw [List.take_append, List.length_take, Array.length_toList, Nat.min_eq_left (by omega), List.take_take, Nat.min_eq_right (by omega), List.take_take, Nat.min_eq_left (by omega)]
    congr 1
    have hmv : (((cs'.map CV.val).drop soff).take (Nat.min sLen dLen * ie.sz)).length = Nat.min sLen dLen * ie.sz := by simp; omega
    rw [List.take_append, hmv, List.take_of_length_le (by rw [hmv]; omega)]
    congr 1
    rw [List.drop_take]
    congr 1
    omega
end
end Go.Proofs.YtbbaoeidobdblaaGreat.Sx

/- Sx, part 13: clear; zeros appended to a part of a row that has no room; slices.overlaps of two rows of one's own. -/
set_option linter.unusedVariables false
set_option linter.unusedSimpArgs false
namespace Go.Proofs.YtbbaoeidobdblaaGreat.Sx
open Go
theorem zc_mem {z : Array Value} {n : Nat} {v : Value} (h : v ∈ (Builtin.zeroCells z n).toList) : v ∈ z.toList := by
  simp only [Builtin.zeroCells, Array.toList_map, List.mem_map, Array.toList_range, List.mem_range] at h
  obtain ⟨i, hi, rfl⟩ := h
  have h0 : 0 < z.size := by
    rcases Nat.eq_zero_or_pos z.size with h | h
    · rw [h] at hi; simp at hi
    · exact h
  have h1 := Nat.mod_lt i h0
  rw [getElem!_pos z _ h1]
  exact Array.getElem_mem_toList h1
section
variable {P : Program} {C : Ctx} {T : Ty} {res : List ResultVar} {p : Pos} {tm : Tm} {m : Mem}
/-- A part of a row of one's own is cleared. -/
theorem clearR (ok : Okc P T C res) (k : Nat) {o : Oper} {x : Operand} {t : Nat} (ho : o.op = .call ⟨.builtin .clear, #[x], #[t]⟩) {i ie : TI} (hi : tf t T = some i) (hik : i.kd = 3) (hie : tf i.el T = some ie) (hz1 : ∀ v ∈ ie.zero, v.oneCell' = true) (hzl : ie.zero.length = ie.sz)
    {g n c off len cap : Nat} {cs : List CV} {u : SV} (hk : look k m.rs = some (.row (some ⟨g, 0, none⟩) n c i.el ie.sz cs)) (hx : ev tm x = some u) (hu : u.val = .slice (some ⟨g, off, none⟩) len cap) (h0 : 0 < len) (hf : off + len * ie.sz ≤ n * ie.sz)
    (kk : ∀ z : List CV, z.length = len * ie.sz → sx T C res 1000 p (put C.n o.dst (.c (.v (.tuple #[]))) tm) ⟨m.B, m.G, (k, .row (some ⟨g, 0, none⟩) n c i.el ie.sz (lay cs off z)) :: del k (del k m.rs)⟩) : At C (.op o p) tm m := by
  intro act w cs0 hR hJ
  obtain ⟨cur, hg, hnc, hsz, htk, hcl⟩ := hJ.rowAt hk
  have e1 : act.eval x = .slice (some ⟨g, off, none⟩) len cap := by rw [hR.eval hx, hu]
  have hle : n * ie.sz ≤ cur.size := by rw [hsz]; exact Nat.mul_le_mul_right _ hnc
  obtain ⟨z, hz, hzc⟩ := (ok.ty.get hie).g_zeroValue w
  have hzs : z.cells.size = ie.sz := by rw [← Array.length_toList, hzc, hzl]
  have hsl : (Builtin.zeroCells z.cells len).toList.length = len * ie.sz := by rw [Array.length_toList, size_zeroCells, hzs]
  have hu2 := (ok.ty.get hi).g_slice hik
  have hst := run_storeCells_at C.P g off i.el (Builtin.zeroCells z.cells len).toList 0 cur w hg (by rw [hsl]; omega) (fun v hv => hz1 v (by rw [← hzc]; exact zc_mem hv))
  obtain ⟨len', rfl⟩ : ∃ l, len = l + 1 := ⟨len - 1, by omega⟩
  have hrun : (execOp act.eval o).run C.P w = .ok (.value (.tuple #[])) (w.setRow g (cur.toList.take off ++ (Builtin.zeroCells z.cells (len' + 1)).toList ++ cur.toList.drop (off + (Builtin.zeroCells z.cells (len' + 1)).toList.length)).toArray) := by
    simp only [Nat.add_zero] at hst
    simp [execOp, ho, resolve, invoke, builtin, e1, Builtin.clear_, run_underlying hu2, hz, hst]
  have hRp := hR.put o.dst (.c (.v (.tuple #[])))
  have hmv : ((Builtin.zeroCells z.cells (len' + 1)).toList.map CV.v).map CV.val = (Builtin.zeroCells z.cells (len' + 1)).toList := by simp [Function.comp_def, CV.val]
  refine op_value (ok.sx (kk ((Builtin.zeroCells z.cells (len' + 1)).toList.map .v) (by rw [List.length_map, hsl]))) hrun hRp (hJ.setRow k hk hg ?_ hnc ?_ ?_)
  · simp only [List.size_toArray, List.length_append, List.length_take, List.length_drop, Array.length_toList]
    rw [Array.length_toList] at hsl
    omega
  · rw [lay_len _ _ _ (by rw [List.length_map, hsl]; omega), hcl]
  · have e3 : cs.map CV.val = cur.toList.take (n * ie.sz) := htk.symm
    have hl2 : ((Builtin.zeroCells z.cells (len' + 1)).toList.map CV.v).length = (len' + 1) * ie.sz := by rw [List.length_map, hsl]
    simp only [lay, List.map_append, List.map_take, List.map_drop, hmv, e3, hl2]
    rw [hsl]
    simp only [List.append_assoc]
    rw [List.take_append, List.length_take, Array.length_toList, Nat.min_eq_left (by omega), List.take_take, Nat.min_eq_right (by omega), List.take_take, Nat.min_eq_left (by omega)]
    congr 1
    rw [List.take_append, hsl, List.take_of_length_le (by rw [hsl]; omega)]
    congr 1
    rw [List.drop_take]
    congr 1
    omega
/-- Zeros are appended to the first part of a row that has no room for them: a new row (kn). -/
theorem appZp (ok : Okc P T C res) (k kn : Nat) {o : Oper} {s x : Operand} {t tn d : Nat} (ho : o.op = .call ⟨.builtin .append, #[s, x], #[t, tn]⟩) (hd : o.dst = some d) {i ie ii : TI} (hi : tf t T = some i) (hik : i.kd = 3) (hie : tf i.el T = some ie) (h0 : 0 < ie.sz) (hzl : ie.zero.length = ie.sz) (htn : tf tn T = some ii) (hin : ii.kd = 8)
    {g n c j : Nat} {z : Nat} {kq : IntKind} {cs : List CV} {u v : SV} (hnk : look kn m.rs = some (.row none 0 0 i.el ie.sz [])) (hk : look k m.rs = some (.row (some ⟨g, 0, none⟩) n c i.el ie.sz cs)) (hs : ev tm s = some u) (hu : u.val = .slice (some ⟨g, 0, none⟩) j c) (hx : ev tm x = some v) (hv : v.val = .int kq (z : Nat)) (hj : j ≤ n) (hzp : 0 < z) (hfull : c < j + z)
    (hb : (j + z) * ie.bt ≤ 140737488355328) (hmx : j + z ≤ 140737488355328) (hne : k ≠ kn)
    (kk : ∀ g' c' zs, zs.length = z * ie.sz → j + z ≤ c' → sx T C res 1000 p (put C.n (some d) (.c (.rw kn (some ⟨g', 0, none⟩) (j + z) c')) tm) ⟨m.B, m.G, (kn, .row (some ⟨g', 0, none⟩) (j + z) c' i.el ie.sz (cs.take (j * ie.sz) ++ zs)) :: del kn (del kn m.rs)⟩) : At C (.op o p) tm m := by
  rintro act w cs0 hR hJ0
  obtain ⟨cur, hg, hnc, hsz, htk, hcl⟩ := hJ0.rowAt hk
  have hok := hJ0.ok
  obtain ⟨I, F, hJ⟩ := hJ0
  have e1 : act.eval s = .slice (some ⟨g, 0, none⟩) j c := by rw [hR.eval hs, hu]
  have e2 : act.eval x = .int kq (z : Nat) := by rw [hR.eval hx, hv]
  have he := ok.ty.get hie
  have hu2 := (ok.ty.get hi).g_slice hik
  obtain ⟨iq, hii, hsq, hbt, zz, hz, hzc⟩ := he.g_some
  have hzs : zz.cells.size = ie.sz := by rw [← Array.length_toList, hzc, hzl]
  have hjn : j * ie.sz ≤ n * ie.sz := Nat.mul_le_mul_right _ hj
  have htl : ((cs.take (j * ie.sz)).map CV.val).length = j * ie.sz := by simp; omega
  have hold : (Builtin.firstCells iq.size j (.slice (some ⟨g, 0, none⟩) j c)).run C.P w.drew = .ok ((cs.take (j * ie.sz)).map CV.val).toArray w.drew := by
    rw [hsq]
    exact run_firstCells_some w.drew ie.sz j ⟨g, 0, none⟩ j c _ htl (fun q y hy => by
      rw [addr_add, Nat.zero_add]
      have hq : q < j * ie.sz := by have := (List.getElem?_eq_some_iff.1 hy).1; rwa [htl] at this
      have h2 := hok k _ g cs hk rfl q (by omega)
      rw [List.getElem?_map, List.getElem?_take, if_pos hq, List.getElem?_eq_getElem (by omega)] at hy
      simp only [Option.map_some, Option.some.injEq] at hy
      rw [List.getD_eq_getElem?_getD, List.getElem?_eq_getElem (by omega)] at h2
      rw [← hy]
      exact h2)
  have hr := Lib.run_append_grow_zeros (P := C.P) w t tn o.type i.el iq zz kq (kdec ii.el) hu2 ((ok.ty.get htn).g_int hin) hii hz (some ⟨g, 0, none⟩) j c _ hold z hzp (by rw [hsq]; exact h0) hfull (by omega) (by
    rw [hbt]
    have : z * ie.bt ≤ (j + z) * ie.bt := Nat.mul_le_mul_right _ (by omega)
    omega) (growslice_fits (by omega) (by rw [hbt]; exact hb))
  have hge := grownCap_ge w (j + z) c i.el
  have hcm : grownCap w (j + z) c i.el ≤ maxLen := grownCap_le_maxLen w (j + z) c i.el (by unfold maxLen; omega)
  have hzll : (Builtin.zeroCells zz.cells z).toList.length = z * ie.sz := by rw [Array.length_toList, size_zeroCells, hzs]
  have hmv : ((Builtin.zeroCells zz.cells z).toList.map CV.v).map CV.val = (Builtin.zeroCells zz.cells z).toList := by simp [Function.comp_def, CV.val]
  have hnewl : ((cs.take (j * ie.sz) ++ (Builtin.zeroCells zz.cells z).toList.map CV.v).map CV.val).length = (j + z) * ie.sz := by
    rw [List.map_append, List.length_append, htl, hmv, hzll, Nat.add_mul]
  have hrun : (execOp act.eval o).run C.P w = .ok (.value (.slice (some ⟨w.heap.size, 0, none⟩) (j + z) (grownCap w (j + z) c i.el))) (w.drew.alloc (.cells (((cs.take (j * ie.sz)).map CV.val).toArray ++ Builtin.zeroCells zz.cells z ++ Builtin.zeroCells zz.cells (grownCap w (j + z) c i.el - (j + z))) i.el)) := by
    simp only [execOp, ho]
    simp only [resolve, invoke, builtin]
    simp [e1, e2, hr]
  have hown : (w.drew.alloc (.cells (((cs.take (j * ie.sz)).map CV.val).toArray ++ Builtin.zeroCells zz.cells z ++ Builtin.zeroCells zz.cells (grownCap w (j + z) c i.el - (j + z))) i.el)).ownsRow 0 i.el ie.sz (.slice (some ⟨w.heap.size, 0, none⟩) (j + z) (grownCap w (j + z) c i.el)) (j + z) ((cs.take (j * ie.sz) ++ (Builtin.zeroCells zz.cells z).toList.map CV.v).map CV.val) := by
    refine ⟨hnewl, .inr ⟨w.heap.size, _, _, rfl, Nat.zero_le _, heap_alloc_new w.drew _, hge, hcm, ?_, ?_⟩⟩
    · simp only [Array.size_append, List.size_toArray, size_zeroCells, hzs, htl, ← Nat.add_mul]
      congr 1
      omega
    · simp only [Array.toList_append, List.append_assoc]
      rw [← List.append_assoc, ← hnewl, List.map_append, hmv]
      exact List.take_left
  have hext : Ext (fun b => b < w.heap.size ∧ ¬ noS b) w (w.drew.alloc (.cells (((cs.take (j * ie.sz)).map CV.val).toArray ++ Builtin.zeroCells zz.cells z ++ Builtin.zeroCells zz.cells (grownCap w (j + z) c i.el - (j + z))) i.el)) := (Ext.drew _ w).trans (Ext.alloc _ w.drew _ fun b hb => hb.1) fun _ hx => hx
  have hup := hJ.upd kn kn (.row (some ⟨w.heap.size, 0, none⟩) (j + z) (grownCap w (j + z) c i.el) i.el ie.sz (cs.take (j * ie.sz) ++ (Builtin.zeroCells zz.cells z).toList.map CV.v)) noS (fun b => b = w.heap.size) (fun b hb => hb.elim) hext ⟨fun b => by simp [Value.ownBlock]; exact ⟨fun h => h.symm, fun h => h.symm⟩, hown⟩ (fun b hb => by subst hb; exact ⟨by simp, .inr (Nat.le_refl _)⟩) id
  have hRp := hR.put (some d) (.c (.rw kn (some ⟨w.heap.size, 0, none⟩) (j + z) (grownCap w (j + z) c i.el)))
  exact op_value (ok.sx (kk w.heap.size _ _ (by rw [List.length_map, hzll]) hge)) hrun (by rw [hd]; exact hRp) ⟨I, _, hup⟩
def ovB (P : Program) (f : FuncId) (t r : TypeId) : Prop := ∃ fn, P.funcs[f]? = some fn ∧ (fn.name == "runtime.NumGoroutine") = false ∧ fn.body.isNone = true ∧ Extern.findNext fn = none ∧ Extern.find fn = some (Extern.SlicesOverlaps.overlaps #[t, t] #[r])
/-- Two rows of one's own do not overlap. -/
theorem ovl (ok : Okc P T C res) (k k' : Nat) {o : Oper} {fo a b : Operand} {tys : Array TypeId} (ho : o.op = .call ⟨.value fo, #[a, b], tys⟩) {f : FuncId} (hf : ev tm fo = some (.c (.v (.func (.func f) #[] #[])))) {t r : TypeId} (hF : ovB P f t r) {i ie : TI} (hi : tf t T = some i) (hik : i.kd = 3) (hie : tf i.el T = some ie)
    {g n c g' n' c' off off' la lb ca cb : Nat} {e e' : TypeId} {cs cs' : List CV} {u v : SV} (hk : look k m.rs = some (.row (some ⟨g, 0, none⟩) n c e ie.sz cs)) (hk' : look k' m.rs = some (.row (some ⟨g', 0, none⟩) n' c' e' ie.sz cs')) (hne : k ≠ k')
    (ha : ev tm a = some u) (hu : u.val = .slice (some ⟨g, off, none⟩) la ca) (hb : ev tm b = some v) (hv : v.val = .slice (some ⟨g', off', none⟩) lb cb) (hn' : 0 < c') (hs0 : 0 < ie.sz)
    (kk : sx T C res 1000 p (put C.n o.dst (.c (.b false)) tm) m) : At C (.op o p) tm m := by
  obtain rfl := ok.P
  intro act w cs0 hR hJ
  obtain ⟨cur, hg, hnc, hsz, htk, hcl⟩ := hJ.rowAt hk
  obtain ⟨cur', hg', hnc', hsz', htk', hcl'⟩ := hJ.rowAt hk'
  have hne2 : g ≠ g' := by
    obtain ⟨I, F, hi⟩ := hJ
    have o1 := hi.own _ (look_mem hk)
    have o2 := hi.own _ (look_mem hk')
    intro e
    subst e
    exact hi.disj _ _ g (look_mem hk) (look_mem hk') hne ((o1.1 g).2 rfl) ((o2.1 g).2 rfl)
  have e0 : act.eval fo = .func (.func f) #[] #[] := hR.eval hf
  have e1 : act.eval a = .slice (some ⟨g, off, none⟩) la ca := by rw [hR.eval ha, hu]
  have e2 : act.eval b = .slice (some ⟨g', off', none⟩) lb cb := by rw [hR.eval hb, hv]
  obtain ⟨fn, h1, h2, h3, h4, h5⟩ := hF
  have hrun : (execOp act.eval o).run C.P w = .ok (.value (.bool false)) w := by
    have hx := Lib.run_overlaps_apart (P := C.P) w t r i.el ((ok.ty.get hi).g_slice hik) ie.sz (ok.ty.get hie).g_sizeOf ⟨g, off, none⟩ ⟨g', off', none⟩ la ca lb cb hne2 e e' cur.size cur'.size (by simp [World.shape?, hg]) (by simp [World.shape?, hg']) (by rw [hsz']; exact Nat.ne_of_gt (Nat.mul_pos hn' hs0)) (by simp [World.frozen?, hg]) (by simp [World.frozen?, hg])
    have hc := run_callFunc_extern h1 h2 h3 h4 h5 #[.slice (some ⟨g, off, none⟩) la ca, .slice (some ⟨g', off', none⟩) lb cb] w
    rw [hx] at hc
    simp [execOp, ho, resolve, e0, e1, e2, Deferred.ofValue, invoke, hc]
  have hRp := hR.put o.dst (.c (.b false))
  exact op_value (ok.sx kk) hrun hRp hJ
/-- The same as loopK, with rounds told as At (so that rules may stand first): what its slots, and what is one's own, are like at each round's head, by a parameter; what is known beside; what goes down. -/
theorem loopKA (ks : List Nat) (ok : Okc P T C res) {b : Code} {k : List Item} {α : Type} (car : α → Tm) (rs : α → List (Nat × Res)) (F : α → World → Prop) (μ : α → Nat) (a0 : α)
    (h0 : subs tm (car a0)) (hr0 : keepB m.rs (rs a0)) (hF0 : ∀ W, m.G W → F a0 W)
    (round : ∀ a W, F a W → m.G W → (∀ a' tm' m', μ a' < μ a → (∀ W, m'.G W → F a' W ∧ m.G W) → subs tm' (car a' ++ pickT ks tm) ∧ keepB m'.rs (rs a') → At C (.todo (.inLoop b :: k)) tm' m') → At C (.todo (.code b :: .inLoop b :: k)) (car a ++ pickT ks tm) ⟨fun _ => True, fun W => F a W ∧ m.G W, rs a⟩) :
    At C (.todo (.code (.loop b) :: k)) tm m := by
  have key : ∀ n a, μ a = n → ∀ tm' m', (∀ W, m'.G W → F a W ∧ m.G W) → Sub (car a ++ pickT ks tm) tm' → keepB m'.rs (rs a) → At C (.todo (.code b :: .inLoop b :: k)) tm' m' := by
    intro n
    induction n using Nat.strongRecOn with
    | _ n ih =>
      intro a hn tm' m' hG hs hk a1 w cs hR hJ
      obtain ⟨I, Fo, hi⟩ := hJ
      have hG0 := hG w (hi.know w (Ext.refl _ _))
      have hJ : J C m' w := ⟨I, Fo, hi⟩
      have hr := round a w hG0.1 hG0.2 (fun a' tm2 m2 hlt hG2 h2 => fun a2 w2 cs2 hR2 hJ2 => Good.of (ih (μ a') (hn ▸ hlt) a' rfl tm2 m2 hG2 (Sub.of h2.1) h2.2 a2 w2 cs2 hR2 hJ2) (.one step_inLoop))
      exact hr a1 w cs (hR.sub hs) (hJ.weaken (fun _ _ => trivial) hG (keepB_mem hk))
  exact fun a w cs hR hJ => Good.of (key (μ a0) a0 rfl tm m (fun W h => ⟨hF0 W h, h⟩) (Sub.app (Sub.of h0) (fun t x hx => ⟨x, pickT_sub _ _ t x hx, rfl⟩)) hr0 a w cs hR hJ) (.one step_loop)
theorem tagA (t : Nat) {x : SV} (y : SV) (hx : find t tm = some x) (hv : x.val = y.val) (h : At C p ((t, y) :: tm) m) : At C p tm m :=
  fun a w cs hR hJ => h a w cs (hR.same hx hv) hJ
/-- Where a row of one's own stands, be it empty. -/
theorem rowWhere (k : Nat) {a : Option Addr} {n c : Nat} {e : TypeId} {sz : Nat} {cs : List CV} (hl : look k m.rs = some (.row a n c e sz cs)) (h : (a = none ∧ n = 0 ∧ c = 0 ∨ ∃ g, a = some ⟨g, 0, none⟩) → At C p tm m) : At C p tm m := by
  rintro act w cs0 hR ⟨I, F, hJ⟩
  have h1 := (hJ.own _ (look_mem hl)).2
  refine h ?_ act w cs0 hR ⟨I, F, hJ⟩
  rcases h1.2 with ⟨h2, h3⟩ | ⟨g, cap, cur, h2, _⟩
  · exact .inl (by simpa using h2)
  · exact .inr ⟨g, by simpa using congrArg (fun v => match v with | Value.slice a _ _ => a | _ => none) h2⟩
end
end Go.Proofs.YtbbaoeidobdblaaGreat.Sx

/- The closures of state, slices.IndexFunc of inodes. -/
set_option linter.unusedVariables false
set_option linter.unusedSimpArgs false
namespace Go.Proofs.YtbbaoeidobdblaaGreat.Sx
open Go
attribute [local simp ↓] ifb_true' ifb_false'
attribute [local simp] ifb_true ifb_false ifb_eq sx argsT find ev evOp evs evo evBin evInt evStr evNil evNilA ptrA slcA isNoneA asB evLoad look del cellsB evUn evConv kdec fld evFieldA evField evIdxA evIdx evSlc bndL bndH evLen mmi put resV guardV gvL setO tupV cellsOf ones one upd lits nv exitTo SV.val CV.val TI.agg rdyA allR keepB scan simpO gsp isS subs keepT pickT wr memN pubs Res.fact Region.binds bld rest give delL back Res.eqv vi vb num Sv.val undef
theorem putSame0 (w : World) (I : Nat → Prop) (hI : ∀ b, I b → b < w.heap.size) (y : Ino) (e r : Sl) (g : Nat) (x : Int) (h : ∀ W, Ext I w W → W.cell? ⟨g, 0, none⟩ = some (.int .i64 x)) :
    Fn0 Tryz.prog 153 #[.agg (inoC y e r).toArray, .pointer (some ⟨g, 0, none⟩)] w I (fun b : Bool => .bool b) (fun b W => b = decide (y.no = x)) := by
  refine enter (svs := [.ag ((inoC y e r).map .v), .c (.v (.pointer (some ⟨g, 0, none⟩)))]) tysOk Tryz.func153 rfl Tryz.ntmps153 Tryz.results153 (by kernel_rfl) (by simp) hI (fun W => W.cell? ⟨g, 0, none⟩ = some (.int .i64 x)) h fun C hC hN ok => ?_
  simp [hN]
  intro g2
  refine load1 ok rfl rfl rfl rfl (fun v W => v = .int .i64 x) (fun W hW => ⟨_, hW, rfl⟩) ?_
  rintro v W rfl _
  simp [hN]
  exact ret0 hC _ rfl fun W _ _ => rfl
theorem putMore0 (w : World) (I : Nat → Prop) (hI : ∀ b, I b → b < w.heap.size) (y : Ino) (e r : Sl) (g : Nat) (x : Int) (h : ∀ W, Ext I w W → W.cell? ⟨g, 0, none⟩ = some (.int .i64 x)) :
    Fn0 Tryz.prog 154 #[.agg (inoC y e r).toArray, .pointer (some ⟨g, 0, none⟩)] w I (fun b : Bool => .bool b) (fun b W => b = decide (x < y.no)) := by
  refine enter (svs := [.ag ((inoC y e r).map .v), .c (.v (.pointer (some ⟨g, 0, none⟩)))]) tysOk Tryz.func154 rfl Tryz.ntmps154 Tryz.results154 (by kernel_rfl) (by simp) hI (fun W => W.cell? ⟨g, 0, none⟩ = some (.int .i64 x)) h fun C hC hN ok => ?_
  simp [hN]
  intro g2
  refine load1 ok rfl rfl rfl rfl (fun v W => v = .int .i64 x) (fun W hW => ⟨_, hW, rfl⟩) ?_
  rintro v W rfl _
  simp [hN]
  exact ret0 hC _ rfl fun W _ _ => rfl
theorem dropSame0 (w : World) (I : Nat → Prop) (hI : ∀ b, I b → b < w.heap.size) (y : Ino) (e r : Sl) (g : Nat) (x : Int) (h : ∀ W, Ext I w W → W.cell? ⟨g, 1, none⟩ = some (.int .i64 x)) :
    Fn0 Tryz.prog 111 #[.agg (inoC y e r).toArray, .pointer (some ⟨g, 0, none⟩)] w I (fun b : Bool => .bool b) (fun b W => b = decide (y.no = x)) := by
  refine enter (svs := [.ag ((inoC y e r).map .v), .c (.v (.pointer (some ⟨g, 0, none⟩)))]) tysOk Tryz.func111 rfl Tryz.ntmps111 Tryz.results111 (by kernel_rfl) (by simp) hI (fun W => W.cell? ⟨g, 1, none⟩ = some (.int .i64 x)) h fun C hC hN ok => ?_
  simp [hN]
  intro g2
  refine load1 ok rfl rfl rfl rfl (fun v W => v = .int .i64 x) (fun W hW => ⟨_, by simpa using hW, rfl⟩) ?_
  rintro v W rfl _
  simp [hN]
  exact ret0 hC _ rfl fun W _ _ => rfl
theorem badMore0 (w : World) (I : Nat → Prop) (hI : ∀ b, I b → b < w.heap.size) (y : Int) (g : Nat) (x : Int) (h : ∀ W, Ext I w W → W.cell? ⟨g, 0, none⟩ = some (.int .i64 x)) :
    Fn0 Tryz.prog 158 #[.int .i64 y, .pointer (some ⟨g, 0, none⟩)] w I (fun b : Bool => .bool b) (fun b W => b = decide (x < y)) := by
  refine enter (svs := [.c (.v (.int .i64 y)), .c (.v (.pointer (some ⟨g, 0, none⟩)))]) tysOk Tryz.func158 rfl Tryz.ntmps158 Tryz.results158 (by kernel_rfl) (by simp) hI (fun W => W.cell? ⟨g, 0, none⟩ = some (.int .i64 x)) h fun C hC hN ok => ?_
  simp [hN]
  refine load1 ok rfl rfl rfl rfl (fun v W => v = .int .i64 x) (fun W hW => ⟨_, hW, rfl⟩) ?_
  rintro v W rfl _
  simp [hN]
  exact ret0 hC _ rfl fun W _ _ => rfl
/-- The number of the first that is so; -1: none is. -/
def idxF {α : Type} (p : α → Bool) : List α → Nat → Int
  | [], _ => -1
  | x :: r, i => if p x then (i : Int) else idxF p r (i + 1)
theorem idxF_at {α : Type} (p : α → Bool) : ∀ (l : List α) (j i : Nat) (hi : i < l.length), (∀ y, y ∈ l.take i → p y = false) → p l[i] = true → idxF p l j = (j + i : Nat)
  | [], _, i, hi, _, _ => by simp at hi
  | x :: r, j, 0, _, _, h => by simp at h; simp [idxF, h]
  | x :: r, j, i + 1, hi, h1, h2 => by
    have := h1 x (by simp)
    rw [idxF, if_neg (by simp [this]), idxF_at p r (j + 1) i (by simpa using hi) (fun z hz => h1 z (by simp [hz])) (by simpa using h2)]
    congr 1
    omega
theorem idxF_none {α : Type} (p : α → Bool) : ∀ (l : List α) (j : Nat), (∀ y, y ∈ l → p y = false) → idxF p l j = -1
  | [], _, _ => rfl
  | x :: r, j, h => by
    have := h x (by simp)
    rw [idxF, if_neg (by simp [this]), idxF_none p r (j + 1) fun z hz => h z (by simp [hz])]
theorem inosC_drop : ∀ (l : List Ix) (i : Nat), (inosC l).drop (i * 7) = inosC (l.drop i)
  | [], i => by simp [inosC]
  | x :: r, 0 => by simp
  | x :: r, i + 1 => by
    rw [Nat.succ_mul, Nat.add_comm, ← List.drop_drop]
    have : (inosC (x :: r)).drop 7 = inosC r := by simp [inosC]
    rw [this, inosC_drop r i]
    rfl
theorem inosC_take : ∀ (l : List Ix) (i : Nat), (inosC l).take (i * 7) = inosC (l.take i)
  | [], i => by simp [inosC]
  | x :: r, 0 => by simp [inosC]
  | x :: r, i + 1 => by
    have : inosC (x :: r) = (inoC x.1 x.2.1 x.2.2).map .v ++ inosC r := by simp [inosC]
    rw [this, Nat.succ_mul, Nat.add_comm, List.take_append]
    have h2 : ((inoC x.1 x.2.1 x.2.2).map CV.v).length = 7 := by simp
    rw [h2, List.take_of_length_le (by omega), show 7 + i * 7 - 7 = i * 7 by omega, inosC_take r i]
    simp [inosC]
theorem inosC_at (l : List Ix) {i : Nat} (hi : i < l.length) : ((inosC l).drop (i * 7)).take 7 = (inoC l[i].1 l[i].2.1 l[i].2.2).map .v := by
  have h : ∀ (x : Ix) (r : List Ix), (inosC (x :: r)).take 7 = (inoC x.1 x.2.1 x.2.2).map .v := fun x r => by simp [inosC]
  rw [inosC_drop, List.drop_eq_getElem_cons hi, h]
set_option maxHeartbeats 1000000 in
theorem indexI0 (w : World) (I S : Nat → Prop) (hI : ∀ b, I b → b < w.heap.size) (q : Inos) (f : FuncId) (cap : Value) (p : Ino → Bool) (K : World → Prop) (hK : ∀ W, Ext I w W → K W)
    (Hf : ∀ w I (y : Ino) (e r : Sl), (∀ b, I b → b < w.heap.size) → (∀ W, Ext I w W → K W) → Fn0 Tryz.prog f #[.agg (inoC y e r).toArray, cap] w I (fun b : Bool => .bool b) (fun b W => b = p y)) (hl : q.2.2.length ≤ 2000000000)
    (hS : Owns [Inos.res q] S w) (hSI : ∀ b, S b → b < w.heap.size ∧ ¬ I b) :
    FnS Tryz.prog 152 #[Inos.val q, .func (.func f) #[] #[cap]] w I S (fun z : Int => .int .i64 z) (fun _ => [Inos.res q]) (fun z W => z = idxF p (q.2.2.map Prod.fst) 0) := by
  obtain ⟨a, c, l⟩ := q
  refine enterS (svs := [.c (.rw 1000 a l.length c), .c (.v (.func (.func f) #[] #[cap]))]) tysOk Tryz.func152 rfl Tryz.ntmps152 Tryz.results152 (by kernel_rfl) (by simp) hI [Inos.res (a, c, l)] hS hSI K hK fun C hC hN ok => ?_
  simp [hN]
  refine loopKA [0, 1, 7] ok (fun i : Nat => [(8, .c (.v (.int .i64 i)))]) (fun _ => [(1000, Inos.res (a, c, l))]) (fun i W => i ≤ l.length ∧ ∀ y, y ∈ (l.map Prod.fst).take i → p y = false) (fun i => l.length - i) 0 ?_ ?_ (fun W hW => ⟨Nat.zero_le _, by simp⟩) ?_
  · simp
  · simp
  rintro i W ⟨hi, hne⟩ hG next
  rcases Nat.lt_or_ge i l.length with hlt | hge
  · have e6 : IntKind.i64.wrap ((i : Int) + 1) = (i + 1 : Nat) := by rw [w64 (by omega) (by have : l.length ≤ 2000000000 := hl; omega)]; omega
    have hat := inosC_at l hlt
    have hlm : i < (l.map Prod.fst).length := by rw [List.length_map]; exact hlt
    have ft : (l.map Prod.fst).take (i + 1) = (l.map Prod.fst).take i ++ [l[i].1] := by rw [List.take_add_one, List.getElem?_eq_getElem hlm]; simp
    have hil := inosC_length l
    have hgo := idxF_at p (l.map Prod.fst) 0 i hlm hne
    simp only [List.getElem_map, Nat.zero_add] at hgo
    generalize l[i] = d at hat ft hgo
    obtain ⟨y, ⟨ea, ec⟩, ⟨ra, rc⟩⟩ := d
    refine rowSome 1000 rfl (by exact (show 0 < l.length by omega)) fun g e => ?_
    subst e
    have hf2 : i * 7 + 7 ≤ l.length * 7 := by omega
    refine goon ok ?_
    simp [hN, hat, hil, hf2, hlt]
    refine callF ok rfl rfl rfl (V := #[.agg (inoC y (ea, ec) (ra, rc)).toArray, cap]) (by simp) (fun w I hI hG => Hf w I y (ea, ec) (ra, rc) hI fun W e => (hG W e).2) fun b W hb => ?_
    subst hb
    simp [hN, e6]
    refine ⟨fun h => retS hC (i : Nat) [1000] rfl (by simp) fun W _ _ => (hgo h).symm, fun h => next (i + 1) _ _ (by omega) (fun W h2 => ⟨⟨hlt, fun z hz => ?_⟩, h2.2⟩) (by simp)⟩
    rw [ft] at hz
    rcases List.mem_append.1 hz with hz | hz
    · exact hne z hz
    · rw [List.mem_singleton.1 hz]
      exact h
  · refine goon ok ?_
    simp [hN, Nat.not_lt.2 hge]
    refine retS hC (-1) [1000] rfl (by simp) fun W _ _ => ?_
    rw [idxF_none]
    rwa [List.take_of_length_le (by simpa using hge)] at hne
end Go.Proofs.YtbbaoeidobdblaaGreat.Sx

/- slices.Insert. -/
set_option linter.unusedVariables false
set_option linter.unusedSimpArgs false
namespace Go.Proofs.YtbbaoeidobdblaaGreat.Sx
open Go
attribute [local simp ↓] ifb_true' ifb_false'
attribute [local simp] ifb_true ifb_false ifb_eq sx argsT find ev evOp evs evo evBin evInt evStr evNil evNilA ptrA slcA isNoneA asB evLoad look del cellsB evUn evConv kdec fld evFieldA evField evIdxA evIdx evSlc bndL bndH evLen mmi put resV guardV gvL setO tupV cellsOf ones one upd lits nv exitTo SV.val CV.val TI.agg rdyA allR keepB scan simpO gsp isS subs keepT pickT wr memN pubs Res.fact Region.binds bld rest give delL back Res.eqv vi vb num Sv.val undef
theorem lay_app (A B src : List CV) (n : Nat) (hn : n = A.length) : lay (A ++ B) n src = A ++ src ++ B.drop src.length := by
  subst hn
  simp [lay, List.take_left, List.drop_append]
theorem ins_grow (cs x zs : List CV) (i n s : Nat) (hc : cs.length = n * s) (hx : x.length = s) (hz : zs.length = (n + 1 - i) * s) (hi : i ≤ n) : lay (lay (cs.take (i * s) ++ zs) (i * s) x) ((i + 1) * s) (cs.drop (i * s)) = cs.take (i * s) ++ x ++ cs.drop (i * s) := by
  have h0 : i * s ≤ n * s := Nat.mul_le_mul_right _ hi
  have h1 : (cs.take (i * s)).length = i * s := by simp; omega
  have h2 : (n + 1 - i) * s = n * s + s - i * s := by rw [Nat.sub_mul, Nat.succ_mul]
  rw [lay_app _ _ _ _ h1.symm, lay_app _ _ _ _ (by rw [List.length_append, h1, hx, Nat.succ_mul])]
  have h3 : (zs.drop x.length).drop (cs.drop (i * s)).length = [] := by
    rw [List.drop_drop]
    exact List.drop_eq_nil_of_le (by simp; omega)
  rw [h3, List.append_nil]
theorem ins_place (cs x junk : List CV) (i n s : Nat) (hc : cs.length = n * s) (hx : x.length = s) (hz : junk.length = s) (hi : i < n) : lay (lay (cs ++ junk) ((i + 1) * s) (cs.drop (i * s))) (i * s) x = cs.take (i * s) ++ x ++ cs.drop (i * s) := by
  have h0 : (i + 1) * s ≤ n * s := Nat.mul_le_mul_right _ hi
  have h1 : (i + 1) * s = i * s + s := Nat.succ_mul _ _
  have e1 : cs ++ junk = cs.take ((i + 1) * s) ++ (cs.drop ((i + 1) * s) ++ junk) := by rw [← List.append_assoc, List.take_append_drop]
  have l1 : (cs.take ((i + 1) * s)).length = (i + 1) * s := by simp; omega
  have h3 : (cs.drop ((i + 1) * s) ++ junk).drop (cs.drop (i * s)).length = [] := List.drop_eq_nil_of_le (by simp; omega)
  rw [e1, lay_app _ _ _ _ l1.symm, h3, List.append_nil]
  have e2 : cs.take ((i + 1) * s) = cs.take (i * s) ++ (cs.drop (i * s)).take s := by rw [h1, List.take_add]
  have l2 : (cs.take (i * s)).length = i * s := by simp; omega
  rw [e2, List.append_assoc, lay_app _ _ _ _ l2.symm]
  have h4 : ((cs.drop (i * s)).take s ++ cs.drop (i * s)).drop x.length = cs.drop (i * s) := by
    have l3 : ((cs.drop (i * s)).take s).length = x.length := by simp; omega
    rw [← l3, List.drop_left]
  rw [h4]
theorem ones_drop : ∀ {l : List CV}, ones l → ∀ n, ones (l.drop n)
  | [], _, n => by simp [ones]
  | x :: r, h, 0 => by simpa using h
  | x :: r, h, n + 1 => by simpa using ones_drop h.2 n
set_option maxHeartbeats 1000000 in
theorem insertI0 (w : World) (I S : Nat → Prop) (hI : ∀ b, I b → b < w.heap.size) {a : Option Addr} {n c : Nat} (i : Nat) (cs x : List CV) (gv : Nat) (hcs : cs.length = n * 7) (hx : x.length = 7) (h1 : ones cs) (h2 : ones x) (hi : i ≤ n) (hn : n ≤ 1000000000)
    (hS : Owns [.row a n c 44 7 cs, .row (some ⟨gv, 0, none⟩) 1 1 44 7 x] S w) (hSI : ∀ b, S b → b < w.heap.size ∧ ¬ I b) :
    FnS Tryz.prog 155 #[.slice a n c, .int .i64 (i : Nat), .slice (some ⟨gv, 0, none⟩) 1 1] w I S (fun r : Option Addr × Nat => .slice r.1 (n + 1) r.2) (fun r => [.row r.1 (n + 1) r.2 44 7 (cs.take (i * 7) ++ x ++ cs.drop (i * 7))]) (fun _ _ => True) := by
  have hnc : n ≤ c := by
    obtain ⟨F, hF, _⟩ := hS
    exact owns_le (hF 0 _ rfl).2
  refine enterS (svs := [.c (.rw 1000 a n c), .c (.v (.int .i64 (i : Nat))), .c (.rw 1001 (some ⟨gv, 0, none⟩) 1 1)]) tysOk Tryz.func155 rfl Tryz.ntmps155 Tryz.results155 (by kernel_rfl) (by simp) hI [.row a n c 44 7 cs, .row (some ⟨gv, 0, none⟩) 1 1 44 7 x] hS hSI (fun _ => True) (fun _ _ => trivial) fun C hC hN ok => ?_
  have w1 : IntKind.i64.wrap ((n : Int) + 1) = (n + 1 : Nat) := by rw [w64 (by omega) (by omega)]; omega
  have w2 : IntKind.i64.wrap ((i : Int) + 1) = (i + 1 : Nat) := by rw [w64 (by omega) (by omega)]; omega
  obtain ⟨z, hz⟩ : ∃ z : Nat, i + z = n + 1 := ⟨n + 1 - i, by omega⟩
  have w3 : IntKind.i64.wrap ((n : Int) + 1 - i) = (z : Nat) := by rw [w64 (by omega) (by omega)]; omega
  simp [hN, hi, hnc, w1, w2, w3]
  refine ⟨fun hin => ?_, fun hin => ?_⟩
  · have hin' : i = n := by omega
    subst hin'
    refine appR ok 1000 1001 rfl rfl rfl rfl rfl (by decide) rfl rfl rfl rfl rfl rfl rfl (by decide) h2 (by show (_ + 1) * 96 ≤ _; omega) (by omega) fun g' c' => ?_
    simp [hN]
    refine retS hC (some ⟨g', 0, none⟩, c') [1000] rfl ?_ fun W _ _ => trivial
    simp [← hcs]
  · have hlt : i < n := by omega
    refine ⟨fun hful => ⟨by omega, ?_⟩, fun hroom => ?_⟩
    · refine rowSome 1000 rfl (by omega) fun g e => ?_
      subst e
      refine nilr 600 44 7 (appZp ok 1000 600 rfl rfl rfl rfl rfl (by decide) rfl rfl rfl rfl rfl rfl rfl rfl rfl hi (show 0 < z by omega) (by omega) (by show (i + z) * 96 ≤ _; omega) (by omega) (by decide) fun g' c' zs hzs hc' => ?_)
      have hci : ¬ c' = i := by omega
      have hci2 : ¬ c' = i + 1 := by omega
      have hci3 : ¬ c = i := by omega
      simp only [hz] at hc' ⊢
      have hzs' : zs.length = (n + 1 - i) * 7 := by rw [hzs]; show z * 7 = _; congr 1; omega
      have hm1 : Nat.min 1 (n + 1 - i) = 1 := Nat.min_eq_left (by omega)
      have hm2 : Nat.min (n - i) (n - i) = n - i := Nat.min_self _
      have htx : x.take 7 = x := List.take_of_length_le (by omega)
      have htd : (cs.drop (i * 7)).take ((n - i) * 7) = cs.drop (i * 7) := List.take_of_length_le (by simp; omega)
      have hil : i ≤ n + 1 := by omega
      have hil1 : i + 1 ≤ n + 1 := by omega
      have hfin := ins_grow cs x zs i n 7 hcs hx hzs' hi
      have hod : ones (cs.drop (i * 7)) := ones_drop h1 _
      simp [hN, hci, w2, hci2, hci3, hil, hc']
      and_intros
      all_goals try omega
      refine copyR ok 600 1001 rfl rfl rfl rfl rfl rfl rfl rfl rfl rfl (by show i * 7 + Nat.min 1 (n + 1 - i) * 7 ≤ (n + 1) * 7; rw [hm1]; omega) (by show 0 + Nat.min 1 (n + 1 - i) * 7 ≤ 1 * 7; rw [hm1]; omega) (by show ones ((x.drop 0).take (Nat.min 1 (n + 1 - i) * 7)); rw [hm1, List.drop_zero, htx]; exact h2) ?_
      simp [hN, w2, hci2, hci3, hm1, htx, hci]
      refine drawW ok mixed (by kernel_rfl) ?_
      simp (maxSteps := 2000000) -implicitDefEqProofs [hN, w2, hci2, hci3, hci]
      and_intros
      all_goals try omega
      refine copyR ok 600 1000 rfl rfl rfl rfl rfl rfl rfl rfl rfl rfl (by show (i + 1) * 7 + Nat.min (n - i) (n - i) * 7 ≤ (n + 1) * 7; rw [hm2]; omega) (by show i * 7 + Nat.min (n - i) (n - i) * 7 ≤ n * 7; rw [hm2]; omega) (by show ones ((cs.drop (i * 7)).take (Nat.min (n - i) (n - i) * 7)); rw [hm2, htd]; exact hod) ?_
      simp (maxSteps := 2000000) -implicitDefEqProofs [hN, hm2, htd]
      exact retS hC (some ⟨g', 0, none⟩, c') [600] rfl (by simp [hfin]) fun W _ _ => trivial
    · have hci : ¬ c = i := by omega
      have hci2 : ¬ c = i + 1 := by omega
      simp only [hci2, if_false]
      and_intros
      all_goals try omega
      refine rowSome 1000 rfl (by omega) fun g e => ?_
      subst e
      refine extend 1000 (n + 1) rfl (by omega) (by omega) fun junk hj => ?_
      simp only [addrP_some, Nat.zero_add]
      have hov : ovB Tryz.prog 189 36 4 := ⟨_, Tryz.func189, by kernel_rfl, by kernel_rfl, by kernel_rfl, by kernel_rfl⟩
      refine ovl ok 1001 1000 rfl rfl hov rfl rfl rfl rfl rfl (by decide) rfl rfl rfl rfl (by exact (show 0 < c by omega)) (by decide) ?_
      simp [hN]
      have hjl : (junk.map CV.v).length = 7 := by rw [List.length_map, hj]; show (n + 1 - n) * 7 = 7; rw [show n + 1 - n = 1 by omega]
      have hm1 : Nat.min 1 (n + 1 - i) = 1 := Nat.min_eq_left (by omega)
      have hm3 : Nat.min (n + 1 - i) (n - i) = n - i := Nat.min_eq_right (by omega)
      have htx : x.take 7 = x := List.take_of_length_le (by omega)
      have hdl : (cs.drop (i * 7)).length = (n - i) * 7 := by simp; omega
      have htj : ((cs ++ junk.map CV.v).drop (i * 7)).take ((n - i) * 7) = cs.drop (i * 7) := by
        rw [List.drop_append, show i * 7 - cs.length = 0 by omega, List.drop_zero, ← hdl, List.take_left]
      have hod : ones (cs.drop (i * 7)) := ones_drop h1 _
      have hfin := ins_place cs x (junk.map CV.v) i n 7 hcs hx hjl hlt
      refine drawW ok mixed (by kernel_rfl) ?_
      generalize junk.map CV.v = J at *
      simp (maxSteps := 2000000) -implicitDefEqProofs [hN, w2, hci, hci2, hlt, hm1, hm3, htx, htj]
      and_intros
      all_goals try omega
      refine copyR ok 1000 1000 rfl rfl rfl rfl rfl rfl rfl rfl rfl rfl (by show (i + 1) * 7 + Nat.min (n + 1 - i) (n - i) * 7 ≤ (n + 1) * 7; rw [hm3]; omega) (by show i * 7 + Nat.min (n + 1 - i) (n - i) * 7 ≤ (n + 1) * 7; rw [hm3]; omega) (by show ones (((cs ++ J).drop (i * 7)).take (Nat.min (n + 1 - i) (n - i) * 7)); rw [hm3, htj]; exact hod) ?_
      simp (maxSteps := 2000000) -implicitDefEqProofs [hN, w2, hci, hci2, hlt, hm1, hm3, htx, htj]
      and_intros
      all_goals try omega
      refine copyR ok 1000 1001 rfl rfl rfl rfl rfl rfl rfl rfl rfl rfl (by show i * 7 + Nat.min 1 (n + 1 - i) * 7 ≤ (n + 1) * 7; rw [hm1]; omega) (by show 0 + Nat.min 1 (n + 1 - i) * 7 ≤ 1 * 7; rw [hm1]; omega) (by show ones ((x.drop 0).take (Nat.min 1 (n + 1 - i) * 7)); rw [hm1, List.drop_zero, htx]; exact h2) ?_
      simp (maxSteps := 2000000) -implicitDefEqProofs [hN, w2, hci, hci2, hlt, hm1, hm3, htx, htj]
      exact retS hC (some ⟨g, 0, none⟩, c) [1000] rfl (by simp [hfin]) fun W _ _ => trivial
end Go.Proofs.YtbbaoeidobdblaaGreat.Sx

/- slices.DeleteFunc of inodes. -/
set_option linter.unusedVariables false
set_option linter.unusedSimpArgs false
namespace Go.Proofs.YtbbaoeidobdblaaGreat.Sx
open Go
attribute [local simp ↓] ifb_true' ifb_false'
attribute [local simp] ifb_true ifb_false ifb_eq sx argsT find ev evOp evs evo evBin evInt evStr evNil evNilA ptrA slcA isNoneA asB evLoad look del cellsB evUn evConv kdec fld evFieldA evField evIdxA evIdx evSlc bndL bndH evLen mmi put resV guardV gvL setO tupV cellsOf ones one upd lits nv exitTo SV.val CV.val TI.agg rdyA allR keepB scan simpO gsp isS subs keepT pickT wr memN pubs Res.fact Region.binds bld rest give delL back Res.eqv vi vb num Sv.val undef
theorem idx_cases {α : Type} (p : α → Bool) : ∀ (l : List α) (j : Nat), (idxF p l j = -1 ∧ ∀ y, y ∈ l → p y = false) ∨ ∃ (i : Nat) (hi : i < l.length), idxF p l j = (j + i : Nat) ∧ (∀ y, y ∈ l.take i → p y = false) ∧ p l[i] = true
  | [], j => .inl ⟨rfl, fun y hy => by cases hy⟩
  | x :: r, j => by
    cases hx : p x with
    | true => exact .inr ⟨0, by simp, by simp [idxF, hx], by simp, by simpa using hx⟩
    | false =>
      rcases idx_cases p r (j + 1) with ⟨h1, h2⟩ | ⟨i, hi, h1, h2, h3⟩
      · refine .inl ⟨by rw [idxF, if_neg (by simp [hx])]; exact h1, fun y hy => ?_⟩
        rcases List.mem_cons.1 hy with rfl | hy
        · exact hx
        · exact h2 y hy
      · refine .inr ⟨i + 1, by simpa using hi, by rw [idxF, if_neg (by simp [hx]), h1]; congr 1; omega, fun y hy => ?_, by simpa using h3⟩
        rw [List.take_succ_cons] at hy
        rcases List.mem_cons.1 hy with rfl | hy
        · exact hx
        · exact h2 y hy
theorem inosC_upd : ∀ (l : List Ix) (i : Nat) (y : Ix), i < l.length → upd (inosC l) (i * 7) ((inoC y.1 y.2.1 y.2.2).map .v) = inosC (l.set i y)
  | [], i, y, hi => by simp at hi
  | x :: r, 0, y, _ => by simp [inosC, upd]
  | x :: r, i + 1, y, hi => by
    have h := inosC_upd r i y (by simpa using hi)
    have e : ∀ z : List Ix, inosC (x :: z) = (inoC x.1 x.2.1 x.2.2).map .v ++ inosC z := fun z => by simp [inosC]
    have hu : ∀ (s : List CV) (o : Nat) (A B : List CV), upd (A ++ B) (A.length + o) s = A ++ upd B o s := by
      intro s
      induction s with
      | nil => intros; rfl
      | cons z s ih =>
        intro o A B
        rw [upd, List.set_append_right _ _ (by omega), show A.length + o - A.length = o by omega, Nat.add_assoc, ih, upd]
    rw [List.set_cons_succ, e, e, ← h, show (i + 1) * 7 = ((inoC x.1 x.2.1 x.2.2).map CV.v).length + i * 7 by simp; omega, hu]
def keepX (p : Ino → Bool) (l : List Ix) (j : Nat) : List Ix := (l.take j).filter fun y => !p y.1
set_option maxHeartbeats 2000000 in
theorem delete0 (w : World) (I S : Nat → Prop) (hI : ∀ b, I b → b < w.heap.size) (q : Inos) (f : FuncId) (cap : Value) (p : Ino → Bool) (K : World → Prop) (hK : ∀ W, Ext I w W → K W)
    (Hf : ∀ w I (y : Ino) (e r : Sl), (∀ b, I b → b < w.heap.size) → (∀ W, Ext I w W → K W) → Fn0 Tryz.prog f #[.agg (inoC y e r).toArray, cap] w I (fun b : Bool => .bool b) (fun b W => b = p y)) (hl : q.2.2.length ≤ 2000000000)
    (hS : Owns [Inos.res q] S w) (hSI : ∀ b, S b → b < w.heap.size ∧ ¬ I b) :
    FnS Tryz.prog 110 #[Inos.val q, .func (.func f) #[] #[cap]] w I S Inos.val (fun r => [Inos.res r]) (fun r W => r.2.2 = q.2.2.filter fun y => !p y.1) := by
  obtain ⟨a, c, l⟩ := q
  replace hl : l.length ≤ 2000000000 := hl
  have hnc : l.length ≤ c := by
    obtain ⟨F, hF, _⟩ := hS
    exact owns_le (hF 0 _ rfl).2
  refine enterS (svs := [.c (.rw 1000 a l.length c), .c (.v (.func (.func f) #[] #[cap]))]) tysOk Tryz.func110 rfl Tryz.ntmps110 Tryz.results110 (by kernel_rfl) (by simp) hI [Inos.res (a, c, l)] hS hSI K hK fun C hC hN ok => ?_
  simp [hN]
  refine callS ok rfl rfl rfl [1000] [Inos.res (a, c, l)] (by simp) rfl (fun z : Int => [(1000, Inos.res (a, c, l))]) (fun w I S hI hG hO hS => indexI0 w I S hI (a, c, l) f cap p K (fun W e => hG W e) Hf hl hO hS) (fun r => by simp) (.inr fun x q hq => by simp at hq; rw [hq]; exact Nat.le_refl _) fun z W hz => ?_
  rcases idx_cases p (l.map Prod.fst) 0 with ⟨h1, h2⟩ | ⟨i0, hi0, h1, h2, h3⟩
  · have hf : l.filter (fun y => !p y.1) = l := List.filter_eq_self.2 fun y hy => by simp [h2 y.1 (List.mem_map_of_mem hy)]
    rw [hz, h1]
    simp [hN]
    exact retS hC (a, c, l) [1000] rfl (by simp) fun W _ _ => hf.symm
  · rw [hz, h1]
    rw [List.length_map] at hi0
    rw [List.getElem_map] at h3
    have hne1 : ¬ (((0 + i0 : Nat) : Int) = -1) := by omega
    have e1 : IntKind.i64.wrap (((0 + i0 : Nat) : Int) + 1) = (i0 + 1 : Nat) := by rw [w64 (by omega) (by omega)]; omega
    simp only [Nat.zero_add] at hne1 e1 ⊢
    have hk0 : keepX p l (i0 + 1) = l.take i0 := by
      unfold keepX
      rw [List.take_add_one, List.getElem?_eq_getElem hi0, List.filter_append]
      simp only [Option.toList, List.filter_cons, h3, Bool.not_true, Bool.false_eq_true, if_false, List.filter_nil, List.append_nil]
      exact List.filter_eq_self.2 fun y hy => by
        have := h2 y.1 (by rw [← List.map_take]; exact List.mem_map_of_mem hy)
        simp [this]
    have hk0l : (l.take i0).length = i0 := by simp; omega
    simp [hN, hne1, e1]
    refine loopKA [0, 1] ok (fun j : Nat => [(5, .c (.v (.int .i64 (keepX p l j).length))), (6, .c (.v (.int .i64 j)))]) (fun j => [(1000, .row a l.length c 44 7 (inosC (keepX p l j ++ l.drop (keepX p l j).length)))]) (fun j W => i0 + 1 ≤ j ∧ j ≤ l.length ∧ (keepX p l j).length < j) (fun j => l.length - j) (i0 + 1) ?_ ?_ (fun W hW => ⟨Nat.le_refl _, hi0, by rw [hk0, hk0l]; omega⟩) ?_
    · simp [hk0, hk0l]
    · simp [hk0, hk0l]
    rintro j W ⟨hj0, hj, hkl⟩ hG next
    rcases Nat.lt_or_ge j l.length with hlt | hge
    · have e6 : IntKind.i64.wrap ((j : Int) + 1) = (j + 1 : Nat) := by rw [w64 (by omega) (by omega)]; omega
      have hL : (keepX p l j ++ l.drop (keepX p l j).length).length = l.length := by simp; omega
      have hLj : (keepX p l j ++ l.drop (keepX p l j).length)[j]'(by omega) = l[j] := by
        rw [List.getElem_append_right (by omega), List.getElem_drop]
        congr 1
        omega
      have hat := inosC_at _ (show j < (keepX p l j ++ l.drop (keepX p l j).length).length by omega)
      rw [hLj] at hat
      have hup := inosC_upd (keepX p l j ++ l.drop (keepX p l j).length) (keepX p l j).length l[j] (by omega)
      have hset : (keepX p l j ++ l.drop (keepX p l j).length).set (keepX p l j).length l[j] = keepX p l j ++ [l[j]] ++ l.drop ((keepX p l j).length + 1) := by
        rw [List.set_append_right _ _ (Nat.le_refl _), Nat.sub_self, List.append_assoc]
        congr 1
        rw [List.drop_eq_getElem_cons (show (keepX p l j).length < l.length by omega)]
        rfl
      rw [hset] at hup
      have hil := inosC_length (keepX p l j ++ l.drop (keepX p l j).length)
      rw [hL] at hil
      have hk1 : keepX p l (j + 1) = if p l[j].1 then keepX p l j else keepX p l j ++ [l[j]] := by
        unfold keepX
        rw [List.take_add_one, List.getElem?_eq_getElem hlt, List.filter_append]
        simp only [Option.toList, List.filter_cons, List.filter_nil]
        cases p l[j].1 <;> simp
      generalize hd : l[j] = d at hat hup hk1
      obtain ⟨y, ⟨ea, ec⟩, ⟨ra, rc⟩⟩ := d
      obtain ⟨i, hi⟩ : ∃ i, i = (keepX p l j).length := ⟨_, rfl⟩
      rw [← hi] at hup hkl
      have e7 : IntKind.i64.wrap ((i : Int) + 1) = (i + 1 : Nat) := by rw [w64 (by omega) (by omega)]; omega
      have hcar : ∀ L : List Ix, keepX p l (j + 1) = L → (keepX p l (j + 1)).length = L.length := fun L h => by rw [h]
      rw [← hi] at hil hat
      rw [← hi]
      generalize hR : inosC (keepX p l j ++ l.drop i) = R at hat hup hil ⊢
      refine rowSome 1000 rfl (by exact (show 0 < l.length by omega)) fun g e => ?_
      subst e
      refine goon ok ?_
      simp [hN, hat, hil, hlt]
      refine ⟨by omega, fun g7 => ?_⟩
      refine callF ok rfl rfl rfl (V := #[.agg (inoC y (ea, ec) (ra, rc)).toArray, cap]) (by simp) (fun w I hI hG => Hf w I y (ea, ec) (ra, rc) hI fun W e => (hG W e).2) fun b W hb => ?_
      subst hb
      simp [hN, e6, e7, hil, -upd]
      refine ⟨fun hp => ⟨by omega, by omega, ?_⟩, fun hp => ?_⟩
      · have hk2 : keepX p l (j + 1) = keepX p l j ++ [(y, (ea, ec), (ra, rc))] := by rw [hk1, if_neg (by simp [hp])]
        have hk3 : (keepX p l (j + 1)).length = i + 1 := by rw [hk2, List.length_append, ← hi]; rfl
        refine next (j + 1) _ _ (by omega) (fun W h => ⟨⟨by omega, hlt, by rw [hk3]; omega⟩, h.2⟩) ?_
        have hrow : inosC (keepX p l (j + 1) ++ l.drop (i + 1)) = upd R (i * 7) ((inoC y (ea, ec) (ra, rc)).map .v) := by rw [hk2, hup]
        simp only [hk3, hrow]
        simp [-upd]
      · have hk2 : keepX p l (j + 1) = keepX p l j := by rw [hk1, if_pos hp]
        refine next (j + 1) _ _ (by omega) (fun W h => ⟨⟨by omega, hlt, by rw [hk2, ← hi]; omega⟩, h.2⟩) ?_
        simp only [hk2, ← hi, hR]
        simp
    · have hj' : j = l.length := by omega
      have hkl2 : keepX p l j = l.filter fun y => !p y.1 := by unfold keepX; rw [List.take_of_length_le hge]
      obtain ⟨i, hi⟩ : ∃ i, i = (keepX p l j).length := ⟨_, rfl⟩
      rw [← hi] at hkl ⊢
      have hil := inosC_length (keepX p l j ++ l.drop i)
      have hL : (keepX p l j ++ l.drop i).length = l.length := by simp; omega
      rw [hL] at hil
      have hci : ¬ c = i := by omega
      have hzt : ∀ z : List CV, (lay (inosC (keepX p l j ++ l.drop i)) (i * 7) z).take (i * 7) = inosC (keepX p l j) := fun z => by
        have e1 : (inosC (keepX p l j ++ l.drop i)).take (i * 7) = inosC (keepX p l j) := by rw [inosC_take, hi, List.take_left]
        have e2 : (inosC (keepX p l j)).length = i * 7 := by rw [inosC_length, hi]
        unfold lay
        rw [e1, List.append_assoc, ← e2, List.take_left]
      have hztm : ∀ z : List CV, ((lay (inosC (keepX p l j ++ l.drop i)) (i * 7) z).map CV.val).take (i * 7) = (inosC (keepX p l j)).map CV.val := fun z => by rw [← List.map_take, hzt]
      refine rowSome 1000 rfl (by exact (show 0 < l.length by omega)) fun g e => ?_
      subst e
      refine goon ok ?_
      simp [hN, Nat.not_lt.2 hge, hci]
      and_intros
      all_goals try omega
      refine clearR ok 1000 rfl rfl rfl rfl (by simp [Value.oneCell']) rfl rfl rfl rfl (by omega) (by show i * 7 + (l.length - i) * 7 ≤ l.length * 7; omega) fun z hz => ?_
      simp [hN]
      and_intros
      all_goals try omega
      refine shrinkR 1000 i rfl (by omega) (fun h => by cases h) ?_
      exact retS hC (some ⟨g, 0, none⟩, c, keepX p l j) [1000] (by simp [hi]) (by simp [hztm, ← hi]) fun W _ _ => hkl2
end Go.Proofs.YtbbaoeidobdblaaGreat.Sx

/- state.put. -/
set_option linter.unusedVariables false
set_option linter.unusedSimpArgs false
namespace Go.Proofs.YtbbaoeidobdblaaGreat.Sx
open Go
attribute [local simp ↓] ifb_true' ifb_false'
attribute [local simp] ifb_true ifb_false ifb_eq sx argsT find ev evOp evs evo evBin evInt evStr evNil evNilA ptrA slcA isNoneA asB evLoad look del cellsB evUn evConv kdec fld evFieldA evField evIdxA evIdx evSlc bndL bndH evLen mmi put resV guardV gvL setO tupV cellsOf ones one upd lits nv exitTo SV.val CV.val TI.agg rdyA allR keepB scan simpO gsp isS subs keepT pickT wr memN pubs Res.fact Region.binds bld rest give delL back Res.eqv vi vb num Sv.val undef
theorem inosC_len' (l : List Ix) (i : Nat) (x : Ix) : (inosC l).take (i * 7) ++ (inoC x.1 x.2.1 x.2.2).map .v ++ (inosC l).drop (i * 7) = inosC (l.take i ++ x :: l.drop i) := by
  rw [inosC_take, inosC_drop]
  simp [inosC]
theorem box_cell {W : World} {g : Nat} {T : TypeId} {l : List Value} (h : W.heap[g]? = some (.cells l.toArray T (0, 0))) {j : Nat} {v : Value} (hv : l[j]? = some v) : W.cell? ⟨g, j, none⟩ = some v := by
  rw [cell_of_row W g j _ _ _ h]
  simpa using hv
theorem ones_append : ∀ {l k : List CV}, ones l → ones k → ones (l ++ k)
  | [], k, _, h => h
  | x :: r, k, h, h2 => ⟨h.1, ones_append h.2 h2⟩
theorem inosC_ones : ∀ l : List Ix, ones (inosC l)
  | [] => trivial
  | x :: r => by
    have : inosC (x :: r) = (inoC x.1 x.2.1 x.2.2).map .v ++ inosC r := by simp [inosC]
    rw [this]
    exact ones_append (by simp) (inosC_ones r)
set_option maxHeartbeats 2000000 in
theorem statePut0 (w : World) (I S : Nat → Prop) (hI : ∀ b, I b → b < w.heap.size) (q : Inos) (x : Ino) (e r : Sl) (hq : ∀ W, Ext I w W → InosR W q.2.2) (hx : ∀ W, Ext I w W → InoR W x e r) (hl : q.2.2.length ≤ 1000000000)
    (hS : Owns [Inos.res q] S w) (hSI : ∀ b, S b → b < w.heap.size ∧ ¬ I b) :
    FnS Tryz.prog 109 #[Inos.val q, .agg (inoC x e r).toArray] w I S Inos.val (fun t => [Inos.res t]) (fun t W => t.2.2.map Prod.fst = putInoL (q.2.2.map Prod.fst) x ∧ InosR W t.2.2) := by
  obtain ⟨a, c, l⟩ := q
  obtain ⟨ea, ec⟩ := e
  obtain ⟨ra, rc⟩ := r
  replace hl : l.length ≤ 1000000000 := hl
  have hnc : l.length ≤ c := by
    obtain ⟨F, hF, _⟩ := hS
    exact owns_le (hF 0 _ rfl).2
  refine enterS (svs := [.c (.rw 1000 a l.length c), .ag ((inoC x (ea, ec) (ra, rc)).map .v)]) tysOk Tryz.func109 rfl Tryz.ntmps109 Tryz.results109 (by kernel_rfl) (by simp) hI [Inos.res (a, c, l)] hS hSI (fun W => InosR W l ∧ InoR W x (ea, ec) (ra, rc)) (fun W e => ⟨hq W e, hx W e⟩) fun C hC hN ok => ?_
  simp [hN]
  intro g3
  refine call0 ok rfl rfl rfl (fun w I hI hG => own0 w I hI x (ea, ec) (ra, rc) fun W e => ⟨_, _, rfl, (hG W e).2⟩) fun y W _ => ?_
  obtain ⟨⟨ea2, ec2⟩, ⟨ra2, rc2⟩⟩ := y
  simp [hN]
  have hno : ∀ W, Res.fact (.box g3 44 ((inoC x (ea2, ec2) (ra2, rc2)).map .v)) W → ∀ (j : Nat) v, (inoC x (ea2, ec2) (ra2, rc2))[j]? = some v → W.cell? ⟨g3, j, none⟩ = some v := fun W h j v hv => by
    simp only [Res.fact, map_nv, List.map_map] at h
    refine box_cell (T := 44) (l := inoC x (ea2, ec2) (ra2, rc2)) ?_ hv
    simpa [Function.comp_def, CV.val] using h
  refine pub 3 rfl (by decide) (tagA 3 (.c (.v (.pointer (some ⟨g3, 0, none⟩)))) rfl rfl (rowWhere 1000 rfl fun hwh => ?_))
  refine callS ok rfl rfl rfl [1000] [Inos.res (a, c, l)] (by simp) rfl (fun z : Int => [(1000, Inos.res (a, c, l))]) (fun w I S hI hG hO hS => indexI0 w I S hI (a, c, l) 153 (.pointer (some ⟨g3, 0, none⟩)) (fun y => decide (y.no = x.no)) (fun W => W.cell? ⟨g3, 0, none⟩ = some (.int .i64 x.no)) (fun W e => hno W (hG W e).1 0 _ rfl) (fun w I y e r hI hK => putSame0 w I hI y e r g3 x.no hK) (by show l.length ≤ _; omega) hO hS) (fun r => by simp) (.inr fun x q hq => by simp at hq; rw [hq]; exact Nat.le_refl _) fun z W hz => ?_
  rcases idx_cases (fun y : Ino => decide (y.no = x.no)) (l.map Prod.fst) 0 with ⟨h1, h2⟩ | ⟨i, hi, h1, h2, h3⟩
  rotate_left 1
  · rw [h1, Nat.zero_add] at hz
    subst hz
    have hi' : i < l.length := by rwa [List.length_map] at hi
    have hup := inosC_upd l i (x, (ea2, ec2), (ra2, rc2)) hi'
    have hil := inosC_length l
    have h3' : (l.map Prod.fst)[i].no = x.no := of_decide_eq_true h3
    have hpl : putInoL (l.map Prod.fst) x = (l.map Prod.fst).set i x := by
      rw [putInoL, if_pos ⟨_, List.getElem_mem hi, h3'⟩]
      exact replI_at _ x i hi (fun y hy => of_decide_eq_false (h2 y hy)) h3'
    obtain ⟨g, rfl⟩ : ∃ g, a = some ⟨g, 0, none⟩ := by
      rcases hwh with ⟨_, h, _⟩ | h
      · have h' : l.length = 0 := h
        omega
      · exact h
    simp [hN]
    refine loadA ok rfl rfl rfl rfl (fun v W => v = inoC x (ea2, ec2) (ra2, rc2)) (fun W hW => ⟨_, rfl, by simpa using hno W hW.2.1, rfl⟩) ?_
    rintro v W _ rfl _
    simp [hN, -upd]
    refine ⟨hi', by omega, retS hC (some ⟨g, 0, none⟩, c, l.set i (x, (ea2, ec2), (ra2, rc2))) [1000] (by simp) (by simp [← hup, -upd]) fun W _ hG => ⟨?_, fun y hy => ?_⟩⟩
    · rw [hpl, List.map_set]
    · rcases List.mem_or_eq_of_mem_set hy with hy | rfl
      · exact hG.2.2.2.1 y hy
      · exact hG.2.2.1
  · rw [h1] at hz
    subst hz
    have hnh : ¬ hasI (l.map Prod.fst) x.no := by
      rintro ⟨y, hy, e⟩
      exact of_decide_eq_false (h2 y hy) e
    have hpl : putInoL (l.map Prod.fst) x = insI (l.map Prod.fst) x := by rw [putInoL, if_neg hnh]
    simp [hN]
    refine callS ok rfl rfl rfl [1000] [Inos.res (a, c, l)] (by simp) rfl (fun z : Int => [(1000, Inos.res (a, c, l))]) (fun w I S hI hG hO hS => indexI0 w I S hI (a, c, l) 154 (.pointer (some ⟨g3, 0, none⟩)) (fun y => decide (x.no < y.no)) (fun W => W.cell? ⟨g3, 0, none⟩ = some (.int .i64 x.no)) (fun W e => hno W (by have := (hG W e).2.1; simpa [Res.fact, Function.comp_def, CV.val] using this) 0 _ rfl) (fun w I y e r hI hK => putMore0 w I hI y e r g3 x.no hK) (by show l.length ≤ _; omega) hO hS) (fun r => by simp) (.inr fun x q hq => by simp at hq; rw [hq]; exact Nat.le_refl _) fun z2 W hz2 => ?_
    obtain ⟨i, hi, hzi, hb, hm⟩ : ∃ i : Nat, i ≤ l.length ∧ (z2 = i ∧ i < l.length ∨ z2 = -1 ∧ i = l.length) ∧ (∀ y, y ∈ (l.map Prod.fst).take i → y.no ≤ x.no) ∧ ∀ h : i < (l.map Prod.fst).length, x.no < (l.map Prod.fst)[i].no := by
      rcases idx_cases (fun y : Ino => decide (x.no < y.no)) (l.map Prod.fst) 0 with ⟨k1, k2⟩ | ⟨i, k0, k1, k2, k3⟩
      · refine ⟨l.length, Nat.le_refl _, .inr ⟨by rw [hz2, k1], rfl⟩, fun y hy => ?_, fun h => absurd h (by simp)⟩
        have := of_decide_eq_false (k2 y (List.mem_of_mem_take hy))
        omega
      · refine ⟨i, by rw [List.length_map] at k0; omega, .inl ⟨by rw [hz2, k1, Nat.zero_add], by rwa [List.length_map] at k0⟩, fun y hy => ?_, fun _ => of_decide_eq_true k3⟩
        have := of_decide_eq_false (k2 y hy)
        omega
    have hins : insI (l.map Prod.fst) x = ((l.take i ++ (x, (ea2, ec2), (ra2, rc2)) :: l.drop i).map Prod.fst) := by
      rw [insI_at _ x i (by simpa using hi) hb hm]
      simp
    rw [hins] at hpl
    have hx7 : ones ((inoC x (ea2, ec2) (ra2, rc2)).map .v) := by simp
    have hlen : (l.take i ++ (x, (ea2, ec2), (ra2, rc2)) :: l.drop i).length = l.length + 1 := by simp; omega
    rcases hzi with ⟨rfl, hi2⟩ | ⟨rfl, rfl⟩
    · have hnn : ∀ k : Nat, ¬ ((k : Nat) : Int) < 0 := fun k => by omega
      simp [hN, hnn]
      refine loadA ok rfl rfl rfl rfl (fun v W => v = inoC x (ea2, ec2) (ra2, rc2)) (fun W hW => ⟨_, rfl, fun j v hv => ?_, rfl⟩) ?_
      · rw [Nat.zero_add]
        refine hno W ?_ j v hv
        have h1 := hW.2.2.1
        simpa [Res.fact, Function.comp_def, CV.val] using h1
      rintro v W _ rfl _
      simp [hN]
      intro g29
      refine callS ok rfl rfl rfl [1000, 29] [.row a l.length c 44 7 (inosC l), .row (some ⟨g29, 0, none⟩) 1 1 44 7 ((inoC x (ea2, ec2) (ra2, rc2)).map .v)] (by simp) rfl (fun r : Option Addr × Nat => [(1000, .row r.1 (l.length + 1) r.2 44 7 ((inosC l).take (i * 7) ++ (inoC x (ea2, ec2) (ra2, rc2)).map .v ++ (inosC l).drop (i * 7)))]) (fun w I S hI hG hO hS => insertI0 w I S hI i (inosC l) ((inoC x (ea2, ec2) (ra2, rc2)).map .v) g29 (inosC_length l) rfl (inosC_ones l) hx7 hi hl hO hS) (fun r => by simp) (.inr fun x q hq => by simp at hq; rw [hq]; exact Nat.le_refl _) fun r W _ => ?_
      obtain ⟨ua, uc⟩ := r
      have hcl := inosC_len' l i (x, (ea2, ec2), (ra2, rc2))
      simp only [hcl]
      simp [hN]
      refine retS hC (ua, uc, l.take i ++ (x, (ea2, ec2), (ra2, rc2)) :: l.drop i) [1000] (by simp [hlen]) (by simp [hlen]) fun W _ hG => ⟨hpl.symm, fun y hy => ?_⟩
      rcases List.mem_append.1 hy with hy | hy
      · exact hG.2.2.2.2.1 y (List.mem_of_mem_take hy)
      · rcases List.mem_cons.1 hy with rfl | hy
        · exact hG.2.2.2.1
        · exact hG.2.2.2.2.1 y (List.mem_of_mem_drop hy)
    · have hnn : ∀ k : Nat, ¬ ((k : Nat) : Int) < 0 := fun k => by omega
      simp [hN, hnn]
      refine loadA ok rfl rfl rfl rfl (fun v W => v = inoC x (ea2, ec2) (ra2, rc2)) (fun W hW => ⟨_, rfl, fun j v hv => ?_, rfl⟩) ?_
      · rw [Nat.zero_add]
        refine hno W ?_ j v hv
        have h1 := hW.2.2.1
        simpa [Res.fact, Function.comp_def, CV.val] using h1
      rintro v W _ rfl _
      simp [hN]
      intro g29
      refine callS ok rfl rfl rfl [1000, 29] [.row a l.length c 44 7 (inosC l), .row (some ⟨g29, 0, none⟩) 1 1 44 7 ((inoC x (ea2, ec2) (ra2, rc2)).map .v)] (by simp) rfl (fun r : Option Addr × Nat => [(1000, .row r.1 (l.length + 1) r.2 44 7 ((inosC l).take (l.length * 7) ++ (inoC x (ea2, ec2) (ra2, rc2)).map .v ++ (inosC l).drop (l.length * 7)))]) (fun w I S hI hG hO hS => insertI0 w I S hI l.length (inosC l) ((inoC x (ea2, ec2) (ra2, rc2)).map .v) g29 (inosC_length l) rfl (inosC_ones l) hx7 hi hl hO hS) (fun r => by simp) (.inr fun x q hq => by simp at hq; rw [hq]; exact Nat.le_refl _) fun r W _ => ?_
      obtain ⟨ua, uc⟩ := r
      have hcl := inosC_len' l l.length (x, (ea2, ec2), (ra2, rc2))
      simp only [hcl]
      simp [hN]
      refine retS hC (ua, uc, l.take l.length ++ (x, (ea2, ec2), (ra2, rc2)) :: l.drop l.length) [1000] (by simp [hlen]) (by simp [hlen]) fun W _ hG => ⟨hpl.symm, fun y hy => ?_⟩
      rcases List.mem_append.1 hy with hy | hy
      · exact hG.2.2.2.2.1 y (List.mem_of_mem_take hy)
      · rcases List.mem_cons.1 hy with rfl | hy
        · exact hG.2.2.2.1
        · exact hG.2.2.2.2.1 y (List.mem_of_mem_drop hy)
end Go.Proofs.YtbbaoeidobdblaaGreat.Sx

/- slices.Insert of numbers. -/
set_option linter.unusedVariables false
set_option linter.unusedSimpArgs false
namespace Go.Proofs.YtbbaoeidobdblaaGreat.Sx
open Go
attribute [local simp ↓] ifb_true' ifb_false'
attribute [local simp] ifb_true ifb_false ifb_eq sx argsT find ev evOp evs evo evBin evInt evStr evNil evNilA ptrA slcA isNoneA asB evLoad look del cellsB evUn evConv kdec fld evFieldA evField evIdxA evIdx evSlc bndL bndH evLen mmi put resV guardV gvL setO tupV cellsOf ones one upd lits nv exitTo SV.val CV.val TI.agg rdyA allR keepB scan simpO gsp isS subs keepT pickT wr memN pubs Res.fact Region.binds bld rest give delL back Res.eqv vi vb num Sv.val undef
set_option maxHeartbeats 1000000 in
theorem insertN0 (w : World) (I S : Nat → Prop) (hI : ∀ b, I b → b < w.heap.size) {a : Option Addr} {n c : Nat} (i : Nat) (cs x : List CV) (gv : Nat) (hcs : cs.length = n) (hx : x.length = 1) (h1 : ones cs) (h2 : ones x) (hi : i ≤ n) (hn : n ≤ 1000000000)
    (hS : Owns [.row a n c 3 1 cs, .row (some ⟨gv, 0, none⟩) 1 1 3 1 x] S w) (hSI : ∀ b, S b → b < w.heap.size ∧ ¬ I b) :
    FnS Tryz.prog 159 #[.slice a n c, .int .i64 (i : Nat), .slice (some ⟨gv, 0, none⟩) 1 1] w I S (fun r : Option Addr × Nat => .slice r.1 (n + 1) r.2) (fun r => [.row r.1 (n + 1) r.2 3 1 (cs.take (i) ++ x ++ cs.drop (i))]) (fun _ _ => True) := by
  have hnc : n ≤ c := by
    obtain ⟨F, hF, _⟩ := hS
    exact owns_le (hF 0 _ rfl).2
  refine enterS (svs := [.c (.rw 1000 a n c), .c (.v (.int .i64 (i : Nat))), .c (.rw 1001 (some ⟨gv, 0, none⟩) 1 1)]) tysOk Tryz.func159 rfl Tryz.ntmps159 Tryz.results159 (by kernel_rfl) (by simp) hI [.row a n c 3 1 cs, .row (some ⟨gv, 0, none⟩) 1 1 3 1 x] hS hSI (fun _ => True) (fun _ _ => trivial) fun C hC hN ok => ?_
  have w1 : IntKind.i64.wrap ((n : Int) + 1) = (n + 1 : Nat) := by rw [w64 (by omega) (by omega)]; omega
  have w2 : IntKind.i64.wrap ((i : Int) + 1) = (i + 1 : Nat) := by rw [w64 (by omega) (by omega)]; omega
  obtain ⟨z, hz⟩ : ∃ z : Nat, i + z = n + 1 := ⟨n + 1 - i, by omega⟩
  have w3 : IntKind.i64.wrap ((n : Int) + 1 - i) = (z : Nat) := by rw [w64 (by omega) (by omega)]; omega
  simp [hN, hi, hnc, w1, w2, w3]
  refine ⟨fun hin => ?_, fun hin => ?_⟩
  · have hin' : i = n := by omega
    subst hin'
    refine appR ok 1000 1001 rfl rfl rfl rfl rfl (by decide) rfl rfl rfl rfl rfl rfl rfl (by decide) h2 (by show (_ + 1) * 8 ≤ _; omega) (by omega) fun g' c' => ?_
    simp [hN]
    refine retS hC (some ⟨g', 0, none⟩, c') [1000] rfl ?_ fun W _ _ => trivial
    simp [← hcs]
  · have hlt : i < n := by omega
    refine ⟨fun hful => ⟨by omega, ?_⟩, fun hroom => ?_⟩
    · refine rowSome 1000 rfl (by omega) fun g e => ?_
      subst e
      refine nilr 600 3 1 (appZp ok 1000 600 rfl rfl rfl rfl rfl (by decide) rfl rfl rfl rfl rfl rfl rfl rfl rfl hi (show 0 < z by omega) (by omega) (by show (i + z) * 8 ≤ _; omega) (by omega) (by decide) fun g' c' zs hzs hc' => ?_)
      have hci : ¬ c' = i := by omega
      have hci2 : ¬ c' = i + 1 := by omega
      have hci3 : ¬ c = i := by omega
      simp only [hz] at hc' ⊢
      have hzs' : zs.length = (n + 1 - i) := by rw [hzs]; show z * 1 = _; omega
      have hm1 : Nat.min 1 (n + 1 - i) = 1 := Nat.min_eq_left (by omega)
      have hm2 : Nat.min (n - i) (n - i) = n - i := Nat.min_self _
      have htx : x.take 1 = x := List.take_of_length_le (by omega)
      have htd : (cs.drop (i)).take ((n - i)) = cs.drop (i) := List.take_of_length_le (by simp; omega)
      have hil : i ≤ n + 1 := by omega
      have hil1 : i + 1 ≤ n + 1 := by omega
      have hfin := ins_grow cs x zs i n 1 (by omega) hx (by omega) hi
      simp only [Nat.mul_one] at hfin
      have hod : ones (cs.drop (i)) := ones_drop h1 _
      simp [hN, hci, w2, hci2, hci3, hil, hc']
      and_intros
      all_goals try omega
      refine copyR ok 600 1001 rfl rfl rfl rfl rfl rfl rfl rfl rfl rfl (by dsimp only; rw [hm1]; omega) (by dsimp only; rw [hm1]; omega) (by show ones ((x.drop 0).take (Nat.min 1 (n + 1 - i) * 1)); rw [hm1, List.drop_zero, Nat.mul_one, htx]; exact h2) ?_
      simp [hN, w2, hci2, hci3, hm1, htx, hci]
      refine drawW ok mixed (by kernel_rfl) ?_
      simp (maxSteps := 2000000) -implicitDefEqProofs [hN, w2, hci2, hci3, hci]
      and_intros
      all_goals try omega
      refine copyR ok 600 1000 rfl rfl rfl rfl rfl rfl rfl rfl rfl rfl (by dsimp only; rw [hm2]; omega) (by dsimp only; rw [hm2]; omega) (by show ones ((cs.drop (i)).take (Nat.min (n - i) (n - i) * 1)); rw [hm2, Nat.mul_one, htd]; exact hod) ?_
      simp (maxSteps := 2000000) -implicitDefEqProofs [hN, hm2, htd]
      exact retS hC (some ⟨g', 0, none⟩, c') [600] rfl (by simp [hfin]) fun W _ _ => trivial
    · have hci : ¬ c = i := by omega
      have hci2 : ¬ c = i + 1 := by omega
      simp only [hci2, if_false]
      and_intros
      all_goals try omega
      refine rowSome 1000 rfl (by omega) fun g e => ?_
      subst e
      refine extend 1000 (n + 1) rfl (by omega) (by omega) fun junk hj => ?_
      simp only [addrP_some, Nat.zero_add]
      have hov : ovB Tryz.prog 192 37 4 := ⟨_, Tryz.func192, by kernel_rfl, by kernel_rfl, by kernel_rfl, by kernel_rfl⟩
      refine ovl ok 1001 1000 rfl rfl hov rfl rfl rfl rfl rfl (by decide) rfl rfl rfl rfl (by exact (show 0 < c by omega)) (by decide) ?_
      simp [hN]
      have hjl : (junk.map CV.v).length = 1 := by rw [List.length_map, hj]; show (n + 1 - n) * 1 = 1; omega
      have hm1 : Nat.min 1 (n + 1 - i) = 1 := Nat.min_eq_left (by omega)
      have hm3 : Nat.min (n + 1 - i) (n - i) = n - i := Nat.min_eq_right (by omega)
      have htx : x.take 1 = x := List.take_of_length_le (by omega)
      have hdl : (cs.drop (i)).length = (n - i) := by simp; omega
      have htj : ((cs ++ junk.map CV.v).drop (i)).take ((n - i)) = cs.drop (i) := by
        rw [List.drop_append, show i - cs.length = 0 by omega, List.drop_zero, ← hdl, List.take_left]
      have hod : ones (cs.drop (i)) := ones_drop h1 _
      have hfin := ins_place cs x (junk.map CV.v) i n 1 (by omega) hx hjl hlt
      simp only [Nat.mul_one] at hfin
      refine drawW ok mixed (by kernel_rfl) ?_
      generalize junk.map CV.v = J at *
      simp (maxSteps := 2000000) -implicitDefEqProofs [hN, w2, hci, hci2, hlt, hm1, hm3, htx, htj]
      and_intros
      all_goals try omega
      refine copyR ok 1000 1000 rfl rfl rfl rfl rfl rfl rfl rfl rfl rfl (by dsimp only; rw [hm3]; omega) (by dsimp only; rw [hm3]; omega) (by show ones (((cs ++ J).drop (i)).take (Nat.min (n + 1 - i) (n - i) * 1)); rw [hm3, Nat.mul_one, htj]; exact hod) ?_
      simp (maxSteps := 2000000) -implicitDefEqProofs [hN, w2, hci, hci2, hlt, hm1, hm3, htx, htj]
      and_intros
      all_goals try omega
      refine copyR ok 1000 1001 rfl rfl rfl rfl rfl rfl rfl rfl rfl rfl (by dsimp only; rw [hm1]; omega) (by dsimp only; rw [hm1]; omega) (by show ones ((x.drop 0).take (Nat.min 1 (n + 1 - i) * 1)); rw [hm1, List.drop_zero, Nat.mul_one, htx]; exact h2) ?_
      simp (maxSteps := 2000000) -implicitDefEqProofs [hN, w2, hci, hci2, hlt, hm1, hm3, htx, htj]
      exact retS hC (some ⟨g, 0, none⟩, c) [1000] rfl (by simp [hfin]) fun W _ _ => trivial
end Go.Proofs.YtbbaoeidobdblaaGreat.Sx

/- Owned numbers: Clone, Index, Contains, IndexFunc, state.bad. -/
set_option linter.unusedVariables false
set_option linter.unusedSimpArgs false
namespace Go.Proofs.YtbbaoeidobdblaaGreat.Sx
open Go
attribute [local simp ↓] ifb_true' ifb_false'
attribute [local simp] ifb_true ifb_false ifb_eq sx argsT find ev evOp evs evo evBin evInt evStr evNil evNilA ptrA slcA isNoneA asB evLoad look del cellsB evUn evConv kdec fld evFieldA evField evIdxA evIdx evSlc bndL bndH evLen mmi put resV guardV gvL setO tupV cellsOf ones one upd lits nv exitTo SV.val CV.val TI.agg rdyA allR keepB scan simpO gsp isS subs keepT pickT wr memN pubs Res.fact Region.binds bld rest give delL back Res.eqv vi vb num Sv.val undef
/-- Slices of one's own that hold numbers. -/
abbrev Nums := Option Addr × Nat × List Int
abbrev Nums.val (r : Nums) : Value := .slice r.1 r.2.2.length r.2.1
abbrev Nums.res (r : Nums) : Res := .row r.1 r.2.2.length r.2.1 3 1 (iC r.2.2)
theorem iC_at (l : List Int) {i : Nat} (hi : i < l.length) : (iC l)[i]? = some (.v (.int .i64 l[i])) := by simp [iC, hi]
theorem iC_at' (l : List Int) {i : Nat} (h : i < (iC l).length) : (iC l)[i]'h = .v (.int .i64 (l[i]'(by rwa [iC_len] at h))) := by simp [iC]
theorem cloneN (w : World) (I : Nat → Prop) (hI : ∀ b, I b → b < w.heap.size) {a : Option Addr} {n c : Nat} (xs : List Int) (h : ∀ W, Ext I w W → Sv.ok dInt W (a, n, c) xs) :
    FnS Tryz.prog 108 #[.slice a n c] w I noS Nums.val (fun r => [Nums.res r]) (fun r W => r.2.2 = xs) := by
  have h0 := h w (Ext.refl _ _)
  obtain rfl : n = xs.length := h0.1
  cases a with
  | none =>
    have hx : xs = [] := Classical.byContradiction fun hne => by obtain ⟨b, o, e, _⟩ := h0.2.2.2 hne; cases e
    subst hx
    refine enterS (svs := [.c (.v (.slice none 0 c))]) tysOk Tryz.func108 rfl Tryz.ntmps108 Tryz.results108 (by kernel_rfl) (by simp) hI [] (owns_nil w) (fun b hb => hb.elim) (fun _ => True) (fun _ _ => trivial) fun C hC hN ok => ?_
    simp [hN]
    exact nilR 600 3 1 (retS hC (none, 0, []) [600] rfl (by simp [iC]) fun W _ _ => rfl)
  | some ad =>
    refine enterS (svs := [.c (.v (.slice (some ad) xs.length c))]) tysOk Tryz.func108 rfl Tryz.ntmps108 Tryz.results108 (by kernel_rfl) (by simp) hI [] (owns_nil w) (fun b hb => hb.elim) (fun W => Sv.ok dInt W (some ad, xs.length, c) xs) h fun C hC hN ok => ?_
    have h2 := h0.2.2.1
    simp [hN]
    intro g
    refine appV ok 5 rfl rfl rfl rfl rfl (by decide) rfl rfl rfl rfl rfl rfl dInt xs rfl (by show (0 + _) * 8 ≤ _; omega) (by omega) (fun W hW => hW) fun q a2 c2 W _ hq _ => ?_
    obtain rfl := rowsI.1 hq
    simp [hN]
    exact retS hC (a2, c2, xs) [5] (by simp) (by simp [iC]) fun W _ _ => rfl
theorem indexN0 (w : World) (I S : Nat → Prop) (hI : ∀ b, I b → b < w.heap.size) (q : Nums) (x : Int) (hl : q.2.2.length ≤ 2000000000) (hS : Owns [Nums.res q] S w) (hSI : ∀ b, S b → b < w.heap.size ∧ ¬ I b) :
    FnS Tryz.prog 191 #[Nums.val q, .int .i64 x] w I S (fun z : Int => .int .i64 z) (fun _ => [Nums.res q]) (fun z W => z = idxF (fun y => decide (x = y)) q.2.2 0) := by
  obtain ⟨a, c, l⟩ := q
  replace hl : l.length ≤ 2000000000 := hl
  refine enterS (svs := [.c (.rw 1000 a l.length c), .c (.v (.int .i64 x))]) tysOk Tryz.func191 rfl Tryz.ntmps191 Tryz.results191 (by kernel_rfl) (by simp) hI [Nums.res (a, c, l)] hS hSI (fun _ => True) (fun _ _ => trivial) fun C hC hN ok => ?_
  simp [hN]
  refine loopKA [0, 1, 7] ok (fun i : Nat => [(8, .c (.v (.int .i64 i)))]) (fun _ => [(1000, Nums.res (a, c, l))]) (fun i W => i ≤ l.length ∧ ∀ y, y ∈ l.take i → decide (x = y) = false) (fun i => l.length - i) 0 ?_ ?_ (fun W hW => ⟨Nat.zero_le _, by simp⟩) ?_
  · simp
  · simp
  rintro i W ⟨hi, hne⟩ hG next
  rcases Nat.lt_or_ge i l.length with hlt | hge
  · have e6 : IntKind.i64.wrap ((i : Int) + 1) = (i + 1 : Nat) := by rw [w64 (by omega) (by omega)]; omega
    have ft : l.take (i + 1) = l.take i ++ [l[i]] := by rw [List.take_add_one, List.getElem?_eq_getElem hlt]; simp
    have hat := iC_at l hlt
    have hat' := @iC_at' l i
    have hgo := idxF_at (fun y => decide (x = y)) l 0 i hlt hne
    simp only [Nat.zero_add] at hgo
    refine rowSome 1000 rfl (by exact (show 0 < l.length by omega)) fun g e => ?_
    subst e
    refine goon ok ?_
    simp [hN, hat, hat', hlt, e6, iC_len]
    refine ⟨hlt, fun h => retS hC (i : Nat) [1000] rfl (by simp) fun W _ _ => (hgo (by simp [h])).symm, fun h => next (i + 1) _ _ (by omega) (fun W h2 => ⟨⟨hlt, fun z hz => ?_⟩, trivial⟩) (by simp)⟩
    rw [ft] at hz
    rcases List.mem_append.1 hz with hz | hz
    · exact hne z hz
    · rw [List.mem_singleton.1 hz]
      simp [h]
  · refine goon ok ?_
    simp [hN, Nat.not_lt.2 hge]
    refine retS hC (-1) [1000] rfl (by simp) fun W _ _ => ?_
    rw [idxF_none]
    rwa [List.take_of_length_le hge] at hne
theorem containsN0 (w : World) (I S : Nat → Prop) (hI : ∀ b, I b → b < w.heap.size) (q : Nums) (x : Int) (hl : q.2.2.length ≤ 2000000000) (hS : Owns [Nums.res q] S w) (hSI : ∀ b, S b → b < w.heap.size ∧ ¬ I b) :
    FnS Tryz.prog 156 #[Nums.val q, .int .i64 x] w I S (fun b : Bool => .bool b) (fun _ => [Nums.res q]) (fun b W => b = decide (x ∈ q.2.2)) := by
  obtain ⟨a, c, l⟩ := q
  replace hl : l.length ≤ 2000000000 := hl
  refine enterS (svs := [.c (.rw 1000 a l.length c), .c (.v (.int .i64 x))]) tysOk Tryz.func156 rfl Tryz.ntmps156 Tryz.results156 (by kernel_rfl) (by simp) hI [Nums.res (a, c, l)] hS hSI (fun _ => True) (fun _ _ => trivial) fun C hC hN ok => ?_
  simp [hN]
  refine callS ok rfl rfl rfl [1000] [Nums.res (a, c, l)] (by simp) rfl (fun z : Int => [(1000, Nums.res (a, c, l))]) (fun w I S hI hG hO hS => indexN0 w I S hI (a, c, l) x hl hO hS) (fun r => by simp) (.inr fun x q hq => by simp at hq; rw [hq]; exact Nat.le_refl _) fun z W hz => ?_
  simp [hN]
  refine retS hC _ [1000] rfl (by simp) fun W _ _ => ?_
  rw [hz]
  simp only
  rcases idx_cases (fun y => decide (x = y)) l 0 with ⟨h1, h2⟩ | ⟨i, hi, h1, h2, h3⟩
  · rw [h1, decide_eq_false (by decide), decide_eq_false]
    intro hx
    have := h2 x hx
    simp at this
  · rw [h1, decide_eq_true (by omega), decide_eq_true]
    have h3' : x = l[i] := of_decide_eq_true h3
    rw [h3']
    exact List.getElem_mem hi
theorem indexFN0 (w : World) (I S : Nat → Prop) (hI : ∀ b, I b → b < w.heap.size) (q : Nums) (f : FuncId) (cap : Value) (p : Int → Bool) (K : World → Prop) (hK : ∀ W, Ext I w W → K W)
    (Hf : ∀ w I (y : Int), (∀ b, I b → b < w.heap.size) → (∀ W, Ext I w W → K W) → Fn0 Tryz.prog f #[.int .i64 y, cap] w I (fun b : Bool => .bool b) (fun b W => b = p y)) (hl : q.2.2.length ≤ 2000000000)
    (hS : Owns [Nums.res q] S w) (hSI : ∀ b, S b → b < w.heap.size ∧ ¬ I b) :
    FnS Tryz.prog 157 #[Nums.val q, .func (.func f) #[] #[cap]] w I S (fun z : Int => .int .i64 z) (fun _ => [Nums.res q]) (fun z W => z = idxF p q.2.2 0) := by
  obtain ⟨a, c, l⟩ := q
  replace hl : l.length ≤ 2000000000 := hl
  refine enterS (svs := [.c (.rw 1000 a l.length c), .c (.v (.func (.func f) #[] #[cap]))]) tysOk Tryz.func157 rfl Tryz.ntmps157 Tryz.results157 (by kernel_rfl) (by simp) hI [Nums.res (a, c, l)] hS hSI K hK fun C hC hN ok => ?_
  simp [hN]
  refine loopKA [0, 1, 7] ok (fun i : Nat => [(8, .c (.v (.int .i64 i)))]) (fun _ => [(1000, Nums.res (a, c, l))]) (fun i W => i ≤ l.length ∧ ∀ y, y ∈ l.take i → p y = false) (fun i => l.length - i) 0 ?_ ?_ (fun W hW => ⟨Nat.zero_le _, by simp⟩) ?_
  · simp
  · simp
  rintro i W ⟨hi, hne⟩ hG next
  rcases Nat.lt_or_ge i l.length with hlt | hge
  · have e6 : IntKind.i64.wrap ((i : Int) + 1) = (i + 1 : Nat) := by rw [w64 (by omega) (by omega)]; omega
    have ft : l.take (i + 1) = l.take i ++ [l[i]] := by rw [List.take_add_one, List.getElem?_eq_getElem hlt]; simp
    have hat := iC_at l hlt
    have hat' := @iC_at' l i
    have hgo := idxF_at p l 0 i hlt hne
    simp only [Nat.zero_add] at hgo
    refine rowSome 1000 rfl (by exact (show 0 < l.length by omega)) fun g e => ?_
    subst e
    refine goon ok ?_
    simp [hN, hat, hat', hlt, iC_len]
    refine ⟨hlt, callF ok rfl rfl rfl (V := #[.int .i64 l[i], cap]) (by simp) (fun w I hI hG => Hf w I l[i] hI fun W e => (hG W e).2) fun b W hb => ?_⟩
    subst hb
    simp [hN, e6]
    refine ⟨fun h => retS hC (i : Nat) [1000] rfl (by simp) fun W _ _ => (hgo h).symm, fun h => next (i + 1) _ _ (by omega) (fun W h2 => ⟨⟨hlt, fun z hz => ?_⟩, h2.2⟩) (by simp)⟩
    rw [ft] at hz
    rcases List.mem_append.1 hz with hz | hz
    · exact hne z hz
    · rw [List.mem_singleton.1 hz]
      exact h
  · refine goon ok ?_
    simp [hN, Nat.not_lt.2 hge]
    refine retS hC (-1) [1000] rfl (by simp) fun W _ _ => ?_
    rw [idxF_none]
    rwa [List.take_of_length_le hge] at hne
end Go.Proofs.YtbbaoeidobdblaaGreat.Sx

/- state.bad. -/
set_option linter.unusedVariables false
set_option linter.unusedSimpArgs false
namespace Go.Proofs.YtbbaoeidobdblaaGreat.Sx
open Go
attribute [local simp ↓] ifb_true' ifb_false'
attribute [local simp] ifb_true ifb_false ifb_eq sx argsT find ev evOp evs evo evBin evInt evStr evNil evNilA ptrA slcA isNoneA asB evLoad look del cellsB evUn evConv kdec fld evFieldA evField evIdxA evIdx evSlc bndL bndH evLen mmi put resV guardV gvL setO tupV cellsOf ones one upd lits nv exitTo SV.val CV.val TI.agg rdyA allR keepB scan simpO gsp isS subs keepT pickT wr memN pubs Res.fact Region.binds bld rest give delL back Res.eqv vi vb num Sv.val undef
theorem iC_ones : ∀ l : List Int, ones (iC l)
  | [] => trivial
  | x :: r => ⟨trivial, iC_ones r⟩
set_option maxHeartbeats 1000000 in
theorem stateBad0 (w : World) (I S : Nat → Prop) (hI : ∀ b, I b → b < w.heap.size) (q : Nums) (x : Int) (hl : q.2.2.length ≤ 1000000000) (hS : Owns [Nums.res q] S w) (hSI : ∀ b, S b → b < w.heap.size ∧ ¬ I b) :
    FnS Tryz.prog 112 #[Nums.val q, .int .i64 x] w I S Nums.val (fun t => [Nums.res t]) (fun t W => t.2.2 = addBadL q.2.2 x) := by
  obtain ⟨a, c, l⟩ := q
  replace hl : l.length ≤ 1000000000 := hl
  refine enterS (svs := [.c (.rw 1000 a l.length c), .c (.v (.int .i64 x))]) tysOk Tryz.func112 rfl Tryz.ntmps112 Tryz.results112 (by kernel_rfl) (by simp) hI [Nums.res (a, c, l)] hS hSI (fun _ => True) (fun _ _ => trivial) fun C hC hN ok => ?_
  simp [hN]
  intro g3
  have hno : ∀ W, Res.fact (.box g3 3 [.v (.int .i64 x)]) W → W.cell? ⟨g3, 0, none⟩ = some (.int .i64 x) := fun W h => by
    simp only [Res.fact] at h
    exact box_cell (T := 3) (l := [.int .i64 x]) h rfl
  refine callS ok rfl rfl rfl [1000] [Nums.res (a, c, l)] (by simp) rfl (fun z : Bool => [(1000, Nums.res (a, c, l))]) (fun w I S hI hG hO hS => containsN0 w I S hI (a, c, l) x (by show l.length ≤ _; omega) hO hS) (fun r => by simp) (.inr fun x q hq => by simp at hq; rw [hq]; exact Nat.le_refl _) fun z W hz => ?_
  simp [hN]
  refine ⟨fun hyes => ?_, fun hnot => ?_⟩
  · rw [hz] at hyes
    exact retS hC (a, c, l) [1000] rfl (by simp) fun W _ _ => by rw [addBadL, if_pos (of_decide_eq_true hyes)]
  rw [hz] at hnot
  have hm : addBadL l x = insL l x := by rw [addBadL, if_neg (of_decide_eq_false hnot)]
  refine pub 3 rfl (by decide) (tagA 3 (.c (.v (.pointer (some ⟨g3, 0, none⟩)))) rfl rfl ?_)
  refine callS ok rfl rfl rfl [1000] [Nums.res (a, c, l)] (by simp) rfl (fun z : Int => [(1000, Nums.res (a, c, l))]) (fun w I S hI hG hO hS => indexFN0 w I S hI (a, c, l) 158 (.pointer (some ⟨g3, 0, none⟩)) (fun y => decide (x < y)) (fun W => W.cell? ⟨g3, 0, none⟩ = some (.int .i64 x)) (fun W e => hno W (hG W e).1) (fun w I y hI hK => badMore0 w I hI y g3 x hK) (by show l.length ≤ _; omega) hO hS) (fun r => by simp) (.inr fun x q hq => by simp at hq; rw [hq]; exact Nat.le_refl _) fun z2 W hz2 => ?_
  obtain ⟨i, hi, hzi, hins⟩ : ∃ i : Nat, i ≤ l.length ∧ (z2 = i ∧ i < l.length ∨ z2 = -1 ∧ i = l.length) ∧ insL l x = l.take i ++ x :: l.drop i := by
    rcases idx_cases (fun y : Int => decide (x < y)) l 0 with ⟨k1, k2⟩ | ⟨i, k0, k1, k2, k3⟩
    · refine ⟨l.length, Nat.le_refl _, .inr ⟨by rw [hz2, k1], rfl⟩, insL_at l x _ (Nat.le_refl _) (fun y hy => ?_) (fun h => absurd h (Nat.lt_irrefl _))⟩
      have := of_decide_eq_false (k2 y (List.mem_of_mem_take hy))
      omega
    · refine ⟨i, by omega, .inl ⟨by rw [hz2, k1, Nat.zero_add], k0⟩, insL_at l x _ (by omega) (fun y hy => ?_) (fun _ => of_decide_eq_true k3)⟩
      have := of_decide_eq_false (k2 y hy)
      omega
  have hlen : (l.take i ++ x :: l.drop i).length = l.length + 1 := by simp; omega
  have hcl : (iC l).take i ++ [.v (.int .i64 x)] ++ (iC l).drop i = iC (l.take i ++ x :: l.drop i) := by simp [iC]
  have hnn : ∀ k : Nat, ¬ ((k : Nat) : Int) < 0 := fun k => by omega
  rcases hzi with ⟨rfl, hi2⟩ | ⟨rfl, rfl⟩
  · simp [hN, hnn]
    refine load1 ok rfl rfl rfl rfl (fun v W => v = .int .i64 x) (fun W hW => ⟨_, hno W (by have h1 := hW.2.1; simpa [Res.fact] using h1), rfl⟩) ?_
    rintro v W rfl _
    simp [hN]
    intro g20
    refine callS ok rfl rfl rfl [1000, 20] [.row a l.length c 3 1 (iC l), .row (some ⟨g20, 0, none⟩) 1 1 3 1 [.v (.int .i64 x)]] (by simp) rfl (fun r : Option Addr × Nat => [(1000, .row r.1 (l.length + 1) r.2 3 1 ((iC l).take i ++ [.v (.int .i64 x)] ++ (iC l).drop i))]) (fun w I S hI hG hO hS => insertN0 w I S hI i (iC l) [.v (.int .i64 x)] g20 (iC_len l) rfl (iC_ones l) (by simp) hi hl hO hS) (fun r => by simp) (.inr fun x q hq => by simp at hq; rw [hq]; exact Nat.le_refl _) fun r W _ => ?_
    obtain ⟨ua, uc⟩ := r
    simp only [hcl]
    simp [hN]
    exact retS hC (ua, uc, l.take i ++ x :: l.drop i) [1000] (by simp [hlen]) (by simp [hlen]) fun W _ _ => by rw [hm, hins]
  · simp [hN, hnn]
    refine load1 ok rfl rfl rfl rfl (fun v W => v = .int .i64 x) (fun W hW => ⟨_, hno W (by have h1 := hW.2.1; simpa [Res.fact] using h1), rfl⟩) ?_
    rintro v W rfl _
    simp [hN]
    intro g20
    refine callS ok rfl rfl rfl [1000, 20] [.row a l.length c 3 1 (iC l), .row (some ⟨g20, 0, none⟩) 1 1 3 1 [.v (.int .i64 x)]] (by simp) rfl (fun r : Option Addr × Nat => [(1000, .row r.1 (l.length + 1) r.2 3 1 ((iC l).take l.length ++ [.v (.int .i64 x)] ++ (iC l).drop l.length))]) (fun w I S hI hG hO hS => insertN0 w I S hI l.length (iC l) [.v (.int .i64 x)] g20 (iC_len l) rfl (iC_ones l) (by simp) hi hl hO hS) (fun r => by simp) (.inr fun x q hq => by simp at hq; rw [hq]; exact Nat.le_refl _) fun r W _ => ?_
    obtain ⟨ua, uc⟩ := r
    simp only [hcl]
    simp [hN]
    exact retS hC (ua, uc, l.take l.length ++ x :: l.drop l.length) [1000] (by simp [hlen]) (by simp [hlen]) fun W _ _ => by rw [hm, hins]
end Go.Proofs.YtbbaoeidobdblaaGreat.Sx

/- state.Apply. -/
set_option linter.unusedVariables false
set_option linter.unusedSimpArgs false
namespace Go.Proofs.YtbbaoeidobdblaaGreat.Sx
open Go
attribute [local simp ↓] ifb_true' ifb_false'
attribute [local simp] ifb_true ifb_false ifb_eq sx argsT find ev evOp evs evo evBin evInt evStr evNil evNilA ptrA slcA isNoneA asB evLoad look del cellsB evUn evConv kdec fld evFieldA evField evIdxA evIdx evSlc bndL bndH evLen mmi put resV guardV gvL setO tupV cellsOf ones one upd lits nv exitTo SV.val CV.val TI.agg rdyA allR keepB scan simpO gsp isS subs keepT pickT wr memN pubs Res.fact Region.binds bld rest give delL back Res.eqv vi vb num Sv.val undef
theorem applyL_take {s : Sta} {l : List Dee} {i : Nat} (h : i < l.length) : applyL s (l.take (i + 1)) = applyOne (applyL s (l.take i)) l[i] := by
  rw [List.take_add_one, List.getElem?_eq_getElem h]
  exact applyL_snoc _ _ _
set_option maxRecDepth 100000 in
set_option maxHeartbeats 4000000 in
theorem apply0 (w : World) (I : Nat → Prop) (hI : ∀ b, I b → b < w.heap.size) (s : Sta) (si sb : Sl) {a : Option Addr} {n c : Nat} (l : List Dee) (h : ∀ W, Ext I w W → StaR W s si sb) (hd : ∀ W, Ext I w W → Sv.ok dDee W (a, n, c) l) (hl : s.inos.length + l.length ≤ 1000000000 ∧ s.bad.length + l.length ≤ 1000000000) :
    Fn0 Tryz.prog 62 #[.agg (staC s si sb).toArray, .slice a n c] w I (fun y : Sl × Sl => .agg (staC (applyL s l) y.1 y.2).toArray) (fun y W => StaR W (applyL s l) y.1 y.2) := by
  obtain rfl : n = l.length := (hd w (Ext.refl _ _)).1
  obtain ⟨ia, ic⟩ := si
  obtain ⟨ba, bc⟩ := sb
  refine enter (svs := [.ag ((staC s (ia, ic) (ba, bc)).map .v), .c (.v (.slice a l.length c))]) tysOk Tryz.func62 rfl Tryz.ntmps62 Tryz.results62 (by kernel_rfl) (by simp) hI (fun W => StaR W s (ia, ic) (ba, bc) ∧ Sv.ok dDee W (a, l.length, c) l) (fun W e => ⟨h W e, hd W e⟩) fun C hC hN ok => ?_
  simp [hN]
  intro g2 g4
  refine drawW ok mixed (by kernel_rfl) ?_
  have k1 : ∀ w I, (∀ b, I b → b < w.heap.size) → (∀ W, Ext I w W → StaR W s (ia, ic) (ba, bc) ∧ Sv.ok dDee W (a, l.length, c) l) → FnS Tryz.prog 107 #[.slice ia s.inos.length ic] w I noS Inos.val (fun r => [Inos.res r]) (fun r W => r.2.2.map Prod.fst = s.inos ∧ InosR W r.2.2) := fun w I hI h => copied0 w I hI s.inos (fun W e => (sta_get (h W e).1).1) (by omega)
  have k2 : ∀ w I, (∀ b, I b → b < w.heap.size) → (∀ W, Ext I w W → StaR W s (ia, ic) (ba, bc) ∧ Sv.ok dDee W (a, l.length, c) l) → FnS Tryz.prog 108 #[.slice ba s.bad.length bc] w I noS Nums.val (fun r => [Nums.res r]) (fun r W => r.2.2 = s.bad) := fun w I hI h => cloneN w I hI s.bad fun W e => (sta_get (h W e).1).2
  simp (maxSteps := 2000000) -implicitDefEqProofs [hN]
  and_intros
  all_goals
    refine callS ok rfl rfl rfl [] [] trivial rfl (fun r : Inos => [(600, Inos.res r)]) (fun w I S hI hG hO hS => (k1 w I hI hG).lone hO) (fun r => by simp [back, memN, Res.eqv]) (.inl fun k hk => by cases hk) fun r W hr => ?_
    obtain ⟨ra, rc, L⟩ := r
    have hll : L.length = s.inos.length := by have := congrArg List.length hr.1; simpa using this
    simp (maxSteps := 2000000) -implicitDefEqProofs [hN, Inos.val, Inos.res]
    refine callS ok rfl rfl rfl [] [] trivial rfl (fun r : Nums => [(601, Nums.res r)]) (fun w I S hI hG hO hS => (k2 w I hI fun W e => (hG W e).2).lone hO) (fun r => by simp [back, memN, Res.eqv]) (.inl fun k hk => by cases hk) fun q W hq => ?_
    obtain ⟨qa, qc, B⟩ := q
    obtain rfl : B = s.bad := hq
    simp (maxSteps := 2000000) -implicitDefEqProofs [hN, Inos.val, Inos.res]
    refine loopK [0, 1, 2, 4, 15, 16] ok (fun y : Nat × Inos × Nums => [(17, .c (.v (.int .i64 (y.1 : Nat))))]) (fun y => [(600, Inos.res y.2.1), (601, Nums.res y.2.2), (4, .box g4 39 [.v (.int .i64 0), .v (.slice none 0 0), .v (.slice none 0 0)]), (2, .box g2 39 [.v (.int .i64 (applyL s (l.take y.1)).next), .v (Inos.val y.2.1), .v (Nums.val y.2.2)])]) (fun y W => y.1 ≤ l.length ∧ y.2.1.2.2.map Prod.fst = (applyL s (l.take y.1)).inos ∧ InosR W y.2.1.2.2 ∧ y.2.2.2.2 = (applyL s (l.take y.1)).bad) (fun y => l.length - y.1) (0, (ra, rc, L), (qa, qc, s.bad)) ?_ ?_ (fun W hW => ⟨Nat.zero_le _, ?_, ?_, rfl⟩) ?_
    · simp
    · simp [applyL]
    · show L.map Prod.fst = (applyL s (l.take 0)).inos
      exact hr.1
    · exact hW.1.2
    rintro ⟨i, ⟨pa, pc, L2⟩, ⟨va, vc, B2⟩⟩ W ⟨hi, hm, hR, hB⟩ hG next
    have hlen := applyL_len s (l.take i)
    rw [List.length_take] at hlen
    simp only at hi hm hR hB
    have hSa : ∀ h : i < l.length, applyL s (l.take (i + 1)) = applyOne (applyL s (l.take i)) l[i] := fun h => applyL_take h
    generalize hSe : applyL s (l.take i) = S at next hlen hm hB hSa
    have hL2 : L2.length = S.inos.length := by rw [← hm]; simp
    subst hB
    rcases Nat.lt_or_ge i l.length with hlt | hge
    · obtain ⟨b, o, e⟩ := (show Sv.ok dDee W (_, l.length, c) l from hG.2.2).2.2.2.is_some (show 0 < l.length by omega)
      cases e
      have e6 : IntKind.i64.wrap ((i : Int) + 1) = (i + 1 : Nat) := by rw [w64 (by omega) (by omega)]; omega
      have fa := hSa hlt
      have hget : ∀ W, Sv.ok dDee W (some ⟨b, o, none⟩, l.length, c) l → ∃ cs, cs.length = 9 ∧ (∀ j v, cs[j]? = some v → W.cell? ⟨b, o + i * 9 + j, none⟩ = some v) ∧ dDee.K W l[i] cs := fun W hW => by
        obtain ⟨cs, hk, hcl, hc⟩ := hW.2.2.2.get hlt
        exact ⟨cs, hcl, hc, hk⟩
      generalize l[i] = d at fa hget
      simp [hN, hlt]
      refine loadA ok rfl rfl rfl rfl (fun q W => dDee.K W d q) (fun W hW => hget W hW.2.2.2) ?_
      rintro v W _ ⟨⟨ea, ec⟩, ⟨xa, xc⟩, rfl, hdR⟩ hG2
      simp [hN]
      intro g6
      refine ⟨fun k1 => ?_, fun k1 => ⟨fun k2 => ?_, fun k2 => ⟨fun k3 => ?_, fun k3 => ⟨fun k4 => ?_, fun k4 => ?_⟩⟩⟩⟩
      · have fo : applyOne S d = { S with next := d.no } := by simp [applyOne, k1]
        refine next (i + 1, (pa, pc, L2), (va, vc, S.bad)) _ _ (by simp; omega) (fun W h => ⟨⟨hlt, by simp only [fa, fo]; exact hm, h.2.1.2.2, by simp only [fa, fo]⟩, h.2.2⟩) ?_
        simp [e6, fa, fo]
      · have fo : applyOne S d = { S with inos := putInoL S.inos d.ino } := by simp [applyOne, k2]
        refine callS ok rfl rfl rfl [600] [Inos.res (pa, pc, L2)] (by simp) rfl (fun t : Inos => [(600, Inos.res t)]) (fun w I S' hI hG hO hS => statePut0 w I S' hI (pa, pc, L2) d.ino (ea, ec) (xa, xc) (fun W e => (hG W e).2.1.2.2) (fun W e => dee_get (hG W e).1) (by show L2.length ≤ _; omega) hO hS) (fun r => by simp [back, memN, Res.eqv]) (.inl fun k hk => by simp at hk; omega) fun t W ht => ?_
        obtain ⟨ta, tc, L3⟩ := t
        have ht1 : L3.map Prod.fst = putInoL S.inos d.ino := by rw [← hm]; exact ht.1
        simp [hN]
        refine next (i + 1, (ta, tc, L3), (va, vc, S.bad)) _ _ (by simp; omega) (fun W h => ⟨⟨hlt, by simp only [fa, fo]; exact ht1, h.1.2, by simp only [fa, fo]⟩, h.2.2.2⟩) ?_
        simp [e6, fa, fo]
      · have fo : applyOne S d = { S with inos := S.inos.filter fun x => decide (x.no ≠ d.no) } := by simp [applyOne, k3]
        have hno : ∀ W, Res.fact (.box g6 46 ((deeC d (ea, ec) (xa, xc)).map .v)) W → W.cell? ⟨g6, 1, none⟩ = some (.int .i64 d.no) := fun W h => by
          refine box_cell (T := 46) (l := deeC d (ea, ec) (xa, xc)) ?_ rfl
          simp only [Res.fact, List.map_map] at h
          simpa [Function.comp_def, CV.val] using h
        refine pub 6 rfl (by decide) ?_
        refine callS ok rfl rfl rfl [600] [Inos.res (pa, pc, L2)] (by simp) rfl (fun t : Inos => [(600, Inos.res t)]) (fun w I S' hI hG hO hS => delete0 w I S' hI (pa, pc, L2) 111 (.pointer (some ⟨g6, 0, none⟩)) (fun y => decide (y.no = d.no)) (fun W => W.cell? ⟨g6, 1, none⟩ = some (.int .i64 d.no)) (fun W e => hno W (hG W e).1) (fun w I y e r hI hK => dropSame0 w I hI y e r g6 d.no hK) (by show L2.length ≤ _; omega) hO hS) (fun r => by simp [back, memN, Res.eqv]) (.inl fun k hk => by simp at hk; omega) fun t W ht => ?_
        obtain ⟨ta, tc, L3⟩ := t
        replace ht : L3 = L2.filter fun y => !decide (y.1.no = d.no) := ht
        have ht1 : L3.map Prod.fst = S.inos.filter fun x => decide (x.no ≠ d.no) := by
          rw [ht, ← hm, List.filter_map]
          congr 1
          apply List.filter_congr
          intro y _
          simp
        simp [hN]
        refine next (i + 1, (ta, tc, L3), (va, vc, S.bad)) _ _ (by simp; omega) (fun W h => ⟨⟨hlt, by simp only [fa, fo]; exact ht1, fun y hy => ?_, by simp only [fa, fo]⟩, h.2.2.2.2⟩) ?_
        · have hy' : y ∈ L3 := hy
          rw [ht] at hy'
          exact h.2.2.2.1.2.2 y (List.mem_filter.1 hy').1
        · simp [e6, fa, fo]
      · have fo : applyOne S d = { S with bad := addBadL S.bad d.no } := by simp [applyOne, k4]
        refine callS ok rfl rfl rfl [601] [Nums.res (va, vc, S.bad)] (by simp) rfl (fun t : Nums => [(601, Nums.res t)]) (fun w I S' hI hG hO hS => stateBad0 w I S' hI (va, vc, S.bad) d.no (by show S.bad.length ≤ _; omega) hO hS) (fun r => by simp [back, memN, Res.eqv]) (.inl fun k hk => by simp at hk; omega) fun t W ht => ?_
        obtain ⟨ta, tc, B3⟩ := t
        replace ht : B3 = addBadL S.bad d.no := ht
        subst ht
        simp [hN]
        refine next (i + 1, (pa, pc, L2), (ta, tc, addBadL S.bad d.no)) _ _ (by simp; omega) (fun W h => ⟨⟨hlt, by simp only [fa, fo]; exact hm, h.2.1.2.2, by simp only [fa, fo]⟩, h.2.2⟩) ?_
        simp [e6, fa, fo]
      · have fo : applyOne S d = S := by simp [applyOne, k1, k2, k3, k4]
        refine next (i + 1, (pa, pc, L2), (va, vc, S.bad)) _ _ (by simp; omega) (fun W h => ⟨⟨hlt, by simp only [fa, fo]; exact hm, h.2.1.2.2, by simp only [fa, fo]⟩, h.2.2⟩) ?_
        simp [e6, fa, fo]
    · have hT : l.take i = l := List.take_of_length_le hge
      rw [hT] at hSe
      subst hSe
      simp [hN, Nat.not_lt.2 hge]
      refine ret0 hC ((pa, pc), (va, vc)) (by simp [hL2]) fun W hp hG => ?_
      have h1 : W.ownsRow 0 44 7 (.slice pa L2.length pc) L2.length ((inosC L2).map CV.val) := by simpa using hp.2.1
      have h2 : W.ownsRow 0 3 1 (.slice va (applyL s l).bad.length vc) (applyL s l).bad.length ((iC (applyL s l).bad).map CV.val) := by simpa using hp.2.2.1
      have h3 := (inos_rows L2 (show InosR W L2 from hG.1.2.2)).sv (by decide) (by simp; omega) h1
      rw [show L2.map Prod.fst = (applyL s l).inos from hG.1.2.1] at h3
      rw [iC_val] at h2
      have h4 := (rowsI.2 rfl : Rows dInt W (applyL s l).bad _).sv (by decide) (by omega) h2
      exact ⟨h3.2, h4.2⟩
end Go.Proofs.YtbbaoeidobdblaaGreat.Sx

/- Models of power, and of a chip whose bits are cleared one by one. -/
set_option linter.unusedVariables false
set_option linter.unusedSimpArgs false
namespace Go.Proofs.YtbbaoeidobdblaaGreat.Sx
open Go
/-- Power: steps left (below 0: as many as may be), the mask, whether it is off, steps done. -/
structure Pw where
  left : Int
  mask : Int
  off : Bool
  done : Int
end Go.Proofs.YtbbaoeidobdblaaGreat.Sx

/- Laws on a map whose keys are one number each (a struct or an array of one int), kept as a list of keys and values: mget up, store, delete, count, range. No program in sight. -/
set_option linter.unusedVariables false
set_option linter.unusedSimpArgs false
namespace Go.Proofs.YtbbaoeidobdblaaGreat.Mx
open Go Go.MapKept
open Go.ChangeMaps (setBlock heap_setBlock_same heap_setBlock_other set_perm)
open Go.Maps (Keyed)
/-! ### lists of keys and values -/
def mget {α : Type} (l : List (Int × α)) (k : Int) : Option α := (l.find? (fun p => p.1 == k)).map (·.2)
theorem mget_cons {α : Type} (p : Int × α) (l : List (Int × α)) (k : Int) : mget (p :: l) k = if p.1 = k then some p.2 else mget l k := by
  unfold mget
  by_cases h : p.1 = k <;> simp [h]
theorem mget_mem {α : Type} {l : List (Int × α)} {k : Int} {v : α} (h : mget l k = some v) : (k, v) ∈ l := by
  unfold mget at h
  rw [Option.map_eq_some_iff] at h
  obtain ⟨p, hp, rfl⟩ := h
  have h1 := List.find?_some hp
  have h2 := List.mem_of_find?_eq_some hp
  have : p.1 = k := by simpa using h1
  subst this
  exact h2
theorem mget_of_mem {α : Type} {l : List (Int × α)} (hn : (l.map Prod.fst).Nodup) {k : Int} {v : α} (h : (k, v) ∈ l) : mget l k = some v := by
  induction l with
  | nil => simp at h
  | cons p l ih =>
    rw [mget_cons]
    rw [List.map_cons, List.nodup_cons] at hn
    rcases List.mem_cons.1 h with rfl | h
    · simp
    · have : p.1 ≠ k := fun e => hn.1 (List.mem_map.2 ⟨(k, v), h, e.symm⟩)
      rw [if_neg this]
      exact ih hn.2 h
/-! ### the map in memory -/
/-- The keys of type kt are one number each. -/
structure KeyFn (P : Program) (kt : TypeId) (kv : Int → Value) : Prop where
  K : Keyed P kt
  key : ∀ x, (Lit.int .i64 x).wf = true → ∃ l, keyOf P kt (kv x) = some l
  inj : ∀ x y, kv x = kv y → x = y

def pr (kv : Int → Value) (p : Int × Value) : Value × Value := (kv p.1, p.2)
def pe (e : MapEntry) : Value × Value := (e.key, e.val)

/-- Block b is a map that has just these keys and values. -/
def MapAt (kv : Int → Value) (w : World) (b : Nat) (l : List (Int × Value)) : Prop :=
  ∃ es clock, w.heap[b]? = some (.map es clock) ∧ Stamped es clock ∧ (es.toList.map pe).Perm (l.map (pr kv)) ∧ ∀ p ∈ l, (Lit.int .i64 p.1).wf = true

section
variable {P : Program} {kt et t : TypeId} {kv : Int → Value} {w : World} {b : Nat} {l : List (Int × Value)}
theorem MapAt.lt (h : MapAt kv w b l) : b < w.heap.size := by
  obtain ⟨es, clock, hb, _⟩ := h
  exact (Array.getElem?_eq_some_iff.1 hb).1
theorem MapAt.block {w' : World} (h : MapAt kv w b l) (hb : w'.heap[b]? = w.heap[b]?) : MapAt kv w' b l := by
  obtain ⟨es, clock, h1, r⟩ := h
  exact ⟨es, clock, hb.trans h1, r⟩
theorem MapAt.kept {w' : World} {row : Option Nat} (h : MapAt kv w b l) (hg : w.grownBy w' row) (hne : some b ≠ row) : MapAt kv w' b l := h.block (hg.block b h.lt hne)
theorem MapAt.alloc (h : MapAt kv w b l) (o : Obj) : MapAt kv (w.alloc o) b l := h.kept (World.grownBy_alloc w o none) (by simp)
theorem MapAt.drew (h : MapAt kv w b l) : MapAt kv w.drew b l := h
theorem MapAt.setCell (h : MapAt kv w b l) {a : Addr} (ha : b ≠ a.block) (u : Value) : MapAt kv (w.setCell a u) b l := h.block (RowKit.Below.heap_setCell _ _ _ _ ha)
theorem MapAt.keys {es : Array MapEntry} (F : KeyFn P kt kv) (hp : (es.toList.map pe).Perm (l.map (pr kv))) (hw : ∀ p ∈ l, (Lit.int .i64 p.1).wf = true) : ∀ e ∈ es.toList, ∃ x, keyOf P kt e.key = some x := by
  intro e he
  have : pe e ∈ l.map (pr kv) := hp.mem_iff.1 (List.mem_map.2 ⟨e, he, rfl⟩)
  obtain ⟨p, hp1, hp2⟩ := List.mem_map.1 this
  obtain ⟨x, hx⟩ := F.key p.1 (hw p hp1)
  exact ⟨x, by rw [← hx, show e.key = kv p.1 from (congrArg Prod.fst hp2).symm]⟩

/-- Where a key is found, or not. -/
theorem MapAt.find {es : Array MapEntry} (F : KeyFn P kt kv) (hst : (l.map Prod.fst).Nodup) (hp : (es.toList.map pe).Perm (l.map (pr kv))) (hw : ∀ p ∈ l, (Lit.int .i64 p.1).wf = true) (k : Int) (hk : (Lit.int .i64 k).wf = true) (w : World) :
    ((Instr.findKey kt (kv k) es.toList).run P w = .ok none w ∧ (∀ e ∈ es.toList, e.key ≠ kv k) ∧ mget l k = none) ∨
    ∃ j e, (Instr.findKey kt (kv k) es.toList).run P w = .ok (some (j, e.val)) w ∧ es.toList[j]? = some e ∧ e.key = kv k ∧ mget l k = some e.val := by
  obtain ⟨x, hx⟩ := F.key k hk
  rcases F.K.find w hx es.toList (MapAt.keys F hp hw) with ⟨h1, h2⟩ | ⟨j, e, h1, h2, h3⟩
  · refine .inl ⟨h1, h2, ?_⟩
    cases hl : mget l k with
    | none => rfl
    | some v =>
      have : pr kv (k, v) ∈ es.toList.map pe := hp.mem_iff.2 (List.mem_map.2 ⟨_, mget_mem hl, rfl⟩)
      obtain ⟨e, he, e2⟩ := List.mem_map.1 this
      exact absurd (congrArg Prod.fst e2) (h2 e he)
  · refine .inr ⟨j, e, h1, h2, h3, ?_⟩
    have : pe e ∈ l.map (pr kv) := hp.mem_iff.1 (List.mem_map.2 ⟨e, List.mem_of_getElem? h2, rfl⟩)
    obtain ⟨p, hp1, hp2⟩ := List.mem_map.1 this
    have h4 : kv p.1 = kv k := (congrArg Prod.fst hp2).trans h3
    have h5 := F.inj _ _ h4
    have h6 : p.2 = e.val := congrArg Prod.snd hp2
    exact mget_of_mem hst (by rw [← h5, ← h6]; exact hp1)

/-- 'len(m)'. -/
theorem MapAt.len (h : MapAt kv w b l) (ht : P.underlying t = some (.map kt et)) (ty : TypeId) : (Builtin.len_ #[t] ty #[.map (some b)]).run P w = .ok (.int .i64 l.length) w := by
  obtain ⟨es, clock, hb, hs, hp, hw⟩ := h
  have : es.size = l.length := by simpa using hp.length_eq
  simp [Builtin.len_, run_underlying ht, MapKept.run_getObj_map hb, Result.andThen, goInt, this]

/-! ### ranging -/
/-- Block r walks over the map in block b; 'todo': what is still to come. -/
def RangeAt (kv : Int → Value) (w : World) (b r : Nat) (l todo : List (Int × Value)) : Prop :=
  ∃ es clock seen c0, w.heap[b]? = some (.map es clock) ∧ Stamped es clock ∧ (es.toList.map pe).Perm (l.map (pr kv)) ∧ (∀ p ∈ l, (Lit.int .i64 p.1).wf = true) ∧
    w.heap[r]? = some (.mapIter (some b) clock seen c0) ∧ clock ≤ c0 ∧ ((leftOf es seen).toList.map pe).Perm (todo.map (pr kv))

theorem RangeAt.map {r : Nat} {todo : List (Int × Value)} (h : RangeAt kv w b r l todo) : MapAt kv w b l := by
  obtain ⟨es, clock, seen, c0, h1, h2, h3, h4, _⟩ := h
  exact ⟨es, clock, h1, h2, h3, h4⟩
theorem RangeAt.lt {r : Nat} {todo : List (Int × Value)} (h : RangeAt kv w b r l todo) : r < w.heap.size := by
  obtain ⟨es, clock, seen, c0, h1, h2, h3, h4, h5, _⟩ := h
  exact (Array.getElem?_eq_some_iff.1 h5).1
theorem RangeAt.ne {r : Nat} {todo : List (Int × Value)} (h : RangeAt kv w b r l todo) : r ≠ b := by
  obtain ⟨es, clock, seen, c0, h1, h2, h3, h4, h5, _⟩ := h
  rintro rfl
  rw [h1] at h5
  cases h5
theorem RangeAt.kept {w' : World} {row : Option Nat} {r : Nat} {todo : List (Int × Value)} (h : RangeAt kv w b r l todo) (hg : w.grownBy w' row) (hb : some b ≠ row) (hr : some r ≠ row) : RangeAt kv w' b r l todo := by
  have h1 := h.lt
  have h2 := h.map.lt
  obtain ⟨es, clock, seen, c0, e1, e2, e3, e4, e5, e6⟩ := h
  exact ⟨es, clock, seen, c0, (hg.block b h2 hb).trans e1, e2, e3, e4, (hg.block r h1 hr).trans e5, e6⟩
theorem RangeAt.alloc {r : Nat} {todo : List (Int × Value)} (h : RangeAt kv w b r l todo) (o : Obj) : RangeAt kv (w.alloc o) b r l todo := h.kept (World.grownBy_alloc w o none) (by simp) (by simp)

theorem MapAt.range (h : MapAt kv w b l) (ht : P.underlying t = some (.map kt et)) :
    ∃ w', (Instr.range t (.map (some b))).run P w = .ok (.pointer (some ⟨w.heap.size, 0, none⟩)) w' ∧ RangeAt kv w' b w.heap.size l l ∧ w.grownBy w' none ∧ w'.heap.size = w.heap.size + 1 := by
  have hlt := h.lt
  obtain ⟨es, clock, hb, hs, hp, hw⟩ := h
  refine ⟨_, run_range_map w t kt et b es clock ht hb, ⟨es, clock, #[], clock, ((MapKept.heap_alloc w _).2 b hlt).trans hb, hs, hp, hw, (MapKept.heap_alloc w _).1, Nat.le_refl _, ?_⟩, World.grownBy_alloc w _ none, by simp⟩
  have : (leftOf es #[]).toList = es.toList := by simp [leftOf]
  rw [this]; exact hp

theorem left_push {es : List MapEntry} (seen : Array Nat) {e : MapEntry} (hn : (es.map (·.born)).Nodup) (he : e ∈ es) (hs : seen.contains e.born = false) :
    (es.filter fun x => !seen.contains x.born).Perm (e :: es.filter fun x => !(seen.push e.born).contains x.born) := by
  induction es with
  | nil => simp at he
  | cons a es ih =>
    rw [List.map_cons, List.nodup_cons] at hn
    rcases List.mem_cons.1 he with rfl | he
    · have h1 : ∀ x ∈ es, (!(seen.push e.born).contains x.born) = !seen.contains x.born := by
        intro x hx
        rw [contains_push]
        have : (x.born == e.born) = false := by
          rw [beq_eq_false_iff_ne]
          exact fun h => hn.1 (List.mem_map.2 ⟨x, hx, h⟩)
        simp [this]
      rw [List.filter_cons_of_pos (by simp only [hs]; rfl), List.filter_cons_of_neg (by rw [contains_push]; simp), List.filter_congr h1]
    · have h1 : (a.born == e.born) = false := by
        rw [beq_eq_false_iff_ne]
        exact fun h => hn.1 (List.mem_map.2 ⟨e, he, h.symm⟩)
      have ih := ih hn.2 he
      by_cases ha : seen.contains a.born = true
      · rw [List.filter_cons_of_neg (by rw [ha]; simp), List.filter_cons_of_neg (by rw [contains_push, ha]; simp)]
        exact ih
      · have ha' : seen.contains a.born = false := by simpa using ha
        rw [List.filter_cons_of_pos (by rw [ha']; rfl), List.filter_cons_of_pos (by rw [contains_push, ha', h1]; rfl)]
        exact (ih.cons a).trans (List.Perm.swap _ _ _)

/-- A step of the range: nothing is left; or one of those that are left comes, whichever. -/
theorem RangeAt.next {r : Nat} {todo : List (Int × Value)} (h : RangeAt kv w b r l todo) (F : KeyFn P kt kv) (ty : TypeId) :
    (todo = [] ∧ (Instr.next (.pointer (some ⟨r, 0, none⟩)) false ty).run P w = .ok (.tuple #[.bool false]) w) ∨
    ∃ k v todo' w', todo.Perm ((k, v) :: todo') ∧ (k, v) ∈ l ∧ (Instr.next (.pointer (some ⟨r, 0, none⟩)) false ty).run P w = .ok (.tuple #[.bool true, kv k, v]) w' ∧ RangeAt kv w' b r l todo' ∧
      w.grownBy w' (some r) ∧ w'.heap.size = w.heap.size ∧ (Instr.entry (.pointer (some ⟨r, 0, none⟩))).run P w' = .ok (.tuple #[kv k, v]) w' := by
  have hne := h.ne
  obtain ⟨es, clock, seen, c0, hb, hs, hp, hw, hr, hc, hl⟩ := h
  rcases run_next_at (P := P) w ty r b clock c0 seen es clock hr hb hs.1 hc with ⟨h0, hrun⟩ | ⟨e, he, w1, hal, hrun⟩
  · refine .inl ⟨?_, hrun⟩
    have : (leftOf es seen).toList = [] := by simpa using h0
    rw [this] at hl
    have := hl.length_eq
    simpa using this.symm
  · have hm := mem_left he
    have hpm : (leftOf es seen).toList.Perm (e :: (leftOf es (seen.push e.born)).toList) := by
      simp only [leftOf, Array.toList_filter]
      exact left_push seen hs.2.1 hm.1 hm.2
    have hl' : (pe e :: (leftOf es (seen.push e.born)).toList.map pe).Perm (todo.map (pr kv)) := ((hpm.map pe).symm).trans hl
    obtain ⟨q, hq, hqe⟩ := List.mem_map.1 (hl'.mem_iff.1 (List.mem_cons_self ..))
    obtain ⟨s, u, hsu⟩ := List.append_of_mem hq
    have hpq : todo.Perm (q :: (s ++ u)) := by rw [hsu]; exact List.perm_middle
    have hr1 : w1.heap[r]? = some (.mapIter (some b) clock seen c0) := by rcases hal with rfl | rfl <;> exact hr
    have hb1 : w1.heap[b]? = some (.map es clock) := by rcases hal with rfl | rfl <;> exact hb
    have hsz1 : w1.heap.size = w.heap.size := by rcases hal with rfl | rfl <;> rfl
    have hrlt : r < w1.heap.size := (Array.getElem?_eq_some_iff.1 hr1).1
    have hrr : (setBlock w1 r (.mapIter (some b) clock (seen.push e.born) clock)).heap[r]? = some (.mapIter (some b) clock (seen.push e.born) clock) := by simp [setBlock, hrlt]
    have hro : ∀ i, i ≠ r → (setBlock w1 r (.mapIter (some b) clock (seen.push e.born) clock)).heap[i]? = w1.heap[i]? := fun i hi => by simp [setBlock, Ne.symm hi]
    have e1 : e.key = kv q.1 := (congrArg Prod.fst hqe).symm
    have e2 : e.val = q.2 := (congrArg Prod.snd hqe).symm
    have hql : q ∈ l := by
      have : pe e ∈ l.map (pr kv) := hp.mem_iff.1 (List.mem_map.2 ⟨e, hm.1, rfl⟩)
      obtain ⟨q', hq', e'⟩ := List.mem_map.1 this
      have h7 : kv q'.1 = kv q.1 := (congrArg Prod.fst e').trans (congrArg Prod.fst hqe).symm
      have h8 : q'.2 = q.2 := (congrArg Prod.snd e').trans (congrArg Prod.snd hqe).symm
      have : q' = q := Prod.ext (F.inj _ _ h7) h8
      rw [← this]; exact hq'
    refine .inr ⟨q.1, q.2, (s ++ u), _, hpq, hql, by rw [← e1, ← e2]; exact hrun, ⟨es, clock, seen.push e.born, clock, (hro b (fun e => hne e.symm)).trans hb1, hs, hp, hw, hrr, Nat.le_refl _, ?_⟩, ⟨?_, ?_, ?_, ?_, ?_⟩, ?_, ?_⟩
    · have h3 : (pe e :: (leftOf es (seen.push e.born)).toList.map pe).Perm (pe e :: ((s ++ u)).map (pr kv)) := hl'.trans (((hpq.map (pr kv))).trans (by rw [List.map_cons, hqe]))
      exact h3.cons_inv
    · rcases hal with rfl | rfl <;> rfl
    · rcases hal with rfl | rfl <;> rfl
    · rcases hal with rfl | rfl <;> rfl
    · rcases hal with rfl | rfl <;> simp [setBlock]
    · intro k _ hk
      rw [hro k (fun e => hk (by rw [e]))]
      rcases hal with rfl | rfl <;> rfl
    · rcases hal with rfl | rfl <;> simp [setBlock]
    · rw [← e1, ← e2]
      exact run_entry_at _ r b clock seen es clock e hrr ((hro b (fun e => hne e.symm)).trans hb1) hm.1 hs.2.1
end
/-! ### at the operations, for the walk -/
section
variable {P : Program} (w : World) {ops : Array Oper} {rest : List Oper} {o : Oper} {a : Act} {Q : Exit → Act → World → Prop} {kt et t : TypeId} {kv : Int → Value}
end
/-! ### lists of keys and values of another shape -/
section
variable {α β : Type} (f : α → β)
def mv (l : List (Int × α)) : List (Int × β) := l.map fun p => (p.1, f p.2)
end
end Go.Proofs.YtbbaoeidobdblaaGreat.Mx

/- Sx, part 14: maps of one's own (keys are one number each). -/
set_option linter.unusedVariables false
set_option linter.unusedSimpArgs false
namespace Go.Proofs.YtbbaoeidobdblaaGreat.Sx
open Go
/-- A map of one's own: these keys, and values. -/
def mapR (kv : Int → Value) (g : Nat) (l : List (Int × Value)) : Res := .usr fun S W => (∀ b, S b ↔ b = g) ∧ Mx.MapAt kv W g l
open Go.MapKept Go.ChangeMaps Mx in
/-- An entry of a map: its key, and its stamp. -/
def Born (kv : Int → Value) (w : World) (b : Nat) (k : Int) (s : Nat) : Prop := ∃ (es : Array MapEntry) (clock j : Nat) (e : MapEntry), w.heap[b]? = some (.map es clock) ∧ es.toList[j]? = some e ∧ e.key = kv k ∧ e.born = s
theorem Born.block {kv : Int → Value} {w w' : World} {b : Nat} {k : Int} {s : Nat} (h : Born kv w b k s) (hb : w'.heap[b]? = w.heap[b]?) : Born kv w' b k s := by
  obtain ⟨es, clock, j, e, h1, r⟩ := h
  exact ⟨es, clock, j, e, hb.trans h1, r⟩
section
open Go.MapKept Go.ChangeMaps Mx
variable {P : Program} {kt et t : TypeId} {kv : Int → Value} {w : World} {b : Nat} {l : List (Int × Value)}
end
section
variable {P : Program} {C : Ctx} {T : Ty} {res : List ResultVar} {p : Pos} {tm : Tm} {m : Mem}
end
end Go.Proofs.YtbbaoeidobdblaaGreat.Sx

/- That an array of one int is a key that the laws on maps take. -/
set_option linter.unusedVariables false
set_option linter.unusedSimpArgs false
namespace Go.Proofs.YtbbaoeidobdblaaGreat.Keya
open Go.WideMaps Go.Maps
theorem laidOut : laidOutB Tryz.prog = true := by kernel_rfl
def kv1 (x : Int) : Value := .agg #[.int .i64 x]
end Go.Proofs.YtbbaoeidobdblaaGreat.Keya

/- power: New, Step, Mask; nor.Chip: Geometry, ask. -/
set_option linter.unusedVariables false
set_option linter.unusedSimpArgs false
namespace Go.Proofs.YtbbaoeidobdblaaGreat.Sx
open Go
attribute [local simp ↓] ifb_true' ifb_false'
attribute [local simp] ifb_true ifb_false ifb_eq sx argsT find ev evOp evs evo evBin evInt evStr evNil evNilA ptrA slcA isNoneA asB evLoad look del cellsB evUn evConv kdec fld evFieldA evField evIdxA evIdx evSlc bndL bndH evLen mmi put resV guardV gvL setO tupV cellsOf ones one upd lits nv exitTo SV.val CV.val TI.agg rdyA allR keepB scan simpO gsp isS subs keepT pickT wr memN pubs Res.fact Region.binds bld rest give delL back Res.eqv vi vb num Sv.val undef
abbrev powB (p : Pw) (fl : Value) : List CV := [.v (.int .i64 p.left), .v (.int .u8 p.mask), .b p.off, .v fl, .v (.int .i64 p.done)]
/-- A chip: its form, where its parts stand, its power, its bytes, how often each sector was erased. -/
structure Cp where
  g : Geo
  gc : Nat
  gp : Nat
  gb : Nat
  gm : Nat
  cap : Nat
  bc : Nat
  p : Pw
  fl : Value
  b : List Int
  er : List (Int × Int)
abbrev kv1 := Keya.kv1
abbrev Cp.chip (c : Cp) : Res := .box c.gc 105 [.v (.int .i64 c.g.sectors), .v (.int .i64 c.g.sector), .v (.int .i64 c.g.blocks), .v (.int .i64 c.g.pages), .v (.int .i64 c.g.page), .bp 1001 c.gp 0, .rw 1002 (some ⟨c.gb, 0, none⟩) c.b.length c.cap, .v (.map (some c.gm))]
abbrev Cp.pow (c : Cp) : Res := .box c.gp 108 (powB c.p c.fl)
abbrev Cp.row (c : Cp) : Res := .row (some ⟨c.gb, 0, none⟩) c.b.length c.bc 5 1 (bC c.b)
abbrev Cp.map (c : Cp) : Res := mapR kv1 c.gm (Mx.mv (Value.int .i64) c.er)
abbrev Cp.res (c : Cp) : List Res := [c.chip, c.pow, c.row, c.map]
abbrev ptrV (g : Nat) : Value := .pointer (some ⟨g, 0, none⟩)
end Go.Proofs.YtbbaoeidobdblaaGreat.Sx

/- half.ask, half.Wipe. -/
set_option linter.unusedVariables false
set_option linter.unusedSimpArgs false
namespace Go.Proofs.YtbbaoeidobdblaaGreat.Sx
open Go
attribute [local simp ↓] ifb_true' ifb_false'
attribute [local simp] ifb_true ifb_false ifb_eq sx argsT find ev evOp evs evo evBin evInt evStr evNil evNilA ptrA slcA isNoneA asB evLoad look del cellsB evUn evConv kdec fld evFieldA evField evIdxA evIdx evSlc bndL bndH evLen mmi put resV guardV gvL setO tupV cellsOf ones one upd lits nv exitTo SV.val CV.val TI.agg rdyA allR keepB scan simpO gsp isS subs keepT pickT wr memN pubs Res.fact Region.binds bld rest give delL back Res.eqv vi vb num Sv.val undef
/-- What a chip is like that is used. -/
structure Cp.fit (c : Cp) : Prop where
  right : c.g.right
  len : (c.b.length : Int) = c.g.sectors * c.g.sector
  cap : c.b.length ≤ c.cap
  left : c.p.left ≤ 9223372036854775807
/-- The same chip, later on. -/
structure Cp.same (c d : Cp) : Prop where
  g : d.g = c.g
  gc : d.gc = c.gc
  gp : d.gp = c.gp
  gb : d.gb = c.gb
  gm : d.gm = c.gm
  cap : d.cap = c.cap
  bc : d.bc = c.bc
  fl : d.fl = c.fl
  len : d.b.length = c.b.length
theorem Cp.same.refl (c : Cp) : c.same c := ⟨rfl, rfl, rfl, rfl, rfl, rfl, rfl, rfl, rfl⟩
theorem Cp.same.trans {a b c : Cp} (h : a.same b) (k : b.same c) : a.same c := ⟨k.g.trans h.g, k.gc.trans h.gc, k.gp.trans h.gp, k.gb.trans h.gb, k.gm.trans h.gm, k.cap.trans h.cap, k.bc.trans h.bc, k.fl.trans h.fl, k.len.trans h.len⟩
def halfN (c : Cp) : Nat := (c.g.sectors / 2).toNat
end Go.Proofs.YtbbaoeidobdblaaGreat.Sx

/- sum.Of, frame.Body. -/
set_option linter.unusedVariables false
set_option linter.unusedSimpArgs false
namespace Go.Proofs.YtbbaoeidobdblaaGreat.Sx
open Go
attribute [local simp ↓] ifb_true' ifb_false'
attribute [local simp] ifb_true ifb_false ifb_eq sx argsT find ev evOp evs evo evBin evInt evStr evNil evNilA ptrA slcA isNoneA asB evLoad look del cellsB evUn evConv kdec fld evFieldA evField evIdxA evIdx evSlc bndL bndH evLen mmi put resV guardV gvL setO tupV cellsOf ones one upd lits nv exitTo SV.val CV.val TI.agg rdyA allR keepB scan simpO gsp isS subs keepT pickT wr memN pubs Res.fact Region.binds bld rest give delL back Res.eqv vi vb num Sv.val undef
/-- The sum over bytes: its two parts. -/
def sumP (l : List Int) : Int × Int := l.foldl (fun s x => ((s.1 + x) % 65521, (s.2 + (s.1 + x) % 65521) % 65521)) (1, 0)
def sumM (l : List Int) : Int := IntKind.u32.wrap (((IntKind.u32.wrap ((sumP l).2 * 2 ^ min 16 IntKind.u32.bits) % 2 ^ IntKind.u32.bits).toNat ||| ((sumP l).1 % 2 ^ IntKind.u32.bits).toNat : Nat) : Int)
/-- A record without its flag. -/
def bodyB (l : List Int) : List Int := lowB l.length 2 ++ lowB (sumM (lowB l.length 2 ++ l)) 4 ++ l
end Go.Proofs.YtbbaoeidobdblaaGreat.Sx

/- half.Append. -/
set_option linter.unusedVariables false
set_option linter.unusedSimpArgs false
namespace Go.Proofs.YtbbaoeidobdblaaGreat.Sx
open Go
attribute [local simp ↓] ifb_true' ifb_false'
attribute [local simp] ifb_true ifb_false ifb_eq sx argsT find ev evOp evs evo evBin evInt evStr evNil evNilA ptrA slcA isNoneA asB evLoad look del cellsB evUn evConv kdec fld evFieldA evField evIdxA evIdx evSlc bndL bndH evLen mmi put resV guardV gvL setO tupV cellsOf ones one upd lits nv exitTo SV.val CV.val TI.agg rdyA allR keepB scan simpO gsp isS subs keepT pickT wr memN pubs Res.fact Region.binds bld rest give delL back Res.eqv vi vb num Sv.val undef
/-- How many bytes a half has. -/
def halfSz (c : Cp) : Nat := halfN c * c.g.sector.toNat
theorem Cp.same.halfN {c d : Cp} (h : c.same d) : halfN d = halfN c := by unfold Sx.halfN; rw [h.g]
theorem Cp.same.halfSz {c d : Cp} (h : c.same d) : halfSz d = halfSz c := by unfold Sx.halfSz; rw [h.halfN, h.g]
end Go.Proofs.YtbbaoeidobdblaaGreat.Sx

/- journal.first. -/
set_option linter.unusedVariables false
set_option linter.unusedSimpArgs false
namespace Go.Proofs.YtbbaoeidobdblaaGreat.Sx
open Go
attribute [local simp ↓] ifb_true' ifb_false'
attribute [local simp] ifb_true ifb_false ifb_eq sx argsT find ev evOp evs evo evBin evInt evStr evNil evNilA ptrA slcA isNoneA asB evLoad look del cellsB evUn evConv kdec fld evFieldA evField evIdxA evIdx evSlc bndL bndH evLen mmi put resV guardV gvL setO tupV cellsOf ones one upd lits nv exitTo SV.val CV.val TI.agg rdyA allR keepB scan simpO gsp isS subs keepT pickT wr memN pubs Res.fact Region.binds bld rest give delL back Res.eqv vi vb num Sv.val undef
def firstB (e : Int) (s : Sta) : List Int := intB e ++ deedsB (wholeL s)
theorem firstB_length (e : Int) (s : Sta) : (firstB e s).length = 8 + (deedsB (wholeL s)).length := by simp [firstB, intB_length]
end Go.Proofs.YtbbaoeidobdblaaGreat.Sx

/- journal.Journal: room, State. -/
set_option linter.unusedVariables false
set_option linter.unusedSimpArgs false
namespace Go.Proofs.YtbbaoeidobdblaaGreat.Sx
open Go
attribute [local simp ↓] ifb_true' ifb_false'
attribute [local simp] ifb_true ifb_false ifb_eq sx argsT find ev evOp evs evo evBin evInt evStr evNil evNilA ptrA slcA isNoneA asB evLoad look del cellsB evUn evConv kdec fld evFieldA evField evIdxA evIdx evSlc bndL bndH evLen mmi put resV guardV gvL setO tupV cellsOf ones one upd lits nv exitTo SV.val CV.val TI.agg rdyA allR keepB scan simpO gsp isS subs keepT pickT wr memN pubs Res.fact Region.binds bld rest give delL back Res.eqv vi vb num Sv.val undef
/-- A journal: its chip, where it stands, the half in use, the epoch, how much is used, the state, whether it ended. -/
structure Jn where
  c : Cp
  gj : Nat
  half : Nat
  ep : Int
  used : Nat
  s : Sta
  si : Sl
  sb : Sl
  ended : Bool
abbrev jnC (j : Jn) : List CV := [.v (ptrV j.c.gc), .v (.int .i64 (j.half : Nat)), .v (.int .i64 j.ep), .v (.int .i64 (j.used : Nat)), .v (.int .i64 j.s.next), .v (.slice j.si.1 j.s.inos.length j.si.2), .v (.slice j.sb.1 j.s.bad.length j.sb.2), .b j.ended]
abbrev Jn.box (j : Jn) : Res := .box j.gj 111 (jnC j)
abbrev Jn.res (j : Jn) : List Res := [j.c.chip, j.c.pow, j.c.row, j.c.map, j.box]
end Go.Proofs.YtbbaoeidobdblaaGreat.Sx

/- space.Journal of deeds. -/
set_option linter.unusedVariables false
set_option linter.unusedSimpArgs false
namespace Go.Proofs.YtbbaoeidobdblaaGreat.Sx
open Go
attribute [local simp ↓] ifb_true' ifb_false'
attribute [local simp] ifb_true ifb_false ifb_eq sx argsT find ev evOp evs evo evBin evInt evStr evNil evNilA ptrA slcA isNoneA asB evLoad look del cellsB evUn evConv kdec fld evFieldA evField evIdxA evIdx evSlc bndL bndH evLen mmi put resV guardV gvL setO tupV cellsOf ones one upd lits nv exitTo SV.val CV.val TI.agg rdyA allR keepB scan simpO gsp isS subs keepT pickT wr memN pubs Res.fact Region.binds bld rest give delL back Res.eqv vi vb num Sv.val undef
set_option maxRecDepth 100000 in
set_option maxHeartbeats 4000000 in
theorem spaceJournal0 (w : World) (I : Nat → Prop) (hI : ∀ b, I b → b < w.heap.size) (s : Sta) (si sb : Sl) (g : Geo) {a : Option Addr} {n c : Nat} (l : List Dee) (h : ∀ W, Ext I w W → StaR W s si sb) (hd : ∀ W, Ext I w W → Sv.ok dDee W (a, n, c) l) (hl : s.inos.length + l.length ≤ 1000000000 ∧ s.bad.length + l.length ≤ 1000000000) (hl1 : (applyL s l).inos.length + (applyL s l).bad.length ≤ 1000000000) (hl2 : wholeB (applyL s l) ≤ 100000000000) :
    Fn0 Tryz.prog 51 #[.agg (staC s si sb).toArray, .agg (geoC g).toArray, .slice a n c] w I (fun b : Bool => .bool b) (fun y W => y = decide ((wholeB (applyL s l) : Int) + 15 ≤ if g.right then g.sectors / 2 * g.sector else 0)) := by
  obtain ⟨ia, ic⟩ := si
  obtain ⟨ba, bc⟩ := sb
  refine enter (svs := [.ag ((staC s (ia, ic) (ba, bc)).map .v), .ag ((geoC g).map .v), .c (.v (.slice a n c))]) tysOk Tryz.func51 rfl Tryz.ntmps51 Tryz.results51 (by kernel_rfl) (by simp) hI (fun W => StaR W s (ia, ic) (ba, bc) ∧ Sv.ok dDee W (a, n, c) l) (fun W e => ⟨h W e, hd W e⟩) fun C hC hN ok => ?_
  simp [hN]
  intro g1 g2
  refine call0 ok rfl rfl rfl (fun w I hI hG => apply0 w I hI s (ia, ic) (ba, bc) (a := a) (n := n) (c := c) l (fun W e => (hG W e).1) (fun W e => (hG W e).2) hl) fun y W _ => ?_
  obtain ⟨⟨ja, jc⟩, ⟨ca, cc⟩⟩ := y
  obtain ⟨s2, hs2⟩ : ∃ s2, s2 = applyL s l := ⟨_, rfl⟩
  rw [← hs2] at hl1 hl2 hC
  simp only [← hs2]
  simp [hN]
  refine call0 ok rfl rfl rfl (fun w I hI hG => whole0 w I hI s2 (ja, jc) (ca, cc) (fun W e => (hG W e).1) hl1) fun y W _ => ?_
  obtain ⟨la, ln, lc⟩ := y
  simp [hN]
  refine call0 ok rfl rfl rfl (fun w I hI hG => deeds0 w I hI (wholeL s2) (la, ln, lc) (fun W e => (hG W e).1) hl2) fun y W hy => ?_
  obtain ⟨da, dn, dc⟩ := y
  obtain rfl : dn = wholeB s2 := hy.1
  have e1 : IntKind.i64.wrap (8 + (wholeB s2 : Int)) = 8 + wholeB s2 := w64 (by omega) (by omega)
  simp [hN, e1]
  refine drawK ok mixed (by kernel_rfl) ?_
  simp (maxSteps := 2000000) -implicitDefEqProofs [hN]
  refine call0 ok rfl rfl rfl (fun w I hI hG => frameSize0 w I hI (8 + (wholeB s2 : Int)) (by omega) (by omega)) fun y W hy => ?_
  subst hy
  simp (maxSteps := 2000000) -implicitDefEqProofs [hN]
  refine call0 ok rfl rfl rfl (fun w I hI hG => halfSize0 w I hI g) fun y W hy => ?_
  subst hy
  simp (maxSteps := 2000000) -implicitDefEqProofs [hN]
  have e2 : 8 + (wholeB s2 : Int) + 7 = wholeB s2 + 15 := by omega
  exact ret0 hC _ rfl fun W _ _ => by rw [e2]
end Go.Proofs.YtbbaoeidobdblaaGreat.Sx

/- Plain: chips whose power stays. -/
set_option linter.unusedVariables false
set_option linter.unusedSimpArgs false
namespace Go.Proofs.YtbbaoeidobdblaaGreat.Sx
open Go
/-- Power that stays. -/
def live (p : Pw) : Prop := p.left < 0 ∧ p.off = false
/-- So many bytes are clean, from somewhere on. -/
def clean (b : List Int) (o n : Nat) : Prop := ∀ i, o ≤ i → i < o + n → b[i]? = some 255
theorem clean.mono {b : List Int} {o n o' n' : Nat} (h : clean b o n) (h1 : o ≤ o') (h2 : o' + n' ≤ o + n) : clean b o' n' := fun i h3 h4 => h i (by omega) (by omega)
/-- A record: its body, and its flag. -/
def recB (l : List Int) : List Int := bodyB l ++ [0]
end Go.Proofs.YtbbaoeidobdblaaGreat.Sx

/- Plain: a journal whose power stays: committed, or no room. -/
set_option linter.unusedVariables false
set_option linter.unusedSimpArgs false
namespace Go.Proofs.YtbbaoeidobdblaaGreat.Sx
open Go
structure Jok (j : Jn) : Prop where
  fit : j.c.fit
  half : j.half < 2
  live : live j.c.p
  ended : j.ended = false
  used : j.used ≤ halfSz j.c
  clean : clean j.c.b (j.half * halfSz j.c + j.used) (halfSz j.c - j.used)
  ep : 1 ≤ j.ep ∧ j.ep ≤ 2147483647
end Go.Proofs.YtbbaoeidobdblaaGreat.Sx

/- Plain: numbers, texts, inodes and deeds, read from bytes. -/
set_option linter.unusedVariables false
set_option linter.unusedSimpArgs false
namespace Go.Proofs.YtbbaoeidobdblaaGreat.Sx
open Go
/-- The number that bytes are, the lowest first. -/
def valB : List Int → Int
  | [] => 0
  | x :: r => x + 256 * valB r
/-- Where one is, and the error (0: none). -/
abbrev Rs := Nat × Int
def getR (l : List Int) (r : Rs) (n : Nat) : Int × Rs :=
  if r.2 ≠ 0 then (0, r) else if l.length < r.1 + n then (0, (r.1 + n, 3)) else (valB ((l.drop r.1).take n), (r.1 + n, 0))
def intR (l : List Int) (r : Rs) : Int × Rs := (IntKind.i64.wrap (getR l r 8).1, (getR l r 8).2)
/-- A text of bytes. -/
def txtOf (l : List Int) : ByteArray := ⟨(l.map fun x => UInt8.ofNat x.toNat).toArray⟩
def textR (l : List Int) (r : Rs) : ByteArray × Rs :=
  if r.2 ≠ 0 then (emp, r)
  else if l.length < r.1 + 4 then (emp, (0, 3))
  else if l.length < r.1 + 4 + (valB ((l.drop r.1).take 4)).toNat then (emp, (0, 3))
  else (txtOf ((l.drop (r.1 + 4)).take (valB ((l.drop r.1).take 4)).toNat), (r.1 + 4 + (valB ((l.drop r.1).take 4)).toNat, 0))
def entR (l : List Int) (r : Rs) : Ent × Rs := (⟨(textR l r).1, (intR l (textR l r).2).1⟩, (intR l (textR l r).2).2)
def rnR (l : List Int) (r : Rs) : Rn × Rs := (⟨(intR l r).1, (intR l (intR l r).2).1, (intR l (intR l (intR l r).2).2).1⟩, (intR l (intR l (intR l r).2).2).2)
def manyR {α : Type} (f : Rs → α × Rs) : Nat → Rs → List α × Rs
  | 0, r => ([], r)
  | n + 1, r => if r.2 ≠ 0 then ([], r) else ((f r).1 :: (manyR f n (f r).2).1, (manyR f n (f r).2).2)
/-- Behind i numbers. -/
def nthR (l : List Int) (r : Rs) : Nat → Rs
  | 0 => r
  | i + 1 => (intR l (nthR l r i)).2
def inoA (l : List Int) (r : Rs) := textR l (nthR l r 4)
def inoN (l : List Int) (r : Rs) := getR l (inoA l r).2 4
def inoE (l : List Int) (r : Rs) := manyR (entR l) (inoN l r).1.toNat (inoN l r).2
def inoM (l : List Int) (r : Rs) := getR l (inoE l r).2 4
def inoU (l : List Int) (r : Rs) := manyR (rnR l) (inoM l r).1.toNat (inoM l r).2
def inoR (l : List Int) (r : Rs) : Ino × Rs := (⟨(intR l r).1, (intR l (nthR l r 1)).1, (intR l (nthR l r 2)).1, (intR l (nthR l r 3)).1, (inoA l r).1, (inoE l r).1, (inoU l r).1⟩, (inoU l r).2)
def deeR (l : List Int) (o : Nat) : Dee × Rs :=
  if (getR l (o, 0) 1).1 = 1 ∨ (getR l (o, 0) 1).1 = 3 ∨ (getR l (o, 0) 1).1 = 4 then (⟨(getR l (o, 0) 1).1, (intR l (getR l (o, 0) 1).2).1, inoZ⟩, (intR l (getR l (o, 0) 1).2).2)
  else if (getR l (o, 0) 1).1 = 2 then (⟨2, 0, (inoR l (getR l (o, 0) 1).2).1⟩, (inoR l (getR l (o, 0) 1).2).2)
  else (⟨(getR l (o, 0) 1).1, 0, inoZ⟩, ((getR l (o, 0) 1).2.1, 5))
/-- Deeds, from a place on: what they are, and the error (then none are). -/
def parseN (l : List Int) : Nat → Nat → List Dee × Int
  | 0, _ => ([], 0)
  | f + 1, o => if l.length ≤ o then ([], 0) else if (deeR l o).2.2 ≠ 0 then ([], (deeR l o).2.2) else if (parseN l f (deeR l o).2.1).2 ≠ 0 then ([], (parseN l f (deeR l o).2.1).2) else ((deeR l o).1 :: (parseN l f (deeR l o).2.1).1, 0)
def parseM (l : List Int) : List Dee × Int := parseN l l.length 0
end Go.Proofs.YtbbaoeidobdblaaGreat.Sx

/- Sx, part 16: bytes as a text; a part of an array; how often a byte is among bytes (bytealg.Count). -/
set_option linter.unusedVariables false
set_option linter.unusedSimpArgs false
namespace Go.Proofs.YtbbaoeidobdblaaGreat.Sx
open Go
section
variable {P : Program} {C : Ctx} {T : Ty} {res : List ResultVar} {p : Pos} {tm : Tm} {m : Mem}
/-- All that is known is told anew: less slots, less of one's own, less knowledge. -/
theorem cutAt (ok : Okc P T C res) (tm0 : Tm) (G0 : World → Prop) (rs0 : List (Nat × Res)) (h : sx T C res 1000 p tm0 ⟨fun _ => True, G0, rs0⟩) : ∀ tm m, (∀ W, m.G W → G0 W) → subs tm tm0 ∧ keepB m.rs rs0 → At C p tm m :=
  fun tm m hG hs a w cs hR hJ => ok.sx h a w cs (hR.sub (Sub.of hs.1)) (hJ.weaken (fun _ _ => trivial) hG (keepB_mem hs.2))
/-- Many ends have one road on. -/
theorem cutK {Goal : Prop} {p : Pos} (ok : Okc P T C res) (tm0 : Tm) (G0 : World → Prop) (rs0 : List (Nat × Res)) (rest : sx T C res 1000 p tm0 ⟨fun _ => True, G0, rs0⟩) (main : (∀ tm m, (∀ W, m.G W → G0 W) → subs tm tm0 ∧ keepB m.rs rs0 → At C p tm m) → Goal) : Goal := main (cutAt ok tm0 G0 rs0 rest)
end
end Go.Proofs.YtbbaoeidobdblaaGreat.Sx

/- codec.Get, GetInt, GetText. -/
set_option linter.unusedVariables false
set_option linter.unusedSimpArgs false
namespace Go.Proofs.YtbbaoeidobdblaaGreat.Sx
open Go
attribute [local simp ↓] ifb_true' ifb_false'
attribute [local simp] ifb_true ifb_false ifb_eq sx argsT find ev evOp evs evo evBin evInt evStr evNil evNilA ptrA slcA isNoneA asB evLoad look del cellsB evUn evConv kdec fld evFieldA evField evIdxA evIdx evSlc bndL bndH evLen mmi put resV guardV gvL setO tupV cellsOf ones one upd lits nv exitTo SV.val CV.val TI.agg rdyA allR keepB scan simpO gsp isS subs keepT pickT wr memN pubs Res.fact Region.binds bld rest give delL back Res.eqv vi vb num Sv.val undef
/-- A number of k bytes, from a place on: the number, and the error. -/
def getM (xs : List Int) (o k : Nat) : Int × Int := if xs.length < o + k then (0, 3) else (valB ((xs.drop o).take k), 0)
end Go.Proofs.YtbbaoeidobdblaaGreat.Sx

/- Bytes of a chip: slices.Clone of a part of a row that is lent, nor.Chip.Read, half.Read. -/
set_option linter.unusedVariables false
set_option linter.unusedSimpArgs false
namespace Go.Proofs.YtbbaoeidobdblaaGreat.Sx
open Go
attribute [local simp ↓] ifb_true' ifb_false'
attribute [local simp] ifb_true ifb_false ifb_eq sx argsT find ev evOp evs evo evBin evInt evStr evNil evNilA ptrA slcA isNoneA asB evLoad look del cellsB evUn evConv kdec fld evFieldA evField evIdxA evIdx evSlc bndL bndH evLen mmi put resV guardV gvL setO tupV cellsOf ones one upd lits nv exitTo SV.val CV.val TI.agg rdyA allR keepB scan simpO gsp isS subs keepT pickT wr memN pubs Res.fact Region.binds bld rest give delL back Res.eqv vi vb num Sv.val undef
section
variable {P : Program} {C : Ctx} {T : Ty} {res : List ResultVar} {p : Pos} {tm : Tm} {m : Mem}
end
/-- A half's bytes. -/
def halfB (c : Cp) (h : Nat) : List Int := (c.b.drop (h * halfSz c)).take (halfSz c)
end Go.Proofs.YtbbaoeidobdblaaGreat.Sx

/- frame: next, Scan; bytes.Count of one byte. -/
set_option linter.unusedVariables false
set_option linter.unusedSimpArgs false
namespace Go.Proofs.YtbbaoeidobdblaaGreat.Sx
open Go
attribute [local simp ↓] ifb_true' ifb_false'
attribute [local simp] ifb_true ifb_false ifb_eq sx argsT find ev evOp evs evo evBin evInt evStr evNil evNilA ptrA slcA isNoneA asB evLoad look del cellsB evUn evConv kdec fld evFieldA evField evIdxA evIdx evSlc bndL bndH evLen mmi put resV guardV gvL setO tupV cellsOf ones one upd lits nv exitTo SV.val CV.val TI.agg rdyA allR keepB scan simpO gsp isS subs keepT pickT wr memN pubs Res.fact Region.binds bld rest give delL back Res.eqv vi vb num Sv.val undef
/-- What is in the record at the beginning of bytes, if one that counts stands there. -/
def nextM (b : List Int) : Option (List Int) :=
  if b.length < 2 then none
  else if 65000 < valB (b.take 2) ∨ b.length < (valB (b.take 2)).toNat + 7 then none
  else if sumM (b.take 2 ++ (b.drop 6).take (valB (b.take 2)).toNat) = valB ((b.drop 2).take 4) ∧ b[(valB (b.take 2)).toNat + 6]? = some 0 then some ((b.drop 6).take (valB (b.take 2)).toNat) else none
/-- What is in the records from a place on, and where they end. -/
def scanN (b : List Int) : Nat → Nat → List (List Int) × Nat
  | 0, o => ([], o)
  | f + 1, o => match nextM (b.drop o) with | none => ([], o) | some x => (x :: (scanN b f (o + (x.length + 7))).1, (scanN b f (o + (x.length + 7))).2)
def scanM (b : List Int) : List (List Int) × Nat × Bool := ((scanN b b.length 0).1, (scanN b b.length 0).2, decide ((b.drop (scanN b b.length 0).2).count 255 = b.length - (scanN b b.length 0).2))
end Go.Proofs.YtbbaoeidobdblaaGreat.Sx

/- journal.read. -/
set_option linter.unusedVariables false
set_option linter.unusedSimpArgs false
namespace Go.Proofs.YtbbaoeidobdblaaGreat.Sx
open Go
attribute [local simp ↓] ifb_true' ifb_false'
attribute [local simp] ifb_true ifb_false ifb_eq sx argsT find ev evOp evs evo evBin evInt evStr evNil evNilA ptrA slcA isNoneA asB evLoad look del cellsB evUn evConv kdec fld evFieldA evField evIdxA evIdx evSlc bndL bndH evLen mmi put resV guardV gvL setO tupV cellsOf ones one upd lits nv exitTo SV.val CV.val TI.agg rdyA allR keepB scan simpO gsp isS subs keepT pickT wr memN pubs Res.fact Region.binds bld rest give delL back Res.eqv vi vb num Sv.val undef
def staZ : Sta := ⟨0, [], []⟩
/-- What records lead to: the state, and how many bytes that took. -/
noncomputable def goP : Sta → Nat → List (List Int × Nat) → Sta × Nat
  | s, u, [] => (s, u)
  | s, u, (y, k) :: r => if (parseM y).2 ≠ 0 then (s, u) else goP (applyL s (parseM y).1) (u + (k + 7)) r
/-- The records, the first one without its epoch. -/
def recL (l : List (List Int)) : List (List Int × Nat) := match l with | [] => [] | x :: r => (x.drop 8, x.length) :: r.map fun y => (y, y.length)
/-- What a half tells: its epoch (0: it does not count), the state, how many bytes that took, and whether more stands behind. -/
structure Fnd where
  ep : Int
  used : Nat
  s : Sta
  more : Bool
def fndZ : Fnd := ⟨0, 0, staZ, false⟩
def epOf (x : List Int) : Int := IntKind.i64.wrap (getM x 0 8).1
noncomputable def readM (b : List Int) : Fnd :=
  match (scanM b).1 with
  | [] => fndZ
  | x :: r =>
    if (getM x 0 8).2 ≠ 0 ∨ epOf x ≤ 0 ∨ 2147483647 < epOf x then fndZ
    else if (parseM (x.drop 8)).2 ≠ 0 then fndZ
    else ⟨epOf x, (goP staZ 0 (recL (x :: r))).2, (goP staZ 0 (recL (x :: r))).1, !(scanM b).2.2 || decide ((goP staZ 0 (recL (x :: r))).2 < (scanM b).2.1)⟩
end Go.Proofs.YtbbaoeidobdblaaGreat.Sx

/- runs.Pages, runs.Count. -/
import Derived.Test.YtfmkpkmhhlakoaaSk9
set_option linter.unusedVariables false
set_option linter.unusedSimpArgs false
namespace Go.Proofs.Ytfmkpkmhhlakoaa.Sx
open Go

attribute [local simp ↓] ifb_true' ifb_false'
attribute [local simp] ifb_true ifb_false ifb_eq sx argsT find ev evOp evs evo evBin evInt evStr evNil evNilA ptrA slcA isNoneA asB evLoad look del cellsB evUn evConv kdec fld evFieldA evField evIdxA evIdx evSlc bndL bndH evLen mmi put resV guardV gvL setO tupV cellsOf ones one upd lits nv exitTo SV.val CV.val TI.agg rdyA allR keepB scan simpO gsp isS subs keepT pickT wr memN pubs Res.fact Region.binds bld rest give delL back Res.eqv vi vb num Sv.val undef
def iC (l : List Int) : List CV := l.map fun y => .v (.int .i64 y)
theorem iC_val (l : List Int) : (iC l).map CV.val = l.map (Value.int .i64) := by simp [iC, Function.comp_def, CV.val]
theorem iC_snoc (l : List Int) (x : Int) : iC l ++ [.v (.int .i64 x)] = iC (l ++ [x]) := by simp [iC]
/-- A run's pages. -/
def pg (r : Rn) : List Int := (List.range r.ct.toNat).map fun (j : Nat) => r.at_ + j
def pgTo (r : Rn) (j : Nat) : List Int := (List.range j).map fun (j : Nat) => r.at_ + j
theorem pgTo_succ (r : Rn) (j : Nat) : pgTo r (j + 1) = pgTo r j ++ [r.at_ + j] := by simp [pgTo, List.range_succ]
open Classical in
noncomputable def pagesL (l : List Rn) : List Int := if RightL l then l.flatMap pg else []
theorem fm_len {l : List Rn} (h : ∀ r, r ∈ l → r.ct ≤ 64) : (l.flatMap pg).length ≤ 64 * l.length := by
  induction l with
  | nil => simp
  | cons x r ih =>
    have h1 := h x List.mem_cons_self
    have h2 := ih fun y hy => h y (List.mem_cons_of_mem _ hy)
    simp only [List.flatMap_cons, List.length_append, List.length_cons, pg, List.length_map, List.length_range]
    omega
set_option maxHeartbeats 2000000 in
theorem runsPages0 (w : World) (I : Nat → Prop) (hI : ∀ b, I b → b < w.heap.size) {a : Option Addr} {n c : Nat} (l : List Rn) (h : ∀ W, Ext I w W → Sv.ok dRn W (a, n, c) l) (hl : l.length ≤ 1000000000) :
    Fn0 Try.prog 92 #[.slice a n c] w I Sv.val (fun r W => Sv.ok dInt W r (pagesL l)) := by
  obtain rfl : n = l.length := (h w (Ext.refl _ _)).1
  refine enter (svs := [.c (.v (.slice a l.length c))]) tysOk Try.func92 rfl Try.ntmps92 Try.results92 (by kernel_rfl) (by simp) hI (fun W => Sv.ok dRn W (a, l.length, c) l) h fun C hC hN ok => ?_
  simp [hN]
  refine call0 ok rfl rfl rfl (fun w I hI hG => runsRight0 w I hI l hG) fun y W hy => ?_
  have hp0 : ¬ RightL l → pagesL l = [] := fun h => by rw [pagesL, if_neg h]
  have hp1 : RightL l → pagesL l = l.flatMap pg := fun h => by rw [pagesL, if_pos h]
  simp [hN]
  refine ⟨fun hno => ret0 hC (none, 0, 0) rfl fun W _ _ => ?_, fun hyes => ?_⟩
  · rw [hp0 fun h => by rw [hy.2 h] at hno; cases hno]
    exact ⟨rfl, Nat.le_refl _, by simp, rd_nil _ _ _⟩
  have hR := hy.1 hyes
  rw [hp1 hR] at hC
  have hct : ∀ i (hi : i < l.length), 1 ≤ l[i].ct ∧ l[i].ct ≤ 64 ∧ 0 ≤ l[i].at_ ∧ l[i].at_ ≤ 2147483648 := fun i hi => by
    have := (hR i hi hi).1
    obtain ⟨_, h2, h3, h4, _, h6⟩ := this
    exact ⟨h3, h4, h2, by omega⟩
  have hle : ∀ i, i ≤ l.length → ((l.take i).flatMap pg).length ≤ 64 * i := fun i hi => by
    have := fm_len (l := l.take i) fun r hr => by
      obtain ⟨j, hj, rfl⟩ := List.getElem_of_mem hr
      rw [List.getElem_take]
      exact (hct j (by rw [List.length_take] at hj; omega)).2.1
    rw [List.length_take, Nat.min_eq_left hi] at this
    exact this
  refine nilr 600 3 1 (loop ok (fun y : Nat × Option Addr × Nat => [(12, .c (.v (.int .i64 (y.1 : Nat)))), (3, .c (.v (.slice y.2.1 ((l.take y.1).flatMap pg).length y.2.2)))]) (fun y => [(600, .row y.2.1 ((l.take y.1).flatMap pg).length y.2.2 3 1 (iC ((l.take y.1).flatMap pg)))]) (fun y W => y.1 ≤ l.length) (fun y => l.length - y.1) (0, none, 0) ?_ ?_ (fun W hW => Nat.zero_le _) ?_)
  · simp
  · simp [iC]
  rintro ⟨i, ya, yc⟩ W hi hG next
  rcases Nat.lt_or_ge i l.length with hlt | hge
  · obtain ⟨b, o, e⟩ := (show Sv.ok dRn W (a, l.length, c) l from hG.2).2.2.2.is_some (Nat.lt_of_le_of_lt (Nat.zero_le _) hlt)
    cases e
    have hb := hle i (Nat.le_of_lt hlt)
    have ft : (l.take (i + 1)).flatMap pg = (l.take i).flatMap pg ++ pg l[i] := fm_take' pg l i hlt
    have e6 : IntKind.i64.wrap ((i : Int) + 1) = (i + 1 : Nat) := by rw [w64 (by omega) (by omega)]; omega
    obtain ⟨c1, c2, c3, c4⟩ := hct i hlt
    generalize hA : (l.take i).flatMap pg = A at *
    simp [hN, hlt]
    refine loadA ok rfl rfl rfl rfl (fun c W => c = rnC l[i]) (fun W hW => ?_) ?_
    · obtain ⟨cs, hk, _, hc⟩ := hW.2.2.2.2.2.get hlt
      exact ⟨cs, by rw [hk]; rfl, hc, hk⟩
    rintro v W _ rfl hG2
    generalize hd : l[i] = d at c1 c2 c3 c4 ft
    simp [hN]
    intro g5
    refine loop ok (fun y : Nat × Option Addr × Nat => [(18, .c (.v (.int .i64 (y.1 : Nat)))), (3, .c (.v (.slice y.2.1 (A.length + y.1) y.2.2)))]) (fun y => [(600, .row y.2.1 (A.length + y.1) y.2.2 3 1 (iC (A ++ pgTo d y.1))), (5, .box g5 107 ((rnC d).map .v))]) (fun y W => (y.1 : Int) ≤ d.ct) (fun y => d.ct.toNat - y.1) (0, ya, yc) ?_ ?_ (fun W hW => by omega) ?_
    · simp
    · simp [pgTo]
    rintro ⟨j, za, zc⟩ W hj hG3 next2
    simp only at hj
    rcases Int.lt_or_le j d.ct with hjt | hjt
    · have e7 : IntKind.i64.wrap (d.at_ + (j : Int)) = d.at_ + j := w64 (by omega) (by omega)
      have e8 : IntKind.i64.wrap ((j : Int) + 1) = (j + 1 : Nat) := by rw [w64 (by omega) (by omega)]; omega
      simp [hN, hjt, e7]
      intro g
      refine appR ok 600 26 rfl rfl rfl rfl rfl (by decide) rfl rfl rfl rfl rfl rfl rfl (by decide) (by simp) (by show (A.length + j + 1) * 8 ≤ _; omega) (by omega) fun g' c' => ?_
      simp [hN, e8]
      refine next2 (j + 1, some ⟨g', 0, none⟩, c') _ _ (by simp only; omega) (fun W h => ⟨by simp only; omega, h.2⟩) ?_
      simp [pgTo_succ, hyes, iC, Nat.add_assoc]
    · simp [hN, Int.not_lt.2 hjt, e6]
      have hj2 : j = d.ct.toNat := by omega
      have hpj : pgTo d j = pg d := by rw [hj2]; rfl
      have hpl : (pg d).length = j := by rw [hj2]; simp [pg]
      refine next (i + 1, za, zc) _ _ (by simp only; omega) (fun W h => ⟨hlt, h.2.2⟩) ?_
      simp only [ft, hpj, List.length_append, hpl]
      simp [hyes]
  · have hi' : i = l.length := by simp only at hi; omega
    subst hi'
    have hT : l.take l.length = l := List.take_length
    have hb := hle l.length (Nat.le_refl _)
    rw [hT] at *
    generalize hA : l.flatMap pg = A at *
    simp [hN]
    refine ret0 hC (ya, A.length, yc) rfl fun W hp hG => ?_
    have h1 := hp.1
    simp only [Res.fact, iC_val] at h1
    exact int_ok h1 (by omega)
/-- How many pages. -/
noncomputable def countL (l : List Rn) : Int := (pagesL l).length
theorem runsCount0 (w : World) (I : Nat → Prop) (hI : ∀ b, I b → b < w.heap.size) {a : Option Addr} {n c : Nat} (l : List Rn) (h : ∀ W, Ext I w W → Sv.ok dRn W (a, n, c) l) (hl : l.length ≤ 1000000000) :
    Fn0 Try.prog 73 #[.slice a n c] w I (fun v : Int => .int .i64 v) (fun y W => y = countL l) := by
  refine enter (svs := [.c (.v (.slice a n c))]) tysOk Try.func73 rfl Try.ntmps73 Try.results73 (by kernel_rfl) (by simp) hI (fun W => Sv.ok dRn W (a, n, c) l) h fun C hC hN ok => ?_
  simp [hN]
  refine call0 ok rfl rfl rfl (fun w I hI hG => runsPages0 w I hI l hG hl) fun y W hy => ?_
  obtain ⟨ya, yn, yc⟩ := y
  simp [hN]
  exact ret0 hC yn rfl fun W _ _ => by have := hy.1; simp only at this; rw [this]; rfl
end Go.Proofs.Ytfmkpkmhhlakoaa.Sx

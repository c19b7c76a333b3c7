/- state.copied, state.Whole. -/
import Derived.Test.YtfmkpkmhhlakoaaSk6
set_option linter.unusedVariables false
set_option linter.unusedSimpArgs false
namespace Go.Proofs.Ytfmkpkmhhlakoaa.Sx
open Go

attribute [local simp ↓] ifb_true' ifb_false'
attribute [local simp] ifb_true ifb_false ifb_eq sx argsT find ev evOp evs evo evBin evInt evStr evNil evNilA ptrA slcA isNoneA asB evLoad look del cellsB evUn evConv kdec fld evFieldA evField evIdxA evIdx evSlc bndL bndH evLen mmi put resV guardV gvL setO tupV cellsOf ones one upd lits nv exitTo SV.val CV.val TI.agg rdyA allR keepB scan simpO gsp isS subs keepT pickT wr memN pubs Res.fact Region.binds bld rest give delL back Res.eqv vi vb num Sv.val
/-- Inodes' cells, one by one. -/
def inosC (l : List Ix) : List CV := l.flatMap fun y => (inoC y.1 y.2.1 y.2.2).map .v
theorem inosC_snoc (l : List Ix) (y : Ix) : inosC (l ++ [y]) = inosC l ++ (inoC y.1 y.2.1 y.2.2).map .v := by simp [inosC]
theorem inosC_length (l : List Ix) : (inosC l).length = l.length * 7 := by
  induction l with
  | nil => rfl
  | cons x r ih => simp [inosC] at ih ⊢; omega
def InosR (W : World) (l : List Ix) : Prop := ∀ y, y ∈ l → InoR W y.1 y.2.1 y.2.2
/-- Slices of one's own that hold inodes. -/
abbrev Inos := Option Addr × Nat × List Ix
abbrev Inos.val (r : Inos) : Value := .slice r.1 r.2.2.length r.2.1
abbrev Inos.res (r : Inos) : Res := .row r.1 r.2.2.length r.2.1 63 7 (inosC r.2.2)
theorem copied0 (w : World) (I : Nat → Prop) (hI : ∀ b, I b → b < w.heap.size) {a : Option Addr} {n c : Nat} (xs : List Ino) (h : ∀ W, Ext I w W → Sv.ok dIno W (a, n, c) xs) (hl : xs.length ≤ 1000000000) :
    FnS Try.prog 121 #[.slice a n c] w I noS Inos.val (fun r => [Inos.res r]) (fun r W => r.2.2.map Prod.fst = xs ∧ InosR W r.2.2) := by
  obtain rfl : n = xs.length := (h w (Ext.refl _ _)).1
  refine enterS (svs := [.c (.v (.slice a xs.length c))]) tysOk Try.func121 rfl Try.ntmps121 Try.results121 (by kernel_rfl) (by simp) hI [] (owns_nil w) (fun b hb => hb.elim) (fun W => Sv.ok dIno W (a, xs.length, c) xs) h fun C hC hN ok => ?_
  simp [hN]
  refine nilr 600 63 7 (loop ok (fun y : Nat × Inos => [(8, .c (.v (.int .i64 (y.1 : Nat)))), (3, .c (.v (.slice y.2.1 y.1 y.2.2.1)))]) (fun y => [(600, .row y.2.1 y.1 y.2.2.1 63 7 (inosC y.2.2.2))]) (fun y W => y.1 ≤ xs.length ∧ y.2.2.2.map Prod.fst = xs.take y.1 ∧ InosR W y.2.2.2) (fun y => xs.length - y.1) (0, none, 0, []) ?_ ?_ (fun W hW => ⟨Nat.zero_le _, by simp, fun y hy => by cases hy⟩) ?_)
  · simp
  · simp [inosC]
  rintro ⟨i, ya, yc, l⟩ W ⟨hi, hm, hr⟩ hG next
  simp [hN]
  refine ⟨fun hlt => ?_, fun hge => ?_⟩
  · obtain ⟨b, o, e⟩ := (show Sv.ok dIno W (a, xs.length, c) xs from hG).2.2.2.is_some (Nat.lt_of_le_of_lt (Nat.zero_le _) hlt)
    cases e
    simp [hN]
    have e6 : IntKind.i64.wrap ((i : Int) + 1) = (i + 1 : Nat) := by rw [w64 (by omega) (by omega)]; omega
    have ft : xs.take (i + 1) = xs.take i ++ [xs[i]] := by rw [List.take_add_one, List.getElem?_eq_getElem hlt]; rfl
    generalize hd : xs[i] = d at ft
    refine ⟨hlt, loadA ok rfl rfl rfl rfl (fun c W => dIno.K W d c) (fun W hW => ?_) ?_⟩
    · obtain ⟨cs, hk, hl, hc⟩ := hW.2.2.2.2.get hlt
      rw [hd] at hk
      exact ⟨cs, hl, hc, hk⟩
    · rintro v W _ ⟨⟨ea, ec⟩, ⟨ra, rc⟩, rfl, hR⟩ hG2
      simp [hN]
      intro g5
      refine call0 ok rfl rfl rfl (fun w I hI hG => own0 w I hI d (ea, ec) (ra, rc) fun W e => (hG W e).1) fun q W _ => ?_
      obtain ⟨⟨qa, qc⟩, ⟨pa, pc⟩⟩ := q
      simp [hN]
      intro g15
      refine appR ok 600 15 rfl rfl rfl rfl rfl (by decide) rfl rfl rfl rfl rfl rfl rfl (by decide) (by simp) (by show (i + 1) * 96 ≤ _; omega) (by omega) fun g' c' => ?_
      simp [hN, e6]
      refine next (i + 1, some ⟨g', 0, none⟩, c', l ++ [(d, (qa, qc), (pa, pc))]) _ _ (by simp; omega) (fun W h => ⟨⟨hlt, by simp [hm, ft], fun y hy => ?_⟩, h.2.2.2⟩) ?_
      · rcases List.mem_append.1 hy with hy | hy
        · exact h.2.2.1.2.2 y hy
        · rw [List.mem_singleton.1 hy]
          exact h.1
      · simp [inosC_snoc]
  · have hi' : i = xs.length := by simp only at hi; omega
    subst hi'
    have hll : l.length = xs.length := by have := congrArg List.length hm; simpa using this
    refine retS hC (ya, yc, l) [600] (by simp [hll]) (by simp [hll]) fun W _ hG => ⟨by have := hG.1.2.1; rwa [List.take_length] at this, hG.1.2.2⟩
/-- Deeds' cells. -/
abbrev Dx := Dee × Sl × Sl
def deesC (l : List Dx) : List CV := l.flatMap fun y => (deeC y.1 y.2.1 y.2.2).map .v
theorem deesC_snoc (l : List Dx) (y : Dx) : deesC (l ++ [y]) = deesC l ++ (deeC y.1 y.2.1 y.2.2).map .v := by simp [deesC]
def DeesR (W : World) (l : List Dx) : Prop := ∀ y, y ∈ l → InoR W y.1.ino y.2.1 y.2.2
theorem dees_rows {W : World} : ∀ (l : List Dx), DeesR W l → Rows dDee W (l.map Prod.fst) ((deesC l).map CV.val)
  | [], _ => rows_nil _ _
  | y :: l, h => by
    refine Rows.cons_iff.2 ⟨deeC y.1 y.2.1 y.2.2, (deesC l).map CV.val, by simp [deesC, Function.comp_def, CV.val], ⟨y.2.1, y.2.2, rfl, h y List.mem_cons_self⟩, dees_rows l fun z hz => h z (List.mem_cons_of_mem _ hz)⟩
theorem inos_rows {W : World} : ∀ (l : List Ix), InosR W l → Rows dIno W (l.map Prod.fst) ((inosC l).map CV.val)
  | [], _ => rows_nil _ _
  | y :: l, h => by
    refine Rows.cons_iff.2 ⟨inoC y.1 y.2.1 y.2.2, (inosC l).map CV.val, by simp [inosC, Function.comp_def, CV.val], ⟨y.2.1, y.2.2, rfl, h y List.mem_cons_self⟩, inos_rows l fun z hz => h z (List.mem_cons_of_mem _ hz)⟩
def inoZ : Ino := ⟨0, 0, 0, 0, ⟨#[]⟩, [], []⟩
/-- The deeds that a state is. -/
def wholeL (s : Sta) : List Dee := ⟨1, s.next, inoZ⟩ :: (s.inos.map fun x => ⟨2, 0, x⟩) ++ s.bad.map fun n => ⟨4, n, inoZ⟩
theorem sta_get {W : World} {i b : Sl} {x : Sta} (h : StaR W x i b) : Sv.ok dIno W (i.1, x.inos.length, i.2) x.inos ∧ Sv.ok dInt W (b.1, x.bad.length, b.2) x.bad := ⟨⟨rfl, h.1⟩, ⟨rfl, h.2⟩⟩
theorem whole0 (w : World) (I : Nat → Prop) (hI : ∀ b, I b → b < w.heap.size) (s : Sta) (si sb : Sl) (h : ∀ W, Ext I w W → StaR W s si sb) (hl : s.inos.length + s.bad.length ≤ 1000000000) :
    Fn0 Try.prog 88 #[.agg (staC s si sb).toArray] w I Sv.val (fun r W => Sv.ok dDee W r (wholeL s)) := by
  obtain ⟨ia, ic⟩ := si
  obtain ⟨ba, bc⟩ := sb
  refine enter (svs := [.ag ((staC s (ia, ic) (ba, bc)).map .v)]) tysOk Try.func88 rfl Try.ntmps88 Try.results88 (by kernel_rfl) (by simp) hI (fun W => StaR W s (ia, ic) (ba, bc)) h fun C hC hN ok => ?_
  simp [hN]
  intro g1 g2
  have z0 : ∀ W, InoR W inoZ (none, 0) (none, 0) := fun W => ⟨⟨Nat.le_refl _, by simp [inoZ], rd_nil _ _ _⟩, ⟨Nat.le_refl _, by simp [inoZ], rd_nil _ _ _⟩⟩
  refine loop ok (fun y : Nat × Option Addr × Nat × List Dx => [(15, .c (.v (.int .i64 (y.1 : Nat)))), (3, .c (.v (.slice y.2.1 (y.1 + 1) y.2.2.1)))]) (fun y => [(11, .row y.2.1 (y.1 + 1) y.2.2.1 90 9 (deesC y.2.2.2)), (1, .box g1 43 ((staC s (ia, ic) (ba, bc)).map .v))]) (fun y W => y.1 ≤ s.inos.length ∧ y.2.2.2.map Prod.fst = ⟨1, s.next, inoZ⟩ :: ((s.inos.take y.1).map fun x => ⟨2, 0, x⟩) ∧ DeesR W y.2.2.2) (fun y => s.inos.length - y.1) (0, some ⟨g2, 0, none⟩, 1, [(⟨1, s.next, inoZ⟩, (none, 0), (none, 0))]) ?_ ?_ (fun W hW => ⟨Nat.zero_le _, by simp, fun y hy => by rw [List.mem_singleton.1 hy]; exact z0 W⟩) ?_
  · simp
  · simp [deesC, inoZ]
  rintro ⟨i, ya, yc, l⟩ W ⟨hi, hm, hr⟩ hG next
  simp [hN]
  refine ⟨fun hlt => ?_, fun hge => ?_⟩
  · obtain ⟨b, o, e⟩ := (sta_get (show StaR W s (ia, ic) (ba, bc) from hG)).1.2.2.2.is_some (Nat.lt_of_le_of_lt (Nat.zero_le _) hlt)
    cases e
    simp [hN]
    have e6 : IntKind.i64.wrap ((i : Int) + 1) = (i + 1 : Nat) := by rw [w64 (by omega) (by omega)]; omega
    have ft : s.inos.take (i + 1) = s.inos.take i ++ [s.inos[i]] := by rw [List.take_add_one, List.getElem?_eq_getElem hlt]; rfl
    generalize hd : s.inos[i] = d at ft
    refine ⟨hlt, loadA ok rfl rfl rfl rfl (fun c W => dIno.K W d c) (fun W hW => ?_) ?_⟩
    · obtain ⟨cs, hk, hl, hc⟩ := (sta_get hW.2).1.2.2.2.get hlt
      rw [hd] at hk
      exact ⟨cs, hl, hc, hk⟩
    · rintro v W _ ⟨⟨ea, ec⟩, ⟨ra, rc⟩, rfl, hR⟩ hG2
      simp [hN]
      intro g5
      refine call0 ok rfl rfl rfl (fun w I hI hG => own0 w I hI d (ea, ec) (ra, rc) fun W e => (hG W e).1) fun q W _ => ?_
      obtain ⟨⟨qa, qc⟩, ⟨pa, pc⟩⟩ := q
      simp [hN]
      intro g15
      refine appR ok 11 23 rfl rfl rfl rfl rfl (by decide) rfl rfl rfl rfl rfl rfl rfl (by decide) (by simp) (by show (i + 1 + 1) * 112 ≤ _; omega) (by omega) fun g' c' => ?_
      simp [hN, e6]
      refine next (i + 1, some ⟨g', 0, none⟩, c', l ++ [(⟨2, 0, d⟩, (qa, qc), (pa, pc))]) _ _ (by simp; omega) (fun W h => ⟨⟨hlt, by simp [hm, ft], fun y hy => ?_⟩, h.2.2.2⟩) ?_
      · rcases List.mem_append.1 hy with hy | hy
        · exact h.2.2.1.2.2 y hy
        · rw [List.mem_singleton.1 hy]
          exact h.1
      · simp [deesC_snoc]
  · have hi' : i = s.inos.length := by simp only at hi; omega
    subst hi'
    have hT : s.inos.take s.inos.length = s.inos := List.take_length
    rw [hT] at *
    simp [hN]
    refine loop ok (fun y : Nat × Option Addr × Nat × List Dx => [(29, .c (.v (.int .i64 (y.1 : Nat)))), (3, .c (.v (.slice y.2.1 (s.inos.length + 1 + y.1) y.2.2.1)))]) (fun y => [(11, .row y.2.1 (s.inos.length + 1 + y.1) y.2.2.1 90 9 (deesC y.2.2.2))]) (fun y W => y.1 ≤ s.bad.length ∧ y.2.2.2.map Prod.fst = ⟨1, s.next, inoZ⟩ :: (s.inos.map fun x => ⟨2, 0, x⟩) ++ ((s.bad.take y.1).map fun n => ⟨4, n, inoZ⟩) ∧ DeesR W y.2.2.2) (fun y => s.bad.length - y.1) (0, ya, yc, l) ?_ ?_ (fun W hW => ⟨Nat.zero_le _, by simpa using hm, hW.1.2⟩) ?_
    · simp
    · simp
    rintro ⟨i, za, zc, k⟩ W ⟨hi2, hm2, hr2⟩ hG3 next2
    simp [hN]
    refine ⟨fun hlt => ?_, fun hge => ?_⟩
    · obtain ⟨b, o, e⟩ := (sta_get (show StaR W s (ia, ic) (ba, bc) from hG3.2)).2.2.2.2.is_some (Nat.lt_of_le_of_lt (Nat.zero_le _) hlt)
      cases e
      simp [hN]
      have e6 : IntKind.i64.wrap ((i : Int) + 1) = (i + 1 : Nat) := by rw [w64 (by omega) (by omega)]; omega
      have ft : s.bad.take (i + 1) = s.bad.take i ++ [s.bad[i]] := by rw [List.take_add_one, List.getElem?_eq_getElem hlt]; rfl
      generalize hd : s.bad[i] = d at ft
      refine ⟨hlt, load1 ok rfl rfl rfl rfl (fun v W => v = .int .i64 d) (fun W hW => ?_) ?_⟩
      · obtain ⟨cs, hk, _, hc⟩ := (sta_get hW.2.2).2.2.2.2.get hlt
        rw [hd] at hk
        exact ⟨_, by simpa [dInt, flat] using hc 0 (.int .i64 d) (by rw [hk]; rfl), rfl⟩
      · rintro v W rfl hG4
        simp [hN]
        intro g15
        refine appR ok 11 36 rfl rfl rfl rfl rfl (by decide) rfl rfl rfl rfl rfl rfl rfl (by decide) (by simp) (by show (s.inos.length + 1 + i + 1) * 112 ≤ _; omega) (by omega) fun g' c' => ?_
        simp [hN, e6]
        refine next2 (i + 1, some ⟨g', 0, none⟩, c', k ++ [(⟨4, d, inoZ⟩, (none, 0), (none, 0))]) _ _ (by simp; omega) (fun W h => ⟨⟨hlt, by simp [hm2, ft], fun y hy => ?_⟩, h.2⟩) ?_
        · rcases List.mem_append.1 hy with hy | hy
          · exact h.1.2.2 y hy
          · rw [List.mem_singleton.1 hy]
            exact z0 W
        · simp [deesC_snoc, inoZ, Nat.add_assoc]
    · have hi' : i = s.bad.length := by simp only at hi2; omega
      subst hi'
      have hT2 : s.bad.take s.bad.length = s.bad := List.take_length
      have hm3 : k.map Prod.fst = wholeL s := by rw [hm2, hT2]; rfl
      have hkl : (wholeL s).length = s.inos.length + 1 + s.bad.length := by simp [wholeL]; omega
      refine ret0 hC (za, s.inos.length + 1 + s.bad.length, zc) rfl fun W hp hG => ?_
      have hrw := dees_rows k hG.1.2.2
      rw [hm3] at hrw
      obtain ⟨k1, k2, k3⟩ := hrw.rd hp.1 (by decide)
      exact ⟨k1, by simp; omega, by omega, k3⟩
end Go.Proofs.Ytfmkpkmhhlakoaa.Sx

/- Laid together: Sk5, Sk6, Sk7, Sk8, Sk9, Sk10, Sk11, Sk13, Sk14, Sk15, Sk16, Sxj, Sxk, Sk17, Sk18, Sk19, Sk21, Sk22, Sk23, Sxl, Sxm, Sk26, Sk27, Sk28. -/
import Derived.Test.YtbbaoeidobdblaaGreatJI2
import Derived.Laws.StructEq
import Derived.Laws.CopyRow
import Derived.Lib.Overlaps
import Derived.Lib.AppendZerosOnto
import Derived.Laws.Externs
/- pack.Deeds. -/
set_option linter.unusedVariables false
set_option linter.unusedSimpArgs false
namespace Go.Proofs.YtbbaoeidobdblaaGreat.Sx
open Go
attribute [local simp ↓] ifb_true' ifb_false'
attribute [local simp] ifb_true ifb_false ifb_eq sx argsT find ev evOp evs evo evBin evInt evStr evNil evNilA ptrA slcA isNoneA asB evLoad look del cellsB evUn evConv kdec fld evFieldA evField evIdxA evIdx evSlc bndL bndH evLen mmi put resV guardV gvL setO tupV cellsOf ones one upd lits nv exitTo SV.val CV.val TI.agg rdyA allR keepB scan simpO gsp isS subs keepT pickT wr memN pubs Res.fact Region.binds bld rest give delL back Res.eqv vi vb num Sv.val undef
theorem ino_get {W : World} {x : Ino} {e r : Sl} (h : dIno.K W x (inoC x e r)) : InoR W x e r := by
  obtain ⟨⟨a, b⟩, ⟨a', b'⟩, h1, h2⟩ := h
  simp [inoC] at h1
  obtain ⟨⟨rfl, rfl⟩, rfl, rfl⟩ := h1
  exact h2
theorem dee_get {W : World} {x : Dee} {e r : Sl} (h : dDee.K W x (deeC x e r)) : InoR W x.ino e r := by
  obtain ⟨⟨a, b⟩, ⟨a', b'⟩, h1, h2⟩ := h
  simp [inoC] at h1
  obtain ⟨⟨rfl, rfl⟩, rfl, rfl⟩ := h1
  exact h2
theorem deeds0 (w : World) (I : Nat → Prop) (hI : ∀ b, I b → b < w.heap.size) (l : List Dee) (s : Sv) (h : ∀ W, Ext I w W → s.ok dDee W l) (hl : (deedsB l).length ≤ 100000000000) :
    Fn0 Tryz.prog 61 #[s.val] w I Sv.val (fun r W => Sv.ok dByte W r (deedsB l)) := by
  obtain ⟨sa, sn, sc⟩ := s
  obtain rfl : sn = l.length := (h w (Ext.refl _ _)).1
  have hx := (h w (Ext.refl _ _)).2.2.1
  refine enter (svs := [.c (.v (.slice sa l.length sc))]) tysOk Tryz.func61 rfl Tryz.ntmps61 Tryz.results61 (by kernel_rfl) (by simp) hI (fun W => Sv.ok dDee W (sa, l.length, sc) l) h fun C hC hN ok => ?_
  simp [hN]
  have b1 := fm_le deedB l
  refine loop ok (fun a : Nat × Sv => [(8, .c (.v (.int .i64 (a.1 : Nat)))), (3, .c (.v (.slice a.2.1 a.2.2.1 a.2.2.2)))]) (fun _ => []) (fun a W => a.1 ≤ l.length ∧ Sv.ok dByte W a.2 ((l.take a.1).flatMap deedB)) (fun a => l.length - a.1) (0, (none, 0, 0)) ?_ ?_ (fun W hW => ⟨Nat.zero_le _, rfl, Nat.le_refl _, by simp, rd_nil _ _ _⟩) ?_
  · simp
  · simp
  rintro ⟨i, ya, yn, yc⟩ W ⟨hi, hr⟩ hG next
  simp [hN]
  refine ⟨fun hlt => ?_, fun hge => ?_⟩
  · have hG' : Sv.ok dDee W (sa, l.length, sc) l := hG
    obtain ⟨b, o, e⟩ := hG'.2.2.2.is_some (Nat.lt_of_le_of_lt (Nat.zero_le _) hlt)
    cases e
    simp [hN]
    have hb := b1 (i + 1)
    rw [fm_take _ _ _ hlt, List.length_append] at hb
    have hb2 : ((l.take i).flatMap deedB).length + (deedB l[i]).length ≤ 100000000000 := Nat.le_trans hb hl
    have e6 : IntKind.i64.wrap ((i : Int) + 1) = (i + 1 : Nat) := by rw [w64 (by omega) (by omega)]; omega
    have ft := fm_take deedB _ _ hlt
    generalize hd : l[i] = d at hb2 ft
    refine ⟨hlt, loadA ok rfl rfl rfl rfl (fun c W => dDee.K W d c) (fun W hW => ?_) ?_⟩
    · obtain ⟨cs, hk, hl, hc⟩ := hW.2.2.2.2.get hlt
      rw [hd] at hk
      exact ⟨cs, hl, hc, hk⟩
    · rintro v W _ ⟨⟨ea, ec⟩, ⟨ra, rc⟩, rfl, hR⟩ hG2
      simp [hN, u64_wrap]
      intro g5
      refine call0 ok rfl rfl rfl (fun w I hI hG => put1 hI _ _ 1 (fun W e => (hG W e).2.1.2) (by simp only [deedB, List.length_append, lowB_length] at hb2; omega) (by omega) (Int.emod_nonneg _ (by decide))) fun q W _ => ?_
      obtain ⟨ta, tn, tc⟩ := q
      simp [hN]
      refine ⟨fun k1 => ?_, fun k1 => ⟨fun k2 => ?_, fun k2 => ⟨fun k3 => ?_, fun k3 => ⟨fun k4 => ?_, fun k4 => ?_⟩⟩⟩⟩
      · have td : deedB d = lowB (d.kind % 18446744073709551616) 1 ++ intB d.no := by simp [deedB, tailB, k1]
        rw [td] at hb2 ft
        simp only [List.length_append, lowB_length, intB_length] at hb2
        refine call0 ok rfl rfl rfl (fun w I hI hG => putInt1 hI _ _ (fun W e => (hG W e).1) (by simp only [List.length_append, lowB_length]; omega)) fun q W _ => ?_
        obtain ⟨ua, un, uc⟩ := q
        simp [hN, e6]
        refine next (i + 1, ua, un, uc) _ _ (by simp; omega) (fun W h => ⟨⟨hlt, by simp only [ft]; simpa using h.1⟩, h.2.2.2.2⟩) ?_
        simp
      · have td : deedB d = lowB (d.kind % 18446744073709551616) 1 ++ intB d.no := by simp [deedB, tailB, k2]
        rw [td] at hb2 ft
        simp only [List.length_append, lowB_length, intB_length] at hb2
        refine call0 ok rfl rfl rfl (fun w I hI hG => putInt1 hI _ _ (fun W e => (hG W e).1) (by simp only [List.length_append, lowB_length]; omega)) fun q W _ => ?_
        obtain ⟨ua, un, uc⟩ := q
        simp [hN, e6]
        refine next (i + 1, ua, un, uc) _ _ (by simp; omega) (fun W h => ⟨⟨hlt, by simp only [ft]; simpa using h.1⟩, h.2.2.2.2⟩) ?_
        simp
      · have td : deedB d = lowB (d.kind % 18446744073709551616) 1 ++ intB d.no := by simp [deedB, tailB, k3]
        rw [td] at hb2 ft
        simp only [List.length_append, lowB_length, intB_length] at hb2
        refine call0 ok rfl rfl rfl (fun w I hI hG => putInt1 hI _ _ (fun W e => (hG W e).1) (by simp only [List.length_append, lowB_length]; omega)) fun q W _ => ?_
        obtain ⟨ua, un, uc⟩ := q
        simp [hN, e6]
        refine next (i + 1, ua, un, uc) _ _ (by simp; omega) (fun W h => ⟨⟨hlt, by simp only [ft]; simpa using h.1⟩, h.2.2.2.2⟩) ?_
        simp
      · have td : deedB d = lowB (d.kind % 18446744073709551616) 1 ++ inoB d.ino := by simp [deedB, tailB, k4]
        rw [td] at hb2 ft
        simp only [List.length_append, lowB_length] at hb2
        refine call0 ok rfl rfl rfl (fun w I hI hG => inode0 w I hI _ (ta, tn, tc) d.ino (ea, ec) (ra, rc) (fun W e => ⟨(hG W e).1, dee_get (hG W e).2.1⟩) (by simp only [List.length_append, lowB_length]; omega)) fun q W _ => ?_
        obtain ⟨ua, un, uc⟩ := q
        simp [hN, e6]
        refine next (i + 1, ua, un, uc) _ _ (by simp; omega) (fun W h => ⟨⟨hlt, by simp only [ft]; simpa using h.1⟩, h.2.2.2.2⟩) ?_
        simp
      · have td : deedB d = lowB (d.kind % 18446744073709551616) 1 := by simp [deedB, tailB, k1, k2, k3, k4]
        simp [hN, e6]
        refine next (i + 1, ta, tn, tc) _ _ (by simp; omega) (fun W h => ⟨⟨hlt, by simp only [ft, td]; simpa using h.1⟩, h.2.2.2⟩) ?_
        simp
  · have hi' : i = l.length := by simp only at hi; omega
    subst hi'
    exact ret0 hC (ya, yn, yc) rfl fun W _ hG => by
      have := hG.1.2
      rw [List.take_length] at this
      exact this
end Go.Proofs.YtbbaoeidobdblaaGreat.Sx

/- slices.Clone, state.own, state.copied, state.Whole. -/
set_option linter.unusedVariables false
set_option linter.unusedSimpArgs false
namespace Go.Proofs.YtbbaoeidobdblaaGreat.Sx
open Go
attribute [local simp ↓] ifb_true' ifb_false'
attribute [local simp] ifb_true ifb_false ifb_eq sx argsT find ev evOp evs evo evBin evInt evStr evNil evNilA ptrA slcA isNoneA asB evLoad look del cellsB evUn evConv kdec fld evFieldA evField evIdxA evIdx evSlc bndL bndH evLen mmi put resV guardV gvL setO tupV cellsOf ones one upd lits nv exitTo SV.val CV.val TI.agg rdyA allR keepB scan simpO gsp isS subs keepT pickT wr memN pubs Res.fact Region.binds bld rest give delL back Res.eqv vi vb num Sv.val
theorem cloneE (w : World) (I : Nat → Prop) (hI : ∀ b, I b → b < w.heap.size) {a : Option Addr} {n c : Nat} (xs : List _) (h : ∀ W, Ext I w W → Sv.ok dEnt W (a, n, c) xs) :
    Fn0 Tryz.prog 186 #[.slice a n c] w I Sv.val (fun r W => Sv.ok dEnt W r xs) := by
  have h0 := h w (Ext.refl _ _)
  obtain rfl : n = xs.length := h0.1
  cases a with
  | none =>
    have hx : xs = [] := Classical.byContradiction fun hne => by obtain ⟨b, o, e, _⟩ := h0.2.2.2 hne; cases e
    subst hx
    refine enter (svs := [.c (.v (.slice none 0 c))]) tysOk Tryz.func186 rfl Tryz.ntmps186 Tryz.results186 (by kernel_rfl) (by simp) hI (fun _ => True) (fun _ _ => trivial) fun C hC hN ok => ?_
    simp [hN]
    exact ret0 hC (none, 0, 0) rfl fun W _ _ => ⟨rfl, Nat.le_refl _, by simp, rd_nil _ _ _⟩
  | some ad =>
    refine enter (svs := [.c (.v (.slice (some ad) xs.length c))]) tysOk Tryz.func186 rfl Tryz.ntmps186 Tryz.results186 (by kernel_rfl) (by simp) hI (fun W => Sv.ok dEnt W (some ad, xs.length, c) xs) h fun C hC hN ok => ?_
    simp [hN]
    intro g
    by_cases hx : xs = []
    · subst hx
      refine app0 ok rfl rfl rfl rfl rfl rfl rfl (Nat.le_refl _) rfl rfl ?_
      simp [hN]
      exact ret0 hC (some ⟨g, 0, none⟩, 0, 0) rfl fun W _ _ => ⟨rfl, Nat.le_refl _, by simp, rd_nil _ _ _⟩
    · have h1 : 0 < xs.length := List.length_pos_iff.2 hx
      obtain ⟨b, o, e⟩ := h0.2.2.2.is_some h1
      cases e
      have h2 := h0.2.2.1
      refine appI ok 5 rfl rfl rfl rfl rfl (by decide) rfl rfl rfl rfl rfl rfl h1 (by simp; omega) (by omega) (fun l W => Rows dEnt W xs l) (fun W hW => ?_) fun l g' c' W hq _ => ?_
      · obtain ⟨l, k1, k2, k3⟩ := hW.2.2.2.all_rows
        exact ⟨l, k1.1, k2, k3, k1⟩
      · simp [hN]
        refine ret0 hC (some ⟨g', 0, none⟩, xs.length, c') (by simp) fun W hp hG => ?_
        simp at hp hG
        obtain ⟨k1, k2, k3⟩ := hG.1.rd hp (by decide)
        exact ⟨k1, by simpa using k2, h2, k3⟩
theorem cloneR (w : World) (I : Nat → Prop) (hI : ∀ b, I b → b < w.heap.size) {a : Option Addr} {n c : Nat} (xs : List _) (h : ∀ W, Ext I w W → Sv.ok dRn W (a, n, c) xs) :
    Fn0 Tryz.prog 187 #[.slice a n c] w I Sv.val (fun r W => Sv.ok dRn W r xs) := by
  have h0 := h w (Ext.refl _ _)
  obtain rfl : n = xs.length := h0.1
  cases a with
  | none =>
    have hx : xs = [] := Classical.byContradiction fun hne => by obtain ⟨b, o, e, _⟩ := h0.2.2.2 hne; cases e
    subst hx
    refine enter (svs := [.c (.v (.slice none 0 c))]) tysOk Tryz.func187 rfl Tryz.ntmps187 Tryz.results187 (by kernel_rfl) (by simp) hI (fun _ => True) (fun _ _ => trivial) fun C hC hN ok => ?_
    simp [hN]
    exact ret0 hC (none, 0, 0) rfl fun W _ _ => ⟨rfl, Nat.le_refl _, by simp, rd_nil _ _ _⟩
  | some ad =>
    refine enter (svs := [.c (.v (.slice (some ad) xs.length c))]) tysOk Tryz.func187 rfl Tryz.ntmps187 Tryz.results187 (by kernel_rfl) (by simp) hI (fun W => Sv.ok dRn W (some ad, xs.length, c) xs) h fun C hC hN ok => ?_
    simp [hN]
    intro g
    by_cases hx : xs = []
    · subst hx
      refine app0 ok rfl rfl rfl rfl rfl rfl rfl (Nat.le_refl _) rfl rfl ?_
      simp [hN]
      exact ret0 hC (some ⟨g, 0, none⟩, 0, 0) rfl fun W _ _ => ⟨rfl, Nat.le_refl _, by simp, rd_nil _ _ _⟩
    · have h1 : 0 < xs.length := List.length_pos_iff.2 hx
      obtain ⟨b, o, e⟩ := h0.2.2.2.is_some h1
      cases e
      have h2 := h0.2.2.1
      refine appI ok 5 rfl rfl rfl rfl rfl (by decide) rfl rfl rfl rfl rfl rfl h1 (by simp; omega) (by omega) (fun l W => Rows dRn W xs l) (fun W hW => ?_) fun l g' c' W hq _ => ?_
      · obtain ⟨l, k1, k2, k3⟩ := hW.2.2.2.all_rows
        exact ⟨l, k1.1, k2, k3, k1⟩
      · simp [hN]
        refine ret0 hC (some ⟨g', 0, none⟩, xs.length, c') (by simp) fun W hp hG => ?_
        simp at hp hG
        obtain ⟨k1, k2, k3⟩ := hG.1.rd hp (by decide)
        exact ⟨k1, by simpa using k2, h2, k3⟩
/-- An inode's value: what it has, and where its entries and runs stand. -/
abbrev Ix := Ino × Sl × Sl
theorem own0 (w : World) (I : Nat → Prop) (hI : ∀ b, I b → b < w.heap.size) (x : Ino) (e r : Sl) (h : ∀ W, Ext I w W → dIno.K W x (inoC x e r)) :
    Fn0 Tryz.prog 141 #[.agg (inoC x e r).toArray] w I (fun y : Sl × Sl => .agg (inoC x y.1 y.2).toArray) (fun y W => InoR W x y.1 y.2) := by
  refine enter (svs := [.ag ((inoC x e r).map .v)]) tysOk Tryz.func141 rfl Tryz.ntmps141 Tryz.results141 (by kernel_rfl) (by simp) hI (fun W => InoR W x e r) (fun W e => ino_get (h W e)) fun C hC hN ok => ?_
  obtain ⟨ea, ec⟩ := e
  obtain ⟨ra, rc⟩ := r
  simp [hN]
  intro g1 g2
  refine drawW ok mixed (by kernel_rfl) ?_
  simp -implicitDefEqProofs [hN]
  have e1 : ∀ w I, (∀ b, I b → b < w.heap.size) → (∀ W, Ext I w W → InoR W x (ea, ec) (ra, rc)) → Fn0 Tryz.prog 186 #[.slice ea x.ents.length ec] w I Sv.val (fun r W => Sv.ok dEnt W r x.ents) := fun w I hI h => cloneE w I hI x.ents fun W e => ⟨rfl, (h W e).1⟩
  have e2 : ∀ w I, (∀ b, I b → b < w.heap.size) → (∀ W, Ext I w W → InoR W x (ea, ec) (ra, rc)) → Fn0 Tryz.prog 187 #[.slice ra x.runs.length rc] w I Sv.val (fun r W => Sv.ok dRn W r x.runs) := fun w I hI h => cloneR w I hI x.runs fun W e => ⟨rfl, (h W e).2⟩
  and_intros
  all_goals
    refine call0 ok rfl rfl rfl (fun w I hI hG => e1 w I hI hG) fun q W hq => ?_
    obtain ⟨qa, qn, qc⟩ := q
    obtain rfl : qn = x.ents.length := hq.1
    simp -implicitDefEqProofs [hN]
    refine call0 ok rfl rfl rfl (fun w I hI hG => e2 w I hI fun W e => (hG W e).2) fun q W hq => ?_
    obtain ⟨pa, pn, pc⟩ := q
    obtain rfl : pn = x.runs.length := hq.1
    simp -implicitDefEqProofs [hN]
    exact ret0 hC ((qa, qc), (pa, pc)) rfl fun W _ hG => ⟨hG.2.1.2, hG.1.2⟩
end Go.Proofs.YtbbaoeidobdblaaGreat.Sx

/- state.copied, state.Whole. -/
set_option linter.unusedVariables false
set_option linter.unusedSimpArgs false
namespace Go.Proofs.YtbbaoeidobdblaaGreat.Sx
open Go
attribute [local simp ↓] ifb_true' ifb_false'
attribute [local simp] ifb_true ifb_false ifb_eq sx argsT find ev evOp evs evo evBin evInt evStr evNil evNilA ptrA slcA isNoneA asB evLoad look del cellsB evUn evConv kdec fld evFieldA evField evIdxA evIdx evSlc bndL bndH evLen mmi put resV guardV gvL setO tupV cellsOf ones one upd lits nv exitTo SV.val CV.val TI.agg rdyA allR keepB scan simpO gsp isS subs keepT pickT wr memN pubs Res.fact Region.binds bld rest give delL back Res.eqv vi vb num Sv.val
/-- Inodes' cells, one by one. -/
def inosC (l : List Ix) : List CV := l.flatMap fun y => (inoC y.1 y.2.1 y.2.2).map .v
theorem inosC_snoc (l : List Ix) (y : Ix) : inosC (l ++ [y]) = inosC l ++ (inoC y.1 y.2.1 y.2.2).map .v := by simp [inosC]
theorem inosC_length (l : List Ix) : (inosC l).length = l.length * 7 := by
  induction l with
  | nil => rfl
  | cons x r ih => simp [inosC] at ih ⊢; omega
def InosR (W : World) (l : List Ix) : Prop := ∀ y, y ∈ l → InoR W y.1 y.2.1 y.2.2
/-- Slices of one's own that hold inodes. -/
abbrev Inos := Option Addr × Nat × List Ix
abbrev Inos.val (r : Inos) : Value := .slice r.1 r.2.2.length r.2.1
abbrev Inos.res (r : Inos) : Res := .row r.1 r.2.2.length r.2.1 44 7 (inosC r.2.2)
theorem copied0 (w : World) (I : Nat → Prop) (hI : ∀ b, I b → b < w.heap.size) {a : Option Addr} {n c : Nat} (xs : List Ino) (h : ∀ W, Ext I w W → Sv.ok dIno W (a, n, c) xs) (hl : xs.length ≤ 1000000000) :
    FnS Tryz.prog 107 #[.slice a n c] w I noS Inos.val (fun r => [Inos.res r]) (fun r W => r.2.2.map Prod.fst = xs ∧ InosR W r.2.2) := by
  obtain rfl : n = xs.length := (h w (Ext.refl _ _)).1
  refine enterS (svs := [.c (.v (.slice a xs.length c))]) tysOk Tryz.func107 rfl Tryz.ntmps107 Tryz.results107 (by kernel_rfl) (by simp) hI [] (owns_nil w) (fun b hb => hb.elim) (fun W => Sv.ok dIno W (a, xs.length, c) xs) h fun C hC hN ok => ?_
  simp [hN]
  refine nilr 600 44 7 (loop ok (fun y : Nat × Inos => [(8, .c (.v (.int .i64 (y.1 : Nat)))), (3, .c (.v (.slice y.2.1 y.1 y.2.2.1)))]) (fun y => [(600, .row y.2.1 y.1 y.2.2.1 44 7 (inosC y.2.2.2))]) (fun y W => y.1 ≤ xs.length ∧ y.2.2.2.map Prod.fst = xs.take y.1 ∧ InosR W y.2.2.2) (fun y => xs.length - y.1) (0, none, 0, []) ?_ ?_ (fun W hW => ⟨Nat.zero_le _, by simp, fun y hy => by cases hy⟩) ?_)
  · simp
  · simp [inosC]
  rintro ⟨i, ya, yc, l⟩ W ⟨hi, hm, hr⟩ hG next
  simp [hN]
  refine ⟨fun hlt => ?_, fun hge => ?_⟩
  · obtain ⟨b, o, e⟩ := (show Sv.ok dIno W (a, xs.length, c) xs from hG).2.2.2.is_some (Nat.lt_of_le_of_lt (Nat.zero_le _) hlt)
    cases e
    simp [hN]
    have e6 : IntKind.i64.wrap ((i : Int) + 1) = (i + 1 : Nat) := by rw [w64 (by omega) (by omega)]; omega
    have ft : xs.take (i + 1) = xs.take i ++ [xs[i]] := by rw [List.take_add_one, List.getElem?_eq_getElem hlt]; rfl
    generalize hd : xs[i] = d at ft
    refine ⟨hlt, loadA ok rfl rfl rfl rfl (fun c W => dIno.K W d c) (fun W hW => ?_) ?_⟩
    · obtain ⟨cs, hk, hl, hc⟩ := hW.2.2.2.2.get hlt
      rw [hd] at hk
      exact ⟨cs, hl, hc, hk⟩
    · rintro v W _ ⟨⟨ea, ec⟩, ⟨ra, rc⟩, rfl, hR⟩ hG2
      simp [hN]
      intro g5
      refine call0 ok rfl rfl rfl (fun w I hI hG => own0 w I hI d (ea, ec) (ra, rc) fun W e => (hG W e).1) fun q W _ => ?_
      obtain ⟨⟨qa, qc⟩, ⟨pa, pc⟩⟩ := q
      simp [hN]
      intro g15
      refine appR ok 600 15 rfl rfl rfl rfl rfl (by decide) rfl rfl rfl rfl rfl rfl rfl (by decide) (by simp) (by show (i + 1) * 96 ≤ _; omega) (by omega) fun g' c' => ?_
      simp [hN, e6]
      refine next (i + 1, some ⟨g', 0, none⟩, c', l ++ [(d, (qa, qc), (pa, pc))]) _ _ (by simp; omega) (fun W h => ⟨⟨hlt, by simp [hm, ft], fun y hy => ?_⟩, h.2.2.2⟩) ?_
      · rcases List.mem_append.1 hy with hy | hy
        · exact h.2.2.1.2.2 y hy
        · rw [List.mem_singleton.1 hy]
          exact h.1
      · simp [inosC_snoc]
  · have hi' : i = xs.length := by simp only at hi; omega
    subst hi'
    have hll : l.length = xs.length := by have := congrArg List.length hm; simpa using this
    refine retS hC (ya, yc, l) [600] (by simp [hll]) (by simp [hll]) fun W _ hG => ⟨by have := hG.1.2.1; rwa [List.take_length] at this, hG.1.2.2⟩
/-- Deeds' cells. -/
abbrev Dx := Dee × Sl × Sl
def deesC (l : List Dx) : List CV := l.flatMap fun y => (deeC y.1 y.2.1 y.2.2).map .v
theorem deesC_snoc (l : List Dx) (y : Dx) : deesC (l ++ [y]) = deesC l ++ (deeC y.1 y.2.1 y.2.2).map .v := by simp [deesC]
def DeesR (W : World) (l : List Dx) : Prop := ∀ y, y ∈ l → InoR W y.1.ino y.2.1 y.2.2
theorem dees_rows {W : World} : ∀ (l : List Dx), DeesR W l → Rows dDee W (l.map Prod.fst) ((deesC l).map CV.val)
  | [], _ => rows_nil _ _
  | y :: l, h => by
    refine Rows.cons_iff.2 ⟨deeC y.1 y.2.1 y.2.2, (deesC l).map CV.val, by simp [deesC, Function.comp_def, CV.val], ⟨y.2.1, y.2.2, rfl, h y List.mem_cons_self⟩, dees_rows l fun z hz => h z (List.mem_cons_of_mem _ hz)⟩
theorem inos_rows {W : World} : ∀ (l : List Ix), InosR W l → Rows dIno W (l.map Prod.fst) ((inosC l).map CV.val)
  | [], _ => rows_nil _ _
  | y :: l, h => by
    refine Rows.cons_iff.2 ⟨inoC y.1 y.2.1 y.2.2, (inosC l).map CV.val, by simp [inosC, Function.comp_def, CV.val], ⟨y.2.1, y.2.2, rfl, h y List.mem_cons_self⟩, inos_rows l fun z hz => h z (List.mem_cons_of_mem _ hz)⟩
def inoZ : Ino := ⟨0, 0, 0, 0, ⟨#[]⟩, [], []⟩
/-- The deeds that a state is. -/
def wholeL (s : Sta) : List Dee := ⟨1, s.next, inoZ⟩ :: (s.inos.map fun x => ⟨2, 0, x⟩) ++ s.bad.map fun n => ⟨4, n, inoZ⟩
theorem sta_get {W : World} {i b : Sl} {x : Sta} (h : StaR W x i b) : Sv.ok dIno W (i.1, x.inos.length, i.2) x.inos ∧ Sv.ok dInt W (b.1, x.bad.length, b.2) x.bad := ⟨⟨rfl, h.1⟩, ⟨rfl, h.2⟩⟩
theorem whole0 (w : World) (I : Nat → Prop) (hI : ∀ b, I b → b < w.heap.size) (s : Sta) (si sb : Sl) (h : ∀ W, Ext I w W → StaR W s si sb) (hl : s.inos.length + s.bad.length ≤ 1000000000) :
    Fn0 Tryz.prog 93 #[.agg (staC s si sb).toArray] w I Sv.val (fun r W => Sv.ok dDee W r (wholeL s)) := by
  obtain ⟨ia, ic⟩ := si
  obtain ⟨ba, bc⟩ := sb
  refine enter (svs := [.ag ((staC s (ia, ic) (ba, bc)).map .v)]) tysOk Tryz.func93 rfl Tryz.ntmps93 Tryz.results93 (by kernel_rfl) (by simp) hI (fun W => StaR W s (ia, ic) (ba, bc)) h fun C hC hN ok => ?_
  simp [hN]
  intro g1 g2
  have z0 : ∀ W, InoR W inoZ (none, 0) (none, 0) := fun W => ⟨⟨Nat.le_refl _, by simp [inoZ], rd_nil _ _ _⟩, ⟨Nat.le_refl _, by simp [inoZ], rd_nil _ _ _⟩⟩
  refine loop ok (fun y : Nat × Option Addr × Nat × List Dx => [(15, .c (.v (.int .i64 (y.1 : Nat)))), (3, .c (.v (.slice y.2.1 (y.1 + 1) y.2.2.1)))]) (fun y => [(11, .row y.2.1 (y.1 + 1) y.2.2.1 46 9 (deesC y.2.2.2)), (1, .box g1 39 ((staC s (ia, ic) (ba, bc)).map .v))]) (fun y W => y.1 ≤ s.inos.length ∧ y.2.2.2.map Prod.fst = ⟨1, s.next, inoZ⟩ :: ((s.inos.take y.1).map fun x => ⟨2, 0, x⟩) ∧ DeesR W y.2.2.2) (fun y => s.inos.length - y.1) (0, some ⟨g2, 0, none⟩, 1, [(⟨1, s.next, inoZ⟩, (none, 0), (none, 0))]) ?_ ?_ (fun W hW => ⟨Nat.zero_le _, by simp, fun y hy => by rw [List.mem_singleton.1 hy]; exact z0 W⟩) ?_
  · simp
  · simp [deesC, inoZ]
  rintro ⟨i, ya, yc, l⟩ W ⟨hi, hm, hr⟩ hG next
  simp [hN]
  refine ⟨fun hlt => ?_, fun hge => ?_⟩
  · obtain ⟨b, o, e⟩ := (sta_get (show StaR W s (ia, ic) (ba, bc) from hG)).1.2.2.2.is_some (Nat.lt_of_le_of_lt (Nat.zero_le _) hlt)
    cases e
    simp [hN]
    have e6 : IntKind.i64.wrap ((i : Int) + 1) = (i + 1 : Nat) := by rw [w64 (by omega) (by omega)]; omega
    have ft : s.inos.take (i + 1) = s.inos.take i ++ [s.inos[i]] := by rw [List.take_add_one, List.getElem?_eq_getElem hlt]; rfl
    generalize hd : s.inos[i] = d at ft
    refine ⟨hlt, loadA ok rfl rfl rfl rfl (fun c W => dIno.K W d c) (fun W hW => ?_) ?_⟩
    · obtain ⟨cs, hk, hl, hc⟩ := (sta_get hW.2).1.2.2.2.get hlt
      rw [hd] at hk
      exact ⟨cs, hl, hc, hk⟩
    · rintro v W _ ⟨⟨ea, ec⟩, ⟨ra, rc⟩, rfl, hR⟩ hG2
      simp [hN]
      intro g5
      refine call0 ok rfl rfl rfl (fun w I hI hG => own0 w I hI d (ea, ec) (ra, rc) fun W e => (hG W e).1) fun q W _ => ?_
      obtain ⟨⟨qa, qc⟩, ⟨pa, pc⟩⟩ := q
      simp [hN]
      intro g15
      refine appR ok 11 23 rfl rfl rfl rfl rfl (by decide) rfl rfl rfl rfl rfl rfl rfl (by decide) (by simp) (by show (i + 1 + 1) * 112 ≤ _; omega) (by omega) fun g' c' => ?_
      simp [hN, e6]
      refine next (i + 1, some ⟨g', 0, none⟩, c', l ++ [(⟨2, 0, d⟩, (qa, qc), (pa, pc))]) _ _ (by simp; omega) (fun W h => ⟨⟨hlt, by simp [hm, ft], fun y hy => ?_⟩, h.2.2.2⟩) ?_
      · rcases List.mem_append.1 hy with hy | hy
        · exact h.2.2.1.2.2 y hy
        · rw [List.mem_singleton.1 hy]
          exact h.1
      · simp [deesC_snoc]
  · have hi' : i = s.inos.length := by simp only at hi; omega
    subst hi'
    have hT : s.inos.take s.inos.length = s.inos := List.take_length
    rw [hT] at *
    simp [hN]
    refine loop ok (fun y : Nat × Option Addr × Nat × List Dx => [(29, .c (.v (.int .i64 (y.1 : Nat)))), (3, .c (.v (.slice y.2.1 (s.inos.length + 1 + y.1) y.2.2.1)))]) (fun y => [(11, .row y.2.1 (s.inos.length + 1 + y.1) y.2.2.1 46 9 (deesC y.2.2.2))]) (fun y W => y.1 ≤ s.bad.length ∧ y.2.2.2.map Prod.fst = ⟨1, s.next, inoZ⟩ :: (s.inos.map fun x => ⟨2, 0, x⟩) ++ ((s.bad.take y.1).map fun n => ⟨4, n, inoZ⟩) ∧ DeesR W y.2.2.2) (fun y => s.bad.length - y.1) (0, ya, yc, l) ?_ ?_ (fun W hW => ⟨Nat.zero_le _, by simpa using hm, hW.1.2⟩) ?_
    · simp
    · simp
    rintro ⟨i, za, zc, k⟩ W ⟨hi2, hm2, hr2⟩ hG3 next2
    simp [hN]
    refine ⟨fun hlt => ?_, fun hge => ?_⟩
    · obtain ⟨b, o, e⟩ := (sta_get (show StaR W s (ia, ic) (ba, bc) from hG3.2)).2.2.2.2.is_some (Nat.lt_of_le_of_lt (Nat.zero_le _) hlt)
      cases e
      simp [hN]
      have e6 : IntKind.i64.wrap ((i : Int) + 1) = (i + 1 : Nat) := by rw [w64 (by omega) (by omega)]; omega
      have ft : s.bad.take (i + 1) = s.bad.take i ++ [s.bad[i]] := by rw [List.take_add_one, List.getElem?_eq_getElem hlt]; rfl
      generalize hd : s.bad[i] = d at ft
      refine ⟨hlt, load1 ok rfl rfl rfl rfl (fun v W => v = .int .i64 d) (fun W hW => ?_) ?_⟩
      · obtain ⟨cs, hk, _, hc⟩ := (sta_get hW.2.2).2.2.2.2.get hlt
        rw [hd] at hk
        exact ⟨_, by simpa [dInt, flat] using hc 0 (.int .i64 d) (by rw [hk]; rfl), rfl⟩
      · rintro v W rfl hG4
        simp [hN]
        intro g15
        refine appR ok 11 36 rfl rfl rfl rfl rfl (by decide) rfl rfl rfl rfl rfl rfl rfl (by decide) (by simp) (by show (s.inos.length + 1 + i + 1) * 112 ≤ _; omega) (by omega) fun g' c' => ?_
        simp [hN, e6]
        refine next2 (i + 1, some ⟨g', 0, none⟩, c', k ++ [(⟨4, d, inoZ⟩, (none, 0), (none, 0))]) _ _ (by simp; omega) (fun W h => ⟨⟨hlt, by simp [hm2, ft], fun y hy => ?_⟩, h.2⟩) ?_
        · rcases List.mem_append.1 hy with hy | hy
          · exact h.1.2.2 y hy
          · rw [List.mem_singleton.1 hy]
            exact z0 W
        · simp [deesC_snoc, inoZ, Nat.add_assoc]
    · have hi' : i = s.bad.length := by simp only at hi2; omega
      subst hi'
      have hT2 : s.bad.take s.bad.length = s.bad := List.take_length
      have hm3 : k.map Prod.fst = wholeL s := by rw [hm2, hT2]; rfl
      have hkl : (wholeL s).length = s.inos.length + 1 + s.bad.length := by simp [wholeL]; omega
      refine ret0 hC (za, s.inos.length + 1 + s.bad.length, zc) rfl fun W hp hG => ?_
      have hrw := dees_rows k hG.1.2.2
      rw [hm3] at hrw
      obtain ⟨k1, k2, k3⟩ := hrw.rd hp.1 (by decide)
      exact ⟨k1, by simp; omega, by omega, k3⟩
end Go.Proofs.YtbbaoeidobdblaaGreat.Sx

/- nor.Right, half.Size, frame.Size, cut.Ceil. -/
set_option linter.unusedVariables false
set_option linter.unusedSimpArgs false
namespace Go.Proofs.YtbbaoeidobdblaaGreat.Sx
open Go
attribute [local simp ↓] ifb_true' ifb_false'
attribute [local simp] ifb_true ifb_false ifb_eq sx argsT find ev evOp evs evo evBin evInt evStr evNil evNilA ptrA slcA isNoneA asB evLoad look del cellsB evUn evConv kdec fld evFieldA evField evIdxA evIdx evSlc bndL bndH evLen mmi put resV guardV gvL setO tupV cellsOf ones one upd lits nv exitTo SV.val CV.val TI.agg rdyA allR keepB scan simpO gsp isS subs keepT pickT wr memN pubs Res.fact Region.binds bld rest give delL back Res.eqv vi vb num Sv.val
theorem within0 (w : World) (I : Nat → Prop) (hI : ∀ b, I b → b < w.heap.size) (v l t : Int) :
    Fn0 Tryz.prog 95 #[.int .i64 v, .int .i64 l, .int .i64 t] w I (fun b : Bool => .bool b) (fun y W => y = decide (l ≤ v ∧ v ≤ t)) := by
  refine enter (svs := [.c (.v (.int .i64 v)), .c (.v (.int .i64 l)), .c (.v (.int .i64 t))]) tysOk Tryz.func95 rfl Tryz.ntmps95 Tryz.results95 (by kernel_rfl) (by simp) hI (fun _ => True) (fun _ _ => trivial) fun C hC hN ok => ?_
  simp [hN]
  exact ⟨fun h => ret0 hC _ rfl fun W _ _ => by simp [h], fun h => ret0 hC _ rfl fun W _ _ => by simp; omega⟩
theorem frameSize0 (w : World) (I : Nat → Prop) (hI : ∀ b, I b → b < w.heap.size) (n : Int) (h0 : -9223372036854775808 ≤ n + 7) (h1 : n + 7 ≤ 9223372036854775807) :
    Fn0 Tryz.prog 59 #[.int .i64 n] w I (fun v : Int => .int .i64 v) (fun y W => y = n + 7) := by
  refine enter (svs := [.c (.v (.int .i64 n))]) tysOk Tryz.func59 rfl Tryz.ntmps59 Tryz.results59 (by kernel_rfl) (by simp) hI (fun _ => True) (fun _ _ => trivial) fun C hC hN ok => ?_
  simp [hN, w64 h0 h1]
  exact ret0 hC _ rfl fun W _ _ => rfl
/-- A geometry. -/
structure Geo where
  sectors : Int
  sector : Int
  blocks : Int
  pages : Int
  page : Int
deriving DecidableEq
abbrev geoC (g : Geo) : List Value := [.int .i64 g.sectors, .int .i64 g.sector, .int .i64 g.blocks, .int .i64 g.pages, .int .i64 g.page]
def Geo.right (g : Geo) : Prop := g.sectors.tmod 2 = 0 ∧ (2 ≤ g.sectors ∧ g.sectors ≤ 16) ∧ (256 ≤ g.sector ∧ g.sector ≤ 4096) ∧ (4 ≤ g.blocks ∧ g.blocks ≤ 64) ∧ (2 ≤ g.pages ∧ g.pages ≤ 32) ∧ (16 ≤ g.page ∧ g.page ≤ 256)
instance (g : Geo) : Decidable g.right := by unfold Geo.right; infer_instance
theorem norRight0 (w : World) (I : Nat → Prop) (hI : ∀ b, I b → b < w.heap.size) (g : Geo) :
    Fn0 Tryz.prog 53 #[.agg (geoC g).toArray] w I (fun b : Bool => .bool b) (fun y W => y = decide g.right) := by
  refine enter (svs := [.ag ((geoC g).map .v)]) tysOk Tryz.func53 rfl Tryz.ntmps53 Tryz.results53 (by kernel_rfl) (by simp) hI (fun _ => True) (fun _ _ => trivial) fun C hC hN ok => ?_
  simp [hN]
  intro g1
  refine ⟨fun h0 => ?_, fun h0 => ret0 hC false rfl fun W _ _ => by simp [Geo.right, h0]⟩
  refine call0 ok rfl rfl rfl (fun w I hI hG => within0 w I hI _ _ _) fun y1 W hy1 => ?_
  simp [hN]
  refine ⟨fun h1 => ?_, fun h1 => ret0 hC false rfl fun W _ _ => by rw [hy1] at h1; exact (decide_eq_false fun hr => absurd hr.2.1 (of_decide_eq_false h1)).symm⟩
  refine call0 ok rfl rfl rfl (fun w I hI hG => within0 w I hI _ _ _) fun y2 W hy2 => ?_
  simp [hN]
  refine ⟨fun h2 => ?_, fun h2 => ret0 hC false rfl fun W _ _ => by rw [hy2] at h2; exact (decide_eq_false fun hr => absurd hr.2.2.1 (of_decide_eq_false h2)).symm⟩
  refine call0 ok rfl rfl rfl (fun w I hI hG => within0 w I hI _ _ _) fun y3 W hy3 => ?_
  simp [hN]
  refine ⟨fun h3 => ?_, fun h3 => ret0 hC false rfl fun W _ _ => by rw [hy3] at h3; exact (decide_eq_false fun hr => absurd hr.2.2.2.1 (of_decide_eq_false h3)).symm⟩
  refine call0 ok rfl rfl rfl (fun w I hI hG => within0 w I hI _ _ _) fun y4 W hy4 => ?_
  simp [hN]
  refine ⟨fun h4 => ?_, fun h4 => ret0 hC false rfl fun W _ _ => by rw [hy4] at h4; exact (decide_eq_false fun hr => absurd hr.2.2.2.2.1 (of_decide_eq_false h4)).symm⟩
  refine call0 ok rfl rfl rfl (fun w I hI hG => within0 w I hI _ _ _) fun y5 W hy5 => ?_
  simp [hN]
  refine ret0 hC y5 rfl fun W _ _ => ?_
  rw [hy1] at h1
  rw [hy2] at h2
  rw [hy3] at h3
  rw [hy4] at h4
  rw [hy5]
  simp at h1 h2 h3 h4
  simp [Geo.right, h0, h1, h2, h3, h4]
theorem halfSize0 (w : World) (I : Nat → Prop) (hI : ∀ b, I b → b < w.heap.size) (g : Geo) :
    Fn0 Tryz.prog 94 #[.agg (geoC g).toArray] w I (fun v : Int => .int .i64 v) (fun y W => y = if g.right then g.sectors / 2 * g.sector else 0) := by
  refine enter (svs := [.ag ((geoC g).map .v)]) tysOk Tryz.func94 rfl Tryz.ntmps94 Tryz.results94 (by kernel_rfl) (by simp) hI (fun _ => True) (fun _ _ => trivial) fun C hC hN ok => ?_
  simp [hN]
  intro g1
  refine call0 ok rfl rfl rfl (fun w I hI hG => norRight0 w I hI g) fun y W hy => ?_
  simp [hN]
  refine ⟨fun h => ?_, fun h => ?_⟩
  · rw [hy] at h
    simp at h
    exact ret0 hC _ rfl fun W _ _ => by rw [if_neg h]
  · rw [hy] at h
    simp at h
    refine ret0 hC _ rfl fun W _ _ => ?_
    rw [if_pos h]
    obtain ⟨h0, h1, h2, _⟩ := h
    have e1 : g.sectors.fdiv (2 ^ min 1 IntKind.i64.bits) = g.sectors / 2 := by
      rw [show (2 : Int) ^ min 1 IntKind.i64.bits = 2 by decide]
      exact Int.fdiv_eq_ediv_of_nonneg _ (by decide)
    rw [e1]
    have h3 : 0 ≤ g.sectors / 2 := by omega
    have h4 : g.sectors / 2 ≤ 8 := by omega
    have h5 : 0 ≤ g.sectors / 2 * g.sector := Int.mul_nonneg h3 (by omega)
    have h6 : g.sectors / 2 * g.sector ≤ 8 * 4096 := Int.mul_le_mul h4 h2.2 (by omega) (by decide)
    exact w64 (by omega) (by omega)
end Go.Proofs.YtbbaoeidobdblaaGreat.Sx

/- runs.goes, Right, Pages, Count. -/
set_option linter.unusedVariables false
set_option linter.unusedSimpArgs false
namespace Go.Proofs.YtbbaoeidobdblaaGreat.Sx
open Go
attribute [local simp ↓] ifb_true' ifb_false'
attribute [local simp] ifb_true ifb_false ifb_eq sx argsT find ev evOp evs evo evBin evInt evStr evNil evNilA ptrA slcA isNoneA asB evLoad look del cellsB evUn evConv kdec fld evFieldA evField evIdxA evIdx evSlc bndL bndH evLen mmi put resV guardV gvL setO tupV cellsOf ones one upd lits nv exitTo SV.val CV.val TI.agg rdyA allR keepB scan simpO gsp isS subs keepT pickT wr memN pubs Res.fact Region.binds bld rest give delL back Res.eqv vi vb num Sv.val undef
abbrev rnC (x : Rn) : List Value := [.int .i64 x.fr, .int .i64 x.at_, .int .i64 x.ct]
def okR (r : Rn) : Prop := 0 ≤ r.fr ∧ 0 ≤ r.at_ ∧ 1 ≤ r.ct ∧ r.ct ≤ 64 ∧ r.fr ≤ 64 - r.ct ∧ r.at_ ≤ 2147483648 - r.ct
def goesP (p r : Rn) : Prop := r.fr = p.fr + p.ct ∧ r.at_ = p.at_ + p.ct
def okS (p r : Rn) : Prop := p.fr + p.ct ≤ r.fr ∧ ¬ goesP p r
instance (r : Rn) : Decidable (okR r) := by unfold okR; infer_instance
instance (p r : Rn) : Decidable (goesP p r) := by unfold goesP; infer_instance
instance (p r : Rn) : Decidable (okS p r) := by unfold okS; infer_instance
end Go.Proofs.YtbbaoeidobdblaaGreat.Sx

/- runs.Pages, runs.Count. -/
set_option linter.unusedVariables false
set_option linter.unusedSimpArgs false
namespace Go.Proofs.YtbbaoeidobdblaaGreat.Sx
open Go
attribute [local simp ↓] ifb_true' ifb_false'
attribute [local simp] ifb_true ifb_false ifb_eq sx argsT find ev evOp evs evo evBin evInt evStr evNil evNilA ptrA slcA isNoneA asB evLoad look del cellsB evUn evConv kdec fld evFieldA evField evIdxA evIdx evSlc bndL bndH evLen mmi put resV guardV gvL setO tupV cellsOf ones one upd lits nv exitTo SV.val CV.val TI.agg rdyA allR keepB scan simpO gsp isS subs keepT pickT wr memN pubs Res.fact Region.binds bld rest give delL back Res.eqv vi vb num Sv.val undef
def iC (l : List Int) : List CV := l.map fun y => .v (.int .i64 y)
theorem iC_val (l : List Int) : (iC l).map CV.val = l.map (Value.int .i64) := by simp [iC, Function.comp_def, CV.val]
end Go.Proofs.YtbbaoeidobdblaaGreat.Sx

/- space.Of, space.Sure. -/
set_option linter.unusedVariables false
set_option linter.unusedSimpArgs false
namespace Go.Proofs.YtbbaoeidobdblaaGreat.Sx
open Go
attribute [local simp ↓] ifb_true' ifb_false'
attribute [local simp] ifb_true ifb_false ifb_eq sx argsT find ev evOp evs evo evBin evInt evStr evNil evNilA ptrA slcA isNoneA asB evLoad look del cellsB evUn evConv kdec fld evFieldA evField evIdxA evIdx evSlc bndL bndH evLen mmi put resV guardV gvL setO tupV cellsOf ones one upd lits nv exitTo SV.val CV.val TI.agg rdyA allR keepB scan simpO gsp isS subs keepT pickT wr memN pubs Res.fact Region.binds bld rest give delL back Res.eqv vi vb num Sv.val undef
structure Room where
  all : Int
  live : Int
  bad : Int
deriving DecidableEq
end Go.Proofs.YtbbaoeidobdblaaGreat.Sx

/- state.Apply of no deeds; space.Journal of no deeds. -/
set_option linter.unusedVariables false
set_option linter.unusedSimpArgs false
namespace Go.Proofs.YtbbaoeidobdblaaGreat.Sx
open Go
attribute [local simp ↓] ifb_true' ifb_false'
attribute [local simp] ifb_true ifb_false ifb_eq sx argsT find ev evOp evs evo evBin evInt evStr evNil evNilA ptrA slcA isNoneA asB evLoad look del cellsB evUn evConv kdec fld evFieldA evField evIdxA evIdx evSlc bndL bndH evLen mmi put resV guardV gvL setO tupV cellsOf ones one upd lits nv exitTo SV.val CV.val TI.agg rdyA allR keepB scan simpO gsp isS subs keepT pickT wr memN pubs Res.fact Region.binds bld rest give delL back Res.eqv vi vb num Sv.val undef
/-- How long a state's record is. -/
def wholeB (s : Sta) : Nat := (deedsB (wholeL s)).length
end Go.Proofs.YtbbaoeidobdblaaGreat.Sx

/- References: new inodes and states; geometries. -/
set_option linter.unusedVariables false
set_option linter.unusedSimpArgs false
namespace Go.Proofs.YtbbaoeidobdblaaGreat.Sx
open Go
attribute [local simp ↓] ifb_true' ifb_false'
attribute [local simp] ifb_true ifb_false ifb_eq sx argsT find ev evOp evs evo evBin evInt evStr evNil evNilA ptrA slcA isNoneA asB evLoad look del cellsB evUn evConv kdec fld evFieldA evField evIdxA evIdx evSlc bndL bndH evLen mmi put resV guardV gvL setO tupV cellsOf ones one upd lits nv exitTo SV.val CV.val TI.agg rdyA allR keepB scan simpO gsp isS subs keepT pickT wr memN pubs Res.fact Region.binds bld rest give delL back Res.eqv vi vb num Sv.val undef
def emp : ByteArray := ⟨#[]⟩
def newIno (no kind : Int) (t : ByteArray) : Ino := ⟨no, kind, if kind = 2 then 2 else 1, if kind = 3 then t.size else 0, if kind = 3 then t else emp, [], []⟩
def newSta : Sta := ⟨2, [newIno 1 2 emp], []⟩
def modP (v n : Int) : Int := (v % 18446744073709551616) % n
theorem mod0 (w : World) (I : Nat → Prop) (hI : ∀ b, I b → b < w.heap.size) (v n : Int) (h0 : 0 < n) (h1 : n ≤ 1000000000) :
    Fn0 Tryz.prog 52 #[.int .i64 v, .int .i64 n] w I (fun z : Int => .int .i64 z) (fun y W => y = modP v n) := by
  refine enter (svs := [.c (.v (.int .i64 v)), .c (.v (.int .i64 n))]) tysOk Tryz.func52 rfl Tryz.ntmps52 Tryz.results52 (by kernel_rfl) (by simp) hI (fun _ => True) (fun _ _ => trivial) fun C hC hN ok => ?_
  have e1 : n % 18446744073709551616 = n := by omega
  simp [hN, u64_wrap, e1]
  have e2 : 0 ≤ v % 18446744073709551616 := by omega
  have e3 : (v % 18446744073709551616).tmod n = modP v n := Int.tmod_eq_emod_of_nonneg e2
  have e4 : 0 ≤ modP v n := Int.emod_nonneg _ (by omega)
  have e5 : modP v n < n := Int.emod_lt_of_pos _ h0
  rw [e3, w64 (by omega) (by omega)]
  exact ⟨by omega, ret0 hC _ rfl fun _ _ _ => rfl⟩
theorem wide0 (w : World) (I : Nat → Prop) (hI : ∀ b, I b → b < w.heap.size) :
    Fn0 Tryz.prog 23 #[] w I (fun _ : Unit => .agg (geoC ⟨8, 2048, 12, 8, 32⟩).toArray) (fun y W => True) := by
  refine enter (svs := []) tysOk Tryz.func23 rfl Tryz.ntmps23 Tryz.results23 (by kernel_rfl) (by simp) hI (fun _ => True) (fun _ _ => trivial) fun C hC hN ok => ?_
  simp [hN]
  exact fun g1 => ret0 hC () rfl fun _ _ _ => trivial
def geoP (g : Geo) : Geo := ⟨2 + 2 * modP g.sectors 3, 256 + 64 * modP g.sector 12, 4 + modP g.blocks 5, 2 + modP g.pages 5, 16 + 4 * modP g.page 6⟩
theorem modP_le (v n : Int) (h : 0 < n) : 0 ≤ modP v n ∧ modP v n < n := ⟨Int.emod_nonneg _ (by omega), Int.emod_lt_of_pos _ h⟩
theorem geoP_right (g : Geo) : (geoP g).right := by
  have h1 := modP_le g.sectors 3 (by decide)
  have h2 := modP_le g.sector 12 (by decide)
  have h3 := modP_le g.blocks 5 (by decide)
  have h4 := modP_le g.pages 5 (by decide)
  have h5 := modP_le g.page 6 (by decide)
  have h0 : (2 + 2 * modP g.sectors 3).tmod 2 = 0 := by rw [Int.tmod_eq_emod_of_nonneg (by omega)]; omega
  simp only [Geo.right, geoP]
  exact ⟨h0, by omega, by omega, by omega, by omega, by omega⟩
set_option maxRecDepth 100000 in
set_option maxHeartbeats 4000000 in
theorem geometry0 (w : World) (I : Nat → Prop) (hI : ∀ b, I b → b < w.heap.size) (g : Geo) :
    Fn0 Tryz.prog 11 #[.agg (geoC g).toArray] w I (fun _ : Unit => .agg (geoC (geoP g)).toArray) (fun y W => True) := by
  refine enter (svs := [.ag ((geoC g).map .v)]) tysOk Tryz.func11 rfl Tryz.ntmps11 Tryz.results11 (by kernel_rfl) (by simp) hI (fun _ => True) (fun _ _ => trivial) fun C hC hN ok => ?_
  have h1 := modP_le g.sectors 3 (by decide)
  have h2 := modP_le g.sector 12 (by decide)
  have h3 := modP_le g.blocks 5 (by decide)
  have h4 := modP_le g.pages 5 (by decide)
  have h5 := modP_le g.page 6 (by decide)
  simp [hN]
  intro g1 g2
  refine draw ok [(1, .box g1 23 ((geoC g).map .v))] (by rw [ok.P]; exact mixed) (by kernel_rfl) ?_
  simp (maxSteps := 2000000) -implicitDefEqProofs [hN]
  refine call0 ok rfl rfl rfl (fun w I hI hG => mod0 w I hI _ 3 (by decide) (by decide)) fun y W hy => ?_
  subst hy
  simp (maxSteps := 2000000) -implicitDefEqProofs [hN, w64 (x := 2 * modP g.sectors 3) (by omega) (by omega), w64 (x := 2 + 2 * modP g.sectors 3) (by omega) (by omega)]
  refine call0 ok rfl rfl rfl (fun w I hI hG => mod0 w I hI _ 12 (by decide) (by decide)) fun y W hy => ?_
  subst hy
  simp (maxSteps := 2000000) -implicitDefEqProofs [hN, w64 (x := 64 * modP g.sector 12) (by omega) (by omega), w64 (x := 256 + 64 * modP g.sector 12) (by omega) (by omega)]
  refine call0 ok rfl rfl rfl (fun w I hI hG => mod0 w I hI _ 5 (by decide) (by decide)) fun y W hy => ?_
  subst hy
  simp (maxSteps := 2000000) -implicitDefEqProofs [hN, w64 (x := 4 + modP g.blocks 5) (by omega) (by omega)]
  refine call0 ok rfl rfl rfl (fun w I hI hG => mod0 w I hI _ 5 (by decide) (by decide)) fun y W hy => ?_
  subst hy
  simp (maxSteps := 2000000) -implicitDefEqProofs [hN, w64 (x := 2 + modP g.pages 5) (by omega) (by omega)]
  refine call0 ok rfl rfl rfl (fun w I hI hG => mod0 w I hI _ 6 (by decide) (by decide)) fun y W hy => ?_
  subst hy
  simp (maxSteps := 2000000) -implicitDefEqProofs [hN, w64 (x := 4 * modP g.page 6) (by omega) (by omega), w64 (x := 16 + 4 * modP g.page 6) (by omega) (by omega)]
  exact ret0 hC () rfl fun _ _ _ => trivial
end Go.Proofs.YtbbaoeidobdblaaGreat.Sx

/- awake of law 27. -/
set_option linter.unusedVariables false
set_option linter.unusedSimpArgs false
namespace Go.Proofs.YtbbaoeidobdblaaGreat.Sx
open Go
attribute [local simp ↓] ifb_true' ifb_false'
attribute [local simp] ifb_true ifb_false ifb_eq sx argsT find ev evOp evs evo evBin evInt evStr evNil evNilA ptrA slcA isNoneA asB evLoad look del cellsB evUn evConv kdec fld evFieldA evField evIdxA evIdx evSlc bndL bndH evLen mmi put resV guardV gvL setO tupV cellsOf ones one upd lits nv exitTo SV.val CV.val TI.agg rdyA allR keepB scan simpO gsp isS subs keepT pickT wr memN pubs Res.fact Region.binds bld rest give delL back Res.eqv vi vb num Sv.val undef
def wideG : Geo := ⟨8, 2048, 12, 8, 32⟩
theorem wide_right : wideG.right := by decide
end Go.Proofs.YtbbaoeidobdblaaGreat.Sx

/- In of numbers. -/
set_option linter.unusedVariables false
set_option linter.unusedSimpArgs false
namespace Go.Proofs.YtbbaoeidobdblaaGreat.Sx
open Go
attribute [local simp ↓] ifb_true' ifb_false'
attribute [local simp] ifb_true ifb_false ifb_eq sx argsT find ev evOp evs evo evBin evInt evStr evNil evNilA ptrA slcA isNoneA asB evLoad look del cellsB evUn evConv kdec fld evFieldA evField evIdxA evIdx evSlc bndL bndH evLen mmi put resV guardV gvL setO tupV cellsOf ones one upd lits nv exitTo SV.val CV.val TI.agg rdyA allR keepB scan simpO gsp isS subs keepT pickT wr memN pubs Res.fact Region.binds bld rest give delL back Res.eqv vi vb num Sv.val undef
theorem int_get {W : World} {a : Option Addr} {n c : Nat} {l : List Int} (h : Sv.ok dInt W (a, n, c) l) {i : Nat} (hi : i < l.length) : ∃ b o, a = some ⟨b, o, none⟩ ∧ W.cell? ⟨b, o + i, none⟩ = some (.int .i64 l[i]) := by
  obtain ⟨b, o, e⟩ := h.2.2.2.is_some (show 0 < l.length by omega)
  cases e
  obtain ⟨cs, hk, _, hc⟩ := h.2.2.2.get hi
  exact ⟨b, o, rfl, by simpa [dInt, flat] using hc 0 (.int .i64 l[i]) (by rw [hk]; rfl)⟩
theorem in0 (w : World) (I : Nat → Prop) (hI : ∀ b, I b → b < w.heap.size) {a : Option Addr} {n c : Nat} (l : List Int) (x : Int) (h : ∀ W, Ext I w W → Sv.ok dInt W (a, n, c) l) :
    Fn0 Tryz.prog 114 #[.slice a n c, .int .i64 x] w I (fun b : Bool => .bool b) (fun y W => y = decide (x ∈ l)) := by
  obtain rfl : n = l.length := (h w (Ext.refl _ _)).1
  have hx := (h w (Ext.refl _ _)).2.2.1
  refine enter (svs := [.c (.v (.slice a l.length c)), .c (.v (.int .i64 x))]) tysOk Tryz.func114 rfl Tryz.ntmps114 Tryz.results114 (by kernel_rfl) (by simp) hI (fun W => Sv.ok dInt W (a, l.length, c) l) h fun C hC hN ok => ?_
  simp [hN]
  refine loop ok (fun i : Nat => [(5, .c (.v (.int .i64 i)))]) (fun _ => []) (fun i W => i ≤ l.length ∧ x ∉ l.take i) (fun i => l.length - i) 0 ?_ ?_ (fun W hW => ⟨Nat.zero_le _, by simp⟩) ?_
  · simp
  · simp
  rintro i W ⟨hi, hnx⟩ hG next
  rcases Nat.lt_or_ge i l.length with hlt | hge
  · obtain ⟨b, o, e, _⟩ := int_get (show Sv.ok dInt W (a, l.length, c) l from hG) hlt
    cases e
    have e6 : IntKind.i64.wrap ((i : Int) + 1) = (i + 1 : Nat) := by rw [w64 (by omega) (by omega)]; omega
    have ft : l.take (i + 1) = l.take i ++ [l[i]] := by rw [List.take_add_one, List.getElem?_eq_getElem hlt]; rfl
    simp [hN, hlt]
    refine load1 ok rfl rfl rfl rfl (fun v W => v = .int .i64 l[i]) (fun W hW => ?_) ?_
    · obtain ⟨b', o', e, hc⟩ := int_get hW.2 hlt
      cases e
      exact ⟨_, hc, rfl⟩
    rintro v W rfl _
    simp [hN, e6]
    refine ⟨fun he => ret0 hC true rfl fun _ _ _ => ?_, fun he => next (i + 1) _ _ (by omega) (fun W h => ⟨⟨hlt, ?_⟩, h.2⟩) ?_⟩
    · subst he
      simp
    · rw [ft]
      simp only [List.mem_append, List.mem_singleton, not_or]
      exact ⟨hnx, fun e => he e.symm⟩
    · simp
  · simp [hN, Nat.not_lt.2 hge]
    have hT : l.take i = l := List.take_of_length_le hge
    rw [hT] at hnx
    exact ret0 hC false rfl fun _ _ _ => by simp [hnx]
end Go.Proofs.YtbbaoeidobdblaaGreat.Sx

/- Sx, part 10: s[:h:m], appending to what has no room, and structs held against each other. -/
set_option linter.unusedVariables false
set_option linter.unusedSimpArgs false
namespace Go.Proofs.YtbbaoeidobdblaaGreat.Sx
open Go
theorem sb3_run {P : Program} {n c : Nat} {kh km : IntKind} {H M : Int} (h0 : 0 ≤ H) (h1 : H ≤ M) (h2 : M ≤ c) (w : World) :
    (Instr.sliceBounds true n c none (some (.int kh H)) (some (.int km M))).run P w = .ok (0, H.toNat, M.toNat) w := by
  unfold Instr.sliceBounds
  have hM : 0 ≤ M := by omega
  have hH : H ≤ (M.toNat : Int) := by omega
  have a1 := fun code w => sb_run (P := P) (k := km) (code := code) hM h2 w
  have a2 := fun code w => sb_run (P := P) (k := kh) (code := code) h0 hH w
  simp [a1, a2]
section
variable {P : Program} {C : Ctx} {T : Ty} {res : List ResultVar} {p : Pos} {tm : Tm} {m : Mem}
/-- s[:h:m]. -/
theorem slc3 (ok : Okc P T C res) {o : Oper} {t d : Nat} {x oh om : Operand} (ho : o.op = .slice t x none (some oh) (some om)) (hd : o.dst = some d) {i ie : TI} (hi : tf t T = some i) (hik : i.kd = 3) (hie : tf i.el T = some ie)
    {a : Option Addr} {n c : Nat} {u : SV} {kh km : IntKind} {H M : Int} (hx : ev tm x = some u) (hu : u.val = .slice a n c) (hh : ev tm oh = some (.c (.v (.int kh H)))) (hm : ev tm om = some (.c (.v (.int km M)))) (h0 : 0 ≤ H) (h1 : H ≤ M) (h2 : M ≤ c)
    (kk : sx T C res 1000 p (put C.n (some d) (.c (.v (.slice a H.toNat M.toNat))) tm) m) : At C (.op o p) tm m := by
  intro act w cs0 hR hJ
  have e1 : act.eval x = .slice a n c := by rw [hR.eval hx, hu]
  have e2 : act.eval oh = .int kh H := hR.eval hh
  have e3 : act.eval om = .int km M := hR.eval hm
  have hu2 := (ok.ty.get hi).g_slice hik
  have hz := (ok.ty.get hie).g_sizeOf (P := C.P)
  have hb := fun w => sb3_run (P := C.P) (n := n) (c := c) (kh := kh) (km := km) h0 h1 h2 w
  have hrun : (execOp act.eval o).run C.P w = .ok (.value (.slice a H.toNat M.toNat)) w := by
    simp [execOp, ho, e1, e2, e3, Instr.sliceAt, run_underlying hu2, Instr.slice, hb, hz]
    intro _
    cases a <;> simp [Addr.add]
  have hRp := hR.put (some d) (.c (.v (.slice a H.toNat M.toNat)))
  exact op_value (ok.sx kk) hrun (by rw [hd]; exact hRp) hJ
/-- What has no room left, and is in memory that nobody changes, is appended to: a new row (k). -/
theorem appC (ok : Okc P T C res) (k k' : Nat) {o : Oper} {s x : Operand} {t d : Nat} (ho : o.op = .call ⟨.builtin .append, #[s, x], #[t, t]⟩) (hd : o.dst = some d) {i ie : TI} (hi : tf t T = some i) (hik : i.kd = 3) (hie : tf i.el T = some ie) (h0 : 0 < ie.sz) (hzl : ie.zero.length = ie.sz)
    {b off n c g m' c' : Nat} {cs' : List CV} {u v : SV} (hnk : look k m.rs = some (.row none 0 0 i.el ie.sz [])) (hs : ev tm s = some u) (hu : u.val = .slice (some ⟨b, off, none⟩) n c) (hk' : look k' m.rs = some (.row (some ⟨g, 0, none⟩) m' c' i.el ie.sz cs')) (hx : ev tm x = some v) (hv : v.val = .slice (some ⟨g, 0, none⟩) m' c')
    (hm : 0 < m') (hfull : c < n + m') (hb : (n + m') * ie.bt ≤ 140737488355328) (hmx : n + m' ≤ 140737488355328) (Q : List Value → World → Prop)
    (h : ∀ W, m.G W → ∃ l, l.length = n * ie.sz ∧ (∀ u ∈ l, u.oneCell' = true) ∧ (∀ j v, l[j]? = some v → W.cell? ⟨b, off + j, none⟩ = some v) ∧ Q l W)
    (kk : ∀ l g' c'' W, Q l W → m.G W → sx T C res 1000 p (put C.n (some d) (.c (.rw k (some ⟨g', 0, none⟩) (n + m') c'')) tm) ⟨m.B, fun W => Q l W ∧ m.G W, (k, .row (some ⟨g', 0, none⟩) (n + m') c'' i.el ie.sz (l.map nv ++ cs')) :: del k (del k m.rs)⟩) : At C (.op o p) tm m := by
  rintro act w cs0 hR ⟨I, F, hJ⟩
  have hw : m.G w := hJ.know w (Ext.refl _ _)
  obtain ⟨l, hl, h1, hc, hq⟩ := h w hw
  have hq' : ∀ W, Ext I w W → Q l W := fun W e => by
    obtain ⟨l2, hl2, _, hc2, hq2⟩ := h W (hJ.know W e)
    have : l2 = l := by
      apply List.ext_getElem?
      intro j
      rcases Nat.lt_or_ge j (n * ie.sz) with hj | hj
      · have e1 : l2[j]? = some (l2[j]'(by omega)) := List.getElem?_eq_getElem _
        have e2 : l[j]? = some (l[j]'(by omega)) := List.getElem?_eq_getElem _
        have hst : I b := stays (w := w) (ad := ⟨b, off + j, none⟩) fun W' e' => by
          obtain ⟨l3, hl3, _, hc3, _⟩ := h W' (hJ.know W' e')
          exact ⟨_, hc3 j _ (List.getElem?_eq_getElem (by omega))⟩
        have e3 := e.cell (a := ⟨b, off + j, none⟩) hst
        rw [hc j _ e2, hc2 j _ e1] at e3
        rw [e1, e2, e3]
      · rw [List.getElem?_eq_none (by omega), List.getElem?_eq_none (by omega)]
    subst this
    exact hq2
  have o2 := hJ.own _ (look_mem hk')
  have o1 := hJ.own _ (look_mem hnk)
  have hcl : cs'.length = m' * ie.sz := by simpa using o2.2.1
  have he := ok.ty.get hie
  have hu2 := (ok.ty.get hi).g_slice hik
  obtain ⟨ii, hii, hsz, hbt, z, hz, hzc⟩ := he.g_some
  have hzs : z.cells.size = ie.sz := by rw [← Array.length_toList, hzc, hzl]
  have hml : n + m' ≤ maxLen := by unfold maxLen; omega
  have hnl : (cs'.map CV.val).length = m' * ie.sz := by simpa using hcl
  have hr := run_append_grow (P := C.P) w t o.type i.el ii z hu2 hii hz ⟨b, off, none⟩ n c l (by rw [hsz]; exact hl) (fun j z hz => by rw [addr_add]; exact hc j z hz) ⟨g, 0, none⟩ m' c' (cs'.map CV.val) (by rw [hsz]; exact hnl) (fun j z hz => by
    rw [addr_add, Nat.zero_add]
    have hj : j < cs'.length := by have := (List.getElem?_eq_some_iff.1 hz).1; simpa using this
    rw [holds_cells o2 (g := g) (cs := cs') rfl j hj]
    simp only [List.getElem?_map] at hz
    simp only [List.getD, List.getElem?_eq_getElem hj, Option.map_some, Option.some.injEq] at hz ⊢
    rw [← hz]
    rfl) hfull (by omega) (growslice_fits (by omega) (by rw [hbt]; exact hb))
  have hge := grownCap_ge w (n + m') c i.el
  have hcm : grownCap w (n + m') c i.el ≤ maxLen := grownCap_le_maxLen w (n + m') c i.el hml
  have hlen : (l ++ cs'.map CV.val).length = (n + m') * ie.sz := by rw [List.length_append, hl, hnl, Nat.add_mul]
  have e1 : act.eval s = .slice (some ⟨b, off, none⟩) n c := by rw [hR.eval hs, hu]
  have e2 : act.eval x = .slice (some ⟨g, 0, none⟩) m' c' := by rw [hR.eval hx, hv]
  have hlv : (l.map nv).map CV.val = l := by simp [Function.comp_def, nv_val]
  have hown : (w.drew.alloc (.cells (l.toArray ++ (cs'.map CV.val).toArray ++ Builtin.zeroCells z.cells (grownCap w (n + m') c i.el - (n + m'))) i.el)).ownsRow 0 i.el ie.sz (.slice (some ⟨w.heap.size, 0, none⟩) (n + m') (grownCap w (n + m') c i.el)) (n + m') (l ++ cs'.map CV.val) := by
    refine ⟨hlen, .inr ⟨w.heap.size, _, _, rfl, Nat.zero_le _, heap_alloc_new w.drew _, hge, hcm, ?_, ?_⟩⟩
    · simp only [Array.size_append, List.size_toArray, size_zeroCells, hzs, hl, hnl, ← Nat.add_mul]
      congr 1
      omega
    · simp only [Array.toList_append, List.append_assoc]
      rw [← List.append_assoc, ← hlen]
      exact List.take_left
  have hrun : (execOp act.eval o).run C.P w = .ok (.value (.slice (some ⟨w.heap.size, 0, none⟩) (n + m') (grownCap w (n + m') c i.el))) (w.drew.alloc (.cells (l.toArray ++ (cs'.map CV.val).toArray ++ Builtin.zeroCells z.cells (grownCap w (n + m') c i.el - (n + m'))) i.el)) := by
    simp [execOp, ho, resolve, invoke, builtin, e1, e2, hr]
  have hext : Ext (fun b => b < w.heap.size ∧ ¬ noS b) w (w.drew.alloc (.cells (l.toArray ++ (cs'.map CV.val).toArray ++ Builtin.zeroCells z.cells (grownCap w (n + m') c i.el - (n + m'))) i.el)) := (Ext.drew _ w).trans (Ext.alloc _ w.drew _ fun b hb => hb.1) fun _ hx => hx
  have hup := hJ.upd k k (.row (some ⟨w.heap.size, 0, none⟩) (n + m') (grownCap w (n + m') c i.el) i.el ie.sz (l.map nv ++ cs')) noS (fun b => b = w.heap.size) (fun b hb => hb.elim) hext ⟨fun b => by simp [Value.ownBlock]; exact ⟨fun h => h.symm, fun h => h.symm⟩, by rw [List.map_append, hlv]; exact hown⟩ (fun b hb => by subst hb; exact ⟨by simp, .inr (Nat.le_refl _)⟩) id
  have hRp := hR.put (some d) (.c (.rw k (some ⟨w.heap.size, 0, none⟩) (n + m') (grownCap w (n + m') c i.el)))
  have hI : Ext I w (w.drew.alloc (.cells (l.toArray ++ (cs'.map CV.val).toArray ++ Builtin.zeroCells z.cells (grownCap w (n + m') c i.el - (n + m'))) i.el)) := hext.mono fun b hb => ⟨hJ.Isz b hb, fun e => e⟩
  exact op_value (ok.sx (kk l w.heap.size _ w hq hw)) hrun (by rw [hd]; exact hRp) ⟨I, _, hup.learn fun W e => hq' W (hI.trans e fun _ hx => hx)⟩
/-- Two values are held against each other, by whatever law. -/
theorem binA (ok : Okc P T C res) {o : Oper} {op : BinOp} {t d ty : Nat} {x y : Operand} (ho : o.op = .binOp op t x y ty) (hd : o.dst = some d) {u v : SV} (hx : ev tm x = some u) (hy : ev tm y = some v) (b : Bool)
    (h : ∀ w, (do eqGuard op t x y u.val v.val; binOp op t u.val v.val : Sem Value).run P w = .ok (.bool b) w)
    (kk : sx T C res 1000 p (put C.n (some d) (.c (.b b)) tm) m) : At C (.op o p) tm m := by
  obtain rfl := ok.P
  intro act w cs0 hR hJ
  have e1 := hR.eval hx
  have e2 := hR.eval hy
  have hrun : (execOp act.eval o).run C.P w = .ok (.value (.bool b)) w := by
    have := h w
    simp only [execOp, ho, e1, e2]
    simp only [Sem.run_bind] at this ⊢
    rw [this]
    rfl
  have hRp := hR.put (some d) (.c (.b b))
  exact op_value (ok.sx kk) hrun (by rw [hd]; exact hRp) hJ
end
end Go.Proofs.YtbbaoeidobdblaaGreat.Sx

/- Sx, part 11: parts of slices that read; appending whatever reads, be it nothing. -/
set_option linter.unusedVariables false
set_option linter.unusedSimpArgs false
namespace Go.Proofs.YtbbaoeidobdblaaGreat.Sx
open Go
theorem Rd.take {α : Type} {d : Dt α} {W : World} {a : Option Addr} {xs : List α} (h : Rd d W a xs) (i : Nat) : Rd d W a (xs.take i) := fun hne => by
  obtain ⟨b, o, e, hc⟩ := h (by rintro rfl; simp at hne)
  refine ⟨b, o, e, fun j x hx => hc j x ?_⟩
  rw [List.getElem?_take] at hx
  split at hx
  · exact hx
  · cases hx
theorem Sv.take {α : Type} {d : Dt α} {W : World} {a : Option Addr} {n c : Nat} {xs : List α} (h : Sv.ok d W (a, n, c) xs) {i : Nat} (hi : i ≤ xs.length) : Sv.ok d W (a, i, c) (xs.take i) := by
  obtain ⟨h1, h2, h3, h4⟩ := h
  simp only at h1 h2 h3 h4
  refine ⟨by simp; omega, by simp; omega, by simp; omega, h4.take i⟩
theorem Sv.full {α : Type} {d : Dt α} {W : World} {a : Option Addr} {n c : Nat} {xs : List α} (h : Sv.ok d W (a, n, c) xs) {i : Nat} (hi : i ≤ xs.length) : Sv.ok d W (a, i, i) (xs.take i) := by
  obtain ⟨h1, h2, h3, h4⟩ := h
  simp only at h1 h2 h3 h4
  refine ⟨by simp; omega, by simp; omega, by simp; omega, h4.take i⟩
theorem Sv.drop {α : Type} {d : Dt α} {W : World} {a : Option Addr} {n c : Nat} {xs : List α} (h : Sv.ok d W (a, n, c) xs) {i : Nat} (hi : i ≤ xs.length) : Sv.ok d W (if c = i then a else addrP a (i * d.sz), n - i, c - i) (xs.drop i) := by
  obtain ⟨h1, h2, h3, h4⟩ := h
  simp only at h1 h2 h3 h4
  refine ⟨by simp; omega, by simp; omega, by simp; omega, fun hne => ?_⟩
  have hlt : i < xs.length := by
    rcases Nat.lt_or_ge i xs.length with h | h
    · exact h
    · exact absurd (List.drop_eq_nil_of_le h) hne
  obtain ⟨b, o, rfl, hc⟩ := h4 (by rintro rfl; simp at hlt)
  simp only
  rw [if_neg (by omega), addrP_some]
  refine ⟨b, o + i * d.sz, rfl, fun j x hx => ?_⟩
  rw [List.getElem?_drop] at hx
  obtain ⟨cs, k1, k2⟩ := hc (i + j) x hx
  refine ⟨cs, k1, fun u v hv => ?_⟩
  rw [Nat.add_assoc o, ← Nat.add_mul]
  exact k2 u v hv
theorem Sv.len {α : Type} {d : Dt α} {W : World} {a : Option Addr} {n c : Nat} {xs : List α} (h : Sv.ok d W (a, n, c) xs) : n = xs.length := h.1
theorem Sv.cap {α : Type} {d : Dt α} {W : World} {a : Option Addr} {n c : Nat} {xs : List α} (h : Sv.ok d W (a, n, c) xs) : xs.length ≤ c := h.2.1
theorem Sv.nil {α : Type} {d : Dt α} {W : World} (a : Option Addr) (c : Nat) : Sv.ok d W (a, 0, c) [] := ⟨rfl, Nat.zero_le _, Nat.zero_le _, rd_nil _ _ _⟩
/-- A row of one's own, given up, reads. -/
theorem Rows.sv {α : Type} {d : Dt α} {W : World} {a : Option Addr} {n c base : Nat} {e : TypeId} {xs : List α} {cs : List Value} (h : Rows d W xs cs) (h0 : 0 < d.sz) (hl : xs.length ≤ 100000000000) (ho : W.ownsRow base e d.sz (.slice a n c) n cs) : Sv.ok d W (a, n, c) xs := by
  obtain ⟨h1, h2, h3⟩ := h.rd ho h0
  subst h1
  exact ⟨rfl, h2, hl, h3⟩
theorem Rows.append {α : Type} {d : Dt α} {W : World} {xs ys : List α} {l k : List Value} (h1 : Rows d W xs l) (h2 : Rows d W ys k) : Rows d W (xs ++ ys) (l ++ k) := by
  induction xs generalizing l with
  | nil =>
    have : l = [] := List.eq_nil_of_length_eq_zero (by simpa using h1.1)
    subst this
    exact h2
  | cons x xs ih =>
    obtain ⟨c, r, rfl, h3, h4⟩ := Rows.cons_iff.1 h1
    rw [List.cons_append, List.append_assoc]
    exact Rows.cons_iff.2 ⟨c, r ++ k, rfl, h3, ih h4⟩
theorem Rows.sole {α : Type} {d : Dt α} {W : World} {x : α} {c : List Value} (h : d.K W x c) : Rows d W [x] c := Rows.cons_iff.2 ⟨c, [], by simp, h, rows_nil _ _⟩
theorem rowsI {W : World} {xs : List Int} {l : List Value} : Rows dInt W xs l ↔ l = xs.map (Value.int .i64) := by
  unfold dInt
  rw [rows_flat]
  simp [List.map_eq_flatMap]
/-- Cells are written, one by one (values). -/
def updV (l : List Value) (o : Nat) : List Value → List Value
  | [] => l
  | x :: r => updV (l.set o x) (o + 1) r
theorem updV_len (o : Nat) (c : List Value) : ∀ l : List Value, (updV l o c).length = l.length := by
  induction c generalizing o with
  | nil => exact fun _ => rfl
  | cons x r ih => intro l; rw [updV, ih]; simp
theorem updV_get (c : List Value) : ∀ (o : Nat) (l : List Value) (j : Nat), o + c.length ≤ l.length → (updV l o c)[j]? = if o ≤ j ∧ j < o + c.length then c[j - o]? else l[j]? := by
  induction c with
  | nil => intro o l j h; rw [if_neg (by simp only [List.length_nil]; omega)]; rfl
  | cons x r ih =>
    intro o l j h
    simp at h
    rw [updV, ih _ _ _ (by simp; omega)]
    by_cases h1 : j = o
    · subst h1
      rw [if_neg (by omega), if_pos (by simp), List.getElem?_set, if_pos rfl, if_pos (by omega)]
      simp
    · by_cases h2 : o + 1 ≤ j ∧ j < o + 1 + r.length
      · rw [if_pos h2, if_pos (by simp; omega), show j - o = (j - (o + 1)) + 1 by omega, List.getElem?_cons_succ]
      · rw [if_neg h2, if_neg (by simp; omega), List.getElem?_set, if_neg (by omega)]
theorem Rows.set {α : Type} {d : Dt α} {W : World} {xs : List α} {l c : List Value} {x : α} (h : Rows d W xs l) (hx : d.K W x c) {i : Nat} (hi : i < xs.length) : Rows d W (xs.set i x) (updV l (i * d.sz) c) := by
  have hc := d.len hx
  have hle : i * d.sz + d.sz ≤ l.length := by
    rw [h.1, ← Nat.succ_mul]
    exact Nat.mul_le_mul_right _ hi
  refine ⟨by rw [updV_len, h.1, List.length_set], fun j y hy => ?_⟩
  rw [List.getElem?_set] at hy
  by_cases hij : i = j
  · subst hij
    rw [if_pos rfl, if_pos hi] at hy
    cases hy
    have : ((updV l (i * d.sz) c).drop (i * d.sz)).take d.sz = c := by
      apply List.ext_getElem?
      intro u
      rw [List.getElem?_take]
      split
      · rename_i hu
        rw [List.getElem?_drop, updV_get _ _ _ _ (by omega), if_pos (by omega)]
        congr 1
        omega
      · rename_i hu
        rw [List.getElem?_eq_none (by omega)]
    rw [this]
    exact hx
  · rw [if_neg hij] at hy
    have hj := (List.getElem?_eq_some_iff.1 hy).1
    have : ((updV l (i * d.sz) c).drop (j * d.sz)).take d.sz = (l.drop (j * d.sz)).take d.sz := by
      apply List.ext_getElem?
      intro u
      rw [List.getElem?_take, List.getElem?_take]
      split
      · rename_i hu
        rw [List.getElem?_drop, List.getElem?_drop, updV_get _ _ _ _ (by omega), if_neg]
        rintro ⟨h1, h2⟩
        rcases Nat.lt_or_gt_of_ne hij with h3 | h3
        · have : (i + 1) * d.sz ≤ j * d.sz := Nat.mul_le_mul_right _ h3
          rw [Nat.succ_mul] at this
          omega
        · have : (j + 1) * d.sz ≤ i * d.sz := Nat.mul_le_mul_right _ h3
          rw [Nat.succ_mul] at this
          omega
      · rfl
    rw [this]
    exact h.2 j y hy
theorem Rows.at {α : Type} {d : Dt α} {W : World} {xs : List α} {l : List Value} (h : Rows d W xs l) {i : Nat} (hi : i < xs.length) : ∃ c, d.K W xs[i] c ∧ c.length = d.sz ∧ ∀ j v, c[j]? = some v → l[i * d.sz + j]? = some v := by
  have h1 := h.2 i xs[i] (List.getElem?_eq_getElem hi)
  refine ⟨_, h1, d.len h1, fun j v hv => ?_⟩
  rw [List.getElem?_take] at hv
  split at hv
  · rwa [List.getElem?_drop] at hv
  · cases hv
theorem Rows.take {α : Type} {d : Dt α} {W : World} {xs : List α} {l : List Value} (h : Rows d W xs l) {i : Nat} (hi : i ≤ xs.length) : Rows d W (xs.take i) (l.take (i * d.sz)) := by
  have hle : i * d.sz ≤ xs.length * d.sz := Nat.mul_le_mul_right _ hi
  refine ⟨by rw [List.length_take, List.length_take, h.1, Nat.min_eq_left hle, Nat.min_eq_left hi], fun j y hy => ?_⟩
  rw [List.getElem?_take] at hy
  split at hy
  · rename_i hj
    have h1 := h.2 j y hy
    have : (j + 1) * d.sz ≤ i * d.sz := Nat.mul_le_mul_right _ hj
    rw [Nat.succ_mul] at this
    rw [List.drop_take, List.take_take, Nat.min_eq_left (by omega)]
    exact h1
  · cases hy
section
variable {P : Program} {C : Ctx} {T : Ty} {res : List ResultVar} {p : Pos} {tm : Tm} {m : Mem}
/-- Where a row of one's own stands. -/
theorem rowSome (k : Nat) {a : Option Addr} {n c : Nat} {e : TypeId} {sz : Nat} {cs : List CV} (hl : look k m.rs = some (.row a n c e sz cs)) (h0 : 0 < n) (h : ∀ g, a = some ⟨g, 0, none⟩ → At C p tm m) : At C p tm m := by
  rintro act w cs0 hR ⟨I, F, hJ⟩
  have h1 := (hJ.own _ (look_mem hl)).2
  rcases h1.2 with ⟨h2, h3⟩ | ⟨g, cap, cur, h2, _⟩
  · have : n = 0 := by simpa using congrArg (fun v => match v with | Value.slice _ n _ => n | _ => 0) h2
    omega
  · have : a = some ⟨g, 0, none⟩ := by simpa using congrArg (fun v => match v with | Value.slice a _ _ => a | _ => none) h2
    exact h g this act w cs0 hR ⟨I, F, hJ⟩
theorem rowAddr (k : Nat) {a : Option Addr} {n c : Nat} {e : TypeId} {sz : Nat} {cs : List CV} (hl : look k m.rs = some (.row a n c e sz cs)) (h : (a = none ∧ n = 0 ∧ c = 0 ∨ ∃ b off, a = some ⟨b, off, none⟩) → At C p tm m) : At C p tm m := by
  rintro act w cs0 hR ⟨I, F, hJ⟩
  have h1 := (hJ.own _ (look_mem hl)).2
  refine h ?_ act w cs0 hR ⟨I, F, hJ⟩
  rcases h1.2 with ⟨h2, h3⟩ | ⟨g, cap, cur, h2, _⟩
  · exact .inl (by simpa using h2)
  · exact .inr ⟨g, 0, by simpa using congrArg (fun v => match v with | Value.slice a _ _ => a | _ => none) h2⟩
theorem owns_le {w : World} {e : TypeId} {sz : Nat} {a : Option Addr} {n c : Nat} {cs : List Value} (h : w.ownsRow 0 e sz (.slice a n c) n cs) : n ≤ c := by
  rcases h.2 with ⟨h1, h2⟩ | ⟨g, cap, cur, h1, _, _, h2, _⟩
  · cases h1; exact Nat.le_refl _
  · have : c = cap := by simpa using congrArg (fun v => match v with | Value.slice _ _ c => c | _ => 0) h1
    omega
/-- What reads is appended. -/
theorem appV (ok : Okc P T C res) (k : Nat) {o : Oper} {s x : Operand} {t d : Nat} (ho : o.op = .call ⟨.builtin .append, #[s, x], #[t, t]⟩) (hd : o.dst = some d) {i ie : TI} (hi : tf t T = some i) (hik : i.kd = 3) (hie : tf i.el T = some ie) (h0 : 0 < ie.sz) (hzl : ie.zero.length = ie.sz)
    {a sa : Option Addr} {n c m' c' : Nat} {cs : List CV} {u v : SV} (hk : look k m.rs = some (.row a n c i.el ie.sz cs)) (hs : ev tm s = some u) (hu : u.val = .slice a n c) (hx : ev tm x = some v) (hv : v.val = .slice sa m' c')
    {α : Type} (D : Dt α) (xs : List α) (hD : D.sz = ie.sz) (hb : (n + xs.length) * ie.bt ≤ 140737488355328) (hmx : n + xs.length ≤ 140737488355328)
    (h : ∀ W, m.G W → Sv.ok D W (sa, m', c') xs)
    (kk : ∀ l a' c'' W, l.length = xs.length * ie.sz → Rows D W xs l → m.G W → sx T C res 1000 p (put C.n (some d) (.c (.rw k a' (n + xs.length) c'')) tm) ⟨m.B, fun W => Rows D W xs l ∧ m.G W, (k, .row a' (n + xs.length) c'' i.el ie.sz (cs ++ l.map nv)) :: del k (del k m.rs)⟩) : At C (.op o p) tm m := by
  intro act w cs0 hR hJ
  have hw : m.G w := by
    obtain ⟨I, F, hi⟩ := hJ
    exact hi.know w (Ext.refl _ _)
  have hm' : m' = xs.length := Sv.len (h w hw)
  subst hm'
  rcases Nat.eq_zero_or_pos xs.length with hz | hz
  · have hxs : xs = [] := List.eq_nil_of_length_eq_zero hz
    subst hxs
    have o1 : n ≤ c := by
      obtain ⟨I, F, hi⟩ := hJ
      exact owns_le (hi.own _ (look_mem hk)).2
    have e1 : act.eval s = .slice a n c := by rw [hR.eval hs, hu]
    have e2 : act.eval x = .slice sa 0 c' := by rw [hR.eval hx, hv]; rfl
    have hu2 := (ok.ty.get hi).g_slice hik
    have hzz := (ok.ty.get hie).g_sizeOf (P := C.P)
    have hrun : (execOp act.eval o).run C.P w = .ok (.value (.slice a n c)) w := by
      cases sa <;> cases a <;> simp [execOp, ho, resolve, invoke, builtin, e1, e2, Builtin.append_, run_underlying hu2, hzz, Builtin.lenOf, o1, Builtin.firstCells, loadCells, loadCellsFrom, storeCells]
    have hRp := hR.put (some d) (.c (.rw k a (n + 0) c))
    have hJ2 : J C ⟨m.B, fun W => Rows D W [] [] ∧ m.G W, (k, .row a (n + 0) c i.el ie.sz (cs ++ ([] : List Value).map nv)) :: del k (del k m.rs)⟩ w := by
      obtain ⟨I, F, hi⟩ := hJ
      have o1 := hi.own _ (look_mem hk)
      have hup := hi.upd k k (.row a (n + 0) c i.el ie.sz (cs ++ ([] : List Value).map nv)) (fun b => (Value.slice a n c).ownBlock = some b) (fun b => (Value.slice a n c).ownBlock = some b) (fun b hb => ⟨(o1.1 b).2 hb, _, look_mem hk⟩) (Ext.refl _ w) ⟨fun b => Iff.rfl, by simpa using o1.2⟩ (fun b hb => ⟨(hi.Fsz _ b (look_mem hk) ((o1.1 b).2 hb)).1, .inl hb⟩) id
      exact ⟨I, _, hup.learn fun W _ => rows_nil _ _⟩
    exact op_value (ok.sx (kk [] a c w (by simp) (rows_nil _ _) hw)) hrun (by rw [hd]; exact hRp) hJ2
  · obtain ⟨b, off, rfl⟩ := (h w hw).2.2.2.is_some hz
    refine appI ok k ho hd hi hik hie h0 hzl hk hs hu hx hv hz hb hmx (fun l W => Rows D W xs l) (fun W hW => ?_) (fun l g' c'' W hq hG => ?_) act w cs0 hR hJ
    · obtain ⟨l, h1, h2, h3⟩ := (h W hW).2.2.2.all_rows
      have h4 := h1.1
      rw [hD] at h4
      exact ⟨l, h4, h2, h3, h1⟩
    · exact kk l (some ⟨g', 0, none⟩) c'' W (by rw [← hD]; exact hq.1) hq hG
/-- What reads, and has no room left, is appended to: a new row. -/
theorem appF (ok : Okc P T C res) (k k' : Nat) {o : Oper} {s x : Operand} {t d : Nat} (ho : o.op = .call ⟨.builtin .append, #[s, x], #[t, t]⟩) (hd : o.dst = some d) {i ie : TI} (hi : tf t T = some i) (hik : i.kd = 3) (hie : tf i.el T = some ie) (h0 : 0 < ie.sz) (hzl : ie.zero.length = ie.sz)
    {a : Option Addr} {n g m' c' : Nat} {cs' : List CV} {u v : SV} (hnk : look k m.rs = some (.row none 0 0 i.el ie.sz [])) (hs : ev tm s = some u) (hu : u.val = .slice a n n) (hk' : look k' m.rs = some (.row (some ⟨g, 0, none⟩) m' c' i.el ie.sz cs')) (hx : ev tm x = some v) (hv : v.val = .slice (some ⟨g, 0, none⟩) m' c')
    (hm : 0 < m') (h1 : ones cs') {α : Type} (D : Dt α) (xs : List α) (hD : D.sz = ie.sz) (hb : (n + m') * ie.bt ≤ 140737488355328) (hmx : n + m' ≤ 140737488355328)
    (h : ∀ W, m.G W → Sv.ok D W (a, n, n) xs) (hA : a = none ∨ ∃ b off, a = some ⟨b, off, none⟩)
    (kk : ∀ l g' c'' W, l.length = xs.length * ie.sz → Rows D W xs l → m.G W → sx T C res 1000 p (put C.n (some d) (.c (.rw k (some ⟨g', 0, none⟩) (xs.length + m') c'')) tm) ⟨m.B, fun W => Rows D W xs l ∧ m.G W, (k, .row (some ⟨g', 0, none⟩) (xs.length + m') c'' i.el ie.sz (l.map nv ++ cs')) :: del k (del k m.rs)⟩) : At C (.op o p) tm m := by
  intro act w cs0 hR hJ
  have hw : m.G w := by
    obtain ⟨I, F, hi⟩ := hJ
    exact hi.know w (Ext.refl _ _)
  have hm' : n = xs.length := Sv.len (h w hw)
  subst hm'
  rcases hA with rfl | ⟨b, off, rfl⟩
  rotate_left 1
  · refine appC ok k k' ho hd hi hik hie h0 hzl hnk hs hu hk' hx hv hm (by omega) hb hmx (fun l W => Rows D W xs l) (fun W hW => ?_) (fun l g' c'' W hq hG => ?_) act w cs0 hR hJ
    · obtain ⟨l, h1, h2, h3⟩ := Rd.all_rows (d := D) (xs := xs) (h W hW).2.2.2
      have h4 := h1.1
      rw [hD] at h4
      exact ⟨l, h4, h2, h3, h1⟩
    · exact kk l g' c'' W (by rw [← hD]; exact hq.1) hq hG
  · rcases Nat.eq_zero_or_pos xs.length with hz | hz
    · have hxs : xs = [] := List.eq_nil_of_length_eq_zero hz
      subst hxs
      have hJ2 : J C ⟨m.B, fun W => Rows D W [] [] ∧ m.G W, m.rs⟩ w := by
        obtain ⟨I, F, hi⟩ := hJ
        exact ⟨I, F, hi.learn fun W _ => rows_nil _ _⟩
      refine appR (m := ⟨m.B, fun W => Rows D W [] [] ∧ m.G W, m.rs⟩) ok k k' ho hd hi hik hie h0 hzl hnk hs hu hk' hx hv hm h1 hb hmx (fun g' c'' => ?_) act w cs0 hR hJ2
      have := kk [] g' c'' w (by simp) (rows_nil _ _) hw
      simpa using this
    · obtain ⟨b, off, e⟩ := (h w hw).2.2.2.is_some hz
      cases e
end
end Go.Proofs.YtbbaoeidobdblaaGreat.Sx

/- addBad of the reference. -/
set_option linter.unusedVariables false
set_option linter.unusedSimpArgs false
namespace Go.Proofs.YtbbaoeidobdblaaGreat.Sx
open Go
attribute [local simp ↓] ifb_true' ifb_false'
attribute [local simp] ifb_true ifb_false ifb_eq sx argsT find ev evOp evs evo evBin evInt evStr evNil evNilA ptrA slcA isNoneA asB evLoad look del cellsB evUn evConv kdec fld evFieldA evField evIdxA evIdx evSlc bndL bndH evLen mmi put resV guardV gvL setO tupV cellsOf ones one upd lits nv exitTo SV.val CV.val TI.agg rdyA allR keepB scan simpO gsp isS subs keepT pickT wr memN pubs Res.fact Region.binds bld rest give delL back Res.eqv vi vb num Sv.val undef
/-- A number is laid behind all that are not larger. -/
def insL : List Int → Int → List Int
  | [], x => [x]
  | y :: r, x => if y ≤ x then y :: insL r x else x :: y :: r
theorem insL_at : ∀ (l : List Int) (x : Int) (i : Nat), i ≤ l.length → (∀ y, y ∈ l.take i → y ≤ x) → (∀ h : i < l.length, x < l[i]) → insL l x = l.take i ++ x :: l.drop i
  | [], x, i, _, _, _ => by simp [insL]
  | y :: r, x, 0, _, _, h => by
    have := h (by simp)
    simp only [List.getElem_cons_zero] at this
    simp only [insL]
    rw [if_neg (by omega)]
    simp
  | y :: r, x, i + 1, hi, h1, h2 => by
    have := h1 y (by simp)
    simp only [insL, if_pos this, List.take_succ_cons, List.drop_succ_cons, List.cons_append]
    rw [insL_at r x i (by simpa using hi) (fun z hz => h1 z (by simp [hz])) (fun h => by have := h2 (by simpa using h); simpa using this)]
def addBadL (l : List Int) (x : Int) : List Int := if x ∈ l then l else insL l x
theorem addBad0 (w : World) (I : Nat → Prop) (hI : ∀ b, I b → b < w.heap.size) {a : Option Addr} {n c : Nat} (l : List Int) (x : Int) (h : ∀ W, Ext I w W → Sv.ok dInt W (a, n, c) l) (hl : l.length ≤ 1000000000) :
    Fn0 Tryz.prog 69 #[.slice a n c, .int .i64 x] w I Sv.val (fun r W => Sv.ok dInt W r (addBadL l x)) := by
  obtain rfl : n = l.length := (h w (Ext.refl _ _)).1
  refine enter (svs := [.c (.v (.slice a l.length c)), .c (.v (.int .i64 x))]) tysOk Tryz.func69 rfl Tryz.ntmps69 Tryz.results69 (by kernel_rfl) (by simp) hI (fun W => Sv.ok dInt W (a, l.length, c) l) h fun C hC hN ok => ?_
  simp [hN]
  refine call0 ok rfl rfl rfl (fun w I hI hG => in0 w I hI l x hG) fun y W hy => ?_
  simp [hN]
  refine ⟨fun hyes => ?_, fun hno => ?_⟩
  · rw [hy] at hyes
    exact ret0 hC (a, l.length, c) rfl fun W _ hG => by rw [addBadL, if_pos (of_decide_eq_true hyes)]; exact hG.2
  rw [hy] at hno
  have hm : addBadL l x = insL l x := by rw [addBadL, if_neg (of_decide_eq_false hno)]
  rw [hm] at hC
  refine nilr 600 3 1 (loop ok (fun i : Nat => [(5, .c (.v (.int .i64 i)))]) (fun _ => [(600, .row none 0 0 3 1 [])]) (fun i W => i ≤ l.length ∧ ∀ y, y ∈ l.take i → y ≤ x) (fun i => l.length - i) 0 ?_ ?_ (fun W hW => ⟨Nat.zero_le _, by simp⟩) ?_)
  · simp
  · simp
  rintro i W ⟨hi, hle⟩ hG next
  rcases Nat.lt_or_ge i l.length with hlt | hge
  · obtain ⟨b, o, e, _⟩ := int_get (show Sv.ok dInt W (a, l.length, c) l from hG.2) hlt
    cases e
    have e6 : IntKind.i64.wrap ((i : Int) + 1) = (i + 1 : Nat) := by rw [w64 (by omega) (by omega)]; omega
    have ft : l.take (i + 1) = l.take i ++ [l[i]] := by rw [List.take_add_one, List.getElem?_eq_getElem hlt]; rfl
    have hcap : l.length ≤ c := (h w (Ext.refl _ _)).2.1
    simp [hN, hlt]
    refine load1 ok rfl rfl rfl rfl (fun v W => v = .int .i64 l[i]) (fun W hW => ?_) ?_
    · obtain ⟨b', o', e, hc⟩ := int_get hW.2.2 hlt
      cases e
      exact ⟨_, hc, rfl⟩
    rintro v W rfl _
    simp [hN, e6]
    refine ⟨fun he => next (i + 1) _ _ (by omega) (fun W h => ⟨⟨hlt, fun z hz => ?_⟩, h.2⟩) ?_, fun he => ?_⟩
    · rw [ft] at hz
      rcases List.mem_append.1 hz with hz | hz
      · exact hle z hz
      · rw [List.mem_singleton.1 hz]
        exact he
    · simp [hy, of_decide_eq_false hno]
    · have hlt2 : x < l[i] := by omega
      have hins := insL_at l x i hi hle (fun _ => hlt2)
      have hti : (l.take i).length = i := by simp; omega
      have hdi : (l.drop i).length = l.length - i := by simp
      refine drawW ok mixed (by kernel_rfl) ?_
      simp (maxSteps := 2000000) -implicitDefEqProofs [hN]
      and_intros
      all_goals try omega
      rotate_left 1
      intro g
      all_goals
        refine appV ok 600 rfl rfl rfl rfl rfl (by decide) rfl rfl rfl rfl rfl rfl dInt (l.take i) rfl (by show (_ + _) * 8 ≤ _; simp; omega) (by simp; omega) (fun W hW => Sv.take hW.2.2 hi) fun q a2 c2 W _ hq _ => ?_
        obtain rfl := rows_int.1 hq
        simp (maxSteps := 2000000) -implicitDefEqProofs [hN]
      rotate_left 1
      intro g
      all_goals
        refine appR ok 600 29 rfl rfl rfl rfl rfl (by decide) rfl rfl rfl rfl rfl rfl rfl (by decide) (by simp) (by show (_ + 1) * 8 ≤ _; omega) (by omega) fun g3 c3 => ?_
        simp (maxSteps := 2000000) -implicitDefEqProofs [hN]
        refine appV ok 600 rfl rfl rfl rfl rfl (by decide) rfl rfl rfl rfl rfl rfl dInt (l.drop i) rfl (by show (_ + _) * 8 ≤ _; simp; omega) (by simp; omega) (fun W hW => by have := Sv.drop hW.2.2.2 hi; simpa [dInt, flat] using this) fun q2 a4 c4 W _ hq2 _ => ?_
        obtain rfl := rows_int.1 hq2
        simp (maxSteps := 2000000) -implicitDefEqProofs [hN]
        refine ret0 hC (a4, min i l.length + 1 + (l.length - i), c4) rfl fun W hp hG => ?_
        rw [hins]
        exact (rows_int.2 rfl : Rows dInt W (l.take i ++ x :: l.drop i) _).sv (by decide) (by simp; omega) (by have h1 := hp.1; simpa [Function.comp_def, dInt, flat] using h1)
  · simp [hN, Nat.not_lt.2 hge]
    have hlen : i = l.length := by omega
    have hcap : l.length ≤ c := (h w (Ext.refl _ _)).2.1
    have hins := insL_at l x i hi hle (fun h => absurd h (by omega))
    have hti : (l.take i).length = i := by simp; omega
    have hdi : (l.drop i).length = l.length - i := by simp
    refine drawW ok mixed (by kernel_rfl) ?_
    simp (maxSteps := 2000000) -implicitDefEqProofs [hN]
    and_intros
    all_goals try omega
    rotate_left 1
    intro g
    all_goals
      refine appV ok 600 rfl rfl rfl rfl rfl (by decide) rfl rfl rfl rfl rfl rfl dInt (l.take i) rfl (by show (_ + _) * 8 ≤ _; simp; omega) (by simp; omega) (fun W hW => Sv.take hW.2.2 hi) fun q a2 c2 W _ hq _ => ?_
      obtain rfl := rows_int.1 hq
      simp (maxSteps := 2000000) -implicitDefEqProofs [hN]
    rotate_left 1
    intro g
    all_goals
      refine appR ok 600 29 rfl rfl rfl rfl rfl (by decide) rfl rfl rfl rfl rfl rfl rfl (by decide) (by simp) (by show (_ + 1) * 8 ≤ _; omega) (by omega) fun g3 c3 => ?_
      simp (maxSteps := 2000000) -implicitDefEqProofs [hN]
      refine appV ok 600 rfl rfl rfl rfl rfl (by decide) rfl rfl rfl rfl rfl rfl dInt (l.drop i) rfl (by show (_ + _) * 8 ≤ _; simp; omega) (by simp; omega) (fun W hW => by have := Sv.drop hW.2.2.2 hi; simpa [dInt, flat] using this) fun q2 a4 c4 W _ hq2 _ => ?_
      obtain rfl := rows_int.1 hq2
      simp (maxSteps := 2000000) -implicitDefEqProofs [hN]
      refine ret0 hC (a4, min i l.length + 1 + (l.length - i), c4) rfl fun W hp hG => ?_
      rw [hins]
      exact (rows_int.2 rfl : Rows dInt W (l.take i ++ x :: l.drop i) _).sv (by decide) (by simp; omega) (by have h1 := hp.1; simpa [Function.comp_def, dInt, flat] using h1)
end Go.Proofs.YtbbaoeidobdblaaGreat.Sx

/- putInode of the reference. -/
set_option linter.unusedVariables false
set_option linter.unusedSimpArgs false
namespace Go.Proofs.YtbbaoeidobdblaaGreat.Sx
open Go
attribute [local simp ↓] ifb_true' ifb_false'
attribute [local simp] ifb_true ifb_false ifb_eq sx argsT find ev evOp evs evo evBin evInt evStr evNil evNilA ptrA slcA isNoneA asB evLoad look del cellsB evUn evConv kdec fld evFieldA evField evIdxA evIdx evSlc bndL bndH evLen mmi put resV guardV gvL setO tupV cellsOf ones one upd lits nv exitTo SV.val CV.val TI.agg rdyA allR keepB scan simpO gsp isS subs keepT pickT wr memN pubs Res.fact Region.binds bld rest give delL back Res.eqv vi vb num Sv.val undef
def replI : List Ino → Ino → List Ino
  | [], _ => []
  | y :: r, x => if y.no = x.no then x :: r else y :: replI r x
/-- An inode is laid behind all whose numbers are not larger. -/
def insI : List Ino → Ino → List Ino
  | [], x => [x]
  | y :: r, x => if y.no ≤ x.no then y :: insI r x else x :: y :: r
theorem replI_at : ∀ (l : List Ino) (x : Ino) (i : Nat) (hi : i < l.length), (∀ y, y ∈ l.take i → y.no ≠ x.no) → l[i].no = x.no → replI l x = l.set i x
  | [], x, i, hi, _, _ => by simp at hi
  | y :: r, x, 0, _, _, h => by simp at h; simp [replI, h]
  | y :: r, x, i + 1, hi, h1, h2 => by
    have := h1 y (by simp)
    simp only [replI, if_neg this, List.set_cons_succ]
    rw [replI_at r x i (by simpa using hi) (fun z hz => h1 z (by simp [hz])) (by simpa using h2)]
theorem insI_at : ∀ (l : List Ino) (x : Ino) (i : Nat), i ≤ l.length → (∀ y, y ∈ l.take i → y.no ≤ x.no) → (∀ h : i < l.length, x.no < l[i].no) → insI l x = l.take i ++ x :: l.drop i
  | [], x, i, _, _, _ => by simp [insI]
  | y :: r, x, 0, _, _, h => by
    have := h (by simp)
    simp only [List.getElem_cons_zero] at this
    simp only [insI]
    rw [if_neg (by omega)]
    simp
  | y :: r, x, i + 1, hi, h1, h2 => by
    have := h1 y (by simp)
    simp only [insI, if_pos this, List.take_succ_cons, List.drop_succ_cons, List.cons_append]
    rw [insI_at r x i (by simpa using hi) (fun z hz => h1 z (by simp [hz])) (fun h => by have := h2 (by simpa using h); simpa using this)]
def hasI (l : List Ino) (no : Int) : Prop := ∃ y, y ∈ l ∧ y.no = no
open Classical in
noncomputable def putInoL (l : List Ino) (x : Ino) : List Ino := if hasI l x.no then replI l x else insI l x
theorem ino_no {W : World} {a : Option Addr} {n c : Nat} {l : List Ino} (h : Sv.ok dIno W (a, n, c) l) {i : Nat} (hi : i < l.length) : ∃ b o, a = some ⟨b, o, none⟩ ∧ W.cell? ⟨b, o + i * 7, none⟩ = some (.int .i64 l[i].no) := by
  obtain ⟨b, o, e⟩ := h.2.2.2.is_some (show 0 < l.length by omega)
  cases e
  obtain ⟨cs, hk, _, hc⟩ := h.2.2.2.get hi
  refine ⟨b, o, rfl, ?_⟩
  obtain ⟨e, r, rfl, _⟩ := hk
  exact hc 0 (.int .i64 l[i].no) rfl
theorem rows_no {W : World} {l : List Ino} {q : List Value} (h : Rows dIno W l q) {i : Nat} (hi : i < l.length) : q[i * 7]? = some (.int .i64 l[i].no) := by
  obtain ⟨c, hk, _, hc⟩ := h.at hi
  obtain ⟨e, r, rfl, _⟩ := hk
  exact hc 0 _ rfl
set_option maxHeartbeats 4000000 in
theorem putIno0 (w : World) (I : Nat → Prop) (hI : ∀ b, I b → b < w.heap.size) {a : Option Addr} {n c : Nat} (l : List Ino) (x : Ino) (e r : Sl) (h : ∀ W, Ext I w W → Sv.ok dIno W (a, n, c) l) (hx : ∀ W, Ext I w W → InoR W x e r) (hl : l.length ≤ 1000000000) :
    Fn0 Tryz.prog 68 #[.slice a n c, .agg (inoC x e r).toArray] w I Sv.val (fun q W => Sv.ok dIno W q (putInoL l x)) := by
  obtain rfl : n = l.length := (h w (Ext.refl _ _)).1
  have hcap : l.length ≤ c := (h w (Ext.refl _ _)).2.1
  refine enter (svs := [.c (.v (.slice a l.length c)), .ag ((inoC x e r).map .v)]) tysOk Tryz.func68 rfl Tryz.ntmps68 Tryz.results68 (by kernel_rfl) (by simp) hI (fun W => Sv.ok dIno W (a, l.length, c) l ∧ InoR W x e r) (fun W e => ⟨h W e, hx W e⟩) fun C hC hN ok => ?_
  obtain ⟨ea, ec⟩ := e
  obtain ⟨ra, rc⟩ := r
  simp [hN]
  intro g3
  refine nilr 600 44 7 (appV ok 600 rfl rfl rfl rfl rfl (by decide) rfl rfl rfl rfl rfl rfl dIno l rfl (by show (0 + _) * 96 ≤ _; omega) (by omega) (fun W hW => hW.1) fun q a2 c2 W hql hq _ => ?_)
  replace hql : q.length = l.length * 7 := hql
  simp [hN]
  refine rowAddr 600 rfl fun hsh => rowLe 600 rfl fun hc2 => ?_
  refine loop ok (fun i : Nat => [(6, .c (.v (.int .i64 i)))]) (fun _ => [(600, .row a2 l.length c2 44 7 (q.map nv)), (3, .box g3 44 ((inoC x (ea, ec) (ra, rc)).map .v))]) (fun i W => i ≤ l.length ∧ ∀ y, y ∈ l.take i → y.no ≠ x.no) (fun i => l.length - i) 0 ?_ ?_ (fun W hW => ⟨Nat.zero_le _, by simp⟩) ?_
  · simp
  · simp
  rintro i W ⟨hi, hne⟩ hG next
  rcases Nat.lt_or_ge i l.length with hlt | hge
  · have e6 : IntKind.i64.wrap ((i : Int) + 1) = (i + 1 : Nat) := by rw [w64 (by omega) (by omega)]; omega
    have ft : l.take (i + 1) = l.take i ++ [l[i]] := by rw [List.take_add_one, List.getElem?_eq_getElem hlt]; rfl
    have hqn := rows_no hq hlt
    have hqb : i * 7 < q.length := by rw [hql]; show i * 7 < l.length * 7; omega
    simp [hN, hlt]
    refine rowSome 600 rfl (by omega) fun g e => ?_
    subst e
    refine drawK ok mixed (by kernel_rfl) ?_
    simp (maxSteps := 2000000) -implicitDefEqProofs [hN, hlt, hqn]
    refine ⟨by omega, fun hy => ⟨by omega, ?_⟩, fun hn => ?_⟩
    · refine ret0 hC (some ⟨g, 0, none⟩, l.length, c2) rfl fun W hp hG => ?_
      have hpl : putInoL l x = l.set i x := by
        rw [putInoL, if_pos ⟨l[i], List.getElem_mem _, hy⟩]
        exact replI_at l x i hlt hne hy
      rw [hpl]
      refine (Rows.set hG.2.1 ⟨(ea, ec), (ra, rc), rfl, hG.2.2.2⟩ hlt).sv (base := 0) (e := 44) (by decide) (by simp; omega) ?_
      have h1 := hp.1
      simp [List.map_set] at h1
      simpa [updV, dIno] using h1
    · refine next (i + 1) _ _ (by omega) (fun W h => ⟨⟨hlt, fun z hz => ?_⟩, h.2⟩) ?_
      · rw [ft] at hz
        rcases List.mem_append.1 hz with hz | hz
        · exact hne z hz
        · rw [List.mem_singleton.1 hz]
          exact hn
      · simp [e6]
  · have hnh : ¬ hasI l x.no := by
      rintro ⟨y, hy, e⟩
      refine hne y ?_ e
      rwa [List.take_of_length_le hge]
    have hpl : putInoL l x = insI l x := by rw [putInoL, if_neg hnh]
    clear next hne
    simp [hN, Nat.not_lt.2 hge]
    refine loop ok (fun i : Nat => [(7, .c (.v (.int .i64 i)))]) (fun _ => [(600, .row a2 l.length c2 44 7 (q.map nv)), (3, .box g3 44 ((inoC x (ea, ec) (ra, rc)).map .v))]) (fun i W => i ≤ l.length ∧ ∀ y, y ∈ l.take i → y.no ≤ x.no) (fun i => l.length - i) 0 ?_ ?_ (fun W hW => ⟨Nat.zero_le _, by simp⟩) ?_
    · simp
    · simp
    rintro j W ⟨hj, hle⟩ hG next
    rcases Nat.lt_or_ge j l.length with hlt | hgj
    · obtain ⟨b, o, e, _⟩ := ino_no (show Sv.ok dIno W (a, l.length, c) l from hG.2.2.1) hlt
      cases e
      have e6 : IntKind.i64.wrap ((j : Int) + 1) = (j + 1 : Nat) := by rw [w64 (by omega) (by omega)]; omega
      have ft : l.take (j + 1) = l.take j ++ [l[j]] := by rw [List.take_add_one, List.getElem?_eq_getElem hlt]; rfl
      simp [hN]
      refine drawK ok mixed (by kernel_rfl) ?_
      simp (maxSteps := 2000000) -implicitDefEqProofs [hN, hlt]
      refine load1 ok rfl rfl rfl rfl (fun v W => v = .int .i64 l[j].no) (fun W hW => ?_) ?_
      · obtain ⟨b', o', e, hc⟩ := ino_no hW.2.2.2.1 hlt
        cases e
        exact ⟨_, hc, rfl⟩
      rintro v W rfl _
      simp (maxSteps := 2000000) -implicitDefEqProofs [hN, e6]
      refine ⟨fun he => next (j + 1) _ _ (by omega) (fun W h => ⟨⟨hlt, fun z hz => ?_⟩, h.2⟩) ?_, fun he => ?_⟩
      · rw [ft] at hz
        rcases List.mem_append.1 hz with hz | hz
        · exact hle z hz
        · rw [List.mem_singleton.1 hz]
          exact he
      · simp
      · have hins : insI l x = l.take j ++ x :: l.drop j := insI_at l x j hj hle fun _ => by omega
        refine pub 600 rfl (by decide) (nilr 601 44 7 (draw ok [(3, .box g3 44 ((inoC x (ea, ec) (ra, rc)).map .v))] (by rw [ok.P]; exact mixed) (by kernel_rfl) ?_))
        simp (maxSteps := 2000000) -implicitDefEqProofs [hN]
        and_intros
        all_goals try omega
        rotate_left 1
        intro g
        all_goals
          refine slc3 ok rfl rfl rfl rfl rfl rfl rfl rfl rfl (by omega) (Int.le_refl _) (by omega) ?_
          simp (maxSteps := 2000000) -implicitDefEqProofs [hN]
        rotate_left 1
        intro g
        all_goals
          refine appF ok 601 50 rfl rfl rfl rfl rfl (by decide) rfl rfl rfl rfl rfl rfl rfl (by decide) (by simp) dIno (l.take j) rfl (by show (_ + 1) * 96 ≤ _; omega) (by omega) (fun W hW => ?_) (by rcases hsh with h | h; exact .inl h.1; exact .inr h) fun q2 g2 c3 W _ hq2 _ => ?_
          · exact Sv.full (Rows.sv (d := dIno) (base := 0) (e := 44) hW.2.2.2.1 (by decide) (by omega) hW.1) hj
          simp (maxSteps := 2000000) -implicitDefEqProofs [hN]
          refine appV ok 601 rfl rfl rfl rfl rfl (by decide) rfl rfl rfl rfl rfl rfl dIno (l.drop j) rfl (by show (_ + _) * 96 ≤ _; simp; omega) (by simp; omega) (fun W hW => by have := Sv.drop hW.2.2.2.2.2.1 hj; simpa [dIno] using this) fun q3 a4 c4 W _ hq3 _ => ?_
          simp (maxSteps := 2000000) -implicitDefEqProofs [hN]
          refine ret0 hC (a4, min j l.length + 1 + (l.length - j), c4) rfl fun W hp hG => ?_
          rw [hpl, hins]
          refine (hG.2.1.append ((Rows.sole (d := dIno) (x := x) ⟨(ea, ec), (ra, rc), rfl, hG.2.2.2.2.2.2.2⟩).append hG.1)).sv (base := 0) (e := 44) (by decide) (by simp; omega) ?_
          have h1 := hp.1
          simpa [dIno] using h1
    · simp [hN]
      refine drawK ok mixed (by kernel_rfl) ?_
      simp (maxSteps := 2000000) -implicitDefEqProofs [hN, Nat.not_lt.2 hgj]
      have hins : insI l x = l.take j ++ x :: l.drop j := insI_at l x j hj hle fun h => absurd h (by omega)
      refine pub 600 rfl (by decide) (nilr 601 44 7 (draw ok [(3, .box g3 44 ((inoC x (ea, ec) (ra, rc)).map .v))] (by rw [ok.P]; exact mixed) (by kernel_rfl) ?_))
      simp (maxSteps := 2000000) -implicitDefEqProofs [hN]
      and_intros
      all_goals try omega
      rotate_left 1
      intro g
      all_goals
        refine slc3 ok rfl rfl rfl rfl rfl rfl rfl rfl rfl (by omega) (Int.le_refl _) (by omega) ?_
        simp (maxSteps := 2000000) -implicitDefEqProofs [hN]
      rotate_left 1
      intro g
      all_goals
        refine appF ok 601 50 rfl rfl rfl rfl rfl (by decide) rfl rfl rfl rfl rfl rfl rfl (by decide) (by simp) dIno (l.take j) rfl (by show (_ + 1) * 96 ≤ _; omega) (by omega) (fun W hW => ?_) (by rcases hsh with h | h; exact .inl h.1; exact .inr h) fun q2 g2 c3 W _ hq2 _ => ?_
        · exact Sv.full (Rows.sv (d := dIno) (base := 0) (e := 44) hW.2.2.2.1 (by decide) (by omega) hW.1) hj
        simp (maxSteps := 2000000) -implicitDefEqProofs [hN]
        refine appV ok 601 rfl rfl rfl rfl rfl (by decide) rfl rfl rfl rfl rfl rfl dIno (l.drop j) rfl (by show (_ + _) * 96 ≤ _; simp; omega) (by simp; omega) (fun W hW => by have := Sv.drop hW.2.2.2.2.2.1 hj; simpa [dIno] using this) fun q3 a4 c4 W _ hq3 _ => ?_
        simp (maxSteps := 2000000) -implicitDefEqProofs [hN]
        refine ret0 hC (a4, min j l.length + 1 + (l.length - j), c4) rfl fun W hp hG => ?_
        rw [hpl, hins]
        refine (hG.2.1.append ((Rows.sole (d := dIno) (x := x) ⟨(ea, ec), (ra, rc), rfl, hG.2.2.2.2.2.2.2⟩).append hG.1)).sv (base := 0) (e := 44) (by decide) (by simp; omega) ?_
        have h1 := hp.1
        simpa [dIno] using h1
end Go.Proofs.YtbbaoeidobdblaaGreat.Sx

/- Apply of the reference. -/
set_option linter.unusedVariables false
set_option linter.unusedSimpArgs false
namespace Go.Proofs.YtbbaoeidobdblaaGreat.Sx
open Go
attribute [local simp ↓] ifb_true' ifb_false'
attribute [local simp] ifb_true ifb_false ifb_eq sx argsT find ev evOp evs evo evBin evInt evStr evNil evNilA ptrA slcA isNoneA asB evLoad look del cellsB evUn evConv kdec fld evFieldA evField evIdxA evIdx evSlc bndL bndH evLen mmi put resV guardV gvL setO tupV cellsOf ones one upd lits nv exitTo SV.val CV.val TI.agg rdyA allR keepB scan simpO gsp isS subs keepT pickT wr memN pubs Res.fact Region.binds bld rest give delL back Res.eqv vi vb num Sv.val undef
noncomputable def applyOne (s : Sta) (d : Dee) : Sta :=
  if d.kind = 1 then { s with next := d.no } else if d.kind = 2 then { s with inos := putInoL s.inos d.ino } else if d.kind = 3 then { s with inos := s.inos.filter fun x => decide (x.no ≠ d.no) } else if d.kind = 4 then { s with bad := addBadL s.bad d.no } else s
noncomputable def applyL (s : Sta) (l : List Dee) : Sta := l.foldl applyOne s
theorem applyL_snoc (s : Sta) (l : List Dee) (d : Dee) : applyL s (l ++ [d]) = applyOne (applyL s l) d := by simp [applyL]
theorem replI_len : ∀ (l : List Ino) (x : Ino), (replI l x).length = l.length
  | [], _ => rfl
  | y :: r, x => by
    unfold replI
    split
    · rfl
    · simp [replI_len r x]
theorem insI_len : ∀ (l : List Ino) (x : Ino), (insI l x).length = l.length + 1
  | [], _ => rfl
  | y :: r, x => by
    unfold insI
    split
    · simp [insI_len r x]
    · rfl
theorem insL_len : ∀ (l : List Int) (x : Int), (insL l x).length = l.length + 1
  | [], _ => rfl
  | y :: r, x => by
    unfold insL
    split
    · simp [insL_len r x]
    · rfl
theorem putInoL_len (l : List Ino) (x : Ino) : (putInoL l x).length ≤ l.length + 1 := by
  unfold putInoL
  split
  · rw [replI_len]; omega
  · rw [insI_len]; omega
theorem addBadL_len (l : List Int) (x : Int) : (addBadL l x).length ≤ l.length + 1 := by
  unfold addBadL
  split
  · omega
  · rw [insL_len]; omega
theorem applyOne_len (s : Sta) (d : Dee) : (applyOne s d).inos.length ≤ s.inos.length + 1 ∧ (applyOne s d).bad.length ≤ s.bad.length + 1 := by
  unfold applyOne
  have h1 := putInoL_len s.inos d.ino
  have h2 := addBadL_len s.bad d.no
  have h3 := List.length_filter_le (fun x : Ino => decide (x.no ≠ d.no)) s.inos
  split
  · constructor <;> simp
  · split
    · exact ⟨h1, by simp⟩
    · split
      · exact ⟨by simp only; omega, by simp⟩
      · split
        · exact ⟨by simp, h2⟩
        · constructor <;> omega
theorem applyL_len (s : Sta) (l : List Dee) : (applyL s l).inos.length ≤ s.inos.length + l.length ∧ (applyL s l).bad.length ≤ s.bad.length + l.length := by
  induction l generalizing s with
  | nil => exact ⟨Nat.le_refl _, Nat.le_refl _⟩
  | cons d r ih =>
    have h1 := ih (applyOne s d)
    have h2 := applyOne_len s d
    simp only [applyL, List.foldl_cons, List.length_cons] at h1 ⊢
    omega
set_option maxHeartbeats 4000000 in
theorem refApply0 (w : World) (I : Nat → Prop) (hI : ∀ b, I b → b < w.heap.size) (s : Sta) (si sb : Sl) {a : Option Addr} {n c : Nat} (l : List Dee) (h : ∀ W, Ext I w W → StaR W s si sb) (hd : ∀ W, Ext I w W → Sv.ok dDee W (a, n, c) l) (hl : s.inos.length + l.length ≤ 1000000000 ∧ s.bad.length + l.length ≤ 1000000000) :
    Fn0 Tryz.prog 19 #[.agg (staC s si sb).toArray, .slice a n c] w I (fun y : Sl × Sl => .agg (staC (applyL s l) y.1 y.2).toArray) (fun y W => StaR W (applyL s l) y.1 y.2) := by
  obtain rfl : n = l.length := (hd w (Ext.refl _ _)).1
  refine enter (svs := [.ag ((staC s si sb).map .v), .c (.v (.slice a l.length c))]) tysOk Tryz.func19 rfl Tryz.ntmps19 Tryz.results19 (by kernel_rfl) (by simp) hI (fun W => StaR W s si sb ∧ Sv.ok dDee W (a, l.length, c) l) (fun W e => ⟨h W e, hd W e⟩) fun C hC hN ok => ?_
  obtain ⟨ia, ic⟩ := si
  obtain ⟨ba, bc⟩ := sb
  simp [hN]
  intro g2 g4
  refine loop ok (fun y : Nat × Sl × Sl => [(5, .c (.v (.int .i64 (y.1 : Nat))))]) (fun y => [(2, .box g2 39 ((staC (applyL s (l.take y.1)) y.2.1 y.2.2).map .v)), (4, .box g4 39 [.v (.int .i64 0), .v (.slice none 0 0), .v (.slice none 0 0)])]) (fun y W => y.1 ≤ l.length ∧ StaR W (applyL s (l.take y.1)) y.2.1 y.2.2) (fun y => l.length - y.1) (0, (ia, ic), (ba, bc)) ?_ ?_ (fun W hW => ⟨Nat.zero_le _, hW.1⟩) ?_
  · simp
  · simp [applyL]
  rintro ⟨i, ⟨pa, pc⟩, ⟨qa, qc⟩⟩ W ⟨hi, hS⟩ hG next
  have hlen := applyL_len s (l.take i)
  rw [List.length_take] at hlen
  generalize hSe : applyL s (l.take i) = S at next hlen hS
  simp only at hS hi
  rcases Nat.lt_or_ge i l.length with hlt | hge
  · obtain ⟨b, o, e⟩ := (show Sv.ok dDee W (a, l.length, c) l from hG.2).2.2.2.is_some (show 0 < l.length by omega)
    cases e
    have e6 : IntKind.i64.wrap ((i : Int) + 1) = (i + 1 : Nat) := by rw [w64 (by omega) (by omega)]; omega
    have ft : l.take (i + 1) = l.take i ++ [l[i]] := by rw [List.take_add_one, List.getElem?_eq_getElem hlt]; rfl
    generalize hde : l[i] = d at ft
    have fa : applyL s (l.take (i + 1)) = applyOne S d := by rw [ft, applyL_snoc, hSe]
    simp [hN, hlt]
    refine loadA ok rfl rfl rfl rfl (fun q W => dDee.K W d q) (fun W hW => ?_) ?_
    · obtain ⟨cs, hk, hcl, hc⟩ := hW.2.2.2.2.2.get hlt
      rw [hde] at hk
      exact ⟨cs, hcl, hc, hk⟩
    rintro v W _ ⟨⟨ea, ec⟩, ⟨ra, rc⟩, rfl, hR⟩ hG2
    simp [hN]
    intro g6
    refine ⟨fun k1 => ?_, fun k1 => ⟨fun k2 => ?_, fun k2 => ⟨fun k3 => ?_, fun k3 => ⟨fun k4 => ?_, fun k4 => ?_⟩⟩⟩⟩
    · have fo : applyOne S d = { S with next := d.no } := by simp [applyOne, k1]
      refine next (i + 1, (pa, pc), (qa, qc)) _ _ (by simp; omega) (fun W h => ⟨⟨hlt, ?_⟩, h.2.2⟩) ?_
      · simp only [fa, fo]; exact h.2.1.2
      · simp [e6, fa, fo]
    · have fo : applyOne S d = { S with inos := putInoL S.inos d.ino } := by simp [applyOne, k2]
      refine call0 ok rfl rfl rfl (fun w I hI hG => putIno0 w I hI S.inos d.ino (ea, ec) (ra, rc) (fun W e => ⟨rfl, (hG W e).2.1.2.1⟩) (fun W e => dee_get (hG W e).1) (by omega)) fun q W hq => ?_
      obtain ⟨ua, un, uc⟩ := q
      obtain rfl : un = _ := hq.1
      simp [hN]
      refine next (i + 1, (ua, uc), (qa, qc)) _ _ (by simp; omega) (fun W h => ⟨⟨hlt, ?_⟩, h.2.2.2⟩) ?_
      · simp only [fa, fo]; exact ⟨h.1.2, h.2.2.1.2.2⟩
      · simp [e6, fa, fo]
    · have fo : applyOne S d = { S with inos := S.inos.filter fun x => decide (x.no ≠ d.no) } := by simp [applyOne, k3]
      refine nilr 600 44 7 (loop ok (fun y : Nat × Sl × List Value => [(8, .c (.v (.int .i64 (y.1 : Nat)))), (7, .c (.v (.slice y.2.1.1 ((S.inos.take y.1).filter fun x => decide (x.no ≠ d.no)).length y.2.1.2)))]) (fun y => [(600, .row y.2.1.1 ((S.inos.take y.1).filter fun x => decide (x.no ≠ d.no)).length y.2.1.2 44 7 (y.2.2.map nv)), (6, .box g6 46 ((deeC d (ea, ec) (ra, rc)).map .v)), (2, .box g2 39 ((staC S (pa, pc) (qa, qc)).map .v)), (4, .box g4 39 [.v (.int .i64 0), .v (.slice none 0 0), .v (.slice none 0 0)])]) (fun y W => y.1 ≤ S.inos.length ∧ Rows dIno W ((S.inos.take y.1).filter fun x => decide (x.no ≠ d.no)) y.2.2) (fun y => S.inos.length - y.1) (0, (none, 0), []) ?_ ?_ (fun W hW => ⟨Nat.zero_le _, rows_nil _ _⟩) ?_)
      · simp
      · simp
      rintro ⟨k, ⟨oa, oc⟩, q⟩ W ⟨hk, hrw⟩ hGk nextk
      simp only at hk hrw
      rcases Nat.lt_or_ge k S.inos.length with hkl | hkg
      · obtain ⟨b', o', e, _⟩ := ino_no (show Sv.ok dIno W (pa, S.inos.length, pc) S.inos from ⟨rfl, hGk.2.1.2.1⟩) hkl
        cases e
        have e7 : IntKind.i64.wrap ((k : Int) + 1) = (k + 1 : Nat) := by rw [w64 (by omega) (by omega)]; omega
        have fk : S.inos.take (k + 1) = S.inos.take k ++ [S.inos[k]] := by rw [List.take_add_one, List.getElem?_eq_getElem hkl]; rfl
        have flen : ((S.inos.take k).filter fun x => decide (x.no ≠ d.no)).length ≤ k := Nat.le_trans (List.length_filter_le _ _) (by simp; omega)
        generalize hLk : (S.inos.take k).filter (fun x => decide (x.no ≠ d.no)) = L at hrw flen nextk
        simp [hN, hkl]
        refine drawK ok mixed (by kernel_rfl) ?_
        simp (maxSteps := 2000000) -implicitDefEqProofs [hN, hkl]
        refine load1 ok rfl rfl rfl rfl (fun v W => v = .int .i64 S.inos[k].no) (fun W hW => ?_) ?_
        · obtain ⟨b'', o'', e, hc⟩ := ino_no (show Sv.ok dIno W _ S.inos from ⟨rfl, hW.2.2.1.2.1⟩) hkl
          cases e
          exact ⟨_, hc, rfl⟩
        rintro v W rfl _
        simp (maxSteps := 2000000) -implicitDefEqProofs [hN, e7]
        refine ⟨fun hne => ⟨hkl, ?_⟩, fun heq => ?_⟩
        · have fk2 : (S.inos.take (k + 1)).filter (fun x => decide (x.no ≠ d.no)) = L ++ [S.inos[k]] := by rw [fk, List.filter_append, hLk]; simp [hne]
          generalize hxe : S.inos[k] = x at fk2
          refine loadA ok rfl rfl rfl rfl (fun v W => dIno.K W x v) (fun W hW => ?_) ?_
          · obtain ⟨cs, hk2, hcl, hc⟩ := (show Sv.ok dIno W (_, S.inos.length, pc) S.inos from ⟨rfl, hW.2.2.1.2.1⟩).2.2.2.get hkl
            rw [hxe] at hk2
            exact ⟨cs, hcl, hc, hk2⟩
          rintro v W _ ⟨⟨ea2, ec2⟩, ⟨ra2, rc2⟩, rfl, hR2⟩ _
          simp (maxSteps := 2000000) -implicitDefEqProofs [hN, e7]
          intro g58
          refine appR ok 600 58 rfl rfl rfl rfl rfl (by decide) rfl rfl rfl rfl rfl rfl rfl (by decide) (by simp) (by show (L.length + 1) * 96 ≤ _; omega) (by omega) fun g' c' => ?_
          simp (maxSteps := 2000000) -implicitDefEqProofs [hN, e7]
          refine nextk (k + 1, (some ⟨g', 0, none⟩, c'), q ++ inoC x (ea2, ec2) (ra2, rc2)) _ _ (by simp; omega) (fun W h => ⟨⟨hkl, ?_⟩, h.2.2⟩) ?_
          · simp only [fk2]
            exact h.2.1.2.snoc h.1
          · simp only [fk2]
            simp [k1, k2, k3]
        · have fk2 : (S.inos.take (k + 1)).filter (fun x => decide (x.no ≠ d.no)) = L := by rw [fk, List.filter_append, hLk]; simp [heq]
          refine nextk (k + 1, (oa, oc), q) _ _ (by simp; omega) (fun W h => ⟨⟨hkl, ?_⟩, h.2⟩) ?_
          · simp only [fk2]
            exact h.1.2
          · simp only [fk2]
            simp [k1, k2, k3]
      · have hk' : S.inos.take k = S.inos := List.take_of_length_le hkg
        simp only [hk'] at hrw ⊢
        clear nextk
        simp [hN, Nat.not_lt.2 hkg]
        have flen : (S.inos.filter fun x => decide (x.no ≠ d.no)).length ≤ S.inos.length := List.length_filter_le _ _
        refine pub 600 rfl (by decide) (next (i + 1, (oa, oc), (qa, qc)) _ _ (by simp; omega) (fun W h => ⟨⟨hlt, ?_⟩, h.2.2.2.2⟩) ?_)
        · simp only [fa, fo]
          have hr : Rows dIno W (S.inos.filter fun x => decide (x.no ≠ d.no)) q := by have := h.2.1.2; simpa using this
          have h1 : W.ownsRow 0 44 dIno.sz (.slice oa (S.inos.filter fun x => decide (x.no ≠ d.no)).length oc) (S.inos.filter fun x => decide (x.no ≠ d.no)).length q := by have h1 := h.1; simp at h1; simpa [dIno] using h1
          exact ⟨(Rows.sv hr (by decide) (by omega) h1).2, h.2.2.2.1.2.2⟩
        · simp [e6, fa, fo]
    · have fo : applyOne S d = { S with bad := addBadL S.bad d.no } := by simp [applyOne, k4]
      refine call0 ok rfl rfl rfl (fun w I hI hG => addBad0 w I hI S.bad d.no (fun W e => ⟨rfl, (hG W e).2.1.2.2⟩) (by omega)) fun q W hq => ?_
      obtain ⟨ua, un, uc⟩ := q
      obtain rfl : un = _ := hq.1
      simp [hN]
      refine next (i + 1, (pa, pc), (ua, uc)) _ _ (by simp; omega) (fun W h => ⟨⟨hlt, ?_⟩, h.2.2.2⟩) ?_
      · simp only [fa, fo]; exact ⟨h.2.2.1.2.1, h.1.2⟩
      · simp [e6, fa, fo]
    · have fo : applyOne S d = S := by simp [applyOne, k1, k2, k3, k4]
      refine next (i + 1, (pa, pc), (qa, qc)) _ _ (by simp; omega) (fun W h => ⟨⟨hlt, ?_⟩, h.2.2⟩) ?_
      · simp only [fa, fo]; exact h.2.1.2
      · simp [e6, fa, fo]
  · have hi' : i = l.length := by omega
    have hT : l.take i = l := List.take_of_length_le hge
    rw [hT] at hSe
    subst hSe
    simp [hN, Nat.not_lt.2 hge]
    exact ret0 hC ((pa, pc), (qa, qc)) rfl fun W _ hG => hG.1.2
end Go.Proofs.YtbbaoeidobdblaaGreat.Sx

/- placesOf of the reference. -/
set_option linter.unusedVariables false
set_option linter.unusedSimpArgs false
namespace Go.Proofs.YtbbaoeidobdblaaGreat.Sx
open Go
attribute [local simp ↓] ifb_true' ifb_false'
attribute [local simp] ifb_true ifb_false ifb_eq sx argsT find ev evOp evs evo evBin evInt evStr evNil evNilA ptrA slcA isNoneA asB evLoad look del cellsB evUn evConv kdec fld evFieldA evField evIdxA evIdx evSlc bndL bndH evLen mmi put resV guardV gvL setO tupV cellsOf ones one upd lits nv exitTo SV.val CV.val TI.agg rdyA allR keepB scan simpO gsp isS subs keepT pickT wr memN pubs Res.fact Region.binds bld rest give delL back Res.eqv vi vb num Sv.val undef
theorem iC_len (l : List Int) : (iC l).length = l.length := by simp [iC]
abbrev Sv.row (T sz : Nat) (cs : List CV) (s : Sv) : Res := .row s.1 s.2.1 s.2.2 T sz cs
end Go.Proofs.YtbbaoeidobdblaaGreat.Sx

/- runsOf, SetRun of the reference. -/
set_option linter.unusedVariables false
set_option linter.unusedSimpArgs false
namespace Go.Proofs.YtbbaoeidobdblaaGreat.Sx
open Go
attribute [local simp ↓] ifb_true' ifb_false'
attribute [local simp] ifb_true ifb_false ifb_eq sx argsT find ev evOp evs evo evBin evInt evStr evNil evNilA ptrA slcA isNoneA asB evLoad look del cellsB evUn evConv kdec fld evFieldA evField evIdxA evIdx evSlc bndL bndH evLen mmi put resV guardV gvL setO tupV cellsOf ones one upd lits nv exitTo SV.val CV.val TI.agg rdyA allR keepB scan simpO gsp isS subs keepT pickT wr memN pubs Res.fact Region.binds bld rest give delL back Res.eqv vi vb num Sv.val undef
def rC (l : List Rn) : List CV := l.flatMap fun y => (rnC y).map .v
theorem rC_snoc (l : List Rn) (y : Rn) : rC (l ++ [y]) = rC l ++ (rnC y).map .v := by simp [rC]
theorem rC_val (l : List Rn) : (rC l).map CV.val = l.flatMap rnC := by
  induction l with
  | nil => rfl
  | cons x r ih => simp [rC, CV.val] at ih ⊢; exact ih
theorem rowsR {W : World} {xs : List Rn} {l : List Value} : Rows dRn W xs l ↔ l = xs.flatMap rnC := by
  unfold dRn
  rw [rows_flat]
end Go.Proofs.YtbbaoeidobdblaaGreat.Sx

/- SetRun of the reference. -/
set_option linter.unusedVariables false
set_option linter.unusedSimpArgs false
namespace Go.Proofs.YtbbaoeidobdblaaGreat.Sx
open Go
attribute [local simp ↓] ifb_true' ifb_false'
attribute [local simp] ifb_true ifb_false ifb_eq sx argsT find ev evOp evs evo evBin evInt evStr evNil evNilA ptrA slcA isNoneA asB evLoad look del cellsB evUn evConv kdec fld evFieldA evField evIdxA evIdx evSlc bndL bndH evLen mmi put resV guardV gvL setO tupV cellsOf ones one upd lits nv exitTo SV.val CV.val TI.agg rdyA allR keepB scan simpO gsp isS subs keepT pickT wr memN pubs Res.fact Region.binds bld rest give delL back Res.eqv vi vb num Sv.val undef
theorem rn_eq (a b : Rn) : a = b ↔ a.fr = b.fr ∧ a.at_ = b.at_ ∧ a.ct = b.ct := by
  cases a; cases b; simp
instance : DecidableEq Rn := fun a b => decidable_of_iff _ (rn_eq a b).symm
end Go.Proofs.YtbbaoeidobdblaaGreat.Sx

/- Sx, part 12: rows of one's own: made longer within their room, copied into, cleared; zeros appended to a part; two slices that do not overlap. -/
set_option linter.unusedVariables false
set_option linter.unusedSimpArgs false
namespace Go.Proofs.YtbbaoeidobdblaaGreat.Sx
open Go
section
variable {P : Program} {C : Ctx} {T : Ty} {res : List ResultVar} {p : Pos} {tm : Tm} {m : Mem}
/-- A row of one's own is written anew, in place. -/
theorem J.setRow {w : World} (k : Nat) {g n n' c : Nat} {e : TypeId} {sz : Nat} {cs cs' : List CV} {arr cur : Array Value} (hJ : J C m w) (hl : look k m.rs = some (.row (some ⟨g, 0, none⟩) n c e sz cs)) (hg : w.heap[g]? = some (.cells cur e (0, 0)))
    (hs : arr.size = cur.size) (hn : n' ≤ c) (hcl : cs'.length = n' * sz) (ht : arr.toList.take (n' * sz) = cs'.map CV.val) : J C ⟨m.B, m.G, (k, .row (some ⟨g, 0, none⟩) n' c e sz cs') :: del k (del k m.rs)⟩ (w.setRow g arr) := by
  obtain ⟨I, F, hi⟩ := hJ
  have o1 := hi.own _ (look_mem hl)
  have hlt := (Array.getElem?_eq_some_iff.1 hg).1
  obtain ⟨h1, h2, h3⟩ := o1
  rcases h3 with ⟨h4, _⟩ | ⟨g', cap, cur', h4, _, h5, h6, h7, h8, h9⟩
  · cases h4
  · obtain ⟨rfl, rfl⟩ : g = g' ∧ c = cap := by simpa using h4
    rw [hg] at h5
    cases h5
    refine ⟨I, _, hi.upd k k _ (fun b => b = g) (fun b => b = g) (fun b hb => ⟨(h1 b).2 (by rw [hb]; rfl), _, look_mem hl⟩) ⟨rfl, rfl, rfl, by simp, fun b hb => setRow_other w g b _ (fun e => hb.2 e)⟩ ⟨fun b => by simp [Value.ownBlock]; exact ⟨fun h => h.symm, fun h => h.symm⟩, by simpa using hcl, .inr ⟨g, c, arr, rfl, Nat.zero_le _, setRow_heap w g _ _ e _ hg, hn, h7, by rw [hs]; exact h8, ht⟩⟩ (fun b hb => by subst hb; exact ⟨by simp [hlt], .inl rfl⟩) id⟩
theorem J.rowAt {w : World} {k g n c : Nat} {e : TypeId} {sz : Nat} {cs : List CV} (hJ : J C m w) (hl : look k m.rs = some (.row (some ⟨g, 0, none⟩) n c e sz cs)) : ∃ cur : Array Value, w.heap[g]? = some (.cells cur e (0, 0)) ∧ n ≤ c ∧ cur.size = c * sz ∧ cur.toList.take (n * sz) = cs.map CV.val ∧ cs.length = n * sz := by
  obtain ⟨I, F, hi⟩ := hJ
  obtain ⟨h1, h2, h3⟩ := hi.own _ (look_mem hl)
  rcases h3 with ⟨h4, _⟩ | ⟨g', cap, cur', h4, _, h5, h6, h7, h8, h9⟩
  · cases h4
  · obtain ⟨rfl, rfl⟩ : g = g' ∧ c = cap := by simpa using h4
    exact ⟨cur', h5, h6, h8, h9, by simpa using h2⟩
/-- A row is longer, within its room: what stands there is not known. -/
theorem extend (k h : Nat) {a : Option Addr} {n c : Nat} {e : TypeId} {sz : Nat} {cs : List CV} (hl : look k m.rs = some (.row a n c e sz cs)) (hle : n ≤ h) (hc : h ≤ c) (kk : ∀ junk : List Value, junk.length = (h - n) * sz → At C p tm ⟨m.B, m.G, (k, .row a h c e sz (cs ++ junk.map .v)) :: del k (del k m.rs)⟩) : At C p tm m := by
  intro act w cs0 hR hJ
  obtain ⟨I, F, hi⟩ := hJ
  have o1 := hi.own _ (look_mem hl)
  have o1' := o1
  obtain ⟨h1, h2, h3⟩ := o1
  rcases h3 with ⟨h4, h5⟩ | ⟨g, cap, cur, h4, _, h5, h6, h7, h8, h9⟩
  · cases h4
    obtain rfl : h = 0 := by omega
    refine kk [] (by simp) act w cs0 hR ⟨I, _, hi.upd k k _ noS (fun b => (Value.slice none 0 0).ownBlock = some b) (fun b hb => hb.elim) (Ext.refl _ w) ⟨fun b => Iff.rfl, by simpa using o1'.2⟩ (fun b hb => by simp [Value.ownBlock] at hb) id⟩
  · obtain ⟨rfl, rfl⟩ : a = some ⟨g, 0, none⟩ ∧ c = cap := by simpa using h4
    have hle2 : h * sz ≤ cur.size := by rw [h8]; exact Nat.mul_le_mul_right _ hc
    have hn2 : n * sz ≤ h * sz := Nat.mul_le_mul_right _ hle
    have hlt := (Array.getElem?_eq_some_iff.1 h5).1
    have hsplit : cur.toList.take (h * sz) = cs.map CV.val ++ (cur.toList.drop (n * sz)).take ((h - n) * sz) := by
      rw [← h9, show h * sz = n * sz + (h - n) * sz by rw [← Nat.add_mul]; congr 1; omega, List.take_add]
    refine kk ((cur.toList.drop (n * sz)).take ((h - n) * sz)) (by simp [Nat.sub_mul]; omega) act w cs0 hR ⟨I, _, hi.upd k k _ (fun b => b = g) (fun b => b = g) (fun b hb => ⟨(h1 b).2 (by rw [hb]; rfl), _, look_mem hl⟩) ((Ext.refl (fun _ => True) w).mono fun _ _ => trivial) ⟨fun b => by simp [Value.ownBlock]; exact ⟨fun h => h.symm, fun h => h.symm⟩, ?_, .inr ⟨g, c, cur, rfl, Nat.zero_le _, h5, hc, h7, h8, ?_⟩⟩ (fun b hb => by subst hb; exact ⟨hlt, .inl rfl⟩) id⟩
    · have h10 : (cs.map CV.val).length = n * sz := h2
      simp only [List.length_map] at h10
      simp only [List.length_map, List.length_append, List.length_take, List.length_drop, Array.length_toList, h10]
      rw [Nat.min_eq_left (by rw [Nat.sub_mul]; omega), ← Nat.add_mul]
      congr 1
      omega
    · rw [hsplit]
      simp [Function.comp_def, CV.val]
/-- Cells that are written anew: from some place on. -/
def lay (cs : List CV) (o : Nat) (src : List CV) : List CV := cs.take o ++ src ++ cs.drop (o + src.length)
theorem lay_len (cs : List CV) (o : Nat) (src : List CV) (h : o + src.length ≤ cs.length) : (lay cs o src).length = cs.length := by simp [lay]; omega
theorem copyRun {P : Program} (w : World) (dT sT ty elem : TypeId) {ie : TI} (g o dLen dCap : Nat) (sa : Option Addr) (sLen sCap : Nat) (cur : Array Value) (t : TypeId) (src : List Value)
    (hu : P.underlying dT = some (.slice elem)) (hs : TIok P elem ie)
    (hg : w.heap[g]? = some (.cells cur t (0, 0))) (hn : src.length = Nat.min sLen dLen * ie.sz)
    (hsrc : ∀ j v, src[j]? = some v → ∃ b f, sa = some ⟨b, f, none⟩ ∧ w.cell? ⟨b, f + j, none⟩ = some v) (hsh : ∃ b f, sa = some ⟨b, f, none⟩) (hfit : o + src.length ≤ cur.size) (h1 : ∀ v ∈ src, v.oneCell' = true) :
    (Builtin.copy_ #[dT, sT] ty #[.slice (some ⟨g, o, none⟩) dLen dCap, .slice sa sLen sCap]).run P w =
      .ok (goInt (Nat.min sLen dLen)) (w.setRow g (cur.toList.take o ++ src ++ cur.toList.drop (o + src.length)).toArray) := by
  obtain ⟨b, f, rfl⟩ := hsh
  have hl := run_loadCells_list (P := P) w ⟨b, f, none⟩ src (fun j v hv => by
    obtain ⟨b', f', e, hc⟩ := hsrc j v hv
    cases e
    rw [addr_add]
    exact hc)
  have hst := run_storeCells_at P g o t src 0 cur w hg (by simpa using hfit) h1
  have hz := hs.g_sizeOf (P := P)
  rw [hn] at hl
  simp [Builtin.copy_, run_underlying hu, Builtin.lenOf, Builtin.firstCells, hz, hl, hst]
/-- What stands in a row of one's own (k', or k itself) is copied into one (k). -/
theorem copyR (ok : Okc P T C res) (k k' : Nat) {o : Oper} {d s : Operand} {dT sT : Nat} (ho : o.op = .call ⟨.builtin .copy, #[d, s], #[dT, sT]⟩) {i ie : TI} (hi : tf dT T = some i) (hik : i.kd = 3) (hie : tf i.el T = some ie)
    {g n c g' n' c' off soff dLen dCap sLen sCap : Nat} {e' : TypeId} {cs cs' : List CV} {u v : SV} (hk : look k m.rs = some (.row (some ⟨g, 0, none⟩) n c i.el ie.sz cs)) (hk' : look k' m.rs = some (.row (some ⟨g', 0, none⟩) n' c' e' ie.sz cs'))
    (hd : ev tm d = some u) (hu : u.val = .slice (some ⟨g, off, none⟩) dLen dCap) (hs : ev tm s = some v) (hv : v.val = .slice (some ⟨g', soff, none⟩) sLen sCap)
    (hf : off + Nat.min sLen dLen * ie.sz ≤ n * ie.sz) (hf' : soff + Nat.min sLen dLen * ie.sz ≤ n' * ie.sz) (h1 : ones ((cs'.drop soff).take (Nat.min sLen dLen * ie.sz)))
    (kk : sx T C res 1000 p (put C.n o.dst (.c (.v (.int .i64 (Nat.min sLen dLen)))) tm) ⟨m.B, m.G, (k, .row (some ⟨g, 0, none⟩) n c i.el ie.sz (lay cs off ((cs'.drop soff).take (Nat.min sLen dLen * ie.sz)))) :: del k (del k m.rs)⟩) : At C (.op o p) tm m := by
  intro act w cs0 hR hJ
  obtain ⟨cur, hg, hnc, hsz, htk, hcl⟩ := hJ.rowAt hk
  obtain ⟨cur', hg', hnc', hsz', htk', hcl'⟩ := hJ.rowAt hk'
  have e1 : act.eval d = .slice (some ⟨g, off, none⟩) dLen dCap := by rw [hR.eval hd, hu]
  have e2 : act.eval s = .slice (some ⟨g', soff, none⟩) sLen sCap := by rw [hR.eval hs, hv]
  have hle : n * ie.sz ≤ cur.size := by rw [hsz]; exact Nat.mul_le_mul_right _ hnc
  have hsl : ((cs'.drop soff).take (Nat.min sLen dLen * ie.sz)).length = Nat.min sLen dLen * ie.sz := by simp; omega
  have hslv : (((cs'.drop soff).take (Nat.min sLen dLen * ie.sz)).map CV.val).length = Nat.min sLen dLen * ie.sz := by rw [List.length_map, hsl]
  have hr := copyRun (P := C.P) w dT sT o.type i.el (ie := ie) g off dLen dCap (some ⟨g', soff, none⟩) sLen sCap cur _ (((cs'.drop soff).take (Nat.min sLen dLen * ie.sz)).map CV.val) ((ok.ty.get hi).g_slice hik) (ok.ty.get hie) hg hslv (fun j v hv => ⟨g', soff, rfl, by
    have hj : j < Nat.min sLen dLen * ie.sz := by have := (List.getElem?_eq_some_iff.1 hv).1; rwa [hslv] at this
    have h2 := hJ.ok k' _ g' cs' hk' rfl (soff + j) (by omega)
    rw [h2]
    rw [List.getElem?_map, List.getElem?_take, if_pos hj, List.getElem?_drop] at hv
    rw [List.getElem?_eq_getElem (by omega)] at hv
    simp only [Option.map_some, Option.some.injEq] at hv
    rw [← hv, List.getD_eq_getElem?_getD, List.getElem?_eq_getElem (by omega)]
    rfl⟩) ⟨_, _, rfl⟩ (by rw [hslv]; omega) (ones_cells h1)
  have hrun : (execOp act.eval o).run C.P w = .ok (.value (goInt (Nat.min sLen dLen))) (w.setRow g (cur.toList.take off ++ ((cs'.drop soff).take (Nat.min sLen dLen * ie.sz)).map CV.val ++ cur.toList.drop (off + (((cs'.drop soff).take (Nat.min sLen dLen * ie.sz)).map CV.val).length)).toArray) := by
    simp [execOp, ho, resolve, invoke, builtin, e1, e2, hr]
  have hRp := hR.put o.dst (.c (.v (.int .i64 (Nat.min sLen dLen))))
  refine op_value (ok.sx kk) hrun hRp (hJ.setRow k hk hg ?_ hnc ?_ ?_)
  · simp only [List.size_toArray, List.length_append, List.length_take, List.length_drop, Array.length_toList, hslv]
    omega
  · rw [lay_len _ _ _ (by rw [hsl]; omega), hcl]
  · rw [hslv]
    have e3 : cs.map CV.val = cur.toList.take (n * ie.sz) := htk.symm
    simp only [lay, List.map_append, List.map_take, List.map_drop, e3, hsl]
    simp only [List.append_assoc]
    rw [List.take_append, List.length_take, Array.length_toList, Nat.min_eq_left (by omega), List.take_take, Nat.min_eq_right (by omega), List.take_take, Nat.min_eq_left (by omega)]
    congr 1
    have hmv : (((cs'.map CV.val).drop soff).take (Nat.min sLen dLen * ie.sz)).length = Nat.min sLen dLen * ie.sz := by simp; omega
    rw [List.take_append, hmv, List.take_of_length_le (by rw [hmv]; omega)]
    congr 1
    rw [List.drop_take]
    congr 1
    omega
end
end Go.Proofs.YtbbaoeidobdblaaGreat.Sx

/- Sx, part 13: clear; zeros appended to a part of a row that has no room; slices.overlaps of two rows of one's own. -/
set_option linter.unusedVariables false
set_option linter.unusedSimpArgs false
namespace Go.Proofs.YtbbaoeidobdblaaGreat.Sx
open Go
theorem zc_mem {z : Array Value} {n : Nat} {v : Value} (h : v ∈ (Builtin.zeroCells z n).toList) : v ∈ z.toList := by
  simp only [Builtin.zeroCells, Array.toList_map, List.mem_map, Array.toList_range, List.mem_range] at h
  obtain ⟨i, hi, rfl⟩ := h
  have h0 : 0 < z.size := by
    rcases Nat.eq_zero_or_pos z.size with h | h
    · rw [h] at hi; simp at hi
    · exact h
  have h1 := Nat.mod_lt i h0
  rw [getElem!_pos z _ h1]
  exact Array.getElem_mem_toList h1
section
variable {P : Program} {C : Ctx} {T : Ty} {res : List ResultVar} {p : Pos} {tm : Tm} {m : Mem}
/-- A part of a row of one's own is cleared. -/
theorem clearR (ok : Okc P T C res) (k : Nat) {o : Oper} {x : Operand} {t : Nat} (ho : o.op = .call ⟨.builtin .clear, #[x], #[t]⟩) {i ie : TI} (hi : tf t T = some i) (hik : i.kd = 3) (hie : tf i.el T = some ie) (hz1 : ∀ v ∈ ie.zero, v.oneCell' = true) (hzl : ie.zero.length = ie.sz)
    {g n c off len cap : Nat} {cs : List CV} {u : SV} (hk : look k m.rs = some (.row (some ⟨g, 0, none⟩) n c i.el ie.sz cs)) (hx : ev tm x = some u) (hu : u.val = .slice (some ⟨g, off, none⟩) len cap) (h0 : 0 < len) (hf : off + len * ie.sz ≤ n * ie.sz)
    (kk : ∀ z : List CV, z.length = len * ie.sz → sx T C res 1000 p (put C.n o.dst (.c (.v (.tuple #[]))) tm) ⟨m.B, m.G, (k, .row (some ⟨g, 0, none⟩) n c i.el ie.sz (lay cs off z)) :: del k (del k m.rs)⟩) : At C (.op o p) tm m := by
  intro act w cs0 hR hJ
  obtain ⟨cur, hg, hnc, hsz, htk, hcl⟩ := hJ.rowAt hk
  have e1 : act.eval x = .slice (some ⟨g, off, none⟩) len cap := by rw [hR.eval hx, hu]
  have hle : n * ie.sz ≤ cur.size := by rw [hsz]; exact Nat.mul_le_mul_right _ hnc
  obtain ⟨z, hz, hzc⟩ := (ok.ty.get hie).g_zeroValue w
  have hzs : z.cells.size = ie.sz := by rw [← Array.length_toList, hzc, hzl]
  have hsl : (Builtin.zeroCells z.cells len).toList.length = len * ie.sz := by rw [Array.length_toList, size_zeroCells, hzs]
  have hu2 := (ok.ty.get hi).g_slice hik
  have hst := run_storeCells_at C.P g off i.el (Builtin.zeroCells z.cells len).toList 0 cur w hg (by rw [hsl]; omega) (fun v hv => hz1 v (by rw [← hzc]; exact zc_mem hv))
  obtain ⟨len', rfl⟩ : ∃ l, len = l + 1 := ⟨len - 1, by omega⟩
  have hrun : (execOp act.eval o).run C.P w = .ok (.value (.tuple #[])) (w.setRow g (cur.toList.take off ++ (Builtin.zeroCells z.cells (len' + 1)).toList ++ cur.toList.drop (off + (Builtin.zeroCells z.cells (len' + 1)).toList.length)).toArray) := by
    simp only [Nat.add_zero] at hst
    simp [execOp, ho, resolve, invoke, builtin, e1, Builtin.clear_, run_underlying hu2, hz, hst]
  have hRp := hR.put o.dst (.c (.v (.tuple #[])))
  have hmv : ((Builtin.zeroCells z.cells (len' + 1)).toList.map CV.v).map CV.val = (Builtin.zeroCells z.cells (len' + 1)).toList := by simp [Function.comp_def, CV.val]
  refine op_value (ok.sx (kk ((Builtin.zeroCells z.cells (len' + 1)).toList.map .v) (by rw [List.length_map, hsl]))) hrun hRp (hJ.setRow k hk hg ?_ hnc ?_ ?_)
  · simp only [List.size_toArray, List.length_append, List.length_take, List.length_drop, Array.length_toList]
    rw [Array.length_toList] at hsl
    omega
  · rw [lay_len _ _ _ (by rw [List.length_map, hsl]; omega), hcl]
  · have e3 : cs.map CV.val = cur.toList.take (n * ie.sz) := htk.symm
    have hl2 : ((Builtin.zeroCells z.cells (len' + 1)).toList.map CV.v).length = (len' + 1) * ie.sz := by rw [List.length_map, hsl]
    simp only [lay, List.map_append, List.map_take, List.map_drop, hmv, e3, hl2]
    rw [hsl]
    simp only [List.append_assoc]
    rw [List.take_append, List.length_take, Array.length_toList, Nat.min_eq_left (by omega), List.take_take, Nat.min_eq_right (by omega), List.take_take, Nat.min_eq_left (by omega)]
    congr 1
    rw [List.take_append, hsl, List.take_of_length_le (by rw [hsl]; omega)]
    congr 1
    rw [List.drop_take]
    congr 1
    omega
/-- Zeros are appended to the first part of a row that has no room for them: a new row (kn). -/
theorem appZp (ok : Okc P T C res) (k kn : Nat) {o : Oper} {s x : Operand} {t tn d : Nat} (ho : o.op = .call ⟨.builtin .append, #[s, x], #[t, tn]⟩) (hd : o.dst = some d) {i ie ii : TI} (hi : tf t T = some i) (hik : i.kd = 3) (hie : tf i.el T = some ie) (h0 : 0 < ie.sz) (hzl : ie.zero.length = ie.sz) (htn : tf tn T = some ii) (hin : ii.kd = 8)
    {g n c j : Nat} {z : Nat} {kq : IntKind} {cs : List CV} {u v : SV} (hnk : look kn m.rs = some (.row none 0 0 i.el ie.sz [])) (hk : look k m.rs = some (.row (some ⟨g, 0, none⟩) n c i.el ie.sz cs)) (hs : ev tm s = some u) (hu : u.val = .slice (some ⟨g, 0, none⟩) j c) (hx : ev tm x = some v) (hv : v.val = .int kq (z : Nat)) (hj : j ≤ n) (hzp : 0 < z) (hfull : c < j + z)
    (hb : (j + z) * ie.bt ≤ 140737488355328) (hmx : j + z ≤ 140737488355328) (hne : k ≠ kn)
    (kk : ∀ g' c' zs, zs.length = z * ie.sz → j + z ≤ c' → sx T C res 1000 p (put C.n (some d) (.c (.rw kn (some ⟨g', 0, none⟩) (j + z) c')) tm) ⟨m.B, m.G, (kn, .row (some ⟨g', 0, none⟩) (j + z) c' i.el ie.sz (cs.take (j * ie.sz) ++ zs)) :: del kn (del kn m.rs)⟩) : At C (.op o p) tm m := by
  rintro act w cs0 hR hJ0
  obtain ⟨cur, hg, hnc, hsz, htk, hcl⟩ := hJ0.rowAt hk
  have hok := hJ0.ok
  obtain ⟨I, F, hJ⟩ := hJ0
  have e1 : act.eval s = .slice (some ⟨g, 0, none⟩) j c := by rw [hR.eval hs, hu]
  have e2 : act.eval x = .int kq (z : Nat) := by rw [hR.eval hx, hv]
  have he := ok.ty.get hie
  have hu2 := (ok.ty.get hi).g_slice hik
  obtain ⟨iq, hii, hsq, hbt, zz, hz, hzc⟩ := he.g_some
  have hzs : zz.cells.size = ie.sz := by rw [← Array.length_toList, hzc, hzl]
  have hjn : j * ie.sz ≤ n * ie.sz := Nat.mul_le_mul_right _ hj
  have htl : ((cs.take (j * ie.sz)).map CV.val).length = j * ie.sz := by simp; omega
  have hold : (Builtin.firstCells iq.size j (.slice (some ⟨g, 0, none⟩) j c)).run C.P w.drew = .ok ((cs.take (j * ie.sz)).map CV.val).toArray w.drew := by
    rw [hsq]
    exact run_firstCells_some w.drew ie.sz j ⟨g, 0, none⟩ j c _ htl (fun q y hy => by
      rw [addr_add, Nat.zero_add]
      have hq : q < j * ie.sz := by have := (List.getElem?_eq_some_iff.1 hy).1; rwa [htl] at this
      have h2 := hok k _ g cs hk rfl q (by omega)
      rw [List.getElem?_map, List.getElem?_take, if_pos hq, List.getElem?_eq_getElem (by omega)] at hy
      simp only [Option.map_some, Option.some.injEq] at hy
      rw [List.getD_eq_getElem?_getD, List.getElem?_eq_getElem (by omega)] at h2
      rw [← hy]
      exact h2)
  have hr := Lib.run_append_grow_zeros (P := C.P) w t tn o.type i.el iq zz kq (kdec ii.el) hu2 ((ok.ty.get htn).g_int hin) hii hz (some ⟨g, 0, none⟩) j c _ hold z hzp (by rw [hsq]; exact h0) hfull (by omega) (by
    rw [hbt]
    have : z * ie.bt ≤ (j + z) * ie.bt := Nat.mul_le_mul_right _ (by omega)
    omega) (growslice_fits (by omega) (by rw [hbt]; exact hb))
  have hge := grownCap_ge w (j + z) c i.el
  have hcm : grownCap w (j + z) c i.el ≤ maxLen := grownCap_le_maxLen w (j + z) c i.el (by unfold maxLen; omega)
  have hzll : (Builtin.zeroCells zz.cells z).toList.length = z * ie.sz := by rw [Array.length_toList, size_zeroCells, hzs]
  have hmv : ((Builtin.zeroCells zz.cells z).toList.map CV.v).map CV.val = (Builtin.zeroCells zz.cells z).toList := by simp [Function.comp_def, CV.val]
  have hnewl : ((cs.take (j * ie.sz) ++ (Builtin.zeroCells zz.cells z).toList.map CV.v).map CV.val).length = (j + z) * ie.sz := by
    rw [List.map_append, List.length_append, htl, hmv, hzll, Nat.add_mul]
  have hrun : (execOp act.eval o).run C.P w = .ok (.value (.slice (some ⟨w.heap.size, 0, none⟩) (j + z) (grownCap w (j + z) c i.el))) (w.drew.alloc (.cells (((cs.take (j * ie.sz)).map CV.val).toArray ++ Builtin.zeroCells zz.cells z ++ Builtin.zeroCells zz.cells (grownCap w (j + z) c i.el - (j + z))) i.el)) := by
    simp only [execOp, ho]
    simp only [resolve, invoke, builtin]
    simp [e1, e2, hr]
  have hown : (w.drew.alloc (.cells (((cs.take (j * ie.sz)).map CV.val).toArray ++ Builtin.zeroCells zz.cells z ++ Builtin.zeroCells zz.cells (grownCap w (j + z) c i.el - (j + z))) i.el)).ownsRow 0 i.el ie.sz (.slice (some ⟨w.heap.size, 0, none⟩) (j + z) (grownCap w (j + z) c i.el)) (j + z) ((cs.take (j * ie.sz) ++ (Builtin.zeroCells zz.cells z).toList.map CV.v).map CV.val) := by
    refine ⟨hnewl, .inr ⟨w.heap.size, _, _, rfl, Nat.zero_le _, heap_alloc_new w.drew _, hge, hcm, ?_, ?_⟩⟩
    · simp only [Array.size_append, List.size_toArray, size_zeroCells, hzs, htl, ← Nat.add_mul]
      congr 1
      omega
    · simp only [Array.toList_append, List.append_assoc]
      rw [← List.append_assoc, ← hnewl, List.map_append, hmv]
      exact List.take_left
  have hext : Ext (fun b => b < w.heap.size ∧ ¬ noS b) w (w.drew.alloc (.cells (((cs.take (j * ie.sz)).map CV.val).toArray ++ Builtin.zeroCells zz.cells z ++ Builtin.zeroCells zz.cells (grownCap w (j + z) c i.el - (j + z))) i.el)) := (Ext.drew _ w).trans (Ext.alloc _ w.drew _ fun b hb => hb.1) fun _ hx => hx
  have hup := hJ.upd kn kn (.row (some ⟨w.heap.size, 0, none⟩) (j + z) (grownCap w (j + z) c i.el) i.el ie.sz (cs.take (j * ie.sz) ++ (Builtin.zeroCells zz.cells z).toList.map CV.v)) noS (fun b => b = w.heap.size) (fun b hb => hb.elim) hext ⟨fun b => by simp [Value.ownBlock]; exact ⟨fun h => h.symm, fun h => h.symm⟩, hown⟩ (fun b hb => by subst hb; exact ⟨by simp, .inr (Nat.le_refl _)⟩) id
  have hRp := hR.put (some d) (.c (.rw kn (some ⟨w.heap.size, 0, none⟩) (j + z) (grownCap w (j + z) c i.el)))
  exact op_value (ok.sx (kk w.heap.size _ _ (by rw [List.length_map, hzll]) hge)) hrun (by rw [hd]; exact hRp) ⟨I, _, hup⟩
def ovB (P : Program) (f : FuncId) (t r : TypeId) : Prop := ∃ fn, P.funcs[f]? = some fn ∧ (fn.name == "runtime.NumGoroutine") = false ∧ fn.body.isNone = true ∧ Extern.findNext fn = none ∧ Extern.find fn = some (Extern.SlicesOverlaps.overlaps #[t, t] #[r])
/-- Two rows of one's own do not overlap. -/
theorem ovl (ok : Okc P T C res) (k k' : Nat) {o : Oper} {fo a b : Operand} {tys : Array TypeId} (ho : o.op = .call ⟨.value fo, #[a, b], tys⟩) {f : FuncId} (hf : ev tm fo = some (.c (.v (.func (.func f) #[] #[])))) {t r : TypeId} (hF : ovB P f t r) {i ie : TI} (hi : tf t T = some i) (hik : i.kd = 3) (hie : tf i.el T = some ie)
    {g n c g' n' c' off off' la lb ca cb : Nat} {e e' : TypeId} {cs cs' : List CV} {u v : SV} (hk : look k m.rs = some (.row (some ⟨g, 0, none⟩) n c e ie.sz cs)) (hk' : look k' m.rs = some (.row (some ⟨g', 0, none⟩) n' c' e' ie.sz cs')) (hne : k ≠ k')
    (ha : ev tm a = some u) (hu : u.val = .slice (some ⟨g, off, none⟩) la ca) (hb : ev tm b = some v) (hv : v.val = .slice (some ⟨g', off', none⟩) lb cb) (hn' : 0 < c') (hs0 : 0 < ie.sz)
    (kk : sx T C res 1000 p (put C.n o.dst (.c (.b false)) tm) m) : At C (.op o p) tm m := by
  obtain rfl := ok.P
  intro act w cs0 hR hJ
  obtain ⟨cur, hg, hnc, hsz, htk, hcl⟩ := hJ.rowAt hk
  obtain ⟨cur', hg', hnc', hsz', htk', hcl'⟩ := hJ.rowAt hk'
  have hne2 : g ≠ g' := by
    obtain ⟨I, F, hi⟩ := hJ
    have o1 := hi.own _ (look_mem hk)
    have o2 := hi.own _ (look_mem hk')
    intro e
    subst e
    exact hi.disj _ _ g (look_mem hk) (look_mem hk') hne ((o1.1 g).2 rfl) ((o2.1 g).2 rfl)
  have e0 : act.eval fo = .func (.func f) #[] #[] := hR.eval hf
  have e1 : act.eval a = .slice (some ⟨g, off, none⟩) la ca := by rw [hR.eval ha, hu]
  have e2 : act.eval b = .slice (some ⟨g', off', none⟩) lb cb := by rw [hR.eval hb, hv]
  obtain ⟨fn, h1, h2, h3, h4, h5⟩ := hF
  have hrun : (execOp act.eval o).run C.P w = .ok (.value (.bool false)) w := by
    have hx := Lib.run_overlaps_apart (P := C.P) w t r i.el ((ok.ty.get hi).g_slice hik) ie.sz (ok.ty.get hie).g_sizeOf ⟨g, off, none⟩ ⟨g', off', none⟩ la ca lb cb hne2 e e' cur.size cur'.size (by simp [World.shape?, hg]) (by simp [World.shape?, hg']) (by rw [hsz']; exact Nat.ne_of_gt (Nat.mul_pos hn' hs0)) (by simp [World.frozen?, hg]) (by simp [World.frozen?, hg])
    have hc := run_callFunc_extern h1 h2 h3 h4 h5 #[.slice (some ⟨g, off, none⟩) la ca, .slice (some ⟨g', off', none⟩) lb cb] w
    rw [hx] at hc
    simp [execOp, ho, resolve, e0, e1, e2, Deferred.ofValue, invoke, hc]
  have hRp := hR.put o.dst (.c (.b false))
  exact op_value (ok.sx kk) hrun hRp hJ
/-- The same as loopK, with rounds told as At (so that rules may stand first): what its slots, and what is one's own, are like at each round's head, by a parameter; what is known beside; what goes down. -/
theorem loopKA (ks : List Nat) (ok : Okc P T C res) {b : Code} {k : List Item} {α : Type} (car : α → Tm) (rs : α → List (Nat × Res)) (F : α → World → Prop) (μ : α → Nat) (a0 : α)
    (h0 : subs tm (car a0)) (hr0 : keepB m.rs (rs a0)) (hF0 : ∀ W, m.G W → F a0 W)
    (round : ∀ a W, F a W → m.G W → (∀ a' tm' m', μ a' < μ a → (∀ W, m'.G W → F a' W ∧ m.G W) → subs tm' (car a' ++ pickT ks tm) ∧ keepB m'.rs (rs a') → At C (.todo (.inLoop b :: k)) tm' m') → At C (.todo (.code b :: .inLoop b :: k)) (car a ++ pickT ks tm) ⟨fun _ => True, fun W => F a W ∧ m.G W, rs a⟩) :
    At C (.todo (.code (.loop b) :: k)) tm m := by
  have key : ∀ n a, μ a = n → ∀ tm' m', (∀ W, m'.G W → F a W ∧ m.G W) → Sub (car a ++ pickT ks tm) tm' → keepB m'.rs (rs a) → At C (.todo (.code b :: .inLoop b :: k)) tm' m' := by
    intro n
    induction n using Nat.strongRecOn with
    | _ n ih =>
      intro a hn tm' m' hG hs hk a1 w cs hR hJ
      obtain ⟨I, Fo, hi⟩ := hJ
      have hG0 := hG w (hi.know w (Ext.refl _ _))
      have hJ : J C m' w := ⟨I, Fo, hi⟩
      have hr := round a w hG0.1 hG0.2 (fun a' tm2 m2 hlt hG2 h2 => fun a2 w2 cs2 hR2 hJ2 => Good.of (ih (μ a') (hn ▸ hlt) a' rfl tm2 m2 hG2 (Sub.of h2.1) h2.2 a2 w2 cs2 hR2 hJ2) (.one step_inLoop))
      exact hr a1 w cs (hR.sub hs) (hJ.weaken (fun _ _ => trivial) hG (keepB_mem hk))
  exact fun a w cs hR hJ => Good.of (key (μ a0) a0 rfl tm m (fun W h => ⟨hF0 W h, h⟩) (Sub.app (Sub.of h0) (fun t x hx => ⟨x, pickT_sub _ _ t x hx, rfl⟩)) hr0 a w cs hR hJ) (.one step_loop)
theorem tagA (t : Nat) {x : SV} (y : SV) (hx : find t tm = some x) (hv : x.val = y.val) (h : At C p ((t, y) :: tm) m) : At C p tm m :=
  fun a w cs hR hJ => h a w cs (hR.same hx hv) hJ
/-- Where a row of one's own stands, be it empty. -/
theorem rowWhere (k : Nat) {a : Option Addr} {n c : Nat} {e : TypeId} {sz : Nat} {cs : List CV} (hl : look k m.rs = some (.row a n c e sz cs)) (h : (a = none ∧ n = 0 ∧ c = 0 ∨ ∃ g, a = some ⟨g, 0, none⟩) → At C p tm m) : At C p tm m := by
  rintro act w cs0 hR ⟨I, F, hJ⟩
  have h1 := (hJ.own _ (look_mem hl)).2
  refine h ?_ act w cs0 hR ⟨I, F, hJ⟩
  rcases h1.2 with ⟨h2, h3⟩ | ⟨g, cap, cur, h2, _⟩
  · exact .inl (by simpa using h2)
  · exact .inr ⟨g, by simpa using congrArg (fun v => match v with | Value.slice a _ _ => a | _ => none) h2⟩
end
end Go.Proofs.YtbbaoeidobdblaaGreat.Sx

/- The closures of state, slices.IndexFunc of inodes. -/
set_option linter.unusedVariables false
set_option linter.unusedSimpArgs false
namespace Go.Proofs.YtbbaoeidobdblaaGreat.Sx
open Go
attribute [local simp ↓] ifb_true' ifb_false'
attribute [local simp] ifb_true ifb_false ifb_eq sx argsT find ev evOp evs evo evBin evInt evStr evNil evNilA ptrA slcA isNoneA asB evLoad look del cellsB evUn evConv kdec fld evFieldA evField evIdxA evIdx evSlc bndL bndH evLen mmi put resV guardV gvL setO tupV cellsOf ones one upd lits nv exitTo SV.val CV.val TI.agg rdyA allR keepB scan simpO gsp isS subs keepT pickT wr memN pubs Res.fact Region.binds bld rest give delL back Res.eqv vi vb num Sv.val undef
theorem putSame0 (w : World) (I : Nat → Prop) (hI : ∀ b, I b → b < w.heap.size) (y : Ino) (e r : Sl) (g : Nat) (x : Int) (h : ∀ W, Ext I w W → W.cell? ⟨g, 0, none⟩ = some (.int .i64 x)) :
    Fn0 Tryz.prog 153 #[.agg (inoC y e r).toArray, .pointer (some ⟨g, 0, none⟩)] w I (fun b : Bool => .bool b) (fun b W => b = decide (y.no = x)) := by
  refine enter (svs := [.ag ((inoC y e r).map .v), .c (.v (.pointer (some ⟨g, 0, none⟩)))]) tysOk Tryz.func153 rfl Tryz.ntmps153 Tryz.results153 (by kernel_rfl) (by simp) hI (fun W => W.cell? ⟨g, 0, none⟩ = some (.int .i64 x)) h fun C hC hN ok => ?_
  simp [hN]
  intro g2
  refine load1 ok rfl rfl rfl rfl (fun v W => v = .int .i64 x) (fun W hW => ⟨_, hW, rfl⟩) ?_
  rintro v W rfl _
  simp [hN]
  exact ret0 hC _ rfl fun W _ _ => rfl
theorem putMore0 (w : World) (I : Nat → Prop) (hI : ∀ b, I b → b < w.heap.size) (y : Ino) (e r : Sl) (g : Nat) (x : Int) (h : ∀ W, Ext I w W → W.cell? ⟨g, 0, none⟩ = some (.int .i64 x)) :
    Fn0 Tryz.prog 154 #[.agg (inoC y e r).toArray, .pointer (some ⟨g, 0, none⟩)] w I (fun b : Bool => .bool b) (fun b W => b = decide (x < y.no)) := by
  refine enter (svs := [.ag ((inoC y e r).map .v), .c (.v (.pointer (some ⟨g, 0, none⟩)))]) tysOk Tryz.func154 rfl Tryz.ntmps154 Tryz.results154 (by kernel_rfl) (by simp) hI (fun W => W.cell? ⟨g, 0, none⟩ = some (.int .i64 x)) h fun C hC hN ok => ?_
  simp [hN]
  intro g2
  refine load1 ok rfl rfl rfl rfl (fun v W => v = .int .i64 x) (fun W hW => ⟨_, hW, rfl⟩) ?_
  rintro v W rfl _
  simp [hN]
  exact ret0 hC _ rfl fun W _ _ => rfl
theorem dropSame0 (w : World) (I : Nat → Prop) (hI : ∀ b, I b → b < w.heap.size) (y : Ino) (e r : Sl) (g : Nat) (x : Int) (h : ∀ W, Ext I w W → W.cell? ⟨g, 1, none⟩ = some (.int .i64 x)) :
    Fn0 Tryz.prog 111 #[.agg (inoC y e r).toArray, .pointer (some ⟨g, 0, none⟩)] w I (fun b : Bool => .bool b) (fun b W => b = decide (y.no = x)) := by
  refine enter (svs := [.ag ((inoC y e r).map .v), .c (.v (.pointer (some ⟨g, 0, none⟩)))]) tysOk Tryz.func111 rfl Tryz.ntmps111 Tryz.results111 (by kernel_rfl) (by simp) hI (fun W => W.cell? ⟨g, 1, none⟩ = some (.int .i64 x)) h fun C hC hN ok => ?_
  simp [hN]
  intro g2
  refine load1 ok rfl rfl rfl rfl (fun v W => v = .int .i64 x) (fun W hW => ⟨_, by simpa using hW, rfl⟩) ?_
  rintro v W rfl _
  simp [hN]
  exact ret0 hC _ rfl fun W _ _ => rfl
theorem badMore0 (w : World) (I : Nat → Prop) (hI : ∀ b, I b → b < w.heap.size) (y : Int) (g : Nat) (x : Int) (h : ∀ W, Ext I w W → W.cell? ⟨g, 0, none⟩ = some (.int .i64 x)) :
    Fn0 Tryz.prog 158 #[.int .i64 y, .pointer (some ⟨g, 0, none⟩)] w I (fun b : Bool => .bool b) (fun b W => b = decide (x < y)) := by
  refine enter (svs := [.c (.v (.int .i64 y)), .c (.v (.pointer (some ⟨g, 0, none⟩)))]) tysOk Tryz.func158 rfl Tryz.ntmps158 Tryz.results158 (by kernel_rfl) (by simp) hI (fun W => W.cell? ⟨g, 0, none⟩ = some (.int .i64 x)) h fun C hC hN ok => ?_
  simp [hN]
  refine load1 ok rfl rfl rfl rfl (fun v W => v = .int .i64 x) (fun W hW => ⟨_, hW, rfl⟩) ?_
  rintro v W rfl _
  simp [hN]
  exact ret0 hC _ rfl fun W _ _ => rfl
/-- The number of the first that is so; -1: none is. -/
def idxF {α : Type} (p : α → Bool) : List α → Nat → Int
  | [], _ => -1
  | x :: r, i => if p x then (i : Int) else idxF p r (i + 1)
theorem idxF_at {α : Type} (p : α → Bool) : ∀ (l : List α) (j i : Nat) (hi : i < l.length), (∀ y, y ∈ l.take i → p y = false) → p l[i] = true → idxF p l j = (j + i : Nat)
  | [], _, i, hi, _, _ => by simp at hi
  | x :: r, j, 0, _, _, h => by simp at h; simp [idxF, h]
  | x :: r, j, i + 1, hi, h1, h2 => by
    have := h1 x (by simp)
    rw [idxF, if_neg (by simp [this]), idxF_at p r (j + 1) i (by simpa using hi) (fun z hz => h1 z (by simp [hz])) (by simpa using h2)]
    congr 1
    omega
theorem idxF_none {α : Type} (p : α → Bool) : ∀ (l : List α) (j : Nat), (∀ y, y ∈ l → p y = false) → idxF p l j = -1
  | [], _, _ => rfl
  | x :: r, j, h => by
    have := h x (by simp)
    rw [idxF, if_neg (by simp [this]), idxF_none p r (j + 1) fun z hz => h z (by simp [hz])]
theorem inosC_drop : ∀ (l : List Ix) (i : Nat), (inosC l).drop (i * 7) = inosC (l.drop i)
  | [], i => by simp [inosC]
  | x :: r, 0 => by simp
  | x :: r, i + 1 => by
    rw [Nat.succ_mul, Nat.add_comm, ← List.drop_drop]
    have : (inosC (x :: r)).drop 7 = inosC r := by simp [inosC]
    rw [this, inosC_drop r i]
    rfl
theorem inosC_take : ∀ (l : List Ix) (i : Nat), (inosC l).take (i * 7) = inosC (l.take i)
  | [], i => by simp [inosC]
  | x :: r, 0 => by simp [inosC]
  | x :: r, i + 1 => by
    have : inosC (x :: r) = (inoC x.1 x.2.1 x.2.2).map .v ++ inosC r := by simp [inosC]
    rw [this, Nat.succ_mul, Nat.add_comm, List.take_append]
    have h2 : ((inoC x.1 x.2.1 x.2.2).map CV.v).length = 7 := by simp
    rw [h2, List.take_of_length_le (by omega), show 7 + i * 7 - 7 = i * 7 by omega, inosC_take r i]
    simp [inosC]
theorem inosC_at (l : List Ix) {i : Nat} (hi : i < l.length) : ((inosC l).drop (i * 7)).take 7 = (inoC l[i].1 l[i].2.1 l[i].2.2).map .v := by
  have h : ∀ (x : Ix) (r : List Ix), (inosC (x :: r)).take 7 = (inoC x.1 x.2.1 x.2.2).map .v := fun x r => by simp [inosC]
  rw [inosC_drop, List.drop_eq_getElem_cons hi, h]
set_option maxHeartbeats 1000000 in
theorem indexI0 (w : World) (I S : Nat → Prop) (hI : ∀ b, I b → b < w.heap.size) (q : Inos) (f : FuncId) (cap : Value) (p : Ino → Bool) (K : World → Prop) (hK : ∀ W, Ext I w W → K W)
    (Hf : ∀ w I (y : Ino) (e r : Sl), (∀ b, I b → b < w.heap.size) → (∀ W, Ext I w W → K W) → Fn0 Tryz.prog f #[.agg (inoC y e r).toArray, cap] w I (fun b : Bool => .bool b) (fun b W => b = p y)) (hl : q.2.2.length ≤ 2000000000)
    (hS : Owns [Inos.res q] S w) (hSI : ∀ b, S b → b < w.heap.size ∧ ¬ I b) :
    FnS Tryz.prog 152 #[Inos.val q, .func (.func f) #[] #[cap]] w I S (fun z : Int => .int .i64 z) (fun _ => [Inos.res q]) (fun z W => z = idxF p (q.2.2.map Prod.fst) 0) := by
  obtain ⟨a, c, l⟩ := q
  refine enterS (svs := [.c (.rw 1000 a l.length c), .c (.v (.func (.func f) #[] #[cap]))]) tysOk Tryz.func152 rfl Tryz.ntmps152 Tryz.results152 (by kernel_rfl) (by simp) hI [Inos.res (a, c, l)] hS hSI K hK fun C hC hN ok => ?_
  simp [hN]
  refine loopKA [0, 1, 7] ok (fun i : Nat => [(8, .c (.v (.int .i64 i)))]) (fun _ => [(1000, Inos.res (a, c, l))]) (fun i W => i ≤ l.length ∧ ∀ y, y ∈ (l.map Prod.fst).take i → p y = false) (fun i => l.length - i) 0 ?_ ?_ (fun W hW => ⟨Nat.zero_le _, by simp⟩) ?_
  · simp
  · simp
  rintro i W ⟨hi, hne⟩ hG next
  rcases Nat.lt_or_ge i l.length with hlt | hge
  · have e6 : IntKind.i64.wrap ((i : Int) + 1) = (i + 1 : Nat) := by rw [w64 (by omega) (by have : l.length ≤ 2000000000 := hl; omega)]; omega
    have hat := inosC_at l hlt
    have hlm : i < (l.map Prod.fst).length := by rw [List.length_map]; exact hlt
    have ft : (l.map Prod.fst).take (i + 1) = (l.map Prod.fst).take i ++ [l[i].1] := by rw [List.take_add_one, List.getElem?_eq_getElem hlm]; simp
    have hil := inosC_length l
    have hgo := idxF_at p (l.map Prod.fst) 0 i hlm hne
    simp only [List.getElem_map, Nat.zero_add] at hgo
    generalize l[i] = d at hat ft hgo
    obtain ⟨y, ⟨ea, ec⟩, ⟨ra, rc⟩⟩ := d
    refine rowSome 1000 rfl (by exact (show 0 < l.length by omega)) fun g e => ?_
    subst e
    have hf2 : i * 7 + 7 ≤ l.length * 7 := by omega
    refine goon ok ?_
    simp [hN, hat, hil, hf2, hlt]
    refine callF ok rfl rfl rfl (V := #[.agg (inoC y (ea, ec) (ra, rc)).toArray, cap]) (by simp) (fun w I hI hG => Hf w I y (ea, ec) (ra, rc) hI fun W e => (hG W e).2) fun b W hb => ?_
    subst hb
    simp [hN, e6]
    refine ⟨fun h => retS hC (i : Nat) [1000] rfl (by simp) fun W _ _ => (hgo h).symm, fun h => next (i + 1) _ _ (by omega) (fun W h2 => ⟨⟨hlt, fun z hz => ?_⟩, h2.2⟩) (by simp)⟩
    rw [ft] at hz
    rcases List.mem_append.1 hz with hz | hz
    · exact hne z hz
    · rw [List.mem_singleton.1 hz]
      exact h
  · refine goon ok ?_
    simp [hN, Nat.not_lt.2 hge]
    refine retS hC (-1) [1000] rfl (by simp) fun W _ _ => ?_
    rw [idxF_none]
    rwa [List.take_of_length_le (by simpa using hge)] at hne
end Go.Proofs.YtbbaoeidobdblaaGreat.Sx

/- slices.Insert. -/
set_option linter.unusedVariables false
set_option linter.unusedSimpArgs false
namespace Go.Proofs.YtbbaoeidobdblaaGreat.Sx
open Go
attribute [local simp ↓] ifb_true' ifb_false'
attribute [local simp] ifb_true ifb_false ifb_eq sx argsT find ev evOp evs evo evBin evInt evStr evNil evNilA ptrA slcA isNoneA asB evLoad look del cellsB evUn evConv kdec fld evFieldA evField evIdxA evIdx evSlc bndL bndH evLen mmi put resV guardV gvL setO tupV cellsOf ones one upd lits nv exitTo SV.val CV.val TI.agg rdyA allR keepB scan simpO gsp isS subs keepT pickT wr memN pubs Res.fact Region.binds bld rest give delL back Res.eqv vi vb num Sv.val undef
theorem lay_app (A B src : List CV) (n : Nat) (hn : n = A.length) : lay (A ++ B) n src = A ++ src ++ B.drop src.length := by
  subst hn
  simp [lay, List.take_left, List.drop_append]
theorem ins_grow (cs x zs : List CV) (i n s : Nat) (hc : cs.length = n * s) (hx : x.length = s) (hz : zs.length = (n + 1 - i) * s) (hi : i ≤ n) : lay (lay (cs.take (i * s) ++ zs) (i * s) x) ((i + 1) * s) (cs.drop (i * s)) = cs.take (i * s) ++ x ++ cs.drop (i * s) := by
  have h0 : i * s ≤ n * s := Nat.mul_le_mul_right _ hi
  have h1 : (cs.take (i * s)).length = i * s := by simp; omega
  have h2 : (n + 1 - i) * s = n * s + s - i * s := by rw [Nat.sub_mul, Nat.succ_mul]
  rw [lay_app _ _ _ _ h1.symm, lay_app _ _ _ _ (by rw [List.length_append, h1, hx, Nat.succ_mul])]
  have h3 : (zs.drop x.length).drop (cs.drop (i * s)).length = [] := by
    rw [List.drop_drop]
    exact List.drop_eq_nil_of_le (by simp; omega)
  rw [h3, List.append_nil]
theorem ins_place (cs x junk : List CV) (i n s : Nat) (hc : cs.length = n * s) (hx : x.length = s) (hz : junk.length = s) (hi : i < n) : lay (lay (cs ++ junk) ((i + 1) * s) (cs.drop (i * s))) (i * s) x = cs.take (i * s) ++ x ++ cs.drop (i * s) := by
  have h0 : (i + 1) * s ≤ n * s := Nat.mul_le_mul_right _ hi
  have h1 : (i + 1) * s = i * s + s := Nat.succ_mul _ _
  have e1 : cs ++ junk = cs.take ((i + 1) * s) ++ (cs.drop ((i + 1) * s) ++ junk) := by rw [← List.append_assoc, List.take_append_drop]
  have l1 : (cs.take ((i + 1) * s)).length = (i + 1) * s := by simp; omega
  have h3 : (cs.drop ((i + 1) * s) ++ junk).drop (cs.drop (i * s)).length = [] := List.drop_eq_nil_of_le (by simp; omega)
  rw [e1, lay_app _ _ _ _ l1.symm, h3, List.append_nil]
  have e2 : cs.take ((i + 1) * s) = cs.take (i * s) ++ (cs.drop (i * s)).take s := by rw [h1, List.take_add]
  have l2 : (cs.take (i * s)).length = i * s := by simp; omega
  rw [e2, List.append_assoc, lay_app _ _ _ _ l2.symm]
  have h4 : ((cs.drop (i * s)).take s ++ cs.drop (i * s)).drop x.length = cs.drop (i * s) := by
    have l3 : ((cs.drop (i * s)).take s).length = x.length := by simp; omega
    rw [← l3, List.drop_left]
  rw [h4]
theorem ones_drop : ∀ {l : List CV}, ones l → ∀ n, ones (l.drop n)
  | [], _, n => by simp [ones]
  | x :: r, h, 0 => by simpa using h
  | x :: r, h, n + 1 => by simpa using ones_drop h.2 n
set_option maxHeartbeats 1000000 in
theorem insertI0 (w : World) (I S : Nat → Prop) (hI : ∀ b, I b → b < w.heap.size) {a : Option Addr} {n c : Nat} (i : Nat) (cs x : List CV) (gv : Nat) (hcs : cs.length = n * 7) (hx : x.length = 7) (h1 : ones cs) (h2 : ones x) (hi : i ≤ n) (hn : n ≤ 1000000000)
    (hS : Owns [.row a n c 44 7 cs, .row (some ⟨gv, 0, none⟩) 1 1 44 7 x] S w) (hSI : ∀ b, S b → b < w.heap.size ∧ ¬ I b) :
    FnS Tryz.prog 155 #[.slice a n c, .int .i64 (i : Nat), .slice (some ⟨gv, 0, none⟩) 1 1] w I S (fun r : Option Addr × Nat => .slice r.1 (n + 1) r.2) (fun r => [.row r.1 (n + 1) r.2 44 7 (cs.take (i * 7) ++ x ++ cs.drop (i * 7))]) (fun _ _ => True) := by
  have hnc : n ≤ c := by
    obtain ⟨F, hF, _⟩ := hS
    exact owns_le (hF 0 _ rfl).2
  refine enterS (svs := [.c (.rw 1000 a n c), .c (.v (.int .i64 (i : Nat))), .c (.rw 1001 (some ⟨gv, 0, none⟩) 1 1)]) tysOk Tryz.func155 rfl Tryz.ntmps155 Tryz.results155 (by kernel_rfl) (by simp) hI [.row a n c 44 7 cs, .row (some ⟨gv, 0, none⟩) 1 1 44 7 x] hS hSI (fun _ => True) (fun _ _ => trivial) fun C hC hN ok => ?_
  have w1 : IntKind.i64.wrap ((n : Int) + 1) = (n + 1 : Nat) := by rw [w64 (by omega) (by omega)]; omega
  have w2 : IntKind.i64.wrap ((i : Int) + 1) = (i + 1 : Nat) := by rw [w64 (by omega) (by omega)]; omega
  obtain ⟨z, hz⟩ : ∃ z : Nat, i + z = n + 1 := ⟨n + 1 - i, by omega⟩
  have w3 : IntKind.i64.wrap ((n : Int) + 1 - i) = (z : Nat) := by rw [w64 (by omega) (by omega)]; omega
  simp [hN, hi, hnc, w1, w2, w3]
  refine ⟨fun hin => ?_, fun hin => ?_⟩
  · have hin' : i = n := by omega
    subst hin'
    refine appR ok 1000 1001 rfl rfl rfl rfl rfl (by decide) rfl rfl rfl rfl rfl rfl rfl (by decide) h2 (by show (_ + 1) * 96 ≤ _; omega) (by omega) fun g' c' => ?_
    simp [hN]
    refine retS hC (some ⟨g', 0, none⟩, c') [1000] rfl ?_ fun W _ _ => trivial
    simp [← hcs]
  · have hlt : i < n := by omega
    refine ⟨fun hful => ⟨by omega, ?_⟩, fun hroom => ?_⟩
    · refine rowSome 1000 rfl (by omega) fun g e => ?_
      subst e
      refine nilr 600 44 7 (appZp ok 1000 600 rfl rfl rfl rfl rfl (by decide) rfl rfl rfl rfl rfl rfl rfl rfl rfl hi (show 0 < z by omega) (by omega) (by show (i + z) * 96 ≤ _; omega) (by omega) (by decide) fun g' c' zs hzs hc' => ?_)
      have hci : ¬ c' = i := by omega
      have hci2 : ¬ c' = i + 1 := by omega
      have hci3 : ¬ c = i := by omega
      simp only [hz] at hc' ⊢
      have hzs' : zs.length = (n + 1 - i) * 7 := by rw [hzs]; show z * 7 = _; congr 1; omega
      have hm1 : Nat.min 1 (n + 1 - i) = 1 := Nat.min_eq_left (by omega)
      have hm2 : Nat.min (n - i) (n - i) = n - i := Nat.min_self _
      have htx : x.take 7 = x := List.take_of_length_le (by omega)
      have htd : (cs.drop (i * 7)).take ((n - i) * 7) = cs.drop (i * 7) := List.take_of_length_le (by simp; omega)
      have hil : i ≤ n + 1 := by omega
      have hil1 : i + 1 ≤ n + 1 := by omega
      have hfin := ins_grow cs x zs i n 7 hcs hx hzs' hi
      have hod : ones (cs.drop (i * 7)) := ones_drop h1 _
      simp [hN, hci, w2, hci2, hci3, hil, hc']
      and_intros
      all_goals try omega
      refine copyR ok 600 1001 rfl rfl rfl rfl rfl rfl rfl rfl rfl rfl (by show i * 7 + Nat.min 1 (n + 1 - i) * 7 ≤ (n + 1) * 7; rw [hm1]; omega) (by show 0 + Nat.min 1 (n + 1 - i) * 7 ≤ 1 * 7; rw [hm1]; omega) (by show ones ((x.drop 0).take (Nat.min 1 (n + 1 - i) * 7)); rw [hm1, List.drop_zero, htx]; exact h2) ?_
      simp [hN, w2, hci2, hci3, hm1, htx, hci]
      refine drawW ok mixed (by kernel_rfl) ?_
      simp (maxSteps := 2000000) -implicitDefEqProofs [hN, w2, hci2, hci3, hci]
      and_intros
      all_goals try omega
      refine copyR ok 600 1000 rfl rfl rfl rfl rfl rfl rfl rfl rfl rfl (by show (i + 1) * 7 + Nat.min (n - i) (n - i) * 7 ≤ (n + 1) * 7; rw [hm2]; omega) (by show i * 7 + Nat.min (n - i) (n - i) * 7 ≤ n * 7; rw [hm2]; omega) (by show ones ((cs.drop (i * 7)).take (Nat.min (n - i) (n - i) * 7)); rw [hm2, htd]; exact hod) ?_
      simp (maxSteps := 2000000) -implicitDefEqProofs [hN, hm2, htd]
      exact retS hC (some ⟨g', 0, none⟩, c') [600] rfl (by simp [hfin]) fun W _ _ => trivial
    · have hci : ¬ c = i := by omega
      have hci2 : ¬ c = i + 1 := by omega
      simp only [hci2, if_false]
      and_intros
      all_goals try omega
      refine rowSome 1000 rfl (by omega) fun g e => ?_
      subst e
      refine extend 1000 (n + 1) rfl (by omega) (by omega) fun junk hj => ?_
      simp only [addrP_some, Nat.zero_add]
      have hov : ovB Tryz.prog 189 36 4 := ⟨_, Tryz.func189, by kernel_rfl, by kernel_rfl, by kernel_rfl, by kernel_rfl⟩
      refine ovl ok 1001 1000 rfl rfl hov rfl rfl rfl rfl rfl (by decide) rfl rfl rfl rfl (by exact (show 0 < c by omega)) (by decide) ?_
      simp [hN]
      have hjl : (junk.map CV.v).length = 7 := by rw [List.length_map, hj]; show (n + 1 - n) * 7 = 7; rw [show n + 1 - n = 1 by omega]
      have hm1 : Nat.min 1 (n + 1 - i) = 1 := Nat.min_eq_left (by omega)
      have hm3 : Nat.min (n + 1 - i) (n - i) = n - i := Nat.min_eq_right (by omega)
      have htx : x.take 7 = x := List.take_of_length_le (by omega)
      have hdl : (cs.drop (i * 7)).length = (n - i) * 7 := by simp; omega
      have htj : ((cs ++ junk.map CV.v).drop (i * 7)).take ((n - i) * 7) = cs.drop (i * 7) := by
        rw [List.drop_append, show i * 7 - cs.length = 0 by omega, List.drop_zero, ← hdl, List.take_left]
      have hod : ones (cs.drop (i * 7)) := ones_drop h1 _
      have hfin := ins_place cs x (junk.map CV.v) i n 7 hcs hx hjl hlt
      refine drawW ok mixed (by kernel_rfl) ?_
      generalize junk.map CV.v = J at *
      simp (maxSteps := 2000000) -implicitDefEqProofs [hN, w2, hci, hci2, hlt, hm1, hm3, htx, htj]
      and_intros
      all_goals try omega
      refine copyR ok 1000 1000 rfl rfl rfl rfl rfl rfl rfl rfl rfl rfl (by show (i + 1) * 7 + Nat.min (n + 1 - i) (n - i) * 7 ≤ (n + 1) * 7; rw [hm3]; omega) (by show i * 7 + Nat.min (n + 1 - i) (n - i) * 7 ≤ (n + 1) * 7; rw [hm3]; omega) (by show ones (((cs ++ J).drop (i * 7)).take (Nat.min (n + 1 - i) (n - i) * 7)); rw [hm3, htj]; exact hod) ?_
      simp (maxSteps := 2000000) -implicitDefEqProofs [hN, w2, hci, hci2, hlt, hm1, hm3, htx, htj]
      and_intros
      all_goals try omega
      refine copyR ok 1000 1001 rfl rfl rfl rfl rfl rfl rfl rfl rfl rfl (by show i * 7 + Nat.min 1 (n + 1 - i) * 7 ≤ (n + 1) * 7; rw [hm1]; omega) (by show 0 + Nat.min 1 (n + 1 - i) * 7 ≤ 1 * 7; rw [hm1]; omega) (by show ones ((x.drop 0).take (Nat.min 1 (n + 1 - i) * 7)); rw [hm1, List.drop_zero, htx]; exact h2) ?_
      simp (maxSteps := 2000000) -implicitDefEqProofs [hN, w2, hci, hci2, hlt, hm1, hm3, htx, htj]
      exact retS hC (some ⟨g, 0, none⟩, c) [1000] rfl (by simp [hfin]) fun W _ _ => trivial
end Go.Proofs.YtbbaoeidobdblaaGreat.Sx

/- slices.DeleteFunc of inodes. -/
set_option linter.unusedVariables false
set_option linter.unusedSimpArgs false
namespace Go.Proofs.YtbbaoeidobdblaaGreat.Sx
open Go
attribute [local simp ↓] ifb_true' ifb_false'
attribute [local simp] ifb_true ifb_false ifb_eq sx argsT find ev evOp evs evo evBin evInt evStr evNil evNilA ptrA slcA isNoneA asB evLoad look del cellsB evUn evConv kdec fld evFieldA evField evIdxA evIdx evSlc bndL bndH evLen mmi put resV guardV gvL setO tupV cellsOf ones one upd lits nv exitTo SV.val CV.val TI.agg rdyA allR keepB scan simpO gsp isS subs keepT pickT wr memN pubs Res.fact Region.binds bld rest give delL back Res.eqv vi vb num Sv.val undef
theorem idx_cases {α : Type} (p : α → Bool) : ∀ (l : List α) (j : Nat), (idxF p l j = -1 ∧ ∀ y, y ∈ l → p y = false) ∨ ∃ (i : Nat) (hi : i < l.length), idxF p l j = (j + i : Nat) ∧ (∀ y, y ∈ l.take i → p y = false) ∧ p l[i] = true
  | [], j => .inl ⟨rfl, fun y hy => by cases hy⟩
  | x :: r, j => by
    cases hx : p x with
    | true => exact .inr ⟨0, by simp, by simp [idxF, hx], by simp, by simpa using hx⟩
    | false =>
      rcases idx_cases p r (j + 1) with ⟨h1, h2⟩ | ⟨i, hi, h1, h2, h3⟩
      · refine .inl ⟨by rw [idxF, if_neg (by simp [hx])]; exact h1, fun y hy => ?_⟩
        rcases List.mem_cons.1 hy with rfl | hy
        · exact hx
        · exact h2 y hy
      · refine .inr ⟨i + 1, by simpa using hi, by rw [idxF, if_neg (by simp [hx]), h1]; congr 1; omega, fun y hy => ?_, by simpa using h3⟩
        rw [List.take_succ_cons] at hy
        rcases List.mem_cons.1 hy with rfl | hy
        · exact hx
        · exact h2 y hy
theorem inosC_upd : ∀ (l : List Ix) (i : Nat) (y : Ix), i < l.length → upd (inosC l) (i * 7) ((inoC y.1 y.2.1 y.2.2).map .v) = inosC (l.set i y)
  | [], i, y, hi => by simp at hi
  | x :: r, 0, y, _ => by simp [inosC, upd]
  | x :: r, i + 1, y, hi => by
    have h := inosC_upd r i y (by simpa using hi)
    have e : ∀ z : List Ix, inosC (x :: z) = (inoC x.1 x.2.1 x.2.2).map .v ++ inosC z := fun z => by simp [inosC]
    have hu : ∀ (s : List CV) (o : Nat) (A B : List CV), upd (A ++ B) (A.length + o) s = A ++ upd B o s := by
      intro s
      induction s with
      | nil => intros; rfl
      | cons z s ih =>
        intro o A B
        rw [upd, List.set_append_right _ _ (by omega), show A.length + o - A.length = o by omega, Nat.add_assoc, ih, upd]
    rw [List.set_cons_succ, e, e, ← h, show (i + 1) * 7 = ((inoC x.1 x.2.1 x.2.2).map CV.v).length + i * 7 by simp; omega, hu]
def keepX (p : Ino → Bool) (l : List Ix) (j : Nat) : List Ix := (l.take j).filter fun y => !p y.1
set_option maxHeartbeats 2000000 in
theorem delete0 (w : World) (I S : Nat → Prop) (hI : ∀ b, I b → b < w.heap.size) (q : Inos) (f : FuncId) (cap : Value) (p : Ino → Bool) (K : World → Prop) (hK : ∀ W, Ext I w W → K W)
    (Hf : ∀ w I (y : Ino) (e r : Sl), (∀ b, I b → b < w.heap.size) → (∀ W, Ext I w W → K W) → Fn0 Tryz.prog f #[.agg (inoC y e r).toArray, cap] w I (fun b : Bool => .bool b) (fun b W => b = p y)) (hl : q.2.2.length ≤ 2000000000)
    (hS : Owns [Inos.res q] S w) (hSI : ∀ b, S b → b < w.heap.size ∧ ¬ I b) :
    FnS Tryz.prog 110 #[Inos.val q, .func (.func f) #[] #[cap]] w I S Inos.val (fun r => [Inos.res r]) (fun r W => r.2.2 = q.2.2.filter fun y => !p y.1) := by
  obtain ⟨a, c, l⟩ := q
  replace hl : l.length ≤ 2000000000 := hl
  have hnc : l.length ≤ c := by
    obtain ⟨F, hF, _⟩ := hS
    exact owns_le (hF 0 _ rfl).2
  refine enterS (svs := [.c (.rw 1000 a l.length c), .c (.v (.func (.func f) #[] #[cap]))]) tysOk Tryz.func110 rfl Tryz.ntmps110 Tryz.results110 (by kernel_rfl) (by simp) hI [Inos.res (a, c, l)] hS hSI K hK fun C hC hN ok => ?_
  simp [hN]
  refine callS ok rfl rfl rfl [1000] [Inos.res (a, c, l)] (by simp) rfl (fun z : Int => [(1000, Inos.res (a, c, l))]) (fun w I S hI hG hO hS => indexI0 w I S hI (a, c, l) f cap p K (fun W e => hG W e) Hf hl hO hS) (fun r => by simp) (.inr fun x q hq => by simp at hq; rw [hq]; exact Nat.le_refl _) fun z W hz => ?_
  rcases idx_cases p (l.map Prod.fst) 0 with ⟨h1, h2⟩ | ⟨i0, hi0, h1, h2, h3⟩
  · have hf : l.filter (fun y => !p y.1) = l := List.filter_eq_self.2 fun y hy => by simp [h2 y.1 (List.mem_map_of_mem hy)]
    rw [hz, h1]
    simp [hN]
    exact retS hC (a, c, l) [1000] rfl (by simp) fun W _ _ => hf.symm
  · rw [hz, h1]
    rw [List.length_map] at hi0
    rw [List.getElem_map] at h3
    have hne1 : ¬ (((0 + i0 : Nat) : Int) = -1) := by omega
    have e1 : IntKind.i64.wrap (((0 + i0 : Nat) : Int) + 1) = (i0 + 1 : Nat) := by rw [w64 (by omega) (by omega)]; omega
    simp only [Nat.zero_add] at hne1 e1 ⊢
    have hk0 : keepX p l (i0 + 1) = l.take i0 := by
      unfold keepX
      rw [List.take_add_one, List.getElem?_eq_getElem hi0, List.filter_append]
      simp only [Option.toList, List.filter_cons, h3, Bool.not_true, Bool.false_eq_true, if_false, List.filter_nil, List.append_nil]
      exact List.filter_eq_self.2 fun y hy => by
        have := h2 y.1 (by rw [← List.map_take]; exact List.mem_map_of_mem hy)
        simp [this]
    have hk0l : (l.take i0).length = i0 := by simp; omega
    simp [hN, hne1, e1]
    refine loopKA [0, 1] ok (fun j : Nat => [(5, .c (.v (.int .i64 (keepX p l j).length))), (6, .c (.v (.int .i64 j)))]) (fun j => [(1000, .row a l.length c 44 7 (inosC (keepX p l j ++ l.drop (keepX p l j).length)))]) (fun j W => i0 + 1 ≤ j ∧ j ≤ l.length ∧ (keepX p l j).length < j) (fun j => l.length - j) (i0 + 1) ?_ ?_ (fun W hW => ⟨Nat.le_refl _, hi0, by rw [hk0, hk0l]; omega⟩) ?_
    · simp [hk0, hk0l]
    · simp [hk0, hk0l]
    rintro j W ⟨hj0, hj, hkl⟩ hG next
    rcases Nat.lt_or_ge j l.length with hlt | hge
    · have e6 : IntKind.i64.wrap ((j : Int) + 1) = (j + 1 : Nat) := by rw [w64 (by omega) (by omega)]; omega
      have hL : (keepX p l j ++ l.drop (keepX p l j).length).length = l.length := by simp; omega
      have hLj : (keepX p l j ++ l.drop (keepX p l j).length)[j]'(by omega) = l[j] := by
        rw [List.getElem_append_right (by omega), List.getElem_drop]
        congr 1
        omega
      have hat := inosC_at _ (show j < (keepX p l j ++ l.drop (keepX p l j).length).length by omega)
      rw [hLj] at hat
      have hup := inosC_upd (keepX p l j ++ l.drop (keepX p l j).length) (keepX p l j).length l[j] (by omega)
      have hset : (keepX p l j ++ l.drop (keepX p l j).length).set (keepX p l j).length l[j] = keepX p l j ++ [l[j]] ++ l.drop ((keepX p l j).length + 1) := by
        rw [List.set_append_right _ _ (Nat.le_refl _), Nat.sub_self, List.append_assoc]
        congr 1
        rw [List.drop_eq_getElem_cons (show (keepX p l j).length < l.length by omega)]
        rfl
      rw [hset] at hup
      have hil := inosC_length (keepX p l j ++ l.drop (keepX p l j).length)
      rw [hL] at hil
      have hk1 : keepX p l (j + 1) = if p l[j].1 then keepX p l j else keepX p l j ++ [l[j]] := by
        unfold keepX
        rw [List.take_add_one, List.getElem?_eq_getElem hlt, List.filter_append]
        simp only [Option.toList, List.filter_cons, List.filter_nil]
        cases p l[j].1 <;> simp
      generalize hd : l[j] = d at hat hup hk1
      obtain ⟨y, ⟨ea, ec⟩, ⟨ra, rc⟩⟩ := d
      obtain ⟨i, hi⟩ : ∃ i, i = (keepX p l j).length := ⟨_, rfl⟩
      rw [← hi] at hup hkl
      have e7 : IntKind.i64.wrap ((i : Int) + 1) = (i + 1 : Nat) := by rw [w64 (by omega) (by omega)]; omega
      have hcar : ∀ L : List Ix, keepX p l (j + 1) = L → (keepX p l (j + 1)).length = L.length := fun L h => by rw [h]
      rw [← hi] at hil hat
      rw [← hi]
      generalize hR : inosC (keepX p l j ++ l.drop i) = R at hat hup hil ⊢
      refine rowSome 1000 rfl (by exact (show 0 < l.length by omega)) fun g e => ?_
      subst e
      refine goon ok ?_
      simp [hN, hat, hil, hlt]
      refine ⟨by omega, fun g7 => ?_⟩
      refine callF ok rfl rfl rfl (V := #[.agg (inoC y (ea, ec) (ra, rc)).toArray, cap]) (by simp) (fun w I hI hG => Hf w I y (ea, ec) (ra, rc) hI fun W e => (hG W e).2) fun b W hb => ?_
      subst hb
      simp [hN, e6, e7, hil, -upd]
      refine ⟨fun hp => ⟨by omega, by omega, ?_⟩, fun hp => ?_⟩
      · have hk2 : keepX p l (j + 1) = keepX p l j ++ [(y, (ea, ec), (ra, rc))] := by rw [hk1, if_neg (by simp [hp])]
        have hk3 : (keepX p l (j + 1)).length = i + 1 := by rw [hk2, List.length_append, ← hi]; rfl
        refine next (j + 1) _ _ (by omega) (fun W h => ⟨⟨by omega, hlt, by rw [hk3]; omega⟩, h.2⟩) ?_
        have hrow : inosC (keepX p l (j + 1) ++ l.drop (i + 1)) = upd R (i * 7) ((inoC y (ea, ec) (ra, rc)).map .v) := by rw [hk2, hup]
        simp only [hk3, hrow]
        simp [-upd]
      · have hk2 : keepX p l (j + 1) = keepX p l j := by rw [hk1, if_pos hp]
        refine next (j + 1) _ _ (by omega) (fun W h => ⟨⟨by omega, hlt, by rw [hk2, ← hi]; omega⟩, h.2⟩) ?_
        simp only [hk2, ← hi, hR]
        simp
    · have hj' : j = l.length := by omega
      have hkl2 : keepX p l j = l.filter fun y => !p y.1 := by unfold keepX; rw [List.take_of_length_le hge]
      obtain ⟨i, hi⟩ : ∃ i, i = (keepX p l j).length := ⟨_, rfl⟩
      rw [← hi] at hkl ⊢
      have hil := inosC_length (keepX p l j ++ l.drop i)
      have hL : (keepX p l j ++ l.drop i).length = l.length := by simp; omega
      rw [hL] at hil
      have hci : ¬ c = i := by omega
      have hzt : ∀ z : List CV, (lay (inosC (keepX p l j ++ l.drop i)) (i * 7) z).take (i * 7) = inosC (keepX p l j) := fun z => by
        have e1 : (inosC (keepX p l j ++ l.drop i)).take (i * 7) = inosC (keepX p l j) := by rw [inosC_take, hi, List.take_left]
        have e2 : (inosC (keepX p l j)).length = i * 7 := by rw [inosC_length, hi]
        unfold lay
        rw [e1, List.append_assoc, ← e2, List.take_left]
      have hztm : ∀ z : List CV, ((lay (inosC (keepX p l j ++ l.drop i)) (i * 7) z).map CV.val).take (i * 7) = (inosC (keepX p l j)).map CV.val := fun z => by rw [← List.map_take, hzt]
      refine rowSome 1000 rfl (by exact (show 0 < l.length by omega)) fun g e => ?_
      subst e
      refine goon ok ?_
      simp [hN, Nat.not_lt.2 hge, hci]
      and_intros
      all_goals try omega
      refine clearR ok 1000 rfl rfl rfl rfl (by simp [Value.oneCell']) rfl rfl rfl rfl (by omega) (by show i * 7 + (l.length - i) * 7 ≤ l.length * 7; omega) fun z hz => ?_
      simp [hN]
      and_intros
      all_goals try omega
      refine shrinkR 1000 i rfl (by omega) (fun h => by cases h) ?_
      exact retS hC (some ⟨g, 0, none⟩, c, keepX p l j) [1000] (by simp [hi]) (by simp [hztm, ← hi]) fun W _ _ => hkl2
end Go.Proofs.YtbbaoeidobdblaaGreat.Sx

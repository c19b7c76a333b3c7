/- slices.Clone, state.own, state.copied, state.Whole. -/
import Derived.Test.YtfmkpkmhhlakoaaSk5
set_option linter.unusedVariables false
set_option linter.unusedSimpArgs false
namespace Go.Proofs.Ytfmkpkmhhlakoaa.Sx
open Go

attribute [local simp ↓] ifb_true' ifb_false'
attribute [local simp] ifb_true ifb_false ifb_eq sx argsT find ev evOp evs evo evBin evInt evStr evNil evNilA ptrA slcA isNoneA asB evLoad look del cellsB evUn evConv kdec fld evFieldA evField evIdxA evIdx evSlc bndL bndH evLen mmi put resV guardV gvL setO tupV cellsOf ones one upd lits nv exitTo SV.val CV.val TI.agg rdyA allR keepB scan simpO gsp isS subs keepT pickT wr memN pubs Res.fact Region.binds bld rest give delL back Res.eqv vi vb num Sv.val
theorem cloneE (w : World) (I : Nat → Prop) (hI : ∀ b, I b → b < w.heap.size) {a : Option Addr} {n c : Nat} (xs : List _) (h : ∀ W, Ext I w W → Sv.ok dEnt W (a, n, c) xs) :
    Fn0 Try.prog 138 #[.slice a n c] w I Sv.val (fun r W => Sv.ok dEnt W r xs) := by
  have h0 := h w (Ext.refl _ _)
  obtain rfl : n = xs.length := h0.1
  cases a with
  | none =>
    have hx : xs = [] := Classical.byContradiction fun hne => by obtain ⟨b, o, e, _⟩ := h0.2.2.2 hne; cases e
    subst hx
    refine enter (svs := [.c (.v (.slice none 0 c))]) tysOk Try.func138 rfl Try.ntmps138 Try.results138 (by kernel_rfl) (by simp) hI (fun _ => True) (fun _ _ => trivial) fun C hC hN ok => ?_
    simp [hN]
    exact ret0 hC (none, 0, 0) rfl fun W _ _ => ⟨rfl, Nat.le_refl _, by simp, rd_nil _ _ _⟩
  | some ad =>
    refine enter (svs := [.c (.v (.slice (some ad) xs.length c))]) tysOk Try.func138 rfl Try.ntmps138 Try.results138 (by kernel_rfl) (by simp) hI (fun W => Sv.ok dEnt W (some ad, xs.length, c) xs) h fun C hC hN ok => ?_
    simp [hN]
    intro g
    by_cases hx : xs = []
    · subst hx
      refine app0 ok rfl rfl rfl rfl rfl rfl rfl (Nat.le_refl _) rfl rfl ?_
      simp [hN]
      exact ret0 hC (some ⟨g, 0, none⟩, 0, 0) rfl fun W _ _ => ⟨rfl, Nat.le_refl _, by simp, rd_nil _ _ _⟩
    · have h1 : 0 < xs.length := List.length_pos_iff.2 hx
      obtain ⟨b, o, e⟩ := h0.2.2.2.is_some h1
      cases e
      have h2 := h0.2.2.1
      refine appI ok 5 rfl rfl rfl rfl rfl (by decide) rfl rfl rfl rfl rfl rfl h1 (by simp; omega) (by omega) (fun l W => Rows dEnt W xs l) (fun W hW => ?_) fun l g' c' W hq _ => ?_
      · obtain ⟨l, k1, k2, k3⟩ := hW.2.2.2.all_rows
        exact ⟨l, k1.1, k2, k3, k1⟩
      · simp [hN]
        refine ret0 hC (some ⟨g', 0, none⟩, xs.length, c') (by simp) fun W hp hG => ?_
        simp at hp hG
        obtain ⟨k1, k2, k3⟩ := hG.1.rd hp (by decide)
        exact ⟨k1, by simpa using k2, h2, k3⟩
theorem cloneR (w : World) (I : Nat → Prop) (hI : ∀ b, I b → b < w.heap.size) {a : Option Addr} {n c : Nat} (xs : List _) (h : ∀ W, Ext I w W → Sv.ok dRn W (a, n, c) xs) :
    Fn0 Try.prog 139 #[.slice a n c] w I Sv.val (fun r W => Sv.ok dRn W r xs) := by
  have h0 := h w (Ext.refl _ _)
  obtain rfl : n = xs.length := h0.1
  cases a with
  | none =>
    have hx : xs = [] := Classical.byContradiction fun hne => by obtain ⟨b, o, e, _⟩ := h0.2.2.2 hne; cases e
    subst hx
    refine enter (svs := [.c (.v (.slice none 0 c))]) tysOk Try.func139 rfl Try.ntmps139 Try.results139 (by kernel_rfl) (by simp) hI (fun _ => True) (fun _ _ => trivial) fun C hC hN ok => ?_
    simp [hN]
    exact ret0 hC (none, 0, 0) rfl fun W _ _ => ⟨rfl, Nat.le_refl _, by simp, rd_nil _ _ _⟩
  | some ad =>
    refine enter (svs := [.c (.v (.slice (some ad) xs.length c))]) tysOk Try.func139 rfl Try.ntmps139 Try.results139 (by kernel_rfl) (by simp) hI (fun W => Sv.ok dRn W (some ad, xs.length, c) xs) h fun C hC hN ok => ?_
    simp [hN]
    intro g
    by_cases hx : xs = []
    · subst hx
      refine app0 ok rfl rfl rfl rfl rfl rfl rfl (Nat.le_refl _) rfl rfl ?_
      simp [hN]
      exact ret0 hC (some ⟨g, 0, none⟩, 0, 0) rfl fun W _ _ => ⟨rfl, Nat.le_refl _, by simp, rd_nil _ _ _⟩
    · have h1 : 0 < xs.length := List.length_pos_iff.2 hx
      obtain ⟨b, o, e⟩ := h0.2.2.2.is_some h1
      cases e
      have h2 := h0.2.2.1
      refine appI ok 5 rfl rfl rfl rfl rfl (by decide) rfl rfl rfl rfl rfl rfl h1 (by simp; omega) (by omega) (fun l W => Rows dRn W xs l) (fun W hW => ?_) fun l g' c' W hq _ => ?_
      · obtain ⟨l, k1, k2, k3⟩ := hW.2.2.2.all_rows
        exact ⟨l, k1.1, k2, k3, k1⟩
      · simp [hN]
        refine ret0 hC (some ⟨g', 0, none⟩, xs.length, c') (by simp) fun W hp hG => ?_
        simp at hp hG
        obtain ⟨k1, k2, k3⟩ := hG.1.rd hp (by decide)
        exact ⟨k1, by simpa using k2, h2, k3⟩
theorem cloneI (w : World) (I : Nat → Prop) (hI : ∀ b, I b → b < w.heap.size) {a : Option Addr} {n c : Nat} (xs : List _) (h : ∀ W, Ext I w W → Sv.ok dInt W (a, n, c) xs) :
    Fn0 Try.prog 122 #[.slice a n c] w I Sv.val (fun r W => Sv.ok dInt W r xs) := by
  have h0 := h w (Ext.refl _ _)
  obtain rfl : n = xs.length := h0.1
  cases a with
  | none =>
    have hx : xs = [] := Classical.byContradiction fun hne => by obtain ⟨b, o, e, _⟩ := h0.2.2.2 hne; cases e
    subst hx
    refine enter (svs := [.c (.v (.slice none 0 c))]) tysOk Try.func122 rfl Try.ntmps122 Try.results122 (by kernel_rfl) (by simp) hI (fun _ => True) (fun _ _ => trivial) fun C hC hN ok => ?_
    simp [hN]
    exact ret0 hC (none, 0, 0) rfl fun W _ _ => ⟨rfl, Nat.le_refl _, by simp, rd_nil _ _ _⟩
  | some ad =>
    refine enter (svs := [.c (.v (.slice (some ad) xs.length c))]) tysOk Try.func122 rfl Try.ntmps122 Try.results122 (by kernel_rfl) (by simp) hI (fun W => Sv.ok dInt W (some ad, xs.length, c) xs) h fun C hC hN ok => ?_
    simp [hN]
    intro g
    by_cases hx : xs = []
    · subst hx
      refine app0 ok rfl rfl rfl rfl rfl rfl rfl (Nat.le_refl _) rfl rfl ?_
      simp [hN]
      exact ret0 hC (some ⟨g, 0, none⟩, 0, 0) rfl fun W _ _ => ⟨rfl, Nat.le_refl _, by simp, rd_nil _ _ _⟩
    · have h1 : 0 < xs.length := List.length_pos_iff.2 hx
      obtain ⟨b, o, e⟩ := h0.2.2.2.is_some h1
      cases e
      have h2 := h0.2.2.1
      refine appI ok 5 rfl rfl rfl rfl rfl (by decide) rfl rfl rfl rfl rfl rfl h1 (by simp; omega) (by omega) (fun l W => Rows dInt W xs l) (fun W hW => ?_) fun l g' c' W hq _ => ?_
      · obtain ⟨l, k1, k2, k3⟩ := hW.2.2.2.all_rows
        exact ⟨l, k1.1, k2, k3, k1⟩
      · simp [hN]
        refine ret0 hC (some ⟨g', 0, none⟩, xs.length, c') (by simp) fun W hp hG => ?_
        simp at hp hG
        obtain ⟨k1, k2, k3⟩ := hG.1.rd hp (by decide)
        exact ⟨k1, by simpa using k2, h2, k3⟩
/-- An inode's value: what it has, and where its entries and runs stand. -/
abbrev Ix := Ino × Sl × Sl
theorem own0 (w : World) (I : Nat → Prop) (hI : ∀ b, I b → b < w.heap.size) (x : Ino) (e r : Sl) (h : ∀ W, Ext I w W → dIno.K W x (inoC x e r)) :
    Fn0 Try.prog 120 #[.agg (inoC x e r).toArray] w I (fun y : Sl × Sl => .agg (inoC x y.1 y.2).toArray) (fun y W => InoR W x y.1 y.2) := by
  refine enter (svs := [.ag ((inoC x e r).map .v)]) tysOk Try.func120 rfl Try.ntmps120 Try.results120 (by kernel_rfl) (by simp) hI (fun W => InoR W x e r) (fun W e => ino_get (h W e)) fun C hC hN ok => ?_
  obtain ⟨ea, ec⟩ := e
  obtain ⟨ra, rc⟩ := r
  simp [hN]
  intro g1 g2
  refine drawW ok mixed (by kernel_rfl) ?_
  simp -implicitDefEqProofs [hN]
  have e1 : ∀ w I, (∀ b, I b → b < w.heap.size) → (∀ W, Ext I w W → InoR W x (ea, ec) (ra, rc)) → Fn0 Try.prog 138 #[.slice ea x.ents.length ec] w I Sv.val (fun r W => Sv.ok dEnt W r x.ents) := fun w I hI h => cloneE w I hI x.ents fun W e => ⟨rfl, (h W e).1⟩
  have e2 : ∀ w I, (∀ b, I b → b < w.heap.size) → (∀ W, Ext I w W → InoR W x (ea, ec) (ra, rc)) → Fn0 Try.prog 139 #[.slice ra x.runs.length rc] w I Sv.val (fun r W => Sv.ok dRn W r x.runs) := fun w I hI h => cloneR w I hI x.runs fun W e => ⟨rfl, (h W e).2⟩
  and_intros
  all_goals
    refine call0 ok rfl rfl rfl (fun w I hI hG => e1 w I hI hG) fun q W hq => ?_
    obtain ⟨qa, qn, qc⟩ := q
    obtain rfl : qn = x.ents.length := hq.1
    simp -implicitDefEqProofs [hN]
    refine call0 ok rfl rfl rfl (fun w I hI hG => e2 w I hI fun W e => (hG W e).2) fun q W hq => ?_
    obtain ⟨pa, pn, pc⟩ := q
    obtain rfl : pn = x.runs.length := hq.1
    simp -implicitDefEqProofs [hN]
    exact ret0 hC ((qa, qc), (pa, pc)) rfl fun W _ hG => ⟨hG.2.1.2, hG.1.2⟩
end Go.Proofs.Ytfmkpkmhhlakoaa.Sx

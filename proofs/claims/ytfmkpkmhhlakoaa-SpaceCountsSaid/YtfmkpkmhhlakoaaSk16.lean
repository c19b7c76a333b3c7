/- In of numbers. -/
import Derived.Test.YtfmkpkmhhlakoaaSk15
set_option linter.unusedVariables false
set_option linter.unusedSimpArgs false
namespace Go.Proofs.Ytfmkpkmhhlakoaa.Sx
open Go

attribute [local simp ↓] ifb_true' ifb_false'
attribute [local simp] ifb_true ifb_false ifb_eq sx argsT find ev evOp evs evo evBin evInt evStr evNil evNilA ptrA slcA isNoneA asB evLoad look del cellsB evUn evConv kdec fld evFieldA evField evIdxA evIdx evSlc bndL bndH evLen mmi put resV guardV gvL setO tupV cellsOf ones one upd lits nv exitTo SV.val CV.val TI.agg rdyA allR keepB scan simpO gsp isS subs keepT pickT wr memN pubs Res.fact Region.binds bld rest give delL back Res.eqv vi vb num Sv.val undef
theorem int_get {W : World} {a : Option Addr} {n c : Nat} {l : List Int} (h : Sv.ok dInt W (a, n, c) l) {i : Nat} (hi : i < l.length) : ∃ b o, a = some ⟨b, o, none⟩ ∧ W.cell? ⟨b, o + i, none⟩ = some (.int .i64 l[i]) := by
  obtain ⟨b, o, e⟩ := h.2.2.2.is_some (show 0 < l.length by omega)
  cases e
  obtain ⟨cs, hk, _, hc⟩ := h.2.2.2.get hi
  exact ⟨b, o, rfl, by simpa [dInt, flat] using hc 0 (.int .i64 l[i]) (by rw [hk]; rfl)⟩
theorem in0 (w : World) (I : Nat → Prop) (hI : ∀ b, I b → b < w.heap.size) {a : Option Addr} {n c : Nat} (l : List Int) (x : Int) (h : ∀ W, Ext I w W → Sv.ok dInt W (a, n, c) l) :
    Fn0 Try.prog 33 #[.slice a n c, .int .i64 x] w I (fun b : Bool => .bool b) (fun y W => y = decide (x ∈ l)) := by
  obtain rfl : n = l.length := (h w (Ext.refl _ _)).1
  have hx := (h w (Ext.refl _ _)).2.2.1
  refine enter (svs := [.c (.v (.slice a l.length c)), .c (.v (.int .i64 x))]) tysOk Try.func33 rfl Try.ntmps33 Try.results33 (by kernel_rfl) (by simp) hI (fun W => Sv.ok dInt W (a, l.length, c) l) h fun C hC hN ok => ?_
  simp [hN]
  refine loop ok (fun i : Nat => [(5, .c (.v (.int .i64 i)))]) (fun _ => []) (fun i W => i ≤ l.length ∧ x ∉ l.take i) (fun i => l.length - i) 0 ?_ ?_ (fun W hW => ⟨Nat.zero_le _, by simp⟩) ?_
  · simp
  · simp
  rintro i W ⟨hi, hnx⟩ hG next
  rcases Nat.lt_or_ge i l.length with hlt | hge
  · obtain ⟨b, o, e, _⟩ := int_get (show Sv.ok dInt W (a, l.length, c) l from hG) hlt
    cases e
    have e6 : IntKind.i64.wrap ((i : Int) + 1) = (i + 1 : Nat) := by rw [w64 (by omega) (by omega)]; omega
    have ft : l.take (i + 1) = l.take i ++ [l[i]] := by rw [List.take_add_one, List.getElem?_eq_getElem hlt]; rfl
    simp [hN, hlt]
    refine load1 ok rfl rfl rfl rfl (fun v W => v = .int .i64 l[i]) (fun W hW => ?_) ?_
    · obtain ⟨b', o', e, hc⟩ := int_get hW.2 hlt
      cases e
      exact ⟨_, hc, rfl⟩
    rintro v W rfl _
    simp [hN, e6]
    refine ⟨fun he => ret0 hC true rfl fun _ _ _ => ?_, fun he => next (i + 1) _ _ (by omega) (fun W h => ⟨⟨hlt, ?_⟩, h.2⟩) ?_⟩
    · subst he
      simp
    · rw [ft]
      simp only [List.mem_append, List.mem_singleton, not_or]
      exact ⟨hnx, fun e => he e.symm⟩
    · simp
  · simp [hN, Nat.not_lt.2 hge]
    have hT : l.take i = l := List.take_of_length_le hge
    rw [hT] at hnx
    exact ret0 hC false rfl fun _ _ _ => by simp [hnx]
end Go.Proofs.Ytfmkpkmhhlakoaa.Sx

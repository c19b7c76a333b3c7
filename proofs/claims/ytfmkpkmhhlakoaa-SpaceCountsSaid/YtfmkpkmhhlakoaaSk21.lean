/- placesOf of the reference. -/
import Derived.Test.YtfmkpkmhhlakoaaSk20
set_option linter.unusedVariables false
set_option linter.unusedSimpArgs false
namespace Go.Proofs.Ytfmkpkmhhlakoaa.Sx
open Go

attribute [local simp ↓] ifb_true' ifb_false'
attribute [local simp] ifb_true ifb_false ifb_eq sx argsT find ev evOp evs evo evBin evInt evStr evNil evNilA ptrA slcA isNoneA asB evLoad look del cellsB evUn evConv kdec fld evFieldA evField evIdxA evIdx evSlc bndL bndH evLen mmi put resV guardV gvL setO tupV cellsOf ones one upd lits nv exitTo SV.val CV.val TI.agg rdyA allR keepB scan simpO gsp isS subs keepT pickT wr memN pubs Res.fact Region.binds bld rest give delL back Res.eqv vi vb num Sv.val undef
def plOf (l : List Rn) (j : Nat) : Int := (getL l j).getD (-1)
def placesL (l : List Rn) : List Int := (List.range 64).map (plOf l)
def placesN (l : List Rn) (i : Nat) : List Int := (List.range i).map (plOf l) ++ List.replicate (64 - i) 0
theorem placesN_len (l : List Rn) (i : Nat) (hi : i ≤ 64) : (placesN l i).length = 64 := by simp [placesN]; omega
theorem placesN_set (l : List Rn) (i : Nat) (hi : i < 64) : (placesN l i).set i (plOf l i) = placesN l (i + 1) := by
  have h1 : List.replicate (64 - i) (0 : Int) = 0 :: List.replicate (64 - (i + 1)) 0 := by
    rw [show 64 - i = (64 - (i + 1)) + 1 by omega, List.replicate_succ]
  rw [placesN, h1, List.set_append_right _ _ (by simp)]
  simp [placesN, List.range_succ]
theorem placesN_set2 (l : List Rn) (i : Nat) (x : Int) (hi : i < 64) : ((placesN l i).set i x).set i (plOf l i) = placesN l (i + 1) := by
  rw [List.set_set, placesN_set l i hi]
theorem iC_set (l : List Int) (i : Nat) (x : Int) : (iC l).set i (.v (.int .i64 x)) = iC (l.set i x) := by simp [iC, List.map_set]
theorem iC_len (l : List Int) : (iC l).length = l.length := by simp [iC]
abbrev Sv.row (T sz : Nat) (cs : List CV) (s : Sv) : Res := .row s.1 s.2.1 s.2.2 T sz cs
set_option maxHeartbeats 4000000 in
theorem placesOf0 (w : World) (I : Nat → Prop) (hI : ∀ b, I b → b < w.heap.size) {a : Option Addr} {n c : Nat} (l : List Rn) (h : ∀ W, Ext I w W → Sv.ok dRn W (a, n, c) l) (hr : ∀ r, r ∈ l → okR r) :
    FnS Try.prog 66 #[.slice a n c] w I noS (fun g : Nat => .slice (some ⟨g, 0, none⟩) 64 64) (fun g => [.row (some ⟨g, 0, none⟩) 64 64 3 1 (iC (placesL l))]) (fun _ _ => True) := by
  obtain rfl : n = l.length := (h w (Ext.refl _ _)).1
  refine enterS (svs := [.c (.v (.slice a l.length c))]) tysOk Try.func66 rfl Try.ntmps66 Try.results66 (by kernel_rfl) (by simp) hI [] (owns_nil w) (fun b hb => hb.elim) (fun W => Sv.ok dRn W (a, l.length, c) l) h fun C hC hN ok => ?_
  simp [hN]
  refine mksl ok rfl rfl rfl rfl rfl rfl rfl rfl rfl (by decide) (by decide) (by decide) fun g => ?_
  simp [hN]
  refine loop ok (fun i : Nat => [(4, .c (.v (.int .i64 i)))]) (fun i => [(7, .row (some ⟨g, 0, none⟩) 64 64 3 1 (iC (placesN l i)))]) (fun i W => i ≤ 64) (fun i => 64 - i) 0 ?_ ?_ (fun W hW => Nat.zero_le _) ?_
  · simp
  · simp [placesN, iC]
  rintro i W hi hG next
  have hlen := placesN_len l i hi
  rcases Nat.lt_or_ge i 64 with hlt | hge
  · have e6 : IntKind.i64.wrap ((i : Int) + 1) = (i + 1 : Nat) := by rw [w64 (by omega) (by omega)]; omega
    simp [hN, show ((i : Int) < 64) by omega]
    refine call0 ok rfl rfl rfl (fun w I hI hG => getRun0 w I hI l i (fun W e => (hG W e).2) hr (by omega)) fun y W hy => ?_
    have h2 := placesN_set l i hlt
    have h3 := placesN_set2 l i
    rcases hgy : getL l i with _ | v
    · rw [hgy] at hy
      subst hy
      simp only [plOf, hgy, Option.getD_none] at h2 h3
      simp [hN, iC_set, iC_len, hlen, hlt]
      exact ⟨by omega, by omega, by omega, by omega, next (i + 1) _ _ (by omega) (fun W h => ⟨hlt, h.2⟩) (by simp [e6, h2])⟩
    · rw [hgy] at hy
      subst hy
      simp only [plOf, hgy, Option.getD_some] at h2 h3
      simp [hN, iC_set, iC_len, hlen, hlt]
      exact ⟨by omega, by omega, next (i + 1) _ _ (by omega) (fun W h => ⟨hlt, h.2⟩) (by simp [e6, h2])⟩
  · obtain rfl : i = 64 := by omega
    simp [hN]
    refine retS hC g [7] rfl ?_ fun W _ _ => trivial
    simp [placesL, placesN]
end Go.Proofs.Ytfmkpkmhhlakoaa.Sx

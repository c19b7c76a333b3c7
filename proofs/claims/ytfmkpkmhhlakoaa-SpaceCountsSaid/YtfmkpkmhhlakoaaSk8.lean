/- nor.Right, half.Size, frame.Size, cut.Ceil. -/
import Derived.Test.YtfmkpkmhhlakoaaSk7
set_option linter.unusedVariables false
set_option linter.unusedSimpArgs false
namespace Go.Proofs.Ytfmkpkmhhlakoaa.Sx
open Go

attribute [local simp ↓] ifb_true' ifb_false'
attribute [local simp] ifb_true ifb_false ifb_eq sx argsT find ev evOp evs evo evBin evInt evStr evNil evNilA ptrA slcA isNoneA asB evLoad look del cellsB evUn evConv kdec fld evFieldA evField evIdxA evIdx evSlc bndL bndH evLen mmi put resV guardV gvL setO tupV cellsOf ones one upd lits nv exitTo SV.val CV.val TI.agg rdyA allR keepB scan simpO gsp isS subs keepT pickT wr memN pubs Res.fact Region.binds bld rest give delL back Res.eqv vi vb num Sv.val
theorem within0 (w : World) (I : Nat → Prop) (hI : ∀ b, I b → b < w.heap.size) (v l t : Int) :
    Fn0 Try.prog 85 #[.int .i64 v, .int .i64 l, .int .i64 t] w I (fun b : Bool => .bool b) (fun y W => y = decide (l ≤ v ∧ v ≤ t)) := by
  refine enter (svs := [.c (.v (.int .i64 v)), .c (.v (.int .i64 l)), .c (.v (.int .i64 t))]) tysOk Try.func85 rfl Try.ntmps85 Try.results85 (by kernel_rfl) (by simp) hI (fun _ => True) (fun _ _ => trivial) fun C hC hN ok => ?_
  simp [hN]
  exact ⟨fun h => ret0 hC _ rfl fun W _ _ => by simp [h], fun h => ret0 hC _ rfl fun W _ _ => by simp; omega⟩
theorem frameSize0 (w : World) (I : Nat → Prop) (hI : ∀ b, I b → b < w.heap.size) (n : Int) (h0 : -9223372036854775808 ≤ n + 7) (h1 : n + 7 ≤ 9223372036854775807) :
    Fn0 Try.prog 90 #[.int .i64 n] w I (fun v : Int => .int .i64 v) (fun y W => y = n + 7) := by
  refine enter (svs := [.c (.v (.int .i64 n))]) tysOk Try.func90 rfl Try.ntmps90 Try.results90 (by kernel_rfl) (by simp) hI (fun _ => True) (fun _ _ => trivial) fun C hC hN ok => ?_
  simp [hN, w64 h0 h1]
  exact ret0 hC _ rfl fun W _ _ => rfl
/-- A geometry. -/
structure Geo where
  sectors : Int
  sector : Int
  blocks : Int
  pages : Int
  page : Int
deriving DecidableEq
abbrev geoC (g : Geo) : List Value := [.int .i64 g.sectors, .int .i64 g.sector, .int .i64 g.blocks, .int .i64 g.pages, .int .i64 g.page]
def Geo.right (g : Geo) : Prop := g.sectors.tmod 2 = 0 ∧ (2 ≤ g.sectors ∧ g.sectors ≤ 16) ∧ (256 ≤ g.sector ∧ g.sector ≤ 4096) ∧ (4 ≤ g.blocks ∧ g.blocks ≤ 64) ∧ (2 ≤ g.pages ∧ g.pages ≤ 32) ∧ (16 ≤ g.page ∧ g.page ≤ 256)
instance (g : Geo) : Decidable g.right := by unfold Geo.right; infer_instance
theorem norRight0 (w : World) (I : Nat → Prop) (hI : ∀ b, I b → b < w.heap.size) (g : Geo) :
    Fn0 Try.prog 62 #[.agg (geoC g).toArray] w I (fun b : Bool => .bool b) (fun y W => y = decide g.right) := by
  refine enter (svs := [.ag ((geoC g).map .v)]) tysOk Try.func62 rfl Try.ntmps62 Try.results62 (by kernel_rfl) (by simp) hI (fun _ => True) (fun _ _ => trivial) fun C hC hN ok => ?_
  simp [hN]
  intro g1
  refine ⟨fun h0 => ?_, fun h0 => ret0 hC false rfl fun W _ _ => by simp [Geo.right, h0]⟩
  refine call0 ok rfl rfl rfl (fun w I hI hG => within0 w I hI _ _ _) fun y1 W hy1 => ?_
  simp [hN]
  refine ⟨fun h1 => ?_, fun h1 => ret0 hC false rfl fun W _ _ => by rw [hy1] at h1; exact (decide_eq_false fun hr => absurd hr.2.1 (of_decide_eq_false h1)).symm⟩
  refine call0 ok rfl rfl rfl (fun w I hI hG => within0 w I hI _ _ _) fun y2 W hy2 => ?_
  simp [hN]
  refine ⟨fun h2 => ?_, fun h2 => ret0 hC false rfl fun W _ _ => by rw [hy2] at h2; exact (decide_eq_false fun hr => absurd hr.2.2.1 (of_decide_eq_false h2)).symm⟩
  refine call0 ok rfl rfl rfl (fun w I hI hG => within0 w I hI _ _ _) fun y3 W hy3 => ?_
  simp [hN]
  refine ⟨fun h3 => ?_, fun h3 => ret0 hC false rfl fun W _ _ => by rw [hy3] at h3; exact (decide_eq_false fun hr => absurd hr.2.2.2.1 (of_decide_eq_false h3)).symm⟩
  refine call0 ok rfl rfl rfl (fun w I hI hG => within0 w I hI _ _ _) fun y4 W hy4 => ?_
  simp [hN]
  refine ⟨fun h4 => ?_, fun h4 => ret0 hC false rfl fun W _ _ => by rw [hy4] at h4; exact (decide_eq_false fun hr => absurd hr.2.2.2.2.1 (of_decide_eq_false h4)).symm⟩
  refine call0 ok rfl rfl rfl (fun w I hI hG => within0 w I hI _ _ _) fun y5 W hy5 => ?_
  simp [hN]
  refine ret0 hC y5 rfl fun W _ _ => ?_
  rw [hy1] at h1
  rw [hy2] at h2
  rw [hy3] at h3
  rw [hy4] at h4
  rw [hy5]
  simp at h1 h2 h3 h4
  simp [Geo.right, h0, h1, h2, h3, h4]
theorem halfSize0 (w : World) (I : Nat → Prop) (hI : ∀ b, I b → b < w.heap.size) (g : Geo) :
    Fn0 Try.prog 91 #[.agg (geoC g).toArray] w I (fun v : Int => .int .i64 v) (fun y W => y = if g.right then g.sectors / 2 * g.sector else 0) := by
  refine enter (svs := [.ag ((geoC g).map .v)]) tysOk Try.func91 rfl Try.ntmps91 Try.results91 (by kernel_rfl) (by simp) hI (fun _ => True) (fun _ _ => trivial) fun C hC hN ok => ?_
  simp [hN]
  intro g1
  refine call0 ok rfl rfl rfl (fun w I hI hG => norRight0 w I hI g) fun y W hy => ?_
  simp [hN]
  refine ⟨fun h => ?_, fun h => ?_⟩
  · rw [hy] at h
    simp at h
    exact ret0 hC _ rfl fun W _ _ => by rw [if_neg h]
  · rw [hy] at h
    simp at h
    refine ret0 hC _ rfl fun W _ _ => ?_
    rw [if_pos h]
    obtain ⟨h0, h1, h2, _⟩ := h
    have e1 : g.sectors.fdiv (2 ^ min 1 IntKind.i64.bits) = g.sectors / 2 := by
      rw [show (2 : Int) ^ min 1 IntKind.i64.bits = 2 by decide]
      exact Int.fdiv_eq_ediv_of_nonneg _ (by decide)
    rw [e1]
    have h3 : 0 ≤ g.sectors / 2 := by omega
    have h4 : g.sectors / 2 ≤ 8 := by omega
    have h5 : 0 ≤ g.sectors / 2 * g.sector := Int.mul_nonneg h3 (by omega)
    have h6 : g.sectors / 2 * g.sector ≤ 8 * 4096 := Int.mul_le_mul h4 h2.2 (by omega) (by decide)
    exact w64 (by omega) (by omega)
theorem ceil0 (w : World) (I : Nat → Prop) (hI : ∀ b, I b → b < w.heap.size) (n p : Int) (hn : n ≤ 1000000000000) :
    Fn0 Try.prog 74 #[.int .i64 n, .int .i64 p] w I (fun v : Int => .int .i64 v) (fun y W => y = if n ≤ 0 ∨ p ≤ 0 then 0 else (n - 1) / p + 1) := by
  refine enter (svs := [.c (.v (.int .i64 n)), .c (.v (.int .i64 p))]) tysOk Try.func74 rfl Try.ntmps74 Try.results74 (by kernel_rfl) (by simp) hI (fun _ => True) (fun _ _ => trivial) fun C hC hN ok => ?_
  simp [hN]
  refine ⟨fun h1 => ⟨fun h2 => ret0 hC _ rfl fun W _ _ => by rw [if_pos (.inr h2)], fun h2 => ⟨by omega, ret0 hC _ rfl fun W _ _ => ?_⟩⟩, fun h1 => ret0 hC _ rfl fun W _ _ => by rw [if_pos (.inl h1)]⟩
  rw [if_neg (by omega), w64 (x := n - 1) (by omega) (by omega), Int.tdiv_eq_ediv_of_nonneg (by omega)]
  have h3 : 0 ≤ (n - 1) / p := Int.ediv_nonneg (by omega) (by omega)
  have h4 : (n - 1) / p ≤ n - 1 := Int.ediv_le_self _ (by omega)
  rw [w64 (x := (n - 1) / p) (by omega) (by omega), w64 (by omega) (by omega)]
end Go.Proofs.Ytfmkpkmhhlakoaa.Sx

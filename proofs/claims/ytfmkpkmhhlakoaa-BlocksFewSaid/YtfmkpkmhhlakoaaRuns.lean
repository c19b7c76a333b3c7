/- What 'runs.Right' tells of a list of runs, in plain words: each may be, and each stands behind the one ahead of it. -/
import Derived.Test.YtfmkpkmhhlakoaaPBlocksTellx2
set_option linter.unusedVariables false
set_option linter.unusedSimpArgs false
namespace Go.Proofs.Ytfmkpkmhhlakoaa.Rn
open Go.RowKit Go.Proofs.YtfmkpkmhhlakoaaW.PrintWords Go.Proofs.YtfmkpkmhhlakoaaW.PrintLast Go.Proofs.YtfmkpkmhhlakoaaW.PrintMore Go.Proofs.Ytfmkpkmhhlakoaa.PBlocksTell

abbrev Run := S107
abbrev rd (rs : List Run) (i : Nat) : Run := rs.getD i z107
def rok (r : Run) : Prop := 0 ≤ r.f0 ∧ 0 ≤ r.f1 ∧ 1 ≤ r.f2 ∧ r.f2 ≤ 64 ∧ r.f0 ≤ 64 - r.f2 ∧ r.f1 ≤ 2147483648 - r.f2
def rnext (p r : Run) : Prop := p.f0 + p.f2 ≤ r.f0 ∧ ¬ (r.f0 = p.f0 + p.f2 ∧ r.f1 = p.f1 + p.f2)
instance (r : Run) : Decidable (rok r) := by unfold rok; infer_instance
instance (p r : Run) : Decidable (rnext p r) := by unfold rnext; infer_instance
def rightAt (rs : List Run) (i : Nat) : Prop := rok (rd rs i) ∧ (0 < i → rnext (rd rs (i - 1)) (rd rs i))
instance (rs : List Run) (i : Nat) : Decidable (rightAt rs i) := by unfold rightAt; infer_instance
def right (rs : List Run) : Bool := decide (∀ i, i < rs.length → rightAt rs i)

theorem w64 (x : Int) (h0 : -9223372036854775808 ≤ x) (h1 : x ≤ 9223372036854775807) : wrap64 x = x := by
  unfold wrap64
  omega

theorem right_l0 (rs : List Run) (hn : rs.length ≤ 9223372036854775807) : ∀ m i : Nat, i + m = rs.length → (∀ j, j < i → rightAt rs j) →
    runs_Right.l0 (2 * m + 1) rs rs (rs.length : Int) (i : Int) = some (right rs) := by
  intro m
  induction m with
  | zero =>
    intro i hi hp
    rw [show 2 * 0 + 1 = 0 + 1 from rfl, runs_Right.l0, if_neg (by omega)]
    have : right rs = true := by unfold right; simp only [decide_eq_true_eq]; intro j hj; exact hp j (by omega)
    rw [this]
  | succ m ih =>
    intro i hi hp
    have bad : ¬ rightAt rs i → right rs = false := fun h => by
      unfold right
      simp only [decide_eq_false_iff_not]
      exact fun h' => h (h' i (by omega))
    have hstop : ∀ a b c, runs_Right.j1 (2 * m + 2) rs (i : Int) rs (rs.length : Int) (i : Int) true a b c = some false := fun a b c => by
      rw [show 2 * m + 2 = (2 * m + 1) + 1 from rfl, runs_Right.j1, if_pos rfl]
    have hr : rd_T107 rs (i : Int) = rd rs i := by simp [rd_T107]
    rw [show 2 * (m + 1) + 1 = (2 * m + 2) + 1 from by omega, runs_Right.l0, if_pos (by omega), if_pos (by omega), if_pos (by omega), hr, hstop]
    by_cases c0 : (rd rs i).f0 < 0
    · rw [if_pos c0, bad (fun h => by have := h.1; unfold rok at this; omega)]
    rw [if_neg c0]
    by_cases c1 : (rd rs i).f1 < 0
    · rw [if_pos c1, bad (fun h => by have := h.1; unfold rok at this; omega)]
    rw [if_neg c1]
    by_cases c2 : (rd rs i).f2 < 1
    · rw [if_pos c2, bad (fun h => by have := h.1; unfold rok at this; omega)]
    rw [if_neg c2]
    by_cases c3 : (rd rs i).f2 > 64
    · rw [if_pos c3, bad (fun h => by have := h.1; unfold rok at this; omega)]
    rw [if_neg c3, w64 (64 - _) (by omega) (by omega), w64 (2147483648 - _) (by omega) (by omega)]
    by_cases c4 : (rd rs i).f0 > 64 - (rd rs i).f2
    · rw [if_pos c4, bad (fun h => by have := h.1; unfold rok at this; omega)]
    rw [if_neg c4]
    by_cases c5 : (rd rs i).f1 > 2147483648 - (rd rs i).f2
    · rw [decide_eq_true c5, hstop, bad (fun h => by have := h.1; unfold rok at this; omega)]
    rw [decide_eq_false c5, show 2 * m + 2 = (2 * m + 1) + 1 from rfl, runs_Right.j1, if_neg (by decide)]
    have hok : rok (rd rs i) := by unfold rok; omega
    rw [w64 ((i : Int) + 1) (by omega) (by omega), show ((i : Int) + 1) = ((i + 1 : Nat) : Int) from by omega]
    by_cases ci : 0 < i
    · have h1 := (hp (i - 1) (by omega)).1
      have e1 : wrap64 ((i : Int) - 1) = ((i - 1 : Nat) : Int) := by rw [w64 _ (by omega) (by omega)]; omega
      have hr1 : rd_T107 rs ((i - 1 : Nat) : Int) = rd rs (i - 1) := by simp [rd_T107]
      rw [if_pos (by omega), e1, if_pos (by omega), if_pos (by omega), hr1]
      unfold rok at h1
      rw [w64 ((rd rs (i - 1)).f0 + _) (by omega) (by omega)]
      unfold runs_goes.f
      rw [w64 ((rd rs (i - 1)).f0 + _) (by omega) (by omega), w64 ((rd rs (i - 1)).f1 + _) (by omega) (by omega)]
      by_cases d0 : (rd rs i).f0 < (rd rs (i - 1)).f0 + (rd rs (i - 1)).f2
      · rw [if_pos d0, bad (fun h => by have := h.2 ci; unfold rnext at this; omega)]
      rw [if_neg d0]
      by_cases d1 : (rd rs i).f0 = (rd rs (i - 1)).f0 + (rd rs (i - 1)).f2
      · rw [if_pos d1]
        by_cases d2 : (rd rs i).f1 = (rd rs (i - 1)).f1 + (rd rs (i - 1)).f2
        · rw [bad (fun h => by have := h.2 ci; unfold rnext at this; omega)]
          have e2 : ((rd rs i).f1 == (rd rs (i - 1)).f1 + (rd rs (i - 1)).f2) = true := by simpa using d2
          rw [e2]
          rfl
        · have e2 : ((rd rs i).f1 == (rd rs (i - 1)).f1 + (rd rs (i - 1)).f2) = false := by simpa using d2
          rw [e2]
          refine Eq.trans ?_ (ih (i + 1) (by omega) (fun j hj => ?_))
          · simp
          · rcases Nat.lt_or_ge j i with h | h
            · exact hp j h
            · obtain rfl : j = i := by omega
              exact ⟨hok, fun _ => by unfold rnext; omega⟩
      · rw [if_neg d1]
        refine Eq.trans ?_ (ih (i + 1) (by omega) (fun j hj => ?_))
        · simp
        · rcases Nat.lt_or_ge j i with h | h
          · exact hp j h
          · obtain rfl : j = i := by omega
            exact ⟨hok, fun _ => by unfold rnext; omega⟩
    · rw [if_neg (by omega)]
      refine ih (i + 1) (by omega) (fun j hj => ?_)
      rcases Nat.lt_or_ge j i with h | h
      · exact hp j h
      · obtain rfl : j = i := by omega
        exact ⟨hok, fun h => absurd h ci⟩

theorem right_f (rs : List Run) (hn : rs.length ≤ 9223372036854775807) : runs_Right.f (2 * rs.length + 1) rs = some (right rs) :=
  right_l0 rs hn rs.length 0 (by omega) (fun _ h => absurd h (by omega))
theorem right_any (A : Option Addr) (c : Nat) (rs : List Run) (w : World) (h : Kd.C k107 w A rs.length rs) (hc : rs.length ≤ c) :
    Calls Try.prog 116 #[.slice A rs.length c] w fun e w' => e = .returned (.bool (right rs)) ∧ Below w.heap.size w w' :=
  runs_Right.calls _ A c rs _ w h hc (right_f rs h.2.1)
end Go.Proofs.Ytfmkpkmhhlakoaa.Rn

/- The reference's runs (garretref09): lists of places, page by page, and runs that are made of them; what SetRun and CutRuns come to. Lists alone. -/
import Derived.Test.YtfmkpkmhhlakoaaRuns
import Derived.Test.YtfmkpkmhhlakoaaPBlocksTellx11
set_option linter.unusedVariables false
set_option linter.unusedSimpArgs false
namespace Go.Proofs.Ytfmkpkmhhlakoaa.Rn
open Go.RowKit Go.Proofs.YtfmkpkmhhlakoaaW.PrintWords Go.Proofs.YtfmkpkmhhlakoaaW.PrintLast Go.Proofs.YtfmkpkmhhlakoaaW.PrintMore Go.Proofs.Ytfmkpkmhhlakoaa.PBlocksTell

theorem rdT_nat (rs : List Run) (i : Nat) : rd_T107 rs (i : Int) = rd rs i := by simp [rd_T107]
theorem rightR_l0 (rs : List Run) (hn : rs.length ≤ 9223372036854775807) : ∀ m i : Nat, i + m = rs.length → (∀ j, j < i → rightAt rs j) →
    garretref09_RightRuns.l0 (2 * m + 1) rs (i : Int) = some (right rs) := by
  intro m
  induction m with
  | zero =>
    intro i hi hp
    rw [show 2 * 0 + 1 = 0 + 1 from rfl, garretref09_RightRuns.l0, if_neg (by omega)]
    have : right rs = true := by unfold right; simp only [decide_eq_true_eq]; intro j hj; exact hp j (by omega)
    rw [this]
  | succ m ih =>
    intro i hi hp
    have bad : ¬ rightAt rs i → right rs = false := fun h => by
      unfold right
      simp only [decide_eq_false_iff_not]
      exact fun h' => h (h' i (by omega))
    have hstop : ∀ a b c, garretref09_RightRuns.j1 (2 * m + 2) rs (i : Int) true a b c = some false := fun a b c => by
      rw [show 2 * m + 2 = (2 * m + 1) + 1 from rfl, garretref09_RightRuns.j1, if_pos rfl]
    rw [show 2 * (m + 1) + 1 = (2 * m + 2) + 1 from by omega, garretref09_RightRuns.l0, if_pos (by omega), if_pos (by omega), rdT_nat, hstop]
    by_cases c0 : (rd rs i).f0 < 0
    · rw [if_pos c0, bad (fun h => by have := h.1; unfold rok at this; omega)]
    rw [if_neg c0]
    by_cases c1 : (rd rs i).f2 < 1
    · rw [if_pos c1, bad (fun h => by have := h.1; unfold rok at this; omega)]
    rw [if_neg c1]
    by_cases c2 : (rd rs i).f0 > 64
    · rw [if_pos c2, bad (fun h => by have := h.1; unfold rok at this; omega)]
    rw [if_neg c2, w64 (64 - _) (by omega) (by omega)]
    by_cases c3 : (rd rs i).f2 > 64 - (rd rs i).f0
    · rw [if_pos c3, bad (fun h => by have := h.1; unfold rok at this; omega)]
    rw [if_neg c3]
    by_cases c4 : (rd rs i).f1 < 0
    · rw [if_pos c4, bad (fun h => by have := h.1; unfold rok at this; omega)]
    rw [if_neg c4, w64 (2147483648 - _) (by omega) (by omega)]
    by_cases c5 : (rd rs i).f1 > 2147483648 - (rd rs i).f2
    · rw [decide_eq_true c5, hstop, bad (fun h => by have := h.1; unfold rok at this; omega)]
    rw [decide_eq_false c5, show 2 * m + 2 = (2 * m + 1) + 1 from rfl, garretref09_RightRuns.j1, if_neg (by decide)]
    have hok : rok (rd rs i) := by unfold rok; omega
    rw [w64 ((i : Int) + 1) (by omega) (by omega), show ((i : Int) + 1) = ((i + 1 : Nat) : Int) from by omega]
    by_cases ci : 0 < i
    · have h1 := (hp (i - 1) (by omega)).1
      have e1 : wrap64 ((i : Int) - 1) = ((i - 1 : Nat) : Int) := by rw [w64 _ (by omega) (by omega)]; omega
      rw [if_pos (by omega), e1, if_pos (by omega), if_pos (by omega), rdT_nat]
      unfold rok at h1
      rw [w64 ((rd rs (i - 1)).f0 + _) (by omega) (by omega), w64 ((rd rs (i - 1)).f1 + _) (by omega) (by omega)]
      by_cases d0 : (rd rs i).f0 < (rd rs (i - 1)).f0 + (rd rs (i - 1)).f2
      · rw [if_pos d0, bad (fun h => by have := h.2 ci; unfold rnext at this; omega)]
      rw [if_neg d0]
      by_cases d1 : (rd rs i).f0 = (rd rs (i - 1)).f0 + (rd rs (i - 1)).f2
      · rw [if_pos d1]
        by_cases d2 : (rd rs i).f1 = (rd rs (i - 1)).f1 + (rd rs (i - 1)).f2
        · rw [if_pos d2, bad (fun h => by have := h.2 ci; unfold rnext at this; omega)]
        · rw [if_neg d2]
          refine ih (i + 1) (by omega) (fun j hj => ?_)
          rcases Nat.lt_or_ge j i with h | h
          · exact hp j h
          · obtain rfl : j = i := by omega
            exact ⟨hok, fun _ => by unfold rnext; omega⟩
      · rw [if_neg d1]
        refine ih (i + 1) (by omega) (fun j hj => ?_)
        rcases Nat.lt_or_ge j i with h | h
        · exact hp j h
        · obtain rfl : j = i := by omega
          exact ⟨hok, fun _ => by unfold rnext; omega⟩
    · rw [if_neg (by omega)]
      refine ih (i + 1) (by omega) (fun j hj => ?_)
      rcases Nat.lt_or_ge j i with h | h
      · exact hp j h
      · obtain rfl : j = i := by omega
        exact ⟨hok, fun h => absurd h ci⟩
theorem rightR_f (rs : List Run) (hn : rs.length ≤ 9223372036854775807) : garretref09_RightRuns.f (2 * rs.length + 1) rs = some (right rs) :=
  rightR_l0 rs hn rs.length 0 (by omega) (fun _ h => absurd h (by omega))

/-- Where a page is. -/
def hits (i : Int) (r : Run) : Bool := decide (r.f0 ≤ i ∧ i < r.f0 + r.f2)
def getP (rs : List Run) (i : Int) : Option Int := (rs.find? (hits i)).map fun r => r.f1 + (i - r.f0)
def plc (o : Option Int) : Int := o.getD (-1)
theorem u64_small (x : Int) (h0 : 0 ≤ x) (h1 : x ≤ 9223372036854775807) : IntKind.u64.wrap x = x := by
  show x % 18446744073709551616 = x
  omega
theorem get_l0 (rs : List Run) (ix : Int) (h0 : 0 ≤ ix) (h64 : ix < 64) (hn : rs.length ≤ 9223372036854775807) (hok : ∀ j, j < rs.length → rok (rd rs j)) : ∀ m i : Nat, i + m = rs.length →
    garretref09_GetRun.l0 (m + 1) rs ix (i : Int) = some (match getP (rs.drop i) ix with | some a => (a, true) | none => (0, false)) := by
  intro m
  induction m with
  | zero =>
    intro i hi
    rw [garretref09_GetRun.l0, if_neg (by omega), List.drop_of_length_le (by omega)]
    rfl
  | succ m ih =>
    intro i hi
    have hil : i < rs.length := by omega
    have hr := hok i hil
    have hd : rs.drop i = rd rs i :: rs.drop (i + 1) := by
      rw [List.drop_eq_getElem_cons hil]
      simp [rd, List.getD, hil]
    have hstep : garretref09_GetRun.l0 (m + 1) rs ix (wrap64 ((i : Int) + 1)) = some (match getP (rs.drop (i + 1)) ix with | some a => (a, true) | none => (0, false)) := by
      rw [w64 ((i : Int) + 1) (by omega) (by omega), show ((i : Int) + 1) = ((i + 1 : Nat) : Int) from by omega]
      exact ih (i + 1) (by omega)
    rw [garretref09_GetRun.l0, if_pos (by omega), if_pos (by omega), rdT_nat, hstep, hd]
    unfold rok at hr
    generalize rd rs i = r at *
    rw [if_pos (by omega)]
    have e1 : wrap64 (ix - r.f0) = ix - r.f0 := w64 _ (by omega) (by omega)
    have e2 : wrap64 (wrap64 (r.f1 + ix) - r.f0) = r.f1 + (ix - r.f0) := by
      rw [w64 (r.f1 + ix) (by omega) (by omega), w64 _ (by omega) (by omega)]
      omega
    rw [e1, e2, u64_small r.f2 (by omega) (by omega)]
    by_cases c : r.f0 ≤ ix
    · rw [if_pos (by omega), u64_small (ix - r.f0) (by omega) (by omega)]
      by_cases c2 : ix < r.f0 + r.f2
      · rw [if_pos (by omega)]
        have : hits ix r = true := by simp [hits, c, c2]
        simp [getP, this]
      · rw [if_neg (by omega)]
        have : hits ix r = false := by simp [hits, c2]
        simp [getP, this]
    · rw [if_neg (by omega)]
      have : hits ix r = false := by simp [hits, c]
      simp [getP, this]
theorem get_f (rs : List Run) (ix : Int) (h0 : 0 ≤ ix) (h64 : ix < 64) (hn : rs.length ≤ 9223372036854775807) (hok : ∀ j, j < rs.length → rok (rd rs j)) :
    garretref09_GetRun.f (rs.length + 1) rs ix = some (match getP rs ix with | some a => (a, true) | none => (0, false)) := by
  have h := get_l0 rs ix h0 h64 hn hok rs.length 0 (by omega)
  rw [List.drop_zero] at h
  exact h
theorem get_more (rs : List Run) (ix : Int) (h0 : 0 ≤ ix) (h64 : ix < 64) (hn : rs.length ≤ 9223372036854775807) (hok : ∀ j, j < rs.length → rok (rd rs j)) : ∀ k, rs.length + 1 ≤ k →
    garretref09_GetRun.f k rs ix = some (match getP rs ix with | some a => (a, true) | none => (0, false)) := by
  intro k hk
  obtain ⟨d, rfl⟩ := Nat.exists_eq_add_of_le hk
  clear hk
  induction d with
  | zero => exact get_f rs ix h0 h64 hn hok
  | succ d ih => exact garretref09_GetRun.mono rs ix _ _ ih
/-- All places, page by page. -/
def places (rs : List Run) : List Int := (List.range 64).map fun (i : Nat) => plc (getP rs (i : Int))
theorem places_l0 (rs : List Run) (hn : rs.length ≤ 1000000) (hok : ∀ j, j < rs.length → rok (rd rs j)) : ∀ m i k : Nat, i + m = 64 → m + rs.length + 2 ≤ k →
    garretref09_placesOf.l0 k rs ((places rs).take i ++ List.replicate m 0) (i : Int) = some (places rs) := by
  have hlen : (places rs).length = 64 := by simp [places]
  intro m
  induction m with
  | zero =>
    intro i k hi hk
    obtain ⟨k, rfl⟩ : ∃ j, k = j + 1 := ⟨k - 1, by omega⟩
    rw [garretref09_placesOf.l0, if_neg (by omega), List.take_of_length_le (by omega)]
    simp
  | succ m ih =>
    intro i k hi hk
    obtain ⟨k, rfl⟩ : ∃ j, k = j + 1 := ⟨k - 1, by omega⟩
    have hl2 : ((places rs).take i ++ List.replicate (m + 1) (0 : Int)).length = 64 := by simp; omega
    rw [garretref09_placesOf.l0, if_pos (by omega), get_more rs (i : Int) (by omega) (by omega) (by omega) hok k (by omega)]
    simp only [Option.bind_some]
    rw [if_pos (by omega), if_pos (by rw [hl2]; omega)]
    have hset : ∀ v, ((places rs).take i ++ List.replicate (m + 1) (0 : Int)).set (i : Int).toNat v = (places rs).take i ++ v :: List.replicate m 0 := fun v => by
      rw [Int.toNat_natCast, List.set_append_right _ _ (by simp; omega)]
      have : i - ((places rs).take i).length = 0 := by simp; omega
      rw [this, List.replicate_succ, List.set_cons_zero]
    have hset2 : ∀ v u, ((places rs).take i ++ v :: List.replicate m (0 : Int)).set (i : Int).toNat u = (places rs).take i ++ u :: List.replicate m 0 := fun v u => by
      rw [Int.toNat_natCast, List.set_append_right _ _ (by simp; omega)]
      have : i - ((places rs).take i).length = 0 := by simp; omega
      rw [this, List.set_cons_zero]
    have hnext : (places rs).take (i + 1) = (places rs).take i ++ [plc (getP rs (i : Int))] := by
      rw [List.take_add_one]
      congr 1
      have : i < 64 := by omega
      simp [places, this]
    have hgo : garretref09_placesOf.l0 k rs ((places rs).take i ++ plc (getP rs (i : Int)) :: List.replicate m 0) (wrap64 ((i : Int) + 1)) = some (places rs) := by
      have h := ih (i + 1) k (by omega) (by omega)
      rw [hnext] at h
      rw [w64 ((i : Int) + 1) (by omega) (by omega), show ((i : Int) + 1) = ((i + 1 : Nat) : Int) from by omega]
      simpa using h
    cases hg : getP rs (i : Int) with
    | some a =>
      rw [hg] at hgo
      simp only [hset, if_true]
      exact hgo
    | none =>
      rw [hg] at hgo
      simp only [hset, hset2]
      simpa [plc] using hgo
theorem places_f (rs : List Run) (hn : rs.length ≤ 1000000) (hok : ∀ j, j < rs.length → rok (rd rs j)) (k : Nat) (hk : rs.length + 66 ≤ k) : garretref09_placesOf.f k rs = some (places rs) := by
  unfold garretref09_placesOf.f
  rw [if_pos (by omega)]
  have h := places_l0 rs hn hok 64 0 k (by omega) (by omega)
  simpa using h
end Go.Proofs.Ytfmkpkmhhlakoaa.Rn

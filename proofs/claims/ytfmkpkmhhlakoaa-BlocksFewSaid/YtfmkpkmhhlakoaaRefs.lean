/- The reference's runs: runs that are made of places; the pages of runs. Lists alone. -/
import Derived.Test.YtfmkpkmhhlakoaaRefr
set_option linter.unusedVariables false
set_option linter.unusedSimpArgs false
namespace Go.Proofs.Ytfmkpkmhhlakoaa.Rn
open Go.RowKit Go.Proofs.YtfmkpkmhhlakoaaW.PrintWords Go.Proofs.YtfmkpkmhhlakoaaW.PrintLast Go.Proofs.YtfmkpkmhhlakoaaW.PrintMore Go.Proofs.Ytfmkpkmhhlakoaa.PBlocksTell

/-- Runs with one page more. -/
def snoc (acc : List Run) (i : Int) (p : Int) : List Run :=
  if p < 0 then acc else
  match acc.getLast? with
  | some q => if q.f0 + q.f2 = i ∧ q.f1 + q.f2 = p then acc.dropLast ++ [⟨q.f0, q.f1, q.f2 + 1⟩] else acc ++ [⟨i, p, 1⟩]
  | none => [⟨i, p, 1⟩]
def runsQ (ps : List Int) : Nat → List Run
  | 0 => []
  | i + 1 => snoc (runsQ ps i) i (ps.getD i 0)
def runsOfP (ps : List Int) : List Run := runsQ ps ps.length
def pgRun (r : Run) : List (Int × Int) := (List.range r.f2.toNat).map fun (j : Nat) => (r.f0 + (j : Int), r.f1 + (j : Int))
/-- The pages of runs, and where each is. -/
def expand (rs : List Run) : List (Int × Int) := rs.flatMap pgRun
def pgQ (ps : List Int) : Nat → List (Int × Int)
  | 0 => []
  | i + 1 => pgQ ps i ++ if ps.getD i 0 < 0 then [] else [((i : Int), ps.getD i 0)]

theorem snoc_nil (i p : Int) : snoc [] i p = if p < 0 then [] else [⟨i, p, 1⟩] := by
  unfold snoc
  rfl
theorem snoc_one (ini : List Run) (q : Run) (i p : Int) : snoc (ini ++ [q]) i p = if p < 0 then ini ++ [q] else if q.f0 + q.f2 = i ∧ q.f1 + q.f2 = p then ini ++ [⟨q.f0, q.f1, q.f2 + 1⟩] else ini ++ [q] ++ [⟨i, p, 1⟩] := by
  unfold snoc
  simp
theorem rd_left (a b : List Run) (i : Nat) (h : i < a.length) : rd (a ++ b) i = rd a i := by
  simp [rd, List.getD, List.getElem?_append_left h]
theorem rd_last (a : List Run) (r : Run) : rd (a ++ [r]) a.length = r := by
  simp [rd, List.getD]
theorem right_nil : right [] = true := by
  unfold right
  simp
theorem right_one (r : Run) : right [r] = true ↔ rok r := by
  unfold right
  simp only [decide_eq_true_eq, List.length_singleton]
  refine ⟨fun h => (h 0 (by omega)).1, fun h i hi => ?_⟩
  obtain rfl : i = 0 := by omega
  exact ⟨h, fun h => absurd h (by omega)⟩
theorem right_append (a : List Run) (q r : Run) : right (a ++ [q] ++ [r]) = true ↔ right (a ++ [q]) = true ∧ rok r ∧ rnext q r := by
  have hl : (a ++ [q]).length = a.length + 1 := by simp
  have hl2 : (a ++ [q] ++ [r]).length = a.length + 2 := by simp
  have e2 : rd (a ++ [q] ++ [r]) (a.length + 1) = r := by
    have := rd_last (a ++ [q]) r
    rwa [hl] at this
  have e1 : ∀ i, i < a.length + 1 → rd (a ++ [q] ++ [r]) i = rd (a ++ [q]) i := fun i hi => rd_left _ _ i (by omega)
  have e3 : rd (a ++ [q]) a.length = q := rd_last a q
  unfold right
  simp only [decide_eq_true_eq, hl, hl2]
  constructor
  · intro h
    refine ⟨fun i hi => ?_, ?_, ?_⟩
    · have := h i (by omega)
      unfold rightAt at this ⊢
      rw [e1 i hi] at this
      refine ⟨this.1, fun h0 => ?_⟩
      have h2 := this.2 h0
      rwa [e1 (i - 1) (by omega)] at h2
    · have := (h (a.length + 1) (by omega)).1
      rwa [e2] at this
    · have := (h (a.length + 1) (by omega)).2 (by omega)
      rw [e2, show a.length + 1 - 1 = a.length from by omega, e1 _ (by omega), e3] at this
      exact this
  · rintro ⟨h1, h2, h3⟩ i hi
    rcases Nat.lt_or_ge i (a.length + 1) with hlt | hge
    · have := h1 i hlt
      unfold rightAt at this ⊢
      rw [e1 i hlt]
      refine ⟨this.1, fun h0 => ?_⟩
      rw [e1 (i - 1) (by omega)]
      exact this.2 h0
    · obtain rfl : i = a.length + 1 := by omega
      unfold rightAt
      rw [e2, show a.length + 1 - 1 = a.length from by omega, e1 _ (by omega), e3]
      exact ⟨h2, fun _ => h3⟩
/-- What holds of the runs of the pages ahead of i. -/
def Upto (acc : List Run) (i : Int) : Prop := right acc = true ∧ ∀ q, acc.getLast? = some q → q.f0 + q.f2 ≤ i
theorem cases_last (acc : List Run) : acc = [] ∨ ∃ ini q, acc = ini ++ [q] := by
  rcases List.eq_nil_or_concat acc with h | ⟨ini, q, h⟩
  · exact .inl h
  · exact .inr ⟨ini, q, by simpa using h⟩
theorem last_one (ini : List Run) (q : Run) : (ini ++ [q]).getLast? = some q := by simp
theorem right_change (ini : List Run) (q q' : Run) (h : right (ini ++ [q]) = true) (h0 : q'.f0 = q.f0) (h1 : q'.f1 = q.f1) (hk : rok q') : right (ini ++ [q']) = true := by
  rcases cases_last ini with rfl | ⟨i2, p, rfl⟩
  · exact (right_one q').2 hk
  · rw [right_append] at h ⊢
    refine ⟨h.1, hk, ?_⟩
    have := h.2.2
    unfold rnext at this ⊢
    rw [h0, h1]
    exact this
theorem rok_last {ini : List Run} {q : Run} (h : right (ini ++ [q]) = true) : rok q := by
  rcases cases_last ini with rfl | ⟨i2, p, rfl⟩
  · exact (right_one q).1 h
  · exact ((right_append _ _ _).1 h).2.1
theorem snoc_upto {acc : List Run} {i : Nat} {p : Int} (h : Upto acc i) (hi : i < 64) (hp : p ≤ 2147483647) : Upto (snoc acc i p) ((i + 1 : Nat) : Int) := by
  obtain ⟨h1, h2⟩ := h
  by_cases hp0 : p < 0
  · have e : snoc acc i p = acc := by unfold snoc; rw [if_pos hp0]
    rw [e]
    exact ⟨h1, fun q hq => by have := h2 q hq; omega⟩
  · have hnew : rok ⟨(i : Int), p, 1⟩ := by unfold rok; simp only; omega
    rcases cases_last acc with rfl | ⟨ini, q, rfl⟩
    · rw [snoc_nil, if_neg hp0]
      exact ⟨(right_one _).2 hnew, fun q hq => by simp at hq; subst hq; simp only; omega⟩
    · have hq := rok_last h1
      have hle := h2 q (last_one _ _)
      rw [snoc_one, if_neg hp0]
      by_cases hc : q.f0 + q.f2 = (i : Int) ∧ q.f1 + q.f2 = p
      · rw [if_pos hc]
        refine ⟨right_change ini q _ h1 rfl rfl (by unfold rok at hq ⊢; simp only; omega), fun z hz => ?_⟩
        rw [last_one] at hz
        cases hz
        simp only
        omega
      · rw [if_neg hc]
        refine ⟨(right_append _ _ _).2 ⟨h1, hnew, by unfold rnext; simp only; omega⟩, fun z hz => ?_⟩
        rw [last_one] at hz
        cases hz
        simp only
        omega
theorem runsQ_upto (ps : List Int) (hp : ∀ p ∈ ps, p ≤ 2147483647) : ∀ i, i ≤ ps.length → i ≤ 64 → Upto (runsQ ps i) i := by
  intro i
  induction i with
  | zero => exact fun _ _ => ⟨right_nil, fun q hq => by simp [runsQ] at hq⟩
  | succ i ih =>
    intro h1 h2
    refine snoc_upto (ih (by omega) (by omega)) (by omega) ?_
    have : ps.getD i 0 = ps[i]'(by omega) := by simp [List.getD, show i < ps.length by omega]
    rw [this]
    exact hp _ (List.getElem_mem _)
theorem runsQ_length (ps : List Int) : ∀ i, (runsQ ps i).length ≤ i := by
  intro i
  induction i with
  | zero => exact Nat.le_refl _
  | succ i ih =>
    rw [runsQ]
    rcases cases_last (runsQ ps i) with h | ⟨ini, q, h⟩
    · rw [h, snoc_nil]; split <;> simp
    · rw [h, List.length_append] at ih
      rw [h, snoc_one]
      simp at ih
      split
      · simp; omega
      · split <;> simp <;> omega
theorem pgRun_succ (a b n : Int) (h : 0 ≤ n) : pgRun ⟨a, b, n + 1⟩ = pgRun ⟨a, b, n⟩ ++ [(a + n, b + n)] := by
  unfold pgRun
  simp only
  rw [show (n + 1).toNat = n.toNat + 1 from by omega, List.range_succ, List.map_append]
  simp only [List.map_cons, List.map_nil]
  rw [show ((n.toNat : Nat) : Int) = n from by omega]
theorem pgRun_one (a b : Int) : pgRun ⟨a, b, 1⟩ = [(a, b)] := by
  simp [pgRun]
theorem expand_snoc {acc : List Run} {i p : Int} (h : right acc = true) : expand (snoc acc i p) = expand acc ++ if p < 0 then [] else [(i, p)] := by
  by_cases hp0 : p < 0
  · have e : snoc acc i p = acc := by unfold snoc; rw [if_pos hp0]
    rw [e, if_pos hp0, List.append_nil]
  · rw [if_neg hp0]
    rcases cases_last acc with rfl | ⟨ini, q, rfl⟩
    · rw [snoc_nil, if_neg hp0]
      simp [expand, pgRun_one]
    · have hq := rok_last h
      rw [snoc_one, if_neg hp0]
      by_cases hc : q.f0 + q.f2 = i ∧ q.f1 + q.f2 = p
      · rw [if_pos hc]
        simp only [expand, List.flatMap_append, List.flatMap_cons, List.flatMap_nil, List.append_nil]
        rw [pgRun_succ _ _ _ (by unfold rok at hq; omega), hc.1, hc.2, List.append_assoc]
      · rw [if_neg hc]
        simp [expand, pgRun_one]
theorem expand_runsQ (ps : List Int) (hp : ∀ p ∈ ps, p ≤ 2147483647) : ∀ i, i ≤ ps.length → i ≤ 64 → expand (runsQ ps i) = pgQ ps i := by
  intro i
  induction i with
  | zero => exact fun _ _ => rfl
  | succ i ih =>
    intro h1 h2
    rw [runsQ, pgQ, expand_snoc (runsQ_upto ps hp i (by omega) (by omega)).1, ih (by omega) (by omega)]

theorem runsOf_l0 (ps : List Int) (hp : ∀ p ∈ ps, p ≤ 2147483647) (hl : ps.length ≤ 64) : ∀ m i k : Nat, i + m = ps.length → m + 1 ≤ k →
    garretref09_runsOf.l0 k ps (runsQ ps i) (i : Int) = some (runsOfP ps) := by
  intro m
  induction m with
  | zero =>
    intro i k hi hk
    obtain ⟨k, rfl⟩ : ∃ j, k = j + 1 := ⟨k - 1, by omega⟩
    rw [garretref09_runsOf.l0, if_neg (by omega)]
    obtain rfl : i = ps.length := by omega
    rfl
  | succ m ih =>
    intro i k hi hk
    obtain ⟨k, rfl⟩ : ∃ j, k = j + 1 := ⟨k - 1, by omega⟩
    have hgo : garretref09_runsOf.l0 k ps (snoc (runsQ ps i) i (ps.getD i 0)) (wrap64 ((i : Int) + 1)) = some (runsOfP ps) := by
      rw [w64 ((i : Int) + 1) (by omega) (by omega), show ((i : Int) + 1) = ((i + 1 : Nat) : Int) from by omega]
      exact ih (i + 1) k (by omega) (by omega)
    have hu := runsQ_upto ps hp i (by omega) (by omega)
    have hlen := runsQ_length ps i
    have hrd : Go.Proofs.YtfmkpkmhhlakoaaW.PrintWords.rd ps (i : Int) = ps.getD i 0 := by simp [Go.Proofs.YtfmkpkmhhlakoaaW.PrintWords.rd]
    have hpi : ps.getD i 0 ≤ 2147483647 := by
      have : ps.getD i 0 = ps[i]'(by omega) := by simp [List.getD, show i < ps.length by omega]
      rw [this]
      exact hp _ (List.getElem_mem _)
    rw [garretref09_runsOf.l0, if_pos (by omega), if_pos (by omega), hrd]
    generalize ps.getD i 0 = p at *
    by_cases hp0 : p < 0
    · rw [if_pos hp0]
      have e : snoc (runsQ ps i) i p = runsQ ps i := by unfold snoc; rw [if_pos hp0]
      rw [e] at hgo
      exact hgo
    · rw [if_neg hp0]
      rcases cases_last (runsQ ps i) with h | ⟨ini, q, h⟩
      · rw [h] at hgo ⊢
        rw [snoc_nil, if_neg hp0] at hgo
        rw [if_neg (by simp)]
        exact hgo
      · rw [h] at hgo hu hlen ⊢
        rw [snoc_one, if_neg hp0] at hgo
        simp only [List.length_append, List.length_singleton] at hlen
        have hq := rok_last hu.1
        unfold rok at hq
        have e1 : wrap64 (((ini ++ [q]).length : Int) - 1) = (ini.length : Int) := by
          simp only [List.length_append, List.length_singleton]
          rw [w64 _ (by omega) (by omega)]
          omega
        have e2 : rd_T107 (ini ++ [q]) (ini.length : Int) = q := by rw [rdT_nat, rd_last]
        rw [if_pos (by rw [List.length_append, List.length_singleton]; omega), e1, if_pos (by omega), if_pos (by rw [List.length_append, List.length_singleton]; omega), e2, w64 (q.f0 + q.f2) (by omega) (by omega), w64 (q.f1 + q.f2) (by omega) (by omega), w64 (q.f2 + 1) (by omega) (by omega)]
        by_cases c0 : q.f0 + q.f2 = (i : Int)
        · rw [if_pos c0]
          by_cases c1 : q.f1 + q.f2 = p
          · rw [if_pos c1]
            rw [if_pos ⟨c0, c1⟩] at hgo
            have e3 : (ini ++ [q]).set ((ini.length : Int)).toNat ⟨q.f0, q.f1, q.f2 + 1⟩ = ini ++ [⟨q.f0, q.f1, q.f2 + 1⟩] := by
              rw [Int.toNat_natCast, List.set_append_right _ _ (Nat.le_refl _), Nat.sub_self]
              rfl
            rw [e3]
            exact hgo
          · rw [if_neg c1, if_pos (by simp; omega)]
            rw [if_neg (fun h => c1 h.2)] at hgo
            exact hgo
        · rw [if_neg c0, if_pos (by simp; omega)]
          rw [if_neg (fun h => c0 h.1)] at hgo
          exact hgo
theorem runsOf_f (ps : List Int) (hp : ∀ p ∈ ps, p ≤ 2147483647) (hl : ps.length ≤ 64) (k : Nat) (hk : ps.length + 1 ≤ k) : garretref09_runsOf.f k ps = some (runsOfP ps) :=
  runsOf_l0 ps hp hl ps.length 0 k (by omega) hk
theorem rightR_more (rs : List Run) (hn : rs.length ≤ 9223372036854775807) : ∀ k, 2 * rs.length + 1 ≤ k → garretref09_RightRuns.f k rs = some (right rs) := by
  intro k hk
  obtain ⟨d, rfl⟩ := Nat.exists_eq_add_of_le hk
  clear hk
  induction d with
  | zero => exact rightR_f rs hn
  | succ d ih => exact garretref09_RightRuns.mono rs _ _ ih
theorem rok_of_right {rs : List Run} (h : right rs = true) : ∀ j, j < rs.length → rok (rd rs j) := by
  unfold right at h
  intro j hj
  exact ((of_decide_eq_true h) j hj).1
/-- What a search for a page finds. -/
theorem find_pgRun (r : Run) (i : Int) (h : 0 ≤ r.f2) : (pgRun r).find? (fun q => q.1 == i) = if hits i r then some (i, r.f1 + (i - r.f0)) else none := by
  obtain ⟨a, b, n⟩ := r
  simp only at h
  obtain ⟨m, rfl⟩ : ∃ m : Nat, n = (m : Int) := ⟨n.toNat, by omega⟩
  clear h
  induction m with
  | zero =>
    have : hits i ⟨a, b, ((0 : Nat) : Int)⟩ = false := by simp [hits]
    rw [this]
    simp [pgRun]
  | succ m ih =>
    have e : (((m + 1 : Nat) : Int)) = (m : Int) + 1 := by omega
    rw [e, pgRun_succ _ _ _ (by omega), List.find?_append, ih]
    by_cases h1 : hits i ⟨a, b, (m : Int)⟩ = true
    · have h2 : hits i ⟨a, b, (m : Int) + 1⟩ = true := by simp [hits] at h1 ⊢; omega
      rw [h1, h2]
      rfl
    · have h1' : hits i ⟨a, b, (m : Int)⟩ = false := by simpa using h1
      rw [h1']
      by_cases h3 : a + (m : Int) = i
      · have h2 : hits i ⟨a, b, (m : Int) + 1⟩ = true := by simp [hits]; omega
        rw [h2]
        simp [h3]
        omega
      · have h2 : hits i ⟨a, b, (m : Int) + 1⟩ = false := by
          simp [hits] at h1 ⊢
          omega
        rw [h2]
        simp [h3]
theorem getP_expand (rs : List Run) (i : Int) (h : ∀ r ∈ rs, 0 ≤ r.f2) : getP rs i = ((expand rs).find? (fun q => q.1 == i)).map (·.2) := by
  induction rs with
  | nil => rfl
  | cons r rs ih =>
    have ih := ih (fun x hx => h x (by simp [hx]))
    simp only [expand, List.flatMap_cons] at ih ⊢
    rw [List.find?_append, find_pgRun r i (h r (by simp))]
    unfold getP at ih ⊢
    rw [List.find?_cons]
    cases hh : hits i r
    · simp only [Bool.false_eq_true, if_false, Option.none_or]
      exact ih
    · simp
theorem find_pgQ (ps : List Int) (i : Nat) : ∀ n, (pgQ ps n).find? (fun q => q.1 == (i : Int)) = if i < n ∧ 0 ≤ ps.getD i 0 then some ((i : Int), ps.getD i 0) else none := by
  intro n
  induction n with
  | zero => rw [if_neg (by omega)]; rfl
  | succ n ih =>
    have hone : (if ps.getD n 0 < 0 then [] else [((n : Int), ps.getD n 0)]).find? (fun q => q.1 == (i : Int)) = if i = n ∧ 0 ≤ ps.getD i 0 then some ((i : Int), ps.getD i 0) else none := by
      by_cases h3 : i = n
      · subst h3
        generalize ps.getD i 0 = q
        by_cases h2 : 0 ≤ q
        · have h2' : ¬ q < 0 := by omega
          rw [if_neg h2', if_pos ⟨rfl, h2⟩]
          simp
        · have h2' : q < 0 := by omega
          rw [if_pos h2', if_neg (fun h => h2 h.2)]
          rfl
      · have h4 : ¬ ((n : Int) = (i : Int)) := by omega
        have h5 : ¬ (i = n ∧ 0 ≤ ps.getD i 0) := fun h => h3 h.1
        rw [if_neg h5]
        split
        · rfl
        · simp [h4]
    rw [pgQ, List.find?_append, ih, hone]
    by_cases h2 : 0 ≤ ps.getD i 0
    · by_cases h1 : i < n
      · have h5 : ¬ i = n := by omega
        rw [if_pos ⟨h1, h2⟩, if_neg (fun h => h5 h.1), if_pos ⟨Nat.lt_succ_of_lt h1, h2⟩]
        rfl
      · by_cases h3 : i = n
        · rw [if_neg (fun h => h1 h.1), if_pos ⟨h3, h2⟩, if_pos ⟨by omega, h2⟩]
          rfl
        · rw [if_neg (fun h => h1 h.1), if_neg (fun h => h3 h.1), if_neg (fun h => by have := h.1; omega)]
          rfl
    · rw [if_neg (fun h => h2 h.2), if_neg (fun h => h2 h.2), if_neg (fun h => h2 h.2)]
      rfl
theorem mem_rok {rs : List Run} (h : right rs = true) : ∀ r ∈ rs, rok r := by
  intro r hr
  obtain ⟨j, hj, e⟩ := List.getElem_of_mem hr
  have := rok_of_right h j hj
  simp only [rd, List.getD, List.getElem?_eq_getElem hj, Option.getD_some, e] at this
  exact this
/-- Places that may be: none (-1), or a place. -/
def Pl (ps : List Int) : Prop := ps.length = 64 ∧ ∀ p ∈ ps, -1 ≤ p ∧ p ≤ 2147483647
theorem Pl.right {ps : List Int} (h : Pl ps) : right (runsOfP ps) = true := (runsQ_upto ps (fun p hp => (h.2 p hp).2) ps.length (Nat.le_refl _) (by have := h.1; omega)).1
theorem Pl.length {ps : List Int} (h : Pl ps) : (runsOfP ps).length ≤ 64 := Nat.le_trans (runsQ_length _ _) (Nat.le_of_eq h.1)
theorem Pl.expand {ps : List Int} (h : Pl ps) : expand (runsOfP ps) = pgQ ps 64 := by
  have := expand_runsQ ps (fun p hp => (h.2 p hp).2) ps.length (Nat.le_refl _) (by have := h.1; omega)
  unfold runsOfP
  rw [this, h.1]
theorem places_pl {ps : List Int} (h : Pl ps) : places (runsOfP ps) = ps := by
  have hr := mem_rok h.right
  apply List.ext_getElem
  · simp [places, h.1]
  · intro i h1 h2
    have hi : i < 64 := by simpa [places] using h1
    simp only [places, List.getElem_map, List.getElem_range]
    rw [getP_expand _ _ (fun r hx => by have := hr r hx; unfold rok at this; omega), h.expand, find_pgQ]
    have e : ps.getD i 0 = ps[i] := by simp [List.getD, h2]
    rw [e]
    have hb := h.2 _ (List.getElem_mem h2)
    by_cases h0 : 0 ≤ ps[i]
    · rw [if_pos ⟨hi, h0⟩]
      rfl
    · rw [if_neg (fun h => h0 h.2)]
      show (-1 : Int) = _
      omega
theorem Pl.set {ps : List Int} (h : Pl ps) (i : Nat) (at_ : Int) (h0 : -1 ≤ at_) (h1 : at_ ≤ 2147483647) : Pl (ps.set i at_) :=
  ⟨by simp [h.1], fun p hp => by
    rcases List.mem_or_eq_of_mem_set hp with h2 | rfl
    · exact h.2 p h2
    · exact ⟨h0, h1⟩⟩
theorem setRun_f {ps : List Int} (h : Pl ps) (ix : Nat) (at_ : Int) (hi : ix < 64) (h0 : 0 ≤ at_) (h1 : at_ ≤ 2147483647) (k : Nat) (hk : 200 ≤ k) : garretref09_SetRun.f k (runsOfP ps) (ix : Int) at_ = some (runsOfP (ps.set ix at_)) := by
  have hl := h.length
  have hs := h.set ix at_ (by omega) h1
  unfold garretref09_SetRun.f
  rw [rightR_more _ (by omega) k (by omega), h.right]
  simp only [Option.bind_some, if_true]
  rw [places_f _ (by omega) (rok_of_right h.right) k (by omega), places_pl h]
  simp only [Option.bind_some]
  rw [if_pos (by omega), if_pos (by omega), if_pos (by omega), if_pos (by omega), if_pos (by omega), if_pos (by rw [h.1]; omega), Int.toNat_natCast, runsOf_f _ (fun p hp => (hs.2 p hp).2) (Nat.le_of_eq hs.1) k (by rw [hs.1]; omega)]
  rfl
def none64 : List Int := List.replicate 64 (-1)
theorem pl_none : Pl none64 := ⟨by simp [none64], fun p hp => by
  have := List.eq_of_mem_replicate hp
  omega⟩
theorem runs_none : runsOfP none64 = [] := by decide +kernel
end Go.Proofs.Ytfmkpkmhhlakoaa.Rn

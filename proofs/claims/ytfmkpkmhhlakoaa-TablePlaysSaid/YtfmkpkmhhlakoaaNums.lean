/- What a sorted list without repeats has: plain lists. -/
import Derived.Test.YtfmkpkmhhlakoaaInts
set_option linter.unusedVariables false
set_option linter.unusedSimpArgs false
namespace Go.Proofs.Ytfmkpkmhhlakoaa.Ints
open Go.Lib

theorem compactUpTo_spec (d : Array Int) (hs : ∀ i j, i < j → j < d.size → d[i]! ≤ d[j]!) : ∀ m, m ≤ d.size →
    (compactUpTo d m).Pairwise (fun x y => x < y) ∧ (∀ x, x ∈ compactUpTo d m ↔ ∃ j, j < m ∧ d[j]! = x) := by
  intro m
  induction m with
  | zero => intro _; simp [compactUpTo]
  | succ m ih =>
    intro hm
    obtain ⟨h1, h2⟩ := ih (by omega)
    rw [compactUpTo_succ]
    by_cases hk : keeps d m = true
    · rw [if_pos hk]
      have hlt : ∀ x ∈ compactUpTo d m, x < d[m]! := by
        intro x hx
        obtain ⟨j, hj, rfl⟩ := (h2 x).1 hx
        have a1 := hs j m hj (by omega)
        have a2 : d[m - 1]! ≤ d[m]! := hs (m - 1) m (by omega) (by omega)
        have a3 : d[j]! ≤ d[m - 1]! := by
          rcases Nat.lt_or_ge j (m - 1) with h | h
          · exact hs j (m - 1) h (by omega)
          · have : j = m - 1 := by omega
            subst this; exact Int.le_refl _
        have a4 : d[m]! ≠ d[m - 1]! := by
          unfold keeps at hk
          have : m ≠ 0 := by omega
          simpa [this] using hk
        omega
      refine ⟨List.pairwise_append.2 ⟨h1, by simp, fun x hx y hy => ?_⟩, fun x => ?_⟩
      · have : y = d[m]! := by simpa using hy
        rw [this]; exact hlt x hx
      · rw [List.mem_append, h2, List.mem_singleton]
        constructor
        · rintro (⟨j, hj, e⟩ | rfl)
          · exact ⟨j, by omega, e⟩
          · exact ⟨m, by omega, rfl⟩
        · rintro ⟨j, hj, e⟩
          by_cases c : j = m
          · subst c; exact .inr e.symm
          · exact .inl ⟨j, by omega, e⟩
    · rw [if_neg hk, List.append_nil]
      have hm0 : m ≠ 0 ∧ d[m]! = d[m - 1]! := by
        unfold keeps at hk
        constructor
        · rintro rfl; simp at hk
        · simp only [Bool.or_eq_true, decide_eq_true_eq, not_or, Decidable.not_not, bne_iff_ne, ne_eq] at hk
          first | exact hk.2 | (have := hk; simp_all)
      refine ⟨h1, fun x => ?_⟩
      rw [h2]
      constructor
      · rintro ⟨j, hj, e⟩; exact ⟨j, by omega, e⟩
      · rintro ⟨j, hj, e⟩
        by_cases c : j = m
        · subst c; exact ⟨j - 1, by omega, by rw [← hm0.2]; exact e⟩
        · exact ⟨j, by omega, e⟩

theorem compact_spec (zs : List Int) (hs : zs.Pairwise (fun x y => x ≤ y)) : (compact zs).Pairwise (fun x y => x < y) ∧ ∀ x, x ∈ compact zs ↔ x ∈ zs := by
  have h := compactUpTo_spec zs.toArray (fun i j hij hj => by
    have hj' : j < zs.length := by simpa using hj
    have := List.pairwise_iff_getElem.1 hs i j (by omega) hj' hij
    simpa [getElem!_pos, hj', show i < zs.length by omega] using this) zs.length (by simp)
  refine ⟨h.1, fun x => ?_⟩
  unfold compact
  rw [h.2]
  constructor
  · rintro ⟨j, hj, rfl⟩
    simp [getElem!_pos, hj]
  · intro hx
    obtain ⟨j, hj, rfl⟩ := List.getElem_of_mem hx
    exact ⟨j, hj, by simp [getElem!_pos, hj]⟩

theorem eq_of_mem_lt : ∀ {xs ys : List Int}, xs.Pairwise (fun x y => x < y) → ys.Pairwise (fun x y => x < y) → (∀ x, x ∈ xs ↔ x ∈ ys) → xs = ys
  | [], ys, _, _, h => by
    cases ys with
    | nil => rfl
    | cons y ys => exact absurd ((h y).2 (by simp)) (by simp)
  | x :: xs, ys, h1, h2, h => by
    cases ys with
    | nil => exact absurd ((h x).1 (by simp)) (by simp)
    | cons y ys =>
      obtain ⟨a1, a2⟩ := List.pairwise_cons.1 h1
      obtain ⟨b1, b2⟩ := List.pairwise_cons.1 h2
      have hxy : x = y := by
        rcases List.mem_cons.1 ((h x).1 (by simp)) with e | m1
        · exact e
        · rcases List.mem_cons.1 ((h y).2 (by simp)) with e | m2
          · exact e.symm
          · have := a1 y m2; have := b1 x m1; omega
      subst hxy
      rw [eq_of_mem_lt a2 b2 (fun z => by
        constructor
        · intro hz
          rcases List.mem_cons.1 ((h z).1 (List.mem_cons_of_mem _ hz)) with e | m
          · have := a1 z hz; omega
          · exact m
        · intro hz
          rcases List.mem_cons.1 ((h z).2 (List.mem_cons_of_mem _ hz)) with e | m
          · have := b1 z hz; omega
          · exact m)]
/-- Sorted, each once. -/
def uniq (zs : List Int) : List Int := compact (sorted zs)
theorem uniq_lt (zs : List Int) : (uniq zs).Pairwise (fun x y => x < y) := (compact_spec _ (sorted_le zs)).1
theorem uniq_mem (zs : List Int) (x : Int) : x ∈ uniq zs ↔ x ∈ zs := ((compact_spec _ (sorted_le zs)).2 x).trans (sorted_perm zs).mem_iff
theorem uniq_eq {zs xs : List Int} (h : xs.Pairwise (fun x y => x < y)) (hm : ∀ x, x ∈ xs ↔ x ∈ zs) : uniq zs = xs :=
  eq_of_mem_lt (uniq_lt zs) h (fun x => (uniq_mem zs x).trans (hm x).symm)
theorem uniq_length {zs : List Int} (h : zs.Nodup) : (uniq zs).length = zs.length := by
  have h1 : (uniq zs).Nodup := (uniq_lt zs).imp (fun h => Int.ne_of_lt h)
  exact ((List.perm_ext_iff_of_nodup h1 h).2 (uniq_mem zs)).length_eq
theorem uniq_one (x : Int) : uniq [x] = [x] := uniq_eq (by simp) (by simp)
theorem insert_lt {zs : List Int} {k : Nat} {x : Int} (hk : k ≤ zs.length) (h : zs.Pairwise (fun a b => a < b)) (h1 : ∀ j, j < k → zs.getD j 0 < x) (h2 : k < zs.length → x < zs.getD k 0) :
    (zs.take k ++ [x] ++ zs.drop k).Pairwise (fun a b => a < b) := by
  have hsplit : (zs.take k ++ zs.drop k).Pairwise (fun a b => a < b) := by rw [List.take_append_drop]; exact h
  obtain ⟨p1, p2, p3⟩ := List.pairwise_append.1 hsplit
  have b1 : ∀ a ∈ zs.take k, a < x := by
    intro a ha
    obtain ⟨j, hj, e⟩ := List.getElem_of_mem ha
    have hj1 : j < k := by simp at hj; omega
    have := h1 j hj1
    rw [← e]
    simpa [List.getD, show j < zs.length by omega] using this
  have b2 : ∀ b ∈ zs.drop k, x < b := by
    intro b hb
    cases hd : zs.drop k with
    | nil => rw [hd] at hb; cases hb
    | cons y ys =>
      have hkl : k < zs.length := by
        rcases Nat.lt_or_ge k zs.length with c | c
        · exact c
        · rw [List.drop_of_length_le c] at hd; cases hd
      have hy : zs.getD k 0 = y := by
        have : (zs.drop k)[0]? = some y := by rw [hd]; rfl
        rw [List.getElem?_drop] at this
        simp [List.getD] at this ⊢
        simp [this]
      have h3 := h2 hkl
      rw [hy] at h3
      rw [hd] at hb p2
      rcases List.mem_cons.1 hb with rfl | hb
      · exact h3
      · have := (List.pairwise_cons.1 p2).1 b hb; omega
  rw [List.append_assoc]
  refine List.pairwise_append.2 ⟨p1, List.pairwise_cons.2 ⟨b2, p2⟩, fun a ha b hb => ?_⟩
  rcases List.mem_cons.1 hb with rfl | hb
  · exact b1 a ha
  · have := b1 a ha; have := b2 b hb; omega
theorem insert_mem {zs : List Int} {k : Nat} {x y : Int} : y ∈ zs.take k ++ [x] ++ zs.drop k ↔ y = x ∨ y ∈ zs := by
  have : y ∈ zs ↔ y ∈ zs.take k ∨ y ∈ zs.drop k := by rw [← List.mem_append, List.take_append_drop]
  rw [this, List.mem_append, List.mem_append, List.mem_singleton]
  constructor
  · rintro ((h | h) | h)
    · exact .inr (.inl h)
    · exact .inl h
    · exact .inr (.inr h)
  · rintro (h | h | h)
    · exact .inl (.inr h)
    · exact .inl (.inl h)
    · exact .inr h
end Go.Proofs.Ytfmkpkmhhlakoaa.Ints

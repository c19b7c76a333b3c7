/- The library's Sort, Compact and Contains on a slice of ints of the call's own. -/
import Derived.Test.YtfmkpkmhhlakoaaShelf
import Derived.Lib.OwnBridge
import Derived.Maps.RangeWalk
set_option linter.unusedVariables false
set_option linter.unusedSimpArgs false
namespace Go.Proofs.Ytfmkpkmhhlakoaa.Ints
open Go Go.RowKit Go.Sort Go.Lib

def sorted (zs : List Int) : List Int := zs.mergeSort fun x y => decide (x ≤ y)
theorem sorted_length (zs : List Int) : (sorted zs).length = zs.length := List.length_mergeSort _
theorem sorted_perm (zs : List Int) : (sorted zs).Perm zs := List.mergeSort_perm _ _
theorem sorted_le (zs : List Int) : (sorted zs).Pairwise (fun x y => x ≤ y) := by
  have := List.pairwise_mergeSort (le := fun x y : Int => decide (x ≤ y)) (fun a b c h1 h2 => by simp at *; omega) (fun a b => by simp; omega) zs
  exact this.imp (fun h => by simpa using h)
theorem eq_of_perm_le : ∀ {xs ys : List Int}, xs.Perm ys → xs.Pairwise (fun x y => x ≤ y) → ys.Pairwise (fun x y => x ≤ y) → xs = ys
  | [], ys, h, _, _ => by simpa using h.symm
  | x :: xs, ys, h, h1, h2 => by
    cases ys with
    | nil => simp at h
    | cons y ys =>
      obtain ⟨a1, a2⟩ := List.pairwise_cons.1 h1
      obtain ⟨b1, b2⟩ := List.pairwise_cons.1 h2
      have hxy : x = y := by
        have m1 : x ∈ y :: ys := h.mem_iff.1 (by simp)
        have m2 : y ∈ x :: xs := h.mem_iff.2 (by simp)
        rcases List.mem_cons.1 m1 with e | m1
        · exact e
        · rcases List.mem_cons.1 m2 with e | m2
          · exact e.symm
          · have := a1 y m2; have := b1 x m1; omega
      subst hxy
      rw [eq_of_perm_le h.cons_inv a2 b2]
theorem sorted_of_perm {xs ys : List Int} (h : xs.Perm ys) : sorted xs = sorted ys :=
  eq_of_perm_le ((sorted_perm xs).trans (h.trans (sorted_perm ys).symm)) (sorted_le xs) (sorted_le ys)
theorem sorted_self {xs : List Int} (h : xs.Pairwise (fun x y => x ≤ y)) : sorted xs = xs := eq_of_perm_le (sorted_perm xs) (sorted_le xs) h

theorem grownBy_putRow {w : World} {g q : Nat} {enc : Int → Value} {d : Array Int} : w.grownBy (putRow enc (Sort.ahead w q) g 0 d) (some g) :=
  ⟨rfl, rfl, rfl, by simp [putRow, mapBlock, Sort.ahead], fun k _ hk => by
    have : g ≠ k := fun e => hk (by rw [e])
    simp [putRow, mapBlock, Sort.ahead, Array.getElem?_modify, this]⟩
theorem grownBy_grow {w w1 : World} {row : Option Nat} {os : Array Obj} (h : w.grownBy w1 row) : w.grownBy (grow w1 os) row :=
  ⟨h.os, h.tape, h.output, by have := h.size; simp [grow]; omega, fun k hk hne => by
    rw [← h.block k hk hne]
    exact heap_grow_old _ _ (by have := h.size; omega)⟩
theorem ownsRow_grow {w1 : World} {base e size n : Nat} {v : Value} {xs : List Value} {os : Array Obj} (h : w1.ownsRow base e size v n xs) : (grow w1 os).ownsRow base e size v n xs :=
  h.kept (grownBy_grow ⟨rfl, rfl, rfl, Nat.le_refl _, fun _ _ _ => rfl⟩ : w1.grownBy (grow w1 os) none) (by
    cases v.ownBlock with
    | none => exact .inl rfl
    | some g => exact .inr (by simp))

theorem sort_own (w : World) (base : Nat) (v : Value) (zs : List Int) (h : w.ownsRow base 3 1 v zs.length (zs.map (Value.int .i64))) (hz : zs.length < 4611686018427387904) :
    Calls Try.prog 49 #[v] w fun e w' => e = .returned (.tuple #[]) ∧ w'.ownsRow base 3 1 v zs.length ((sorted zs).map (Value.int .i64)) ∧ w.grownBy w' v.ownBlock := by
  by_cases hv : v = .slice none 0 0
  · subst hv
    have h0 : zs = [] := by
      rcases h.2 with ⟨_, h1⟩ | ⟨g, cap, cur, e, _⟩
      · exact List.eq_nil_of_length_eq_zero h1
      · cases e
    subst h0
    refine (Try.slices_Sort_int_none none 0 w).mono ?_
    rintro e w' ⟨rfl, rfl⟩
    exact ⟨rfl, by simpa [sorted] using h, ⟨rfl, rfl, rfl, Nat.le_refl _, fun _ _ _ => rfl⟩⟩
  · obtain ⟨g, cap, rfl, hb, hg, hn, hm, hl, hH⟩ := holds_of_ownsRow h hv
    refine (Try.slices_Sort_int g 0 cap zs w hH hg hz).mono ?_
    rintro e w' ⟨rfl, n, os, rfl⟩
    refine ⟨rfl, ?_, grownBy_grow grownBy_putRow⟩
    have := ownsRow_putRow (q := n) (k := zs.length) (ys := sorted zs) h (sorted_length zs) (Nat.le_refl _)
    rw [List.take_of_length_le (by rw [sorted_length]; exact Nat.le_refl _)] at this
    exact ownsRow_grow this

def CompactOk (w : World) (base : Nat) (v : Value) (zs : List Int) (e : Ending) (w' : World) : Prop :=
  ∃ v', e = .returned v' ∧ w'.ownsRow base 3 1 v' (compact zs).length ((compact zs).map (Value.int .i64)) ∧ w.grownBy w' v.ownBlock ∧ (v' = .slice none 0 0 → zs = [])
theorem compact_own (w : World) (base : Nat) (v : Value) (zs : List Int) (h : w.ownsRow base 3 1 v zs.length (zs.map (Value.int .i64))) (hz : zs.length < 4611686018427387904) :
    Calls Try.prog 50 #[v] w (CompactOk w base v zs) := by
  by_cases hv : v = .slice none 0 0
  · subst hv
    have h0 : zs = [] := by
      rcases h.2 with ⟨_, h1⟩ | ⟨g, cap, cur, e, _⟩
      · exact List.eq_nil_of_length_eq_zero h1
      · cases e
    subst h0
    refine (Try.slices_Compact_int_empty none 0 w).mono ?_
    rintro e w' ⟨rfl, rfl⟩
    exact ⟨_, rfl, by simpa [compact, compactUpTo] using h, ⟨rfl, rfl, rfl, Nat.le_refl _, fun _ _ _ => rfl⟩, fun _ => rfl⟩
  · obtain ⟨g, cap, rfl, hb, hg, hn, hm, hl, hH⟩ := holds_of_ownsRow h hv
    refine (Try.slices_Compact_int g 0 cap zs w hH (by omega) hn).mono ?_
    rintro e w' ⟨rfl, q, rfl⟩
    have hle := compact_length_le zs
    refine ⟨_, rfl, ?_, grownBy_putRow, fun e => by cases e⟩
    have := ownsRow_putRow (q := q) (k := (compact zs).length) (ys := compact zs ++ List.replicate (zs.length - (compact zs).length) 0) h (by simp; omega) hle
    rw [List.take_left] at this
    exact this

theorem contains_own (w : World) (base : Nat) (v : Value) (zs : List Int) (x : Int) (h : w.ownsRow base 3 1 v zs.length (zs.map (Value.int .i64))) (hz : zs.length < 4611686018427387904) :
    Calls Try.prog 63 #[v, .int .i64 x] w fun e w' => e = .returned (.bool (decide (x ∈ zs))) ∧ w' = w := by
  by_cases hv : v = .slice none 0 0
  · subst hv
    have h0 : zs = [] := by
      rcases h.2 with ⟨_, h1⟩ | ⟨g, cap, cur, e, _⟩
      · exact List.eq_nil_of_length_eq_zero h1
      · cases e
    subst h0
    refine (Try.slices_Contains_int_empty none 0 x w).mono ?_
    rintro e w' ⟨rfl, rfl⟩
    exact ⟨by simp, rfl⟩
  · obtain ⟨g, cap, rfl, hb, hg, hn, hm, hl, hH⟩ := holds_of_ownsRow h hv
    refine (Try.slices_Contains_int g 0 zs.length cap zs x w (Nat.le_refl _) (by omega) (fun j hj => ?_)).mono ?_
    · have := (hH j (by simpa using hj)).1
      simpa [getElem!_pos, hj, List.getD, Nat.zero_add] using this
    · rintro e w' ⟨rfl, rfl⟩
      exact ⟨by rw [List.take_of_length_le (Nat.le_refl _)]; simp, rfl⟩
end Go.Proofs.Ytfmkpkmhhlakoaa.Ints

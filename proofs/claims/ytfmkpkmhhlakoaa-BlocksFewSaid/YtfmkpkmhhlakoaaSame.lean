/- Two slices of ints held against each other, one by one. -/
import Derived.Test.YtfmkpkmhhlakoaaProg
import Derived.WalkKit
import Derived.WalkSpells
import Derived.WalkLawsBesides
import Derived.Lib.Hide
import Derived.Deep.QuietTactic
import Derived.BigQuiet
set_option linter.unusedVariables false
set_option linter.unusedSimpArgs false
namespace Go.Proofs.Ytfmkpkmhhlakoaa.Ints
open Go Go.RowKit

/-- A slice that reads as these numbers. -/
def Rd (w : World) (a : Option Addr) (n : Nat) (zs : List Int) : Prop :=
  zs.length = n ∧ (n ≠ 0 → ∃ b off, a = some ⟨b, off, none⟩ ∧ ∀ j, j < n → w.cell? ⟨b, off + j, none⟩ = some (.int .i64 (zs.getD j 0)))

theorem rd_own {w : World} {base : Nat} {v : Value} {zs : List Int} (h : w.ownsRow base 3 1 v zs.length (zs.map (Value.int .i64))) : ∃ a c, v = .slice a zs.length c ∧ Rd w a zs.length zs := by
  rcases h.2 with ⟨rfl, h1⟩ | ⟨g, cap, cur, rfl, hb, hg, hn, hm, hs, ht⟩
  · exact ⟨none, 0, by rw [h1], rfl, fun h => absurd h1 h⟩
  · refine ⟨_, _, rfl, rfl, fun _ => ⟨g, 0, rfl, fun j hj => ?_⟩⟩
    have := h.cellAt j (by omega)
    rw [Nat.zero_add, this]
    simp [List.getD, hj]
theorem Rd.grown {w w' : World} {a : Option Addr} {n : Nat} {zs : List Int} {row : Option Nat} (h : Rd w a n zs) (hg : w.grownBy w' row) (hr : ∀ b off, a = some ⟨b, off, none⟩ → some b ≠ row) : Rd w' a n zs :=
  ⟨h.1, fun hn => by
    obtain ⟨b, off, rfl, hc⟩ := h.2 hn
    exact ⟨b, off, rfl, fun j hj => hg.cell (hc j hj) (hr b off rfl)⟩⟩

theorem rd_lit (w : World) (x : Int) : Rd (w.alloc (.cells #[.int .i64 x] 3)) (some ⟨w.heap.size, 0, none⟩) 1 [x] :=
  ⟨rfl, fun _ => ⟨_, _, rfl, fun j hj => by
    obtain rfl : j = 0 := by omega
    simp⟩⟩
theorem eq_any (x y : Int) (w : World) : Calls Try.prog 69 #[.int .i64 x, .int .i64 y] w fun e w' => e = .returned (.bool (x == y)) ∧ w' = w := by
  go_enter Try.func69, Try.ntmps69
  go_wp2
  go_ret
  exact ⟨rfl, rfl⟩

def SameOk (w : World) (r : Bool) (e : Ending) (w' : World) : Prop := e = .returned (.bool r) ∧ ∃ q, w' = w.drewN q
theorem take_succ_eq {xs ys : List Int} {k : Nat} (h1 : k < xs.length) (h2 : k < ys.length) (h : xs.take k = ys.take k) (e : xs.getD k 0 = ys.getD k 0) : xs.take (k + 1) = ys.take (k + 1) := by
  rw [List.take_succ_eq_append_getElem h1, List.take_succ_eq_append_getElem h2, h]
  simp [List.getD, h1, h2] at e
  rw [e]

set_option maxRecDepth 100000 in
theorem same_any (a1 a2 : Option Addr) (n1 c1 n2 c2 : Nat) (xs ys : List Int) (w : World) (h1 : Rd w a1 n1 xs) (h2 : Rd w a2 n2 ys) (hb : n1 ≤ 9223372036854775807) (hb2 : n2 ≤ 9223372036854775807) :
    Calls Try.prog 68 #[.slice a1 n1 c1, .slice a2 n2 c2, .func (.func 69) #[] #[]] w (SameOk w (decide (xs = ys))) := by
  obtain ⟨l1, h1⟩ := h1
  obtain ⟨l2, h2⟩ := h2
  by_cases hn : n1 = n2
  · subst hn
    have L1 := Lib.hid l1
    have L2 := Lib.hid l2
    clear l1 l2
    have hnn : ((n1 : Int) != (n1 : Int)) = false := by simp
    have H1 := Lib.hid h1
    have H2 := Lib.hid h2
    clear h1 h2
    go_enter Try.func68, Try.ntmps68
    go_wp2
    go_loopw [7] (fun i wr => ∃ k q : Nat, i = .int .i64 k ∧ k ≤ n1 ∧ xs.take k = ys.take k ∧ wr = w.drewN q) (fun i _ => n1 - (intOf i).toNat)
    case atStart => exact ⟨0, 0, rfl, Nat.zero_le _, rfl, rfl⟩
    case round =>
      obtain ⟨k, q, rfl, hk, ht, hwr⟩ := hrel
      have Ht := Lib.hid ht
      clear ht
      by_cases hlt : k < n1
      · obtain ⟨b1, o1, rfl, hc1⟩ := H1.out (by omega)
        obtain ⟨b2, o2, rfl, hc2⟩ := H2.out (by omega)
        have hx : wr.cell? ⟨b1, o1 + k, none⟩ = some (.int .i64 (xs.getD k 0)) := by rw [hwr]; exact hc1 k hlt
        have hy : wr.cell? ⟨b2, o2 + k, none⟩ = some (.int .i64 (ys.getD k 0)) := by rw [hwr]; exact hc2 k hlt
        have Hwr := Lib.hid hwr
        clear hwr
        clear hc1 hc2 H1 H2
        generalize hX : xs.getD k 0 = X at *
        generalize hY : ys.getD k 0 = Y at *
        have HX := Lib.hid hX
        have HY := Lib.hid hY
        clear hX hY
        cases hXY : X == Y
        · go_wp2
          go_quiet ((go_at_call 69; exact Calls.quiet_of_same (eq_any _ _ _)))
          go_wp2
          go_ret
          have hne : xs ≠ ys := by
            rintro rfl
            have := HX.out.symm.trans HY.out
            simp [this] at hXY
          refine ⟨by simp [hne], ?_⟩
          rw [Hwr.out]
          exact ⟨_, World.drewN_drewN ..⟩
        · go_wp2
          go_quiet ((go_at_call 69; exact Calls.quiet_of_same (eq_any _ _ _)))
          go_wp2
          go_roundw
          case rel => exact ⟨k + 1, _, by go_num, by omega, take_succ_eq (by rw [L1.out]; omega) (by rw [L2.out]; omega) Ht.out (by rw [HX.out, HY.out]; simpa using hXY), by rw [Hwr.out]; exact World.drewN_drewN ..⟩
          case measure => simp [intOf]; omega
      · have he : xs = ys := by
          have h1 := Ht.out
          rwa [List.take_of_length_le (by rw [L1.out]; omega), List.take_of_length_le (by rw [L2.out]; omega)] at h1
        have He := Lib.hid he
        clear he
        go_wp2
        go_ret
        exact ⟨by simp [He.out], q, rfl⟩
  · have hnn : ((n1 : Int) != (n2 : Int)) = true := by rw [bne_iff_ne]; omega
    have hne : xs ≠ ys := by
      rintro rfl
      exact hn (l1.symm.trans l2)
    have Hne := Lib.hid hne
    clear hne l1 l2 h1 h2
    go_enter Try.func68, Try.ntmps68
    go_wp2
    go_ret
    exact ⟨by simp [Hne.out], 0, rfl⟩

theorem plain_any (a1 a2 : Option Addr) (n1 c1 n2 c2 : Nat) (xs ys : List Int) (w : World) (h1 : Rd w a1 n1 xs) (h2 : Rd w a2 n2 ys) (hb : n1 ≤ 9223372036854775807) (hb2 : n2 ≤ 9223372036854775807) :
    Calls Try.prog 42 #[.slice a1 n1 c1, .slice a2 n2 c2] w (SameOk w (decide (xs = ys))) := by
  go_enter Try.func42, Try.ntmps42
  go_wp2_with fail
  refine (same_any a1 a2 n1 c1 n2 c2 xs ys w h1 h2 hb hb2).mono ?_
  rintro e w' ⟨rfl, q, rfl⟩
  go_wp2
  go_ret
  exact ⟨rfl, _, rfl⟩

set_option maxRecDepth 100000 in
theorem in_any (a : Option Addr) (n c : Nat) (zs : List Int) (x : Int) (w : World) (h : Rd w a n zs) (hb : n ≤ 9223372036854775807) :
    Calls Try.prog 33 #[.slice a n c, .int .i64 x] w fun e w' => e = .returned (.bool (decide (x ∈ zs))) ∧ w' = w := by
  obtain ⟨l1, h1⟩ := h
  have L1 := Lib.hid l1
  have H1 := Lib.hid h1
  clear l1 h1
  go_enter Try.func33, Try.ntmps33
  go_wp2
  go_loopw [5] (fun i wr => ∃ k : Nat, i = .int .i64 k ∧ k ≤ n ∧ (∀ j, j < k → zs.getD j 0 ≠ x) ∧ w = wr) (fun i _ => n - (intOf i).toNat)
  case atStart => exact ⟨0, rfl, Nat.zero_le _, fun j hj => absurd hj (Nat.not_lt_zero _), by first | rfl | trivial⟩
  case round =>
    obtain ⟨k, rfl, hk, ht, rfl⟩ := hrel
    have Ht := Lib.hid ht
    clear ht
    by_cases hlt : k < n
    · obtain ⟨b, off, rfl, hc⟩ := H1.out (by omega)
      have hx := hc k hlt
      clear hc
      generalize hX : zs.getD k 0 = X at *
      have HX := Lib.hid hX
      clear hX
      cases hXx : X == x
      · go_wp2
        go_roundw
        case rel => exact ⟨k + 1, by go_num, by omega, fun j hj => by
          by_cases e : j = k
          · rw [e, HX.out]; simpa using hXx
          · exact Ht.out j (by omega), by first | rfl | trivial⟩
        case measure => simp [intOf]; omega
      · have hm : x ∈ zs := by
          have e1 : X = x := by simpa using hXx
          rw [← e1, ← HX.out]
          have hkl : k < zs.length := by rw [L1.out]; exact hlt
          simp [List.getD, hkl]
        have Hm := Lib.hid hm
        clear hm
        go_wp2
        go_ret
        exact ⟨by simp [Hm.out], rfl⟩
    · have hm : ¬ x ∈ zs := by
        intro hx
        obtain ⟨j, hj, e⟩ := List.getElem_of_mem hx
        rw [L1.out] at hj
        refine Ht.out j (by omega) ?_
        have hjl : j < zs.length := by rw [L1.out]; exact hj
        simpa [List.getD, hjl] using e
      have Hm := Lib.hid hm
      clear hm
      go_wp2
      go_ret
      exact ⟨by simp [Hm.out], rfl⟩
end Go.Proofs.Ytfmkpkmhhlakoaa.Ints

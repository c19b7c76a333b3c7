/- slices.Contains of a row of numbers that is read; nor.Right and play.Geometry in plain words. -/
import Derived.Test.YtfmkpkmhhlakoaaSame
import Derived.Test.YtfmkpkmhhlakoaaPSpaceCountsx3
import Derived.Test.YtfmkpkmhhlakoaaPBlocksTellx1
set_option linter.unusedVariables false
set_option linter.unusedSimpArgs false
namespace Go.Proofs.Ytfmkpkmhhlakoaa.Ints
open Go Go.RowKit

set_option maxRecDepth 100000 in
theorem index_any (a : Option Addr) (n c : Nat) (zs : List Int) (x : Int) (w : World) (h : Rd w a n zs) (hb : n ≤ 9223372036854775807) :
    Calls Try.prog 86 #[.slice a n c, .int .i64 x] w fun e w' => (∃ r : Int, e = .returned (.int .i64 r) ∧ decide (0 ≤ r) = decide (x ∈ zs)) ∧ w' = w := by
  obtain ⟨l1, h1⟩ := h
  have L1 := Lib.hid l1
  have H1 := Lib.hid h1
  clear l1 h1
  go_enter Try.func86, Try.ntmps86
  go_wp2
  go_loopw [8] (fun i wr => ∃ k : Nat, i = .int .i64 k ∧ k ≤ n ∧ (∀ j, j < k → zs.getD j 0 ≠ x) ∧ w = wr) (fun i _ => n - (intOf i).toNat)
  case atStart => exact ⟨0, rfl, Nat.zero_le _, fun j hj => absurd hj (Nat.not_lt_zero _), by first | rfl | trivial⟩
  case round =>
    obtain ⟨k, rfl, hk, ht, rfl⟩ := hrel
    have Ht := Lib.hid ht
    clear ht
    by_cases hlt : k < n
    · obtain ⟨b, off, rfl, hc⟩ := H1.out (by omega)
      have hx := hc k hlt
      clear hc
      generalize hX : zs.getD k 0 = X at *
      have HX := Lib.hid hX
      clear hX
      cases hXx : x == X
      · go_wp2
        go_roundw
        case rel => exact ⟨k + 1, by go_num, by omega, fun j hj => by
          by_cases e : j = k
          · rw [e, HX.out]
            have : ¬ x = X := by simpa using hXx
            exact fun h => this h.symm
          · exact Ht.out j (by omega), by first | rfl | trivial⟩
        case measure => simp [intOf]; omega
      · have hm : x ∈ zs := by
          have e1 : x = X := by simpa using hXx
          rw [e1, ← HX.out]
          have hkl : k < zs.length := by rw [L1.out]; exact hlt
          simp [List.getD, hkl]
        have Hm := Lib.hid hm
        clear hm
        go_wp2
        go_ret
        exact ⟨⟨(k : Int), rfl, by simp [Hm.out]⟩, rfl⟩
    · have hm : ¬ x ∈ zs := by
        intro hx
        obtain ⟨j, hj, e⟩ := List.getElem_of_mem hx
        rw [L1.out] at hj
        refine Ht.out j (by omega) ?_
        have hjl : j < zs.length := by rw [L1.out]; exact hj
        simpa [List.getD, hjl] using e
      have Hm := Lib.hid hm
      clear hm
      go_wp2
      go_ret
      exact ⟨⟨-1, rfl, by simp [Hm.out]⟩, rfl⟩
theorem contains_any (a : Option Addr) (n c : Nat) (zs : List Int) (x : Int) (w : World) (h : Rd w a n zs) (hb : n ≤ 9223372036854775807) :
    Calls Try.prog 63 #[.slice a n c, .int .i64 x] w fun e w' => e = .returned (.bool (decide (x ∈ zs))) ∧ w' = w := by
  have HI := Lib.hid (index_any a n c zs x w h hb)
  clear h
  go_enter Try.func63, Try.ntmps63
  go_wp2_with fail
  refine HI.out.mono ?_
  rintro e w' ⟨⟨r, rfl, hr⟩, rfl⟩
  go_wp2
  go_ret
  exact ⟨by simp [← hr], rfl⟩

/-! ### geometries -/
def norRight (a b c d e : Int) : Prop := a.tmod 2 = 0 ∧ (2 ≤ a ∧ a ≤ 16) ∧ (256 ≤ b ∧ b ≤ 4096) ∧ (4 ≤ c ∧ c ≤ 64) ∧ (2 ≤ d ∧ d ≤ 32) ∧ (16 ≤ e ∧ e ≤ 256)
instance (a b c d e : Int) : Decidable (norRight a b c d e) := by unfold norRight; infer_instance
open Go.Proofs.Ytfmkpkmhhlakoaa.PSpaceCounts in
theorem within_f (a b c : Int) : nor_within.f a b c = some (decide (b ≤ a ∧ a ≤ c)) := by
  unfold nor_within.f
  by_cases h : a ≥ b <;> simp [h, show (b ≤ a) ↔ a ≥ b from Iff.rfl]
open Go.Proofs.Ytfmkpkmhhlakoaa.PSpaceCounts in
theorem right_f (a b c d e : Int) : nor_Right.f a b c d e = some (decide (norRight a b c d e)) := by
  have hu : norRight a b c d e ↔ (a.tmod 2 = 0 ∧ (2 ≤ a ∧ a ≤ 16) ∧ (256 ≤ b ∧ b ≤ 4096) ∧ (4 ≤ c ∧ c ≤ 64) ∧ (2 ≤ d ∧ d ≤ 32) ∧ (16 ≤ e ∧ e ≤ 256)) := Iff.rfl
  unfold nor_Right.f
  simp only [within_f, Option.bind_some]
  by_cases h0 : a.tmod 2 = 0
  · rw [if_pos h0]
    by_cases h1 : 2 ≤ a ∧ a ≤ 16
    · rw [if_pos (decide_eq_true h1)]
      by_cases h2 : 256 ≤ b ∧ b ≤ 4096
      · rw [if_pos (decide_eq_true h2)]
        by_cases h3 : 4 ≤ c ∧ c ≤ 64
        · rw [if_pos (decide_eq_true h3)]
          by_cases h4 : 2 ≤ d ∧ d ≤ 32
          · rw [if_pos (decide_eq_true h4)]
            by_cases h5 : 16 ≤ e ∧ e ≤ 256
            · exact congrArg some ((decide_eq_true h5).trans (decide_eq_true (hu.2 ⟨h0, h1, h2, h3, h4, h5⟩)).symm)
            · exact congrArg some ((decide_eq_false h5).trans (decide_eq_false (fun h => h5 (hu.1 h).2.2.2.2.2)).symm)
          · rw [if_neg (by simpa using h4)]
            exact congrArg some (decide_eq_false (fun h => h4 (hu.1 h).2.2.2.2.1)).symm
        · rw [if_neg (by simpa using h3)]
          exact congrArg some (decide_eq_false (fun h => h3 (hu.1 h).2.2.2.1)).symm
      · rw [if_neg (by simpa using h2)]
        exact congrArg some (decide_eq_false (fun h => h2 (hu.1 h).2.2.1)).symm
    · rw [if_neg (by simpa using h1)]
      exact congrArg some (decide_eq_false (fun h => h1 (hu.1 h).2.1)).symm
  · rw [if_neg h0]
    exact congrArg some (decide_eq_false (fun h => h0 (hu.1 h).1)).symm
open Go.Proofs.Ytfmkpkmhhlakoaa.PSpaceCounts in
theorem norRight_any (a b c d e : Int) (w : World) : Calls Try.prog 62 #[.agg #[.int .i64 a, .int .i64 b, .int .i64 c, .int .i64 d, .int .i64 e]] w fun x w' => x = .returned (.bool (decide (norRight a b c d e))) ∧ w.grownBy w' none := by
  refine (nor_Right.calls a b c d e _ w (right_f a b c d e)).mono ?_
  rintro x w' ⟨h, hb⟩
  exact ⟨h, ⟨hb.os, hb.tape, hb.output, hb.size, fun k hk _ => hb.block k hk⟩⟩
def mod (a n : Int) : Int := (IntKind.u64.wrap a).tmod n
theorem mod_lt (a : Int) (n : Nat) (hn : 0 < n) : 0 ≤ mod a n ∧ mod a n < n := by
  have h : 0 ≤ IntKind.u64.wrap a := by
    show 0 ≤ a % _
    omega
  exact ⟨Int.tmod_nonneg (n : Int) h, Int.tmod_lt_of_pos (IntKind.u64.wrap a) (show (0 : Int) < n by omega)⟩
open Go.Proofs.Ytfmkpkmhhlakoaa.PBlocksTell in
theorem mod_f (a : Int) (n : Nat) (hn : 0 < n) (hm : n ≤ 1000) : garretplay_mod.f a n = some (mod a n) := by
  have e : IntKind.u64.wrap (n : Int) = n := by
    show (n : Int) % 18446744073709551616 = n
    omega
  unfold garretplay_mod.f
  rw [e, if_neg (by omega)]
  have := mod_lt a n hn
  unfold mod at this ⊢
  congr 1
  unfold wrap64
  omega
open Go.Proofs.Ytfmkpkmhhlakoaa.PBlocksTell in
theorem geometry_any (a b c d e : Int) (w : World) : Calls Try.prog 21 #[.agg #[.int .i64 a, .int .i64 b, .int .i64 c, .int .i64 d, .int .i64 e]] w fun x w' =>
    x = .returned (.agg #[.int .i64 (2 + 2 * mod a 3), .int .i64 (256 + 64 * mod b 12), .int .i64 (4 + mod c 5), .int .i64 (2 + mod d 5), .int .i64 (16 + 4 * mod e 6)]) ∧ w.grownBy w' none := by
  have h1 : 0 ≤ mod a 3 ∧ mod a 3 < 3 := mod_lt a 3 (by omega)
  have h2 : 0 ≤ mod b 12 ∧ mod b 12 < 12 := mod_lt b 12 (by omega)
  have h3 : 0 ≤ mod c 5 ∧ mod c 5 < 5 := mod_lt c 5 (by omega)
  have h4 : 0 ≤ mod d 5 ∧ mod d 5 < 5 := mod_lt d 5 (by omega)
  have h5 : 0 ≤ mod e 6 ∧ mod e 6 < 6 := mod_lt e 6 (by omega)
  have hf : garretplay_Geometry.f a b c d e = some (2 + 2 * mod a 3, 256 + 64 * mod b 12, 4 + mod c 5, 2 + mod d 5, 16 + 4 * mod e 6) := by
    unfold garretplay_Geometry.f
    have e1 : garretplay_mod.f a 3 = some (mod a 3) := mod_f a 3 (by omega) (by omega)
    have e2 : garretplay_mod.f b 12 = some (mod b 12) := mod_f b 12 (by omega) (by omega)
    have e3 : garretplay_mod.f c 5 = some (mod c 5) := mod_f c 5 (by omega) (by omega)
    have e4 : garretplay_mod.f d 5 = some (mod d 5) := mod_f d 5 (by omega) (by omega)
    have e5 : garretplay_mod.f e 6 = some (mod e 6) := mod_f e 6 (by omega) (by omega)
    rw [e1, e2, e3, e4, e5]
    simp only [Option.bind_some]
    unfold wrap64
    congr 1
    simp only [Prod.mk.injEq]
    omega
  refine (garretplay_Geometry.calls a b c d e _ _ _ _ _ w hf).mono ?_
  rintro x w' ⟨h, hb⟩
  exact ⟨h, ⟨hb.os, hb.tape, hb.output, hb.size, fun k hk _ => hb.block k hk⟩⟩
theorem geometry_right (a b c d e : Int) : norRight (2 + 2 * mod a 3) (256 + 64 * mod b 12) (4 + mod c 5) (2 + mod d 5) (16 + 4 * mod e 6) := by
  have h1 : 0 ≤ mod a 3 ∧ mod a 3 < 3 := mod_lt a 3 (by omega)
  have h2 : 0 ≤ mod b 12 ∧ mod b 12 < 12 := mod_lt b 12 (by omega)
  have h3 : 0 ≤ mod c 5 ∧ mod c 5 < 5 := mod_lt c 5 (by omega)
  have h4 : 0 ≤ mod d 5 ∧ mod d 5 < 5 := mod_lt d 5 (by omega)
  have h5 : 0 ≤ mod e 6 ∧ mod e 6 < 6 := mod_lt e 6 (by omega)
  unfold norRight
  have e1 : (2 + 2 * mod a 3).tmod 2 = 0 := by
    rw [Int.tmod_eq_emod_of_nonneg (by omega)]
    omega
  omega
end Go.Proofs.Ytfmkpkmhhlakoaa.Ints

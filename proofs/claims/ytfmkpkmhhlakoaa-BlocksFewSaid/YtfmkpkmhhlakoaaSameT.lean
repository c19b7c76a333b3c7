/- garrethelp.Plain of two rows of tags. -/
import Derived.Test.YtfmkpkmhhlakoaaLiveT
set_option linter.unusedVariables false
set_option linter.unusedSimpArgs false
namespace Go.Proofs.Ytfmkpkmhhlakoaa.Bk
open Go.RowKit Go.Proofs.Ytfmkpkmhhlakoaa.Mx Go.Proofs.Ytfmkpkmhhlakoaa.Rn Go.Proofs.YtfmkpkmhhlakoaaW.PrintWords Go.Proofs.Ytfmkpkmhhlakoaa.PBlocksTell Go.Proofs.Ytfmkpkmhhlakoaa.Ints

/-- A slice that reads as these tags. -/
def RdT (w : World) (a : Option Addr) (n : Nat) (ts : List (Int × Int)) : Prop :=
  ts.length = n ∧ (n ≠ 0 → ∃ b off, a = some ⟨b, off, none⟩ ∧ ∀ j, j < n → w.cell? ⟨b, off + j * 3, none⟩ = some (.int .i64 (ts.getD j (0, 0)).1) ∧ w.cell? ⟨b, off + j * 3 + 1, none⟩ = some (.int .i64 (ts.getD j (0, 0)).2) ∧ w.cell? ⟨b, off + j * 3 + 2, none⟩ = some (.int .u32 0))
theorem RdT.grown {w w' : World} {a : Option Addr} {n : Nat} {ts : List (Int × Int)} (h : RdT w a n ts) (hg : w.grownBy w' none) : RdT w' a n ts :=
  ⟨h.1, fun hn => by
    obtain ⟨b, off, rfl, hc⟩ := h.2 hn
    exact ⟨b, off, rfl, fun j hj => ⟨hg.cell (hc j hj).1 (by simp), hg.cell (hc j hj).2.1 (by simp), hg.cell (hc j hj).2.2 (by simp)⟩⟩⟩

theorem eqT_any (a b c d : Int) (w : World) : Calls Try.prog 55 #[.agg #[.int .i64 a, .int .i64 b, .int .u32 0], .agg #[.int .i64 c, .int .i64 d, .int .u32 0]] w fun e w' => e = .returned (.bool (decide ((a, b) = (c, d)))) ∧ w.grownBy w' none := by
  go_enter Try.func55, Try.ntmps55
  go_wp2
  all_goals
    go_ret
    exact ⟨by simp [*], (World.grownBy_alloc _ _ none).trans (World.grownBy_alloc _ _ none)⟩
def SameTOk (w : World) (r : Bool) (e : Ending) (w' : World) : Prop := e = .returned (.bool r) ∧ w.grownBy w' none
theorem takeT_succ_eq {xs ys : List (Int × Int)} {k : Nat} (h1 : k < xs.length) (h2 : k < ys.length) (h : xs.take k = ys.take k) (e : xs.getD k (0, 0) = ys.getD k (0, 0)) : xs.take (k + 1) = ys.take (k + 1) := by
  rw [List.take_succ_eq_append_getElem h1, List.take_succ_eq_append_getElem h2, h]
  simp [List.getD, h1, h2] at e
  rw [e]

set_option maxHeartbeats 2000000 in
set_option maxRecDepth 100000 in
theorem sameT_any (a1 a2 : Option Addr) (n1 c1 n2 c2 : Nat) (xs ys : List (Int × Int)) (w : World) (h1 : RdT w a1 n1 xs) (h2 : RdT w a2 n2 ys) (hb : n1 ≤ 9223372036854775807) (hb2 : n2 ≤ 9223372036854775807) :
    Calls Try.prog 54 #[.slice a1 n1 c1, .slice a2 n2 c2, .func (.func 55) #[] #[]] w (SameTOk w (decide (xs = ys))) := by
  obtain ⟨l1, h1⟩ := h1
  obtain ⟨l2, h2⟩ := h2
  by_cases hn : n1 = n2
  · subst hn
    have L1 := Lib.hid l1
    have L2 := Lib.hid l2
    clear l1 l2
    have hnn : ((n1 : Int) != (n1 : Int)) = false := by simp
    have H1 := Lib.hid h1
    have H2 := Lib.hid h2
    clear h1 h2
    go_enter Try.func54, Try.ntmps54
    go_wp2
    go_loopw [7] (fun i wr => ∃ k : Nat, i = .int .i64 k ∧ k ≤ n1 ∧ xs.take k = ys.take k ∧ w.grownBy wr none) (fun i _ => n1 - (intOf i).toNat)
    case atStart => exact ⟨0, rfl, Nat.zero_le _, rfl, World.grownBy.refl _ _⟩
    case round =>
      obtain ⟨k, rfl, hk, ht, hwr⟩ := hrel
      have Ht := Lib.hid ht
      clear ht
      by_cases hlt : k < n1
      · obtain ⟨b1, o1, rfl, hc1⟩ := H1.out (by omega)
        obtain ⟨b2, o2, rfl, hc2⟩ := H2.out (by omega)
        obtain ⟨x0, x1, x2⟩ := hc1 k hlt
        obtain ⟨y0, y1, y2⟩ := hc2 k hlt
        have x0 := hwr.cell x0 (by simp)
        have x1 := hwr.cell x1 (by simp)
        have x2 := hwr.cell x2 (by simp)
        have y0 := hwr.cell y0 (by simp)
        have y1 := hwr.cell y1 (by simp)
        have y2 := hwr.cell y2 (by simp)
        clear hc1 hc2 H1 H2
        generalize hX : xs.getD k (0, 0) = X at *
        generalize hY : ys.getD k (0, 0) = Y at *
        have HX := Lib.hid hX
        have HY := Lib.hid hY
        clear hX hY
        obtain ⟨p1, p2⟩ := X
        obtain ⟨q1, q2⟩ := Y
        simp only at x0 x1 y0 y1
        have HE := Lib.hid (fun W => eqT_any p1 p2 q1 q2 W)
        rcases hXY : decide ((p1, p2) = (q1, q2)) with _ | _
        · rw [hXY] at HE
          go_wp2
          go_still_tail 9, (by kernel_rfl)
          change wpList _ _ _ _ _ (World.drew _)
          go_wp2_with fail
          refine (HE.out _).mono ?_
          rintro e w3 ⟨rfl, hg3⟩
          go_wp2
          go_ret
          have hne : xs ≠ ys := by
            rintro rfl
            have := HX.out.symm.trans HY.out
            simp [this] at hXY
          exact ⟨by simp [hne], hwr.trans ⟨hg3.os, hg3.tape, hg3.output, hg3.size, hg3.block⟩⟩
        · rw [hXY] at HE
          go_wp2
          go_still_tail 9, (by kernel_rfl)
          change wpList _ _ _ _ _ (World.drew _)
          go_wp2_with fail
          refine (HE.out _).mono ?_
          rintro e w3 ⟨rfl, hg3⟩
          go_wp2
          go_roundw
          case rel => exact ⟨k + 1, by go_num, by omega, takeT_succ_eq (by rw [L1.out]; omega) (by rw [L2.out]; omega) Ht.out (by rw [HX.out, HY.out]; exact of_decide_eq_true hXY), hwr.trans ⟨hg3.os, hg3.tape, hg3.output, hg3.size, hg3.block⟩⟩
          case measure => simp [intOf]; omega
      · have he : xs = ys := by
          have h1 := Ht.out
          rwa [List.take_of_length_le (by rw [L1.out]; omega), List.take_of_length_le (by rw [L2.out]; omega)] at h1
        have He := Lib.hid he
        clear he
        go_wp2
        go_ret
        exact ⟨by simp [He.out], hwr⟩
  · have hnn : ((n1 : Int) != (n2 : Int)) = true := by rw [bne_iff_ne]; omega
    have hne : xs ≠ ys := by
      rintro rfl
      exact hn (l1.symm.trans l2)
    have Hne := Lib.hid hne
    clear hne l1 l2 h1 h2
    go_enter Try.func54, Try.ntmps54
    go_wp2
    go_ret
    exact ⟨by simp [Hne.out], World.grownBy.refl _ _⟩

theorem plainT_any (a1 a2 : Option Addr) (n1 c1 n2 c2 : Nat) (xs ys : List (Int × Int)) (w : World) (h1 : RdT w a1 n1 xs) (h2 : RdT w a2 n2 ys) (hb : n1 ≤ 9223372036854775807) (hb2 : n2 ≤ 9223372036854775807) :
    Calls Try.prog 23 #[.slice a1 n1 c1, .slice a2 n2 c2] w (SameTOk w (decide (xs = ys))) := by
  go_enter Try.func23, Try.ntmps23
  go_wp2_with fail
  refine (sameT_any a1 a2 n1 c1 n2 c2 xs ys w h1 h2 hb hb2).mono ?_
  rintro e w' ⟨rfl, hg⟩
  go_wp2
  go_ret
  exact ⟨rfl, hg⟩
theorem flat_get {α β : Type} (f : α → List β) (size : Nat) (hf : ∀ x, (f x).length = size) : ∀ (ts : List α) (j r : Nat) (hj : j < ts.length), r < size → (ts.flatMap f)[j * size + r]? = (f ts[j])[r]?
  | [], j, r, hj, _ => absurd hj (Nat.not_lt_zero _)
  | t :: ts, 0, r, hj, hr => by
    rw [List.flatMap_cons, List.getElem?_append_left (by rw [hf]; omega)]
    simp
  | t :: ts, j + 1, r, hj, hr => by
    rw [List.flatMap_cons, List.getElem?_append_right (by rw [hf, Nat.add_mul]; omega), hf]
    have e : (j + 1) * size + r - size = j * size + r := by rw [Nat.add_mul]; omega
    rw [e, flat_get f size hf ts j r (by simpa using hj) hr]
    rfl
/-- A row of tags of the call's own reads so. -/
theorem rdT_own {w : World} {base : Nat} {v : Value} {ts : List (Int × Int)} (h : w.ownsRow base 50 3 v ts.length (ts.flatMap tagC)) : ∃ a c, v = .slice a ts.length c ∧ RdT w a ts.length ts := by
  rcases h.2 with ⟨rfl, h1⟩ | ⟨g, cap, cur, rfl, hb, hg, hn, hm, hs, ht⟩
  · exact ⟨none, 0, by rw [h1], rfl, fun h => absurd h1 h⟩
  · refine ⟨_, _, rfl, rfl, fun _ => ⟨g, 0, rfl, fun j hj => ?_⟩⟩
    have e : ts.getD j (0, 0) = ts[j] := by simp [List.getD, hj]
    have hc := fun r (hr : r < 3) => (h.cellAt (j * 3 + r) (by omega)).trans (flat_get tagC 3 (fun _ => rfl) ts j r hj hr)
    rw [e, Nat.zero_add]
    exact ⟨hc 0 (by omega), hc 1 (by omega), hc 2 (by omega)⟩
end Go.Proofs.Ytfmkpkmhhlakoaa.Bk

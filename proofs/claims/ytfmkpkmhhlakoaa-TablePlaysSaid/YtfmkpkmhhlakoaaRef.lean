/- The reference's table: an array in memory. -/
import Derived.Test.YtfmkpkmhhlakoaaTab
import Derived.Test.YtfmkpkmhhlakoaaNums
import Derived.Test.YtfmkpkmhhlakoaaSame
import Derived.Test.YtfmkpkmhhlakoaaApp
import Derived.Deep.RegionLaw
set_option linter.unusedVariables false
set_option linter.unusedSimpArgs false
namespace Go.Proofs.Ytfmkpkmhhlakoaa.Tab
open Go.RowKit Go.Proofs.Ytfmkpkmhhlakoaa.Mx

structure RefAt (w : World) (rb : Nat) (f : Int → Op) : Prop where
  lt : rb < w.heap.size
  c0 : ∀ i : Nat, i < 16 → w.cell? ⟨rb, i * 3, none⟩ = some (.int .i64 (f i).no)
  c1 : ∀ i : Nat, i < 16 → w.cell? ⟨rb, i * 3 + 1, none⟩ = some (.int .i64 (f i).fl)
  c2 : ∀ i : Nat, i < 16 → w.cell? ⟨rb, i * 3 + 2, none⟩ = some (.int .i64 (f i).pos)
  fr : ∀ j, w.frozen? ⟨rb, j, none⟩ = false
theorem RefAt.kept {w w' : World} {rb : Nat} {f : Int → Op} {row : Option Nat} (h : RefAt w rb f) (hg : w.grownBy w' row) (hr : some rb ≠ row) : RefAt w' rb f :=
  ⟨Nat.lt_of_lt_of_le h.lt hg.size, fun i hi => hg.cell (h.c0 i hi) hr, fun i hi => hg.cell (h.c1 i hi) hr, fun i hi => hg.cell (h.c2 i hi) hr,
    fun j => (World.frozen?_of_block (hg.block rb h.lt hr)).trans (h.fr j)⟩
/-- What the reference finds. -/
def rget (f : Int → Op) (fd : Int) : Option Op := if 0 ≤ fd ∧ fd < 16 ∧ (f fd).no ≠ 0 then some (f fd) else none

set_option maxRecDepth 100000 in
theorem rget_out (w : World) (rb : Nat) (f : Int → Op) (fd : Int) (h : RefAt w rb f) (ho : fd < 0 ∨ 16 ≤ fd) :
    Calls Try.prog 44 #[.pointer (some ⟨rb, 0, none⟩), .int .i64 fd] w fun e w' => e = .returned (.tuple #[.agg #[.int .i64 0, .int .i64 0, .int .i64 0], .bool false]) ∧ w.grownBy w' none := by
  rcases ho with ho | ho
  all_goals
    go_enter Try.func44, Try.ntmps44
    go_wp2
    exact bodyPost_ret (v := .tuple #[.agg #[.int .i64 0, .int .i64 0, .int .i64 0], .bool false]) (by simp [results, Try.results44, go_sem]) rfl ⟨rfl, World.grownBy_alloc _ _ none⟩

set_option maxRecDepth 100000 in
theorem rget_in (w : World) (rb : Nat) (f : Int → Op) (k : Nat) (hk : k < 16) (h : RefAt w rb f) :
    Calls Try.prog 44 #[.pointer (some ⟨rb, 0, none⟩), .int .i64 k] w fun e w' =>
      e = .returned (if (f k).no = 0 then .tuple #[.agg #[.int .i64 0, .int .i64 0, .int .i64 0], .bool false] else .tuple #[.agg #[.int .i64 (f k).no, .int .i64 (f k).fl, .int .i64 (f k).pos], .bool true]) ∧ w.grownBy w' none := by
  have h0 := h.c0 k hk
  have h1 := h.c1 k hk
  have h2 := h.c2 k hk
  have hlt := h.lt
  have hb1 : decide ((k : Int) < 0) = false := by simp
  have hb2 : decide ((16 : Int) ≤ (k : Int)) = false := by simp; omega
  by_cases hz : (f k).no = 0
  · rw [hz] at h0
    rw [if_pos hz]
    clear hz
    go_enter Try.func44, Try.ntmps44
    go_wp2
    exact bodyPost_ret (v := .tuple #[.agg #[.int .i64 0, .int .i64 0, .int .i64 0], .bool false]) (by simp [results, Try.results44, go_sem]) rfl ⟨rfl, World.grownBy_alloc _ _ none⟩
  · rw [if_neg hz]
    generalize (f k).no = no at *
    generalize (f k).fl = fl at *
    generalize (f k).pos = pos at *
    have hzb : (no == 0) = false := by simpa using hz
    clear hz
    go_enter Try.func44, Try.ntmps44
    go_wp2
    exact bodyPost_ret (v := .tuple #[.agg #[.int .i64 no, .int .i64 fl, .int .i64 pos], .bool true]) (by simp [results, Try.results44, go_sem]) rfl ⟨rfl, World.grownBy_alloc _ _ none⟩

/-! ### the array written -/
def upd (f : Int → Op) (k : Nat) (o : Op) : Int → Op := fun j => if j = k then o else f j
theorem size_setCells (b : Nat) : ∀ (vs : List Value) (o : Nat) (w : World), (w.setCells b o vs).heap.size = w.heap.size
  | [], _, _ => rfl
  | v :: vs, o, w => by
    show ((w.setCell ⟨b, o, none⟩ v).setCells b (o + 1) vs).heap.size = _
    rw [size_setCells b vs]
    simp
theorem grownBy_setCell (w : World) (a : Addr) (v : Value) : w.grownBy (w.setCell a v) (some a.block) :=
  ⟨rfl, rfl, rfl, by simp, fun k _ hk => Below.heap_setCell _ _ _ _ (fun e => hk (by rw [e]))⟩
theorem grownBy_setCells (b : Nat) : ∀ (vs : List Value) (o : Nat) (w : World), w.grownBy (w.setCells b o vs) (some b)
  | [], _, w => ⟨rfl, rfl, rfl, Nat.le_refl _, fun _ _ _ => rfl⟩
  | v :: vs, o, w => (grownBy_setCell w ⟨b, o, none⟩ v).trans (grownBy_setCells b vs (o + 1) _)
theorem RefAt.setPos {w : World} {rb : Nat} {f : Int → Op} (h : RefAt w rb f) (k : Nat) (hk : k < 16) (pos : Int) : RefAt (w.setCell ⟨rb, k * 3 + 2, none⟩ (.int .i64 pos)) rb (upd f k { f k with pos := pos }) := by
  have oth : ∀ j v, j ≠ k * 3 + 2 → w.cell? ⟨rb, j, none⟩ = some v → (w.setCell ⟨rb, k * 3 + 2, none⟩ (.int .i64 pos)).cell? ⟨rb, j, none⟩ = some v := fun j v hj hv => by
    rw [World.cell?_setCell_other]
    · exact hv
    · intro e; injection e with _ e2 _; exact hj e2.symm
  refine ⟨by simpa using h.lt, fun i hi => ?_, fun i hi => ?_, fun i hi => ?_, fun j => by simpa using h.fr j⟩
  · refine oth _ _ (by omega) ?_
    rw [h.c0 i hi]
    unfold upd
    by_cases e : (i : Int) = k
    · rw [if_pos e, e]
    · rw [if_neg e]
  · refine oth _ _ (by omega) ?_
    rw [h.c1 i hi]
    unfold upd
    by_cases e : (i : Int) = k
    · rw [if_pos e, e]
    · rw [if_neg e]
  · unfold upd
    by_cases e : (i : Int) = k
    · have : i = k := by omega
      subst this
      rw [if_pos rfl]
      apply World.cell?_setCell_same; exact h.c2 i hi
    · rw [if_neg e]
      exact oth _ _ (by omega) (h.c2 i hi)
theorem RefAt.put {w : World} {rb : Nat} {f : Int → Op} (h : RefAt w rb f) (k : Nat) (hk : k < 16) (o : Op) : RefAt (w.setCells rb (k * 3) [.int .i64 o.no, .int .i64 o.fl, .int .i64 o.pos]) rb (upd f k o) := by
  have lay : ∀ j, j < 48 → (w.cell? ⟨rb, j, none⟩).isSome = true := fun j hj => by
    have e : j = (j / 3) * 3 ∨ j = (j / 3) * 3 + 1 ∨ j = (j / 3) * 3 + 2 := by omega
    rcases e with e | e | e
    · rw [e, h.c0 _ (by omega)]; rfl
    · rw [e, h.c1 _ (by omega)]; rfl
    · rw [e, h.c2 _ (by omega)]; rfl
  have oth : ∀ j, (j < k * 3 ∨ k * 3 + 3 ≤ j) → (w.setCells rb (k * 3) [.int .i64 o.no, .int .i64 o.fl, .int .i64 o.pos]).cell? ⟨rb, j, none⟩ = w.cell? ⟨rb, j, none⟩ := fun j hj =>
    World.cell?_setCells_out rb _ _ w _ (fun _ _ => by simpa using hj)
  have inn := World.cell?_setCells_in rb [.int .i64 o.no, .int .i64 o.fl, .int .i64 o.pos] (k * 3) w (fun j hj => lay _ (by simp at hj; omega))
  refine ⟨by rw [size_setCells]; exact h.lt, fun i hi => ?_, fun i hi => ?_, fun i hi => ?_, fun j => by rw [World.frozen?_setCells]; exact h.fr j⟩
  all_goals
    unfold upd
    by_cases e : (i : Int) = k
    · have : i = k := by omega
      subst this
      rw [if_pos rfl]
      first
        | exact inn 0 (by simp)
        | exact inn 1 (by simp)
        | exact inn 2 (by simp)
    · rw [if_neg e, oth _ (by omega)]
      first | exact h.c0 i hi | exact h.c1 i hi | exact h.c2 i hi
theorem rmove_in (w : World) (rb : Nat) (f : Int → Op) (k : Nat) (pos : Int) (hk : k < 16) (h : RefAt w rb f) (hn : (f k).no ≠ 0) (hp : ¬ pos < 0) :
    Calls Try.prog 38 #[.pointer (some ⟨rb, 0, none⟩), .int .i64 k, .int .i64 pos] w fun e w' =>
      e = .returned (.int .i64 0) ∧ RefAt w' rb (upd f k { f k with pos := pos }) ∧ w.grownBy w' (some rb) := by
  have hG := rget_in w rb f k hk h
  rw [if_neg hn] at hG
  have HG := Lib.hid hG
  clear hG
  have hlt := h.lt
  go_enter Try.func38, Try.ntmps38
  go_wp2_with fail
  refine HG.out.mono ?_
  rintro e w1 ⟨rfl, hg1⟩
  have h1 := (h.kept hg1 (by simp)).kept (World.grownBy_alloc w1 (.cells #[.int .i64 (f k).no, .int .i64 (f k).fl, .int .i64 (f k).pos] 32) none) (by simp)
  have c2 := h1.c2 k hk
  have hfr := h1.fr (k * 3 + 2)
  have hg2 := hg1.trans (World.grownBy_alloc w1 (.cells #[.int .i64 (f k).no, .int .i64 (f k).fl, .int .i64 (f k).pos] 32) none)
  have hsz : w1.heap.size ≠ rb := by have := hg1.size; omega
  go_wp2
  go_ret
  exact ⟨rfl, h1.setPos k hk pos, (hg2.but _).trans (grownBy_setCell _ _ _)⟩

theorem rmove_bad (w : World) (rb : Nat) (f : Int → Op) (fd pos : Int) (h : RefAt w rb f) (hc : rget f fd = none ∨ pos < 0) :
    Calls Try.prog 38 #[.pointer (some ⟨rb, 0, none⟩), .int .i64 fd, .int .i64 pos] w fun e w' =>
      e = .returned (.int .i64 (if rget f fd = none then 19 else 1)) ∧ w.grownBy w' none := by
  rcases hr : rget f fd with _ | o
  · have hG : Calls Try.prog 44 #[.pointer (some ⟨rb, 0, none⟩), .int .i64 fd] w fun e w' => e = .returned (.tuple #[.agg #[.int .i64 0, .int .i64 0, .int .i64 0], .bool false]) ∧ w.grownBy w' none := by
      by_cases hin : 0 ≤ fd ∧ fd < 16
      · obtain ⟨k, rfl⟩ := Int.eq_ofNat_of_zero_le hin.1
        have := rget_in w rb f k (by omega) h
        have hz : (f k).no = 0 := by
          unfold rget at hr
          by_cases c : (f k).no = 0
          · exact c
          · rw [if_pos ⟨hin.1, hin.2, c⟩] at hr; cases hr
        rwa [if_pos hz] at this
      · exact rget_out w rb f fd h (by omega)
    have HG := Lib.hid hG
    clear hG hc hr
    go_enter Try.func38, Try.ntmps38
    go_wp2_with fail
    refine HG.out.mono ?_
    rintro e w1 ⟨rfl, hg1⟩
    go_wp2
    go_ret
    exact ⟨by simp, hg1.trans (World.grownBy_alloc _ _ none)⟩
  · have hp : pos < 0 := by
      rcases hc with hc | hc
      · rw [hr] at hc; cases hc
      · exact hc
    have hin : 0 ≤ fd ∧ fd < 16 ∧ (f fd).no ≠ 0 := by
      unfold rget at hr
      by_cases c : 0 ≤ fd ∧ fd < 16 ∧ (f fd).no ≠ 0
      · exact c
      · rw [if_neg c] at hr; cases hr
    obtain ⟨k, rfl⟩ := Int.eq_ofNat_of_zero_le hin.1
    have hG := rget_in w rb f k (by omega) h
    rw [if_neg hin.2.2] at hG
    have HG := Lib.hid hG
    clear hG hc hr hin
    go_enter Try.func38, Try.ntmps38
    go_wp2_with fail
    refine HG.out.mono ?_
    rintro e w1 ⟨rfl, hg1⟩
    go_wp2
    go_ret
    exact ⟨by simp, hg1.trans (World.grownBy_alloc _ _ none)⟩

theorem ropen_full (w : World) (rb : Nat) (f : Int → Op) (no fl : Int) (h : RefAt w rb f) (hall : ∀ k : Nat, k < 16 → (f k).no ≠ 0) :
    Calls Try.prog 41 #[.pointer (some ⟨rb, 0, none⟩), .int .i64 no, .int .i64 fl] w fun e w' => e = .returned (.tuple #[.int .i64 0, .int .i64 20]) ∧ w = w' := by
  have Hall := Lib.hid hall
  clear hall
  go_enter Try.func41, Try.ntmps41
  go_wp2
  go_loopw [8] (fun i wr => ∃ k : Nat, i = .int .i64 k ∧ k ≤ 16 ∧ w = wr) (fun i _ => 16 - (intOf i).toNat)
  case atStart => exact ⟨0, rfl, by omega, by first | rfl | trivial⟩
  case round =>
    obtain ⟨k, rfl, hk, rfl⟩ := hrel
    by_cases hlt : k < 16
    · have c0 := h.c0 k hlt
      have hz := Hall.out k hlt
      generalize (f k).no = n0 at *
      have hzb : (n0 == 0) = false := by simpa using hz
      clear hz
      go_wp2
      go_roundw
      case rel => exact ⟨k + 1, by go_num, by omega, by first | rfl | trivial⟩
      case measure => simp [intOf]; omega
    · go_wp2
      go_ret2
      exact ⟨rfl, rfl⟩

theorem ropen_room (w : World) (rb : Nat) (f : Int → Op) (no fl : Int) (h : RefAt w rb f) (m : Nat) (hm : m < 16) (hz : (f m).no = 0) (hall : ∀ k : Nat, k < m → (f k).no ≠ 0) :
    Calls Try.prog 41 #[.pointer (some ⟨rb, 0, none⟩), .int .i64 no, .int .i64 fl] w fun e w' =>
      e = .returned (.tuple #[.int .i64 m, .int .i64 0]) ∧ RefAt w' rb (upd f m ⟨no, fl, 0⟩) ∧ w.grownBy w' (some rb) := by
  have Hall := Lib.hid hall
  have Hz := Lib.hid hz
  clear hall hz
  go_enter Try.func41, Try.ntmps41
  go_wp2
  go_loopw [8] (fun i wr => ∃ k : Nat, i = .int .i64 k ∧ k ≤ m ∧ w = wr) (fun i _ => 16 - (intOf i).toNat)
  case atStart => exact ⟨0, rfl, by omega, by first | rfl | trivial⟩
  case round =>
    obtain ⟨k, rfl, hk, rfl⟩ := hrel
    by_cases hlt : k < m
    · have c0 := h.c0 k (by omega)
      have hz := Hall.out k hlt
      generalize (f k).no = n0 at *
      have hzb : (n0 == 0) = false := by simpa using hz
      clear hz
      go_wp2
      go_roundw
      case rel => exact ⟨k + 1, by go_num, by omega, by first | rfl | trivial⟩
      case measure => simp [intOf]; omega
    · obtain rfl : k = m := by omega
      have c0 := h.c0 k hm
      have c1 := h.c1 k hm
      have c2 := h.c2 k hm
      rw [Hz.out] at c0
      have f0 := h.fr (k * 3)
      have f1 := h.fr (k * 3 + 1)
      have f2 := h.fr (k * 3 + 2)
      go_wp2
      go_ret2
      exact ⟨rfl, h.put k hm ⟨no, fl, 0⟩, grownBy_setCells rb [.int .i64 no, .int .i64 fl, .int .i64 0] (k * 3) w⟩
end Go.Proofs.Ytfmkpkmhhlakoaa.Tab

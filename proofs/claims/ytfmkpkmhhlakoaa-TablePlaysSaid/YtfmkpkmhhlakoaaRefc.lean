/- The reference's Close; and how the program's table and the reference's stand to each other. -/
import Derived.Test.YtfmkpkmhhlakoaaRefn
import Derived.Test.YtfmkpkmhhlakoaaTabc
set_option linter.unusedVariables false
set_option linter.unusedSimpArgs false
namespace Go.Proofs.Ytfmkpkmhhlakoaa.Tab
open Go.RowKit Go.Proofs.Ytfmkpkmhhlakoaa.Mx

theorem rget_none (w : World) (rb : Nat) (f : Int → Op) (fd : Int) (h : RefAt w rb f) (hr : rget f fd = none) :
    Calls Try.prog 44 #[.pointer (some ⟨rb, 0, none⟩), .int .i64 fd] w fun e w' => e = .returned (.tuple #[.agg #[.int .i64 0, .int .i64 0, .int .i64 0], .bool false]) ∧ w.grownBy w' none := by
  by_cases hin : 0 ≤ fd ∧ fd < 16
  · obtain ⟨k, rfl⟩ := Int.eq_ofNat_of_zero_le hin.1
    have := rget_in w rb f k (by omega) h
    have hz : (f k).no = 0 := by
      unfold rget at hr
      by_cases c : (f k).no = 0
      · exact c
      · rw [if_pos ⟨hin.1, hin.2, c⟩] at hr; cases hr
    rwa [if_pos hz] at this
  · exact rget_out w rb f fd h (by omega)
theorem rget_some {f : Int → Op} {fd : Int} {o : Op} (hr : rget f fd = some o) : ∃ k : Nat, fd = (k : Int) ∧ k < 16 ∧ (f k).no ≠ 0 ∧ f k = o := by
  unfold rget at hr
  by_cases c : 0 ≤ fd ∧ fd < 16 ∧ (f fd).no ≠ 0
  · rw [if_pos c] at hr
    obtain ⟨k, rfl⟩ := Int.eq_ofNat_of_zero_le c.1
    exact ⟨k, rfl, by omega, c.2.2, Option.some.inj hr⟩
  · rw [if_neg c] at hr; cases hr

theorem rclose_none (w : World) (rb : Nat) (f : Int → Op) (fd : Int) (h : RefAt w rb f) (hr : rget f fd = none) :
    Calls Try.prog 40 #[.pointer (some ⟨rb, 0, none⟩), .int .i64 fd] w fun e w' => e = .returned (.tuple #[.int .i64 0, .bool false, .int .i64 19]) ∧ w.grownBy w' none := by
  have HG := Lib.hid (rget_none w rb f fd h hr)
  clear hr
  go_enter Try.func40, Try.ntmps40
  go_wp2_with fail
  refine HG.out.mono ?_
  rintro e w1 ⟨rfl, hg1⟩
  go_wp2
  go_ret3
  exact ⟨rfl, hg1.trans (World.grownBy_alloc _ _ none)⟩

def RClosedOk (w : World) (rb : Nat) (f : Int → Op) (k : Nat) (e : Ending) (w' : World) : Prop :=
  ∃ zs, Upto (upd f k z0) 16 zs ∧ e = .returned (.tuple #[.int .i64 (f k).no, .bool (!decide ((f k).no ∈ zs)), .int .i64 0]) ∧ RefAt w' rb (upd f k z0) ∧ w.grownBy w' (some rb)

set_option maxHeartbeats 4000000 in
set_option maxRecDepth 100000 in
theorem rclose_some (w : World) (rb : Nat) (f : Int → Op) (k : Nat) (hk : k < 16) (h : RefAt w rb f) (hn : (f k).no ≠ 0) :
    Calls Try.prog 40 #[.pointer (some ⟨rb, 0, none⟩), .int .i64 k] w (RClosedOk w rb f k) := by
  have hG := rget_in w rb f k hk h
  rw [if_neg hn] at hG
  have HG := Lib.hid hG
  clear hG
  have hlt := h.lt
  have hput := fun wx (hx : RefAt wx rb f) => hx.put k hk z0
  have hrl := h
  go_enter Try.func40, Try.ntmps40
  go_wp2_with fail
  refine HG.out.mono ?_
  rintro e w1 ⟨rfl, hg1⟩
  have h1 := h.kept hg1 (by simp)
  have h2 := h1.kept (World.grownBy_alloc w1 (.cells #[.int .i64 (f k).no, .int .i64 (f k).fl, .int .i64 (f k).pos] 32) none) (by simp)
  have hg2 := hg1.trans (World.grownBy_alloc w1 (.cells #[.int .i64 (f k).no, .int .i64 (f k).fl, .int .i64 (f k).pos] 32) none)
  have c0 := h2.c0 k hk
  have c1 := h2.c1 k hk
  have c2 := h2.c2 k hk
  have f0 := h2.fr (k * 3)
  have f1 := h2.fr (k * 3 + 1)
  have f2 := h2.fr (k * 3 + 2)
  have hn0 : (w1.alloc (.cells #[.int .i64 (f k).no, .int .i64 (f k).fl, .int .i64 (f k).pos] 32)).cell? ⟨w1.heap.size, 0, none⟩ = some (.int .i64 (f k).no) := World.cell?_alloc_new _ _ _ _
  have hne : w1.heap.size ≠ rb := by have := hg1.size; omega
  have hsz2 : w1.heap.size < (w1.alloc (.cells #[.int .i64 (f k).no, .int .i64 (f k).fl, .int .i64 (f k).pos] 32)).heap.size := by simp
  have h3 := hput _ h2
  have hg3 := (hg2.but (some rb)).trans (grownBy_setCells rb [.int .i64 z0.no, .int .i64 z0.fl, .int .i64 z0.pos] (k * 3) _)
  have hn3 : ((w1.alloc (.cells #[.int .i64 (f k).no, .int .i64 (f k).fl, .int .i64 (f k).pos] 32)).setCells rb (k * 3) [.int .i64 z0.no, .int .i64 z0.fl, .int .i64 z0.pos]).cell? ⟨w1.heap.size, 0, none⟩ = some (.int .i64 (f k).no) := by
    rw [World.cell?_setCells_out _ _ _ _ _ (fun e _ => absurd e hne)]
    exact hn0
  go_wp2_with fail
  change Code.wp _ _ _ _ ((w1.alloc (.cells #[.int .i64 (f k).no, .int .i64 (f k).fl, .int .i64 (f k).pos] 32)).setCells rb (k * 3) [.int .i64 z0.no, .int .i64 z0.fl, .int .i64 z0.pos])
  generalize (w1.alloc (.cells #[.int .i64 (f k).no, .int .i64 (f k).fl, .int .i64 (f k).pos] 32)).setCells rb (k * 3) [.int .i64 z0.no, .int .i64 z0.fl, .int .i64 z0.pos] = w3 at *
  clear h2 hg2 c0 c1 c2 f0 f1 f2 hn0 hsz2 hne hput hg1 h1
  go_region_with (first
    | (go_at_call 43; refine (rnumbers_any _ rb (upd f k z0) (by exact ⟨h3.lt, h3.c0, h3.c1, h3.c2, h3.fr⟩)).mono ?_; rintro e w4 ⟨v, zs, rfl, hup, hzl, hv, hg5⟩; have hn5 := hg5.cell (a := ⟨w1.heap.size, 0, none⟩) hn3 (by simp); have hrd := Ints.rd_own hv; obtain ⟨av, cv, rfl, hrd2⟩ := hrd)
    | (go_at_call 33; refine (Ints.in_any av zs.length cv zs _ _ hrd2 (by omega)).mono ?_; rintro e w5 ⟨rfl, rfl⟩))
  all_goals
    have hup := ‹Upto _ 16 _›
    have hg5 := ‹World.grownBy w3.drew _ none›
    have h5 := RefAt.kept (w := w3.drew) (rb := rb) (f := upd f k z0) (by exact ⟨h3.lt, h3.c0, h3.c1, h3.c2, h3.fr⟩) hg5 (by simp)
    have hg6 := World.grownBy.trans (a := w) (b := w3.drew) (row := some rb) (by exact ⟨hg3.os, hg3.tape, hg3.output, hg3.size, hg3.block⟩) (hg5.but _)
    clear hg5 hg3 h3
    go_wp2
    go_ret3
    exact ⟨_, hup, rfl, h5, hg6⟩
end Go.Proofs.Ytfmkpkmhhlakoaa.Tab

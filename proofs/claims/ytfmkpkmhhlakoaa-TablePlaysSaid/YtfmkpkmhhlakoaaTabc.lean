/- What Close comes to where something is open. -/
import Derived.Test.YtfmkpkmhhlakoaaTab
set_option linter.unusedVariables false
set_option linter.unusedSimpArgs false
namespace Go.Proofs.Ytfmkpkmhhlakoaa.Tab
open Go.RowKit Go.Proofs.Ytfmkpkmhhlakoaa.Mx

def ClosedOk (w : World) (tb mb : Nat) (L : List (Int × Op)) (fd : Int) (o : Op) (e : Ending) (w' : World) : Prop :=
  e = .returned (.tuple #[.int .i64 o.no, .bool (!decide (o.no ∈ nums (mdel L fd))), .int .i64 0]) ∧ At w' tb mb (mdel L fd) ∧ w.grownBy w' (some mb)

set_option maxRecDepth 100000 in
set_option maxHeartbeats 2000000 in
theorem close_some (w : World) (tb mb : Nat) (L : List (Int × Op)) (fd : Int) (hw : (Lit.int .i64 fd).wf = true) (h : At w tb mb L) (o : Op) (ho : mget L fd = some o) (hL : L.length ≤ 1000) :
    Calls Try.prog 39 #[.pointer (some ⟨tb, 0, none⟩), .int .i64 fd] w (ClosedOk w tb mb L fd o) := by
  have hne := h.ne
  have hLd : (mdel L fd).length ≤ 1000 := Nat.le_trans (List.length_filter_le _ _) hL
  go_enter Try.func39, Try.ntmps39
  go_wp2_with fail
  refine (get_any _ tb mb L fd hw h).mono ?_
  rw [ho]
  rintro e w1 ⟨rfl, hg⟩
  have h1 := h.kept hg
  have h2 := h1.alloc (.cells #[.int .i64 o.no, .int .i64 o.fl, .int .i64 o.pos] 32)
  have hc2 : w1.cell? ⟨tb, 0, none⟩ = some (.map (some mb)) := cell_of_one h1.cell
  have htb1 := h1.lt
  have hmb1 := h1.map.lt
  have hg2 := hg.trans (World.grownBy_alloc w1 (.cells #[.int .i64 o.no, .int .i64 o.fl, .int .i64 o.pos] 32) none)
  have hn0 : (w1.alloc (.cells #[.int .i64 o.no, .int .i64 o.fl, .int .i64 o.pos] 32)).cell? ⟨w1.heap.size, 0, none⟩ = some (.int .i64 o.no) := World.cell?_alloc_new _ _ _ _
  have hsz2 : w1.heap.size < (w1.alloc (.cells #[.int .i64 o.no, .int .i64 o.fl, .int .i64 o.pos] 32)).heap.size := by simp
  go_wp2_with (first
    | (at_delete; refine wpList_drop _ rfl _ _ 97 101 rfl 32 kv key_number Try.underlying97 mb (mv opv L) rfl h2.map fd rfl hw ?_; intro w3 hm3 hg3 hs3; go_frame)
    | go_in)
  rw [mdel_mv] at hm3
  have h3 := h2.grown hm3 hg3
  have hn3 : w3.cell? ⟨w1.heap.size, 0, none⟩ = some (.int .i64 o.no) := hg3.cell hn0 (by intro e; have := Option.some.inj e; simp at this; omega)
  have hsz3 : w1.heap.size < w3.heap.size := by omega
  have hg4 := (hg2.but (some mb)).trans hg3
  clear hg2 hg3 hs3 hm3 h2 hn0 hsz2 h1 hc2
  have hnl : (nums (mdel L fd)).length ≤ 1000 := by
    refine Nat.le_trans (Lib.compact_length_le _) ?_
    rw [Ints.sorted_length, List.length_map]
    exact hLd
  go_region_with (first
    | (go_at_call 17; refine (numbers_any _ tb mb (mdel L fd) (by exact ⟨h3.cell, h3.map⟩) hLd).mono ?_; rintro e w4 ⟨v, rfl, hv, hg5⟩; have hn5 := hg5.cell (a := ⟨w1.heap.size, 0, none⟩) hn3 (by simp))
    | (go_at_call 63; refine (Ints.contains_own _ _ v _ _ hv (by omega)).mono ?_; rintro e w5 ⟨rfl, rfl⟩))
  all_goals
    have hg5 := ‹World.grownBy w3.drew _ none›
    have h5 := At.kept (w := w3.drew) (tb := tb) (mb := mb) (L := mdel L fd) (by exact ⟨h3.cell, h3.map⟩) hg5
    have hg6 := World.grownBy.trans (a := w) (b := w3.drew) (row := some mb) (by exact ⟨hg4.os, hg4.tape, hg4.output, hg4.size, hg4.block⟩) (hg5.but _)
    clear hg5 hg4 h3
    go_wp2
    go_ret3
    exact ⟨rfl, h5, hg6⟩
end Go.Proofs.Ytfmkpkmhhlakoaa.Tab

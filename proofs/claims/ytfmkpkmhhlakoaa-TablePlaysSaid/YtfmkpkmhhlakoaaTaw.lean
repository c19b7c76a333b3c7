/- What the laws on the table ask first: a table is made, something is opened, and found. -/
import Derived.Test.YtfmkpkmhhlakoaaTab
import Derived.Test.YtfmkpkmhhlakoaaSame
import Derived.Test.YtfmkpkmhhlakoaaNums
set_option linter.unusedVariables false
set_option linter.unusedSimpArgs false
namespace Go.Proofs.Ytfmkpkmhhlakoaa.Tab
open Go.RowKit Go.Proofs.Ytfmkpkmhhlakoaa.Mx

theorem nums_uniq (L : List (Int × Op)) : nums L = Ints.uniq (L.map fun p => p.2.no) := rfl
def First (e : Ending) (w w' : World) (tb mb : Nat) : Prop := e = .returned (.tuple #[.int .i64 0, .int .i64 0]) ∧ At w' tb mb [(0, ⟨5, 1, 0⟩)] ∧ w.grownBy w' (some mb)
theorem open_first (w : World) (tb mb : Nat) (h : At w tb mb []) : Calls Try.prog 14 #[.pointer (some ⟨tb, 0, none⟩), .int .i64 5, .int .i64 1] w fun e w' => First e w w' tb mb :=
  (open_room w tb mb [] 5 1 h (by decide)).mono fun e w' ⟨h1, h2, h3⟩ => ⟨h1, h2, h3⟩
theorem get_first (w : World) (tb mb : Nat) (h : At w tb mb [(0, ⟨5, 1, 0⟩)]) : Calls Try.prog 16 #[.pointer (some ⟨tb, 0, none⟩), .int .i64 0] w fun e w' =>
      e = .returned (.tuple #[.agg #[.int .i64 5, .int .i64 1, .int .i64 0], .bool true]) ∧ w.grownBy w' none :=
  get_any w tb mb _ 0 (by decide) h

set_option maxRecDepth 100000 in
theorem awake_any (w : World) : Calls Try.prog 13 #[] w fun e w' => e = .returned (.bool true) ∧ w.grownBy w' none := by
  go_enter Try.func13, Try.ntmps13
  go_wp2_with fail
  refine (new_any w).mono ?_
  rintro e w1 ⟨tb, mb, rfl, h1, hg1, ht, hm⟩
  go_wp2_with fail
  refine (open_first w1 tb mb h1).mono ?_
  rintro e w2 ⟨rfl, h2, hg2⟩
  go_wp2_with fail
  refine (get_first w2 tb mb h2).mono ?_
  rintro e w3 ⟨rfl, hg3⟩
  have h3 := (h2.kept hg3).alloc (.cells #[.int .i64 5, .int .i64 1, .int .i64 0] 32)
  go_wp2_with fail
  refine (numbers_any _ tb mb _ h3 (by decide)).mono ?_
  rintro e w4 ⟨v, rfl, hv, hg4⟩
  have e5 : nums [(0, (⟨5, 1, 0⟩ : Op))] = [5] := Ints.uniq_one 5
  rw [e5] at hv
  obtain ⟨a, c, rfl, hr⟩ := Ints.rd_own hv
  go_wp2_with fail
  refine (Ints.plain_any a _ 1 c 1 1 [5] [5] _ (hr.grown (World.grownBy_alloc _ _ none) (by simp)) (Ints.rd_lit _ 5) (by omega) (by omega)).mono ?_
  rintro e w5 ⟨rfl, q, rfl⟩
  go_wp2
  go_ret
  have hg13 := hg1.andThen hg2 (fun j hj => .inl (by have := Option.some.inj hj; omega))
  have hg14 := (hg13.trans hg3).trans (World.grownBy_alloc w3 (.cells #[.int .i64 5, .int .i64 1, .int .i64 0] 32) none)
  have hg15 := (hg14.trans hg4).trans (World.grownBy_alloc w4 (.cells #[.int .i64 5] 3) none)
  exact ⟨rfl, ⟨hg15.os, hg15.tape, hg15.output, hg15.size, hg15.block⟩⟩
/-- A slice of ints that came in. -/
def IsRow (k : IntKind) (w : World) (a : Option Addr) (len cap : Nat) (zs : List Int) : Prop :=
  (a = none ∧ len = 0 ∧ cap = 0 ∧ zs = []) ∨
  ∃ x, a = some x ∧ len ≤ cap ∧ cap ≤ maxLen ∧ zs.length = cap ∧ (∀ i, i < zs.length → w.cell? (x.add i) = some (.int k (zs.getD i 0))) ∧ ∀ n ∈ zs, (Lit.int k n).wf = true
theorem IsRow.rd {w : World} {a : Option Addr} {len cap : Nat} {zs : List Int} (h : IsRow .i64 w a len cap zs) :
    Ints.Rd w a len (zs.take len) ∧ len ≤ 9223372036854775807 ∧ ∀ n ∈ zs.take len, (Lit.int .i64 n).wf = true := by
  rcases h with ⟨rfl, rfl, rfl, rfl⟩ | ⟨x, rfl, h1, h2, h3, h4, h5⟩
  · exact ⟨⟨rfl, fun h => absurd rfl h⟩, by omega, by simp⟩
  · refine ⟨⟨by simp; omega, fun hn => ?_⟩, by unfold maxLen at h2; omega, fun n hn => h5 n (List.mem_of_mem_take hn)⟩
    have hc := h4 0 (by omega)
    obtain ⟨b, off, spot⟩ := x
    have hspot : spot = none := by simpa [Addr.add] using World.cell?_spot hc
    subst hspot
    refine ⟨b, off, rfl, fun j hj => ?_⟩
    have := h4 j (by omega)
    have e : ((⟨b, off, none⟩ : Addr).add j) = ⟨b, off + j, none⟩ := by unfold Addr.add; split <;> simp_all
    rw [e] at this
    rw [this]
    simp [List.getD, hj]

theorem mod_small (a : Int) (k : Nat) (h0 : 0 < k) (h1 : k ≤ 16) : ∃ q : Nat, wrap64 ((IntKind.u64.wrap a).tmod (k : Int)) = (q : Int) ∧ q < k := by
  have h : 0 ≤ IntKind.u64.wrap a := by
    show 0 ≤ a % _
    omega
  have h2 := Int.tmod_nonneg (k : Int) h
  have h3 := Int.tmod_lt_of_pos (IntKind.u64.wrap a) (show (0 : Int) < k by omega)
  refine ⟨((IntKind.u64.wrap a).tmod k).toNat, ?_, by omega⟩
  unfold wrap64
  omega

end Go.Proofs.Ytfmkpkmhhlakoaa.Tab

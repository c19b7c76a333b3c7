/- blocks.owners: whose each page is, of all inodes of a state. -/
import Derived.Test.YtfmkpkmhhlakoaaMine
set_option linter.unusedVariables false
set_option linter.unusedSimpArgs false
namespace Go.Proofs.Ytfmkpkmhhlakoaa.Bk
open Go.RowKit Go.Proofs.Ytfmkpkmhhlakoaa.Mx Go.Proofs.Ytfmkpkmhhlakoaa.Rn Go.Proofs.YtfmkpkmhhlakoaaW.PrintWords Go.Proofs.Ytfmkpkmhhlakoaa.PBlocksTell

theorem ownersP_take (l : List Ino) (i : Nat) (hi : i < l.length) : ownersP (l.take (i + 1)) = mineP (ownersP (l.take i)) (l.getD i z63) := by
  unfold ownersP
  rw [List.take_add_one, List.foldl_append]
  simp [List.getD, hi]
theorem below_of {w w' : World} (h : w.grownBy w' none) : Below w.heap.size w w' := ⟨h.os, h.tape, h.output, h.size, fun k hk => h.block k hk (by simp)⟩
def stateV (nx : Int) (Ai : Option Addr) (n ci : Nat) (vb : Value) : Value := .agg #[.int .i64 nx, .slice Ai n ci, vb]
def InosAt (w : World) (A : Option Addr) (l : List Ino) : Prop :=
  0 < l.length → ∃ b off, A = some ⟨b, off, none⟩ ∧ ∀ i, i < l.length → ∃ A5 c5 A6 c6, w.cell? ⟨b, off + i * 7, none⟩ = some (.int .i64 (l.getD i z63).f0) ∧ w.cell? ⟨b, off + i * 7 + 1, none⟩ = some (.int .i64 (l.getD i z63).f1) ∧ w.cell? ⟨b, off + i * 7 + 2, none⟩ = some (.int .i64 (l.getD i z63).f2) ∧ w.cell? ⟨b, off + i * 7 + 3, none⟩ = some (.int .i64 (l.getD i z63).f3) ∧ w.cell? ⟨b, off + i * 7 + 4, none⟩ = some (.string (l.getD i z63).f4) ∧
    w.cell? ⟨b, off + i * 7 + 5, none⟩ = some (.slice A5 (l.getD i z63).f5.length c5) ∧ w.cell? ⟨b, off + i * 7 + 6, none⟩ = some (.slice A6 (l.getD i z63).f6.length c6) ∧ (l.getD i z63).f6.length ≤ c6 ∧ Kd.C k107 w A6 (l.getD i z63).f6.length (l.getD i z63).f6
theorem inosAt {w : World} {A : Option Addr} {l : List Ino} (h : Kd.C k63 w A l.length l) : InosAt w A l := by
  intro h0
  obtain ⟨ad, _, _, _, _, rfl, hc0, _⟩ := at_T63 h 0 (by omega) (by omega)
  have hsp := World.cell?_spot hc0
  obtain ⟨b, off, sp⟩ := ad
  have hsp : sp = none := by simpa [Addr.add] using hsp
  subst hsp
  refine ⟨b, off, rfl, fun i hi => ?_⟩
  obtain ⟨ad, A5, c5, A6, c6, e, h0, h1, h2, h3, h4, h5, h6, _, _, h8, h9⟩ := at_T63 h (i : Int) (by omega) (by omega)
  cases e
  have hr : rd_T63 l (i : Int) = l.getD i z63 := by simp [rd_T63]
  rw [hr] at h0 h1 h2 h3 h4 h5 h6 h8 h9
  rw [add_none] at h0 h1 h2 h3 h4 h5 h6
  exact ⟨A5, c5, A6, c6, h0, h1, h2, h3, h4, h5, h6, h8, h9⟩

set_option maxHeartbeats 2000000 in
set_option maxRecDepth 100000 in
theorem owners_any (w : World) (nx : Int) (Ai : Option Addr) (ci : Nat) (l : List Ino) (vb : Value) (h : Kd.C k63 w Ai l.length l) :
    Calls Try.prog 56 #[stateV nx Ai l.length ci vb] w fun e w' => ∃ b, e = .returned (.map (some b)) ∧ w.heap.size ≤ b ∧ MapAt kv w' b (mv tagv (ownersP l)) ∧ w.grownBy w' none := by
  have hmm := @run_makeMap Try.prog
  have hn := h.2.1
  have hm0 : MapAt kv ((w.alloc (.cells #[.int .i64 nx, .slice Ai l.length ci, vb] 43)).alloc (.map #[] 0)) (w.heap.size + 1) (mv tagv (ownersP (l.take 0))) := by
    have := MapAt.made kv (w.alloc (.cells #[.int .i64 nx, .slice Ai l.length ci, vb] 43))
    simpa [ownersP, mv] using this
  have hg0 : w.grownBy ((w.alloc (.cells #[.int .i64 nx, .slice Ai l.length ci, vb] 43)).alloc (.map #[] 0)) none := (World.grownBy_alloc _ _ none).trans (World.grownBy_alloc _ _ none)
  simp only [stateV]
  go_enter Try.func56, Try.ntmps56
  go_wp2_with fail
  clear hmm
  generalize (w.alloc (.cells #[.int .i64 nx, .slice Ai l.length ci, vb] 43)).alloc (.map #[] 0) = w0 at *
  have hb1 : w.heap.size < w.heap.size + 1 := by omega
  generalize w.heap.size + 1 = mb at *
  go_loopg [10] l.length (fun g v wr => ∃ i : Nat, v = .int .i64 i ∧ i + g = l.length ∧ MapAt kv wr mb (mv tagv (ownersP (l.take i))) ∧ w.grownBy wr none)
  case atStart => exact ⟨0, rfl, by omega, hm0, hg0⟩
  case round =>
    clear hm0 hg0
    obtain ⟨i, rfl, hi, hmr, hgr⟩ := hrel
    have Hi := Lib.hid hi
    clear hi
    by_cases hlt : i < l.length
    · have hT := ownersP_take l i hlt
      have hCr := Kd.C_below h (below_of hgr)
      obtain ⟨rb, off, rfl, hcs⟩ := inosAt hCr (by omega)
      obtain ⟨A5, c5, A6, c6, x0, x1, x2, x3, x4, x5, x6, hc6, hC6⟩ := hcs i hlt
      clear hcs
      generalize hx : l.getD i z63 = x at *
      have HT := Lib.hid hT
      clear hT
      have hmb := hmr.lt
      have hg2 := World.grownBy_alloc wr (.cells #[.int .i64 x.f0, .int .i64 x.f1, .int .i64 x.f2, .int .i64 x.f3, .string x.f4, .slice A5 x.f5.length c5, .slice A6 x.f6.length c6] 63) none
      have HM := Lib.hid (mine_any (wr.alloc (.cells #[.int .i64 x.f0, .int .i64 x.f1, .int .i64 x.f2, .int .i64 x.f3, .string x.f4, .slice A5 x.f5.length c5, .slice A6 x.f6.length c6] 63)) mb _ x A5 c5 A6 c6 (hmr.kept hg2 (by simp)) (Kd.C_below hC6 (below_of hg2)) hc6)
      clear hCr
      go_wp2_with fail
      refine HM.out.mono ?_
      rintro e w3 ⟨rfl, hm3, hg3⟩
      go_wp2_with fail
      go_roundg (l.length - i - 1)
      case measure => have := Hi.out; omega
      case rel =>
        have := Hi.out
        refine ⟨i + 1, by simp, by omega, ?_, ?_⟩
        · rw [HT.out]
          exact hm3
        · exact (hgr.trans hg2).andThen hg3 (fun j hj => .inl (by have := Option.some.inj hj; omega))
    · go_wp2
      go_ret
      have e1 : l.take i = l := List.take_of_length_le (by omega)
      rw [e1] at hmr
      exact ⟨_, rfl, by omega, hmr, hgr⟩
end Go.Proofs.Ytfmkpkmhhlakoaa.Bk

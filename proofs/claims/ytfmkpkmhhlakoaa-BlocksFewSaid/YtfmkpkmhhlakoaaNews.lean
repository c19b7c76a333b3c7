/- garretref09.NewInode, garretref09.NewState: a new inode, a state with an empty root. -/
import Derived.Test.YtfmkpkmhhlakoaaOwners
set_option linter.unusedVariables false
set_option linter.unusedSimpArgs false
namespace Go.Proofs.Ytfmkpkmhhlakoaa.Bk
open Go.RowKit Go.Proofs.Ytfmkpkmhhlakoaa.Mx Go.Proofs.Ytfmkpkmhhlakoaa.Rn Go.Proofs.YtfmkpkmhhlakoaaW.PrintWords Go.Proofs.Ytfmkpkmhhlakoaa.PBlocksTell

def root0 : Ino := ⟨1, 2, 2, 0, ⟨#[]⟩, [], []⟩
def newIno (no kind : Int) (t : ByteArray) : Ino := ⟨no, kind, if kind = 2 then 2 else 1, if kind = 3 then (t.size : Int) else 0, if kind = 3 then t else ⟨#[]⟩, [], []⟩
theorem grown_drew {w w' : World} (h : w.grownBy w' none) : w.grownBy w'.drew none := ⟨h.os, h.tape, h.output, h.size, h.block⟩
theorem grown_al {w w' : World} (h : w.grownBy w' none) (o : Obj) : w.grownBy (w'.alloc o) none := h.trans (World.grownBy_alloc _ o none)
theorem grown_set {w w' : World} {p : Addr} {u : Value} (h : w.grownBy w' none) (hp : w.heap.size ≤ p.block) : w.grownBy (w'.setCell p u) none := ⟨h.os, h.tape, h.output, by simpa [World.setCell] using h.size, fun i hi _ => (Below.heap_setCell w' p u i (by rintro rfl; omega)).trans (h.block i hi (by simp))⟩
set_option maxHeartbeats 1000000 in
set_option maxRecDepth 100000 in
theorem newInode_any (no kind : Int) (t : ByteArray) (w : World) (ht : t.size ≤ 9223372036854775807) : Calls Try.prog 35 #[.int .i64 no, .int .i64 kind, .string t] w fun e w' => e = .returned (inoV (newIno no kind t) none 0 none 0) ∧ w.grownBy w' none := by
  rcases h2 : (kind == 2) with _ | _
  · rcases h3 : (kind == 3) with _ | _
    · have e1 : newIno no kind t = ⟨no, kind, 1, 0, ⟨#[]⟩, [], []⟩ := by
        have a : ¬ kind = 2 := by simpa using h2
        have b : ¬ kind = 3 := by simpa using h3
        simp [newIno, a, b]
      have H := Lib.hid e1
      clear e1
      go_enter Try.func35, Try.ntmps35
      go_wp2
      refine bodyPost_ret (v := .agg #[.int .i64 no, .int .i64 kind, .int .i64 1, .int .i64 0, .string ⟨#[]⟩, .slice none 0 0, .slice none 0 0]) (by simp [results, Try.results35, go_sem]) rfl ?_
      rw [H.out]
      exact ⟨rfl, grown_al (grown_al (World.grownBy.refl _ _) _) _⟩
    · have e1 : newIno no kind t = ⟨no, kind, 1, t.size, t, [], []⟩ := by
        have a : ¬ kind = 2 := by simpa using h2
        have b : kind = 3 := by simpa using h3
        simp [newIno, b]
      have H := Lib.hid e1
      clear e1
      go_enter Try.func35, Try.ntmps35
      go_wp2
      refine bodyPost_ret (v := .agg #[.int .i64 no, .int .i64 kind, .int .i64 1, .int .i64 t.size, .string t, .slice none 0 0, .slice none 0 0]) (by simp [results, Try.results35, go_sem]) rfl ?_
      rw [H.out]
      exact ⟨rfl, grown_al (grown_al (World.grownBy.refl _ _) _) _⟩
  · have h3 : (kind == 3) = false := by
      have : kind = 2 := by simpa using h2
      simp [this]
    have e1 : newIno no kind t = ⟨no, kind, 2, 0, ⟨#[]⟩, [], []⟩ := by
      have b : kind = 2 := by simpa using h2
      simp [newIno, b]
    have H := Lib.hid e1
    clear e1
    go_enter Try.func35, Try.ntmps35
    go_wp2
    refine bodyPost_ret (v := .agg #[.int .i64 no, .int .i64 kind, .int .i64 2, .int .i64 0, .string ⟨#[]⟩, .slice none 0 0, .slice none 0 0]) (by simp [results, Try.results35, go_sem]) rfl ?_
    rw [H.out]
    exact ⟨rfl, grown_al (grown_al (World.grownBy.refl _ _) _) _⟩

theorem kdC_nil {α : Type} (d : Kd α) (w : World) (a : Option Addr) : d.C w a 0 [] := ⟨rfl, by omega, fun h => absurd h (by omega)⟩
/-- A list of one inode, whose lists are read somewhere. -/
theorem inos_one {w : World} {b : Nat} {x : Ino} {A5 A6 : Option Addr} {c5 c6 : Nat} (h : ∀ j u, (#[.int .i64 x.f0, .int .i64 x.f1, .int .i64 x.f2, .int .i64 x.f3, .string x.f4, .slice A5 x.f5.length c5, .slice A6 x.f6.length c6] : Array Value)[j]? = some u → w.cell? ⟨b, j, none⟩ = some u)
    (hc5 : x.f5.length ≤ c5) (h5 : Kd.C k170 w A5 x.f5.length x.f5) (hc6 : x.f6.length ≤ c6) (h6 : Kd.C k107 w A6 x.f6.length x.f6) : Kd.C k63 w (some ⟨b, 0, none⟩) 1 [x] :=
  ⟨rfl, by omega, fun _ => ⟨_, rfl, fun j p hj => by
    match j, hj with
    | 0, hj =>
      simp at hj
      subst hj
      refine ⟨_, rfl, k63_mk _ x hc5 h5 hc6 h6, fun i u hu => ?_⟩
      have h1 := h i u
      simp only [add_none]
      simp only [Nat.zero_mul, Nat.zero_add]
      refine h1 ?_
      rw [← hu]
      simp⟩⟩
set_option maxHeartbeats 1000000 in
set_option maxRecDepth 100000 in
theorem newState_any (w : World) : Calls Try.prog 34 #[] w fun e w' => ∃ A : Addr, e = .returned (stateV 2 (some A) 1 1 (.slice none 0 0)) ∧ Kd.C k63 w' (some A) 1 [root0] ∧ w.grownBy w' none := by
  have e1 : newIno 1 2 ⟨#[]⟩ = root0 := rfl
  have HN := Lib.hid (fun W => newInode_any 1 2 ⟨#[]⟩ W (by decide))
  rw [e1] at HN
  have BK0 := blk_new w (.cells #[.int .i64 0, .slice none 0 0, .slice none 0 0] 43)
  have hg0 := World.grownBy_alloc w (.cells #[.int .i64 0, .slice none 0 0, .slice none 0 0] 43) none
  clear e1
  go_enter Try.func34, Try.ntmps34
  go_wp2_with fail
  refine (HN.out _).mono ?_
  rintro e w1 ⟨rfl, hg1⟩
  simp only [inoV, root0, List.length_nil]
  have BK1 := blk_grown BK0 hg1 (by simp)
  have hgw := hg0.trans hg1
  have hlt := blk_lt BK1
  have hle : w.heap.size ≤ w.heap.size := Nat.le_refl _
  clear BK0 hg0 hg1
  generalize hb : w.heap.size = b at *
  have c0 := blk_cell BK1 0
  have c1 := blk_cell BK1 1
  have c2 := blk_cell BK1 2
  have f0 := blk_frozen BK1
  simp only [List.getElem?_toArray, List.getElem?_cons_zero, List.getElem?_cons_succ] at c0 c1 c2
  have Hb := Lib.hid hb
  have HBK := Lib.hid BK1
  clear BK1 hb
  go_wp2
  refine bodyPost_ret (results_cell_row rfl _ _ b 43 #[.int .i64 2, .slice (some ⟨w1.heap.size, 0, none⟩) 1 1, .slice none 0 0] (0, 0) _ rfl (blk_alloc (blk_put (blk_put (blk_put HBK.out 0 _ rfl) 1 _ rfl) 2 _ rfl) _) Try.underlying43 rfl (by kernel_rfl)) rfl ?_
  have hbw : w.heap.size ≤ b := by have := Hb.out; omega
  refine ⟨⟨w1.heap.size, 0, none⟩, rfl, inos_one (A5 := none) (A6 := none) (c5 := 0) (c6 := 0) (fun j u hu => ?_) (by simp [root0]) (kdC_nil _ _ _) (by simp [root0]) (kdC_nil _ _ _), grown_al (grown_set (grown_set (grown_set hgw hbw) hbw) hbw) _⟩
  refine (blk_cell (t := 63) (cs := #[.int .i64 1, .int .i64 2, .int .i64 2, .int .i64 0, .string ⟨#[]⟩, .slice none 0 0, .slice none 0 0]) ?_ j).trans hu
  have h := blk_new (((w1.setCell ⟨b, 0, none⟩ (.int .i64 2)).setCell ⟨b, 1, none⟩ (.slice (some ⟨w1.heap.size, 0, none⟩) 1 1)).setCell ⟨b, 2, none⟩ (.slice none 0 0)) (.cells #[.int .i64 1, .int .i64 2, .int .i64 2, .int .i64 0, .string ⟨#[]⟩, .slice none 0 0, .slice none 0 0] 63)
  simp only [World.size_setCell] at h
  exact h
end Go.Proofs.Ytfmkpkmhhlakoaa.Bk

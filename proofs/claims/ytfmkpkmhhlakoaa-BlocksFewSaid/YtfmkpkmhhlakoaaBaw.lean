/- garretlaw18.awake: it is true. -/
import Derived.Test.YtfmkpkmhhlakoaaSameT
import Derived.Test.YtfmkpkmhhlakoaaNews
set_option linter.unusedVariables false
set_option linter.unusedSimpArgs false
namespace Go.Proofs.Ytfmkpkmhhlakoaa.Bk
open Go.RowKit Go.Proofs.Ytfmkpkmhhlakoaa.Mx Go.Proofs.Ytfmkpkmhhlakoaa.Rn Go.Proofs.YtfmkpkmhhlakoaaW.PrintWords Go.Proofs.Ytfmkpkmhhlakoaa.PBlocksTell Go.Proofs.Ytfmkpkmhhlakoaa.Ints

def ino0 : Ino := ⟨5, 1, 0, 0, ⟨#[]⟩, [], [⟨2, 3, 1⟩]⟩
/-- The world that has the state in it. -/
def aw0 (w : World) : World := (((w.alloc (.cells #[.int .i64 2, .int .i64 3, .int .i64 1] 107)).alloc (.cells #[.int .i64 5, .int .i64 1, .int .i64 0, .int .i64 0, .string ⟨#[]⟩, .slice none 0 0, .slice (some ⟨w.heap.size, 0, none⟩) 1 1] 63)).alloc (.cells #[.int .i64 0, .slice (some ⟨w.heap.size + 1, 0, none⟩) 1 1, .slice none 0 0] 43))
theorem aw_b1 (w : World) (j : Nat) (v : Value) (h : (#[.int .i64 2, .int .i64 3, .int .i64 1] : Array Value)[j]? = some v) : (aw0 w).cell? ⟨w.heap.size, j, none⟩ = some v :=
  (World.grownBy_alloc _ _ none).cell ((World.grownBy_alloc _ _ none).cell ((World.cell?_alloc_new _ _ _ _).trans h) (by simp)) (by simp)
theorem aw_b2 (w : World) (j : Nat) (v : Value) (h : (#[.int .i64 5, .int .i64 1, .int .i64 0, .int .i64 0, .string ⟨#[]⟩, .slice none 0 0, .slice (some ⟨w.heap.size, 0, none⟩) 1 1] : Array Value)[j]? = some v) : (aw0 w).cell? ⟨w.heap.size + 1, j, none⟩ = some v := by
  have e := World.cell?_alloc_new (w.alloc (.cells #[.int .i64 2, .int .i64 3, .int .i64 1] 107)) #[.int .i64 5, .int .i64 1, .int .i64 0, .int .i64 0, .string ⟨#[]⟩, .slice none 0 0, .slice (some ⟨w.heap.size, 0, none⟩) 1 1] 63 j
  simp only [World.size_alloc] at e
  exact (World.grownBy_alloc _ _ none).cell (e.trans h) (by simp)
theorem aw_b3 (w : World) (j : Nat) (v : Value) (h : (#[.int .i64 0, .slice (some ⟨w.heap.size + 1, 0, none⟩) 1 1, .slice none 0 0] : Array Value)[j]? = some v) : (aw0 w).cell? ⟨w.heap.size + 1 + 1, j, none⟩ = some v := by
  unfold aw0
  generalize hw1 : (w.alloc (.cells #[.int .i64 2, .int .i64 3, .int .i64 1] 107)).alloc (.cells #[.int .i64 5, .int .i64 1, .int .i64 0, .int .i64 0, .string ⟨#[]⟩, .slice none 0 0, .slice (some ⟨w.heap.size, 0, none⟩) 1 1] 63) = w1
  have hs : w1.heap.size = w.heap.size + 1 + 1 := by rw [← hw1]; simp
  rw [← hs]
  exact (World.cell?_alloc_new _ _ _ _).trans h
theorem aw_runs (w : World) : Kd.C k107 (aw0 w) (some ⟨w.heap.size, 0, none⟩) 1 [⟨2, 3, 1⟩] :=
  ⟨rfl, by omega, fun _ => ⟨_, rfl, fun j p hj => by
    match j, hj with
    | 0, hj =>
      simp at hj
      subst hj
      refine ⟨_, rfl, k107_mk _ _, fun i u hu => ?_⟩
      match i, hu with
      | 0, hu => simp at hu; subst hu; rw [add_none]; exact aw_b1 w _ _ rfl
      | 1, hu => simp at hu; subst hu; rw [add_none]; exact aw_b1 w _ _ rfl
      | 2, hu => simp at hu; subst hu; rw [add_none]; exact aw_b1 w _ _ rfl⟩⟩
theorem aw_inos (w : World) : Kd.C k63 (aw0 w) (some ⟨w.heap.size + 1, 0, none⟩) 1 [ino0] :=
  ⟨rfl, by omega, fun _ => ⟨_, rfl, fun j p hj => by
    match j, hj with
    | 0, hj =>
      simp at hj
      subst hj
      refine ⟨_, rfl, k63_mk _ ino0 (A5 := none) (c5 := 0) (by simp [ino0]) ⟨rfl, by simp [ino0], fun h => absurd h (by simp [ino0])⟩ (A6 := some ⟨w.heap.size, 0, none⟩) (c6 := 1) (by simp [ino0]) (aw_runs w), fun i u hu => ?_⟩
      match i, hu with
      | 0, hu => simp [ino0] at hu; subst hu; rw [add_none]; exact aw_b2 w _ _ rfl
      | 1, hu => simp [ino0] at hu; subst hu; rw [add_none]; exact aw_b2 w _ _ rfl
      | 2, hu => simp [ino0] at hu; subst hu; rw [add_none]; exact aw_b2 w _ _ rfl
      | 3, hu => simp [ino0] at hu; subst hu; rw [add_none]; exact aw_b2 w _ _ rfl
      | 4, hu => simp [ino0] at hu; subst hu; rw [add_none]; exact aw_b2 w _ _ rfl
      | 5, hu => simp [ino0] at hu; subst hu; rw [add_none]; exact aw_b2 w _ _ rfl
      | 6, hu => simp [ino0] at hu; subst hu; rw [add_none]; exact aw_b2 w _ _ rfl⟩⟩
theorem aw_owners : ownersP [ino0] = [(3, (5, 2))] := by decide +kernel
theorem aw_live : liveT [ino0] 1 2 = [(5, 2)] := by
  have e : selP [(3, (5, 2))] 1 2 = [3] := by decide +kernel
  have e2 : Ints.sorted [3] = [3] := Ints.sorted_self (by simp)
  simp only [liveT, aw_owners, liveP, e, e2]
  decide +kernel

theorem geo0 (W : World) : Calls Try.prog 21 #[.agg #[.int .i64 0, .int .i64 0, .int .i64 0, .int .i64 0, .int .i64 0]] W fun x w' => x = .returned (.agg #[.int .i64 2, .int .i64 256, .int .i64 4, .int .i64 2, .int .i64 16]) ∧ W.grownBy w' none := by
  have e1 : mod 0 3 = 0 := by decide
  have e2 : mod 0 12 = 0 := by decide
  have e3 : mod 0 5 = 0 := by decide
  have e4 : mod 0 6 = 0 := by decide
  have h := geometry_any 0 0 0 0 0 W
  simp only [e1, e2, e3, e4] at h
  exact h
theorem litT (W : World) (a b : Int) : RdT (W.alloc (.cells #[.int .i64 a, .int .i64 b, .int .u32 0] 50)) (some ⟨W.heap.size, 0, none⟩) 1 [(a, b)] :=
  ⟨rfl, fun _ => ⟨_, _, rfl, fun j hj => by
    obtain rfl : j = 0 := by omega
    simp⟩⟩
theorem plain_at (W : World) (a1 a2 : Option Addr) (c1 : Nat) (h1 : RdT W a1 1 [(5, 2)]) (h2 : RdT W a2 1 [(5, 2)]) :
    Calls Try.prog 23 #[.slice a1 1 c1, .slice a2 1 1] W (SameTOk W true) :=
  plainT_any a1 a2 1 c1 1 1 [(5, 2)] [(5, 2)] W h1 h2 (by decide) (by decide)
theorem rdT_up {w w' : World} {a : Option Addr} {n : Nat} {zs : List (Int × Int)} (h : RdT w a n zs) (hg : w.grownBy w' none) : RdT w' a n zs := h.grown hg
theorem zeros4 (W : World) : Rd (W.alloc (.cells #[.int .i64 0, .int .i64 0, .int .i64 0, .int .i64 0] 3)) (some ⟨W.heap.size, 0, none⟩) 4 [0, 0, 0, 0] :=
  ⟨rfl, fun _ => ⟨_, _, rfl, fun j hj => by
    match j, hj with
    | 0, _ => simp
    | 1, _ => simp
    | 2, _ => simp
    | 3, _ => simp⟩⟩
theorem zeros4' (W : World) (o : Obj) : Rd ((W.alloc o).alloc (.cells #[.int .i64 0, .int .i64 0, .int .i64 0, .int .i64 0] 3)) (some ⟨W.heap.size + 1, 0, none⟩) 4 [0, 0, 0, 0] := by
  have h := zeros4 (W.alloc o)
  rw [World.size_alloc] at h
  exact h
theorem make4 (W : World) : Sem.run Try.prog (Instr.makeSlice 22 (.int .i64 4) (.int .i64 4)) W = .ok (.slice (some ⟨W.heap.size, 0, none⟩) 4 4) (W.alloc (.cells #[.int .i64 0, .int .i64 0, .int .i64 0, .int .i64 0] 3)) := by
  obtain ⟨i0, hi, hz0, hz1, hz2⟩ := info_parts infoInt
  have h := run_makeSlice (P := Try.prog) W 22 3 i0 (.int .i64 0) Try.underlying22 hi hz0 .i64 .i64 4 4 (by omega) (by omega) (by rw [hz1]; decide) (by rw [hz2]; decide) (by omega)
  rw [hz1] at h
  have e : madeCells (Value.int .i64 0).cells (Int.toNat 4 * 1) = #[.int .i64 0, .int .i64 0, .int .i64 0, .int .i64 0] := by kernel_rfl
  rw [e] at h
  exact h
theorem rd_up {w w' : World} {a : Option Addr} {n : Nat} {zs : List Int} (h : Rd w a n zs) (hg : w.grownBy w' none) : Rd w' a n zs := h.grown hg (by simp)
/-- Count's answer, of which the length alone is asked. -/
theorem count4 (W : World) (A : Option Addr) (ap ae : Option Addr) (cp ce : Nat) (h : Kd.C k63 W A 1 [ino0]) (hp : Rd W ap 4 [0, 0, 0, 0]) (he : Rd W ae 4 [0, 0, 0, 0]) :
    Calls Try.prog 27 #[.agg #[.int .i64 0, .slice A 1 1, .slice none 0 0], .agg #[.int .i64 2, .int .i64 256, .int .i64 4, .int .i64 2, .int .i64 16], .slice ap 4 cp, .slice ae 4 ce] W
      fun e w' => (∃ a c, e = .returned (.slice a 4 c)) ∧ W.grownBy w' none := by
  have h1 := count_any W 0 A 1 [ino0] none 0 0 [] 2 256 4 2 16 ap 4 cp [0, 0, 0, 0] ae 4 ce [0, 0, 0, 0] h ⟨rfl, fun h => absurd rfl h⟩ hp he (by omega) (by rw [aw_owners]; simp) (by omega) (by omega)
  refine h1.mono ?_
  rintro e w' ⟨hg, hif⟩
  have hd : (decide (norRight 2 256 4 2 16) && (decide (((4 : Nat) : Int) = 4) && decide (((4 : Nat) : Int) = 4))) = true := by decide
  rw [hd, if_pos rfl] at hif
  obtain ⟨v, rfl, ho⟩ := hif
  have hl : (countP (ownersP [ino0]) 2 [0, 0, 0, 0] [0, 0, 0, 0] [] 4).length = 4 := by simp [countP]
  rw [hl] at ho
  rcases ho.2 with ⟨_, h1⟩ | ⟨g, cap, cur, rfl, _⟩
  · cases h1
  · exact ⟨⟨_, _, rfl⟩, hg⟩

set_option maxHeartbeats 400000 in
set_option maxRecDepth 100000 in
theorem awake_any (w : World) : Calls Try.prog 19 #[] w fun e w' => e = .returned (.bool true) ∧ w.grownBy w' none := by
  have hg0 : w.grownBy (aw0 w) none := ((World.grownBy_alloc _ _ none).trans (World.grownBy_alloc _ _ none)).trans (World.grownBy_alloc _ _ none)
  have hI := aw_inos w
  have c0 : (aw0 w).cell? ⟨w.heap.size + 1 + 1, 0, none⟩ = some (.int .i64 0) := aw_b3 w _ _ rfl
  have c1 : (aw0 w).cell? ⟨w.heap.size + 1 + 1, 1, none⟩ = some (.slice (some ⟨w.heap.size + 1, 0, none⟩) 1 1) := aw_b3 w _ _ rfl
  have c2 : (aw0 w).cell? ⟨w.heap.size + 1 + 1, 2, none⟩ = some (.slice none 0 0) := aw_b3 w _ _ rfl
  go_enter Try.func19, Try.ntmps19
  go_upto_region 2 with (fail)
  change Code.wp _ _ _ _ (aw0 w)
  have HI := Lib.hid hI
  have HL := Lib.hid (fun W (hW : (aw0 w).grownBy W none) => aw_live ▸ liveT_any W 0 (some ⟨w.heap.size + 1, 0, none⟩) 1 [ino0] (.slice none 0 0) 1 2 (Kd.C_below hI (below_of hW)) (by rw [aw_owners]; simp))
  simp only [stateV, List.length_singleton] at HL
  clear hI
  generalize aw0 w = W0 at *
  have G0 : W0.grownBy W0.drew none := ⟨rfl, rfl, rfl, Nat.le_refl _, fun _ _ _ => rfl⟩
  generalize hA : (⟨w.heap.size + 1, 0, none⟩ : Addr) = iA at *
  generalize hS : w.heap.size + 1 + 1 = sb at *
  clear hA hS
  have hms := make4
  have HP := Lib.hid plain_at
  have HC := Lib.hid (fun W ap ae (hG : W0.grownBy W none) hp he => count4 W (some iA) ap ae 4 4 (Kd.C_below HI.out (below_of hG)) hp he)
  go_region_held3 (fun W => W.cell? ⟨sb, 0, none⟩ = some (.int .i64 0) ∧ W.cell? ⟨sb, 1, none⟩ = some (.slice (some iA) 1 1) ∧ W.cell? ⟨sb, 2, none⟩ = some (.slice none 0 0))
    (first | with_reducible exact ⟨g0, g1, g2⟩ | with_reducible exact ⟨f0, f1, f2⟩ | with_reducible exact ⟨e0, e1, e2⟩ | with_reducible exact ⟨d0, d1, d2⟩ | with_reducible exact ⟨c0, c1, c2⟩ | go_keep)
    (first
    | (go_at_call 24; (with_reducible refine (HL.out _ ?_).mono ?_); (focus (with_reducible repeat (first | exact G0 | exact World.grownBy.refl _ _ | apply grown_al | apply grown_drew))); rintro e w1 ⟨v1, rfl, ho1, hg1⟩; obtain ⟨a1, cc1, rfl, hr1⟩ := rdT_own ho1; have G1 : W0.grownBy w1 none := (by refine World.grownBy.trans ?_ hg1; (with_reducible repeat (first | exact G0 | exact World.grownBy.refl _ _ | apply grown_al | apply grown_drew))); have hr1 : RdT w1 a1 1 [(5, 2)] := hr1; (try have tg : RdT w1 (some ⟨W0.heap.size, 0, none⟩) 1 [(5, 2)] := (by first | exact rdT_up (litT _ 5 2) hg1 | exact rdT_up (rdT_up (litT _ 5 2) (grown_drew (World.grownBy.refl _ _))) hg1)); have d0 := G1.cell c0 (by simp); have d1 := G1.cell c1 (by simp); have d2 := G1.cell c2 (by simp))
    | (go_at_call 23; (with_reducible refine (HP.out _ _ _ _ ?_ ?_).mono ?_); (focus (first | exact hr1 | exact rdT_up hr1 (grown_al (World.grownBy.refl _ _) _))); (focus (first | exact tg | exact litT _ 5 2)); rintro e w2 ⟨rfl, hg2⟩; have G2 : W0.grownBy w2 none := (by refine World.grownBy.trans ?_ hg2; (with_reducible repeat (first | exact G1 | exact World.grownBy.refl _ _ | apply grown_al | apply grown_drew))); have e0 := G2.cell c0 (by simp); have e1 := G2.cell c1 (by simp); have e2 := G2.cell c2 (by simp))
    | (go_at_call 21; (with_reducible refine (geo0 _).mono ?_); rintro e w3 ⟨rfl, hg3⟩; have G3 : W0.grownBy w3 none := (by refine World.grownBy.trans ?_ hg3; (with_reducible repeat (first | exact G2 | exact World.grownBy.refl _ _ | apply grown_al | apply grown_drew))); (try have z1 : Rd w3 (some ⟨w2.heap.size + 1, 0, none⟩) 4 [0, 0, 0, 0] := rd_up (zeros4' _ _) hg3); (try have z0 : Rd w3 (some ⟨w2.heap.size, 0, none⟩) 4 [0, 0, 0, 0] := (by first | exact rd_up (rd_up (zeros4 _) (World.grownBy_alloc _ _ none)) hg3 | exact rd_up (zeros4 _) hg3)); have f0 := G3.cell c0 (by simp); have f1 := G3.cell c1 (by simp); have f2 := G3.cell c2 (by simp))
    | (go_at_call 27; (with_reducible refine (HC.out _ _ _ ?_ ?_ ?_).mono ?_); (focus (with_reducible repeat (first | exact G3 | exact World.grownBy.refl _ _ | apply grown_al | apply grown_drew))); (focus (first | exact z0 | exact z1 | exact rd_up z0 (World.grownBy_alloc _ _ none) | exact rd_up z1 (World.grownBy_alloc _ _ none) | exact rd_up z0 (grown_al (World.grownBy_alloc _ _ none) _) | exact zeros4 _ | exact zeros4' _ _ | exact rd_up (zeros4 _) (World.grownBy_alloc _ _ none))); (focus (first | exact z0 | exact z1 | exact rd_up z0 (World.grownBy_alloc _ _ none) | exact rd_up z1 (World.grownBy_alloc _ _ none) | exact rd_up z0 (grown_al (World.grownBy_alloc _ _ none) _) | exact zeros4 _ | exact zeros4' _ _ | exact rd_up (zeros4 _) (World.grownBy_alloc _ _ none))); rintro e w4 ⟨⟨a4, cc4, rfl⟩, hg4⟩; have G4 : W0.grownBy w4 none := (by refine World.grownBy.trans ?_ hg4; (with_reducible repeat (first | exact G3 | exact World.grownBy.refl _ _ | apply grown_al | apply grown_drew))); have g0 := G4.cell c0 (by simp); have g1 := G4.cell c1 (by simp); have g2 := G4.cell c2 (by simp)))
  all_goals (go_wp2_with fail; go_ret; exact ⟨rfl, hg0.trans G4⟩)
end Go.Proofs.Ytfmkpkmhhlakoaa.Bk

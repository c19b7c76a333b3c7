/- BlocksFew: the plain law: whose the pages are, of an inode of four pages. -/
import Derived.Test.YtfmkpkmhhlakoaaSetr
import Derived.Test.YtfmkpkmhhlakoaaLiveT
set_option linter.unusedVariables false
set_option linter.unusedSimpArgs false
namespace Go.Proofs.Ytfmkpkmhhlakoaa.Bk
open Go.RowKit Go.Proofs.Ytfmkpkmhhlakoaa.Mx Go.Proofs.Ytfmkpkmhhlakoaa.Rn Go.Proofs.YtfmkpkmhhlakoaaW.PrintWords Go.Proofs.Ytfmkpkmhhlakoaa.PBlocksTell Go.Proofs.Ytfmkpkmhhlakoaa.Ints

def ownPg (L : List (Int × (Int × Int))) (no : Int) (pg : List (Int × Int)) : List (Int × (Int × Int)) := pg.foldl (fun L q => addOne L no q.1 q.2) L
theorem runP_pg (L : List (Int × (Int × Int))) (no : Int) (r : Run) : ∀ n, runP L no r n = ownPg L no ((List.range n).map fun (j : Nat) => (r.f0 + (j : Int), r.f1 + (j : Int))) := by
  intro n
  induction n with
  | zero => rfl
  | succ n ih =>
    rw [runP, ih, List.range_succ, List.map_append]
    simp [ownPg, List.foldl_append]
theorem runsP_pg (no : Int) : ∀ (rs : List Run) (L : List (Int × (Int × Int))), runsP L no rs = ownPg L no (expand rs)
  | [], L => rfl
  | r :: rs, L => by
    have h := runsP_pg no rs (runP L no r r.f2.toNat)
    unfold runsP at h ⊢
    rw [List.foldl_cons, h]
    simp only [expand, List.flatMap_cons, ownPg, List.foldl_append]
    rw [runP_pg]
    rfl
/-- An inode that has these places. -/
def filX (no : Int) (ps : List Int) : Ino := ⟨no, 1, 1, 0, ⟨#[]⟩, [], runsOfP ps⟩
theorem owners_filX {ps : List Int} (h : Pl ps) (no : Int) : ownersP [filX no ps] = ownPg [] no (pgQ ps 64) := by
  simp only [ownersP, List.foldl_cons, List.foldl_nil, mineP, filX, h.right, if_true]
  rw [runsP_pg, h.expand]
theorem pgQ_pad (xs : List Int) (m : Nat) : ∀ d, d ≤ m → pgQ (xs ++ List.replicate m (-1)) (xs.length + d) = pgQ xs xs.length := by
  intro d
  induction d with
  | zero =>
    intro _
    have : ∀ n, n ≤ xs.length → pgQ (xs ++ List.replicate m (-1)) n = pgQ xs n := by
      intro n
      induction n with
      | zero => exact fun _ => rfl
      | succ n ih =>
        intro hn
        have e : (xs ++ List.replicate m (-1 : Int)).getD n 0 = xs.getD n 0 := by
          simp [List.getD, List.getElem?_append_left (show n < xs.length by omega)]
        rw [pgQ, pgQ, ih (by omega), e]
    exact this _ (Nat.le_refl _)
  | succ d ih =>
    intro hd
    have e : (xs ++ List.replicate m (-1 : Int)).getD (xs.length + d) 0 = -1 := by
      rw [List.getD, List.getElem?_append_right (by omega), show xs.length + d - xs.length = d from by omega]
      simp [show d < m by omega]
    rw [show xs.length + (d + 1) = (xs.length + d) + 1 from rfl, pgQ, ih (by omega), e, if_pos (by omega), List.append_nil]
def at4 (a : Nat) (i : Nat) : Int := ((a : Int) + 7 * (i : Int)) % 40
def psI (a : Nat) : Nat → List Int
  | 0 => none64
  | i + 1 => (psI a i).set i (at4 a i)
theorem psI_pl (a : Nat) : ∀ i, Pl (psI a i)
  | 0 => pl_none
  | i + 1 => (psI_pl a i).set i _ (by unfold at4; omega) (by unfold at4; omega)
def pad4 (p0 p1 p2 p3 : Int) : List Int := [p0, p1, p2, p3] ++ List.replicate 60 (-1)
theorem psI_four (a : Nat) : psI a 4 = pad4 (at4 a 0) (at4 a 1) (at4 a 2) (at4 a 3) := by
  simp only [psI]
  have e : none64 = pad4 (-1) (-1) (-1) (-1) := by decide +kernel
  rw [e]
  rfl
def ps2 (a t : Nat) : List Int := (psI a 4).set 2 (t : Int)
theorem ps2_eq (a t : Nat) : ps2 a t = pad4 (at4 a 0) (at4 a 1) t (at4 a 3) := by
  unfold ps2
  rw [psI_four]
  rfl
theorem ps2_pl (a t : Nat) (h : t < 80) : Pl (ps2 a t) := (psI_pl a 4).set 2 _ (by omega) (by omega)
def ps3 (a t c : Nat) : List Int := (ps2 a t).take c ++ List.replicate (64 - c) (-1)
theorem ps3_pl (a t c : Nat) (h : t < 80) (hc : c ≤ 64) : Pl (ps3 a t c) := take_pl (ps2_pl a t h) c hc
def pg4 (a t : Nat) : List (Int × Int) := [(0, at4 a 0), (1, at4 a 1), (2, (t : Int)), (3, at4 a 3)]
theorem pg_pad4 (p0 p1 p2 p3 : Int) (h0 : 0 ≤ p0) (h1 : 0 ≤ p1) (h2 : 0 ≤ p2) (h3 : 0 ≤ p3) : pgQ (pad4 p0 p1 p2 p3) 64 = [(0, p0), (1, p1), (2, p2), (3, p3)] := by
  have := pgQ_pad [p0, p1, p2, p3] 60 60 (Nat.le_refl _)
  unfold pad4
  rw [show (64 : Nat) = [p0, p1, p2, p3].length + 60 from rfl, this]
  have a0 : ¬ p0 < 0 := by omega
  have a1 : ¬ p1 < 0 := by omega
  have a2 : ¬ p2 < 0 := by omega
  have a3 : ¬ p3 < 0 := by omega
  simp [pgQ, a0, a1, a2, a3]
theorem at4_nonneg (a i : Nat) : 0 ≤ at4 a i := by unfold at4; omega
theorem pg_one (a : Nat) : pgQ (psI a 4) 64 = pg4 a ((a + 14) % 40) := by
  rw [psI_four, pg_pad4 _ _ _ _ (at4_nonneg _ _) (at4_nonneg _ _) (at4_nonneg _ _) (at4_nonneg _ _)]
  have : at4 a 2 = (((a + 14) % 40 : Nat) : Int) := by unfold at4; omega
  rw [this]
  rfl
theorem pg_two (a t : Nat) : pgQ (ps2 a t) 64 = pg4 a t := by
  rw [ps2_eq, pg_pad4 _ _ _ _ (at4_nonneg _ _) (at4_nonneg _ _) (by omega) (at4_nonneg _ _)]
  rfl
theorem pg_take (p0 p1 p2 p3 : Int) (h0 : 0 ≤ p0) (h1 : 0 ≤ p1) (h2 : 0 ≤ p2) (h3 : 0 ≤ p3) (c : Nat) (hc : c ≤ 4) : pgQ (([p0, p1, p2, p3] : List Int).take c) c = ([(0, p0), (1, p1), (2, p2), (3, p3)] : List (Int × Int)).take c := by
  have a0 : ¬ p0 < 0 := by omega
  have a1 : ¬ p1 < 0 := by omega
  have a2 : ¬ p2 < 0 := by omega
  have a3 : ¬ p3 < 0 := by omega
  match c, hc with
  | 0, _ => rfl
  | 1, _ => simp [pgQ, a0]
  | 2, _ => simp [pgQ, a0, a1]
  | 3, _ => simp [pgQ, a0, a1, a2]
  | 4, _ => simp [pgQ, a0, a1, a2, a3]
theorem take_pad4 (p0 p1 p2 p3 : Int) (c : Nat) (hc : c ≤ 4) : (pad4 p0 p1 p2 p3).take c = [p0, p1, p2, p3].take c := by
  unfold pad4
  exact List.take_append_of_le_length (by simpa using hc)
theorem pg_three (a t c : Nat) (hc : c ≤ 4) : pgQ (ps3 a t c) 64 = (pg4 a t).take c := by
  have e : (ps2 a t).take c = [at4 a 0, at4 a 1, (t : Int), at4 a 3].take c := by rw [ps2_eq, take_pad4 _ _ _ _ c hc]
  have hl : ([at4 a 0, at4 a 1, (t : Int), at4 a 3].take c).length = c := by simp; omega
  have h := pgQ_pad ([at4 a 0, at4 a 1, (t : Int), at4 a 3].take c) (64 - c) (64 - c) (Nat.le_refl _)
  rw [hl, show c + (64 - c) = 64 from by omega] at h
  unfold ps3
  rw [e, h, pg_take _ _ _ _ (at4_nonneg _ _) (at4_nonneg _ _) (by omega) (at4_nonneg _ _) c hc]
  rfl
def cntB (L : List (Int × (Int × Int))) : Nat → Nat
  | 0 => 0
  | n + 1 => cntB L n + (selP L (n : Int) 8).length
def chk (a t : Nat) : Bool :=
  let L := ownPg [] 5 (pg4 a t)
  let was : Int := ((a + 14) % 40 : Nat)
  (cntB L 10 == 4) && (cntB (ownPg [] 5 ((pg4 a t).take 0)) 10 == 0) && (cntB (ownPg [] 5 ((pg4 a t).take 1)) 10 == 1) && (cntB (ownPg [] 5 ((pg4 a t).take 2)) 10 == 2) && (cntB (ownPg [] 5 ((pg4 a t).take 3)) 10 == 3) &&
  ((selP L (was / 8) 8).all fun k => ((mget L k).getD (0, 0)).2 != 2 || ((t : Int) / 8 == was / 8)) && (selP L t 1 == [(t : Int)]) && (mget L t == some (5, 2)) && (selP L was 1 == [])
theorem chk_all : ((List.range 40).all fun a => (cntB (ownPg [] 5 (pg4 a ((a + 14) % 40))) 10 == 4) && (List.range 40).all fun t => chk a (40 + t)) = true := by decide +kernel
theorem live_length (l : List Ino) (b : Nat) : (liveT l (b : Int) 8).length = (selP (ownersP l) (b : Int) 8).length := by
  unfold liveT
  rw [if_neg (by omega)]
  simp [tagsP, liveP, Ints.sorted_length]
end Go.Proofs.Ytfmkpkmhhlakoaa.Bk

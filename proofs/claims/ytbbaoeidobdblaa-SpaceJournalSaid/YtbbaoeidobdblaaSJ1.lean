/- Laid together: Sk50, Rowl, SpaceJournal. -/
import Derived.Test.YtbbaoeidobdblaaM5
import Derived.WalkKit
import Derived.ProofKit
import Derived.OpenShut
import Derived.ShutString
import Derived.ChangeOld
import Derived.Below
import Derived.Lib.SmallJoins
import Derived.Test.YtbbaoeidobdblaaRows
/- garretlaw27.SpaceJournal, from its begin to its end. -/
set_option linter.unusedVariables false
set_option linter.unusedSimpArgs false
namespace Go.Proofs.Ytbbaoeidobdblaa.Sx
open Go

attribute [local simp ↓] ifb_true' ifb_false'
attribute [local simp] ifb_true ifb_false ifb_eq sx argsT find ev evOp evs evo evBin evInt evStr evNil evNilA ptrA slcA isNoneA asB evLoad look del cellsB evUn evConv kdec fld evFieldA evField evIdxA evIdx evSlc bndL bndH evLen mmi put resV guardV gvL setO tupV cellsOf ones one upd lits nv exitTo SV.val CV.val TI.agg rdyA allR keepB scan simpO gsp isS subs keepT pickT wr memN pubs Res.fact Region.binds bld rest give delL back Res.eqv vi vb num Sv.val undef
/-- So many letters t. -/
def tN (n : Nat) : ByteArray := ⟨(List.replicate n 116).toArray⟩
theorem tN_size (n : Nat) : (tN n).size = n := by simp [tN, ByteArray.size]
theorem tN_succ (n : Nat) : tN n ++ ⟨#[116]⟩ = tN (n + 1) := by
  apply ByteArray.ext
  simp only [tN, ByteArray.data_append]
  apply Array.ext'
  rw [List.replicate_succ']
  simp
structure Plain (s : Sta) (n : Nat) : Prop where
  inos : s.inos.length ≤ 1 + n
  bad : s.bad = []
  each : ∀ x ∈ s.inos, x.target.size ≤ 150 ∧ x.ents = [] ∧ x.runs = []
theorem plain_new : Plain newSta 0 := ⟨by simp [newSta], rfl, fun x hx => by
  rw [List.mem_singleton.1 hx]
  exact ⟨by decide, rfl, rfl⟩⟩
theorem replI_mem : ∀ (l : List Ino) (x y : Ino), y ∈ replI l x → y ∈ l ∨ y = x
  | [], x, y, h => by cases h
  | z :: r, x, y, h => by
    unfold replI at h
    split at h
    · rcases List.mem_cons.1 h with rfl | h
      · exact .inr rfl
      · exact .inl (List.mem_cons_of_mem _ h)
    · rcases List.mem_cons.1 h with rfl | h
      · exact .inl List.mem_cons_self
      · rcases replI_mem r x y h with h | h
        · exact .inl (List.mem_cons_of_mem _ h)
        · exact .inr h
theorem insI_mem : ∀ (l : List Ino) (x y : Ino), y ∈ insI l x → y ∈ l ∨ y = x
  | [], x, y, h => .inr (List.mem_singleton.1 h)
  | z :: r, x, y, h => by
    unfold insI at h
    split at h
    · rcases List.mem_cons.1 h with rfl | h
      · exact .inl List.mem_cons_self
      · rcases insI_mem r x y h with h | h
        · exact .inl (List.mem_cons_of_mem _ h)
        · exact .inr h
    · rcases List.mem_cons.1 h with rfl | h
      · exact .inr rfl
      · exact .inl h
theorem putInoL_mem {l : List Ino} {x y : Ino} (h : y ∈ putInoL l x) : y ∈ l ∨ y = x := by
  unfold putInoL at h
  split at h
  · exact replI_mem _ _ _ h
  · exact insI_mem _ _ _ h
theorem plain_put {s : Sta} {n : Nat} (h : Plain s n) {x : Ino} (hx : x.target.size ≤ 150 ∧ x.ents = [] ∧ x.runs = []) : Plain (applyL s [⟨2, 0, x⟩]) (n + 1) := by
  have hp : applyL s [⟨2, 0, x⟩] = { s with inos := putInoL s.inos x } := by
    simp only [applyL, List.foldl_cons, List.foldl_nil, applyOne]
    rw [if_neg (by decide), if_pos trivial]
  rw [hp]
  refine ⟨?_, h.bad, fun y hy => ?_⟩
  · have h1 := putInoL_len s.inos x
    have h2 := h.inos
    simp only
    omega
  · rcases putInoL_mem hy with hy | rfl
    · exact h.each y hy
    · exact hx
theorem plain_whole {s : Sta} {n : Nat} (h : Plain s n) : wholeB s ≤ 9 + 195 * (1 + n) := by
  have h1 : ∀ l : List Ino, (∀ x ∈ l, x.target.size ≤ 150 ∧ x.ents = [] ∧ x.runs = []) → (deedsB (l.map fun x => ⟨2, 0, x⟩)).length ≤ 195 * l.length := by
    intro l
    induction l with
    | nil => exact fun _ => Nat.le_refl _
    | cons x r ih =>
      intro hx
      obtain ⟨h2, h3, h4⟩ := hx x List.mem_cons_self
      have h5 := ih fun y hy => hx y (List.mem_cons_of_mem _ hy)
      have h6 : (deedB ⟨2, 0, x⟩).length = 45 + x.target.size := by
        have : tailB ⟨2, 0, x⟩ = inoB x := by unfold tailB; rw [if_neg (by simp), if_pos rfl]
        rw [deedB, List.length_append, lowB_length, this, inoB_length, h3, h4]
        simp
        omega
      have h7 : (deedsB (((x :: r).map fun x => ⟨2, 0, x⟩) : List Dee)).length = (deedB ⟨2, 0, x⟩).length + (deedsB (r.map fun x => ⟨2, 0, x⟩)).length := by simp [deedsB]
      rw [h7, h6, List.length_cons]
      omega
  have h2 := h1 s.inos h.each
  have h3 : wholeB s = 9 + (deedsB (s.inos.map fun x => ⟨2, 0, x⟩)).length := by
    have h4 : (deedB ⟨1, s.next, inoZ⟩).length = 9 := by
      have : tailB ⟨1, s.next, inoZ⟩ = intB s.next := by unfold tailB; rw [if_pos (.inl rfl)]
      rw [deedB, List.length_append, lowB_length, this, intB_length]
    rw [wholeB, wholeL, h.bad]
    simp only [List.map_nil, List.append_nil]
    show (deedsB (_ :: _)).length = _
    rw [show deedsB (⟨1, s.next, inoZ⟩ :: s.inos.map fun x => ⟨2, 0, x⟩) = deedB ⟨1, s.next, inoZ⟩ ++ deedsB (s.inos.map fun x => ⟨2, 0, x⟩) from rfl, List.length_append, h4]
  have h5 : 195 * s.inos.length ≤ 195 * (1 + n) := Nat.mul_le_mul_left _ h.inos
  omega
theorem put_deed {x : Ino} (hx : x.target.size ≤ 150 ∧ x.ents = [] ∧ x.runs = []) : (deedsB [⟨2, 0, x⟩]).length ≤ 195 := by
  obtain ⟨h2, h3, h4⟩ := hx
  have : tailB ⟨2, 0, x⟩ = inoB x := by unfold tailB; rw [if_neg (by simp), if_pos rfl]
  simp only [deedsB, List.flatMap_cons, List.flatMap_nil, List.append_nil, deedB, this, List.length_append, lowB_length, inoB_length, h3, h4]
  simp
  omega
/-- What is laid at each round. -/
def ringI (i : Nat) (t : ByteArray) : Ino := ⟨2 + (i % 9 : Nat), 3, 0, 0, t, [], []⟩
theorem apply_none (s : Sta) : applyL s [] = s := rfl
set_option maxRecDepth 100000 in
set_option maxHeartbeats 8000000 in
theorem spaceJournalLaw0 (w : World) (g : Geo) (n size : Int) :
    Fn0 Try.prog 3 #[.agg (geoC g).toArray, .int .i64 n, .int .i64 size] w (fun _ => False) (fun b : Bool => .bool b) (fun y W => y = true) := by
  have hI : ∀ b, False → b < w.heap.size := fun b h => h.elim
  refine enter (svs := [.ag ((geoC g).map .v), .c (.v (.int .i64 n)), .c (.v (.int .i64 size))]) tysOk Try.func3 rfl Try.ntmps3 Try.results3 (by kernel_rfl) (by simp) hI (fun _ => True) (fun _ _ => trivial) fun C hC hN ok => ?_
  simp [hN]
  intro g3
  refine call0 ok rfl rfl rfl (fun w I hI hG => geometry0 w I hI g) fun y W _ => ?_
  have hgr := geoP_right g
  generalize geoP g = G at hgr
  obtain ⟨q0, ⟨q1, q2⟩, ⟨q3, q4⟩, ⟨q5, q6⟩, ⟨q7, q8⟩, ⟨q9, q10⟩⟩ := id hgr
  obtain ⟨N, hNN, hN30⟩ : ∃ N : Nat, IntKind.i64.wrap ((IntKind.u64.wrap n).tmod 30) = N ∧ N < 30 := by
    have h1 := modP_le n 30 (by decide)
    refine ⟨(modP n 30).toNat, ?_, by omega⟩
    rw [u64_wrap, Int.tmod_eq_emod_of_nonneg (by omega), w64 (by unfold modP at h1; omega) (by unfold modP at h1; omega)]
    unfold modP at *
    omega
  obtain ⟨Z, hZZ, hZ1⟩ : ∃ Z : Nat, IntKind.i64.wrap ((IntKind.u64.wrap size).tmod 150) = Z ∧ Z < 150 := by
    have h1 := modP_le size 150 (by decide)
    refine ⟨(modP size 150).toNat, ?_, by omega⟩
    rw [u64_wrap, Int.tmod_eq_emod_of_nonneg (by omega), w64 (by unfold modP at h1; omega) (by unfold modP at h1; omega)]
    unfold modP at *
    omega
  simp [hN, hZZ]
  refine loopK [1, 3] ok (fun i : Nat => [(8, .c (.v (.int .i64 (i : Nat)))), (7, .c (.v (.string (tN i)))), (2, .c (.v (.int .i64 (Z : Nat))))]) (fun i => [(3, .box g3 23 ((geoC G).map .v))]) (fun i W => i ≤ Z) (fun i => Z - i) 0 ?_ ?_ (fun W hW => Nat.zero_le _) ?_
  · simp [tN]
  · simp
  rintro i W hi hG next
  rcases Nat.lt_or_ge i Z with hlt | hge
  · have e6 : IntKind.i64.wrap ((i : Int) + 1) = (i + 1 : Nat) := by rw [w64 (by omega) (by omega)]; omega
    have hs1 : (⟨#[116]⟩ : ByteArray).size = 1 := rfl
    simp [hN, hlt, tN_size, e6, hs1]
    exact ⟨by omega, next (i + 1) _ _ (by omega) (fun W h => ⟨hlt, trivial⟩) (by simp [tN_succ])⟩
  obtain rfl : i = Z := by omega
  clear next
  simp [hN]
  refine draw ok [(3, .box g3 23 ((geoC G).map .v))] (by rw [ok.P]; exact mixed) (by kernel_rfl) ?_
  simp (maxSteps := 2000000) -implicitDefEqProofs [hN]
  refine callS ok rfl rfl rfl [] [] trivial rfl (fun gp : Nat => [(1001, .box gp 82 (powB ⟨-1, 0, false, 0⟩ (.map none)))]) (fun w I S hI hG hO hS => (powNew0 w I hI).lone hO) (fun r => by simp) (.inl fun k hk => by cases hk) fun gp W _ => ?_
  simp (maxSteps := 2000000) -implicitDefEqProofs [hN]
  obtain ⟨nb, hnb, hnb0, hnb1⟩ : ∃ nb : Nat, G.sectors * G.sector = (nb : Nat) ∧ 0 < nb ∧ nb ≤ 100000 := by
    obtain ⟨a, ha⟩ : ∃ a : Nat, G.sectors = a := ⟨G.sectors.toNat, by omega⟩
    obtain ⟨b, hb⟩ : ∃ b : Nat, G.sector = b := ⟨G.sector.toNat, by omega⟩
    refine ⟨a * b, by rw [ha, hb]; simp, Nat.mul_pos (by omega) (by omega), ?_⟩
    have : a * b ≤ 16 * 4096 := Nat.mul_le_mul (by omega) (by omega)
    omega
  refine callS ok rfl rfl rfl [] [] trivial rfl (fun x : Nat × Nat × Nat × Nat => [(1000, (newCp G gp ⟨-1, 0, false, 0⟩ (.map none) x nb).chip), (1002, (newCp G gp ⟨-1, 0, false, 0⟩ (.map none) x nb).row), (1003, (newCp G gp ⟨-1, 0, false, 0⟩ (.map none) x nb).map)]) (fun w I S hI hG hO hS => (norNew0 w I hI G gp nb ⟨-1, 0, false, 0⟩ (.map none) hgr hnb hnb0 hnb1).lone hO) (fun r => by simp [Cp.map, mapR]) (.inl fun k hk => by cases hk) fun x W _ => ?_
  obtain ⟨c0, hc0⟩ : ∃ c0, c0 = newCp G gp ⟨-1, 0, false, 0⟩ (.map none) x nb := ⟨_, rfl⟩
  have hfit : c0.fit := by
    rw [hc0]
    exact ⟨hgr, by simp only [newCp, List.length_replicate]; exact hnb.symm, by simp [newCp], by simp [newCp]⟩
  have hlive : live c0.p := by rw [hc0]; exact ⟨(by decide : (-1 : Int) < 0), rfl⟩
  have hgc : c0.gc = x.1 := by rw [hc0]; rfl
  have hpw : (.box gp 82 (powB ⟨-1, 0, false, 0⟩ (.map none)) : Res) = c0.pow := by rw [hc0]; rfl
  rw [hpw]
  simp only [← hc0, ← hgc]
  clear hpw
  have hG0 : c0.g = G := by rw [hc0]; rfl
  clear hc0
  simp (maxSteps := 2000000) -implicitDefEqProofs [hN]
  have hform := form_live hfit hlive
  refine callS ok rfl rfl rfl [1000, 1001, 1002, 1003] c0.res (by simp [Cp.map, mapR]) rfl (fun x : Nat × Sl => [(1000, (formJ c0 x).c.chip), (1001, (formJ c0 x).c.pow), (1002, (formJ c0 x).c.row), (1003, (formJ c0 x).c.map), (1004, (formJ c0 x).box)]) (fun w I S hI hG hO hS' => format0 w I S hI c0 hfit hform.1 hform.2.1 hform.2.2.1 hO hS') (fun r => by simp [Cp.map, mapR]) (.inr fun x q hq => by simp at hq; rcases hq with rfl | rfl | rfl | rfl | rfl <;> simp) fun y W _ => ?_
  simp [hN]
  refine call0 ok rfl rfl rfl (fun w I hI hG => awake27 w I hI) fun _ W _ => ?_
  simp [hN]
  obtain ⟨gj, s0⟩ := y
  have hJ0 := form_ok hfit hlive (gj, s0)
  refine loopK [1, 2, 3, 7, 11] ok (fun y : Nat × Jn => [(13, .c (.v (.int .i64 (y.1 : Nat))))]) (fun y => [(1000, y.2.c.chip), (1001, y.2.c.pow), (1002, y.2.c.row), (1003, y.2.c.map), (1004, y.2.box), (3, .box g3 23 ((geoC G).map .v))]) (fun y W => y.1 ≤ N ∧ Jok y.2 ∧ Plain y.2.s y.1 ∧ y.2.ep ≤ 1 + y.1 ∧ y.2.gj = gj ∧ y.2.c.g = G ∧ StaR W y.2.s y.2.si y.2.sb) (fun y => N - y.1) (0, formJ c0 (gj, s0)) ?_ ?_ (fun W hW => ⟨Nat.zero_le _, hJ0.1, plain_new, by show (1 : Int) ≤ 1 + (0 : Nat); decide, rfl, by rw [hJ0.2.g, hG0], hW⟩) ?_
  · simp
  · simp [Cp.map, mapR]
  clear hJ0 hform hgc hG0 hfit hlive
  rintro ⟨k, j⟩ W ⟨hk, hj, hpl, hep, hgj, hgG, hS⟩ hG2 next
  simp only at hk hj hpl hep hgj hgG hS
  rcases Nat.lt_or_ge k N with hlt | hge2
  · have e6 : IntKind.i64.wrap ((k : Int) + 1) = (k + 1 : Nat) := by rw [w64 (by omega) (by omega)]; omega
    obtain ⟨r9, hr9, hr9'⟩ : ∃ r : Nat, (k : Int).tmod 9 = (r : Nat) ∧ r = k % 9 := ⟨k % 9, by rw [Int.tmod_eq_emod_of_nonneg (by omega)]; omega, rfl⟩
    obtain ⟨r3, hr3, hr3'⟩ : ∃ r : Nat, (k : Int).tmod 3 = (r : Nat) ∧ r = k % 3 := ⟨k % 3, by rw [Int.tmod_eq_emod_of_nonneg (by omega)]; omega, rfl⟩
    have hm : i * r3 ≤ i * 2 := Nat.mul_le_mul_left _ (by omega)
    obtain ⟨p3, hp3⟩ : ∃ p3, p3 = i * r3 := ⟨_, rfl⟩
    have e7 : IntKind.i64.wrap ((i : Int) * (r3 : Nat)) = (p3 : Nat) := by rw [← Int.natCast_mul, ← hp3, w64 (by omega) (by omega)]
    obtain ⟨q, hq, hq'⟩ : ∃ q : Nat, IntKind.i64.wrap ((p3 : Int) / 3) = (q : Nat) ∧ q = p3 / 3 := ⟨p3 / 3, by rw [w64 (by omega) (by omega)]; omega, rfl⟩
    obtain ⟨u, hu, hu'⟩ : ∃ u : Nat, IntKind.i64.wrap ((i : Int) - (q : Nat)) = (u : Nat) ∧ u = i - q := ⟨i - q, by rw [w64 (by omega) (by omega)]; omega, rfl⟩
    have e8 : IntKind.i64.wrap (2 + (r9 : Int)) = 2 + (r9 : Nat) := by rw [w64 (by omega) (by omega)]
    have hux : (u : Int) ≤ (tN i).size := by rw [tN_size]; omega
    simp [hN, hNN, hlt, hr9, hr3, e7, hq, hu, e8, hux]
    intro gd
    obtain ⟨tgt, htgt⟩ : ∃ tgt, tgt = (tN i).extract 0 u := ⟨_, rfl⟩
    have hts : tgt.size ≤ 150 := by rw [htgt, ByteArray.size_extract, tN_size]; omega
    simp only [← htgt]
    obtain ⟨x, hx⟩ : ∃ x : Ino, x = ⟨2 + (r9 : Int), 3, 0, 0, tgt, [], []⟩ := ⟨_, rfl⟩
    have hx1 : x.target.size ≤ 150 ∧ x.ents = [] ∧ x.runs = [] := by rw [hx]; exact ⟨hts, rfl, rfl⟩
    have hd : ∀ W, ∀ cs, cs = deeC ⟨2, 0, x⟩ (none, 0) (none, 0) → W.ownsRow 0 41 9 (.slice (some ⟨gd, 0, none⟩) 1 1) 1 cs → Sv.ok dDee W (some ⟨gd, 0, none⟩, 1, 1) [⟨2, 0, x⟩] := fun W cs hc h3 => by
      subst hc
      exact (Rows.sole (d := dDee) (x := ⟨2, 0, x⟩) ⟨(none, 0), (none, 0), rfl, ⟨by rw [hx1.2.1]; exact Nat.zero_le _, by rw [hx1.2.1]; exact Nat.zero_le _, by rw [hx1.2.1]; exact rd_nil _ _ _⟩, ⟨by rw [hx1.2.2]; exact Nat.zero_le _, by rw [hx1.2.2]; exact Nat.zero_le _, by rw [hx1.2.2]; exact rd_nil _ _ _⟩⟩).sv (by decide) (by simp) h3
    have hd' : ∀ W, W.ownsRow 0 41 9 (.slice (some ⟨gd, 0, none⟩) 1 1) 1 [.int .i64 2, .int .i64 0, .int .i64 (2 + (r9 : Int)), .int .i64 3, .int .i64 0, .int .i64 0, .string tgt, .slice none 0 0, .slice none 0 0] → Sv.ok dDee W (some ⟨gd, 0, none⟩, 1, 1) [⟨2, 0, x⟩] := fun W h => hd W _ (by rw [hx]; rfl) h
    clear hd
    have hb0 := hpl.bad
    have hin := hpl.inos
    have hpl2 := plain_put hpl hx1
    have hw2 := plain_whole hpl2
    have hin2 := hpl2.inos
    have hbd2 := hpl2.bad
    have hd2 := put_deed hx1
    have hsm : j.s.inos.length + [(⟨2, 0, x⟩ : Dee)].length ≤ 1000000000 ∧ j.s.bad.length + [(⟨2, 0, x⟩ : Dee)].length ≤ 1000000000 := by rw [hb0]; simp; omega
    have hsm2 : (applyL j.s [⟨2, 0, x⟩]).inos.length + (applyL j.s [⟨2, 0, x⟩]).bad.length ≤ 1000000000 := by rw [hbd2]; simp; omega
    refine pub 73 rfl (by decide) (draw ok [(3, .box g3 23 ((geoC G).map .v))] (by rw [ok.P]; exact mixed) (by kernel_rfl) ?_)
    simp (maxSteps := 2000000) -implicitDefEqProofs [hN]
    refine callS ok rfl rfl rfl [1004] [j.box] (by simp) rfl (fun y : Sl × Sl => [(1004, j.box)]) (fun w I S hI hG hO hS' => by have := state0 w I S hI j (fun W e => (hG W e).2.1.2.2.2.2.2.2) (by rw [hb0]; simp; omega) hO hS'; rw [hgj] at this; exact this) (fun r => by simp) (.inr fun x q hq => by simp at hq; subst hq; simp) fun y W hy => ?_
    simp only [apply_none]
    simp (maxSteps := 2000000) -implicitDefEqProofs [hN]
    refine call0 ok rfl rfl rfl (fun w I hI hG => spaceJournal0 w I hI j.s y.1 y.2 G [⟨2, 0, x⟩] (fun W e => (hG W e).1) (fun W e => hd' W (hG W e).2.1) hsm hsm2 (by omega)) fun fits W hfits => ?_
    simp (maxSteps := 2000000) -implicitDefEqProofs [hN]
    have hz := (half_two hj.fit).2.1
    have hzl := half_le hj.fit
    rw [hgG] at hz
    rw [if_pos hgr, hz] at hfits
    have hep2 : j.ep < 2147483647 := by omega
    have hcase : ∀ v : Sl × Sl, ((commitM j [⟨2, 0, x⟩] v).1 = 0 ∧ Jok (commitM j [⟨2, 0, x⟩] v).2 ∧ (commitM j [⟨2, 0, x⟩] v).2.s = applyL j.s [⟨2, 0, x⟩] ∧ (commitM j [⟨2, 0, x⟩] v).2.si = v.1 ∧ (commitM j [⟨2, 0, x⟩] v).2.sb = v.2 ∧ (commitM j [⟨2, 0, x⟩] v).2.ep ≤ j.ep + 1 ∧ (commitM j [⟨2, 0, x⟩] v).2.gj = gj ∧ (commitM j [⟨2, 0, x⟩] v).2.c.g = G) ∨ (commitM j [⟨2, 0, x⟩] v = (10, j) ∧ fits = false) := fun v => by
      rcases Nat.lt_or_ge (halfSz j.c) (j.used + ((deedsB [⟨2, 0, x⟩]).length + 7)) with h1 | h1
      · rw [commit_anew hj _ _ h1]
        rcases Nat.lt_or_ge (halfSz j.c) (wholeB (applyL j.s [⟨2, 0, x⟩]) + 15) with h2 | h2
        · exact .inr ⟨anew_no _ _ _ (.inl h2), by rw [hfits]; exact decide_eq_false (by omega)⟩
        · obtain ⟨q, h3, h4, h5⟩ := anew_yes hj (applyL j.s [⟨2, 0, x⟩]) v.1 v.2 h2 hep2
          refine .inl ⟨by rw [h3], h4, by rw [h3], by rw [h3], by rw [h3], by rw [h3]; exact Int.le_refl _, by rw [h3]; exact hgj, by rw [h5.g]; exact hgG⟩
      · obtain ⟨q, h3, h4, h5⟩ := commit_more hj [⟨2, 0, x⟩] v h1
        exact .inl ⟨by rw [h3], h4, by rw [h3], by rw [h3], by rw [h3], by rw [h3]; simp only; omega, by rw [h3]; exact hgj, by rw [h5.g]; exact hgG⟩
    refine callS ok rfl rfl rfl [1000, 1001, 1002, 1003, 1004] j.res (by simp [Cp.map, mapR]) rfl (fun v : Sl × Sl => [(1000, (commitM j [⟨2, 0, x⟩] v).2.c.chip), (1001, (commitM j [⟨2, 0, x⟩] v).2.c.pow), (1002, (commitM j [⟨2, 0, x⟩] v).2.c.row), (1003, (commitM j [⟨2, 0, x⟩] v).2.c.map), (1004, (commitM j [⟨2, 0, x⟩] v).2.box)]) (fun w I S hI hG hO hS' => by have := commit0 w I S hI j (a := some ⟨gd, 0, none⟩) (n := 1) (c := 1) [⟨2, 0, x⟩] hj.fit hj.half (by have := hj.ep; omega) (by have := hj.used; omega) (fun W e => (hG W e).2.2.2.1.2.2.2.2.2.2) (fun W e => hd' W (hG W e).2.2.1) hsm hsm2 (by show wholeB _ ≤ _; omega) (by omega) hO hS'; rw [hgj] at this; exact this) (fun r => by simp [Cp.map, mapR]) (.inr fun x q hq => by simp at hq; rcases hq with rfl | rfl | rfl | rfl | rfl <;> simp) fun v W hv => ?_
    simp [hN]
    refine ⟨fun hne => ⟨fun hff => ⟨fun h10 => ?_, fun h10 => ?_⟩, fun hft => ?_⟩, fun h0 => ?_⟩
    · rcases hcase v with h | h
      · exact absurd h.1 hne
      · exact absurd (by rw [h.1]) h10
    · rcases hcase v with h | h
      · exact absurd h.1 hne
      simp [hN, e6]
      refine next (k + 1, j) _ _ (by simp only; omega) (fun W hW => ⟨⟨hlt, hj, ⟨Nat.le_trans hin (by show 1 + k ≤ 1 + (k + 1); omega), hpl.bad, hpl.each⟩, by simp only; omega, hgj, hgG, ?_⟩, hW.2.2.2.2.2⟩) (by simp [h.1, Cp.map, mapR])
      exact hW.2.2.2.2.1.2.2.2.2.2.2
    · rcases hcase v with h | h
      · exact absurd h.1 hne
      · rw [h.2] at hft; cases hft
    · rcases hcase v with h | h
      · simp [hN, e6]
        refine next (k + 1, (commitM j [⟨2, 0, x⟩] v).2) _ _ (by simp only; omega) (fun W hW => ⟨⟨hlt, h.2.1, ?_, ?_, h.2.2.2.2.2.2.1, h.2.2.2.2.2.2.2, ?_⟩, hW.2.2.2.2.2⟩) (by simp [Cp.map, mapR])
        · simp only [h.2.2.1]; exact hpl2
        · have := h.2.2.2.2.2.1; simp only; omega
        · simp only [h.2.2.1, h.2.2.2.1, h.2.2.2.2.1]; exact hW.1 hj.ended
      · rw [h.1] at h0; cases h0
  · obtain rfl : k = N := by omega
    simp [hN, hNN]
    exact ret0 hC _ rfl fun _ _ _ => rfl
end Go.Proofs.Ytbbaoeidobdblaa.Sx

/- What the rows share: structs of ints that came in, opened; contracts, as a row wants them. -/
set_option linter.unusedVariables false
set_option linter.unusedSimpArgs false
namespace Go.Proofs.Ytbbaoeidobdblaa.Rowl
open Go.ChangeShapes Go.WideShapes Go.ChangeAt Go.RowKit Go.Joins Go.Deep

section
variable {H : Type} {enc : TypeId × Value → H} {P : Program} {w : World} {base : Nat} {spare : Nat → Bool} {held : Bool}
theorem agg5_in {r : Reach} {b0 : Nat} {t e : TypeId} {f0 f1 f2 f3 f4 : Field} {v : Value} {d : DataW H} {p : List MemPlace} (hs : P.underlying t = some (.struct #[f0, f1, f2, f3, f4])) (hone : oneCellFields P #[f0, f1, f2, f3, f4] = true) (hC : P.cellsOf t = 5)
    (he : P.underlying e = some (.int .i64)) (ht : f0.type = e ∧ f1.type = e ∧ f2.type = e ∧ f3.type = e ∧ f4.type = e)
    (hv : Value.okWide P w r b0 t v) (h : DataW.Trod enc P w base spare held t v d p) :
    ∃ a b c x y : Int, v = .agg #[.int .i64 a, .int .i64 b, .int .i64 c, .int .i64 x, .int .i64 y] := by
  obtain ⟨cs, rfl, hsz⟩ := okWide_struct hs hv
  obtain ⟨l⟩ := cs
  match l, hsz.trans hC with
  | [c0, c1, c2, c3, c4], _ =>
    obtain ⟨fuel, hf⟩ := h
    obtain ⟨xs, n, _, hx, _, hlen, hg⟩ := DataW.trod_struct hs hf
    obtain ⟨o0, k0⟩ := hone_of hone 0 f0 rfl
    obtain ⟨o1, k1⟩ := hone_of hone 1 f1 rfl
    obtain ⟨o2, k2⟩ := hone_of hone 2 f2 rfl
    obtain ⟨o3, k3⟩ := hone_of hone 3 f3 rfl
    obtain ⟨o4, k4⟩ := hone_of hone 4 f4 rfl
    match xs, hlen with
    | [y0, y1, y2, y3, y4], _ =>
      have g0 : DataW.trod enc P w base spare held n f0.type [c0] = some y0 := by simpa [Value.cells, o0, k0] using hg 0 f0 rfl
      have g1 : DataW.trod enc P w base spare held n f1.type [c1] = some y1 := by simpa [Value.cells, o1, k1] using hg 1 f1 rfl
      have g2 : DataW.trod enc P w base spare held n f2.type [c2] = some y2 := by simpa [Value.cells, o2, k2] using hg 2 f2 rfl
      have g3 : DataW.trod enc P w base spare held n f3.type [c3] = some y3 := by simpa [Value.cells, o3, k3] using hg 3 f3 rfl
      have g4 : DataW.trod enc P w base spare held n f4.type [c4] = some y4 := by simpa [Value.cells, o4, k4] using hg 4 f4 rfl
      obtain ⟨t0, t1, t2, t3, t4⟩ := ht
      rw [t0] at g0
      rw [t1] at g1
      rw [t2] at g2
      rw [t3] at g3
      rw [t4] at g4
      obtain ⟨z0, e0, _, _⟩ := DataW.trod_int he g0
      obtain ⟨z1, e1, _, _⟩ := DataW.trod_int he g1
      obtain ⟨z2, e2, _, _⟩ := DataW.trod_int he g2
      obtain ⟨z3, e3, _, _⟩ := DataW.trod_int he g3
      obtain ⟨z4, e4, _, _⟩ := DataW.trod_int he g4
      cases e0
      cases e1
      cases e2
      cases e3
      cases e4
      exact ⟨z0, z1, z2, z3, z4, rfl⟩
end
theorem row_calls {P : Program} {f : FuncId} {args : Array Value} {w : World} {I : Nat → Prop} (h : Sx.Fn0 P f args w I (fun b : Bool => .bool b) (fun y _ => y = true)) : Calls P f args w fun e w' => e = .returned (.bool true) ∧ w.grownBy w' none :=
  Calls.mono h.2 (by
    rintro e w' ⟨x, S', rfl, hg, _, _, hR⟩
    have := hR w' (Sx.Ext.refl _ _)
    simp only at this
    subst this
    exact ⟨rfl, ⟨hg.os, hg.tape, hg.output, hg.size, fun k hk _ => hg.block k ⟨hk, fun h => h⟩⟩⟩)
end Go.Proofs.Ytbbaoeidobdblaa.Rowl

/- SpaceJournal: for every input the law returns true, and each argument reads behind the call as it read ahead of it; no conditions. -/
set_option linter.unusedVariables false
set_option linter.unusedSimpArgs false
namespace Go.Proofs.Ytbbaoeidobdblaa.spaceJournal
open Go.ChangeShapes Go.WideShapes Go.ChangeAt Go.RowKit Go.Deep Go.Proofs.Ytbbaoeidobdblaa.Rowl

theorem own : ownKnob Try.prog.godebug = none := by kernel_rfl
theorem laidOut : laidOutB Try.prog = true := by kernel_rfl

set_option maxRecDepth 100000 in
theorem lifted (os : Os) (started : os.Started) (H : Type) (enc : TypeId × Value → H) :
    ReturnsInHanded {} Try.checked os 3 .any (Rows.spaceJournalSpec.pre6 enc Try.prog Try.f3 Rows.spaceJournalRow.domain false) (Rows.spaceJournalSpec.post enc Try.prog Try.f3 false true false false) := by
  refine returnsInHanded_of_change (C := Try.checked) own started (by kernel_rfl) Try.func3
    (ChangeSpec.witness6 (enc := enc) (C := Try.checked) false ⟨#[], #[.agg #[.int .i64 0, .int .i64 0, .int .i64 0, .int .i64 0, .int .i64 0], .int .i64 0, .int .i64 0], []⟩ 8 (by kernel_rfl) (by kernel_rfl) (by kernel_rfl) (by kernel_rfl)) ?_
  intro W base args ds gs before hval0 hW hcnd _
  have hval : ∀ (j : Nat) t v, Try.f3.params[j]? = some t → args[j]? = some v → Value.okWide Try.prog W .any base t v := hval0
  have hW' := hW
  obtain ⟨p, q, hA0, hV, rfl, hfz, hnd⟩ := hW
  have hA : DataW.TrodAll enc Try.prog W 0 (fun _ => true) true Try.f3.params.toList args.toList ds p := hA0
  rw [Try.params3] at hA hval
  obtain ⟨v0, vs0, d0, ds0, p0, q0, hargs, rfl, rfl, h0, r0⟩ := trodAll_cons hA
  obtain ⟨v1, vs1, d1, ds1, p1, q1, rfl, rfl, rfl, h1, r1⟩ := trodAll_cons r0
  obtain ⟨v2, vs2, d2, ds2, p2, q2, rfl, rfl, rfl, h2, r2⟩ := trodAll_cons r1
  obtain ⟨rfl, rfl, rfl⟩ := trodAll_nil r2
  obtain rfl : args = #[v0, v1, v2] := by cases args; simp_all
  obtain ⟨rfl, rfl⟩ := trodVars_none hV
  have k0 := h0
  have lt0 : ∀ x ∈ p0, x.block < W.heap.size := by obtain ⟨m, hm⟩ := k0; exact DataW.trod_lt m _ _ _ hm
  obtain ⟨g0a, g0b, g0c, g0d, g0e, rfl⟩ := agg5_in Try.underlying23 (by kernel_rfl) (by kernel_rfl) Try.underlying3 ⟨rfl, rfl, rfl, rfl, rfl⟩ (hval 0 23 v0 rfl rfl) h0
  have k1 := h1
  have lt1 : ∀ x ∈ p1, x.block < W.heap.size := by obtain ⟨m, hm⟩ := k1; exact DataW.trod_lt m _ _ _ hm
  obtain ⟨a1, rfl, rfl, rfl, w1⟩ := open_int Try.underlying3 (hval 1 3 v1 rfl rfl) h1
  have k2 := h2
  have lt2 : ∀ x ∈ p2, x.block < W.heap.size := by obtain ⟨m, hm⟩ := k2; exact DataW.trod_lt m _ _ _ hm
  obtain ⟨a2, rfl, rfl, rfl, w2⟩ := open_int Try.underlying3 (hval 2 3 v2 rfl rfl) h2
  clear hA0 hval0
  refine (row_calls (Sx.spaceJournalLaw0 W ⟨g0a, g0b, g0c, g0d, g0e⟩ a1 a2)).mono fun e W' ⟨he, gr⟩ => ?_
  subst he
  have bel : Below W.heap.size W W' := ⟨gr.os, gr.tape, gr.output, gr.size, fun k hk => gr.block k hk (by simp)⟩
  exact ⟨_, rfl, _, _, _, [], _, [], hW', trodAll_mk1 (shut_bool Try.underlying4 _), (trodAll_cons_mk (Below.trod laidOut (by kernel_rfl) (of_decide_eq_true (by kernel_rfl)) k0 bel lt0) (trodAll_cons_mk (Below.trod laidOut (by kernel_rfl) (of_decide_eq_true (by kernel_rfl)) k1 bel lt1) (trodAll_cons_mk (Below.trod laidOut (by kernel_rfl) (of_decide_eq_true (by kernel_rfl)) k2 bel lt2) trodAll_mk0))), rfl, bel.frame _, fun h => by cases h⟩

theorem over : Rows.spaceJournalRow.holds Try.pinned (OpenSpec.ofChange Rows.spaceJournalSpec) :=
  OpenClaim.holds_of_wide 3 Try.f3 rfl rfl rfl rfl rfl rfl rfl ⟨rfl, rfl, rfl, rfl, rfl⟩ rfl rfl rfl rfl rfl (by kernel_rfl) Try.func3 (by kernel_rfl)
    (of_decide_eq_true (by kernel_rfl)) (by unfold Func.isWrapper; first | (rw [if_pos (by decide +kernel)]; kernel_rfl) | (rw [if_neg (by decide +kernel)]; exact ⟨rfl, rfl⟩))
    (fun os started H enc _ => lifted os started H enc)

/-- The statement. -/
theorem proved : Rows.SpaceJournalSaid := over
#print axioms proved
end Go.Proofs.Ytbbaoeidobdblaa.spaceJournal

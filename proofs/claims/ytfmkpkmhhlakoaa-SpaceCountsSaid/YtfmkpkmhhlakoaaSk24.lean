/- SpaceCounts, the walk. -/
import Derived.Test.YtfmkpkmhhlakoaaSk25
set_option linter.unusedVariables false
set_option linter.unusedSimpArgs false
namespace Go.Proofs.Ytfmkpkmhhlakoaa.Sx
open Go

attribute [local simp ↓] ifb_true' ifb_false'
attribute [local simp] ifb_true ifb_false ifb_eq sx argsT find ev evOp evs evo evBin evInt evStr evNil evNilA ptrA slcA isNoneA asB evLoad look del cellsB evUn evConv kdec fld evFieldA evField evIdxA evIdx evSlc bndL bndH evLen mmi put resV guardV gvL setO tupV cellsOf ones one upd lits nv exitTo SV.val CV.val TI.agg rdyA allR keepB scan simpO gsp isS subs keepT pickT wr memN pubs Res.fact Region.binds bld rest give delL back Res.eqv vi vb num Sv.val undef
def xOf (n : Nat) : Ino := ⟨2, 1, 1, 0, emp, [], oneR n⟩
def sOf (n k : Nat) : Sta := ⟨2, [newIno 1 2 emp, xOf n], (List.range k).map fun (j : Nat) => (j : Int)⟩
theorem apply_put (n : Nat) : applyL newSta [⟨2, 0, xOf n⟩] = sOf n 0 := by
  have hn : ¬ hasI [newIno 1 2 emp] (xOf n).no := by
    rintro ⟨y, hy, e⟩
    rw [List.mem_singleton.1 hy] at e
    cases e
  simp only [applyL, List.foldl_cons, List.foldl_nil, applyOne, newSta, putInoL]
  rw [if_neg (by decide), if_pos trivial, if_neg hn]
  rfl
theorem apply_bad (n k : Nat) (z : Ino) : applyL (sOf n k) [⟨4, (k : Nat), z⟩] = sOf n (k + 1) := by
  have hn : ¬ ((k : Nat) : Int) ∈ (sOf n k).bad := by
    simp only [sOf, List.mem_map, List.mem_range]
    rintro ⟨j, hj, e⟩
    omega
  simp only [applyL, List.foldl_cons, List.foldl_nil, applyOne, addBadL]
  rw [if_neg (by decide), if_neg (by decide), if_neg (by decide), if_pos trivial, if_neg hn, insL_at _ _ k (by simp [sOf]) (fun y hy => by
    simp only [sOf] at hy
    obtain ⟨j, hj, rfl⟩ := List.mem_map.1 (List.mem_of_mem_take hy)
    have := List.mem_range.1 hj
    omega) (fun h => by simp [sOf] at h)]
  simp [sOf, List.range_succ, List.take_of_length_le]
theorem count_one (n : Nat) (h : n < 20) : countL (oneR n) = n := by
  have hr := oneR_right n h
  unfold countL pagesL
  rw [if_pos hr]
  unfold oneR
  split
  · rename_i h0; simp [h0]
  · simp [pg]
theorem live_s (n k : Nat) (h : n < 20) : liveL (sOf n k).inos = n := by
  simp [sOf, liveL, newIno, xOf, count_nil, count_one n h]
theorem small_s (n k : Nat) (h : n < 20) (hk : k < 1000) : Small (sOf n k) := by
  refine ⟨by simp [sOf], by simp [sOf]; omega, fun x hx => ?_⟩
  simp only [sOf, List.mem_cons, List.not_mem_nil, or_false] at hx
  rcases hx with rfl | rfl
  · simp [newIno]
  · simp only [xOf, oneR]
    split <;> simp
set_option maxRecDepth 100000 in
set_option maxHeartbeats 8000000 in
theorem spaceCounts0 (w : World) (g : Geo) (n bad pages : Int) :
    Fn0 Try.prog 11 #[.agg (geoC g).toArray, .int .i64 n, .int .i64 bad, .int .i64 pages] w (fun _ => False) (fun b : Bool => .bool b) (fun y W => y = true) := by
  have hI : ∀ b, False → b < w.heap.size := fun b h => h.elim
  refine enter (svs := [.ag ((geoC g).map .v), .c (.v (.int .i64 n)), .c (.v (.int .i64 bad)), .c (.v (.int .i64 pages))]) tysOk Try.func11 rfl Try.ntmps11 Try.results11 (by kernel_rfl) (by simp) hI (fun _ => True) (fun _ _ => trivial) fun C hC hN ok => ?_
  simp [hN]
  intro g4
  refine call0 ok rfl rfl rfl (fun w I hI hG => geometry0 w I hI g) fun y W _ => ?_
  have hgr := geoP_right g
  generalize geoP g = G at hgr
  obtain ⟨q0, ⟨q1, q2⟩, ⟨q3, q4⟩, ⟨q5, q6⟩, ⟨q7, q8⟩, ⟨q9, q10⟩⟩ := id hgr
  simp [hN]
  refine call0 ok rfl rfl rfl (fun w I hI hG => newSta0 w I hI) fun y W _ => ?_
  obtain ⟨ia, ic⟩ := y
  simp [hN]
  intro g9
  have b1 : IntKind.u64.wrap G.blocks = G.blocks := by rw [u64_wrap]; omega
  obtain ⟨N, hNN, hN20⟩ : ∃ N : Nat, IntKind.i64.wrap ((IntKind.u64.wrap n).tmod 20) = N ∧ N < 20 := by
    have h1 := modP_le n 20 (by decide)
    refine ⟨(modP n 20).toNat, ?_, by omega⟩
    rw [u64_wrap, Int.tmod_eq_emod_of_nonneg (by omega), w64 (by unfold modP at h1; omega) (by unfold modP at h1; omega)]
    unfold modP at *
    omega
  obtain ⟨B, hBB, hB1⟩ : ∃ B : Nat, IntKind.i64.wrap ((IntKind.u64.wrap bad).tmod G.blocks) = B ∧ (B : Int) < G.blocks := by
    have h1 := modP_le bad G.blocks (by omega)
    refine ⟨(modP bad G.blocks).toNat, ?_, by omega⟩
    rw [u64_wrap, Int.tmod_eq_emod_of_nonneg (by omega), w64 (by unfold modP at h1; omega) (by unfold modP at h1; omega)]
    unfold modP at *
    omega
  refine draw ok [(4, .box g4 39 ((geoC G).map .v))] (by rw [ok.P]; exact mixed) (by kernel_rfl) ?_
  simp (maxSteps := 2000000) -implicitDefEqProofs [hN, hNN, hBB, b1]
  refine ⟨by omega, call0 ok rfl rfl rfl (fun w I hI hG => newIno0 w I hI 2 1 emp) fun y W _ => ?_⟩
  simp [hN]
  intro g10
  refine loopK [3, 4, 9, 10] ok (fun y : Nat × Sl => [(11, .c (.v (.int .i64 (y.1 : Nat)))), (1, .c (.v (.int .i64 (N : Nat)))), (2, .c (.v (.int .i64 (B : Nat))))]) (fun y => [(10, .box g10 63 ((inoC (xOf y.1) (none, 0) y.2).map .v)), (9, .box g9 43 ((staC newSta (ia, ic) (none, 0)).map .v)), (4, .box g4 39 ((geoC G).map .v))]) (fun y W => y.1 ≤ N ∧ Sl.ok dRn W y.2 (oneR y.1)) (fun y => N - y.1) (0, none, 0) ?_ ?_ (fun W hW => ⟨Nat.zero_le _, Nat.zero_le _, Nat.zero_le _, rd_nil _ _ _⟩) ?_
  · simp
  · simp [xOf, newIno, oneR]
  rintro ⟨i, ra, rc⟩ W ⟨hi, hr⟩ hG next
  simp only at hi hr
  rcases Nat.lt_or_ge i N with hlt | hge
  · simp [hN, hlt]
    have e6 : IntKind.i64.wrap ((i : Int) + 1) = (i + 1 : Nat) := by rw [w64 (by omega) (by omega)]; omega
    have hsr : setRunL (oneR i) i i = oneR (i + 1) := by rw [setRunL, if_pos (oneR_right i (by omega)), setRun_one i (by omega)]
    refine call0 ok rfl rfl rfl (fun w I hI hG => setRun0 w I hI (oneR i) i i fun W e => ⟨rfl, (hG W e).1.2⟩) fun r W hr2 => ?_
    obtain ⟨ua, un, uc⟩ := r
    rw [hsr] at hr2
    obtain rfl : un = _ := hr2.1
    simp [hN]
    refine next (i + 1, ua, uc) _ _ (by simp; omega) (fun W h => ⟨⟨hlt, ?_⟩, h.2.2⟩) (by simp [e6, xOf])
    have h1 := h.1
    rw [hsr] at h1
    exact h1.2
  obtain rfl : i = N := by omega
  simp [hN]
  intro g43
  have hd : ∀ W, StaR W newSta (ia, ic) (none, 0) → Sl.ok dRn W (ra, rc) (oneR i) → ∀ cs, cs = deeC ⟨2, 0, xOf i⟩ (none, 0) (ra, rc) → W.ownsRow 0 90 9 (.slice (some ⟨g43, 0, none⟩) 1 1) 1 cs → Sv.ok dDee W (some ⟨g43, 0, none⟩, 1, 1) [⟨2, 0, xOf i⟩] := fun W h1 h2 cs hc h3 => by
    subst hc
    exact (Rows.sole (d := dDee) (x := ⟨2, 0, xOf i⟩) ⟨(none, 0), (ra, rc), rfl, ⟨Nat.zero_le _, Nat.zero_le _, rd_nil _ _ _⟩, h2⟩).sv (by decide) (by simp) h3
  refine pub 43 rfl (by decide) (call0 ok rfl rfl rfl (fun w I hI hG => refApply0 w I hI newSta (ia, ic) (none, 0) [⟨2, 0, xOf i⟩] (fun W e => (hG W e).2.2) (fun W e => hd W (hG W e).2.2 (hG W e).2.1 _ ?_ (hG W e).1) (by simp [newSta])) fun y W _ => ?_)
  · simp
  obtain ⟨⟨pa, pc⟩, ⟨qa, qc⟩⟩ := y
  have hap := apply_put i
  simp only [hap] at *
  simp [hN]
  refine loopK [1, 2, 3, 4, 9] ok (fun y : Nat × Sl × Sl => [(12, .c (.v (.int .i64 (y.1 : Nat))))]) (fun y => [(9, .box g9 43 ((staC (sOf i y.1) y.2.1 y.2.2).map .v)), (4, .box g4 39 ((geoC G).map .v))]) (fun y W => y.1 ≤ B ∧ StaR W (sOf i y.1) y.2.1 y.2.2) (fun y => B - y.1) (0, (pa, pc), (qa, qc)) ?_ ?_ (fun W hW => ⟨Nat.zero_le _, hW.1⟩) ?_
  · simp
  · simp
  clear next
  rintro ⟨k, ⟨pa, pc⟩, ⟨qa, qc⟩⟩ W ⟨hk, hS⟩ hG2 next
  simp only at hk hS
  rcases Nat.lt_or_ge k B with hlt | hge2
  · have e6 : IntKind.i64.wrap ((k : Int) + 1) = (k + 1 : Nat) := by rw [w64 (by omega) (by omega)]; omega
    simp [hN, hlt]
    intro g53
    have hd : ∀ W, ∀ cs, cs = deeC ⟨4, (k : Nat), inoZ⟩ (none, 0) (none, 0) → W.ownsRow 0 90 9 (.slice (some ⟨g53, 0, none⟩) 1 1) 1 cs → Sv.ok dDee W (some ⟨g53, 0, none⟩, 1, 1) [⟨4, (k : Nat), inoZ⟩] := fun W cs hc h3 => by
      subst hc
      exact (Rows.sole (d := dDee) (x := ⟨4, (k : Nat), inoZ⟩) ⟨(none, 0), (none, 0), rfl, ⟨Nat.zero_le _, Nat.zero_le _, rd_nil _ _ _⟩, ⟨Nat.zero_le _, Nat.zero_le _, rd_nil _ _ _⟩⟩).sv (by decide) (by simp) h3
    refine pub 53 rfl (by decide) (call0 ok rfl rfl rfl (fun w I hI hG => refApply0 w I hI (sOf i k) (pa, pc) (qa, qc) [⟨4, (k : Nat), inoZ⟩] (fun W e => (hG W e).2.1.2) (fun W e => hd W _ ?_ (hG W e).1) (by simp [sOf]; omega)) fun y W _ => ?_)
    · simp [inoZ]
    obtain ⟨⟨ua, uc⟩, ⟨va, vc⟩⟩ := y
    have hap := apply_bad i k inoZ
    simp only [hap] at *
    simp [hN]
    exact next (k + 1, (ua, uc), (va, vc)) _ _ (by simp; omega) (fun W h => ⟨⟨hlt, h.1⟩, h.2.2.2⟩) (by simp [e6])
  obtain rfl : k = B := by omega
  simp [hN]
  obtain ⟨P, hPP, hP0, hP1⟩ : ∃ P : Int, IntKind.i64.wrap ((IntKind.u64.wrap pages).tmod 66) = P ∧ 0 ≤ P ∧ P < 66 := by
    have h1 := modP_le pages 66 (by decide)
    refine ⟨modP pages 66, ?_, h1.1, h1.2⟩
    rw [u64_wrap, Int.tmod_eq_emod_of_nonneg (by omega), w64 (by unfold modP at h1; omega) (by unfold modP at h1; omega)]
    rfl
  rw [hPP]
  have hcl : (P + G.pages - 1).tdiv G.pages = ceilP P G.pages := by
    rw [Int.tdiv_eq_ediv_of_nonneg (by omega)]
    unfold ceilP
    rcases Int.lt_or_le 0 P with h | h
    · rw [if_neg (by omega), show P + G.pages - 1 = (P - 1) + G.pages by omega, Int.add_ediv_of_dvd_right (Int.dvd_refl _), Int.ediv_self (by omega)]
    · obtain rfl : P = 0 := by omega
      rw [if_pos (by simp)]
      exact Int.ediv_eq_zero_of_lt (by omega) (by omega)
  have hce : 0 ≤ ceilP P G.pages ∧ ceilP P G.pages ≤ 66 := by
    unfold ceilP
    split
    · decide
    · have h1 : (P - 1) / G.pages ≤ P - 1 := Int.ediv_le_self _ (by omega)
      have h2 : 0 ≤ (P - 1) / G.pages := Int.ediv_nonneg (by omega) (by omega)
      omega
  generalize hcc : ceilP P G.pages = cc at hcl hce
  have w1 : IntKind.i64.wrap (G.blocks - (k : Nat)) = G.blocks - (k : Nat) := w64 (by omega) (by omega)
  have w2 : IntKind.i64.wrap (G.blocks - (k : Nat) - 2) = G.blocks - (k : Nat) - 2 := w64 (by omega) (by omega)
  have w3 : IntKind.i64.wrap (P + G.pages) = P + G.pages := w64 (by omega) (by omega)
  have w4 : IntKind.i64.wrap (P + G.pages - 1) = P + G.pages - 1 := w64 (by omega) (by omega)
  have w5 : IntKind.i64.wrap ((P + G.pages - 1).tdiv G.pages) = cc := by rw [hcl]; exact w64 (by omega) (by omega)
  have w6 : IntKind.i64.wrap (G.blocks - (k : Nat) - 2 - cc) = G.blocks - (k : Nat) - 2 - cc := w64 (by omega) (by omega)
  have m1 : -10000 ≤ G.pages * (G.blocks - (k : Nat) - 2 - cc) ∧ G.pages * (G.blocks - (k : Nat) - 2 - cc) ≤ 10000 := by
    have h1 : -200 ≤ G.blocks - (k : Nat) - 2 - cc := by omega
    have h2 : G.blocks - (k : Nat) - 2 - cc ≤ 200 := by omega
    generalize G.blocks - (k : Nat) - 2 - cc = t at h1 h2
    have h3 : G.pages * t ≤ G.pages * 200 := Int.mul_le_mul_of_nonneg_left h2 (by omega)
    have h4 : G.pages * (-200) ≤ G.pages * t := Int.mul_le_mul_of_nonneg_left h1 (by omega)
    omega
  have w7 : IntKind.i64.wrap (G.pages * (G.blocks - (k : Nat) - 2 - cc)) = G.pages * (G.blocks - (k : Nat) - 2 - cc) := w64 (by omega) (by omega)
  have m2 : 0 ≤ G.blocks * G.pages ∧ G.blocks * G.pages ≤ 10000 := by
    have h3 : G.blocks * G.pages ≤ 64 * G.pages := Int.mul_le_mul_of_nonneg_right (by omega) (by omega)
    have h4 : 0 ≤ G.blocks * G.pages := Int.mul_nonneg (by omega) (by omega)
    omega
  have m3 : 0 ≤ (k : Nat) * G.pages ∧ (k : Nat) * G.pages ≤ 10000 := by
    have h3 : (k : Nat) * G.pages ≤ 64 * G.pages := Int.mul_le_mul_of_nonneg_right (by omega) (by omega)
    have h4 : 0 ≤ (k : Nat) * G.pages := Int.mul_nonneg (by omega) (by omega)
    omega
  have w8 : IntKind.i64.wrap (G.blocks * G.pages) = G.blocks * G.pages := w64 (by omega) (by omega)
  have w9 : IntKind.i64.wrap ((k : Nat) * G.pages) = (k : Nat) * G.pages := w64 (by omega) (by omega)
  have hsure : sureOf (sOf i k) G P ↔ (P ≤ 64 ∧ (i : Int) < G.pages * (G.blocks - (k : Nat) - 2 - cc)) := by
    unfold sureOf
    rw [live_s i k hN20, hcc]
    simp [sOf, hgr, hP0]
  have hroom : roomOf (sOf i k) G = ⟨G.blocks * G.pages, i, (k : Nat) * G.pages⟩ := by
    unfold roomOf
    rw [if_pos hgr, live_s i k hN20]
    simp [sOf, Int.mul_comm]
  have hsm := small_s i k hN20 (by omega)
  refine drawK ok mixed (by kernel_rfl) ?_
  have hroom0 : roomOf (sOf i k) ⟨0, 0, 0, 0, 0⟩ = ⟨0, 0, 0⟩ := by
    unfold roomOf
    rw [if_neg (by decide)]
  by_cases hP64 : P ≤ 64
  · by_cases hlt : (i : Int) < G.pages * (G.blocks - (k : Nat) - 2 - cc)
    · simp (maxSteps := 2000000) -implicitDefEqProofs [hN, w1, w2, w3, w4, w5, w6, w7, w8, w9, hP64, hlt]
      refine ⟨by omega, ?_⟩
      refine drawK ok mixed (by kernel_rfl) ?_
      simp (maxSteps := 2000000) -implicitDefEqProofs [hN, w1, w2, w3, w4, w5, w6, w7, w8, w9]
      refine call0 ok rfl rfl rfl (fun w I hI hG => awake27 w I hI) fun y W _ => ?_
      simp (maxSteps := 2000000) -implicitDefEqProofs [hN, w1, w2, w3, w4, w5, w6, w7, w8, w9]
      refine call0 ok rfl rfl rfl (fun w I hI hG => of0 w I hI (sOf i k) (pa, pc) (qa, qc) G (fun W e => (hG W e).1) hsm) fun y W hy => ?_
      rw [hroom] at hy
      subst hy
      simp (maxSteps := 2000000) -implicitDefEqProofs [hN, w1, w2, w3, w4, w5, w6, w7, w8, w9]
      refine binA ok rfl rfl rfl rfl true (fun w => (room_eq _ _ _ _ _ _ _ _ w).trans (by simp)) ?_
      simp (maxSteps := 2000000) -implicitDefEqProofs [hN, w1, w2, w3, w4, w5, w6, w7, w8, w9]
      refine call0 ok rfl rfl rfl (fun w I hI hG => sure0 w I hI (sOf i k) (pa, pc) (qa, qc) G P (fun W e => (hG W e).2.1) hsm (by omega)) fun y W hy => ?_
      obtain rfl : y = true := hy.2 (hsure.2 ⟨hP64, hlt⟩)
      simp (maxSteps := 2000000) -implicitDefEqProofs [hN, w1, w2, w3, w4, w5, w6, w7, w8, w9]
      refine call0 ok rfl rfl rfl (fun w I hI hG => sure0 w I hI (sOf i k) (pa, pc) (qa, qc) G (-1) (fun W e => (hG W e).2.2.1) hsm (by omega)) fun y W hy => ?_
      obtain rfl : y = false := by
        cases y
        · rfl
        · exact absurd (hy.1 rfl).2.1 (by decide)
      simp (maxSteps := 2000000) -implicitDefEqProofs [hN, w1, w2, w3, w4, w5, w6, w7, w8, w9]
      refine call0 ok rfl rfl rfl (fun w I hI hG => sure0 w I hI (sOf i k) (pa, pc) (qa, qc) ⟨0, 0, 0, 0, 0⟩ 1 (fun W e => (hG W e).2.2.2.1) hsm (by decide)) fun y W hy => ?_
      obtain rfl : y = false := by
        cases y
        · rfl
        · exact absurd (hy.1 rfl).1 (by decide)
      simp (maxSteps := 2000000) -implicitDefEqProofs [hN, w1, w2, w3, w4, w5, w6, w7, w8, w9]
      refine call0 ok rfl rfl rfl (fun w I hI hG => of0 w I hI (sOf i k) (pa, pc) (qa, qc) ⟨0, 0, 0, 0, 0⟩ (fun W e => (hG W e).2.2.2.2.1) hsm) fun y W hy => ?_
      rw [hroom0] at hy
      subst hy
      simp (maxSteps := 2000000) -implicitDefEqProofs [hN, w1, w2, w3, w4, w5, w6, w7, w8, w9]
      refine binA ok rfl rfl rfl rfl true (fun w => (room_eq _ _ _ _ _ _ _ _ w).trans (by simp)) ?_
      simp (maxSteps := 2000000) -implicitDefEqProofs [hN, w1, w2, w3, w4, w5, w6, w7, w8, w9]
      exact ret0 hC true rfl fun _ _ _ => rfl
    · simp (maxSteps := 2000000) -implicitDefEqProofs [hN, w1, w2, w3, w4, w5, w6, w7, w8, w9, hP64, hlt]
      refine ⟨by omega, ?_⟩
      refine drawK ok mixed (by kernel_rfl) ?_
      simp (maxSteps := 2000000) -implicitDefEqProofs [hN, w1, w2, w3, w4, w5, w6, w7, w8, w9]
      refine call0 ok rfl rfl rfl (fun w I hI hG => awake27 w I hI) fun y W _ => ?_
      simp (maxSteps := 2000000) -implicitDefEqProofs [hN, w1, w2, w3, w4, w5, w6, w7, w8, w9]
      refine call0 ok rfl rfl rfl (fun w I hI hG => of0 w I hI (sOf i k) (pa, pc) (qa, qc) G (fun W e => (hG W e).1) hsm) fun y W hy => ?_
      rw [hroom] at hy
      subst hy
      simp (maxSteps := 2000000) -implicitDefEqProofs [hN, w1, w2, w3, w4, w5, w6, w7, w8, w9]
      refine binA ok rfl rfl rfl rfl true (fun w => (room_eq _ _ _ _ _ _ _ _ w).trans (by simp)) ?_
      simp (maxSteps := 2000000) -implicitDefEqProofs [hN, w1, w2, w3, w4, w5, w6, w7, w8, w9]
      refine call0 ok rfl rfl rfl (fun w I hI hG => sure0 w I hI (sOf i k) (pa, pc) (qa, qc) G P (fun W e => (hG W e).2.1) hsm (by omega)) fun y W hy => ?_
      obtain rfl : y = false := by
        cases y
        · rfl
        · exact absurd (hsure.1 (hy.1 rfl)) (fun h => hlt h.2)
      simp (maxSteps := 2000000) -implicitDefEqProofs [hN, w1, w2, w3, w4, w5, w6, w7, w8, w9]
      refine call0 ok rfl rfl rfl (fun w I hI hG => sure0 w I hI (sOf i k) (pa, pc) (qa, qc) G (-1) (fun W e => (hG W e).2.2.1) hsm (by omega)) fun y W hy => ?_
      obtain rfl : y = false := by
        cases y
        · rfl
        · exact absurd (hy.1 rfl).2.1 (by decide)
      simp (maxSteps := 2000000) -implicitDefEqProofs [hN, w1, w2, w3, w4, w5, w6, w7, w8, w9]
      refine call0 ok rfl rfl rfl (fun w I hI hG => sure0 w I hI (sOf i k) (pa, pc) (qa, qc) ⟨0, 0, 0, 0, 0⟩ 1 (fun W e => (hG W e).2.2.2.1) hsm (by decide)) fun y W hy => ?_
      obtain rfl : y = false := by
        cases y
        · rfl
        · exact absurd (hy.1 rfl).1 (by decide)
      simp (maxSteps := 2000000) -implicitDefEqProofs [hN, w1, w2, w3, w4, w5, w6, w7, w8, w9]
      refine call0 ok rfl rfl rfl (fun w I hI hG => of0 w I hI (sOf i k) (pa, pc) (qa, qc) ⟨0, 0, 0, 0, 0⟩ (fun W e => (hG W e).2.2.2.2.1) hsm) fun y W hy => ?_
      rw [hroom0] at hy
      subst hy
      simp (maxSteps := 2000000) -implicitDefEqProofs [hN, w1, w2, w3, w4, w5, w6, w7, w8, w9]
      refine binA ok rfl rfl rfl rfl true (fun w => (room_eq _ _ _ _ _ _ _ _ w).trans (by simp)) ?_
      simp (maxSteps := 2000000) -implicitDefEqProofs [hN, w1, w2, w3, w4, w5, w6, w7, w8, w9]
      exact ret0 hC true rfl fun _ _ _ => rfl
  · simp (maxSteps := 2000000) -implicitDefEqProofs [hN, w1, w2, w3, w4, w5, w6, w7, w8, w9, hP64]
    refine drawK ok mixed (by kernel_rfl) ?_
    simp (maxSteps := 2000000) -implicitDefEqProofs [hN, w1, w2, w3, w4, w5, w6, w7, w8, w9]
    refine call0 ok rfl rfl rfl (fun w I hI hG => awake27 w I hI) fun y W _ => ?_
    simp (maxSteps := 2000000) -implicitDefEqProofs [hN, w1, w2, w3, w4, w5, w6, w7, w8, w9]
    refine call0 ok rfl rfl rfl (fun w I hI hG => of0 w I hI (sOf i k) (pa, pc) (qa, qc) G (fun W e => (hG W e).1) hsm) fun y W hy => ?_
    rw [hroom] at hy
    subst hy
    simp (maxSteps := 2000000) -implicitDefEqProofs [hN, w1, w2, w3, w4, w5, w6, w7, w8, w9]
    refine binA ok rfl rfl rfl rfl true (fun w => (room_eq _ _ _ _ _ _ _ _ w).trans (by simp)) ?_
    simp (maxSteps := 2000000) -implicitDefEqProofs [hN, w1, w2, w3, w4, w5, w6, w7, w8, w9]
    refine call0 ok rfl rfl rfl (fun w I hI hG => sure0 w I hI (sOf i k) (pa, pc) (qa, qc) G P (fun W e => (hG W e).2.1) hsm (by omega)) fun y W hy => ?_
    obtain rfl : y = false := by
      cases y
      · rfl
      · exact absurd (hsure.1 (hy.1 rfl)) (fun h => hP64 h.1)
    simp (maxSteps := 2000000) -implicitDefEqProofs [hN, w1, w2, w3, w4, w5, w6, w7, w8, w9]
    refine call0 ok rfl rfl rfl (fun w I hI hG => sure0 w I hI (sOf i k) (pa, pc) (qa, qc) G (-1) (fun W e => (hG W e).2.2.1) hsm (by omega)) fun y W hy => ?_
    obtain rfl : y = false := by
      cases y
      · rfl
      · exact absurd (hy.1 rfl).2.1 (by decide)
    simp (maxSteps := 2000000) -implicitDefEqProofs [hN, w1, w2, w3, w4, w5, w6, w7, w8, w9]
    refine call0 ok rfl rfl rfl (fun w I hI hG => sure0 w I hI (sOf i k) (pa, pc) (qa, qc) ⟨0, 0, 0, 0, 0⟩ 1 (fun W e => (hG W e).2.2.2.1) hsm (by decide)) fun y W hy => ?_
    obtain rfl : y = false := by
      cases y
      · rfl
      · exact absurd (hy.1 rfl).1 (by decide)
    simp (maxSteps := 2000000) -implicitDefEqProofs [hN, w1, w2, w3, w4, w5, w6, w7, w8, w9]
    refine call0 ok rfl rfl rfl (fun w I hI hG => of0 w I hI (sOf i k) (pa, pc) (qa, qc) ⟨0, 0, 0, 0, 0⟩ (fun W e => (hG W e).2.2.2.2.1) hsm) fun y W hy => ?_
    rw [hroom0] at hy
    subst hy
    simp (maxSteps := 2000000) -implicitDefEqProofs [hN, w1, w2, w3, w4, w5, w6, w7, w8, w9]
    refine binA ok rfl rfl rfl rfl true (fun w => (room_eq _ _ _ _ _ _ _ _ w).trans (by simp)) ?_
    simp (maxSteps := 2000000) -implicitDefEqProofs [hN, w1, w2, w3, w4, w5, w6, w7, w8, w9]
    exact ret0 hC true rfl fun _ _ _ => rfl
end Go.Proofs.Ytfmkpkmhhlakoaa.Sx

/- Contracts of garretref09.SetRun and garretref09.CutRuns over lists of places. -/
import Derived.Test.YtfmkpkmhhlakoaaRefs
import Derived.Test.YtfmkpkmhhlakoaaNews
set_option linter.unusedVariables false
set_option linter.unusedSimpArgs false
namespace Go.Proofs.Ytfmkpkmhhlakoaa.Rn
open Go.RowKit Go.Proofs.YtfmkpkmhhlakoaaW.PrintWords Go.Proofs.YtfmkpkmhhlakoaaW.PrintLast Go.Proofs.YtfmkpkmhhlakoaaW.PrintMore Go.Proofs.Ytfmkpkmhhlakoaa.PBlocksTell
attribute [local go_sem] max2_int min2_int max_two min_two max_three min_three max_four min_four

/-- A slice that reads as runs is handed back. -/
def RunsBack (w : World) (rs : List Run) (e : Ending) (w' : World) : Prop := ∃ A c, e = .returned (.slice A rs.length c) ∧ rs.length ≤ c ∧ Kd.C k107 w' A rs.length rs ∧ (∀ ad, A = some ad → w.heap.size ≤ ad.block) ∧ w.grownBy w' none
theorem R_fresh {α : Type} {d : Kd α} {e base n c : Nat} {ok : Nat → Prop} {w : World} {A : Option Addr} {xs : List α} (h : d.R e w base ok (.slice A n c) xs) : ∀ ad, A = some ad → base ≤ ad.block := by
  rintro ad rfl
  obtain ⟨inner, ho⟩ := Kd.R_own h
  exact own_base ho ad.block rfl
theorem runs_set {w : World} {A : Option Addr} {n : Nat} {rs : List Run} (h : Kd.C k107 w A n rs) (p : Addr) (u : Value) (hp : ∀ ad, A = some ad → ad.block ≠ p.block) : Kd.C k107 (w.setCell p u) A n rs := by
  obtain ⟨h1, h2, h3⟩ := h
  refine ⟨h1, h2, fun h0 => ?_⟩
  obtain ⟨ad, e, hx⟩ := h3 h0
  refine ⟨ad, e, fun j q hj => ?_⟩
  obtain ⟨c, k1, k2, k3⟩ := hx j q hj
  refine ⟨c, k1, k2, fun i v hv => ?_⟩
  have hb : (ad.add (j * (k107).sz + i)).block = ad.block := by unfold Addr.add; split <;> rfl
  exact (World.cell?_of_block (Below.heap_setCell w p u _ (by rw [hb]; exact hp ad e))).trans (k3 i v hv)
theorem setRun_any {w : World} {A : Option Addr} {c : Nat} {ps : List Int} (h : Pl ps) (hr : Kd.C k107 w A (runsOfP ps).length (runsOfP ps)) (hc : (runsOfP ps).length ≤ c) (ix : Nat) (at_ : Int) (hi : ix < 64) (h0 : 0 ≤ at_) (h1 : at_ ≤ 2147483647) :
    Calls Try.prog 36 #[.slice A (runsOfP ps).length c, .int .i64 (ix : Int), .int .i64 at_] w (RunsBack w (runsOfP (ps.set ix at_))) := by
  refine (garretref09_SetRun.calls 200 A c (runsOfP ps) (ix : Int) at_ _ w hr hc (setRun_f h ix at_ hi h0 h1 200 (Nat.le_refl _))).mono ?_
  rintro e w' ⟨v, rfl, hR, hb⟩
  obtain ⟨A', c', rfl, hl, hC⟩ := Kd.R_reads hR
  exact ⟨A', c', rfl, hl, hC, R_fresh hR, grown_of_below hb none⟩
theorem take_pl {ps : List Int} (h : Pl ps) (n : Nat) (hn : n ≤ 64) : Pl (ps.take n ++ List.replicate (64 - n) (-1)) := by
  refine ⟨by simp [h.1]; omega, fun p hp => ?_⟩
  rcases List.mem_append.1 hp with h1 | h1
  · exact h.2 p (List.mem_of_mem_take h1)
  · have := List.eq_of_mem_replicate h1
    omega
theorem runsQ_congr {ps qs : List Int} : ∀ i, (∀ j, j < i → ps.getD j 0 = qs.getD j 0) → runsQ ps i = runsQ qs i := by
  intro i
  induction i with
  | zero => exact fun _ => rfl
  | succ i ih =>
    intro h
    rw [runsQ, runsQ, ih (fun j hj => h j (by omega)), h i (by omega)]
theorem runs_take {ps : List Int} (h : Pl ps) (n : Nat) (hn : n ≤ 64) : runsOfP (ps.take n) = runsOfP (ps.take n ++ List.replicate (64 - n) (-1)) := by
  have hl : (ps.take n).length = n := by simp [h.1]; omega
  have hq := take_pl h n hn
  unfold runsOfP
  rw [hl, hq.1]
  have e1 : runsQ (ps.take n) n = runsQ (ps.take n ++ List.replicate (64 - n) (-1)) n := runsQ_congr n (fun j hj => by
    simp [List.getD, List.getElem?_append_left (show j < (ps.take n).length by omega)])
  rw [e1]
  have : ∀ d, n + d ≤ 64 → runsQ (ps.take n ++ List.replicate (64 - n) (-1)) n = runsQ (ps.take n ++ List.replicate (64 - n) (-1)) (n + d) := by
    intro d
    induction d with
    | zero => exact fun _ => rfl
    | succ d ih =>
      intro hd
      rw [ih (by omega), show n + (d + 1) = (n + d) + 1 from rfl, runsQ]
      have e2 : (ps.take n ++ List.replicate (64 - n) (-1 : Int)).getD (n + d) 0 = -1 := by
        rw [List.getD, List.getElem?_append_right (by omega), hl, show n + d - n = d from by omega]
        simp [show d < 64 - n by omega]
      rw [e2]
      unfold snoc
      rw [if_pos (by omega)]
  have := this (64 - n) (by omega)
  rwa [show n + (64 - n) = 64 from by omega] at this
theorem placesOf_any {w : World} {A : Option Addr} {c : Nat} {ps : List Int} (h : Pl ps) (hr : Kd.C k107 w A (runsOfP ps).length (runsOfP ps)) (hc : (runsOfP ps).length ≤ c) :
    Calls Try.prog 66 #[.slice A (runsOfP ps).length c] w fun e w' => ∃ b c', e = .returned (.slice (some b) 64 c') ∧ 64 ≤ c' ∧ Kd.C (Kd.int .i64) w' (some b) 64 ps ∧ w.grownBy w' none := by
  have hl := h.length
  have hf := places_f (runsOfP ps) (by omega) (rok_of_right h.right) 200 (by omega)
  rw [places_pl h] at hf
  refine (garretref09_placesOf.calls 200 A c (runsOfP ps) _ w hr hc hf).mono ?_
  rintro e w' ⟨v, rfl, hR, hb⟩
  obtain ⟨A', c', rfl, hl, hC⟩ := Kd.R_reads hR
  rw [h.1] at hl hC ⊢
  obtain ⟨ad, rfl, _⟩ := hC.2.2 (by omega)
  exact ⟨ad, c', rfl, hl, hC, grown_of_below hb none⟩
theorem c_take {α : Type} {d : Kd α} {w : World} {A : Option Addr} {n : Nat} {xs : List α} (h : d.C w A n xs) (m : Nat) (hm : m ≤ n) : d.C w A m (xs.take m) := by
  obtain ⟨h1, h2, h3⟩ := h
  refine ⟨by rw [List.length_take]; omega, by omega, fun h0 => ?_⟩
  obtain ⟨ad, e, hx⟩ := h3 (by omega)
  refine ⟨ad, e, fun j p hj => hx j p ?_⟩
  rw [List.getElem?_take] at hj
  split at hj
  · exact hj
  · cases hj
set_option maxHeartbeats 1000000 in
set_option maxRecDepth 100000 in
theorem cutRuns_any {w : World} {A : Option Addr} {c : Nat} {ps : List Int} (h : Pl ps) (hr : Kd.C k107 w A (runsOfP ps).length (runsOfP ps)) (hc : (runsOfP ps).length ≤ c) (n : Nat) (hn : n ≤ 64) :
    Calls Try.prog 37 #[.slice A (runsOfP ps).length c, .int .i64 (n : Int)] w (RunsBack w (runsOfP (ps.take n ++ List.replicate (64 - n) (-1)))) := by
  have hl := h.length
  have HR := Lib.hid (fun W (hW : w.grownBy W none) => garretref09_RightRuns.calls 200 A c (runsOfP ps) _ W (Kd.C_below hr (Bk.below_of hW)) hc (rightR_more _ (by omega) 200 (by omega)))
  rw [h.right] at HR
  have HP := Lib.hid (fun W (hW : w.grownBy W none) => placesOf_any (w := W) h (Kd.C_below hr (Bk.below_of hW)) hc)
  have hlt : (ps.take n).length = n := by simp [h.1]; omega
  have HO := Lib.hid (fun W A' c' (hA : Kd.C (Kd.int .i64) W A' (ps.take n).length (ps.take n)) (hc' : (ps.take n).length ≤ c') => garretref09_runsOf.calls 200 A' c' (ps.take n) _ W hA hc' (runsOf_f _ (fun p hp => (h.2 p (List.mem_of_mem_take hp)).2) (by omega) 200 (by omega)))
  rw [runs_take h n hn] at HO
  have Hlt := Lib.hid hlt
  have Hpl := Lib.hid h
  clear hlt h hr
  have hmin : min (n : Int) 64 = n := by omega
  have hmax : max 0 (n : Int) = n := by omega
  go_enter Try.func37, Try.ntmps37
  go_wp2_with fail
  refine (HR.out _ (World.grownBy.refl _ _)).mono ?_
  rintro e w1 ⟨rfl, hb1⟩
  have hg1 := grown_of_below hb1 none
  go_wp2_with fail
  refine (HP.out _ hg1).mono ?_
  rintro e w2 ⟨b, c2, rfl, hc2, hC2, hg2⟩
  have hg2 := hg1.trans hg2
  have hnc : n ≤ c2 := by omega
  have hC3 := c_take hC2 n hn
  have e0 := Hlt.out
  have HO2 := Lib.hid (HO.out w2 (some b) c2 (by rw [e0]; exact hC3) (by omega))
  rw [e0] at HO2
  clear HO e0
  rcases Nat.eq_zero_or_pos n with rfl | hp
  · go_wp2_with fail
    refine HO2.out.mono ?_
    rintro e w3 ⟨v3, rfl, hR3, hb3⟩
    have hx := Kd.R_reads hR3
    obtain ⟨A3, c3, hv3, hl3, hC4⟩ := hx
    have Hv := Lib.hid hv3
    clear hv3
    go_wp2_with fail
    go_ret
    exact ⟨A3, c3, congrArg Ending.returned Hv.out, hl3, hC4, fun ad e => Nat.le_trans hg2.size (by rw [Hv.out] at hR3; exact R_fresh hR3 ad e), hg2.trans (grown_of_below hb3 none)⟩
  · have hp' : (0 : Int) < (n : Int) := by omega
    go_wp2_with fail
    refine HO2.out.mono ?_
    rintro e w3 ⟨v3, rfl, hR3, hb3⟩
    have hx := Kd.R_reads hR3
    obtain ⟨A3, c3, hv3, hl3, hC4⟩ := hx
    have Hv := Lib.hid hv3
    clear hv3
    go_wp2_with fail
    go_ret
    exact ⟨A3, c3, congrArg Ending.returned Hv.out, hl3, hC4, fun ad e => Nat.le_trans hg2.size (by rw [Hv.out] at hR3; exact R_fresh hR3 ad e), hg2.trans (grown_of_below hb3 none)⟩
end Go.Proofs.Ytfmkpkmhhlakoaa.Rn

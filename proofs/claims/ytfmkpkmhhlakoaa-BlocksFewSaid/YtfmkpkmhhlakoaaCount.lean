/- blocks.Count: how all blocks stand. -/
import Derived.Test.YtfmkpkmhhlakoaaLive
import Derived.Test.YtfmkpkmhhlakoaaCont
import Derived.Test.YtfmkpkmhhlakoaaApp
import Derived.Deep.RegionHeld3
set_option linter.unusedVariables false
set_option linter.unusedSimpArgs false
namespace Go.Proofs.Ytfmkpkmhhlakoaa.Bk
open Go.RowKit Go.Proofs.Ytfmkpkmhhlakoaa.Mx Go.Proofs.Ytfmkpkmhhlakoaa.Rn Go.Proofs.YtfmkpkmhhlakoaaW.PrintWords Go.Proofs.Ytfmkpkmhhlakoaa.PBlocksTell Go.Proofs.Ytfmkpkmhhlakoaa.Ints

theorem infoBlock : (Try.prog.info? 55).map (fun i => (i.zero, i.size, i.bytes)) = some (some (.agg #[.int .i64 0, .int .i64 0, .int .i64 0, .bool false]), 4, 32) := by kernel_rfl
def blkV (x : Int × Int × Int × Bool) : List Value := [.int .i64 x.1, .int .i64 x.2.1, .int .i64 x.2.2.1, .bool x.2.2.2]
def oneB (L : List (Int × (Int × Int))) (pages : Int) (ps es bad : List Int) (i : Nat) : Int × Int × Int × Bool := (ps.getD i 0, ((liveP L i pages).length : Int), es.getD i 0, decide ((i : Int) ∈ bad))
def countP (L : List (Int × (Int × Int))) (pages : Int) (ps es bad : List Int) (n : Nat) : List (Int × Int × Int × Bool) := (List.range n).map (oneB L pages ps es bad)
theorem src_blk (w : World) (a b c d : Value) (T : TypeId) : App.Src (w.alloc (.cells #[a, b, c, d] T)) (some ⟨w.heap.size, 0, none⟩) 1 1 [a, b, c, d] :=
  .inr ⟨_, rfl, fun j u hu => by
    match j, hu with
    | 0, hu => simp at hu; subst hu; simp [Addr.add]
    | 1, hu => simp at hu; subst hu; simp [Addr.add]
    | 2, hu => simp at hu; subst hu; simp [Addr.add]
    | 3, hu => simp at hu; subst hu; simp [Addr.add]⟩
theorem live_len (w : World) (b : Nat) (L : List (Int × (Int × Int))) (block pages : Int) (hm : MapAt kv w b (mv tagv L)) (hp : 0 < pages) (hL : L.length ≤ 1000000000000) :
    Calls Try.prog 57 #[.map (some b), .int .i64 block, .int .i64 pages] w fun e w' => (∃ a c, e = .returned (.slice a (liveP L block pages).length c)) ∧ w.grownBy w' none := by
  refine (live_any w b L block pages hm hp hL).mono ?_
  rintro e w' ⟨v, rfl, ho, hg⟩
  obtain ⟨a, c, rfl, _⟩ := rd_own ho
  exact ⟨⟨a, c, rfl⟩, hg⟩
theorem one4 (a b c : Int) (d : Bool) : ∀ u ∈ ([.int .i64 a, .int .i64 b, .int .i64 c, .bool d] : List Value), u.oneCell' = true := by
  intro u hu
  simp at hu
  rcases hu with rfl | rfl | rfl | rfl <;> rfl
theorem own_none {w w' : World} {base e size n : Nat} {v : Value} {xs : List Value} (h : w.ownsRow base e size v n xs) (hg : w.grownBy w' none) : w'.ownsRow base e size v n xs := h.kept hg (by
  rcases hb : v.ownBlock with _ | q
  · exact .inl rfl
  · exact .inr (by simp))
def CountOk (w : World) (ok : Bool) (xs : List (Int × Int × Int × Bool)) (e : Ending) (w' : World) : Prop :=
  w.grownBy w' none ∧ if ok then ∃ v, e = .returned v ∧ w'.ownsRow w.heap.size 55 4 v xs.length (xs.flatMap blkV) else e = .returned (.slice none 0 0)

set_option maxHeartbeats 4000000 in
set_option maxRecDepth 100000 in
theorem count_bad (w : World) (nx : Int) (va vb : Value) (g0 g1 g2 g3 g4 : Int) (ap : Option Addr) (np cp : Nat) (ae : Option Addr) (ne ce : Nat)
    (h : ¬ (norRight g0 g1 g2 g3 g4 ∧ (np : Int) = g2 ∧ (ne : Int) = g2)) :
    Calls Try.prog 27 #[.agg #[.int .i64 nx, va, vb], .agg #[.int .i64 g0, .int .i64 g1, .int .i64 g2, .int .i64 g3, .int .i64 g4], .slice ap np cp, .slice ae ne ce] w
      fun e w' => e = .returned (.slice none 0 0) ∧ w.grownBy w' none := by
  have hg0 : w.grownBy ((w.alloc (.cells #[.int .i64 nx, va, vb] 43)).alloc (.cells #[.int .i64 g0, .int .i64 g1, .int .i64 g2, .int .i64 g3, .int .i64 g4] 39)) none := (World.grownBy_alloc _ _ none).trans (World.grownBy_alloc _ _ none)
  have q2 : ((w.alloc (.cells #[.int .i64 nx, va, vb] 43)).alloc (.cells #[.int .i64 g0, .int .i64 g1, .int .i64 g2, .int .i64 g3, .int .i64 g4] 39)).cell? ⟨w.heap.size + 1, 2, none⟩ = some (.int .i64 g2) := by simp
  have HN := Lib.hid (fun W => norRight_any g0 g1 g2 g3 g4 W)
  rcases hd : decide (norRight g0 g1 g2 g3 g4) with _ | _
  · rw [hd] at HN
    clear h hd
    go_enter Try.func27, Try.ntmps27
    go_wp2_with fail
    generalize (w.alloc (.cells #[.int .i64 nx, va, vb] 43)).alloc (.cells #[.int .i64 g0, .int .i64 g1, .int .i64 g2, .int .i64 g3, .int .i64 g4] 39) = w0 at *
    refine (HN.out w0).mono ?_
    rintro e w1 ⟨rfl, hg1⟩
    go_wp2
    go_ret
    exact ⟨rfl, hg0.trans hg1⟩
  · rw [hd] at HN
    have hR : norRight g0 g1 g2 g3 g4 := of_decide_eq_true hd
    by_cases h1 : (np : Int) = g2
    · have h2 : ¬ (ne : Int) = g2 := fun e => h ⟨hR, h1, e⟩
      have h2b : ((ne : Int) == g2) = false := by simpa using h2
      have h2c : ((ne : Int) != g2) = true := by simpa using h2
      have h1c : ((np : Int) != g2) = false := by simp [h1]
      clear h hd h1 h2 hR
      go_enter Try.func27, Try.ntmps27
      go_wp2_with fail
      generalize (w.alloc (.cells #[.int .i64 nx, va, vb] 43)).alloc (.cells #[.int .i64 g0, .int .i64 g1, .int .i64 g2, .int .i64 g3, .int .i64 g4] 39) = w0 at *
      refine (HN.out w0).mono ?_
      rintro e w1 ⟨rfl, hg1⟩
      have q2 := hg1.cell q2 (by simp)
      go_wp2
      go_ret
      exact ⟨rfl, hg0.trans hg1⟩
    · have h1b : ((np : Int) == g2) = false := by simpa using h1
      have h1c : ((np : Int) != g2) = true := by simpa using h1
      clear h hd h1 hR
      go_enter Try.func27, Try.ntmps27
      go_wp2_with fail
      generalize (w.alloc (.cells #[.int .i64 nx, va, vb] 43)).alloc (.cells #[.int .i64 g0, .int .i64 g1, .int .i64 g2, .int .i64 g3, .int .i64 g4] 39) = w0 at *
      refine (HN.out w0).mono ?_
      rintro e w1 ⟨rfl, hg1⟩
      have q2 := hg1.cell q2 (by simp)
      go_wp2
      go_ret
      exact ⟨rfl, hg0.trans hg1⟩

set_option maxHeartbeats 4000000 in
set_option maxRecDepth 100000 in
theorem count_any (w : World) (nx : Int) (Ai : Option Addr) (ci : Nat) (l : List Ino) (ab : Option Addr) (nb cb : Nat) (bad : List Int) (g0 g1 g2 g3 g4 : Int) (ap : Option Addr) (np cp : Nat) (ps : List Int) (ae : Option Addr) (ne ce : Nat) (es : List Int)
    (h : Kd.C k63 w Ai l.length l) (hb : Rd w ab nb bad) (hp : Rd w ap np ps) (he : Rd w ae ne es) (hnb : nb ≤ 9223372036854775807) (hL : (ownersP l).length ≤ 1000000000000) (hpn : np ≤ 1000) (hen : ne ≤ 1000) :
    Calls Try.prog 27 #[stateV nx Ai l.length ci (.slice ab nb cb), .agg #[.int .i64 g0, .int .i64 g1, .int .i64 g2, .int .i64 g3, .int .i64 g4], .slice ap np cp, .slice ae ne ce] w
      (CountOk w (decide (norRight g0 g1 g2 g3 g4) && (decide ((np : Int) = g2) && decide ((ne : Int) = g2))) (countP (ownersP l) g3 ps es bad np)) := by
  by_cases hR : norRight g0 g1 g2 g3 g4
  · by_cases hpg : (np : Int) = g2
    · by_cases heg : (ne : Int) = g2
      · have hdec : (decide (norRight g0 g1 g2 g3 g4) && (decide ((np : Int) = g2) && decide ((ne : Int) = g2))) = true := by simp [hR, hpg, heg]
        rw [hdec]
        have hd : decide (norRight g0 g1 g2 g3 g4) = true := decide_eq_true hR
        have hg3 : 0 < g3 := by unfold norRight at hR; omega
        subst hpg
        have hne : ne = np := by omega
        subst hne
        have HN := Lib.hid (fun W => norRight_any g0 g1 (ne : Int) g3 g4 W)
        rw [hd] at HN
        clear hd hdec
        have hlc : (countP (ownersP l) g3 ps es bad ne).length = ne := by simp [countP]
        have hC1 : Kd.C k63 ((w.alloc (.cells #[.int .i64 nx, .slice Ai l.length ci, .slice ab nb cb] 43)).alloc (.cells #[.int .i64 g0, .int .i64 g1, .int .i64 (ne : Int), .int .i64 g3, .int .i64 g4] 39)) Ai l.length l := Kd.C_below h (below_of ((World.grownBy_alloc _ _ none).trans (World.grownBy_alloc _ _ none)))
        have hg0 : w.grownBy ((w.alloc (.cells #[.int .i64 nx, .slice Ai l.length ci, .slice ab nb cb] 43)).alloc (.cells #[.int .i64 g0, .int .i64 g1, .int .i64 (ne : Int), .int .i64 g3, .int .i64 g4] 39)) none := (World.grownBy_alloc _ _ none).trans (World.grownBy_alloc _ _ none)
        have s0 : ((w.alloc (.cells #[.int .i64 nx, .slice Ai l.length ci, .slice ab nb cb] 43)).alloc (.cells #[.int .i64 g0, .int .i64 g1, .int .i64 (ne : Int), .int .i64 g3, .int .i64 g4] 39)).cell? ⟨w.heap.size, 0, none⟩ = some (.int .i64 nx) := by simp
        have s1 : ((w.alloc (.cells #[.int .i64 nx, .slice Ai l.length ci, .slice ab nb cb] 43)).alloc (.cells #[.int .i64 g0, .int .i64 g1, .int .i64 (ne : Int), .int .i64 g3, .int .i64 g4] 39)).cell? ⟨w.heap.size, 1, none⟩ = some (.slice Ai l.length ci) := by simp
        have s2 : ((w.alloc (.cells #[.int .i64 nx, .slice Ai l.length ci, .slice ab nb cb] 43)).alloc (.cells #[.int .i64 g0, .int .i64 g1, .int .i64 (ne : Int), .int .i64 g3, .int .i64 g4] 39)).cell? ⟨w.heap.size, 2, none⟩ = some (.slice ab nb cb) := by simp
        have q2 : ((w.alloc (.cells #[.int .i64 nx, .slice Ai l.length ci, .slice ab nb cb] 43)).alloc (.cells #[.int .i64 g0, .int .i64 g1, .int .i64 (ne : Int), .int .i64 g3, .int .i64 g4] 39)).cell? ⟨w.heap.size + 1, 2, none⟩ = some (.int .i64 (ne : Int)) := by simp
        have q3 : ((w.alloc (.cells #[.int .i64 nx, .slice Ai l.length ci, .slice ab nb cb] 43)).alloc (.cells #[.int .i64 g0, .int .i64 g1, .int .i64 (ne : Int), .int .i64 g3, .int .i64 g4] 39)).cell? ⟨w.heap.size + 1, 3, none⟩ = some (.int .i64 g3) := by simp
        simp only [stateV]
        go_enter Try.func27, Try.ntmps27
        go_wp2_with fail
        generalize (w.alloc (.cells #[.int .i64 nx, .slice Ai l.length ci, .slice ab nb cb] 43)).alloc (.cells #[.int .i64 g0, .int .i64 g1, .int .i64 (ne : Int), .int .i64 g3, .int .i64 g4] 39) = w0 at *
        refine (HN.out w0).mono ?_
        rintro e w1 ⟨rfl, hg1⟩
        have s0 := hg1.cell s0 (by simp)
        have s1 := hg1.cell s1 (by simp)
        have s2 := hg1.cell s2 (by simp)
        have q2 := hg1.cell q2 (by simp)
        have q3 := hg1.cell q3 (by simp)
        have HO := Lib.hid (owners_any w1 nx Ai ci l (.slice ab nb cb) (Kd.C_below hC1 (below_of hg1)))
        simp only [stateV] at HO
        have hg2 := hg0.trans hg1
        clear hg0 hg1 hC1
        generalize hbs : w.heap.size = bs at *
        generalize hbg : bs + 1 = bg at *
        go_wp2_with fail
        refine HO.out.mono ?_
        rintro e w2 ⟨mb, rfl, hmb, hm2, hg3'⟩
        have s2 := hg3'.cell s2 (by simp)
        have q2 := hg3'.cell q2 (by simp)
        have q3 := hg3'.cell q3 (by simp)
        have hgw := hg2.trans hg3'
        have hb2 : Rd w2 ab nb bad := hb.grown hgw (by simp)
        have hp2 : Rd w2 ap ne ps := hp.grown hgw (by simp)
        have he2 : Rd w2 ae ne es := he.grown hgw (by simp)
        have hbase : w.heap.size ≤ w2.heap.size := hgw.size
        clear hg2 hg3' s0 s1 HO hmb HN h hb hp he
        have Hbase := Lib.hid hbase
        clear hbase hbs hbg
        go_wp2_with fail
        go_loopg [10, 33] ne (fun g v k wr => ∃ i : Nat, k = .int .i64 i ∧ i + g = ne ∧ wr.ownsRow w2.heap.size 55 4 v i ((countP (ownersP l) g3 ps es bad i).flatMap blkV) ∧ w2.grownBy wr none)
        case atStart => exact ⟨0, rfl, by omega, World.ownsRow_nil _ _ _ _, World.grownBy.refl _ _⟩
        case round =>
          obtain ⟨i, rfl, hi, ho, hgr⟩ := hrel
          have Hi := Lib.hid hi
          clear hi
          have r2 := hgr.cell q2 (by simp)
          by_cases hlt : i < ne
          · obtain ⟨pb, po, rfl, hpc⟩ := hp2.2 (by omega)
            obtain ⟨eb, eo, rfl, hec⟩ := he2.2 (by omega)
            have bp := hpc i hlt
            have be := hec i hlt
            have xp := hgr.cell bp (by simp)
            have xe := hgr.cell be (by simp)
            have xb := hgr.cell s2 (by simp)
            have xg := hgr.cell q3 (by simp)
            have hone : countP (ownersP l) g3 ps es bad (i + 1) = countP (ownersP l) g3 ps es bad i ++ [oneB (ownersP l) g3 ps es bad i] := by simp [countP, List.range_succ]
            have hone2 : oneB (ownersP l) g3 ps es bad i = (ps.getD i 0, ((liveP (ownersP l) i g3).length : Int), es.getD i 0, decide ((i : Int) ∈ bad)) := rfl
            have hLive := fun W (hW : w2.grownBy W none) => live_len W mb (ownersP l) (i : Int) g3 (hm2.kept hW (by simp)) hg3 hL
            have hCont := fun W (hW : w2.grownBy W none) => contains_any ab nb cb bad (i : Int) W (hb2.grown hW (by simp)) hnb
            generalize hP : ps.getD i 0 = P at *
            generalize hE : es.getD i 0 = E at *
            generalize hN : (liveP (ownersP l) (i : Int) g3).length = N at *
            generalize hB : decide ((i : Int) ∈ bad) = B at *
            have HL := Lib.hid hLive
            have HC := Lib.hid hCont
            rw [hone2] at hone
            have HO := Lib.hid hone
            clear hLive hCont hone hone2 hP hE hN hB hpc hec
            obtain ⟨i0, hi0, hz0, hz1, hz2⟩ := info_parts infoBlock
            have hol := fun j hj => (ho.lt j hj).1
            go_upto_region 8 with (fail)
            go_region_held3 (fun W => W.cell? ⟨pb, po + i, none⟩ = some (.int .i64 P) ∧ W.cell? ⟨eb, eo + i, none⟩ = some (.int .i64 E) ∧ W.cell? ⟨bs, 2, none⟩ = some (.slice ab nb cb) ∧ W.cell? ⟨bg, 3, none⟩ = some (.int .i64 g3))
              (first | exact ⟨zp, ze, zb, zg⟩ | exact ⟨yp, ye, yb, yg⟩ | exact ⟨xp, xe, xb, xg⟩ | go_keep)
              (first
              | (go_at_call 57; refine (HL.out _ (by exact ⟨hgr.os, hgr.tape, hgr.output, hgr.size, hgr.block⟩)).mono ?_; rintro e w3 ⟨⟨A3, C3, rfl⟩, hg3a⟩; have yp := hg3a.cell (a := ⟨pb, po + i, none⟩) xp (by simp); have ye := hg3a.cell (a := ⟨eb, eo + i, none⟩) xe (by simp); have yb := hg3a.cell (a := ⟨bs, 2, none⟩) xb (by simp); have yg := hg3a.cell (a := ⟨bg, 3, none⟩) xg (by simp); have hg3b : wr.grownBy w3 none := ⟨hg3a.os, hg3a.tape, hg3a.output, hg3a.size, hg3a.block⟩; have hgr3 := hgr.trans hg3b; have ho3 := own_none ho hg3b)
              | (go_at_call 63; refine (HC.out _ (by first | exact ⟨hgr3.os, hgr3.tape, hgr3.output, hgr3.size, hgr3.block⟩ | exact ⟨hgr.os, hgr.tape, hgr.output, hgr.size, hgr.block⟩)).mono ?_; rintro e w4 ⟨rfl, rfl⟩)
              | (refine App.step_append_any _ rfl (.tmp 36) (.tmp 56) 56 rfl w2.heap.size 55 i0 (.agg #[.int .i64 0, .int .i64 0, .int .i64 0, .bool false]) 4 32 Try.underlying56 hi0 hz0 hz1 hz2 rfl (by decide) _ i _ ?_ (ho3.alloc _) _ 1 1 [.int .i64 P, .int .i64 (N : Int), .int .i64 E, .bool B] rfl rfl ?_ (one4 _ _ _ _) ?_ ?_ ?_ ?_; (focus (first | (go_simp; done) | rfl)); (focus (first | with_reducible exact src_blk _ _ _ _ _ _ | exact src_blk _ _ _ _ _ _)); (focus (unfold maxLen; omega)); (focus omega); (focus (exact Nat.le_trans hgr3.size (World.grownBy_alloc _ _ none).size)); intro v5 w5 ho5 hg5; have hg6 := (hgr3.trans (World.grownBy_alloc _ _ none)).andThen hg5 (fun j hj => .inl (hol j hj)); have zp := hg6.cell bp (by simp); have ze := hg6.cell be (by simp); have zb := hg6.cell s2 (by simp); have zg := hg6.cell q3 (by simp)))
            go_wp2_with fail
            go_roundg (ne - i - 1)
            case measure => have := Hi.out; omega
            case rel =>
              have := Hi.out
              refine ⟨i + 1, by simp, by omega, ?_, hg6⟩
              rw [HO.out, List.flatMap_append]
              simpa [blkV] using ho5
          · have e1 : i = ne := by have := Hi.out; omega
            subst e1
            go_wp2
            go_ret
            refine ⟨hgw.trans hgr, ?_⟩
            rw [if_pos rfl]
            refine ⟨_, rfl, ?_⟩
            rw [hlc]
            exact ownsRow_base_le ho Hbase.out
      · have hdec : (decide (norRight g0 g1 g2 g3 g4) && (decide ((np : Int) = g2) && decide ((ne : Int) = g2))) = false := by simp [heg]
        rw [hdec]
        exact (count_bad w nx _ _ g0 g1 g2 g3 g4 ap np cp ae ne ce (fun h => heg h.2.2)).mono fun e w' ⟨h1, h2⟩ => ⟨h2, by rw [if_neg (by decide)]; exact h1⟩
    · have hdec : (decide (norRight g0 g1 g2 g3 g4) && (decide ((np : Int) = g2) && decide ((ne : Int) = g2))) = false := by simp [hpg]
      rw [hdec]
      exact (count_bad w nx _ _ g0 g1 g2 g3 g4 ap np cp ae ne ce (fun h => hpg h.2.1)).mono fun e w' ⟨h1, h2⟩ => ⟨h2, by rw [if_neg (by decide)]; exact h1⟩
  · have hdec : (decide (norRight g0 g1 g2 g3 g4) && (decide ((np : Int) = g2) && decide ((ne : Int) = g2))) = false := by simp [hR]
    rw [hdec]
    exact (count_bad w nx _ _ g0 g1 g2 g3 g4 ap np cp ae ne ce (fun h => hR h.1)).mono fun e w' ⟨h1, h2⟩ => ⟨h2, by rw [if_neg (by decide)]; exact h1⟩
end Go.Proofs.Ytfmkpkmhhlakoaa.Bk

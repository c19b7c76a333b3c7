/- BlocksStand: the walk. -/
import Derived.Test.YtfmkpkmhhlakoaaBaw
import Derived.Test.YtfmkpkmhhlakoaaWZeros
import Derived.Deep.RegionHeld3
import Derived.Deep.RegionLawGrows
import Derived.Outline
import Derived.Deep.DeepCutAuto
import Derived.Deep.QuietTactic
import Derived.BigQuiet
set_option linter.unusedVariables false
set_option linter.unusedSimpArgs false
namespace Go.Proofs.Ytfmkpkmhhlakoaa.App
open Go
section
variable {P : Program} (w : World)
theorem step_append_zeros {ops : Array Oper} {o : Oper} {a : Act} {K : Act → World → Prop} {Q : Exit → Act → World → Prop} {E : Prop} (hgd : o.guard = none) (s x : Operand) (t tn : TypeId)
    (ho : o.op = .call { callee := .builtin .append, args := #[s, x], argTypes := #[t, tn] })
    (base : Nat) (e : TypeId) (i : TypeInfo) (z : Value) (size bytes : Nat) (ht : P.underlying t = some (.slice e)) {k : IntKind} (htn : P.underlying tn = some (.int k)) (hi : P.info? e = some i) (hz : i.zero = some z)
    (hsize : i.size = size) (hby : i.bytes = bytes) (hzs : z.cells.size = size) (hsz : 0 < size) (hb0 : 0 < bytes)
    (v : Value) (n : Nat) (xs : List Value) (hs : a.eval s = v) (hown : w.ownsRow base e size v n xs)
    (kx : IntKind) (m : Nat) (hx : a.eval x = .int kx (m : Int)) (h1 : ∀ u ∈ (Builtin.zeroCells z.cells m).toList, u.oneCell' = true)
    (hbytes : (n + m) * bytes ≤ 140737488355328) (hbase : base ≤ w.heap.size)
    (h : ∀ v' w', w'.ownsRow base e size v' (n + m) (xs ++ (Builtin.zeroCells z.cells m).toList) → w.grownBy w' v.ownBlock → K (a.put o.dst v') w') :
    if Region.wanted o (yielded ops a.tmps) = true then Oper.wp P o a w K Q else E := by
  have hw : Region.wanted o (yielded ops a.tmps) = true := by simp [Region.wanted, hgd]
  rw [if_pos hw]
  obtain ⟨v', w', hrun, r1, r2, _⟩ := Go.Proofs.YtfmkpkmhhlakoaaW.PrintWords.run_append_zeros (P := P) w base t tn o.type e i z size bytes ht htn hi hz hsize hby hzs hsz hb0 v n xs hown kx m h1 hbytes hbase
  unfold Oper.wp
  simp [execOp, ho, resolve, invoke, builtin, hs, hx, hrun, Result.andThen]
  exact h v' w' r1 r2
end
end Go.Proofs.Ytfmkpkmhhlakoaa.App
namespace Go.Proofs.Ytfmkpkmhhlakoaa.Bk
open Go.RowKit Go.Proofs.Ytfmkpkmhhlakoaa.Mx Go.Proofs.Ytfmkpkmhhlakoaa.Rn Go.Proofs.YtfmkpkmhhlakoaaW.PrintWords Go.Proofs.Ytfmkpkmhhlakoaa.PBlocksTell Go.Proofs.Ytfmkpkmhhlakoaa.Ints

theorem own_form {w : World} {base e n : Nat} {v : Value} {xs : List Value} (h : w.ownsRow base e 1 v n xs) (hn : 0 < n) : ∃ g cap, v = .slice (some ⟨g, 0, none⟩) n cap ∧ n ≤ cap ∧ cap ≤ maxLen ∧ base ≤ g := by
  rcases h.2 with ⟨rfl, h1⟩ | ⟨g, cap, cur, rfl, hb, hg, hn, hm, hs, ht⟩
  · omega
  · exact ⟨g, cap, rfl, hn, hm, hb⟩
theorem own_form2 {w : World} {base e n : Nat} {v : Value} {xs : List Value} (h : w.ownsRow base e 1 v n xs) : ∃ a cap, v = .slice a n cap := by
  rcases h.2 with ⟨rfl, h1⟩ | ⟨g, cap, cur, rfl, hb, hg, hn, hm, hs, ht⟩
  · exact ⟨none, 0, by rw [h1]⟩
  · exact ⟨_, cap, rfl⟩
theorem src_rd {w : World} {a : Option Addr} {n c : Nat} {zs : List Int} (h : Rd w a n zs) (hc : a = none → n = 0 ∧ c = 0) : App.Src w a n c (zs.map (Value.int .i64)) := by
  cases a with
  | none => exact .inl ⟨rfl, (hc rfl).1, (hc rfl).2⟩
  | some ad =>
    refine .inr ⟨ad, rfl, fun j u hu => ?_⟩
    have hj : j < zs.length := by
      have := (List.getElem?_eq_some_iff.1 hu).1
      simpa using this
    have hl := h.1
    obtain ⟨b, off, e, hx⟩ := h.2 (by omega)
    cases e
    rw [add_none, hx j (by omega)]
    rw [← hu]
    simp [List.getD, hj]
theorem oneI (zs : List Int) : ∀ u ∈ zs.map (Value.int .i64), u.oneCell' = true := by
  intro u hu
  obtain ⟨x, _, rfl⟩ := List.mem_map.1 hu
  rfl
theorem zeros10 : (Builtin.zeroCells (Value.int .i64 0).cells 10).toList = (List.replicate 10 0).map (Value.int .i64) := by kernel_rfl
theorem grown_none {w w' : World} (h : w.grownBy w' (Value.slice none 0 0).ownBlock) : w.grownBy w' none := ⟨h.os, h.tape, h.output, h.size, fun i hi _ => h.block i hi (by simp [Value.ownBlock])⟩
def MadeP (w2 : World) (zs : List Int) (B : Nat) (v : Value) (wx : World) : Prop := ∃ g cap, v = .slice (some ⟨g, 0, none⟩) B cap ∧ B ≤ cap ∧ cap ≤ 9223372036854775807 ∧ Rd wx (some ⟨g, 0, none⟩) B zs ∧ w2.grownBy wx none
theorem madeP {w2 wx : World} {g cap base np B : Nat} {ps : List Int} (ho : wx.ownsRow base 3 1 (.slice (some ⟨g, 0, none⟩) (np + 10) cap) (np + 10) ((ps ++ List.replicate 10 0).map (Value.int .i64))) (hl : ps.length = np) (hB : B ≤ 8) (hc : np + 10 ≤ cap) (hm : cap ≤ maxLen) (hg : w2.grownBy wx none) : MadeP w2 ((ps ++ List.replicate 10 0).take B) B (.slice (some ⟨g, 0, none⟩) B cap) wx := by
  have h2 : (ps ++ List.replicate 10 (0 : Int)).length = np + 10 := by simp [hl]
  obtain ⟨a, c, e, hr⟩ := rd_own (v := .slice (some ⟨g, 0, none⟩) (np + 10) cap) (zs := ps ++ List.replicate 10 0) (by rw [h2]; exact ho)
  injection e with e1 e2 e3
  rw [← e1, h2] at hr
  refine ⟨g, cap, rfl, by omega, by unfold maxLen at hm; omega, ⟨by rw [List.length_take, h2]; omega, fun hb => ?_⟩, hg⟩
  obtain ⟨b, off, e4, hx⟩ := hr.2 (by omega)
  refine ⟨b, off, e4, fun j hj => ?_⟩
  rw [hx j (by omega)]
  have h3 : j < (ps ++ List.replicate 10 (0 : Int)).length := by omega
  have e5 : (List.take B (ps ++ List.replicate 10 (0 : Int))).getD j 0 = (ps ++ List.replicate 10 (0 : Int)).getD j 0 := by
    simp only [List.getD, List.getElem?_take, if_pos hj]
  rw [e5]
section
variable {P : Program}
/-- append to a cut row that is full: as one step of a region, guarded or not. -/
theorem _root_.Go.Proofs.Ytfmkpkmhhlakoaa.App.step_append_full {ops : Array Oper} {o : Oper} {a : Act} {w : World} {K : Act → World → Prop} {Q : Exit → Act → World → Prop} {E : Prop}
    (s x : Operand) (t : TypeId) (hop : o.op = Op.call { callee := Callee.builtin Builtin.append, args := #[s, x], argTypes := #[t, t] })
    (e : TypeId) (i : TypeInfo) (z : Value) (size bytes : Nat) (h1 : P.underlying t = some (.slice e)) (h2 : P.info? e = some i) (h3 : i.zero = some z) (h4 : i.size = size) (h5 : i.bytes = bytes) (h6 : z.cells.size = size) (h7 : 0 < size)
    (b : Addr) (n cap : Nat) (olds : List Value) (hs : a.eval s = .slice (some b) n cap) (hlo : olds.length = n * size) (holds : ∀ j u, olds[j]? = some u → w.cell? (b.add j) = some u)
    (ad : Addr) (m c : Nat) (news : List Value) (hx : a.eval x = .slice (some ad) m c) (hn : news.length = m * size) (hc : ∀ j u, news[j]? = some u → w.cell? (ad.add j) = some u)
    (hfull : cap < n + m) (b1 : n + m ≤ maxLen) (b2 : (n + m) * bytes ≤ 140737488355328) (hw : Region.wanted o (yielded ops a.tmps) = true)
    (hK : ∀ v' w', w'.ownsRow w.heap.size e size v' (n + m) (olds ++ news) → w.grownBy w' none → K (a.put o.dst v') w') :
    if Region.wanted o (yielded ops a.tmps) = true then Oper.wp P o a w K Q else E := by
  rw [if_pos hw]
  obtain ⟨v', w', hrun, r1, r2⟩ := run_append_arg_grows (P := P) w t o.type e i z size bytes h1 h2 h3 h4 h5 h6 h7 b n cap olds hlo holds ad m c news hn hc hfull b1 b2
  unfold Oper.wp
  simp [execOp, hop, resolve, invoke, builtin, hs, hx, hrun, Result.andThen]
  exact hK v' w' r1 r2
end
theorem rd_cells {w : World} {ad : Addr} {n : Nat} {zs : List Int} (h : Rd w (some ad) n zs) : ∀ j u, (zs.map (Value.int .i64))[j]? = some u → w.cell? (ad.add j) = some u := by
  rcases src_rd (c := n) h (fun e => by cases e) with ⟨e, _⟩ | ⟨a, e, hx⟩
  · cases e
  · cases e
    exact hx
theorem new_cells (w : World) (v : Value) (T : TypeId) : ∀ j u, ([v] : List Value)[j]? = some u → (w.alloc (.cells #[v] T)).cell? (Addr.add ⟨w.heap.size, 0, none⟩ j) = some u := by
  rcases App.src_new w v T with ⟨e, _⟩ | ⟨a, e, hx⟩
  · cases e
  · cases e
    exact hx
def CntAt (W : World) (lb : Nat) (B : Nat) (pz ez bad : List Int) : Prop := ∀ i, i < B → W.cell? ⟨lb, i * 4, none⟩ = some (.int .i64 (pz.getD i 0)) ∧ W.cell? ⟨lb, i * 4 + 1, none⟩ = some (.int .i64 0) ∧ W.cell? ⟨lb, i * 4 + 2, none⟩ = some (.int .i64 (ez.getD i 0)) ∧ W.cell? ⟨lb, i * 4 + 3, none⟩ = some (.bool (decide ((i : Int) ∈ bad)))
theorem liveP_nil (b p : Int) : liveP [] b p = [] := by
  unfold liveP selP
  exact Ints.sorted_self (by simp)
theorem count_stand (w : World) (ab : Option Addr) (nb cb : Nat) (bad : List Int) (A0 A1 A3 A4 : Int) (B : Nat) (gp ge : Addr) (capp cape : Nat) (pz ez : List Int) (hR : norRight A0 A1 B A3 A4) (hb : Rd w ab nb bad) (hp : Rd w (some gp) B pz) (he : Rd w (some ge) B ez) (hnb : nb ≤ 9223372036854775807) (h4 : 4 ≤ B) (h8 : B ≤ 8) :
    Calls Try.prog 27 #[.agg #[.int .i64 0, .slice none 0 0, .slice ab nb cb], .agg #[.int .i64 A0, .int .i64 A1, .int .i64 (B : Int), .int .i64 A3, .int .i64 A4], .slice (some gp) B capp, .slice (some ge) B cape] w
      fun e w' => ∃ lb cl, e = .returned (.slice (some ⟨lb, 0, none⟩) B cl) ∧ CntAt w' lb B pz ez bad ∧ w.grownBy w' none := by
  refine (count_any w 0 none 0 [] ab nb cb bad A0 A1 B A3 A4 (some gp) B capp pz (some ge) B cape ez (kdC_nil _ _ _) hb hp he hnb (by simp [ownersP]) (by omega) (by omega)).mono ?_
  rintro e w' ⟨hg, hif⟩
  have hd : (decide (norRight A0 A1 (B : Int) A3 A4) && (decide (((B : Nat) : Int) = B) && decide (((B : Nat) : Int) = B))) = true := by simp [hR]
  rw [hd, if_pos rfl] at hif
  obtain ⟨v, rfl, ho⟩ := hif
  have hl : (countP (ownersP []) A3 pz ez bad B).length = B := by simp [countP]
  have hel : ∀ i, i < B → (countP (ownersP []) A3 pz ez bad B)[i]? = some (pz.getD i 0, 0, ez.getD i 0, decide ((i : Int) ∈ bad)) := fun i hi => by
    simp [countP, oneB, ownersP, liveP_nil, hi]
  rw [hl] at ho
  rcases ho.2 with ⟨rfl, h1⟩ | ⟨g, cap, cur, rfl, _⟩
  · omega
  · refine ⟨g, cap, rfl, fun i hi => ?_, hg⟩
    have hc := fun r (hr : r < 4) => (ho.cellAt (i * 4 + r) (by omega)).trans (flat_get blkV 4 (fun _ => rfl) _ i r (by rw [hl]; exact hi) hr)
    have e1 := hel i hi
    rw [List.getElem?_eq_getElem (by rw [hl]; exact hi)] at e1
    have e2 := Option.some.inj e1
    rw [e2] at hc
    exact ⟨hc 0 (by omega), hc 1 (by omega), hc 2 (by omega), hc 3 (by omega)⟩
theorem CntAt.up {w w' : World} {lb B : Nat} {pz ez bad : List Int} (h : CntAt w lb B pz ez bad) (hg : w.grownBy w' none) : CntAt w' lb B pz ez bad := fun i hi => by
  obtain ⟨a, b, c, d⟩ := h i hi
  exact ⟨hg.cell a (by simp), hg.cell b (by simp), hg.cell c (by simp), hg.cell d (by simp)⟩
theorem live_root (W : World) (A : Addr) (more : Int) (h : Kd.C k63 W (some A) 1 [root0]) :
    Calls Try.prog 24 #[.agg #[.int .i64 2, .slice (some A) 1 1, .slice none 0 0], .int .i64 0, .int .i64 more] W fun e w' => (∃ a c, e = .returned (.slice a 0 c)) ∧ W.grownBy w' none := by
  have e0 : liveT [root0] 0 more = [] := by
    have : ownersP [root0] = [] := by decide +kernel
    simp [liveT, this, liveP_nil, tagsP]
  refine (liveT_any W 2 (some A) 1 [root0] (.slice none 0 0) 0 more h (by decide +kernel)).mono ?_
  rintro e w' ⟨v, rfl, ho, hg⟩
  rw [e0] at ho
  obtain ⟨a, c, rfl, _⟩ := rdT_own ho
  exact ⟨⟨a, c, rfl⟩, hg⟩
set_option maxHeartbeats 4000000 in
set_option maxRecDepth 100000 in
theorem stand_any (w : World) (g0 g1 g2 g3 g4 : Int) (ap : Option Addr) (np cp : Nat) (ps : List Int) (ae : Option Addr) (ne ce : Nat) (es : List Int) (ab : Option Addr) (nb cb : Nat) (bad : List Int) (more : Int)
    (hp : Rd w ap np ps) (he : Rd w ae ne es) (hb : Rd w ab nb bad) (hcp : ap = none → np = 0 ∧ cp = 0) (hce : ae = none → ne = 0 ∧ ce = 0) (hnp : np ≤ 9223372036854775807) (hne : ne ≤ 9223372036854775807) (hnb : nb ≤ 9223372036854775807) :
    Calls Try.prog 6 #[.agg #[.int .i64 g0, .int .i64 g1, .int .i64 g2, .int .i64 g3, .int .i64 g4], .slice ap np cp, .slice ae ne ce, .slice ab nb cb, .int .i64 more] w
      fun e w' => e = .returned (.bool true) ∧ w.grownBy w' none := by
  by_cases hs : np ≤ 50 ∧ ne ≤ 50 ∧ nb ≤ 20
  · obtain ⟨s1, s2, s3⟩ := hs
    obtain ⟨B, hB⟩ : ∃ B : Nat, 4 + mod g2 5 = (B : Int) := ⟨(4 + mod g2 5).toNat, by have : 0 ≤ mod g2 5 ∧ mod g2 5 < 5 := mod_lt g2 5 (by omega); omega⟩
    have hB4 : 4 ≤ B := by have : 0 ≤ mod g2 5 ∧ mod g2 5 < 5 := mod_lt g2 5 (by omega); omega
    have hB8 : B ≤ 8 := by have : 0 ≤ mod g2 5 ∧ mod g2 5 < 5 := mod_lt g2 5 (by omega); omega
    have HG := fun W => geometry_any g0 g1 g2 g3 g4 W
    have HR := geometry_right g0 g1 g2 g3 g4
    rw [hB] at HR
    simp only [hB] at HG
    clear hB
    generalize 2 + 2 * mod g0 3 = A0 at *
    generalize 256 + 64 * mod g1 12 = A1 at *
    generalize 2 + mod g3 5 = A3 at *
    generalize 16 + 4 * mod g4 6 = A4 at *
    have HG' := Lib.hid HG
    have HR' := Lib.hid HR
    clear HG HR
    have hP := Lib.hid hp
    have hE := Lib.hid he
    have hBd := Lib.hid hb
    clear hp he hb
    obtain ⟨i0, hi0, hz0, hz1, hz2⟩ := info_parts infoInt
    have BK0 := blk_new w (.cells #[.int .i64 g0, .int .i64 g1, .int .i64 g2, .int .i64 g3, .int .i64 g4] 39)
    have hg0 := World.grownBy_alloc w (.cells #[.int .i64 g0, .int .i64 g1, .int .i64 g2, .int .i64 g3, .int .i64 g4] 39) none
    go_enter Try.func6, Try.ntmps6
    go_wp2_with fail
    refine (HG'.out _).mono ?_
    rintro e w1 ⟨rfl, hg1⟩
    have BK1 := blk_grown BK0 hg1 (by simp)
    have hgw := hg0.trans hg1
    clear BK0 hg0 hg1
    have f0 := blk_frozen BK1
    have c0 := blk_cell BK1 0
    have c1 := blk_cell BK1 1
    have c2 := blk_cell BK1 2
    have c3 := blk_cell BK1 3
    have c4 := blk_cell BK1 4
    simp only [List.getElem?_toArray, List.getElem?_cons_zero, List.getElem?_cons_succ] at c0 c1 c2 c3 c4
    have HBK := Lib.hid BK1
    clear BK1
    go_upto_region 4 with (fail)
    have hbw : w.heap.size ≤ w.heap.size := Nat.le_refl _
    have BK2 := blk_put (blk_put (blk_put (blk_put (blk_put HBK.out 0 (.int .i64 A0) rfl) 1 (.int .i64 A1) rfl) 2 (.int .i64 (B : Int)) rfl) 3 (.int .i64 A3) rfl) 4 (.int .i64 A4) rfl
    have hg2 := grown_set (p := ⟨w.heap.size, 4, none⟩) (u := .int .i64 A4) (grown_set (p := ⟨w.heap.size, 3, none⟩) (u := .int .i64 A3) (grown_set (p := ⟨w.heap.size, 2, none⟩) (u := .int .i64 (B : Int)) (grown_set (p := ⟨w.heap.size, 1, none⟩) (u := .int .i64 A1) (grown_set (p := ⟨w.heap.size, 0, none⟩) (u := .int .i64 A0) hgw hbw) hbw) hbw) hbw) hbw
    clear hgw HBK f0 c0 c1 c2 c3 c4
    generalize ((((w1.setCell ⟨w.heap.size, 0, none⟩ (.int .i64 A0)).setCell ⟨w.heap.size, 1, none⟩ (.int .i64 A1)).setCell ⟨w.heap.size, 2, none⟩ (.int .i64 (B : Int))).setCell ⟨w.heap.size, 3, none⟩ (.int .i64 A3)).setCell ⟨w.heap.size, 4, none⟩ (.int .i64 A4) = w2 at *
    have hlt := blk_lt BK2
    simp only [List.setIfInBounds_toArray, List.set_cons_zero, List.set_cons_succ] at BK2
    generalize hbb : w.heap.size = bb at *
    have Hbb := Lib.hid hbb
    have HBK2 := Lib.hid BK2
    have c2 := blk_cell BK2 2
    simp only [List.getElem?_toArray, List.getElem?_cons_zero, List.getElem?_cons_succ] at c2
    clear BK2 hbb
    have hZ : ∀ u ∈ (Builtin.zeroCells (Value.int .i64 0).cells 10).toList, u.oneCell' = true := by rw [zeros10]; exact oneI _
    have hlp := hP.out.1
    have Hlp := Lib.hid hlp
    clear hlp
    go_cut [11] (fun v wx => MadeP w2 ((ps ++ List.replicate 10 0).take B) B v wx)
    case first =>
      go_region_law
        (first
        | (refine App.step_append_any _ rfl (.const (.slice none 0 0)) (.tmp 31) 22 rfl w2.heap.size 3 i0 (.int .i64 0) 1 8 Try.underlying22 hi0 hz0 hz1 hz2 rfl (by decide) (.slice none 0 0) 0 [] rfl (App.own_nil _ _ _ _) ap np cp (ps.map (Value.int .i64)) ?_ ?_ ?_ (oneI _) ?_ ?_ ?_ ?_; (focus (first | (go_simp; done) | rfl)); (focus (have := Hlp.out; simp; omega)); (focus (exact src_rd (rd_up hP.out (by with_reducible repeat (first | exact hg2 | apply grown_al | apply grown_drew))) hcp)); (focus (unfold maxLen; omega)); (focus omega); (focus (exact Nat.le_refl _)); intro v3 w3 ho3 hg3; simp only [Nat.zero_add, List.nil_append] at ho3; have hg3 : w2.grownBy w3 none := World.grownBy.trans (by with_reducible repeat (first | exact World.grownBy.refl _ _ | apply grown_al | apply grown_drew)) (grown_none hg3); have hol3 := (fun j hj => (ho3.lt j hj).1); have c3 := hg3.cell c2 (by simp))
        | (refine App.step_append_zeros _ rfl (.tmp 32) (.const (.int .i64 10)) 22 3 rfl w2.heap.size 3 i0 (.int .i64 0) 1 8 Try.underlying22 Try.underlying3 hi0 hz0 hz1 hz2 rfl (by decide) (by decide) v3 np (ps.map (Value.int .i64)) ?_ ho3 .i64 10 rfl hZ ?_ ?_ ?_; (focus (first | (go_simp; done) | rfl)); (focus omega); (focus (exact hg3.size)); intro v4 w4 ho4 hg4; rw [zeros10, ← List.map_append] at ho4; have hg4 : w2.grownBy w4 none := hg3.andThen hg4 (fun j hj => .inl (hol3 j hj)); have c4 := hg4.cell c2 (by simp); have hfm := own_form ho4 (by omega); obtain ⟨g4b, cap4, hv4, hc4, hm4, hb4⟩ := hfm; rw [hv4] at ho4 ⊢; have hBc4 : B ≤ cap4 := (by omega)))
      all_goals (go_wp2_with fail; go_meet; case rel => exact madeP ho4 Hlp.out hB8 hc4 hm4 hg4)
    case rest =>
      obtain ⟨gp, capp, rfl, hcapp, hmp, hrp, hg5⟩ := hcut
      have BK5 := blk_grown HBK2.out hg5 (by simp)
      have hgw5 := hg2.trans hg5
      have k2 := blk_cell BK5 2
      simp only [List.getElem?_toArray, List.getElem?_cons_zero, List.getElem?_cons_succ] at k2
      have HBK5 := Lib.hid BK5
      have hrp5 := Lib.hid hrp
      clear BK5 hrp hg5 HBK2 c2 hg2
      have hle := hE.out.1
      have Hle := Lib.hid hle
      clear hle hlt
      generalize wc = w5 at *
      go_upto_region 5 with (fail)
      go_cut [12] (fun v wx => MadeP w5 ((es ++ List.replicate 10 0).take B) B v wx)
      case first =>
        go_region_law
          (first
          | (refine App.step_append_any _ rfl (.const (.slice none 0 0)) (.tmp 37) 22 rfl w5.heap.size 3 i0 (.int .i64 0) 1 8 Try.underlying22 hi0 hz0 hz1 hz2 rfl (by decide) (.slice none 0 0) 0 [] rfl (App.own_nil _ _ _ _) ae ne ce (es.map (Value.int .i64)) ?_ ?_ ?_ (oneI _) ?_ ?_ ?_ ?_; (focus (first | (go_simp; done) | rfl)); (focus (have := Hle.out; simp; omega)); (focus (exact src_rd (rd_up hE.out (by with_reducible repeat (first | exact hgw5 | apply grown_al | apply grown_drew))) hce)); (focus (unfold maxLen; omega)); (focus omega); (focus (exact Nat.le_refl _)); intro v3 w3 ho3 hg3; simp only [Nat.zero_add, List.nil_append] at ho3; have hg3 : w5.grownBy w3 none := World.grownBy.trans (by with_reducible repeat (first | exact World.grownBy.refl _ _ | apply grown_al | apply grown_drew)) (grown_none hg3); have hol3 := (fun j hj => (ho3.lt j hj).1); have c3 := hg3.cell k2 (by simp))
          | (refine App.step_append_zeros _ rfl (.tmp 38) (.const (.int .i64 10)) 22 3 rfl w5.heap.size 3 i0 (.int .i64 0) 1 8 Try.underlying22 Try.underlying3 hi0 hz0 hz1 hz2 rfl (by decide) (by decide) v3 ne (es.map (Value.int .i64)) ?_ ho3 .i64 10 rfl hZ ?_ ?_ ?_; (focus (first | (go_simp; done) | rfl)); (focus omega); (focus (exact hg3.size)); intro v4 w4 ho4 hg4; rw [zeros10, ← List.map_append] at ho4; have hg4 : w5.grownBy w4 none := hg3.andThen hg4 (fun j hj => .inl (hol3 j hj)); have c4 := hg4.cell k2 (by simp); have hfm := own_form ho4 (by omega); obtain ⟨g4b, cap4, hv4, hc4, hm4, hb4⟩ := hfm; rw [hv4] at ho4 ⊢; have hBc4 : B ≤ cap4 := (by omega)))
        all_goals (go_wp2_with fail; go_meet; case rel => exact madeP ho4 Hle.out hB8 hc4 hm4 hg4)
      case rest =>
        obtain ⟨ge, cape, rfl, hcape, hme, hre, hg6⟩ := hcut
        have BK6 := blk_grown HBK5.out hg6 (by simp)
        have hgw6 := hgw5.trans hg6
        have hrp6 := rd_up hrp5.out hg6
        have hrb6 := rd_up hBd.out hgw6
        generalize hpz : (ps ++ List.replicate 10 (0 : Int)).take B = pz at *
        generalize hez : (es ++ List.replicate 10 (0 : Int)).take B = ez at *
        clear hpz hez hrp5 hgw5 HBK5 k2 hg6 hP hE
        generalize wc = w6 at *
        have HC := Lib.hid (count_stand w6 ab nb cb bad A0 A1 A3 A4 B ⟨gp, 0, none⟩ ⟨ge, 0, none⟩ capp cape pz ez HR'.out hrb6 hrp6 hre hnb hB4 hB8)
        have j0 := blk_cell BK6 0
        have j1 := blk_cell BK6 1
        have j2 := blk_cell BK6 2
        have j3 := blk_cell BK6 3
        have j4 := blk_cell BK6 4
        simp only [List.getElem?_toArray, List.getElem?_cons_zero, List.getElem?_cons_succ] at j0 j1 j2 j3 j4
        have HBK6 := Lib.hid BK6
        clear BK6
        go_wp2_with fail
        refine HC.out.mono ?_
        rintro e w7 ⟨lb, cl, rfl, hcnt, hg7⟩
        go_wp2_with fail
        refine (awake_any w7).mono ?_
        rintro e w8 ⟨rfl, hg8⟩
        have hg68 := hg7.trans hg8
        have hgw8 := hgw6.trans hg68
        have Hcnt := Lib.hid (hcnt.up hg8)
        have BK8 := blk_grown HBK6.out hg68 (by simp)
        have Hp8 := Lib.hid (rd_up hrp6 hg68)
        have He8 := Lib.hid (rd_up hre hg68)
        have Hb8 := Lib.hid (rd_up hrb6 hg68)
        clear hcnt hg7 hg8 hg68 hgw6 hrp6 hre hrb6 HBK6 HC
        have j0 := blk_cell BK8 0
        have j1 := blk_cell BK8 1
        have j2 := blk_cell BK8 2
        have j3 := blk_cell BK8 3
        have j4 := blk_cell BK8 4
        simp only [List.getElem?_toArray, List.getElem?_cons_zero, List.getElem?_cons_succ] at j0 j1 j2 j3 j4
        have HBK8 := Lib.hid BK8
        clear BK8
        go_wp2_with fail
        go_loopg [14] B (fun g v wr => ∃ i : Nat, v = .int .i64 i ∧ i + g = B ∧ w8.grownBy wr none)
        case atStart => exact ⟨0, rfl, by omega, World.grownBy.refl _ _⟩
        case round =>
          obtain ⟨i, rfl, hi, hgr⟩ := hrel
          have Hi := Lib.hid hi
          clear hi
          by_cases hlt : i < B
          · obtain ⟨x0, x1, x2, x3⟩ := Hcnt.out.up hgr i hlt
            obtain ⟨pb, po, hpb, hpc⟩ := (rd_up Hp8.out hgr).2 (by omega)
            obtain ⟨eb, eo, heb, hec⟩ := (rd_up He8.out hgr).2 (by omega)
            cases hpb
            cases heb
            have y0 := hpc i hlt
            have y1 := hec i hlt
            rw [Nat.zero_add] at y0 y1
            have hIN := fun W (h : Rd W ab nb bad) => in_any ab nb cb bad (i : Int) W h hnb
            generalize pz.getD i 0 = P at *
            generalize ez.getD i 0 = E at *
            generalize decide ((i : Int) ∈ bad) = D at *
            have HIN := Lib.hid hIN
            have Hbr := Lib.hid (rd_up Hb8.out hgr)
            clear hpc hec hIN
            go_wp2_with fail
            go_quiet ((go_at_call 33; exact Calls.quiet_of_same (HIN.out _ Hbr.out)))
            go_wp2_with fail
            go_roundg (B - i - 1)
            case measure => have := Hi.out; omega
            case rel =>
              have := Hi.out
              exact ⟨i + 1, by go_num, by omega, ⟨hgr.os, hgr.tape, hgr.output, hgr.size, hgr.block⟩⟩
          · have e1 : i = B := by have := Hi.out; omega
            subst e1
            have KS := Lib.hid (fun W (hW : w8.grownBy W none) => (⟨hW.cell j0 (by simp), hW.cell j1 (by simp), hW.cell j2 (by simp), hW.cell j3 (by simp), hW.cell j4 (by simp)⟩ : W.cell? ⟨bb, 0, none⟩ = some (.int .i64 A0) ∧ W.cell? ⟨bb, 1, none⟩ = some (.int .i64 A1) ∧ W.cell? ⟨bb, 2, none⟩ = some (.int .i64 (i : Int)) ∧ W.cell? ⟨bb, 3, none⟩ = some (.int .i64 A3) ∧ W.cell? ⟨bb, 4, none⟩ = some (.int .i64 A4)))
            have HCB := Lib.hid (fun W ap np cp ae ne ce h => count_bad W 0 (.slice none 0 0) (.slice none 0 0) A0 A1 (i : Int) A3 A4 ap np cp ae ne ce h)
            have HCB1 := Lib.hid (fun W => count_bad W 0 (.slice none 0 0) (.slice none 0 0) A0 A1 (i : Int) A3 A4 (some ⟨gp, 1, none⟩) (i - 1) (capp - 1) (some ⟨ge, 0, none⟩) i cape (fun h => by have := h.2.1; omega))
            have HCB2 := Lib.hid (fun W aa ca => count_bad W 0 (.slice none 0 0) (.slice none 0 0) A0 A1 (i : Int) A3 A4 (some ⟨gp, 0, none⟩) i capp aa (i + 1) ca (fun h => by have := h.2.2; omega))
            have h1i : (1 : Int) ≤ (i : Int) := by omega
            have h1c : 1 ≤ capp := by omega
            have HNS := Lib.hid newState_any
            have HLR := Lib.hid live_root
            have hc1 : ¬ (capp = 1) := by omega
            have hc2 : ¬ ((capp : Int) = 1) := by omega
            have hes := fun W (hW : w8.grownBy W none) => (rd_up He8.out hW)
            have Hes := Lib.hid hes
            have hezl : ez.length = i := He8.out.1
            have Hezl := Lib.hid hezl
            clear hes hezl j0 j1 j2 j3 j4 hi0
            obtain ⟨i1, hi1, hy0, hy1, hy2⟩ := info_parts infoInt
            go_wp2_with fail
            go_region_held3 (fun W => W.cell? ⟨bb, 0, none⟩ = some (.int .i64 A0) ∧ W.cell? ⟨bb, 1, none⟩ = some (.int .i64 A1) ∧ W.cell? ⟨bb, 2, none⟩ = some (.int .i64 (i : Int)) ∧ W.cell? ⟨bb, 3, none⟩ = some (.int .i64 A3) ∧ W.cell? ⟨bb, 4, none⟩ = some (.int .i64 A4))
              (exact KS.out _ (by (with_reducible repeat (first | exact G5 | exact G4 | exact G3 | exact Ga | exact G2 | exact G1 | exact hgr | exact World.grownBy.refl _ _ | apply grown_al | apply grown_drew))))
              (first
              | (refine App.step_append_full (.tmp 122) (.tmp 123) 22 ?_ 3 i1 (.int .i64 0) 1 8 ?_ ?_ ?_ ?_ ?_ ?_ ?_ ⟨ge, 0, none⟩ i i (ez.map (Value.int .i64)) ?_ ?_ ?_ ⟨w9.heap.size, 0, none⟩ 1 1 [.int .i64 1] ?_ ?_ ?_ ?_ ?_ ?_ ?_ ?_; (focus rfl); (focus (exact Try.underlying22)); (focus (exact hi1)); (focus (exact hy0)); (focus (exact hy1)); (focus (exact hy2)); (focus rfl); (focus decide); (focus (first | (go_simp; done) | rfl)); (focus (simp [Hezl.out])); (focus (exact rd_cells (Hes.out _ (grown_al G1 _)))); (focus (first | (go_simp; done) | rfl)); (focus rfl); (focus (exact new_cells _ _ _)); (focus omega); (focus (unfold maxLen; omega)); (focus omega); (focus (first | (go_simp; done) | rfl)); intro va wa hoa hga; have Ga : w8.grownBy wa none := World.grownBy.trans (grown_al G1 _) hga; have hfm := own_form2 hoa; obtain ⟨aa, ca, hva⟩ := hfm; rw [hva])
              | (go_at_call 27; (with_reducible refine (HCB1.out _).mono ?_); rintro e w9 ⟨rfl, hg9⟩; have G1 : w8.grownBy w9 none := World.grownBy.trans (grown_drew hgr) hg9)
              | (go_at_call 27; (with_reducible refine (HCB2.out _ _ _).mono ?_); rintro e wb ⟨rfl, hgb⟩; have G3 : w8.grownBy wb none := World.grownBy.trans Ga hgb)
              | (go_at_call 34; (with_reducible refine (HNS.out _).mono ?_); rintro e wd ⟨Ad, rfl, hCd, hgd⟩; have G4 : w8.grownBy wd none := World.grownBy.trans G3 hgd; simp only [stateV])
              | (go_at_call 24; (with_reducible refine (HLR.out _ _ _ hCd).mono ?_); rintro e we ⟨⟨ae, ce, rfl⟩, hge⟩; have G5 : w8.grownBy we none := World.grownBy.trans G4 hge))
            go_wp2_with fail
            go_ret
            exact ⟨rfl, hgw8.trans G5⟩
  · have hg0 := World.grownBy_alloc w (.cells #[.int .i64 g0, .int .i64 g1, .int .i64 g2, .int .i64 g3, .int .i64 g4] 39) none
    clear hp he hb hcp hce
    by_cases s1 : np ≤ 50
    · by_cases s2 : ne ≤ 50
      · have s3 : ¬ nb ≤ 20 := fun h => hs ⟨s1, s2, h⟩
        clear hs
        go_enter Try.func6, Try.ntmps6
        go_wp2_with fail
        refine (awake_any _).mono ?_
        rintro e w1 ⟨rfl, hg1⟩
        go_wp2_with fail
        go_ret
        exact ⟨rfl, hg0.trans hg1⟩
      · clear hs
        go_enter Try.func6, Try.ntmps6
        go_wp2_with fail
        refine (awake_any _).mono ?_
        rintro e w1 ⟨rfl, hg1⟩
        go_wp2_with fail
        go_ret
        exact ⟨rfl, hg0.trans hg1⟩
    · clear hs
      go_enter Try.func6, Try.ntmps6
      go_wp2_with fail
      refine (awake_any _).mono ?_
      rintro e w1 ⟨rfl, hg1⟩
      go_wp2_with fail
      go_ret
      exact ⟨rfl, hg0.trans hg1⟩
end Go.Proofs.Ytfmkpkmhhlakoaa.Bk

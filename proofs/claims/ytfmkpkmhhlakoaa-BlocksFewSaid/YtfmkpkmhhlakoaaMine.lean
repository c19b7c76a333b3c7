/- blocks.mine: what each page is, of an inode's runs. -/
import Derived.Test.YtfmkpkmhhlakoaaKeys
import Derived.Test.YtfmkpkmhhlakoaaRuns
import Derived.WalkKit
import Derived.WalkSpells
import Derived.StillTailTactics
import Derived.Lib.Hide
import Derived.Deep.RegionWith
import Derived.Deep.LoopGhost
import Derived.WalkLawsBesides
set_option linter.unusedVariables false
set_option linter.unusedSimpArgs false
namespace Go.Proofs.Ytfmkpkmhhlakoaa.Bk
open Go.RowKit Go.Proofs.Ytfmkpkmhhlakoaa.Mx Go.Proofs.Ytfmkpkmhhlakoaa.Rn Go.Proofs.YtfmkpkmhhlakoaaW.PrintWords Go.Proofs.Ytfmkpkmhhlakoaa.PBlocksTell

abbrev Ino := S63
def tagv (p : Int × Int) : Value := .agg #[.int .i64 p.1, .int .i64 p.2, .int .u32 0]
theorem zeroTag (w : World) : (zeroValue 50).run Try.prog w = .ok (.agg #[.int .i64 0, .int .i64 0, .int .u32 0]) w := by kernel_rfl

theorem tag_val (L : List (Int × (Int × Int))) (k : Int) : (mget (mv tagv L) k).getD (Value.agg #[.int .i64 0, .int .i64 0, .int .u32 0]) = Value.agg #[.int .i64 ((mget L k).getD (0, 0)).1, .int .i64 ((mget L k).getD (0, 0)).2, .int .u32 0] := by
  rw [mget_mv]
  cases mget L k <;> rfl
theorem tag_is (L : List (Int × (Int × Int))) (k : Int) : (mget (mv tagv L) k).isSome = (mget L k).isSome := by
  rw [mget_mv]
  cases mget L k <;> rfl
/-- A page is somebody's, if it is nobody's yet. -/
def addOne (L : List (Int × (Int × Int))) (no ix at_ : Int) : List (Int × (Int × Int)) := if (mget L at_).isSome then L else mput L at_ (no, ix)
def runP (L : List (Int × (Int × Int))) (no : Int) (r : Run) : Nat → List (Int × (Int × Int))
  | 0 => L
  | i + 1 => addOne (runP L no r i) no (r.f0 + i) (r.f1 + i)
def runsP (L : List (Int × (Int × Int))) (no : Int) (rs : List Run) : List (Int × (Int × Int)) := rs.foldl (fun L r => runP L no r r.f2.toNat) L
def mineP (L : List (Int × (Int × Int))) (x : Ino) : List (Int × (Int × Int)) := if right x.f6 then runsP L x.f0 x.f6 else L
def ownersP (l : List Ino) : List (Int × (Int × Int)) := l.foldl mineP []

theorem runsP_take (L : List (Int × (Int × Int))) (no : Int) (rs : List Run) (i : Nat) (hi : i < rs.length) : runsP L no (rs.take (i + 1)) = runP (runsP L no (rs.take i)) no (Rn.rd rs i) (Rn.rd rs i).f2.toNat := by
  unfold runsP
  rw [List.take_add_one, List.foldl_append]
  simp [Rn.rd, List.getD, hi]

theorem add_none (b off k : Nat) : (⟨b, off, none⟩ : Addr).add k = ⟨b, off + k, none⟩ := by
  simp [Addr.add]
def RunsAt (w : World) (A : Option Addr) (rs : List Run) : Prop :=
  0 < rs.length → ∃ b off, A = some ⟨b, off, none⟩ ∧ ∀ i, i < rs.length → w.cell? ⟨b, off + i * 3, none⟩ = some (.int .i64 (Rn.rd rs i).f0) ∧ w.cell? ⟨b, off + i * 3 + 1, none⟩ = some (.int .i64 (Rn.rd rs i).f1) ∧ w.cell? ⟨b, off + i * 3 + 2, none⟩ = some (.int .i64 (Rn.rd rs i).f2)

theorem runsAt {w : World} {A : Option Addr} {rs : List Run} (h : Kd.C k107 w A rs.length rs) : RunsAt w A rs := by
  intro h0
  obtain ⟨ad, rfl, hc0, _⟩ := at_T107 h 0 (by omega) (by omega)
  have hsp := World.cell?_spot hc0
  obtain ⟨b, off, sp⟩ := ad
  have hsp : sp = none := by simpa [Addr.add] using hsp
  subst hsp
  refine ⟨b, off, rfl, fun i hi => ?_⟩
  obtain ⟨ad, e, h1, h2, h3⟩ := at_T107 h (i : Int) (by omega) (by omega)
  cases e
  have hr : rd_T107 rs (i : Int) = Rn.rd rs i := by simp [rd_T107]
  rw [hr] at h1 h2 h3
  rw [add_none] at h1 h2 h3
  exact ⟨h1, h2, h3⟩
/-- Whatever is done to a map, what is no map stays. -/
theorem cell_map {w w' : World} {b : Nat} {L : List (Int × Value)} {a : Addr} {v : Value} (hm : MapAt kv w b L) (h : w.cell? a = some v) (hg : w.grownBy w' (some b)) : w'.cell? a = some v := by
  obtain ⟨es, clock, h1, _⟩ := hm
  refine hg.cell h (fun e => ?_)
  rw [← Option.some.inj e] at h1
  unfold World.cell? at h
  simp [h1] at h
theorem RunsAt.map {w w' : World} {A : Option Addr} {rs : List Run} {b : Nat} {L : List (Int × Value)} (h : RunsAt w A rs) (hm : MapAt kv w b L) (hg : w.grownBy w' (some b)) : RunsAt w' A rs := fun h0 => by
  obtain ⟨b', off, e, hc⟩ := h h0
  exact ⟨b', off, e, fun i hi => ⟨cell_map hm (hc i hi).1 hg, cell_map hm (hc i hi).2.1 hg, cell_map hm (hc i hi).2.2 hg⟩⟩
theorem RunsAt.grown {w w' : World} {A : Option Addr} {rs : List Run} (h : RunsAt w A rs) (hg : w.grownBy w' none) : RunsAt w' A rs := fun h0 => by
  obtain ⟨b', off, e, hc⟩ := h h0
  exact ⟨b', off, e, fun i hi => ⟨hg.cell (hc i hi).1 (by simp), hg.cell (hc i hi).2.1 (by simp), hg.cell (hc i hi).2.2 (by simp)⟩⟩

def inoV (x : Ino) (A5 : Option Addr) (c5 : Nat) (A6 : Option Addr) (c6 : Nat) : Value := .agg #[.int .i64 x.f0, .int .i64 x.f1, .int .i64 x.f2, .int .i64 x.f3, .string x.f4, .slice A5 x.f5.length c5, .slice A6 x.f6.length c6]

set_option maxHeartbeats 2000000 in
set_option maxRecDepth 100000 in
theorem mine_any (w : World) (b : Nat) (L : List (Int × (Int × Int))) (x : Ino) (A5 : Option Addr) (c5 : Nat) (A6 : Option Addr) (c6 : Nat) (hm : MapAt kv w b (mv tagv L)) (hr : Kd.C k107 w A6 x.f6.length x.f6) (hc : x.f6.length ≤ c6) :
    Calls Try.prog 84 #[.map (some b), inoV x A5 c5 A6 c6] w fun e w' => e = .returned (.tuple #[]) ∧ MapAt kv w' b (mv tagv (mineP L x)) ∧ w.grownBy w' (some b) := by
  have hmb := hm.lt
  have hn := hr.2.1
  obtain ⟨no, kd, li, sz, tg, en, rs⟩ := x
  simp only [inoV] at *
  generalize hww : w.alloc (.cells #[.int .i64 no, .int .i64 kd, .int .i64 li, .int .i64 sz, .string tg, .slice A5 en.length c5, .slice A6 rs.length c6] 63) = w0
  have hg0 : w.grownBy w0 none := by rw [← hww]; exact World.grownBy_alloc _ _ none
  have hm0 : MapAt kv w0 b (mv tagv L) := hm.kept hg0 (by simp)
  have hr0 : Kd.C k107 w0 A6 rs.length rs := Kd.C_below hr (by rw [← hww]; exact below_alloc (Below.refl _ _) _)
  have g0 : w0.cell? ⟨w.heap.size, 0, none⟩ = some (.int .i64 no) := by rw [← hww]; exact World.cell?_alloc_new _ _ _ _
  have g6 : w0.cell? ⟨w.heap.size, 6, none⟩ = some (.slice A6 rs.length c6) := by rw [← hww]; exact World.cell?_alloc_new _ _ _ _
  generalize hb3 : w.heap.size = b3 at *
  go_enter Try.func84, Try.ntmps84
  go_wp2_with fail
  have hRA : RunsAt w0 A6 rs := runsAt hr0
  have hb3b : b3 ≠ b := by omega
  clear hww hr
  by_cases hR : right rs = true
  · have e0 : mineP L ⟨no, kd, li, sz, tg, en, rs⟩ = runsP L no rs := by simp [mineP, hR]
    have hall : ∀ i, i < rs.length → rok (Rn.rd rs i) := fun i hi => by
      have h := hR
      unfold right at h
      exact ((of_decide_eq_true h) i hi).1
    have H0 := Lib.hid e0
    have HA := Lib.hid hall
    refine (right_any A6 c6 rs _ hr0 hc).mono ?_
    rw [hR]
    rintro e w1 ⟨rfl, hbl⟩
    have hg1 : w0.grownBy w1 none := grown_of_below hbl none
    have hm1 := hm0.kept hg1 (by simp)
    have hRA1 := hRA.grown hg1
    have k0 : w1.cell? ⟨b3, 0, none⟩ = some (.int .i64 no) := hg1.cell g0 (by simp)
    have k6 : w1.cell? ⟨b3, 6, none⟩ = some (.slice A6 rs.length c6) := hg1.cell g6 (by simp)
    have hgw : w.grownBy w1 none := hg0.trans hg1
    clear hg1 hbl g0 g6 hRA hm0 hr0 hg0 hm e0 hall hR
    go_wp2_with fail
    go_loopg [17] rs.length (fun g v wr => ∃ i : Nat, v = .int .i64 i ∧ i + g = rs.length ∧ MapAt kv wr b (mv tagv (runsP L no (rs.take i))) ∧ w1.grownBy wr (some b))
    case atStart => exact ⟨0, rfl, by omega, by simpa [runsP] using hm1, World.grownBy.refl _ _⟩
    case round =>
      obtain ⟨i, rfl, hi, hmr, hgr⟩ := hrel
      have hrow := hRA1.map hm1 hgr
      have r0 : wr.cell? ⟨b3, 0, none⟩ = some (.int .i64 no) := cell_map hm1 k0 hgr
      have Hi := Lib.hid hi
      clear hi
      by_cases hlt : i < rs.length
      · have hT := runsP_take L no rs i hlt
        have hok := HA.out i hlt
        obtain ⟨rb, off, rfl, hcs⟩ := hrow (by omega)
        obtain ⟨x0, x1, x2⟩ := hcs i hlt
        clear hcs
        generalize hL0 : runsP L no (rs.take i) = L0 at *
        generalize hrr : Rn.rd rs i = r at *
        obtain ⟨f, p, n⟩ := r
        unfold rok at hok
        simp only at hok x0 x1 x2 hT
        obtain ⟨o1, o2, o3, o4, o5, o6⟩ := hok
        obtain ⟨m, rfl⟩ : ∃ m : Nat, n = (m : Int) := ⟨n.toNat, by omega⟩
        have hT2 : runsP L no (rs.take (i + 1)) = runP L0 no ⟨f, p, m⟩ m := by rw [hT]; rfl
        have HT := Lib.hid hT2
        clear hT hT2 hL0 hrr
        have hwb := hmr.lt
        generalize hw2 : wr.alloc (.cells #[.int .i64 f, .int .i64 p, .int .i64 (m : Int)] 107) = w2
        have hg2 : wr.grownBy w2 none := by rw [← hw2]; exact World.grownBy_alloc _ _ none
        have y0 : w2.cell? ⟨wr.heap.size, 0, none⟩ = some (.int .i64 f) := by rw [← hw2]; exact World.cell?_alloc_new _ _ _ _
        have y1 : w2.cell? ⟨wr.heap.size, 1, none⟩ = some (.int .i64 p) := by rw [← hw2]; exact World.cell?_alloc_new _ _ _ _
        have y2 : w2.cell? ⟨wr.heap.size, 2, none⟩ = some (.int .i64 (m : Int)) := by rw [← hw2]; exact World.cell?_alloc_new _ _ _ _
        have z0 : w2.cell? ⟨b3, 0, none⟩ = some (.int .i64 no) := hg2.cell r0 (by simp)
        have hm2 := hmr.kept hg2 (by simp)
        generalize hb5 : wr.heap.size = b5 at *
        go_wp2_with fail
        clear hw2
        go_loopg [23] m (fun g v wi => ∃ j : Nat, v = .int .i64 j ∧ j + g = m ∧ MapAt kv wi b (mv tagv (runP L0 no ⟨f, p, m⟩ j)) ∧ w2.grownBy wi (some b))
        case atStart => exact ⟨0, rfl, by omega, hm2, World.grownBy.refl _ _⟩
        case round =>
          obtain ⟨j, rfl, hj, hmi, hgi⟩ := hrel
          have Hj := Lib.hid hj
          clear hj
          have y0i := cell_map hm2 y0 hgi
          have y1i := cell_map hm2 y1 hgi
          have y2i := cell_map hm2 y2 hgi
          have z0i := cell_map hm2 z0 hgi
          have hib := hmi.lt
          have h3b := World.block_lt_of_cell? wr _ z0i
          have h5b := World.block_lt_of_cell? wr _ y0i
          simp only at h3b h5b
          by_cases hjm : j < m
          · have wk : wrap64 (p + (j : Int)) = p + j := w64 _ (by omega) (by omega)
            have wf : wrap64 (f + (j : Int)) = f + j := w64 _ (by omega) (by omega)
            have hkw : (Lit.int .i64 (p + (j : Int))).wf = true := WalkArith.wf_i64 (by omega)
            generalize hLj : runP L0 no ⟨f, p, (m : Int)⟩ j = Lj at *
            have hstep : runP L0 no ⟨f, p, (m : Int)⟩ (j + 1) = addOne Lj no (f + j) (p + j) := by rw [← hLj]; rfl
            rcases hsome : (mget Lj (p + (j : Int))).isSome with _ | _
            · have hs2 : runP L0 no ⟨f, p, (m : Int)⟩ (j + 1) = mput Lj (p + j) (no, f + j) := by rw [hstep, addOne, if_neg (by simp [hsome])]
              have HS := Lib.hid hs2
              clear hs2 hstep hLj
              go_wp2_with (first
                | (at_lookup; refine wpList_look _ rfl _ _ 113 true rfl _ 50 kv key_place Try.underlying113 _ (zeroTag _) b (mv tagv Lj) rfl (hmi.alloc _) (p + (j : Int)) rfl hkw _ _ (tag_val Lj _) ((tag_is Lj _).trans hsome) ?_)
                | (at_mapUpdate; refine wpList_store _ rfl _ _ _ 113 rfl _ 50 kv key_place Try.underlying113 b (mv tagv Lj) rfl ((hmi.alloc _).alloc _) (p + (j : Int)) rfl hkw (tagv (no, f + (j : Int))) rfl ?_; intro w4 hm4 hg4 _; rw [mput_mv] at hm4)
                | go_in)
              go_roundg (m - j - 1)
              case measure => have := Hj.out; omega
              case rel =>
                have := Hj.out
                refine ⟨j + 1, by simp, by omega, ?_, ?_⟩
                · rw [HS.out]
                  exact hm4
                · exact ((hgi.trans ((World.grownBy_alloc _ _ none).but _)).trans ((World.grownBy_alloc _ _ none).but _)).trans hg4
            · have hs2 : runP L0 no ⟨f, p, (m : Int)⟩ (j + 1) = Lj := by rw [hstep, addOne, if_pos hsome]
              have HS := Lib.hid hs2
              clear hs2 hstep hLj
              go_wp2_with (first
                | (at_lookup; refine wpList_look _ rfl _ _ 113 true rfl _ 50 kv key_place Try.underlying113 _ (zeroTag _) b (mv tagv Lj) rfl (hmi.alloc _) (p + (j : Int)) rfl hkw _ _ (tag_val Lj _) ((tag_is Lj _).trans hsome) ?_)
                | go_in)
              go_roundg (m - j - 1)
              case measure => have := Hj.out; omega
              case rel =>
                have := Hj.out
                refine ⟨j + 1, by simp, by omega, ?_, ?_⟩
                · rw [HS.out]
                  exact (hmi.alloc _).alloc _
                · exact (hgi.trans ((World.grownBy_alloc _ _ none).but _)).trans ((World.grownBy_alloc _ _ none).but _)
          · go_wp2_with fail
            have := Hi.out
            have := Hj.out
            obtain rfl : j = m := by omega
            rw [← HT.out] at hmi
            go_roundg (rs.length - i - 1)
            case measure => omega
            case rel => exact ⟨i + 1, by simp, by omega, hmi, (hgr.trans (hg2.but _)).trans hgi⟩
      · go_wp2
        go_end0
        have e1 : rs.take i = rs := List.take_of_length_le (by omega)
        rw [e1] at hmr
        rw [H0.out]
        exact ⟨rfl, hmr, (hgw.but _).trans hgr⟩
  · have hR0 : right rs = false := by simpa using hR
    have e0 : mineP L ⟨no, kd, li, sz, tg, en, rs⟩ = L := by simp [mineP, hR0]
    have H0 := Lib.hid e0
    clear e0
    refine (right_any A6 c6 rs _ hr0 hc).mono ?_
    rw [hR0]
    rintro e w1 ⟨rfl, hbl⟩
    have hg1 : w0.grownBy w1 none := grown_of_below hbl none
    go_wp2
    refine bodyPost_ret (v := .tuple #[]) (by simp [results, Try.results84, go_sem]) rfl ?_
    rw [H0.out]
    exact ⟨rfl, hm0.kept hg1 (by simp), (hg0.trans hg1).but _⟩
end Go.Proofs.Ytfmkpkmhhlakoaa.Bk

/- blocks.live: the places of a block that are somebody's, in order. -/
import Derived.Test.YtfmkpkmhhlakoaaOwners
import Derived.Test.YtfmkpkmhhlakoaaInts
import Derived.Lib.SlicesCompact
set_option linter.unusedVariables false
set_option linter.unusedSimpArgs false
namespace Go.Proofs.Ytfmkpkmhhlakoaa.Bk
open Go.RowKit Go.Proofs.Ytfmkpkmhhlakoaa.Mx Go.Proofs.Ytfmkpkmhhlakoaa.Rn Go.Proofs.YtfmkpkmhhlakoaaW.PrintWords Go.Proofs.Ytfmkpkmhhlakoaa.PBlocksTell

theorem ownsRow_base_le {w : World} {base base' e size n : Nat} {v : Value} {xs : List Value} (h : w.ownsRow base e size v n xs) (hb : base' ≤ base) : w.ownsRow base' e size v n xs := by
  obtain ⟨h1, h2⟩ := h
  exact ⟨h1, h2.imp id fun ⟨g, cap, cur, he, hb2, hr⟩ => ⟨g, cap, cur, he, Nat.le_trans hb hb2, hr⟩⟩
theorem infoInt : (Try.prog.info? 3).map (fun i => (i.zero, i.size, i.bytes)) = some (some (.int .i64 0), 1, 8) := by kernel_rfl
/-- The places of a block, in whatever order. -/
def selP (L : List (Int × (Int × Int))) (block pages : Int) : List Int := (L.filter fun p => decide (wrap64 (p.1.tdiv pages) = block)).map Prod.fst
def liveP (L : List (Int × (Int × Int))) (block pages : Int) : List Int := Ints.sorted (selP L block pages)
theorem selP_length (L : List (Int × (Int × Int))) (block pages : Int) : (selP L block pages).length ≤ L.length := by
  unfold selP
  rw [List.length_map]
  exact List.length_filter_le _ _
theorem selP_perm {L L' : List (Int × (Int × Int))} (h : L.Perm L') (block pages : Int) : (selP L block pages).Perm (selP L' block pages) := (h.filter _).map _
def LiveOk (w : World) (zs : List Int) (e : Ending) (w' : World) : Prop :=
  ∃ v, e = .returned v ∧ w'.ownsRow w.heap.size 3 1 v zs.length (zs.map (Value.int .i64)) ∧ w.grownBy w' none

set_option maxHeartbeats 2000000 in
set_option maxRecDepth 100000 in
theorem live_any (w : World) (b : Nat) (L : List (Int × (Int × Int))) (block pages : Int) (hm : MapAt kv w b (mv tagv L)) (hp : 0 < pages) (hL : L.length ≤ 1000000000000) :
    Calls Try.prog 57 #[.map (some b), .int .i64 block, .int .i64 pages] w (LiveOk w (liveP L block pages)) := by
  have hmb := hm.lt
  obtain ⟨i0, hi, hz0, hz1, hz2⟩ := info_parts infoInt
  have hp0 : pages ≠ 0 := by omega
  go_enter Try.func57, Try.ntmps57
  go_wp2_with (first
    | (at_range; refine wpList_range _ rfl _ 113 rfl _ 50 kv Try.underlying113 b (mv tagv L) rfl hm ?_; intro w0 hrg0 hg0 hs0)
    | go_in)
  go_frame
  go_loopw [7] (fun v wr => ∃ (todo done : List (Int × (Int × Int))), L.Perm (done ++ todo) ∧ RangeAt kv wr b w.heap.size (mv tagv L) (mv tagv todo) ∧ wr.ownsRow (w.heap.size + 1) 3 1 v (selP done block pages).length ((selP done block pages).map (Value.int .i64)) ∧ w.grownBy wr none ∧ w.heap.size + 1 ≤ wr.heap.size)
    (fun _ wr => wr.rangeLeft b w.heap.size)
  case atStart =>
    exact ⟨L, [], by simp, hrg0, World.ownsRow_nil _ _ _ _, hg0, by omega⟩
  case round =>
    obtain ⟨todo, done, hperm, hrg, hown, hg, hsz⟩ := hrel
    have Hp := Lib.hid hperm
    have hlen := hperm.length_eq
    simp only [List.length_append] at hlen
    have hdl : done.length + todo.length ≤ 1000000000000 := by omega
    have hsl := selP_length done block pages
    have Hl := Lib.hid hlen
    clear hperm hlen
    go_wp2_with (first
      | (at_next; refine wpList_next _ rfl _ rfl 117 kv key_place tagv b w.heap.size L todo rfl hrg ?_ ?_)
      | go_in)
    · intro h0
      have hpm : L.Perm done := by have := Hp.out; rwa [h0, List.append_nil] at this
      have hso : Ints.sorted (selP done block pages) = liveP L block pages := Ints.sorted_of_perm (selP_perm hpm.symm _ _)
      have hob : ∀ j, u7.ownBlock = some j → w.heap.size + 1 ≤ j := fun j hj => (hown.lt j hj).1
      have Hso := Lib.hid hso
      clear hso hpm h0
      generalize hzs : selP done block pages = zs at *
      have hzl : zs.length ≤ 1000000000000 := by omega
      have Hzs := Lib.hid hzs
      clear hzs
      go_wp2_with fail
      refine (Ints.sort_own wr _ u7 zs hown (by omega)).mono ?_
      rintro e w1 ⟨rfl, hown3, hg3⟩
      go_wp2
      go_ret
      rw [← Hso.out]
      refine ⟨_, rfl, ?_, hg.andThen hg3 (fun j hj => .inl (by have := hob j hj; omega))⟩
      rw [Ints.sorted_length]
      exact ownsRow_base_le hown3 (Nat.le_succ _)
    · intro k o1 o2 todo' w1 hp1 hrg1 hg1 hs1 hen
      simp only [kv, tagv] at hen ⊢
      have Hs1 := Lib.hid hs1
      have Hp1 := Lib.hid hp1
      have hlp := hp1.length_eq
      simp only [List.length_cons] at hlp
      clear hs1 hp1
      have hlt1 := hrg1.lt
      have hown1 := hown.kept hg1 (by
        rcases hb : u7.ownBlock with _ | q
        · exact .inl rfl
        · have := (hown.lt q hb).1
          refine .inr fun e => ?_
          have := Option.some.inj e
          omega)
      by_cases hq : wrap64 (k.tdiv pages) = block
      · have hsel : selP (done ++ [(k, (o1, o2))]) block pages = selP done block pages ++ [k] := by simp [selP, hq]
        have HS := Lib.hid hsel
        clear hsel
        generalize hzs : selP done block pages = zs at *
        have Hzs := Lib.hid hzs
        clear hzs
        go_wp2_with (first
          | (at_builtin; refine wpList_append_own _ rfl _ _ 22 rfl (w.heap.size + 1) 3 i0 (.int .i64 0) 1 8 Try.underlying22 hi hz0 hz1 hz2 rfl (by decide) _ _ _ rfl ((hown1.alloc _).alloc _) ⟨w1.heap.size + 1, 0, none⟩ 1 1 [.int .i64 k] rfl rfl ?c1 ?c2 ?c3 ?c4 ?c5 ?_)
          | go_in)
        case c1 =>
          intro j u hj
          match j, hj with
          | 0, hj => simp at hj; subst hj; simp [Addr.add]
        case c2 => exact ints_oneCell .i64 [k]
        case c3 => unfold maxLen; omega
        case c4 => omega
        case c5 => have := Hs1.out; simp; omega
        intro v' w2 hown' hgrow _
        have hob : ∀ j, u7.ownBlock = some j → w.heap.size + 1 ≤ j := fun j hj => (hown.lt j hj).1
        have hrg2 : RangeAt kv w2 b w.heap.size (mv tagv L) (mv tagv todo') := ((hrg1.alloc _).alloc _).kept hgrow (fun e => by have := hob _ e.symm; omega) (fun e => by have := hob _ e.symm; omega)
        have hg2 : w.grownBy w2 none := ((hg.andThen hg1 (fun j hj => .inl (by have := Option.some.inj hj; omega))).trans ((World.grownBy_alloc _ _ none).trans (World.grownBy_alloc _ _ none))).andThen hgrow (fun j hj => .inl (by have := hob j hj; omega))
        have hsz2 : w.heap.size + 1 ≤ w2.heap.size := by have h1 := hgrow.size; have h2 := Hs1.out; simp at h1; omega
        clear hob hgrow
        go_wp2
        go_roundw
        case rel =>
          refine ⟨todo', done ++ [(k, (o1, o2))], ?_, hrg2, ?_, hg2, hsz2⟩
          · exact Hp.out.trans (by simpa using Hp1.out.append_left done)
          · rw [HS.out]
            simpa using hown'
        case measure =>
          rw [hrg2.left_eq, hrg.left_eq, length_mv, length_mv]
          omega
      · have hsel : selP (done ++ [(k, (o1, o2))]) block pages = selP done block pages := by simp [selP, hq]
        have HS := Lib.hid hsel
        clear hsel
        have hrg2 : RangeAt kv (w1.alloc (.cells #[.int .i64 k] 117)) b w.heap.size (mv tagv L) (mv tagv todo') := hrg1.alloc _
        have hg2 : w.grownBy (w1.alloc (.cells #[.int .i64 k] 117)) none := (hg.andThen hg1 (fun j hj => .inl (by have := Option.some.inj hj; omega))).trans (World.grownBy_alloc _ _ none)
        have ho2 := hown1.alloc (.cells #[.int .i64 k] 117)
        go_wp2_with fail
        refine ⟨⟨todo', done ++ [(k, (o1, o2))], ?_, hrg2, ?_, hg2, ?_⟩, ?_⟩
        · exact Hp.out.trans (by simpa using Hp1.out.append_left done)
        · rw [HS.out]
          exact ho2
        · have h1 := hg2.size; have h2 := Hs1.out; simp; omega
        · rw [hrg2.left_eq, hrg.left_eq, length_mv, length_mv]
          omega
end Go.Proofs.Ytfmkpkmhhlakoaa.Bk

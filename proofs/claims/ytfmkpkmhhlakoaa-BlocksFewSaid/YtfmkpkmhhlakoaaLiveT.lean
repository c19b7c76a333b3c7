/- blocks.Live: whose the pages of a block are. -/
import Derived.Test.YtfmkpkmhhlakoaaCount
set_option linter.unusedVariables false
set_option linter.unusedSimpArgs false
namespace Go.Proofs.Ytfmkpkmhhlakoaa.Bk
open Go.RowKit Go.Proofs.Ytfmkpkmhhlakoaa.Mx Go.Proofs.Ytfmkpkmhhlakoaa.Rn Go.Proofs.YtfmkpkmhhlakoaaW.PrintWords Go.Proofs.Ytfmkpkmhhlakoaa.PBlocksTell Go.Proofs.Ytfmkpkmhhlakoaa.Ints

theorem infoTag : (Try.prog.info? 50).map (fun i => (i.zero, i.size, i.bytes)) = some (some (.agg #[.int .i64 0, .int .i64 0, .int .u32 0]), 3, 24) := by kernel_rfl
def tagC (p : Int × Int) : List Value := [.int .i64 p.1, .int .i64 p.2, .int .u32 0]
def tagsP (L : List (Int × (Int × Int))) (zs : List Int) : List (Int × Int) := zs.map fun k => (mget L k).getD (0, 0)
theorem one3 (p : Int × Int) : ∀ u ∈ tagC p, u.oneCell' = true := by
  intro u hu
  simp [tagC] at hu
  rcases hu with rfl | rfl | rfl <;> rfl
/-- What Live answers. -/
def LiveTOk (w : World) (ts : List (Int × Int)) (e : Ending) (w' : World) : Prop :=
  ∃ v, e = .returned v ∧ w'.ownsRow w.heap.size 50 3 v ts.length (ts.flatMap tagC) ∧ w.grownBy w' none
def liveT (l : List Ino) (block pages : Int) : List (Int × Int) := if pages ≤ 0 ∨ block < 0 then [] else tagsP (ownersP l) (liveP (ownersP l) block pages)

set_option maxHeartbeats 4000000 in
set_option maxRecDepth 100000 in
theorem liveT_any (w : World) (nx : Int) (Ai : Option Addr) (ci : Nat) (l : List Ino) (vb : Value) (block pages : Int) (h : Kd.C k63 w Ai l.length l) (hL : (ownersP l).length ≤ 1000000000000) :
    Calls Try.prog 24 #[stateV nx Ai l.length ci vb, .int .i64 block, .int .i64 pages] w (LiveTOk w (liveT l block pages)) := by
  simp only [stateV]
  by_cases hp : pages ≤ 0
  · have e0 : liveT l block pages = [] := by simp [liveT, hp]
    rw [e0]
    go_enter Try.func24, Try.ntmps24
    go_wp2
    go_ret
    exact ⟨_, rfl, World.ownsRow_nil _ _ _ _, World.grownBy_alloc _ _ none⟩
  · by_cases hb : block < 0
    · have e0 : liveT l block pages = [] := by simp [liveT, hb]
      rw [e0]
      go_enter Try.func24, Try.ntmps24
      go_wp2
      go_ret
      exact ⟨_, rfl, World.ownsRow_nil _ _ _ _, World.grownBy_alloc _ _ none⟩
    · have e0 : liveT l block pages = tagsP (ownersP l) (liveP (ownersP l) block pages) := by simp [liveT, hb, hp]
      rw [e0]
      have hg0 := World.grownBy_alloc w (.cells #[.int .i64 nx, .slice Ai l.length ci, vb] 43) none
      have HO := Lib.hid (owners_any (w.alloc (.cells #[.int .i64 nx, .slice Ai l.length ci, vb] 43)) nx Ai ci l vb (Kd.C_below h (below_of hg0)))
      simp only [stateV] at HO
      go_enter Try.func24, Try.ntmps24
      go_wp2_with fail
      refine HO.out.mono ?_
      rintro e w1 ⟨mb, rfl, hmb, hm1, hg1⟩
      have HLv := Lib.hid (live_any w1 mb (ownersP l) block pages hm1 (by omega) hL)
      go_wp2_with fail
      refine HLv.out.mono ?_
      rintro e w2 ⟨vz, rfl, hoz, hg2⟩
      obtain ⟨az, cz, rfl, hrd⟩ := rd_own hoz
      have hm2 := hm1.kept hg2 (by simp)
      have hg3 := (hg0.trans hg1).trans hg2
      have hzl : (liveP (ownersP l) block pages).length ≤ 1000000000000 := by
        unfold liveP
        rw [Ints.sorted_length]
        exact Nat.le_trans (selP_length _ _ _) hL
      have hwf : ∀ k ∈ liveP (ownersP l) block pages, (Lit.int .i64 k).wf = true := fun k hk => by
        obtain ⟨es, clock, _, _, _, hw⟩ := hm2
        have hk2 : k ∈ selP (ownersP l) block pages := (Ints.sorted_perm _).mem_iff.1 hk
        obtain ⟨p, hp, rfl⟩ := List.mem_map.1 hk2
        exact hw (p.1, tagv p.2) (List.mem_map.2 ⟨p, (List.mem_filter.1 hp).1, rfl⟩)
      clear HO HLv hoz hg2 hg1 hm1 hg0 h
      generalize liveP (ownersP l) block pages = zs at *
      generalize ownersP l = L at *
      obtain ⟨hrl, hrc⟩ := hrd
      obtain ⟨i0, hi0, hz0, hz1, hz2⟩ := info_parts infoTag
      have Hwf := Lib.hid hwf
      have Hrc := Lib.hid hrc
      have hlz : (tagsP L zs).length = zs.length := by simp [tagsP]
      have Hlz := Lib.hid hlz
      have hbs : w.heap.size ≤ w2.heap.size := hg3.size
      have Hbs := Lib.hid hbs
      clear hwf hrc hrl hlz hbs e0
      have hmb2 := hm2.lt
      go_wp2_with fail
      go_loopg [8, 24] zs.length (fun g v k wr => ∃ i : Nat, k = .int .i64 i ∧ i + g = zs.length ∧ wr.ownsRow w2.heap.size 50 3 v i ((tagsP L (zs.take i)).flatMap tagC) ∧ w2.grownBy wr none)
      case atStart => exact ⟨0, rfl, by omega, World.ownsRow_nil _ _ _ _, World.grownBy.refl _ _⟩
      case round =>
        obtain ⟨i, rfl, hi, ho, hgr⟩ := hrel
        have Hi := Lib.hid hi
        clear hi
        by_cases hlt : i < zs.length
        · obtain ⟨zb, zo, rfl, hcx⟩ := Hrc.out (by omega)
          have hx := hgr.cell (hcx i hlt) (by simp)
          have hkw : (Lit.int .i64 (zs.getD i 0)).wf = true := Hwf.out _ (by simp [List.getD, hlt])
          have hT : tagsP L (zs.take (i + 1)) = tagsP L (zs.take i) ++ [(mget L (zs.getD i 0)).getD (0, 0)] := by
            unfold tagsP
            rw [List.take_add_one, List.map_append]
            simp [List.getD, hlt]
          have HT := Lib.hid hT
          have hmr := hm2.kept hgr (by simp)
          have hol := fun j hj => (ho.lt j hj).1
          have hsz := hgr.size
          clear hcx hT
          generalize zs.getD i 0 = k at *
          have hval := tag_val L k
          have hone := one3 ((mget L k).getD (0, 0))
          generalize (mget L k).getD (0, 0) = tg at *
          obtain ⟨t1, t2⟩ := tg
          simp only [tagC] at hval hone
          have HV := Lib.hid hval
          clear hval
          go_wp2_with (first
            | (at_lookup; refine wpList_look _ rfl _ _ 113 false rfl _ 50 kv key_place Try.underlying113 _ (zeroTag _) mb (mv tagv L) rfl hmr k rfl hkw _ _ HV.out rfl ?_)
            | (at_builtin; refine wpList_append_own _ rfl _ _ 51 rfl w2.heap.size 50 i0 (.agg #[.int .i64 0, .int .i64 0, .int .u32 0]) 3 24 Try.underlying51 hi0 hz0 hz1 hz2 rfl (by decide) _ _ _ rfl (ho.alloc _) ⟨wr.heap.size, 0, none⟩ 1 1 [.int .i64 t1, .int .i64 t2, .int .u32 0] rfl rfl ?c1 hone ?c3 ?c4 ?c5 ?_)
            | go_in)
          case c1 =>
            intro j u hj
            match j, hj with
            | 0, hj => simp at hj; subst hj; simp [Addr.add]
            | 1, hj => simp at hj; subst hj; simp [Addr.add]
            | 2, hj => simp at hj; subst hj; simp [Addr.add]
          case c3 => unfold maxLen; omega
          case c4 => omega
          case c5 => simp; omega
          intro v5 w5 ho5 hg5 _
          have hg6 := (hgr.trans (World.grownBy_alloc _ _ none)).andThen hg5 (fun j hj => .inl (hol j hj))
          go_wp2
          go_roundg (zs.length - i - 1)
          case measure => have := Hi.out; omega
          case rel =>
            have := Hi.out
            refine ⟨i + 1, by simp, by omega, ?_, hg6⟩
            rw [HT.out, List.flatMap_append]
            simpa [tagC] using ho5
        · have e1 : i = zs.length := by have := Hi.out; omega
          have e2 : zs.take i = zs := List.take_of_length_le (by omega)
          rw [e2] at ho
          subst e1
          go_wp2
          go_ret
          refine ⟨_, rfl, ?_, hg3.trans hgr⟩
          rw [Hlz.out]
          exact ownsRow_base_le ho Hbs.out
end Go.Proofs.Ytfmkpkmhhlakoaa.Bk

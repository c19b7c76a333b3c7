/- The walk of TableLeast: it returns true, and writes nothing that was there. -/
import Derived.Test.YtfmkpkmhhlakoaaTaw
import Derived.Test.YtfmkpkmhhlakoaaTabc
set_option linter.unusedVariables false
set_option linter.unusedSimpArgs false
namespace Go.Proofs.Ytfmkpkmhhlakoaa.Tab
open Go.RowKit Go.Proofs.Ytfmkpkmhhlakoaa.Mx

/-! ### no table -/
theorem open_nil (w : World) (no fl : Int) : Calls Try.prog 14 #[.pointer none, .int .i64 no, .int .i64 fl] w fun e w' => e = .returned (.tuple #[.int .i64 0, .int .i64 2]) ∧ w = w' := by
  go_enter Try.func14, Try.ntmps14
  go_wp2
  go_ret2
  exact ⟨rfl, rfl⟩
theorem get_nil (w : World) (fd : Int) : Calls Try.prog 16 #[.pointer none, .int .i64 fd] w fun e w' => e = .returned (.tuple #[.agg #[.int .i64 0, .int .i64 0, .int .i64 0], .bool false]) ∧ w.grownBy w' none := by
  go_enter Try.func16, Try.ntmps16
  go_wp2
  exact bodyPost_ret (v := .tuple #[.agg #[.int .i64 0, .int .i64 0, .int .i64 0], .bool false]) (by simp [results, Try.results16, go_sem]) rfl ⟨rfl, World.grownBy_alloc _ _ none⟩
theorem close_nil (w : World) (fd : Int) : Calls Try.prog 39 #[.pointer none, .int .i64 fd] w fun e w' => e = .returned (.tuple #[.int .i64 0, .bool false, .int .i64 2]) ∧ w.grownBy w' none := by
  go_enter Try.func39, Try.ntmps39
  go_wp2_with fail
  refine (get_nil w fd).mono ?_
  rintro e w1 ⟨rfl, hg⟩
  go_wp2
  go_ret3
  exact ⟨rfl, hg.trans (World.grownBy_alloc _ _ none)⟩
theorem move_nil (w : World) (fd pos : Int) : Calls Try.prog 15 #[.pointer none, .int .i64 fd, .int .i64 pos] w fun e w' => e = .returned (.int .i64 2) ∧ w.grownBy w' none := by
  go_enter Try.func15, Try.ntmps15
  go_wp2_with fail
  refine (get_nil w fd).mono ?_
  rintro e w1 ⟨rfl, hg⟩
  go_wp2
  go_ret
  exact ⟨rfl, hg.trans (World.grownBy_alloc _ _ none)⟩
theorem numbers_nil (w : World) : Calls Try.prog 17 #[.pointer none] w fun e w' => e = .returned (.slice none 0 0) ∧ w = w' := by
  go_enter Try.func17, Try.ntmps17
  go_wp2
  go_ret
  exact ⟨rfl, rfl⟩

/-- What stands when m is the least number that was closed (16: none was). -/
structure LeastOk (L : List (Int × Op)) (m : Nat) : Prop where
  le : m ≤ 16
  low : ∀ j : Nat, j < m → (mget L (j : Int)).isSome = true
  free : m < 16 → mget L (m : Int) = none ∧ L.length < 16
  full : m = 16 → L.length = 16
  len : L.length ≤ 16
  val : ∀ p ∈ L, p.2 = ⟨p.1 + 1, 2, 0⟩

theorem LeastOk.close {L : List (Int × Op)} {m : Nat} (h : LeastOk L m) (hn : (L.map Prod.fst).Nodup) (q : Nat) (hq : q < 16) : LeastOk (mdel L (q : Int)) (min m q) := by
  have hl := length_mdel hn (q : Int)
  have hle : (mdel L (q : Int)).length ≤ L.length := List.length_filter_le _ _
  refine ⟨by omega, fun j hj => ?_, fun _ => ⟨?_, ?_⟩, fun e => by omega, by have := h.len; omega, fun p hp => h.val p (List.mem_filter.1 hp).1⟩
  · rw [mget_mdel, if_neg (by omega)]
    exact h.low j (by omega)
  · rw [mget_mdel]
    by_cases e : ((min m q : Nat) : Int) = q
    · rw [if_pos e]
    · rw [if_neg e]
      have : min m q = m := by omega
      rw [this]
      exact (h.free (by omega)).1
  · by_cases c : (mget L (q : Int)).isSome = true
    · rw [if_pos c] at hl
      have := h.len
      omega
    · rw [if_neg c] at hl
      rcases Nat.lt_or_ge m 16 with hm | hm
      · have := (h.free hm).2; omega
      · exact absurd (h.low q (by omega)) c

theorem close_last (w : World) (tb mb : Nat) (L : List (Int × Op)) (m q : Nat) (hq : q < 16) (h : At w tb mb L) (hL : LeastOk L m) (o : Op) (ho : mget L (q : Int) = some o) :
    Calls Try.prog 39 #[.pointer (some ⟨tb, 0, none⟩), .int .i64 q] w fun e w' =>
      e = .returned (.tuple #[.int .i64 ((q : Int) + 1), .bool true, .int .i64 0]) ∧ At w' tb mb (mdel L (q : Int)) ∧ w.grownBy w' (some mb) :=
  (close_some w tb mb L q (WalkArith.wf_i64 (by omega)) h o ho (by have := hL.len; omega)).mono fun e w' ⟨h1, h2, h3⟩ => ⟨by
    have h4 : o = ⟨(q : Int) + 1, 2, 0⟩ := hL.val _ (mget_mem ho)
    subst h4
    have h5 : ¬ ((q : Int) + 1 ∈ nums (mdel L (q : Int))) := by
      rw [nums_uniq, Ints.uniq_mem]
      intro hm
      obtain ⟨p, hp, hpe⟩ := List.mem_map.1 hm
      have h6 := (List.mem_filter.1 hp)
      have h7 := hL.val p h6.1
      rw [h7] at hpe
      have h8 := h6.2
      simp at h8
      exact h8 (by simpa using hpe)
    rw [h1]
    simp [h5], h2, h3⟩

set_option maxHeartbeats 4000000 in
set_option maxRecDepth 100000 in
theorem least_any (a0 : Option Addr) (len0 cap0 : Nat) (z0 : List Int) (a1 : Int) (w : World) (w0 : IsRow .i64 w a0 len0 cap0 z0) (w1 : (Lit.int .i64 a1).wf = true) :
    Calls Try.prog 9 #[.slice a0 len0 cap0, .int .i64 a1] w fun e w' => e = .returned (.bool true) ∧ w.grownBy w' none := by
  obtain ⟨hrd, hlen, hwf⟩ := w0.rd
  clear w0
  generalize z0.take len0 = zs at *
  go_enter Try.func9, Try.ntmps9
  go_wp2_with fail
  refine (new_any w).mono ?_
  rintro e w1 ⟨tb, mb, rfl, h1, hg1, ht, hm⟩
  go_wp2_with fail
  refine (awake_any w1).mono ?_
  rintro e w2 ⟨rfl, hg2⟩
  have h2 := h1.kept hg2
  have hg12 := hg1.trans hg2
  clear hg1 hg2 h1
  go_wp2
  go_loopw [6] (fun i wr => ∃ (k : Nat) (L : List (Int × Op)), i = .int .i64 k ∧ k ≤ 16 ∧ At wr tb mb L ∧ w.grownBy wr none ∧ L.length = k ∧
      (∀ j : Int, mget L j = if 0 ≤ j ∧ j < k then some ⟨j + 1, 2, 0⟩ else none)) (fun i _ => 16 - (intOf i).toNat)
  case atStart => exact ⟨0, [], rfl, Nat.zero_le _, h2, hg12, rfl, fun j => by rw [mget_nil, if_neg (by omega)]⟩
  case round =>
    obtain ⟨k, L, rfl, hk, hA, hg, hl, hget⟩ := hrel
    have Hl := Lib.hid hl
    have Hget := Lib.hid hget
    clear hl hget
    by_cases hlt : k < 16
    · have hleast : least L = k := least_is hA.nodup k (by rw [Hget.out, if_neg (by omega)]) (fun j hj => by rw [Hget.out, if_pos (by omega)]; rfl)
      have hO := open_room wr tb mb L ((k : Int) + 1) 2 hA (by rw [Hl.out]; omega)
      rw [hleast] at hO
      have HO := Lib.hid hO
      clear hO hleast
      go_wp2_with fail
      refine HO.out.mono ?_
      rintro e w3 ⟨rfl, h3, hg3⟩
      go_wp2
      go_roundw
      case rel =>
        refine ⟨k + 1, _, by go_num, by omega, h3, hg.andThen hg3 (fun j hj => .inl (by have := Option.some.inj hj; omega)), ?_, fun j => ?_⟩
        · rw [length_mput hA.nodup, if_neg (by rw [Hget.out, if_neg (by omega)]; simp), Hl.out]
        · rw [mget_mput, Hget.out]
          by_cases e : j = k
          · subst e
            rw [if_pos rfl, if_pos (by omega)]
          · rw [if_neg e]
            by_cases c : 0 ≤ j ∧ j < k
            · rw [if_pos c, if_pos (by omega)]
            · rw [if_neg c, if_neg (by omega)]
      case measure => simp [intOf]; omega
    · have hk16 : k = 16 := by omega
      have hLok : LeastOk L 16 := ⟨by omega, fun j hj => by rw [Hget.out, if_pos (by omega)]; rfl, fun h => by omega, fun _ => by rw [Hl.out]; exact hk16, by rw [Hl.out]; omega, fun p hp => by
        have := mget_of_mem hA.nodup (k := p.1) (v := p.2) hp
        rw [Hget.out] at this
        by_cases c : 0 ≤ p.1 ∧ p.1 < k
        · rw [if_pos c] at this; exact (Option.some.inj this).symm
        · rw [if_neg c] at this; cases this⟩
      have hk17 : 16 ≤ k := by omega
      clear hk16
      have hl16 : 16 ≤ L.length := by rw [Hl.out]; omega
      go_wp2_with fail
      refine (open_full _ tb mb L 99 2 hA hl16).mono ?_
      rintro e w3 ⟨rfl, rfl⟩
      clear hl16 Hget Hl
      go_wp2
      go_loopw [11, 12] (fun le i wr => ∃ (i0 m : Nat) (L : List (Int × Op)), i = .int .i64 i0 ∧ i0 ≤ 30 ∧ le = .int .i64 m ∧ LeastOk L m ∧ At wr tb mb L ∧ w.grownBy wr none) (fun _ i _ => 30 - (intOf i).toNat)
      case atStart => exact ⟨0, 16, L, rfl, by omega, rfl, hLok, hA, hg⟩
      case round =>
        clear hLok hA hg
        obtain ⟨i0, m, L, rfl, hi, rfl, hok, h6, hg6⟩ := hrel
        by_cases hc : i0 < len0 ∧ i0 < 30
        · obtain ⟨hc1, hc2⟩ := hc
          obtain ⟨b, off, rfl, hcells⟩ := hrd.2 (by omega)
          have hcw := hcells i0 (by omega)
          have hcx := hg6.cell hcw (by simp)
          generalize hX : zs.getD i0 0 = X at *
          clear hX hcells
          obtain ⟨q, hq, hq16⟩ : ∃ q : Nat, wrap64 ((IntKind.u64.wrap X).tmod 16) = (q : Int) ∧ q < 16 := mod_small X 16 (by omega) (by omega)
          have hok2 := hok.close h6.nodup q hq16
          have hnod := h6.nodup
          have hz2 : mget (mdel L (q : Int)) (q : Int) = none := by rw [mget_mdel, if_pos rfl]
          have hG2 := fun wx hx => get_any wx tb mb (mdel L (q : Int)) (q : Int) (WalkArith.wf_i64 (by omega)) hx
          rw [hz2] at hG2
          simp only [Option.getD_none, Option.isSome_none, Tab.z0] at hG2
          have HG2 := Lib.hid hG2
          have hM2 := fun wx hx => move_any wx tb mb (mdel L (q : Int)) (q : Int) a1 (WalkArith.wf_i64 (by omega)) hx
          have hme : moveE (mdel L (q : Int)) q a1 = 19 := by simp [moveE, hz2]
          have hml : moveL (mdel L (q : Int)) q a1 = mdel L (q : Int) := by simp [moveL, hz2]
          rw [hme, hml] at hM2
          have HM2 := Lib.hid hM2
          clear hG2 hM2 hme hml hz2
          rcases ho : mget L (q : Int) with _ | o
          · have hG := fun wx hx => get_any wx tb mb L (q : Int) (WalkArith.wf_i64 (by omega)) hx
            rw [ho] at hG
            simp only [Option.getD_none, Option.isSome_none, Tab.z0] at hG
            have HG := Lib.hid hG
            have hC := fun wx hx => close_none wx tb mb L (q : Int) (WalkArith.wf_i64 (by omega)) hx ho
            have HC := Lib.hid hC
            have hdd := mdel_none ho
            have Hdd := Lib.hid hdd
            clear hG hC hdd ho
            go_wp2_with fail
            refine (HG.out wr h6).mono ?_
            rintro e w3 ⟨rfl, hg3⟩
            have h7 := (h6.kept hg3).alloc (.cells #[.int .i64 0, .int .i64 0, .int .i64 0] 32)
            have hg7 := (hg6.trans hg3).trans (World.grownBy_alloc w3 (.cells #[.int .i64 0, .int .i64 0, .int .i64 0] 32) none)
            clear hg3 hg6
            go_wp2_with fail
            refine (HC.out _ h7).mono ?_
            rintro e w4 ⟨rfl, h8, hg8⟩
            have hg9 := hg7.trans hg8
            rw [← Hdd.out] at h8
            clear hg8 hg7 h7
            go_wp2_with fail
            refine (HG2.out w4 h8).mono ?_
            rintro e w5 ⟨rfl, hg5⟩
            have h9 := (h8.kept hg5).alloc (.cells #[.int .i64 0, .int .i64 0, .int .i64 0] 32)
            have hg10 := (hg9.trans hg5).trans (World.grownBy_alloc w5 (.cells #[.int .i64 0, .int .i64 0, .int .i64 0] 32) none)
            clear hg5 hg9
            go_wp2_with fail
            refine (HM2.out _ h9).mono ?_
            rintro e w7 ⟨rfl, h11, hg11⟩
            have hg12 := hg10.andThen hg11 (fun j hj => .inl (by have := Option.some.inj hj; omega))
            clear hg11 hg10 h9 h8
            go_wp2
            go_roundw
            case rel => exact ⟨i0 + 1, min m q, _, by go_num, by omega, by congr 1; omega, hok2, h11, hg12⟩
            case measure => simp [intOf]; omega
          · have hG := fun wx hx => get_any wx tb mb L (q : Int) (WalkArith.wf_i64 (by omega)) hx
            rw [ho] at hG
            simp only [Option.getD_some, Option.isSome_some] at hG
            have HG := Lib.hid hG
            have hC := fun wx hx => close_last wx tb mb L m q hq16 hx hok o ho
            have HC := Lib.hid hC
            clear hG hC ho
            go_wp2_with fail
            refine (HG.out wr h6).mono ?_
            rintro e w3 ⟨rfl, hg3⟩
            have h7 := (h6.kept hg3).alloc (.cells #[.int .i64 o.no, .int .i64 o.fl, .int .i64 o.pos] 32)
            have hg7 := (hg6.trans hg3).trans (World.grownBy_alloc w3 (.cells #[.int .i64 o.no, .int .i64 o.fl, .int .i64 o.pos] 32) none)
            clear hg3 hg6
            go_wp2_with fail
            refine (HC.out _ h7).mono ?_
            rintro e w4 ⟨rfl, h8, hg8⟩
            have hg9 := hg7.andThen hg8 (fun j hj => .inl (by have := Option.some.inj hj; omega))
            clear hg8 hg7 h7
            go_wp2_with fail
            refine (HG2.out w4 h8).mono ?_
            rintro e w5 ⟨rfl, hg5⟩
            have h9 := (h8.kept hg5).alloc (.cells #[.int .i64 0, .int .i64 0, .int .i64 0] 32)
            have hg10 := (hg9.trans hg5).trans (World.grownBy_alloc w5 (.cells #[.int .i64 0, .int .i64 0, .int .i64 0] 32) none)
            clear hg5 hg9
            go_wp2_with fail
            refine (HM2.out _ h9).mono ?_
            rintro e w7 ⟨rfl, h11, hg11⟩
            have hg12 := hg10.andThen hg11 (fun j hj => .inl (by have := Option.some.inj hj; omega))
            clear hg11 hg10 h9 h8
            go_wp2
            go_roundw
            case rel => exact ⟨i0 + 1, min m q, _, by go_num, by omega, by congr 1; omega, hok2, h11, hg12⟩
            case measure => simp [intOf]; omega
        · have hex : ∀ Q : Prop, (¬ i0 < len0 → Q) → (i0 < len0 → ¬ i0 < 30 → Q) → Q := fun Q h1 h2 => by
            by_cases c : i0 < len0
            · exact h2 c (fun h => hc ⟨c, h⟩)
            · exact h1 c
          clear hc
          have hnod := h6.nodup
          refine hex _ (fun hx => ?_) (fun hx hy => ?_)
          all_goals
          by_cases hm16 : m = 16
          · have hl16 : 16 ≤ L.length := by rw [hok.full hm16]; omega
            have hm1 : 16 ≤ m := by omega
            have hm2 : m ≤ 16 := by omega
            have hmb : ((m : Int) == 16) = true := by rw [beq_iff_eq]; omega
            clear hm16
            go_wp2_with fail
            refine (open_full _ tb mb L 77 1 h6 hl16).mono ?_
            rintro e w7 ⟨rfl, rfl⟩
            have hgA := hg6
            clear hg6
            go_wp2_with fail
            refine (open_nil _ 1 1).mono ?_
            rintro e w8 ⟨rfl, rfl⟩
            go_wp2_with fail
            refine (get_nil _ 0).mono ?_
            rintro e w8 ⟨rfl, hg8⟩
            have hg9 := (hgA.trans hg8).trans (World.grownBy_alloc w8 (.cells #[.int .i64 0, .int .i64 0, .int .i64 0] 32) none)
            clear hgA hg8
            go_wp2_with fail
            refine (close_nil _ 0).mono ?_
            rintro e w9 ⟨rfl, hg10⟩
            have hg11 := hg9.trans hg10
            clear hg9 hg10
            go_wp2_with fail
            refine (move_nil _ 0 0).mono ?_
            rintro e w10 ⟨rfl, hg12⟩
            have hg13 := hg11.trans hg12
            clear hg11 hg12
            go_wp2_with fail
            refine (numbers_nil _).mono ?_
            rintro e w11 ⟨rfl, rfl⟩
            go_wp2
            go_ret
            exact ⟨rfl, hg13⟩
          · have hle := hok.le
            have hm1 : m < 16 := by omega
            have hfr := hok.free hm1
            have hleast : least L = m := least_is hnod m hfr.1 hok.low
            have hO := fun wx hx => open_room wx tb mb L 77 1 hx hfr.2
            rw [hleast] at hO
            have HO := Lib.hid hO
            have hmb : ((m : Int) == 16) = false := by rw [beq_eq_false_iff_ne]; omega
            clear hO hleast hfr hm16
            go_wp2_with fail
            refine (HO.out _ h6).mono ?_
            rintro e w7 ⟨rfl, h7, hg7⟩
            have hgA := hg6.andThen hg7 (fun j hj => .inl (by have := Option.some.inj hj; omega))
            clear hg6 hg7
            go_wp2_with fail
            refine (open_nil _ 1 1).mono ?_
            rintro e w8 ⟨rfl, rfl⟩
            go_wp2_with fail
            refine (get_nil _ 0).mono ?_
            rintro e w8 ⟨rfl, hg8⟩
            have hg9 := (hgA.trans hg8).trans (World.grownBy_alloc w8 (.cells #[.int .i64 0, .int .i64 0, .int .i64 0] 32) none)
            clear hgA hg8
            go_wp2_with fail
            refine (close_nil _ 0).mono ?_
            rintro e w9 ⟨rfl, hg10⟩
            have hg11 := hg9.trans hg10
            clear hg9 hg10
            go_wp2_with fail
            refine (move_nil _ 0 0).mono ?_
            rintro e w10 ⟨rfl, hg12⟩
            have hg13 := hg11.trans hg12
            clear hg11 hg12
            go_wp2_with fail
            refine (numbers_nil _).mono ?_
            rintro e w11 ⟨rfl, rfl⟩
            go_wp2
            go_ret
            exact ⟨rfl, hg13⟩
end Go.Proofs.Ytfmkpkmhhlakoaa.Tab

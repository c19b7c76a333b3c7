/- The walk of TableShared: it returns true, and writes nothing that was there. -/
import Derived.Test.YtfmkpkmhhlakoaaTaw
import Derived.Test.YtfmkpkmhhlakoaaTabc
set_option linter.unusedVariables false
set_option linter.unusedSimpArgs false
namespace Go.Proofs.Ytfmkpkmhhlakoaa.Tab
open Go.RowKit Go.Proofs.Ytfmkpkmhhlakoaa.Mx

def posOf (zs : List Int) (len : Nat) (j : Int) : Int := if j < len then max 0 (zs.getD j.toNat 0) else 0
theorem nums_seven {L : List (Int × Op)} (h : ∀ p ∈ L, p.2.no = 7) : (7 ∈ nums L ↔ L ≠ []) := by
  rw [nums_uniq, Ints.uniq_mem]
  cases L with
  | nil => simp
  | cons p L => simp [h p (by simp)]
theorem nums_none {L : List (Int × Op)} : (nums L).length = 0 ↔ L.length = 0 := by
  rw [nums_uniq]
  cases L with
  | nil => simp [Ints.uniq_eq (zs := []) (xs := []) (by simp) (by simp)]
  | cons p L =>
    have := (Ints.uniq_mem ((p :: L).map fun p => p.2.no) p.2.no).2 (by simp)
    simp only [List.length_cons, Nat.add_eq_zero_iff, Nat.succ_ne_self, and_false, iff_false]
    intro e
    rw [List.eq_nil_of_length_eq_zero e] at this
    cases this

theorem close_seven (w : World) (tb mb : Nat) (L : List (Int × Op)) (fd : Int) (hw : (Lit.int .i64 fd).wf = true) (h : At w tb mb L) (hall : ∀ p ∈ L, p.2.no = 7) (hL : L.length ≤ 16) (o : Op) (ho : mget L fd = some o) :
    Calls Try.prog 39 #[.pointer (some ⟨tb, 0, none⟩), .int .i64 fd] w fun e w' =>
      e = .returned (.tuple #[.int .i64 7, .bool ((L.length : Int) - 1 == 0), .int .i64 0]) ∧ At w' tb mb (mdel L fd) ∧ w.grownBy w' (some mb) :=
  (close_some w tb mb L fd hw h o ho (by omega)).mono fun e w' ⟨h1, h2, h3⟩ => ⟨by
    have h4 : o.no = 7 := hall _ (mget_mem ho)
    have h5 := length_mdel h.nodup fd
    rw [ho] at h5
    have h6 : (7 ∈ nums (mdel L fd) ↔ mdel L fd ≠ []) := nums_seven (fun p hp => hall p (List.mem_filter.1 hp).1)
    have h7 : (!decide ((7 : Int) ∈ nums (mdel L fd))) = ((L.length : Int) - 1 == 0) := by
      rw [Bool.eq_iff_iff]
      simp only [Bool.not_eq_true', decide_eq_false_iff_not, h6, beq_iff_eq, Decidable.not_not]
      simp only [Option.isSome_some, if_true] at h5
      constructor
      · intro e; rw [e] at h5; simp at h5; omega
      · intro e; exact List.eq_nil_of_length_eq_zero (by omega)
    rw [h1, h4, h7], h2, h3⟩
theorem mdel_all {L : List (Int × Op)} {fd : Int} (h : ∀ p ∈ L, p.2.no = 7) : ∀ p ∈ mdel L fd, p.2.no = 7 := fun p hp => h p (List.mem_filter.1 hp).1

set_option maxHeartbeats 4000000 in
set_option maxRecDepth 100000 in
theorem shared_any (a0 : Int) (a1 : Option Addr) (len1 cap1 : Nat) (z1 : List Int) (a2 : Option Addr) (len2 cap2 : Nat) (z2 : List Int) (w : World) (w0 : (Lit.int .i64 a0).wf = true) (w1 : IsRow .i64 w a1 len1 cap1 z1) (w2 : IsRow .i64 w a2 len2 cap2 z2) :
    Calls Try.prog 10 #[.int .i64 a0, .slice a1 len1 cap1, .slice a2 len2 cap2] w fun e w' => e = .returned (.bool true) ∧ w.grownBy w' none := by
  obtain ⟨hrd1, hlen1, hwf1⟩ := w1.rd
  obtain ⟨hrd2, hlen2, hwf2⟩ := w2.rd
  clear w1 w2
  generalize z1.take len1 = os at *
  generalize z2.take len2 = ps at *
  obtain ⟨q, hq, hq16⟩ : ∃ q : Nat, wrap64 ((IntKind.u64.wrap a0).tmod 16) = (q : Int) ∧ q < 16 := mod_small a0 16 (by omega) (by omega)
  go_enter Try.func10, Try.ntmps10
  go_wp2_with fail
  clear hq
  refine (new_any w).mono ?_
  rintro e w1 ⟨tb, mb, rfl, h1, hg1, ht, hm⟩
  go_wp2_with fail
  refine (awake_any w1).mono ?_
  rintro e w2 ⟨rfl, hg2⟩
  have h2 := h1.kept hg2
  have hg12 := hg1.trans hg2
  clear hg1 hg2 h1
  go_wp2
  go_loopw [8] (fun i wr => ∃ (k : Nat) (L : List (Int × Op)), i = .int .i64 k ∧ k ≤ 1 + q ∧ At wr tb mb L ∧ w.grownBy wr none ∧ L.length = k ∧
      (∀ j : Int, mget L j = if 0 ≤ j ∧ j < k then some ⟨7, j, posOf ps len2 j⟩ else none)) (fun i _ => 1 + q - (intOf i).toNat)
  case atStart => exact ⟨0, [], rfl, Nat.zero_le _, h2, hg12, rfl, fun j => by rw [mget_nil, if_neg (by omega)]⟩
  case round =>
    obtain ⟨k, L, rfl, hk, hA, hg, hl, hget⟩ := hrel
    have Hl := Lib.hid hl
    have Hget := Lib.hid hget
    clear hl hget
    by_cases hlt : k < 1 + q
    · have hleast : least L = k := least_is hA.nodup k (by rw [Hget.out, if_neg (by omega)]) (fun j hj => by rw [Hget.out, if_pos (by omega)]; rfl)
      have hO := open_room wr tb mb L 7 (k : Int) hA (by rw [Hl.out]; omega)
      rw [hleast] at hO
      have HO := Lib.hid hO
      have hs3 : mget (mput L (k : Int) ⟨7, (k : Int), 0⟩) (k : Int) = some ⟨7, (k : Int), 0⟩ := by rw [mget_mput, if_pos rfl]
      have hln : (mput L (k : Int) ⟨7, (k : Int), 0⟩).length = k + 1 := by rw [length_mput hA.nodup, if_neg (by rw [Hget.out, if_neg (by omega)]; simp), Hl.out]
      have hnod := nodup_mput (k : Int) (⟨7, (k : Int), 0⟩ : Op) hA.nodup
      have Hln := Lib.hid hln
      clear hO hleast hln
      have step : ∀ (P : Int) (L' : List (Int × Op)), posOf ps len2 k = P → (∀ j, mget L' j = if j = (k : Int) then some ⟨7, (k : Int), P⟩ else mget L j) → ∀ j : Int, mget L' j = if 0 ≤ j ∧ j < (k + 1 : Nat) then some ⟨7, j, posOf ps len2 j⟩ else none := by
        intro P L' hP h j
        rw [h, Hget.out]
        by_cases e : j = k
        · subst e
          rw [if_pos rfl, if_pos (by omega), hP]
        · rw [if_neg e]
          by_cases c : 0 ≤ j ∧ j < k
          · rw [if_pos c, if_pos (by omega)]
          · rw [if_neg c, if_neg (by omega)]
      have Hstep := Lib.hid step
      clear step
      by_cases hp : k < len2
      · obtain ⟨b, off, rfl, hc⟩ := hrd2.2 (by omega)
        have hcw := hc k (by omega)
        have hbw : b < w.heap.size := World.block_lt_of_cell? w _ hcw
        have hcx := hg.cell hcw (by simp)
        have hP : posOf ps len2 k = max 0 (ps.getD k 0) := by unfold posOf; rw [if_pos (by omega)]; rfl
        generalize hX : ps.getD k 0 = X at *
        clear hX hc
        have HP := Lib.hid hP
        clear hP
        have hM := fun w3 h3 => move_any w3 tb mb (mput L (k : Int) ⟨7, (k : Int), 0⟩) (k : Int) X (WalkArith.wf_i64 (by omega)) h3
        have hbm : b ≠ mb := by omega
        by_cases hX : X < 0
        · have hME : moveE (mput L (k : Int) ⟨7, (k : Int), 0⟩) k X = 1 := by simp [moveE, hs3, hX]
          have hML : moveL (mput L (k : Int) ⟨7, (k : Int), 0⟩) k X = mput L (k : Int) ⟨7, (k : Int), 0⟩ := by simp [moveL, hs3, hX]
          rw [hME, hML] at hM
          have HM := Lib.hid hM
          clear hM hME hML hs3
          go_wp2_with fail
          refine HO.out.mono ?_
          rintro e w3 ⟨rfl, h3, hg3⟩
          have hcx3 := hg3.cell hcx (by intro e; exact hbm (Option.some.inj e))
          go_wp2_with fail
          refine (HM.out w3 h3).mono ?_
          rintro e w4 ⟨rfl, h4, hg4⟩
          have hcx4 := hg4.cell hcx3 (by intro e; exact hbm (Option.some.inj e))
          go_wp2
          go_roundw
          case rel =>
            refine ⟨k + 1, _, by go_num, by omega, h4, (hg.andThen hg3 (fun j hj => .inl (by have := Option.some.inj hj; omega))).andThen hg4 (fun j hj => .inl (by have := Option.some.inj hj; omega)), Hln.out, ?_⟩
            exact Hstep.out 0 _ (by rw [HP.out]; omega) (fun j => mget_mput _ _ _ _)
          case measure => simp [intOf]; omega
        · have hME : moveE (mput L (k : Int) ⟨7, (k : Int), 0⟩) k X = 0 := by simp [moveE, hs3, hX]
          have hML : moveL (mput L (k : Int) ⟨7, (k : Int), 0⟩) k X = mput (mput L (k : Int) ⟨7, (k : Int), 0⟩) k ⟨7, (k : Int), X⟩ := by simp [moveL, hs3, hX]
          rw [hME, hML] at hM
          have HM := Lib.hid hM
          have hln2 : (mput (mput L (k : Int) ⟨7, (k : Int), 0⟩) k ⟨7, (k : Int), X⟩).length = k + 1 := by rw [length_mput hnod, if_pos (by rw [hs3]; rfl), Hln.out]
          have Hln2 := Lib.hid hln2
          clear hM hME hML hs3 hln2
          go_wp2_with fail
          refine HO.out.mono ?_
          rintro e w3 ⟨rfl, h3, hg3⟩
          have hcx3 := hg3.cell hcx (by intro e; exact hbm (Option.some.inj e))
          go_wp2_with fail
          refine (HM.out w3 h3).mono ?_
          rintro e w4 ⟨rfl, h4, hg4⟩
          have hcx4 := hg4.cell hcx3 (by intro e; exact hbm (Option.some.inj e))
          go_wp2
          go_roundw
          case rel =>
            refine ⟨k + 1, _, by go_num, by omega, h4, (hg.andThen hg3 (fun j hj => .inl (by have := Option.some.inj hj; omega))).andThen hg4 (fun j hj => .inl (by have := Option.some.inj hj; omega)), Hln2.out, ?_⟩
            exact Hstep.out X _ (by rw [HP.out]; omega) (fun j => by
              rw [mget_mput, mget_mput]
              by_cases e : j = k
              · rw [if_pos e, if_pos e]
              · rw [if_neg e, if_neg e, if_neg e])
          case measure => simp [intOf]; omega
      · go_wp2_with fail
        refine HO.out.mono ?_
        rintro e w3 ⟨rfl, h3, hg3⟩
        go_wp2
        go_roundw
        case rel =>
          refine ⟨k + 1, _, by go_num, by omega, h3, hg.andThen hg3 (fun j hj => .inl (by have := Option.some.inj hj; omega)), Hln.out, ?_⟩
          exact Hstep.out 0 _ (by unfold posOf; rw [if_neg (by omega)]) (fun j => mget_mput _ _ _ _)
        case measure => simp [intOf]; omega
    · have hkq : k = 1 + q := by omega
      have hk1 : k ≤ 1 + q := by omega
      have hk2 : 1 + q ≤ k := by omega
      clear hkq
      go_wp2_with fail
      go_loopw [12] (fun i wr => ∃ i0 : Nat, i = .int .i64 i0 ∧ i0 ≤ 1 + q ∧ At wr tb mb L ∧ w.grownBy wr none) (fun i _ => 1 + q - (intOf i).toNat)
      case atStart => exact ⟨0, rfl, Nat.zero_le _, hA, hg⟩
      case round =>
        obtain ⟨i0, rfl, hi, h6, hg6⟩ := hrel
        by_cases hi2 : i0 < 1 + q
        · have hs := Hget.out (i0 : Int)
          rw [if_pos (by omega)] at hs
          have hG := get_any _ tb mb L (i0 : Int) (WalkArith.wf_i64 (by omega)) h6
          rw [hs] at hG
          simp only [Option.getD_some, Option.isSome_some] at hG
          by_cases hp : i0 < len2
          · obtain ⟨b, off, rfl, hc⟩ := hrd2.2 (by omega)
            have hcw := hc i0 (by omega)
            have hcx := hg6.cell hcw (by simp)
            have hP : posOf ps len2 i0 = max 0 (ps.getD i0 0) := by unfold posOf; rw [if_pos (by omega)]; rfl
            rw [hP] at hG
            generalize hX : ps.getD i0 0 = X at *
            clear hX hc hP hs
            have HG := Lib.hid hG
            clear hG
            go_wp2_with fail
            refine HG.out.mono ?_
            rintro e w7 ⟨rfl, hg7⟩
            have h7 := h6.kept hg7
            go_wp2
            go_roundw
            case rel => exact ⟨i0 + 1, by go_num, by omega, h7.alloc _, (hg6.trans hg7).trans (World.grownBy_alloc _ _ none)⟩
            case measure => simp [intOf]; omega
          · have hP : posOf ps len2 i0 = 0 := by unfold posOf; rw [if_neg (by omega)]
            rw [hP] at hG
            clear hP hs
            have HG := Lib.hid hG
            clear hG
            go_wp2_with fail
            refine HG.out.mono ?_
            rintro e w7 ⟨rfl, hg7⟩
            have h7 := h6.kept hg7
            go_wp2
            go_roundw
            case rel => exact ⟨i0 + 1, by go_num, by omega, h7.alloc _, (hg6.trans hg7).trans (World.grownBy_alloc _ _ none)⟩
            case measure => simp [intOf]; omega
        · have hall : ∀ p ∈ L, p.2.no = 7 := by
            intro p hp
            have := mget_of_mem h6.nodup (k := p.1) (v := p.2) hp
            rw [Hget.out] at this
            by_cases c : 0 ≤ p.1 ∧ p.1 < k
            · rw [if_pos c] at this; rw [← Option.some.inj this]
            · rw [if_neg c] at this; cases this
          clear Hget hA hg
          have hll : L.length ≤ 16 := by rw [Hl.out]; omega
          go_wp2_with fail
          go_loopw [16, 17] (fun lf i wr => ∃ (i0 : Nat) (L : List (Int × Op)), i = .int .i64 i0 ∧ i0 ≤ 1 + q ∧ lf = .int .i64 L.length ∧ L.length ≤ 16 ∧ (∀ p ∈ L, p.2.no = 7) ∧ At wr tb mb L ∧ w.grownBy wr none) (fun _ i _ => 1 + q - (intOf i).toNat)
          case atStart => exact ⟨0, L, rfl, Nat.zero_le _, by rw [Hl.out]; first | rfl | (congr 1; omega), hll, hall, h6, hg6⟩
          case round =>
            clear Hl hall hll h6 hg6
            obtain ⟨i1, L, rfl, hi, rfl, hll, hall, h6, hg6⟩ := hrel
            have Hall := Lib.hid hall
            clear hall
            by_cases hi3 : i1 < 1 + q
            · by_cases hp : i1 < len1
              · obtain ⟨b, off, rfl, hc⟩ := hrd1.2 (by omega)
                have hcw := hc i1 (by omega)
                have hcx := hg6.cell hcw (by simp)
                generalize hX : os.getD i1 0 = X at *
                clear hX hc
                cases hpar : ((IntKind.u64.wrap X).tmod 2 == 1)
                · rcases ho : mget L (i1 : Int) with _ | o
                  · have hC := fun wx hx => close_none wx tb mb L (i1 : Int) (WalkArith.wf_i64 (by omega)) hx ho
                    have HC := Lib.hid hC
                    clear hC ho
                    go_wp2_with fail
                    refine (HC.out _ (by exact ⟨h6.cell, h6.map⟩)).mono ?_
                    rintro e w7 ⟨rfl, h7, hg7⟩
                    go_wp2
                    go_roundw
                    case rel => exact ⟨i1 + 1, L, by go_num, by omega, rfl, hll, Hall.out, h7, World.grownBy.trans (by exact ⟨hg6.os, hg6.tape, hg6.output, hg6.size, hg6.block⟩) hg7⟩
                    case measure => simp [intOf]; omega
                  · have hC := fun wx hx => close_seven wx tb mb L (i1 : Int) (WalkArith.wf_i64 (by omega)) hx Hall.out hll o ho
                    have HC := Lib.hid hC
                    have hd := length_mdel h6.nodup (i1 : Int)
                    rw [ho] at hd
                    simp only [Option.isSome_some, if_true] at hd
                    have Hd := Lib.hid hd
                    have hl1 : 1 ≤ L.length := by omega
                    clear hC ho hd
                    go_wp2_with fail
                    refine (HC.out _ (by exact ⟨h6.cell, h6.map⟩)).mono ?_
                    rintro e w7 ⟨rfl, h7, hg7⟩
                    have hg8 : w.grownBy w7 none := World.grownBy.andThen (b' := _) (by exact ⟨hg6.os, hg6.tape, hg6.output, hg6.size, hg6.block⟩) hg7 (fun j hj => .inl (by have := Option.some.inj hj; omega))
                    clear hg7
                    go_wp2
                    go_roundw
                    case rel => exact ⟨i1 + 1, _, by go_num, by omega, by have := Hd.out; congr 1; omega, by have := Hd.out; omega, mdel_all Hall.out, h7, hg8⟩
                    case measure => simp [intOf]; omega
                · rcases ho : mget L (1 + (q : Int) - 1 - (i1 : Int)) with _ | o
                  · have hC := fun wx hx => close_none wx tb mb L (1 + (q : Int) - 1 - (i1 : Int)) (WalkArith.wf_i64 (by omega)) hx ho
                    have HC := Lib.hid hC
                    clear hC ho
                    go_wp2_with fail
                    refine (HC.out _ (by exact ⟨h6.cell, h6.map⟩)).mono ?_
                    rintro e w7 ⟨rfl, h7, hg7⟩
                    go_wp2
                    go_roundw
                    case rel => exact ⟨i1 + 1, L, by go_num, by omega, rfl, hll, Hall.out, h7, World.grownBy.trans (by exact ⟨hg6.os, hg6.tape, hg6.output, hg6.size, hg6.block⟩) hg7⟩
                    case measure => simp [intOf]; omega
                  · have hC := fun wx hx => close_seven wx tb mb L (1 + (q : Int) - 1 - (i1 : Int)) (WalkArith.wf_i64 (by omega)) hx Hall.out hll o ho
                    have HC := Lib.hid hC
                    have hd := length_mdel h6.nodup (1 + (q : Int) - 1 - (i1 : Int))
                    rw [ho] at hd
                    simp only [Option.isSome_some, if_true] at hd
                    have Hd := Lib.hid hd
                    have hl1 : 1 ≤ L.length := by omega
                    clear hC ho hd
                    go_wp2_with fail
                    refine (HC.out _ (by exact ⟨h6.cell, h6.map⟩)).mono ?_
                    rintro e w7 ⟨rfl, h7, hg7⟩
                    have hg8 : w.grownBy w7 none := World.grownBy.andThen (b' := _) (by exact ⟨hg6.os, hg6.tape, hg6.output, hg6.size, hg6.block⟩) hg7 (fun j hj => .inl (by have := Option.some.inj hj; omega))
                    clear hg7
                    go_wp2
                    go_roundw
                    case rel => exact ⟨i1 + 1, _, by go_num, by omega, by have := Hd.out; congr 1; omega, by have := Hd.out; omega, mdel_all Hall.out, h7, hg8⟩
                    case measure => simp [intOf]; omega
              · rcases ho : mget L (i1 : Int) with _ | o
                · have hC := fun wx hx => close_none wx tb mb L (i1 : Int) (WalkArith.wf_i64 (by omega)) hx ho
                  have HC := Lib.hid hC
                  clear hC ho
                  go_wp2_with fail
                  refine (HC.out _ (by exact ⟨h6.cell, h6.map⟩)).mono ?_
                  rintro e w7 ⟨rfl, h7, hg7⟩
                  go_wp2
                  go_roundw
                  case rel => exact ⟨i1 + 1, L, by go_num, by omega, rfl, hll, Hall.out, h7, World.grownBy.trans (by exact ⟨hg6.os, hg6.tape, hg6.output, hg6.size, hg6.block⟩) hg7⟩
                  case measure => simp [intOf]; omega
                · have hC := fun wx hx => close_seven wx tb mb L (i1 : Int) (WalkArith.wf_i64 (by omega)) hx Hall.out hll o ho
                  have HC := Lib.hid hC
                  have hd := length_mdel h6.nodup (i1 : Int)
                  rw [ho] at hd
                  simp only [Option.isSome_some, if_true] at hd
                  have Hd := Lib.hid hd
                  have hl1 : 1 ≤ L.length := by omega
                  clear hC ho hd
                  go_wp2_with fail
                  refine (HC.out _ (by exact ⟨h6.cell, h6.map⟩)).mono ?_
                  rintro e w7 ⟨rfl, h7, hg7⟩
                  have hg8 : w.grownBy w7 none := World.grownBy.andThen (b' := _) (by exact ⟨hg6.os, hg6.tape, hg6.output, hg6.size, hg6.block⟩) hg7 (fun j hj => .inl (by have := Option.some.inj hj; omega))
                  clear hg7
                  go_wp2
                  go_roundw
                  case rel => exact ⟨i1 + 1, _, by go_num, by omega, by have := Hd.out; congr 1; omega, by have := Hd.out; omega, mdel_all Hall.out, h7, hg8⟩
                  case measure => simp [intOf]; omega
            · go_wp2_with fail
              refine (numbers_any _ tb mb L h6 (by omega)).mono ?_
              rintro e w7 ⟨v, rfl, hv, hg7⟩
              obtain ⟨a, n, c, rfl, hnn⟩ : ∃ a n c, v = .slice a n c ∧ (n = 0 ↔ L.length = 0) := by
                rcases hv.2 with ⟨rfl, h0⟩ | ⟨g, cap, cur, rfl, _⟩
                · exact ⟨none, 0, 0, rfl, by rw [← nums_none]; simp [h0]⟩
                · exact ⟨_, _, _, rfl, nums_none⟩
              have hb : ((n : Int) == 0) = ((L.length : Int) == 0) := by
                rw [Bool.eq_iff_iff, beq_iff_eq, beq_iff_eq]; omega
              have Hb := Lib.hid hb
              clear hb hv
              go_wp2
              go_ret
              exact ⟨by rw [Hb.out]; simp, hg6.trans hg7⟩
end Go.Proofs.Ytfmkpkmhhlakoaa.Tab

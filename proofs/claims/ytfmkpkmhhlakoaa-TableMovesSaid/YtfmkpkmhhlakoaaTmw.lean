/- The walk of TableMoves: it returns true, and writes nothing that was there. -/
import Derived.Test.YtfmkpkmhhlakoaaTaw
set_option linter.unusedVariables false
set_option linter.unusedSimpArgs false
namespace Go.Proofs.Ytfmkpkmhhlakoaa.Tab
open Go.RowKit Go.Proofs.Ytfmkpkmhhlakoaa.Mx

/-- A slice of ints that came in. -/
def IsRow (k : IntKind) (w : World) (a : Option Addr) (len cap : Nat) (zs : List Int) : Prop :=
  (a = none ∧ len = 0 ∧ cap = 0 ∧ zs = []) ∨
  ∃ x, a = some x ∧ len ≤ cap ∧ cap ≤ maxLen ∧ zs.length = cap ∧ (∀ i, i < zs.length → w.cell? (x.add i) = some (.int k (zs.getD i 0))) ∧ ∀ n ∈ zs, (Lit.int k n).wf = true
theorem IsRow.rd {w : World} {a : Option Addr} {len cap : Nat} {zs : List Int} (h : IsRow .i64 w a len cap zs) :
    Ints.Rd w a len (zs.take len) ∧ len ≤ 9223372036854775807 ∧ ∀ n ∈ zs.take len, (Lit.int .i64 n).wf = true := by
  rcases h with ⟨rfl, rfl, rfl, rfl⟩ | ⟨x, rfl, h1, h2, h3, h4, h5⟩
  · exact ⟨⟨rfl, fun h => absurd rfl h⟩, by omega, by simp⟩
  · refine ⟨⟨by simp; omega, fun hn => ?_⟩, by unfold maxLen at h2; omega, fun n hn => h5 n (List.mem_of_mem_take hn)⟩
    have hc := h4 0 (by omega)
    obtain ⟨b, off, spot⟩ := x
    have hspot : spot = none := by simpa [Addr.add] using World.cell?_spot hc
    subst hspot
    refine ⟨b, off, rfl, fun j hj => ?_⟩
    have := h4 j (by omega)
    have e : ((⟨b, off, none⟩ : Addr).add j) = ⟨b, off + j, none⟩ := by unfold Addr.add; split <;> simp_all
    rw [e] at this
    rw [this]
    simp [List.getD, hj]

theorem nos_nodup {L : List (Int × Op)} (hn : (L.map Prod.fst).Nodup) (h : ∀ p ∈ L, p.2.no = p.1 + 1) : (L.map fun p => p.2.no).Nodup := by
  have e : (L.map fun p => p.2.no) = (L.map Prod.fst).map (fun x => x + 1) := by
    rw [List.map_map]
    exact List.map_congr_left (fun p hp => h p hp)
  rw [e]
  refine (List.Pairwise.map _ (fun a b (hab : a ≠ b) => ?_) hn)
  show a + 1 ≠ b + 1
  omega
def low (x : Int) : Int := bits BinOp.and IntKind.i64 x 65535
theorem low_nonneg (x : Int) : ¬ low x < 0 := by
  unfold low bits
  have h : (BitVec.ofInt IntKind.i64.bits x &&& BitVec.ofInt IntKind.i64.bits 65535).toNat ≤ 65535 := by
    rw [BitVec.toNat_and]
    exact Nat.and_le_right
  have e : ∀ n : Nat, n ≤ 65535 → ¬ IntKind.i64.wrap (n : Int) < 0 := fun n hn => by
    rw [IntWalk.i64_in _ (by omega)]
    omega
  exact e _ h
theorem mod_small (a : Int) (k : Nat) (h0 : 0 < k) (h1 : k ≤ 16) : ∃ q : Nat, wrap64 ((IntKind.u64.wrap a).tmod (k : Int)) = (q : Int) ∧ q < k := by
  have h : 0 ≤ IntKind.u64.wrap a := by
    show 0 ≤ a % _
    omega
  have h2 := Int.tmod_nonneg (k : Int) h
  have h3 := Int.tmod_lt_of_pos (IntKind.u64.wrap a) (show (0 : Int) < k by omega)
  refine ⟨((IntKind.u64.wrap a).tmod k).toNat, ?_, by omega⟩
  unfold wrap64
  omega

set_option maxRecDepth 100000 in
theorem moves_any (a0 : Option Addr) (len0 cap0 : Nat) (z0 : List Int) (a1 a2 : Int) (w : World) (w0 : IsRow .i64 w a0 len0 cap0 z0) (w1 : (Lit.int .i64 a1).wf = true) (w2 : (Lit.int .i64 a2).wf = true) :
    Calls Try.prog 3 #[.slice a0 len0 cap0, .int .i64 a1, .int .i64 a2] w fun e w' => e = .returned (.bool true) ∧ w.grownBy w' none := by
  obtain ⟨hrd, hlen, hwf⟩ := w0.rd
  clear w0
  generalize z0.take len0 = zs at *
  obtain ⟨n, hn, hn1, hn2⟩ : ∃ n : Nat, min (len0 : Int) 16 = (n : Int) ∧ n ≤ len0 ∧ n ≤ 16 := ⟨min len0 16, by omega, by omega, by omega⟩
  go_enter Try.func3, Try.ntmps3
  go_wp2_with fail
  refine (new_any w).mono ?_
  rintro e w1 ⟨tb, mb, rfl, h1, hg1, ht, hm⟩
  go_wp2_with fail
  refine (awake_any w1).mono ?_
  rintro e w2 ⟨rfl, hg2⟩
  have h2 := h1.kept hg2
  have hg12 := hg1.trans hg2
  clear hg1 hg2 h1
  go_wp2
  clear hn
  go_loopw [9] (fun i wr => ∃ (k : Nat) (L : List (Int × Op)), i = .int .i64 k ∧ k ≤ n ∧ At wr tb mb L ∧ w.grownBy wr none ∧ L.length = k ∧
      (∀ j : Int, mget L j = if 0 ≤ j ∧ j < k then some ⟨j + 1, 3, low (zs.getD j.toNat 0)⟩ else none)) (fun i _ => n - (intOf i).toNat)
  case atStart => exact ⟨0, [], rfl, Nat.zero_le _, h2, hg12, rfl, fun j => by rw [mget_nil, if_neg (by omega)]⟩
  case round =>
    obtain ⟨k, L, rfl, hk, hA, hg, hl, hget⟩ := hrel
    have Hl := Lib.hid hl
    have Hget := Lib.hid hget
    clear hl hget
    by_cases hlt : k < n
    · obtain ⟨b, off, rfl, hc⟩ := hrd.2 (by omega)
      have hcw := hc k (by omega)
      have hbw : b < w.heap.size := World.block_lt_of_cell? w _ hcw
      have hcx := hg.cell hcw (by simp)
      generalize hX : zs.getD k 0 = X at *
      have HX := Lib.hid hX
      clear hX hc
      have hleast : least L = k := least_is hA.nodup k (by rw [Hget.out, if_neg (by omega)]) (fun j hj => by rw [Hget.out, if_pos (by omega)]; rfl)
      have hO := open_room wr tb mb L ((k : Int) + 1) 3 hA (by rw [Hl.out]; omega)
      rw [hleast] at hO
      have HO := Lib.hid hO
      clear hO hleast
      go_wp2_with fail
      refine HO.out.mono ?_
      rintro e w3 ⟨rfl, h3, hg3⟩
      have hbm : b ≠ mb := by omega
      have hcx3 := hg3.cell hcx (by intro e; exact hbm (Option.some.inj e))
      have hs3 : mget (mput L (k : Int) ⟨(k : Int) + 1, 3, 0⟩) (k : Int) = some ⟨(k : Int) + 1, 3, 0⟩ := by rw [mget_mput, if_pos rfl]
      have hp := low_nonneg X
      have hM := move_any w3 tb mb _ (k : Int) (low X) (WalkArith.wf_i64 (by omega)) h3
      have hME : moveE (mput L (k : Int) ⟨(k : Int) + 1, 3, 0⟩) k (low X) = 0 := by simp [moveE, hs3, hp]
      have hML : moveL (mput L (k : Int) ⟨(k : Int) + 1, 3, 0⟩) k (low X) = mput (mput L (k : Int) ⟨(k : Int) + 1, 3, 0⟩) k ⟨(k : Int) + 1, 3, low X⟩ := by simp [moveL, hs3, hp]
      rw [hME, hML] at hM
      have HM := Lib.hid hM
      clear hM hME hML hs3
      go_wp2_with fail
      refine HM.out.mono ?_
      rintro e w4 ⟨rfl, h4, hg4⟩
      go_wp2
      go_roundw
      case rel =>
        refine ⟨k + 1, _, by go_num, by omega, h4, (hg.andThen hg3 (fun j hj => .inl (by have := Option.some.inj hj; omega))).andThen hg4 (fun j hj => .inl (by have := Option.some.inj hj; omega)), ?_, fun j => ?_⟩
        · rw [length_mput (nodup_mput _ _ hA.nodup), if_pos (by rw [mget_mput, if_pos rfl]; rfl), length_mput hA.nodup, if_neg (by rw [Hget.out, if_neg (by omega)]; simp), Hl.out]
        · rw [mget_mput, mget_mput, Hget.out]
          by_cases e : j = k
          · subst e
            rw [if_pos rfl, if_pos (by omega), ← HX.out]
            simp
          · rw [if_neg e, if_neg e]
            by_cases c : 0 ≤ j ∧ j < k
            · rw [if_pos c, if_pos (by omega)]
            · rw [if_neg c, if_neg (by omega)]
      case measure => simp [intOf]; omega
    · obtain rfl : k = n := by omega
      by_cases hn0 : k = 0
      · subst hn0
        go_wp2_with fail
        go_ret
        exact ⟨rfl, hg⟩
      · have hn0' : ((k : Int) == 0) = false := by rw [beq_eq_false_iff_ne]; omega
        obtain ⟨q, hq, hqk⟩ : ∃ q : Nat, wrap64 ((IntKind.u64.wrap a1).tmod (k : Int)) = (q : Int) ∧ q < k := mod_small a1 k (by omega) (by omega)
        have Hq := Lib.hid hq
        clear hq
        have hsq : mget L (q : Int) = some ⟨(q : Int) + 1, 3, low (zs.getD q 0)⟩ := by rw [Hget.out, if_pos (by omega)]; rfl
        have hM := move_any wr tb mb L (q : Int) a2 (WalkArith.wf_i64 (by omega)) hA
        have hnod := hA.nodup
        obtain ⟨E, L2, hEL, hL2, hF⟩ : ∃ (E : Int) (L2 : List (Int × Op)), (moveE L q a2 = E ∧ moveL L q a2 = L2 ∧ ((0 ≤ a2 ∧ E = 0) ∨ (a2 < 0 ∧ E = 1))) ∧ L2.length = k ∧
            (∀ j : Int, mget L2 j = if 0 ≤ j ∧ j < k then some ⟨j + 1, 3, if j = q ∧ 0 ≤ a2 then a2 else low (zs.getD j.toNat 0)⟩ else none) := by
          by_cases hto : a2 < 0
          · refine ⟨1, L, ⟨by simp [moveE, hsq, hto], by simp [moveL, hsq, hto], .inr ⟨hto, rfl⟩⟩, Hl.out, fun j => ?_⟩
            rw [Hget.out]
            have : ¬ (j = q ∧ 0 ≤ a2) := by omega
            rw [if_neg this]
          · refine ⟨0, _, ⟨by simp [moveE, hsq, hto], by simp only [moveL, hsq]; rw [if_neg hto], .inl ⟨by omega, rfl⟩⟩, by rw [length_mput hnod, if_pos (by rw [hsq]; rfl), Hl.out], fun j => ?_⟩
            rw [mget_mput, Hget.out]
            by_cases e : j = q
            · rw [if_pos e, if_pos (by omega), if_pos (by omega), e]
            · rw [if_neg e]
              have : ¬ (j = q ∧ 0 ≤ a2) := by omega
              rw [if_neg this]
        obtain ⟨hE1, hE2, hE⟩ := hEL
        rw [hE1, hE2] at hM
        have HM := Lib.hid hM
        have HL2 := Lib.hid hL2
        have HF := Lib.hid hF
        clear hM hE1 hE2 hL2 hF hsq hnod
        go_wp2_with fail
        rw [Hq.out]
        refine HM.out.mono ?_
        rintro e w4 ⟨rfl, h4, hg4⟩
        have hg5 := hg.andThen hg4 (fun j hj => .inl (by have := Option.some.inj hj; omega))
        clear hg4 hA hg
        rcases hE with ⟨hto, rfl⟩ | ⟨hto, rfl⟩
        all_goals
          go_wp2
          go_loopw [13] (fun i wr => ∃ i0 : Nat, i = .int .i64 i0 ∧ i0 ≤ k ∧ At wr tb mb L2 ∧ w.grownBy wr none) (fun i _ => k - (intOf i).toNat)
          case atStart => exact ⟨0, rfl, Nat.zero_le _, h4, hg5⟩
          case round =>
            obtain ⟨i0, rfl, hi, h6, hg6⟩ := hrel
            by_cases hi2 : i0 < k
            · obtain ⟨b, off, rfl, hc⟩ := hrd.2 (by omega)
              have hcw := hc i0 (by omega)
              have hcx := hg6.cell hcw (by simp)
              have hs := HF.out (i0 : Int)
              rw [if_pos (by omega), Int.toNat_natCast] at hs
              generalize hX : zs.getD i0 0 = X at *
              clear hX hc
              by_cases e : i0 = q
              · subst e
                first
                  | (have hx : (i0 : Int) = i0 ∧ 0 ≤ a2 := ⟨rfl, hto⟩
                     rw [if_pos hx] at hs)
                  | (have hx : ¬ ((i0 : Int) = i0 ∧ 0 ≤ a2) := by omega
                     rw [if_neg hx] at hs
                     simp only [low] at hs)
                have hG := get_any _ tb mb L2 (i0 : Int) (WalkArith.wf_i64 (by omega)) h6
                rw [hs] at hG
                simp only [Option.getD_some, Option.isSome_some] at hG
                have HG := Lib.hid hG
                clear hG hs hx
                go_wp2_with fail
                refine HG.out.mono ?_
                rintro e w7 ⟨rfl, hg7⟩
                have h7 := h6.kept hg7
                go_wp2
                go_roundw
                case rel => exact ⟨i0 + 1, by go_num, by omega, h7.alloc _, (hg6.trans hg7).trans (World.grownBy_alloc _ _ none)⟩
                case measure => simp [intOf]; omega
              · have hx : ¬ ((i0 : Int) = q ∧ 0 ≤ a2) := by omega
                have hxe : ((i0 : Int) == q) = false := by rw [beq_eq_false_iff_ne]; omega
                rw [if_neg hx] at hs
                simp only [low] at hs
                have hG := get_any _ tb mb L2 (i0 : Int) (WalkArith.wf_i64 (by omega)) h6
                rw [hs] at hG
                simp only [Option.getD_some, Option.isSome_some] at hG
                have HG := Lib.hid hG
                clear hG hs hx
                go_wp2_with fail
                refine HG.out.mono ?_
                rintro e w7 ⟨rfl, hg7⟩
                have h7 := h6.kept hg7
                go_wp2
                go_roundw
                case rel => exact ⟨i0 + 1, by go_num, by omega, h7.alloc _, (hg6.trans hg7).trans (World.grownBy_alloc _ _ none)⟩
                case measure => simp [intOf]; omega
            · have hnl : (nums L2).length = k := by
                rw [nums_uniq, Ints.uniq_length (nos_nodup h6.nodup (fun p hp => ?_)), List.length_map, HL2.out]
                have := mget_of_mem h6.nodup (k := p.1) (v := p.2) hp
                rw [HF.out] at this
                by_cases c : 0 ≤ p.1 ∧ p.1 < k
                · rw [if_pos c] at this
                  rw [← Option.some.inj this]
                · rw [if_neg c] at this
                  cases this
              have Hnl := Lib.hid hnl
              clear hnl
              go_wp2_with fail
              refine (numbers_any _ tb mb L2 h6 (by rw [HL2.out]; omega)).mono ?_
              rintro e w7 ⟨v, rfl, hv, hg7⟩
              rw [Hnl.out] at hv
              obtain ⟨a, c, rfl, hr⟩ : ∃ a c, v = .slice a k c ∧ True := by
                rcases hv.2 with ⟨rfl, h0⟩ | ⟨g, cap, cur, rfl, _⟩
                · exact ⟨none, 0, by rw [h0], trivial⟩
                · exact ⟨_, _, rfl, trivial⟩
              go_wp2
              go_ret
              exact ⟨rfl, hg6.trans hg7⟩
end Go.Proofs.Ytfmkpkmhhlakoaa.Tab

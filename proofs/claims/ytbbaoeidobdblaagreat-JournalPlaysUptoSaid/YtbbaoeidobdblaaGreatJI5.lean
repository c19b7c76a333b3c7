/- Laid together: Sk42, Sk43, Sk44, Sk45, Sk46, Sk47, Sk48, Sp4, Sp5, Sp6, Sxp, Sk51, Sk52, Sk53, Sk54, Sk55, Sk56, Sk57. -/
import Derived.Test.YtbbaoeidobdblaaGreatJI4
import Derived.Laws.BytesString
import Derived.Lib.BytesEntry
/- Concat, Put, PutInt: what they hand back is one's own. -/
set_option linter.unusedVariables false
set_option linter.unusedSimpArgs false
namespace Go.Proofs.YtbbaoeidobdblaaGreat.Sx
open Go
attribute [local simp ↓] ifb_true' ifb_false'
attribute [local simp] ifb_true ifb_false ifb_eq sx argsT find ev evOp evs evo evBin evInt evStr evNil evNilA ptrA slcA isNoneA asB evLoad look del cellsB evUn evConv kdec fld evFieldA evField evIdxA evIdx evSlc bndL bndH evLen mmi put resV guardV gvL setO tupV cellsOf ones one upd lits nv exitTo SV.val CV.val TI.agg rdyA allR keepB scan simpO gsp isS subs keepT pickT wr memN pubs Res.fact Region.binds bld rest give delL back Res.eqv vi vb num Sv.val undef
theorem concatS (w : World) (I : Nat → Prop) (hI : ∀ b, I b → b < w.heap.size) (xss : List (List Int)) (s : Sl) (h : ∀ W, Ext I w W → s.ok dBs W xss) (hN : xss.flatten.length ≤ 100000000000) (h0 : 0 < xss.length) :
    FnS Tryz.prog 148 #[.slice s.1 xss.length s.2] w I noS (fun x : Sl => .slice x.1 xss.flatten.length x.2) (fun x => [.row x.1 xss.flatten.length x.2 5 1 (bC xss.flatten)]) (fun _ _ => True) := by
  obtain ⟨b, off, e⟩ := (h w (Ext.refl _ _)).2.2.is_some h0
  have hk := (h w (Ext.refl _ _)).2.1
  obtain ⟨a, c⟩ := s
  cases e
  refine enterS (svs := [.c (.v (.slice (some ⟨b, off, none⟩) xss.length c))]) tysOk Tryz.func148 rfl Tryz.ntmps148 Tryz.results148 (by kernel_rfl) (by simp) hI [] (owns_nil w) (fun b hb => hb.elim) (fun W => Sl.ok dBs W (some ⟨b, off, none⟩, c) xss) h fun C hC hn ok => ?_
  simp [hn]
  have ld : ∀ (i : Nat) (hlt : i < xss.length) (W : World), Sl.ok dBs W (some ⟨b, off, none⟩, c) xss → ∃ v, W.cell? ⟨b, off + i, none⟩ = some v ∧ slQ dByte xss[i] v W := fun i hlt W hW => by
    obtain ⟨cs, ⟨s, rfl, hs⟩, _, hc⟩ := hW.2.2.get hlt
    exact ⟨_, by simpa [dBs] using hc 0 _ rfl, s, rfl, hs⟩
  have e2 : ∀ i, i < xss.length → IntKind.i64.wrap ((i : Int) + 1) = (i + 1 : Nat) := fun i h => by rw [w64 (by omega) (by omega)]; omega
  have ht : ∀ i (hlt : i < xss.length), (xss.take (i + 1)).flatten = (xss.take i).flatten ++ xss[i] := fun i hlt => by
    rw [List.take_add_one, List.getElem?_eq_getElem hlt, List.flatten_append]
    simp only [Option.toList, List.flatten_cons, List.flatten_nil, List.append_nil]
  refine loop ok (fun i => [(11, .c (.v (.int .i64 (i : Nat)))), (3, .c (.v (.int .i64 (sumL xss i))))]) (fun _ => []) (fun i W => i ≤ xss.length) (fun i => xss.length - i) 0 ?_ ?_ (fun W _ => Nat.zero_le _) fun i W hi hG next => ?_
  · simp [sumL]
  · simp
  simp [hn]
  refine ⟨fun hlt => ?_, fun hge => ?_⟩
  · refine ⟨hlt, load1 ok rfl rfl rfl rfl (slQ dByte xss[i]) (fun W hW => ld i hlt W hW.2) ?_⟩
    · rintro v W ⟨s, rfl, hs⟩ hG
      have e1 : IntKind.i64.wrap ((sumL xss i : Int) + xss[i].length) = sumL xss (i + 1) := by
        have h1 := sumL_succ xss i hlt
        have h2 := sumL_le xss (i + 1)
        rw [w64 (by omega) (by omega)]
        omega
      simp [hn, e1, e2 i hlt]
      refine ⟨fun h => absurd h (by omega), next (i + 1) _ _ (by omega) (fun W h => ⟨hlt, h.2.2⟩) ?_⟩
      simp
  · have hi' : i = xss.length := by omega
    subst hi'
    refine callS ok rfl rfl rfl [] [] trivial rfl (fun x : Sl => [(600, .row x.1 0 x.2 5 1 [])]) (fun w I S hI hG hO hS => (grow0 w I hI (sumL xss xss.length) (Nat.le_trans (sumL_le _ _) hN)).lone hO) ?_ (.inl fun k hk => by cases hk) fun x W _ => ?_
    · simp
    · simp [hn]
      refine loop ok (fun a : Nat × Sl => [(27, .c (.v (.int .i64 (a.1 : Nat)))), (6, .c (.v (.slice a.2.1 (sumL xss a.1) a.2.2)))]) (fun a => [(600, .row a.2.1 (sumL xss a.1) a.2.2 5 1 (bC (xss.take a.1).flatten))]) (fun a W => a.1 ≤ xss.length) (fun a => xss.length - a.1) (0, x) ?_ ?_ (fun W _ => Nat.zero_le _) ?_
      · simp [sumL]
      · simp [sumL, bC]
      · rintro ⟨i, r⟩ W hi2 hG2 next2
        simp [hn]
        refine ⟨fun hlt => ?_, fun hge => ?_⟩
        · refine ⟨hlt, load1 ok rfl rfl rfl rfl (slQ dByte xss[i]) (fun W hW => ld i hlt W hW.2) ?_⟩
          rintro v W ⟨⟨a', c'⟩, rfl, hs⟩ hG
          have hu := sumL_succ xss i hlt
          have hm := sumL_le xss (i + 1)
          by_cases hx : xss[i] = []
          · simp [hn, hx]
            refine rowLe 600 rfl fun hle => app0 ok rfl rfl rfl rfl rfl rfl rfl hle rfl rfl ?_
            simp [hn, e2 i hlt]
            refine next2 (i + 1, r) _ _ (by simp; omega) (fun W h => ⟨hlt, h.2.2⟩) ?_
            simp [hu, ht i hlt, hx]
          · have h1 : 0 < xss[i].length := List.length_pos_iff.2 hx
            obtain ⟨b', o', e'⟩ := hs.2.2.is_some h1
            cases e'
            simp [hn]
            refine appI ok 600 rfl rfl rfl rfl rfl (by decide) rfl rfl rfl rfl rfl rfl h1 (by show _ * 1 ≤ _; omega) (by omega) (fun l W => l = xss[i].map (.int .u8)) (fun W hW => ?_) fun l g' c'' W hq _ => ?_
            · obtain ⟨l, k1, k2, k3⟩ := hW.1.get.2.2.2.all_rows
              exact ⟨l, k1.1, k2, k3, rows_byte.1 k1⟩
            · subst hq
              simp [hn, e2 i hlt]
              refine next2 (i + 1, (some ⟨g', 0, none⟩, c'')) _ _ (by simp; omega) (fun W h => ⟨hlt, h.2.2⟩) ?_
              simp [hu, ht i hlt, ← bC_nv]
        · have hi' : i = xss.length := by simp only at hi2; omega
          subst hi'
          have hfl : (xss.take xss.length).flatten = xss.flatten := by rw [List.take_length]
          exact retS hC r [600] (by simp [sumL, hfl]) (by simp [sumL, hfl]) fun _ _ _ => trivial
theorem putS (w : World) (I : Nat → Prop) (hI : ∀ b, I b → b < w.heap.size) (xs : List Int) (s : Sl) (v : Int) (n : Nat) (h : ∀ W, Ext I w W → s.ok dByte W xs) (hl : xs.length + n ≤ 100000000000) (hn : n ≤ 8) (hv : 0 ≤ v) :
    FnS Tryz.prog 105 #[.slice s.1 xs.length s.2, .int .u64 v, .int .i64 n] w I noS (fun r : Sl => .slice r.1 (xs.length + n) r.2) (fun r => [.row r.1 (xs.length + n) r.2 5 1 (bC (xs ++ lowB v n))]) (fun _ _ => True) := by
  refine enterS (svs := [.c (.v (.slice s.1 xs.length s.2)), .c (.v (.int .u64 v)), .c (.v (.int .i64 n))]) tysOk Tryz.func105 rfl Tryz.ntmps105 Tryz.results105 (by kernel_rfl) (by simp) hI [] (owns_nil w) (fun b hb => hb.elim) (fun W => s.ok dByte W xs) h fun C hC hN ok => ?_
  have e1 : ¬ ((n : Int) < 0) := by omega
  have e2 : ¬ ((8 : Int) < n) := by omega
  simp [hN, e1, e2]
  refine mksl ok rfl rfl rfl rfl rfl rfl rfl rfl rfl (by omega) (by show (1 : Int) * n ≤ _; omega) (by omega) fun g => ?_
  simp [hN]
  refine loop ok (fun i : Nat => [(15, .c (.v (.int .i64 i)))]) (fun i => [(12, .row (some ⟨g, 0, none⟩) n n 5 1 (bC (fillB v n i)))]) (fun i W => i ≤ n) (fun i => n - i) 0 ?_ ?_ (fun W _ => Nat.zero_le _) fun i W hi hG next => ?_
  · simp
  · simp [fillB_none, bC]
  simp [hN]
  refine ⟨fun hlt => ?_, fun hge => ?_⟩
  · have e3 : IntKind.i64.wrap (8 * (i : Int)) = (8 * i : Nat) := by rw [w64 (by omega) (by omega)]; omega
    have e4 : min (8 * i) IntKind.u64.bits = 8 * i := by simp [IntKind.bits]; omega
    have e5 : v.fdiv (2 ^ (8 * i)) = v / 2 ^ (8 * i) := Int.fdiv_eq_ediv_of_nonneg _ (Int.le_of_lt (Int.pow_pos (by decide)))
    have e6 : IntKind.i64.wrap ((i : Int) + 1) = (i + 1 : Nat) := by rw [w64 (by omega) (by omega)]; omega
    rw [e3, e6, Int.toNat_natCast, e4, e5, u8_wrap, bC_set, fillB_set v n i hlt]
    refine ⟨by omega, hlt, by rw [bC_length, fillB_length v n i hi]; omega, next (i + 1) _ _ (by omega) (fun W h => ⟨hlt, h.2⟩) ?_⟩
    simp
  · have hi' : i = n := by omega
    subst hi'
    intro g2
    rw [fillB_full]
    refine pub 12 rfl (by decide) (pub 29 rfl (by decide) (callS ok rfl rfl rfl [] [] trivial rfl (fun x : Sl => [(600, .row x.1 ([xs, lowB v i].flatten.length) x.2 5 1 (bC [xs, lowB v i].flatten))]) (fun w I S hI hG hO hS => (concatS w I hI [xs, lowB v i] (some ⟨g2, 0, none⟩, 2) (fun W e => two_ok (hG W e).1 (hG W e).2.2.2 rfl (byte_ok (hG W e).2.1 (by rw [lowB_length]; omega)).2 (lowB_length v i).symm) (by simp [lowB_length]; omega) (by simp)).lone hO) (fun r => by simp) (.inl fun k hk => by cases hk) fun x W _ => ?_))
    simp [hN]
    exact retS hC x [600] (by simp [lowB_length]) (by simp [lowB_length]) fun W _ hG => trivial
theorem putIntS (w : World) (I : Nat → Prop) (hI : ∀ b, I b → b < w.heap.size) (xs : List Int) (s : Sl) (v : Int) (h : ∀ W, Ext I w W → s.ok dByte W xs) (hl : xs.length + 8 ≤ 100000000000) :
    FnS Tryz.prog 102 #[.slice s.1 xs.length s.2, .int .i64 v] w I noS (fun r : Sl => .slice r.1 (xs.length + 8) r.2) (fun r => [.row r.1 (xs.length + 8) r.2 5 1 (bC (xs ++ intB v))]) (fun _ _ => True) := by
  refine enterS (svs := [.c (.v (.slice s.1 xs.length s.2)), .c (.v (.int .i64 v))]) tysOk Tryz.func102 rfl Tryz.ntmps102 Tryz.results102 (by kernel_rfl) (by simp) hI [] (owns_nil w) (fun b hb => hb.elim) (fun W => s.ok dByte W xs) h fun C hC hN ok => ?_
  simp [hN, u64_wrap]
  refine callS ok rfl rfl rfl [] [] trivial rfl (fun x : Sl => [(600, .row x.1 (xs.length + 8) x.2 5 1 (bC (xs ++ intB v)))]) (fun w I S hI hG hO hS => (putS w I hI xs s _ 8 hG hl (by omega) (Int.emod_nonneg _ (by decide))).lone hO) (fun r => by simp [intB]) (.inl fun k hk => by cases hk) fun x W _ => ?_
  simp [hN]
  exact retS hC x [600] rfl (by simp) fun W _ hG => trivial
end Go.Proofs.YtbbaoeidobdblaaGreat.Sx

/- journal.first. -/
set_option linter.unusedVariables false
set_option linter.unusedSimpArgs false
namespace Go.Proofs.YtbbaoeidobdblaaGreat.Sx
open Go
attribute [local simp ↓] ifb_true' ifb_false'
attribute [local simp] ifb_true ifb_false ifb_eq sx argsT find ev evOp evs evo evBin evInt evStr evNil evNilA ptrA slcA isNoneA asB evLoad look del cellsB evUn evConv kdec fld evFieldA evField evIdxA evIdx evSlc bndL bndH evLen mmi put resV guardV gvL setO tupV cellsOf ones one upd lits nv exitTo SV.val CV.val TI.agg rdyA allR keepB scan simpO gsp isS subs keepT pickT wr memN pubs Res.fact Region.binds bld rest give delL back Res.eqv vi vb num Sv.val undef
def firstB (e : Int) (s : Sta) : List Int := intB e ++ deedsB (wholeL s)
theorem firstB_length (e : Int) (s : Sta) : (firstB e s).length = 8 + (deedsB (wholeL s)).length := by simp [firstB, intB_length]
set_option maxHeartbeats 1000000 in
theorem first0 (w : World) (I : Nat → Prop) (hI : ∀ b, I b → b < w.heap.size) (e : Int) (s : Sta) (si sb : Sl) (h : ∀ W, Ext I w W → StaR W s si sb) (hl : s.inos.length + s.bad.length ≤ 1000000000) (hl2 : (deedsB (wholeL s)).length ≤ 10000000000) :
    Fn0 Tryz.prog 57 #[.int .i64 e, .agg (staC s si sb).toArray] w I (fun r : Sl => .slice r.1 (firstB e s).length r.2) (fun r W => r.ok dByte W (firstB e s)) := by
  obtain ⟨ia, ic⟩ := si
  obtain ⟨ba, bc⟩ := sb
  refine enter (svs := [.c (.v (.int .i64 e)), .ag ((staC s (ia, ic) (ba, bc)).map .v)]) tysOk Tryz.func57 rfl Tryz.ntmps57 Tryz.results57 (by kernel_rfl) (by simp) hI (fun W => StaR W s (ia, ic) (ba, bc)) h fun C hC hN ok => ?_
  simp [hN]
  intro g1
  refine drawK ok mixed (by kernel_rfl) ?_
  simp (maxSteps := 2000000) -implicitDefEqProofs [hN]
  refine callS ok rfl rfl rfl [] [] trivial rfl (fun x : Sl => [(600, .row x.1 8 x.2 5 1 (bC (intB e)))]) (fun w I S hI hG hO hS => (putIntS w I hI [] (none, 0) e (fun W _ => by simp [Sl.ok, Rd]) (by simp)).lone hO) (fun r => by simp) (.inl fun k hk => by cases hk) fun x W _ => ?_
  simp (maxSteps := 2000000) -implicitDefEqProofs [hN]
  refine call0 ok rfl rfl rfl (fun w I hI hG => whole0 w I hI s (ia, ic) (ba, bc) (fun W e => hG W e) hl) fun y W hy => ?_
  simp (maxSteps := 2000000) -implicitDefEqProofs [hN]
  refine call0 ok rfl rfl rfl (fun w I hI hG => deeds0 w I hI (wholeL s) y (fun W e => (hG W e).1) (by omega)) fun z W hz => ?_
  simp (maxSteps := 2000000) -implicitDefEqProofs [hN]
  obtain ⟨za, zn, zc⟩ := z
  have hzn : zn = (deedsB (wholeL s)).length := hz.1
  refine appV ok 600 rfl rfl rfl rfl rfl (by decide) rfl rfl rfl rfl rfl rfl dByte (deedsB (wholeL s)) rfl (by show (8 + _) * 1 ≤ _; omega) (by omega) (fun W hW => hW.1) fun l a' c'' W hl hr _ => ?_
  simp (maxSteps := 2000000) -implicitDefEqProofs [hN]
  have hll : l = (deedsB (wholeL s)).map (Value.int .u8) := rows_byte.1 hr
  have hrow : bC (intB e) ++ l.map nv = bC (firstB e s) := by rw [hll, bC_nv, bC_app, firstB]
  rw [hrow]
  refine ret0 hC (a', c'') (by simp [firstB_length]) fun W hp hG => ?_
  simp only [pubs, Res.fact] at hp
  exact (byte_ok (xs := firstB e s) hp.1 (by rw [firstB_length]; omega)).2
end Go.Proofs.YtbbaoeidobdblaaGreat.Sx

/- journal.Journal: room, State. -/
set_option linter.unusedVariables false
set_option linter.unusedSimpArgs false
namespace Go.Proofs.YtbbaoeidobdblaaGreat.Sx
open Go
attribute [local simp ↓] ifb_true' ifb_false'
attribute [local simp] ifb_true ifb_false ifb_eq sx argsT find ev evOp evs evo evBin evInt evStr evNil evNilA ptrA slcA isNoneA asB evLoad look del cellsB evUn evConv kdec fld evFieldA evField evIdxA evIdx evSlc bndL bndH evLen mmi put resV guardV gvL setO tupV cellsOf ones one upd lits nv exitTo SV.val CV.val TI.agg rdyA allR keepB scan simpO gsp isS subs keepT pickT wr memN pubs Res.fact Region.binds bld rest give delL back Res.eqv vi vb num Sv.val undef
/-- A journal: its chip, where it stands, the half in use, the epoch, how much is used, the state, whether it ended. -/
structure Jn where
  c : Cp
  gj : Nat
  half : Nat
  ep : Int
  used : Nat
  s : Sta
  si : Sl
  sb : Sl
  ended : Bool
abbrev jnC (j : Jn) : List CV := [.v (ptrV j.c.gc), .v (.int .i64 (j.half : Nat)), .v (.int .i64 j.ep), .v (.int .i64 (j.used : Nat)), .v (.int .i64 j.s.next), .v (.slice j.si.1 j.s.inos.length j.si.2), .v (.slice j.sb.1 j.s.bad.length j.sb.2), .b j.ended]
abbrev Jn.box (j : Jn) : Res := .box j.gj 111 (jnC j)
abbrev Jn.res (j : Jn) : List Res := [j.c.chip, j.c.pow, j.c.row, j.c.map, j.box]
theorem room0 (w : World) (I S : Nat → Prop) (hI : ∀ b, I b → b < w.heap.size) (j : Jn) (hf : j.c.fit) (hS : Owns [j.c.chip, j.box] S w) (hSI : ∀ b, S b → b < w.heap.size ∧ ¬ I b) :
    FnS Tryz.prog 63 #[ptrV j.gj] w I S (fun _ : Unit => .int .i64 (halfSz j.c : Nat)) (fun _ => [j.c.chip, j.box]) (fun _ _ => True) := by
  obtain ⟨hl2, hsz, hz⟩ := half_two hf
  refine enterS (svs := [.c (.bp 1001 j.gj 0)]) tysOk Tryz.func63 rfl Tryz.ntmps63 Tryz.results63 (by kernel_rfl) (by simp) hI [j.c.chip, j.box] hS hSI (fun _ => True) (fun _ _ => trivial) fun C hC hN ok => ?_
  simp [hN]
  refine callS ok rfl rfl rfl [1000] [j.c.chip] (by simp) rfl (fun _ : Unit => [(1000, j.c.chip)]) (fun w I S hI hG hO hS' => norGeo0 w I S hI j.c hO hS') (fun r => by simp) (.inr fun x q hq => by simp at hq; subst hq; simp) fun _ W _ => ?_
  simp [hN]
  refine call0 ok rfl rfl rfl (fun w I hI hG => halfSize0 w I hI j.c.g) fun z W hz' => ?_
  rw [if_pos hf.right, hsz] at hz'
  subst hz'
  simp [hN]
  exact retS hC () [1000, 1001] rfl (by simp) fun _ _ _ => trivial
theorem state0 (w : World) (I S : Nat → Prop) (hI : ∀ b, I b → b < w.heap.size) (j : Jn) (h : ∀ W, Ext I w W → StaR W j.s j.si j.sb) (hl : j.s.inos.length ≤ 1000000000 ∧ j.s.bad.length ≤ 1000000000) (hS : Owns [j.box] S w) (hSI : ∀ b, S b → b < w.heap.size ∧ ¬ I b) :
    FnS Tryz.prog 21 #[ptrV j.gj] w I S (fun y : Sl × Sl => .agg (staC (applyL j.s []) y.1 y.2).toArray) (fun _ => [j.box]) (fun y W => StaR W (applyL j.s []) y.1 y.2) := by
  refine enterS (svs := [.c (.bp 1000 j.gj 0)]) tysOk Tryz.func21 rfl Tryz.ntmps21 Tryz.results21 (by kernel_rfl) (by simp) hI [j.box] hS hSI (fun W => StaR W j.s j.si j.sb) h fun C hC hN ok => ?_
  simp [hN]
  intro g
  refine call0 ok rfl rfl rfl (fun w I hI hG => apply0 w I hI j.s j.si j.sb (a := none) (n := 0) (c := 0) [] (fun W e => hG W e) (fun W e => Sv.nil none 0) (by simpa using hl)) fun y W hy => ?_
  simp [hN]
  exact retS hC y [1000] rfl (by simp) fun W hp hG => hG.1
end Go.Proofs.YtbbaoeidobdblaaGreat.Sx

/- journal.Journal: anew. -/
set_option linter.unusedVariables false
set_option linter.unusedSimpArgs false
namespace Go.Proofs.YtbbaoeidobdblaaGreat.Sx
open Go
attribute [local simp ↓] ifb_true' ifb_false'
attribute [local simp] ifb_true ifb_false ifb_eq sx argsT find ev evOp evs evo evBin evInt evStr evNil evNilA ptrA slcA isNoneA asB evLoad look del cellsB evUn evConv kdec fld evFieldA evField evIdxA evIdx evSlc bndL bndH evLen mmi put resV guardV gvL setO tupV cellsOf ones one upd lits nv exitTo SV.val CV.val TI.agg rdyA allR keepB scan simpO gsp isS subs keepT pickT wr memN pubs Res.fact Region.binds bld rest give delL back Res.eqv vi vb num Sv.val undef
theorem intB_byte (v : Int) : ∀ x, x ∈ intB v → 0 ≤ x ∧ x ≤ 255 := lowB_byte _ _
theorem bytesOf_byte (s : ByteArray) : ∀ x, x ∈ bytesOf s → 0 ≤ x ∧ x ≤ 255 := by
  intro x hx
  simp only [bytesOf, List.mem_map] at hx
  obtain ⟨b, _, rfl⟩ := hx
  have := b.toNat_lt
  omega
theorem textB_byte (s : ByteArray) : ∀ x, x ∈ textB s → 0 ≤ x ∧ x ≤ 255 := fun x hx => by
  rcases List.mem_append.1 hx with h | h
  · exact lowB_byte _ _ _ h
  · exact bytesOf_byte _ _ h
theorem inoB_byte (i : Ino) : ∀ x, x ∈ inoB i → 0 ≤ x ∧ x ≤ 255 := fun x hx => by
  simp only [inoB, headB, List.mem_append, List.mem_flatMap, entB, runB] at hx
  rcases hx with ((((((((h | h) | h) | h) | h) | h) | ⟨y, _, h⟩) | h) | ⟨y, _, h⟩)
  · exact intB_byte _ _ h
  · exact intB_byte _ _ h
  · exact intB_byte _ _ h
  · exact intB_byte _ _ h
  · exact textB_byte _ _ h
  · exact lowB_byte _ _ _ h
  · rcases h with h | h
    · exact textB_byte _ _ h
    · exact intB_byte _ _ h
  · exact lowB_byte _ _ _ h
  · rcases h with (h | h) | h
    · exact intB_byte _ _ h
    · exact intB_byte _ _ h
    · exact intB_byte _ _ h
theorem deedsB_byte (l : List Dee) : ∀ x, x ∈ deedsB l → 0 ≤ x ∧ x ≤ 255 := fun x hx => by
  simp only [deedsB, List.mem_flatMap, deedB, List.mem_append, tailB] at hx
  obtain ⟨d, _, h | h⟩ := hx
  · exact lowB_byte _ _ _ h
  · split at h
    · exact intB_byte _ _ h
    · split at h
      · exact inoB_byte _ _ h
      · cases h
theorem firstB_byte (e : Int) (s : Sta) : ∀ x, x ∈ firstB e s → 0 ≤ x ∧ x ≤ 255 := fun x hx => by
  rcases List.mem_append.1 hx with h | h
  · exact intB_byte _ _ h
  · exact deedsB_byte _ _ h
theorem half_le {c : Cp} (h : c.fit) : halfSz c ≤ 32768 := by
  obtain ⟨q0, ⟨q1, q2⟩, ⟨q3, q4⟩, _⟩ := id h.right
  have h1 : halfN c ≤ 8 := by unfold halfN; omega
  have h2 : c.g.sector.toNat ≤ 4096 := by omega
  exact Nat.mul_le_mul h1 h2
def anewM (j : Jn) (s : Sta) (si sb : Sl) : Int × Jn :=
  if halfSz j.c < (firstB (j.ep + 1) s).length + 7 ∨ 2147483647 ≤ j.ep then (10, j)
  else if (wipeM j.c (1 - j.half)).1 ≠ 0 then ((wipeM j.c (1 - j.half)).1, { j with c := (wipeM j.c (1 - j.half)).2, ended := true })
  else if (appendM (wipeM j.c (1 - j.half)).2 (1 - j.half) 0 (firstB (j.ep + 1) s)).1 ≠ 0 then ((appendM (wipeM j.c (1 - j.half)).2 (1 - j.half) 0 (firstB (j.ep + 1) s)).1, { j with c := (appendM (wipeM j.c (1 - j.half)).2 (1 - j.half) 0 (firstB (j.ep + 1) s)).2, ended := true })
  else (0, { j with c := (appendM (wipeM j.c (1 - j.half)).2 (1 - j.half) 0 (firstB (j.ep + 1) s)).2, half := 1 - j.half, ep := j.ep + 1, used := (firstB (j.ep + 1) s).length + 7, s := s, si := si, sb := sb })
theorem wipe_same' {c : Cp} (h : c.fit) {i : Nat} (hi : i < 2) : c.same (wipeM c i).2 ∧ (wipeM c i).2.fit := by
  obtain ⟨q0, ⟨q1, q2⟩, _⟩ := id h.right
  have h1 : halfN c ≤ 8 ∧ 2 * (halfN c : Int) ≤ c.g.sectors := by unfold halfN; omega
  have h2 : i * halfN c ≤ 1 * halfN c := Nat.mul_le_mul_right _ (by omega)
  exact wipe_same (halfN c) h (Cp.same.refl c) (by omega)
set_option maxHeartbeats 2000000 in
theorem anew0 (w : World) (I S : Nat → Prop) (hI : ∀ b, I b → b < w.heap.size) (j : Jn) (s : Sta) (si sb : Sl) (hf : j.c.fit) (hh : j.half < 2) (he : 0 ≤ j.ep ∧ j.ep ≤ 2147483647) (h : ∀ W, Ext I w W → StaR W s si sb) (hl : s.inos.length + s.bad.length ≤ 1000000000) (hl2 : (deedsB (wholeL s)).length ≤ 10000000000) (hS : Owns j.res S w) (hSI : ∀ b, S b → b < w.heap.size ∧ ¬ I b) :
    FnS Tryz.prog 64 #[ptrV j.gj, .agg (staC s si sb).toArray] w I S (fun _ : Unit => .int .i64 (anewM j s si sb).1) (fun _ => (anewM j s si sb).2.res) (fun _ _ => True) := by
  obtain ⟨ia, ic⟩ := si
  obtain ⟨ba, bc⟩ := sb
  obtain ⟨hl3, hsz, hz⟩ := half_two hf
  have hhl := half_le hf
  refine enterS (svs := [.c (.bp 1004 j.gj 0), .ag ((staC s (ia, ic) (ba, bc)).map .v)]) tysOk Tryz.func64 rfl Tryz.ntmps64 Tryz.results64 (by kernel_rfl) (by simp) hI j.res hS hSI (fun W => StaR W s (ia, ic) (ba, bc)) h fun C hC hN ok => ?_
  simp [hN]
  intro g1
  obtain ⟨to, hto⟩ : ∃ to, to = 1 - j.half := ⟨_, rfl⟩
  have e1 : IntKind.i64.wrap (1 - (j.half : Int)) = (to : Nat) := by rw [w64 (by omega) (by omega)]; omega
  have e2 : IntKind.i64.wrap (j.ep + 1) = j.ep + 1 := w64 (by omega) (by omega)
  refine drawK ok mixed (by kernel_rfl) ?_
  simp (maxSteps := 2000000) -implicitDefEqProofs [hN, e1, e2]
  refine call0 ok rfl rfl rfl (fun w I hI hG => first0 w I hI (j.ep + 1) s (ia, ic) (ba, bc) (fun W e => hG W e) hl hl2) fun b W hb => ?_
  have hbl := firstB_length (j.ep + 1) s
  have hbb := firstB_byte (j.ep + 1) s
  obtain ⟨fb, hfb⟩ : ∃ fb, fb = firstB (j.ep + 1) s := ⟨_, rfl⟩
  rw [← hfb] at hbl hbb
  simp only [← hfb]
  simp (maxSteps := 2000000) -implicitDefEqProofs [hN, e1, e2]
  refine call0 ok rfl rfl rfl (fun w I hI hG => frameSize0 w I hI (fb.length : Nat) (by omega) (by omega)) fun u W hu => ?_
  subst hu
  simp [hN]
  refine callS ok rfl rfl rfl [1000, 1004] [j.c.chip, j.box] (by simp) rfl (fun _ : Unit => [(1000, j.c.chip), (1004, j.box)]) (fun w I S hI hG hO hS' => room0 w I S hI j hf hO hS') (fun r => by simp) (.inr fun x q hq => by simp at hq; rcases hq with rfl | rfl <;> simp) fun _ W _ => ?_
  simp [hN]
  have hA := anewM.eq_1 j s (ia, ic) (ba, bc)
  simp only [← hfb, ← hto] at hA
  have hw := wipe_same' hf (i := to) (by omega)
  refine ⟨fun hle => ⟨fun hep => ?_, fun hep => ?_⟩, fun hgt => ?_⟩
  · rw [if_pos (.inr hep)] at hA
    rw [hA] at hC
    exact retS hC () [1000, 1001, 1002, 1003, 1004] rfl (by simp [Cp.map, mapR]) fun _ _ _ => trivial
  · rw [if_neg (by omega)] at hA
    refine callS ok rfl rfl rfl [1000, 1001, 1002, 1003] j.c.res (by simp [Cp.map, mapR]) rfl (fun _ : Unit => [(1000, (wipeM j.c to).2.chip), (1001, (wipeM j.c to).2.pow), (1002, (wipeM j.c to).2.row), (1003, (wipeM j.c to).2.map)]) (fun w I S hI hG hO hS' => wipe0 w I S hI j.c to (by omega) hf hO hS') (fun r => by simp [Cp.map, mapR]) (.inr fun x q hq => by simp at hq; rcases hq with rfl | rfl | rfl | rfl <;> simp) fun _ W _ => ?_
    generalize wipeM j.c to = r at hA hw ⊢
    obtain ⟨e, d⟩ := r
    simp only at hA hw
    simp [hN]
    refine ⟨fun h0 => ?_, fun hne => ?_⟩
    · subst h0
      rw [if_neg (by simp)] at hA
      have hap := append_same hw.2 (h := to) (o := 0) (by omega) (b := fb)
      refine callS ok rfl rfl rfl [1000, 1001, 1002, 1003] d.res (by simp [Cp.map, mapR]) rfl (fun _ : Unit => [(1000, (appendM d to 0 fb).2.chip), (1001, (appendM d to 0 fb).2.pow), (1002, (appendM d to 0 fb).2.row), (1003, (appendM d to 0 fb).2.map)]) (fun w I S hI hG hO hS' => by have := append0 w I S hI d to 0 (by omega) hw.2 (by omega) fb b (fun W e => (hG W e).1) hbb (by omega) hO hS'; rw [hw.1.gc] at this; exact this) (fun r => by simp [Cp.map, mapR]) (.inr fun x q hq => by simp at hq; rcases hq with rfl | rfl | rfl | rfl <;> simp) fun _ W _ => ?_
      generalize appendM d to 0 fb = r at hA hap ⊢
      obtain ⟨e2', d2⟩ := r
      simp only at hA hap
      have hgc : d2.gc = j.c.gc := by rw [hap.1.gc, hw.1.gc]
      simp [hN]
      refine ⟨fun hne => ?_, fun h0 => ?_⟩
      · rw [if_pos hne] at hA
        rw [hA] at hC
        exact retS hC () [1000, 1001, 1002, 1003, 1004] rfl (by simp [Cp.map, mapR, hgc]) fun _ _ _ => trivial
      · rw [if_neg (by simp [h0])] at hA
        rw [hA] at hC
        refine draw ok [(3, .box g1 39 ((staC s (ia, ic) (ba, bc)).map .v))] (by rw [ok.P]; exact mixed) (by kernel_rfl) ?_
        simp (maxSteps := 2000000) -implicitDefEqProofs [hN, e2]
        and_intros
        all_goals try omega
        all_goals refine call0 ok rfl rfl rfl (fun w I hI hG => frameSize0 w I hI (fb.length : Nat) (by omega) (by omega)) fun u W hu => ?_
        all_goals subst hu
        all_goals simp (maxSteps := 2000000) -implicitDefEqProofs [hN, e2]
        all_goals exact retS hC () [1000, 1001, 1002, 1003, 1004] rfl (by simp [Cp.map, mapR, hgc]) fun _ _ _ => trivial
    · rw [if_pos hne] at hA
      simp [hN, hne]
      rw [hA] at hC
      exact retS hC () [1000, 1001, 1002, 1003, 1004] rfl (by simp [Cp.map, mapR, hw.1.gc]) fun _ _ _ => trivial
  · rw [if_pos (.inl (by omega))] at hA
    rw [hA] at hC
    exact retS hC () [1000, 1001, 1002, 1003, 1004] rfl (by simp [Cp.map, mapR]) fun _ _ _ => trivial
end Go.Proofs.YtbbaoeidobdblaaGreat.Sx

/- journal.Journal: Commit. -/
set_option linter.unusedVariables false
set_option linter.unusedSimpArgs false
namespace Go.Proofs.YtbbaoeidobdblaaGreat.Sx
open Go
attribute [local simp ↓] ifb_true' ifb_false'
attribute [local simp] ifb_true ifb_false ifb_eq sx argsT find ev evOp evs evo evBin evInt evStr evNil evNilA ptrA slcA isNoneA asB evLoad look del cellsB evUn evConv kdec fld evFieldA evField evIdxA evIdx evSlc bndL bndH evLen mmi put resV guardV gvL setO tupV cellsOf ones one upd lits nv exitTo SV.val CV.val TI.agg rdyA allR keepB scan simpO gsp isS subs keepT pickT wr memN pubs Res.fact Region.binds bld rest give delL back Res.eqv vi vb num Sv.val undef
noncomputable def commitM (j : Jn) (l : List Dee) (x : Sl × Sl) : Int × Jn :=
  if j.ended = true then (6, j)
  else if halfSz j.c < j.used + ((deedsB l).length + 7) then anewM j (applyL j.s l) x.1 x.2
  else if (appendM j.c j.half j.used (deedsB l)).1 ≠ 0 then ((appendM j.c j.half j.used (deedsB l)).1, { j with c := (appendM j.c j.half j.used (deedsB l)).2, ended := true })
  else (0, { j with c := (appendM j.c j.half j.used (deedsB l)).2, used := j.used + ((deedsB l).length + 7), s := applyL j.s l, si := x.1, sb := x.2 })
set_option maxHeartbeats 2000000 in
theorem commit0 (w : World) (I S : Nat → Prop) (hI : ∀ b, I b → b < w.heap.size) (j : Jn) {a : Option Addr} {n c : Nat} (l : List Dee) (hf : j.c.fit) (hh : j.half < 2) (he : 0 ≤ j.ep ∧ j.ep ≤ 2147483647) (hu : j.used ≤ 1000000000) (h : ∀ W, Ext I w W → StaR W j.s j.si j.sb) (hd : ∀ W, Ext I w W → Sv.ok dDee W (a, n, c) l) (hl : j.s.inos.length + l.length ≤ 1000000000 ∧ j.s.bad.length + l.length ≤ 1000000000) (hl1 : (applyL j.s l).inos.length + (applyL j.s l).bad.length ≤ 1000000000) (hl2 : (deedsB (wholeL (applyL j.s l))).length ≤ 10000000000) (hl3 : (deedsB l).length ≤ 10000000000) (hS : Owns j.res S w) (hSI : ∀ b, S b → b < w.heap.size ∧ ¬ I b) :
    FnS Tryz.prog 17 #[ptrV j.gj, .slice a n c] w I S (fun x : Sl × Sl => .int .i64 (commitM j l x).1) (fun x => (commitM j l x).2.res) (fun x W => j.ended = false → StaR W (applyL j.s l) x.1 x.2) := by
  obtain rfl : n = l.length := (hd w (Ext.refl _ _)).1
  obtain ⟨hl4, hsz, hz⟩ := half_two hf
  have hhl := half_le hf
  refine enterS (svs := [.c (.bp 1004 j.gj 0), .c (.v (.slice a l.length c))]) tysOk Tryz.func17 rfl Tryz.ntmps17 Tryz.results17 (by kernel_rfl) (by simp) hI j.res hS hSI (fun W => StaR W j.s j.si j.sb ∧ Sv.ok dDee W (a, l.length, c) l) (fun W e => ⟨h W e, hd W e⟩) fun C hC hN ok => ?_
  cases hend : j.ended with
  | true =>
    simp [hN, hend]
    exact retS hC (((none, 0), (none, 0)) : Sl × Sl) [1000, 1001, 1002, 1003, 1004] (by simp [commitM, hend]) (by simp [commitM, hend, Cp.map, mapR]) fun W _ _ h => by rw [hend] at h; cases h
  | false =>
    simp [hN, hend]
    refine draw ok [(1004, j.box)] (by rw [ok.P]; exact mixed) (by kernel_rfl) ?_
    simp (maxSteps := 2000000) -implicitDefEqProofs [hN]
    have hd1 : (deedsB l).length ≤ 100000000000 := by omega
    refine ⟨?a, fun g => ?b⟩
    case' a =>
      refine call0 ok rfl rfl rfl (fun w I hI hG => deeds0 w I hI l (a, l.length, c) (fun W e => (hG W e).2) hd1) fun b W hb => ?_
      simp (maxSteps := 2000000) -implicitDefEqProofs [hN]
      refine ⟨?a1, fun g => ?a2⟩
      case' a1 =>
        refine call0 ok rfl rfl rfl (fun w I hI hG => apply0 w I hI j.s j.si j.sb (a := a) (n := l.length) (c := c) l (fun W e => (hG W e).2.1) (fun W e => (hG W e).2.2) hl) fun y W hy => ?_
        simp (maxSteps := 2000000) -implicitDefEqProofs [hN]
        intro g
      case' a2 =>
        refine call0 ok rfl rfl rfl (fun w I hI hG => apply0 w I hI j.s j.si j.sb (a := a) (n := l.length) (c := c) l (fun W e => (hG W e).2.1) (fun W e => (hG W e).2.2) hl) fun y W hy => ?_
        simp (maxSteps := 2000000) -implicitDefEqProofs [hN]
    case' b =>
      refine call0 ok rfl rfl rfl (fun w I hI hG => deeds0 w I hI l (a, l.length, c) (fun W e => (hG W e).2) hd1) fun b W hb => ?_
      simp (maxSteps := 2000000) -implicitDefEqProofs [hN]
      refine call0 ok rfl rfl rfl (fun w I hI hG => apply0 w I hI j.s j.si j.sb (a := a) (n := l.length) (c := c) l (fun W e => (hG W e).2.1) (fun W e => (hG W e).2.2) hl) fun y W hy => ?_
      simp (maxSteps := 2000000) -implicitDefEqProofs [hN]
    all_goals obtain ⟨ba, bn, bc⟩ := b
    all_goals obtain rfl : bn = (deedsB l).length := hb.1
    all_goals refine call0 ok rfl rfl rfl (fun w I hI hG => frameSize0 w I hI ((deedsB l).length : Nat) (by omega) (by omega)) fun u W hu => ?_
    all_goals subst hu
    all_goals simp [hN]
    all_goals have e1 : IntKind.i64.wrap ((halfSz j.c : Int) - j.used) = halfSz j.c - j.used := w64 (by omega) (by omega)
    all_goals refine drawW ok mixed (by kernel_rfl) ?_
    all_goals simp (maxSteps := 2000000) -implicitDefEqProofs [hN, e1]
    all_goals and_intros
    all_goals try omega
    all_goals refine callS ok rfl rfl rfl [1000, 1004] [j.c.chip, j.box] (by simp) rfl (fun _ : Unit => [(1000, j.c.chip), (1004, j.box)]) (fun w I S hI hG hO hS' => room0 w I S hI j hf hO hS') (fun r => by simp) (.inr fun x q hq => by simp at hq; rcases hq with rfl | rfl <;> simp) fun _ W _ => ?_
    all_goals simp (maxSteps := 2000000) -implicitDefEqProofs [hN, e1]
    all_goals have hA := commitM.eq_1 j l y
    all_goals rw [hend, if_neg (by simp)] at hA
    all_goals
      refine ⟨fun hgt => ?_, fun hle => ?_⟩
      · rw [if_pos (by omega)] at hA
        refine callS ok rfl rfl rfl [1000, 1001, 1002, 1003, 1004] j.res (by simp [Cp.map, mapR]) rfl (fun _ : Unit => [(1000, (anewM j (applyL j.s l) y.1 y.2).2.c.chip), (1001, (anewM j (applyL j.s l) y.1 y.2).2.c.pow), (1002, (anewM j (applyL j.s l) y.1 y.2).2.c.row), (1003, (anewM j (applyL j.s l) y.1 y.2).2.c.map), (1004, (anewM j (applyL j.s l) y.1 y.2).2.box)]) (fun w I S hI hG hO hS' => anew0 w I S hI j (applyL j.s l) y.1 y.2 hf hh he (fun W e => (hG W e).1) hl1 hl2 hO hS') (fun r => by simp [Cp.map, mapR]) (.inr fun x q hq => by simp at hq; rcases hq with rfl | rfl | rfl | rfl | rfl <;> simp) fun _ W _ => ?_
        simp [hN]
        refine retS hC y [1000, 1001, 1002, 1003, 1004] (by rw [hA]) (by simp [hA, Cp.map, mapR]) fun W _ hG _ => hG.1
      · rw [if_neg (by omega)] at hA
        refine draw ok [(1004, j.box)] (by rw [ok.P]; exact mixed) (by kernel_rfl) ?_
        simp (maxSteps := 2000000) -implicitDefEqProofs [hN]
        have hap := append_same hf (h := j.half) (o := j.used) hh (b := deedsB l)
        refine callS ok rfl rfl rfl [1000, 1001, 1002, 1003] j.c.res (by simp [Cp.map, mapR]) rfl (fun _ : Unit => [(1000, (appendM j.c j.half j.used (deedsB l)).2.chip), (1001, (appendM j.c j.half j.used (deedsB l)).2.pow), (1002, (appendM j.c j.half j.used (deedsB l)).2.row), (1003, (appendM j.c j.half j.used (deedsB l)).2.map)]) (fun w I S hI hG hO hS' => append0 w I S hI j.c j.half j.used hh hf hu (deedsB l) (ba, bc) (fun W e => (hG W e).2.1.2) (deedsB_byte l) (by omega) hO hS') (fun r => by simp [Cp.map, mapR]) (.inr fun x q hq => by simp at hq; rcases hq with rfl | rfl | rfl | rfl <;> simp) fun _ W _ => ?_
        generalize appendM j.c j.half j.used (deedsB l) = r at hA hap ⊢
        obtain ⟨e2', d2⟩ := r
        simp only at hA hap
        have e3 : IntKind.i64.wrap ((j.used : Int) + ((deedsB l).length + 7)) = j.used + ((deedsB l).length + 7) := w64 (by omega) (by omega)
        simp (maxSteps := 2000000) -implicitDefEqProofs [hN, e3]
        refine ⟨fun hne => ?_, fun h0 => ?_⟩
        · rw [if_pos hne] at hA
          exact retS hC y [1000, 1001, 1002, 1003, 1004] (by rw [hA]) (by simp [hA, Cp.map, mapR, hap.1.gc]) fun W _ hG _ => hG.1
        · rw [if_neg (by simp [h0])] at hA
          exact retS hC y [1000, 1001, 1002, 1003, 1004] (by rw [hA]) (by simp [hA, Cp.map, mapR, hap.1.gc, hend]) fun W _ hG _ => hG.1
end Go.Proofs.YtbbaoeidobdblaaGreat.Sx

/- inode.New, state.New. -/
set_option linter.unusedVariables false
set_option linter.unusedSimpArgs false
namespace Go.Proofs.YtbbaoeidobdblaaGreat.Sx
open Go
attribute [local simp ↓] ifb_true' ifb_false'
attribute [local simp] ifb_true ifb_false ifb_eq sx argsT find ev evOp evs evo evBin evInt evStr evNil evNilA ptrA slcA isNoneA asB evLoad look del cellsB evUn evConv kdec fld evFieldA evField evIdxA evIdx evSlc bndL bndH evLen mmi put resV guardV gvL setO tupV cellsOf ones one upd lits nv exitTo SV.val CV.val TI.agg rdyA allR keepB scan simpO gsp isS subs keepT pickT wr memN pubs Res.fact Region.binds bld rest give delL back Res.eqv vi vb num Sv.val undef
section
variable {P : Program} {C : Ctx} {T : Ty} {res : List ResultVar} {p : Pos} {tm : Tm} {m : Mem}
/-- A value of parts that are constants is built, by whatever law. -/
theorem bldK (ok : Okc P T C res) {o : Oper} {t d : Nat} {parts : Array (Nat × Operand)} {vals : Array (Nat × Value)} (ho : o.op = .build t parts) (hd : o.dst = some d) (hv : ∀ act : Act, parts.map (fun x => (x.1, act.eval x.2)) = vals) (v : Value) (h : ∀ w, (Instr.build t vals).run P w = .ok v w)
    (kk : sx T C res 1000 p (put C.n (some d) (.c (.v v)) tm) m) : At C (.op o p) tm m := by
  obtain rfl := ok.P
  intro act w cs0 hR hJ
  have e1 := hv act
  have hrun : (execOp act.eval o).run C.P w = .ok (.value v) w := by
    have := h w
    simp [execOp, ho, e1, this]
  have hRp := hR.put (some d) (.c (.v v))
  exact op_value (ok.sx kk) hrun (by rw [hd]; exact hRp) hJ
end
theorem links_build (w : World) : (Instr.build 197 #[(1, .int .i64 1), (2, .int .i64 2), (3, .int .i64 1)]).run Tryz.prog w = .ok (.agg #[.int .i64 0, .int .i64 1, .int .i64 2, .int .i64 1]) w := by
  have hz : (zeroValue 197).run Tryz.prog w = .ok (.agg #[.int .i64 0, .int .i64 0, .int .i64 0, .int .i64 0]) w := by kernel_rfl
  have hs : (sizeOf 3).run Tryz.prog w = .ok 1 w := by kernel_rfl
  simp [Instr.build, hz, run_underlying Tryz.underlying197, hs, Instr.fill, Value.cells]
theorem inoNewRoot0 (w : World) (I : Nat → Prop) (hI : ∀ b, I b → b < w.heap.size) :
    Fn0 Tryz.prog 101 #[.int .i64 1, .int .i64 2, .string emp] w I (fun _ : Unit => .agg (inoC (newIno 1 2 emp) (none, 0) (none, 0)).toArray) (fun y W => True) := by
  refine enter (svs := [.c (.v (.int .i64 1)), .c (.v (.int .i64 2)), .c (.v (.string emp))]) tysOk Tryz.func101 rfl Tryz.ntmps101 Tryz.results101 (by kernel_rfl) (by simp) hI (fun _ => True) (fun _ _ => trivial) fun C hC hN ok => ?_
  simp [hN]
  intro g1
  refine bldK ok rfl rfl (vals := #[(1, .int .i64 1), (2, .int .i64 2), (3, .int .i64 1)]) (fun _ => by simp [Act.eval]) _ (fun w => links_build w) ?_
  simp [hN]
  exact fun g2 g3 => ret0 hC () (by simp [newIno, emp, inoC]) fun _ _ _ => trivial
theorem staNew0 (w : World) (I : Nat → Prop) (hI : ∀ b, I b → b < w.heap.size) :
    Fn0 Tryz.prog 56 #[] w I (fun y : Sl => .agg (staC newSta y (none, 0)).toArray) (fun y W => StaR W newSta y (none, 0)) := by
  refine enter (svs := []) tysOk Tryz.func56 rfl Tryz.ntmps56 Tryz.results56 (by kernel_rfl) (by simp) hI (fun _ => True) (fun _ _ => trivial) fun C hC hN ok => ?_
  simp [hN]
  intro g1
  refine call0 ok rfl rfl rfl (fun w I hI hG => inoNewRoot0 w I hI) fun y W _ => ?_
  simp [hN]
  intro g2
  refine ret0 hC (some ⟨g2, 0, none⟩, 1) rfl fun W hp _ => ?_
  have h1 : Rows dIno W [newIno 1 2 emp] (inoC (newIno 1 2 emp) (none, 0) (none, 0)) := by
    refine Rows.cons_iff.2 ⟨_, [], (List.append_nil _).symm, ⟨(none, 0), (none, 0), rfl, ⟨Nat.le_refl _, by simp [newIno], rd_nil _ _ _⟩, ⟨Nat.le_refl _, by simp [newIno], rd_nil _ _ _⟩⟩, rows_nil _ _⟩
  have h2 : W.ownsRow 0 44 7 (.slice (some ⟨g2, 0, none⟩) 1 1) 1 (inoC (newIno 1 2 emp) (none, 0) (none, 0)) := by simpa [newIno, emp, inoC] using hp.2.1
  obtain ⟨k1, k2, k3⟩ := h1.rd h2 (by decide)
  exact ⟨⟨by simp [newSta], by simp [newSta], k3⟩, ⟨Nat.le_refl _, by simp [newSta], rd_nil _ _ _⟩⟩
end Go.Proofs.YtbbaoeidobdblaaGreat.Sx

/- journal.Format. -/
set_option linter.unusedVariables false
set_option linter.unusedSimpArgs false
namespace Go.Proofs.YtbbaoeidobdblaaGreat.Sx
open Go
attribute [local simp ↓] ifb_true' ifb_false'
attribute [local simp] ifb_true ifb_false ifb_eq sx argsT find ev evOp evs evo evBin evInt evStr evNil evNilA ptrA slcA isNoneA asB evLoad look del cellsB evUn evConv kdec fld evFieldA evField evIdxA evIdx evSlc bndL bndH evLen mmi put resV guardV gvL setO tupV cellsOf ones one upd lits nv exitTo SV.val CV.val TI.agg rdyA allR keepB scan simpO gsp isS subs keepT pickT wr memN pubs Res.fact Region.binds bld rest give delL back Res.eqv vi vb num Sv.val undef
def wks (c : Cp) : Nat → Cp
  | 0 => c
  | 1 => (wipeM c 0).2
  | _ => (wipeM (wipeM c 0).2 1).2
def formC (c : Cp) : Int × Cp := appendM (wks c 2) 0 0 (firstB 1 newSta)
def formJ (c : Cp) (x : Nat × Sl) : Jn := ⟨(formC c).2, x.1, 0, 1, (firstB 1 newSta).length + 7, newSta, x.2, (none, 0), false⟩
theorem wks_same {c : Cp} (h : c.fit) (i : Nat) : c.same (wks c i) ∧ (wks c i).fit := by
  have h1 := wipe_same' h (i := 0) (by omega)
  have h2 := wipe_same' h1.2 (i := 1) (by omega)
  match i with
  | 0 => exact ⟨Cp.same.refl c, h⟩
  | 1 => exact h1
  | i + 2 => exact ⟨h1.1.trans h2.1, h2.2⟩
theorem first_new : (firstB 1 newSta).length = 62 := by
  simp [firstB, wholeL, newSta, deedsB, deedB, tailB, lowB_length, intB_length, inoB_length, newIno, emp]
  rfl
set_option maxHeartbeats 2000000 in
theorem format0 (w : World) (I S : Nat → Prop) (hI : ∀ b, I b → b < w.heap.size) (c : Cp) (hf : c.fit) (h0 : (wipeM c 0).1 = 0) (h1 : (wipeM (wipeM c 0).2 1).1 = 0) (h2 : (formC c).1 = 0) (hS : Owns c.res S w) (hSI : ∀ b, S b → b < w.heap.size ∧ ¬ I b) :
    FnS Tryz.prog 15 #[ptrV c.gc] w I S (fun x : Nat × Sl => .tuple #[ptrV x.1, .int .i64 0]) (fun x => (formJ c x).res) (fun x W => StaR W newSta x.2 (none, 0)) := by
  refine enterS (svs := [.c (.v (ptrV c.gc))]) tysOk Tryz.func15 rfl Tryz.ntmps15 Tryz.results15 (by kernel_rfl) (by simp) hI c.res hS hSI (fun _ => True) (fun _ _ => trivial) fun C hC hN ok => ?_
  simp [hN]
  refine loopK [0] ok (fun i : Nat => [(9, .c (.v (.int .i64 (i : Nat))))]) (fun i => [(1000, (wks c i).chip), (1001, (wks c i).pow), (1002, (wks c i).row), (1003, (wks c i).map)]) (fun i W => i ≤ 2) (fun i => 2 - i) 0 ?_ ?_ (fun W hW => Nat.zero_le _) ?_
  · simp
  · simp [wks, Cp.map, mapR]
  rintro i W hi hG next
  rcases Nat.lt_or_ge i 2 with hlt | hge
  · have e1 : IntKind.i64.wrap ((i : Int) + 1) = (i + 1 : Nat) := by rw [w64 (by omega) (by omega)]; omega
    have hs := wks_same hf i
    have hlt' : (i : Int) < 2 := by omega
    simp [hN, hlt']
    refine callS ok rfl rfl rfl [1000, 1001, 1002, 1003] (wks c i).res (by simp [Cp.map, mapR]) rfl (fun _ : Unit => [(1000, (wipeM (wks c i) i).2.chip), (1001, (wipeM (wks c i) i).2.pow), (1002, (wipeM (wks c i) i).2.row), (1003, (wipeM (wks c i) i).2.map)]) (fun w I S hI hG hO hS' => by have := wipe0 w I S hI (wks c i) i hlt hs.2 hO hS'; rw [hs.1.gc] at this; exact this) (fun r => by simp [Cp.map, mapR]) (.inr fun x q hq => by simp at hq; rcases hq with rfl | rfl | rfl | rfl <;> simp) fun _ W _ => ?_
    have hz : (wipeM (wks c i) i).1 = 0 ∧ (wipeM (wks c i) i).2 = wks c (i + 1) := by
      match i, hlt with
      | 0, _ => exact ⟨h0, rfl⟩
      | 1, _ => exact ⟨h1, rfl⟩
    rw [hz.2]
    simp [hN, hz.1, e1]
    exact next (i + 1) _ _ (by omega) (fun W h => ⟨by omega, trivial⟩) (by simp [Cp.map, mapR])
  · obtain rfl : i = 2 := by omega
    have hs := wks_same hf 2
    simp [hN]
    refine call0 ok rfl rfl rfl (fun w I hI hG => staNew0 w I hI) fun y W hy => ?_
    simp [hN]
    intro gj
    refine drawK ok mixed (by kernel_rfl) ?_
    simp (maxSteps := 2000000) -implicitDefEqProofs [hN]
    refine call0 ok rfl rfl rfl (fun w I hI hG => first0 w I hI 1 newSta y (none, 0) (fun W e => hG W e) (by decide) (by have := firstB_length 1 newSta; rw [first_new] at this; omega)) fun b W hb => ?_
    have hbl := first_new
    have hbb := firstB_byte 1 newSta
    have hFC : formC c = appendM (wks c 2) 0 0 (firstB 1 newSta) := rfl
    obtain ⟨fb, hfb⟩ : ∃ fb, fb = firstB 1 newSta := ⟨_, rfl⟩
    rw [← hfb] at hbl hbb hFC
    simp only [← hfb]
    simp (maxSteps := 2000000) -implicitDefEqProofs [hN]
    refine callS ok rfl rfl rfl [1000, 1001, 1002, 1003] (wks c 2).res (by simp [Cp.map, mapR]) rfl (fun _ : Unit => [(1000, (formC c).2.chip), (1001, (formC c).2.pow), (1002, (formC c).2.row), (1003, (formC c).2.map)]) (fun w I S hI hG hO hS' => by have := append0 w I S hI (wks c 2) 0 0 (by omega) hs.2 (by omega) fb b (fun W e => (hG W e).1) hbb (by omega) hO hS'; rw [hs.1.gc, ← hFC] at this; exact this) (fun r => by simp [Cp.map, mapR]) (.inr fun x q hq => by simp at hq; rcases hq with rfl | rfl | rfl | rfl <;> simp) fun _ W _ => ?_
    simp [hN, h2]
    refine call0 ok rfl rfl rfl (fun w I hI hG => frameSize0 w I hI (fb.length : Nat) (by omega) (by omega)) fun u W hu => ?_
    subst hu
    simp [hN]
    have hap := append_same hs.2 (h := 0) (o := 0) (by omega) (b := fb)
    rw [← hFC] at hap
    exact retS hC (gj, y) [1000, 1001, 1002, 1003, 22] rfl (by simp [formJ, Cp.map, mapR, hap.1.gc, hs.1.gc, ← hfb]) fun W _ hG => hG.2
end Go.Proofs.YtbbaoeidobdblaaGreat.Sx

/- Plain: chips whose power stays. -/
set_option linter.unusedVariables false
set_option linter.unusedSimpArgs false
namespace Go.Proofs.YtbbaoeidobdblaaGreat.Sx
open Go
/-- Power that stays. -/
def live (p : Pw) : Prop := p.left < 0 ∧ p.off = false
theorem live_step {p : Pw} (h : live p) : ∃ q, p.step = (true, false, q) ∧ live q := by
  obtain ⟨h1, h2⟩ := h
  exact ⟨{ p with left := p.left, done := IntKind.i64.wrap (p.done + 1) }, by rw [Pw.step, if_neg (by simp [h2]), if_neg (by omega), if_neg (by omega)], h1, h2⟩
theorem bor_full (x : Int) : bor x 255 = 255 := by
  have h1 : BitVec.ofInt IntKind.u8.bits 255 = BitVec.allOnes IntKind.u8.bits := by decide
  unfold bor
  rw [h1, BitVec.or_allOnes]
  decide
theorem bandn_full (x : Int) : bandn x 255 = 0 := by
  have h1 : ~~~BitVec.ofInt IntKind.u8.bits 255 = 0#IntKind.u8.bits := by decide
  unfold bandn
  rw [h1, BitVec.and_zero]
  decide
theorem layI_get (b : List Int) (o : Nat) (xs : List Int) (h : o + xs.length ≤ b.length) (i : Nat) : (layI b o xs)[i]? = if i < o then b[i]? else if i < o + xs.length then xs[i - o]? else b[i]? := by
  have h1 : (b.take o).length = o := by simp; omega
  unfold layI
  rw [List.append_assoc]
  split
  · rename_i h2
    rw [List.getElem?_append_left (by omega), List.getElem?_take, if_pos h2]
  · rw [List.getElem?_append_right (by omega), h1]
    split
    · rw [List.getElem?_append_left (by omega)]
    · rw [List.getElem?_append_right (by omega), List.getElem?_drop]
      congr 1
      omega
theorem setM_full (b : List Int) (o n : Nat) (h : o + n ≤ b.length) : setM b o n 255 = layI b o (List.replicate n 255) := by
  have h1 : ((b.drop o).take n).map (fun x => bor x 255) = List.replicate n 255 := by
    apply List.ext_getElem?
    intro i
    rw [List.getElem?_map, List.getElem?_replicate, List.getElem?_take, List.getElem?_drop]
    split
    · rw [List.getElem?_eq_getElem (by omega)]
      simp [bor_full]
    · rfl
  rw [setM, h1, layI, List.length_replicate]
theorem writeM_live : ∀ (p : Pw) (os xs : List Int), live p → os.length = xs.length → ∃ q, writeM p os xs = (true, xs, q) ∧ live q
  | p, [], [], hp, _ => ⟨p, rfl, hp⟩
  | p, [], x :: xs, hp, h => by simp at h
  | p, o :: os, [], hp, h => by simp at h
  | p, o :: os, x :: xs, hp, h => by
    obtain ⟨q, h1, h2⟩ := live_step hp
    obtain ⟨r, h3, h4⟩ := writeM_live q os xs h2 (by simpa using h)
    exact ⟨r, by rw [writeM, h1]; simp only [h3], h4⟩
/-- So many bytes are clean, from somewhere on. -/
def clean (b : List Int) (o n : Nat) : Prop := ∀ i, o ≤ i → i < o + n → b[i]? = some 255
theorem clean.mono {b : List Int} {o n o' n' : Nat} (h : clean b o n) (h1 : o ≤ o') (h2 : o' + n' ≤ o + n) : clean b o' n' := fun i h3 h4 => h i (by omega) (by omega)
theorem prog_live {c : Cp} (hp : live c.p) {o : Nat} {xs : List Int} (ho : o + xs.length ≤ c.b.length) (hc : clean c.b o xs.length) : ∃ q, progM c o xs = (0, { c with p := q, b := layI c.b o xs }) ∧ live q := by
  have hl : ((c.b.drop o).take xs.length).length = xs.length := by simp; omega
  obtain ⟨q, h1, h2⟩ := writeM_live c.p _ xs hp hl
  have hfit : fitsM (c.b.drop o) xs = true := fitsM_yes _ _ fun i h3 h4 => by
    rw [List.getElem_drop]
    have := hc (o + i) (by omega) (by omega)
    rw [List.getElem?_eq_getElem (by omega)] at this
    rw [Option.some.inj this, bandn_full]
  exact ⟨q, by rw [progM, if_pos hfit, h1]; rfl, h2⟩
theorem layI_app (b : List Int) (o : Nat) (xs ys : List Int) (h : o + xs.length + ys.length ≤ b.length) : layI (layI b o xs) (o + xs.length) ys = layI b o (xs ++ ys) := by
  have hl := layI_len b o xs (by omega)
  apply List.ext_getElem?
  intro i
  rw [layI_get _ _ _ (by omega), layI_get _ _ _ (by omega), layI_get _ _ _ (by simp; omega)]
  simp only [List.length_append]
  by_cases h1 : i < o
  · simp [h1, show i < o + xs.length by omega]
  · by_cases h2 : i < o + xs.length
    · simp [h1, h2, show i < o + (xs.length + ys.length) by omega, List.getElem?_append_left (show i - o < xs.length by omega)]
    · by_cases h3 : i < o + xs.length + ys.length
      · simp only [if_neg h1, if_neg h2, if_pos h3, if_pos (show i < o + (xs.length + ys.length) by omega)]
        rw [List.getElem?_append_right (by omega)]
        congr 1
        omega
      · simp only [if_neg h1, if_neg h2, if_neg h3, if_neg (show ¬ i < o + (xs.length + ys.length) by omega)]
/-- A record: its body, and its flag. -/
def recB (l : List Int) : List Int := bodyB l ++ [0]
theorem recB_length (l : List Int) : (recB l).length = l.length + 7 := by rw [recB, List.length_append, bodyB_length]; simp; omega
theorem append_live {c : Cp} (hf : c.fit) (hp : live c.p) {h o : Nat} (hh : h < 2) {l : List Int} (hr : o + (l.length + 7) ≤ halfSz c) (hc : clean c.b (h * halfSz c + o) (l.length + 7)) : ∃ q, appendM c h o l = (0, { c with p := q, b := layI c.b (h * halfSz c + o) (recB l) }) ∧ live q := by
  obtain ⟨h2, _, h3⟩ := half_two hf
  have hm : h * halfSz c ≤ 1 * halfSz c := Nat.mul_le_mul_right _ (by omega)
  have hB := bodyB_length l
  obtain ⟨q, h4, h5⟩ := prog_live hp (o := h * halfSz c + o) (xs := bodyB l) (by omega) (hc.mono (Nat.le_refl _) (by omega))
  have hl := layI_len c.b (h * halfSz c + o) (bodyB l) (by omega)
  have hc2 : clean (layI c.b (h * halfSz c + o) (bodyB l)) (h * halfSz c + o + (6 + l.length)) 1 := fun i h6 h7 => by
    rw [layI_get _ _ _ (by omega), if_neg (by omega), if_neg (by omega)]
    exact hc i (by omega) (by omega)
  obtain ⟨r, h8, h9⟩ := prog_live (c := { c with p := q, b := layI c.b (h * halfSz c + o) (bodyB l) }) h5 (o := h * halfSz c + o + (6 + l.length)) (xs := [0]) (by simp only [hl]; simp; omega) hc2
  refine ⟨r, ?_, h9⟩
  rw [appendM, if_neg (by omega), h4, if_neg (by simp)]
  rw [h8]
  simp only [recB]
  rw [← hB, layI_app _ _ _ _ (by simp; omega)]
/-- A sector is erased once more. -/
def erM (er : List (Int × Int)) (i : Nat) : List (Int × Int) := Mx.mput er i (IntKind.i64.wrap ((Mx.mget er i).getD 0 + 1))
def erN (er : List (Int × Int)) (base : Nat) : Nat → List (Int × Int)
  | 0 => er
  | k + 1 => erN (erM er (base + k)) base k
theorem erase_live {c : Cp} (hf : c.fit) (hp : live c.p) {i : Nat} (hi : (i : Int) < c.g.sectors) : ∃ q, eraseM c i = (0, { c with p := q, b := layI c.b (i * c.g.sector.toNat) (List.replicate c.g.sector.toNat 255), er := erM c.er i }) ∧ live q := by
  obtain ⟨q, h1, h2⟩ := live_step hp
  refine ⟨q, ?_, h2⟩
  rw [eraseM, h1]
  simp only
  rw [setM_full _ _ _ (sec_le hf hi)]
  rfl
theorem layI_twice (b : List Int) (o n k : Nat) (h : o + n + k ≤ b.length) : layI (layI b (o + n) (List.replicate k 255)) o (List.replicate n 255) = layI b o (List.replicate (n + k) 255) := by
  have hl := layI_len b (o + n) (List.replicate k 255) (by simp; omega)
  apply List.ext_getElem?
  intro i
  rw [layI_get _ _ _ (by simp; omega), layI_get _ _ _ (by simp; omega), layI_get _ _ _ (by simp; omega)]
  simp only [List.length_replicate, List.getElem?_replicate]
  by_cases h1 : i < o
  · simp [h1, show i < o + n by omega]
  · by_cases h2 : i < o + n
    · simp [h1, h2, show i < o + (n + k) by omega, show i - o < n by omega, show i - o < n + k by omega]
    · by_cases h3 : i < o + n + k
      · simp [h1, h2, h3, show i < o + (n + k) by omega, show i - (o + n) < k by omega, show i - o < n + k by omega]
      · simp [h1, h2, h3, show ¬ i < o + (n + k) by omega]
theorem wipeN_live {base : Nat} : ∀ (k : Nat) {c : Cp}, c.fit → live c.p → ((base + k : Nat) : Int) ≤ c.g.sectors → ∃ q, wipeN c base k = (0, { c with p := q, b := layI c.b (base * c.g.sector.toNat) (List.replicate (k * c.g.sector.toNat) 255), er := erN c.er base k }) ∧ live q
  | 0, c, hf, hp, hb => ⟨c.p, by simp [wipeN, layI, erN], hp⟩
  | k + 1, c, hf, hp, hb => by
    obtain ⟨q, h1, h2⟩ := erase_live hf hp (i := base + k) (by omega)
    have he := erase_same hf (i := base + k) (by omega)
    have hs := sec_le hf (i := base + k) (by omega)
    rw [h1] at he
    obtain ⟨r, h3, h4⟩ := wipeN_live (base := base) k he.2 h2 (by simp only; omega)
    refine ⟨r, ?_, h4⟩
    rw [wipeN, h1, if_neg (by simp), h3]
    simp only [erN]
    rw [show (base + k) * c.g.sector.toNat = base * c.g.sector.toNat + k * c.g.sector.toNat from Nat.add_mul _ _ _] at hs ⊢
    rw [layI_twice _ _ _ _ (by omega), show k * c.g.sector.toNat + c.g.sector.toNat = (k + 1) * c.g.sector.toNat from (Nat.succ_mul _ _).symm]
theorem wipe_live {c : Cp} (hf : c.fit) (hp : live c.p) {h : Nat} (hh : h < 2) : ∃ q, wipeM c h = (0, { c with p := q, b := layI c.b (h * halfSz c) (List.replicate (halfSz c) 255), er := erN c.er (h * halfN c) (halfN c) }) ∧ live q := by
  obtain ⟨q0, ⟨q1, q2⟩, _⟩ := id hf.right
  have h1 : 2 * (halfN c : Int) ≤ c.g.sectors := by unfold halfN; omega
  have h2 : h * halfN c ≤ 1 * halfN c := Nat.mul_le_mul_right _ (by omega)
  obtain ⟨q, h3, h4⟩ := wipeN_live (base := h * halfN c) (halfN c) hf hp (by omega)
  refine ⟨q, ?_, h4⟩
  rw [wipeM, h3]
  simp only [halfSz, Nat.mul_assoc]
end Go.Proofs.YtbbaoeidobdblaaGreat.Sx

/- Plain: a journal whose power stays: committed, or no room. -/
set_option linter.unusedVariables false
set_option linter.unusedSimpArgs false
namespace Go.Proofs.YtbbaoeidobdblaaGreat.Sx
open Go
structure Jok (j : Jn) : Prop where
  fit : j.c.fit
  half : j.half < 2
  live : live j.c.p
  ended : j.ended = false
  used : j.used ≤ halfSz j.c
  clean : clean j.c.b (j.half * halfSz j.c + j.used) (halfSz j.c - j.used)
  ep : 1 ≤ j.ep ∧ j.ep ≤ 2147483647
theorem clean_lay {b : List Int} {o n : Nat} {xs : List Int} {o' n' : Nat} (h : clean b o' n') (hl : o + xs.length ≤ b.length) (hd : o + xs.length ≤ o' ∨ o' + n' ≤ o) : clean (layI b o xs) o' n' := fun i h1 h2 => by
  rw [layI_get _ _ _ hl]
  rcases hd with hd | hd
  · rw [if_neg (by omega), if_neg (by omega)]; exact h i h1 h2
  · rw [if_pos (by omega)]; exact h i h1 h2
theorem clean_full (b : List Int) (o n : Nat) (h : o + n ≤ b.length) : clean (layI b o (List.replicate n 255)) o n := fun i h1 h2 => by
  rw [layI_get _ _ _ (by simp; omega), if_neg (by omega), if_pos (by simp; omega), List.getElem?_replicate, if_pos (by omega)]
theorem half_fits {c : Cp} (hf : c.fit) {h : Nat} (hh : h < 2) : h * halfSz c + halfSz c ≤ c.b.length := by
  have h2 := (half_two hf).1
  have : h * halfSz c ≤ 1 * halfSz c := Nat.mul_le_mul_right _ (by omega)
  omega
/-- A half is wiped, and a record is laid at its begin. -/
def anewB (c : Cp) (h : Nat) (l : List Int) : List Int := layI (layI c.b (h * halfSz c) (List.replicate (halfSz c) 255)) (h * halfSz c) (recB l)
theorem start_live {c : Cp} (hf : c.fit) (hp : live c.p) {h : Nat} (hh : h < 2) {l : List Int} (hr : l.length + 7 ≤ halfSz c) : ∃ q, live q ∧ (wipeM c h).1 = 0 ∧ appendM (wipeM c h).2 h 0 l = (0, { c with p := q, b := anewB c h l, er := erN c.er (h * halfN c) (halfN c) }) ∧ clean (anewB c h l) (h * halfSz c + (l.length + 7)) (halfSz c - (l.length + 7)) := by
  obtain ⟨q, h1, h2⟩ := wipe_live hf hp hh
  have hs := wipe_same' hf hh
  have hlen := half_fits hf hh
  have hll := layI_len c.b (h * halfSz c) (List.replicate (halfSz c) 255) (by simp; omega)
  have hcl := clean_full c.b (h * halfSz c) (halfSz c) hlen
  rw [h1] at hs
  have hz := hs.1.halfSz
  simp only at hz
  obtain ⟨r, h3, h4⟩ := append_live hs.2 h2 (h := h) (o := 0) hh (l := l) (by rw [hz]; omega) (by rw [hz, Nat.add_zero]; exact hcl.mono (Nat.le_refl _) (by omega))
  refine ⟨r, h4, by rw [h1], ?_, ?_⟩
  · rw [h1, h3]
    simp only [hz, Nat.add_zero, anewB]
  · exact clean_lay (n := 0) (hcl.mono (by omega) (by omega)) (by rw [recB_length, hll]; omega) (.inl (by rw [recB_length]; exact Nat.le_refl _))
theorem anewB_length {c : Cp} (hf : c.fit) {h : Nat} (hh : h < 2) {l : List Int} (hr : l.length + 7 ≤ halfSz c) : (anewB c h l).length = c.b.length := by
  have hlen := half_fits hf hh
  have hll := layI_len c.b (h * halfSz c) (List.replicate (halfSz c) 255) (by simp; omega)
  rw [anewB, layI_len _ _ _ (by rw [recB_length, hll]; omega), hll]
theorem live_left {p : Pw} (h : live p) : p.left ≤ 9223372036854775807 := by have := h.1; omega
theorem anew_no {j : Jn} (s : Sta) (si sb : Sl) (h : halfSz j.c < wholeB s + 15 ∨ 2147483647 ≤ j.ep) : anewM j s si sb = (10, j) := by
  have hl := firstB_length (j.ep + 1) s
  rw [anewM, if_pos (by unfold wholeB at h; omega)]
theorem anew_yes {j : Jn} (hj : Jok j) (s : Sta) (si sb : Sl) (h1 : wholeB s + 15 ≤ halfSz j.c) (h2 : j.ep < 2147483647) : ∃ q, anewM j s si sb = (0, ⟨{ j.c with p := q, b := anewB j.c (1 - j.half) (firstB (j.ep + 1) s), er := erN j.c.er ((1 - j.half) * halfN j.c) (halfN j.c) }, j.gj, 1 - j.half, j.ep + 1, wholeB s + 15, s, si, sb, false⟩) ∧ Jok (anewM j s si sb).2 ∧ j.c.same (anewM j s si sb).2.c := by
  have hl := firstB_length (j.ep + 1) s
  have hw : (deedsB (wholeL s)).length = wholeB s := rfl
  rw [hw] at hl
  have hh : 1 - j.half < 2 := by omega
  obtain ⟨q, h3, h4, h5, h6⟩ := start_live hj.fit hj.live hh (l := firstB (j.ep + 1) s) (by omega)
  have hbl := anewB_length hj.fit hh (l := firstB (j.ep + 1) s) (by omega)
  have key : anewM j s si sb = (0, ⟨{ j.c with p := q, b := anewB j.c (1 - j.half) (firstB (j.ep + 1) s), er := erN j.c.er ((1 - j.half) * halfN j.c) (halfN j.c) }, j.gj, 1 - j.half, j.ep + 1, wholeB s + 15, s, si, sb, false⟩) := by
    rw [anewM, if_neg (by omega), if_neg (by rw [h4]; simp), h5, if_neg (by simp)]
    simp only [hj.ended, hl]
    congr 2
    omega
  refine ⟨q, key, ?_, ?_⟩
  · rw [key]
    have hlen : (firstB (j.ep + 1) s).length + 7 = wholeB s + 15 := by omega
    rw [hlen] at h6
    exact ⟨⟨hj.fit.right, by simp only [hbl]; exact hj.fit.len, by simp only [hbl]; exact hj.fit.cap, live_left h3⟩, hh, h3, rfl, h1, h6, by constructor <;> simp only <;> (have := hj.ep.1; omega)⟩
  · rw [key]
    exact ⟨rfl, rfl, rfl, rfl, rfl, rfl, rfl, rfl, hbl⟩
theorem commit_anew {j : Jn} (hj : Jok j) (l : List Dee) (x : Sl × Sl) (h : halfSz j.c < j.used + ((deedsB l).length + 7)) : commitM j l x = anewM j (applyL j.s l) x.1 x.2 := by
  rw [commitM, if_neg (by simp [hj.ended]), if_pos h]
theorem commit_more {j : Jn} (hj : Jok j) (l : List Dee) (x : Sl × Sl) (h : j.used + ((deedsB l).length + 7) ≤ halfSz j.c) : ∃ q, commitM j l x = (0, ⟨{ j.c with p := q, b := layI j.c.b (j.half * halfSz j.c + j.used) (recB (deedsB l)) }, j.gj, j.half, j.ep, j.used + ((deedsB l).length + 7), applyL j.s l, x.1, x.2, false⟩) ∧ Jok (commitM j l x).2 ∧ j.c.same (commitM j l x).2.c := by
  have hlen := half_fits hj.fit hj.half
  obtain ⟨q, h1, h2⟩ := append_live hj.fit hj.live hj.half (o := j.used) (l := deedsB l) h (hj.clean.mono (Nat.le_refl _) (by omega))
  have hbl := layI_len j.c.b (j.half * halfSz j.c + j.used) (recB (deedsB l)) (by rw [recB_length]; omega)
  have key : commitM j l x = (0, ⟨{ j.c with p := q, b := layI j.c.b (j.half * halfSz j.c + j.used) (recB (deedsB l)) }, j.gj, j.half, j.ep, j.used + ((deedsB l).length + 7), applyL j.s l, x.1, x.2, false⟩) := by
    rw [commitM, if_neg (by simp [hj.ended]), if_neg (by omega), h1, if_neg (by simp)]
    simp only [hj.ended]
  refine ⟨q, key, ?_, ?_⟩
  · rw [key]
    have hcl : clean (layI j.c.b (j.half * halfSz j.c + j.used) (recB (deedsB l))) (j.half * halfSz j.c + (j.used + ((deedsB l).length + 7))) (halfSz j.c - (j.used + ((deedsB l).length + 7))) :=
      clean_lay (n := 0) (hj.clean.mono (by omega) (by omega)) (by rw [recB_length]; omega) (.inl (by rw [recB_length]; omega))
    exact ⟨⟨hj.fit.right, by simp only [hbl]; exact hj.fit.len, by simp only [hbl]; exact hj.fit.cap, live_left h2⟩, hj.half, h2, rfl, h, hcl, hj.ep⟩
  · rw [key]
    exact ⟨rfl, rfl, rfl, rfl, rfl, rfl, rfl, rfl, hbl⟩
theorem form_live {c : Cp} (hf : c.fit) (hp : live c.p) : (wipeM c 0).1 = 0 ∧ (wipeM (wipeM c 0).2 1).1 = 0 ∧ (formC c).1 = 0 ∧ live (wks c 2).p ∧ (∃ q, live q ∧ wks c 2 = { c with p := q, b := List.replicate c.b.length 255, er := erN (erN c.er (0 * halfN c) (halfN c)) (1 * halfN c) (halfN c) }) ∧ ∃ q, live q ∧ formC c = (0, { c with p := q, b := layI (List.replicate c.b.length 255) 0 (recB (firstB 1 newSta)), er := erN (erN c.er (0 * halfN c) (halfN c)) (1 * halfN c) (halfN c) }) := by
  obtain ⟨q, h1, h2⟩ := wipe_live hf hp (h := 0) (by omega)
  have hs := wipe_same' hf (i := 0) (by omega)
  have hw : wks c 2 = (wipeM (wipeM c 0).2 1).2 := rfl
  have hs2 := wks_same hf 2
  have hlen := (half_two hf).1
  have hl1 := layI_len c.b (0 * halfSz c) (List.replicate (halfSz c) 255) (by simp; omega)
  rw [h1] at hs
  obtain ⟨r, h3, h4⟩ := wipe_live hs.2 h2 (h := 1) (by omega)
  have hz := hs.1.halfSz
  have hn := hs.1.halfN
  simp only at hz hn
  have hb : layI (layI c.b (0 * halfSz c) (List.replicate (halfSz c) 255)) (1 * halfSz c) (List.replicate (halfSz c) 255) = List.replicate c.b.length 255 := by
    apply List.ext_getElem?
    intro i
    rw [layI_get _ _ _ (by rw [List.length_replicate, hl1]; omega), layI_get _ _ _ (by rw [List.length_replicate]; omega)]
    simp only [List.length_replicate, List.getElem?_replicate, Nat.zero_mul, Nat.one_mul, Nat.zero_add, Nat.sub_zero]
    by_cases h1 : i < halfSz c
    · simp [h1, show i < c.b.length by omega]
    · by_cases h2 : i < halfSz c + halfSz c
      · simp [h1, h2, show i < c.b.length by omega, show i - halfSz c < halfSz c by omega]
      · simp [h1, h2, show ¬ i < c.b.length by omega]
  have hwk : wks c 2 = { c with p := r, b := List.replicate c.b.length 255, er := erN (erN c.er (0 * halfN c) (halfN c)) (1 * halfN c) (halfN c) } := by
    rw [hw, h1, h3]
    simp only [hz, hn, hb]
  have hz2 : halfSz (wks c 2) = halfSz c := hs2.1.halfSz
  have hr : (firstB 1 newSta).length + 7 ≤ halfSz c := by
    rw [first_new]
    obtain ⟨q0, ⟨q1, q2⟩, ⟨q3, q4⟩, _⟩ := id hf.right
    have h5 : 1 ≤ halfN c := by unfold halfN; omega
    have h6 : 256 ≤ c.g.sector.toNat := by omega
    have := Nat.mul_le_mul h5 h6
    unfold halfSz
    omega
  have hlv : live (wks c 2).p := by rw [hwk]; exact h4
  obtain ⟨q2, h7, h8⟩ := append_live hs2.2 hlv (h := 0) (o := 0) (by omega) (l := firstB 1 newSta) (by rw [hz2]; omega) (by
    rw [hwk]
    intro i h1 h2
    rw [List.getElem?_replicate, if_pos]
    rw [← hwk, hz2] at h1 h2
    omega)
  refine ⟨by rw [h1], by rw [h1, h3], ?_, hlv, ⟨r, h4, hwk⟩, q2, h8, ?_⟩
  · rw [formC, h7]
  · rw [formC, h7, hwk]
    simp
theorem form_ok {c : Cp} (hf : c.fit) (hp : live c.p) (x : Nat × Sl) : Jok (formJ c x) ∧ c.same (formJ c x).c := by
  obtain ⟨_, _, _, _, _, q, h1, h2⟩ := form_live hf hp
  have hlen := (half_two hf).1
  have hr : (firstB 1 newSta).length + 7 ≤ halfSz c := by
    rw [first_new]
    obtain ⟨q0, ⟨q1, q2⟩, ⟨q3, q4⟩, _⟩ := id hf.right
    have h5 : 1 ≤ halfN c := by unfold halfN; omega
    have h6 : 256 ≤ c.g.sector.toNat := by omega
    have := Nat.mul_le_mul h5 h6
    unfold halfSz
    omega
  have hbl : (layI (List.replicate c.b.length 255) 0 (recB (firstB 1 newSta))).length = c.b.length := by
    rw [layI_len _ _ _ (by rw [recB_length]; simp; omega)]
    simp
  have hJ : (formJ c x).c = { c with p := q, b := layI (List.replicate c.b.length 255) 0 (recB (firstB 1 newSta)), er := erN (erN c.er (0 * halfN c) (halfN c)) (1 * halfN c) (halfN c) } := by
    show (formC c).2 = _
    rw [h2]
  have hsm : c.same (formJ c x).c := by
    rw [hJ]
    exact ⟨rfl, rfl, rfl, rfl, rfl, rfl, rfl, rfl, hbl⟩
  refine ⟨⟨?_, by show 0 < 2; omega, by rw [hJ]; exact h1, rfl, ?_, ?_, ⟨(by decide : (1 : Int) ≤ 1), (by decide : (1 : Int) ≤ 2147483647)⟩⟩, hsm⟩
  · rw [hJ]
    exact ⟨hf.right, by simp only [hbl]; exact hf.len, by simp only [hbl]; exact hf.cap, live_left h1⟩
  · rw [hsm.halfSz]; exact hr
  · rw [hsm.halfSz, hJ]
    show clean _ (0 * halfSz c + ((firstB 1 newSta).length + 7)) (halfSz c - ((firstB 1 newSta).length + 7))
    rw [show 0 * halfSz c + ((firstB 1 newSta).length + 7) = (firstB 1 newSta).length + 7 by omega]
    intro i h3 h4
    rw [layI_get _ _ _ (by rw [recB_length]; simp; omega), if_neg (by omega), if_neg (by rw [recB_length]; omega), List.getElem?_replicate, if_pos (by omega)]
end Go.Proofs.YtbbaoeidobdblaaGreat.Sx

/- Plain: numbers, texts, inodes and deeds, read from bytes. -/
set_option linter.unusedVariables false
set_option linter.unusedSimpArgs false
namespace Go.Proofs.YtbbaoeidobdblaaGreat.Sx
open Go
/-- The number that bytes are, the lowest first. -/
def valB : List Int → Int
  | [] => 0
  | x :: r => x + 256 * valB r
theorem valB_snoc (l : List Int) (x : Int) : valB (l ++ [x]) = valB l + x * 256 ^ l.length := by
  induction l with
  | nil => simp [valB]
  | cons y r ih =>
    simp only [List.cons_append, valB, ih, List.length_cons, Int.pow_succ]
    have e : 256 * (valB r + x * 256 ^ r.length) = 256 * valB r + x * (256 ^ r.length * 256) := by rw [Int.mul_add, Int.mul_left_comm, Int.mul_comm 256 (256 ^ r.length)]
    rw [e]
    omega
theorem valB_le (l : List Int) (h : ∀ x ∈ l, 0 ≤ x ∧ x ≤ 255) : 0 ≤ valB l ∧ valB l < 256 ^ l.length := by
  induction l with
  | nil => simp [valB]
  | cons x r ih =>
    obtain ⟨h1, h2⟩ := ih fun y hy => h y (List.mem_cons_of_mem _ hy)
    have h3 := h x List.mem_cons_self
    simp only [valB, List.length_cons, Int.pow_succ]
    omega
theorem lowB_succ (v : Int) (n : Nat) : lowB v (n + 1) = (v % 256) :: lowB (v / 256) n := by
  simp only [lowB, List.range_succ_eq_map, List.map_cons, List.map_map]
  congr 1
  · simp
  · apply List.map_congr_left
    intro i _
    simp only [Function.comp]
    have : (2 : Int) ^ (8 * (i + 1)) = 256 * 2 ^ (8 * i) := by rw [Nat.mul_add, Int.pow_add]; rw [Int.mul_comm]; rfl
    rw [show (2 : Int) ^ (8 * Nat.succ i) = 256 * 2 ^ (8 * i) from this, ← Int.ediv_ediv_of_nonneg (by decide)]
theorem valB_lowB (n : Nat) : ∀ v : Int, valB (lowB v n) = v % 256 ^ n := by
  induction n with
  | zero => intro v; simp [lowB, valB, Int.emod_one]
  | succ n ih =>
    intro v
    rw [lowB_succ, valB, ih, Int.pow_succ, Int.mul_comm (256 ^ n) 256]
    have h1 := Int.emod_add_mul_ediv v 256
    have h2 := Int.emod_add_mul_ediv (v / 256) (256 ^ n)
    have hp : (0 : Int) < 256 ^ n := Int.pow_pos (by decide)
    have h3 : 0 ≤ v / 256 % 256 ^ n := Int.emod_nonneg _ (by omega)
    have h4 : v / 256 % 256 ^ n < 256 ^ n := Int.emod_lt_of_pos _ hp
    have h5 : 0 ≤ v % 256 ∧ v % 256 < 256 := ⟨by omega, by omega⟩
    have h6 : v = v % 256 + 256 * (v / 256 % 256 ^ n) + (256 * 256 ^ n) * (v / 256 / 256 ^ n) := by
      rw [Int.mul_assoc]
      omega
    have h7 : 0 ≤ v % 256 + 256 * (v / 256 % 256 ^ n) := by omega
    have h8 : v % 256 + 256 * (v / 256 % 256 ^ n) < 256 * 256 ^ n := by omega
    have h9 : v % (256 * 256 ^ n) = (v % 256 + 256 * (v / 256 % 256 ^ n)) % (256 * 256 ^ n) := by
      conv => lhs; rw [h6]
      rw [Int.add_mul_emod_self_left]
    rw [h9, Int.emod_eq_of_lt h7 h8]
/-- Where one is, and the error (0: none). -/
abbrev Rs := Nat × Int
def getR (l : List Int) (r : Rs) (n : Nat) : Int × Rs :=
  if r.2 ≠ 0 then (0, r) else if l.length < r.1 + n then (0, (r.1 + n, 3)) else (valB ((l.drop r.1).take n), (r.1 + n, 0))
def intR (l : List Int) (r : Rs) : Int × Rs := (IntKind.i64.wrap (getR l r 8).1, (getR l r 8).2)
/-- A text of bytes. -/
def txtOf (l : List Int) : ByteArray := ⟨(l.map fun x => UInt8.ofNat x.toNat).toArray⟩
def textR (l : List Int) (r : Rs) : ByteArray × Rs :=
  if r.2 ≠ 0 then (emp, r)
  else if l.length < r.1 + 4 then (emp, (0, 3))
  else if l.length < r.1 + 4 + (valB ((l.drop r.1).take 4)).toNat then (emp, (0, 3))
  else (txtOf ((l.drop (r.1 + 4)).take (valB ((l.drop r.1).take 4)).toNat), (r.1 + 4 + (valB ((l.drop r.1).take 4)).toNat, 0))
def entR (l : List Int) (r : Rs) : Ent × Rs := (⟨(textR l r).1, (intR l (textR l r).2).1⟩, (intR l (textR l r).2).2)
def rnR (l : List Int) (r : Rs) : Rn × Rs := (⟨(intR l r).1, (intR l (intR l r).2).1, (intR l (intR l (intR l r).2).2).1⟩, (intR l (intR l (intR l r).2).2).2)
def manyR {α : Type} (f : Rs → α × Rs) : Nat → Rs → List α × Rs
  | 0, r => ([], r)
  | n + 1, r => if r.2 ≠ 0 then ([], r) else ((f r).1 :: (manyR f n (f r).2).1, (manyR f n (f r).2).2)
/-- Behind i numbers. -/
def nthR (l : List Int) (r : Rs) : Nat → Rs
  | 0 => r
  | i + 1 => (intR l (nthR l r i)).2
def inoA (l : List Int) (r : Rs) := textR l (nthR l r 4)
def inoN (l : List Int) (r : Rs) := getR l (inoA l r).2 4
def inoE (l : List Int) (r : Rs) := manyR (entR l) (inoN l r).1.toNat (inoN l r).2
def inoM (l : List Int) (r : Rs) := getR l (inoE l r).2 4
def inoU (l : List Int) (r : Rs) := manyR (rnR l) (inoM l r).1.toNat (inoM l r).2
def inoR (l : List Int) (r : Rs) : Ino × Rs := (⟨(intR l r).1, (intR l (nthR l r 1)).1, (intR l (nthR l r 2)).1, (intR l (nthR l r 3)).1, (inoA l r).1, (inoE l r).1, (inoU l r).1⟩, (inoU l r).2)
def deeR (l : List Int) (o : Nat) : Dee × Rs :=
  if (getR l (o, 0) 1).1 = 1 ∨ (getR l (o, 0) 1).1 = 3 ∨ (getR l (o, 0) 1).1 = 4 then (⟨(getR l (o, 0) 1).1, (intR l (getR l (o, 0) 1).2).1, inoZ⟩, (intR l (getR l (o, 0) 1).2).2)
  else if (getR l (o, 0) 1).1 = 2 then (⟨2, 0, (inoR l (getR l (o, 0) 1).2).1⟩, (inoR l (getR l (o, 0) 1).2).2)
  else (⟨(getR l (o, 0) 1).1, 0, inoZ⟩, ((getR l (o, 0) 1).2.1, 5))
/-- Deeds, from a place on: what they are, and the error (then none are). -/
def parseN (l : List Int) : Nat → Nat → List Dee × Int
  | 0, _ => ([], 0)
  | f + 1, o => if l.length ≤ o then ([], 0) else if (deeR l o).2.2 ≠ 0 then ([], (deeR l o).2.2) else if (parseN l f (deeR l o).2.1).2 ≠ 0 then ([], (parseN l f (deeR l o).2.1).2) else ((deeR l o).1 :: (parseN l f (deeR l o).2.1).1, 0)
def parseM (l : List Int) : List Dee × Int := parseN l l.length 0
theorem getR_le {l : List Int} {r : Rs} {n : Nat} (h : r.2 = 0) (h2 : (getR l r n).2.2 = 0) : (getR l r n).2.1 = r.1 + n ∧ r.1 + n ≤ l.length := by
  unfold getR at h2 ⊢
  rw [if_neg (by simp [h])] at h2 ⊢
  split at h2
  · cases h2
  · rename_i h3
    rw [if_neg h3]
    exact ⟨rfl, by omega⟩
theorem getR_err {l : List Int} {r : Rs} {n : Nat} (h : r.2 ≠ 0) : getR l r n = (0, r) := by unfold getR; rw [if_pos h]
theorem getR_back {l : List Int} {r : Rs} {n : Nat} (h2 : (getR l r n).2.2 = 0) : r.2 = 0 := by
  by_cases h : r.2 = 0
  · exact h
  · rw [getR_err h] at h2; exact absurd h2 h
theorem textR_back {l : List Int} {r : Rs} (h2 : (textR l r).2.2 = 0) : r.2 = 0 := by
  by_cases h : r.2 = 0
  · exact h
  · unfold textR at h2; rw [if_pos h] at h2; exact absurd h2 h
theorem textR_le {l : List Int} {r : Rs} (h2 : (textR l r).2.2 = 0) : r.1 + 4 ≤ (textR l r).2.1 ∧ (textR l r).2.1 ≤ l.length := by
  have h := textR_back h2
  unfold textR at h2 ⊢
  rw [if_neg (by simp [h])] at h2 ⊢
  split at h2
  · cases h2
  · rename_i h3
    rw [if_neg h3]
    split at h2
    · cases h2
    · rename_i h4
      rw [if_neg h4]
      exact ⟨Nat.le_add_right _ _, by simp only; omega⟩
theorem intR_le {l : List Int} {r : Rs} (h2 : (intR l r).2.2 = 0) : r.2 = 0 ∧ (intR l r).2.1 = r.1 + 8 ∧ r.1 + 8 ≤ l.length := ⟨getR_back h2, getR_le (getR_back h2) h2⟩
theorem manyR_le {α : Type} (f : Rs → α × Rs) (L : Nat) (hf : ∀ r, (f r).2.2 = 0 → r.2 = 0 ∧ r.1 + 1 ≤ (f r).2.1 ∧ (f r).2.1 ≤ L) : ∀ (n : Nat) (r : Rs), r.1 ≤ L → (manyR f n r).1.length ≤ L + 1 - r.1 ∧ ((manyR f n r).2.2 = 0 → r.2 = 0 ∧ r.1 ≤ (manyR f n r).2.1 ∧ (manyR f n r).2.1 ≤ L)
  | 0, r, hr => ⟨Nat.zero_le _, fun h => ⟨h, Nat.le_refl _, hr⟩⟩
  | n + 1, r, hr => by
    unfold manyR
    by_cases h : r.2 = 0
    · rw [if_neg (by simp [h])]
      by_cases h2 : (f r).2.2 = 0
      · have h3 := hf r h2
        have ih := manyR_le f L hf n (f r).2 h3.2.2
        refine ⟨by simp only [List.length_cons]; omega, fun h4 => ?_⟩
        have h5 := ih.2 h4
        exact ⟨h, by simp only at h5 ⊢; omega, h5.2.2⟩
      · have h6 : manyR f n (f r).2 = ([], (f r).2) := by
          cases n with
          | zero => rfl
          | succ n => unfold manyR; rw [if_pos h2]
        rw [h6]
        exact ⟨by simp only [List.length_cons, List.length_nil]; omega, fun h4 => absurd h4 h2⟩
    · rw [if_pos h]
      exact ⟨Nat.zero_le _, fun h4 => absurd h4 h⟩
theorem entR_le {l : List Int} {r : Rs} (h : (entR l r).2.2 = 0) : r.2 = 0 ∧ r.1 + 1 ≤ (entR l r).2.1 ∧ (entR l r).2.1 ≤ l.length := by
  have h1 := intR_le (r := (textR l r).2) h
  have h2 := textR_le h1.1
  exact ⟨textR_back h1.1, by show _ ≤ (intR l (textR l r).2).2.1; omega, by show (intR l (textR l r).2).2.1 ≤ _; omega⟩
theorem rnR_le {l : List Int} {r : Rs} (h : (rnR l r).2.2 = 0) : r.2 = 0 ∧ r.1 + 1 ≤ (rnR l r).2.1 ∧ (rnR l r).2.1 ≤ l.length := by
  have h1 := intR_le (r := (intR l (intR l r).2).2) h
  have h2 := intR_le (r := (intR l r).2) h1.1
  have h3 := intR_le h2.1
  exact ⟨h3.1, by show _ ≤ (intR l (intR l (intR l r).2).2).2.1; omega, by show (intR l (intR l (intR l r).2).2).2.1 ≤ _; omega⟩
end Go.Proofs.YtbbaoeidobdblaaGreat.Sx

/- Sx, part 16: bytes as a text; a part of an array; how often a byte is among bytes (bytealg.Count). -/
set_option linter.unusedVariables false
set_option linter.unusedSimpArgs false
namespace Go.Proofs.YtbbaoeidobdblaaGreat.Sx
open Go
section
variable {P : Program} {C : Ctx} {T : Ty} {res : List ResultVar} {p : Pos} {tm : Tm} {m : Mem}
theorem txt_push : ∀ (l : List Int) (s : ByteArray), l.foldl (fun r n => r.push (UInt8.ofNat n.toNat)) s = s ++ txtOf l
  | [], s => by
    apply ByteArray.ext
    simp [txtOf]
  | x :: r, s => by
    rw [List.foldl_cons, txt_push r]
    apply ByteArray.ext
    simp [txtOf]
theorem J.atG {w : World} (h : J C m w) : m.G w := by
  obtain ⟨I, F, h⟩ := h
  exact h.know w (Ext.refl _ _)
theorem bytes_cells {W : World} {a : Option Addr} {n c : Nat} {l : List Int} (h : Sv.ok dByte W (a, n, c) l) (h0 : 0 < l.length) : ∃ b o, a = some ⟨b, o, none⟩ ∧ ∀ i, i < l.length → W.cell? ⟨b, o + i, none⟩ = some (.int .u8 (l.getD i 0)) := by
  obtain ⟨b, o, e, _⟩ := byte_get h h0
  cases e
  refine ⟨b, o, rfl, fun i hi => ?_⟩
  obtain ⟨b', o', e, hc⟩ := byte_get h hi
  cases e
  rw [hc]
  simp [List.getD, hi]
/-- Bytes, as a text. -/
theorem strS (ok : Okc P T C res) {o : Oper} {src dst : TypeId} {x : Operand} (ho : o.op = .convert src dst x) {a : Option Addr} {n c : Nat} (hx : ev tm x = some (.c (.v (.slice a n c)))) {i ie j : TI} (hi : tf src T = some i) (hik : i.kd = 3) (hie : tf i.el T = some ie) (hk : ie.kd = 8) (hu : kdec ie.el = .u8) (hj : tf dst T = some j) (hjk : j.kd = 4)
    (l : List Int) (hl : ∀ W, m.G W → Sv.ok dByte W (a, n, c) l)
    (kk : sx T C res 1000 p (put C.n o.dst (.c (.v (.string (txtOf l)))) tm) m) : At C (.op o p) tm m := by
  rintro act w cs hR hJ
  have h1 : act.eval x = .slice a n c := hR.eval hx
  have hok := hl w hJ.atG
  obtain rfl : n = l.length := hok.1
  have h2 := run_convert_bytes_string (P := C.P) w src dst i.el a l.length c ((ok.ty.get hi).g_slice hik) (by have := (ok.ty.get hie).g_int hk; rw [hu] at this; exact this) ((ok.ty.get hj).g_string hjk)
  have h3 : (Conv.bytesToString (.slice a l.length c)).run C.P w = .ok (.string (txtOf l)) w := by
    cases a with
    | none =>
      have h0 : l.length = 0 := by
        rcases Nat.eq_zero_or_pos l.length with h | h
        · exact h
        · obtain ⟨b, o, e, _⟩ := byte_get hok h
          cases e
      have : l = [] := List.length_eq_zero_iff.1 h0
      subst this
      simp [Conv.bytesToString, txtOf, Sem.run_pure]
      rfl
    | some ad =>
      rcases Nat.eq_zero_or_pos l.length with h0 | h0
      · have : l = [] := List.length_eq_zero_iff.1 h0
        subst this
        have := run_bytesToString (P := C.P) w ad 0 c [] (by simp [loadCells, loadCellsFrom])
        rw [show ([] : List Int).length = 0 from rfl, this, txt_push]
        congr 2
      · obtain ⟨b, off, e, hc⟩ := bytes_cells hok h0
        cases e
        have hr := run_loadCellsFrom (P := C.P) (w := w) ⟨b, off, none⟩ (fun j => .int .u8 (l.getD j 0)) l.length 0 #[] (fun j hj => by
          rw [addr_add]
          simpa using hc j hj)
        have hr' : (loadCells ⟨b, off, none⟩ l.length).run C.P w = _ := hr
        have := run_bytesToString (P := C.P) w ⟨b, off, none⟩ l.length c l (by
          rw [hr']
          congr 1
          apply Array.ext
          · simp
          · intro j h1 h2
            simp at h1 h2
            simp [List.getD, h2])
        rw [this, txt_push]
        congr 2
  have hrun : (execOp act.eval o).run C.P w = .ok (.value (.string (txtOf l))) w := by simp [execOp, ho, h1, h2, h3]
  exact op_value (ok.sx kk) hrun (hR.put o.dst (.c (.v (.string (txtOf l))))) hJ
/-- A part of an array that is no place. -/
theorem idxK (ok : Okc P T C res) {o : Oper} {t : TypeId} {x y : Operand} (ho : o.op = .index t x y) {l : List CV} (hx : ev tm x = some (.ag l)) {k : IntKind} {n : Nat} (hy : ev tm y = some (.c (.v (.int k (n : Nat))))) {i ie : TI} (hi : tf t T = some i) (hik : i.kd = 2) (hie : tf i.el T = some ie) (hsz : ie.sz = 1) (hag : ie.agg = false) (hn : n < i.n) {v : CV} (hv : l[n]? = some v)
    (kk : sx T C res 1000 p (put C.n o.dst (.c v) tm) m) : At C (.op o p) tm m := by
  rintro act w cs hR hJ
  have h1 : act.eval x = (SV.ag l).val := hR.eval hx
  have h2 : act.eval y = .int k (n : Nat) := hR.eval hy
  have h4 : (l.map CV.val).toArray[n]? = some v.val := by simp [hv]
  have hrun : (execOp act.eval o).run C.P w = .ok (.value v.val) w := by
    have h3 : (part i.el (l.map CV.val).toArray n).run C.P w = .ok v.val w := by
      unfold part
      simp only [Sem.run_bind, (ok.ty.get hie).g_isAgg, hag, Result.andThen_ok, Bool.false_eq_true, if_false, h4, Sem.run_pure]
    simp [execOp, ho, h1, h2, Instr.index, asIntOf, SV.val, run_underlying ((ok.ty.get hi).g_array hik), hn, (ok.ty.get hie).g_sizeOf, hsz, h3]
  exact op_value (ok.sx kk) hrun (hR.put o.dst (.c v)) hJ
def ctB (P : Program) (f : FuncId) : Prop := ∃ fn, P.funcs[f]? = some fn ∧ (fn.name == "runtime.NumGoroutine") = false ∧ fn.body.isNone = true ∧ Extern.findNext fn = none ∧ Extern.find fn = some Extern.BytealgCount.count
theorem count_u8 (l : List Int) (x : Int) (h : ∀ y, y ∈ l → 0 ≤ y ∧ y ≤ 255) (hx : 0 ≤ x ∧ x ≤ 255) : Lib.countByte (Lib.bytesOf l) x.toNat.toUInt8 = l.count x := by
  induction l with
  | nil => rfl
  | cons y r ih =>
    have ih := ih fun z hz => h z (List.mem_cons_of_mem _ hz)
    have hy := h y List.mem_cons_self
    have e : (y.toNat.toUInt8 == x.toNat.toUInt8) = (y == x) := by
      have h1 : y.toNat.toUInt8.toNat = y.toNat := by simp; omega
      have h2 : x.toNat.toUInt8.toNat = x.toNat := by simp; omega
      rw [Bool.eq_iff_iff, beq_iff_eq, beq_iff_eq]
      constructor
      · intro he
        have := congrArg UInt8.toNat he
        omega
      · intro he
        rw [he]
    unfold Lib.countByte at ih ⊢
    rw [show Lib.bytesOf (y :: r) = y.toNat.toUInt8 :: Lib.bytesOf r from rfl, List.count_cons, List.count_cons, ih, e]
/-- How often a byte is there. -/
theorem cntS (ok : Okc P T C res) {o : Oper} {fo xa xb : Operand} {tys : Array TypeId} (ho : o.op = .call ⟨.value fo, #[xa, xb], tys⟩) {f : FuncId} (hf : ev tm fo = some (.c (.v (.func (.func f) #[] #[])))) (hF : ctB P f) {a : Option Addr} {n c : Nat} (hx : ev tm xa = some (.c (.v (.slice a n c)))) {x : Int} (hy : ev tm xb = some (.c (.v (.int .u8 x))))
    (l : List Int) (hl : ∀ W, m.G W → Sv.ok dByte W (a, n, c) l) (hb : ∀ y, y ∈ l → 0 ≤ y ∧ y ≤ 255) (hx1 : 0 ≤ x ∧ x ≤ 255)
    (kk : sx T C res 1000 p (put C.n o.dst (.c (.v (.int .i64 (l.count x : Nat)))) tm) m) : At C (.op o p) tm m := by
  obtain rfl := ok.P
  rintro act w cs hR hJ
  have h1 : act.eval xa = .slice a n c := hR.eval hx
  have h2 : act.eval xb = .int .u8 x := hR.eval hy
  have e0 : act.eval fo = .func (.func f) #[] #[] := hR.eval hf
  have hok := hl w hJ.atG
  obtain rfl : n = l.length := hok.1
  obtain ⟨fn, g1, g2, g3, g4, g5⟩ := hF
  have hcnt : (Extern.BytealgCount.count #[.slice a l.length c, .int .u8 x]).run C.P w = .ok (.int .i64 (l.count x : Nat)) w := by
    have hs := Lib.run_countString (P := C.P) ⟨(Lib.bytesOf l).toArray⟩ x w
    simp only [List.toList_toArray] at hs
    rw [count_u8 l x hb hx1] at hs
    have hb2 : (Extern.Bytes.bytesOf (.slice a l.length c)).run C.P w = .ok ⟨(Lib.bytesOf l).toArray⟩ w := by
      rcases Nat.eq_zero_or_pos l.length with h0 | h0
      · have : l = [] := List.length_eq_zero_iff.1 h0
        subst this
        cases a with
        | none => simp [Extern.Bytes.bytesOf, Sem.run_pure]; rfl
        | some ad => simp [Extern.Bytes.bytesOf, Extern.Bytes.loadBytes, Sem.run_pure]; rfl
      · obtain ⟨b, off, e, hc⟩ := bytes_cells hok h0
        cases e
        have hl := Lib.run_loadBytesX (P := C.P) w l ⟨b, off, none⟩ .empty (fun j x hj => by
          have hjl : j < l.length := (List.getElem?_eq_some_iff.1 hj).1
          rw [addr_add, hc j hjl, List.getD_eq_getElem?_getD, hj]
          rfl)
        simp only [Extern.Bytes.bytesOf]
        rw [hl]
        congr 1
        apply ByteArray.ext
        simp
    change Sem.run C.P (do
      let b ← Extern.Bytes.bytesOf (.slice a l.length c)
      let c' ← Extern.Bytes.asByte (.int .u8 x)
      pure (goInt (b.foldl (fun n x => if x == c' then n + 1 else n) (0 : Nat)))) w = _
    change Sem.run C.P (do
      let b ← Extern.Bytes.bytesOf (.string ⟨(Lib.bytesOf l).toArray⟩)
      let c' ← Extern.Bytes.asByte (.int .u8 x)
      pure (goInt (b.foldl (fun n x => if x == c' then n + 1 else n) (0 : Nat)))) w = _ at hs
    simp only [Sem.run_bind, hb2, Result.andThen]
    simp only [Extern.Bytes.bytesOf, Sem.run_bind, Sem.run_pure, Result.andThen] at hs
    exact hs
  have hrun : (execOp act.eval o).run C.P w = .ok (.value (.int .i64 (l.count x : Nat))) w := by
    have hc := run_callFunc_extern g1 g2 g3 g4 g5 #[.slice a l.length c, .int .u8 x] w
    rw [hcnt] at hc
    simp [execOp, ho, resolve, e0, h1, h2, Deferred.ofValue, invoke, hc]
  exact op_value (ok.sx kk) hrun (hR.put o.dst (.c (.v (.int .i64 (l.count x : Nat))))) hJ
/-- What one has of one's own, told in other words. -/
theorem retell (k : Nat) {r r' : Res} (hl : look k m.rs = some r) (he : r.eqv r') (kk : At C p tm ⟨m.B, m.G, (k, r') :: del k (del k m.rs)⟩) : At C p tm m := by
  rintro act w cs hR ⟨I, F, hJ⟩
  have hm := look_mem hl
  exact kk act w cs hR ⟨I, _, hJ.upd k k r' (F k) (F k) (fun b hb => ⟨hb, r, hm⟩) ((Ext.refl (fun _ => True) w).mono fun _ _ => trivial) (he.to (hJ.own _ hm)) (fun b hb => ⟨(hJ.Fsz _ b hm hb).1, .inl hb⟩) id⟩
/-- All that is known is told anew: less slots, less of one's own, less knowledge. -/
theorem cutAt (ok : Okc P T C res) (tm0 : Tm) (G0 : World → Prop) (rs0 : List (Nat × Res)) (h : sx T C res 1000 p tm0 ⟨fun _ => True, G0, rs0⟩) : ∀ tm m, (∀ W, m.G W → G0 W) → subs tm tm0 ∧ keepB m.rs rs0 → At C p tm m :=
  fun tm m hG hs a w cs hR hJ => ok.sx h a w cs (hR.sub (Sub.of hs.1)) (hJ.weaken (fun _ _ => trivial) hG (keepB_mem hs.2))
/-- Many ends have one road on. -/
theorem cutK {Goal : Prop} {p : Pos} (ok : Okc P T C res) (tm0 : Tm) (G0 : World → Prop) (rs0 : List (Nat × Res)) (rest : sx T C res 1000 p tm0 ⟨fun _ => True, G0, rs0⟩) (main : (∀ tm m, (∀ W, m.G W → G0 W) → subs tm tm0 ∧ keepB m.rs rs0 → At C p tm m) → Goal) : Goal := main (cutAt ok tm0 G0 rs0 rest)
/-- The same; the road on hangs on something. -/
theorem cutKb {Goal : Prop} {p : Pos} {β : Type} (ok : Okc P T C res) (tm0 : β → Tm) (G0 : β → World → Prop) (rs0 : List (Nat × Res)) (rest : ∀ x, sx T C res 1000 p (tm0 x) ⟨fun _ => True, G0 x, rs0⟩) (main : (∀ x tm m, (∀ W, m.G W → G0 x W) → subs tm (tm0 x) ∧ keepB m.rs rs0 → At C p tm m) → Goal) : Goal := main fun x => cutAt ok (tm0 x) (G0 x) rs0 (rest x)
/-- An array of four parts is built, by whatever law. -/
theorem bld4 (ok : Okc P T C res) {o : Oper} {t d : Nat} {x0 x1 x2 x3 : Operand} (ho : o.op = .build t #[(0, x0), (1, x1), (2, x2), (3, x3)]) (hd : o.dst = some d) {u0 u1 u2 u3 : SV} (h0 : ev tm x0 = some u0) (h1 : ev tm x1 = some u1) (h2 : ev tm x2 = some u2) (h3 : ev tm x3 = some u3) (y : SV)
    (h : ∀ w, (Instr.build t #[(0, u0.val), (1, u1.val), (2, u2.val), (3, u3.val)]).run P w = .ok y.val w)
    (kk : sx T C res 1000 p (put C.n (some d) y tm) m) : At C (.op o p) tm m := by
  obtain rfl := ok.P
  intro act w cs0 hR hJ
  have e0 := hR.eval h0
  have e1 := hR.eval h1
  have e2 := hR.eval h2
  have e3 := hR.eval h3
  have hrun : (execOp act.eval o).run C.P w = .ok (.value y.val) w := by
    have := h w
    simp [execOp, ho, e0, e1, e2, e3, this]
  have hRp := hR.put (some d) y
  exact op_value (ok.sx kk) hrun (by rw [hd]; exact hRp) hJ
end
end Go.Proofs.YtbbaoeidobdblaaGreat.Sx

/- codec.Get, GetInt, GetText. -/
set_option linter.unusedVariables false
set_option linter.unusedSimpArgs false
namespace Go.Proofs.YtbbaoeidobdblaaGreat.Sx
open Go
attribute [local simp ↓] ifb_true' ifb_false'
attribute [local simp] ifb_true ifb_false ifb_eq sx argsT find ev evOp evs evo evBin evInt evStr evNil evNilA ptrA slcA isNoneA asB evLoad look del cellsB evUn evConv kdec fld evFieldA evField evIdxA evIdx evSlc bndL bndH evLen mmi put resV guardV gvL setO tupV cellsOf ones one upd lits nv exitTo SV.val CV.val TI.agg rdyA allR keepB scan simpO gsp isS subs keepT pickT wr memN pubs Res.fact Region.binds bld rest give delL back Res.eqv vi vb num Sv.val undef
theorem or64 {v y x : Int} {i : Nat} (hi : i < 8) (hv : 0 ≤ v ∧ v < 256 ^ i) (hx : 0 ≤ x ∧ x ≤ 255) (hy : y = x * 256 ^ i) : IntKind.u64.wrap (((v % 2 ^ IntKind.u64.bits).toNat ||| (y % 2 ^ IntKind.u64.bits).toNat : Nat) : Int) = v + y := by
  obtain ⟨v, rfl⟩ : ∃ n : Nat, v = n := ⟨v.toNat, by omega⟩
  obtain ⟨x, rfl⟩ : ∃ n : Nat, x = n := ⟨x.toNat, by omega⟩
  have h1 : v < 256 ^ i := by
    have e : ((256 : Int) ^ i) = ((256 ^ i : Nat) : Int) := by rw [Int.natCast_pow]; rfl
    have h := hv.2
    rw [e] at h
    exact Int.ofNat_lt.1 h
  have hx2 : x ≤ 255 := by omega
  have h2 : (256 : Nat) ^ i ≤ 256 ^ 7 := Nat.pow_le_pow_right (by decide) (by omega)
  have h3 : x * 256 ^ i ≤ 255 * 256 ^ 7 := Nat.mul_le_mul hx2 h2
  have h4 : y = ((x * 256 ^ i : Nat) : Int) := by rw [hy, Int.natCast_mul, Int.natCast_pow]; rfl
  have h5 : (256 : Nat) ^ 7 = 72057594037927936 := by decide
  obtain ⟨z, hz⟩ : ∃ z, z = x * 256 ^ i := ⟨_, rfl⟩
  rw [← hz] at h3 h4
  have h6 : v ||| z = v + z := by
    have : (256 : Nat) ^ i = 2 ^ (8 * i) := by rw [Nat.pow_mul]
    rw [Nat.or_comm, hz, this, ← Nat.shiftLeft_eq, ← Nat.shiftLeft_add_eq_or_of_lt (by rw [← this]; exact h1), Nat.add_comm]
  have e1 : ((v : Int) % 2 ^ IntKind.u64.bits).toNat = v := by
    rw [show ((2 : Int) ^ IntKind.u64.bits) = 18446744073709551616 by decide]; omega
  have e2 : (y % 2 ^ IntKind.u64.bits).toNat = z := by
    rw [show ((2 : Int) ^ IntKind.u64.bits) = 18446744073709551616 by decide]; omega
  rw [e1, e2, h6, u64_wrap]
  omega
theorem shl64 {x : Int} {i q : Nat} (hi : i < 8) (hq : q = 8 * i) (hx : 0 ≤ x ∧ x ≤ 255) : IntKind.u64.wrap (x * 2 ^ min q IntKind.u64.bits) = x * 256 ^ i := by
  obtain ⟨x, rfl⟩ : ∃ n : Nat, x = n := ⟨x.toNat, by omega⟩
  have h2 : (256 : Nat) ^ i ≤ 256 ^ 7 := Nat.pow_le_pow_right (by decide) (by omega)
  have hx2 : x ≤ 255 := by omega
  have h3 : x * 256 ^ i ≤ 255 * 256 ^ 7 := Nat.mul_le_mul hx2 h2
  have h5 : (256 : Nat) ^ 7 = 72057594037927936 := by decide
  have h6 : min q IntKind.u64.bits = 8 * i := by rw [hq, show IntKind.u64.bits = 64 from rfl]; omega
  have h7 : (x : Int) * 2 ^ (8 * i) = ((x * 256 ^ i : Nat) : Int) := by rw [Int.natCast_mul, Int.natCast_pow, Int.pow_mul]; rfl
  have h8 : (x : Int) * 256 ^ i = ((x * 256 ^ i : Nat) : Int) := by rw [Int.natCast_mul, Int.natCast_pow]; rfl
  rw [h6, h7, h8, u64_wrap]
  omega
/-- A number of k bytes, from a place on: the number, and the error. -/
def getM (xs : List Int) (o k : Nat) : Int × Int := if xs.length < o + k then (0, 3) else (valB ((xs.drop o).take k), 0)
theorem byte_sub {xs : List Int} (hb : ∀ x, x ∈ xs → 0 ≤ x ∧ x ≤ 255) (o k : Nat) : ∀ x, x ∈ (xs.drop o).take k → 0 ≤ x ∧ x ≤ 255 := fun x hx => hb x (List.mem_of_mem_drop (List.mem_of_mem_take hx))
theorem sub_ok {W : World} {a : Option Addr} {n c : Nat} {xs : List Int} (h : Sv.ok dByte W (a, n, c) xs) {o k : Nat} (hk : o + k ≤ xs.length) : Sv.ok dByte W ((if c = o then a else addrP a o), k, c - o) ((xs.drop o).take k) := by
  have h1 := Sv.drop h (show o ≤ xs.length by omega)
  have h2 := Sv.take h1 (i := k) (by rw [List.length_drop]; omega)
  simpa [dByte, flat] using h2
set_option maxHeartbeats 1000000 in
theorem get0 (w : World) (I : Nat → Prop) (hI : ∀ b, I b → b < w.heap.size) {a : Option Addr} {n c : Nat} (xs : List Int) (h : ∀ W, Ext I w W → Sv.ok dByte W (a, n, c) xs) (hb : ∀ x, x ∈ xs → 0 ≤ x ∧ x ≤ 255) (o k : Nat) (ho : o ≤ 1000000000000) (hk : 1 ≤ k ∧ k ≤ 8) :
    Fn0 Tryz.prog 166 #[.slice a n c, .int .i64 (o : Nat), .int .i64 (k : Nat)] w I (fun _ : Unit => .tuple #[.int .u64 (getM xs o k).1, .int .i64 (getM xs o k).2]) (fun _ _ => True) := by
  obtain rfl : n = xs.length := (h w (Ext.refl _ _)).1
  have hl := (h w (Ext.refl _ _)).2.2.1
  have hcap : xs.length ≤ c := (h w (Ext.refl _ _)).2.1
  refine enter (svs := [.c (.v (.slice a xs.length c)), .c (.v (.int .i64 (o : Nat))), .c (.v (.int .i64 (k : Nat)))]) tysOk Tryz.func166 rfl Tryz.ntmps166 Tryz.results166 (by kernel_rfl) (by simp) hI (fun W => Sv.ok dByte W (a, xs.length, c) xs) h fun C hC hN ok => ?_
  have h1 : ¬ ((o : Nat) : Int) < 0 := by omega
  have h2 : ¬ ((k : Nat) : Int) < 1 := by omega
  have h3 : ¬ (8 : Int) < ((k : Nat) : Int) := by omega
  have e1 : IntKind.i64.wrap ((xs.length : Int) - (k : Nat)) = xs.length - (k : Nat) := w64 (by omega) (by omega)
  simp [hN, h1, h2, h3, e1]
  refine ⟨fun hlt => ?_, fun hge => ?_⟩
  · have hg : getM xs o k = (0, 3) := by rw [getM, if_pos (by omega)]
    exact ret0 hC () (by rw [hg]) fun _ _ _ => trivial
  obtain ⟨z, hz⟩ : ∃ z, z = o + k := ⟨_, rfl⟩
  have hg : getM xs o k = (valB ((xs.drop o).take k), 0) := by rw [getM, if_neg (by omega)]
  have e2 : IntKind.i64.wrap ((o : Int) + (k : Nat)) = (z : Nat) := by rw [w64 (by omega) (by omega)]; omega
  have hoz : (o : Int) ≤ (z : Nat) := by omega
  have hzc : (z : Int) ≤ (c : Nat) := by omega
  have ezo : z - o = k := by omega
  have hsub : ∀ W, Sv.ok dByte W (a, xs.length, c) xs → Sv.ok dByte W ((if c = o then a else addrP a o), k, c - o) ((xs.drop o).take k) := fun W hW => sub_ok hW (by omega)
  have hby := byte_sub hb o k
  have hyl : ((xs.drop o).take k).length = k := by rw [List.length_take, List.length_drop]; omega
  simp [hN, e2, hoz, hzc, ezo]
  generalize (xs.drop o).take k = ys at hsub hby hyl hg
  generalize (if c = o then a else addrP a o) = a' at hsub
  refine loopK [34, 35] ok (fun i : Nat => [(36, .c (.v (.int .i64 i))), (8, .c (.v (.int .u64 (valB (ys.take i)))))]) (fun _ => []) (fun i W => i ≤ k) (fun i => k - i) 0 ?_ ?_ (fun W hW => Nat.zero_le _) ?_
  · simp [valB]
  · simp
  rintro i W hi hG next
  rcases Nat.lt_or_ge i k with hlt | hge
  · obtain ⟨b, off, e, _⟩ := byte_get (hsub _ hG) (show i < ys.length by omega)
    cases e
    have e6 : IntKind.i64.wrap ((i : Int) + 1) = (i + 1 : Nat) := by rw [w64 (by omega) (by omega)]; omega
    have hx := hby _ (List.getElem_mem (show i < ys.length by omega))
    have hget : ∀ W, Sv.ok dByte W (a, xs.length, c) xs → ∃ v, W.cell? ⟨b, off + i, none⟩ = some v ∧ v = .int .u8 ys[i] := fun W hW => by
      obtain ⟨b'', o'', e, hc⟩ := byte_get (hsub W hW) (show i < ys.length by omega)
      cases e
      exact ⟨_, hc, rfl⟩
    have ht : valB (ys.take (i + 1)) = valB (ys.take i) + ys[i] * 256 ^ i := by
      rw [List.take_add_one, List.getElem?_eq_getElem (show i < ys.length by omega)]
      simp only [Option.toList]
      rw [valB_snoc, List.length_take, Nat.min_eq_left (by omega)]
    have hv := valB_le (ys.take i) fun x hx => hby x (List.mem_of_mem_take hx)
    rw [List.length_take, Nat.min_eq_left (by omega)] at hv
    generalize ys[i] = x at hx hget ht
    generalize valB (ys.take i) = v at hv ht
    obtain ⟨q, hq⟩ : ∃ q, q = 8 * i := ⟨_, rfl⟩
    have w1 : IntKind.u64.wrap x = x := by rw [u64_wrap]; omega
    have w2 : IntKind.i64.wrap (8 * (i : Int)) = (q : Nat) := by rw [w64 (by omega) (by omega)]; omega
    have w3 := shl64 (x := x) (by omega : i < 8) hq hx
    have w4 := or64 (v := v) (i := i) (by omega) hv hx rfl
    have hlt' : (i : Int) < (k : Nat) := by omega
    simp [hN, hlt']
    refine load1 ok rfl rfl rfl rfl (fun v W => v = .int .u8 x) (fun W hW => hget W hW.2) ?_
    rintro v' W rfl _
    simp [hN, e6, w1, w2, w3, w4]
    exact next (i + 1) _ _ (by omega) (fun W h => ⟨hlt, h.2⟩) (by simp [ht])
  · obtain rfl : i = k := by omega
    have hT : ys.take i = ys := List.take_of_length_le (by omega)
    simp only [hT]
    simp [hN]
    exact ret0 hC () (by rw [hg]) fun _ _ _ => trivial
theorem getM_le {xs : List Int} (hb : ∀ x, x ∈ xs → 0 ≤ x ∧ x ≤ 255) (o k : Nat) : 0 ≤ (getM xs o k).1 ∧ (getM xs o k).1 < 256 ^ k := by
  unfold getM
  split
  · exact ⟨Int.le_refl _, Int.pow_pos (by decide)⟩
  · rename_i h
    have := valB_le _ (byte_sub hb o k)
    rw [List.length_take, List.length_drop, Nat.min_eq_left (by omega)] at this
    exact this
theorem getInt0 (w : World) (I : Nat → Prop) (hI : ∀ b, I b → b < w.heap.size) {a : Option Addr} {n c : Nat} (xs : List Int) (h : ∀ W, Ext I w W → Sv.ok dByte W (a, n, c) xs) (hb : ∀ x, x ∈ xs → 0 ≤ x ∧ x ≤ 255) (o : Nat) (ho : o ≤ 1000000000000) :
    Fn0 Tryz.prog 120 #[.slice a n c, .int .i64 (o : Nat)] w I (fun _ : Unit => .tuple #[.int .i64 (IntKind.i64.wrap (getM xs o 8).1), .int .i64 (getM xs o 8).2]) (fun _ _ => True) := by
  refine enter (svs := [.c (.v (.slice a n c)), .c (.v (.int .i64 (o : Nat)))]) tysOk Tryz.func120 rfl Tryz.ntmps120 Tryz.results120 (by kernel_rfl) (by simp) hI (fun W => Sv.ok dByte W (a, n, c) xs) h fun C hC hN ok => ?_
  simp [hN]
  refine call0 ok rfl rfl rfl (fun w I hI hG => get0 w I hI (a := a) (n := n) (c := c) xs (fun W e => hG W e) hb o 8 ho (by decide)) fun _ W _ => ?_
  simp [hN]
  exact ret0 hC () rfl fun _ _ _ => trivial
set_option maxHeartbeats 1000000 in
theorem getText0 (w : World) (I : Nat → Prop) (hI : ∀ b, I b → b < w.heap.size) {a : Option Addr} {n c : Nat} (xs : List Int) (h : ∀ W, Ext I w W → Sv.ok dByte W (a, n, c) xs) (hb : ∀ x, x ∈ xs → 0 ≤ x ∧ x ≤ 255) (o : Nat) (ho : o ≤ 1000000000000) :
    Fn0 Tryz.prog 219 #[.slice a n c, .int .i64 (o : Nat)] w I (fun _ : Unit => .tuple #[.string (textR xs (o, 0)).1, .int .i64 ((textR xs (o, 0)).2.1 : Nat), .int .i64 (textR xs (o, 0)).2.2]) (fun _ _ => True) := by
  obtain rfl : n = xs.length := (h w (Ext.refl _ _)).1
  have hl := (h w (Ext.refl _ _)).2.2.1
  have hcap : xs.length ≤ c := (h w (Ext.refl _ _)).2.1
  refine enter (svs := [.c (.v (.slice a xs.length c)), .c (.v (.int .i64 (o : Nat)))]) tysOk Tryz.func219 rfl Tryz.ntmps219 Tryz.results219 (by kernel_rfl) (by simp) hI (fun W => Sv.ok dByte W (a, xs.length, c) xs) h fun C hC hN ok => ?_
  simp [hN]
  refine call0 ok rfl rfl rfl (fun w I hI hG => get0 w I hI (a := a) (n := xs.length) (c := c) xs (fun W e => hG W e) hb o 4 ho (by decide)) fun _ W _ => ?_
  have hle := getM_le hb o 4
  have hR := textR.eq_1 xs (o, 0)
  simp only [ne_eq, not_true, if_false] at hR
  rcases Nat.lt_or_ge xs.length (o + 4) with h1 | h1
  · have hg : getM xs o 4 = (0, 3) := by rw [getM, if_pos h1]
    rw [if_pos h1] at hR
    rw [hR] at hC
    simp [hN, hg]
    exact ret0 hC () rfl fun _ _ _ => trivial
  have hg : getM xs o 4 = (valB ((xs.drop o).take 4), 0) := by rw [getM, if_neg (by omega)]
  rw [if_neg (by omega)] at hR
  rw [hg] at hle ⊢
  simp only at hle
  generalize valB ((xs.drop o).take 4) = v at hle hR ⊢
  obtain ⟨k, rfl⟩ : ∃ k : Nat, v = k := ⟨v.toNat, by omega⟩
  rw [Int.toNat_natCast] at hR
  have hk : k < 4294967296 := by have := hle.2; simp at this; omega
  obtain ⟨u, hu⟩ : ∃ u, u = o + 4 := ⟨_, rfl⟩
  obtain ⟨z, hz⟩ : ∃ z, z = xs.length - u := ⟨_, rfl⟩
  rw [← hu] at hR
  have e1 : IntKind.i64.wrap ((o : Int) + 4) = (u : Nat) := by rw [w64 (by omega) (by omega)]; omega
  have e2 : IntKind.i64.wrap ((xs.length : Int) - (u : Nat)) = (z : Nat) := by rw [w64 (by omega) (by omega)]; omega
  have e3 : IntKind.u64.wrap (z : Int) = (z : Nat) := by rw [u64_wrap]; omega
  simp [hN, e1, e2, e3]
  refine ⟨fun hgt => ?_, fun hle2 => ?_⟩
  · rw [if_pos (by omega)] at hR
    rw [hR] at hC
    exact ret0 hC () rfl fun _ _ _ => trivial
  rw [if_neg (by omega)] at hR
  rw [hR] at hC
  obtain ⟨y, hy⟩ : ∃ y, y = u + k := ⟨_, rfl⟩
  have e4 : IntKind.i64.wrap (k : Int) = (k : Nat) := w64 (by omega) (by omega)
  have e5 : IntKind.i64.wrap ((u : Int) + (k : Nat)) = (y : Nat) := by rw [w64 (by omega) (by omega)]; omega
  have huy : (u : Int) ≤ (y : Nat) := by omega
  have hyc : (y : Int) ≤ (c : Nat) := by omega
  have eyu : y - u = k := by omega
  simp [hN, e4, e5, huy, hyc, eyu]
  refine strS ok rfl rfl rfl rfl rfl rfl rfl rfl rfl ((xs.drop u).take k) (fun W hW => ?_) ?_
  · exact sub_ok hW (by omega)
  rw [← hy] at hC
  simp [hN]
  exact ret0 hC () rfl fun _ _ _ => trivial
end Go.Proofs.YtbbaoeidobdblaaGreat.Sx

/- pack.reader: get, int, text. -/
set_option linter.unusedVariables false
set_option linter.unusedSimpArgs false
namespace Go.Proofs.YtbbaoeidobdblaaGreat.Sx
open Go
attribute [local simp ↓] ifb_true' ifb_false'
attribute [local simp] ifb_true ifb_false ifb_eq sx argsT find ev evOp evs evo evBin evInt evStr evNil evNilA ptrA slcA isNoneA asB evLoad look del cellsB evUn evConv kdec fld evFieldA evField evIdxA evIdx evSlc bndL bndH evLen mmi put resV guardV gvL setO tupV cellsOf ones one upd lits nv exitTo SV.val CV.val TI.agg rdyA allR keepB scan simpO gsp isS subs keepT pickT wr memN pubs Res.fact Region.binds bld rest give delL back Res.eqv vi vb num Sv.val undef
abbrev rdrC (a : Option Addr) (n c : Nat) (r : Rs) : List CV := [.v (.slice a n c), .v (.int .i64 (r.1 : Nat)), .v (.int .i64 r.2)]
abbrev rdrB (g : Nat) (a : Option Addr) (n c : Nat) (r : Rs) : Res := .box g 214 (rdrC a n c r)
/-- Where one may be in so many bytes. -/
def rsOk (L : Nat) (r : Rs) : Prop := r.1 ≤ L + 8 ∧ (r.2 = 0 → r.1 ≤ L)
theorem rsOk_get {l : List Int} {r : Rs} {n : Nat} (h : rsOk l.length r) (hn : n ≤ 8) : rsOk l.length (getR l r n).2 := by
  unfold getR
  split
  · exact h
  · rename_i h0
    have h1 := h.2 (by simpa using h0)
    split
    · exact ⟨by simp only; omega, fun h => by cases h⟩
    · exact ⟨by simp only; omega, fun _ => by simp only; omega⟩
theorem rsOk_int {l : List Int} {r : Rs} (h : rsOk l.length r) : rsOk l.length (intR l r).2 := rsOk_get h (Nat.le_refl _)
theorem rsOk_text {l : List Int} {r : Rs} (h : rsOk l.length r) : rsOk l.length (textR l r).2 := by
  unfold textR
  split
  · exact h
  · split
    · exact ⟨by simp only; omega, fun h => by cases h⟩
    · split
      · exact ⟨by simp only; omega, fun h => by cases h⟩
      · exact ⟨by simp only; omega, fun _ => by simp only; omega⟩
set_option maxHeartbeats 1000000 in
theorem rget0 (w : World) (I S : Nat → Prop) (hI : ∀ b, I b → b < w.heap.size) (gr : Nat) {a : Option Addr} {n c : Nat} (xs : List Int) (h : ∀ W, Ext I w W → Sv.ok dByte W (a, n, c) xs) (hb : ∀ x, x ∈ xs → 0 ≤ x ∧ x ≤ 255) (r : Rs) (hr : rsOk xs.length r) (k : Nat) (hk : 1 ≤ k ∧ k ≤ 8) (hS : Owns [rdrB gr a n c r] S w) (hSI : ∀ b, S b → b < w.heap.size ∧ ¬ I b) :
    FnS Tryz.prog 198 #[ptrV gr, .int .i64 (k : Nat)] w I S (fun _ : Unit => .int .u64 (getR xs r k).1) (fun _ => [rdrB gr a n c (getR xs r k).2]) (fun _ _ => True) := by
  obtain rfl : n = xs.length := (h w (Ext.refl _ _)).1
  have hl := (h w (Ext.refl _ _)).2.2.1
  obtain ⟨o, e⟩ := r
  refine enterS (svs := [.c (.bp 1000 gr 0), .c (.v (.int .i64 (k : Nat)))]) tysOk Tryz.func198 rfl Tryz.ntmps198 Tryz.results198 (by kernel_rfl) (by simp) hI [rdrB gr a xs.length c (o, e)] hS hSI (fun W => Sv.ok dByte W (a, xs.length, c) xs) h fun C hC hN ok => ?_
  by_cases he : e = 0
  · subst he
    have ho := hr.2 rfl
    simp only at ho
    simp [hN]
    refine drawK ok mixed (by kernel_rfl) ?_
    simp (maxSteps := 2000000) -implicitDefEqProofs [hN]
    refine call0 ok rfl rfl rfl (fun w I hI hG => get0 w I hI (a := a) (n := xs.length) (c := c) xs (fun W e => hG W e) hb o k (by omega) hk) fun _ W _ => ?_
    have e1 : IntKind.i64.wrap ((o : Int) + (k : Nat)) = (o + k : Nat) := by rw [w64 (by omega) (by omega)]; omega
    have hg : getR xs (o, 0) k = ((getM xs o k).1, (o + k, (getM xs o k).2)) := by
      unfold getR getM
      simp only [ne_eq, not_true, if_false]
      split <;> rfl
    rw [hg] at hC
    simp (maxSteps := 2000000) -implicitDefEqProofs [hN, e1]
    exact retS hC () [1000] rfl (by simp) fun _ _ _ => trivial
  · have hg : getR xs (o, e) k = (0, (o, e)) := getR_err he
    rw [hg] at hC
    simp [hN, he]
    exact retS hC () [1000] rfl (by simp) fun _ _ _ => trivial
theorem rint0 (w : World) (I S : Nat → Prop) (hI : ∀ b, I b → b < w.heap.size) (gr : Nat) {a : Option Addr} {n c : Nat} (xs : List Int) (h : ∀ W, Ext I w W → Sv.ok dByte W (a, n, c) xs) (hb : ∀ x, x ∈ xs → 0 ≤ x ∧ x ≤ 255) (r : Rs) (hr : rsOk xs.length r) (hS : Owns [rdrB gr a n c r] S w) (hSI : ∀ b, S b → b < w.heap.size ∧ ¬ I b) :
    FnS Tryz.prog 199 #[ptrV gr] w I S (fun _ : Unit => .int .i64 (intR xs r).1) (fun _ => [rdrB gr a n c (intR xs r).2]) (fun _ _ => True) := by
  refine enterS (svs := [.c (.bp 1000 gr 0)]) tysOk Tryz.func199 rfl Tryz.ntmps199 Tryz.results199 (by kernel_rfl) (by simp) hI [rdrB gr a n c r] hS hSI (fun W => Sv.ok dByte W (a, n, c) xs) h fun C hC hN ok => ?_
  simp [hN]
  refine callS ok rfl rfl rfl [1000] [rdrB gr a n c r] (by simp) rfl (fun _ : Unit => [(1000, rdrB gr a n c (getR xs r 8).2)]) (fun w I S hI hG hO hS' => rget0 w I S hI gr xs (fun W e => hG W e) hb r hr 8 (by decide) hO hS') (fun r => by simp) (.inr fun x q hq => by simp at hq; subst hq; simp) fun _ W _ => ?_
  simp [hN]
  exact retS hC () [1000] rfl (by simp [intR]) fun _ _ _ => trivial
set_option maxHeartbeats 1000000 in
theorem rtext0 (w : World) (I S : Nat → Prop) (hI : ∀ b, I b → b < w.heap.size) (gr : Nat) {a : Option Addr} {n c : Nat} (xs : List Int) (h : ∀ W, Ext I w W → Sv.ok dByte W (a, n, c) xs) (hb : ∀ x, x ∈ xs → 0 ≤ x ∧ x ≤ 255) (r : Rs) (hr : rsOk xs.length r) (hS : Owns [rdrB gr a n c r] S w) (hSI : ∀ b, S b → b < w.heap.size ∧ ¬ I b) :
    FnS Tryz.prog 213 #[ptrV gr] w I S (fun _ : Unit => .string (textR xs r).1) (fun _ => [rdrB gr a n c (textR xs r).2]) (fun _ _ => True) := by
  obtain rfl : n = xs.length := (h w (Ext.refl _ _)).1
  have hl := (h w (Ext.refl _ _)).2.2.1
  obtain ⟨o, e⟩ := r
  refine enterS (svs := [.c (.bp 1000 gr 0)]) tysOk Tryz.func213 rfl Tryz.ntmps213 Tryz.results213 (by kernel_rfl) (by simp) hI [rdrB gr a xs.length c (o, e)] hS hSI (fun W => Sv.ok dByte W (a, xs.length, c) xs) h fun C hC hN ok => ?_
  by_cases he : e = 0
  · subst he
    have ho := hr.2 rfl
    simp only at ho
    simp [hN]
    refine drawK ok mixed (by kernel_rfl) ?_
    simp (maxSteps := 2000000) -implicitDefEqProofs [hN]
    refine call0 ok rfl rfl rfl (fun w I hI hG => getText0 w I hI (a := a) (n := xs.length) (c := c) xs (fun W e => hG W e) hb o (by omega)) fun _ W _ => ?_
    simp (maxSteps := 2000000) -implicitDefEqProofs [hN]
    exact retS hC () [1000] rfl (by simp) fun _ _ _ => trivial
  · have hg : textR xs (o, e) = (emp, (o, e)) := by unfold textR; rw [if_pos he]
    rw [hg] at hC
    simp [hN, he]
    exact retS hC () [1000] rfl (by simp) fun _ _ _ => trivial
end Go.Proofs.YtbbaoeidobdblaaGreat.Sx

/- pack.reader: inode. -/
set_option linter.unusedVariables false
set_option linter.unusedSimpArgs false
namespace Go.Proofs.YtbbaoeidobdblaaGreat.Sx
open Go
attribute [local simp ↓] ifb_true' ifb_false'
attribute [local simp] ifb_true ifb_false ifb_eq sx argsT find ev evOp evs evo evBin evInt evStr evNil evNilA ptrA slcA isNoneA asB evLoad look del cellsB evUn evConv kdec fld evFieldA evField evIdxA evIdx evSlc bndL bndH evLen mmi put resV guardV gvL setO tupV cellsOf ones one upd lits nv exitTo SV.val CV.val TI.agg rdyA allR keepB scan simpO gsp isS subs keepT pickT wr memN pubs Res.fact Region.binds bld rest give delL back Res.eqv vi vb num Sv.val undef
abbrev entC (x : Ent) : List Value := [.string x.name, .int .i64 x.no]
def eC (l : List Ent) : List CV := l.flatMap fun y => (entC y).map .v
theorem eC_snoc (l : List Ent) (y : Ent) : eC (l ++ [y]) = eC l ++ (entC y).map .v := by simp [eC]
theorem eC_val (l : List Ent) : (eC l).map CV.val = l.flatMap entC := by
  induction l with
  | nil => rfl
  | cons x r ih => simp [eC, CV.val] at ih ⊢; exact ih
theorem rowsE {W : World} {xs : List Ent} {l : List Value} : Rows dEnt W xs l ↔ l = xs.flatMap entC := by
  unfold dEnt
  rw [rows_flat]
theorem ptr_zero (w : World) : (zeroValue 255).run Tryz.prog w = .ok (.agg #[.pointer none, .pointer none, .pointer none, .pointer none]) w := by kernel_rfl
theorem ptr_build (a b c d : Option Addr) (w : World) : (Instr.build 255 #[(0, .pointer a), (1, .pointer b), (2, .pointer c), (3, .pointer d)]).run Tryz.prog w = .ok (.agg #[.pointer a, .pointer b, .pointer c, .pointer d]) w := by
  have hs : (sizeOf 254).run Tryz.prog w = .ok 1 w := by kernel_rfl
  simp [Instr.build, ptr_zero, run_underlying Tryz.underlying255, hs, Instr.fill, Value.cells]
theorem rsOk_nth {l : List Int} {r : Rs} (h : rsOk l.length r) : ∀ i, rsOk l.length (nthR l r i)
  | 0 => h
  | i + 1 => rsOk_int (rsOk_nth h i)
theorem getR_val {xs : List Int} (hb : ∀ x, x ∈ xs → 0 ≤ x ∧ x ≤ 255) (r : Rs) (k : Nat) : 0 ≤ (getR xs r k).1 ∧ (getR xs r k).1 < 256 ^ k := by
  unfold getR
  split
  · exact ⟨Int.le_refl _, Int.pow_pos (by decide)⟩
  · have := getM_le hb r.1 k
    unfold getM at this
    split
    · exact ⟨Int.le_refl _, Int.pow_pos (by decide)⟩
    · rename_i h
      rw [if_neg h] at this
      exact this
theorem many_stop {α : Type} (f : Rs → α × Rs) {n : Nat} {r : Rs} (h : ¬ (0 < n ∧ r.2 = 0)) : manyR f n r = ([], r) := by
  cases n with
  | zero => rfl
  | succ n => unfold manyR; rw [if_pos (fun h2 => h ⟨by omega, h2⟩)]
theorem many_len {α : Type} (f : Rs → α × Rs) (L : Nat) (hf : ∀ r, (f r).2.2 = 0 → r.2 = 0 ∧ r.1 + 1 ≤ (f r).2.1 ∧ (f r).2.1 ≤ L) (n : Nat) (r : Rs) (hr : rsOk L r) : (manyR f n r).1.length ≤ L + 1 := by
  by_cases h : r.2 = 0
  · have := (manyR_le f L hf n r (hr.2 h)).1
    omega
  · rw [many_stop f (fun h2 => h h2.2)]
    exact Nat.zero_le _
/-- The first i of four. -/
def four (l : List Int) (r : Rs) (i j : Nat) : Int := if j < i then (intR l (nthR l r j)).1 else 0
set_option maxHeartbeats 4000000 in
set_option maxRecDepth 100000 in
theorem rinode0 (w : World) (I S : Nat → Prop) (hI : ∀ b, I b → b < w.heap.size) (gr : Nat) {a : Option Addr} {n c : Nat} (xs : List Int) (hx10 : xs.length ≤ 10000000000) (h : ∀ W, Ext I w W → Sv.ok dByte W (a, n, c) xs) (hb : ∀ x, x ∈ xs → 0 ≤ x ∧ x ≤ 255) (r : Rs) (hr : rsOk xs.length r) (hS : Owns [rdrB gr a n c r] S w) (hSI : ∀ b, S b → b < w.heap.size ∧ ¬ I b) :
    FnS Tryz.prog 200 #[ptrV gr] w I S (fun x : Sl × Sl => .agg (inoC (inoR xs r).1 x.1 x.2).toArray) (fun _ => [rdrB gr a n c (inoR xs r).2]) (fun x W => InoR W (inoR xs r).1 x.1 x.2) := by
  have hl := (h w (Ext.refl _ _)).2.2.1
  refine enterS (svs := [.c (.bp 1000 gr 0)]) tysOk Tryz.func200 rfl Tryz.ntmps200 Tryz.results200 (by kernel_rfl) (by simp) hI [rdrB gr a n c r] hS hSI (fun W => Sv.ok dByte W (a, n, c) xs) h fun C hC hN ok => ?_
  simp [hN]
  intro g2 g3
  refine bld4 ok rfl rfl rfl rfl rfl rfl (.ag [.bp 3 g3 0, .bp 3 g3 1, .bp 3 g3 2, .bp 3 g3 3]) (fun w => ptr_build _ _ _ _ w) ?_
  simp [hN]
  refine loopK [0, 2, 3, 15] ok (fun i : Nat => [(16, .c (.v (.int .i64 (i : Nat))))]) (fun i => [(1000, rdrB gr a n c (nthR xs r i)), (2, .box g2 44 [.v (.int .i64 0), .v (.int .i64 0), .v (.int .i64 0), .v (.int .i64 0), .v (.string ⟨#[]⟩), .v (.slice none 0 0), .v (.slice none 0 0)]), (3, .box g3 44 [.v (.int .i64 (four xs r i 0)), .v (.int .i64 (four xs r i 1)), .v (.int .i64 (four xs r i 2)), .v (.int .i64 (four xs r i 3)), .v (.string ⟨#[]⟩), .v (.slice none 0 0), .v (.slice none 0 0)])]) (fun i W => i ≤ 4) (fun i => 4 - i) 0 ?_ ?_ (fun W hW => Nat.zero_le _) ?_
  · simp
  · simp [four, nthR]
  rintro i W hi hG next
  have rd := fun i => rsOk_nth hr i
  obtain h4 | rfl : i < 4 ∨ i = 4 := by omega
  · obtain ⟨g, hg⟩ : ∃ v, ([.bp 3 g3 0, .bp 3 g3 1, .bp 3 g3 2, .bp 3 g3 3] : List CV)[i]? = some v ∧ v = .bp 3 g3 i := by
      obtain rfl | rfl | rfl | rfl : i = 0 ∨ i = 1 ∨ i = 2 ∨ i = 3 := by omega
      all_goals exact ⟨_, rfl, rfl⟩
    obtain ⟨hg, rfl⟩ := hg
    have e6 : IntKind.i64.wrap ((i : Int) + 1) = (i + 1 : Nat) := by rw [w64 (by omega) (by omega)]; omega
    have hlt' : (i : Int) < 4 := by omega
    simp [hN, hlt']
    refine idxK ok rfl rfl (n := i) rfl rfl rfl rfl rfl rfl h4 hg ?_
    simp [hN]
    refine callS ok rfl rfl rfl [1000] [rdrB gr a n c (nthR xs r i)] (by simp) rfl (fun _ : Unit => [(1000, rdrB gr a n c (nthR xs r (i + 1)))]) (fun w I S hI hG hO hS' => rint0 w I S hI gr xs (fun W e => (hG W e).2) hb _ (rd i) hO hS') (fun r => by simp [nthR]) (.inr fun x q hq => by simp at hq; subst hq; simp) fun _ W _ => ?_
    simp [hN, e6]
    refine ⟨by omega, next (i + 1) _ _ (by omega) (fun W h => ⟨by omega, h.2⟩) ?_⟩
    obtain rfl | rfl | rfl | rfl : i = 0 ∨ i = 1 ∨ i = 2 ∨ i = 3 := by omega
    all_goals simp [four]
  clear next
  simp [hN]
  refine callS ok rfl rfl rfl [1000] [rdrB gr a n c (nthR xs r 4)] (by simp) rfl (fun _ : Unit => [(1000, rdrB gr a n c (inoA xs r).2)]) (fun w I S hI hG hO hS' => rtext0 w I S hI gr xs (fun W e => (hG W e)) hb _ (rd 4) hO hS') (fun r => by simp [inoA]) (.inr fun x q hq => by simp at hq; subst hq; simp) fun _ W _ => ?_
  have rA : rsOk xs.length (inoA xs r).2 := rsOk_text (rd 4)
  have hT : textR xs (nthR xs r 4) = inoA xs r := rfl
  rw [hT]
  simp [hN]
  refine callS ok rfl rfl rfl [1000] [rdrB gr a n c (inoA xs r).2] (by simp) rfl (fun _ : Unit => [(1000, rdrB gr a n c (inoN xs r).2)]) (fun w I S hI hG hO hS' => rget0 w I S hI gr xs (fun W e => (hG W e)) hb _ rA 4 (by decide) hO hS') (fun r => by simp [inoN]) (.inr fun x q hq => by simp at hq; subst hq; simp) fun _ W _ => ?_
  have rN : rsOk xs.length (inoN xs r).2 := rsOk_get rA (by decide)
  have hT : getR xs (inoA xs r).2 4 = inoN xs r := rfl
  rw [hT]
  have hM := getR_val hb (inoA xs r).2 4
  rw [hT] at hM
  obtain ⟨M, hM1⟩ : ∃ M : Nat, (inoN xs r).1 = M := ⟨(inoN xs r).1.toNat, by omega⟩
  have hM2 : M < 4294967296 := by have := hM.2; rw [hM1] at this; simp at this; omega
  have hE : inoE xs r = manyR (entR xs) M (inoN xs r).2 := by rw [inoE, hM1]; rfl
  rw [hM1]
  clear hM hM1
  simp [hN]
  generalize (inoN xs r).2 = r0 at rN hE
  refine nilr 600 127 2 (nilr 601 139 3 (retell 3 (by simp; rfl) (r' := .box g3 44 [.v (.int .i64 (four xs r 4 0)), .v (.int .i64 (four xs r 4 1)), .v (.int .i64 (four xs r 4 2)), .v (.int .i64 (four xs r 4 3)), .v (.string (inoA xs r).1), .rw 600 none 0 0, .rw 601 none 0 0]) (by simp [Res.eqv]) ?_))
  refine loopK [0, 2, 3] ok (fun y : Nat × Rs × List Ent × Sl => [(6, .c (.v (.int .u64 (y.1 : Nat))))]) (fun y => [(1000, rdrB gr a n c y.2.1), (2, .box g2 44 [.v (.int .i64 0), .v (.int .i64 0), .v (.int .i64 0), .v (.int .i64 0), .v (.string ⟨#[]⟩), .v (.slice none 0 0), .v (.slice none 0 0)]), (3, .box g3 44 [.v (.int .i64 (four xs r 4 0)), .v (.int .i64 (four xs r 4 1)), .v (.int .i64 (four xs r 4 2)), .v (.int .i64 (four xs r 4 3)), .v (.string (inoA xs r).1), .rw 600 y.2.2.2.1 y.2.2.1.length y.2.2.2.2, .rw 601 none 0 0]), (600, .row y.2.2.2.1 y.2.2.1.length y.2.2.2.2 127 2 (eC y.2.2.1)), (601, .row none 0 0 139 3 [])]) (fun y W => y.1 ≤ M ∧ rsOk xs.length y.2.1 ∧ manyR (entR xs) M r0 = (y.2.2.1 ++ (manyR (entR xs) y.1 y.2.1).1, (manyR (entR xs) y.1 y.2.1).2)) (fun y => y.1) (M, r0, [], (none, 0)) ?_ ?_ (fun W hW => ⟨Nat.le_refl _, rN, rfl⟩) ?_
  · simp
  · simp [eC]
  rintro ⟨k, q, acc, ea, ec⟩ W ⟨hk, hq, hm⟩ hG next
  simp only at hk hq hm
  have hal : acc.length ≤ xs.length + 1 := by
    have := many_len (entR xs) xs.length (fun r h => entR_le h) M r0 rN
    rw [hm, List.length_append] at this
    omega
  by_cases hgo : 0 < k ∧ q.2 = 0
  · obtain ⟨hk0, hq0⟩ := hgo
    obtain ⟨k, rfl⟩ : ∃ j, k = j + 1 := ⟨k - 1, by omega⟩
    have e6 : IntKind.u64.wrap (k : Int) = (k : Nat) := by rw [u64_wrap]; omega
    simp [hN, hq0]
    refine callS ok rfl rfl rfl [1000] [rdrB gr a n c q] (by simp) rfl (fun _ : Unit => [(1000, rdrB gr a n c (textR xs q).2)]) (fun w I S hI hG hO hS' => rtext0 w I S hI gr xs (fun W e => (hG W e).2) hb _ hq hO hS') (fun r => by simp) (.inr fun x q hq => by simp at hq; subst hq; simp) fun _ W _ => ?_
    simp [hN]
    refine drawW ok mixed (by kernel_rfl) ?_
    simp (maxSteps := 2000000) -implicitDefEqProofs [hN]
    have hmk : manyR (entR xs) (k + 1) q = ((entR xs q).1 :: (manyR (entR xs) k (entR xs q).2).1, (manyR (entR xs) k (entR xs q).2).2) := by rw [manyR, if_neg (by simp [hq0])]
    have hq2 : rsOk xs.length (entR xs q).2 := rsOk_int (rsOk_text hq)
    have fin : ∀ (g' c' g48 : Nat) tm m, (∀ W, m.G W → Sv.ok dByte W (a, n, c) xs) → subs tm ([(6, .c (.v (.int .u64 (k : Nat))))] ++ [(3, .c (.bp 3 g3 0)), (2, .c (.bp 2 g2 0)), (0, .c (.bp 1000 gr 0))]) → keepB m.rs [(1000, rdrB gr a n c (entR xs q).2), (2, .box g2 44 [.v (.int .i64 0), .v (.int .i64 0), .v (.int .i64 0), .v (.int .i64 0), .v (.string ⟨#[]⟩), .v (.slice none 0 0), .v (.slice none 0 0)]), (3, .box g3 44 [.v (.int .i64 (four xs r 4 0)), .v (.int .i64 (four xs r 4 1)), .v (.int .i64 (four xs r 4 2)), .v (.int .i64 (four xs r 4 3)), .v (.string (inoA xs r).1), .rw 600 (some ⟨g', 0, none⟩) (acc.length + 1) c', .rw 601 none 0 0]), (600, .row (some ⟨g', 0, none⟩) (acc.length + 1) c' 127 2 (eC acc ++ [.v (.string (textR xs q).1), .v (.int .i64 (intR xs (textR xs q).2).1)])), (601, .row none 0 0 139 3 [])] → At C _ tm m := fun g' c' g48 tm m hG ht hr => next (k, (entR xs q).2, acc ++ [(entR xs q).1], (some ⟨g', 0, none⟩, c')) _ _ (by simp only; omega) (fun W h => ⟨⟨by simp only; omega, hq2, by rw [hm, hmk]; simp⟩, hG W h⟩) ⟨by simpa using ht, by simpa [eC_snoc, entR] using hr⟩
    refine ⟨?_, ?_⟩
    · refine callS ok rfl rfl rfl [1000] [rdrB gr a n c (textR xs q).2] (by simp) rfl (fun _ : Unit => [(1000, rdrB gr a n c (entR xs q).2)]) (fun w I S hI hG hO hS' => rint0 w I S hI gr xs (fun W e => (hG W e).2) hb _ (rsOk_text hq) hO hS') (fun r => by simp [entR]) (.inr fun x q hq => by simp at hq; subst hq; simp) fun _ W _ => ?_
      simp (maxSteps := 2000000) -implicitDefEqProofs [hN]
      intro g48
      refine appR ok 600 48 rfl rfl rfl rfl rfl (by decide) rfl rfl rfl rfl rfl rfl rfl (by decide) (by simp) (by show (_ + 1) * 24 ≤ _; omega) (by omega) fun g' c' => ?_
      simp (maxSteps := 2000000) -implicitDefEqProofs [hN, e6]
      exact fin g' c' g48 _ _ (fun W h => h.2) (by simp) (by simp)
    · refine callS ok rfl rfl rfl [1000] [rdrB gr a n c (textR xs q).2] (by simp) rfl (fun _ : Unit => [(1000, rdrB gr a n c (entR xs q).2)]) (fun w I S hI hG hO hS' => rint0 w I S hI gr xs (fun W e => (hG W e).2) hb _ (rsOk_text hq) hO hS') (fun r => by simp [entR]) (.inr fun x q hq => by simp at hq; subst hq; simp) fun _ W _ => ?_
      simp (maxSteps := 2000000) -implicitDefEqProofs [hN]
      refine ⟨fun g48 => ?_, fun g48 => ?_⟩
      all_goals
        refine appR ok 600 48 rfl rfl rfl rfl rfl (by decide) rfl rfl rfl rfl rfl rfl rfl (by decide) (by simp) (by show (_ + 1) * 24 ≤ _; omega) (by omega) fun g' c' => ?_
        simp (maxSteps := 2000000) -implicitDefEqProofs [hN, e6]
        exact fin g' c' g48 _ _ (fun W h => h.2) (by simp) (by simp)
  have hx := many_stop (entR xs) hgo
  rw [hx] at hm
  simp only [List.append_nil] at hm
  have hEE : inoE xs r = (acc, q) := by rw [hE, hm]
  clear next hx hm hE
  refine cutK ok (p := ?pos) [(51, .c (.bp 1000 gr 0)), (3, .c (.bp 3 g3 0)), (2, .c (.bp 2 g2 0)), (0, .c (.bp 1000 gr 0))] (fun W => Sv.ok dByte W (a, n, c) xs) [(1000, rdrB gr a n c q), (2, .box g2 44 [.v (.int .i64 0), .v (.int .i64 0), .v (.int .i64 0), .v (.int .i64 0), .v (.string ⟨#[]⟩), .v (.slice none 0 0), .v (.slice none 0 0)]), (3, .box g3 44 [.v (.int .i64 (four xs r 4 0)), .v (.int .i64 (four xs r 4 1)), .v (.int .i64 (four xs r 4 2)), .v (.int .i64 (four xs r 4 3)), .v (.string (inoA xs r).1), .rw 600 ea acc.length ec, .rw 601 none 0 0]), (600, .row ea acc.length ec 127 2 (eC acc)), (601, .row none 0 0 139 3 [])] ?rest fun R => ?main
  case main =>
    by_cases hk0 : 0 < k
    · have hq0 : ¬ q.2 = 0 := fun h => hgo ⟨hk0, h⟩
      have hk1 : (0 : Int) < (k : Nat) := by omega
      simp [hN, hk0, hq0]
      refine R _ _ ?_ ?_
      · exact fun W h => h.2
      · simp
    · obtain rfl : k = 0 := by omega
      simp [hN]
      refine R _ _ ?_ ?_
      · exact fun W h => h.2
      · simp
  case rest =>
    have hE1 : (inoE xs r).1 = acc := by rw [hEE]
    have hE2 : (inoE xs r).2 = q := by rw [hEE]
    clear hgo hEE hk k
    simp [hN]
    refine callS ok rfl rfl rfl [1000] [rdrB gr a n c q] (by simp) rfl (fun _ : Unit => [(1000, rdrB gr a n c (inoM xs r).2)]) (fun w I S hI hG hO hS' => rget0 w I S hI gr xs (fun W e => (hG W e)) hb _ hq 4 (by decide) hO hS') (fun _ => by simp [inoM, hE2]) (.inr fun x q hq => by simp at hq; subst hq; simp) fun _ W _ => ?_
    have rM : rsOk xs.length (inoM xs r).2 := by rw [inoM, hE2]; exact rsOk_get hq (by decide)
    have hT : getR xs q 4 = inoM xs r := by rw [inoM, hE2]
    rw [hT]
    have hM := getR_val hb q 4
    rw [hT] at hM
    obtain ⟨K, hK1⟩ : ∃ K : Nat, (inoM xs r).1 = K := ⟨(inoM xs r).1.toNat, by omega⟩
    have hK2 : K < 4294967296 := by have := hM.2; rw [hK1] at this; simp at this; omega
    have hU : inoU xs r = manyR (rnR xs) K (inoM xs r).2 := by rw [inoU, hK1]; rfl
    rw [hK1]
    clear hM hK1 hq hE2 hT
    simp [hN]
    generalize (inoM xs r).2 = r1 at rM hU
    clear q
    refine loopK [0, 2, 3] ok (fun y : Nat × Rs × List Rn × Sl => [(8, .c (.v (.int .u64 (y.1 : Nat))))]) (fun y => [(1000, rdrB gr a n c y.2.1), (2, .box g2 44 [.v (.int .i64 0), .v (.int .i64 0), .v (.int .i64 0), .v (.int .i64 0), .v (.string ⟨#[]⟩), .v (.slice none 0 0), .v (.slice none 0 0)]), (3, .box g3 44 [.v (.int .i64 (four xs r 4 0)), .v (.int .i64 (four xs r 4 1)), .v (.int .i64 (four xs r 4 2)), .v (.int .i64 (four xs r 4 3)), .v (.string (inoA xs r).1), .rw 600 ea acc.length ec, .rw 601 y.2.2.2.1 y.2.2.1.length y.2.2.2.2]), (600, .row ea acc.length ec 127 2 (eC acc)), (601, .row y.2.2.2.1 y.2.2.1.length y.2.2.2.2 139 3 (rC y.2.2.1))]) (fun y W => y.1 ≤ K ∧ rsOk xs.length y.2.1 ∧ manyR (rnR xs) K r1 = (y.2.2.1 ++ (manyR (rnR xs) y.1 y.2.1).1, (manyR (rnR xs) y.1 y.2.1).2)) (fun y => y.1) (K, r1, [], (none, 0)) ?_ ?_ (fun W hW => ⟨Nat.le_refl _, rM, rfl⟩) ?_
    · simp
    · simp [rC]
    rintro ⟨k, q, bcc, ra, rc⟩ W ⟨hk, hq, hm⟩ hG next
    simp only at hk hq hm
    have hbl : bcc.length ≤ xs.length + 1 := by
      have := many_len (rnR xs) xs.length (fun r h => rnR_le h) K r1 rM
      rw [hm, List.length_append] at this
      omega
    by_cases hgo : 0 < k ∧ q.2 = 0
    · obtain ⟨hk0, hq0⟩ := hgo
      obtain ⟨k, rfl⟩ : ∃ j, k = j + 1 := ⟨k - 1, by omega⟩
      have e6 : IntKind.u64.wrap (k : Int) = (k : Nat) := by rw [u64_wrap]; omega
      have hmk : manyR (rnR xs) (k + 1) q = ((rnR xs q).1 :: (manyR (rnR xs) k (rnR xs q).2).1, (manyR (rnR xs) k (rnR xs q).2).2) := by rw [manyR, if_neg (by simp [hq0])]
      have hq2 : rsOk xs.length (rnR xs q).2 := rsOk_nth hq 3
      simp [hN, hq0]
      intro g9
      refine loopK [0, 2, 3, 8, 9] ok (fun i : Nat => [(64, .c (.v (.int .i64 (i : Nat))))]) (fun i => [(1000, rdrB gr a n c (nthR xs q i)), (9, .box g9 256 [.v (.int .i64 (four xs q i 0)), .v (.int .i64 (four xs q i 1)), .v (.int .i64 (four xs q i 2))]), (2, .box g2 44 [.v (.int .i64 0), .v (.int .i64 0), .v (.int .i64 0), .v (.int .i64 0), .v (.string ⟨#[]⟩), .v (.slice none 0 0), .v (.slice none 0 0)]), (3, .box g3 44 [.v (.int .i64 (four xs r 4 0)), .v (.int .i64 (four xs r 4 1)), .v (.int .i64 (four xs r 4 2)), .v (.int .i64 (four xs r 4 3)), .v (.string (inoA xs r).1), .rw 600 ea acc.length ec, .rw 601 ra bcc.length rc]), (600, .row ea acc.length ec 127 2 (eC acc)), (601, .row ra bcc.length rc 139 3 (rC bcc))]) (fun i W => i ≤ 3) (fun i => 3 - i) 0 ?_ ?_ (fun W hW => Nat.zero_le _) ?_
      · simp
      · simp [four, nthR]
      rintro i W hi hG2 next2
      rcases Nat.lt_or_ge i 3 with hlt | hge
      · have e7 : IntKind.i64.wrap ((i : Int) + 1) = (i + 1 : Nat) := by rw [w64 (by omega) (by omega)]; omega
        have hlt' : (i : Int) < 3 := by omega
        simp [hN, hlt']
        refine callS ok rfl rfl rfl [1000] [rdrB gr a n c (nthR xs q i)] (by simp) rfl (fun _ : Unit => [(1000, rdrB gr a n c (nthR xs q (i + 1)))]) (fun w I S hI hG hO hS' => rint0 w I S hI gr xs (fun W e => (hG W e).2.2) hb _ (rsOk_nth hq i) hO hS') (fun r => by simp [nthR]) (.inr fun x q hq => by simp at hq; subst hq; simp) fun _ W _ => ?_
        simp [hN, e7, hlt]
        refine ⟨hlt', by omega, next2 (i + 1) _ _ (by omega) (fun W h => ⟨hlt, h.2⟩) ?_⟩
        obtain rfl | rfl | rfl : i = 0 ∨ i = 1 ∨ i = 2 := by omega
        all_goals simp [four]
      · obtain rfl : i = 3 := by omega
        simp [hN]
        intro g81
        refine appR ok 601 81 rfl rfl rfl rfl rfl (by decide) rfl rfl rfl rfl rfl rfl rfl (by decide) (by simp) (by show (_ + 1) * 24 ≤ _; omega) (by omega) fun g' c' => ?_
        simp [hN, e6]
        exact next (k, (rnR xs q).2, bcc ++ [(rnR xs q).1], (some ⟨g', 0, none⟩, c')) _ _ (by simp only; omega) (fun W h => ⟨⟨by simp only; omega, hq2, by rw [hm, hmk]; simp⟩, h.2⟩) (by simp [rC_snoc, rnR, nthR, four])
    have hx := many_stop (rnR xs) hgo
    rw [hx] at hm
    simp only [List.append_nil] at hm
    rw [hm] at hU
    have hU1 : (inoU xs r).1 = bcc := by rw [hU]
    have hU2 : (inoU xs r).2 = q := by rw [hU]
    have hfin : (inoR xs r) = (⟨four xs r 4 0, four xs r 4 1, four xs r 4 2, four xs r 4 3, (inoA xs r).1, acc, bcc⟩, q) := by
      simp [inoR, hU1, hU2, hE1, four, nthR]
    rw [hfin] at hC
    clear next hx hm hU
    by_cases hk0 : 0 < k
    case' pos =>
      have hq0 : ¬ q.2 = 0 := fun h => hgo ⟨hk0, h⟩
      simp [hN, hk0, hq0]
    case' neg =>
      obtain rfl : k = 0 := by omega
      simp [hN]
    all_goals
      refine retS hC ((ea, ec), (ra, rc)) [1000] rfl (by simp) fun W hp hG => ⟨?_, ?_⟩
      · exact (Rows.sv (d := dEnt) (xs := acc) (rowsE.2 (eC_val acc)) (by decide) (by omega) hp.2.2.1).2
      · exact (Rows.sv (d := dRn) (xs := bcc) (rowsR.2 (rC_val bcc)) (by decide) (by omega) hp.2.2.2.1).2
end Go.Proofs.YtbbaoeidobdblaaGreat.Sx

/- pack.reader: deed; pack.Parse. -/
set_option linter.unusedVariables false
set_option linter.unusedSimpArgs false
namespace Go.Proofs.YtbbaoeidobdblaaGreat.Sx
open Go
attribute [local simp ↓] ifb_true' ifb_false'
attribute [local simp] ifb_true ifb_false ifb_eq sx argsT find ev evOp evs evo evBin evInt evStr evNil evNilA ptrA slcA isNoneA asB evLoad look del cellsB evUn evConv kdec fld evFieldA evField evIdxA evIdx evSlc bndL bndH evLen mmi put resV guardV gvL setO tupV cellsOf ones one upd lits nv exitTo SV.val CV.val TI.agg rdyA allR keepB scan simpO gsp isS subs keepT pickT wr memN pubs Res.fact Region.binds bld rest give delL back Res.eqv vi vb num Sv.val undef
theorem many_back {α : Type} {f : Rs → α × Rs} {n : Nat} {r : Rs} (h : (manyR f n r).2.2 = 0) : r.2 = 0 := by
  by_cases h0 : r.2 = 0
  · exact h0
  · rw [many_stop f (fun h2 => h0 h2.2)] at h
    exact absurd h h0
theorem nth_le {l : List Int} {r : Rs} : ∀ i, (nthR l r i).2 = 0 → r.2 = 0 ∧ r.1 ≤ (nthR l r i).1 ∧ (r.1 ≤ l.length → (nthR l r i).1 ≤ l.length)
  | 0, h => ⟨h, Nat.le_refl _, id⟩
  | i + 1, h => by
    have h1 := intR_le (r := nthR l r i) h
    have h2 := nth_le i h1.1
    have e : (nthR l r (i + 1)).1 = (nthR l r i).1 + 8 := h1.2.1
    exact ⟨h2.1, by omega, fun _ => by omega⟩
theorem inoR_le {l : List Int} {r : Rs} (h : (inoR l r).2.2 = 0) : r.2 = 0 ∧ r.1 + 4 ≤ (inoR l r).2.1 ∧ (inoR l r).2.1 ≤ l.length := by
  have hU : (inoU l r).2.2 = 0 := h
  have hM : (inoM l r).2.2 = 0 := many_back hU
  have hE : (inoE l r).2.2 = 0 := getR_back hM
  have hN : (inoN l r).2.2 = 0 := many_back hE
  have hA : (inoA l r).2.2 = 0 := getR_back hN
  have h4 := nth_le 4 (textR_back hA)
  have lA : _ ∧ (inoA l r).2.1 ≤ l.length := textR_le hA
  have lN : (inoN l r).2.1 = _ ∧ _ := getR_le hA hN
  have lE : _ ∧ _ ≤ (inoE l r).2.1 ∧ (inoE l r).2.1 ≤ l.length := (manyR_le (entR l) l.length (fun r h => entR_le h) _ (inoN l r).2 (by rw [lN.1]; exact lN.2)).2 hE
  have lM : (inoM l r).2.1 = _ ∧ _ := getR_le hE hM
  have lU : _ ∧ _ ≤ (inoU l r).2.1 ∧ (inoU l r).2.1 ≤ l.length := (manyR_le (rnR l) l.length (fun r h => rnR_le h) _ (inoM l r).2 (by rw [lM.1]; exact lM.2)).2 hU
  refine ⟨h4.1, ?_, lU.2.2⟩
  have e : (inoR l r).2.1 = (inoU l r).2.1 := rfl
  have l1 : (nthR l r 4).1 + 4 ≤ (inoA l r).2.1 := lA.1
  omega
theorem deeR_le {l : List Int} {o : Nat} (h : (deeR l o).2.2 = 0) : o + 1 ≤ (deeR l o).2.1 ∧ (deeR l o).2.1 ≤ l.length := by
  unfold deeR at h ⊢
  split at h
  · rename_i h1
    rw [if_pos h1]
    have h2 := intR_le (r := (getR l (o, 0) 1).2) h
    have h3 := getR_le (r := (o, 0)) rfl h2.1
    simp only at h2 h3 ⊢
    omega
  · rename_i h1
    rw [if_neg h1]
    split at h
    · rename_i h4
      rw [if_pos h4]
      have h2 := inoR_le (r := (getR l (o, 0) 1).2) h
      have h3 := getR_le (r := (o, 0)) rfl h2.1
      simp only at h2 h3 ⊢
      omega
    · cases h
theorem parse_fuel (l : List Int) : ∀ (f g o : Nat), l.length - o ≤ f → l.length - o ≤ g → parseN l f o = parseN l g o
  | 0, 0, o, _, _ => rfl
  | 0, g + 1, o, hf, hg => by rw [parseN, parseN, if_pos (by omega)]
  | f + 1, 0, o, hf, hg => by rw [parseN, parseN, if_pos (by omega)]
  | f + 1, g + 1, o, hf, hg => by
    rw [parseN, parseN]
    by_cases h : l.length ≤ o
    · rw [if_pos h, if_pos h]
    · rw [if_neg h, if_neg h]
      by_cases h2 : (deeR l o).2.2 = 0
      · have h3 := deeR_le h2
        rw [parse_fuel l f g (deeR l o).2.1 (by omega) (by omega)]
      · rw [if_pos h2, if_pos h2]
set_option maxHeartbeats 2000000 in
theorem rdeed0 (w : World) (I S : Nat → Prop) (hI : ∀ b, I b → b < w.heap.size) (gr : Nat) {a : Option Addr} {n c : Nat} (xs : List Int) (hx10 : xs.length ≤ 10000000000) (h : ∀ W, Ext I w W → Sv.ok dByte W (a, n, c) xs) (hb : ∀ x, x ∈ xs → 0 ≤ x ∧ x ≤ 255) (o : Nat) (ho : o ≤ xs.length) (hS : Owns [rdrB gr a n c (o, 0)] S w) (hSI : ∀ b, S b → b < w.heap.size ∧ ¬ I b) :
    FnS Tryz.prog 167 #[ptrV gr] w I S (fun x : Sl × Sl => .agg (deeC (deeR xs o).1 x.1 x.2).toArray) (fun _ => [rdrB gr a n c (deeR xs o).2]) (fun x W => InoR W (deeR xs o).1.ino x.1 x.2) := by
  have hr : rsOk xs.length (o, 0) := ⟨by simp only; omega, fun _ => ho⟩
  refine enterS (svs := [.c (.bp 1000 gr 0)]) tysOk Tryz.func167 rfl Tryz.ntmps167 Tryz.results167 (by kernel_rfl) (by simp) hI [rdrB gr a n c (o, 0)] hS hSI (fun W => Sv.ok dByte W (a, n, c) xs) h fun C hC hN ok => ?_
  simp [hN]
  intro g2
  refine callS ok rfl rfl rfl [1000] [rdrB gr a n c (o, 0)] (by simp) rfl (fun _ : Unit => [(1000, rdrB gr a n c (getR xs (o, 0) 1).2)]) (fun w I S hI hG hO hS' => rget0 w I S hI gr xs (fun W e => (hG W e)) hb _ hr 1 (by decide) hO hS') (fun r => by simp) (.inr fun x q hq => by simp at hq; subst hq; simp) fun _ W _ => ?_
  have hr1 : rsOk xs.length (getR xs (o, 0) 1).2 := rsOk_get hr (by decide)
  have hv := getR_val hb (o, 0) 1
  have hD := deeR.eq_1 xs o
  generalize getR xs (o, 0) 1 = G at hr1 hv hD ⊢
  obtain ⟨v, q⟩ := G
  simp only at hr1 hv hD ⊢
  have e1 : IntKind.i64.wrap v = v := w64 (by omega) (by have := hv.2; simp at this; omega)
  have nilR : ∀ W, InoR W inoZ (none, 0) (none, 0) := fun W => ⟨⟨by simp [inoZ], by simp [inoZ], rd_nil _ _ _⟩, ⟨by simp [inoZ], by simp [inoZ], rd_nil _ _ _⟩⟩
  by_cases h1 : v = 1 ∨ v = 3 ∨ v = 4
  · rw [if_pos h1] at hD
    rw [hD] at hC
    rcases h1 with rfl | rfl | rfl
    all_goals
      simp [hN, e1]
      intro g3
      refine callS ok rfl rfl rfl [1000] [rdrB gr a n c q] (by simp) rfl (fun _ : Unit => [(1000, rdrB gr a n c (intR xs q).2)]) (fun w I S hI hG hO hS' => rint0 w I S hI gr xs (fun W e => (hG W e)) hb _ hr1 hO hS') (fun r => by simp) (.inr fun x q hq => by simp at hq; subst hq; simp) fun _ W _ => ?_
      simp [hN]
      exact retS hC ((none, 0), (none, 0)) [1000] rfl (by simp) fun W _ _ => nilR W
  rw [if_neg h1] at hD
  have n1 : ¬ v = 1 := fun h => h1 (.inl h)
  have n3 : ¬ v = 3 := fun h => h1 (.inr (.inl h))
  have n4 : ¬ v = 4 := fun h => h1 (.inr (.inr h))
  by_cases h2 : v = 2
  · subst h2
    rw [if_pos rfl] at hD
    rw [hD] at hC
    simp [hN, e1]
    intro g3
    refine callS ok rfl rfl rfl [1000] [rdrB gr a n c q] (by simp) rfl (fun _ : Sl × Sl => [(1000, rdrB gr a n c (inoR xs q).2)]) (fun w I S hI hG hO hS' => rinode0 w I S hI gr xs hx10 (fun W e => (hG W e)) hb _ hr1 hO hS') (fun r => by simp) (.inr fun x q hq => by simp at hq; subst hq; simp) fun y W hy => ?_
    simp [hN]
    exact retS hC y [1000] rfl (by simp) fun W _ hG => hG.1
  · rw [if_neg h2] at hD
    rw [hD] at hC
    simp [hN, e1, n1, n3, n4, h2]
    intro g3
    exact retS hC ((none, 0), (none, 0)) [1000] rfl (by simp) fun W _ _ => nilR W
/-- What comes first, and then the rest. -/
def combP (acc : List Dee) (x : List Dee × Int) : List Dee × Int := if x.2 ≠ 0 then ([], x.2) else (acc ++ x.1, 0)
theorem parse_err (l : List Int) : ∀ (f o : Nat), (parseN l f o).2 ≠ 0 → (parseN l f o).1 = []
  | 0, o, h => rfl
  | f + 1, o, h => by
    rw [parseN] at h ⊢
    split
    · rfl
    · split
      · rfl
      · split
        · rfl
        · rename_i h1 h2 h3
          rw [if_neg h1, if_neg h2, if_neg h3] at h
          exact absurd rfl h
theorem combP_nil (l : List Int) (f o : Nat) : parseN l f o = combP [] (parseN l f o) := by
  unfold combP
  split
  · rename_i h
    rw [← parse_err l f o h]
  · rename_i h
    have h2 : (parseN l f o).2 = 0 := by simpa using h
    rw [← h2]
    rfl
set_option maxHeartbeats 2000000 in
theorem parse0 (w : World) (I : Nat → Prop) (hI : ∀ b, I b → b < w.heap.size) {a : Option Addr} {n c : Nat} (xs : List Int) (hx10 : xs.length ≤ 10000000000) (h : ∀ W, Ext I w W → Sv.ok dByte W (a, n, c) xs) (hb : ∀ x, x ∈ xs → 0 ≤ x ∧ x ≤ 255) :
    Fn0 Tryz.prog 121 #[.slice a n c] w I (fun s : Sl => .tuple #[.slice s.1 (parseM xs).1.length s.2, .int .i64 (parseM xs).2]) (fun s W => s.ok dDee W (parseM xs).1) := by
  obtain rfl : n = xs.length := (h w (Ext.refl _ _)).1
  refine enter (svs := [.c (.v (.slice a xs.length c))]) tysOk Tryz.func121 rfl Tryz.ntmps121 Tryz.results121 (by kernel_rfl) (by simp) hI (fun W => Sv.ok dByte W (a, xs.length, c) xs) h fun C hC hN ok => ?_
  simp [hN]
  intro g8
  refine nilr 600 46 9 (loopK [0, 4] ok (fun y : Nat × List Dee × Sl × List CV => [(5, .c (.rw 600 y.2.2.1.1 y.2.1.length y.2.2.1.2))]) (fun y => [(8, rdrB g8 a xs.length c (y.1, 0)), (600, .row y.2.2.1.1 y.2.1.length y.2.2.1.2 46 9 y.2.2.2)]) (fun y W => y.1 ≤ xs.length ∧ y.2.1.length ≤ y.1 ∧ Rows dDee W y.2.1 (y.2.2.2.map CV.val) ∧ parseM xs = combP y.2.1 (parseN xs (xs.length - y.1) y.1)) (fun y => xs.length - y.1) (0, [], (none, 0), []) ?_ ?_ (fun W hW => ⟨Nat.zero_le _, Nat.le_refl _, rows_nil _ _, ?_⟩) ?_)
  · simp
  · simp
  · exact combP_nil _ _ _
  rintro ⟨o, acc, ⟨ra, rc⟩, cs⟩ W ⟨ho, hacc, hrow, hspec⟩ hG next
  simp only at ho hacc hrow hspec
  rcases Nat.lt_or_ge o xs.length with hlt | hge
  · simp [hN, hlt]
    refine callS ok rfl rfl rfl [8] [rdrB g8 a xs.length c (o, 0)] (by simp) rfl (fun _ : Sl × Sl => [(8, rdrB g8 a xs.length c (deeR xs o).2)]) (fun w I S hI hG hO hS' => rdeed0 w I S hI g8 xs hx10 (fun W e => (hG W e).2) hb o ho hO hS') (fun r => by simp) (.inl fun x hx => by simp at hx; subst hx; decide) fun y W hy => ?_
    simp [hN]
    intro g19
    have hP : parseN xs (xs.length - o) o = parseN xs (xs.length - o - 1 + 1) o := by rw [show xs.length - o - 1 + 1 = xs.length - o by omega]
    rw [parseN, if_neg (by omega)] at hP
    refine appR ok 600 19 rfl rfl rfl rfl rfl (by decide) rfl rfl rfl rfl rfl rfl rfl (by decide) (by simp) (by show (_ + 1) * 112 ≤ _; omega) (by omega) fun g' c' => ?_
    by_cases he : (deeR xs o).2.2 = 0
    · have hle := deeR_le he
      rw [if_neg (by simp [he])] at hP
      have hf := parse_fuel xs (xs.length - o - 1) (xs.length - (deeR xs o).2.1) (deeR xs o).2.1 (by omega) (Nat.le_refl _)
      rw [hf] at hP
      have hc : parseM xs = combP (acc ++ [(deeR xs o).1]) (parseN xs (xs.length - (deeR xs o).2.1) (deeR xs o).2.1) := by
        rw [hspec, hP]
        generalize parseN xs (xs.length - (deeR xs o).2.1) (deeR xs o).2.1 = P
        by_cases h : P.2 = 0 <;> simp [combP, h]
      have hst : (deeR xs o).2 = ((deeR xs o).2.1, 0) := by rw [← he]
      simp [hN, he]
      refine next ((deeR xs o).2.1, acc ++ [(deeR xs o).1], (some ⟨g', 0, none⟩, c'), cs ++ (deeC (deeR xs o).1 y.1 y.2).map .v) _ _ (by simp only; omega) (fun W hW => ⟨⟨hle.2, by simp only [List.length_append, List.length_singleton]; omega, ?_, hc⟩, hW.2.2⟩) ?_
      · rw [List.map_append]
        exact hW.2.1.2.2.1.snoc ⟨y.1, y.2, by simp [Function.comp_def, CV.val], hW.1⟩
      · rw [hst]
        simp
    · rw [if_pos he] at hP
      have hc : parseM xs = ([], (deeR xs o).2.2) := by rw [hspec, hP]; unfold combP; rw [if_pos he]
      rw [hc] at hC
      simp [hN, he]
      refine drawK ok mixed (by kernel_rfl) ?_
      simp (maxSteps := 2000000) -implicitDefEqProofs [hN]
      exact ret0 hC (none, 0) rfl fun W _ _ => ⟨Nat.zero_le _, Nat.zero_le _, rd_nil _ _ _⟩
  · have hc : parseM xs = (acc, 0) := by
      obtain rfl : o = xs.length := by omega
      rw [hspec, Nat.sub_self]
      simp [parseN, combP]
    rw [hc] at hC
    simp [hN, Nat.not_lt.2 hge]
    refine ret0 hC (ra, rc) rfl fun W hp hG => ?_
    exact (Rows.sv hG.1.2.2.1 (by decide) (by omega) hp.2.1).2
end Go.Proofs.YtbbaoeidobdblaaGreat.Sx

/- Bytes of a chip: slices.Clone of a part of a row that is lent, nor.Chip.Read, half.Read. -/
set_option linter.unusedVariables false
set_option linter.unusedSimpArgs false
namespace Go.Proofs.YtbbaoeidobdblaaGreat.Sx
open Go
attribute [local simp ↓] ifb_true' ifb_false'
attribute [local simp] ifb_true ifb_false ifb_eq sx argsT find ev evOp evs evo evBin evInt evStr evNil evNilA ptrA slcA isNoneA asB evLoad look del cellsB evUn evConv kdec fld evFieldA evField evIdxA evIdx evSlc bndL bndH evLen mmi put resV guardV gvL setO tupV cellsOf ones one upd lits nv exitTo SV.val CV.val TI.agg rdyA allR keepB scan simpO gsp isS subs keepT pickT wr memN pubs Res.fact Region.binds bld rest give delL back Res.eqv vi vb num Sv.val undef
section
variable {P : Program} {C : Ctx} {T : Ty} {res : List ResultVar} {p : Pos} {tm : Tm} {m : Mem}
/-- A part of a row of one's own (k') is appended to another one (k). -/
theorem appP (ok : Okc P T C res) (k k' : Nat) {o : Oper} {s x : Operand} {t d : Nat} (ho : o.op = .call ⟨.builtin .append, #[s, x], #[t, t]⟩) (hd : o.dst = some d) {i ie : TI} (hi : tf t T = some i) (hik : i.kd = 3) (hie : tf i.el T = some ie) (h0 : ie.sz = 1) (hzl : ie.zero.length = ie.sz)
    {a : Option Addr} {n c g m' mc off n' c' : Nat} {cs cs' : List CV} {u v : SV} (hk : look k m.rs = some (.row a n c i.el ie.sz cs)) (hs : ev tm s = some u) (hu : u.val = .slice a n c) (hk' : look k' m.rs = some (.row (some ⟨g, 0, none⟩) n' c' i.el ie.sz cs')) (hx : ev tm x = some v) (hv : v.val = .slice (some ⟨g, off, none⟩) m' mc)
    (hm : 0 < m') (hof : off + m' ≤ cs'.length) (h1 : ones ((cs'.drop off).take m')) (hb : (n + m') * ie.bt ≤ 140737488355328) (hmx : n + m' ≤ 140737488355328)
    (kk : ∀ g' c'', sx T C res 1000 p (put C.n (some d) (.c (.rw k (some ⟨g', 0, none⟩) (n + m') c'')) tm) ⟨m.B, m.G, (k, .row (some ⟨g', 0, none⟩) (n + m') c'' i.el ie.sz (cs ++ (cs'.drop off).take m')) :: del k (del k m.rs)⟩) : At C (.op o p) tm m := by
  rintro act w cs0 hR ⟨I, F, hJ⟩
  have o1 := hJ.own _ (look_mem hk)
  have o2 := hJ.own _ (look_mem hk')
  obtain ⟨g', c'', w', hr, hown, hext, hblk, hlt⟩ := grow_row (P := C.P) (t := t) (ty := o.type) (ok.ty.get hi |>.g_slice hik) (ok.ty.get hie) (by omega) hzl o1.2 (ad := ⟨g, off, none⟩) (mc := mc) (news := ((cs'.drop off).take m').map CV.val) (m := m') (by rw [List.length_map, List.length_take, List.length_drop, h0]; omega) (fun j z hz => by
    rw [addr_add]
    have hj : j < m' := by have := (List.getElem?_eq_some_iff.1 hz).1; simp at this; omega
    rw [holds_cells o2 (g := g) (cs := cs') rfl (off + j) (by omega)]
    simp only [List.getElem?_map, List.getElem?_take, hj, if_true, List.getElem?_drop] at hz
    simp only [List.getD, List.getElem?_eq_getElem (show off + j < cs'.length by omega), Option.map_some, Option.some.injEq] at hz ⊢
    rw [← hz]
    rfl) (ones_cells h1) hm hb hmx
  have e1 : act.eval s = .slice a n c := by rw [hR.eval hs, hu]
  have e2 : act.eval x = .slice (some ⟨g, off, none⟩) m' mc := by rw [hR.eval hx, hv]
  have hrun : (execOp act.eval o).run C.P w = .ok (.value (.slice (some ⟨g', 0, none⟩) (n + m') c'')) w' := by
    simp [execOp, ho, resolve, invoke, builtin, e1, e2, hr]
  have hup := hJ.upd k k (.row (some ⟨g', 0, none⟩) (n + m') c'' i.el ie.sz (cs ++ (cs'.drop off).take m')) (fun b => (Value.slice a n c).ownBlock = some b) (fun b => b = g') (fun b hb => ⟨(o1.1 b).2 hb, _, look_mem hk⟩) hext ⟨fun b => by simp [Value.ownBlock]; exact ⟨fun h => h.symm, fun h => h.symm⟩, by simpa using hown⟩ (fun b hb => by subst hb; exact ⟨hlt, hblk⟩) id
  have hRp := hR.put (some d) (.c (.rw k (some ⟨g', 0, none⟩) (n + m') c''))
  exact op_value (ok.sx (kk g' c'')) hrun (by rw [hd]; exact hRp) ⟨I, _, hup⟩
end
theorem bC_sub (b : List Int) (o k : Nat) : ((bC b).drop o).take k = bC ((b.drop o).take k) := by simp [bC, List.map_drop, List.map_take]
theorem cloneL0 (w : World) (I S : Nat → Prop) (hI : ∀ b, I b → b < w.heap.size) (g off m mc bc : Nat) (b : List Int) (h0 : 0 < m) (hm : off + m ≤ b.length) (hb : b.length ≤ 100000000000) (hS : Owns [.row (some ⟨g, 0, none⟩) b.length bc 5 1 (bC b)] S w) (hSI : ∀ b, S b → b < w.heap.size ∧ ¬ I b) :
    FnS Tryz.prog 76 #[.slice (some ⟨g, off, none⟩) m mc] w I S (fun x : Sl => .slice x.1 m x.2) (fun _ => [.row (some ⟨g, 0, none⟩) b.length bc 5 1 (bC b)]) (fun x W => Sl.ok dByte W x ((b.drop off).take m)) := by
  refine enterS (svs := [.c (.v (.slice (some ⟨g, off, none⟩) m mc))]) tysOk Tryz.func76 rfl Tryz.ntmps76 Tryz.results76 (by kernel_rfl) (by simp) hI [.row (some ⟨g, 0, none⟩) b.length bc 5 1 (bC b)] hS hSI (fun _ => True) (fun _ _ => trivial) fun C hC hN ok => ?_
  simp [hN]
  intro g5
  refine appP ok 5 1000 rfl rfl rfl rfl rfl rfl rfl rfl rfl rfl rfl rfl rfl h0 (by rw [bC_len]; exact hm) (by rw [bC_sub]; exact ones_bC _) (by show (0 + m) * 1 ≤ _; omega) (by omega) fun g' c' => ?_
  simp [hN, bC_sub]
  refine retS hC (some ⟨g', 0, none⟩, c') [1000] rfl (by simp) fun W hp hG => ?_
  have hl : ((b.drop off).take m).length = m := by rw [List.length_take, List.length_drop]; omega
  have := (Rows.sv (d := dByte) (xs := (b.drop off).take m) (rows_byte.2 (bC_val _)) (by decide) (by omega) hp.1).2
  exact this
theorem norRead0 (w : World) (I S : Nat → Prop) (hI : ∀ b, I b → b < w.heap.size) (c : Cp) (o k : Nat) (hf : c.fit) (h0 : 0 < k) (ho : o + k ≤ c.b.length) (hS : Owns c.res S w) (hSI : ∀ b, S b → b < w.heap.size ∧ ¬ I b) :
    FnS Tryz.prog 26 #[ptrV c.gc, .int .i64 (o : Nat), .int .i64 (k : Nat)] w I S (fun x : Sl => .tuple #[.slice x.1 k x.2, .int .i64 0]) (fun _ => c.res) (fun x W => Sl.ok dByte W x ((c.b.drop o).take k)) := by
  obtain ⟨hl2, hsz, hz⟩ := half_two hf
  have hcap := hf.cap
  refine enterS (svs := [.c (.bp 1000 c.gc 0), .c (.v (.int .i64 (o : Nat))), .c (.v (.int .i64 (k : Nat)))]) tysOk Tryz.func26 rfl Tryz.ntmps26 Tryz.results26 (by kernel_rfl) (by simp) hI c.res hS hSI (fun _ => True) (fun _ _ => trivial) fun C hC hN ok => ?_
  simp [hN]
  refine callS ok rfl rfl rfl [1000] [c.chip] (by simp) rfl (fun _ : Unit => [(1000, c.chip)]) (fun w I S hI hG hO hS' => norAsk0 w I S hI c o k (by omega) (by omega) hO hS') (fun r => by simp) (.inr fun x q hq => by simp at hq; subst hq; simp) fun _ W _ => ?_
  have hask : askE c.b.length o k = 0 := by unfold askE; rw [if_neg (by omega)]
  rw [hask]
  obtain ⟨z, hz'⟩ : ∃ z, z = o + k := ⟨_, rfl⟩
  have e1 : IntKind.i64.wrap ((o : Int) + (k : Nat)) = (z : Nat) := by rw [w64 (by omega) (by omega)]; omega
  have h1 : (o : Int) ≤ (z : Nat) := by omega
  have h2 : (z : Int) ≤ (c.cap : Nat) := by omega
  have h3 : z - o = k := by omega
  have h4 : c.cap ≠ o := by omega
  simp [hN, e1, h1, h2, h3, h4]
  refine callS ok rfl rfl rfl [1002] [c.row] (by simp) rfl (fun _ : Sl => [(1002, c.row)]) (fun w I S hI hG hO hS' => cloneL0 w I S hI c.gb o k (c.cap - o) c.bc c.b h0 ho (by omega) hO hS') (fun r => by simp) (.inr fun x q hq => by simp at hq; subst hq; simp) fun x W hx => ?_
  simp [hN]
  exact retS hC x [1000, 1001, 1002, 1003] rfl (by simp [Cp.map, mapR]) fun W _ hG => hG
theorem halfSz_pos {c : Cp} (hf : c.fit) : 0 < halfSz c := by
  obtain ⟨q0, ⟨q1, q2⟩, ⟨q3, q4⟩, _⟩ := id hf.right
  have h1 : 1 ≤ halfN c := by unfold halfN; omega
  exact Nat.mul_pos h1 (by omega)
/-- A half's bytes. -/
def halfB (c : Cp) (h : Nat) : List Int := (c.b.drop (h * halfSz c)).take (halfSz c)
theorem halfB_length {c : Cp} (hf : c.fit) {h : Nat} (hh : h < 2) : (halfB c h).length = halfSz c := by
  have := half_fits hf hh
  rw [halfB, List.length_take, List.length_drop]
  omega
theorem halfRead0 (w : World) (I S : Nat → Prop) (hI : ∀ b, I b → b < w.heap.size) (c : Cp) (h : Nat) (hh : h < 2) (hf : c.fit) (hS : Owns c.res S w) (hSI : ∀ b, S b → b < w.heap.size ∧ ¬ I b) :
    FnS Tryz.prog 73 #[ptrV c.gc, .int .i64 (h : Nat)] w I S (fun x : Sl => .tuple #[.slice x.1 (halfSz c) x.2, .int .i64 0]) (fun _ => c.res) (fun x W => Sl.ok dByte W x (halfB c h)) := by
  obtain ⟨hl2, hsz, hz⟩ := half_two hf
  have hpos := halfSz_pos hf
  have hfits := half_fits hf hh
  refine enterS (svs := [.c (.v (ptrV c.gc)), .c (.v (.int .i64 (h : Nat)))]) tysOk Tryz.func73 rfl Tryz.ntmps73 Tryz.results73 (by kernel_rfl) (by simp) hI c.res hS hSI (fun _ => True) (fun _ _ => trivial) fun C hC hN ok => ?_
  simp [hN]
  refine call0 ok rfl rfl rfl (fun w I hI hG => halfAsk0 w I hI c.gc h hh) fun _ W _ => ?_
  simp [hN]
  refine callS ok rfl rfl rfl [1000] [c.chip] (by simp) rfl (fun _ : Unit => [(1000, c.chip)]) (fun w I S hI hG hO hS' => norGeo0 w I S hI c hO hS') (fun r => by simp) (.inr fun x q hq => by simp at hq; subst hq; simp) fun _ W _ => ?_
  simp [hN]
  refine call0 ok rfl rfl rfl (fun w I hI hG => halfSize0 w I hI c.g) fun z W hz' => ?_
  rw [if_pos hf.right, hsz] at hz'
  subst hz'
  obtain ⟨m, hmm⟩ : ∃ m, m = h * halfSz c := ⟨_, rfl⟩
  have hmul : h * halfSz c ≤ 1 * halfSz c := Nat.mul_le_mul_right _ (by omega)
  have e2 : IntKind.i64.wrap ((h : Int) * (halfSz c : Nat)) = (m : Nat) := by rw [← Int.natCast_mul, ← hmm, w64 (by omega) (by omega)]
  simp [hN, e2]
  refine callS ok rfl rfl rfl [1000, 1001, 1002, 1003] c.res (by simp [Cp.map, mapR]) rfl (fun _ : Sl => [(1000, c.chip), (1001, c.pow), (1002, c.row), (1003, c.map)]) (fun w I S hI hG hO hS' => norRead0 w I S hI c m (halfSz c) hf hpos (by omega) hO hS') (fun r => by simp [Cp.map, mapR]) (.inr fun x q hq => by simp at hq; rcases hq with rfl | rfl | rfl | rfl <;> simp) fun x W hx => ?_
  simp [hN]
  exact retS hC x [1000, 1001, 1002, 1003] rfl (by simp [Cp.map, mapR]) fun W _ hG => by rw [halfB, ← hmm]; exact hG.1
/-- slices.Clone of bytes that nobody changes. -/
theorem cloneB0 (w : World) (I : Nat → Prop) (hI : ∀ b, I b → b < w.heap.size) {a : Option Addr} {n c : Nat} (xs : List Int) (h : ∀ W, Ext I w W → Sv.ok dByte W (a, n, c) xs) :
    Fn0 Tryz.prog 76 #[.slice a n c] w I Sv.val (fun r W => Sv.ok dByte W r xs) := by
  have h0 := h w (Ext.refl _ _)
  obtain rfl : n = xs.length := h0.1
  cases a with
  | none =>
    have hx : xs = [] := Classical.byContradiction fun hne => by obtain ⟨b, o, e, _⟩ := h0.2.2.2 hne; cases e
    subst hx
    refine enter (svs := [.c (.v (.slice none 0 c))]) tysOk Tryz.func76 rfl Tryz.ntmps76 Tryz.results76 (by kernel_rfl) (by simp) hI (fun _ => True) (fun _ _ => trivial) fun C hC hN ok => ?_
    simp [hN]
    exact ret0 hC (none, 0, 0) rfl fun W _ _ => ⟨rfl, Nat.le_refl _, by simp, rd_nil _ _ _⟩
  | some ad =>
    refine enter (svs := [.c (.v (.slice (some ad) xs.length c))]) tysOk Tryz.func76 rfl Tryz.ntmps76 Tryz.results76 (by kernel_rfl) (by simp) hI (fun W => Sv.ok dByte W (some ad, xs.length, c) xs) h fun C hC hN ok => ?_
    simp [hN]
    intro g
    by_cases hx : xs = []
    · subst hx
      refine app0 ok rfl rfl rfl rfl rfl rfl rfl (Nat.le_refl _) rfl rfl ?_
      simp [hN]
      exact ret0 hC (some ⟨g, 0, none⟩, 0, 0) rfl fun W _ _ => ⟨rfl, Nat.le_refl _, by simp, rd_nil _ _ _⟩
    · have h1 : 0 < xs.length := List.length_pos_iff.2 hx
      obtain ⟨b, o, e⟩ := h0.2.2.2.is_some h1
      cases e
      have h2 := h0.2.2.1
      refine appI ok 5 rfl rfl rfl rfl rfl (by decide) rfl rfl rfl rfl rfl rfl h1 (by simp; omega) (by omega) (fun l W => Rows dByte W xs l) (fun W hW => ?_) fun l g' c' W hq _ => ?_
      · obtain ⟨l, k1, k2, k3⟩ := hW.2.2.2.all_rows
        exact ⟨l, k1.1, k2, k3, k1⟩
      · simp [hN]
        refine ret0 hC (some ⟨g', 0, none⟩, xs.length, c') (by simp) fun W hp hG => ?_
        simp at hp hG
        obtain ⟨k1, k2, k3⟩ := hG.1.rd hp (by decide)
        exact ⟨k1, by simpa using k2, h2, k3⟩
theorem sumOk0 (w : World) (I : Nat → Prop) (hI : ∀ b, I b → b < w.heap.size) {a : Option Addr} {n c : Nat} (l : List Int) (s : Int) (h : ∀ W, Ext I w W → Sv.ok dByte W (a, n, c) l) (hb : ∀ x, x ∈ l → 0 ≤ x ∧ x ≤ 255) :
    Fn0 Tryz.prog 194 #[.slice a n c, .int .u32 s] w I (fun _ : Unit => .bool (decide (sumM l = s))) (fun _ _ => True) := by
  refine enter (svs := [.c (.v (.slice a n c)), .c (.v (.int .u32 s))]) tysOk Tryz.func194 rfl Tryz.ntmps194 Tryz.results194 (by kernel_rfl) (by simp) hI (fun W => Sv.ok dByte W (a, n, c) l) h fun C hC hN ok => ?_
  simp [hN]
  refine call0 ok rfl rfl rfl (fun w I hI hG => sumOf0 w I hI l (fun W e => hG W e) hb) fun z W hz => ?_
  subst hz
  simp [hN]
  exact ret0 hC () rfl fun _ _ _ => trivial
end Go.Proofs.YtbbaoeidobdblaaGreat.Sx

/- frame: next, Scan; bytes.Count of one byte. -/
set_option linter.unusedVariables false
set_option linter.unusedSimpArgs false
namespace Go.Proofs.YtbbaoeidobdblaaGreat.Sx
open Go
attribute [local simp ↓] ifb_true' ifb_false'
attribute [local simp] ifb_true ifb_false ifb_eq sx argsT find ev evOp evs evo evBin evInt evStr evNil evNilA ptrA slcA isNoneA asB evLoad look del cellsB evUn evConv kdec fld evFieldA evField evIdxA evIdx evSlc bndL bndH evLen mmi put resV guardV gvL setO tupV cellsOf ones one upd lits nv exitTo SV.val CV.val TI.agg rdyA allR keepB scan simpO gsp isS subs keepT pickT wr memN pubs Res.fact Region.binds bld rest give delL back Res.eqv vi vb num Sv.val undef
/-- What is in the record at the beginning of bytes, if one that counts stands there. -/
def nextM (b : List Int) : Option (List Int) :=
  if b.length < 2 then none
  else if 65000 < valB (b.take 2) ∨ b.length < (valB (b.take 2)).toNat + 7 then none
  else if sumM (b.take 2 ++ (b.drop 6).take (valB (b.take 2)).toNat) = valB ((b.drop 2).take 4) ∧ b[(valB (b.take 2)).toNat + 6]? = some 0 then some ((b.drop 6).take (valB (b.take 2)).toNat) else none
theorem ctF : ctB Tryz.prog 196 := ⟨_, Tryz.func196, by decide +kernel, rfl, by decide +kernel, by kernel_rfl⟩
theorem bcount0 (w : World) (I : Nat → Prop) (hI : ∀ b, I b → b < w.heap.size) {a : Option Addr} {n c : Nat} (l : List Int) (x : Int) (sa : Option Addr) (sc : Nat) (h : ∀ W, Ext I w W → Sv.ok dByte W (a, n, c) l ∧ Sv.ok dByte W (sa, 1, sc) [x]) (hb : ∀ y, y ∈ l → 0 ≤ y ∧ y ≤ 255) (hx : 0 ≤ x ∧ x ≤ 255) :
    Fn0 Tryz.prog 165 #[.slice a n c, .slice sa 1 sc] w I (fun _ : Unit => .int .i64 (l.count x : Nat)) (fun _ _ => True) := by
  obtain ⟨sb, so, e, _⟩ := byte_get (h w (Ext.refl _ _)).2 (by simp : 0 < [x].length)
  cases e
  refine enter (svs := [.c (.v (.slice a n c)), .c (.v (.slice (some ⟨sb, so, none⟩) 1 sc))]) tysOk Tryz.func165 rfl Tryz.ntmps165 Tryz.results165 (by kernel_rfl) (by simp) hI (fun W => Sv.ok dByte W (a, n, c) l ∧ Sv.ok dByte W (some ⟨sb, so, none⟩, 1, sc) [x]) h fun C hC hN ok => ?_
  simp [hN]
  refine load1 ok rfl rfl rfl rfl (fun v W => v = .int .u8 x) (fun W hW => ?_) ?_
  · obtain ⟨b', o', e, hc⟩ := byte_get hW.2 (by simp : 0 < [x].length)
    cases e
    exact ⟨_, by simpa using hc, by simp⟩
  rintro v W rfl _
  simp [hN]
  refine cntS ok rfl rfl ctF rfl rfl l (fun W hW => hW.1) hb hx ?_
  simp [hN]
  exact ret0 hC () rfl fun _ _ _ => trivial
set_option maxHeartbeats 2000000 in
theorem next0 (w : World) (I : Nat → Prop) (hI : ∀ b, I b → b < w.heap.size) {a : Option Addr} {n c : Nat} (xs : List Int) (h : ∀ W, Ext I w W → Sv.ok dByte W (a, n, c) xs) (hb : ∀ x, x ∈ xs → 0 ≤ x ∧ x ≤ 255) :
    Fn0 Tryz.prog 164 #[.slice a n c] w I (fun y : Sl => .tuple #[.slice y.1 ((nextM xs).getD []).length y.2, .bool (nextM xs).isSome]) (fun y W => y.ok dByte W ((nextM xs).getD [])) := by
  obtain rfl : n = xs.length := (h w (Ext.refl _ _)).1
  have hl := (h w (Ext.refl _ _)).2.2.1
  have hcap : xs.length ≤ c := (h w (Ext.refl _ _)).2.1
  refine enter (svs := [.c (.v (.slice a xs.length c))]) tysOk Tryz.func164 rfl Tryz.ntmps164 Tryz.results164 (by kernel_rfl) (by simp) hI (fun W => Sv.ok dByte W (a, xs.length, c) xs) h fun C hC hN ok => ?_
  simp [hN]
  refine call0 ok rfl rfl rfl (fun w I hI hG => get0 w I hI (a := a) (n := xs.length) (c := c) xs (fun W e => hG W e) hb 0 2 (by omega) (by decide)) fun _ W _ => ?_
  have hM := nextM.eq_1 xs
  have hv := getM_le hb 0 2
  have none_ok : nextM xs = none → ∀ m, RetP C (.tuple #[.slice none 0 0, .bool false]) m := fun hn m => by
    rw [hn] at hC
    exact ret0 hC (none, 0) rfl fun _ _ _ => ⟨Nat.zero_le _, Nat.zero_le _, rd_nil _ _ _⟩
  by_cases h1 : xs.length < 2
  · have hg : getM xs 0 2 = (0, 3) := by rw [getM, if_pos (by omega)]
    rw [if_pos h1] at hM
    simp [hN, hg]
    exact none_ok hM _
  have hg : getM xs 0 2 = (valB (xs.take 2), 0) := by rw [getM, if_neg (by omega)]; rfl
  rw [if_neg h1] at hM
  rw [hg] at hv ⊢
  simp only at hv
  generalize valB (xs.take 2) = v at hM hv ⊢
  obtain ⟨k, rfl⟩ : ∃ k : Nat, v = k := ⟨v.toNat, by omega⟩
  have hk : k < 65536 := by have := hv.2; simp at this; omega
  rw [Int.toNat_natCast] at hM
  have e1 : IntKind.i64.wrap (k : Int) = (k : Nat) := w64 (by omega) (by omega)
  by_cases h2 : 65000 < k
  · rw [if_pos (.inl (by omega))] at hM
    have h2' : (65000 : Int) < (k : Nat) := by omega
    simp [hN, h2, h2']
    exact none_ok hM _
  have h2' : ¬ (65000 : Int) < (k : Nat) := by omega
  simp [hN, h2, h2', e1]
  refine call0 ok rfl rfl rfl (fun w I hI hG => frameSize0 w I hI (k : Nat) (by omega) (by omega)) fun u W hu => ?_
  subst hu
  by_cases h3 : xs.length < k + 7
  · rw [if_pos (.inr h3)] at hM
    have h3' : (xs.length : Int) < (k : Nat) + 7 := by omega
    simp [hN, h3']
    exact none_ok hM _
  rw [if_neg (by omega)] at hM
  have h3' : ¬ (xs.length : Int) < (k : Nat) + 7 := by omega
  simp [hN, h3', e1]
  refine call0 ok rfl rfl rfl (fun w I hI hG => frameSize0 w I hI (k : Nat) (by omega) (by omega)) fun u W hu => ?_
  subst hu
  obtain ⟨z, hz⟩ : ∃ z, z = k + 6 := ⟨_, rfl⟩
  have e2 : IntKind.i64.wrap ((k : Int) + 7 - 1) = (z : Nat) := by rw [w64 (by omega) (by omega)]; omega
  simp [hN, e2]
  refine call0 ok rfl rfl rfl (fun w I hI hG => get0 w I hI (a := a) (n := xs.length) (c := c) xs (fun W e => (hG W e)) hb 2 4 (by omega) (by decide)) fun _ W _ => ?_
  have hg : getM xs 2 4 = (valB ((xs.drop 2).take 4), 0) := by rw [getM, if_neg (by omega)]
  have hv4 := getM_le hb 2 4
  rw [hg] at hv4 ⊢
  simp only at hv4
  generalize valB ((xs.drop 2).take 4) = s at hM hv4 ⊢
  have hz6 : z - 6 = k := by omega
  have hzi : (6 : Int) ≤ (z : Nat) := by omega
  have hzc : z ≤ c := by omega
  have hc2 : (2 : Int) ≤ (c : Nat) := by omega
  simp [hN, hz6, hzi, hzc, hc2]
  intro g
  have hsx : ∀ W, Sv.ok dByte W (a, xs.length, c) xs → Sl.ok dByte W ((if c = 6 then a else addrP a 6), c - 6) ((xs.drop 6).take k) := fun W hW => (sub_ok hW (by omega)).2
  have hsh : ∀ W, Sv.ok dByte W (a, xs.length, c) xs → Sl.ok dByte W (a, c) (xs.take 2) := fun W hW => (Sv.take hW (by omega)).2
  have lx : ((xs.drop 6).take k).length = k := by rw [List.length_take, List.length_drop]; omega
  have lh : (xs.take 2).length = 2 := by rw [List.length_take]; omega
  have bx := byte_sub hb 6 k
  have bh : ∀ x, x ∈ xs.take 2 → 0 ≤ x ∧ x ≤ 255 := fun x hx => hb x (List.mem_of_mem_take hx)
  generalize (if c = 6 then a else addrP a 6) = a' at hsx ⊢
  generalize (xs.drop 6).take k = ys at hsx lx bx hM
  generalize xs.take 2 = hd at hsh lh bh hM
  refine pub 44 rfl (by decide) (call0 ok rfl rfl rfl (fun w I hI hG => concat0 w I hI [hd, ys] (some ⟨g, 0, none⟩, 2) (fun W e => two_ok (hG W e).1 (hsh W (hG W e).2) lh.symm (hsx W (hG W e).2) lx.symm) (by simp; omega) (by simp)) fun y W hy => ?_)
  have w32 : IntKind.u32.wrap s = s := by rw [u32_wrap]; have := hv4.2; simp at this; omega
  simp [hN, w32]
  refine call0 ok rfl rfl rfl (fun w I hI hG => sumOk0 w I hI (a := y.1) (n := hd.length + ys.length) (c := y.2) (hd ++ ys) s (fun W e => ⟨by simp, by simpa using (hG W e).1⟩) (fun z hz => by
    rcases List.mem_append.1 hz with hz | hz
    · exact bh _ hz
    · exact bx _ hz)) fun _ W _ => ?_
  by_cases h5 : sumM (hd ++ ys) = s
  · have hzl : z < xs.length := by omega
    obtain ⟨b, o, e, _⟩ := byte_get (h w (Ext.refl _ _)) hzl
    cases e
    have hget : ∀ W, Sv.ok dByte W (some ⟨b, o, none⟩, xs.length, c) xs → ∃ v, W.cell? ⟨b, o + z, none⟩ = some v ∧ v = .int .u8 xs[z] := fun W hW => by
      obtain ⟨b'', o'', e, hc⟩ := byte_get hW hzl
      cases e
      exact ⟨_, hc, rfl⟩
    have hzx : xs[k + 6]? = some xs[z] := by rw [← hz]; exact List.getElem?_eq_getElem hzl
    rw [hzx] at hM
    simp [hN, h5, hzl]
    refine load1 ok rfl rfl rfl rfl (fun v W => v = .int .u8 xs[z]) (fun W hW => hget W hW.2.2) ?_
    rintro v W rfl _
    simp [hN]
    refine ⟨fun h6 => ?_, fun h6 => ?_⟩
    · rw [if_neg (fun h => h6 (by simpa using h.2))] at hM
      exact none_ok hM _
    · rw [if_pos ⟨h5, by rw [h6]⟩] at hM
      refine call0 ok rfl rfl rfl (fun w I hI hG => cloneB0 w I hI (a := a') (n := k) (c := c - 6) ys (fun W e => ⟨lx.symm, hsx W (hG W e).2.2⟩)) fun y W hy => ?_
      obtain ⟨ya, yn, yc⟩ := y
      obtain rfl : yn = ys.length := hy.1
      rw [hM] at hC
      simp [hN]
      exact ret0 hC (ya, yc) rfl fun W _ hG => hG.1.2
  · rw [if_neg (fun h => h5 h.1)] at hM
    simp [hN, h5]
    exact none_ok hM _
/-- What is in the records from a place on, and where they end. -/
def scanN (b : List Int) : Nat → Nat → List (List Int) × Nat
  | 0, o => ([], o)
  | f + 1, o => match nextM (b.drop o) with | none => ([], o) | some x => (x :: (scanN b f (o + (x.length + 7))).1, (scanN b f (o + (x.length + 7))).2)
def scanM (b : List Int) : List (List Int) × Nat × Bool := ((scanN b b.length 0).1, (scanN b b.length 0).2, decide ((b.drop (scanN b b.length 0).2).count 255 = b.length - (scanN b b.length 0).2))
theorem nextM_le {b x : List Int} (h : nextM b = some x) : x.length + 7 ≤ b.length ∧ x.length ≤ 65000 := by
  unfold nextM at h
  split at h
  · cases h
  · split at h
    · cases h
    · split at h
      · rename_i h1 h2 h3
        cases h
        rw [List.length_take, List.length_drop]
        omega
      · cases h
theorem nextM_byte {b x : List Int} (h : nextM b = some x) (hb : ∀ y, y ∈ b → 0 ≤ y ∧ y ≤ 255) : ∀ y, y ∈ x → 0 ≤ y ∧ y ≤ 255 := by
  unfold nextM at h
  split at h
  · cases h
  · split at h
    · cases h
    · split at h
      · cases h
        exact byte_sub hb 6 _
      · cases h
/-- What comes first, and then the rest. -/
abbrev catS (acc : List (List Int)) (x : List (List Int) × Nat) : List (List Int) × Nat := (acc ++ x.1, x.2)
end Go.Proofs.YtbbaoeidobdblaaGreat.Sx

/- frame.Scan. -/
set_option linter.unusedVariables false
set_option linter.unusedSimpArgs false
namespace Go.Proofs.YtbbaoeidobdblaaGreat.Sx
open Go
attribute [local simp ↓] ifb_true' ifb_false'
attribute [local simp] ifb_true ifb_false ifb_eq sx argsT find ev evOp evs evo evBin evInt evStr evNil evNilA ptrA slcA isNoneA asB evLoad look del cellsB evUn evConv kdec fld evFieldA evField evIdxA evIdx evSlc bndL bndH evLen mmi put resV guardV gvL setO tupV cellsOf ones one upd lits nv exitTo SV.val CV.val TI.agg rdyA allR keepB scan simpO gsp isS subs keepT pickT wr memN pubs Res.fact Region.binds bld rest give delL back Res.eqv vi vb num Sv.val undef
theorem next_nil {b : List Int} {o : Nat} (h : b.length ≤ o) : nextM (b.drop o) = none := by
  unfold nextM
  rw [if_pos (by rw [List.length_drop]; omega)]
theorem scan_fuel (b : List Int) : ∀ (f g o : Nat), b.length - o ≤ f → b.length - o ≤ g → scanN b f o = scanN b g o
  | 0, 0, o, _, _ => rfl
  | 0, g + 1, o, hf, hg => by rw [scanN, scanN, next_nil (by omega)]
  | f + 1, 0, o, hf, hg => by rw [scanN, scanN, next_nil (by omega)]
  | f + 1, g + 1, o, hf, hg => by
    rw [scanN, scanN]
    cases h : nextM (b.drop o) with
    | none => rfl
    | some x =>
      have h1 := (nextM_le h).1
      rw [List.length_drop] at h1
      simp only
      rw [scan_fuel b f g (o + (x.length + 7)) (by omega) (by omega)]
theorem scan_step {b : List Int} {o : Nat} {x : List Int} (h : nextM (b.drop o) = some x) : scanN b (b.length - o) o = (x :: (scanN b (b.length - (o + (x.length + 7))) (o + (x.length + 7))).1, (scanN b (b.length - (o + (x.length + 7))) (o + (x.length + 7))).2) := by
  have h1 := (nextM_le h).1
  rw [List.length_drop] at h1
  rw [show b.length - o = (b.length - o - 1) + 1 by omega, scanN, h]
  simp only
  rw [scan_fuel b (b.length - o - 1) (b.length - (o + (x.length + 7))) _ (by omega) (Nat.le_refl _)]
theorem scan_stop {b : List Int} {o : Nat} (h : nextM (b.drop o) = none) : scanN b (b.length - o) o = ([], o) := by
  cases hf : b.length - o with
  | zero => rfl
  | succ f => rw [scanN, h]
set_option maxRecDepth 10000 in
set_option maxHeartbeats 1000000 in
theorem scan0 (w : World) (I : Nat → Prop) (hI : ∀ b, I b → b < w.heap.size) {a : Option Addr} {n c : Nat} (xs : List Int) (hx10 : xs.length ≤ 10000000000) (h : ∀ W, Ext I w W → Sv.ok dByte W (a, n, c) xs) (hb : ∀ x, x ∈ xs → 0 ≤ x ∧ x ≤ 255) :
    Fn0 Tryz.prog 119 #[.slice a n c] w I (fun y : Sl => .tuple #[.slice y.1 (scanM xs).1.length y.2, .int .i64 ((scanM xs).2.1 : Nat), .bool (scanM xs).2.2]) (fun y W => y.ok dBs W (scanM xs).1) := by
  obtain rfl : n = xs.length := (h w (Ext.refl _ _)).1
  have hl := (h w (Ext.refl _ _)).2.2.1
  have hcap : xs.length ≤ c := (h w (Ext.refl _ _)).2.1
  refine enter (svs := [.c (.v (.slice a xs.length c))]) tysOk Tryz.func119 rfl Tryz.ntmps119 Tryz.results119 (by kernel_rfl) (by simp) hI (fun W => Sv.ok dByte W (a, xs.length, c) xs) h fun C hC hN ok => ?_
  have hsub : ∀ o, o ≤ xs.length → ∀ W, Sv.ok dByte W (a, xs.length, c) xs → Sv.ok dByte W ((if c = o then a else addrP a o), xs.length - o, c - o) (xs.drop o) := fun o ho W hW => by
    have := Sv.drop hW ho
    simpa [dByte, flat] using this
  simp [hN]
  refine nilr 600 57 1 (loopK [0] ok (fun y : Nat × List (List Int) × Sl × List CV => [(6, .c (.v (.int .i64 (y.1 : Nat)))), (5, .c (.rw 600 y.2.2.1.1 y.2.1.length y.2.2.1.2))]) (fun y => [(600, .row y.2.2.1.1 y.2.1.length y.2.2.1.2 57 1 y.2.2.2)]) (fun y W => y.1 ≤ xs.length ∧ y.2.1.length ≤ y.1 ∧ Rows dBs W y.2.1 (y.2.2.2.map CV.val) ∧ scanN xs xs.length 0 = catS y.2.1 (scanN xs (xs.length - y.1) y.1)) (fun y => xs.length - y.1) (0, [], (none, 0), []) ?_ ?_ (fun W hW => ⟨Nat.zero_le _, Nat.le_refl _, rows_nil _ _, by rw [Nat.sub_zero]; rfl⟩) ?_)
  · simp
  · simp
  rintro ⟨o, acc, ⟨ra, rc⟩, cs⟩ W ⟨ho, hacc, hrow, hspec⟩ hG next
  simp only at ho hacc hrow hspec
  have hoc : o ≤ c := by omega
  have hso := hsub o ho
  have hso0 := hsub o ho
  simp [hN, ho, hoc, hcap]
  generalize (if c = o then a else addrP a o) = a' at hso ⊢
  have hby : ∀ y, y ∈ xs.drop o → 0 ≤ y ∧ y ≤ 255 := fun y hy => hb y (List.mem_of_mem_drop hy)
  refine call0 ok rfl rfl rfl (fun w I hI hG => next0 w I hI (a := a') (n := xs.length - o) (c := c - o) (xs.drop o) (fun W e => hso W (hG W e).2) hby) fun y W hy => ?_
  cases hnx : nextM (xs.drop o) with
  | none =>
    rw [scan_stop hnx] at hspec
    have hM : scanM xs = (acc, o, decide ((xs.drop o).count 255 = xs.length - o)) := by
      unfold scanM
      rw [hspec]
      simp [catS]
    rw [hM] at hC
    have e1 : IntKind.i64.wrap ((xs.length : Int) - (o : Nat)) = xs.length - (o : Nat) := w64 (by omega) (by omega)
    simp [hN, ho, hoc, hcap]
    intro g32
    refine pub 32 rfl (by decide) (call0 ok rfl rfl rfl (fun w I hI hG => bcount0 w I hI (n := xs.length - o) (c := c - o) (xs.drop o) 255 (some ⟨g32, 0, none⟩) 1 (fun W e => ⟨hso0 W (hG W e).2.2.2, ⟨rfl, (byte_ok (xs := [255]) (hG W e).1 (by simp)).2⟩⟩) hby (by decide)) fun _ W _ => ?_)
    simp [hN, e1]
    refine ret0 hC (ra, rc) ?_ fun W hp hG => ?_
    · have : (((xs.drop o).count 255 : Int) = xs.length - (o : Nat)) ↔ (xs.drop o).count 255 = xs.length - o := by omega
      simp [this]
    · exact (Rows.sv hG.2.2.1.2.1 (by decide) (by omega) hp.1).2
  | some x =>
    have hle := nextM_le hnx
    rw [List.length_drop] at hle
    rw [scan_step hnx] at hspec
    simp [hN]
    intro g20
    refine appR ok 600 20 rfl rfl rfl rfl rfl (by decide) rfl rfl rfl rfl rfl rfl rfl (by decide) (by simp) (by show (_ + 1) * 24 ≤ _; omega) (by omega) fun g' c' => ?_
    simp [hN]
    refine call0 ok rfl rfl rfl (fun w I hI hG => frameSize0 w I hI (x.length : Nat) (by omega) (by omega)) fun u W hu => ?_
    subst hu
    obtain ⟨z, hz⟩ : ∃ z, z = o + (x.length + 7) := ⟨_, rfl⟩
    have e2 : IntKind.i64.wrap ((o : Int) + ((x.length : Int) + 7)) = (z : Nat) := by rw [w64 (by omega) (by omega)]; omega
    simp [hN, e2]
    refine next (z, acc ++ [x], (some ⟨g', 0, none⟩, c'), cs ++ [.v (.slice y.1 x.length y.2)]) _ _ (by simp only; omega) (fun W hW => ⟨⟨by simp only; omega, by simp only [List.length_append, List.length_singleton]; omega, ?_, ?_⟩, hW.2.2⟩) (by simp)
    · rw [List.map_append]
      exact hW.2.1.2.1.snoc ⟨y, rfl, by have := hW.1; simpa using this⟩
    · rw [hz, hspec]
      simp [catS]
end Go.Proofs.YtbbaoeidobdblaaGreat.Sx

/- pack.inode, pack.Deeds. -/
import Derived.Test.YtfmkpkmhhlakoaaSk3
set_option linter.unusedVariables false
set_option linter.unusedSimpArgs false
namespace Go.Proofs.Ytfmkpkmhhlakoaa.Sx
open Go

attribute [local simp ↓] ifb_true' ifb_false'
attribute [local simp] ifb_true ifb_false ifb_eq sx argsT find ev evOp evs evo evBin evInt evStr evNil evNilA ptrA slcA isNoneA asB evLoad look del cellsB evUn evConv kdec fld evFieldA evField evIdxA evIdx evSlc bndL bndH evLen mmi put resV guardV gvL setO tupV cellsOf ones one upd lits nv exitTo SV.val CV.val TI.agg rdyA allR keepB scan simpO gsp isS subs keepT pickT wr memN pubs Res.fact Region.binds bld rest give delL back Res.eqv vi vb num Sv.val
theorem put1 {w : World} {I : Nat → Prop} (hI : ∀ b, I b → b < w.heap.size) {a : Option Addr} {m c : Nat} (xs : List Int) (v : Int) (n : Nat) (h : ∀ W, Ext I w W → Sv.ok dByte W (a, m, c) xs) (hl : xs.length + n ≤ 100000000000) (hn : n ≤ 8) (hv : 0 ≤ v) :
    Fn0 Try.prog 117 #[.slice a m c, .int .u64 v, .int .i64 n] w I Sv.val (fun r W => Sv.ok dByte W r (xs ++ lowB v n)) := by
  obtain rfl : m = xs.length := (h w (Ext.refl _ _)).1
  exact (put0 w I hI xs (a, c) v n (fun W e => (h W e).2) hl hn hv).sv (by simp [lowB_length])
theorem putInt1 {w : World} {I : Nat → Prop} (hI : ∀ b, I b → b < w.heap.size) {a : Option Addr} {m c : Nat} (xs : List Int) (v : Int) (h : ∀ W, Ext I w W → Sv.ok dByte W (a, m, c) xs) (hl : xs.length + 8 ≤ 100000000000) :
    Fn0 Try.prog 118 #[.slice a m c, .int .i64 v] w I Sv.val (fun r W => Sv.ok dByte W r (xs ++ intB v)) := by
  obtain rfl : m = xs.length := (h w (Ext.refl _ _)).1
  exact (putInt0 w I hI xs (a, c) v (fun W e => (h W e).2) hl).sv (by simp [intB_length])
theorem putText1 {w : World} {I : Nat → Prop} (hI : ∀ b, I b → b < w.heap.size) {a : Option Addr} {m c : Nat} (xs : List Int) (t : ByteArray) (h : ∀ W, Ext I w W → Sv.ok dByte W (a, m, c) xs) (hl : xs.length + (textB t).length ≤ 100000000000) :
    Fn0 Try.prog 136 #[.slice a m c, .string t] w I Sv.val (fun r W => Sv.ok dByte W r (xs ++ textB t)) := by
  obtain rfl : m = xs.length := (h w (Ext.refl _ _)).1
  rw [textB_length] at hl
  exact (putText0 w I hI xs (a, c) t (fun W e => (h W e).2) (by omega)).sv (by simp [textB_length, Nat.add_comm])
theorem ints1 {w : World} {I : Nat → Prop} (hI : ∀ b, I b → b < w.heap.size) {a a' : Option Addr} {m c m' c' : Nat} (xs l : List Int) (h : ∀ W, Ext I w W → Sv.ok dByte W (a, m, c) xs ∧ Sv.ok dInt W (a', m', c') l) (hl : xs.length + 8 * l.length ≤ 100000000000) :
    Fn0 Try.prog 137 #[.slice a m c, .slice a' m' c'] w I Sv.val (fun r W => Sv.ok dByte W r (xs ++ l.flatMap intB)) := by
  obtain rfl : m = xs.length := (h w (Ext.refl _ _)).1.1
  obtain rfl : m' = l.length := (h w (Ext.refl _ _)).2.1
  exact (ints0 w I hI xs l (a, c) (a', c') (fun W e => ⟨(h W e).1.2, (h W e).2.2⟩) hl).sv (by rw [List.length_append, ints_length])
theorem rows_int {W : World} {xs : List Int} {l : List Value} : Rows dInt W xs l ↔ l = xs.map (Value.int .i64) := by
  unfold dInt
  rw [rows_flat]
  simp [List.map_eq_flatMap]
/-- A row of numbers that is written out. -/
theorem int_ok {W : World} {a : Option Addr} {n c : Nat} {xs : List Int} (h : W.ownsRow 0 3 1 (.slice a n c) n (xs.map (Value.int .i64))) (hl : xs.length ≤ 100000000000) : Sv.ok dInt W (a, n, c) xs := by
  obtain ⟨k1, k2, k3⟩ := (rows_int.2 rfl : Rows dInt W xs _).rd h (by decide)
  exact ⟨k1, by simp; omega, hl, k3⟩
theorem inode0 (w : World) (I : Nat → Prop) (hI : ∀ b, I b → b < w.heap.size) (xs : List Int) (s : Sv) (x : Ino) (e r : Sl) (h : ∀ W, Ext I w W → s.ok dByte W xs ∧ InoR W x e r) (hl : xs.length + (inoB x).length ≤ 100000000000) :
    Fn0 Try.prog 119 #[s.val, .agg (inoC x e r).toArray] w I Sv.val (fun r W => Sv.ok dByte W r (xs ++ inoB x)) := by
  have hx := (h w (Ext.refl _ _)).2
  have hx1 := hx.1.2.1
  have hx2 := hx.2.2.1
  obtain ⟨ea, ec⟩ := e
  obtain ⟨ra, rc⟩ := r
  obtain ⟨sa, sn, sc⟩ := s
  refine enter (svs := [.c (.v (.slice sa sn sc)), .ag ((inoC x (ea, ec) (ra, rc)).map .v)]) tysOk Try.func119 rfl Try.ntmps119 Try.results119 (by kernel_rfl) (by simp) hI (fun W => Sv.ok dByte W (sa, sn, sc) xs ∧ InoR W x (ea, ec) (ra, rc)) h fun C hC hN ok => ?_
  simp [hN]
  intro g
  refine drawK ok mixed (by kernel_rfl) ?_
  simp [hN]
  rw [inoB_length] at hl
  intro g1
  refine pub 18 rfl (by decide) (call0 ok rfl rfl rfl (fun w I hI hG => ints1 hI xs [x.no, x.kind, x.links, x.size] (fun W e => ⟨(hG W e).2.1, int_ok (hG W e).1 (by simp)⟩) (by simp; omega)) fun q W _ => ?_)
  obtain ⟨qa, qn, qc⟩ := q
  simp [hN]
  refine call0 ok rfl rfl rfl (fun w I hI hG => putText1 hI _ x.target (fun W e => (hG W e).1) (by simp [intB_length, textB_length]; omega)) fun q W _ => ?_
  obtain ⟨pa, pn, pc⟩ := q
  have e1 : IntKind.u64.wrap (x.ents.length : Int) = x.ents.length := by rw [u64_wrap]; omega
  have e2 : IntKind.u64.wrap (x.runs.length : Int) = x.runs.length := by rw [u64_wrap]; omega
  simp [hN, e1]
  refine call0 ok rfl rfl rfl (fun w I hI hG => put1 hI _ _ 4 (fun W e => (hG W e).1) (by simp [intB_length, textB_length]; omega) (by omega) (by omega)) fun q W _ => ?_
  obtain ⟨oa, on, oc⟩ := q
  simp [hN]
  have b1 := fm_le entB x.ents
  have b2 := fm_le runB x.runs
  refine loop ok (fun a : Nat × Sv => [(32, .c (.v (.int .i64 (a.1 : Nat)))), (0, .c (.v (.slice a.2.1 a.2.2.1 a.2.2.2)))]) (fun _ => [(3, .box g 63 ((inoC x (ea, ec) (ra, rc)).map .v))]) (fun a W => a.1 ≤ x.ents.length ∧ Sv.ok dByte W a.2 (xs ++ (headB x ++ lowB x.ents.length 4) ++ (x.ents.take a.1).flatMap entB)) (fun a => x.ents.length - a.1) (0, (oa, on, oc)) ?_ ?_ (fun W hW => ⟨Nat.zero_le _, by have := hW.1; simpa [headB] using this⟩) ?_
  · simp
  · simp
  rintro ⟨i, ya, yn, yc⟩ W ⟨hi, hr⟩ hG next
  simp [hN]
  refine ⟨fun hlt => ?_, fun hge => ?_⟩
  · have hG' : InoR W x (ea, ec) (ra, rc) := hG.2.2.2.2.2
    obtain ⟨b, o, e⟩ := hG'.1.2.2.is_some (Nat.lt_of_le_of_lt (Nat.zero_le _) hlt)
    cases e
    simp [hN]
    refine ⟨hlt, loadA ok rfl rfl rfl rfl (fun l W => l = [.string x.ents[i].name, .int .i64 x.ents[i].no]) (fun W hW => ?_) ?_⟩
    · obtain ⟨cs, hk, _, hc⟩ := hW.2.2.2.2.2.2.1.2.2.get hlt
      exact ⟨cs, by rw [hk]; rfl, hc, hk⟩
    · rintro v W _ rfl hG2
      simp [hN]
      intro g6
      refine drawK ok mixed (by kernel_rfl) ?_
      simp [hN]
      have hb := b1 (i + 1)
      rw [fm_take _ _ _ hlt, List.length_append] at hb
      simp only [entB, List.length_append, textB_length, intB_length] at hb
      have e6 : IntKind.i64.wrap ((i : Int) + 1) = (i + 1 : Nat) := by rw [w64 (by omega) (by omega)]; omega
      refine call0 ok rfl rfl rfl (fun w I hI hG => putText1 hI _ _ (fun W e => (hG W e).1.2) (by simp only [List.length_append, headB_length, lowB_length, textB_length]; omega)) fun q W _ => ?_
      obtain ⟨ta, tn, tc⟩ := q
      simp [hN]
      refine call0 ok rfl rfl rfl (fun w I hI hG => putInt1 hI _ _ (fun W e => (hG W e).1) (by simp only [List.length_append, headB_length, lowB_length, textB_length]; omega)) fun q W _ => ?_
      obtain ⟨ua, un, uc⟩ := q
      simp [hN, e6]
      refine next (i + 1, ua, un, uc) _ _ (by simp; omega) (fun W h => ⟨⟨hlt, by rw [fm_take _ _ _ hlt]; simpa [entB] using h.1⟩, h.2.2.2⟩) ?_
      simp
  · have hi' : i = x.ents.length := by simp only at hi; omega
    subst hi'
    have hT : List.take x.ents.length x.ents = x.ents := List.take_length
    rw [hT]
    simp [hN, e2]
    refine call0 ok rfl rfl rfl (fun w I hI hG => put1 hI _ _ 4 (fun W e => (hG W e).1) (by simp only [List.length_append, headB_length, lowB_length]; omega) (by omega) (by omega)) fun q W _ => ?_
    obtain ⟨va, vn, vc⟩ := q
    simp [hN]
    refine loop ok (fun a : Nat × Sv => [(53, .c (.v (.int .i64 (a.1 : Nat)))), (0, .c (.v (.slice a.2.1 a.2.2.1 a.2.2.2)))]) (fun _ => []) (fun a W => a.1 ≤ x.runs.length ∧ Sv.ok dByte W a.2 (xs ++ (headB x ++ lowB x.ents.length 4 ++ x.ents.flatMap entB ++ lowB x.runs.length 4) ++ (x.runs.take a.1).flatMap runB)) (fun a => x.runs.length - a.1) (0, (va, vn, vc)) ?_ ?_ (fun W hW => ⟨Nat.zero_le _, by have := hW.1; simpa [headB] using this⟩) ?_
    · simp
    · simp
    rintro ⟨i, za, zn, zc⟩ W ⟨hi, hr⟩ hG next2
    simp [hN]
    refine ⟨fun hlt => ?_, fun hge => ?_⟩
    · obtain ⟨b, o, e⟩ := (show InoR W x (ea, ec) (ra, rc) from hG.2.2.2.2.2.2.2).2.2.2.is_some (Nat.lt_of_le_of_lt (Nat.zero_le _) hlt)
      cases e
      simp [hN]
      refine ⟨hlt, loadA ok rfl rfl rfl rfl (fun l W => l = [.int .i64 x.runs[i].fr, .int .i64 x.runs[i].at_, .int .i64 x.runs[i].ct]) (fun W hW => ?_) ?_⟩
      · obtain ⟨cs, hk, _, hc⟩ := (show InoR W x (ea, ec) (some ⟨b, o, none⟩, rc) from hW.2.2.2.2.2.2.2.2).2.2.2.get hlt
        exact ⟨cs, by rw [hk]; rfl, hc, hk⟩
      · rintro v W _ rfl hG2
        have hb := b2 (i + 1)
        rw [fm_take _ _ _ hlt, List.length_append] at hb
        simp only [runB, List.length_append, intB_length] at hb
        have e6 : IntKind.i64.wrap ((i : Int) + 1) = (i + 1 : Nat) := by rw [w64 (by omega) (by omega)]; omega
        simp [hN]
        intro g8 g9
        refine pub 64 rfl (by decide) (call0 (enc := Sv.val) (R := fun r W => Sv.ok dByte W r ((xs ++ (headB x ++ (lowB x.ents.length 4 ++ (x.ents.flatMap entB ++ (lowB x.runs.length 4 ++ (x.runs.take i).flatMap runB))))) ++ [(x.runs[i]'hlt).fr, (x.runs[i]'hlt).at_, (x.runs[i]'hlt).ct].flatMap intB)) ok rfl rfl rfl (fun w I hI hG => ints1 hI (xs ++ (headB x ++ (lowB x.ents.length 4 ++ (x.ents.flatMap entB ++ (lowB x.runs.length 4 ++ (x.runs.take i).flatMap runB))))) [(x.runs[i]'hlt).fr, (x.runs[i]'hlt).at_, (x.runs[i]'hlt).ct] (fun W e => ⟨(hG W e).2.1.2, int_ok (hG W e).1 (by simp)⟩) (by simp only [List.length_append, headB_length, lowB_length, List.length_cons, List.length_nil]; omega)) fun q W _ => ?_)
        obtain ⟨ua, un, uc⟩ := q
        simp [hN, e6]
        refine next2 (i + 1, ua, un, uc) _ _ (by simp; omega) (fun W h => ⟨⟨hlt, by rw [fm_take _ _ _ hlt]; simpa [runB] using h.1⟩, h.2.2.2⟩) ?_
        simp
    · have hi' : i = x.runs.length := by simp only at hi; omega
      subst hi'
      exact ret0 hC (za, zn, zc) rfl fun W _ hG => by
        have := hG.1.2
        rw [List.take_length] at this
        simpa [inoB] using this
end Go.Proofs.Ytfmkpkmhhlakoaa.Sx

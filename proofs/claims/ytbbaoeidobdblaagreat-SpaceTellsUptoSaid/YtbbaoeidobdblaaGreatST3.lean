/- Laid together: Sk4, Sk5, Sk6, Sk7, Sk8, Sk9, Sk10, Sk11, Sk12, Sk13, Sk14, Sk15, Sk16, Sxj, Sxk, Sk17, Sk18, Sk19, Sk20. -/
import Derived.Test.YtbbaoeidobdblaaGreatST2
import Derived.Laws.StructEq
/- pack.inode, pack.Deeds. -/
set_option linter.unusedVariables false
set_option linter.unusedSimpArgs false
namespace Go.Proofs.YtbbaoeidobdblaaGreat.Sx
open Go
attribute [local simp ↓] ifb_true' ifb_false'
attribute [local simp] ifb_true ifb_false ifb_eq sx argsT find ev evOp evs evo evBin evInt evStr evNil evNilA ptrA slcA isNoneA asB evLoad look del cellsB evUn evConv kdec fld evFieldA evField evIdxA evIdx evSlc bndL bndH evLen mmi put resV guardV gvL setO tupV cellsOf ones one upd lits nv exitTo SV.val CV.val TI.agg rdyA allR keepB scan simpO gsp isS subs keepT pickT wr memN pubs Res.fact Region.binds bld rest give delL back Res.eqv vi vb num Sv.val
theorem put1 {w : World} {I : Nat → Prop} (hI : ∀ b, I b → b < w.heap.size) {a : Option Addr} {m c : Nat} (xs : List Int) (v : Int) (n : Nat) (h : ∀ W, Ext I w W → Sv.ok dByte W (a, m, c) xs) (hl : xs.length + n ≤ 100000000000) (hn : n ≤ 8) (hv : 0 ≤ v) :
    Fn0 Tryz.prog 105 #[.slice a m c, .int .u64 v, .int .i64 n] w I Sv.val (fun r W => Sv.ok dByte W r (xs ++ lowB v n)) := by
  obtain rfl : m = xs.length := (h w (Ext.refl _ _)).1
  exact (put0 w I hI xs (a, c) v n (fun W e => (h W e).2) hl hn hv).sv (by simp [lowB_length])
theorem putInt1 {w : World} {I : Nat → Prop} (hI : ∀ b, I b → b < w.heap.size) {a : Option Addr} {m c : Nat} (xs : List Int) (v : Int) (h : ∀ W, Ext I w W → Sv.ok dByte W (a, m, c) xs) (hl : xs.length + 8 ≤ 100000000000) :
    Fn0 Tryz.prog 102 #[.slice a m c, .int .i64 v] w I Sv.val (fun r W => Sv.ok dByte W r (xs ++ intB v)) := by
  obtain rfl : m = xs.length := (h w (Ext.refl _ _)).1
  exact (putInt0 w I hI xs (a, c) v (fun W e => (h W e).2) hl).sv (by simp [intB_length])
theorem putText1 {w : World} {I : Nat → Prop} (hI : ∀ b, I b → b < w.heap.size) {a : Option Addr} {m c : Nat} (xs : List Int) (t : ByteArray) (h : ∀ W, Ext I w W → Sv.ok dByte W (a, m, c) xs) (hl : xs.length + (textB t).length ≤ 100000000000) :
    Fn0 Tryz.prog 150 #[.slice a m c, .string t] w I Sv.val (fun r W => Sv.ok dByte W r (xs ++ textB t)) := by
  obtain rfl : m = xs.length := (h w (Ext.refl _ _)).1
  rw [textB_length] at hl
  exact (putText0 w I hI xs (a, c) t (fun W e => (h W e).2) (by omega)).sv (by simp [textB_length, Nat.add_comm])
theorem ints1 {w : World} {I : Nat → Prop} (hI : ∀ b, I b → b < w.heap.size) {a a' : Option Addr} {m c m' c' : Nat} (xs l : List Int) (h : ∀ W, Ext I w W → Sv.ok dByte W (a, m, c) xs ∧ Sv.ok dInt W (a', m', c') l) (hl : xs.length + 8 * l.length ≤ 100000000000) :
    Fn0 Tryz.prog 151 #[.slice a m c, .slice a' m' c'] w I Sv.val (fun r W => Sv.ok dByte W r (xs ++ l.flatMap intB)) := by
  obtain rfl : m = xs.length := (h w (Ext.refl _ _)).1.1
  obtain rfl : m' = l.length := (h w (Ext.refl _ _)).2.1
  exact (ints0 w I hI xs l (a, c) (a', c') (fun W e => ⟨(h W e).1.2, (h W e).2.2⟩) hl).sv (by rw [List.length_append, ints_length])
theorem rows_int {W : World} {xs : List Int} {l : List Value} : Rows dInt W xs l ↔ l = xs.map (Value.int .i64) := by
  unfold dInt
  rw [rows_flat]
  simp [List.map_eq_flatMap]
/-- A row of numbers that is written out. -/
theorem int_ok {W : World} {a : Option Addr} {n c : Nat} {xs : List Int} (h : W.ownsRow 0 3 1 (.slice a n c) n (xs.map (Value.int .i64))) (hl : xs.length ≤ 100000000000) : Sv.ok dInt W (a, n, c) xs := by
  obtain ⟨k1, k2, k3⟩ := (rows_int.2 rfl : Rows dInt W xs _).rd h (by decide)
  exact ⟨k1, by simp; omega, hl, k3⟩
theorem inode0 (w : World) (I : Nat → Prop) (hI : ∀ b, I b → b < w.heap.size) (xs : List Int) (s : Sv) (x : Ino) (e r : Sl) (h : ∀ W, Ext I w W → s.ok dByte W xs ∧ InoR W x e r) (hl : xs.length + (inoB x).length ≤ 100000000000) :
    Fn0 Tryz.prog 106 #[s.val, .agg (inoC x e r).toArray] w I Sv.val (fun r W => Sv.ok dByte W r (xs ++ inoB x)) := by
  have hx := (h w (Ext.refl _ _)).2
  have hx1 := hx.1.2.1
  have hx2 := hx.2.2.1
  obtain ⟨ea, ec⟩ := e
  obtain ⟨ra, rc⟩ := r
  obtain ⟨sa, sn, sc⟩ := s
  refine enter (svs := [.c (.v (.slice sa sn sc)), .ag ((inoC x (ea, ec) (ra, rc)).map .v)]) tysOk Tryz.func106 rfl Tryz.ntmps106 Tryz.results106 (by kernel_rfl) (by simp) hI (fun W => Sv.ok dByte W (sa, sn, sc) xs ∧ InoR W x (ea, ec) (ra, rc)) h fun C hC hN ok => ?_
  simp [hN]
  intro g
  refine drawK ok mixed (by kernel_rfl) ?_
  simp [hN]
  rw [inoB_length] at hl
  intro g1
  refine pub 18 rfl (by decide) (call0 ok rfl rfl rfl (fun w I hI hG => ints1 hI xs [x.no, x.kind, x.links, x.size] (fun W e => ⟨(hG W e).2.1, int_ok (hG W e).1 (by simp)⟩) (by simp; omega)) fun q W _ => ?_)
  obtain ⟨qa, qn, qc⟩ := q
  simp [hN]
  refine call0 ok rfl rfl rfl (fun w I hI hG => putText1 hI _ x.target (fun W e => (hG W e).1) (by simp [intB_length, textB_length]; omega)) fun q W _ => ?_
  obtain ⟨pa, pn, pc⟩ := q
  have e1 : IntKind.u64.wrap (x.ents.length : Int) = x.ents.length := by rw [u64_wrap]; omega
  have e2 : IntKind.u64.wrap (x.runs.length : Int) = x.runs.length := by rw [u64_wrap]; omega
  simp [hN, e1]
  refine call0 ok rfl rfl rfl (fun w I hI hG => put1 hI _ _ 4 (fun W e => (hG W e).1) (by simp [intB_length, textB_length]; omega) (by omega) (by omega)) fun q W _ => ?_
  obtain ⟨oa, on, oc⟩ := q
  simp [hN]
  have b1 := fm_le entB x.ents
  have b2 := fm_le runB x.runs
  refine loop ok (fun a : Nat × Sv => [(32, .c (.v (.int .i64 (a.1 : Nat)))), (0, .c (.v (.slice a.2.1 a.2.2.1 a.2.2.2)))]) (fun _ => [(3, .box g 44 ((inoC x (ea, ec) (ra, rc)).map .v))]) (fun a W => a.1 ≤ x.ents.length ∧ Sv.ok dByte W a.2 (xs ++ (headB x ++ lowB x.ents.length 4) ++ (x.ents.take a.1).flatMap entB)) (fun a => x.ents.length - a.1) (0, (oa, on, oc)) ?_ ?_ (fun W hW => ⟨Nat.zero_le _, by have := hW.1; simpa [headB] using this⟩) ?_
  · simp
  · simp
  rintro ⟨i, ya, yn, yc⟩ W ⟨hi, hr⟩ hG next
  simp [hN]
  refine ⟨fun hlt => ?_, fun hge => ?_⟩
  · have hG' : InoR W x (ea, ec) (ra, rc) := hG.2.2.2.2.2
    obtain ⟨b, o, e⟩ := hG'.1.2.2.is_some (Nat.lt_of_le_of_lt (Nat.zero_le _) hlt)
    cases e
    simp [hN]
    refine ⟨hlt, loadA ok rfl rfl rfl rfl (fun l W => l = [.string x.ents[i].name, .int .i64 x.ents[i].no]) (fun W hW => ?_) ?_⟩
    · obtain ⟨cs, hk, _, hc⟩ := hW.2.2.2.2.2.2.1.2.2.get hlt
      exact ⟨cs, by rw [hk]; rfl, hc, hk⟩
    · rintro v W _ rfl hG2
      simp [hN]
      intro g6
      refine drawK ok mixed (by kernel_rfl) ?_
      simp [hN]
      have hb := b1 (i + 1)
      rw [fm_take _ _ _ hlt, List.length_append] at hb
      simp only [entB, List.length_append, textB_length, intB_length] at hb
      have e6 : IntKind.i64.wrap ((i : Int) + 1) = (i + 1 : Nat) := by rw [w64 (by omega) (by omega)]; omega
      refine call0 ok rfl rfl rfl (fun w I hI hG => putText1 hI _ _ (fun W e => (hG W e).1.2) (by simp only [List.length_append, headB_length, lowB_length, textB_length]; omega)) fun q W _ => ?_
      obtain ⟨ta, tn, tc⟩ := q
      simp [hN]
      refine call0 ok rfl rfl rfl (fun w I hI hG => putInt1 hI _ _ (fun W e => (hG W e).1) (by simp only [List.length_append, headB_length, lowB_length, textB_length]; omega)) fun q W _ => ?_
      obtain ⟨ua, un, uc⟩ := q
      simp [hN, e6]
      refine next (i + 1, ua, un, uc) _ _ (by simp; omega) (fun W h => ⟨⟨hlt, by rw [fm_take _ _ _ hlt]; simpa [entB] using h.1⟩, h.2.2.2⟩) ?_
      simp
  · have hi' : i = x.ents.length := by simp only at hi; omega
    subst hi'
    have hT : List.take x.ents.length x.ents = x.ents := List.take_length
    rw [hT]
    simp [hN, e2]
    refine call0 ok rfl rfl rfl (fun w I hI hG => put1 hI _ _ 4 (fun W e => (hG W e).1) (by simp only [List.length_append, headB_length, lowB_length]; omega) (by omega) (by omega)) fun q W _ => ?_
    obtain ⟨va, vn, vc⟩ := q
    simp [hN]
    refine loop ok (fun a : Nat × Sv => [(53, .c (.v (.int .i64 (a.1 : Nat)))), (0, .c (.v (.slice a.2.1 a.2.2.1 a.2.2.2)))]) (fun _ => []) (fun a W => a.1 ≤ x.runs.length ∧ Sv.ok dByte W a.2 (xs ++ (headB x ++ lowB x.ents.length 4 ++ x.ents.flatMap entB ++ lowB x.runs.length 4) ++ (x.runs.take a.1).flatMap runB)) (fun a => x.runs.length - a.1) (0, (va, vn, vc)) ?_ ?_ (fun W hW => ⟨Nat.zero_le _, by have := hW.1; simpa [headB] using this⟩) ?_
    · simp
    · simp
    rintro ⟨i, za, zn, zc⟩ W ⟨hi, hr⟩ hG next2
    simp [hN]
    refine ⟨fun hlt => ?_, fun hge => ?_⟩
    · obtain ⟨b, o, e⟩ := (show InoR W x (ea, ec) (ra, rc) from hG.2.2.2.2.2.2.2).2.2.2.is_some (Nat.lt_of_le_of_lt (Nat.zero_le _) hlt)
      cases e
      simp [hN]
      refine ⟨hlt, loadA ok rfl rfl rfl rfl (fun l W => l = [.int .i64 x.runs[i].fr, .int .i64 x.runs[i].at_, .int .i64 x.runs[i].ct]) (fun W hW => ?_) ?_⟩
      · obtain ⟨cs, hk, _, hc⟩ := (show InoR W x (ea, ec) (some ⟨b, o, none⟩, rc) from hW.2.2.2.2.2.2.2.2).2.2.2.get hlt
        exact ⟨cs, by rw [hk]; rfl, hc, hk⟩
      · rintro v W _ rfl hG2
        have hb := b2 (i + 1)
        rw [fm_take _ _ _ hlt, List.length_append] at hb
        simp only [runB, List.length_append, intB_length] at hb
        have e6 : IntKind.i64.wrap ((i : Int) + 1) = (i + 1 : Nat) := by rw [w64 (by omega) (by omega)]; omega
        simp [hN]
        intro g8 g9
        refine pub 64 rfl (by decide) (call0 (enc := Sv.val) (R := fun r W => Sv.ok dByte W r ((xs ++ (headB x ++ (lowB x.ents.length 4 ++ (x.ents.flatMap entB ++ (lowB x.runs.length 4 ++ (x.runs.take i).flatMap runB))))) ++ [(x.runs[i]'hlt).fr, (x.runs[i]'hlt).at_, (x.runs[i]'hlt).ct].flatMap intB)) ok rfl rfl rfl (fun w I hI hG => ints1 hI (xs ++ (headB x ++ (lowB x.ents.length 4 ++ (x.ents.flatMap entB ++ (lowB x.runs.length 4 ++ (x.runs.take i).flatMap runB))))) [(x.runs[i]'hlt).fr, (x.runs[i]'hlt).at_, (x.runs[i]'hlt).ct] (fun W e => ⟨(hG W e).2.1.2, int_ok (hG W e).1 (by simp)⟩) (by simp only [List.length_append, headB_length, lowB_length, List.length_cons, List.length_nil]; omega)) fun q W _ => ?_)
        obtain ⟨ua, un, uc⟩ := q
        simp [hN, e6]
        refine next2 (i + 1, ua, un, uc) _ _ (by simp; omega) (fun W h => ⟨⟨hlt, by rw [fm_take _ _ _ hlt]; simpa [runB] using h.1⟩, h.2.2.2⟩) ?_
        simp
    · have hi' : i = x.runs.length := by simp only at hi; omega
      subst hi'
      exact ret0 hC (za, zn, zc) rfl fun W _ hG => by
        have := hG.1.2
        rw [List.take_length] at this
        simpa [inoB] using this
end Go.Proofs.YtbbaoeidobdblaaGreat.Sx

/- pack.Deeds. -/
set_option linter.unusedVariables false
set_option linter.unusedSimpArgs false
namespace Go.Proofs.YtbbaoeidobdblaaGreat.Sx
open Go
attribute [local simp ↓] ifb_true' ifb_false'
attribute [local simp] ifb_true ifb_false ifb_eq sx argsT find ev evOp evs evo evBin evInt evStr evNil evNilA ptrA slcA isNoneA asB evLoad look del cellsB evUn evConv kdec fld evFieldA evField evIdxA evIdx evSlc bndL bndH evLen mmi put resV guardV gvL setO tupV cellsOf ones one upd lits nv exitTo SV.val CV.val TI.agg rdyA allR keepB scan simpO gsp isS subs keepT pickT wr memN pubs Res.fact Region.binds bld rest give delL back Res.eqv vi vb num Sv.val undef
theorem fm_take' {α β : Type} (f : α → List β) (l : List α) (i : Nat) (h : i < l.length) : (l.take (i + 1)).flatMap f = (l.take i).flatMap f ++ f l[i] := by
  rw [List.take_add_one, List.getElem?_eq_getElem h, List.flatMap_append]
  simp
theorem ino_get {W : World} {x : Ino} {e r : Sl} (h : dIno.K W x (inoC x e r)) : InoR W x e r := by
  obtain ⟨⟨a, b⟩, ⟨a', b'⟩, h1, h2⟩ := h
  simp [inoC] at h1
  obtain ⟨⟨rfl, rfl⟩, rfl, rfl⟩ := h1
  exact h2
theorem dee_get {W : World} {x : Dee} {e r : Sl} (h : dDee.K W x (deeC x e r)) : InoR W x.ino e r := by
  obtain ⟨⟨a, b⟩, ⟨a', b'⟩, h1, h2⟩ := h
  simp [inoC] at h1
  obtain ⟨⟨rfl, rfl⟩, rfl, rfl⟩ := h1
  exact h2
theorem deeds0 (w : World) (I : Nat → Prop) (hI : ∀ b, I b → b < w.heap.size) (l : List Dee) (s : Sv) (h : ∀ W, Ext I w W → s.ok dDee W l) (hl : (deedsB l).length ≤ 100000000000) :
    Fn0 Tryz.prog 61 #[s.val] w I Sv.val (fun r W => Sv.ok dByte W r (deedsB l)) := by
  obtain ⟨sa, sn, sc⟩ := s
  obtain rfl : sn = l.length := (h w (Ext.refl _ _)).1
  have hx := (h w (Ext.refl _ _)).2.2.1
  refine enter (svs := [.c (.v (.slice sa l.length sc))]) tysOk Tryz.func61 rfl Tryz.ntmps61 Tryz.results61 (by kernel_rfl) (by simp) hI (fun W => Sv.ok dDee W (sa, l.length, sc) l) h fun C hC hN ok => ?_
  simp [hN]
  have b1 := fm_le deedB l
  refine loop ok (fun a : Nat × Sv => [(8, .c (.v (.int .i64 (a.1 : Nat)))), (3, .c (.v (.slice a.2.1 a.2.2.1 a.2.2.2)))]) (fun _ => []) (fun a W => a.1 ≤ l.length ∧ Sv.ok dByte W a.2 ((l.take a.1).flatMap deedB)) (fun a => l.length - a.1) (0, (none, 0, 0)) ?_ ?_ (fun W hW => ⟨Nat.zero_le _, rfl, Nat.le_refl _, by simp, rd_nil _ _ _⟩) ?_
  · simp
  · simp
  rintro ⟨i, ya, yn, yc⟩ W ⟨hi, hr⟩ hG next
  simp [hN]
  refine ⟨fun hlt => ?_, fun hge => ?_⟩
  · have hG' : Sv.ok dDee W (sa, l.length, sc) l := hG
    obtain ⟨b, o, e⟩ := hG'.2.2.2.is_some (Nat.lt_of_le_of_lt (Nat.zero_le _) hlt)
    cases e
    simp [hN]
    have hb := b1 (i + 1)
    rw [fm_take _ _ _ hlt, List.length_append] at hb
    have hb2 : ((l.take i).flatMap deedB).length + (deedB l[i]).length ≤ 100000000000 := Nat.le_trans hb hl
    have e6 : IntKind.i64.wrap ((i : Int) + 1) = (i + 1 : Nat) := by rw [w64 (by omega) (by omega)]; omega
    have ft := fm_take deedB _ _ hlt
    generalize hd : l[i] = d at hb2 ft
    refine ⟨hlt, loadA ok rfl rfl rfl rfl (fun c W => dDee.K W d c) (fun W hW => ?_) ?_⟩
    · obtain ⟨cs, hk, hl, hc⟩ := hW.2.2.2.2.get hlt
      rw [hd] at hk
      exact ⟨cs, hl, hc, hk⟩
    · rintro v W _ ⟨⟨ea, ec⟩, ⟨ra, rc⟩, rfl, hR⟩ hG2
      simp [hN, u64_wrap]
      intro g5
      refine call0 ok rfl rfl rfl (fun w I hI hG => put1 hI _ _ 1 (fun W e => (hG W e).2.1.2) (by simp only [deedB, List.length_append, lowB_length] at hb2; omega) (by omega) (Int.emod_nonneg _ (by decide))) fun q W _ => ?_
      obtain ⟨ta, tn, tc⟩ := q
      simp [hN]
      refine ⟨fun k1 => ?_, fun k1 => ⟨fun k2 => ?_, fun k2 => ⟨fun k3 => ?_, fun k3 => ⟨fun k4 => ?_, fun k4 => ?_⟩⟩⟩⟩
      · have td : deedB d = lowB (d.kind % 18446744073709551616) 1 ++ intB d.no := by simp [deedB, tailB, k1]
        rw [td] at hb2 ft
        simp only [List.length_append, lowB_length, intB_length] at hb2
        refine call0 ok rfl rfl rfl (fun w I hI hG => putInt1 hI _ _ (fun W e => (hG W e).1) (by simp only [List.length_append, lowB_length]; omega)) fun q W _ => ?_
        obtain ⟨ua, un, uc⟩ := q
        simp [hN, e6]
        refine next (i + 1, ua, un, uc) _ _ (by simp; omega) (fun W h => ⟨⟨hlt, by simp only [ft]; simpa using h.1⟩, h.2.2.2.2⟩) ?_
        simp
      · have td : deedB d = lowB (d.kind % 18446744073709551616) 1 ++ intB d.no := by simp [deedB, tailB, k2]
        rw [td] at hb2 ft
        simp only [List.length_append, lowB_length, intB_length] at hb2
        refine call0 ok rfl rfl rfl (fun w I hI hG => putInt1 hI _ _ (fun W e => (hG W e).1) (by simp only [List.length_append, lowB_length]; omega)) fun q W _ => ?_
        obtain ⟨ua, un, uc⟩ := q
        simp [hN, e6]
        refine next (i + 1, ua, un, uc) _ _ (by simp; omega) (fun W h => ⟨⟨hlt, by simp only [ft]; simpa using h.1⟩, h.2.2.2.2⟩) ?_
        simp
      · have td : deedB d = lowB (d.kind % 18446744073709551616) 1 ++ intB d.no := by simp [deedB, tailB, k3]
        rw [td] at hb2 ft
        simp only [List.length_append, lowB_length, intB_length] at hb2
        refine call0 ok rfl rfl rfl (fun w I hI hG => putInt1 hI _ _ (fun W e => (hG W e).1) (by simp only [List.length_append, lowB_length]; omega)) fun q W _ => ?_
        obtain ⟨ua, un, uc⟩ := q
        simp [hN, e6]
        refine next (i + 1, ua, un, uc) _ _ (by simp; omega) (fun W h => ⟨⟨hlt, by simp only [ft]; simpa using h.1⟩, h.2.2.2.2⟩) ?_
        simp
      · have td : deedB d = lowB (d.kind % 18446744073709551616) 1 ++ inoB d.ino := by simp [deedB, tailB, k4]
        rw [td] at hb2 ft
        simp only [List.length_append, lowB_length] at hb2
        refine call0 ok rfl rfl rfl (fun w I hI hG => inode0 w I hI _ (ta, tn, tc) d.ino (ea, ec) (ra, rc) (fun W e => ⟨(hG W e).1, dee_get (hG W e).2.1⟩) (by simp only [List.length_append, lowB_length]; omega)) fun q W _ => ?_
        obtain ⟨ua, un, uc⟩ := q
        simp [hN, e6]
        refine next (i + 1, ua, un, uc) _ _ (by simp; omega) (fun W h => ⟨⟨hlt, by simp only [ft]; simpa using h.1⟩, h.2.2.2.2⟩) ?_
        simp
      · have td : deedB d = lowB (d.kind % 18446744073709551616) 1 := by simp [deedB, tailB, k1, k2, k3, k4]
        simp [hN, e6]
        refine next (i + 1, ta, tn, tc) _ _ (by simp; omega) (fun W h => ⟨⟨hlt, by simp only [ft, td]; simpa using h.1⟩, h.2.2.2⟩) ?_
        simp
  · have hi' : i = l.length := by simp only at hi; omega
    subst hi'
    exact ret0 hC (ya, yn, yc) rfl fun W _ hG => by
      have := hG.1.2
      rw [List.take_length] at this
      exact this
end Go.Proofs.YtbbaoeidobdblaaGreat.Sx

/- slices.Clone, state.own, state.copied, state.Whole. -/
set_option linter.unusedVariables false
set_option linter.unusedSimpArgs false
namespace Go.Proofs.YtbbaoeidobdblaaGreat.Sx
open Go
attribute [local simp ↓] ifb_true' ifb_false'
attribute [local simp] ifb_true ifb_false ifb_eq sx argsT find ev evOp evs evo evBin evInt evStr evNil evNilA ptrA slcA isNoneA asB evLoad look del cellsB evUn evConv kdec fld evFieldA evField evIdxA evIdx evSlc bndL bndH evLen mmi put resV guardV gvL setO tupV cellsOf ones one upd lits nv exitTo SV.val CV.val TI.agg rdyA allR keepB scan simpO gsp isS subs keepT pickT wr memN pubs Res.fact Region.binds bld rest give delL back Res.eqv vi vb num Sv.val
theorem cloneE (w : World) (I : Nat → Prop) (hI : ∀ b, I b → b < w.heap.size) {a : Option Addr} {n c : Nat} (xs : List _) (h : ∀ W, Ext I w W → Sv.ok dEnt W (a, n, c) xs) :
    Fn0 Tryz.prog 186 #[.slice a n c] w I Sv.val (fun r W => Sv.ok dEnt W r xs) := by
  have h0 := h w (Ext.refl _ _)
  obtain rfl : n = xs.length := h0.1
  cases a with
  | none =>
    have hx : xs = [] := Classical.byContradiction fun hne => by obtain ⟨b, o, e, _⟩ := h0.2.2.2 hne; cases e
    subst hx
    refine enter (svs := [.c (.v (.slice none 0 c))]) tysOk Tryz.func186 rfl Tryz.ntmps186 Tryz.results186 (by kernel_rfl) (by simp) hI (fun _ => True) (fun _ _ => trivial) fun C hC hN ok => ?_
    simp [hN]
    exact ret0 hC (none, 0, 0) rfl fun W _ _ => ⟨rfl, Nat.le_refl _, by simp, rd_nil _ _ _⟩
  | some ad =>
    refine enter (svs := [.c (.v (.slice (some ad) xs.length c))]) tysOk Tryz.func186 rfl Tryz.ntmps186 Tryz.results186 (by kernel_rfl) (by simp) hI (fun W => Sv.ok dEnt W (some ad, xs.length, c) xs) h fun C hC hN ok => ?_
    simp [hN]
    intro g
    by_cases hx : xs = []
    · subst hx
      refine app0 ok rfl rfl rfl rfl rfl rfl rfl (Nat.le_refl _) rfl rfl ?_
      simp [hN]
      exact ret0 hC (some ⟨g, 0, none⟩, 0, 0) rfl fun W _ _ => ⟨rfl, Nat.le_refl _, by simp, rd_nil _ _ _⟩
    · have h1 : 0 < xs.length := List.length_pos_iff.2 hx
      obtain ⟨b, o, e⟩ := h0.2.2.2.is_some h1
      cases e
      have h2 := h0.2.2.1
      refine appI ok 5 rfl rfl rfl rfl rfl (by decide) rfl rfl rfl rfl rfl rfl h1 (by simp; omega) (by omega) (fun l W => Rows dEnt W xs l) (fun W hW => ?_) fun l g' c' W hq _ => ?_
      · obtain ⟨l, k1, k2, k3⟩ := hW.2.2.2.all_rows
        exact ⟨l, k1.1, k2, k3, k1⟩
      · simp [hN]
        refine ret0 hC (some ⟨g', 0, none⟩, xs.length, c') (by simp) fun W hp hG => ?_
        simp at hp hG
        obtain ⟨k1, k2, k3⟩ := hG.1.rd hp (by decide)
        exact ⟨k1, by simpa using k2, h2, k3⟩
theorem cloneR (w : World) (I : Nat → Prop) (hI : ∀ b, I b → b < w.heap.size) {a : Option Addr} {n c : Nat} (xs : List _) (h : ∀ W, Ext I w W → Sv.ok dRn W (a, n, c) xs) :
    Fn0 Tryz.prog 187 #[.slice a n c] w I Sv.val (fun r W => Sv.ok dRn W r xs) := by
  have h0 := h w (Ext.refl _ _)
  obtain rfl : n = xs.length := h0.1
  cases a with
  | none =>
    have hx : xs = [] := Classical.byContradiction fun hne => by obtain ⟨b, o, e, _⟩ := h0.2.2.2 hne; cases e
    subst hx
    refine enter (svs := [.c (.v (.slice none 0 c))]) tysOk Tryz.func187 rfl Tryz.ntmps187 Tryz.results187 (by kernel_rfl) (by simp) hI (fun _ => True) (fun _ _ => trivial) fun C hC hN ok => ?_
    simp [hN]
    exact ret0 hC (none, 0, 0) rfl fun W _ _ => ⟨rfl, Nat.le_refl _, by simp, rd_nil _ _ _⟩
  | some ad =>
    refine enter (svs := [.c (.v (.slice (some ad) xs.length c))]) tysOk Tryz.func187 rfl Tryz.ntmps187 Tryz.results187 (by kernel_rfl) (by simp) hI (fun W => Sv.ok dRn W (some ad, xs.length, c) xs) h fun C hC hN ok => ?_
    simp [hN]
    intro g
    by_cases hx : xs = []
    · subst hx
      refine app0 ok rfl rfl rfl rfl rfl rfl rfl (Nat.le_refl _) rfl rfl ?_
      simp [hN]
      exact ret0 hC (some ⟨g, 0, none⟩, 0, 0) rfl fun W _ _ => ⟨rfl, Nat.le_refl _, by simp, rd_nil _ _ _⟩
    · have h1 : 0 < xs.length := List.length_pos_iff.2 hx
      obtain ⟨b, o, e⟩ := h0.2.2.2.is_some h1
      cases e
      have h2 := h0.2.2.1
      refine appI ok 5 rfl rfl rfl rfl rfl (by decide) rfl rfl rfl rfl rfl rfl h1 (by simp; omega) (by omega) (fun l W => Rows dRn W xs l) (fun W hW => ?_) fun l g' c' W hq _ => ?_
      · obtain ⟨l, k1, k2, k3⟩ := hW.2.2.2.all_rows
        exact ⟨l, k1.1, k2, k3, k1⟩
      · simp [hN]
        refine ret0 hC (some ⟨g', 0, none⟩, xs.length, c') (by simp) fun W hp hG => ?_
        simp at hp hG
        obtain ⟨k1, k2, k3⟩ := hG.1.rd hp (by decide)
        exact ⟨k1, by simpa using k2, h2, k3⟩
theorem cloneI (w : World) (I : Nat → Prop) (hI : ∀ b, I b → b < w.heap.size) {a : Option Addr} {n c : Nat} (xs : List _) (h : ∀ W, Ext I w W → Sv.ok dInt W (a, n, c) xs) :
    Fn0 Tryz.prog 108 #[.slice a n c] w I Sv.val (fun r W => Sv.ok dInt W r xs) := by
  have h0 := h w (Ext.refl _ _)
  obtain rfl : n = xs.length := h0.1
  cases a with
  | none =>
    have hx : xs = [] := Classical.byContradiction fun hne => by obtain ⟨b, o, e, _⟩ := h0.2.2.2 hne; cases e
    subst hx
    refine enter (svs := [.c (.v (.slice none 0 c))]) tysOk Tryz.func108 rfl Tryz.ntmps108 Tryz.results108 (by kernel_rfl) (by simp) hI (fun _ => True) (fun _ _ => trivial) fun C hC hN ok => ?_
    simp [hN]
    exact ret0 hC (none, 0, 0) rfl fun W _ _ => ⟨rfl, Nat.le_refl _, by simp, rd_nil _ _ _⟩
  | some ad =>
    refine enter (svs := [.c (.v (.slice (some ad) xs.length c))]) tysOk Tryz.func108 rfl Tryz.ntmps108 Tryz.results108 (by kernel_rfl) (by simp) hI (fun W => Sv.ok dInt W (some ad, xs.length, c) xs) h fun C hC hN ok => ?_
    simp [hN]
    intro g
    by_cases hx : xs = []
    · subst hx
      refine app0 ok rfl rfl rfl rfl rfl rfl rfl (Nat.le_refl _) rfl rfl ?_
      simp [hN]
      exact ret0 hC (some ⟨g, 0, none⟩, 0, 0) rfl fun W _ _ => ⟨rfl, Nat.le_refl _, by simp, rd_nil _ _ _⟩
    · have h1 : 0 < xs.length := List.length_pos_iff.2 hx
      obtain ⟨b, o, e⟩ := h0.2.2.2.is_some h1
      cases e
      have h2 := h0.2.2.1
      refine appI ok 5 rfl rfl rfl rfl rfl (by decide) rfl rfl rfl rfl rfl rfl h1 (by simp; omega) (by omega) (fun l W => Rows dInt W xs l) (fun W hW => ?_) fun l g' c' W hq _ => ?_
      · obtain ⟨l, k1, k2, k3⟩ := hW.2.2.2.all_rows
        exact ⟨l, k1.1, k2, k3, k1⟩
      · simp [hN]
        refine ret0 hC (some ⟨g', 0, none⟩, xs.length, c') (by simp) fun W hp hG => ?_
        simp at hp hG
        obtain ⟨k1, k2, k3⟩ := hG.1.rd hp (by decide)
        exact ⟨k1, by simpa using k2, h2, k3⟩
/-- An inode's value: what it has, and where its entries and runs stand. -/
abbrev Ix := Ino × Sl × Sl
theorem own0 (w : World) (I : Nat → Prop) (hI : ∀ b, I b → b < w.heap.size) (x : Ino) (e r : Sl) (h : ∀ W, Ext I w W → dIno.K W x (inoC x e r)) :
    Fn0 Tryz.prog 141 #[.agg (inoC x e r).toArray] w I (fun y : Sl × Sl => .agg (inoC x y.1 y.2).toArray) (fun y W => InoR W x y.1 y.2) := by
  refine enter (svs := [.ag ((inoC x e r).map .v)]) tysOk Tryz.func141 rfl Tryz.ntmps141 Tryz.results141 (by kernel_rfl) (by simp) hI (fun W => InoR W x e r) (fun W e => ino_get (h W e)) fun C hC hN ok => ?_
  obtain ⟨ea, ec⟩ := e
  obtain ⟨ra, rc⟩ := r
  simp [hN]
  intro g1 g2
  refine drawW ok mixed (by kernel_rfl) ?_
  simp -implicitDefEqProofs [hN]
  have e1 : ∀ w I, (∀ b, I b → b < w.heap.size) → (∀ W, Ext I w W → InoR W x (ea, ec) (ra, rc)) → Fn0 Tryz.prog 186 #[.slice ea x.ents.length ec] w I Sv.val (fun r W => Sv.ok dEnt W r x.ents) := fun w I hI h => cloneE w I hI x.ents fun W e => ⟨rfl, (h W e).1⟩
  have e2 : ∀ w I, (∀ b, I b → b < w.heap.size) → (∀ W, Ext I w W → InoR W x (ea, ec) (ra, rc)) → Fn0 Tryz.prog 187 #[.slice ra x.runs.length rc] w I Sv.val (fun r W => Sv.ok dRn W r x.runs) := fun w I hI h => cloneR w I hI x.runs fun W e => ⟨rfl, (h W e).2⟩
  and_intros
  all_goals
    refine call0 ok rfl rfl rfl (fun w I hI hG => e1 w I hI hG) fun q W hq => ?_
    obtain ⟨qa, qn, qc⟩ := q
    obtain rfl : qn = x.ents.length := hq.1
    simp -implicitDefEqProofs [hN]
    refine call0 ok rfl rfl rfl (fun w I hI hG => e2 w I hI fun W e => (hG W e).2) fun q W hq => ?_
    obtain ⟨pa, pn, pc⟩ := q
    obtain rfl : pn = x.runs.length := hq.1
    simp -implicitDefEqProofs [hN]
    exact ret0 hC ((qa, qc), (pa, pc)) rfl fun W _ hG => ⟨hG.2.1.2, hG.1.2⟩
end Go.Proofs.YtbbaoeidobdblaaGreat.Sx

/- state.copied, state.Whole. -/
set_option linter.unusedVariables false
set_option linter.unusedSimpArgs false
namespace Go.Proofs.YtbbaoeidobdblaaGreat.Sx
open Go
attribute [local simp ↓] ifb_true' ifb_false'
attribute [local simp] ifb_true ifb_false ifb_eq sx argsT find ev evOp evs evo evBin evInt evStr evNil evNilA ptrA slcA isNoneA asB evLoad look del cellsB evUn evConv kdec fld evFieldA evField evIdxA evIdx evSlc bndL bndH evLen mmi put resV guardV gvL setO tupV cellsOf ones one upd lits nv exitTo SV.val CV.val TI.agg rdyA allR keepB scan simpO gsp isS subs keepT pickT wr memN pubs Res.fact Region.binds bld rest give delL back Res.eqv vi vb num Sv.val
/-- Inodes' cells, one by one. -/
def inosC (l : List Ix) : List CV := l.flatMap fun y => (inoC y.1 y.2.1 y.2.2).map .v
theorem inosC_snoc (l : List Ix) (y : Ix) : inosC (l ++ [y]) = inosC l ++ (inoC y.1 y.2.1 y.2.2).map .v := by simp [inosC]
theorem inosC_length (l : List Ix) : (inosC l).length = l.length * 7 := by
  induction l with
  | nil => rfl
  | cons x r ih => simp [inosC] at ih ⊢; omega
def InosR (W : World) (l : List Ix) : Prop := ∀ y, y ∈ l → InoR W y.1 y.2.1 y.2.2
/-- Slices of one's own that hold inodes. -/
abbrev Inos := Option Addr × Nat × List Ix
abbrev Inos.val (r : Inos) : Value := .slice r.1 r.2.2.length r.2.1
abbrev Inos.res (r : Inos) : Res := .row r.1 r.2.2.length r.2.1 44 7 (inosC r.2.2)
theorem copied0 (w : World) (I : Nat → Prop) (hI : ∀ b, I b → b < w.heap.size) {a : Option Addr} {n c : Nat} (xs : List Ino) (h : ∀ W, Ext I w W → Sv.ok dIno W (a, n, c) xs) (hl : xs.length ≤ 1000000000) :
    FnS Tryz.prog 107 #[.slice a n c] w I noS Inos.val (fun r => [Inos.res r]) (fun r W => r.2.2.map Prod.fst = xs ∧ InosR W r.2.2) := by
  obtain rfl : n = xs.length := (h w (Ext.refl _ _)).1
  refine enterS (svs := [.c (.v (.slice a xs.length c))]) tysOk Tryz.func107 rfl Tryz.ntmps107 Tryz.results107 (by kernel_rfl) (by simp) hI [] (owns_nil w) (fun b hb => hb.elim) (fun W => Sv.ok dIno W (a, xs.length, c) xs) h fun C hC hN ok => ?_
  simp [hN]
  refine nilr 600 44 7 (loop ok (fun y : Nat × Inos => [(8, .c (.v (.int .i64 (y.1 : Nat)))), (3, .c (.v (.slice y.2.1 y.1 y.2.2.1)))]) (fun y => [(600, .row y.2.1 y.1 y.2.2.1 44 7 (inosC y.2.2.2))]) (fun y W => y.1 ≤ xs.length ∧ y.2.2.2.map Prod.fst = xs.take y.1 ∧ InosR W y.2.2.2) (fun y => xs.length - y.1) (0, none, 0, []) ?_ ?_ (fun W hW => ⟨Nat.zero_le _, by simp, fun y hy => by cases hy⟩) ?_)
  · simp
  · simp [inosC]
  rintro ⟨i, ya, yc, l⟩ W ⟨hi, hm, hr⟩ hG next
  simp [hN]
  refine ⟨fun hlt => ?_, fun hge => ?_⟩
  · obtain ⟨b, o, e⟩ := (show Sv.ok dIno W (a, xs.length, c) xs from hG).2.2.2.is_some (Nat.lt_of_le_of_lt (Nat.zero_le _) hlt)
    cases e
    simp [hN]
    have e6 : IntKind.i64.wrap ((i : Int) + 1) = (i + 1 : Nat) := by rw [w64 (by omega) (by omega)]; omega
    have ft : xs.take (i + 1) = xs.take i ++ [xs[i]] := by rw [List.take_add_one, List.getElem?_eq_getElem hlt]; rfl
    generalize hd : xs[i] = d at ft
    refine ⟨hlt, loadA ok rfl rfl rfl rfl (fun c W => dIno.K W d c) (fun W hW => ?_) ?_⟩
    · obtain ⟨cs, hk, hl, hc⟩ := hW.2.2.2.2.get hlt
      rw [hd] at hk
      exact ⟨cs, hl, hc, hk⟩
    · rintro v W _ ⟨⟨ea, ec⟩, ⟨ra, rc⟩, rfl, hR⟩ hG2
      simp [hN]
      intro g5
      refine call0 ok rfl rfl rfl (fun w I hI hG => own0 w I hI d (ea, ec) (ra, rc) fun W e => (hG W e).1) fun q W _ => ?_
      obtain ⟨⟨qa, qc⟩, ⟨pa, pc⟩⟩ := q
      simp [hN]
      intro g15
      refine appR ok 600 15 rfl rfl rfl rfl rfl (by decide) rfl rfl rfl rfl rfl rfl rfl (by decide) (by simp) (by show (i + 1) * 96 ≤ _; omega) (by omega) fun g' c' => ?_
      simp [hN, e6]
      refine next (i + 1, some ⟨g', 0, none⟩, c', l ++ [(d, (qa, qc), (pa, pc))]) _ _ (by simp; omega) (fun W h => ⟨⟨hlt, by simp [hm, ft], fun y hy => ?_⟩, h.2.2.2⟩) ?_
      · rcases List.mem_append.1 hy with hy | hy
        · exact h.2.2.1.2.2 y hy
        · rw [List.mem_singleton.1 hy]
          exact h.1
      · simp [inosC_snoc]
  · have hi' : i = xs.length := by simp only at hi; omega
    subst hi'
    have hll : l.length = xs.length := by have := congrArg List.length hm; simpa using this
    refine retS hC (ya, yc, l) [600] (by simp [hll]) (by simp [hll]) fun W _ hG => ⟨by have := hG.1.2.1; rwa [List.take_length] at this, hG.1.2.2⟩
/-- Deeds' cells. -/
abbrev Dx := Dee × Sl × Sl
def deesC (l : List Dx) : List CV := l.flatMap fun y => (deeC y.1 y.2.1 y.2.2).map .v
theorem deesC_snoc (l : List Dx) (y : Dx) : deesC (l ++ [y]) = deesC l ++ (deeC y.1 y.2.1 y.2.2).map .v := by simp [deesC]
def DeesR (W : World) (l : List Dx) : Prop := ∀ y, y ∈ l → InoR W y.1.ino y.2.1 y.2.2
theorem dees_rows {W : World} : ∀ (l : List Dx), DeesR W l → Rows dDee W (l.map Prod.fst) ((deesC l).map CV.val)
  | [], _ => rows_nil _ _
  | y :: l, h => by
    refine Rows.cons_iff.2 ⟨deeC y.1 y.2.1 y.2.2, (deesC l).map CV.val, by simp [deesC, Function.comp_def, CV.val], ⟨y.2.1, y.2.2, rfl, h y List.mem_cons_self⟩, dees_rows l fun z hz => h z (List.mem_cons_of_mem _ hz)⟩
theorem inos_rows {W : World} : ∀ (l : List Ix), InosR W l → Rows dIno W (l.map Prod.fst) ((inosC l).map CV.val)
  | [], _ => rows_nil _ _
  | y :: l, h => by
    refine Rows.cons_iff.2 ⟨inoC y.1 y.2.1 y.2.2, (inosC l).map CV.val, by simp [inosC, Function.comp_def, CV.val], ⟨y.2.1, y.2.2, rfl, h y List.mem_cons_self⟩, inos_rows l fun z hz => h z (List.mem_cons_of_mem _ hz)⟩
def inoZ : Ino := ⟨0, 0, 0, 0, ⟨#[]⟩, [], []⟩
/-- The deeds that a state is. -/
def wholeL (s : Sta) : List Dee := ⟨1, s.next, inoZ⟩ :: (s.inos.map fun x => ⟨2, 0, x⟩) ++ s.bad.map fun n => ⟨4, n, inoZ⟩
theorem sta_get {W : World} {i b : Sl} {x : Sta} (h : StaR W x i b) : Sv.ok dIno W (i.1, x.inos.length, i.2) x.inos ∧ Sv.ok dInt W (b.1, x.bad.length, b.2) x.bad := ⟨⟨rfl, h.1⟩, ⟨rfl, h.2⟩⟩
theorem whole0 (w : World) (I : Nat → Prop) (hI : ∀ b, I b → b < w.heap.size) (s : Sta) (si sb : Sl) (h : ∀ W, Ext I w W → StaR W s si sb) (hl : s.inos.length + s.bad.length ≤ 1000000000) :
    Fn0 Tryz.prog 93 #[.agg (staC s si sb).toArray] w I Sv.val (fun r W => Sv.ok dDee W r (wholeL s)) := by
  obtain ⟨ia, ic⟩ := si
  obtain ⟨ba, bc⟩ := sb
  refine enter (svs := [.ag ((staC s (ia, ic) (ba, bc)).map .v)]) tysOk Tryz.func93 rfl Tryz.ntmps93 Tryz.results93 (by kernel_rfl) (by simp) hI (fun W => StaR W s (ia, ic) (ba, bc)) h fun C hC hN ok => ?_
  simp [hN]
  intro g1 g2
  have z0 : ∀ W, InoR W inoZ (none, 0) (none, 0) := fun W => ⟨⟨Nat.le_refl _, by simp [inoZ], rd_nil _ _ _⟩, ⟨Nat.le_refl _, by simp [inoZ], rd_nil _ _ _⟩⟩
  refine loop ok (fun y : Nat × Option Addr × Nat × List Dx => [(15, .c (.v (.int .i64 (y.1 : Nat)))), (3, .c (.v (.slice y.2.1 (y.1 + 1) y.2.2.1)))]) (fun y => [(11, .row y.2.1 (y.1 + 1) y.2.2.1 46 9 (deesC y.2.2.2)), (1, .box g1 39 ((staC s (ia, ic) (ba, bc)).map .v))]) (fun y W => y.1 ≤ s.inos.length ∧ y.2.2.2.map Prod.fst = ⟨1, s.next, inoZ⟩ :: ((s.inos.take y.1).map fun x => ⟨2, 0, x⟩) ∧ DeesR W y.2.2.2) (fun y => s.inos.length - y.1) (0, some ⟨g2, 0, none⟩, 1, [(⟨1, s.next, inoZ⟩, (none, 0), (none, 0))]) ?_ ?_ (fun W hW => ⟨Nat.zero_le _, by simp, fun y hy => by rw [List.mem_singleton.1 hy]; exact z0 W⟩) ?_
  · simp
  · simp [deesC, inoZ]
  rintro ⟨i, ya, yc, l⟩ W ⟨hi, hm, hr⟩ hG next
  simp [hN]
  refine ⟨fun hlt => ?_, fun hge => ?_⟩
  · obtain ⟨b, o, e⟩ := (sta_get (show StaR W s (ia, ic) (ba, bc) from hG)).1.2.2.2.is_some (Nat.lt_of_le_of_lt (Nat.zero_le _) hlt)
    cases e
    simp [hN]
    have e6 : IntKind.i64.wrap ((i : Int) + 1) = (i + 1 : Nat) := by rw [w64 (by omega) (by omega)]; omega
    have ft : s.inos.take (i + 1) = s.inos.take i ++ [s.inos[i]] := by rw [List.take_add_one, List.getElem?_eq_getElem hlt]; rfl
    generalize hd : s.inos[i] = d at ft
    refine ⟨hlt, loadA ok rfl rfl rfl rfl (fun c W => dIno.K W d c) (fun W hW => ?_) ?_⟩
    · obtain ⟨cs, hk, hl, hc⟩ := (sta_get hW.2).1.2.2.2.get hlt
      rw [hd] at hk
      exact ⟨cs, hl, hc, hk⟩
    · rintro v W _ ⟨⟨ea, ec⟩, ⟨ra, rc⟩, rfl, hR⟩ hG2
      simp [hN]
      intro g5
      refine call0 ok rfl rfl rfl (fun w I hI hG => own0 w I hI d (ea, ec) (ra, rc) fun W e => (hG W e).1) fun q W _ => ?_
      obtain ⟨⟨qa, qc⟩, ⟨pa, pc⟩⟩ := q
      simp [hN]
      intro g15
      refine appR ok 11 23 rfl rfl rfl rfl rfl (by decide) rfl rfl rfl rfl rfl rfl rfl (by decide) (by simp) (by show (i + 1 + 1) * 112 ≤ _; omega) (by omega) fun g' c' => ?_
      simp [hN, e6]
      refine next (i + 1, some ⟨g', 0, none⟩, c', l ++ [(⟨2, 0, d⟩, (qa, qc), (pa, pc))]) _ _ (by simp; omega) (fun W h => ⟨⟨hlt, by simp [hm, ft], fun y hy => ?_⟩, h.2.2.2⟩) ?_
      · rcases List.mem_append.1 hy with hy | hy
        · exact h.2.2.1.2.2 y hy
        · rw [List.mem_singleton.1 hy]
          exact h.1
      · simp [deesC_snoc]
  · have hi' : i = s.inos.length := by simp only at hi; omega
    subst hi'
    have hT : s.inos.take s.inos.length = s.inos := List.take_length
    rw [hT] at *
    simp [hN]
    refine loop ok (fun y : Nat × Option Addr × Nat × List Dx => [(29, .c (.v (.int .i64 (y.1 : Nat)))), (3, .c (.v (.slice y.2.1 (s.inos.length + 1 + y.1) y.2.2.1)))]) (fun y => [(11, .row y.2.1 (s.inos.length + 1 + y.1) y.2.2.1 46 9 (deesC y.2.2.2))]) (fun y W => y.1 ≤ s.bad.length ∧ y.2.2.2.map Prod.fst = ⟨1, s.next, inoZ⟩ :: (s.inos.map fun x => ⟨2, 0, x⟩) ++ ((s.bad.take y.1).map fun n => ⟨4, n, inoZ⟩) ∧ DeesR W y.2.2.2) (fun y => s.bad.length - y.1) (0, ya, yc, l) ?_ ?_ (fun W hW => ⟨Nat.zero_le _, by simpa using hm, hW.1.2⟩) ?_
    · simp
    · simp
    rintro ⟨i, za, zc, k⟩ W ⟨hi2, hm2, hr2⟩ hG3 next2
    simp [hN]
    refine ⟨fun hlt => ?_, fun hge => ?_⟩
    · obtain ⟨b, o, e⟩ := (sta_get (show StaR W s (ia, ic) (ba, bc) from hG3.2)).2.2.2.2.is_some (Nat.lt_of_le_of_lt (Nat.zero_le _) hlt)
      cases e
      simp [hN]
      have e6 : IntKind.i64.wrap ((i : Int) + 1) = (i + 1 : Nat) := by rw [w64 (by omega) (by omega)]; omega
      have ft : s.bad.take (i + 1) = s.bad.take i ++ [s.bad[i]] := by rw [List.take_add_one, List.getElem?_eq_getElem hlt]; rfl
      generalize hd : s.bad[i] = d at ft
      refine ⟨hlt, load1 ok rfl rfl rfl rfl (fun v W => v = .int .i64 d) (fun W hW => ?_) ?_⟩
      · obtain ⟨cs, hk, _, hc⟩ := (sta_get hW.2.2).2.2.2.2.get hlt
        rw [hd] at hk
        exact ⟨_, by simpa [dInt, flat] using hc 0 (.int .i64 d) (by rw [hk]; rfl), rfl⟩
      · rintro v W rfl hG4
        simp [hN]
        intro g15
        refine appR ok 11 36 rfl rfl rfl rfl rfl (by decide) rfl rfl rfl rfl rfl rfl rfl (by decide) (by simp) (by show (s.inos.length + 1 + i + 1) * 112 ≤ _; omega) (by omega) fun g' c' => ?_
        simp [hN, e6]
        refine next2 (i + 1, some ⟨g', 0, none⟩, c', k ++ [(⟨4, d, inoZ⟩, (none, 0), (none, 0))]) _ _ (by simp; omega) (fun W h => ⟨⟨hlt, by simp [hm2, ft], fun y hy => ?_⟩, h.2⟩) ?_
        · rcases List.mem_append.1 hy with hy | hy
          · exact h.1.2.2 y hy
          · rw [List.mem_singleton.1 hy]
            exact z0 W
        · simp [deesC_snoc, inoZ, Nat.add_assoc]
    · have hi' : i = s.bad.length := by simp only at hi2; omega
      subst hi'
      have hT2 : s.bad.take s.bad.length = s.bad := List.take_length
      have hm3 : k.map Prod.fst = wholeL s := by rw [hm2, hT2]; rfl
      have hkl : (wholeL s).length = s.inos.length + 1 + s.bad.length := by simp [wholeL]; omega
      refine ret0 hC (za, s.inos.length + 1 + s.bad.length, zc) rfl fun W hp hG => ?_
      have hrw := dees_rows k hG.1.2.2
      rw [hm3] at hrw
      obtain ⟨k1, k2, k3⟩ := hrw.rd hp.1 (by decide)
      exact ⟨k1, by simp; omega, by omega, k3⟩
end Go.Proofs.YtbbaoeidobdblaaGreat.Sx

/- nor.Right, half.Size, frame.Size, cut.Ceil. -/
set_option linter.unusedVariables false
set_option linter.unusedSimpArgs false
namespace Go.Proofs.YtbbaoeidobdblaaGreat.Sx
open Go
attribute [local simp ↓] ifb_true' ifb_false'
attribute [local simp] ifb_true ifb_false ifb_eq sx argsT find ev evOp evs evo evBin evInt evStr evNil evNilA ptrA slcA isNoneA asB evLoad look del cellsB evUn evConv kdec fld evFieldA evField evIdxA evIdx evSlc bndL bndH evLen mmi put resV guardV gvL setO tupV cellsOf ones one upd lits nv exitTo SV.val CV.val TI.agg rdyA allR keepB scan simpO gsp isS subs keepT pickT wr memN pubs Res.fact Region.binds bld rest give delL back Res.eqv vi vb num Sv.val
theorem within0 (w : World) (I : Nat → Prop) (hI : ∀ b, I b → b < w.heap.size) (v l t : Int) :
    Fn0 Tryz.prog 95 #[.int .i64 v, .int .i64 l, .int .i64 t] w I (fun b : Bool => .bool b) (fun y W => y = decide (l ≤ v ∧ v ≤ t)) := by
  refine enter (svs := [.c (.v (.int .i64 v)), .c (.v (.int .i64 l)), .c (.v (.int .i64 t))]) tysOk Tryz.func95 rfl Tryz.ntmps95 Tryz.results95 (by kernel_rfl) (by simp) hI (fun _ => True) (fun _ _ => trivial) fun C hC hN ok => ?_
  simp [hN]
  exact ⟨fun h => ret0 hC _ rfl fun W _ _ => by simp [h], fun h => ret0 hC _ rfl fun W _ _ => by simp; omega⟩
theorem frameSize0 (w : World) (I : Nat → Prop) (hI : ∀ b, I b → b < w.heap.size) (n : Int) (h0 : -9223372036854775808 ≤ n + 7) (h1 : n + 7 ≤ 9223372036854775807) :
    Fn0 Tryz.prog 59 #[.int .i64 n] w I (fun v : Int => .int .i64 v) (fun y W => y = n + 7) := by
  refine enter (svs := [.c (.v (.int .i64 n))]) tysOk Tryz.func59 rfl Tryz.ntmps59 Tryz.results59 (by kernel_rfl) (by simp) hI (fun _ => True) (fun _ _ => trivial) fun C hC hN ok => ?_
  simp [hN, w64 h0 h1]
  exact ret0 hC _ rfl fun W _ _ => rfl
/-- A geometry. -/
structure Geo where
  sectors : Int
  sector : Int
  blocks : Int
  pages : Int
  page : Int
deriving DecidableEq
abbrev geoC (g : Geo) : List Value := [.int .i64 g.sectors, .int .i64 g.sector, .int .i64 g.blocks, .int .i64 g.pages, .int .i64 g.page]
def Geo.right (g : Geo) : Prop := g.sectors.tmod 2 = 0 ∧ (2 ≤ g.sectors ∧ g.sectors ≤ 16) ∧ (256 ≤ g.sector ∧ g.sector ≤ 4096) ∧ (4 ≤ g.blocks ∧ g.blocks ≤ 64) ∧ (2 ≤ g.pages ∧ g.pages ≤ 32) ∧ (16 ≤ g.page ∧ g.page ≤ 256)
instance (g : Geo) : Decidable g.right := by unfold Geo.right; infer_instance
theorem norRight0 (w : World) (I : Nat → Prop) (hI : ∀ b, I b → b < w.heap.size) (g : Geo) :
    Fn0 Tryz.prog 53 #[.agg (geoC g).toArray] w I (fun b : Bool => .bool b) (fun y W => y = decide g.right) := by
  refine enter (svs := [.ag ((geoC g).map .v)]) tysOk Tryz.func53 rfl Tryz.ntmps53 Tryz.results53 (by kernel_rfl) (by simp) hI (fun _ => True) (fun _ _ => trivial) fun C hC hN ok => ?_
  simp [hN]
  intro g1
  refine ⟨fun h0 => ?_, fun h0 => ret0 hC false rfl fun W _ _ => by simp [Geo.right, h0]⟩
  refine call0 ok rfl rfl rfl (fun w I hI hG => within0 w I hI _ _ _) fun y1 W hy1 => ?_
  simp [hN]
  refine ⟨fun h1 => ?_, fun h1 => ret0 hC false rfl fun W _ _ => by rw [hy1] at h1; exact (decide_eq_false fun hr => absurd hr.2.1 (of_decide_eq_false h1)).symm⟩
  refine call0 ok rfl rfl rfl (fun w I hI hG => within0 w I hI _ _ _) fun y2 W hy2 => ?_
  simp [hN]
  refine ⟨fun h2 => ?_, fun h2 => ret0 hC false rfl fun W _ _ => by rw [hy2] at h2; exact (decide_eq_false fun hr => absurd hr.2.2.1 (of_decide_eq_false h2)).symm⟩
  refine call0 ok rfl rfl rfl (fun w I hI hG => within0 w I hI _ _ _) fun y3 W hy3 => ?_
  simp [hN]
  refine ⟨fun h3 => ?_, fun h3 => ret0 hC false rfl fun W _ _ => by rw [hy3] at h3; exact (decide_eq_false fun hr => absurd hr.2.2.2.1 (of_decide_eq_false h3)).symm⟩
  refine call0 ok rfl rfl rfl (fun w I hI hG => within0 w I hI _ _ _) fun y4 W hy4 => ?_
  simp [hN]
  refine ⟨fun h4 => ?_, fun h4 => ret0 hC false rfl fun W _ _ => by rw [hy4] at h4; exact (decide_eq_false fun hr => absurd hr.2.2.2.2.1 (of_decide_eq_false h4)).symm⟩
  refine call0 ok rfl rfl rfl (fun w I hI hG => within0 w I hI _ _ _) fun y5 W hy5 => ?_
  simp [hN]
  refine ret0 hC y5 rfl fun W _ _ => ?_
  rw [hy1] at h1
  rw [hy2] at h2
  rw [hy3] at h3
  rw [hy4] at h4
  rw [hy5]
  simp at h1 h2 h3 h4
  simp [Geo.right, h0, h1, h2, h3, h4]
theorem halfSize0 (w : World) (I : Nat → Prop) (hI : ∀ b, I b → b < w.heap.size) (g : Geo) :
    Fn0 Tryz.prog 94 #[.agg (geoC g).toArray] w I (fun v : Int => .int .i64 v) (fun y W => y = if g.right then g.sectors / 2 * g.sector else 0) := by
  refine enter (svs := [.ag ((geoC g).map .v)]) tysOk Tryz.func94 rfl Tryz.ntmps94 Tryz.results94 (by kernel_rfl) (by simp) hI (fun _ => True) (fun _ _ => trivial) fun C hC hN ok => ?_
  simp [hN]
  intro g1
  refine call0 ok rfl rfl rfl (fun w I hI hG => norRight0 w I hI g) fun y W hy => ?_
  simp [hN]
  refine ⟨fun h => ?_, fun h => ?_⟩
  · rw [hy] at h
    simp at h
    exact ret0 hC _ rfl fun W _ _ => by rw [if_neg h]
  · rw [hy] at h
    simp at h
    refine ret0 hC _ rfl fun W _ _ => ?_
    rw [if_pos h]
    obtain ⟨h0, h1, h2, _⟩ := h
    have e1 : g.sectors.fdiv (2 ^ min 1 IntKind.i64.bits) = g.sectors / 2 := by
      rw [show (2 : Int) ^ min 1 IntKind.i64.bits = 2 by decide]
      exact Int.fdiv_eq_ediv_of_nonneg _ (by decide)
    rw [e1]
    have h3 : 0 ≤ g.sectors / 2 := by omega
    have h4 : g.sectors / 2 ≤ 8 := by omega
    have h5 : 0 ≤ g.sectors / 2 * g.sector := Int.mul_nonneg h3 (by omega)
    have h6 : g.sectors / 2 * g.sector ≤ 8 * 4096 := Int.mul_le_mul h4 h2.2 (by omega) (by decide)
    exact w64 (by omega) (by omega)
theorem ceil0 (w : World) (I : Nat → Prop) (hI : ∀ b, I b → b < w.heap.size) (n p : Int) (hn : n ≤ 1000000000000) :
    Fn0 Tryz.prog 91 #[.int .i64 n, .int .i64 p] w I (fun v : Int => .int .i64 v) (fun y W => y = if n ≤ 0 ∨ p ≤ 0 then 0 else (n - 1) / p + 1) := by
  refine enter (svs := [.c (.v (.int .i64 n)), .c (.v (.int .i64 p))]) tysOk Tryz.func91 rfl Tryz.ntmps91 Tryz.results91 (by kernel_rfl) (by simp) hI (fun _ => True) (fun _ _ => trivial) fun C hC hN ok => ?_
  simp [hN]
  refine ⟨fun h1 => ⟨fun h2 => ret0 hC _ rfl fun W _ _ => by rw [if_pos (.inr h2)], fun h2 => ⟨by omega, ret0 hC _ rfl fun W _ _ => ?_⟩⟩, fun h1 => ret0 hC _ rfl fun W _ _ => by rw [if_pos (.inl h1)]⟩
  rw [if_neg (by omega), w64 (x := n - 1) (by omega) (by omega), Int.tdiv_eq_ediv_of_nonneg (by omega)]
  have h3 : 0 ≤ (n - 1) / p := Int.ediv_nonneg (by omega) (by omega)
  have h4 : (n - 1) / p ≤ n - 1 := Int.ediv_le_self _ (by omega)
  rw [w64 (x := (n - 1) / p) (by omega) (by omega), w64 (by omega) (by omega)]
end Go.Proofs.YtbbaoeidobdblaaGreat.Sx

/- runs.goes, Right, Pages, Count. -/
set_option linter.unusedVariables false
set_option linter.unusedSimpArgs false
namespace Go.Proofs.YtbbaoeidobdblaaGreat.Sx
open Go
attribute [local simp ↓] ifb_true' ifb_false'
attribute [local simp] ifb_true ifb_false ifb_eq sx argsT find ev evOp evs evo evBin evInt evStr evNil evNilA ptrA slcA isNoneA asB evLoad look del cellsB evUn evConv kdec fld evFieldA evField evIdxA evIdx evSlc bndL bndH evLen mmi put resV guardV gvL setO tupV cellsOf ones one upd lits nv exitTo SV.val CV.val TI.agg rdyA allR keepB scan simpO gsp isS subs keepT pickT wr memN pubs Res.fact Region.binds bld rest give delL back Res.eqv vi vb num Sv.val undef
abbrev rnC (x : Rn) : List Value := [.int .i64 x.fr, .int .i64 x.at_, .int .i64 x.ct]
def okR (r : Rn) : Prop := 0 ≤ r.fr ∧ 0 ≤ r.at_ ∧ 1 ≤ r.ct ∧ r.ct ≤ 64 ∧ r.fr ≤ 64 - r.ct ∧ r.at_ ≤ 2147483648 - r.ct
def goesP (p r : Rn) : Prop := r.fr = p.fr + p.ct ∧ r.at_ = p.at_ + p.ct
def okS (p r : Rn) : Prop := p.fr + p.ct ≤ r.fr ∧ ¬ goesP p r
instance (r : Rn) : Decidable (okR r) := by unfold okR; infer_instance
instance (p r : Rn) : Decidable (goesP p r) := by unfold goesP; infer_instance
instance (p r : Rn) : Decidable (okS p r) := by unfold okS; infer_instance
theorem goes0 (w : World) (I : Nat → Prop) (hI : ∀ b, I b → b < w.heap.size) (p r : Rn) (hp : okR p) :
    Fn0 Tryz.prog 204 #[.agg (rnC p).toArray, .agg (rnC r).toArray] w I (fun b : Bool => .bool b) (fun y W => y = decide (goesP p r)) := by
  refine enter (svs := [.ag ((rnC p).map .v), .ag ((rnC r).map .v)]) tysOk Tryz.func204 rfl Tryz.ntmps204 Tryz.results204 (by kernel_rfl) (by simp) hI (fun _ => True) (fun _ _ => trivial) fun C hC hN ok => ?_
  obtain ⟨p0, p1, p2, p3, p4, p5⟩ := hp
  have e1 : IntKind.i64.wrap (p.fr + p.ct) = p.fr + p.ct := w64 (by omega) (by omega)
  have e2 : IntKind.i64.wrap (p.at_ + p.ct) = p.at_ + p.ct := w64 (by omega) (by omega)
  simp [hN, e1, e2]
  exact fun g1 g2 => ⟨fun h => ret0 hC _ rfl fun W _ _ => by simp [goesP, h], fun h => ret0 hC _ rfl fun W _ _ => by simp [goesP, h]⟩
/-- All before are as they should be. -/
def rightTo (l : List Rn) (i : Nat) : Prop := ∀ j (h : j < l.length), j < i → okR l[j] ∧ ∀ h0 : 0 < j, okS (l[j - 1]'(by omega)) l[j]
abbrev RightL (l : List Rn) : Prop := rightTo l l.length
theorem rn_get {W : World} {a : Option Addr} {n c : Nat} {l : List Rn} (h : Sv.ok dRn W (a, n, c) l) {i : Nat} (hi : i < l.length) : ∃ b o, a = some ⟨b, o, none⟩ ∧ ∀ j v, (rnC l[i])[j]? = some v → W.cell? ⟨b, o + i * 3 + j, none⟩ = some v := by
  obtain ⟨b, o, e⟩ := h.2.2.2.is_some (show 0 < l.length by omega)
  cases e
  obtain ⟨cs, hk, _, hc⟩ := h.2.2.2.get hi
  exact ⟨b, o, rfl, by rw [hk] at hc; exact hc⟩
set_option maxRecDepth 100000 in
set_option maxHeartbeats 4000000 in
theorem runsRight0 (w : World) (I : Nat → Prop) (hI : ∀ b, I b → b < w.heap.size) {a : Option Addr} {n c : Nat} (l : List Rn) (h : ∀ W, Ext I w W → Sv.ok dRn W (a, n, c) l) :
    Fn0 Tryz.prog 185 #[.slice a n c] w I (fun b : Bool => .bool b) (fun y W => y = true ↔ RightL l) := by
  obtain rfl : n = l.length := (h w (Ext.refl _ _)).1
  have hx := (h w (Ext.refl _ _)).2.2.1
  refine enter (svs := [.c (.v (.slice a l.length c))]) tysOk Tryz.func185 rfl Tryz.ntmps185 Tryz.results185 (by kernel_rfl) (by simp) hI (fun W => Sv.ok dRn W (a, l.length, c) l) h fun C hC hN ok => ?_
  simp [hN]
  refine loopK [0, 5, 6, 2] ok (fun i : Nat => [(7, .c (.v (.int .i64 i)))]) (fun _ => []) (fun i W => i ≤ l.length ∧ rightTo l i) (fun i => l.length - i) 0 ?_ ?_ (fun W hW => ⟨Nat.zero_le _, fun j _ hj => absurd hj (Nat.not_lt_zero _)⟩) ?_
  · simp
  · simp
  rintro i W ⟨hi, hr⟩ hG next
  rcases Nat.lt_or_ge i l.length with hlt | hge
  · obtain ⟨b, o, e⟩ := (show Sv.ok dRn W (a, l.length, c) l from hG).2.2.2.is_some (Nat.lt_of_le_of_lt (Nat.zero_le _) hlt)
    cases e
    simp [hN, hlt]
    have e6 : IntKind.i64.wrap ((i : Int) + 1) = (i + 1 : Nat) := by rw [w64 (by omega) (by omega)]; omega
    refine loadA ok rfl rfl rfl rfl (fun c W => c = rnC l[i]) (fun W hW => ?_) ?_
    · obtain ⟨cs, hk, _, hc⟩ := hW.2.2.2.2.get hlt
      exact ⟨cs, by rw [hk]; rfl, hc, hk⟩
    rintro v W _ rfl hG2
    have hni : ¬ okR l[i] → ¬ RightL l := fun h1 h2 => h1 (h2 i hlt hlt).1
    generalize hd : l[i] = d at hni
    simp [hN]
    intro g4
    have no : ¬ okR d → RetP C (.bool false) ⟨fun _ => True, fun W => (i ≤ l.length ∧ rightTo l i) ∧ Sv.ok dRn W (some ⟨b, o, none⟩, l.length, c) l, [(4, .box g4 139 [.v (.int .i64 d.fr), .v (.int .i64 d.at_), .v (.int .i64 d.ct)])]⟩ := fun h => ret0 hC false rfl fun W _ _ => by simp [hni h]
    refine ⟨fun h1 => ⟨fun h2 => ⟨fun h3 => ⟨fun h4 => ?_, fun h4 => no fun hk => ?_⟩, fun h3 => no fun hk => ?_⟩, fun h2 => no fun hk => ?_⟩, fun h1 => no fun hk => ?_⟩
    rotate_left
    · have := hk.2.2.2.1
      omega
    · have := hk.2.2.1
      omega
    · have := hk.2.1
      omega
    · have := hk.1
      omega
    have e8 : IntKind.i64.wrap (64 - d.ct) = 64 - d.ct := w64 (by omega) (by omega)
    have e9 : IntKind.i64.wrap (2147483648 - d.ct) = 2147483648 - d.ct := w64 (by omega) (by omega)
    rw [e8, e9]
    refine ⟨fun h5 => ⟨fun h6 => no fun hk => ?_, fun h6 => ?_⟩, fun h5 => no fun hk => ?_⟩
    · have := hk.2.2.2.2.2
      omega
    rotate_left
    · have := hk.2.2.2.2.1
      omega
    have hk : okR d := ⟨h1, h2, h3, h4, h5, h6⟩
    refine drawK ok mixed (by kernel_rfl) ?_
    by_cases h0 : i = 0
    · subst h0
      simp (maxSteps := 2000000) -implicitDefEqProofs [hN]
      have e1 : IntKind.i64.wrap 1 = 1 := w64 (by omega) (by omega)
      rw [e1]
      refine next 1 _ _ (by omega) (fun W h => ⟨⟨hlt, fun j hj hj1 => ?_⟩, h.2⟩) ?_
      · obtain rfl : j = 0 := by omega
        rw [hd]
        exact ⟨hk, fun h => absurd h (Nat.lt_irrefl _)⟩
      · simp
    · have h0' : 0 < i := by omega
      have e7 : IntKind.i64.wrap ((i : Int) - 1) = (i - 1 : Nat) := by rw [w64 (by omega) (by omega)]; omega
      have hpl : i - 1 < l.length := by omega
      have hokp := (hr (i - 1) hpl (by omega)).1
      have hcl : ∀ W, Sv.ok dRn W (some ⟨b, o, none⟩, l.length, c) l → ∀ j v, (rnC l[i - 1])[j]? = some v → W.cell? ⟨b, o + (i - 1) * 3 + j, none⟩ = some v := fun W hW => by
        obtain ⟨b', o', e, hh⟩ := rn_get hW hpl
        cases e
        exact hh
      have hns : ¬ okS l[i - 1] d → ¬ RightL l := fun h1 h2 => h1 (by rw [← hd]; exact (h2 i hlt hlt).2 h0')
      generalize hq : l[i - 1] = p at hokp hcl hns
      obtain ⟨p0, p1, p2, p3, p4, p5⟩ := id hokp
      have e10 : IntKind.i64.wrap (p.fr + p.ct) = p.fr + p.ct := w64 (by omega) (by omega)
      simp (maxSteps := 2000000) -implicitDefEqProofs [hN, h0', e7]
      refine ⟨by omega, ?_⟩
      refine ⟨?_, ?_⟩
      · refine load1 ok rfl rfl rfl rfl (fun v W => v = .int .i64 p.fr) (fun W hW => ⟨_, by simpa using hcl W hW.2 0 _ rfl, rfl⟩) ?_
        rintro v W rfl _
        simp (maxSteps := 2000000) -implicitDefEqProofs [hN, e7]
        refine load1 ok rfl rfl rfl rfl (fun v W => v = .int .i64 p.ct) (fun W hW => ⟨_, hcl W hW.2 2 _ rfl, rfl⟩) ?_
        rintro v W rfl _
        simp (maxSteps := 2000000) -implicitDefEqProofs [hN, e10, e7]
        refine ⟨fun h7 => ret0 hC false rfl fun W _ _ => by simp [hns fun h => by have := h.1; omega], fun h7 => ⟨by omega, ?_⟩⟩
        refine loadA ok rfl rfl rfl rfl (fun c W => c = rnC p) (fun W hW => ⟨rnC p, rfl, hcl W hW.2, rfl⟩) ?_
        rintro v W _ rfl _
        simp (maxSteps := 2000000) -implicitDefEqProofs [hN]
        refine call0 ok rfl rfl rfl (fun w I hI hG => goes0 w I hI p d hokp) fun y W hy => ?_
        simp (maxSteps := 2000000) -implicitDefEqProofs [hN, e6]
        refine ⟨fun h8 => ?_, fun h8 => ?_⟩
        · rw [hy] at h8
          simp at h8
          exact ret0 hC false rfl fun W _ _ => by simp [hns fun h => h.2 h8]
        · rw [hy] at h8
          simp at h8
          refine next (i + 1) _ _ (by omega) (fun W h => ⟨⟨hlt, fun j hj hj1 => ?_⟩, h.2.2⟩) ?_
          · rcases Nat.lt_or_ge j i with hji | hji
            · exact hr j hj hji
            · obtain rfl : j = i := by omega
              rw [hd]
              exact ⟨hk, fun _ => by rw [hq]; exact ⟨h7, h8⟩⟩
          · simp
      · refine load1 ok rfl rfl rfl rfl (fun v W => v = .int .i64 p.ct) (fun W hW => ⟨_, hcl W hW.2 2 _ rfl, rfl⟩) ?_
        rintro v W rfl _
        simp (maxSteps := 2000000) -implicitDefEqProofs [hN, e7]
        refine load1 ok rfl rfl rfl rfl (fun v W => v = .int .i64 p.fr) (fun W hW => ⟨_, by simpa using hcl W hW.2 0 _ rfl, rfl⟩) ?_
        rintro v W rfl _
        simp (maxSteps := 2000000) -implicitDefEqProofs [hN, e10, e7]
        refine ⟨fun h7 => ret0 hC false rfl fun W _ _ => by simp [hns fun h => by have := h.1; omega], fun h7 => ⟨by omega, ?_⟩⟩
        refine loadA ok rfl rfl rfl rfl (fun c W => c = rnC p) (fun W hW => ⟨rnC p, rfl, hcl W hW.2, rfl⟩) ?_
        rintro v W _ rfl _
        simp (maxSteps := 2000000) -implicitDefEqProofs [hN]
        refine call0 ok rfl rfl rfl (fun w I hI hG => goes0 w I hI p d hokp) fun y W hy => ?_
        simp (maxSteps := 2000000) -implicitDefEqProofs [hN, e6]
        refine ⟨fun h8 => ?_, fun h8 => ?_⟩
        · rw [hy] at h8
          simp at h8
          exact ret0 hC false rfl fun W _ _ => by simp [hns fun h => h.2 h8]
        · rw [hy] at h8
          simp at h8
          refine next (i + 1) _ _ (by omega) (fun W h => ⟨⟨hlt, fun j hj hj1 => ?_⟩, h.2.2⟩) ?_
          · rcases Nat.lt_or_ge j i with hji | hji
            · exact hr j hj hji
            · obtain rfl : j = i := by omega
              rw [hd]
              exact ⟨hk, fun _ => by rw [hq]; exact ⟨h7, h8⟩⟩
          · simp
  · simp [hN, Nat.not_lt.2 hge]
    exact ret0 hC true rfl fun W _ _ => by
      have hi' : i = l.length := by omega
      subst hi'
      simp only [true_iff]
      exact hr
end Go.Proofs.YtbbaoeidobdblaaGreat.Sx

/- runs.Pages, runs.Count. -/
set_option linter.unusedVariables false
set_option linter.unusedSimpArgs false
namespace Go.Proofs.YtbbaoeidobdblaaGreat.Sx
open Go
attribute [local simp ↓] ifb_true' ifb_false'
attribute [local simp] ifb_true ifb_false ifb_eq sx argsT find ev evOp evs evo evBin evInt evStr evNil evNilA ptrA slcA isNoneA asB evLoad look del cellsB evUn evConv kdec fld evFieldA evField evIdxA evIdx evSlc bndL bndH evLen mmi put resV guardV gvL setO tupV cellsOf ones one upd lits nv exitTo SV.val CV.val TI.agg rdyA allR keepB scan simpO gsp isS subs keepT pickT wr memN pubs Res.fact Region.binds bld rest give delL back Res.eqv vi vb num Sv.val undef
def iC (l : List Int) : List CV := l.map fun y => .v (.int .i64 y)
theorem iC_val (l : List Int) : (iC l).map CV.val = l.map (Value.int .i64) := by simp [iC, Function.comp_def, CV.val]
/-- A run's pages. -/
def pg (r : Rn) : List Int := (List.range r.ct.toNat).map fun (j : Nat) => r.at_ + j
def pgTo (r : Rn) (j : Nat) : List Int := (List.range j).map fun (j : Nat) => r.at_ + j
theorem pgTo_succ (r : Rn) (j : Nat) : pgTo r (j + 1) = pgTo r j ++ [r.at_ + j] := by simp [pgTo, List.range_succ]
open Classical in
noncomputable def pagesL (l : List Rn) : List Int := if RightL l then l.flatMap pg else []
theorem fm_len {l : List Rn} (h : ∀ r, r ∈ l → r.ct ≤ 64) : (l.flatMap pg).length ≤ 64 * l.length := by
  induction l with
  | nil => simp
  | cons x r ih =>
    have h1 := h x List.mem_cons_self
    have h2 := ih fun y hy => h y (List.mem_cons_of_mem _ hy)
    simp only [List.flatMap_cons, List.length_append, List.length_cons, pg, List.length_map, List.length_range]
    omega
set_option maxHeartbeats 2000000 in
theorem runsPages0 (w : World) (I : Nat → Prop) (hI : ∀ b, I b → b < w.heap.size) {a : Option Addr} {n c : Nat} (l : List Rn) (h : ∀ W, Ext I w W → Sv.ok dRn W (a, n, c) l) (hl : l.length ≤ 1000000000) :
    Fn0 Tryz.prog 140 #[.slice a n c] w I Sv.val (fun r W => Sv.ok dInt W r (pagesL l)) := by
  obtain rfl : n = l.length := (h w (Ext.refl _ _)).1
  refine enter (svs := [.c (.v (.slice a l.length c))]) tysOk Tryz.func140 rfl Tryz.ntmps140 Tryz.results140 (by kernel_rfl) (by simp) hI (fun W => Sv.ok dRn W (a, l.length, c) l) h fun C hC hN ok => ?_
  simp [hN]
  refine call0 ok rfl rfl rfl (fun w I hI hG => runsRight0 w I hI l hG) fun y W hy => ?_
  have hp0 : ¬ RightL l → pagesL l = [] := fun h => by rw [pagesL, if_neg h]
  have hp1 : RightL l → pagesL l = l.flatMap pg := fun h => by rw [pagesL, if_pos h]
  simp [hN]
  refine ⟨fun hno => ret0 hC (none, 0, 0) rfl fun W _ _ => ?_, fun hyes => ?_⟩
  · rw [hp0 fun h => by rw [hy.2 h] at hno; cases hno]
    exact ⟨rfl, Nat.le_refl _, by simp, rd_nil _ _ _⟩
  have hR := hy.1 hyes
  rw [hp1 hR] at hC
  have hct : ∀ i (hi : i < l.length), 1 ≤ l[i].ct ∧ l[i].ct ≤ 64 ∧ 0 ≤ l[i].at_ ∧ l[i].at_ ≤ 2147483648 := fun i hi => by
    have := (hR i hi hi).1
    obtain ⟨_, h2, h3, h4, _, h6⟩ := this
    exact ⟨h3, h4, h2, by omega⟩
  have hle : ∀ i, i ≤ l.length → ((l.take i).flatMap pg).length ≤ 64 * i := fun i hi => by
    have := fm_len (l := l.take i) fun r hr => by
      obtain ⟨j, hj, rfl⟩ := List.getElem_of_mem hr
      rw [List.getElem_take]
      exact (hct j (by rw [List.length_take] at hj; omega)).2.1
    rw [List.length_take, Nat.min_eq_left hi] at this
    exact this
  refine nilr 600 3 1 (loop ok (fun y : Nat × Option Addr × Nat => [(12, .c (.v (.int .i64 (y.1 : Nat)))), (3, .c (.v (.slice y.2.1 ((l.take y.1).flatMap pg).length y.2.2)))]) (fun y => [(600, .row y.2.1 ((l.take y.1).flatMap pg).length y.2.2 3 1 (iC ((l.take y.1).flatMap pg)))]) (fun y W => y.1 ≤ l.length) (fun y => l.length - y.1) (0, none, 0) ?_ ?_ (fun W hW => Nat.zero_le _) ?_)
  · simp
  · simp [iC]
  rintro ⟨i, ya, yc⟩ W hi hG next
  rcases Nat.lt_or_ge i l.length with hlt | hge
  · obtain ⟨b, o, e⟩ := (show Sv.ok dRn W (a, l.length, c) l from hG.2).2.2.2.is_some (Nat.lt_of_le_of_lt (Nat.zero_le _) hlt)
    cases e
    have hb := hle i (Nat.le_of_lt hlt)
    have ft : (l.take (i + 1)).flatMap pg = (l.take i).flatMap pg ++ pg l[i] := fm_take' pg l i hlt
    have e6 : IntKind.i64.wrap ((i : Int) + 1) = (i + 1 : Nat) := by rw [w64 (by omega) (by omega)]; omega
    obtain ⟨c1, c2, c3, c4⟩ := hct i hlt
    generalize hA : (l.take i).flatMap pg = A at *
    simp [hN, hlt]
    refine loadA ok rfl rfl rfl rfl (fun c W => c = rnC l[i]) (fun W hW => ?_) ?_
    · obtain ⟨cs, hk, _, hc⟩ := hW.2.2.2.2.2.get hlt
      exact ⟨cs, by rw [hk]; rfl, hc, hk⟩
    rintro v W _ rfl hG2
    generalize hd : l[i] = d at c1 c2 c3 c4 ft
    simp [hN]
    intro g5
    refine loop ok (fun y : Nat × Option Addr × Nat => [(18, .c (.v (.int .i64 (y.1 : Nat)))), (3, .c (.v (.slice y.2.1 (A.length + y.1) y.2.2)))]) (fun y => [(600, .row y.2.1 (A.length + y.1) y.2.2 3 1 (iC (A ++ pgTo d y.1))), (5, .box g5 139 ((rnC d).map .v))]) (fun y W => (y.1 : Int) ≤ d.ct) (fun y => d.ct.toNat - y.1) (0, ya, yc) ?_ ?_ (fun W hW => by omega) ?_
    · simp
    · simp [pgTo]
    rintro ⟨j, za, zc⟩ W hj hG3 next2
    simp only at hj
    rcases Int.lt_or_le j d.ct with hjt | hjt
    · have e7 : IntKind.i64.wrap (d.at_ + (j : Int)) = d.at_ + j := w64 (by omega) (by omega)
      have e8 : IntKind.i64.wrap ((j : Int) + 1) = (j + 1 : Nat) := by rw [w64 (by omega) (by omega)]; omega
      simp [hN, hjt, e7]
      intro g
      refine appR ok 600 26 rfl rfl rfl rfl rfl (by decide) rfl rfl rfl rfl rfl rfl rfl (by decide) (by simp) (by show (A.length + j + 1) * 8 ≤ _; omega) (by omega) fun g' c' => ?_
      simp [hN, e8]
      refine next2 (j + 1, some ⟨g', 0, none⟩, c') _ _ (by simp only; omega) (fun W h => ⟨by simp only; omega, h.2⟩) ?_
      simp [pgTo_succ, hyes, iC, Nat.add_assoc]
    · simp [hN, Int.not_lt.2 hjt, e6]
      have hj2 : j = d.ct.toNat := by omega
      have hpj : pgTo d j = pg d := by rw [hj2]; rfl
      have hpl : (pg d).length = j := by rw [hj2]; simp [pg]
      refine next (i + 1, za, zc) _ _ (by simp only; omega) (fun W h => ⟨hlt, h.2.2⟩) ?_
      simp only [ft, hpj, List.length_append, hpl]
      simp [hyes]
  · have hi' : i = l.length := by simp only at hi; omega
    subst hi'
    have hT : l.take l.length = l := List.take_length
    have hb := hle l.length (Nat.le_refl _)
    rw [hT] at *
    generalize hA : l.flatMap pg = A at *
    simp [hN]
    refine ret0 hC (ya, A.length, yc) rfl fun W hp hG => ?_
    have h1 := hp.1
    simp only [Res.fact, iC_val] at h1
    exact int_ok h1 (by omega)
/-- How many pages. -/
noncomputable def countL (l : List Rn) : Int := (pagesL l).length
theorem runsCount0 (w : World) (I : Nat → Prop) (hI : ∀ b, I b → b < w.heap.size) {a : Option Addr} {n c : Nat} (l : List Rn) (h : ∀ W, Ext I w W → Sv.ok dRn W (a, n, c) l) (hl : l.length ≤ 1000000000) :
    Fn0 Tryz.prog 89 #[.slice a n c] w I (fun v : Int => .int .i64 v) (fun y W => y = countL l) := by
  refine enter (svs := [.c (.v (.slice a n c))]) tysOk Tryz.func89 rfl Tryz.ntmps89 Tryz.results89 (by kernel_rfl) (by simp) hI (fun W => Sv.ok dRn W (a, n, c) l) h fun C hC hN ok => ?_
  simp [hN]
  refine call0 ok rfl rfl rfl (fun w I hI hG => runsPages0 w I hI l hG hl) fun y W hy => ?_
  obtain ⟨ya, yn, yc⟩ := y
  simp [hN]
  exact ret0 hC yn rfl fun W _ _ => by have := hy.1; simp only at this; rw [this]; rfl
end Go.Proofs.YtbbaoeidobdblaaGreat.Sx

/- space.Of, space.Sure. -/
set_option linter.unusedVariables false
set_option linter.unusedSimpArgs false
namespace Go.Proofs.YtbbaoeidobdblaaGreat.Sx
open Go
attribute [local simp ↓] ifb_true' ifb_false'
attribute [local simp] ifb_true ifb_false ifb_eq sx argsT find ev evOp evs evo evBin evInt evStr evNil evNilA ptrA slcA isNoneA asB evLoad look del cellsB evUn evConv kdec fld evFieldA evField evIdxA evIdx evSlc bndL bndH evLen mmi put resV guardV gvL setO tupV cellsOf ones one upd lits nv exitTo SV.val CV.val TI.agg rdyA allR keepB scan simpO gsp isS subs keepT pickT wr memN pubs Res.fact Region.binds bld rest give delL back Res.eqv vi vb num Sv.val undef
theorem countL_le (l : List Rn) : 0 ≤ countL l ∧ countL l ≤ 64 * l.length := by
  unfold countL pagesL
  split
  · rename_i h
    have := fm_len (l := l) fun r hr => by
      obtain ⟨j, hj, rfl⟩ := List.getElem_of_mem hr
      exact (h j hj hj).1.2.2.2.1
    omega
  · simp
    omega
/-- How many pages live. -/
noncomputable def liveL (l : List Ino) : Int := (l.map fun x => countL x.runs).sum
theorem liveL_snoc (l : List Ino) (x : Ino) : liveL (l ++ [x]) = liveL l + countL x.runs := by simp [liveL]
theorem liveL_le (l : List Ino) (h : ∀ x, x ∈ l → x.runs.length ≤ 1000000) : 0 ≤ liveL l ∧ liveL l ≤ 64000000 * l.length := by
  induction l with
  | nil => simp [liveL]
  | cons x r ih =>
    have h1 := countL_le x.runs
    have h2 := h x List.mem_cons_self
    have h3 := ih fun y hy => h y (List.mem_cons_of_mem _ hy)
    simp only [liveL, List.map_cons, List.sum_cons, List.length_cons] at h3 ⊢
    omega
structure Room where
  all : Int
  live : Int
  bad : Int
deriving DecidableEq
abbrev roomV (r : Room) : Value := .agg #[.int .i64 r.all, .int .i64 r.live, .int .i64 r.bad]
noncomputable def roomOf (s : Sta) (g : Geo) : Room := if g.right then ⟨g.blocks * g.pages, liveL s.inos, g.pages * s.bad.length⟩ else ⟨0, 0, 0⟩
def Small (s : Sta) : Prop := s.inos.length ≤ 1000000 ∧ s.bad.length ≤ 1000000 ∧ ∀ x, x ∈ s.inos → x.runs.length ≤ 1000000
theorem of0 (w : World) (I : Nat → Prop) (hI : ∀ b, I b → b < w.heap.size) (s : Sta) (si sb : Sl) (g : Geo) (h : ∀ W, Ext I w W → StaR W s si sb) (hs : Small s) :
    Fn0 Tryz.prog 47 #[.agg (staC s si sb).toArray, .agg (geoC g).toArray] w I roomV (fun y W => y = roomOf s g) := by
  obtain ⟨ia, ic⟩ := si
  obtain ⟨ba, bc⟩ := sb
  obtain ⟨s1, s2, s3⟩ := hs
  refine enter (svs := [.ag ((staC s (ia, ic) (ba, bc)).map .v), .ag ((geoC g).map .v)]) tysOk Tryz.func47 rfl Tryz.ntmps47 Tryz.results47 (by kernel_rfl) (by simp) hI (fun W => StaR W s (ia, ic) (ba, bc)) h fun C hC hN ok => ?_
  simp [hN]
  intro g1 g2 g3
  refine call0 ok rfl rfl rfl (fun w I hI hG => norRight0 w I hI g) fun y W hy => ?_
  simp [hN]
  refine ⟨fun hno => ?_, fun hyes => ?_⟩
  · rw [hy] at hno
    simp at hno
    exact ret0 hC ⟨0, 0, 0⟩ rfl fun W _ _ => by rw [roomOf, if_neg hno]
  rw [hy] at hyes
  simp at hyes
  have hr := hyes
  obtain ⟨_, _, _, q1, q2, _⟩ := hyes
  have m1 : 0 ≤ g.blocks * g.pages := Int.mul_nonneg (by omega) (by omega)
  have m2 : g.blocks * g.pages ≤ 64 * 32 := Int.mul_le_mul q1.2 q2.2 (by omega) (by decide)
  have m3 : 0 ≤ g.pages * (s.bad.length : Int) := Int.mul_nonneg (by omega) (by omega)
  have m4 : g.pages * (s.bad.length : Int) ≤ 32 * 1000000 := Int.mul_le_mul q2.2 (by omega) (by omega) (by decide)
  have e1 : IntKind.i64.wrap (g.blocks * g.pages) = g.blocks * g.pages := w64 (by omega) (by omega)
  have e2 : IntKind.i64.wrap (g.pages * (s.bad.length : Int)) = g.pages * s.bad.length := w64 (by omega) (by omega)
  rw [e1, e2]
  intro g4
  refine loop ok (fun i : Nat => [(27, .c (.v (.int .i64 i)))]) (fun i => [(5, .box g4 96 [.v (.int .i64 (g.blocks * g.pages)), .v (.int .i64 (liveL (s.inos.take i))), .v (.int .i64 (g.pages * s.bad.length))]), (4, .box g3 96 [.v (.int .i64 0), .v (.int .i64 0), .v (.int .i64 0)])]) (fun i W => i ≤ s.inos.length) (fun i => s.inos.length - i) 0 ?_ ?_ (fun W hW => Nat.zero_le _) ?_
  · simp
  · simp [liveL]
  rintro i W hi hG next
  rcases Nat.lt_or_ge i s.inos.length with hlt | hge
  · obtain ⟨b, o, e⟩ := (sta_get (show StaR W s (ia, ic) (ba, bc) from hG.2)).1.2.2.2.is_some (Nat.lt_of_le_of_lt (Nat.zero_le _) hlt)
    cases e
    have e6 : IntKind.i64.wrap ((i : Int) + 1) = (i + 1 : Nat) := by rw [w64 (by omega) (by omega)]; omega
    have ft : s.inos.take (i + 1) = s.inos.take i ++ [s.inos[i]] := by rw [List.take_add_one, List.getElem?_eq_getElem hlt]; rfl
    have hd3 := s3 _ (List.getElem_mem hlt)
    have hlv := liveL_le (s.inos.take i) fun x hx => s3 x (List.mem_of_mem_take hx)
    rw [List.length_take, Nat.min_eq_left hi] at hlv
    have hlv2 := liveL_snoc (s.inos.take i) s.inos[i]
    rw [← ft] at hlv2
    generalize hd : s.inos[i] = d at ft hd3 hlv2
    have hcl := countL_le d.runs
    simp [hN, hlt]
    refine loadA ok rfl rfl rfl rfl (fun c W => dIno.K W d c) (fun W hW => ?_) ?_
    · obtain ⟨cs, hk, hl, hc⟩ := (sta_get hW.2.2).1.2.2.2.get hlt
      rw [hd] at hk
      exact ⟨cs, hl, hc, hk⟩
    rintro v W _ ⟨⟨ea, ec⟩, ⟨ra, rc⟩, rfl, hR⟩ hG2
    simp [hN]
    intro g7
    refine drawW ok mixed (by kernel_rfl) ?_
    have e9 : IntKind.i64.wrap (liveL (s.inos.take i) + countL d.runs) = liveL (s.inos.take (i + 1)) := by rw [hlv2]; exact w64 (by omega) (by omega)
    generalize hL : liveL (s.inos.take i) = L at *
    simp (maxSteps := 2000000) -implicitDefEqProofs [hN]
    and_intros
    all_goals
      refine call0 ok rfl rfl rfl (fun w I hI hG => runsCount0 w I hI d.runs (fun W e => ⟨rfl, (ino_get (hG W e).1).2⟩) (by omega)) fun z W hz => ?_
      subst hz
      simp (maxSteps := 2000000) -implicitDefEqProofs [hN, e9, e6]
      refine next (i + 1) _ _ (by omega) (fun W h => ⟨hlt, h.2.2⟩) ?_
      simp [hy, hr]
  · have hi' : i = s.inos.length := by omega
    subst hi'
    have hT : s.inos.take s.inos.length = s.inos := List.take_length
    rw [hT] at *
    simp [hN]
    refine ret0 hC ⟨g.blocks * g.pages, liveL s.inos, g.pages * s.bad.length⟩ rfl fun W hp hG => ?_
    rw [roomOf, if_pos hr]
end Go.Proofs.YtbbaoeidobdblaaGreat.Sx

/- space.Sure. -/
set_option linter.unusedVariables false
set_option linter.unusedSimpArgs false
namespace Go.Proofs.YtbbaoeidobdblaaGreat.Sx
open Go
attribute [local simp ↓] ifb_true' ifb_false'
attribute [local simp] ifb_true ifb_false ifb_eq sx argsT find ev evOp evs evo evBin evInt evStr evNil evNilA ptrA slcA isNoneA asB evLoad look del cellsB evUn evConv kdec fld evFieldA evField evIdxA evIdx evSlc bndL bndH evLen mmi put resV guardV gvL setO tupV cellsOf ones one upd lits nv exitTo SV.val CV.val TI.agg rdyA allR keepB scan simpO gsp isS subs keepT pickT wr memN pubs Res.fact Region.binds bld rest give delL back Res.eqv vi vb num Sv.val undef
def ceilP (n p : Int) : Int := if n ≤ 0 ∨ p ≤ 0 then 0 else (n - 1) / p + 1
def sureOf (s : Sta) (g : Geo) (pages : Int) : Prop := g.right ∧ 0 ≤ pages ∧ pages ≤ 64 ∧ liveL s.inos < g.pages * (g.blocks - s.bad.length - 2 - ceilP pages g.pages)
set_option maxRecDepth 100000 in
set_option maxHeartbeats 4000000 in
theorem sure0 (w : World) (I : Nat → Prop) (hI : ∀ b, I b → b < w.heap.size) (s : Sta) (si sb : Sl) (g : Geo) (pages : Int) (h : ∀ W, Ext I w W → StaR W s si sb) (hs : Small s) (hb : -1000000000000 ≤ g.blocks ∧ g.blocks ≤ 1000000000000) :
    Fn0 Tryz.prog 49 #[.agg (staC s si sb).toArray, .agg (geoC g).toArray, .int .i64 pages] w I (fun b : Bool => .bool b) (fun y W => y = true ↔ sureOf s g pages) := by
  obtain ⟨ia, ic⟩ := si
  obtain ⟨ba, bc⟩ := sb
  refine enter (svs := [.ag ((staC s (ia, ic) (ba, bc)).map .v), .ag ((geoC g).map .v), .c (.v (.int .i64 pages))]) tysOk Tryz.func49 rfl Tryz.ntmps49 Tryz.results49 (by kernel_rfl) (by simp) hI (fun W => StaR W s (ia, ic) (ba, bc)) h fun C hC hN ok => ?_
  have s2 := hs.2.1
  have e1 : IntKind.i64.wrap (g.blocks - (s.bad.length : Int)) = g.blocks - s.bad.length := w64 (by omega) (by omega)
  simp [hN, e1]
  intro g1 g2
  refine drawK ok mixed (by kernel_rfl) ?_
  simp (maxSteps := 2000000) -implicitDefEqProofs [hN]
  refine call0 ok rfl rfl rfl (fun w I hI hG => norRight0 w I hI g) fun y W hy => ?_
  simp (maxSteps := 2000000) -implicitDefEqProofs [hN]
  refine ⟨fun h1 => ⟨fun h2 => ⟨fun h3 => ?_, fun h3 => ret0 hC false rfl fun W _ _ => ?_⟩, fun h2 => ret0 hC false rfl fun W _ _ => ?_⟩, fun h1 => ret0 hC false rfl fun W _ _ => ?_⟩
  rotate_left
  · simp only [sureOf]
    exact ⟨fun h => (by cases h), fun h => by omega⟩
  · simp only [sureOf]
    exact ⟨fun h => (by cases h), fun h => by omega⟩
  · rw [hy] at h1
    simp only [sureOf]
    exact ⟨fun h => (by cases h), fun h => absurd h.1 (of_decide_eq_false h1)⟩
  rw [hy] at h1
  have hr : g.right := of_decide_eq_true h1
  have hr' := hr
  obtain ⟨_, _, _, q1, q2, _⟩ := hr'
  have hlv := liveL_le s.inos hs.2.2
  have hs1 := hs.1
  have hro : (roomOf s g).live = liveL s.inos := by rw [roomOf, if_pos hr]
  refine call0 ok rfl rfl rfl (fun w I hI hG => of0 w I hI s (ia, ic) (ba, bc) g (fun W e => (hG W e).2) hs) fun z W hz => ?_
  subst hz
  have e2 : IntKind.i64.wrap (g.blocks - (s.bad.length : Int) - 2) = g.blocks - s.bad.length - 2 := w64 (by omega) (by omega)
  simp (maxSteps := 2000000) -implicitDefEqProofs [hN, e2, hro]
  refine call0 ok rfl rfl rfl (fun w I hI hG => ceil0 w I hI pages g.pages (by omega)) fun z W hz => ?_
  have hz' : z = ceilP pages g.pages := hz
  subst hz'
  have hce : 0 ≤ ceilP pages g.pages ∧ ceilP pages g.pages ≤ 64 := by
    unfold ceilP
    split
    · omega
    · rename_i hn
      have k1 : 0 ≤ (pages - 1) / g.pages := Int.ediv_nonneg (by omega) (by omega)
      have k2 : (pages - 1) / g.pages ≤ pages - 1 := Int.ediv_le_self _ (by omega)
      omega
  have e3 : IntKind.i64.wrap (g.blocks - (s.bad.length : Int) - 2 - ceilP pages g.pages) = g.blocks - s.bad.length - 2 - ceilP pages g.pages := w64 (by omega) (by omega)
  have k1 : g.pages * (g.blocks - (s.bad.length : Int) - 2 - ceilP pages g.pages) ≤ 32 * 64 := by
    rcases Int.le_total 0 (g.blocks - (s.bad.length : Int) - 2 - ceilP pages g.pages) with k | k
    · exact Int.mul_le_mul q2.2 (by omega) k (by decide)
    · have := Int.mul_nonpos_of_nonneg_of_nonpos (show 0 ≤ g.pages by omega) k
      omega
  have k2 : 32 * (-2000000) ≤ g.pages * (g.blocks - (s.bad.length : Int) - 2 - ceilP pages g.pages) := by
    rcases Int.le_total 0 (g.blocks - (s.bad.length : Int) - 2 - ceilP pages g.pages) with k | k
    · have := Int.mul_nonneg (show 0 ≤ g.pages by omega) k
      omega
    · have h5 : g.pages * (-(g.blocks - (s.bad.length : Int) - 2 - ceilP pages g.pages)) ≤ 32 * 2000000 := Int.mul_le_mul q2.2 (by omega) (by omega) (by decide)
      rw [Int.mul_neg] at h5
      omega
  have e4 : IntKind.i64.wrap (g.pages * (g.blocks - (s.bad.length : Int) - 2 - ceilP pages g.pages)) = g.pages * (g.blocks - (s.bad.length : Int) - 2 - ceilP pages g.pages) := w64 (by omega) (by omega)
  simp (maxSteps := 2000000) -implicitDefEqProofs [hN, e3, e4]
  refine ret0 hC _ rfl fun W _ _ => ?_
  simp [sureOf, hr, h2, h3]
end Go.Proofs.YtbbaoeidobdblaaGreat.Sx

/- state.Apply of no deeds; space.Journal of no deeds. -/
set_option linter.unusedVariables false
set_option linter.unusedSimpArgs false
namespace Go.Proofs.YtbbaoeidobdblaaGreat.Sx
open Go
attribute [local simp ↓] ifb_true' ifb_false'
attribute [local simp] ifb_true ifb_false ifb_eq sx argsT find ev evOp evs evo evBin evInt evStr evNil evNilA ptrA slcA isNoneA asB evLoad look del cellsB evUn evConv kdec fld evFieldA evField evIdxA evIdx evSlc bndL bndH evLen mmi put resV guardV gvL setO tupV cellsOf ones one upd lits nv exitTo SV.val CV.val TI.agg rdyA allR keepB scan simpO gsp isS subs keepT pickT wr memN pubs Res.fact Region.binds bld rest give delL back Res.eqv vi vb num Sv.val undef
set_option maxRecDepth 100000 in
set_option maxHeartbeats 4000000 in
theorem applyNil0 (w : World) (I : Nat → Prop) (hI : ∀ b, I b → b < w.heap.size) (s : Sta) (si sb : Sl) (h : ∀ W, Ext I w W → StaR W s si sb) (hs : Small s) :
    Fn0 Tryz.prog 62 #[.agg (staC s si sb).toArray, .slice none 0 0] w I (fun y : Sl × Sl => .agg (staC s y.1 y.2).toArray) (fun y W => StaR W s y.1 y.2) := by
  obtain ⟨ia, ic⟩ := si
  obtain ⟨ba, bc⟩ := sb
  have s1 := hs.1
  have s2 := hs.2.1
  refine enter (svs := [.ag ((staC s (ia, ic) (ba, bc)).map .v), .c (.v (.slice none 0 0))]) tysOk Tryz.func62 rfl Tryz.ntmps62 Tryz.results62 (by kernel_rfl) (by simp) hI (fun W => StaR W s (ia, ic) (ba, bc)) h fun C hC hN ok => ?_
  simp [hN]
  intro g1 g2
  refine drawW ok mixed (by kernel_rfl) ?_
  have k1 : ∀ w I, (∀ b, I b → b < w.heap.size) → (∀ W, Ext I w W → StaR W s (ia, ic) (ba, bc)) → FnS Tryz.prog 107 #[.slice ia s.inos.length ic] w I noS Inos.val (fun r => [Inos.res r]) (fun r W => r.2.2.map Prod.fst = s.inos ∧ InosR W r.2.2) := fun w I hI h => copied0 w I hI s.inos (fun W e => (sta_get (h W e)).1) (by omega)
  have k2 : ∀ w I, (∀ b, I b → b < w.heap.size) → (∀ W, Ext I w W → StaR W s (ia, ic) (ba, bc)) → Fn0 Tryz.prog 108 #[.slice ba s.bad.length bc] w I Sv.val (fun r W => Sv.ok dInt W r s.bad) := fun w I hI h => cloneI w I hI s.bad fun W e => (sta_get (h W e)).2
  simp (maxSteps := 2000000) -implicitDefEqProofs [hN]
  and_intros
  all_goals
    refine callS ok rfl rfl rfl [] [] trivial rfl (fun r : Inos => [(600, Inos.res r)]) (fun w I S hI hG hO hS => (k1 w I hI hG).lone hO) (fun r => by simp [back, memN, Res.eqv]) (.inl fun k hk => by cases hk) fun r W hr => ?_
    obtain ⟨ra, rc, l⟩ := r
    have hll : l.length = s.inos.length := by have := congrArg List.length hr.1; simpa using this
    simp (maxSteps := 2000000) -implicitDefEqProofs [hN, hll, Inos.val, Inos.res]
    refine call0 ok rfl rfl rfl (fun w I hI hG => k2 w I hI fun W e => (hG W e).2) fun q W hq => ?_
    obtain ⟨qa, qn, qc⟩ := q
    obtain rfl : qn = s.bad.length := hq.1
    simp (maxSteps := 2000000) -implicitDefEqProofs [hN, hll, Inos.val, Inos.res]
    refine loop ok (fun _ : Unit => [(17, .c (.v (.int .i64 0)))]) (fun _ => [(600, .row ra s.inos.length rc 44 7 (inosC l)), (4, .box g2 39 [.v (.int .i64 0), .v (.slice none 0 0), .v (.slice none 0 0)]), (2, .box g1 39 [.v (.int .i64 s.next), .v (.slice ra s.inos.length rc), .v (.slice qa s.bad.length qc)])]) (fun _ W => True) (fun _ => 0) () ?_ ?_ (fun W _ => trivial) ?_
    · simp
    · simp [hll]
    rintro _ W _ hG next
    simp [hN]
    refine ret0 hC ((ra, rc), (qa, qc)) rfl fun W hp hG => ?_
    have h1 : W.ownsRow 0 44 7 (.slice ra s.inos.length rc) s.inos.length ((inosC l).map CV.val) := by simpa [hll] using hp.2.1
    have h2 : Sv.ok dInt W (qa, s.bad.length, qc) s.bad ∧ (l.map Prod.fst = s.inos ∧ InosR W l) ∧ StaR W s (ia, ic) (ba, bc) := by simpa using hG
    have h3 := inos_rows l h2.2.1.2
    rw [h2.2.1.1] at h3
    obtain ⟨k3, k4, k5⟩ := h3.rd h1 (by decide)
    exact ⟨⟨k4, by omega, k5⟩, h2.1.2⟩
/-- How long a state's record is. -/
def wholeB (s : Sta) : Nat := (deedsB (wholeL s)).length
set_option maxRecDepth 100000 in
set_option maxHeartbeats 4000000 in
theorem journalNil0 (w : World) (I : Nat → Prop) (hI : ∀ b, I b → b < w.heap.size) (s : Sta) (si sb : Sl) (g : Geo) (h : ∀ W, Ext I w W → StaR W s si sb) (hs : Small s) (hl : wholeB s ≤ 100000000000) :
    Fn0 Tryz.prog 51 #[.agg (staC s si sb).toArray, .agg (geoC g).toArray, .slice none 0 0] w I (fun b : Bool => .bool b) (fun y W => y = decide ((wholeB s : Int) + 15 ≤ if g.right then g.sectors / 2 * g.sector else 0)) := by
  obtain ⟨ia, ic⟩ := si
  obtain ⟨ba, bc⟩ := sb
  have s1 := hs.1
  have s2 := hs.2.1
  refine enter (svs := [.ag ((staC s (ia, ic) (ba, bc)).map .v), .ag ((geoC g).map .v), .c (.v (.slice none 0 0))]) tysOk Tryz.func51 rfl Tryz.ntmps51 Tryz.results51 (by kernel_rfl) (by simp) hI (fun W => StaR W s (ia, ic) (ba, bc)) h fun C hC hN ok => ?_
  simp [hN]
  intro g1 g2
  refine call0 ok rfl rfl rfl (fun w I hI hG => applyNil0 w I hI s (ia, ic) (ba, bc) hG hs) fun y W _ => ?_
  obtain ⟨⟨ja, jc⟩, ⟨ca, cc⟩⟩ := y
  simp [hN]
  refine call0 ok rfl rfl rfl (fun w I hI hG => whole0 w I hI s (ja, jc) (ca, cc) (fun W e => (hG W e).1) (by omega)) fun y W _ => ?_
  obtain ⟨la, ln, lc⟩ := y
  simp [hN]
  refine call0 ok rfl rfl rfl (fun w I hI hG => deeds0 w I hI (wholeL s) (la, ln, lc) (fun W e => (hG W e).1) hl) fun y W hy => ?_
  obtain ⟨da, dn, dc⟩ := y
  obtain rfl : dn = wholeB s := hy.1
  have e1 : IntKind.i64.wrap (8 + (wholeB s : Int)) = 8 + wholeB s := w64 (by omega) (by omega)
  simp [hN, e1]
  refine drawK ok mixed (by kernel_rfl) ?_
  simp (maxSteps := 2000000) -implicitDefEqProofs [hN]
  refine call0 ok rfl rfl rfl (fun w I hI hG => frameSize0 w I hI (8 + (wholeB s : Int)) (by omega) (by omega)) fun y W hy => ?_
  subst hy
  simp (maxSteps := 2000000) -implicitDefEqProofs [hN]
  refine call0 ok rfl rfl rfl (fun w I hI hG => halfSize0 w I hI g) fun y W hy => ?_
  subst hy
  simp (maxSteps := 2000000) -implicitDefEqProofs [hN]
  have e2 : 8 + (wholeB s : Int) + 7 = wholeB s + 15 := by omega
  exact ret0 hC _ rfl fun W _ _ => by rw [e2]
end Go.Proofs.YtbbaoeidobdblaaGreat.Sx

/- References: new inodes and states; geometries. -/
set_option linter.unusedVariables false
set_option linter.unusedSimpArgs false
namespace Go.Proofs.YtbbaoeidobdblaaGreat.Sx
open Go
attribute [local simp ↓] ifb_true' ifb_false'
attribute [local simp] ifb_true ifb_false ifb_eq sx argsT find ev evOp evs evo evBin evInt evStr evNil evNilA ptrA slcA isNoneA asB evLoad look del cellsB evUn evConv kdec fld evFieldA evField evIdxA evIdx evSlc bndL bndH evLen mmi put resV guardV gvL setO tupV cellsOf ones one upd lits nv exitTo SV.val CV.val TI.agg rdyA allR keepB scan simpO gsp isS subs keepT pickT wr memN pubs Res.fact Region.binds bld rest give delL back Res.eqv vi vb num Sv.val undef
def emp : ByteArray := ⟨#[]⟩
def newIno (no kind : Int) (t : ByteArray) : Ino := ⟨no, kind, if kind = 2 then 2 else 1, if kind = 3 then t.size else 0, if kind = 3 then t else emp, [], []⟩
theorem newIno0 (w : World) (I : Nat → Prop) (hI : ∀ b, I b → b < w.heap.size) (no kind : Int) (t : ByteArray) :
    Fn0 Tryz.prog 60 #[.int .i64 no, .int .i64 kind, .string t] w I (fun _ : Unit => .agg (inoC (newIno no kind t) (none, 0) (none, 0)).toArray) (fun y W => True) := by
  refine enter (svs := [.c (.v (.int .i64 no)), .c (.v (.int .i64 kind)), .c (.v (.string t))]) tysOk Tryz.func60 rfl Tryz.ntmps60 Tryz.results60 (by kernel_rfl) (by simp) hI (fun _ => True) (fun _ _ => trivial) fun C hC hN ok => ?_
  by_cases k2 : kind = 2
  · subst k2
    simp [hN]
    exact fun g1 g2 => ret0 hC () rfl fun _ _ _ => trivial
  · by_cases k3 : kind = 3
    · subst k3
      simp [hN]
      exact fun g1 g2 => ret0 hC () rfl fun _ _ _ => trivial
    · simp [hN, k2, k3]
      exact fun g1 g2 => ret0 hC () (by simp [newIno, k2, k3, emp]) fun _ _ _ => trivial
def newSta : Sta := ⟨2, [newIno 1 2 emp], []⟩
theorem newSta0 (w : World) (I : Nat → Prop) (hI : ∀ b, I b → b < w.heap.size) :
    Fn0 Tryz.prog 16 #[] w I (fun y : Sl => .agg (staC newSta y (none, 0)).toArray) (fun y W => StaR W newSta y (none, 0)) := by
  refine enter (svs := []) tysOk Tryz.func16 rfl Tryz.ntmps16 Tryz.results16 (by kernel_rfl) (by simp) hI (fun _ => True) (fun _ _ => trivial) fun C hC hN ok => ?_
  simp [hN]
  intro g1
  refine call0 ok rfl rfl rfl (fun w I hI hG => newIno0 w I hI 1 2 emp) fun y W _ => ?_
  simp [hN]
  intro g2
  refine ret0 hC (some ⟨g2, 0, none⟩, 1) rfl fun W hp _ => ?_
  have h1 : Rows dIno W [newIno 1 2 emp] (inoC (newIno 1 2 emp) (none, 0) (none, 0)) := by
    refine Rows.cons_iff.2 ⟨_, [], (List.append_nil _).symm, ⟨(none, 0), (none, 0), rfl, ⟨Nat.le_refl _, by simp [newIno], rd_nil _ _ _⟩, ⟨Nat.le_refl _, by simp [newIno], rd_nil _ _ _⟩⟩, rows_nil _ _⟩
  have h2 : W.ownsRow 0 44 7 (.slice (some ⟨g2, 0, none⟩) 1 1) 1 (inoC (newIno 1 2 emp) (none, 0) (none, 0)) := by simpa [newIno, emp, inoC] using hp.2.1
  obtain ⟨k1, k2, k3⟩ := h1.rd h2 (by decide)
  exact ⟨⟨by simp [newSta], by simp [newSta], k3⟩, ⟨Nat.le_refl _, by simp [newSta], rd_nil _ _ _⟩⟩
def modP (v n : Int) : Int := (v % 18446744073709551616) % n
theorem mod0 (w : World) (I : Nat → Prop) (hI : ∀ b, I b → b < w.heap.size) (v n : Int) (h0 : 0 < n) (h1 : n ≤ 1000000000) :
    Fn0 Tryz.prog 52 #[.int .i64 v, .int .i64 n] w I (fun z : Int => .int .i64 z) (fun y W => y = modP v n) := by
  refine enter (svs := [.c (.v (.int .i64 v)), .c (.v (.int .i64 n))]) tysOk Tryz.func52 rfl Tryz.ntmps52 Tryz.results52 (by kernel_rfl) (by simp) hI (fun _ => True) (fun _ _ => trivial) fun C hC hN ok => ?_
  have e1 : n % 18446744073709551616 = n := by omega
  simp [hN, u64_wrap, e1]
  have e2 : 0 ≤ v % 18446744073709551616 := by omega
  have e3 : (v % 18446744073709551616).tmod n = modP v n := Int.tmod_eq_emod_of_nonneg e2
  have e4 : 0 ≤ modP v n := Int.emod_nonneg _ (by omega)
  have e5 : modP v n < n := Int.emod_lt_of_pos _ h0
  rw [e3, w64 (by omega) (by omega)]
  exact ⟨by omega, ret0 hC _ rfl fun _ _ _ => rfl⟩
theorem wide0 (w : World) (I : Nat → Prop) (hI : ∀ b, I b → b < w.heap.size) :
    Fn0 Tryz.prog 23 #[] w I (fun _ : Unit => .agg (geoC ⟨8, 2048, 12, 8, 32⟩).toArray) (fun y W => True) := by
  refine enter (svs := []) tysOk Tryz.func23 rfl Tryz.ntmps23 Tryz.results23 (by kernel_rfl) (by simp) hI (fun _ => True) (fun _ _ => trivial) fun C hC hN ok => ?_
  simp [hN]
  exact fun g1 => ret0 hC () rfl fun _ _ _ => trivial
def geoP (g : Geo) : Geo := ⟨2 + 2 * modP g.sectors 3, 256 + 64 * modP g.sector 12, 4 + modP g.blocks 5, 2 + modP g.pages 5, 16 + 4 * modP g.page 6⟩
theorem modP_le (v n : Int) (h : 0 < n) : 0 ≤ modP v n ∧ modP v n < n := ⟨Int.emod_nonneg _ (by omega), Int.emod_lt_of_pos _ h⟩
set_option maxRecDepth 100000 in
set_option maxHeartbeats 4000000 in
theorem geometry0 (w : World) (I : Nat → Prop) (hI : ∀ b, I b → b < w.heap.size) (g : Geo) :
    Fn0 Tryz.prog 11 #[.agg (geoC g).toArray] w I (fun _ : Unit => .agg (geoC (geoP g)).toArray) (fun y W => True) := by
  refine enter (svs := [.ag ((geoC g).map .v)]) tysOk Tryz.func11 rfl Tryz.ntmps11 Tryz.results11 (by kernel_rfl) (by simp) hI (fun _ => True) (fun _ _ => trivial) fun C hC hN ok => ?_
  have h1 := modP_le g.sectors 3 (by decide)
  have h2 := modP_le g.sector 12 (by decide)
  have h3 := modP_le g.blocks 5 (by decide)
  have h4 := modP_le g.pages 5 (by decide)
  have h5 := modP_le g.page 6 (by decide)
  simp [hN]
  intro g1 g2
  refine draw ok [(1, .box g1 23 ((geoC g).map .v))] (by rw [ok.P]; exact mixed) (by kernel_rfl) ?_
  simp (maxSteps := 2000000) -implicitDefEqProofs [hN]
  refine call0 ok rfl rfl rfl (fun w I hI hG => mod0 w I hI _ 3 (by decide) (by decide)) fun y W hy => ?_
  subst hy
  simp (maxSteps := 2000000) -implicitDefEqProofs [hN, w64 (x := 2 * modP g.sectors 3) (by omega) (by omega), w64 (x := 2 + 2 * modP g.sectors 3) (by omega) (by omega)]
  refine call0 ok rfl rfl rfl (fun w I hI hG => mod0 w I hI _ 12 (by decide) (by decide)) fun y W hy => ?_
  subst hy
  simp (maxSteps := 2000000) -implicitDefEqProofs [hN, w64 (x := 64 * modP g.sector 12) (by omega) (by omega), w64 (x := 256 + 64 * modP g.sector 12) (by omega) (by omega)]
  refine call0 ok rfl rfl rfl (fun w I hI hG => mod0 w I hI _ 5 (by decide) (by decide)) fun y W hy => ?_
  subst hy
  simp (maxSteps := 2000000) -implicitDefEqProofs [hN, w64 (x := 4 + modP g.blocks 5) (by omega) (by omega)]
  refine call0 ok rfl rfl rfl (fun w I hI hG => mod0 w I hI _ 5 (by decide) (by decide)) fun y W hy => ?_
  subst hy
  simp (maxSteps := 2000000) -implicitDefEqProofs [hN, w64 (x := 2 + modP g.pages 5) (by omega) (by omega)]
  refine call0 ok rfl rfl rfl (fun w I hI hG => mod0 w I hI _ 6 (by decide) (by decide)) fun y W hy => ?_
  subst hy
  simp (maxSteps := 2000000) -implicitDefEqProofs [hN, w64 (x := 4 * modP g.page 6) (by omega) (by omega), w64 (x := 16 + 4 * modP g.page 6) (by omega) (by omega)]
  exact ret0 hC () rfl fun _ _ _ => trivial
end Go.Proofs.YtbbaoeidobdblaaGreat.Sx

/- awake of law 27. -/
set_option linter.unusedVariables false
set_option linter.unusedSimpArgs false
namespace Go.Proofs.YtbbaoeidobdblaaGreat.Sx
open Go
attribute [local simp ↓] ifb_true' ifb_false'
attribute [local simp] ifb_true ifb_false ifb_eq sx argsT find ev evOp evs evo evBin evInt evStr evNil evNilA ptrA slcA isNoneA asB evLoad look del cellsB evUn evConv kdec fld evFieldA evField evIdxA evIdx evSlc bndL bndH evLen mmi put resV guardV gvL setO tupV cellsOf ones one upd lits nv exitTo SV.val CV.val TI.agg rdyA allR keepB scan simpO gsp isS subs keepT pickT wr memN pubs Res.fact Region.binds bld rest give delL back Res.eqv vi vb num Sv.val undef
def wideG : Geo := ⟨8, 2048, 12, 8, 32⟩
theorem wide_right : wideG.right := by decide
theorem small_new : Small newSta := ⟨by simp [newSta], by simp [newSta], fun x hx => by simp [newSta] at hx; subst hx; simp [newIno]⟩
theorem count_nil : countL [] = 0 := by simp [countL, pagesL]
theorem live_new : liveL newSta.inos = 0 := by simp [newSta, liveL, newIno, count_nil]
theorem room_new : roomOf newSta wideG = ⟨96, 0, 0⟩ := by
  rw [roomOf, if_pos wide_right, live_new]
  simp [wideG, newSta]
theorem sure_new : sureOf newSta wideG 5 := by
  refine ⟨wide_right, by decide, by decide, ?_⟩
  rw [live_new]
  decide
theorem whole_new : wholeB newSta = 54 := by
  simp [wholeB, wholeL, newSta, deedsB, deedB, tailB, lowB_length, intB_length, inoB_length, newIno, emp]
  rfl
set_option maxRecDepth 100000 in
set_option maxHeartbeats 4000000 in
theorem awake27 (w : World) (I : Nat → Prop) (hI : ∀ b, I b → b < w.heap.size) :
    Fn0 Tryz.prog 45 #[] w I (fun _ : Unit => .bool true) (fun y W => True) := by
  refine enter (svs := []) tysOk Tryz.func45 rfl Tryz.ntmps45 Tryz.results45 (by kernel_rfl) (by simp) hI (fun _ => True) (fun _ _ => trivial) fun C hC hN ok => ?_
  simp [hN]
  refine call0 ok rfl rfl rfl (fun w I hI hG => newSta0 w I hI) fun y W _ => ?_
  obtain ⟨a, c⟩ := y
  simp [hN]
  refine call0 ok rfl rfl rfl (fun w I hI hG => wide0 w I hI) fun y W _ => ?_
  simp [hN]
  refine call0 ok rfl rfl rfl (fun w I hI hG => of0 w I hI newSta (a, c) (none, 0) wideG (fun W e => (hG W e)) small_new) fun y W hy => ?_
  rw [room_new] at hy
  subst hy
  simp [hN]
  intro g1
  refine call0 ok rfl rfl rfl (fun w I hI hG => newSta0 w I hI) fun y W _ => ?_
  obtain ⟨a2, c2⟩ := y
  simp [hN]
  refine call0 ok rfl rfl rfl (fun w I hI hG => wide0 w I hI) fun y W _ => ?_
  simp [hN]
  refine call0 ok rfl rfl rfl (fun w I hI hG => sure0 w I hI newSta (a2, c2) (none, 0) wideG 5 (fun W e => (hG W e).1) small_new (by decide)) fun y W hy => ?_
  rw [hy.2 sure_new]
  simp [hN]
  refine call0 ok rfl rfl rfl (fun w I hI hG => newSta0 w I hI) fun y W _ => ?_
  obtain ⟨a3, c3⟩ := y
  simp [hN]
  refine call0 ok rfl rfl rfl (fun w I hI hG => wide0 w I hI) fun y W _ => ?_
  simp [hN]
  refine call0 ok rfl rfl rfl (fun w I hI hG => journalNil0 w I hI newSta (a3, c3) (none, 0) wideG (fun W e => (hG W e).1) small_new (by rw [whole_new]; decide)) fun y W hy => ?_
  have hy' : y = true := by
    rw [hy, whole_new, if_pos wide_right]
    decide
  subst hy'
  simp [hN]
  exact ret0 hC () rfl fun _ _ _ => trivial
end Go.Proofs.YtbbaoeidobdblaaGreat.Sx

/- In of numbers. -/
set_option linter.unusedVariables false
set_option linter.unusedSimpArgs false
namespace Go.Proofs.YtbbaoeidobdblaaGreat.Sx
open Go
attribute [local simp ↓] ifb_true' ifb_false'
attribute [local simp] ifb_true ifb_false ifb_eq sx argsT find ev evOp evs evo evBin evInt evStr evNil evNilA ptrA slcA isNoneA asB evLoad look del cellsB evUn evConv kdec fld evFieldA evField evIdxA evIdx evSlc bndL bndH evLen mmi put resV guardV gvL setO tupV cellsOf ones one upd lits nv exitTo SV.val CV.val TI.agg rdyA allR keepB scan simpO gsp isS subs keepT pickT wr memN pubs Res.fact Region.binds bld rest give delL back Res.eqv vi vb num Sv.val undef
theorem int_get {W : World} {a : Option Addr} {n c : Nat} {l : List Int} (h : Sv.ok dInt W (a, n, c) l) {i : Nat} (hi : i < l.length) : ∃ b o, a = some ⟨b, o, none⟩ ∧ W.cell? ⟨b, o + i, none⟩ = some (.int .i64 l[i]) := by
  obtain ⟨b, o, e⟩ := h.2.2.2.is_some (show 0 < l.length by omega)
  cases e
  obtain ⟨cs, hk, _, hc⟩ := h.2.2.2.get hi
  exact ⟨b, o, rfl, by simpa [dInt, flat] using hc 0 (.int .i64 l[i]) (by rw [hk]; rfl)⟩
theorem in0 (w : World) (I : Nat → Prop) (hI : ∀ b, I b → b < w.heap.size) {a : Option Addr} {n c : Nat} (l : List Int) (x : Int) (h : ∀ W, Ext I w W → Sv.ok dInt W (a, n, c) l) :
    Fn0 Tryz.prog 114 #[.slice a n c, .int .i64 x] w I (fun b : Bool => .bool b) (fun y W => y = decide (x ∈ l)) := by
  obtain rfl : n = l.length := (h w (Ext.refl _ _)).1
  have hx := (h w (Ext.refl _ _)).2.2.1
  refine enter (svs := [.c (.v (.slice a l.length c)), .c (.v (.int .i64 x))]) tysOk Tryz.func114 rfl Tryz.ntmps114 Tryz.results114 (by kernel_rfl) (by simp) hI (fun W => Sv.ok dInt W (a, l.length, c) l) h fun C hC hN ok => ?_
  simp [hN]
  refine loop ok (fun i : Nat => [(5, .c (.v (.int .i64 i)))]) (fun _ => []) (fun i W => i ≤ l.length ∧ x ∉ l.take i) (fun i => l.length - i) 0 ?_ ?_ (fun W hW => ⟨Nat.zero_le _, by simp⟩) ?_
  · simp
  · simp
  rintro i W ⟨hi, hnx⟩ hG next
  rcases Nat.lt_or_ge i l.length with hlt | hge
  · obtain ⟨b, o, e, _⟩ := int_get (show Sv.ok dInt W (a, l.length, c) l from hG) hlt
    cases e
    have e6 : IntKind.i64.wrap ((i : Int) + 1) = (i + 1 : Nat) := by rw [w64 (by omega) (by omega)]; omega
    have ft : l.take (i + 1) = l.take i ++ [l[i]] := by rw [List.take_add_one, List.getElem?_eq_getElem hlt]; rfl
    simp [hN, hlt]
    refine load1 ok rfl rfl rfl rfl (fun v W => v = .int .i64 l[i]) (fun W hW => ?_) ?_
    · obtain ⟨b', o', e, hc⟩ := int_get hW.2 hlt
      cases e
      exact ⟨_, hc, rfl⟩
    rintro v W rfl _
    simp [hN, e6]
    refine ⟨fun he => ret0 hC true rfl fun _ _ _ => ?_, fun he => next (i + 1) _ _ (by omega) (fun W h => ⟨⟨hlt, ?_⟩, h.2⟩) ?_⟩
    · subst he
      simp
    · rw [ft]
      simp only [List.mem_append, List.mem_singleton, not_or]
      exact ⟨hnx, fun e => he e.symm⟩
    · simp
  · simp [hN, Nat.not_lt.2 hge]
    have hT : l.take i = l := List.take_of_length_le hge
    rw [hT] at hnx
    exact ret0 hC false rfl fun _ _ _ => by simp [hnx]
end Go.Proofs.YtbbaoeidobdblaaGreat.Sx

/- Sx, part 10: s[:h:m], appending to what has no room, and structs held against each other. -/
set_option linter.unusedVariables false
set_option linter.unusedSimpArgs false
namespace Go.Proofs.YtbbaoeidobdblaaGreat.Sx
open Go
theorem sb3_run {P : Program} {n c : Nat} {kh km : IntKind} {H M : Int} (h0 : 0 ≤ H) (h1 : H ≤ M) (h2 : M ≤ c) (w : World) :
    (Instr.sliceBounds true n c none (some (.int kh H)) (some (.int km M))).run P w = .ok (0, H.toNat, M.toNat) w := by
  unfold Instr.sliceBounds
  have hM : 0 ≤ M := by omega
  have hH : H ≤ (M.toNat : Int) := by omega
  have a1 := fun code w => sb_run (P := P) (k := km) (code := code) hM h2 w
  have a2 := fun code w => sb_run (P := P) (k := kh) (code := code) h0 hH w
  simp [a1, a2]
section
variable {P : Program} {C : Ctx} {T : Ty} {res : List ResultVar} {p : Pos} {tm : Tm} {m : Mem}
/-- s[:h:m]. -/
theorem slc3 (ok : Okc P T C res) {o : Oper} {t d : Nat} {x oh om : Operand} (ho : o.op = .slice t x none (some oh) (some om)) (hd : o.dst = some d) {i ie : TI} (hi : tf t T = some i) (hik : i.kd = 3) (hie : tf i.el T = some ie)
    {a : Option Addr} {n c : Nat} {u : SV} {kh km : IntKind} {H M : Int} (hx : ev tm x = some u) (hu : u.val = .slice a n c) (hh : ev tm oh = some (.c (.v (.int kh H)))) (hm : ev tm om = some (.c (.v (.int km M)))) (h0 : 0 ≤ H) (h1 : H ≤ M) (h2 : M ≤ c)
    (kk : sx T C res 1000 p (put C.n (some d) (.c (.v (.slice a H.toNat M.toNat))) tm) m) : At C (.op o p) tm m := by
  intro act w cs0 hR hJ
  have e1 : act.eval x = .slice a n c := by rw [hR.eval hx, hu]
  have e2 : act.eval oh = .int kh H := hR.eval hh
  have e3 : act.eval om = .int km M := hR.eval hm
  have hu2 := (ok.ty.get hi).g_slice hik
  have hz := (ok.ty.get hie).g_sizeOf (P := C.P)
  have hb := fun w => sb3_run (P := C.P) (n := n) (c := c) (kh := kh) (km := km) h0 h1 h2 w
  have hrun : (execOp act.eval o).run C.P w = .ok (.value (.slice a H.toNat M.toNat)) w := by
    simp [execOp, ho, e1, e2, e3, Instr.sliceAt, run_underlying hu2, Instr.slice, hb, hz]
    intro _
    cases a <;> simp [Addr.add]
  have hRp := hR.put (some d) (.c (.v (.slice a H.toNat M.toNat)))
  exact op_value (ok.sx kk) hrun (by rw [hd]; exact hRp) hJ
/-- What has no room left, and is in memory that nobody changes, is appended to: a new row (k). -/
theorem appC (ok : Okc P T C res) (k k' : Nat) {o : Oper} {s x : Operand} {t d : Nat} (ho : o.op = .call ⟨.builtin .append, #[s, x], #[t, t]⟩) (hd : o.dst = some d) {i ie : TI} (hi : tf t T = some i) (hik : i.kd = 3) (hie : tf i.el T = some ie) (h0 : 0 < ie.sz) (hzl : ie.zero.length = ie.sz)
    {b off n c g m' c' : Nat} {cs' : List CV} {u v : SV} (hnk : look k m.rs = some (.row none 0 0 i.el ie.sz [])) (hs : ev tm s = some u) (hu : u.val = .slice (some ⟨b, off, none⟩) n c) (hk' : look k' m.rs = some (.row (some ⟨g, 0, none⟩) m' c' i.el ie.sz cs')) (hx : ev tm x = some v) (hv : v.val = .slice (some ⟨g, 0, none⟩) m' c')
    (hm : 0 < m') (hfull : c < n + m') (hb : (n + m') * ie.bt ≤ 140737488355328) (hmx : n + m' ≤ 140737488355328) (Q : List Value → World → Prop)
    (h : ∀ W, m.G W → ∃ l, l.length = n * ie.sz ∧ (∀ u ∈ l, u.oneCell' = true) ∧ (∀ j v, l[j]? = some v → W.cell? ⟨b, off + j, none⟩ = some v) ∧ Q l W)
    (kk : ∀ l g' c'' W, Q l W → m.G W → sx T C res 1000 p (put C.n (some d) (.c (.rw k (some ⟨g', 0, none⟩) (n + m') c'')) tm) ⟨m.B, fun W => Q l W ∧ m.G W, (k, .row (some ⟨g', 0, none⟩) (n + m') c'' i.el ie.sz (l.map nv ++ cs')) :: del k (del k m.rs)⟩) : At C (.op o p) tm m := by
  rintro act w cs0 hR ⟨I, F, hJ⟩
  have hw : m.G w := hJ.know w (Ext.refl _ _)
  obtain ⟨l, hl, h1, hc, hq⟩ := h w hw
  have hq' : ∀ W, Ext I w W → Q l W := fun W e => by
    obtain ⟨l2, hl2, _, hc2, hq2⟩ := h W (hJ.know W e)
    have : l2 = l := by
      apply List.ext_getElem?
      intro j
      rcases Nat.lt_or_ge j (n * ie.sz) with hj | hj
      · have e1 : l2[j]? = some (l2[j]'(by omega)) := List.getElem?_eq_getElem _
        have e2 : l[j]? = some (l[j]'(by omega)) := List.getElem?_eq_getElem _
        have hst : I b := stays (w := w) (ad := ⟨b, off + j, none⟩) fun W' e' => by
          obtain ⟨l3, hl3, _, hc3, _⟩ := h W' (hJ.know W' e')
          exact ⟨_, hc3 j _ (List.getElem?_eq_getElem (by omega))⟩
        have e3 := e.cell (a := ⟨b, off + j, none⟩) hst
        rw [hc j _ e2, hc2 j _ e1] at e3
        rw [e1, e2, e3]
      · rw [List.getElem?_eq_none (by omega), List.getElem?_eq_none (by omega)]
    subst this
    exact hq2
  have o2 := hJ.own _ (look_mem hk')
  have o1 := hJ.own _ (look_mem hnk)
  have hcl : cs'.length = m' * ie.sz := by simpa using o2.2.1
  have he := ok.ty.get hie
  have hu2 := (ok.ty.get hi).g_slice hik
  obtain ⟨ii, hii, hsz, hbt, z, hz, hzc⟩ := he.g_some
  have hzs : z.cells.size = ie.sz := by rw [← Array.length_toList, hzc, hzl]
  have hml : n + m' ≤ maxLen := by unfold maxLen; omega
  have hnl : (cs'.map CV.val).length = m' * ie.sz := by simpa using hcl
  have hr := run_append_grow (P := C.P) w t o.type i.el ii z hu2 hii hz ⟨b, off, none⟩ n c l (by rw [hsz]; exact hl) (fun j z hz => by rw [addr_add]; exact hc j z hz) ⟨g, 0, none⟩ m' c' (cs'.map CV.val) (by rw [hsz]; exact hnl) (fun j z hz => by
    rw [addr_add, Nat.zero_add]
    have hj : j < cs'.length := by have := (List.getElem?_eq_some_iff.1 hz).1; simpa using this
    rw [holds_cells o2 (g := g) (cs := cs') rfl j hj]
    simp only [List.getElem?_map] at hz
    simp only [List.getD, List.getElem?_eq_getElem hj, Option.map_some, Option.some.injEq] at hz ⊢
    rw [← hz]
    rfl) hfull (by omega) (growslice_fits (by omega) (by rw [hbt]; exact hb))
  have hge := grownCap_ge w (n + m') c i.el
  have hcm : grownCap w (n + m') c i.el ≤ maxLen := grownCap_le_maxLen w (n + m') c i.el hml
  have hlen : (l ++ cs'.map CV.val).length = (n + m') * ie.sz := by rw [List.length_append, hl, hnl, Nat.add_mul]
  have e1 : act.eval s = .slice (some ⟨b, off, none⟩) n c := by rw [hR.eval hs, hu]
  have e2 : act.eval x = .slice (some ⟨g, 0, none⟩) m' c' := by rw [hR.eval hx, hv]
  have hlv : (l.map nv).map CV.val = l := by simp [Function.comp_def, nv_val]
  have hown : (w.drew.alloc (.cells (l.toArray ++ (cs'.map CV.val).toArray ++ Builtin.zeroCells z.cells (grownCap w (n + m') c i.el - (n + m'))) i.el)).ownsRow 0 i.el ie.sz (.slice (some ⟨w.heap.size, 0, none⟩) (n + m') (grownCap w (n + m') c i.el)) (n + m') (l ++ cs'.map CV.val) := by
    refine ⟨hlen, .inr ⟨w.heap.size, _, _, rfl, Nat.zero_le _, heap_alloc_new w.drew _, hge, hcm, ?_, ?_⟩⟩
    · simp only [Array.size_append, List.size_toArray, size_zeroCells, hzs, hl, hnl, ← Nat.add_mul]
      congr 1
      omega
    · simp only [Array.toList_append, List.append_assoc]
      rw [← List.append_assoc, ← hlen]
      exact List.take_left
  have hrun : (execOp act.eval o).run C.P w = .ok (.value (.slice (some ⟨w.heap.size, 0, none⟩) (n + m') (grownCap w (n + m') c i.el))) (w.drew.alloc (.cells (l.toArray ++ (cs'.map CV.val).toArray ++ Builtin.zeroCells z.cells (grownCap w (n + m') c i.el - (n + m'))) i.el)) := by
    simp [execOp, ho, resolve, invoke, builtin, e1, e2, hr]
  have hext : Ext (fun b => b < w.heap.size ∧ ¬ noS b) w (w.drew.alloc (.cells (l.toArray ++ (cs'.map CV.val).toArray ++ Builtin.zeroCells z.cells (grownCap w (n + m') c i.el - (n + m'))) i.el)) := (Ext.drew _ w).trans (Ext.alloc _ w.drew _ fun b hb => hb.1) fun _ hx => hx
  have hup := hJ.upd k k (.row (some ⟨w.heap.size, 0, none⟩) (n + m') (grownCap w (n + m') c i.el) i.el ie.sz (l.map nv ++ cs')) noS (fun b => b = w.heap.size) (fun b hb => hb.elim) hext ⟨fun b => by simp [Value.ownBlock]; exact ⟨fun h => h.symm, fun h => h.symm⟩, by rw [List.map_append, hlv]; exact hown⟩ (fun b hb => by subst hb; exact ⟨by simp, .inr (Nat.le_refl _)⟩) id
  have hRp := hR.put (some d) (.c (.rw k (some ⟨w.heap.size, 0, none⟩) (n + m') (grownCap w (n + m') c i.el)))
  have hI : Ext I w (w.drew.alloc (.cells (l.toArray ++ (cs'.map CV.val).toArray ++ Builtin.zeroCells z.cells (grownCap w (n + m') c i.el - (n + m'))) i.el)) := hext.mono fun b hb => ⟨hJ.Isz b hb, fun e => e⟩
  exact op_value (ok.sx (kk l w.heap.size _ w hq hw)) hrun (by rw [hd]; exact hRp) ⟨I, _, hup.learn fun W e => hq' W (hI.trans e fun _ hx => hx)⟩
/-- Two values are held against each other, by whatever law. -/
theorem binA (ok : Okc P T C res) {o : Oper} {op : BinOp} {t d ty : Nat} {x y : Operand} (ho : o.op = .binOp op t x y ty) (hd : o.dst = some d) {u v : SV} (hx : ev tm x = some u) (hy : ev tm y = some v) (b : Bool)
    (h : ∀ w, (do eqGuard op t x y u.val v.val; binOp op t u.val v.val : Sem Value).run P w = .ok (.bool b) w)
    (kk : sx T C res 1000 p (put C.n (some d) (.c (.b b)) tm) m) : At C (.op o p) tm m := by
  obtain rfl := ok.P
  intro act w cs0 hR hJ
  have e1 := hR.eval hx
  have e2 := hR.eval hy
  have hrun : (execOp act.eval o).run C.P w = .ok (.value (.bool b)) w := by
    have := h w
    simp only [execOp, ho, e1, e2]
    simp only [Sem.run_bind] at this ⊢
    rw [this]
    rfl
  have hRp := hR.put (some d) (.c (.b b))
  exact op_value (ok.sx kk) hrun (by rw [hd]; exact hRp) hJ
end
end Go.Proofs.YtbbaoeidobdblaaGreat.Sx

/- Sx, part 11: parts of slices that read; appending whatever reads, be it nothing. -/
set_option linter.unusedVariables false
set_option linter.unusedSimpArgs false
namespace Go.Proofs.YtbbaoeidobdblaaGreat.Sx
open Go
theorem Rd.take {α : Type} {d : Dt α} {W : World} {a : Option Addr} {xs : List α} (h : Rd d W a xs) (i : Nat) : Rd d W a (xs.take i) := fun hne => by
  obtain ⟨b, o, e, hc⟩ := h (by rintro rfl; simp at hne)
  refine ⟨b, o, e, fun j x hx => hc j x ?_⟩
  rw [List.getElem?_take] at hx
  split at hx
  · exact hx
  · cases hx
theorem Sv.take {α : Type} {d : Dt α} {W : World} {a : Option Addr} {n c : Nat} {xs : List α} (h : Sv.ok d W (a, n, c) xs) {i : Nat} (hi : i ≤ xs.length) : Sv.ok d W (a, i, c) (xs.take i) := by
  obtain ⟨h1, h2, h3, h4⟩ := h
  simp only at h1 h2 h3 h4
  refine ⟨by simp; omega, by simp; omega, by simp; omega, h4.take i⟩
theorem Sv.full {α : Type} {d : Dt α} {W : World} {a : Option Addr} {n c : Nat} {xs : List α} (h : Sv.ok d W (a, n, c) xs) {i : Nat} (hi : i ≤ xs.length) : Sv.ok d W (a, i, i) (xs.take i) := by
  obtain ⟨h1, h2, h3, h4⟩ := h
  simp only at h1 h2 h3 h4
  refine ⟨by simp; omega, by simp; omega, by simp; omega, h4.take i⟩
theorem Sv.drop {α : Type} {d : Dt α} {W : World} {a : Option Addr} {n c : Nat} {xs : List α} (h : Sv.ok d W (a, n, c) xs) {i : Nat} (hi : i ≤ xs.length) : Sv.ok d W (if c = i then a else addrP a (i * d.sz), n - i, c - i) (xs.drop i) := by
  obtain ⟨h1, h2, h3, h4⟩ := h
  simp only at h1 h2 h3 h4
  refine ⟨by simp; omega, by simp; omega, by simp; omega, fun hne => ?_⟩
  have hlt : i < xs.length := by
    rcases Nat.lt_or_ge i xs.length with h | h
    · exact h
    · exact absurd (List.drop_eq_nil_of_le h) hne
  obtain ⟨b, o, rfl, hc⟩ := h4 (by rintro rfl; simp at hlt)
  simp only
  rw [if_neg (by omega), addrP_some]
  refine ⟨b, o + i * d.sz, rfl, fun j x hx => ?_⟩
  rw [List.getElem?_drop] at hx
  obtain ⟨cs, k1, k2⟩ := hc (i + j) x hx
  refine ⟨cs, k1, fun u v hv => ?_⟩
  rw [Nat.add_assoc o, ← Nat.add_mul]
  exact k2 u v hv
theorem Sv.len {α : Type} {d : Dt α} {W : World} {a : Option Addr} {n c : Nat} {xs : List α} (h : Sv.ok d W (a, n, c) xs) : n = xs.length := h.1
theorem Sv.cap {α : Type} {d : Dt α} {W : World} {a : Option Addr} {n c : Nat} {xs : List α} (h : Sv.ok d W (a, n, c) xs) : xs.length ≤ c := h.2.1
theorem Sv.nil {α : Type} {d : Dt α} {W : World} (a : Option Addr) (c : Nat) : Sv.ok d W (a, 0, c) [] := ⟨rfl, Nat.zero_le _, Nat.zero_le _, rd_nil _ _ _⟩
/-- A row of one's own, given up, reads. -/
theorem Rows.sv {α : Type} {d : Dt α} {W : World} {a : Option Addr} {n c base : Nat} {e : TypeId} {xs : List α} {cs : List Value} (h : Rows d W xs cs) (h0 : 0 < d.sz) (hl : xs.length ≤ 100000000000) (ho : W.ownsRow base e d.sz (.slice a n c) n cs) : Sv.ok d W (a, n, c) xs := by
  obtain ⟨h1, h2, h3⟩ := h.rd ho h0
  subst h1
  exact ⟨rfl, h2, hl, h3⟩
theorem Rows.append {α : Type} {d : Dt α} {W : World} {xs ys : List α} {l k : List Value} (h1 : Rows d W xs l) (h2 : Rows d W ys k) : Rows d W (xs ++ ys) (l ++ k) := by
  induction xs generalizing l with
  | nil =>
    have : l = [] := List.eq_nil_of_length_eq_zero (by simpa using h1.1)
    subst this
    exact h2
  | cons x xs ih =>
    obtain ⟨c, r, rfl, h3, h4⟩ := Rows.cons_iff.1 h1
    rw [List.cons_append, List.append_assoc]
    exact Rows.cons_iff.2 ⟨c, r ++ k, rfl, h3, ih h4⟩
theorem Rows.sole {α : Type} {d : Dt α} {W : World} {x : α} {c : List Value} (h : d.K W x c) : Rows d W [x] c := Rows.cons_iff.2 ⟨c, [], by simp, h, rows_nil _ _⟩
theorem rowsI {W : World} {xs : List Int} {l : List Value} : Rows dInt W xs l ↔ l = xs.map (Value.int .i64) := by
  unfold dInt
  rw [rows_flat]
  simp [List.map_eq_flatMap]
/-- Cells are written, one by one (values). -/
def updV (l : List Value) (o : Nat) : List Value → List Value
  | [] => l
  | x :: r => updV (l.set o x) (o + 1) r
theorem updV_len (o : Nat) (c : List Value) : ∀ l : List Value, (updV l o c).length = l.length := by
  induction c generalizing o with
  | nil => exact fun _ => rfl
  | cons x r ih => intro l; rw [updV, ih]; simp
theorem updV_get (c : List Value) : ∀ (o : Nat) (l : List Value) (j : Nat), o + c.length ≤ l.length → (updV l o c)[j]? = if o ≤ j ∧ j < o + c.length then c[j - o]? else l[j]? := by
  induction c with
  | nil => intro o l j h; rw [if_neg (by simp only [List.length_nil]; omega)]; rfl
  | cons x r ih =>
    intro o l j h
    simp at h
    rw [updV, ih _ _ _ (by simp; omega)]
    by_cases h1 : j = o
    · subst h1
      rw [if_neg (by omega), if_pos (by simp), List.getElem?_set, if_pos rfl, if_pos (by omega)]
      simp
    · by_cases h2 : o + 1 ≤ j ∧ j < o + 1 + r.length
      · rw [if_pos h2, if_pos (by simp; omega), show j - o = (j - (o + 1)) + 1 by omega, List.getElem?_cons_succ]
      · rw [if_neg h2, if_neg (by simp; omega), List.getElem?_set, if_neg (by omega)]
theorem Rows.set {α : Type} {d : Dt α} {W : World} {xs : List α} {l c : List Value} {x : α} (h : Rows d W xs l) (hx : d.K W x c) {i : Nat} (hi : i < xs.length) : Rows d W (xs.set i x) (updV l (i * d.sz) c) := by
  have hc := d.len hx
  have hle : i * d.sz + d.sz ≤ l.length := by
    rw [h.1, ← Nat.succ_mul]
    exact Nat.mul_le_mul_right _ hi
  refine ⟨by rw [updV_len, h.1, List.length_set], fun j y hy => ?_⟩
  rw [List.getElem?_set] at hy
  by_cases hij : i = j
  · subst hij
    rw [if_pos rfl, if_pos hi] at hy
    cases hy
    have : ((updV l (i * d.sz) c).drop (i * d.sz)).take d.sz = c := by
      apply List.ext_getElem?
      intro u
      rw [List.getElem?_take]
      split
      · rename_i hu
        rw [List.getElem?_drop, updV_get _ _ _ _ (by omega), if_pos (by omega)]
        congr 1
        omega
      · rename_i hu
        rw [List.getElem?_eq_none (by omega)]
    rw [this]
    exact hx
  · rw [if_neg hij] at hy
    have hj := (List.getElem?_eq_some_iff.1 hy).1
    have : ((updV l (i * d.sz) c).drop (j * d.sz)).take d.sz = (l.drop (j * d.sz)).take d.sz := by
      apply List.ext_getElem?
      intro u
      rw [List.getElem?_take, List.getElem?_take]
      split
      · rename_i hu
        rw [List.getElem?_drop, List.getElem?_drop, updV_get _ _ _ _ (by omega), if_neg]
        rintro ⟨h1, h2⟩
        rcases Nat.lt_or_gt_of_ne hij with h3 | h3
        · have : (i + 1) * d.sz ≤ j * d.sz := Nat.mul_le_mul_right _ h3
          rw [Nat.succ_mul] at this
          omega
        · have : (j + 1) * d.sz ≤ i * d.sz := Nat.mul_le_mul_right _ h3
          rw [Nat.succ_mul] at this
          omega
      · rfl
    rw [this]
    exact h.2 j y hy
theorem Rows.at {α : Type} {d : Dt α} {W : World} {xs : List α} {l : List Value} (h : Rows d W xs l) {i : Nat} (hi : i < xs.length) : ∃ c, d.K W xs[i] c ∧ c.length = d.sz ∧ ∀ j v, c[j]? = some v → l[i * d.sz + j]? = some v := by
  have h1 := h.2 i xs[i] (List.getElem?_eq_getElem hi)
  refine ⟨_, h1, d.len h1, fun j v hv => ?_⟩
  rw [List.getElem?_take] at hv
  split at hv
  · rwa [List.getElem?_drop] at hv
  · cases hv
theorem Rows.take {α : Type} {d : Dt α} {W : World} {xs : List α} {l : List Value} (h : Rows d W xs l) {i : Nat} (hi : i ≤ xs.length) : Rows d W (xs.take i) (l.take (i * d.sz)) := by
  have hle : i * d.sz ≤ xs.length * d.sz := Nat.mul_le_mul_right _ hi
  refine ⟨by rw [List.length_take, List.length_take, h.1, Nat.min_eq_left hle, Nat.min_eq_left hi], fun j y hy => ?_⟩
  rw [List.getElem?_take] at hy
  split at hy
  · rename_i hj
    have h1 := h.2 j y hy
    have : (j + 1) * d.sz ≤ i * d.sz := Nat.mul_le_mul_right _ hj
    rw [Nat.succ_mul] at this
    rw [List.drop_take, List.take_take, Nat.min_eq_left (by omega)]
    exact h1
  · cases hy
section
variable {P : Program} {C : Ctx} {T : Ty} {res : List ResultVar} {p : Pos} {tm : Tm} {m : Mem}
/-- Where a row of one's own stands. -/
theorem rowSome (k : Nat) {a : Option Addr} {n c : Nat} {e : TypeId} {sz : Nat} {cs : List CV} (hl : look k m.rs = some (.row a n c e sz cs)) (h0 : 0 < n) (h : ∀ g, a = some ⟨g, 0, none⟩ → At C p tm m) : At C p tm m := by
  rintro act w cs0 hR ⟨I, F, hJ⟩
  have h1 := (hJ.own _ (look_mem hl)).2
  rcases h1.2 with ⟨h2, h3⟩ | ⟨g, cap, cur, h2, _⟩
  · have : n = 0 := by simpa using congrArg (fun v => match v with | Value.slice _ n _ => n | _ => 0) h2
    omega
  · have : a = some ⟨g, 0, none⟩ := by simpa using congrArg (fun v => match v with | Value.slice a _ _ => a | _ => none) h2
    exact h g this act w cs0 hR ⟨I, F, hJ⟩
theorem rowAddr (k : Nat) {a : Option Addr} {n c : Nat} {e : TypeId} {sz : Nat} {cs : List CV} (hl : look k m.rs = some (.row a n c e sz cs)) (h : (a = none ∧ n = 0 ∧ c = 0 ∨ ∃ b off, a = some ⟨b, off, none⟩) → At C p tm m) : At C p tm m := by
  rintro act w cs0 hR ⟨I, F, hJ⟩
  have h1 := (hJ.own _ (look_mem hl)).2
  refine h ?_ act w cs0 hR ⟨I, F, hJ⟩
  rcases h1.2 with ⟨h2, h3⟩ | ⟨g, cap, cur, h2, _⟩
  · exact .inl (by simpa using h2)
  · exact .inr ⟨g, 0, by simpa using congrArg (fun v => match v with | Value.slice a _ _ => a | _ => none) h2⟩
theorem owns_le {w : World} {e : TypeId} {sz : Nat} {a : Option Addr} {n c : Nat} {cs : List Value} (h : w.ownsRow 0 e sz (.slice a n c) n cs) : n ≤ c := by
  rcases h.2 with ⟨h1, h2⟩ | ⟨g, cap, cur, h1, _, _, h2, _⟩
  · cases h1; exact Nat.le_refl _
  · have : c = cap := by simpa using congrArg (fun v => match v with | Value.slice _ _ c => c | _ => 0) h1
    omega
/-- What reads is appended. -/
theorem appV (ok : Okc P T C res) (k : Nat) {o : Oper} {s x : Operand} {t d : Nat} (ho : o.op = .call ⟨.builtin .append, #[s, x], #[t, t]⟩) (hd : o.dst = some d) {i ie : TI} (hi : tf t T = some i) (hik : i.kd = 3) (hie : tf i.el T = some ie) (h0 : 0 < ie.sz) (hzl : ie.zero.length = ie.sz)
    {a sa : Option Addr} {n c m' c' : Nat} {cs : List CV} {u v : SV} (hk : look k m.rs = some (.row a n c i.el ie.sz cs)) (hs : ev tm s = some u) (hu : u.val = .slice a n c) (hx : ev tm x = some v) (hv : v.val = .slice sa m' c')
    {α : Type} (D : Dt α) (xs : List α) (hD : D.sz = ie.sz) (hb : (n + xs.length) * ie.bt ≤ 140737488355328) (hmx : n + xs.length ≤ 140737488355328)
    (h : ∀ W, m.G W → Sv.ok D W (sa, m', c') xs)
    (kk : ∀ l a' c'' W, l.length = xs.length * ie.sz → Rows D W xs l → m.G W → sx T C res 1000 p (put C.n (some d) (.c (.rw k a' (n + xs.length) c'')) tm) ⟨m.B, fun W => Rows D W xs l ∧ m.G W, (k, .row a' (n + xs.length) c'' i.el ie.sz (cs ++ l.map nv)) :: del k (del k m.rs)⟩) : At C (.op o p) tm m := by
  intro act w cs0 hR hJ
  have hw : m.G w := by
    obtain ⟨I, F, hi⟩ := hJ
    exact hi.know w (Ext.refl _ _)
  have hm' : m' = xs.length := Sv.len (h w hw)
  subst hm'
  rcases Nat.eq_zero_or_pos xs.length with hz | hz
  · have hxs : xs = [] := List.eq_nil_of_length_eq_zero hz
    subst hxs
    have o1 : n ≤ c := by
      obtain ⟨I, F, hi⟩ := hJ
      exact owns_le (hi.own _ (look_mem hk)).2
    have e1 : act.eval s = .slice a n c := by rw [hR.eval hs, hu]
    have e2 : act.eval x = .slice sa 0 c' := by rw [hR.eval hx, hv]; rfl
    have hu2 := (ok.ty.get hi).g_slice hik
    have hzz := (ok.ty.get hie).g_sizeOf (P := C.P)
    have hrun : (execOp act.eval o).run C.P w = .ok (.value (.slice a n c)) w := by
      cases sa <;> cases a <;> simp [execOp, ho, resolve, invoke, builtin, e1, e2, Builtin.append_, run_underlying hu2, hzz, Builtin.lenOf, o1, Builtin.firstCells, loadCells, loadCellsFrom, storeCells]
    have hRp := hR.put (some d) (.c (.rw k a (n + 0) c))
    have hJ2 : J C ⟨m.B, fun W => Rows D W [] [] ∧ m.G W, (k, .row a (n + 0) c i.el ie.sz (cs ++ ([] : List Value).map nv)) :: del k (del k m.rs)⟩ w := by
      obtain ⟨I, F, hi⟩ := hJ
      have o1 := hi.own _ (look_mem hk)
      have hup := hi.upd k k (.row a (n + 0) c i.el ie.sz (cs ++ ([] : List Value).map nv)) (fun b => (Value.slice a n c).ownBlock = some b) (fun b => (Value.slice a n c).ownBlock = some b) (fun b hb => ⟨(o1.1 b).2 hb, _, look_mem hk⟩) (Ext.refl _ w) ⟨fun b => Iff.rfl, by simpa using o1.2⟩ (fun b hb => ⟨(hi.Fsz _ b (look_mem hk) ((o1.1 b).2 hb)).1, .inl hb⟩) id
      exact ⟨I, _, hup.learn fun W _ => rows_nil _ _⟩
    exact op_value (ok.sx (kk [] a c w (by simp) (rows_nil _ _) hw)) hrun (by rw [hd]; exact hRp) hJ2
  · obtain ⟨b, off, rfl⟩ := (h w hw).2.2.2.is_some hz
    refine appI ok k ho hd hi hik hie h0 hzl hk hs hu hx hv hz hb hmx (fun l W => Rows D W xs l) (fun W hW => ?_) (fun l g' c'' W hq hG => ?_) act w cs0 hR hJ
    · obtain ⟨l, h1, h2, h3⟩ := (h W hW).2.2.2.all_rows
      have h4 := h1.1
      rw [hD] at h4
      exact ⟨l, h4, h2, h3, h1⟩
    · exact kk l (some ⟨g', 0, none⟩) c'' W (by rw [← hD]; exact hq.1) hq hG
/-- What reads, and has no room left, is appended to: a new row. -/
theorem appF (ok : Okc P T C res) (k k' : Nat) {o : Oper} {s x : Operand} {t d : Nat} (ho : o.op = .call ⟨.builtin .append, #[s, x], #[t, t]⟩) (hd : o.dst = some d) {i ie : TI} (hi : tf t T = some i) (hik : i.kd = 3) (hie : tf i.el T = some ie) (h0 : 0 < ie.sz) (hzl : ie.zero.length = ie.sz)
    {a : Option Addr} {n g m' c' : Nat} {cs' : List CV} {u v : SV} (hnk : look k m.rs = some (.row none 0 0 i.el ie.sz [])) (hs : ev tm s = some u) (hu : u.val = .slice a n n) (hk' : look k' m.rs = some (.row (some ⟨g, 0, none⟩) m' c' i.el ie.sz cs')) (hx : ev tm x = some v) (hv : v.val = .slice (some ⟨g, 0, none⟩) m' c')
    (hm : 0 < m') (h1 : ones cs') {α : Type} (D : Dt α) (xs : List α) (hD : D.sz = ie.sz) (hb : (n + m') * ie.bt ≤ 140737488355328) (hmx : n + m' ≤ 140737488355328)
    (h : ∀ W, m.G W → Sv.ok D W (a, n, n) xs) (hA : a = none ∨ ∃ b off, a = some ⟨b, off, none⟩)
    (kk : ∀ l g' c'' W, l.length = xs.length * ie.sz → Rows D W xs l → m.G W → sx T C res 1000 p (put C.n (some d) (.c (.rw k (some ⟨g', 0, none⟩) (xs.length + m') c'')) tm) ⟨m.B, fun W => Rows D W xs l ∧ m.G W, (k, .row (some ⟨g', 0, none⟩) (xs.length + m') c'' i.el ie.sz (l.map nv ++ cs')) :: del k (del k m.rs)⟩) : At C (.op o p) tm m := by
  intro act w cs0 hR hJ
  have hw : m.G w := by
    obtain ⟨I, F, hi⟩ := hJ
    exact hi.know w (Ext.refl _ _)
  have hm' : n = xs.length := Sv.len (h w hw)
  subst hm'
  rcases hA with rfl | ⟨b, off, rfl⟩
  rotate_left 1
  · refine appC ok k k' ho hd hi hik hie h0 hzl hnk hs hu hk' hx hv hm (by omega) hb hmx (fun l W => Rows D W xs l) (fun W hW => ?_) (fun l g' c'' W hq hG => ?_) act w cs0 hR hJ
    · obtain ⟨l, h1, h2, h3⟩ := Rd.all_rows (d := D) (xs := xs) (h W hW).2.2.2
      have h4 := h1.1
      rw [hD] at h4
      exact ⟨l, h4, h2, h3, h1⟩
    · exact kk l g' c'' W (by rw [← hD]; exact hq.1) hq hG
  · rcases Nat.eq_zero_or_pos xs.length with hz | hz
    · have hxs : xs = [] := List.eq_nil_of_length_eq_zero hz
      subst hxs
      have hJ2 : J C ⟨m.B, fun W => Rows D W [] [] ∧ m.G W, m.rs⟩ w := by
        obtain ⟨I, F, hi⟩ := hJ
        exact ⟨I, F, hi.learn fun W _ => rows_nil _ _⟩
      refine appR (m := ⟨m.B, fun W => Rows D W [] [] ∧ m.G W, m.rs⟩) ok k k' ho hd hi hik hie h0 hzl hnk hs hu hk' hx hv hm h1 hb hmx (fun g' c'' => ?_) act w cs0 hR hJ2
      have := kk [] g' c'' w (by simp) (rows_nil _ _) hw
      simpa using this
    · obtain ⟨b, off, e⟩ := (h w hw).2.2.2.is_some hz
      cases e
/-- A slot's value, told in other words. -/
theorem tag (ok : Okc P T C res) (t : Nat) {x : SV} (y : SV) (hx : find t tm = some x) (hv : x.val = y.val) (h : sx T C res 1000 p ((t, y) :: tm) m) : At C p tm m :=
  fun a w cs hR hJ => ok.sx h a w cs (hR.same hx hv) hJ
end
end Go.Proofs.YtbbaoeidobdblaaGreat.Sx

/- addBad of the reference. -/
set_option linter.unusedVariables false
set_option linter.unusedSimpArgs false
namespace Go.Proofs.YtbbaoeidobdblaaGreat.Sx
open Go
attribute [local simp ↓] ifb_true' ifb_false'
attribute [local simp] ifb_true ifb_false ifb_eq sx argsT find ev evOp evs evo evBin evInt evStr evNil evNilA ptrA slcA isNoneA asB evLoad look del cellsB evUn evConv kdec fld evFieldA evField evIdxA evIdx evSlc bndL bndH evLen mmi put resV guardV gvL setO tupV cellsOf ones one upd lits nv exitTo SV.val CV.val TI.agg rdyA allR keepB scan simpO gsp isS subs keepT pickT wr memN pubs Res.fact Region.binds bld rest give delL back Res.eqv vi vb num Sv.val undef
/-- A number is laid behind all that are not larger. -/
def insL : List Int → Int → List Int
  | [], x => [x]
  | y :: r, x => if y ≤ x then y :: insL r x else x :: y :: r
theorem insL_at : ∀ (l : List Int) (x : Int) (i : Nat), i ≤ l.length → (∀ y, y ∈ l.take i → y ≤ x) → (∀ h : i < l.length, x < l[i]) → insL l x = l.take i ++ x :: l.drop i
  | [], x, i, _, _, _ => by simp [insL]
  | y :: r, x, 0, _, _, h => by
    have := h (by simp)
    simp only [List.getElem_cons_zero] at this
    simp only [insL]
    rw [if_neg (by omega)]
    simp
  | y :: r, x, i + 1, hi, h1, h2 => by
    have := h1 y (by simp)
    simp only [insL, if_pos this, List.take_succ_cons, List.drop_succ_cons, List.cons_append]
    rw [insL_at r x i (by simpa using hi) (fun z hz => h1 z (by simp [hz])) (fun h => by have := h2 (by simpa using h); simpa using this)]
def addBadL (l : List Int) (x : Int) : List Int := if x ∈ l then l else insL l x
theorem addBad0 (w : World) (I : Nat → Prop) (hI : ∀ b, I b → b < w.heap.size) {a : Option Addr} {n c : Nat} (l : List Int) (x : Int) (h : ∀ W, Ext I w W → Sv.ok dInt W (a, n, c) l) (hl : l.length ≤ 1000000000) :
    Fn0 Tryz.prog 69 #[.slice a n c, .int .i64 x] w I Sv.val (fun r W => Sv.ok dInt W r (addBadL l x)) := by
  obtain rfl : n = l.length := (h w (Ext.refl _ _)).1
  refine enter (svs := [.c (.v (.slice a l.length c)), .c (.v (.int .i64 x))]) tysOk Tryz.func69 rfl Tryz.ntmps69 Tryz.results69 (by kernel_rfl) (by simp) hI (fun W => Sv.ok dInt W (a, l.length, c) l) h fun C hC hN ok => ?_
  simp [hN]
  refine call0 ok rfl rfl rfl (fun w I hI hG => in0 w I hI l x hG) fun y W hy => ?_
  simp [hN]
  refine ⟨fun hyes => ?_, fun hno => ?_⟩
  · rw [hy] at hyes
    exact ret0 hC (a, l.length, c) rfl fun W _ hG => by rw [addBadL, if_pos (of_decide_eq_true hyes)]; exact hG.2
  rw [hy] at hno
  have hm : addBadL l x = insL l x := by rw [addBadL, if_neg (of_decide_eq_false hno)]
  rw [hm] at hC
  refine nilr 600 3 1 (loop ok (fun i : Nat => [(5, .c (.v (.int .i64 i)))]) (fun _ => [(600, .row none 0 0 3 1 [])]) (fun i W => i ≤ l.length ∧ ∀ y, y ∈ l.take i → y ≤ x) (fun i => l.length - i) 0 ?_ ?_ (fun W hW => ⟨Nat.zero_le _, by simp⟩) ?_)
  · simp
  · simp
  rintro i W ⟨hi, hle⟩ hG next
  rcases Nat.lt_or_ge i l.length with hlt | hge
  · obtain ⟨b, o, e, _⟩ := int_get (show Sv.ok dInt W (a, l.length, c) l from hG.2) hlt
    cases e
    have e6 : IntKind.i64.wrap ((i : Int) + 1) = (i + 1 : Nat) := by rw [w64 (by omega) (by omega)]; omega
    have ft : l.take (i + 1) = l.take i ++ [l[i]] := by rw [List.take_add_one, List.getElem?_eq_getElem hlt]; rfl
    have hcap : l.length ≤ c := (h w (Ext.refl _ _)).2.1
    simp [hN, hlt]
    refine load1 ok rfl rfl rfl rfl (fun v W => v = .int .i64 l[i]) (fun W hW => ?_) ?_
    · obtain ⟨b', o', e, hc⟩ := int_get hW.2.2 hlt
      cases e
      exact ⟨_, hc, rfl⟩
    rintro v W rfl _
    simp [hN, e6]
    refine ⟨fun he => next (i + 1) _ _ (by omega) (fun W h => ⟨⟨hlt, fun z hz => ?_⟩, h.2⟩) ?_, fun he => ?_⟩
    · rw [ft] at hz
      rcases List.mem_append.1 hz with hz | hz
      · exact hle z hz
      · rw [List.mem_singleton.1 hz]
        exact he
    · simp [hy, of_decide_eq_false hno]
    · have hlt2 : x < l[i] := by omega
      have hins := insL_at l x i hi hle (fun _ => hlt2)
      have hti : (l.take i).length = i := by simp; omega
      have hdi : (l.drop i).length = l.length - i := by simp
      refine drawW ok mixed (by kernel_rfl) ?_
      simp (maxSteps := 2000000) -implicitDefEqProofs [hN]
      and_intros
      all_goals try omega
      rotate_left 1
      intro g
      all_goals
        refine appV ok 600 rfl rfl rfl rfl rfl (by decide) rfl rfl rfl rfl rfl rfl dInt (l.take i) rfl (by show (_ + _) * 8 ≤ _; simp; omega) (by simp; omega) (fun W hW => Sv.take hW.2.2 hi) fun q a2 c2 W _ hq _ => ?_
        obtain rfl := rows_int.1 hq
        simp (maxSteps := 2000000) -implicitDefEqProofs [hN]
      rotate_left 1
      intro g
      all_goals
        refine appR ok 600 29 rfl rfl rfl rfl rfl (by decide) rfl rfl rfl rfl rfl rfl rfl (by decide) (by simp) (by show (_ + 1) * 8 ≤ _; omega) (by omega) fun g3 c3 => ?_
        simp (maxSteps := 2000000) -implicitDefEqProofs [hN]
        refine appV ok 600 rfl rfl rfl rfl rfl (by decide) rfl rfl rfl rfl rfl rfl dInt (l.drop i) rfl (by show (_ + _) * 8 ≤ _; simp; omega) (by simp; omega) (fun W hW => by have := Sv.drop hW.2.2.2 hi; simpa [dInt, flat] using this) fun q2 a4 c4 W _ hq2 _ => ?_
        obtain rfl := rows_int.1 hq2
        simp (maxSteps := 2000000) -implicitDefEqProofs [hN]
        refine ret0 hC (a4, min i l.length + 1 + (l.length - i), c4) rfl fun W hp hG => ?_
        rw [hins]
        exact (rows_int.2 rfl : Rows dInt W (l.take i ++ x :: l.drop i) _).sv (by decide) (by simp; omega) (by have h1 := hp.1; simpa [Function.comp_def, dInt, flat] using h1)
  · simp [hN, Nat.not_lt.2 hge]
    have hlen : i = l.length := by omega
    have hcap : l.length ≤ c := (h w (Ext.refl _ _)).2.1
    have hins := insL_at l x i hi hle (fun h => absurd h (by omega))
    have hti : (l.take i).length = i := by simp; omega
    have hdi : (l.drop i).length = l.length - i := by simp
    refine drawW ok mixed (by kernel_rfl) ?_
    simp (maxSteps := 2000000) -implicitDefEqProofs [hN]
    and_intros
    all_goals try omega
    rotate_left 1
    intro g
    all_goals
      refine appV ok 600 rfl rfl rfl rfl rfl (by decide) rfl rfl rfl rfl rfl rfl dInt (l.take i) rfl (by show (_ + _) * 8 ≤ _; simp; omega) (by simp; omega) (fun W hW => Sv.take hW.2.2 hi) fun q a2 c2 W _ hq _ => ?_
      obtain rfl := rows_int.1 hq
      simp (maxSteps := 2000000) -implicitDefEqProofs [hN]
    rotate_left 1
    intro g
    all_goals
      refine appR ok 600 29 rfl rfl rfl rfl rfl (by decide) rfl rfl rfl rfl rfl rfl rfl (by decide) (by simp) (by show (_ + 1) * 8 ≤ _; omega) (by omega) fun g3 c3 => ?_
      simp (maxSteps := 2000000) -implicitDefEqProofs [hN]
      refine appV ok 600 rfl rfl rfl rfl rfl (by decide) rfl rfl rfl rfl rfl rfl dInt (l.drop i) rfl (by show (_ + _) * 8 ≤ _; simp; omega) (by simp; omega) (fun W hW => by have := Sv.drop hW.2.2.2 hi; simpa [dInt, flat] using this) fun q2 a4 c4 W _ hq2 _ => ?_
      obtain rfl := rows_int.1 hq2
      simp (maxSteps := 2000000) -implicitDefEqProofs [hN]
      refine ret0 hC (a4, min i l.length + 1 + (l.length - i), c4) rfl fun W hp hG => ?_
      rw [hins]
      exact (rows_int.2 rfl : Rows dInt W (l.take i ++ x :: l.drop i) _).sv (by decide) (by simp; omega) (by have h1 := hp.1; simpa [Function.comp_def, dInt, flat] using h1)
end Go.Proofs.YtbbaoeidobdblaaGreat.Sx

/- putInode of the reference. -/
set_option linter.unusedVariables false
set_option linter.unusedSimpArgs false
namespace Go.Proofs.YtbbaoeidobdblaaGreat.Sx
open Go
attribute [local simp ↓] ifb_true' ifb_false'
attribute [local simp] ifb_true ifb_false ifb_eq sx argsT find ev evOp evs evo evBin evInt evStr evNil evNilA ptrA slcA isNoneA asB evLoad look del cellsB evUn evConv kdec fld evFieldA evField evIdxA evIdx evSlc bndL bndH evLen mmi put resV guardV gvL setO tupV cellsOf ones one upd lits nv exitTo SV.val CV.val TI.agg rdyA allR keepB scan simpO gsp isS subs keepT pickT wr memN pubs Res.fact Region.binds bld rest give delL back Res.eqv vi vb num Sv.val undef
def replI : List Ino → Ino → List Ino
  | [], _ => []
  | y :: r, x => if y.no = x.no then x :: r else y :: replI r x
/-- An inode is laid behind all whose numbers are not larger. -/
def insI : List Ino → Ino → List Ino
  | [], x => [x]
  | y :: r, x => if y.no ≤ x.no then y :: insI r x else x :: y :: r
theorem replI_at : ∀ (l : List Ino) (x : Ino) (i : Nat) (hi : i < l.length), (∀ y, y ∈ l.take i → y.no ≠ x.no) → l[i].no = x.no → replI l x = l.set i x
  | [], x, i, hi, _, _ => by simp at hi
  | y :: r, x, 0, _, _, h => by simp at h; simp [replI, h]
  | y :: r, x, i + 1, hi, h1, h2 => by
    have := h1 y (by simp)
    simp only [replI, if_neg this, List.set_cons_succ]
    rw [replI_at r x i (by simpa using hi) (fun z hz => h1 z (by simp [hz])) (by simpa using h2)]
theorem insI_at : ∀ (l : List Ino) (x : Ino) (i : Nat), i ≤ l.length → (∀ y, y ∈ l.take i → y.no ≤ x.no) → (∀ h : i < l.length, x.no < l[i].no) → insI l x = l.take i ++ x :: l.drop i
  | [], x, i, _, _, _ => by simp [insI]
  | y :: r, x, 0, _, _, h => by
    have := h (by simp)
    simp only [List.getElem_cons_zero] at this
    simp only [insI]
    rw [if_neg (by omega)]
    simp
  | y :: r, x, i + 1, hi, h1, h2 => by
    have := h1 y (by simp)
    simp only [insI, if_pos this, List.take_succ_cons, List.drop_succ_cons, List.cons_append]
    rw [insI_at r x i (by simpa using hi) (fun z hz => h1 z (by simp [hz])) (fun h => by have := h2 (by simpa using h); simpa using this)]
def hasI (l : List Ino) (no : Int) : Prop := ∃ y, y ∈ l ∧ y.no = no
open Classical in
noncomputable def putInoL (l : List Ino) (x : Ino) : List Ino := if hasI l x.no then replI l x else insI l x
theorem ino_no {W : World} {a : Option Addr} {n c : Nat} {l : List Ino} (h : Sv.ok dIno W (a, n, c) l) {i : Nat} (hi : i < l.length) : ∃ b o, a = some ⟨b, o, none⟩ ∧ W.cell? ⟨b, o + i * 7, none⟩ = some (.int .i64 l[i].no) := by
  obtain ⟨b, o, e⟩ := h.2.2.2.is_some (show 0 < l.length by omega)
  cases e
  obtain ⟨cs, hk, _, hc⟩ := h.2.2.2.get hi
  refine ⟨b, o, rfl, ?_⟩
  obtain ⟨e, r, rfl, _⟩ := hk
  exact hc 0 (.int .i64 l[i].no) rfl
theorem rows_no {W : World} {l : List Ino} {q : List Value} (h : Rows dIno W l q) {i : Nat} (hi : i < l.length) : q[i * 7]? = some (.int .i64 l[i].no) := by
  obtain ⟨c, hk, _, hc⟩ := h.at hi
  obtain ⟨e, r, rfl, _⟩ := hk
  exact hc 0 _ rfl
set_option maxHeartbeats 4000000 in
theorem putIno0 (w : World) (I : Nat → Prop) (hI : ∀ b, I b → b < w.heap.size) {a : Option Addr} {n c : Nat} (l : List Ino) (x : Ino) (e r : Sl) (h : ∀ W, Ext I w W → Sv.ok dIno W (a, n, c) l) (hx : ∀ W, Ext I w W → InoR W x e r) (hl : l.length ≤ 1000000000) :
    Fn0 Tryz.prog 68 #[.slice a n c, .agg (inoC x e r).toArray] w I Sv.val (fun q W => Sv.ok dIno W q (putInoL l x)) := by
  obtain rfl : n = l.length := (h w (Ext.refl _ _)).1
  have hcap : l.length ≤ c := (h w (Ext.refl _ _)).2.1
  refine enter (svs := [.c (.v (.slice a l.length c)), .ag ((inoC x e r).map .v)]) tysOk Tryz.func68 rfl Tryz.ntmps68 Tryz.results68 (by kernel_rfl) (by simp) hI (fun W => Sv.ok dIno W (a, l.length, c) l ∧ InoR W x e r) (fun W e => ⟨h W e, hx W e⟩) fun C hC hN ok => ?_
  obtain ⟨ea, ec⟩ := e
  obtain ⟨ra, rc⟩ := r
  simp [hN]
  intro g3
  refine nilr 600 44 7 (appV ok 600 rfl rfl rfl rfl rfl (by decide) rfl rfl rfl rfl rfl rfl dIno l rfl (by show (0 + _) * 96 ≤ _; omega) (by omega) (fun W hW => hW.1) fun q a2 c2 W hql hq _ => ?_)
  replace hql : q.length = l.length * 7 := hql
  simp [hN]
  refine rowAddr 600 rfl fun hsh => rowLe 600 rfl fun hc2 => ?_
  refine loop ok (fun i : Nat => [(6, .c (.v (.int .i64 i)))]) (fun _ => [(600, .row a2 l.length c2 44 7 (q.map nv)), (3, .box g3 44 ((inoC x (ea, ec) (ra, rc)).map .v))]) (fun i W => i ≤ l.length ∧ ∀ y, y ∈ l.take i → y.no ≠ x.no) (fun i => l.length - i) 0 ?_ ?_ (fun W hW => ⟨Nat.zero_le _, by simp⟩) ?_
  · simp
  · simp
  rintro i W ⟨hi, hne⟩ hG next
  rcases Nat.lt_or_ge i l.length with hlt | hge
  · have e6 : IntKind.i64.wrap ((i : Int) + 1) = (i + 1 : Nat) := by rw [w64 (by omega) (by omega)]; omega
    have ft : l.take (i + 1) = l.take i ++ [l[i]] := by rw [List.take_add_one, List.getElem?_eq_getElem hlt]; rfl
    have hqn := rows_no hq hlt
    have hqb : i * 7 < q.length := by rw [hql]; show i * 7 < l.length * 7; omega
    simp [hN, hlt]
    refine rowSome 600 rfl (by omega) fun g e => ?_
    subst e
    refine drawK ok mixed (by kernel_rfl) ?_
    simp (maxSteps := 2000000) -implicitDefEqProofs [hN, hlt, hqn]
    refine ⟨by omega, fun hy => ⟨by omega, ?_⟩, fun hn => ?_⟩
    · refine ret0 hC (some ⟨g, 0, none⟩, l.length, c2) rfl fun W hp hG => ?_
      have hpl : putInoL l x = l.set i x := by
        rw [putInoL, if_pos ⟨l[i], List.getElem_mem _, hy⟩]
        exact replI_at l x i hlt hne hy
      rw [hpl]
      refine (Rows.set hG.2.1 ⟨(ea, ec), (ra, rc), rfl, hG.2.2.2⟩ hlt).sv (base := 0) (e := 44) (by decide) (by simp; omega) ?_
      have h1 := hp.1
      simp [List.map_set] at h1
      simpa [updV, dIno] using h1
    · refine next (i + 1) _ _ (by omega) (fun W h => ⟨⟨hlt, fun z hz => ?_⟩, h.2⟩) ?_
      · rw [ft] at hz
        rcases List.mem_append.1 hz with hz | hz
        · exact hne z hz
        · rw [List.mem_singleton.1 hz]
          exact hn
      · simp [e6]
  · have hnh : ¬ hasI l x.no := by
      rintro ⟨y, hy, e⟩
      refine hne y ?_ e
      rwa [List.take_of_length_le hge]
    have hpl : putInoL l x = insI l x := by rw [putInoL, if_neg hnh]
    clear next hne
    simp [hN, Nat.not_lt.2 hge]
    refine loop ok (fun i : Nat => [(7, .c (.v (.int .i64 i)))]) (fun _ => [(600, .row a2 l.length c2 44 7 (q.map nv)), (3, .box g3 44 ((inoC x (ea, ec) (ra, rc)).map .v))]) (fun i W => i ≤ l.length ∧ ∀ y, y ∈ l.take i → y.no ≤ x.no) (fun i => l.length - i) 0 ?_ ?_ (fun W hW => ⟨Nat.zero_le _, by simp⟩) ?_
    · simp
    · simp
    rintro j W ⟨hj, hle⟩ hG next
    rcases Nat.lt_or_ge j l.length with hlt | hgj
    · obtain ⟨b, o, e, _⟩ := ino_no (show Sv.ok dIno W (a, l.length, c) l from hG.2.2.1) hlt
      cases e
      have e6 : IntKind.i64.wrap ((j : Int) + 1) = (j + 1 : Nat) := by rw [w64 (by omega) (by omega)]; omega
      have ft : l.take (j + 1) = l.take j ++ [l[j]] := by rw [List.take_add_one, List.getElem?_eq_getElem hlt]; rfl
      simp [hN]
      refine drawK ok mixed (by kernel_rfl) ?_
      simp (maxSteps := 2000000) -implicitDefEqProofs [hN, hlt]
      refine load1 ok rfl rfl rfl rfl (fun v W => v = .int .i64 l[j].no) (fun W hW => ?_) ?_
      · obtain ⟨b', o', e, hc⟩ := ino_no hW.2.2.2.1 hlt
        cases e
        exact ⟨_, hc, rfl⟩
      rintro v W rfl _
      simp (maxSteps := 2000000) -implicitDefEqProofs [hN, e6]
      refine ⟨fun he => next (j + 1) _ _ (by omega) (fun W h => ⟨⟨hlt, fun z hz => ?_⟩, h.2⟩) ?_, fun he => ?_⟩
      · rw [ft] at hz
        rcases List.mem_append.1 hz with hz | hz
        · exact hle z hz
        · rw [List.mem_singleton.1 hz]
          exact he
      · simp
      · have hins : insI l x = l.take j ++ x :: l.drop j := insI_at l x j hj hle fun _ => by omega
        refine pub 600 rfl (by decide) (nilr 601 44 7 (draw ok [(3, .box g3 44 ((inoC x (ea, ec) (ra, rc)).map .v))] (by rw [ok.P]; exact mixed) (by kernel_rfl) ?_))
        simp (maxSteps := 2000000) -implicitDefEqProofs [hN]
        and_intros
        all_goals try omega
        rotate_left 1
        intro g
        all_goals
          refine slc3 ok rfl rfl rfl rfl rfl rfl rfl rfl rfl (by omega) (Int.le_refl _) (by omega) ?_
          simp (maxSteps := 2000000) -implicitDefEqProofs [hN]
        rotate_left 1
        intro g
        all_goals
          refine appF ok 601 50 rfl rfl rfl rfl rfl (by decide) rfl rfl rfl rfl rfl rfl rfl (by decide) (by simp) dIno (l.take j) rfl (by show (_ + 1) * 96 ≤ _; omega) (by omega) (fun W hW => ?_) (by rcases hsh with h | h; exact .inl h.1; exact .inr h) fun q2 g2 c3 W _ hq2 _ => ?_
          · exact Sv.full (Rows.sv (d := dIno) (base := 0) (e := 44) hW.2.2.2.1 (by decide) (by omega) hW.1) hj
          simp (maxSteps := 2000000) -implicitDefEqProofs [hN]
          refine appV ok 601 rfl rfl rfl rfl rfl (by decide) rfl rfl rfl rfl rfl rfl dIno (l.drop j) rfl (by show (_ + _) * 96 ≤ _; simp; omega) (by simp; omega) (fun W hW => by have := Sv.drop hW.2.2.2.2.2.1 hj; simpa [dIno] using this) fun q3 a4 c4 W _ hq3 _ => ?_
          simp (maxSteps := 2000000) -implicitDefEqProofs [hN]
          refine ret0 hC (a4, min j l.length + 1 + (l.length - j), c4) rfl fun W hp hG => ?_
          rw [hpl, hins]
          refine (hG.2.1.append ((Rows.sole (d := dIno) (x := x) ⟨(ea, ec), (ra, rc), rfl, hG.2.2.2.2.2.2.2⟩).append hG.1)).sv (base := 0) (e := 44) (by decide) (by simp; omega) ?_
          have h1 := hp.1
          simpa [dIno] using h1
    · simp [hN]
      refine drawK ok mixed (by kernel_rfl) ?_
      simp (maxSteps := 2000000) -implicitDefEqProofs [hN, Nat.not_lt.2 hgj]
      have hins : insI l x = l.take j ++ x :: l.drop j := insI_at l x j hj hle fun h => absurd h (by omega)
      refine pub 600 rfl (by decide) (nilr 601 44 7 (draw ok [(3, .box g3 44 ((inoC x (ea, ec) (ra, rc)).map .v))] (by rw [ok.P]; exact mixed) (by kernel_rfl) ?_))
      simp (maxSteps := 2000000) -implicitDefEqProofs [hN]
      and_intros
      all_goals try omega
      rotate_left 1
      intro g
      all_goals
        refine slc3 ok rfl rfl rfl rfl rfl rfl rfl rfl rfl (by omega) (Int.le_refl _) (by omega) ?_
        simp (maxSteps := 2000000) -implicitDefEqProofs [hN]
      rotate_left 1
      intro g
      all_goals
        refine appF ok 601 50 rfl rfl rfl rfl rfl (by decide) rfl rfl rfl rfl rfl rfl rfl (by decide) (by simp) dIno (l.take j) rfl (by show (_ + 1) * 96 ≤ _; omega) (by omega) (fun W hW => ?_) (by rcases hsh with h | h; exact .inl h.1; exact .inr h) fun q2 g2 c3 W _ hq2 _ => ?_
        · exact Sv.full (Rows.sv (d := dIno) (base := 0) (e := 44) hW.2.2.2.1 (by decide) (by omega) hW.1) hj
        simp (maxSteps := 2000000) -implicitDefEqProofs [hN]
        refine appV ok 601 rfl rfl rfl rfl rfl (by decide) rfl rfl rfl rfl rfl rfl dIno (l.drop j) rfl (by show (_ + _) * 96 ≤ _; simp; omega) (by simp; omega) (fun W hW => by have := Sv.drop hW.2.2.2.2.2.1 hj; simpa [dIno] using this) fun q3 a4 c4 W _ hq3 _ => ?_
        simp (maxSteps := 2000000) -implicitDefEqProofs [hN]
        refine ret0 hC (a4, min j l.length + 1 + (l.length - j), c4) rfl fun W hp hG => ?_
        rw [hpl, hins]
        refine (hG.2.1.append ((Rows.sole (d := dIno) (x := x) ⟨(ea, ec), (ra, rc), rfl, hG.2.2.2.2.2.2.2⟩).append hG.1)).sv (base := 0) (e := 44) (by decide) (by simp; omega) ?_
        have h1 := hp.1
        simpa [dIno] using h1
end Go.Proofs.YtbbaoeidobdblaaGreat.Sx

/- Apply of the reference. -/
set_option linter.unusedVariables false
set_option linter.unusedSimpArgs false
namespace Go.Proofs.YtbbaoeidobdblaaGreat.Sx
open Go
attribute [local simp ↓] ifb_true' ifb_false'
attribute [local simp] ifb_true ifb_false ifb_eq sx argsT find ev evOp evs evo evBin evInt evStr evNil evNilA ptrA slcA isNoneA asB evLoad look del cellsB evUn evConv kdec fld evFieldA evField evIdxA evIdx evSlc bndL bndH evLen mmi put resV guardV gvL setO tupV cellsOf ones one upd lits nv exitTo SV.val CV.val TI.agg rdyA allR keepB scan simpO gsp isS subs keepT pickT wr memN pubs Res.fact Region.binds bld rest give delL back Res.eqv vi vb num Sv.val undef
noncomputable def applyOne (s : Sta) (d : Dee) : Sta :=
  if d.kind = 1 then { s with next := d.no } else if d.kind = 2 then { s with inos := putInoL s.inos d.ino } else if d.kind = 3 then { s with inos := s.inos.filter fun x => decide (x.no ≠ d.no) } else if d.kind = 4 then { s with bad := addBadL s.bad d.no } else s
noncomputable def applyL (s : Sta) (l : List Dee) : Sta := l.foldl applyOne s
theorem applyL_snoc (s : Sta) (l : List Dee) (d : Dee) : applyL s (l ++ [d]) = applyOne (applyL s l) d := by simp [applyL]
theorem replI_len : ∀ (l : List Ino) (x : Ino), (replI l x).length = l.length
  | [], _ => rfl
  | y :: r, x => by
    unfold replI
    split
    · rfl
    · simp [replI_len r x]
theorem insI_len : ∀ (l : List Ino) (x : Ino), (insI l x).length = l.length + 1
  | [], _ => rfl
  | y :: r, x => by
    unfold insI
    split
    · simp [insI_len r x]
    · rfl
theorem insL_len : ∀ (l : List Int) (x : Int), (insL l x).length = l.length + 1
  | [], _ => rfl
  | y :: r, x => by
    unfold insL
    split
    · simp [insL_len r x]
    · rfl
theorem putInoL_len (l : List Ino) (x : Ino) : (putInoL l x).length ≤ l.length + 1 := by
  unfold putInoL
  split
  · rw [replI_len]; omega
  · rw [insI_len]; omega
theorem addBadL_len (l : List Int) (x : Int) : (addBadL l x).length ≤ l.length + 1 := by
  unfold addBadL
  split
  · omega
  · rw [insL_len]; omega
theorem applyOne_len (s : Sta) (d : Dee) : (applyOne s d).inos.length ≤ s.inos.length + 1 ∧ (applyOne s d).bad.length ≤ s.bad.length + 1 := by
  unfold applyOne
  have h1 := putInoL_len s.inos d.ino
  have h2 := addBadL_len s.bad d.no
  have h3 := List.length_filter_le (fun x : Ino => decide (x.no ≠ d.no)) s.inos
  split
  · constructor <;> simp
  · split
    · exact ⟨h1, by simp⟩
    · split
      · exact ⟨by simp only; omega, by simp⟩
      · split
        · exact ⟨by simp, h2⟩
        · constructor <;> omega
theorem applyL_len (s : Sta) (l : List Dee) : (applyL s l).inos.length ≤ s.inos.length + l.length ∧ (applyL s l).bad.length ≤ s.bad.length + l.length := by
  induction l generalizing s with
  | nil => exact ⟨Nat.le_refl _, Nat.le_refl _⟩
  | cons d r ih =>
    have h1 := ih (applyOne s d)
    have h2 := applyOne_len s d
    simp only [applyL, List.foldl_cons, List.length_cons] at h1 ⊢
    omega
set_option maxHeartbeats 4000000 in
theorem refApply0 (w : World) (I : Nat → Prop) (hI : ∀ b, I b → b < w.heap.size) (s : Sta) (si sb : Sl) {a : Option Addr} {n c : Nat} (l : List Dee) (h : ∀ W, Ext I w W → StaR W s si sb) (hd : ∀ W, Ext I w W → Sv.ok dDee W (a, n, c) l) (hl : s.inos.length + l.length ≤ 1000000000 ∧ s.bad.length + l.length ≤ 1000000000) :
    Fn0 Tryz.prog 19 #[.agg (staC s si sb).toArray, .slice a n c] w I (fun y : Sl × Sl => .agg (staC (applyL s l) y.1 y.2).toArray) (fun y W => StaR W (applyL s l) y.1 y.2) := by
  obtain rfl : n = l.length := (hd w (Ext.refl _ _)).1
  refine enter (svs := [.ag ((staC s si sb).map .v), .c (.v (.slice a l.length c))]) tysOk Tryz.func19 rfl Tryz.ntmps19 Tryz.results19 (by kernel_rfl) (by simp) hI (fun W => StaR W s si sb ∧ Sv.ok dDee W (a, l.length, c) l) (fun W e => ⟨h W e, hd W e⟩) fun C hC hN ok => ?_
  obtain ⟨ia, ic⟩ := si
  obtain ⟨ba, bc⟩ := sb
  simp [hN]
  intro g2 g4
  refine loop ok (fun y : Nat × Sl × Sl => [(5, .c (.v (.int .i64 (y.1 : Nat))))]) (fun y => [(2, .box g2 39 ((staC (applyL s (l.take y.1)) y.2.1 y.2.2).map .v)), (4, .box g4 39 [.v (.int .i64 0), .v (.slice none 0 0), .v (.slice none 0 0)])]) (fun y W => y.1 ≤ l.length ∧ StaR W (applyL s (l.take y.1)) y.2.1 y.2.2) (fun y => l.length - y.1) (0, (ia, ic), (ba, bc)) ?_ ?_ (fun W hW => ⟨Nat.zero_le _, hW.1⟩) ?_
  · simp
  · simp [applyL]
  rintro ⟨i, ⟨pa, pc⟩, ⟨qa, qc⟩⟩ W ⟨hi, hS⟩ hG next
  have hlen := applyL_len s (l.take i)
  rw [List.length_take] at hlen
  generalize hSe : applyL s (l.take i) = S at next hlen hS
  simp only at hS hi
  rcases Nat.lt_or_ge i l.length with hlt | hge
  · obtain ⟨b, o, e⟩ := (show Sv.ok dDee W (a, l.length, c) l from hG.2).2.2.2.is_some (show 0 < l.length by omega)
    cases e
    have e6 : IntKind.i64.wrap ((i : Int) + 1) = (i + 1 : Nat) := by rw [w64 (by omega) (by omega)]; omega
    have ft : l.take (i + 1) = l.take i ++ [l[i]] := by rw [List.take_add_one, List.getElem?_eq_getElem hlt]; rfl
    generalize hde : l[i] = d at ft
    have fa : applyL s (l.take (i + 1)) = applyOne S d := by rw [ft, applyL_snoc, hSe]
    simp [hN, hlt]
    refine loadA ok rfl rfl rfl rfl (fun q W => dDee.K W d q) (fun W hW => ?_) ?_
    · obtain ⟨cs, hk, hcl, hc⟩ := hW.2.2.2.2.2.get hlt
      rw [hde] at hk
      exact ⟨cs, hcl, hc, hk⟩
    rintro v W _ ⟨⟨ea, ec⟩, ⟨ra, rc⟩, rfl, hR⟩ hG2
    simp [hN]
    intro g6
    refine ⟨fun k1 => ?_, fun k1 => ⟨fun k2 => ?_, fun k2 => ⟨fun k3 => ?_, fun k3 => ⟨fun k4 => ?_, fun k4 => ?_⟩⟩⟩⟩
    · have fo : applyOne S d = { S with next := d.no } := by simp [applyOne, k1]
      refine next (i + 1, (pa, pc), (qa, qc)) _ _ (by simp; omega) (fun W h => ⟨⟨hlt, ?_⟩, h.2.2⟩) ?_
      · simp only [fa, fo]; exact h.2.1.2
      · simp [e6, fa, fo]
    · have fo : applyOne S d = { S with inos := putInoL S.inos d.ino } := by simp [applyOne, k2]
      refine call0 ok rfl rfl rfl (fun w I hI hG => putIno0 w I hI S.inos d.ino (ea, ec) (ra, rc) (fun W e => ⟨rfl, (hG W e).2.1.2.1⟩) (fun W e => dee_get (hG W e).1) (by omega)) fun q W hq => ?_
      obtain ⟨ua, un, uc⟩ := q
      obtain rfl : un = _ := hq.1
      simp [hN]
      refine next (i + 1, (ua, uc), (qa, qc)) _ _ (by simp; omega) (fun W h => ⟨⟨hlt, ?_⟩, h.2.2.2⟩) ?_
      · simp only [fa, fo]; exact ⟨h.1.2, h.2.2.1.2.2⟩
      · simp [e6, fa, fo]
    · have fo : applyOne S d = { S with inos := S.inos.filter fun x => decide (x.no ≠ d.no) } := by simp [applyOne, k3]
      refine nilr 600 44 7 (loop ok (fun y : Nat × Sl × List Value => [(8, .c (.v (.int .i64 (y.1 : Nat)))), (7, .c (.v (.slice y.2.1.1 ((S.inos.take y.1).filter fun x => decide (x.no ≠ d.no)).length y.2.1.2)))]) (fun y => [(600, .row y.2.1.1 ((S.inos.take y.1).filter fun x => decide (x.no ≠ d.no)).length y.2.1.2 44 7 (y.2.2.map nv)), (6, .box g6 46 ((deeC d (ea, ec) (ra, rc)).map .v)), (2, .box g2 39 ((staC S (pa, pc) (qa, qc)).map .v)), (4, .box g4 39 [.v (.int .i64 0), .v (.slice none 0 0), .v (.slice none 0 0)])]) (fun y W => y.1 ≤ S.inos.length ∧ Rows dIno W ((S.inos.take y.1).filter fun x => decide (x.no ≠ d.no)) y.2.2) (fun y => S.inos.length - y.1) (0, (none, 0), []) ?_ ?_ (fun W hW => ⟨Nat.zero_le _, rows_nil _ _⟩) ?_)
      · simp
      · simp
      rintro ⟨k, ⟨oa, oc⟩, q⟩ W ⟨hk, hrw⟩ hGk nextk
      simp only at hk hrw
      rcases Nat.lt_or_ge k S.inos.length with hkl | hkg
      · obtain ⟨b', o', e, _⟩ := ino_no (show Sv.ok dIno W (pa, S.inos.length, pc) S.inos from ⟨rfl, hGk.2.1.2.1⟩) hkl
        cases e
        have e7 : IntKind.i64.wrap ((k : Int) + 1) = (k + 1 : Nat) := by rw [w64 (by omega) (by omega)]; omega
        have fk : S.inos.take (k + 1) = S.inos.take k ++ [S.inos[k]] := by rw [List.take_add_one, List.getElem?_eq_getElem hkl]; rfl
        have flen : ((S.inos.take k).filter fun x => decide (x.no ≠ d.no)).length ≤ k := Nat.le_trans (List.length_filter_le _ _) (by simp; omega)
        generalize hLk : (S.inos.take k).filter (fun x => decide (x.no ≠ d.no)) = L at hrw flen nextk
        simp [hN, hkl]
        refine drawK ok mixed (by kernel_rfl) ?_
        simp (maxSteps := 2000000) -implicitDefEqProofs [hN, hkl]
        refine load1 ok rfl rfl rfl rfl (fun v W => v = .int .i64 S.inos[k].no) (fun W hW => ?_) ?_
        · obtain ⟨b'', o'', e, hc⟩ := ino_no (show Sv.ok dIno W _ S.inos from ⟨rfl, hW.2.2.1.2.1⟩) hkl
          cases e
          exact ⟨_, hc, rfl⟩
        rintro v W rfl _
        simp (maxSteps := 2000000) -implicitDefEqProofs [hN, e7]
        refine ⟨fun hne => ⟨hkl, ?_⟩, fun heq => ?_⟩
        · have fk2 : (S.inos.take (k + 1)).filter (fun x => decide (x.no ≠ d.no)) = L ++ [S.inos[k]] := by rw [fk, List.filter_append, hLk]; simp [hne]
          generalize hxe : S.inos[k] = x at fk2
          refine loadA ok rfl rfl rfl rfl (fun v W => dIno.K W x v) (fun W hW => ?_) ?_
          · obtain ⟨cs, hk2, hcl, hc⟩ := (show Sv.ok dIno W (_, S.inos.length, pc) S.inos from ⟨rfl, hW.2.2.1.2.1⟩).2.2.2.get hkl
            rw [hxe] at hk2
            exact ⟨cs, hcl, hc, hk2⟩
          rintro v W _ ⟨⟨ea2, ec2⟩, ⟨ra2, rc2⟩, rfl, hR2⟩ _
          simp (maxSteps := 2000000) -implicitDefEqProofs [hN, e7]
          intro g58
          refine appR ok 600 58 rfl rfl rfl rfl rfl (by decide) rfl rfl rfl rfl rfl rfl rfl (by decide) (by simp) (by show (L.length + 1) * 96 ≤ _; omega) (by omega) fun g' c' => ?_
          simp (maxSteps := 2000000) -implicitDefEqProofs [hN, e7]
          refine nextk (k + 1, (some ⟨g', 0, none⟩, c'), q ++ inoC x (ea2, ec2) (ra2, rc2)) _ _ (by simp; omega) (fun W h => ⟨⟨hkl, ?_⟩, h.2.2⟩) ?_
          · simp only [fk2]
            exact h.2.1.2.snoc h.1
          · simp only [fk2]
            simp [k1, k2, k3]
        · have fk2 : (S.inos.take (k + 1)).filter (fun x => decide (x.no ≠ d.no)) = L := by rw [fk, List.filter_append, hLk]; simp [heq]
          refine nextk (k + 1, (oa, oc), q) _ _ (by simp; omega) (fun W h => ⟨⟨hkl, ?_⟩, h.2⟩) ?_
          · simp only [fk2]
            exact h.1.2
          · simp only [fk2]
            simp [k1, k2, k3]
      · have hk' : S.inos.take k = S.inos := List.take_of_length_le hkg
        simp only [hk'] at hrw ⊢
        clear nextk
        simp [hN, Nat.not_lt.2 hkg]
        have flen : (S.inos.filter fun x => decide (x.no ≠ d.no)).length ≤ S.inos.length := List.length_filter_le _ _
        refine pub 600 rfl (by decide) (next (i + 1, (oa, oc), (qa, qc)) _ _ (by simp; omega) (fun W h => ⟨⟨hlt, ?_⟩, h.2.2.2.2⟩) ?_)
        · simp only [fa, fo]
          have hr : Rows dIno W (S.inos.filter fun x => decide (x.no ≠ d.no)) q := by have := h.2.1.2; simpa using this
          have h1 : W.ownsRow 0 44 dIno.sz (.slice oa (S.inos.filter fun x => decide (x.no ≠ d.no)).length oc) (S.inos.filter fun x => decide (x.no ≠ d.no)).length q := by have h1 := h.1; simp at h1; simpa [dIno] using h1
          exact ⟨(Rows.sv hr (by decide) (by omega) h1).2, h.2.2.2.1.2.2⟩
        · simp [e6, fa, fo]
    · have fo : applyOne S d = { S with bad := addBadL S.bad d.no } := by simp [applyOne, k4]
      refine call0 ok rfl rfl rfl (fun w I hI hG => addBad0 w I hI S.bad d.no (fun W e => ⟨rfl, (hG W e).2.1.2.2⟩) (by omega)) fun q W hq => ?_
      obtain ⟨ua, un, uc⟩ := q
      obtain rfl : un = _ := hq.1
      simp [hN]
      refine next (i + 1, (pa, pc), (ua, uc)) _ _ (by simp; omega) (fun W h => ⟨⟨hlt, ?_⟩, h.2.2.2⟩) ?_
      · simp only [fa, fo]; exact ⟨h.2.2.1.2.1, h.1.2⟩
      · simp [e6, fa, fo]
    · have fo : applyOne S d = S := by simp [applyOne, k1, k2, k3, k4]
      refine next (i + 1, (pa, pc), (qa, qc)) _ _ (by simp; omega) (fun W h => ⟨⟨hlt, ?_⟩, h.2.2⟩) ?_
      · simp only [fa, fo]; exact h.2.1.2
      · simp [e6, fa, fo]
  · have hi' : i = l.length := by omega
    have hT : l.take i = l := List.take_of_length_le hge
    rw [hT] at hSe
    subst hSe
    simp [hN, Nat.not_lt.2 hge]
    exact ret0 hC ((pa, pc), (qa, qc)) rfl fun W _ hG => hG.1.2
end Go.Proofs.YtbbaoeidobdblaaGreat.Sx

/- RightRuns, GetRun of the reference. -/
set_option linter.unusedVariables false
set_option linter.unusedSimpArgs false
namespace Go.Proofs.YtbbaoeidobdblaaGreat.Sx
open Go
attribute [local simp ↓] ifb_true' ifb_false'
attribute [local simp] ifb_true ifb_false ifb_eq sx argsT find ev evOp evs evo evBin evInt evStr evNil evNilA ptrA slcA isNoneA asB evLoad look del cellsB evUn evConv kdec fld evFieldA evField evIdxA evIdx evSlc bndL bndH evLen mmi put resV guardV gvL setO tupV cellsOf ones one upd lits nv exitTo SV.val CV.val TI.agg rdyA allR keepB scan simpO gsp isS subs keepT pickT wr memN pubs Res.fact Region.binds bld rest give delL back Res.eqv vi vb num Sv.val undef
set_option maxRecDepth 100000 in
set_option maxHeartbeats 4000000 in
theorem rightRuns0 (w : World) (I : Nat → Prop) (hI : ∀ b, I b → b < w.heap.size) {a : Option Addr} {n c : Nat} (l : List Rn) (h : ∀ W, Ext I w W → Sv.ok dRn W (a, n, c) l) :
    Fn0 Tryz.prog 137 #[.slice a n c] w I (fun b : Bool => .bool b) (fun y W => y = true ↔ RightL l) := by
  obtain rfl : n = l.length := (h w (Ext.refl _ _)).1
  have hx := (h w (Ext.refl _ _)).2.2.1
  refine enter (svs := [.c (.v (.slice a l.length c))]) tysOk Tryz.func137 rfl Tryz.ntmps137 Tryz.results137 (by kernel_rfl) (by simp) hI (fun W => Sv.ok dRn W (a, l.length, c) l) h fun C hC hN ok => ?_
  simp [hN]
  refine loopK [0] ok (fun i : Nat => [(3, .c (.v (.int .i64 i)))]) (fun _ => []) (fun i W => i ≤ l.length ∧ rightTo l i) (fun i => l.length - i) 0 ?_ ?_ (fun W hW => ⟨Nat.zero_le _, fun j _ hj => absurd hj (Nat.not_lt_zero _)⟩) ?_
  · simp
  · simp
  rintro i W ⟨hi, hr⟩ hG next
  rcases Nat.lt_or_ge i l.length with hlt | hge
  · obtain ⟨b, o, e⟩ := (show Sv.ok dRn W (a, l.length, c) l from hG).2.2.2.is_some (Nat.lt_of_le_of_lt (Nat.zero_le _) hlt)
    cases e
    simp [hN, hlt]
    have e6 : IntKind.i64.wrap ((i : Int) + 1) = (i + 1 : Nat) := by rw [w64 (by omega) (by omega)]; omega
    refine loadA ok rfl rfl rfl rfl (fun c W => c = rnC l[i]) (fun W hW => ?_) ?_
    · obtain ⟨cs, hk, _, hc⟩ := hW.2.2.2.2.get hlt
      exact ⟨cs, by rw [hk]; rfl, hc, hk⟩
    rintro v W _ rfl hG2
    have hni : ¬ okR l[i] → ¬ RightL l := fun h1 h2 => h1 (h2 i hlt hlt).1
    generalize hd : l[i] = d at hni
    simp [hN]
    intro g4
    have no : ¬ okR d → RetP C (.bool false) ⟨fun _ => True, fun W => (i ≤ l.length ∧ rightTo l i) ∧ Sv.ok dRn W (some ⟨b, o, none⟩, l.length, c) l, [(4, .box g4 139 [.v (.int .i64 d.fr), .v (.int .i64 d.at_), .v (.int .i64 d.ct)])]⟩ := fun h => ret0 hC false rfl fun W _ _ => by simp [hni h]
    refine ⟨fun h1 => ⟨fun h2 => ⟨fun h3 => ?_, fun h3 => no fun hk => ?_⟩, fun h2 => no fun hk => ?_⟩, fun h1 => no fun hk => ?_⟩
    rotate_left
    · have := hk.2.2.1; have := hk.2.2.2.2.1; omega
    · have := hk.2.2.1; omega
    · have := hk.1; omega
    have e8 : IntKind.i64.wrap (64 - d.fr) = 64 - d.fr := w64 (by omega) (by omega)
    rw [e8]
    refine ⟨fun h4 => ?_, fun h4 => no fun hk => ?_⟩
    rotate_left
    · have := hk.2.2.2.2.1; omega
    have e9 : IntKind.i64.wrap (2147483648 - d.ct) = 2147483648 - d.ct := w64 (by omega) (by omega)
    rw [e9]
    refine ⟨fun h5 => ⟨fun h6 => no fun hk => ?_, fun h6 => ?_⟩, fun h5 => no fun hk => ?_⟩
    · have := hk.2.2.2.2.2; omega
    rotate_left
    · have := hk.2.1; omega
    have hk : okR d := ⟨h1, h5, h2, by omega, by omega, h6⟩
    refine ⟨fun h0 => ?_, fun h0 => ?_⟩
    · have e7 : IntKind.i64.wrap ((i : Int) - 1) = (i - 1 : Nat) := by rw [w64 (by omega) (by omega)]; omega
      have hpl : i - 1 < l.length := by omega
      have hokp := (hr (i - 1) hpl (by omega)).1
      have hcl : ∀ W, Sv.ok dRn W (some ⟨b, o, none⟩, l.length, c) l → ∀ j v, (rnC l[i - 1])[j]? = some v → W.cell? ⟨b, o + (i - 1) * 3 + j, none⟩ = some v := fun W hW => by
        obtain ⟨b', o', e, hh⟩ := rn_get hW hpl
        cases e
        exact hh
      have hns : ¬ okS l[i - 1] d → ¬ RightL l := fun h1 h2 => h1 (by rw [← hd]; exact (h2 i hlt hlt).2 h0)
      generalize hq : l[i - 1] = p at hokp hcl hns
      obtain ⟨p0, p1, p2, p3, p4, p5⟩ := id hokp
      have e10 : IntKind.i64.wrap (p.fr + p.ct) = p.fr + p.ct := w64 (by omega) (by omega)
      have e11 : IntKind.i64.wrap (p.at_ + p.ct) = p.at_ + p.ct := w64 (by omega) (by omega)
      rw [e7]
      refine ⟨⟨by omega, by omega⟩, ?_⟩
      refine loadA ok rfl rfl rfl rfl (fun c W => c = rnC p) (fun W hW => ⟨rnC p, rfl, by simpa using hcl W hW.2, rfl⟩) ?_
      rintro v W _ rfl _
      simp [hN, e10, e11, e6]
      intro g5
      have ns : ¬ okS p d → ∀ rs, RetP C (.bool false) ⟨fun _ => True, fun W => (i ≤ l.length ∧ rightTo l i) ∧ Sv.ok dRn W (some ⟨b, o, none⟩, l.length, c) l, rs⟩ := fun h rs => ret0 hC false rfl fun W _ _ => by simp [hns h]
      have hF : okS p d → rightTo l (i + 1) := fun hs j hj hj1 => by
        rcases Nat.lt_or_ge j i with hji | hji
        · exact hr j hj hji
        · obtain rfl : j = i := by omega
          rw [hd]
          exact ⟨hk, fun _ => by rw [hq]; exact hs⟩
      refine ⟨fun h7 => ⟨fun h8 => ⟨fun h9 => ns (fun h => h.2 ⟨h8, h9⟩) _, fun h9 => next (i + 1) _ _ (by omega) (fun W h => ⟨⟨hlt, hF ⟨h7, fun h => h9 h.2⟩⟩, h.2⟩) ?_⟩, fun h8 => next (i + 1) _ _ (by omega) (fun W h => ⟨⟨hlt, hF ⟨h7, fun h => h8 h.1⟩⟩, h.2⟩) ?_⟩, fun h7 => ns (fun h => by have := h.1; omega) _⟩
      · simp
      · simp
    · subst h0
      have e1 : IntKind.i64.wrap 1 = 1 := w64 (by omega) (by omega)
      refine next 1 _ _ (by omega) (fun W h => ⟨⟨hlt, fun j hj hj1 => ?_⟩, h.2⟩) ?_
      · obtain rfl : j = 0 := by omega
        rw [hd]
        exact ⟨hk, fun h => absurd h (Nat.lt_irrefl _)⟩
      · simp [e1]
  · simp [hN, Nat.not_lt.2 hge]
    exact ret0 hC true rfl fun W _ _ => by
      have hi' : i = l.length := by omega
      subst hi'
      simp only [true_iff]
      exact hr
def getL : List Rn → Int → Option Int
  | [], _ => none
  | r :: t, x => if r.fr ≤ x ∧ x < r.fr + r.ct then some (r.at_ + x - r.fr) else getL t x
theorem getL_at : ∀ (l : List Rn) (x : Int) (i : Nat) (hi : i < l.length), (∀ r, r ∈ l.take i → ¬ (r.fr ≤ x ∧ x < r.fr + r.ct)) → l[i].fr ≤ x ∧ x < l[i].fr + l[i].ct → getL l x = some (l[i].at_ + x - l[i].fr)
  | [], x, i, hi, _, _ => by simp at hi
  | r :: t, x, 0, _, _, h => by simp only [List.getElem_cons_zero] at h ⊢; rw [getL, if_pos h]
  | r :: t, x, i + 1, hi, h1, h2 => by
    rw [getL, if_neg (h1 r (by simp))]
    simp only [List.getElem_cons_succ] at h2 ⊢
    exact getL_at t x i (by simpa using hi) (fun z hz => h1 z (by simp [hz])) h2
theorem getL_none : ∀ (l : List Rn) (x : Int), (∀ r, r ∈ l → ¬ (r.fr ≤ x ∧ x < r.fr + r.ct)) → getL l x = none
  | [], x, _ => rfl
  | r :: t, x, h => by
    rw [getL, if_neg (h r (by simp))]
    exact getL_none t x fun z hz => h z (by simp [hz])
abbrev optV (o : Option Int) : Value := .tuple #[.int .i64 (o.getD 0), .bool o.isSome]
set_option maxRecDepth 100000 in
set_option maxHeartbeats 4000000 in
theorem getRun0 (w : World) (I : Nat → Prop) (hI : ∀ b, I b → b < w.heap.size) {a : Option Addr} {n c : Nat} (l : List Rn) (x : Int) (h : ∀ W, Ext I w W → Sv.ok dRn W (a, n, c) l) (hr : ∀ r, r ∈ l → okR r) (hx : -1000000000000 ≤ x ∧ x ≤ 1000000000000) :
    Fn0 Tryz.prog 184 #[.slice a n c, .int .i64 x] w I optV (fun y W => y = getL l x) := by
  obtain rfl : n = l.length := (h w (Ext.refl _ _)).1
  have hbig := (h w (Ext.refl _ _)).2.2.1
  refine enter (svs := [.c (.v (.slice a l.length c)), .c (.v (.int .i64 x))]) tysOk Tryz.func184 rfl Tryz.ntmps184 Tryz.results184 (by kernel_rfl) (by simp) hI (fun W => Sv.ok dRn W (a, l.length, c) l) h fun C hC hN ok => ?_
  simp [hN]
  refine loopK [0, 1] ok (fun i : Nat => [(6, .c (.v (.int .i64 i)))]) (fun _ => []) (fun i W => i ≤ l.length ∧ ∀ r, r ∈ l.take i → ¬ (r.fr ≤ x ∧ x < r.fr + r.ct)) (fun i => l.length - i) 0 ?_ ?_ (fun W hW => ⟨Nat.zero_le _, by simp⟩) ?_
  · simp
  · simp
  rintro i W ⟨hi, hne⟩ hG next
  rcases Nat.lt_or_ge i l.length with hlt | hge
  · obtain ⟨b, o, e, _⟩ := rn_get (show Sv.ok dRn W (a, l.length, c) l from hG) hlt
    cases e
    have hcl : ∀ W, Sv.ok dRn W (some ⟨b, o, none⟩, l.length, c) l → ∀ j v, (rnC l[i])[j]? = some v → W.cell? ⟨b, o + i * 3 + j, none⟩ = some v := fun W hW => by
      obtain ⟨b', o', e, hh⟩ := rn_get hW hlt
      cases e
      exact hh
    have e6 : IntKind.i64.wrap ((i : Int) + 1) = (i + 1 : Nat) := by rw [w64 (by omega) (by omega)]; omega
    have ft : l.take (i + 1) = l.take i ++ [l[i]] := by rw [List.take_add_one, List.getElem?_eq_getElem hlt]; rfl
    have hgo := getL_at l x i hlt hne
    obtain ⟨d0, d1, d2, d3, d4, d5⟩ := hr _ (List.getElem_mem hlt)
    have hnx : ¬ (l[i].fr ≤ x ∧ x < l[i].fr + l[i].ct) → ∀ r, r ∈ l.take (i + 1) → ¬ (r.fr ≤ x ∧ x < r.fr + r.ct) := fun h r hr => by
      rw [ft] at hr
      rcases List.mem_append.1 hr with hr | hr
      · exact hne r hr
      · rw [List.mem_singleton.1 hr]; exact h
    generalize l[i] = d at *
    simp [hN, hlt]
    refine drawK ok mixed (by kernel_rfl) ?_
    simp (maxSteps := 2000000) -implicitDefEqProofs [hN, hlt]
    refine load1 ok rfl rfl rfl rfl (fun v W => v = .int .i64 d.ct) (fun W hW => ⟨_, hcl W hW.2 2 _ rfl, rfl⟩) ?_
    rintro v W rfl _
    simp (maxSteps := 2000000) -implicitDefEqProofs [hN, hlt, show 0 < d.ct by omega]
    refine load1 ok rfl rfl rfl rfl (fun v W => v = .int .i64 d.fr) (fun W hW => ⟨_, by simpa using hcl W hW.2 0 _ rfl, rfl⟩) ?_
    rintro v W rfl _
    simp (maxSteps := 2000000) -implicitDefEqProofs [hN, hlt, e6]
    refine ⟨fun h1 => ?_, fun h1 => next (i + 1) _ _ (by omega) (fun W h => ⟨⟨hlt, hnx (by omega)⟩, h.2⟩) (by simp)⟩
    have w1 : IntKind.u64.wrap (IntKind.i64.wrap (x - d.fr)) = x - d.fr := by rw [w64 (by omega) (by omega), IntKind.wrap_u64]; omega
    have w2 : IntKind.u64.wrap d.ct = d.ct := by rw [IntKind.wrap_u64]; omega
    refine ⟨?_, ?_⟩
    · refine load1 ok rfl rfl rfl rfl (fun v W => v = .int .i64 d.fr) (fun W hW => ⟨_, by simpa using hcl W hW.2 0 _ rfl, rfl⟩) ?_
      rintro v W rfl _
      simp (maxSteps := 2000000) -implicitDefEqProofs [hN, hlt, e6, w1, w2]
      refine load1 ok rfl rfl rfl rfl (fun v W => v = .int .i64 d.ct) (fun W hW => ⟨_, by simpa using hcl W hW.2 2 _ rfl, rfl⟩) ?_
      rintro v W rfl _
      simp (maxSteps := 2000000) -implicitDefEqProofs [hN, hlt, e6, w1, w2]
      refine ⟨fun h2 => ?_, fun h2 => next (i + 1) _ _ (by omega) (fun W h => ⟨⟨hlt, hnx (by omega)⟩, h.2⟩) (by simp)⟩
      have hgt := hgo ⟨h1, by omega⟩
      have w3 : IntKind.i64.wrap (d.at_ + x) = d.at_ + x := w64 (by omega) (by omega)
      have w4 : IntKind.i64.wrap (d.at_ + x - d.fr) = d.at_ + x - d.fr := w64 (by omega) (by omega)
      refine drawK ok mixed (by kernel_rfl) ?_
      simp (maxSteps := 2000000) -implicitDefEqProofs [hN, hlt, e6, w1, w2, w3, w4]
      refine ⟨?_, ?_⟩
      · refine load1 ok rfl rfl rfl rfl (fun v W => v = .int .i64 d.at_) (fun W hW => ⟨_, by simpa using hcl W hW.2 1 _ rfl, rfl⟩) ?_
        rintro v W rfl _
        simp (maxSteps := 2000000) -implicitDefEqProofs [hN, hlt, e6, w1, w2, w3, w4]
        refine load1 ok rfl rfl rfl rfl (fun v W => v = .int .i64 d.fr) (fun W hW => ⟨_, by simpa using hcl W hW.2 0 _ rfl, rfl⟩) ?_
        rintro v W rfl _
        simp (maxSteps := 2000000) -implicitDefEqProofs [hN, hlt, e6, w1, w2, w3, w4]
        exact ret0 hC (some (d.at_ + x - d.fr)) rfl fun W _ _ => hgt.symm
      · refine load1 ok rfl rfl rfl rfl (fun v W => v = .int .i64 d.fr) (fun W hW => ⟨_, by simpa using hcl W hW.2 0 _ rfl, rfl⟩) ?_
        rintro v W rfl _
        simp (maxSteps := 2000000) -implicitDefEqProofs [hN, hlt, e6, w1, w2, w3, w4]
        refine load1 ok rfl rfl rfl rfl (fun v W => v = .int .i64 d.at_) (fun W hW => ⟨_, by simpa using hcl W hW.2 1 _ rfl, rfl⟩) ?_
        rintro v W rfl _
        simp (maxSteps := 2000000) -implicitDefEqProofs [hN, hlt, e6, w1, w2, w3, w4]
        exact ret0 hC (some (d.at_ + x - d.fr)) rfl fun W _ _ => hgt.symm
    · refine load1 ok rfl rfl rfl rfl (fun v W => v = .int .i64 d.ct) (fun W hW => ⟨_, by simpa using hcl W hW.2 2 _ rfl, rfl⟩) ?_
      rintro v W rfl _
      simp (maxSteps := 2000000) -implicitDefEqProofs [hN, hlt, e6, w1, w2]
      refine load1 ok rfl rfl rfl rfl (fun v W => v = .int .i64 d.fr) (fun W hW => ⟨_, by simpa using hcl W hW.2 0 _ rfl, rfl⟩) ?_
      rintro v W rfl _
      simp (maxSteps := 2000000) -implicitDefEqProofs [hN, hlt, e6, w1, w2]
      refine ⟨fun h2 => ?_, fun h2 => next (i + 1) _ _ (by omega) (fun W h => ⟨⟨hlt, hnx (by omega)⟩, h.2⟩) (by simp)⟩
      have hgt := hgo ⟨h1, by omega⟩
      have w3 : IntKind.i64.wrap (d.at_ + x) = d.at_ + x := w64 (by omega) (by omega)
      have w4 : IntKind.i64.wrap (d.at_ + x - d.fr) = d.at_ + x - d.fr := w64 (by omega) (by omega)
      refine drawK ok mixed (by kernel_rfl) ?_
      simp (maxSteps := 2000000) -implicitDefEqProofs [hN, hlt, e6, w1, w2, w3, w4]
      refine ⟨?_, ?_⟩
      · refine load1 ok rfl rfl rfl rfl (fun v W => v = .int .i64 d.at_) (fun W hW => ⟨_, by simpa using hcl W hW.2 1 _ rfl, rfl⟩) ?_
        rintro v W rfl _
        simp (maxSteps := 2000000) -implicitDefEqProofs [hN, hlt, e6, w1, w2, w3, w4]
        refine load1 ok rfl rfl rfl rfl (fun v W => v = .int .i64 d.fr) (fun W hW => ⟨_, by simpa using hcl W hW.2 0 _ rfl, rfl⟩) ?_
        rintro v W rfl _
        simp (maxSteps := 2000000) -implicitDefEqProofs [hN, hlt, e6, w1, w2, w3, w4]
        exact ret0 hC (some (d.at_ + x - d.fr)) rfl fun W _ _ => hgt.symm
      · refine load1 ok rfl rfl rfl rfl (fun v W => v = .int .i64 d.fr) (fun W hW => ⟨_, by simpa using hcl W hW.2 0 _ rfl, rfl⟩) ?_
        rintro v W rfl _
        simp (maxSteps := 2000000) -implicitDefEqProofs [hN, hlt, e6, w1, w2, w3, w4]
        refine load1 ok rfl rfl rfl rfl (fun v W => v = .int .i64 d.at_) (fun W hW => ⟨_, by simpa using hcl W hW.2 1 _ rfl, rfl⟩) ?_
        rintro v W rfl _
        simp (maxSteps := 2000000) -implicitDefEqProofs [hN, hlt, e6, w1, w2, w3, w4]
        exact ret0 hC (some (d.at_ + x - d.fr)) rfl fun W _ _ => hgt.symm
  · simp [hN, Nat.not_lt.2 hge]
    exact ret0 hC none rfl fun W _ _ => by
      rw [getL_none]
      rwa [List.take_of_length_le hge] at hne
end Go.Proofs.YtbbaoeidobdblaaGreat.Sx

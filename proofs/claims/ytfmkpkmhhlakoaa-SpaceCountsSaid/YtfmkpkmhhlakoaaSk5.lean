/- pack.Deeds. -/
import Derived.Test.YtfmkpkmhhlakoaaSk4
set_option linter.unusedVariables false
set_option linter.unusedSimpArgs false
namespace Go.Proofs.Ytfmkpkmhhlakoaa.Sx
open Go

attribute [local simp ↓] ifb_true' ifb_false'
attribute [local simp] ifb_true ifb_false ifb_eq sx argsT find ev evOp evs evo evBin evInt evStr evNil evNilA ptrA slcA isNoneA asB evLoad look del cellsB evUn evConv kdec fld evFieldA evField evIdxA evIdx evSlc bndL bndH evLen mmi put resV guardV gvL setO tupV cellsOf ones one upd lits nv exitTo SV.val CV.val TI.agg rdyA allR keepB scan simpO gsp isS subs keepT pickT wr memN pubs Res.fact Region.binds bld rest give delL back Res.eqv vi vb num Sv.val undef
theorem fm_take' {α β : Type} (f : α → List β) (l : List α) (i : Nat) (h : i < l.length) : (l.take (i + 1)).flatMap f = (l.take i).flatMap f ++ f l[i] := by
  rw [List.take_add_one, List.getElem?_eq_getElem h, List.flatMap_append]
  simp
theorem ino_get {W : World} {x : Ino} {e r : Sl} (h : dIno.K W x (inoC x e r)) : InoR W x e r := by
  obtain ⟨⟨a, b⟩, ⟨a', b'⟩, h1, h2⟩ := h
  simp [inoC] at h1
  obtain ⟨⟨rfl, rfl⟩, rfl, rfl⟩ := h1
  exact h2
theorem dee_get {W : World} {x : Dee} {e r : Sl} (h : dDee.K W x (deeC x e r)) : InoR W x.ino e r := by
  obtain ⟨⟨a, b⟩, ⟨a', b'⟩, h1, h2⟩ := h
  simp [inoC] at h1
  obtain ⟨⟨rfl, rfl⟩, rfl, rfl⟩ := h1
  exact h2
theorem deeds0 (w : World) (I : Nat → Prop) (hI : ∀ b, I b → b < w.heap.size) (l : List Dee) (s : Sv) (h : ∀ W, Ext I w W → s.ok dDee W l) (hl : (deedsB l).length ≤ 100000000000) :
    Fn0 Try.prog 87 #[s.val] w I Sv.val (fun r W => Sv.ok dByte W r (deedsB l)) := by
  obtain ⟨sa, sn, sc⟩ := s
  obtain rfl : sn = l.length := (h w (Ext.refl _ _)).1
  have hx := (h w (Ext.refl _ _)).2.2.1
  refine enter (svs := [.c (.v (.slice sa l.length sc))]) tysOk Try.func87 rfl Try.ntmps87 Try.results87 (by kernel_rfl) (by simp) hI (fun W => Sv.ok dDee W (sa, l.length, sc) l) h fun C hC hN ok => ?_
  simp [hN]
  have b1 := fm_le deedB l
  refine loop ok (fun a : Nat × Sv => [(8, .c (.v (.int .i64 (a.1 : Nat)))), (3, .c (.v (.slice a.2.1 a.2.2.1 a.2.2.2)))]) (fun _ => []) (fun a W => a.1 ≤ l.length ∧ Sv.ok dByte W a.2 ((l.take a.1).flatMap deedB)) (fun a => l.length - a.1) (0, (none, 0, 0)) ?_ ?_ (fun W hW => ⟨Nat.zero_le _, rfl, Nat.le_refl _, by simp, rd_nil _ _ _⟩) ?_
  · simp
  · simp
  rintro ⟨i, ya, yn, yc⟩ W ⟨hi, hr⟩ hG next
  simp [hN]
  refine ⟨fun hlt => ?_, fun hge => ?_⟩
  · have hG' : Sv.ok dDee W (sa, l.length, sc) l := hG
    obtain ⟨b, o, e⟩ := hG'.2.2.2.is_some (Nat.lt_of_le_of_lt (Nat.zero_le _) hlt)
    cases e
    simp [hN]
    have hb := b1 (i + 1)
    rw [fm_take _ _ _ hlt, List.length_append] at hb
    have hb2 : ((l.take i).flatMap deedB).length + (deedB l[i]).length ≤ 100000000000 := Nat.le_trans hb hl
    have e6 : IntKind.i64.wrap ((i : Int) + 1) = (i + 1 : Nat) := by rw [w64 (by omega) (by omega)]; omega
    have ft := fm_take deedB _ _ hlt
    generalize hd : l[i] = d at hb2 ft
    refine ⟨hlt, loadA ok rfl rfl rfl rfl (fun c W => dDee.K W d c) (fun W hW => ?_) ?_⟩
    · obtain ⟨cs, hk, hl, hc⟩ := hW.2.2.2.2.get hlt
      rw [hd] at hk
      exact ⟨cs, hl, hc, hk⟩
    · rintro v W _ ⟨⟨ea, ec⟩, ⟨ra, rc⟩, rfl, hR⟩ hG2
      simp [hN, u64_wrap]
      intro g5
      refine call0 ok rfl rfl rfl (fun w I hI hG => put1 hI _ _ 1 (fun W e => (hG W e).2.1.2) (by simp only [deedB, List.length_append, lowB_length] at hb2; omega) (by omega) (Int.emod_nonneg _ (by decide))) fun q W _ => ?_
      obtain ⟨ta, tn, tc⟩ := q
      simp [hN]
      refine ⟨fun k1 => ?_, fun k1 => ⟨fun k2 => ?_, fun k2 => ⟨fun k3 => ?_, fun k3 => ⟨fun k4 => ?_, fun k4 => ?_⟩⟩⟩⟩
      · have td : deedB d = lowB (d.kind % 18446744073709551616) 1 ++ intB d.no := by simp [deedB, tailB, k1]
        rw [td] at hb2 ft
        simp only [List.length_append, lowB_length, intB_length] at hb2
        refine call0 ok rfl rfl rfl (fun w I hI hG => putInt1 hI _ _ (fun W e => (hG W e).1) (by simp only [List.length_append, lowB_length]; omega)) fun q W _ => ?_
        obtain ⟨ua, un, uc⟩ := q
        simp [hN, e6]
        refine next (i + 1, ua, un, uc) _ _ (by simp; omega) (fun W h => ⟨⟨hlt, by simp only [ft]; simpa using h.1⟩, h.2.2.2.2⟩) ?_
        simp
      · have td : deedB d = lowB (d.kind % 18446744073709551616) 1 ++ intB d.no := by simp [deedB, tailB, k2]
        rw [td] at hb2 ft
        simp only [List.length_append, lowB_length, intB_length] at hb2
        refine call0 ok rfl rfl rfl (fun w I hI hG => putInt1 hI _ _ (fun W e => (hG W e).1) (by simp only [List.length_append, lowB_length]; omega)) fun q W _ => ?_
        obtain ⟨ua, un, uc⟩ := q
        simp [hN, e6]
        refine next (i + 1, ua, un, uc) _ _ (by simp; omega) (fun W h => ⟨⟨hlt, by simp only [ft]; simpa using h.1⟩, h.2.2.2.2⟩) ?_
        simp
      · have td : deedB d = lowB (d.kind % 18446744073709551616) 1 ++ intB d.no := by simp [deedB, tailB, k3]
        rw [td] at hb2 ft
        simp only [List.length_append, lowB_length, intB_length] at hb2
        refine call0 ok rfl rfl rfl (fun w I hI hG => putInt1 hI _ _ (fun W e => (hG W e).1) (by simp only [List.length_append, lowB_length]; omega)) fun q W _ => ?_
        obtain ⟨ua, un, uc⟩ := q
        simp [hN, e6]
        refine next (i + 1, ua, un, uc) _ _ (by simp; omega) (fun W h => ⟨⟨hlt, by simp only [ft]; simpa using h.1⟩, h.2.2.2.2⟩) ?_
        simp
      · have td : deedB d = lowB (d.kind % 18446744073709551616) 1 ++ inoB d.ino := by simp [deedB, tailB, k4]
        rw [td] at hb2 ft
        simp only [List.length_append, lowB_length] at hb2
        refine call0 ok rfl rfl rfl (fun w I hI hG => inode0 w I hI _ (ta, tn, tc) d.ino (ea, ec) (ra, rc) (fun W e => ⟨(hG W e).1, dee_get (hG W e).2.1⟩) (by simp only [List.length_append, lowB_length]; omega)) fun q W _ => ?_
        obtain ⟨ua, un, uc⟩ := q
        simp [hN, e6]
        refine next (i + 1, ua, un, uc) _ _ (by simp; omega) (fun W h => ⟨⟨hlt, by simp only [ft]; simpa using h.1⟩, h.2.2.2.2⟩) ?_
        simp
      · have td : deedB d = lowB (d.kind % 18446744073709551616) 1 := by simp [deedB, tailB, k1, k2, k3, k4]
        simp [hN, e6]
        refine next (i + 1, ta, tn, tc) _ _ (by simp; omega) (fun W h => ⟨⟨hlt, by simp only [ft, td]; simpa using h.1⟩, h.2.2.2⟩) ?_
        simp
  · have hi' : i = l.length := by simp only at hi; omega
    subst hi'
    exact ret0 hC (ya, yn, yc) rfl fun W _ hG => by
      have := hG.1.2
      rw [List.take_length] at this
      exact this
end Go.Proofs.Ytfmkpkmhhlakoaa.Sx

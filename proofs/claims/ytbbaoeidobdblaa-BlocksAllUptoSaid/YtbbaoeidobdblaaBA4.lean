/- Laid together: Sg3, Sg4, Sg5, Sh1, Sh2, Sg6, Sg8, Sg9, Sg10, Sg7. -/
import Derived.Test.YtbbaoeidobdblaaBA3
import Derived.ArgAppend
/- Find, AddEntry of the reference: what is known of what they answer. -/
set_option linter.unusedVariables false
set_option linter.unusedSimpArgs false
namespace Go.Proofs.Ytbbaoeidobdblaa.Sx
open Go
attribute [local simp ↓] ifb_true' ifb_false'
attribute [local simp] ifb_true ifb_false ifb_eq sx argsT find ev evOp evs evo evBin evInt evStr evNil evNilA ptrA slcA isNoneA asB evLoad look del cellsB evUn evConv kdec fld evFieldA evField evIdxA evIdx evSlc bndL bndH evLen mmi put resV guardV gvL setO tupV cellsOf ones one upd lits nv exitTo SV.val CV.val TI.agg rdyA allR keepB scan simpO gsp isS subs keepT pickT wr memN pubs Res.fact Region.binds bld rest give delL back Res.eqv vi vb num Sv.val undef
theorem txt_inj {s t : ByteArray} (h : s.toList = t.toList) : s = t := by
  rw [ByteArray.toList_eq, ByteArray.toList_eq] at h
  exact ByteArray.ext (Array.toList_inj.1 h)
theorem ent_get {W : World} {a : Option Addr} {n c : Nat} {l : List Ent} (h : Sv.ok dEnt W (a, n, c) l) {i : Nat} (hi : i < l.length) : ∃ b o, a = some ⟨b, o, none⟩ ∧ W.cell? ⟨b, o + i * 2, none⟩ = some (.string l[i].name) ∧ W.cell? ⟨b, o + i * 2 + 1, none⟩ = some (.int .i64 l[i].no) := by
  obtain ⟨b, o, e⟩ := h.2.2.2.is_some (show 0 < l.length by omega)
  cases e
  obtain ⟨cs, hk, _, hc⟩ := h.2.2.2.get hi
  have hk2 : cs = [.string l[i].name, .int .i64 l[i].no] := hk
  subst hk2
  exact ⟨b, o, rfl, hc 0 _ rfl, hc 1 _ rfl⟩
set_option maxRecDepth 100000 in
set_option maxHeartbeats 1000000 in
theorem find0 (w : World) (I : Nat → Prop) (hI : ∀ b, I b → b < w.heap.size) {a : Option Addr} {n c : Nat} (l : List Ent) (x : ByteArray) (h : ∀ W, Ext I w W → Sv.ok dEnt W (a, n, c) l) :
    Fn0 Try.prog 121 #[.slice a n c, .string x] w I (fun y : Int × Bool => .tuple #[.int .i64 y.1, .bool y.2]) (fun y W => (y.2 = true → ∃ e, e ∈ l ∧ e.name = x ∧ e.no = y.1) ∧ (y.2 = false → y.1 = 0)) := by
  obtain rfl : n = l.length := (h w (Ext.refl _ _)).1
  have hlen := (h w (Ext.refl _ _)).2.2.1
  refine enter (svs := [.c (.v (.slice a l.length c)), .c (.v (.string x))]) tysOk Try.func121 rfl Try.ntmps121 Try.results121 (by kernel_rfl) (by simp) hI (fun W => Sv.ok dEnt W (a, l.length, c) l) h fun C hC hN ok => ?_
  simp [hN]
  refine loop ok (fun i : Nat => [(6, .c (.v (.int .i64 i)))]) (fun _ => []) (fun i W => i ≤ l.length) (fun i => l.length - i) 0 ?_ ?_ (fun W hW => Nat.zero_le _) ?_
  · simp
  · simp
  rintro i W hi hG next
  rcases Nat.lt_or_ge i l.length with hlt | hge
  · obtain ⟨b, o, e, _⟩ := ent_get (show Sv.ok dEnt W (a, l.length, c) l from hG) hlt
    cases e
    have e6 : IntKind.i64.wrap ((i : Int) + 1) = (i + 1 : Nat) := by rw [w64 (by omega) (by omega)]; omega
    simp [hN, hlt]
    refine load1 ok rfl rfl rfl rfl (fun v W => v = .string l[i].name) (fun W hW => ?_) ?_
    · obtain ⟨b', o', e, hc, _⟩ := ent_get hW.2 hlt
      cases e
      exact ⟨_, hc, rfl⟩
    rintro v W rfl _
    simp [hN, hlt, e6]
    refine ⟨fun he => ?_, fun he => next (i + 1) _ _ (by omega) (fun W h => ⟨hlt, h.2⟩) ?_⟩
    · refine load1 ok rfl rfl rfl rfl (fun v W => v = .int .i64 l[i].no) (fun W hW => ?_) ?_
      · obtain ⟨b', o', e, _, hc⟩ := ent_get (by first | exact (hW) | exact (hW).2 | exact (hW).2.2 | exact (hW).2.2.2 | exact (hW).2.2.2.2 | exact (hW).2.2.2.2.2 | exact (hW).2.2.2.2.2.2 | exact (hW).2.2.2.2.2.2.2 | exact (hW).2.2.2.2.2.2.2.2) hlt
        cases e
        exact ⟨_, hc, rfl⟩
      rintro v W rfl _
      simp [hN]
      exact ret0 hC (l[i].no, true) rfl fun _ _ _ => ⟨fun _ => ⟨l[i], List.getElem_mem hlt, txt_inj he, rfl⟩, by simp⟩
    · simp
  · simp [hN, Nat.not_lt.2 hge]
    exact ret0 hC (0, false) rfl fun _ _ _ => by simp
theorem nvl (l : List Value) : List.map CV.val (List.map nv l) = l := by
  induction l with
  | nil => rfl
  | cons x r ih => rw [List.map_cons, List.map_cons, nv_val, ih]
theorem rowsEn {W : World} {xs : List Ent} {l : List Value} : Rows dEnt W xs l ↔ l = xs.flatMap fun x => [.string x.name, .int .i64 x.no] := by
  unfold dEnt
  rw [rows_flat]
/-- Entries with one more. -/
def EntsP (l : List Ent) (e : Ent) (r : List Ent) : Prop := r.length ≤ l.length + 1 ∧ r.length ≤ 100 ∧ ∀ x, x ∈ r → x ∈ l ∨ (x = e ∧ e.name.size ≤ 32)
set_option maxRecDepth 100000 in
set_option maxHeartbeats 1000000 in
theorem addEntry0 (w : World) (I : Nat → Prop) (hI : ∀ b, I b → b < w.heap.size) {a : Option Addr} {n c : Nat} (l : List Ent) (en : Ent) (h : ∀ W, Ext I w W → Sv.ok dEnt W (a, n, c) l) (hs : en.name.size ≤ 1000000000) :
    Fn0 Try.prog 122 #[.slice a n c, .agg #[.string en.name, .int .i64 en.no]] w I (fun y : Sl × List Ent × Int => .tuple #[.slice y.1.1 y.2.1.length y.1.2, .int .i64 y.2.2]) (fun y W => Sl.ok dEnt W y.1 y.2.1 ∧ EntsP l en y.2.1) := by
  obtain rfl : n = l.length := (h w (Ext.refl _ _)).1
  have hlen := (h w (Ext.refl _ _)).2.2.1
  have hcap : l.length ≤ c := (h w (Ext.refl _ _)).2.1
  refine enter (svs := [.c (.v (.slice a l.length c)), .ag [.v (.string en.name), .v (.int .i64 en.no)]]) tysOk Try.func122 rfl Try.ntmps122 Try.results122 (by kernel_rfl) (by simp) hI (fun W => Sv.ok dEnt W (a, l.length, c) l) h fun C hC hN ok => ?_
  simp [hN]
  intro g3
  refine call0 ok rfl rfl rfl (fun w I hI hG => find0 w I hI l en.name (fun W e => hG W e)) fun y W _ => ?_
  obtain ⟨no, has⟩ := y
  simp [hN]
  refine call0 ok rfl rfl rfl (fun w I hI hG => rightName0 w I hI en.name hs) fun y W hy => ?_
  have nl : ∀ (W : World), Sl.ok dEnt W (none, 0) [] ∧ EntsP l en [] := fun W => ⟨nilSl dEnt W, by simp, by simp, fun n h => by simp at h⟩
  cases y with
  | false =>
    simp [hN]
    exact ret0 hC ((none, 0), [], 17) rfl fun W _ _ => nl W
  | true =>
  have hx := hy rfl
  by_cases h1 : en.no < 1
  · simp [hN, h1]
    exact ret0 hC ((none, 0), [], 1) rfl fun W _ _ => nl W
  cases has with
  | true =>
    simp [hN, h1]
    exact ret0 hC ((none, 0), [], 12) rfl fun W _ _ => nl W
  | false =>
  by_cases h2 : 100 ≤ l.length
  · have h2I : (100 : Int) ≤ (l.length : Nat) := by omega
    simp [hN, h1, h2I]
    exact ret0 hC ((none, 0), [], 21) rfl fun W _ _ => nl W
  have h2I : ¬ (100 : Int) ≤ (l.length : Nat) := by omega
  simp [hN, h1, h2I]
  refine loopK [0, 3] ok (fun i : Nat => [(8, .c (.v (.int .i64 i)))]) (fun _ => [(3, .box g3 172 [.v (.string en.name), .v (.int .i64 en.no)])]) (fun i W => i ≤ l.length) (fun i => l.length - i) 0 ?_ ?_ (fun W hW => Nat.zero_le _) ?_
  · simp
  · simp
  rintro i W hi hG next
  have hsv : ∀ W, Sv.ok dEnt W (a, l.length, c) l → Sv.ok dEnt W (a, l.length, c) l := fun W h => h
  rcases Nat.lt_or_ge i l.length with hlt | hge
  · obtain ⟨b, o, e, _⟩ := ent_get (hsv W (by first | exact (hG) | exact (hG).2 | exact (hG).2.2 | exact (hG).2.2.2 | exact (hG).2.2.2.2 | exact (hG).2.2.2.2.2 | exact (hG).2.2.2.2.2.2 | exact (hG).2.2.2.2.2.2.2 | exact (hG).2.2.2.2.2.2.2.2)) hlt
    cases e
    have e6 : IntKind.i64.wrap ((i : Int) + 1) = (i + 1 : Nat) := by rw [w64 (by omega) (by omega)]; omega
    have hltI : (i : Int) < (l.length : Nat) := by omega
    refine drawK ok mixed (by kernel_rfl) ?_
    simp (maxSteps := 2000000) -implicitDefEqProofs [hN, hltI, hlt]
    refine load1 ok rfl rfl rfl rfl (fun v W => v = .string l[i].name) (fun W hW => ?_) ?_
    · obtain ⟨b', o', e, hc, _⟩ := ent_get (by first | exact (hW) | exact (hW).2 | exact (hW).2.2 | exact (hW).2.2.2 | exact (hW).2.2.2.2 | exact (hW).2.2.2.2.2 | exact (hW).2.2.2.2.2.2 | exact (hW).2.2.2.2.2.2.2 | exact (hW).2.2.2.2.2.2.2.2) hlt
      cases e
      exact ⟨_, hc, rfl⟩
    rintro v W rfl _
    simp (maxSteps := 2000000) -implicitDefEqProofs [hN, hltI, hlt, e6]
    refine ⟨fun hle => next (i + 1) _ _ (by omega) (fun W h => ⟨hlt, h.2⟩) ?_, fun hgt hne => ?_⟩
    · simp
    · refine drawK ok mixed (by kernel_rfl) ?_
      simp (maxSteps := 2000000) -implicitDefEqProofs [hN, hi]
      have hT : (l.take i).length = i := by simp; omega
      have hD : (l.drop i).length = l.length - i := by simp
      refine ⟨by omega, ?_, fun g => ?_⟩
      · refine nilr 600 172 2 (appV ok 600 rfl rfl rfl rfl rfl (by decide) rfl rfl rfl rfl rfl rfl dEnt (l.take i) rfl (by rw [hT]; show (0 + i) * 24 ≤ _; omega) (by rw [hT]; omega) (fun W hW => Sv.take (by first | exact (hW) | exact (hW).1 | exact (hW).1.1 | exact (hW).1.2 | exact (hW).1.2.1 | exact (hW).1.2.2.1 | exact (hW).1.2.2.2.1 | exact (hW).1.2.2.2 | exact (hW).2 | exact (hW).2.1 | exact (hW).2.1.1 | exact (hW).2.1.2 | exact (hW).2.1.2.1 | exact (hW).2.1.2.2.1 | exact (hW).2.1.2.2.2.1 | exact (hW).2.1.2.2.2 | exact (hW).2.2 | exact (hW).2.2.1 | exact (hW).2.2.1.1 | exact (hW).2.2.1.2 | exact (hW).2.2.1.2.1 | exact (hW).2.2.1.2.2.1 | exact (hW).2.2.1.2.2.2.1 | exact (hW).2.2.1.2.2.2 | exact (hW).2.2.2 | exact (hW).2.2.2.1 | exact (hW).2.2.2.1.1 | exact (hW).2.2.2.1.2 | exact (hW).2.2.2.1.2.1 | exact (hW).2.2.2.1.2.2.1 | exact (hW).2.2.2.1.2.2.2.1 | exact (hW).2.2.2.1.2.2.2 | exact (hW).2.2.2.2 | exact (hW).2.2.2.2.1 | exact (hW).2.2.2.2.1.1 | exact (hW).2.2.2.2.1.2 | exact (hW).2.2.2.2.1.2.1 | exact (hW).2.2.2.2.1.2.2.1 | exact (hW).2.2.2.2.1.2.2.2.1 | exact (hW).2.2.2.2.1.2.2.2 | exact (hW).2.2.2.2.2 | exact (hW).2.2.2.2.2.1 | exact (hW).2.2.2.2.2.1.1 | exact (hW).2.2.2.2.2.1.2 | exact (hW).2.2.2.2.2.1.2.1 | exact (hW).2.2.2.2.2.1.2.2.1 | exact (hW).2.2.2.2.2.1.2.2.2.1 | exact (hW).2.2.2.2.2.1.2.2.2 | exact (hW).2.2.2.2.2.2 | exact (hW).2.2.2.2.2.2.1 | exact (hW).2.2.2.2.2.2.1.1 | exact (hW).2.2.2.2.2.2.1.2 | exact (hW).2.2.2.2.2.2.1.2.1 | exact (hW).2.2.2.2.2.2.1.2.2.1 | exact (hW).2.2.2.2.2.2.1.2.2.2.1 | exact (hW).2.2.2.2.2.2.1.2.2.2 | exact (hW).2.2.2.2.2.2.2 | exact (hW).2.2.2.2.2.2.2.1 | exact (hW).2.2.2.2.2.2.2.1.1 | exact (hW).2.2.2.2.2.2.2.1.2 | exact (hW).2.2.2.2.2.2.2.1.2.1 | exact (hW).2.2.2.2.2.2.2.1.2.2.1 | exact (hW).2.2.2.2.2.2.2.1.2.2.2.1 | exact (hW).2.2.2.2.2.2.2.1.2.2.2 | exact (hW).2.2.2.2.2.2.2.2 | exact (hW).2.2.2.2.2.2.2.2.1 | exact (hW).2.2.2.2.2.2.2.2.1.1 | exact (hW).2.2.2.2.2.2.2.2.1.2 | exact (hW).2.2.2.2.2.2.2.2.1.2.1 | exact (hW).2.2.2.2.2.2.2.2.1.2.2.1 | exact (hW).2.2.2.2.2.2.2.2.1.2.2.2.1 | exact (hW).2.2.2.2.2.2.2.2.1.2.2.2 | exact (hW).2.2.2.2.2.2.2.2.2) hi) fun q a2 c2 W hql hq _ => ?_)
        simp (maxSteps := 2000000) -implicitDefEqProofs [hN, hi]
        intro g
        refine appR ok 600 53 rfl rfl rfl rfl rfl (by decide) rfl rfl rfl rfl rfl rfl rfl (by decide) (by simp) (by show (i + 1) * 24 ≤ _; omega) (by omega) fun g' c' => ?_
        simp (maxSteps := 2000000) -implicitDefEqProofs [hN, hi]
        refine ⟨hcap, appV ok 600 rfl rfl rfl rfl rfl (by decide) rfl rfl rfl rfl rfl rfl dEnt (l.drop i) rfl (by rw [hD]; show (i + 1 + (l.length - i)) * 24 ≤ _; omega) (by rw [hD]; omega) (fun W hW => by have := Sv.drop (show Sv.ok dEnt W _ l from (by first | exact (hW) | exact (hW).1 | exact (hW).1.1 | exact (hW).1.2 | exact (hW).1.2.1 | exact (hW).1.2.2.1 | exact (hW).1.2.2.2.1 | exact (hW).1.2.2.2 | exact (hW).2 | exact (hW).2.1 | exact (hW).2.1.1 | exact (hW).2.1.2 | exact (hW).2.1.2.1 | exact (hW).2.1.2.2.1 | exact (hW).2.1.2.2.2.1 | exact (hW).2.1.2.2.2 | exact (hW).2.2 | exact (hW).2.2.1 | exact (hW).2.2.1.1 | exact (hW).2.2.1.2 | exact (hW).2.2.1.2.1 | exact (hW).2.2.1.2.2.1 | exact (hW).2.2.1.2.2.2.1 | exact (hW).2.2.1.2.2.2 | exact (hW).2.2.2 | exact (hW).2.2.2.1 | exact (hW).2.2.2.1.1 | exact (hW).2.2.2.1.2 | exact (hW).2.2.2.1.2.1 | exact (hW).2.2.2.1.2.2.1 | exact (hW).2.2.2.1.2.2.2.1 | exact (hW).2.2.2.1.2.2.2 | exact (hW).2.2.2.2 | exact (hW).2.2.2.2.1 | exact (hW).2.2.2.2.1.1 | exact (hW).2.2.2.2.1.2 | exact (hW).2.2.2.2.1.2.1 | exact (hW).2.2.2.2.1.2.2.1 | exact (hW).2.2.2.2.1.2.2.2.1 | exact (hW).2.2.2.2.1.2.2.2 | exact (hW).2.2.2.2.2 | exact (hW).2.2.2.2.2.1 | exact (hW).2.2.2.2.2.1.1 | exact (hW).2.2.2.2.2.1.2 | exact (hW).2.2.2.2.2.1.2.1 | exact (hW).2.2.2.2.2.1.2.2.1 | exact (hW).2.2.2.2.2.1.2.2.2.1 | exact (hW).2.2.2.2.2.1.2.2.2 | exact (hW).2.2.2.2.2.2 | exact (hW).2.2.2.2.2.2.1 | exact (hW).2.2.2.2.2.2.1.1 | exact (hW).2.2.2.2.2.2.1.2 | exact (hW).2.2.2.2.2.2.1.2.1 | exact (hW).2.2.2.2.2.2.1.2.2.1 | exact (hW).2.2.2.2.2.2.1.2.2.2.1 | exact (hW).2.2.2.2.2.2.1.2.2.2 | exact (hW).2.2.2.2.2.2.2 | exact (hW).2.2.2.2.2.2.2.1 | exact (hW).2.2.2.2.2.2.2.1.1 | exact (hW).2.2.2.2.2.2.2.1.2 | exact (hW).2.2.2.2.2.2.2.1.2.1 | exact (hW).2.2.2.2.2.2.2.1.2.2.1 | exact (hW).2.2.2.2.2.2.2.1.2.2.2.1 | exact (hW).2.2.2.2.2.2.2.1.2.2.2 | exact (hW).2.2.2.2.2.2.2.2 | exact (hW).2.2.2.2.2.2.2.2.1 | exact (hW).2.2.2.2.2.2.2.2.1.1 | exact (hW).2.2.2.2.2.2.2.2.1.2 | exact (hW).2.2.2.2.2.2.2.2.1.2.1 | exact (hW).2.2.2.2.2.2.2.2.1.2.2.1 | exact (hW).2.2.2.2.2.2.2.2.1.2.2.2.1 | exact (hW).2.2.2.2.2.2.2.2.1.2.2.2 | exact (hW).2.2.2.2.2.2.2.2.2)) hi; first | exact this | simpa [dEnt, flat] using this) fun q2 a3 c3 W hql2 hq2 _ => ?_⟩
        simp (maxSteps := 2000000) -implicitDefEqProofs [hN, hi]
        obtain ⟨r, hr⟩ : ∃ r, r = l.take i ++ en :: l.drop i := ⟨_, rfl⟩
        have hrl : i + 1 + (l.length - i) = r.length := by rw [hr, List.length_append, List.length_cons, hT, hD]; omega
        have hrr : ∀ W : World, Rows dEnt W (l.drop i) q2 → Rows dEnt W (l.take i) q → List.map CV.val (List.map nv q ++ .v (.string en.name) :: .v (.int .i64 en.no) :: List.map nv q2) = r.flatMap fun x => [.string x.name, .int .i64 x.no] := fun W k1 k2 => by
          rw [rowsEn] at k1 k2
          rw [List.map_append, nvl, List.map_cons, List.map_cons, nvl, hr, k1, k2]
          simp
        rw [hrl]
        refine ret0 hC ((a3, c3), r, 0) rfl fun W hp hG => ⟨?_, by show r.length ≤ _; omega, by show r.length ≤ _; omega, fun x hx => ?_⟩
        · have h1 : W.ownsRow 0 172 2 (.slice a3 r.length c3) r.length (List.map CV.val (List.map nv q ++ .v (.string en.name) :: .v (.int .i64 en.no) :: List.map nv q2)) := hp.1
          rw [hrr W hG.1 hG.2.1] at h1
          exact ((rowsEn.2 rfl : Rows dEnt W r _).sv (base := 0) (e := 172) (by decide) (by show r.length ≤ _; omega) h1).2
        · rw [hr] at hx
          rcases List.mem_append.1 hx with hx | hx
          · exact .inl (List.mem_of_mem_take hx)
          · rcases List.mem_cons.1 hx with rfl | hx
            · exact .inr ⟨rfl, hG.2.2.1⟩
            · exact .inl (List.mem_of_mem_drop hx)
      · refine nilr 600 172 2 (appV ok 600 rfl rfl rfl rfl rfl (by decide) rfl rfl rfl rfl rfl rfl dEnt (l.take i) rfl (by rw [hT]; show (0 + i) * 24 ≤ _; omega) (by rw [hT]; omega) (fun W hW => Sv.take (by first | exact (hW) | exact (hW).1 | exact (hW).1.1 | exact (hW).1.2 | exact (hW).1.2.1 | exact (hW).1.2.2.1 | exact (hW).1.2.2.2.1 | exact (hW).1.2.2.2 | exact (hW).2 | exact (hW).2.1 | exact (hW).2.1.1 | exact (hW).2.1.2 | exact (hW).2.1.2.1 | exact (hW).2.1.2.2.1 | exact (hW).2.1.2.2.2.1 | exact (hW).2.1.2.2.2 | exact (hW).2.2 | exact (hW).2.2.1 | exact (hW).2.2.1.1 | exact (hW).2.2.1.2 | exact (hW).2.2.1.2.1 | exact (hW).2.2.1.2.2.1 | exact (hW).2.2.1.2.2.2.1 | exact (hW).2.2.1.2.2.2 | exact (hW).2.2.2 | exact (hW).2.2.2.1 | exact (hW).2.2.2.1.1 | exact (hW).2.2.2.1.2 | exact (hW).2.2.2.1.2.1 | exact (hW).2.2.2.1.2.2.1 | exact (hW).2.2.2.1.2.2.2.1 | exact (hW).2.2.2.1.2.2.2 | exact (hW).2.2.2.2 | exact (hW).2.2.2.2.1 | exact (hW).2.2.2.2.1.1 | exact (hW).2.2.2.2.1.2 | exact (hW).2.2.2.2.1.2.1 | exact (hW).2.2.2.2.1.2.2.1 | exact (hW).2.2.2.2.1.2.2.2.1 | exact (hW).2.2.2.2.1.2.2.2 | exact (hW).2.2.2.2.2 | exact (hW).2.2.2.2.2.1 | exact (hW).2.2.2.2.2.1.1 | exact (hW).2.2.2.2.2.1.2 | exact (hW).2.2.2.2.2.1.2.1 | exact (hW).2.2.2.2.2.1.2.2.1 | exact (hW).2.2.2.2.2.1.2.2.2.1 | exact (hW).2.2.2.2.2.1.2.2.2 | exact (hW).2.2.2.2.2.2 | exact (hW).2.2.2.2.2.2.1 | exact (hW).2.2.2.2.2.2.1.1 | exact (hW).2.2.2.2.2.2.1.2 | exact (hW).2.2.2.2.2.2.1.2.1 | exact (hW).2.2.2.2.2.2.1.2.2.1 | exact (hW).2.2.2.2.2.2.1.2.2.2.1 | exact (hW).2.2.2.2.2.2.1.2.2.2 | exact (hW).2.2.2.2.2.2.2 | exact (hW).2.2.2.2.2.2.2.1 | exact (hW).2.2.2.2.2.2.2.1.1 | exact (hW).2.2.2.2.2.2.2.1.2 | exact (hW).2.2.2.2.2.2.2.1.2.1 | exact (hW).2.2.2.2.2.2.2.1.2.2.1 | exact (hW).2.2.2.2.2.2.2.1.2.2.2.1 | exact (hW).2.2.2.2.2.2.2.1.2.2.2 | exact (hW).2.2.2.2.2.2.2.2 | exact (hW).2.2.2.2.2.2.2.2.1 | exact (hW).2.2.2.2.2.2.2.2.1.1 | exact (hW).2.2.2.2.2.2.2.2.1.2 | exact (hW).2.2.2.2.2.2.2.2.1.2.1 | exact (hW).2.2.2.2.2.2.2.2.1.2.2.1 | exact (hW).2.2.2.2.2.2.2.2.1.2.2.2.1 | exact (hW).2.2.2.2.2.2.2.2.1.2.2.2 | exact (hW).2.2.2.2.2.2.2.2.2) hi) fun q a2 c2 W hql hq _ => ?_)
        simp (maxSteps := 2000000) -implicitDefEqProofs [hN, hi]
        refine appR ok 600 53 rfl rfl rfl rfl rfl (by decide) rfl rfl rfl rfl rfl rfl rfl (by decide) (by simp) (by show (i + 1) * 24 ≤ _; omega) (by omega) fun g' c' => ?_
        simp (maxSteps := 2000000) -implicitDefEqProofs [hN, hi]
        refine ⟨hcap, appV ok 600 rfl rfl rfl rfl rfl (by decide) rfl rfl rfl rfl rfl rfl dEnt (l.drop i) rfl (by rw [hD]; show (i + 1 + (l.length - i)) * 24 ≤ _; omega) (by rw [hD]; omega) (fun W hW => by have := Sv.drop (show Sv.ok dEnt W _ l from (by first | exact (hW) | exact (hW).1 | exact (hW).1.1 | exact (hW).1.2 | exact (hW).1.2.1 | exact (hW).1.2.2.1 | exact (hW).1.2.2.2.1 | exact (hW).1.2.2.2 | exact (hW).2 | exact (hW).2.1 | exact (hW).2.1.1 | exact (hW).2.1.2 | exact (hW).2.1.2.1 | exact (hW).2.1.2.2.1 | exact (hW).2.1.2.2.2.1 | exact (hW).2.1.2.2.2 | exact (hW).2.2 | exact (hW).2.2.1 | exact (hW).2.2.1.1 | exact (hW).2.2.1.2 | exact (hW).2.2.1.2.1 | exact (hW).2.2.1.2.2.1 | exact (hW).2.2.1.2.2.2.1 | exact (hW).2.2.1.2.2.2 | exact (hW).2.2.2 | exact (hW).2.2.2.1 | exact (hW).2.2.2.1.1 | exact (hW).2.2.2.1.2 | exact (hW).2.2.2.1.2.1 | exact (hW).2.2.2.1.2.2.1 | exact (hW).2.2.2.1.2.2.2.1 | exact (hW).2.2.2.1.2.2.2 | exact (hW).2.2.2.2 | exact (hW).2.2.2.2.1 | exact (hW).2.2.2.2.1.1 | exact (hW).2.2.2.2.1.2 | exact (hW).2.2.2.2.1.2.1 | exact (hW).2.2.2.2.1.2.2.1 | exact (hW).2.2.2.2.1.2.2.2.1 | exact (hW).2.2.2.2.1.2.2.2 | exact (hW).2.2.2.2.2 | exact (hW).2.2.2.2.2.1 | exact (hW).2.2.2.2.2.1.1 | exact (hW).2.2.2.2.2.1.2 | exact (hW).2.2.2.2.2.1.2.1 | exact (hW).2.2.2.2.2.1.2.2.1 | exact (hW).2.2.2.2.2.1.2.2.2.1 | exact (hW).2.2.2.2.2.1.2.2.2 | exact (hW).2.2.2.2.2.2 | exact (hW).2.2.2.2.2.2.1 | exact (hW).2.2.2.2.2.2.1.1 | exact (hW).2.2.2.2.2.2.1.2 | exact (hW).2.2.2.2.2.2.1.2.1 | exact (hW).2.2.2.2.2.2.1.2.2.1 | exact (hW).2.2.2.2.2.2.1.2.2.2.1 | exact (hW).2.2.2.2.2.2.1.2.2.2 | exact (hW).2.2.2.2.2.2.2 | exact (hW).2.2.2.2.2.2.2.1 | exact (hW).2.2.2.2.2.2.2.1.1 | exact (hW).2.2.2.2.2.2.2.1.2 | exact (hW).2.2.2.2.2.2.2.1.2.1 | exact (hW).2.2.2.2.2.2.2.1.2.2.1 | exact (hW).2.2.2.2.2.2.2.1.2.2.2.1 | exact (hW).2.2.2.2.2.2.2.1.2.2.2 | exact (hW).2.2.2.2.2.2.2.2 | exact (hW).2.2.2.2.2.2.2.2.1 | exact (hW).2.2.2.2.2.2.2.2.1.1 | exact (hW).2.2.2.2.2.2.2.2.1.2 | exact (hW).2.2.2.2.2.2.2.2.1.2.1 | exact (hW).2.2.2.2.2.2.2.2.1.2.2.1 | exact (hW).2.2.2.2.2.2.2.2.1.2.2.2.1 | exact (hW).2.2.2.2.2.2.2.2.1.2.2.2 | exact (hW).2.2.2.2.2.2.2.2.2)) hi; first | exact this | simpa [dEnt, flat] using this) fun q2 a3 c3 W hql2 hq2 _ => ?_⟩
        simp (maxSteps := 2000000) -implicitDefEqProofs [hN, hi]
        obtain ⟨r, hr⟩ : ∃ r, r = l.take i ++ en :: l.drop i := ⟨_, rfl⟩
        have hrl : i + 1 + (l.length - i) = r.length := by rw [hr, List.length_append, List.length_cons, hT, hD]; omega
        have hrr : ∀ W : World, Rows dEnt W (l.drop i) q2 → Rows dEnt W (l.take i) q → List.map CV.val (List.map nv q ++ .v (.string en.name) :: .v (.int .i64 en.no) :: List.map nv q2) = r.flatMap fun x => [.string x.name, .int .i64 x.no] := fun W k1 k2 => by
          rw [rowsEn] at k1 k2
          rw [List.map_append, nvl, List.map_cons, List.map_cons, nvl, hr, k1, k2]
          simp
        rw [hrl]
        refine ret0 hC ((a3, c3), r, 0) rfl fun W hp hG => ⟨?_, by show r.length ≤ _; omega, by show r.length ≤ _; omega, fun x hx => ?_⟩
        · have h1 : W.ownsRow 0 172 2 (.slice a3 r.length c3) r.length (List.map CV.val (List.map nv q ++ .v (.string en.name) :: .v (.int .i64 en.no) :: List.map nv q2)) := hp.1
          rw [hrr W hG.1 hG.2.1] at h1
          exact ((rowsEn.2 rfl : Rows dEnt W r _).sv (base := 0) (e := 172) (by decide) (by show r.length ≤ _; omega) h1).2
        · rw [hr] at hx
          rcases List.mem_append.1 hx with hx | hx
          · exact .inl (List.mem_of_mem_take hx)
          · rcases List.mem_cons.1 hx with rfl | hx
            · exact .inr ⟨rfl, hG.2.2.1⟩
            · exact .inl (List.mem_of_mem_drop hx)
  · refine drawK ok mixed (by kernel_rfl) ?_
    simp (maxSteps := 2000000) -implicitDefEqProofs [hN, Nat.not_lt.2 hge]
    refine drawK ok mixed (by kernel_rfl) ?_
    simp (maxSteps := 2000000) -implicitDefEqProofs [hN, hi]
    have hT : (l.take i).length = i := by simp; omega
    have hD : (l.drop i).length = l.length - i := by simp
    refine ⟨by omega, ?_, fun g => ?_⟩
    · refine nilr 600 172 2 (appV ok 600 rfl rfl rfl rfl rfl (by decide) rfl rfl rfl rfl rfl rfl dEnt (l.take i) rfl (by rw [hT]; show (0 + i) * 24 ≤ _; omega) (by rw [hT]; omega) (fun W hW => Sv.take (by first | exact (hW) | exact (hW).1 | exact (hW).1.1 | exact (hW).1.2 | exact (hW).1.2.1 | exact (hW).1.2.2.1 | exact (hW).1.2.2.2.1 | exact (hW).1.2.2.2 | exact (hW).2 | exact (hW).2.1 | exact (hW).2.1.1 | exact (hW).2.1.2 | exact (hW).2.1.2.1 | exact (hW).2.1.2.2.1 | exact (hW).2.1.2.2.2.1 | exact (hW).2.1.2.2.2 | exact (hW).2.2 | exact (hW).2.2.1 | exact (hW).2.2.1.1 | exact (hW).2.2.1.2 | exact (hW).2.2.1.2.1 | exact (hW).2.2.1.2.2.1 | exact (hW).2.2.1.2.2.2.1 | exact (hW).2.2.1.2.2.2 | exact (hW).2.2.2 | exact (hW).2.2.2.1 | exact (hW).2.2.2.1.1 | exact (hW).2.2.2.1.2 | exact (hW).2.2.2.1.2.1 | exact (hW).2.2.2.1.2.2.1 | exact (hW).2.2.2.1.2.2.2.1 | exact (hW).2.2.2.1.2.2.2 | exact (hW).2.2.2.2 | exact (hW).2.2.2.2.1 | exact (hW).2.2.2.2.1.1 | exact (hW).2.2.2.2.1.2 | exact (hW).2.2.2.2.1.2.1 | exact (hW).2.2.2.2.1.2.2.1 | exact (hW).2.2.2.2.1.2.2.2.1 | exact (hW).2.2.2.2.1.2.2.2 | exact (hW).2.2.2.2.2 | exact (hW).2.2.2.2.2.1 | exact (hW).2.2.2.2.2.1.1 | exact (hW).2.2.2.2.2.1.2 | exact (hW).2.2.2.2.2.1.2.1 | exact (hW).2.2.2.2.2.1.2.2.1 | exact (hW).2.2.2.2.2.1.2.2.2.1 | exact (hW).2.2.2.2.2.1.2.2.2 | exact (hW).2.2.2.2.2.2 | exact (hW).2.2.2.2.2.2.1 | exact (hW).2.2.2.2.2.2.1.1 | exact (hW).2.2.2.2.2.2.1.2 | exact (hW).2.2.2.2.2.2.1.2.1 | exact (hW).2.2.2.2.2.2.1.2.2.1 | exact (hW).2.2.2.2.2.2.1.2.2.2.1 | exact (hW).2.2.2.2.2.2.1.2.2.2 | exact (hW).2.2.2.2.2.2.2 | exact (hW).2.2.2.2.2.2.2.1 | exact (hW).2.2.2.2.2.2.2.1.1 | exact (hW).2.2.2.2.2.2.2.1.2 | exact (hW).2.2.2.2.2.2.2.1.2.1 | exact (hW).2.2.2.2.2.2.2.1.2.2.1 | exact (hW).2.2.2.2.2.2.2.1.2.2.2.1 | exact (hW).2.2.2.2.2.2.2.1.2.2.2 | exact (hW).2.2.2.2.2.2.2.2 | exact (hW).2.2.2.2.2.2.2.2.1 | exact (hW).2.2.2.2.2.2.2.2.1.1 | exact (hW).2.2.2.2.2.2.2.2.1.2 | exact (hW).2.2.2.2.2.2.2.2.1.2.1 | exact (hW).2.2.2.2.2.2.2.2.1.2.2.1 | exact (hW).2.2.2.2.2.2.2.2.1.2.2.2.1 | exact (hW).2.2.2.2.2.2.2.2.1.2.2.2 | exact (hW).2.2.2.2.2.2.2.2.2) hi) fun q a2 c2 W hql hq _ => ?_)
      simp (maxSteps := 2000000) -implicitDefEqProofs [hN, hi]
      intro g
      refine appR ok 600 53 rfl rfl rfl rfl rfl (by decide) rfl rfl rfl rfl rfl rfl rfl (by decide) (by simp) (by show (i + 1) * 24 ≤ _; omega) (by omega) fun g' c' => ?_
      simp (maxSteps := 2000000) -implicitDefEqProofs [hN, hi]
      refine ⟨hcap, appV ok 600 rfl rfl rfl rfl rfl (by decide) rfl rfl rfl rfl rfl rfl dEnt (l.drop i) rfl (by rw [hD]; show (i + 1 + (l.length - i)) * 24 ≤ _; omega) (by rw [hD]; omega) (fun W hW => by have := Sv.drop (show Sv.ok dEnt W _ l from (by first | exact (hW) | exact (hW).1 | exact (hW).1.1 | exact (hW).1.2 | exact (hW).1.2.1 | exact (hW).1.2.2.1 | exact (hW).1.2.2.2.1 | exact (hW).1.2.2.2 | exact (hW).2 | exact (hW).2.1 | exact (hW).2.1.1 | exact (hW).2.1.2 | exact (hW).2.1.2.1 | exact (hW).2.1.2.2.1 | exact (hW).2.1.2.2.2.1 | exact (hW).2.1.2.2.2 | exact (hW).2.2 | exact (hW).2.2.1 | exact (hW).2.2.1.1 | exact (hW).2.2.1.2 | exact (hW).2.2.1.2.1 | exact (hW).2.2.1.2.2.1 | exact (hW).2.2.1.2.2.2.1 | exact (hW).2.2.1.2.2.2 | exact (hW).2.2.2 | exact (hW).2.2.2.1 | exact (hW).2.2.2.1.1 | exact (hW).2.2.2.1.2 | exact (hW).2.2.2.1.2.1 | exact (hW).2.2.2.1.2.2.1 | exact (hW).2.2.2.1.2.2.2.1 | exact (hW).2.2.2.1.2.2.2 | exact (hW).2.2.2.2 | exact (hW).2.2.2.2.1 | exact (hW).2.2.2.2.1.1 | exact (hW).2.2.2.2.1.2 | exact (hW).2.2.2.2.1.2.1 | exact (hW).2.2.2.2.1.2.2.1 | exact (hW).2.2.2.2.1.2.2.2.1 | exact (hW).2.2.2.2.1.2.2.2 | exact (hW).2.2.2.2.2 | exact (hW).2.2.2.2.2.1 | exact (hW).2.2.2.2.2.1.1 | exact (hW).2.2.2.2.2.1.2 | exact (hW).2.2.2.2.2.1.2.1 | exact (hW).2.2.2.2.2.1.2.2.1 | exact (hW).2.2.2.2.2.1.2.2.2.1 | exact (hW).2.2.2.2.2.1.2.2.2 | exact (hW).2.2.2.2.2.2 | exact (hW).2.2.2.2.2.2.1 | exact (hW).2.2.2.2.2.2.1.1 | exact (hW).2.2.2.2.2.2.1.2 | exact (hW).2.2.2.2.2.2.1.2.1 | exact (hW).2.2.2.2.2.2.1.2.2.1 | exact (hW).2.2.2.2.2.2.1.2.2.2.1 | exact (hW).2.2.2.2.2.2.1.2.2.2 | exact (hW).2.2.2.2.2.2.2 | exact (hW).2.2.2.2.2.2.2.1 | exact (hW).2.2.2.2.2.2.2.1.1 | exact (hW).2.2.2.2.2.2.2.1.2 | exact (hW).2.2.2.2.2.2.2.1.2.1 | exact (hW).2.2.2.2.2.2.2.1.2.2.1 | exact (hW).2.2.2.2.2.2.2.1.2.2.2.1 | exact (hW).2.2.2.2.2.2.2.1.2.2.2 | exact (hW).2.2.2.2.2.2.2.2 | exact (hW).2.2.2.2.2.2.2.2.1 | exact (hW).2.2.2.2.2.2.2.2.1.1 | exact (hW).2.2.2.2.2.2.2.2.1.2 | exact (hW).2.2.2.2.2.2.2.2.1.2.1 | exact (hW).2.2.2.2.2.2.2.2.1.2.2.1 | exact (hW).2.2.2.2.2.2.2.2.1.2.2.2.1 | exact (hW).2.2.2.2.2.2.2.2.1.2.2.2 | exact (hW).2.2.2.2.2.2.2.2.2)) hi; first | exact this | simpa [dEnt, flat] using this) fun q2 a3 c3 W hql2 hq2 _ => ?_⟩
      simp (maxSteps := 2000000) -implicitDefEqProofs [hN, hi]
      obtain ⟨r, hr⟩ : ∃ r, r = l.take i ++ en :: l.drop i := ⟨_, rfl⟩
      have hrl : i + 1 + (l.length - i) = r.length := by rw [hr, List.length_append, List.length_cons, hT, hD]; omega
      have hrr : ∀ W : World, Rows dEnt W (l.drop i) q2 → Rows dEnt W (l.take i) q → List.map CV.val (List.map nv q ++ .v (.string en.name) :: .v (.int .i64 en.no) :: List.map nv q2) = r.flatMap fun x => [.string x.name, .int .i64 x.no] := fun W k1 k2 => by
        rw [rowsEn] at k1 k2
        rw [List.map_append, nvl, List.map_cons, List.map_cons, nvl, hr, k1, k2]
        simp
      rw [hrl]
      refine ret0 hC ((a3, c3), r, 0) rfl fun W hp hG => ⟨?_, by show r.length ≤ _; omega, by show r.length ≤ _; omega, fun x hx => ?_⟩
      · have h1 : W.ownsRow 0 172 2 (.slice a3 r.length c3) r.length (List.map CV.val (List.map nv q ++ .v (.string en.name) :: .v (.int .i64 en.no) :: List.map nv q2)) := hp.1
        rw [hrr W hG.1 hG.2.1] at h1
        exact ((rowsEn.2 rfl : Rows dEnt W r _).sv (base := 0) (e := 172) (by decide) (by show r.length ≤ _; omega) h1).2
      · rw [hr] at hx
        rcases List.mem_append.1 hx with hx | hx
        · exact .inl (List.mem_of_mem_take hx)
        · rcases List.mem_cons.1 hx with rfl | hx
          · exact .inr ⟨rfl, hG.2.2.1⟩
          · exact .inl (List.mem_of_mem_drop hx)
    · refine nilr 600 172 2 (appV ok 600 rfl rfl rfl rfl rfl (by decide) rfl rfl rfl rfl rfl rfl dEnt (l.take i) rfl (by rw [hT]; show (0 + i) * 24 ≤ _; omega) (by rw [hT]; omega) (fun W hW => Sv.take (by first | exact (hW) | exact (hW).1 | exact (hW).1.1 | exact (hW).1.2 | exact (hW).1.2.1 | exact (hW).1.2.2.1 | exact (hW).1.2.2.2.1 | exact (hW).1.2.2.2 | exact (hW).2 | exact (hW).2.1 | exact (hW).2.1.1 | exact (hW).2.1.2 | exact (hW).2.1.2.1 | exact (hW).2.1.2.2.1 | exact (hW).2.1.2.2.2.1 | exact (hW).2.1.2.2.2 | exact (hW).2.2 | exact (hW).2.2.1 | exact (hW).2.2.1.1 | exact (hW).2.2.1.2 | exact (hW).2.2.1.2.1 | exact (hW).2.2.1.2.2.1 | exact (hW).2.2.1.2.2.2.1 | exact (hW).2.2.1.2.2.2 | exact (hW).2.2.2 | exact (hW).2.2.2.1 | exact (hW).2.2.2.1.1 | exact (hW).2.2.2.1.2 | exact (hW).2.2.2.1.2.1 | exact (hW).2.2.2.1.2.2.1 | exact (hW).2.2.2.1.2.2.2.1 | exact (hW).2.2.2.1.2.2.2 | exact (hW).2.2.2.2 | exact (hW).2.2.2.2.1 | exact (hW).2.2.2.2.1.1 | exact (hW).2.2.2.2.1.2 | exact (hW).2.2.2.2.1.2.1 | exact (hW).2.2.2.2.1.2.2.1 | exact (hW).2.2.2.2.1.2.2.2.1 | exact (hW).2.2.2.2.1.2.2.2 | exact (hW).2.2.2.2.2 | exact (hW).2.2.2.2.2.1 | exact (hW).2.2.2.2.2.1.1 | exact (hW).2.2.2.2.2.1.2 | exact (hW).2.2.2.2.2.1.2.1 | exact (hW).2.2.2.2.2.1.2.2.1 | exact (hW).2.2.2.2.2.1.2.2.2.1 | exact (hW).2.2.2.2.2.1.2.2.2 | exact (hW).2.2.2.2.2.2 | exact (hW).2.2.2.2.2.2.1 | exact (hW).2.2.2.2.2.2.1.1 | exact (hW).2.2.2.2.2.2.1.2 | exact (hW).2.2.2.2.2.2.1.2.1 | exact (hW).2.2.2.2.2.2.1.2.2.1 | exact (hW).2.2.2.2.2.2.1.2.2.2.1 | exact (hW).2.2.2.2.2.2.1.2.2.2 | exact (hW).2.2.2.2.2.2.2 | exact (hW).2.2.2.2.2.2.2.1 | exact (hW).2.2.2.2.2.2.2.1.1 | exact (hW).2.2.2.2.2.2.2.1.2 | exact (hW).2.2.2.2.2.2.2.1.2.1 | exact (hW).2.2.2.2.2.2.2.1.2.2.1 | exact (hW).2.2.2.2.2.2.2.1.2.2.2.1 | exact (hW).2.2.2.2.2.2.2.1.2.2.2 | exact (hW).2.2.2.2.2.2.2.2 | exact (hW).2.2.2.2.2.2.2.2.1 | exact (hW).2.2.2.2.2.2.2.2.1.1 | exact (hW).2.2.2.2.2.2.2.2.1.2 | exact (hW).2.2.2.2.2.2.2.2.1.2.1 | exact (hW).2.2.2.2.2.2.2.2.1.2.2.1 | exact (hW).2.2.2.2.2.2.2.2.1.2.2.2.1 | exact (hW).2.2.2.2.2.2.2.2.1.2.2.2 | exact (hW).2.2.2.2.2.2.2.2.2) hi) fun q a2 c2 W hql hq _ => ?_)
      simp (maxSteps := 2000000) -implicitDefEqProofs [hN, hi]
      refine appR ok 600 53 rfl rfl rfl rfl rfl (by decide) rfl rfl rfl rfl rfl rfl rfl (by decide) (by simp) (by show (i + 1) * 24 ≤ _; omega) (by omega) fun g' c' => ?_
      simp (maxSteps := 2000000) -implicitDefEqProofs [hN, hi]
      refine ⟨hcap, appV ok 600 rfl rfl rfl rfl rfl (by decide) rfl rfl rfl rfl rfl rfl dEnt (l.drop i) rfl (by rw [hD]; show (i + 1 + (l.length - i)) * 24 ≤ _; omega) (by rw [hD]; omega) (fun W hW => by have := Sv.drop (show Sv.ok dEnt W _ l from (by first | exact (hW) | exact (hW).1 | exact (hW).1.1 | exact (hW).1.2 | exact (hW).1.2.1 | exact (hW).1.2.2.1 | exact (hW).1.2.2.2.1 | exact (hW).1.2.2.2 | exact (hW).2 | exact (hW).2.1 | exact (hW).2.1.1 | exact (hW).2.1.2 | exact (hW).2.1.2.1 | exact (hW).2.1.2.2.1 | exact (hW).2.1.2.2.2.1 | exact (hW).2.1.2.2.2 | exact (hW).2.2 | exact (hW).2.2.1 | exact (hW).2.2.1.1 | exact (hW).2.2.1.2 | exact (hW).2.2.1.2.1 | exact (hW).2.2.1.2.2.1 | exact (hW).2.2.1.2.2.2.1 | exact (hW).2.2.1.2.2.2 | exact (hW).2.2.2 | exact (hW).2.2.2.1 | exact (hW).2.2.2.1.1 | exact (hW).2.2.2.1.2 | exact (hW).2.2.2.1.2.1 | exact (hW).2.2.2.1.2.2.1 | exact (hW).2.2.2.1.2.2.2.1 | exact (hW).2.2.2.1.2.2.2 | exact (hW).2.2.2.2 | exact (hW).2.2.2.2.1 | exact (hW).2.2.2.2.1.1 | exact (hW).2.2.2.2.1.2 | exact (hW).2.2.2.2.1.2.1 | exact (hW).2.2.2.2.1.2.2.1 | exact (hW).2.2.2.2.1.2.2.2.1 | exact (hW).2.2.2.2.1.2.2.2 | exact (hW).2.2.2.2.2 | exact (hW).2.2.2.2.2.1 | exact (hW).2.2.2.2.2.1.1 | exact (hW).2.2.2.2.2.1.2 | exact (hW).2.2.2.2.2.1.2.1 | exact (hW).2.2.2.2.2.1.2.2.1 | exact (hW).2.2.2.2.2.1.2.2.2.1 | exact (hW).2.2.2.2.2.1.2.2.2 | exact (hW).2.2.2.2.2.2 | exact (hW).2.2.2.2.2.2.1 | exact (hW).2.2.2.2.2.2.1.1 | exact (hW).2.2.2.2.2.2.1.2 | exact (hW).2.2.2.2.2.2.1.2.1 | exact (hW).2.2.2.2.2.2.1.2.2.1 | exact (hW).2.2.2.2.2.2.1.2.2.2.1 | exact (hW).2.2.2.2.2.2.1.2.2.2 | exact (hW).2.2.2.2.2.2.2 | exact (hW).2.2.2.2.2.2.2.1 | exact (hW).2.2.2.2.2.2.2.1.1 | exact (hW).2.2.2.2.2.2.2.1.2 | exact (hW).2.2.2.2.2.2.2.1.2.1 | exact (hW).2.2.2.2.2.2.2.1.2.2.1 | exact (hW).2.2.2.2.2.2.2.1.2.2.2.1 | exact (hW).2.2.2.2.2.2.2.1.2.2.2 | exact (hW).2.2.2.2.2.2.2.2 | exact (hW).2.2.2.2.2.2.2.2.1 | exact (hW).2.2.2.2.2.2.2.2.1.1 | exact (hW).2.2.2.2.2.2.2.2.1.2 | exact (hW).2.2.2.2.2.2.2.2.1.2.1 | exact (hW).2.2.2.2.2.2.2.2.1.2.2.1 | exact (hW).2.2.2.2.2.2.2.2.1.2.2.2.1 | exact (hW).2.2.2.2.2.2.2.2.1.2.2.2 | exact (hW).2.2.2.2.2.2.2.2.2)) hi; first | exact this | simpa [dEnt, flat] using this) fun q2 a3 c3 W hql2 hq2 _ => ?_⟩
      simp (maxSteps := 2000000) -implicitDefEqProofs [hN, hi]
      obtain ⟨r, hr⟩ : ∃ r, r = l.take i ++ en :: l.drop i := ⟨_, rfl⟩
      have hrl : i + 1 + (l.length - i) = r.length := by rw [hr, List.length_append, List.length_cons, hT, hD]; omega
      have hrr : ∀ W : World, Rows dEnt W (l.drop i) q2 → Rows dEnt W (l.take i) q → List.map CV.val (List.map nv q ++ .v (.string en.name) :: .v (.int .i64 en.no) :: List.map nv q2) = r.flatMap fun x => [.string x.name, .int .i64 x.no] := fun W k1 k2 => by
        rw [rowsEn] at k1 k2
        rw [List.map_append, nvl, List.map_cons, List.map_cons, nvl, hr, k1, k2]
        simp
      rw [hrl]
      refine ret0 hC ((a3, c3), r, 0) rfl fun W hp hG => ⟨?_, by show r.length ≤ _; omega, by show r.length ≤ _; omega, fun x hx => ?_⟩
      · have h1 : W.ownsRow 0 172 2 (.slice a3 r.length c3) r.length (List.map CV.val (List.map nv q ++ .v (.string en.name) :: .v (.int .i64 en.no) :: List.map nv q2)) := hp.1
        rw [hrr W hG.1 hG.2.1] at h1
        exact ((rowsEn.2 rfl : Rows dEnt W r _).sv (base := 0) (e := 172) (by decide) (by show r.length ≤ _; omega) h1).2
      · rw [hr] at hx
        rcases List.mem_append.1 hx with hx | hx
        · exact .inl (List.mem_of_mem_take hx)
        · rcases List.mem_cons.1 hx with rfl | hx
          · exact .inr ⟨rfl, hG.2.2.1⟩
          · exact .inl (List.mem_of_mem_drop hx)
end Go.Proofs.Ytbbaoeidobdblaa.Sx

/- RemoveEntry of the reference: what is known of what it answers. -/
set_option linter.unusedVariables false
set_option linter.unusedSimpArgs false
namespace Go.Proofs.Ytbbaoeidobdblaa.Sx
open Go
attribute [local simp ↓] ifb_true' ifb_false'
attribute [local simp] ifb_true ifb_false ifb_eq sx argsT find ev evOp evs evo evBin evInt evStr evNil evNilA ptrA slcA isNoneA asB evLoad look del cellsB evUn evConv kdec fld evFieldA evField evIdxA evIdx evSlc bndL bndH evLen mmi put resV guardV gvL setO tupV cellsOf ones one upd lits nv exitTo SV.val CV.val TI.agg rdyA allR keepB scan simpO gsp isS subs keepT pickT wr memN pubs Res.fact Region.binds bld rest give delL back Res.eqv vi vb num Sv.val undef
set_option maxRecDepth 100000 in
set_option maxHeartbeats 1000000 in
theorem removeEntry0 (w : World) (I : Nat → Prop) (hI : ∀ b, I b → b < w.heap.size) {a : Option Addr} {n c : Nat} (l : List Ent) (nm : ByteArray) (h : ∀ W, Ext I w W → Sv.ok dEnt W (a, n, c) l) (hll : l.length ≤ 1000000000) :
    Fn0 Try.prog 127 #[.slice a n c, .string nm] w I (fun y : Sl × List Ent × Int => .tuple #[.slice y.1.1 y.2.1.length y.1.2, .int .i64 y.2.2]) (fun y W => Sl.ok dEnt W y.1 y.2.1 ∧ y.2.1.length ≤ l.length ∧ ∀ x, x ∈ y.2.1 → x ∈ l) := by
  obtain rfl : n = l.length := (h w (Ext.refl _ _)).1
  have hlen := (h w (Ext.refl _ _)).2.2.1
  have hcap : l.length ≤ c := (h w (Ext.refl _ _)).2.1
  refine enter (svs := [.c (.v (.slice a l.length c)), .c (.v (.string nm))]) tysOk Try.func127 rfl Try.ntmps127 Try.results127 (by kernel_rfl) (by simp) hI (fun W => Sv.ok dEnt W (a, l.length, c) l) h fun C hC hN ok => ?_
  simp [hN]
  refine loop ok (fun i : Nat => [(6, .c (.v (.int .i64 i)))]) (fun _ => []) (fun i W => i ≤ l.length) (fun i => l.length - i) 0 ?_ ?_ (fun W hW => Nat.zero_le _) ?_
  · simp
  · simp
  rintro i W hi hG next
  rcases Nat.lt_or_ge i l.length with hlt | hge
  · obtain ⟨b, o, e, _⟩ := ent_get (show Sv.ok dEnt W (a, l.length, c) l from hG) hlt
    cases e
    have e6 : IntKind.i64.wrap ((i : Int) + 1) = (i + 1 : Nat) := by rw [w64 (by omega) (by omega)]; omega
    simp [hN, hlt]
    refine load1 ok rfl rfl rfl rfl (fun v W => v = .string l[i].name) (fun W hW => ?_) ?_
    · obtain ⟨b', o', e, hc, _⟩ := ent_get hW.2 hlt
      cases e
      exact ⟨_, hc, rfl⟩
    rintro v W rfl _
    simp [hN, hlt, e6]
    refine ⟨fun he => ?_, fun he => next (i + 1) _ _ (by omega) (fun W h => ⟨hlt, h.2⟩) ?_⟩
    · have hT : (l.take i).length = i := by simp; omega
      have hD : (l.drop (i + 1)).length = l.length - (i + 1) := by simp
      refine drawK ok mixed (by kernel_rfl) ?_
      simp (maxSteps := 2000000) -implicitDefEqProofs [hN, hi, e6]
      refine ⟨by omega, ⟨by omega, by omega, hcap⟩, ?_⟩
      refine nilr 600 172 2 (appV ok 600 rfl rfl rfl rfl rfl (by decide) rfl rfl rfl rfl rfl rfl dEnt (l.take i) rfl (by rw [hT]; show (0 + i) * 24 ≤ _; omega) (by rw [hT]; omega) (fun W hW => Sv.take (by first | exact (hW) | exact (hW).1 | exact (hW).1.1 | exact (hW).1.2 | exact (hW).1.2.1 | exact (hW).1.2.2.1 | exact (hW).1.2.2.2.1 | exact (hW).1.2.2.2 | exact (hW).2 | exact (hW).2.1 | exact (hW).2.1.1 | exact (hW).2.1.2 | exact (hW).2.1.2.1 | exact (hW).2.1.2.2.1 | exact (hW).2.1.2.2.2.1 | exact (hW).2.1.2.2.2 | exact (hW).2.2 | exact (hW).2.2.1 | exact (hW).2.2.1.1 | exact (hW).2.2.1.2 | exact (hW).2.2.1.2.1 | exact (hW).2.2.1.2.2.1 | exact (hW).2.2.1.2.2.2.1 | exact (hW).2.2.1.2.2.2 | exact (hW).2.2.2 | exact (hW).2.2.2.1 | exact (hW).2.2.2.1.1 | exact (hW).2.2.2.1.2 | exact (hW).2.2.2.1.2.1 | exact (hW).2.2.2.1.2.2.1 | exact (hW).2.2.2.1.2.2.2.1 | exact (hW).2.2.2.1.2.2.2 | exact (hW).2.2.2.2 | exact (hW).2.2.2.2.1 | exact (hW).2.2.2.2.1.1 | exact (hW).2.2.2.2.1.2 | exact (hW).2.2.2.2.1.2.1 | exact (hW).2.2.2.2.1.2.2.1 | exact (hW).2.2.2.2.1.2.2.2.1 | exact (hW).2.2.2.2.1.2.2.2 | exact (hW).2.2.2.2.2 | exact (hW).2.2.2.2.2.1 | exact (hW).2.2.2.2.2.1.1 | exact (hW).2.2.2.2.2.1.2 | exact (hW).2.2.2.2.2.1.2.1 | exact (hW).2.2.2.2.2.1.2.2.1 | exact (hW).2.2.2.2.2.1.2.2.2.1 | exact (hW).2.2.2.2.2.1.2.2.2 | exact (hW).2.2.2.2.2.2 | exact (hW).2.2.2.2.2.2.1 | exact (hW).2.2.2.2.2.2.1.1 | exact (hW).2.2.2.2.2.2.1.2 | exact (hW).2.2.2.2.2.2.1.2.1 | exact (hW).2.2.2.2.2.2.1.2.2.1 | exact (hW).2.2.2.2.2.2.1.2.2.2.1 | exact (hW).2.2.2.2.2.2.1.2.2.2 | exact (hW).2.2.2.2.2.2.2 | exact (hW).2.2.2.2.2.2.2.1 | exact (hW).2.2.2.2.2.2.2.1.1 | exact (hW).2.2.2.2.2.2.2.1.2 | exact (hW).2.2.2.2.2.2.2.1.2.1 | exact (hW).2.2.2.2.2.2.2.1.2.2.1 | exact (hW).2.2.2.2.2.2.2.1.2.2.2.1 | exact (hW).2.2.2.2.2.2.2.1.2.2.2 | exact (hW).2.2.2.2.2.2.2.2 | exact (hW).2.2.2.2.2.2.2.2.1 | exact (hW).2.2.2.2.2.2.2.2.1.1 | exact (hW).2.2.2.2.2.2.2.2.1.2 | exact (hW).2.2.2.2.2.2.2.2.1.2.1 | exact (hW).2.2.2.2.2.2.2.2.1.2.2.1 | exact (hW).2.2.2.2.2.2.2.2.1.2.2.2.1 | exact (hW).2.2.2.2.2.2.2.2.1.2.2.2 | exact (hW).2.2.2.2.2.2.2.2.2) hi) fun q a2 c2 W hql hq _ => ?_)
      simp (maxSteps := 2000000) -implicitDefEqProofs [hN, hi]
      refine appV ok 600 rfl rfl rfl rfl rfl (by decide) rfl rfl rfl rfl rfl rfl dEnt (l.drop (i + 1)) rfl (by rw [hD]; show (i + (l.length - (i + 1))) * 24 ≤ _; omega) (by rw [hD]; omega) (fun W hW => by have := Sv.drop (show Sv.ok dEnt W _ l from (by first | exact (hW) | exact (hW).1 | exact (hW).1.1 | exact (hW).1.2 | exact (hW).1.2.1 | exact (hW).1.2.2.1 | exact (hW).1.2.2.2.1 | exact (hW).1.2.2.2 | exact (hW).2 | exact (hW).2.1 | exact (hW).2.1.1 | exact (hW).2.1.2 | exact (hW).2.1.2.1 | exact (hW).2.1.2.2.1 | exact (hW).2.1.2.2.2.1 | exact (hW).2.1.2.2.2 | exact (hW).2.2 | exact (hW).2.2.1 | exact (hW).2.2.1.1 | exact (hW).2.2.1.2 | exact (hW).2.2.1.2.1 | exact (hW).2.2.1.2.2.1 | exact (hW).2.2.1.2.2.2.1 | exact (hW).2.2.1.2.2.2 | exact (hW).2.2.2 | exact (hW).2.2.2.1 | exact (hW).2.2.2.1.1 | exact (hW).2.2.2.1.2 | exact (hW).2.2.2.1.2.1 | exact (hW).2.2.2.1.2.2.1 | exact (hW).2.2.2.1.2.2.2.1 | exact (hW).2.2.2.1.2.2.2 | exact (hW).2.2.2.2 | exact (hW).2.2.2.2.1 | exact (hW).2.2.2.2.1.1 | exact (hW).2.2.2.2.1.2 | exact (hW).2.2.2.2.1.2.1 | exact (hW).2.2.2.2.1.2.2.1 | exact (hW).2.2.2.2.1.2.2.2.1 | exact (hW).2.2.2.2.1.2.2.2 | exact (hW).2.2.2.2.2 | exact (hW).2.2.2.2.2.1 | exact (hW).2.2.2.2.2.1.1 | exact (hW).2.2.2.2.2.1.2 | exact (hW).2.2.2.2.2.1.2.1 | exact (hW).2.2.2.2.2.1.2.2.1 | exact (hW).2.2.2.2.2.1.2.2.2.1 | exact (hW).2.2.2.2.2.1.2.2.2 | exact (hW).2.2.2.2.2.2 | exact (hW).2.2.2.2.2.2.1 | exact (hW).2.2.2.2.2.2.1.1 | exact (hW).2.2.2.2.2.2.1.2 | exact (hW).2.2.2.2.2.2.1.2.1 | exact (hW).2.2.2.2.2.2.1.2.2.1 | exact (hW).2.2.2.2.2.2.1.2.2.2.1 | exact (hW).2.2.2.2.2.2.1.2.2.2 | exact (hW).2.2.2.2.2.2.2 | exact (hW).2.2.2.2.2.2.2.1 | exact (hW).2.2.2.2.2.2.2.1.1 | exact (hW).2.2.2.2.2.2.2.1.2 | exact (hW).2.2.2.2.2.2.2.1.2.1 | exact (hW).2.2.2.2.2.2.2.1.2.2.1 | exact (hW).2.2.2.2.2.2.2.1.2.2.2.1 | exact (hW).2.2.2.2.2.2.2.1.2.2.2 | exact (hW).2.2.2.2.2.2.2.2 | exact (hW).2.2.2.2.2.2.2.2.1 | exact (hW).2.2.2.2.2.2.2.2.1.1 | exact (hW).2.2.2.2.2.2.2.2.1.2 | exact (hW).2.2.2.2.2.2.2.2.1.2.1 | exact (hW).2.2.2.2.2.2.2.2.1.2.2.1 | exact (hW).2.2.2.2.2.2.2.2.1.2.2.2.1 | exact (hW).2.2.2.2.2.2.2.2.1.2.2.2 | exact (hW).2.2.2.2.2.2.2.2.2)) hlt; first | exact this | simpa [dEnt, flat] using this) fun q2 a3 c3 W hql2 hq2 _ => ?_
      simp (maxSteps := 2000000) -implicitDefEqProofs [hN, hi]
      obtain ⟨r, hr⟩ : ∃ r, r = l.take i ++ l.drop (i + 1) := ⟨_, rfl⟩
      have hrl : i + (l.length - (i + 1)) = r.length := by rw [hr, List.length_append, hT, hD]
      have hrr : ∀ W : World, Rows dEnt W (l.drop (i + 1)) q2 → Rows dEnt W (l.take i) q → List.map CV.val (List.map nv q ++ List.map nv q2) = r.flatMap fun x => [.string x.name, .int .i64 x.no] := fun W k1 k2 => by
        rw [rowsEn] at k1 k2
        rw [List.map_append, nvl, nvl, hr, k1, k2]
        simp
      rw [hrl]
      refine ret0 hC ((a3, c3), r, 0) rfl fun W hp hG => ⟨?_, by show r.length ≤ _; omega, fun x hx => ?_⟩
      · have h1 : W.ownsRow 0 172 2 (.slice a3 r.length c3) r.length (List.map CV.val (List.map nv q ++ List.map nv q2)) := hp.1
        rw [hrr W hG.1 hG.2.1] at h1
        exact ((rowsEn.2 rfl : Rows dEnt W r _).sv (base := 0) (e := 172) (by decide) (by show r.length ≤ _; omega) h1).2
      · rw [hr] at hx
        rcases List.mem_append.1 hx with hx | hx
        · exact List.mem_of_mem_take hx
        · exact List.mem_of_mem_drop hx
    · simp
  · simp [hN, Nat.not_lt.2 hge]
    exact ret0 hC ((none, 0), [], 11) rfl fun W _ _ => ⟨nilSl dEnt W, by simp, fun x h => by simp at h⟩
end Go.Proofs.Ytbbaoeidobdblaa.Sx

/- RightTarget of the reference: what is known of what it answers. -/
set_option linter.unusedVariables false
set_option linter.unusedSimpArgs false
namespace Go.Proofs.Ytbbaoeidobdblaa.Sx
open Go
attribute [local simp ↓] ifb_true' ifb_false'
attribute [local simp] ifb_true ifb_false ifb_eq sx argsT find ev evOp evs evo evBin evInt evStr evNil evNilA ptrA slcA isNoneA asB evLoad look del cellsB evUn evConv kdec fld evFieldA evField evIdxA evIdx evSlc bndL bndH evLen mmi put resV guardV gvL setO tupV cellsOf ones one upd lits nv exitTo SV.val CV.val TI.agg rdyA allR keepB scan simpO gsp isS subs keepT pickT wr memN pubs Res.fact Region.binds bld rest give delL back Res.eqv vi vb num Sv.val undef
set_option maxRecDepth 100000 in
set_option maxHeartbeats 1000000 in
theorem rightTarget0 (w : World) (I : Nat → Prop) (hI : ∀ b, I b → b < w.heap.size) (s : ByteArray) (hs : s.size ≤ 1000000000) :
    Fn0 Try.prog 119 #[.string s] w I (fun b : Bool => .bool b) (fun b _ => b = true → s.size ≤ 200) := by
  refine enter (svs := [.c (.v (.string s))]) tysOk Try.func119 rfl Try.ntmps119 Try.results119 (by kernel_rfl) (by simp) hI (fun _ => True) (fun _ _ => trivial) fun C hC hN ok => ?_
  simp [hN]
  refine loop ok (fun i : Nat => [(3, .c (.v (.int .i64 i)))]) (fun _ => []) (fun i W => i ≤ s.size) (fun i => s.size - i) 0 ?_ ?_ (fun W hW => Nat.zero_le _) ?_
  · simp
  · simp
  rintro i W hi hG next
  rcases Nat.lt_or_ge i s.size with hlt | hge
  · have e6 : IntKind.i64.wrap ((i : Int) + 1) = (i + 1 : Nat) := by rw [w64 (by omega) (by omega)]; omega
    have hltI : (i : Int) < (s.size : Nat) := by omega
    simp [hN, hlt, hltI, e6]
    refine ⟨fun h1 => ret0 hC false rfl fun _ _ _ => by simp, fun h1 => next (i + 1) _ _ (by omega) (fun W h => ⟨hlt, trivial⟩) ?_⟩
    simp
  · simp [hN, Nat.not_lt.2 hge]
    refine ⟨fun h1 => ret0 hC _ rfl fun _ _ _ h => by simp at h; omega, fun h1 => ret0 hC false rfl fun _ _ _ => by simp⟩
end Go.Proofs.Ytbbaoeidobdblaa.Sx

/- Runs: their pages are their places; what a run that is set does to them. -/
set_option linter.unusedVariables false
set_option linter.unusedSimpArgs false
namespace Go.Proofs.Ytbbaoeidobdblaa.Sx
open Go
attribute [local simp ↓] ifb_true' ifb_false'
attribute [local simp] ifb_true ifb_false ifb_eq sx argsT find ev evOp evs evo evBin evInt evStr evNil evNilA ptrA slcA isNoneA asB evLoad look del cellsB evUn evConv kdec fld evFieldA evField evIdxA evIdx evSlc bndL bndH evLen mmi put resV guardV gvL setO tupV cellsOf ones one upd lits nv exitTo SV.val CV.val TI.agg rdyA allR keepB scan simpO gsp isS subs keepT pickT wr memN pubs Res.fact Region.binds bld rest give delL back Res.eqv vi vb num Sv.val undef
/-- Sorted, from f on. -/
def sortF : Int → List Rn → Prop
  | _, [] => True
  | f, r :: t => okR r ∧ f ≤ r.fr ∧ sortF (r.fr + r.ct) t
theorem right_sortF : ∀ (l : List Rn) (f : Int), (∀ j (h : j < l.length), okR l[j]) → (∀ j (h : j + 1 < l.length), l[j].fr + l[j].ct ≤ l[j + 1].fr) → (∀ h : 0 < l.length, f ≤ l[0].fr) → sortF f l
  | [], _, _, _, _ => trivial
  | r :: t, f, h1, h2, h3 => ⟨h1 0 (by simp), h3 (by simp), right_sortF t _ (fun j hj => h1 (j + 1) (by simpa using hj)) (fun j hj => h2 (j + 1) (by simpa using hj)) fun h => h2 0 (by simpa using h)⟩
theorem right_sort {l : List Rn} (h : RightL l) : sortF 0 l :=
  right_sortF l 0 (fun j hj => (h j hj hj).1) (fun j hj => ((h (j + 1) hj hj).2 (by omega)).1) fun h0 => (h 0 h0 h0).1.1
theorem getL_before : ∀ (l : List Rn) (f x : Int), sortF f l → x < f → getL l x = none
  | [], _, _, _, _ => rfl
  | r :: t, f, x, h, hx => by
    obtain ⟨h1, h2, h3⟩ := h
    rw [getL, if_neg (by omega)]
    exact getL_before t _ x h3 (by have := h1.2.2.1; omega)
def plx (l : List Rn) (x : Int) : Int := (getL l x).getD (-1)
theorem places_from : ∀ (l : List Rn) (f : Int) (n : Nat), sortF f l → (∀ r, r ∈ l → r.fr + r.ct ≤ f + n) → ((List.range n).map fun (j : Nat) => plx l (f + j)).filter (fun p => decide (0 ≤ p)) = l.flatMap pg
  | [], f, n, _, _ => by simp [plx, getL]
  | r :: t, f, n, h, hb => by
    obtain ⟨h1, h2, h3⟩ := h
    obtain ⟨k0, k1, k2, k3, k4, k5⟩ := h1
    have hr := hb r List.mem_cons_self
    obtain ⟨a, ha⟩ : ∃ a : Nat, r.fr = f + a := ⟨(r.fr - f).toNat, by omega⟩
    obtain ⟨c, hc⟩ : ∃ c : Nat, r.ct = c := ⟨r.ct.toNat, by omega⟩
    obtain ⟨m, rfl⟩ : ∃ m : Nat, n = a + (c + m) := ⟨n - a - c, by omega⟩
    rw [List.range_add, List.range_add, List.map_append, List.map_append, List.filter_append, List.map_append, List.filter_append]
    have p1 : ((List.range a).map fun (j : Nat) => plx (r :: t) (f + j)).filter (fun p => decide (0 ≤ p)) = [] := by
      rw [List.filter_eq_nil_iff]
      intro x hx
      rw [List.mem_map] at hx
      obtain ⟨j, hj, rfl⟩ := hx
      rw [List.mem_range] at hj
      rw [plx, getL_before (r :: t) r.fr (f + j) ⟨⟨k0, k1, k2, k3, k4, k5⟩, by omega, h3⟩ (by omega)]
      simp
    have p2 : ((List.map (fun x => a + x) (List.range c)).map fun (j : Nat) => plx (r :: t) (f + j)).filter (fun p => decide (0 ≤ p)) = pg r := by
      have e : (List.map (fun x => a + x) (List.range c)).map (fun (j : Nat) => plx (r :: t) (f + j)) = pg r := by
        rw [List.map_map, pg, hc, Int.toNat_natCast]
        apply List.map_congr_left
        intro j hj
        rw [List.mem_range] at hj
        simp only [Function.comp, plx]
        rw [getL, if_pos (by omega)]
        simp only [Option.getD_some]
        omega
      rw [e, List.filter_eq_self]
      intro x hx
      rw [pg, List.mem_map] at hx
      obtain ⟨j, _, rfl⟩ := hx
      simp
      omega
    have p3 : ((List.map (fun x => a + x) (List.map (fun x => c + x) (List.range m))).map fun (j : Nat) => plx (r :: t) (f + j)).filter (fun p => decide (0 ≤ p)) = t.flatMap pg := by
      have e : (List.map (fun x => a + x) (List.map (fun x => c + x) (List.range m))).map (fun (j : Nat) => plx (r :: t) (f + j)) = (List.range m).map fun (j : Nat) => plx t (r.fr + r.ct + j) := by
        rw [List.map_map, List.map_map]
        apply List.map_congr_left
        intro j hj
        simp only [Function.comp, plx]
        rw [getL, if_neg (by omega)]
        congr 2
        omega
      rw [e]
      exact places_from t (r.fr + r.ct) m h3 fun q hq => by have := hb q (List.mem_cons_of_mem _ hq); omega
    rw [p1, p2]
    simp only [List.nil_append, List.flatMap_cons]
    congr 1
def posL (l : List Int) : List Int := l.filter fun p => decide (0 ≤ p)
theorem pages_places {l : List Rn} (h : RightL l) : posL (placesL l) = l.flatMap pg := by
  have h2 := places_from l 0 64 (right_sort h) fun r hr => by have := right_okR h r hr; unfold okR at this; omega
  have e : placesL l = (List.range 64).map fun (j : Nat) => plx l (0 + j) := by
    unfold placesL
    apply List.map_congr_left
    intro j _
    simp [plOf, plx]
  rw [posL, e]
  exact h2
theorem right_snoc {ys : List Rn} {q : Rn} : RightL (ys ++ [q]) ↔ RightL ys ∧ okR q ∧ ∀ y, ys.getLast? = some y → okS y q := by
  constructor
  · intro h
    refine ⟨fun j hj _ => ?_, ?_, ?_⟩
    · have := h j (by simp; omega) (by simp; omega)
      refine ⟨by simpa [List.getElem_append_left hj] using this.1, fun h0 => ?_⟩
      have h2 := this.2 h0
      rw [List.getElem_append_left hj, List.getElem_append_left (by omega)] at h2
      exact h2
    · have := (h ys.length (by simp) (by simp)).1
      simpa using this
    · intro y hy
      obtain ⟨zs, rfl⟩ := List.getLast?_eq_some_iff.1 hy
      have := (h (zs ++ [y]).length (by simp) (by simp)).2 (by simp)
      simpa using this
  · rintro ⟨h1, h2, h3⟩ j hj _
    rcases Nat.lt_or_ge j ys.length with hlt | hge
    · have := h1 j hlt hlt
      refine ⟨by rw [List.getElem_append_left hlt]; exact this.1, fun h0 => ?_⟩
      rw [List.getElem_append_left hlt, List.getElem_append_left (by omega)]
      exact this.2 h0
    · obtain rfl : j = ys.length := by simp at hj; omega
      refine ⟨by simpa using h2, fun h0 => ?_⟩
      have h4 : okS (ys[ys.length - 1]'(by omega)) q := h3 _ (by rw [List.getLast?_eq_getElem?, List.getElem?_eq_getElem (by omega)])
      rw [List.getElem_append_left (by omega)]
      simpa using h4
theorem pg_ext (q : Rn) (h : 0 ≤ q.ct) : pg ⟨q.fr, q.at_, q.ct + 1⟩ = pg q ++ [q.at_ + q.ct] := by
  obtain ⟨c, hc⟩ : ∃ c : Nat, q.ct = c := ⟨q.ct.toNat, by omega⟩
  have e : ((c : Int) + 1).toNat = c + 1 := by omega
  simp only [pg, hc, e, Int.toNat_natCast, List.range_succ, List.map_append, List.map_cons, List.map_nil]
theorem runs_to (pl : List Int) (hl : pl.length ≤ 64) (hp : ∀ p, p ∈ pl → p ≤ 2147483647) : ∀ i, i ≤ pl.length → RightL (runsL (pl.take i)) ∧ (∀ q, (runsL (pl.take i)).getLast? = some q → q.fr + q.ct ≤ i) ∧ (runsL (pl.take i)).flatMap pg = posL (pl.take i) := by
  intro i
  induction i with
  | zero => exact fun _ => ⟨fun j hj => by simp [runsL, runsFrom] at hj, by simp [runsL, runsFrom], by simp [runsL, runsFrom, posL]⟩
  | succ i ih =>
    intro hi
    obtain ⟨h1, h2, h3⟩ := ih (by omega)
    have hpi := hp pl[i] (List.getElem_mem _)
    rw [List.take_add_one, List.getElem?_eq_getElem (by omega)]
    simp only [Option.toList]
    rw [runsL_snoc, List.length_take, Nat.min_eq_left (by omega)]
    generalize pl[i] = p at hpi
    generalize hacc : runsL (pl.take i) = acc at h1 h2 h3
    have e3 : posL (pl.take i ++ [p]) = acc.flatMap pg ++ (if 0 ≤ p then [p] else []) := by
      rw [h3]
      by_cases h0 : 0 ≤ p <;> simp [posL, List.filter_append, h0]
    rw [e3]
    unfold stepR
    split
    · rename_i hneg
      rw [if_neg (by omega)]
      exact ⟨h1, fun q hq => by have := h2 q hq; omega, by simp⟩
    · rename_i hneg
      have h0 : 0 ≤ p := by omega
      rw [if_pos h0]
      split
      · rename_i q hq
        have hq2 := h2 q hq
        obtain ⟨ys, rfl⟩ := List.getLast?_eq_some_iff.1 hq
        obtain ⟨r1, r2, r3⟩ := right_snoc.1 h1
        split
        · rename_i hc
          obtain ⟨k0, k1, k2, k3, k4, k5⟩ := r2
          rw [List.dropLast_concat]
          refine ⟨right_snoc.2 ⟨r1, ⟨k0, k1, by simp only; omega, by simp only; omega, by simp only; omega, by simp only; omega⟩, fun y hy => ?_⟩, fun z hz => ?_, ?_⟩
          · obtain ⟨s1, s2⟩ := r3 y hy
            exact ⟨s1, fun hg => s2 hg⟩
          · rw [List.getLast?_concat] at hz
            cases hz
            simp only
            omega
          · rw [List.flatMap_append, List.flatMap_append]
            simp only [List.flatMap_cons, List.flatMap_nil, List.append_nil]
            rw [pg_ext q (by omega), hc.2, List.append_assoc]
        · rename_i hc
          refine ⟨right_snoc.2 ⟨h1, ⟨by simp only; omega, h0, by simp, by simp, by simp only; omega, by simp only; omega⟩, fun y hy => ?_⟩, fun z hz => ?_, ?_⟩
          · rw [List.getLast?_concat] at hy
            cases hy
            exact ⟨by simp only; omega, fun hg => hc ⟨hg.1.symm, hg.2.symm⟩⟩
          · rw [List.getLast?_concat] at hz
            cases hz
            simp only
            omega
          · rw [List.flatMap_append]
            congr 1
            simp [pg]
      · rename_i hq
        obtain rfl : acc = [] := by simpa using hq
        refine ⟨(right_snoc (ys := [])).2 ⟨fun j hj => by simp at hj, ⟨by simp only; omega, h0, by simp, by simp, by simp only; omega, by simp only; omega⟩, fun y hy => by simp at hy⟩, fun z hz => ?_, by simp [pg]⟩
        simp at hz
        subst hz
        simp only
        omega
theorem runs_right {pl : List Int} (hl : pl.length ≤ 64) (hp : ∀ p, p ∈ pl → p ≤ 2147483647) : RightL (runsL pl) ∧ (runsL pl).flatMap pg = posL pl := by
  have := runs_to pl hl hp pl.length (Nat.le_refl _)
  rw [List.take_length] at this
  exact ⟨this.1, this.2.2⟩
/-- One place is set: the pages are that one, and some of those there were. -/
theorem setRun_pages {l : List Rn} (h : RightL l) {x p : Int} (hx : 0 ≤ x ∧ x < 64) (hp : 0 ≤ p ∧ p ≤ 2147483647) : RightL (setRunL l x p) ∧ ∃ M, M.Sublist (l.flatMap pg) ∧ ((setRunL l x p).flatMap pg).Perm (p :: M) := by
  have h1 := runs_right (pl := setP (placesL l) x p) (by rw [setP_len, placesL_len]; omega) (setP_le (placesL_le (right_okR h)))
  rw [setRunL, if_pos h]
  refine ⟨h1.1, ?_⟩
  rw [h1.2, ← pages_places h, setP, if_pos ⟨hx.1, hx.2, hp.1, hp.2⟩]
  have hlen := placesL_len l
  generalize placesL l = L at hlen
  obtain ⟨k, rfl⟩ : ∃ k : Nat, x = k := ⟨x.toNat, by omega⟩
  rw [Int.toNat_natCast]
  have hk : k < L.length := by omega
  have e1 : L = L.take k ++ L[k] :: L.drop (k + 1) := by simp
  have e2 : L.set k p = L.take k ++ p :: L.drop (k + 1) := List.set_eq_take_append_cons_drop .. |>.trans (if_pos hk)
  refine ⟨posL (L.take k) ++ posL (L.drop (k + 1)), ?_, ?_⟩
  · conv => rhs; rw [e1]
    unfold posL
    rw [List.filter_append]
    exact List.Sublist.append (List.Sublist.refl _) ((List.sublist_cons_self _ _).filter _)
  · rw [e2]
    unfold posL
    rw [List.filter_append, List.filter_cons_of_pos (by simpa using hp.1)]
    exact List.perm_middle
end Go.Proofs.Ytbbaoeidobdblaa.Sx

/- A state that grew: what stays true of it, whatever deeds are applied. -/
set_option linter.unusedVariables false
set_option linter.unusedSimpArgs false
namespace Go.Proofs.Ytbbaoeidobdblaa.Sx
open Go
attribute [local simp ↓] ifb_true' ifb_false'
attribute [local simp] ifb_true ifb_false ifb_eq sx argsT find ev evOp evs evo evBin evInt evStr evNil evNilA ptrA slcA isNoneA asB evLoad look del cellsB evUn evConv kdec fld evFieldA evField evIdxA evIdx evSlc bndL bndH evLen mmi put resV guardV gvL setO tupV cellsOf ones one upd lits nv exitTo SV.val CV.val TI.agg rdyA allR keepB scan simpO gsp isS subs keepT pickT wr memN pubs Res.fact Region.binds bld rest give delL back Res.eqv vi vb num Sv.val undef
/-- All pages of all inodes. -/
def allP (l : List Ino) : List Int := l.flatMap fun x => x.runs.flatMap pg
def nosL (l : List Ino) : List Int := l.map fun x => x.no
structure InoOk (x : Ino) : Prop where
  right : RightL x.runs
  ents : x.ents.length ≤ 100
  names : ∀ e, e ∈ x.ents → e.name.size ≤ 32
  tgt : x.target.size ≤ 200
structure Fine (s : Sta) (n : Int) (k : Nat) : Prop where
  bad : s.bad = []
  nos : (nosL s.inos).Nodup
  ok : ∀ x, x ∈ s.inos → InoOk x
  cnt : 5 * s.inos.length + (allP s.inos).length ≤ 5 + 5 * k
  nd : (allP s.inos).Nodup
  lt : ∀ p, p ∈ allP s.inos → 0 ≤ p ∧ p < n
def hasRuns (l : List Ino) (x : Ino) : Prop := ∃ y, y ∈ l ∧ y.no = x.no ∧ y.runs = x.runs
theorem replI_split : ∀ (l : List Ino) (x : Ino), hasI l x.no → ∃ A y B, l = A ++ y :: B ∧ y.no = x.no ∧ replI l x = A ++ x :: B
  | [], x, h => by obtain ⟨y, hy, _⟩ := h; simp at hy
  | z :: r, x, h => by
    by_cases e : z.no = x.no
    · exact ⟨[], z, r, rfl, e, by rw [replI, if_pos e]; rfl⟩
    · obtain ⟨y, hy, hn⟩ := h
      have hy2 : y ∈ r := by
        rcases List.mem_cons.1 hy with rfl | hy
        · exact absurd hn e
        · exact hy
      obtain ⟨A, q, B, h1, h2, h3⟩ := replI_split r x ⟨y, hy2, hn⟩
      exact ⟨z :: A, q, B, by rw [h1]; rfl, h2, by rw [replI, if_neg e, h3]; rfl⟩
theorem insI_split : ∀ (l : List Ino) (x : Ino), ∃ A B, l = A ++ B ∧ insI l x = A ++ x :: B
  | [], x => ⟨[], [], rfl, rfl⟩
  | z :: r, x => by
    by_cases e : z.no ≤ x.no
    · obtain ⟨A, B, h1, h2⟩ := insI_split r x
      exact ⟨z :: A, B, by rw [h1]; rfl, by rw [insI, if_pos e, h2]; rfl⟩
    · exact ⟨[], z :: r, rfl, by rw [insI, if_neg e]; rfl⟩
theorem allP_app (a b : List Ino) : allP (a ++ b) = allP a ++ allP b := by simp [allP]
theorem allP_cons (x : Ino) (b : List Ino) : allP (x :: b) = x.runs.flatMap pg ++ allP b := by simp [allP]
theorem nos_one {l : List Ino} (h : (nosL l).Nodup) {a b : Ino} (ha : a ∈ l) (hb : b ∈ l) (e : a.no = b.no) : a = b := by
  induction l with
  | nil => simp at ha
  | cons x r ih =>
    simp only [nosL, List.map_cons, List.nodup_cons] at h
    rcases List.mem_cons.1 ha with ha1 | ha1
    · rcases List.mem_cons.1 hb with hb1 | hb1
      · rw [ha1, hb1]
      · exact absurd (List.mem_map.2 ⟨b, hb1, by rw [← e, ha1]⟩) h.1
    · rcases List.mem_cons.1 hb with hb1 | hb1
      · exact absurd (List.mem_map.2 ⟨a, ha1, by rw [e, hb1]⟩) h.1
      · exact ih h.2 ha1 hb1
theorem nos_put {l : List Ino} (h : (nosL l).Nodup) (x : Ino) : (nosL (putInoL l x)).Nodup := by
  unfold putInoL
  split
  · rename_i hx
    obtain ⟨A, y, B, rfl, h2, h3⟩ := replI_split l x hx
    rw [h3]
    have : nosL (A ++ x :: B) = nosL (A ++ y :: B) := by simp [nosL, h2]
    rw [this]
    exact h
  · rename_i hx
    obtain ⟨A, B, rfl, h2⟩ := insI_split l x
    rw [h2]
    have hp : (nosL (A ++ x :: B)).Perm (x.no :: nosL (A ++ B)) := by
      simp only [nosL, List.map_append, List.map_cons]
      exact List.perm_middle
    rw [hp.nodup_iff, List.nodup_cons]
    refine ⟨fun hm => hx ?_, h⟩
    obtain ⟨y, hy, e⟩ := List.mem_map.1 hm
    exact ⟨y, hy, e⟩
theorem put_mem {l : List Ino} {x z : Ino} (h : z ∈ putInoL l x) : z = x ∨ z ∈ l := by
  unfold putInoL at h
  split at h
  · rename_i hx
    obtain ⟨A, y, B, rfl, h2, h3⟩ := replI_split l x hx
    rw [h3] at h
    simp at h ⊢
    rcases h with h | h | h <;> simp [h]
  · obtain ⟨A, B, rfl, h2⟩ := insI_split l x
    rw [h2] at h
    simp at h ⊢
    rcases h with h | h | h <;> simp [h]
theorem put_self (l : List Ino) (x : Ino) : x ∈ putInoL l x := by
  unfold putInoL
  split
  · rename_i hx
    obtain ⟨A, y, B, _, h2, h3⟩ := replI_split l x hx
    rw [h3]
    simp
  · obtain ⟨A, B, _, h2⟩ := insI_split l x
    rw [h2]
    simp
theorem put_other {l : List Ino} {x z : Ino} (h : z ∈ l) (hne : z.no ≠ x.no) : z ∈ putInoL l x := by
  unfold putInoL
  split
  · rename_i hx
    obtain ⟨A, y, B, rfl, h2, h3⟩ := replI_split l x hx
    rw [h3]
    simp at h ⊢
    rcases h with h | rfl | h
    · exact .inl h
    · exact absurd h2 hne
    · exact .inr (.inr h)
  · obtain ⟨A, B, rfl, h2⟩ := insI_split l x
    rw [h2]
    simp at h ⊢
    rcases h with h | h <;> simp [h]
/-- The same runs again: nothing of it changes. -/
theorem fine_same {s : Sta} {n : Int} {k : Nat} (h : Fine s n k) {x : Ino} (hr : hasRuns s.inos x) (hx : InoOk x) : Fine { s with inos := putInoL s.inos x } n k ∧ ∀ z, hasRuns s.inos z → hasRuns (putInoL s.inos x) z := by
  obtain ⟨y, hy, e1, e2⟩ := hr
  have hh : hasI s.inos x.no := ⟨y, hy, e1⟩
  have hall : allP (putInoL s.inos x) = allP s.inos ∧ (putInoL s.inos x).length = s.inos.length := by
    unfold putInoL
    rw [if_pos hh]
    obtain ⟨A, q, B, h1, h2, h3⟩ := replI_split s.inos x hh
    have hq : q = y := nos_one h.nos (by rw [h1]; simp) hy (by rw [h2, e1])
    subst hq
    rw [h3, h1, allP_app, allP_cons, allP_app, allP_cons, e2]
    simp
  refine ⟨⟨h.bad, nos_put h.nos x, fun z hz => ?_, ?_, ?_, ?_⟩, fun z hz => ?_⟩
  · rcases put_mem hz with rfl | hz
    · exact hx
    · exact h.ok z hz
  · simp only
    rw [hall.1, hall.2]
    exact h.cnt
  · simp only
    rw [hall.1]
    exact h.nd
  · simp only
    rw [hall.1]
    exact h.lt
  · obtain ⟨q, hq, f1, f2⟩ := hz
    by_cases e : q.no = x.no
    · have : q = y := nos_one h.nos hq hy (by rw [e, e1])
      subst this
      exact ⟨x, put_self _ _, by rw [← f1, e], by rw [← f2, ← e2]⟩
    · exact ⟨q, put_other hq e, f1, f2⟩
theorem fine_cut {s : Sta} {n : Int} {k : Nat} (h : Fine s n k) {l : List Ino} (h1 : (nosL l).Nodup) (h2 : ∀ x, x ∈ l → InoOk x) (h3 : (allP l).Sublist (allP s.inos)) (h4 : l.length ≤ s.inos.length + 1) : Fine { s with inos := l } n (k + 1) :=
  ⟨h.bad, h1, h2, by have := h.cnt; have := h3.length_le; simp only; omega, h.nd.sublist h3, fun p hp => h.lt p (h3.subset hp)⟩
/-- One without runs. -/
theorem fine_new {s : Sta} {n : Int} {k : Nat} (h : Fine s n k) {x : Ino} (hr : x.runs = []) (hx : InoOk x) : Fine { s with inos := putInoL s.inos x } n (k + 1) := by
  refine fine_cut h (nos_put h.nos x) (fun z hz => ?_) ?_ (putInoL_len _ _)
  · rcases put_mem hz with rfl | hz
    · exact hx
    · exact h.ok z hz
  · unfold putInoL
    split
    · rename_i hh
      obtain ⟨A, q, B, h1, h2, h3⟩ := replI_split s.inos x hh
      rw [h3, h1, allP_app, allP_cons, allP_app, allP_cons, hr]
      exact List.Sublist.append (List.Sublist.refl _) (List.sublist_append_right _ _)
    · obtain ⟨A, B, h1, h2⟩ := insI_split s.inos x
      rw [h2, h1, allP_app, allP_cons, allP_app, hr]
      exact List.Sublist.refl _
theorem allP_sub {a b : List Ino} (h : a.Sublist b) : (allP a).Sublist (allP b) := by
  induction h with
  | slnil => exact List.Sublist.refl _
  | cons x _ ih =>
    rw [allP_cons]
    exact ih.trans (List.sublist_append_right _ _)
  | cons_cons x _ ih =>
    rw [allP_cons, allP_cons]
    exact List.Sublist.append (List.Sublist.refl _) ih
theorem fine_drop {s : Sta} {n : Int} {k : Nat} (h : Fine s n k) (f : Ino → Bool) : Fine { s with inos := s.inos.filter f } n (k + 1) :=
  fine_cut h (h.nos.sublist ((List.filter_sublist).map _)) (fun z hz => h.ok z (List.mem_filter.1 hz).1) (allP_sub List.filter_sublist) (by have := (List.filter_sublist (p := f) (l := s.inos)).length_le; omega)
theorem fine_up {s : Sta} {n : Int} {k : Nat} (h : Fine s n k) : Fine s n (k + 1) := ⟨h.bad, h.nos, h.ok, by have := h.cnt; omega, h.nd, h.lt⟩
theorem fine_next {s : Sta} {n : Int} {k : Nat} (h : Fine s n k) (m : Int) : Fine { s with next := m } n k := ⟨h.bad, h.nos, h.ok, h.cnt, h.nd, h.lt⟩
/-- Deeds that a call of the tree makes. -/
def SameD (s : Sta) (d : Dee) : Prop := d.kind = 1 ∨ d.kind = 2 ∧ InoOk d.ino ∧ hasRuns s.inos d.ino
def LastD (d : Dee) : Prop := d.kind = 3 ∨ d.kind = 2 ∧ InoOk d.ino ∧ d.ino.runs = []
def DeedsOk (s : Sta) (l : List Dee) : Prop := l.length ≤ 3 ∧ ∃ a b, l = a ++ b ∧ (∀ d, d ∈ a → SameD s d) ∧ (b = [] ∨ ∃ d, b = [d] ∧ LastD d)
theorem fine_sames : ∀ (a : List Dee) (s : Sta) (n : Int) (k : Nat), Fine s n k → (∀ d, d ∈ a → SameD s d) → Fine (applyL s a) n k
  | [], s, n, k, h, _ => h
  | d :: r, s, n, k, h, hd => by
    have e : applyL s (d :: r) = applyL (applyOne s d) r := rfl
    rw [e]
    rcases hd d List.mem_cons_self with h1 | ⟨h1, h2, h3⟩
    · have e2 : applyOne s d = { s with next := d.no } := by rw [applyOne, if_pos h1]
      rw [e2]
      exact fine_sames r _ n k (fine_next h _) fun z hz => hd z (List.mem_cons_of_mem _ hz)
    · have e2 : applyOne s d = { s with inos := putInoL s.inos d.ino } := by rw [applyOne, if_neg (by omega), if_pos h1]
      rw [e2]
      obtain ⟨g1, g2⟩ := fine_same h h3 h2
      refine fine_sames r _ n k g1 fun z hz => ?_
      rcases hd z (List.mem_cons_of_mem _ hz) with k1 | ⟨k1, k2, k3⟩
      · exact .inl k1
      · exact .inr ⟨k1, k2, g2 z.ino k3⟩
theorem fine_deeds {s : Sta} {n : Int} {k : Nat} (h : Fine s n k) {l : List Dee} (hd : DeedsOk s l) : Fine (applyL s l) n (k + 1) := by
  obtain ⟨_, a, b, rfl, h1, h2⟩ := hd
  have e : applyL s (a ++ b) = applyL (applyL s a) b := by simp [applyL]
  rw [e]
  have h3 := fine_sames a s n k h h1
  rcases h2 with rfl | ⟨d, rfl, hl⟩
  · exact fine_up h3
  · have e1 : applyL (applyL s a) [d] = applyOne (applyL s a) d := rfl
    rw [e1]
    rcases hl with k1 | ⟨k1, k2, k3⟩
    · rw [applyOne, if_neg (by omega), if_neg (by omega), if_pos k1]
      exact fine_drop h3 _
    · rw [applyOne, if_neg (by omega), if_pos k1]
      exact fine_new h3 k3 k2
/-- A page is written. -/
theorem fine_page {s : Sta} {n : Int} {k : Nat} (h : Fine s n k) {y x : Ino} (hy : y ∈ s.inos) (e1 : y.no = x.no) (hx : InoOk x) {M : List Int} (hM : M.Sublist (y.runs.flatMap pg)) (hp : (x.runs.flatMap pg).Perm (n :: M)) (hn : 0 ≤ n) : Fine { s with inos := putInoL s.inos x } (n + 1) (k + 1) := by
  have hh : hasI s.inos x.no := ⟨y, hy, e1⟩
  obtain ⟨N, hN, hlen, hP⟩ : ∃ N, N.Sublist (allP s.inos) ∧ (putInoL s.inos x).length = s.inos.length ∧ (allP (putInoL s.inos x)).Perm (n :: N) := by
    unfold putInoL
    rw [if_pos hh]
    obtain ⟨A, q, B, h1, h2, h3⟩ := replI_split s.inos x hh
    have hq : q = y := nos_one h.nos (by rw [h1]; simp) hy (by rw [h2, e1])
    subst hq
    refine ⟨allP A ++ (M ++ allP B), ?_, by rw [h3, h1]; simp, ?_⟩
    · rw [h1, allP_app, allP_cons]
      exact List.Sublist.append (List.Sublist.refl _) (List.Sublist.append hM (List.Sublist.refl _))
    · rw [h3, allP_app, allP_cons]
      exact ((hp.append_right (allP B)).append_left (allP A)).trans List.perm_middle
  have hnN : n ∉ N := fun hm => by have := (h.lt n (hN.subset hm)).2; omega
  refine ⟨h.bad, nos_put h.nos x, fun z hz => ?_, ?_, ?_, fun p hpm => ?_⟩
  · rcases put_mem hz with rfl | hz
    · exact hx
    · exact h.ok z hz
  · have := h.cnt
    have h5 := hP.length_eq
    have h6 := hN.length_le
    simp only [List.length_cons] at h5
    simp only
    omega
  · simp only
    rw [hP.nodup_iff, List.nodup_cons]
    exact ⟨hnN, h.nd.sublist hN⟩
  · have := hP.mem_iff.1 hpm
    rcases List.mem_cons.1 this with rfl | hm
    · omega
    · have := h.lt p (hN.subset hm)
      omega
theorem fine_begin : Fine newSta 0 0 := by
  refine ⟨rfl, by simp [newSta, nosL], fun x hx => ?_, by simp [newSta, allP, newIno], by simp [newSta, allP, newIno], fun p hp => by simp [newSta, allP, newIno] at hp⟩
  simp [newSta] at hx
  subst hx
  exact ⟨fun j hj => by simp [newIno] at hj, by simp [newIno], by simp [newIno], by simp [newIno, emp]; decide⟩
theorem fine_inos {s : Sta} {n : Int} {k : Nat} (h : Fine s n k) : s.inos.length ≤ k + 1 := by have := h.cnt; omega
end Go.Proofs.Ytbbaoeidobdblaa.Sx

/- The walker's step: what is known of what it answers. -/
set_option linter.unusedVariables false
set_option linter.unusedSimpArgs false
namespace Go.Proofs.Ytbbaoeidobdblaa.Sx
open Go
attribute [local simp ↓] ifb_true' ifb_false'
attribute [local simp] ifb_true ifb_false ifb_eq sx argsT find ev evOp evs evo evBin evInt evStr evNil evNilA ptrA slcA isNoneA asB evLoad look del cellsB evUn evConv kdec fld evFieldA evField evIdxA evIdx evSlc bndL bndH evLen mmi put resV guardV gvL setO tupV cellsOf ones one upd lits nv exitTo SV.val CV.val TI.agg rdyA allR keepB scan simpO gsp isS subs keepT pickT wr memN pubs Res.fact Region.binds bld rest give delL back Res.eqv vi vb num Sv.val undef
section
variable {P : Program} {C : Ctx} {T : Ty} {res : List ResultVar} {p : Pos} {tm : Tm} {m : Mem}
/-- Many ends have one road on, which hangs on something. -/
theorem cutG {Goal : Prop} {p : Pos} {β : Type} (ok : Okc P T C res) (tm0 : β → Tm) (G0 : β → World → Prop) (rs0 : β → List (Nat × Res)) (rest : ∀ x, At C p (tm0 x) ⟨fun _ => True, G0 x, rs0 x⟩) (main : (∀ x tm m, (∀ W, m.G W → G0 x W) → subs tm (tm0 x) ∧ keepB m.rs (rs0 x) → At C p tm m) → Goal) : Goal :=
  main fun x tm m hG hs a w cs hR hJ => rest x a w cs (hR.sub (Sub.of hs.1)) (hJ.weaken (fun _ _ => trivial) hG (keepB_mem hs.2))
theorem lessG (G' : World → Prop) (hG : ∀ W, m.G W → G' W) (h : At C p tm ⟨m.B, G', m.rs⟩) : At C p tm m := fun a w cs hR hJ => h a w cs hR (hJ.weaken (fun _ x => x) hG (fun _ x => x))
theorem someG (h : ∀ W, m.G W → At C p tm m) : At C p tm m := fun a w cs hR ⟨I, F, hJ⟩ => h w (hJ.know w (Ext.refl _ _)) a w cs hR ⟨I, F, hJ⟩
theorem tellG (k : Nat) {r r' : Res} (hl : look k m.rs = some r) (he : r.eqv r') (kk : At C p tm ⟨m.B, m.G, (k, r') :: del k (del k m.rs)⟩) : At C p tm m := by
  rintro act w cs hR ⟨I, F, hJ⟩
  have hm := look_mem hl
  exact kk act w cs hR ⟨I, _, hJ.upd k k r' (F k) (F k) (fun b hb => ⟨hb, r, hm⟩) ((Ext.refl (fun _ => True) w).mono fun _ _ => trivial) (he.to (hJ.own _ hm)) (fun b hb => ⟨(hJ.Fsz _ b hm hb).1, .inl hb⟩) id⟩
end
/-- A walker: the directories that are kept, where it stands, how many links it followed. -/
structure Wk where
  kept : List Int
  ks : Sl
  at_ : Int
  loops : Nat
def Wk.box (g : Nat) (s : Sta) (si sb : Sl) (k : Wk) : Res := .box g 197 ((staC s si sb ++ [Value.slice k.ks.1 k.kept.length k.ks.2, Value.int .i64 k.at_, Value.int .i64 (k.loops : Nat)]).map .v)
def Wk.ok (W : World) (k : Wk) : Prop := Sl.ok dInt W k.ks k.kept ∧ 0 < k.kept.length
theorem intS_get {W : World} {a : Option Addr} {n c : Nat} {l : List Int} (h : Sv.ok dInt W (a, n, c) l) {i : Nat} (hi : i < l.length) : ∃ b o, a = some ⟨b, o, none⟩ ∧ W.cell? ⟨b, o + i, none⟩ = some (.int .i64 l[i]) := by
  obtain ⟨b, o, e⟩ := h.2.2.2.is_some (show 0 < l.length by omega)
  cases e
  obtain ⟨cs, hk, _, hc⟩ := h.2.2.2.get hi
  have hk2 : cs = [.int .i64 l[i]] := hk
  subst hk2
  have := hc 0 _ rfl
  simp [dInt, flat] at this
  exact ⟨b, o, rfl, this⟩
theorem rowsIn {W : World} {xs : List Int} {l : List Value} : Rows dInt W xs l ↔ l = xs.map (Value.int .i64) := by
  unfold dInt
  rw [rows_flat]
  simp [List.map_eq_flatMap]
/-- A row of numbers, once it is given away. -/
theorem ints_sl {W : World} {e : TypeId} {a : Option Addr} {c : Nat} {l : List Int} (h : W.ownsRow 0 e 1 (.slice a l.length c) l.length (l.map (Value.int .i64))) (hl : l.length ≤ 1000000000) : Sl.ok dInt W (a, c) l :=
  ((rowsIn.2 rfl : Rows dInt W l _).sv (base := 0) (e := e) (by decide) (by omega) h).2
set_option maxRecDepth 100000 in
set_option maxHeartbeats 4000000 in
theorem step0w (w : World) (I S : Nat → Prop) (hI : ∀ b, I b → b < w.heap.size) (g : Nat) (s : Sta) (si sb : Sl) (k : Wk) (nm : ByteArray) (follow : Bool) (h : ∀ W, Ext I w W → StaR W s si sb) (hk : ∀ W, Ext I w W → k.ok W) (hkl : k.kept.length ≤ 100000 ∧ k.loops ≤ 8) (hl : s.inos.length ≤ 1000000000) (hS : Owns [k.box g s si sb] S w) (hSI : ∀ b, S b → b < w.heap.size ∧ ¬ I b) :
    FnS Try.prog 129 #[ptrV g, .string nm, .bool follow] w I S (fun y : (Sl × List ByteArray × Int) × Wk => .tuple #[.slice y.1.1.1 y.1.2.1.length y.1.1.2, .int .i64 y.1.2.2]) (fun y => [y.2.box g s si sb]) (fun y W => Sl.ok dStr W y.1.1 y.1.2.1 ∧ y.1.2.1.length ≤ 401 ∧ NmL y.1.2.1 ∧ y.2.ok W ∧ y.2.kept.length ≤ k.kept.length + 1 ∧ (y.2.loops = k.loops ∧ y.1.2.1 = [] ∨ y.2.loops = k.loops + 1 ∧ y.2.loops ≤ 8)) := by
  refine enterS (svs := [.c (.bp 1000 g 0), .c (.v (.string nm)), .c (.v (.bool follow))]) tysOk Try.func129 rfl Try.ntmps129 Try.results129 (by kernel_rfl) (by simp) hI [k.box g s si sb] hS hSI (fun W => StaR W s si sb ∧ k.ok W) (fun W e => ⟨h W e, hk W e⟩) fun C hC hN ok => ?_
  obtain ⟨kept, ⟨ka, kc⟩, at_, loops⟩ := k
  obtain ⟨ia, ic⟩ := si
  obtain ⟨ba, bc⟩ := sb
  obtain ⟨hkl, hlp⟩ := hkl
  simp only at hkl hlp
  have nl : ∀ (W : World), Sl.ok dStr W (none, 0) [] ∧ ([] : List ByteArray).length ≤ 401 ∧ NmL [] := fun W => ⟨nilSl dStr W, by simp, fun n h => by simp at h⟩
  have bad : ∀ (W : World), Wk.ok W ⟨kept, (ka, kc), at_, loops⟩ → Sl.ok dStr W (none, 0) [] ∧ ([] : List ByteArray).length ≤ 401 ∧ NmL [] ∧ Wk.ok W ⟨kept, (ka, kc), at_, loops⟩ ∧ kept.length ≤ kept.length + 1 ∧ (loops = loops ∧ ([] : List ByteArray) = [] ∨ loops = loops + 1 ∧ loops ≤ 8) := fun W hW => ⟨(nl W).1, (nl W).2.1, (nl W).2.2, hW, by omega, .inl ⟨rfl, rfl⟩⟩
  have hk0 := hk w (Ext.refl _ _)
  obtain ⟨kb, ko, e0, _⟩ := intS_get (⟨rfl, hk0.1⟩ : Sv.ok dInt w (ka, kept.length, kc) kept) hk0.2
  cases e0
  have hkc : kept.length ≤ kc := hk0.1.1
  simp [hN, Wk.box]
  refine cutG ok (p := ?pos9) (fun _ : List Int × Sl => [(0, .c (.bp 1000 g 0))]) (fun y W => Sl.ok dInt W y.2 y.1 ∧ 0 < y.1.length ∧ y.1.length ≤ kept.length + 1) (fun y => [(1000, (Wk.mk y.1 y.2 at_ loops).box g s (ia, ic) (ba, bc))]) ?rest9 fun R9 => ?main9
  case main9 =>
    refine cutG ok (p := ?pos) (fun x : Ino × Sl × Sl => [(0, .c (.bp 1000 g 0)), (1, .c (.v (.string nm))), (2, .c (.v (.bool follow))), (77, .c (.v (.slice x.2.1.1 x.1.ents.length x.2.1.2))), (78, .c (.v (.string nm)))]) (fun x W => InoR W x.1 x.2.1 x.2.2 ∧ StaR W s (ia, ic) (ba, bc) ∧ Wk.ok W ⟨kept, (some ⟨kb, ko, none⟩, kc), at_, loops⟩) (fun x => [(1000, (Wk.mk kept (some ⟨kb, ko, none⟩, kc) at_ loops).box g s (ia, ic) (ba, bc))]) ?rest fun RR => ?main
    case main =>
      refine drawK ok mixed (by kernel_rfl) ?_
      simp (maxSteps := 2000000) -implicitDefEqProofs [hN]
      refine ⟨?a, fun g8 => ?b⟩
      case' a =>
        refine call0 ok rfl rfl rfl (fun w I hI hG => findIno0 w I hI s (ia, ic) (ba, bc) at_ (fun W e => (hG W e).1) hl) fun y W hy => ?_
        obtain ⟨⟨x, ⟨ea, ec⟩, ⟨ra, rc⟩⟩, has⟩ := y
        simp (maxSteps := 2000000) -implicitDefEqProofs [hN]
        intro g8
      case' b =>
        refine call0 ok rfl rfl rfl (fun w I hI hG => findIno0 w I hI s (ia, ic) (ba, bc) at_ (fun W e => (hG W e).1) hl) fun y W hy => ?_
        obtain ⟨⟨x, ⟨ea, ec⟩, ⟨ra, rc⟩⟩, has⟩ := y
      all_goals
        cases has with
        | false =>
          simp (maxSteps := 2000000) -implicitDefEqProofs [hN]
          exact retS hC ((((none, 0), [], 11) : Sl × List ByteArray × Int), (Wk.mk kept (some ⟨kb, ko, none⟩, kc) at_ loops)) [1000] (by simp) (by simp [Wk.box]) fun W _ hG => bad W hG.2.2
        | true =>
          by_cases k2 : x.kind = 2
          · simp (maxSteps := 2000000) -implicitDefEqProofs [hN, k2]
            refine ⟨fun hdd => ⟨fun h1 => ?_, fun h1 => ?_⟩, fun hnd => ?_⟩
            · have hk1 : 1 < kept.length := by omega
              obtain ⟨n1, hn1⟩ : ∃ n1, kept.length = n1 + 1 := ⟨kept.length - 1, by omega⟩
              have e1 : IntKind.i64.wrap ((kept.length : Int) - 1) = (n1 : Nat) := by rw [w64 (by omega) (by omega)]; omega
              have hT : (kept.take n1).length = n1 := by simp; omega
              have hm : min n1 kept.length = n1 := by omega
              refine drawW ok mixed (by kernel_rfl) ?_
              simp (maxSteps := 2000000) -implicitDefEqProofs [hN, e1]
              refine ⟨⟨by omega, ?_⟩, by omega, ?_⟩
              all_goals
                refine nilr 600 3 1 (appV ok 600 rfl rfl rfl rfl rfl (by decide) rfl rfl rfl rfl rfl rfl dInt (kept.take n1) rfl (by rw [hT]; show (0 + n1) * 8 ≤ _; omega) (by rw [hT]; omega) (fun W hW => Sv.take (show Sv.ok dInt W (some ⟨kb, ko, none⟩, kept.length, kc) kept from ⟨rfl, hW.2.2.1⟩) (by omega)) fun q a2 c2 W hql hq _ => ?_)
                simp (maxSteps := 2000000) -implicitDefEqProofs [hN]
                refine pub 600 rfl (by decide) ?_
                refine tellG 1000 (r' := (Wk.mk (kept.take n1) (a2, c2) at_ loops).box g s (ia, ic) (ba, bc)) rfl (by simp [Wk.box, hm]) ?_
                refine R9 (kept.take n1, (a2, c2)) _ _ ?_ ?_
                · intro W hW
                  have hq' : q = (kept.take n1).map (Value.int .i64) := rowsIn.1 hq
                  have h9 : W.ownsRow 0 3 1 (.slice a2 (kept.take n1).length c2) (kept.take n1).length ((kept.take n1).map (Value.int .i64)) := by
                    have h8 := hW.1
                    simpa [hq', hm, Function.comp_def] using h8
                  exact ⟨ints_sl h9 (show (kept.take n1).length ≤ _ by omega), by simp only [hT]; omega, by simp only [hT]; omega⟩
                · simp [Wk.box]
            · refine R9 (kept, (some ⟨kb, ko, none⟩, kc)) _ _ ?_ ?_
              · exact fun W hW => ⟨hW.2.2.1, hW.2.2.2, Nat.le_succ _⟩
              · simp [Wk.box]
            · refine RR (x, (ea, ec), (ra, rc)) _ _ ?_ ?_
              · exact fun W hW => ⟨hW.1.1, hW.2⟩
              · simp [Wk.box]
          · simp (maxSteps := 2000000) -implicitDefEqProofs [hN, k2]
            exact retS hC ((((none, 0), [], 13) : Sl × List ByteArray × Int), (Wk.mk kept (some ⟨kb, ko, none⟩, kc) at_ loops)) [1000] (by simp) (by simp [Wk.box]) fun W _ hG => bad W hG.2.2
    case rest =>
      rintro ⟨x, ⟨ea, ec⟩, ⟨ra, rc⟩⟩
      refine call0 ok rfl rfl rfl (fun w I hI hG => find0 w I hI x.ents nm (fun W e => ⟨rfl, (hG W e).1.1⟩)) fun y W hy => ?_
      obtain ⟨no, has⟩ := y
      simp (maxSteps := 2000000) -implicitDefEqProofs [hN, Wk.box]
      refine call0 ok rfl rfl rfl (fun w I hI hG => findIno0 w I hI s (ia, ic) (ba, bc) no (fun W e => (hG W e).2.2.1) hl) fun y W hy2 => ?_
      obtain ⟨⟨y, ⟨ya, yc⟩, ⟨za, zc⟩⟩, there⟩ := y
      cases has with
      | false =>
        simp (maxSteps := 2000000) -implicitDefEqProofs [hN]
        intro g12
        exact retS hC ((((none, 0), [], 11) : Sl × List ByteArray × Int), (Wk.mk kept (some ⟨kb, ko, none⟩, kc) at_ loops)) [1000] (by simp) (by simp [Wk.box]) fun W _ hG => bad W hG.2.2.2.2
      | true =>
      cases there with
      | false =>
        simp (maxSteps := 2000000) -implicitDefEqProofs [hN]
        intro g12
        exact retS hC ((((none, 0), [], 11) : Sl × List ByteArray × Int), (Wk.mk kept (some ⟨kb, ko, none⟩, kc) at_ loops)) [1000] (by simp) (by simp [Wk.box]) fun W _ hG => bad W hG.2.2.2.2
      | true =>
      by_cases kl : y.kind = 3 ∧ follow = true
      · obtain ⟨kl, rfl⟩ := kl
        by_cases hlo : 8 ≤ loops
        · have hloI : (8 : Int) ≤ (loops : Nat) := by omega
          simp (maxSteps := 2000000) -implicitDefEqProofs [hN, kl, hloI]
          intro g12
          exact retS hC ((((none, 0), [], 16) : Sl × List ByteArray × Int), (Wk.mk kept (some ⟨kb, ko, none⟩, kc) at_ loops)) [1000] (by simp) (by simp [Wk.box]) fun W _ hG => bad W hG.2.2.2.2
        · have hloI : ¬ (8 : Int) ≤ (loops : Nat) := by omega
          have e1 : IntKind.i64.wrap ((loops : Int) + 1) = (loops + 1 : Nat) := by rw [w64 (by omega) (by omega)]; omega
          simp (maxSteps := 2000000) -implicitDefEqProofs [hN, kl, hloI, e1]
          intro g12
          refine call0 ok rfl rfl rfl (fun w I hI hG => parts0 w I hI y.target) fun z W hz => ?_
          obtain ⟨⟨pa, pc⟩, l, top, e⟩ := z
          by_cases he : e = 0
          · subst he
            cases top with
            | false =>
              simp (maxSteps := 2000000) -implicitDefEqProofs [hN]
              exact retS hC ((((pa, pc), l, 0) : Sl × List ByteArray × Int), (Wk.mk kept (some ⟨kb, ko, none⟩, kc) at_ (loops + 1))) [1000] (by simp) (by simp [Wk.box]) fun W _ hG => ⟨hG.1.1, hG.1.2.1, hG.1.2.2, hG.2.2.2.2.2, Nat.le_succ _, .inr ⟨rfl, by show loops + 1 ≤ 8; omega⟩⟩
            | true =>
              simp (maxSteps := 2000000) -implicitDefEqProofs [hN]
              intro g128
              exact retS hC ((((pa, pc), l, 0) : Sl × List ByteArray × Int), (Wk.mk [1] (some ⟨g128, 0, none⟩, 1) 1 (loops + 1))) [1000] (by simp) (by simp [Wk.box]) fun W hp hG => ⟨hG.1.1, hG.1.2.1, hG.1.2.2, ⟨ints_sl (l := [1]) (by simpa using hp.1) (by simp), by simp⟩, by simp, .inr ⟨rfl, by show loops + 1 ≤ 8; omega⟩⟩
          · simp (maxSteps := 2000000) -implicitDefEqProofs [hN, he]
            exact retS hC ((((none, 0), [], e) : Sl × List ByteArray × Int), (Wk.mk kept (some ⟨kb, ko, none⟩, kc) at_ (loops + 1))) [1000] (by simp) (by simp [Wk.box]) fun W _ hG => ⟨(nl W).1, (nl W).2.1, (nl W).2.2, hG.2.2.2.2.2, Nat.le_succ _, .inr ⟨rfl, by show loops + 1 ≤ 8; omega⟩⟩
      · by_cases kd : y.kind = 2
        · have kn : ¬ (2 : Int) = 3 := by decide
          simp (maxSteps := 2000000) -implicitDefEqProofs [hN, kd, kn]
          intro g12
          refine nilr 600 3 1 (appV ok 600 rfl rfl rfl rfl rfl (by decide) rfl rfl rfl rfl rfl rfl dInt kept rfl (by show (0 + kept.length) * 8 ≤ _; omega) (by omega) (fun W hW => ⟨rfl, hW.2.2.2.2.1⟩) fun q a2 c2 W hql hq _ => ?_)
          have hq' : q = kept.map (Value.int .i64) := rowsIn.1 hq
          simp (maxSteps := 2000000) -implicitDefEqProofs [hN]
          intro g145
          refine appR ok 600 145 rfl rfl rfl rfl rfl (by decide) rfl rfl rfl rfl rfl rfl rfl (by decide) (by simp) (by show (kept.length + 1) * 8 ≤ _; omega) (by omega) fun g' c' => ?_
          simp (maxSteps := 2000000) -implicitDefEqProofs [hN]
          refine retS hC ((((none, 0), [], 0) : Sl × List ByteArray × Int), (Wk.mk (kept ++ [no]) (some ⟨g', 0, none⟩, c') no loops)) [1000] (by simp) (by simp [Wk.box]) fun W hp hG => ⟨(nl W).1, (nl W).2.1, (nl W).2.2, ⟨ints_sl (l := kept ++ [no]) (e := 3) ?_ (by simp; omega), by simp⟩, by simp, .inl ⟨rfl, rfl⟩⟩
          have h8 := hp.1
          simpa [hq', Function.comp_def] using h8
        · by_cases k3 : y.kind = 3
          · have kf : follow = false := by cases follow <;> simp [k3] at kl ⊢
            subst kf
            simp (maxSteps := 2000000) -implicitDefEqProofs [hN, k3]
            intro g12
            exact retS hC ((((none, 0), [], 0) : Sl × List ByteArray × Int), (Wk.mk kept (some ⟨kb, ko, none⟩, kc) no loops)) [1000] (by simp) (by simp [Wk.box]) fun W _ hG => bad W hG.2.2.2.2
          · simp (maxSteps := 2000000) -implicitDefEqProofs [hN, k3, kd]
            intro g12
            exact retS hC ((((none, 0), [], 0) : Sl × List ByteArray × Int), (Wk.mk kept (some ⟨kb, ko, none⟩, kc) no loops)) [1000] (by simp) (by simp [Wk.box]) fun W _ hG => bad W hG.2.2.2.2
  case rest9 =>
    rintro ⟨l, ⟨la, lc⟩⟩
    refine someG fun W0 hW0 => ?_
    obtain ⟨lb, lo, e1, _⟩ := intS_get (⟨rfl, hW0.1⟩ : Sv.ok dInt W0 (la, l.length, lc) l) hW0.2.1
    cases e1
    obtain ⟨⟨hlc, _⟩, hl0, hl1⟩ := hW0
    simp only at hlc hl0 hl1
    obtain ⟨n1, hn1⟩ : ∃ n1, l.length = n1 + 1 := ⟨l.length - 1, by omega⟩
    have e1 : IntKind.i64.wrap ((l.length : Int) - 1) = (n1 : Nat) := by rw [w64 (by omega) (by omega)]; omega
    have hlt : n1 < l.length := by omega
    have hltI : (n1 : Int) < (l.length : Nat) := by omega
    refine drawW ok mixed (by kernel_rfl) ?_
    simp (maxSteps := 2000000) -implicitDefEqProofs [hN, e1, Wk.box, hlt, hltI]
    refine ⟨?_, ?_⟩
    all_goals
      refine load1 ok rfl rfl rfl rfl (fun v W => v = .int .i64 l[n1]) (fun W hW => ?_) ?_
      · obtain ⟨b', o', e, hc⟩ := intS_get (⟨rfl, hW.1⟩ : Sv.ok dInt W (some ⟨lb, lo, none⟩, l.length, lc) l) hlt
        cases e
        exact ⟨_, hc, rfl⟩
      rintro v W rfl _
      simp (maxSteps := 2000000) -implicitDefEqProofs [hN]
      exact retS hC ((((none, 0), [], 0) : Sl × List ByteArray × Int), (Wk.mk l (some ⟨lb, lo, none⟩, lc) l[n1] loops)) [1000] (by simp) (by simp [Wk.box]) fun W _ hG => ⟨(nl W).1, (nl W).2.1, (nl W).2.2, ⟨hG.1, hl0⟩, hl1, .inl ⟨rfl, rfl⟩⟩
end Go.Proofs.Ytbbaoeidobdblaa.Sx

/- walk, Resolve of the reference: they end. -/
set_option linter.unusedVariables false
set_option linter.unusedSimpArgs false
namespace Go.Proofs.Ytbbaoeidobdblaa.Sx
open Go
attribute [local simp ↓] ifb_true' ifb_false'
attribute [local simp] ifb_true ifb_false ifb_eq sx argsT find ev evOp evs evo evBin evInt evStr evNil evNilA ptrA slcA isNoneA asB evLoad look del cellsB evUn evConv kdec fld evFieldA evField evIdxA evIdx evSlc bndL bndH evLen mmi put resV guardV gvL setO tupV cellsOf ones one upd lits nv exitTo SV.val CV.val TI.agg rdyA allR keepB scan simpO gsp isS subs keepT pickT wr memN pubs Res.fact Region.binds bld rest give delL back Res.eqv vi vb num Sv.val undef
theorem str_get {W : World} {a : Option Addr} {n c : Nat} {l : List ByteArray} (h : Sv.ok dStr W (a, n, c) l) {i : Nat} (hi : i < l.length) : ∃ b o, a = some ⟨b, o, none⟩ ∧ W.cell? ⟨b, o + i, none⟩ = some (.string l[i]) := by
  obtain ⟨b, o, e⟩ := h.2.2.2.is_some (show 0 < l.length by omega)
  cases e
  obtain ⟨cs, hk, _, hc⟩ := h.2.2.2.get hi
  have hk2 : cs = [.string l[i]] := hk
  subst hk2
  have := hc 0 _ rfl
  simp [dStr, flat] at this
  exact ⟨b, o, rfl, this⟩
/-- A row of texts, once it is given away. -/
theorem txts_sl {W : World} {e : TypeId} {a : Option Addr} {c : Nat} {l : List ByteArray} (h : W.ownsRow 0 e 1 (.slice a l.length c) l.length (l.map (Value.string))) (hl : l.length ≤ 1000000000) : Sl.ok dStr W (a, c) l :=
  ((rowsT.2 (by simp [List.map_eq_flatMap]) : Rows dStr W l (l.map Value.string)).sv (base := 0) (e := e) (by decide) (by omega) h).2
/-- Names to walk along: names, where they are, and the walker. -/
structure Wl where
  l : List ByteArray
  a : Option Addr
  c : Nat
  k : Wk
set_option maxRecDepth 100000 in
set_option maxHeartbeats 4000000 in
theorem walk0 (w : World) (I : Nat → Prop) (hI : ∀ b, I b → b < w.heap.size) (s : Sta) (si sb : Sl) {a : Option Addr} {n c : Nat} (l : List ByteArray) (follow : Bool) (h : ∀ W, Ext I w W → StaR W s si sb) (hn : ∀ W, Ext I w W → Sv.ok dStr W (a, n, c) l) (hnm : NmL l) (hll : l.length ≤ 401) (hl : s.inos.length ≤ 1000000000) :
    Fn0 Try.prog 92 #[.agg (staC s si sb).toArray, .slice a n c, .bool follow] w I (fun y : Int × Int => .tuple #[.int .i64 y.1, .int .i64 y.2]) (fun y W => True) := by
  obtain rfl : n = l.length := (hn w (Ext.refl _ _)).1
  refine enter (svs := [.ag ((staC s si sb).map .v), .c (.v (.slice a l.length c)), .c (.v (.bool follow))]) tysOk Try.func92 rfl Try.ntmps92 Try.results92 (by kernel_rfl) (by simp) hI (fun W => StaR W s si sb ∧ Sv.ok dStr W (a, l.length, c) l) (fun W e => ⟨h W e, hn W e⟩) fun C hC hN ok => ?_
  obtain ⟨ia, ic⟩ := si
  obtain ⟨ba, bc⟩ := sb
  simp [hN]
  intro g3 g13 g15
  refine pub 13 rfl (by decide) ?_
  refine tellG 15 (r' := (Wk.mk [1] (some ⟨g13, 0, none⟩, 1) 1 0).box g15 s (ia, ic) (ba, bc)) rfl (by simp [Wk.box]) ?_
  refine lessG (fun W => StaR W s (ia, ic) (ba, bc) ∧ Sv.ok dStr W (a, l.length, c) l ∧ Sl.ok dInt W (some ⟨g13, 0, none⟩, 1) [1]) (fun W hW => ⟨hW.2.1, hW.2.2, ints_sl (l := [1]) (by simpa using hW.1) (by simp)⟩) ?_
  refine loopK [2, 8] ok (fun y : Wl => [(1, .c (.v (.slice y.a y.l.length y.c)))]) (fun y => [(15, y.k.box g15 s (ia, ic) (ba, bc))]) (fun y W => Sl.ok dStr W (y.a, y.c) y.l ∧ NmL y.l ∧ y.k.ok W ∧ y.k.loops ≤ 8 ∧ y.k.kept.length + ((9 - y.k.loops) * 402 + y.l.length) ≤ 10000) (fun y => (9 - y.k.loops) * 402 + y.l.length) ⟨l, a, c, ⟨[1], (some ⟨g13, 0, none⟩, 1), 1, 0⟩⟩ ?_ ?_ (fun W hW => ⟨hW.2.1.2, hnm, ⟨hW.2.2, by simp⟩, by simp, by simp; omega⟩) ?_
  · simp
  · simp [Wk.box]
  rintro ⟨l', a', c', ⟨kept, ⟨ka, kc⟩, at_, loops⟩⟩ W ⟨h1, h2, h3, h4, h5⟩ hG next
  simp only at h1 h2 h3 h4 h5
  cases l' with
  | nil =>
    simp (maxSteps := 2000000) -implicitDefEqProofs [hN, Wk.box]
    exact ret0 hC (at_, 0) rfl fun _ _ _ => trivial
  | cons x r =>
    obtain ⟨b, o, e, _⟩ := str_get (⟨rfl, h1⟩ : Sv.ok dStr W (a', (x :: r).length, c') (x :: r)) (show 0 < _ by simp)
    cases e
    have hcc : r.length + 1 ≤ c' := h1.1
    have hpos : (0 : Int) < (r.length : Nat) + 1 := by omega
    simp (maxSteps := 2000000) -implicitDefEqProofs [hN, Wk.box, hpos]
    refine load1 ok rfl rfl rfl rfl (fun v W => v = .string x) (fun W hW => ?_) ?_
    · obtain ⟨b', o', e, hc⟩ := str_get (⟨rfl, hW.1.1⟩ : Sv.ok dStr W (some ⟨b, o, none⟩, (x :: r).length, c') (x :: r)) (show 0 < _ by simp)
      cases e
      exact ⟨_, by simpa using hc, rfl⟩
    rintro v W rfl _
    obtain ⟨ad, hadd⟩ : ∃ ad : Option Addr, ad = if c' = 1 then some ⟨b, o, none⟩ else some ⟨b, o + 1, none⟩ := ⟨_, rfl⟩
    have hdr : ∀ W, Sl.ok dStr W (some ⟨b, o, none⟩, c') (x :: r) → Sv.ok dStr W (ad, r.length, c' - 1) r := fun W hW => by
      have := Sv.drop (⟨rfl, hW⟩ : Sv.ok dStr W (some ⟨b, o, none⟩, (x :: r).length, c') (x :: r)) (i := 1) (by simp)
      rw [hadd]
      simpa [dStr, flat] using this
    have hkk : kept.length ≤ 100000 ∧ loops ≤ 8 := ⟨by omega, h4⟩
    cases follow with
    | true =>
      simp (maxSteps := 2000000) -implicitDefEqProofs [hN, Wk.box, hpos]
      rw [← hadd]
      refine ⟨by omega, ?_⟩
      refine callS ok rfl rfl rfl [15] [(Wk.mk kept (ka, kc) at_ loops).box g15 s (ia, ic) (ba, bc)] (by simp [Wk.box]) rfl (fun y : (Sl × List ByteArray × Int) × Wk => [(15, y.2.box g15 s (ia, ic) (ba, bc))]) (fun w I S hI hG hO hS' => step0w w I S hI g15 s (ia, ic) (ba, bc) ⟨kept, (ka, kc), at_, loops⟩ x true (fun W e => (hG W e).2.1) (fun W e => (hG W e).1.2.2.1) hkk hl hO hS') (fun y => by simp [Wk.box]) (.inl fun k hk => by simp at hk; omega) fun y W hy => ?_
      obtain ⟨⟨⟨pa, pc⟩, l2, e⟩, ⟨kept2, ⟨ka2, kc2⟩, at2, loops2⟩⟩ := y
      obtain ⟨_, y1, y2, _, y3, y4⟩ := hy
      simp only at y1 y2 y3 y4
      by_cases he : e = 0
      · subst he
        simp (maxSteps := 2000000) -implicitDefEqProofs [hN, Wk.box]
        refine nilr 600 9 1 (appV ok 600 rfl rfl rfl rfl rfl (by decide) rfl rfl rfl rfl rfl rfl dStr l2 rfl (by show (0 + l2.length) * 16 ≤ _; omega) (by omega) (fun W hW => ⟨rfl, hW.1.1⟩) fun q a2 c2 W hql hq _ => ?_)
        simp (maxSteps := 2000000) -implicitDefEqProofs [hN]
        refine appV ok 600 rfl rfl rfl rfl rfl (by decide) rfl rfl rfl rfl rfl rfl dStr r rfl (by show (l2.length + r.length) * 16 ≤ _; omega) (by omega) (fun W hW => hdr W (by first | exact (hW) | exact (hW).1 | exact (hW).1.1 | exact (hW).1.2 | exact (hW).1.2.1 | exact (hW).1.2.2.1 | exact (hW).1.2.2.2.1 | exact (hW).1.2.2.2 | exact (hW).2 | exact (hW).2.1 | exact (hW).2.1.1 | exact (hW).2.1.2 | exact (hW).2.1.2.1 | exact (hW).2.1.2.2.1 | exact (hW).2.1.2.2.2.1 | exact (hW).2.1.2.2.2 | exact (hW).2.2 | exact (hW).2.2.1 | exact (hW).2.2.1.1 | exact (hW).2.2.1.2 | exact (hW).2.2.1.2.1 | exact (hW).2.2.1.2.2.1 | exact (hW).2.2.1.2.2.2.1 | exact (hW).2.2.1.2.2.2 | exact (hW).2.2.2 | exact (hW).2.2.2.1 | exact (hW).2.2.2.1.1 | exact (hW).2.2.2.1.2 | exact (hW).2.2.2.1.2.1 | exact (hW).2.2.2.1.2.2.1 | exact (hW).2.2.2.1.2.2.2.1 | exact (hW).2.2.2.1.2.2.2 | exact (hW).2.2.2.2 | exact (hW).2.2.2.2.1 | exact (hW).2.2.2.2.1.1 | exact (hW).2.2.2.2.1.2 | exact (hW).2.2.2.2.1.2.1 | exact (hW).2.2.2.2.1.2.2.1 | exact (hW).2.2.2.2.1.2.2.2.1 | exact (hW).2.2.2.2.1.2.2.2 | exact (hW).2.2.2.2.2 | exact (hW).2.2.2.2.2.1 | exact (hW).2.2.2.2.2.1.1 | exact (hW).2.2.2.2.2.1.2 | exact (hW).2.2.2.2.2.1.2.1 | exact (hW).2.2.2.2.2.1.2.2.1 | exact (hW).2.2.2.2.2.1.2.2.2.1 | exact (hW).2.2.2.2.2.1.2.2.2 | exact (hW).2.2.2.2.2.2 | exact (hW).2.2.2.2.2.2.1 | exact (hW).2.2.2.2.2.2.1.1 | exact (hW).2.2.2.2.2.2.1.2 | exact (hW).2.2.2.2.2.2.1.2.1 | exact (hW).2.2.2.2.2.2.1.2.2.1 | exact (hW).2.2.2.2.2.2.1.2.2.2.1 | exact (hW).2.2.2.2.2.2.1.2.2.2 | exact (hW).2.2.2.2.2.2.2 | exact (hW).2.2.2.2.2.2.2.1 | exact (hW).2.2.2.2.2.2.2.1.1 | exact (hW).2.2.2.2.2.2.2.1.2 | exact (hW).2.2.2.2.2.2.2.1.2.1 | exact (hW).2.2.2.2.2.2.2.1.2.2.1 | exact (hW).2.2.2.2.2.2.2.1.2.2.2.1 | exact (hW).2.2.2.2.2.2.2.1.2.2.2 | exact (hW).2.2.2.2.2.2.2.2 | exact (hW).2.2.2.2.2.2.2.2.1 | exact (hW).2.2.2.2.2.2.2.2.1.1 | exact (hW).2.2.2.2.2.2.2.2.1.2 | exact (hW).2.2.2.2.2.2.2.2.1.2.1 | exact (hW).2.2.2.2.2.2.2.2.1.2.2.1 | exact (hW).2.2.2.2.2.2.2.2.1.2.2.2.1 | exact (hW).2.2.2.2.2.2.2.2.1.2.2.2 | exact (hW).2.2.2.2.2.2.2.2.2)) fun q2 a3 c3 W hql2 hq2 _ => ?_
        simp (maxSteps := 2000000) -implicitDefEqProofs [hN]
        have hq' : q = l2.map Value.string := by rw [rowsT] at hq; simpa [List.map_eq_flatMap] using hq
        have hq2' : q2 = r.map Value.string := by rw [rowsT] at hq2; simpa [List.map_eq_flatMap] using hq2
        refine pub 600 rfl (by decide) ?_
        refine next ⟨l2 ++ r, a3, c3, ⟨kept2, (ka2, kc2), at2, loops2⟩⟩ _ _ ?_ (fun W hW => ⟨⟨txts_sl (l := l2 ++ r) (e := 9) ?_ (by simp; omega), fun n hn => ?_, ?_, ?_, ?_⟩, ?_⟩) ?_
        · simp only [List.length_append, List.length_cons]
          rcases y4 with ⟨y4, y5⟩ | ⟨y4, y5⟩
          · subst y5
            subst y4
            simp
          · omega
        · have h8 := hW.1
          simpa [hq', hq2', Function.comp_def] using h8
        · rcases List.mem_append.1 hn with hn | hn
          · exact y2 n hn
          · exact h2 n (List.mem_cons_of_mem _ hn)
        · exact hW.2.2.2.1.2.2.2.1
        · show loops2 ≤ 8
          omega
        · simp only [List.length_append, List.length_cons] at h5 ⊢
          rcases y4 with ⟨y4, y5⟩ | ⟨y4, y5⟩
          · subst y5
            subst y4
            simp
            omega
          · omega
        · exact hW.2.2.2.2.2
        · simp [Wk.box]
      · simp (maxSteps := 2000000) -implicitDefEqProofs [hN, Wk.box, he]
        exact ret0 hC (0, e) rfl fun _ _ _ => trivial
    | false =>
      simp (maxSteps := 2000000) -implicitDefEqProofs [hN, Wk.box, hpos]
      rw [← hadd]
      refine ⟨by omega, ?_⟩
      refine callS ok rfl rfl rfl [15] [(Wk.mk kept (ka, kc) at_ loops).box g15 s (ia, ic) (ba, bc)] (by simp [Wk.box]) rfl (fun y : (Sl × List ByteArray × Int) × Wk => [(15, y.2.box g15 s (ia, ic) (ba, bc))]) (fun w I S hI hG hO hS' => step0w w I S hI g15 s (ia, ic) (ba, bc) ⟨kept, (ka, kc), at_, loops⟩ x (decide (0 < r.length)) (fun W e => (hG W e).2.1) (fun W e => (hG W e).1.2.2.1) hkk hl hO hS') (fun y => by simp [Wk.box]) (.inl fun k hk => by simp at hk; omega) fun y W hy => ?_
      obtain ⟨⟨⟨pa, pc⟩, l2, e⟩, ⟨kept2, ⟨ka2, kc2⟩, at2, loops2⟩⟩ := y
      obtain ⟨_, y1, y2, _, y3, y4⟩ := hy
      simp only at y1 y2 y3 y4
      by_cases he : e = 0
      · subst he
        simp (maxSteps := 2000000) -implicitDefEqProofs [hN, Wk.box]
        refine nilr 600 9 1 (appV ok 600 rfl rfl rfl rfl rfl (by decide) rfl rfl rfl rfl rfl rfl dStr l2 rfl (by show (0 + l2.length) * 16 ≤ _; omega) (by omega) (fun W hW => ⟨rfl, hW.1.1⟩) fun q a2 c2 W hql hq _ => ?_)
        simp (maxSteps := 2000000) -implicitDefEqProofs [hN]
        refine appV ok 600 rfl rfl rfl rfl rfl (by decide) rfl rfl rfl rfl rfl rfl dStr r rfl (by show (l2.length + r.length) * 16 ≤ _; omega) (by omega) (fun W hW => hdr W (by first | exact (hW) | exact (hW).1 | exact (hW).1.1 | exact (hW).1.2 | exact (hW).1.2.1 | exact (hW).1.2.2.1 | exact (hW).1.2.2.2.1 | exact (hW).1.2.2.2 | exact (hW).2 | exact (hW).2.1 | exact (hW).2.1.1 | exact (hW).2.1.2 | exact (hW).2.1.2.1 | exact (hW).2.1.2.2.1 | exact (hW).2.1.2.2.2.1 | exact (hW).2.1.2.2.2 | exact (hW).2.2 | exact (hW).2.2.1 | exact (hW).2.2.1.1 | exact (hW).2.2.1.2 | exact (hW).2.2.1.2.1 | exact (hW).2.2.1.2.2.1 | exact (hW).2.2.1.2.2.2.1 | exact (hW).2.2.1.2.2.2 | exact (hW).2.2.2 | exact (hW).2.2.2.1 | exact (hW).2.2.2.1.1 | exact (hW).2.2.2.1.2 | exact (hW).2.2.2.1.2.1 | exact (hW).2.2.2.1.2.2.1 | exact (hW).2.2.2.1.2.2.2.1 | exact (hW).2.2.2.1.2.2.2 | exact (hW).2.2.2.2 | exact (hW).2.2.2.2.1 | exact (hW).2.2.2.2.1.1 | exact (hW).2.2.2.2.1.2 | exact (hW).2.2.2.2.1.2.1 | exact (hW).2.2.2.2.1.2.2.1 | exact (hW).2.2.2.2.1.2.2.2.1 | exact (hW).2.2.2.2.1.2.2.2 | exact (hW).2.2.2.2.2 | exact (hW).2.2.2.2.2.1 | exact (hW).2.2.2.2.2.1.1 | exact (hW).2.2.2.2.2.1.2 | exact (hW).2.2.2.2.2.1.2.1 | exact (hW).2.2.2.2.2.1.2.2.1 | exact (hW).2.2.2.2.2.1.2.2.2.1 | exact (hW).2.2.2.2.2.1.2.2.2 | exact (hW).2.2.2.2.2.2 | exact (hW).2.2.2.2.2.2.1 | exact (hW).2.2.2.2.2.2.1.1 | exact (hW).2.2.2.2.2.2.1.2 | exact (hW).2.2.2.2.2.2.1.2.1 | exact (hW).2.2.2.2.2.2.1.2.2.1 | exact (hW).2.2.2.2.2.2.1.2.2.2.1 | exact (hW).2.2.2.2.2.2.1.2.2.2 | exact (hW).2.2.2.2.2.2.2 | exact (hW).2.2.2.2.2.2.2.1 | exact (hW).2.2.2.2.2.2.2.1.1 | exact (hW).2.2.2.2.2.2.2.1.2 | exact (hW).2.2.2.2.2.2.2.1.2.1 | exact (hW).2.2.2.2.2.2.2.1.2.2.1 | exact (hW).2.2.2.2.2.2.2.1.2.2.2.1 | exact (hW).2.2.2.2.2.2.2.1.2.2.2 | exact (hW).2.2.2.2.2.2.2.2 | exact (hW).2.2.2.2.2.2.2.2.1 | exact (hW).2.2.2.2.2.2.2.2.1.1 | exact (hW).2.2.2.2.2.2.2.2.1.2 | exact (hW).2.2.2.2.2.2.2.2.1.2.1 | exact (hW).2.2.2.2.2.2.2.2.1.2.2.1 | exact (hW).2.2.2.2.2.2.2.2.1.2.2.2.1 | exact (hW).2.2.2.2.2.2.2.2.1.2.2.2 | exact (hW).2.2.2.2.2.2.2.2.2)) fun q2 a3 c3 W hql2 hq2 _ => ?_
        simp (maxSteps := 2000000) -implicitDefEqProofs [hN]
        have hq' : q = l2.map Value.string := by rw [rowsT] at hq; simpa [List.map_eq_flatMap] using hq
        have hq2' : q2 = r.map Value.string := by rw [rowsT] at hq2; simpa [List.map_eq_flatMap] using hq2
        refine pub 600 rfl (by decide) ?_
        refine next ⟨l2 ++ r, a3, c3, ⟨kept2, (ka2, kc2), at2, loops2⟩⟩ _ _ ?_ (fun W hW => ⟨⟨txts_sl (l := l2 ++ r) (e := 9) ?_ (by simp; omega), fun n hn => ?_, ?_, ?_, ?_⟩, ?_⟩) ?_
        · simp only [List.length_append, List.length_cons]
          rcases y4 with ⟨y4, y5⟩ | ⟨y4, y5⟩
          · subst y5
            subst y4
            simp
          · omega
        · have h8 := hW.1
          simpa [hq', hq2', Function.comp_def] using h8
        · rcases List.mem_append.1 hn with hn | hn
          · exact y2 n hn
          · exact h2 n (List.mem_cons_of_mem _ hn)
        · exact hW.2.2.2.1.2.2.2.1
        · show loops2 ≤ 8
          omega
        · simp only [List.length_append, List.length_cons] at h5 ⊢
          rcases y4 with ⟨y4, y5⟩ | ⟨y4, y5⟩
          · subst y5
            subst y4
            simp
            omega
          · omega
        · exact hW.2.2.2.2.2
        · simp [Wk.box]
      · simp (maxSteps := 2000000) -implicitDefEqProofs [hN, Wk.box, he]
        exact ret0 hC (0, e) rfl fun _ _ _ => trivial
end Go.Proofs.Ytbbaoeidobdblaa.Sx

/- Resolve, Parent, putDeed, letGo, mayTake of the reference. -/
set_option linter.unusedVariables false
set_option linter.unusedSimpArgs false
namespace Go.Proofs.Ytbbaoeidobdblaa.Sx
open Go
attribute [local simp ↓] ifb_true' ifb_false'
attribute [local simp] ifb_true ifb_false ifb_eq sx argsT find ev evOp evs evo evBin evInt evStr evNil evNilA ptrA slcA isNoneA asB evLoad look del cellsB evUn evConv kdec fld evFieldA evField evIdxA evIdx evSlc bndL bndH evLen mmi put resV guardV gvL setO tupV cellsOf ones one upd lits nv exitTo SV.val CV.val TI.agg rdyA allR keepB scan simpO gsp isS subs keepT pickT wr memN pubs Res.fact Region.binds bld rest give delL back Res.eqv vi vb num Sv.val undef
set_option maxRecDepth 100000 in
set_option maxHeartbeats 2000000 in
theorem resolve0 (w : World) (I : Nat → Prop) (hI : ∀ b, I b → b < w.heap.size) (s : Sta) (si sb : Sl) (path : ByteArray) (follow : Bool) (h : ∀ W, Ext I w W → StaR W s si sb) (hl : s.inos.length ≤ 1000000000) :
    Fn0 Try.prog 47 #[.agg (staC s si sb).toArray, .string path, .bool follow] w I (fun y : Int × Int => .tuple #[.int .i64 y.1, .int .i64 y.2]) (fun y W => True) := by
  refine enter (svs := [.ag ((staC s si sb).map .v), .c (.v (.string path)), .c (.v (.bool follow))]) tysOk Try.func47 rfl Try.ntmps47 Try.results47 (by kernel_rfl) (by simp) hI (fun W => StaR W s si sb) h fun C hC hN ok => ?_
  obtain ⟨ia, ic⟩ := si
  obtain ⟨ba, bc⟩ := sb
  simp [hN]
  intro g3
  refine call0 ok rfl rfl rfl (fun w I hI hG => split0 w I hI path) fun y W hy => ?_
  obtain ⟨⟨pa, pc⟩, l, e⟩ := y
  by_cases he : e = 0
  · subst he
    simp [hN]
    refine call0 ok rfl rfl rfl (fun w I hI hG => walk0 w I hI s (ia, ic) (ba, bc) l follow (fun W e => (hG W e).2) (fun W e => ⟨rfl, (hG W e).1.1⟩) hy.2.2 hy.2.1 hl) fun y W _ => ?_
    obtain ⟨no, e⟩ := y
    simp [hN]
    exact ret0 hC (no, e) rfl fun _ _ _ => trivial
  · simp [hN, he]
    exact ret0 hC (0, e) rfl fun _ _ _ => trivial
set_option maxRecDepth 100000 in
set_option maxHeartbeats 2000000 in
theorem parent0 (w : World) (I : Nat → Prop) (hI : ∀ b, I b → b < w.heap.size) (s : Sta) (si sb : Sl) (path : ByteArray) (h : ∀ W, Ext I w W → StaR W s si sb) (hl : s.inos.length ≤ 1000000000) :
    Fn0 Try.prog 120 #[.agg (staC s si sb).toArray, .string path] w I (fun y : Int × ByteArray × Int => .tuple #[.int .i64 y.1, .string y.2.1, .int .i64 y.2.2]) (fun y W => y.2.1.size ≤ 32 ∧ (y.2.2 = 0 → ∃ x, x ∈ s.inos ∧ x.no = y.1)) := by
  refine enter (svs := [.ag ((staC s si sb).map .v), .c (.v (.string path))]) tysOk Try.func120 rfl Try.ntmps120 Try.results120 (by kernel_rfl) (by simp) hI (fun W => StaR W s si sb) h fun C hC hN ok => ?_
  obtain ⟨ia, ic⟩ := si
  obtain ⟨ba, bc⟩ := sb
  have bad : ∀ (e : Int), e ≠ 0 → (ByteArray.mk #[]).size ≤ 32 ∧ (e = 0 → ∃ x, x ∈ s.inos ∧ x.no = 0) := fun e he => ⟨by decide, fun h => absurd h he⟩
  simp [hN]
  intro g2
  refine call0 ok rfl rfl rfl (fun w I hI hG => split0 w I hI path) fun y W hy => ?_
  obtain ⟨⟨pa, pc⟩, l, e⟩ := y
  by_cases he : e = 0
  · subst he
    rcases Nat.eq_zero_or_pos l.length with h0 | h0
    · have e1 : IntKind.i64.wrap ((l.length : Int) - 1) = -1 := by rw [h0]; decide
      simp [hN, e1]
      exact ret0 hC (0, _, 24) rfl fun _ _ _ => bad 24 (by decide)
    · obtain ⟨b, o, e0, _⟩ := str_get (⟨rfl, hy.1⟩ : Sv.ok dStr W (pa, l.length, pc) l) h0
      cases e0
      obtain ⟨n1, hn1⟩ : ∃ n1, l.length = n1 + 1 := ⟨l.length - 1, by omega⟩
      have hl1 : l.length ≤ 401 := hy.2.1
      have hlc : l.length ≤ pc := hy.1.1
      have e1 : IntKind.i64.wrap ((l.length : Int) - 1) = (n1 : Nat) := by rw [w64 (by omega) (by omega)]; omega
      have hlt : n1 < l.length := by omega
      have hltI : (n1 : Int) < (l.length : Nat) := by omega
      have hnn : ¬ ((n1 : Nat) : Int) < 0 := by omega
      have hT : (l.take n1).length = n1 := by simp; omega
      have hsv : ∀ W, Sl.ok dStr W (some ⟨b, o, none⟩, pc) l → Sv.ok dStr W (some ⟨b, o, none⟩, l.length, pc) l := fun W hW => ⟨rfl, hW⟩
      have hget : l[n1] ∈ l := List.getElem_mem hlt
      simp [hN, e1, hlt, hltI, hnn]
      refine load1 ok rfl rfl rfl rfl (fun v W => v = .string l[n1]) (fun W hW => ?_) ?_
      · obtain ⟨b', o', e, hc⟩ := str_get (⟨rfl, ((by first | exact (hW) | exact (hW).1 | exact (hW).1.1 | exact (hW).1.2 | exact (hW).1.2.1 | exact (hW).1.2.2.1 | exact (hW).1.2.2.2.1 | exact (hW).1.2.2.2 | exact (hW).2 | exact (hW).2.1 | exact (hW).2.1.1 | exact (hW).2.1.2 | exact (hW).2.1.2.1 | exact (hW).2.1.2.2.1 | exact (hW).2.1.2.2.2.1 | exact (hW).2.1.2.2.2 | exact (hW).2.2 | exact (hW).2.2.1 | exact (hW).2.2.1.1 | exact (hW).2.2.1.2 | exact (hW).2.2.1.2.1 | exact (hW).2.2.1.2.2.1 | exact (hW).2.2.1.2.2.2.1 | exact (hW).2.2.1.2.2.2 | exact (hW).2.2.2 | exact (hW).2.2.2.1 | exact (hW).2.2.2.1.1 | exact (hW).2.2.2.1.2 | exact (hW).2.2.2.1.2.1 | exact (hW).2.2.2.1.2.2.1 | exact (hW).2.2.2.1.2.2.2.1 | exact (hW).2.2.2.1.2.2.2 | exact (hW).2.2.2.2 | exact (hW).2.2.2.2.1 | exact (hW).2.2.2.2.1.1 | exact (hW).2.2.2.2.1.2 | exact (hW).2.2.2.2.1.2.1 | exact (hW).2.2.2.2.1.2.2.1 | exact (hW).2.2.2.2.1.2.2.2.1 | exact (hW).2.2.2.2.1.2.2.2 | exact (hW).2.2.2.2.2 | exact (hW).2.2.2.2.2.1 | exact (hW).2.2.2.2.2.1.1 | exact (hW).2.2.2.2.2.1.2 | exact (hW).2.2.2.2.2.1.2.1 | exact (hW).2.2.2.2.2.1.2.2.1 | exact (hW).2.2.2.2.2.1.2.2.2.1 | exact (hW).2.2.2.2.2.1.2.2.2 | exact (hW).2.2.2.2.2.2 | exact (hW).2.2.2.2.2.2.1 | exact (hW).2.2.2.2.2.2.1.1 | exact (hW).2.2.2.2.2.2.1.2 | exact (hW).2.2.2.2.2.2.1.2.1 | exact (hW).2.2.2.2.2.2.1.2.2.1 | exact (hW).2.2.2.2.2.2.1.2.2.2.1 | exact (hW).2.2.2.2.2.2.1.2.2.2 | exact (hW).2.2.2.2.2.2.2 | exact (hW).2.2.2.2.2.2.2.1 | exact (hW).2.2.2.2.2.2.2.1.1 | exact (hW).2.2.2.2.2.2.2.1.2 | exact (hW).2.2.2.2.2.2.2.1.2.1 | exact (hW).2.2.2.2.2.2.2.1.2.2.1 | exact (hW).2.2.2.2.2.2.2.1.2.2.2.1 | exact (hW).2.2.2.2.2.2.2.1.2.2.2 | exact (hW).2.2.2.2.2.2.2.2 | exact (hW).2.2.2.2.2.2.2.2.1 | exact (hW).2.2.2.2.2.2.2.2.1.1 | exact (hW).2.2.2.2.2.2.2.2.1.2 | exact (hW).2.2.2.2.2.2.2.2.1.2.1 | exact (hW).2.2.2.2.2.2.2.2.1.2.2.1 | exact (hW).2.2.2.2.2.2.2.2.1.2.2.2.1 | exact (hW).2.2.2.2.2.2.2.2.1.2.2.2 | exact (hW).2.2.2.2.2.2.2.2.2) : Sl.ok dStr W (some ⟨b, o, none⟩, pc) l)⟩ : Sv.ok dStr W (some ⟨b, o, none⟩, l.length, pc) l) hlt
        cases e
        exact ⟨_, hc, rfl⟩
      rintro v W rfl _
      simp [hN, e1, hlt, hltI, hnn]
      refine ⟨fun hdd => ret0 hC (0, _, 24) rfl fun _ _ _ => bad 24 (by decide), fun hnd => ?_⟩
      refine drawK ok mixed (by kernel_rfl) ?_
      simp (maxSteps := 2000000) -implicitDefEqProofs [hN, e1, hlt, hltI]
      refine ⟨by omega, ?_⟩
      refine call0 ok rfl rfl rfl (fun w I hI hG => walk0 w I hI s (ia, ic) (ba, bc) (l.take n1) true (fun W e => (hG W e).2) (fun W e => Sv.take (hsv W (hG W e).1.1) (by omega)) (fun n hn => hy.2.2 n (List.mem_of_mem_take hn)) (by rw [hT]; omega) hl) fun y W _ => ?_
      obtain ⟨no, e⟩ := y
      by_cases he : e = 0
      · subst he
        simp (maxSteps := 2000000) -implicitDefEqProofs [hN]
        refine call0 ok rfl rfl rfl (fun w I hI hG => findIno0 w I hI s (ia, ic) (ba, bc) no (fun W e => ((by first | exact (hG W e) | exact (hG W e).1 | exact (hG W e).1.1 | exact (hG W e).1.2 | exact (hG W e).1.2.1 | exact (hG W e).1.2.2.1 | exact (hG W e).1.2.2.2.1 | exact (hG W e).1.2.2.2 | exact (hG W e).2 | exact (hG W e).2.1 | exact (hG W e).2.1.1 | exact (hG W e).2.1.2 | exact (hG W e).2.1.2.1 | exact (hG W e).2.1.2.2.1 | exact (hG W e).2.1.2.2.2.1 | exact (hG W e).2.1.2.2.2 | exact (hG W e).2.2 | exact (hG W e).2.2.1 | exact (hG W e).2.2.1.1 | exact (hG W e).2.2.1.2 | exact (hG W e).2.2.1.2.1 | exact (hG W e).2.2.1.2.2.1 | exact (hG W e).2.2.1.2.2.2.1 | exact (hG W e).2.2.1.2.2.2 | exact (hG W e).2.2.2 | exact (hG W e).2.2.2.1 | exact (hG W e).2.2.2.1.1 | exact (hG W e).2.2.2.1.2 | exact (hG W e).2.2.2.1.2.1 | exact (hG W e).2.2.2.1.2.2.1 | exact (hG W e).2.2.2.1.2.2.2.1 | exact (hG W e).2.2.2.1.2.2.2 | exact (hG W e).2.2.2.2 | exact (hG W e).2.2.2.2.1 | exact (hG W e).2.2.2.2.1.1 | exact (hG W e).2.2.2.2.1.2 | exact (hG W e).2.2.2.2.1.2.1 | exact (hG W e).2.2.2.2.1.2.2.1 | exact (hG W e).2.2.2.2.1.2.2.2.1 | exact (hG W e).2.2.2.2.1.2.2.2 | exact (hG W e).2.2.2.2.2 | exact (hG W e).2.2.2.2.2.1 | exact (hG W e).2.2.2.2.2.1.1 | exact (hG W e).2.2.2.2.2.1.2 | exact (hG W e).2.2.2.2.2.1.2.1 | exact (hG W e).2.2.2.2.2.1.2.2.1 | exact (hG W e).2.2.2.2.2.1.2.2.2.1 | exact (hG W e).2.2.2.2.2.1.2.2.2 | exact (hG W e).2.2.2.2.2.2 | exact (hG W e).2.2.2.2.2.2.1 | exact (hG W e).2.2.2.2.2.2.1.1 | exact (hG W e).2.2.2.2.2.2.1.2 | exact (hG W e).2.2.2.2.2.2.1.2.1 | exact (hG W e).2.2.2.2.2.2.1.2.2.1 | exact (hG W e).2.2.2.2.2.2.1.2.2.2.1 | exact (hG W e).2.2.2.2.2.2.1.2.2.2 | exact (hG W e).2.2.2.2.2.2.2 | exact (hG W e).2.2.2.2.2.2.2.1 | exact (hG W e).2.2.2.2.2.2.2.1.1 | exact (hG W e).2.2.2.2.2.2.2.1.2 | exact (hG W e).2.2.2.2.2.2.2.1.2.1 | exact (hG W e).2.2.2.2.2.2.2.1.2.2.1 | exact (hG W e).2.2.2.2.2.2.2.1.2.2.2.1 | exact (hG W e).2.2.2.2.2.2.2.1.2.2.2 | exact (hG W e).2.2.2.2.2.2.2.2 | exact (hG W e).2.2.2.2.2.2.2.2.1 | exact (hG W e).2.2.2.2.2.2.2.2.1.1 | exact (hG W e).2.2.2.2.2.2.2.2.1.2 | exact (hG W e).2.2.2.2.2.2.2.2.1.2.1 | exact (hG W e).2.2.2.2.2.2.2.2.1.2.2.1 | exact (hG W e).2.2.2.2.2.2.2.2.1.2.2.2.1 | exact (hG W e).2.2.2.2.2.2.2.2.1.2.2.2 | exact (hG W e).2.2.2.2.2.2.2.2.2) : StaR W s (ia, ic) (ba, bc))) hl) fun y W hy2 => ?_
        obtain ⟨⟨x, ⟨xa, xc⟩, ⟨ya, yc⟩⟩, has⟩ := y
        have hx : x.kind = 2 → ∃ x, x ∈ s.inos ∧ x.no = no := fun hk => by
          cases has with
          | true => exact ⟨x, hy2.2.1 rfl⟩
          | false =>
            have := (hy2.2.2 rfl).1
            simp only at this
            rw [this] at hk
            exact absurd hk (by decide)
        by_cases hk : x.kind = 2
        · simp (maxSteps := 2000000) -implicitDefEqProofs [hN, hk]
          intro g11
          refine drawK ok mixed (by kernel_rfl) ?_
          simp (maxSteps := 2000000) -implicitDefEqProofs [hN, e1, hlt, hltI]
          refine load1 ok rfl rfl rfl rfl (fun v W => v = .string l[n1]) (fun W hW => ?_) ?_
          · obtain ⟨b', o', e, hc⟩ := str_get (hsv W (by first | exact (hW) | exact (hW).1 | exact (hW).1.1 | exact (hW).1.2 | exact (hW).1.2.1 | exact (hW).1.2.2.1 | exact (hW).1.2.2.2.1 | exact (hW).1.2.2.2 | exact (hW).2 | exact (hW).2.1 | exact (hW).2.1.1 | exact (hW).2.1.2 | exact (hW).2.1.2.1 | exact (hW).2.1.2.2.1 | exact (hW).2.1.2.2.2.1 | exact (hW).2.1.2.2.2 | exact (hW).2.2 | exact (hW).2.2.1 | exact (hW).2.2.1.1 | exact (hW).2.2.1.2 | exact (hW).2.2.1.2.1 | exact (hW).2.2.1.2.2.1 | exact (hW).2.2.1.2.2.2.1 | exact (hW).2.2.1.2.2.2 | exact (hW).2.2.2 | exact (hW).2.2.2.1 | exact (hW).2.2.2.1.1 | exact (hW).2.2.2.1.2 | exact (hW).2.2.2.1.2.1 | exact (hW).2.2.2.1.2.2.1 | exact (hW).2.2.2.1.2.2.2.1 | exact (hW).2.2.2.1.2.2.2 | exact (hW).2.2.2.2 | exact (hW).2.2.2.2.1 | exact (hW).2.2.2.2.1.1 | exact (hW).2.2.2.2.1.2 | exact (hW).2.2.2.2.1.2.1 | exact (hW).2.2.2.2.1.2.2.1 | exact (hW).2.2.2.2.1.2.2.2.1 | exact (hW).2.2.2.2.1.2.2.2 | exact (hW).2.2.2.2.2 | exact (hW).2.2.2.2.2.1 | exact (hW).2.2.2.2.2.1.1 | exact (hW).2.2.2.2.2.1.2 | exact (hW).2.2.2.2.2.1.2.1 | exact (hW).2.2.2.2.2.1.2.2.1 | exact (hW).2.2.2.2.2.1.2.2.2.1 | exact (hW).2.2.2.2.2.1.2.2.2 | exact (hW).2.2.2.2.2.2 | exact (hW).2.2.2.2.2.2.1 | exact (hW).2.2.2.2.2.2.1.1 | exact (hW).2.2.2.2.2.2.1.2 | exact (hW).2.2.2.2.2.2.1.2.1 | exact (hW).2.2.2.2.2.2.1.2.2.1 | exact (hW).2.2.2.2.2.2.1.2.2.2.1 | exact (hW).2.2.2.2.2.2.1.2.2.2 | exact (hW).2.2.2.2.2.2.2 | exact (hW).2.2.2.2.2.2.2.1 | exact (hW).2.2.2.2.2.2.2.1.1 | exact (hW).2.2.2.2.2.2.2.1.2 | exact (hW).2.2.2.2.2.2.2.1.2.1 | exact (hW).2.2.2.2.2.2.2.1.2.2.1 | exact (hW).2.2.2.2.2.2.2.1.2.2.2.1 | exact (hW).2.2.2.2.2.2.2.1.2.2.2 | exact (hW).2.2.2.2.2.2.2.2 | exact (hW).2.2.2.2.2.2.2.2.1 | exact (hW).2.2.2.2.2.2.2.2.1.1 | exact (hW).2.2.2.2.2.2.2.2.1.2 | exact (hW).2.2.2.2.2.2.2.2.1.2.1 | exact (hW).2.2.2.2.2.2.2.2.1.2.2.1 | exact (hW).2.2.2.2.2.2.2.2.1.2.2.2.1 | exact (hW).2.2.2.2.2.2.2.2.1.2.2.2 | exact (hW).2.2.2.2.2.2.2.2.2)) hlt
            cases e
            exact ⟨_, hc, rfl⟩
          rintro v W rfl _
          simp (maxSteps := 2000000) -implicitDefEqProofs [hN]
          exact ret0 hC (no, l[n1], 0) rfl fun _ _ _ => ⟨hy.2.2 _ hget, fun _ => hx hk⟩
        · simp (maxSteps := 2000000) -implicitDefEqProofs [hN, hk]
          intro g11
          exact ret0 hC (0, _, 13) rfl fun _ _ _ => bad 13 (by decide)
      · simp (maxSteps := 2000000) -implicitDefEqProofs [hN, he]
        exact ret0 hC (0, _, e) rfl fun _ _ _ => bad e he
  · simp [hN, he]
    exact ret0 hC (0, _, e) rfl fun _ _ _ => bad e he
set_option maxHeartbeats 1000000 in
theorem putDeed0 (w : World) (I : Nat → Prop) (hI : ∀ b, I b → b < w.heap.size) (x : Ino) (e r : Sl) :
    Fn0 Try.prog 123 #[.agg (inoC x e r).toArray] w I (fun _ : Unit => .agg (deeC ⟨2, 0, x⟩ e r).toArray) (fun _ _ => True) := by
  refine enter (svs := [.ag ((inoC x e r).map .v)]) tysOk Try.func123 rfl Try.ntmps123 Try.results123 (by kernel_rfl) (by simp) hI (fun _ => True) (fun _ _ => trivial) fun C hC hN ok => ?_
  simp [hN]
  intro g1 g2
  exact ret0 hC () rfl fun _ _ _ => trivial
set_option maxRecDepth 100000 in
set_option maxHeartbeats 1000000 in
/-- Open ones: none. -/
theorem letGo0 (w : World) (I : Nat → Prop) (hI : ∀ b, I b → b < w.heap.size) (x : Ino) (e r : Sl) (h : ∀ W, Ext I w W → InoR W x e r) :
    Fn0 Try.prog 128 #[.agg (inoC x e r).toArray, .slice none 0 0] w I (fun y : Dee × Sl × Sl => .agg (deeC y.1 y.2.1 y.2.2).toArray) (fun y W => InoR W y.1.ino y.2.1 y.2.2 ∧ (y.1.kind = 3 ∨ y.1.kind = 2 ∧ ∃ v, y.1.ino = { x with links := v })) := by
  refine enter (svs := [.ag ((inoC x e r).map .v), .c (.v (.slice none 0 0))]) tysOk Try.func128 rfl Try.ntmps128 Try.results128 (by kernel_rfl) (by simp) hI (fun W => InoR W x e r) h fun C hC hN ok => ?_
  obtain ⟨ea, ec⟩ := e
  obtain ⟨ra, rc⟩ := r
  by_cases hk : x.links ≤ 1
  · simp [hN, hk]
    intro g2 g4
    refine call0 ok rfl rfl rfl (fun w I hI hG => in0 w I hI [] x.no (fun W e => Sv.nil none 0)) fun y W hy => ?_
    simp at hy
    subst hy
    simp [hN]
    exact ret0 hC (⟨3, x.no, inoZ⟩, (none, 0), (none, 0)) rfl fun W _ _ => ⟨inoNilR W, .inl rfl⟩
  · simp [hN, hk]
    intro g2 g4
    refine call0 ok rfl rfl rfl (fun w I hI hG => putDeed0 w I hI { x with links := if 0 < IntKind.i64.wrap (x.links - 1) then IntKind.i64.wrap (x.links - 1) else 0 } (ea, ec) (ra, rc)) fun y W hy => ?_
    simp [hN]
    exact ret0 hC (⟨2, 0, { x with links := if 0 < IntKind.i64.wrap (x.links - 1) then IntKind.i64.wrap (x.links - 1) else 0 }⟩, (ea, ec), (ra, rc)) rfl fun W _ hG => ⟨(by first | exact (hG) | exact (hG).1 | exact (hG).1.1 | exact (hG).1.2 | exact (hG).1.2.1 | exact (hG).1.2.2.1 | exact (hG).1.2.2.2.1 | exact (hG).1.2.2.2 | exact (hG).2 | exact (hG).2.1 | exact (hG).2.1.1 | exact (hG).2.1.2 | exact (hG).2.1.2.1 | exact (hG).2.1.2.2.1 | exact (hG).2.1.2.2.2.1 | exact (hG).2.1.2.2.2 | exact (hG).2.2 | exact (hG).2.2.1 | exact (hG).2.2.1.1 | exact (hG).2.2.1.2 | exact (hG).2.2.1.2.1 | exact (hG).2.2.1.2.2.1 | exact (hG).2.2.1.2.2.2.1 | exact (hG).2.2.1.2.2.2 | exact (hG).2.2.2 | exact (hG).2.2.2.1 | exact (hG).2.2.2.1.1 | exact (hG).2.2.2.1.2 | exact (hG).2.2.2.1.2.1 | exact (hG).2.2.2.1.2.2.1 | exact (hG).2.2.2.1.2.2.2.1 | exact (hG).2.2.2.1.2.2.2 | exact (hG).2.2.2.2 | exact (hG).2.2.2.2.1 | exact (hG).2.2.2.2.1.1 | exact (hG).2.2.2.2.1.2 | exact (hG).2.2.2.2.1.2.1 | exact (hG).2.2.2.2.1.2.2.1 | exact (hG).2.2.2.2.1.2.2.2.1 | exact (hG).2.2.2.2.1.2.2.2 | exact (hG).2.2.2.2.2 | exact (hG).2.2.2.2.2.1 | exact (hG).2.2.2.2.2.1.1 | exact (hG).2.2.2.2.2.1.2 | exact (hG).2.2.2.2.2.1.2.1 | exact (hG).2.2.2.2.2.1.2.2.1 | exact (hG).2.2.2.2.2.1.2.2.2.1 | exact (hG).2.2.2.2.2.1.2.2.2 | exact (hG).2.2.2.2.2.2 | exact (hG).2.2.2.2.2.2.1 | exact (hG).2.2.2.2.2.2.1.1 | exact (hG).2.2.2.2.2.2.1.2 | exact (hG).2.2.2.2.2.2.1.2.1 | exact (hG).2.2.2.2.2.2.1.2.2.1 | exact (hG).2.2.2.2.2.2.1.2.2.2.1 | exact (hG).2.2.2.2.2.2.1.2.2.2 | exact (hG).2.2.2.2.2.2.2 | exact (hG).2.2.2.2.2.2.2.1 | exact (hG).2.2.2.2.2.2.2.1.1 | exact (hG).2.2.2.2.2.2.2.1.2 | exact (hG).2.2.2.2.2.2.2.1.2.1 | exact (hG).2.2.2.2.2.2.2.1.2.2.1 | exact (hG).2.2.2.2.2.2.2.1.2.2.2.1 | exact (hG).2.2.2.2.2.2.2.1.2.2.2 | exact (hG).2.2.2.2.2.2.2.2 | exact (hG).2.2.2.2.2.2.2.2.1 | exact (hG).2.2.2.2.2.2.2.2.1.1 | exact (hG).2.2.2.2.2.2.2.2.1.2 | exact (hG).2.2.2.2.2.2.2.2.1.2.1 | exact (hG).2.2.2.2.2.2.2.2.1.2.2.1 | exact (hG).2.2.2.2.2.2.2.2.1.2.2.2.1 | exact (hG).2.2.2.2.2.2.2.2.1.2.2.2 | exact (hG).2.2.2.2.2.2.2.2.2), .inr ⟨rfl, _, rfl⟩⟩
set_option maxHeartbeats 1000000 in
theorem mayTake0 (w : World) (I : Nat → Prop) (hI : ∀ b, I b → b < w.heap.size) (x y : Ino) (e r e' r' : Sl) :
    Fn0 Try.prog 126 #[.agg (inoC x e r).toArray, .agg (inoC y e' r').toArray] w I (fun v : Int => .int .i64 v) (fun _ _ => True) := by
  refine enter (svs := [.ag ((inoC x e r).map .v), .ag ((inoC y e' r').map .v)]) tysOk Try.func126 rfl Try.ntmps126 Try.results126 (by kernel_rfl) (by simp) hI (fun _ => True) (fun _ _ => trivial) fun C hC hN ok => ?_
  by_cases k1 : x.kind = 2 <;> by_cases k2 : y.kind = 2
  · simp [hN, k1, k2]
    intro g2 g3
    exact ⟨fun _ => ret0 hC 15 rfl fun _ _ _ => trivial, fun _ => ret0 hC 0 rfl fun _ _ _ => trivial⟩
  · simp [hN, k1, k2]
    intro g2 g3
    exact ret0 hC 13 rfl fun _ _ _ => trivial
  · simp [hN, k1, k2]
    intro g2 g3
    exact ret0 hC 14 rfl fun _ _ _ => trivial
  · simp [hN, k1, k2]
    intro g2 g3
    exact ⟨fun _ => ret0 hC 15 rfl fun _ _ _ => trivial, fun _ => ret0 hC 0 rfl fun _ _ _ => trivial⟩
end Go.Proofs.Ytbbaoeidobdblaa.Sx

/- entry of the reference: the directory, the name, and the inode that it leads to. -/
set_option linter.unusedVariables false
set_option linter.unusedSimpArgs false
namespace Go.Proofs.Ytbbaoeidobdblaa.Sx
open Go
attribute [local simp ↓] ifb_true' ifb_false'
attribute [local simp] ifb_true ifb_false ifb_eq sx argsT find ev evOp evs evo evBin evInt evStr evNil evNilA ptrA slcA isNoneA asB evLoad look del cellsB evUn evConv kdec fld evFieldA evField evIdxA evIdx evSlc bndL bndH evLen mmi put resV guardV gvL setO tupV cellsOf ones one upd lits nv exitTo SV.val CV.val TI.agg rdyA allR keepB scan simpO gsp isS subs keepT pickT wr memN pubs Res.fact Region.binds bld rest give delL back Res.eqv vi vb num Sv.val undef
/-- An inode, and where its entries and runs are. -/
abbrev Inx := Ino × Sl × Sl
def Inx.r (W : World) (x : Inx) : Prop := InoR W x.1 x.2.1 x.2.2
set_option maxRecDepth 100000 in
set_option maxHeartbeats 4000000 in
theorem entry0 (w : World) (I : Nat → Prop) (hI : ∀ b, I b → b < w.heap.size) (s : Sta) (si sb : Sl) (path : ByteArray) (h : ∀ W, Ext I w W → StaR W s si sb) (hl : s.inos.length ≤ 1000000000) :
    Fn0 Try.prog 124 #[.agg (staC s si sb).toArray, .string path] w I (fun y : Inx × ByteArray × Inx × Int => .tuple #[.agg (inoC y.1.1 y.1.2.1 y.1.2.2).toArray, .string y.2.1, .agg (inoC y.2.2.1.1 y.2.2.1.2.1 y.2.2.1.2.2).toArray, .int .i64 y.2.2.2]) (fun y W => Inx.r W y.1 ∧ Inx.r W y.2.2.1 ∧ y.2.1.size ≤ 32 ∧ (y.1.1 ∈ s.inos ∨ y.1.1 = inoZ ∧ y.2.2.2 ≠ 0) ∧ (y.2.2.2 = 0 → y.1.1 ∈ s.inos ∧ y.2.2.1.1 ∈ s.inos)) := by
  refine enter (svs := [.ag ((staC s si sb).map .v), .c (.v (.string path))]) tysOk Try.func124 rfl Try.ntmps124 Try.results124 (by kernel_rfl) (by simp) hI (fun W => StaR W s si sb) h fun C hC hN ok => ?_
  obtain ⟨ia, ic⟩ := si
  obtain ⟨ba, bc⟩ := sb
  simp [hN]
  intro g2 g4 g6
  refine call0 ok rfl rfl rfl (fun w I hI hG => parent0 w I hI s (ia, ic) (ba, bc) path hG hl) fun y W hp => ?_
  obtain ⟨dir, nm, e⟩ := y
  by_cases he : e = 0
  · subst he
    simp (maxSteps := 2000000) -implicitDefEqProofs [hN]
    refine call0 ok rfl rfl rfl (fun w I hI hG => findIno0 w I hI s (ia, ic) (ba, bc) dir (fun W e => (hG W e).2) hl) fun y W hd => ?_
    obtain ⟨⟨d, ⟨da, dc⟩, ⟨ra, rc⟩⟩, has⟩ := y
    have hdi : d ∈ s.inos := by
      cases has with
      | true => exact (hd.2.1 rfl).1
      | false =>
        obtain ⟨z, hz, hn⟩ := hp.2 rfl
        exact absurd hn ((hd.2.2 rfl).2 z hz)
    simp (maxSteps := 2000000) -implicitDefEqProofs [hN]
    intro g11
    refine call0 ok rfl rfl rfl (fun w I hI hG => find0 w I hI d.ents nm (fun W e => ⟨rfl, (hG W e).1.1.1⟩)) fun y W hf => ?_
    obtain ⟨no, is⟩ := y
    simp (maxSteps := 2000000) -implicitDefEqProofs [hN]
    refine call0 ok rfl rfl rfl (fun w I hI hG => findIno0 w I hI s (ia, ic) (ba, bc) no (fun W e => (hG W e).2.2.2) hl) fun y W hx => ?_
    obtain ⟨⟨x, ⟨xa, xc⟩, ⟨ya, yc⟩⟩, there⟩ := y
    by_cases hb : is = true ∧ there = true
    · obtain ⟨rfl, rfl⟩ := hb
      simp (maxSteps := 2000000) -implicitDefEqProofs [hN]
      intro g15
      refine draw ok [(11, .box g11 39 ((inoC d (da, dc) (ra, rc)).map .v)), (15, .box g15 39 ((inoC x (xa, xc) (ya, yc)).map .v))] (by rw [ok.P]; exact mixed) (by kernel_rfl) ?_
      simp (maxSteps := 2000000) -implicitDefEqProofs [hN]
      exact ret0 hC ((d, (da, dc), (ra, rc)), nm, (x, (xa, xc), (ya, yc)), 0) rfl fun W _ hG => ⟨hG.2.2.1.1, hG.1.1, hp.1, .inl hdi, fun _ => ⟨hdi, hG.1.2.1⟩⟩
    · have hr : ∀ W, Inx.r W (d, (da, dc), (ra, rc)) → Inx.r W (d, (da, dc), (ra, rc)) ∧ Inx.r W (inoZ, (none, 0), (none, 0)) ∧ nm.size ≤ 32 ∧ (d ∈ s.inos ∨ d = inoZ ∧ (11 : Int) ≠ 0) ∧ ((11 : Int) = 0 → d ∈ s.inos ∧ inoZ ∈ s.inos) := fun W hW => ⟨hW, inoNilR W, hp.1, .inl hdi, fun h => absurd h (by decide)⟩
      cases is with
      | false =>
        simp (maxSteps := 2000000) -implicitDefEqProofs [hN]
        intro g15
        exact ret0 hC ((d, (da, dc), (ra, rc)), nm, (inoZ, (none, 0), (none, 0)), 11) rfl fun W _ hG => hr W hG.2.2.1.1
      | true =>
        obtain rfl : there = false := by cases there <;> simp at hb ⊢
        simp (maxSteps := 2000000) -implicitDefEqProofs [hN]
        intro g15
        exact ret0 hC ((d, (da, dc), (ra, rc)), nm, (inoZ, (none, 0), (none, 0)), 11) rfl fun W _ hG => hr W hG.2.2.1.1
  · simp (maxSteps := 2000000) -implicitDefEqProofs [hN, he]
    exact ret0 hC ((inoZ, (none, 0), (none, 0)), _, (inoZ, (none, 0), (none, 0)), e) rfl fun W _ _ => ⟨inoNilR W, inoNilR W, show (ByteArray.mk #[]).size ≤ 32 by decide, .inr ⟨rfl, he⟩, fun h => absurd h he⟩
end Go.Proofs.Ytbbaoeidobdblaa.Sx

/- A queue of numbers of one's own: what is seen of its row may begin behind the row's begin. -/
set_option linter.unusedVariables false
set_option linter.unusedSimpArgs false
namespace Go.Proofs.Ytbbaoeidobdblaa.Sx
open Go
attribute [local simp ↓] ifb_true' ifb_false'
attribute [local simp] ifb_true ifb_false ifb_eq sx argsT find ev evOp evs evo evBin evInt evStr evNil evNilA ptrA slcA isNoneA asB evLoad look del cellsB evUn evConv kdec fld evFieldA evField evIdxA evIdx evSlc bndL bndH evLen mmi put resV guardV gvL setO tupV cellsOf ones one upd lits nv exitTo SV.val CV.val TI.agg rdyA allR keepB scan simpO gsp isS subs keepT pickT wr memN pubs Res.fact Region.binds bld rest give delL back Res.eqv vi vb num Sv.val undef
section
variable {P : Program} {C : Ctx} {T : Ty} {res : List ResultVar} {p : Pos} {tm : Tm} {m : Mem}
def quR (e : TypeId) (b off n c : Nat) (l : List Int) : Res := .usr fun S W => (∀ x, S x ↔ x = b) ∧ l.length = n ∧ n ≤ c ∧ c ≤ 9223372036854775807 ∧ ∃ cur : Array Value, W.heap[b]? = some (.cells cur e (0, 0)) ∧ off + c ≤ cur.size ∧ ∀ j (h : j < l.length), cur[off + j]? = some (.int .i64 l[j])
theorem quR_get {e : TypeId} {b off n c : Nat} {l : List Int} {S : Nat → Prop} {w : World} (h : (quR e b off n c l).holds S w) : (∀ x, S x ↔ x = b) ∧ l.length = n ∧ n ≤ c ∧ c ≤ 9223372036854775807 ∧ ∃ cur : Array Value, w.heap[b]? = some (.cells cur e (0, 0)) ∧ off + c ≤ cur.size ∧ ∀ j (h : j < l.length), cur[off + j]? = some (.int .i64 l[j]) := h w (Ext.refl _ _)
theorem quR_of {e : TypeId} {b off n c : Nat} {l : List Int} {S : Nat → Prop} {w : World} (hS : ∀ x, S x ↔ x = b) (h1 : l.length = n) (h2 : n ≤ c) (h3 : c ≤ 9223372036854775807) (cur : Array Value) (h4 : w.heap[b]? = some (.cells cur e (0, 0))) (h5 : off + c ≤ cur.size) (h6 : ∀ j (h : j < l.length), cur[off + j]? = some (.int .i64 l[j])) : (quR e b off n c l).holds S w :=
  fun W x => ⟨hS, h1, h2, h3, cur, (x.block b ((hS b).2 rfl)).trans h4, h5, h6⟩
/-- A row of one's own becomes a queue. -/
theorem quOf (k : Nat) {g n c : Nat} {e : TypeId} {l : List Int} (hl : look k m.rs = some (.row (some ⟨g, 0, none⟩) n c e 1 (l.map fun y => CV.v (.int .i64 y)))) (h : At C p tm ⟨m.B, m.G, (k, quR e g 0 n c l) :: del k (del k m.rs)⟩) : At C p tm m := by
  rintro a w cs hR ⟨I, F, hi⟩
  have o1 := hi.own _ (look_mem hl)
  obtain ⟨h1, h2, h3⟩ := id o1
  simp only [List.length_map] at h2
  rcases h3 with ⟨h4, _⟩ | ⟨g', cap, cur, h4, _, h5, h6, h7, h8, h9⟩
  · cases h4
  · obtain ⟨rfl, rfl⟩ : g = g' ∧ c = cap := by simpa using h4
    refine h a w cs hR ⟨I, _, hi.upd k k (quR e g 0 n c l) (fun b => b = g) (fun b => b = g) (fun b hb => ⟨(h1 b).2 (by rw [hb]; rfl), _, look_mem hl⟩) (Ext.refl (fun b => b < w.heap.size ∧ ¬ b = g) w) (quR_of (fun x => Iff.rfl) (by omega) h6 (by unfold maxLen at h7; omega) cur h5 (by omega) fun j hj => ?_) (fun b hb => ⟨(hi.Fsz _ b (look_mem hl) ((h1 b).2 (by rw [hb]; rfl))).1, .inl hb⟩) id⟩
    have e1 : (cur.toList.take (n * 1))[j]? = some (.int .i64 l[j]) := by
      rw [h9]
      simp [CV.val, hj]
    rw [List.getElem?_take] at e1
    split at e1
    · simpa using e1
    · cases e1
/-- Its first number is taken away. -/
theorem quTail (k : Nat) {b off n c : Nat} {e : TypeId} {x : Int} {l : List Int} (hl : look k m.rs = some (quR e b off (n + 1) c (x :: l))) (h : At C p tm ⟨m.B, m.G, (k, quR e b (if c = 1 then off else off + 1) n (c - 1) l) :: del k (del k m.rs)⟩) : At C p tm m := by
  rintro a w cs hR ⟨I, F, hi⟩
  have o1 := hi.own _ (look_mem hl)
  obtain ⟨h1, h2, h3, h4, cur, h5, h6, h7⟩ := quR_get o1
  simp only [List.length_cons] at h2
  refine h a w cs hR ⟨I, _, hi.upd k k _ (fun x => x = b) (fun x => x = b) (fun y hy => ⟨(h1 y).2 hy, _, look_mem hl⟩) (Ext.refl (fun y => y < w.heap.size ∧ ¬ y = b) w) (quR_of (fun x => Iff.rfl) (by omega) (by omega) (by omega) cur h5 (by split <;> omega) fun j hj => ?_) (fun y hy => ⟨(hi.Fsz _ y (look_mem hl) ((h1 y).2 hy)).1, .inl hy⟩) id⟩
  have := h7 (j + 1) (by simpa using hj)
  simp only [List.getElem_cons_succ] at this
  rw [if_neg (by omega), ← this]
  congr 1
  omega
/-- Its first number is read. -/
theorem quLd (ok : Okc P T C res) (k : Nat) {o : Oper} {t : TypeId} {x : Operand} (ho : o.op = .load t x) {b off n c : Nat} {e : TypeId} {v : Int} {l : List Int} (hk : look k m.rs = some (quR e b off n c (v :: l))) (hx : ev tm x = some (.c (.v (.pointer (some ⟨b, off, none⟩))))) {i : TI} (hi : tf t T = some i) (ha : i.agg = false)
    (kk : sx T C res 1000 p (put C.n o.dst (.c (.v (.int .i64 v))) tm) m) : At C (.op o p) tm m := by
  rintro a w cs hR ⟨I, F, hJ⟩
  obtain ⟨_, _, _, _, cur, h5, _, h7⟩ := quR_get (hJ.own _ (look_mem hk))
  have hv : w.cell? ⟨b, off, none⟩ = some (.int .i64 v) := by
    have := h7 0 (by simp)
    simp only [Nat.add_zero, List.getElem_cons_zero] at this
    simp only [World.cell?, h5]
    simpa using this
  refine op_value (v := .int .i64 v) (ok.sx kk) ?_ (by have h2 := hR.put o.dst (.c (.v (.int .i64 v))); simpa only [SV.val, CV.val] using h2) ⟨I, F, hJ⟩
  have e1 := hR.eval hx
  simp only [SV.val, CV.val] at e1
  simp [execOp, ho, Instr.loadAt, e1, Instr.sureAddr, load_one (ok.ty.get hi) hv ha, SV.val, CV.val]
/-- A number is appended to it. -/
theorem quApp (ok : Okc P T C res) (k k' : Nat) {o : Oper} {s x : Operand} {t d : Nat} (ho : o.op = .call ⟨.builtin .append, #[s, x], #[t, t]⟩) (hd : o.dst = some d) {i ie : TI} (hi : tf t T = some i) (hik : i.kd = 3) (hie : tf i.el T = some ie) (hsz : ie.sz = 1) (hzl : ie.zero.length = ie.sz)
    {b off n c g c' : Nat} {l : List Int} {y : Int} {u v : SV} (hk : look k m.rs = some (quR i.el b off n c l)) (hs : ev tm s = some u) (hu : u.val = .slice (some ⟨b, off, none⟩) n c) (hk' : look k' m.rs = some (.row (some ⟨g, 0, none⟩) 1 c' i.el 1 [.v (.int .i64 y)])) (hx : ev tm x = some v) (hv : v.val = .slice (some ⟨g, 0, none⟩) 1 c')
    (hb : (n + 1) * ie.bt ≤ 140737488355328) (hmx : n + 1 ≤ 140737488355328)
    (kk : ∀ b' off' c'', n + 1 ≤ c'' → sx T C res 1000 p (put C.n (some d) (.c (.v (.slice (some ⟨b', off', none⟩) (n + 1) c''))) tm) ⟨m.B, m.G, (k, quR i.el b' off' (n + 1) c'' (l ++ [y])) :: del k (del k m.rs)⟩) : At C (.op o p) tm m := by
  rintro act w cs0 hR ⟨I, F, hJ⟩
  have o1 := hJ.own _ (look_mem hk)
  have o2 := hJ.own _ (look_mem hk')
  obtain ⟨h1, h2, h3, h4, cur, h5, h6, h7⟩ := quR_get o1
  have hcy : w.cell? ⟨g, 0, none⟩ = some (.int .i64 y) := by
    have := holds_cells o2 (g := g) (cs := [.v (.int .i64 y)]) rfl 0 (by simp)
    simpa [CV.val] using this
  have hnews : ∀ j u, ([Value.int .i64 y])[j]? = some u → w.cell? ((⟨g, 0, none⟩ : Addr).add j) = some u := fun j u hj => by
    cases j with
    | zero => simp at hj; subst hj; simpa [Addr.add] using hcy
    | succ j => simp at hj
  obtain ⟨ti, hti, hsz', hbt, z, hz, hzc⟩ := (ok.ty.get hie).g_some
  have hut := (ok.ty.get hi).g_slice hik
  have hts : ti.size = 1 := by omega
  have hlt := (Array.getElem?_eq_some_iff.1 h5).1
  have e1 : act.eval s = .slice (some ⟨b, off, none⟩) n c := by rw [hR.eval hs, hu]
  have e2 : act.eval x = .slice (some ⟨g, 0, none⟩) 1 c' := by rw [hR.eval hx, hv]
  by_cases hroom : n + 1 ≤ c
  · have hcell : ∀ j, j < ([Value.int .i64 y]).length → (w.cell? ⟨b, off + n * ti.size + j, none⟩).isSome = true := fun j hj => by
      simp at hj
      subst hj
      simp only [World.cell?, h5, hts]
      simp
      omega
    have hfr : ∀ j, j < ([Value.int .i64 y]).length → w.frozen? ⟨b, off + n * ti.size + j, none⟩ = false := fun j hj => by
      simp [World.frozen?, h5]
    have hr := run_append_room_cells (P := C.P) w t o.type i.el ti hut hti b off n c ⟨g, 0, none⟩ 1 c' [.int .i64 y] (by simp [hts]) hnews (by simp [Value.oneCell']) hroom hcell hfr
    have hw : w.setCells b (off + n * ti.size) [.int .i64 y] = w.setCell ⟨b, off + n, none⟩ (.int .i64 y) := by simp [World.setCells, hts]
    rw [hw] at hr
    have hrun : (execOp act.eval o).run C.P w = .ok (.value (.slice (some ⟨b, off, none⟩) (n + 1) c)) (w.setCell ⟨b, off + n, none⟩ (.int .i64 y)) := by
      simp [execOp, ho, resolve, invoke, builtin, e1, e2, hr]
    have hheap : (w.setCell ⟨b, off + n, none⟩ (.int .i64 y)).heap[b]? = some (.cells (cur.setIfInBounds (off + n) (.int .i64 y)) i.el (0, 0)) := by
      simp [World.setCell, Array.getElem?_modify, h5]
    have hup := hJ.upd k k (quR i.el b off (n + 1) c (l ++ [y])) (fun x => x = b) (fun x => x = b) (fun q hq => ⟨(h1 q).2 hq, _, look_mem hk⟩) (Ext.setCell (fun q => q < w.heap.size ∧ ¬ q = b) w ⟨b, off + n, none⟩ (.int .i64 y) fun q hq => hq.2) (quR_of (fun x => Iff.rfl) (by simp [h2]) hroom h4 _ hheap (by simpa using h6) fun j hj => by
      rcases Nat.lt_or_ge j l.length with hj2 | hj2
      · rw [Array.getElem?_setIfInBounds_ne (by omega), h7 j hj2, List.getElem_append_left hj2]
      · obtain rfl : j = n := by simp at hj; omega
        have e9 : (l ++ [y])[j]? = some y := by rw [← h2]; simp
        rw [List.getElem?_eq_getElem hj] at e9
        rw [Array.getElem?_setIfInBounds_self_of_lt (by omega), Option.some.inj e9]) (fun q hq => by subst hq; exact ⟨by simp [World.setCell]; exact hlt, .inl rfl⟩) id
    exact op_value (ok.sx (kk b off c hroom)) hrun (by rw [hd]; exact hR.put (some d) (.c (.v (.slice (some ⟨b, off, none⟩) (n + 1) c)))) ⟨I, _, hup⟩
  · have holds : ∀ j u, (l.map (Value.int .i64))[j]? = some u → w.cell? ((⟨b, off, none⟩ : Addr).add j) = some u := fun j u hj => by
      rw [List.getElem?_map] at hj
      rcases Nat.lt_or_ge j l.length with hj2 | hj2
      · rw [List.getElem?_eq_getElem hj2] at hj
        simp only [Option.map_some, Option.some.injEq] at hj
        subst hj
        simp only [addr_add, World.cell?, h5]
        simpa using h7 j hj2
      · rw [List.getElem?_eq_none hj2] at hj
        cases hj
    obtain ⟨v', w', hrun, ⟨r0, r1⟩, r2⟩ := run_append_arg_grows (P := C.P) w t o.type i.el ti z 1 ie.bt hut hti hz hts hbt (by rw [← Array.length_toList, hzc, hzl, hsz]) (by omega) ⟨b, off, none⟩ n c (l.map (Value.int .i64)) (by simp [h2]) holds ⟨g, 0, none⟩ 1 c' [.int .i64 y] (by simp) hnews (by omega) (by unfold maxLen; omega) hb
    rcases r1 with ⟨_, hn⟩ | ⟨g', cap, cur', hv', hg', hh, k1, k2, k3, k4⟩
    · omega
    subst hv'
    have hrun : (execOp act.eval o).run C.P w = .ok (.value (.slice (some ⟨g', 0, none⟩) (n + 1) cap)) w' := by
      simp [execOp, ho, resolve, invoke, builtin, e1, e2, hrun]
    have hlt' := (Array.getElem?_eq_some_iff.1 hh).1
    have hup := hJ.upd k k (quR i.el g' 0 (n + 1) cap (l ++ [y])) noS (fun x => x = g') (fun q hq => hq.elim) ⟨r2.os, r2.tape, r2.output, r2.size, fun q hq => r2.block q hq.1 (by simp)⟩ (quR_of (fun x => Iff.rfl) (by simp [h2]) k1 (by unfold maxLen at k2; omega) cur' hh (by omega) fun j hj => by
      have e3 : (cur'.toList.take ((n + 1) * 1))[j]? = some (.int .i64 (l ++ [y])[j]) := by
        rw [k4]
        have : l.map (Value.int .i64) ++ [Value.int .i64 y] = (l ++ [y]).map (Value.int .i64) := by simp
        rw [this, List.getElem?_map, List.getElem?_eq_getElem hj]
        rfl
      rw [List.getElem?_take] at e3
      split at e3
      · simpa using e3
      · cases e3) (fun q hq => by subst hq; exact ⟨hlt', .inr hg'⟩) id
    exact op_value (ok.sx (kk g' 0 cap k1)) hrun (by rw [hd]; exact hR.put (some d) (.c (.v (.slice (some ⟨g', 0, none⟩) (n + 1) cap)))) ⟨I, _, hup⟩
end
end Go.Proofs.Ytbbaoeidobdblaa.Sx

/- Laid together: Sk85, Sk81, Sk83, Sk86, Sk88, Sk87, Sk89, Sk91, Sk92, Sk93. -/
import Derived.Test.YtbbaoeidobdblaaGreatJI7
/- ref09.Unpack. -/
set_option linter.unusedVariables false
set_option linter.unusedSimpArgs false
namespace Go.Proofs.YtbbaoeidobdblaaGreat.Sx
open Go
attribute [local simp ↓] ifb_true' ifb_false'
attribute [local simp] ifb_true ifb_false ifb_eq sx argsT find ev evOp evs evo evBin evInt evStr evNil evNilA ptrA slcA isNoneA asB evLoad look del cellsB evUn evConv kdec fld evFieldA evField evIdxA evIdx evSlc bndL bndH evLen mmi put resV guardV gvL setO tupV cellsOf ones one upd lits nv exitTo SV.val CV.val TI.agg rdyA allR keepB scan simpO gsp isS subs keepT pickT wr memN pubs Res.fact Region.binds bld rest give delL back Res.eqv vi vb num Sv.val undef
theorem getR_one {xs : List Int} {o : Nat} (h : o < xs.length) : getR xs (o, 0) 1 = (xs[o], (o + 1, 0)) := by
  unfold getR
  simp only [ne_eq, not_true, if_false]
  rw [if_neg (by omega)]
  have e : (xs.drop o).take 1 = [xs[o]] := by rw [List.drop_eq_getElem_cons h]; rfl
  rw [e]
  simp [valB]
set_option maxHeartbeats 4000000 in
set_option maxRecDepth 100000 in
theorem refUnpack0 (w : World) (I : Nat → Prop) (hI : ∀ b, I b → b < w.heap.size) {a : Option Addr} {n c : Nat} (xs : List Int) (hx10 : xs.length ≤ 10000000000) (h : ∀ W, Ext I w W → Sv.ok dByte W (a, n, c) xs) (hb : ∀ x, x ∈ xs → 0 ≤ x ∧ x ≤ 255) :
    Fn0 Tryz.prog 126 #[.slice a n c] w I (fun s : Sl × Int => .tuple #[.slice s.1.1 (parseM xs).1.length s.1.2, .int .i64 s.2]) (fun s W => (s.2 = 0 ↔ (parseM xs).2 = 0) ∧ s.1.ok dDee W (parseM xs).1) := by
  obtain rfl : n = xs.length := (h w (Ext.refl _ _)).1
  refine enter (svs := [.c (.v (.slice a xs.length c))]) tysOk Tryz.func126 rfl Tryz.ntmps126 Tryz.results126 (by kernel_rfl) (by simp) hI (fun W => Sv.ok dByte W (a, xs.length, c) xs) h fun C hC hN ok => ?_
  simp [hN]
  intro g9
  have nilR : ∀ W, InoR W inoZ (none, 0) (none, 0) := fun W => ⟨⟨by simp [inoZ], by simp [inoZ], rd_nil _ _ _⟩, ⟨by simp [inoZ], by simp [inoZ], rd_nil _ _ _⟩⟩
  refine nilr 600 46 9 (retell 9 (by simp; rfl) (r' := rdQ g9 a xs.length c 0 0) (by simp [Res.eqv]) (loopK [0, 4] ok (fun y : Nat × List Dee × Sl × List CV => [(5, .c (.rw 600 y.2.2.1.1 y.2.1.length y.2.2.1.2))]) (fun y => [(9, rdQ g9 a xs.length c y.1 0), (600, .row y.2.2.1.1 y.2.1.length y.2.2.1.2 46 9 y.2.2.2)]) (fun y W => y.1 ≤ xs.length ∧ y.2.1.length ≤ y.1 ∧ Rows dDee W y.2.1 (y.2.2.2.map CV.val) ∧ parseM xs = combP y.2.1 (parseN xs (xs.length - y.1) y.1)) (fun y => xs.length - y.1) (0, [], (none, 0), []) ?_ ?_ (fun W hW => ⟨Nat.zero_le _, Nat.le_refl _, rows_nil _ _, ?_⟩) ?_))
  · simp
  · simp
  · exact combP_nil _ _ _
  rintro ⟨o, acc, ⟨ra, rc⟩, cs⟩ W ⟨ho, hacc, hrow, hspec⟩ hG next
  simp only at ho hacc hrow hspec
  rcases Nat.lt_or_ge o xs.length with hlt | hge
  · obtain ⟨b, off, e, _⟩ := byte_get hG hlt
    cases e
    have hx := hb _ (List.getElem_mem hlt)
    have h1R := getR_one hlt
    have hD := deeR.eq_1 xs o
    rw [h1R] at hD
    have hget : ∀ W, Sv.ok dByte W (some ⟨b, off, none⟩, xs.length, c) xs → ∃ v, W.cell? ⟨b, off + o, none⟩ = some v ∧ v = .int .u8 xs[o] := fun W hW => by
      obtain ⟨b'', o'', e, hc⟩ := byte_get hW hlt
      cases e
      exact ⟨_, hc, rfl⟩
    generalize xs[o] = v at hx hget hD
    simp only at hD
    have hP : parseN xs (xs.length - o) o = parseN xs (xs.length - o - 1 + 1) o := by rw [show xs.length - o - 1 + 1 = xs.length - o by omega]
    rw [parseN, if_neg (by omega)] at hP
    have e1 : IntKind.i64.wrap v = v := w64 (by omega) (by omega)
    have e2 : IntKind.i64.wrap ((o : Int) + 1) = (o + 1 : Nat) := by rw [w64 (by omega) (by omega)]; omega
    have hbad : ∀ (m : Mem) (e : Int), e ≠ 0 → (deeR xs o).2.2 ≠ 0 → RetP C (.tuple #[.slice none 0 0, .int .i64 e]) m := fun m e he hne => by
      rw [if_pos hne] at hP
      have hc : parseM xs = ([], (deeR xs o).2.2) := by rw [hspec, hP]; unfold combP; rw [if_pos hne]
      rw [hc] at hC
      exact ret0 hC ((none, 0), e) rfl fun W _ _ => ⟨⟨fun h => absurd h he, fun h => absurd h hne⟩, Nat.zero_le _, Nat.zero_le _, rd_nil _ _ _⟩
    have hgood : (deeR xs o).2.2 = 0 → parseM xs = combP (acc ++ [(deeR xs o).1]) (parseN xs (xs.length - (deeR xs o).2.1) (deeR xs o).2.1) := fun he => by
      have hle := deeR_le he
      rw [if_neg (by simp [he])] at hP
      have hf := parse_fuel xs (xs.length - o - 1) (xs.length - (deeR xs o).2.1) (deeR xs o).2.1 (by omega) (Nat.le_refl _)
      rw [hf] at hP
      rw [hspec, hP]
      generalize parseN xs (xs.length - (deeR xs o).2.1) (deeR xs o).2.1 = P
      by_cases h : P.2 = 0 <;> simp [combP, h]
    simp [hN, hlt]
    refine load1 ok rfl rfl rfl rfl (fun u W => u = .int .u8 v) (fun W hW => hget W hW.2) ?_
    rintro v' W rfl _
    simp [hN, e1, e2]
    intro g6
    by_cases h1 : v = 1 ∨ v = 3 ∨ v = 4
    · rw [if_pos h1] at hD
      have hrn := intR_le (l := xs) (r := (o + 1, 0))
      rcases h1 with rfl | rfl | rfl
      · simp [hN]
        refine callS ok rfl rfl rfl [9] [rdQ g9 (some ⟨b, off, none⟩) xs.length c (o + 1) 0] (by simp) rfl (fun _ : Int => [(9, rdQ g9 (some ⟨b, off, none⟩) xs.length c (o + 9) (intR xs (o + 1, 0)).2.2)]) (fun w I S hI hG hO hS' => refNum0 w I S hI g9 xs (fun W e => (by first | exact (hG W e) | exact (hG W e).2 | exact (hG W e).2.2 | exact (hG W e).2.2.2 | exact (hG W e).2.2.2.2 | exact (hG W e).2.2.2.2.2 | exact (hG W e).2.2.2.2.2.2 | exact (hG W e).2.2.2.2.2.2.2 | exact (hG W e).2.2.2.2.2.2.2.2)) hb (o + 1) (o + 1, 0) (by omega) (fun _ => rfl) hO hS') (fun r => by simp [Int.add_assoc]) (.inl fun x hx => by simp at hx; subst hx; decide) fun v5 W hv5 => ?_
        obtain rfl := hv5 rfl
        by_cases h0 : (intR xs (o + 1, 0)).2.2 = 0
        · have hle := hrn h0
          simp [hN, h0]
          intro g53
          refine appR ok 600 53 rfl rfl rfl rfl rfl (by decide) rfl rfl rfl rfl rfl rfl rfl (by decide) (by simp) (by show (_ + 1) * 112 ≤ _; omega) (by omega) fun g' c' => ?_
          simp [hN]
          rw [hD] at hgood
          have hle2 : (intR xs (o + 1, 0)).2.1 = o + 9 := by have := hle.2.1; simpa using this
          refine next (o + 9, acc ++ [⟨1, (intR xs (o + 1, 0)).1, inoZ⟩], (some ⟨g', 0, none⟩, c'), cs ++ (deeC ⟨1, (intR xs (o + 1, 0)).1, inoZ⟩ (none, 0) (none, 0)).map .v) _ _ (by simp only; omega) (fun W hW => ⟨⟨by have := hle.2.2; simp only at this ⊢; omega, by simp only [List.length_append, List.length_singleton]; omega, ?_, by have := hgood h0; rw [hle2] at this; exact this⟩, (by first | exact (hW) | exact (hW).2 | exact (hW).2.2 | exact (hW).2.2.2 | exact (hW).2.2.2.2 | exact (hW).2.2.2.2.2 | exact (hW).2.2.2.2.2.2 | exact (hW).2.2.2.2.2.2.2 | exact (hW).2.2.2.2.2.2.2.2)⟩) ?_
          rotate_left
          · simp [inoZ]
          · rw [List.map_append]
            refine Rows.snoc hW.1.2.2.1 ⟨(none, 0), (none, 0), by simp [Function.comp_def, CV.val, inoZ], nilR W⟩
        · simp [hN, h0]
          exact hbad _ 3 (by decide) (by rw [hD]; exact h0)
      · simp [hN]
        refine callS ok rfl rfl rfl [9] [rdQ g9 (some ⟨b, off, none⟩) xs.length c (o + 1) 0] (by simp) rfl (fun _ : Int => [(9, rdQ g9 (some ⟨b, off, none⟩) xs.length c (o + 9) (intR xs (o + 1, 0)).2.2)]) (fun w I S hI hG hO hS' => refNum0 w I S hI g9 xs (fun W e => (by first | exact (hG W e) | exact (hG W e).2 | exact (hG W e).2.2 | exact (hG W e).2.2.2 | exact (hG W e).2.2.2.2 | exact (hG W e).2.2.2.2.2 | exact (hG W e).2.2.2.2.2.2 | exact (hG W e).2.2.2.2.2.2.2 | exact (hG W e).2.2.2.2.2.2.2.2)) hb (o + 1) (o + 1, 0) (by omega) (fun _ => rfl) hO hS') (fun r => by simp [Int.add_assoc]) (.inl fun x hx => by simp at hx; subst hx; decide) fun v5 W hv5 => ?_
        obtain rfl := hv5 rfl
        by_cases h0 : (intR xs (o + 1, 0)).2.2 = 0
        · have hle := hrn h0
          simp [hN, h0]
          intro g53
          refine appR ok 600 53 rfl rfl rfl rfl rfl (by decide) rfl rfl rfl rfl rfl rfl rfl (by decide) (by simp) (by show (_ + 1) * 112 ≤ _; omega) (by omega) fun g' c' => ?_
          simp [hN]
          rw [hD] at hgood
          have hle2 : (intR xs (o + 1, 0)).2.1 = o + 9 := by have := hle.2.1; simpa using this
          refine next (o + 9, acc ++ [⟨3, (intR xs (o + 1, 0)).1, inoZ⟩], (some ⟨g', 0, none⟩, c'), cs ++ (deeC ⟨3, (intR xs (o + 1, 0)).1, inoZ⟩ (none, 0) (none, 0)).map .v) _ _ (by simp only; omega) (fun W hW => ⟨⟨by have := hle.2.2; simp only at this ⊢; omega, by simp only [List.length_append, List.length_singleton]; omega, ?_, by have := hgood h0; rw [hle2] at this; exact this⟩, (by first | exact (hW) | exact (hW).2 | exact (hW).2.2 | exact (hW).2.2.2 | exact (hW).2.2.2.2 | exact (hW).2.2.2.2.2 | exact (hW).2.2.2.2.2.2 | exact (hW).2.2.2.2.2.2.2 | exact (hW).2.2.2.2.2.2.2.2)⟩) ?_
          rotate_left
          · simp [inoZ]
          · rw [List.map_append]
            refine Rows.snoc hW.1.2.2.1 ⟨(none, 0), (none, 0), by simp [Function.comp_def, CV.val, inoZ], nilR W⟩
        · simp [hN, h0]
          exact hbad _ 3 (by decide) (by rw [hD]; exact h0)
      · simp [hN]
        refine callS ok rfl rfl rfl [9] [rdQ g9 (some ⟨b, off, none⟩) xs.length c (o + 1) 0] (by simp) rfl (fun _ : Int => [(9, rdQ g9 (some ⟨b, off, none⟩) xs.length c (o + 9) (intR xs (o + 1, 0)).2.2)]) (fun w I S hI hG hO hS' => refNum0 w I S hI g9 xs (fun W e => (by first | exact (hG W e) | exact (hG W e).2 | exact (hG W e).2.2 | exact (hG W e).2.2.2 | exact (hG W e).2.2.2.2 | exact (hG W e).2.2.2.2.2 | exact (hG W e).2.2.2.2.2.2 | exact (hG W e).2.2.2.2.2.2.2 | exact (hG W e).2.2.2.2.2.2.2.2)) hb (o + 1) (o + 1, 0) (by omega) (fun _ => rfl) hO hS') (fun r => by simp [Int.add_assoc]) (.inl fun x hx => by simp at hx; subst hx; decide) fun v5 W hv5 => ?_
        obtain rfl := hv5 rfl
        by_cases h0 : (intR xs (o + 1, 0)).2.2 = 0
        · have hle := hrn h0
          simp [hN, h0]
          intro g53
          refine appR ok 600 53 rfl rfl rfl rfl rfl (by decide) rfl rfl rfl rfl rfl rfl rfl (by decide) (by simp) (by show (_ + 1) * 112 ≤ _; omega) (by omega) fun g' c' => ?_
          simp [hN]
          rw [hD] at hgood
          have hle2 : (intR xs (o + 1, 0)).2.1 = o + 9 := by have := hle.2.1; simpa using this
          refine next (o + 9, acc ++ [⟨4, (intR xs (o + 1, 0)).1, inoZ⟩], (some ⟨g', 0, none⟩, c'), cs ++ (deeC ⟨4, (intR xs (o + 1, 0)).1, inoZ⟩ (none, 0) (none, 0)).map .v) _ _ (by simp only; omega) (fun W hW => ⟨⟨by have := hle.2.2; simp only at this ⊢; omega, by simp only [List.length_append, List.length_singleton]; omega, ?_, by have := hgood h0; rw [hle2] at this; exact this⟩, (by first | exact (hW) | exact (hW).2 | exact (hW).2.2 | exact (hW).2.2.2 | exact (hW).2.2.2.2 | exact (hW).2.2.2.2.2 | exact (hW).2.2.2.2.2.2 | exact (hW).2.2.2.2.2.2.2 | exact (hW).2.2.2.2.2.2.2.2)⟩) ?_
          rotate_left
          · simp [inoZ]
          · rw [List.map_append]
            refine Rows.snoc hW.1.2.2.1 ⟨(none, 0), (none, 0), by simp [Function.comp_def, CV.val, inoZ], nilR W⟩
        · simp [hN, h0]
          exact hbad _ 3 (by decide) (by rw [hD]; exact h0)
    rw [if_neg h1] at hD
    have n1 : ¬ v = 1 := fun h => h1 (.inl h)
    have n3 : ¬ v = 3 := fun h => h1 (.inr (.inl h))
    have n4 : ¬ v = 4 := fun h => h1 (.inr (.inr h))
    by_cases h2 : v = 2
    · subst h2
      rw [if_pos rfl] at hD
      simp [hN]
      refine callS ok rfl rfl rfl [9] [rdQ g9 (some ⟨b, off, none⟩) xs.length c (o + 1) 0] (by simp) rfl (fun x : Ino × Sl × Sl × Nat => [(9, rdQ g9 (some ⟨b, off, none⟩) xs.length c x.2.2.2 (inoR xs (o + 1, 0)).2.2)]) (fun w I S hI hG hO hS' => refInode0 w I S hI g9 xs hx10 (fun W e => (by first | exact (hG W e) | exact (hG W e).2 | exact (hG W e).2.2 | exact (hG W e).2.2.2 | exact (hG W e).2.2.2.2 | exact (hG W e).2.2.2.2.2 | exact (hG W e).2.2.2.2.2.2 | exact (hG W e).2.2.2.2.2.2.2 | exact (hG W e).2.2.2.2.2.2.2.2)) hb (o + 1) (by omega) hO hS') (fun r => by simp) (.inl fun x hx => by simp at hx; subst hx; decide) fun y W hy => ?_
      by_cases h0 : (inoR xs (o + 1, 0)).2.2 = 0
      · obtain ⟨y1, y2, y3⟩ := hy h0
        obtain ⟨x, se, sr, p⟩ := y
        simp only at y1 y2
        subst y1 y2
        simp [hN, h0]
        intro g53
        refine appR ok 600 53 rfl rfl rfl rfl rfl (by decide) rfl rfl rfl rfl rfl rfl rfl (by decide) (by simp) (by show (_ + 1) * 112 ≤ _; omega) (by omega) fun g' c' => ?_
        simp [hN]
        have hle := deeR_le (l := xs) (o := o) (by rw [hD]; exact h0)
        rw [hD] at hgood hle
        refine next ((inoR xs (o + 1, 0)).2.1, acc ++ [⟨2, 0, (inoR xs (o + 1, 0)).1⟩], (some ⟨g', 0, none⟩, c'), cs ++ (deeC ⟨2, 0, (inoR xs (o + 1, 0)).1⟩ se sr).map .v) _ _ (by simp only at hle ⊢; omega) (fun W hW => ⟨⟨hle.2, by simp only [List.length_append, List.length_singleton] at hle ⊢; omega, ?_, hgood h0⟩, (by first | exact (hW) | exact (hW).2 | exact (hW).2.2 | exact (hW).2.2.2 | exact (hW).2.2.2.2 | exact (hW).2.2.2.2.2 | exact (hW).2.2.2.2.2.2 | exact (hW).2.2.2.2.2.2.2 | exact (hW).2.2.2.2.2.2.2.2)⟩) ?_
        rotate_left
        · simp
        · rw [List.map_append]
          refine Rows.snoc hW.2.1.2.2.1 ⟨se, sr, by simp [Function.comp_def, CV.val], hW.1⟩
      · simp [hN, h0]
        exact hbad _ 3 (by decide) (by rw [hD]; exact h0)
    · rw [if_neg h2] at hD
      simp [hN, n1, n3, n4, h2]
      exact hbad _ 5 (by decide) (by rw [hD]; exact (by decide : (5 : Int) ≠ 0))
  · have hc : parseM xs = (acc, 0) := by
      obtain rfl : o = xs.length := by omega
      rw [hspec, Nat.sub_self]
      simp [parseN, combP]
    rw [hc] at hC
    simp [hN, Nat.not_lt.2 hge]
    refine ret0 hC ((ra, rc), 0) rfl fun W hp hG => ⟨by simp, ?_⟩
    exact (Rows.sv hG.1.2.2.1 (by decide) (by show acc.length ≤ _; omega) hp.2.1).2
end Go.Proofs.YtbbaoeidobdblaaGreat.Sx

/- ref01: Erase, Wipe. -/
set_option linter.unusedVariables false
set_option linter.unusedSimpArgs false
namespace Go.Proofs.YtbbaoeidobdblaaGreat.Sx
open Go
attribute [local simp ↓] ifb_true' ifb_false'
attribute [local simp] ifb_true ifb_false ifb_eq sx argsT find ev evOp evs evo evBin evInt evStr evNil evNilA ptrA slcA isNoneA asB evLoad look del cellsB evUn evConv kdec fld evFieldA evField evIdxA evIdx evSlc bndL bndH evLen mmi put resV guardV gvL setO tupV cellsOf ones one upd lits nv exitTo SV.val CV.val TI.agg rdyA allR keepB scan simpO gsp isS subs keepT pickT wr memN pubs Res.fact Region.binds bld rest give delL back Res.eqv vi vb num Sv.val undef
set_option maxRecDepth 100000 in
set_option maxHeartbeats 4000000 in
theorem refErase0 (w : World) (I S : Nat → Prop) (hI : ∀ b, I b → b < w.heap.size) (r : Rc) (i : Nat) (hi : (i : Int) < r.c.g.sectors) (hf : r.c.fit) (hct : (r.ct.length : Int) = r.c.g.sectors) (hS : Owns r.res S w) (hSI : ∀ b, S b → b < w.heap.size ∧ ¬ I b) :
    FnS Tryz.prog 122 #[ptrV r.c.gc, .int .i64 (i : Nat)] w I S (fun _ : List Int => .int .i64 (eraseM r.c i).1) (fun ct => (Rc.mk (eraseM r.c i).2 r.gk r.kc ct).res) (fun ct _ => ct.length = r.ct.length) := by
  obtain ⟨q0, ⟨q1, q2⟩, ⟨q3, q4⟩, ⟨q5, q6⟩, ⟨q7, q8⟩, ⟨q9, q10⟩⟩ := id hf.right
  refine enterS (svs := [.c (.bp 1000 r.c.gc 0), .c (.v (.int .i64 (i : Nat)))]) tysOk Tryz.func122 rfl Tryz.ntmps122 Tryz.results122 (by kernel_rfl) (by simp) hI r.res hS hSI (fun _ => True) (fun _ _ => trivial) fun C hC hN ok => ?_
  obtain ⟨s, hs'⟩ : ∃ s : Nat, r.c.g.sector = s := ⟨r.c.g.sector.toNat, by omega⟩
  have hst : r.c.g.sector.toNat = s := by omega
  have hsl := sec_le hf hi
  rw [hst] at hsl
  have hbl : (r.c.b.length : Int) ≤ 16 * 4096 := by rw [hf.len]; exact Int.mul_le_mul (by omega) (by omega) (by omega) (by omega)
  obtain ⟨off, hoff⟩ : ∃ off, off = i * s := ⟨_, rfl⟩
  rw [← hoff] at hsl
  have hni : ¬ ((i : Nat) : Int) < 0 := by omega
  have hig : ¬ r.c.g.sectors ≤ (i : Nat) := by omega
  have w1 : IntKind.i64.wrap ((i : Int) * s) = (off : Nat) := by rw [← Int.natCast_mul, ← hoff, w64 (by omega) (by omega)]
  have w2 : IntKind.i64.wrap ((i : Int) + 1) = (i : Nat) + 1 := w64 (by omega) (by omega)
  have w3 : IntKind.i64.wrap (((i : Int) + 1) * s) = (off + s : Nat) := by
    have : ((i : Int) + 1) * s = ((i * s + s : Nat) : Int) := by rw [Int.add_mul]; push_cast; omega
    rw [this, ← hoff, w64 (by omega) (by omega)]
  simp [hN, hni, hig]
  refine callS ok rfl rfl rfl [1001] [r.pow] (by simp) rfl (fun _ : Unit => [(1001, .box r.c.gp 79 (rpB r.c.p.step.2.2))]) (fun w I S hI hG hO hS' => rpStep0 w I S hI r.c.gp r.c.p hf.left hO hS') (fun r => by simp) (.inr fun x q hq => by simp at hq; subst hq; simp) fun _ W _ => ?_
  unfold eraseM at hC
  have hdt := @step_dt r.c.p
  have hfin := fun bits => setM_len r.c.b off s bits hsl
  generalize r.c.p.step = R at hC hdt ⊢
  obtain ⟨d, t, q⟩ := R
  simp only [hst, ← hoff] at hC ⊢
  simp [hN, hs', w1]
  have hloop : ∀ (bits : Int) (k : Nat), k < s → ∃ x, (setM r.c.b off k bits)[off + k]? = some x ∧ (bC (setM r.c.b off k bits)).set (off + k) (.v (.int .u8 (bor x bits))) = bC (setM r.c.b off (k + 1) bits) := fun bits k hk => ⟨_, setM_at r.c.b off k bits (by omega), by rw [bC_set, setM_succ r.c.b off k bits (by omega)]⟩
  have e6 : ∀ k : Nat, k < s → IntKind.i64.wrap (((off + k : Nat) : Int) + 1) = (off + (k + 1) : Nat) := fun k hk => by rw [w64 (by omega) (by omega)]; omega
  cases d with
  | true =>
    have ht : t = false := hdt rfl
    subst ht
    refine loopK [0, 1, 5, 6] ok (fun k : Nat => [(7, .c (.v (.int .i64 (off + k : Nat))))]) (fun k => [(1000, r.chip), (1001, .box r.c.gp 79 (rpB q)), (1002, .row (some ⟨r.c.gb, 0, none⟩) r.c.b.length r.c.bc 5 1 (bC (setM r.c.b off k 255))), (1003, r.cnt)]) (fun k W => k ≤ s) (fun k => s - k) 0 ?_ ?_ (fun W hW => Nat.zero_le _) ?_
    · simp
    · simp [setM_zero]
    rintro k W hk hG next
    have hb2 := bC_len (setM r.c.b off k 255)
    rw [setM_len r.c.b off k 255 (by omega)] at hb2
    rcases Nat.lt_or_ge k s with hlt | hge
    · obtain ⟨x, _, hset⟩ := hloop 255 k hlt
      rw [bor_full] at hset
      have e7 := e6 k hlt
      obtain ⟨z, hz⟩ : ∃ z, z = off + k := ⟨_, rfl⟩
      rw [← hz] at hset e7
      rw [← hz]
      have hc1 : (z : Int) < (off : Int) + (s : Int) := by omega
      have hc3 : z < r.c.b.length := by omega
      simp [hN, hs', w2, w3, hc1, hb2, hset, e7, hc3]
      exact ⟨by omega, next (k + 1) _ _ (by omega) (fun W h => ⟨by omega, trivial⟩) (by simp)⟩
    · obtain rfl : k = s := by omega
      obtain ⟨x, hx⟩ : ∃ x, r.ct[i]? = some x := ⟨_, List.getElem?_eq_getElem (by omega)⟩
      have hx2 : ∀ h : i < r.ct.length, r.ct[i]'h = x := fun h => by rw [List.getElem?_eq_getElem h] at hx; exact Option.some.inj hx
      have hil : i < r.ct.length := by omega
      simp [hN, hs', w2, w3, hx2, hil]
      and_intros
      all_goals try omega
      exact retS hC (r.ct.set i (IntKind.i64.wrap (x + 1))) [1000, 1001, 1002, 1003] rfl (by simp [hfin 255]) fun _ _ _ => by simp
  | false =>
    cases t with
    | true =>
      refine loopK [0, 1, 5, 6] ok (fun k : Nat => [(7, .c (.v (.int .i64 (off + k : Nat))))]) (fun k => [(1000, r.chip), (1001, .box r.c.gp 79 (rpB q)), (1002, .row (some ⟨r.c.gb, 0, none⟩) r.c.b.length r.c.bc 5 1 (bC (setM r.c.b off k q.mask))), (1003, r.cnt)]) (fun k W => k ≤ s) (fun k => s - k) 0 ?_ ?_ (fun W hW => Nat.zero_le _) ?_
      · simp
      · simp [setM_zero]
      rintro k W hk hG next
      have hb2 := bC_len (setM r.c.b off k q.mask)
      rw [setM_len r.c.b off k q.mask (by omega)] at hb2
      rcases Nat.lt_or_ge k s with hlt | hge
      · obtain ⟨x, hx, hset⟩ := hloop q.mask k hlt
        have e7 := e6 k hlt
        obtain ⟨z, hz⟩ : ∃ z, z = off + k := ⟨_, rfl⟩
        rw [← hz] at hset e7 hx
        rw [← hz]
        have hat := bC_at hx
        have hat2 : ∀ h : z < (bC (setM r.c.b off k q.mask)).length, (bC (setM r.c.b off k q.mask))[z]'h = .v (.int .u8 x) := fun h => by rw [List.getElem?_eq_getElem h] at hat; exact Option.some.inj hat
        have hc1 : (z : Int) < (off : Int) + (s : Int) := by omega
        have hc3 : z < r.c.b.length := by omega
        simp [hN, hs', w2, w3, hc1]
        refine draw ok [(1000, r.chip), (1001, .box r.c.gp 79 (rpB q))] (by rw [ok.P]; exact mixed) (by kernel_rfl) ?_
        simp (maxSteps := 2000000) -implicitDefEqProofs [hN, hs', w2, w3, hc1, hb2, hset, e7, hc3, hat, hat2, bor_eq]
        and_intros
        all_goals try omega
        all_goals exact next (k + 1) _ _ (by omega) (fun W h => ⟨by omega, trivial⟩) (by simp)
      · obtain rfl : k = s := by omega
        simp [hN, hs', w2, w3]
        exact retS hC r.ct [1000, 1001, 1002, 1003] rfl (by simp [hfin q.mask]) fun _ _ _ => rfl
    | false =>
      refine loopK [0, 1, 5, 6] ok (fun k : Nat => [(7, .c (.v (.int .i64 (off + k : Nat))))]) (fun k => [(1000, r.chip), (1001, .box r.c.gp 79 (rpB q)), (1002, r.row), (1003, r.cnt)]) (fun k W => k ≤ s) (fun k => s - k) 0 ?_ ?_ (fun W hW => Nat.zero_le _) ?_
      · simp
      · simp
      rintro k W hk hG next
      rcases Nat.lt_or_ge k s with hlt | hge
      · have e7 := e6 k hlt
        obtain ⟨z, hz⟩ : ∃ z, z = off + k := ⟨_, rfl⟩
        rw [← hz] at e7
        rw [← hz]
        have hc1 : (z : Int) < (off : Int) + (s : Int) := by omega
        simp [hN, hs', w2, w3, hc1, e7]
        exact next (k + 1) _ _ (by omega) (fun W h => ⟨by omega, trivial⟩) (by simp)
      · obtain rfl : k = s := by omega
        simp [hN, hs', w2, w3]
        exact retS hC r.ct [1000, 1001, 1002, 1003] rfl (by simp) fun _ _ _ => rfl
set_option maxHeartbeats 1000000 in
theorem refWipe0 (w : World) (I S : Nat → Prop) (hI : ∀ b, I b → b < w.heap.size) (r : Rc) (h : Nat) (hh : h < 2) (hf : r.c.fit) (hct : (r.ct.length : Int) = r.c.g.sectors) (hS : Owns r.res S w) (hSI : ∀ b, S b → b < w.heap.size ∧ ¬ I b) :
    FnS Tryz.prog 78 #[ptrV r.c.gc, .int .i64 (h : Nat)] w I S (fun _ : List Int => .int .i64 (wipeM r.c h).1) (fun ct => (Rc.mk (wipeM r.c h).2 r.gk r.kc ct).res) (fun ct _ => ct.length = r.ct.length) := by
  obtain ⟨q0, ⟨q1, q2⟩, ⟨q3, q4⟩, ⟨q5, q6⟩, ⟨q7, q8⟩, ⟨q9, q10⟩⟩ := id hf.right
  refine enterS (svs := [.c (.bp 1000 r.c.gc 0), .c (.v (.int .i64 (h : Nat)))]) tysOk Tryz.func78 rfl Tryz.ntmps78 Tryz.results78 (by kernel_rfl) (by simp) hI r.res hS hSI (fun _ => True) (fun _ _ => trivial) fun C hC hN ok => ?_
  obtain ⟨n, hn⟩ : ∃ n, n = halfN r.c := ⟨_, rfl⟩
  have hn2 : IntKind.i64.wrap (r.c.g.sectors.tdiv 2) = (n : Nat) := by
    rw [Int.tdiv_eq_ediv_of_nonneg (by omega), w64 (by omega) (by omega), hn]; unfold halfN; omega
  have hev : r.c.g.sectors = 2 * (n : Nat) := by
    have h0 : r.c.g.sectors % 2 = 0 := by rw [← Int.tmod_eq_emod_of_nonneg (by omega)]; exact q0
    rw [hn]; unfold halfN; omega
  have hw : wipeM r.c h = wipeN r.c (h * n) n := by rw [wipeM, ← hn]
  rw [hw] at hC
  have hhn : h * n ≤ n := by
    have : h * n ≤ 1 * n := Nat.mul_le_mul_right _ (by omega)
    omega
  obtain ⟨m, hm⟩ : ∃ m, m = h * n := ⟨_, rfl⟩
  have e0 : IntKind.i64.wrap ((h : Int) + 1) = (h : Nat) + 1 := w64 (by omega) (by omega)
  have e1 : IntKind.i64.wrap (((h : Int) + 1) * (n : Nat)) = (m + n : Nat) := by
    have : ((h : Int) + 1) * (n : Nat) = ((h * n + n : Nat) : Int) := by rw [Int.add_mul]; push_cast; omega
    rw [this, ← hm, w64 (by omega) (by omega)]
  have e1' : IntKind.i64.wrap (((m + n : Nat) : Int) - 1) = ((m + n : Nat) : Int) - 1 := w64 (by omega) (by omega)
  have e2 : IntKind.i64.wrap ((h : Int) * (n : Nat)) = (m : Nat) := by rw [← Int.natCast_mul, ← hm, w64 (by omega) (by omega)]
  rw [← hm] at hC hw
  have e1'' : IntKind.i64.wrap ((m : Int) + (n : Nat) - 1) = ((m + n : Nat) : Int) - 1 := w64 (by omega) (by omega)
  refine cutK ok (p := ?pos) [(6, .c (.v (.int .i64 (((m + n : Nat) : Int) - 1)))), (5, .c (.v (.int .i64 (n : Nat)))), (0, .c (.bp 1000 r.c.gc 0)), (1, .c (.v (.int .i64 (h : Nat))))] (fun _ => True) [(1000, r.chip), (1001, r.pow), (1002, r.row), (1003, r.cnt)] ?rest fun R => ?main
  case main =>
    simp [hN, hn2, e0, e1, e1', e1'']
    refine ⟨fun h0 => ⟨fun h1 => absurd h1 (by omega), fun h1 => ?_⟩, fun h0 => ?_⟩
    all_goals
      refine R _ _ ?_ ?_
      · exact fun _ _ => trivial
      · simp
  case rest =>
    simp [hN]
    refine loopK [0, 1, 5] ok (fun y : Nat × Cp × List Int => [(6, .c (.v (.int .i64 (((m + y.1 : Nat) : Int) - 1))))]) (fun y => [(1000, (Rc.mk y.2.1 r.gk r.kc y.2.2).chip), (1001, (Rc.mk y.2.1 r.gk r.kc y.2.2).pow), (1002, (Rc.mk y.2.1 r.gk r.kc y.2.2).row), (1003, (Rc.mk y.2.1 r.gk r.kc y.2.2).cnt)]) (fun y W => y.1 ≤ n ∧ r.c.same y.2.1 ∧ y.2.1.fit ∧ y.2.2.length = r.ct.length ∧ wipeN r.c m n = wipeN y.2.1 m y.1) (fun y => y.1) (n, r.c, r.ct) ?_ ?_ (fun W hW => ⟨Nat.le_refl _, Cp.same.refl _, hf, rfl, rfl⟩) ?_
    · simp
    · simp
    rintro ⟨k, d, ct⟩ W ⟨hk, hsm, hdf, hcl, hwn⟩ hG next
    simp only at hk hsm hdf hcl hwn
    rw [hwn] at hC
    cases k with
    | zero =>
      have h3 : ¬ (m : Int) ≤ (m : Int) - 1 := by omega
      simp [hN, e2, h3]
      exact retS hC ct [1000, 1001, 1002, 1003] rfl (by simp [wipeN]) fun _ _ _ => hcl
    | succ k =>
      obtain ⟨z, hz⟩ : ∃ z, z = m + k := ⟨_, rfl⟩
      have e3 : ((m + (k + 1) : Nat) : Int) - 1 = (z : Nat) := by omega
      have e4 : IntKind.i64.wrap ((z : Int) - 1) = ((m + k : Nat) : Int) - 1 := by rw [w64 (by omega) (by omega)]; omega
      have h3 : (m : Int) ≤ (z : Nat) := by omega
      have hzs : (z : Int) < d.g.sectors := by rw [hsm.g]; omega
      have he := erase_same hdf hzs
      have hwk : wipeN d m (k + 1) = if (eraseM d z).1 ≠ 0 then eraseM d z else wipeN (eraseM d z).2 m k := by rw [wipeN, ← hz]
      simp only [e3]
      simp [hN, e2, h3]
      refine callS ok rfl rfl rfl [1000, 1001, 1002, 1003] (Rc.mk d r.gk r.kc ct).res (by simp) rfl (fun ct' : List Int => [(1000, (Rc.mk (eraseM d z).2 r.gk r.kc ct').chip), (1001, (Rc.mk (eraseM d z).2 r.gk r.kc ct').pow), (1002, (Rc.mk (eraseM d z).2 r.gk r.kc ct').row), (1003, (Rc.mk (eraseM d z).2 r.gk r.kc ct').cnt)]) (fun w I S hI hG hO hS' => by have := refErase0 w I S hI (Rc.mk d r.gk r.kc ct) z hzs hdf (by rw [hcl, hsm.g]; exact hct) hO hS'; rw [hsm.gc] at this; exact this) (fun r => by simp) (.inr fun x q hq => by simp at hq; rcases hq with rfl | rfl | rfl | rfl <;> simp) fun ct' W hct' => ?_
      simp [hN, e4]
      rw [hwk] at hC
      have hct2 : ct'.length = r.ct.length := hct'.trans hcl
      refine ⟨fun hne => ?_, fun h0 => next (k, (eraseM d z).2, ct') _ _ (by simp) (fun W hW => ⟨⟨by simp only; omega, hsm.trans he.1, he.2, hct2, ?_⟩, trivial⟩) (by simp)⟩
      · rw [if_pos hne] at hC
        exact retS hC ct' [1000, 1001, 1002, 1003] rfl (by simp) fun _ _ _ => hct2
      · rw [hwn, hwk, if_neg (by simp [h0])]
end Go.Proofs.YtbbaoeidobdblaaGreat.Sx

/- ref01: erased, Scan. -/
set_option linter.unusedVariables false
set_option linter.unusedSimpArgs false
namespace Go.Proofs.YtbbaoeidobdblaaGreat.Sx
open Go
attribute [local simp ↓] ifb_true' ifb_false'
attribute [local simp] ifb_true ifb_false ifb_eq sx argsT find ev evOp evs evo evBin evInt evStr evNil evNilA ptrA slcA isNoneA asB evLoad look del cellsB evUn evConv kdec fld evFieldA evField evIdxA evIdx evSlc bndL bndH evLen mmi put resV guardV gvL setO tupV cellsOf ones one upd lits nv exitTo SV.val CV.val TI.agg rdyA allR keepB scan simpO gsp isS subs keepT pickT wr memN pubs Res.fact Region.binds bld rest give delL back Res.eqv vi vb num Sv.val undef
set_option maxHeartbeats 1000000 in
theorem refErased0 (w : World) (I : Nat → Prop) (hI : ∀ b, I b → b < w.heap.size) {a : Option Addr} {n c : Nat} (xs : List Int) (h : ∀ W, Ext I w W → Sv.ok dByte W (a, n, c) xs) :
    Fn0 Tryz.prog 169 #[.slice a n c] w I (fun _ : Unit => .bool (decide (xs.count 255 = xs.length))) (fun _ _ => True) := by
  obtain rfl : n = xs.length := (h w (Ext.refl _ _)).1
  have hl := (h w (Ext.refl _ _)).2.2.1
  refine enter (svs := [.c (.v (.slice a xs.length c))]) tysOk Tryz.func169 rfl Tryz.ntmps169 Tryz.results169 (by kernel_rfl) (by simp) hI (fun W => Sv.ok dByte W (a, xs.length, c) xs) h fun C hC hN ok => ?_
  simp [hN]
  refine loopK [0] ok (fun i : Nat => [(3, .c (.v (.int .i64 i)))]) (fun _ => []) (fun i W => i ≤ xs.length ∧ ∀ j (h1 : j < xs.length), j < i → xs[j] = 255) (fun i => xs.length - i) 0 ?_ ?_ (fun W hW => ⟨Nat.zero_le _, fun j _ h => absurd h (Nat.not_lt_zero _)⟩) ?_
  · simp
  · simp
  rintro i W ⟨hi, hall⟩ hG next
  rcases Nat.lt_or_ge i xs.length with hlt | hge
  · obtain ⟨b, o, e, _⟩ := byte_get hG hlt
    cases e
    have e6 : IntKind.i64.wrap ((i : Int) + 1) = (i + 1 : Nat) := by rw [w64 (by omega) (by omega)]; omega
    simp [hN, hlt]
    refine load1 ok rfl rfl rfl rfl (fun v W => v = .int .u8 xs[i]) (fun W hW => ?_) ?_
    · obtain ⟨b'', o'', e, hc⟩ := byte_get hW.2 hlt
      cases e
      exact ⟨_, hc, rfl⟩
    rintro v W rfl _
    simp [hN, e6]
    refine ⟨fun hne => ?_, fun he => ?_⟩
    · refine ret0 hC () ?_ fun _ _ _ => trivial
      rw [decide_eq_false]
      intro hc
      exact hne ((List.count_eq_length.1 hc _ (List.getElem_mem hlt)).symm)
    · refine next (i + 1) _ _ (by omega) (fun W h => ⟨⟨hlt, fun j h1 h2 => ?_⟩, h.2⟩) (by simp)
      rcases Nat.lt_or_ge j i with h4 | h4
      · exact hall j h1 h4
      · obtain rfl : j = i := by omega
        exact he
  · simp [hN, Nat.not_lt.2 hge]
    refine ret0 hC () ?_ fun _ _ _ => trivial
    rw [decide_eq_true]
    refine List.count_eq_length.2 fun x hx => ?_
    obtain ⟨j, hj, rfl⟩ := List.getElem_of_mem hx
    exact (hall j hj (by omega)).symm
set_option maxRecDepth 100000 in
set_option maxHeartbeats 2000000 in
theorem refScan0 (w : World) (I : Nat → Prop) (hI : ∀ b, I b → b < w.heap.size) {a : Option Addr} {n c : Nat} (xs : List Int) (hx10 : xs.length ≤ 10000000000) (h : ∀ W, Ext I w W → Sv.ok dByte W (a, n, c) xs) (hb : ∀ x, x ∈ xs → 0 ≤ x ∧ x ≤ 255) :
    Fn0 Tryz.prog 124 #[.slice a n c] w I (fun y : Sl => .tuple #[.slice y.1 (scanM xs).1.length y.2, .int .i64 ((scanM xs).2.1 : Nat), .bool (scanM xs).2.2]) (fun y W => y.ok dBs W (scanM xs).1) := by
  obtain rfl : n = xs.length := (h w (Ext.refl _ _)).1
  have hl := (h w (Ext.refl _ _)).2.2.1
  have hcap : xs.length ≤ c := (h w (Ext.refl _ _)).2.1
  refine enter (svs := [.c (.v (.slice a xs.length c))]) tysOk Tryz.func124 rfl Tryz.ntmps124 Tryz.results124 (by kernel_rfl) (by simp) hI (fun W => Sv.ok dByte W (a, xs.length, c) xs) h fun C hC hN ok => ?_
  have hsub : ∀ o, o ≤ xs.length → ∀ W, Sv.ok dByte W (a, xs.length, c) xs → Sv.ok dByte W ((if c = o then a else addrP a o), xs.length - o, c - o) (xs.drop o) := fun o ho W hW => by
    have := Sv.drop hW ho
    simpa [dByte, flat] using this
  simp [hN]
  refine nilr 600 57 1 (loopK [0] ok (fun y : Nat × List (List Int) × Sl × List CV => [(6, .c (.v (.int .i64 (y.1 : Nat)))), (5, .c (.rw 600 y.2.2.1.1 y.2.1.length y.2.2.1.2))]) (fun y => [(600, .row y.2.2.1.1 y.2.1.length y.2.2.1.2 57 1 y.2.2.2)]) (fun y W => y.1 ≤ xs.length ∧ y.2.1.length ≤ y.1 ∧ Rows dBs W y.2.1 (y.2.2.2.map CV.val) ∧ scanN xs xs.length 0 = catS y.2.1 (scanN xs (xs.length - y.1) y.1)) (fun y => xs.length - y.1) (0, [], (none, 0), []) ?_ ?_ (fun W hW => ⟨Nat.zero_le _, Nat.le_refl _, rows_nil _ _, by rw [Nat.sub_zero]; rfl⟩) ?_)
  · simp
  · simp
  rintro ⟨o, acc, ⟨ra, rc⟩, cs⟩ W ⟨ho, hacc, hrow, hspec⟩ hG next
  simp only at ho hacc hrow hspec
  have hoc : (o : Int) ≤ (c : Nat) := by omega
  have hoc2 : (o : Int) ≤ (xs.length : Nat) := by omega
  have hso := hsub o ho
  simp [hN]
  have hso0 := hsub o ho
  have hby : isB (xs.drop o) := fun y hy => hb y (List.mem_of_mem_drop hy)
  refine cutK ok (p := ?pos) [(79, .c (.rw 600 ra acc.length rc)), (80, .c (.v (.int .i64 (o : Nat)))), (83, .c (.v (.slice (if c = o then a else addrP a o) (xs.length - o) (c - o))))] (fun W => nextM (xs.drop o) = none ∧ Sv.ok dByte W (a, xs.length, c) xs ∧ Rows dBs W acc (cs.map CV.val)) [(600, .row ra acc.length rc 57 1 cs)] ?rest fun R => ?main
  case main =>
    refine call0 ok rfl rfl rfl (fun w I hI hG => refGet0 w I hI (a := a) (n := xs.length) (c := c) xs (fun W e => (hG W e).2) hb o 2 (by omega) (by decide)) fun _ W _ => ?_
    have hle := getM_le hb o 2
    by_cases h1 : xs.length < o + 2
    · have hg : getM xs o 2 = (0, 3) := by rw [getM, if_pos h1]
      have hnx : nextM (xs.drop o) = none := by unfold nextM; rw [if_pos (by rw [List.length_drop]; omega)]
      rw [hg]
      simp [hN, hoc, hoc2, hcap]
      refine R _ _ ?_ ?_
      · exact fun W hW => ⟨hnx, (by first | exact (hW) | exact (hW).2 | exact (hW).2.2 | exact (hW).2.2.2 | exact (hW).2.2.2.2 | exact (hW).2.2.2.2.2 | exact (hW).2.2.2.2.2.2 | exact (hW).2.2.2.2.2.2.2 | exact (hW).2.2.2.2.2.2.2.2), by first | exact hW.1.2.2.1 | exact hW.2.1.2.2.1⟩
      · simp
    have hg : getM xs o 2 = (valB ((xs.drop o).take 2), 0) := by rw [getM, if_neg h1]
    rw [hg] at hle
    rw [hg]
    simp only at hle
    obtain ⟨v, hv⟩ : ∃ v : Nat, valB ((xs.drop o).take 2) = v := ⟨(valB ((xs.drop o).take 2)).toNat, by omega⟩
    rw [hv] at hle
    rw [hv]
    have hv5 : v < 65536 := by have := hle.2; simp at this; omega
    have e1 : IntKind.i64.wrap (v : Int) = (v : Nat) := w64 (by omega) (by omega)
    have e2 : IntKind.i64.wrap ((v : Int) + 7) = (v : Nat) + 7 := w64 (by omega) (by omega)
    have e3 : IntKind.i64.wrap ((xs.length : Int) - (o : Nat)) = xs.length - (o : Nat) := w64 (by omega) (by omega)
    have e4 : IntKind.i64.wrap ((o : Int) + (v : Nat)) = (o : Nat) + (v : Nat) := w64 (by omega) (by omega)
    obtain ⟨z, hz⟩ : ∃ z, z = o + v + 6 := ⟨_, rfl⟩
    have e5 : IntKind.i64.wrap ((o : Int) + (v : Nat) + 6) = (z : Nat) := by rw [w64 (by omega) (by omega)]; omega
    have hdl : (xs.drop o).length = xs.length - o := List.length_drop
    by_cases h2 : 65000 < v
    · have hnx : nextM (xs.drop o) = none := by unfold nextM; rw [if_neg (by rw [hdl]; omega), if_pos (.inl (by rw [hv]; omega))]
      have h2' : (65000 : Int) < (v : Nat) := by omega
      simp [hN, hoc, hoc2, hcap, e1, h2']
      refine R _ _ ?_ ?_
      · exact fun W hW => ⟨hnx, (by first | exact (hW) | exact (hW).2 | exact (hW).2.2 | exact (hW).2.2.2 | exact (hW).2.2.2.2 | exact (hW).2.2.2.2.2 | exact (hW).2.2.2.2.2.2 | exact (hW).2.2.2.2.2.2.2 | exact (hW).2.2.2.2.2.2.2.2), by first | exact hW.1.2.2.1 | exact hW.2.1.2.2.1⟩
      · simp
    by_cases h3 : xs.length - o < v + 7
    · have hnx : nextM (xs.drop o) = none := by unfold nextM; rw [if_neg (by rw [hdl]; omega), if_pos (.inr (by rw [hv, hdl]; omega))]
      have h2' : ¬ (65000 : Int) < (v : Nat) := by omega
      have h3' : (xs.length : Int) - (o : Nat) < (v : Nat) + 7 := by omega
      simp [hN, hoc, hoc2, hcap, e1, e2, e3, h2', h3']
      refine R _ _ ?_ ?_
      · exact fun W hW => ⟨hnx, (by first | exact (hW) | exact (hW).2 | exact (hW).2.2 | exact (hW).2.2.2 | exact (hW).2.2.2.2 | exact (hW).2.2.2.2.2 | exact (hW).2.2.2.2.2.2 | exact (hW).2.2.2.2.2.2.2 | exact (hW).2.2.2.2.2.2.2.2), by first | exact hW.1.2.2.1 | exact hW.2.1.2.2.1⟩
      · simp
    have h2' : ¬ (65000 : Int) < (v : Nat) := by omega
    have h3' : ¬ (xs.length : Int) - (o : Nat) < (v : Nat) + 7 := by omega
    have hzl : z < xs.length := by omega
    have hzi : (z : Int) < (xs.length : Nat) := by omega
    obtain ⟨b, off, e, _⟩ := byte_get (h w (Ext.refl _ _)) hzl
    cases e
    simp [hN, hoc, hoc2, hcap, e1, e2, e3, e4, e5, h2', h3', hzi]
    have hzx := hb _ (List.getElem_mem hzl)
    have hget : ∀ W, Sv.ok dByte W (some ⟨b, off, none⟩, xs.length, c) xs → ∃ v, W.cell? ⟨b, off + z, none⟩ = some v ∧ v = .int .u8 xs[z] := fun W hW => by
      obtain ⟨b'', o'', e, hc⟩ := byte_get hW hzl
      cases e
      exact ⟨_, hc, rfl⟩
    have hnb := next_body (b := xs.drop o) (v := v) hby (by omega) hv (by omega) (by omega)
    have hzo : (xs.drop o)[v + 6]? = some xs[z] := by
      rw [List.getElem?_drop, ← List.getElem?_eq_getElem hzl]
      congr 1
      omega
    have hflag := next_flag (b := xs.drop o)
    rw [hv, Int.toNat_natCast, hzo] at hflag
    rw [hzo] at hnb
    generalize xs[z] = fl at hzx hget hnb hflag
    refine load1 ok rfl rfl rfl rfl (fun u W => u = .int .u8 fl) (fun W hW => hget W (by first | exact (hW) | exact (hW).2 | exact (hW).2.2 | exact (hW).2.2.2 | exact (hW).2.2.2.2 | exact (hW).2.2.2.2.2 | exact (hW).2.2.2.2.2.2 | exact (hW).2.2.2.2.2.2.2 | exact (hW).2.2.2.2.2.2.2.2)) ?_
    rintro v' W rfl _
    by_cases h4 : fl = 0
    case neg =>
      have hnx : nextM (xs.drop o) = none := hflag (by simpa using h4)
      simp [hN, hoc, hoc2, hcap, h4]
      refine R _ _ ?_ ?_
      · exact fun W hW => ⟨hnx, (by first | exact (hW) | exact (hW).2 | exact (hW).2.2 | exact (hW).2.2.2 | exact (hW).2.2.2.2 | exact (hW).2.2.2.2.2 | exact (hW).2.2.2.2.2.2 | exact (hW).2.2.2.2.2.2.2 | exact (hW).2.2.2.2.2.2.2.2), by first | exact hW.1.2.2.1 | exact hW.2.1.2.2.1⟩
      · simp
    subst h4
    replace hnb := hnb rfl
    rw [List.drop_drop] at hnb
    obtain ⟨X, hX⟩ : ∃ X, X = (xs.drop (o + 6)).take v := ⟨_, rfl⟩
    rw [← hX] at hnb
    have hXl : X.length = v := by rw [hX, List.length_take, List.length_drop]; omega
    have hXb : isB X := by rw [hX]; exact isB_sub hb _ _
    have e6 : IntKind.i64.wrap ((o : Int) + 6) = (o + 6 : Nat) := by rw [w64 (by omega) (by omega)]; omega
    obtain ⟨o6, ho6⟩ : ∃ o6, o6 = o + 6 := ⟨_, rfl⟩
    rw [← ho6] at e6 hX
    have e7 : IntKind.i64.wrap ((o6 : Int) + (v : Nat)) = (z : Nat) := by rw [w64 (by omega) (by omega)]; omega
    have h5 : (o6 : Int) ≤ (z : Nat) := by omega
    have h6 : (z : Int) ≤ (c : Nat) := by omega
    have h7 : z - o6 = v := by omega
    simp [hN, e6, e7, h5, h6, h7]
    refine nilr 601 5 1 (appV ok 601 rfl rfl rfl rfl rfl (by decide) rfl rfl rfl rfl rfl rfl dByte X rfl (by show (0 + _) * 1 ≤ _; omega) (by omega) (fun W hW => by have := sub_ok (o := o6) (k := v) (show Sv.ok dByte W (some ⟨b, off, none⟩, xs.length, c) xs from (by first | exact (hW) | exact (hW).2 | exact (hW).2.2 | exact (hW).2.2.2 | exact (hW).2.2.2.2 | exact (hW).2.2.2.2.2 | exact (hW).2.2.2.2.2.2 | exact (hW).2.2.2.2.2.2.2 | exact (hW).2.2.2.2.2.2.2.2)) (by omega); rw [hX]; simpa using this) fun l a' c' W hll hr _ => ?_)
    have hl' : l = X.map (Value.int .u8) := rows_byte.1 hr
    have hrow' : l.map nv = bC X := by rw [hl', bC_nv]
    simp only [List.nil_append, Nat.zero_add, hrow', hXl]
    simp [hN]
    refine pub 601 rfl (by decide) (forget (fun W => Sl.ok dByte W (a', c') X ∧ Rows dBs W acc (cs.map CV.val) ∧ Sv.ok dByte W (some ⟨b, off, none⟩, xs.length, c) xs) (fun W hW => ⟨(byte_ok (xs := X) hW.1 (by omega)).2, by first | exact hW.2.1.2.2.1 | exact hW.2.2.1.2.2.1 | exact hW.2.2.2.1.2.2.1, (by first | exact (hW) | exact (hW).2 | exact (hW).2.2 | exact (hW).2.2.2 | exact (hW).2.2.2.2 | exact (hW).2.2.2.2.2 | exact (hW).2.2.2.2.2.2 | exact (hW).2.2.2.2.2.2.2 | exact (hW).2.2.2.2.2.2.2.2)⟩) ?_)
    have hbd := fun (w : World) (I : Nat → Prop) (hI : ∀ b, I b → b < w.heap.size) (h : ∀ W, Ext I w W → Sl.ok dByte W (a', c') X) => refBody0 w I hI X (a', c') h hXb (by omega)
    simp only [hXl] at hbd
    refine call0 ok rfl rfl rfl (fun w I hI hG => hbd w I hI (fun W e => (hG W e).1)) fun y W hy => ?_
    have hBb : isB (bodyB X) := bodyB_byte X hXb
    have hBl := bodyB_length X
    have hTb : isB ((xs.drop o).take (6 + v)) := isB_sub hb _ _
    have hTl : ((xs.drop o).take (6 + v)).length = 6 + v := by rw [List.length_take, hdl]; omega
    have h8 : (o : Int) ≤ (z : Nat) := by omega
    have h9 : z - o = 6 + v := by omega
    have hcmp : ((txtOf (bodyB X)).toList == (txtOf ((xs.drop o).take (6 + v))).toList) = decide (bodyB X = (xs.drop o).take (6 + v)) := txtOf_eq hBb hTb
    have hsT : ∀ W, Sv.ok dByte W (some ⟨b, off, none⟩, xs.length, c) xs → Sv.ok dByte W (if c = o then some ⟨b, off, none⟩ else some ⟨b, off + o, none⟩, 6 + v, c - o) ((xs.drop o).take (6 + v)) := fun W hW => by
      have := sub_ok (o := o) (k := 6 + v) hW (by omega)
      simpa using this
    simp [hN]
    refine drawK ok mixed (by kernel_rfl) ?_
    simp (maxSteps := 2000000) -implicitDefEqProofs [hN, e6, e7, h6, h8, h9]
    generalize (if c = o then some (⟨b, off, none⟩ : Addr) else some ⟨b, off + o, none⟩) = a2 at hsT ⊢
    have hBs : ∀ W, Sl.ok dByte W y (bodyB X) → Sv.ok dByte W (y.1, 6 + v, y.2) (bodyB X) := fun W hW => ⟨by rw [hBl, hXl], hW⟩
    refine ⟨?_, ?_⟩
    case' refine_1 =>
      refine strS ok rfl rfl rfl rfl rfl rfl rfl rfl rfl (bodyB X) (fun W hW => hBs W hW.1) ?_
      simp (maxSteps := 2000000) -implicitDefEqProofs [hN, e6, e7, h6, h8, h9]
      refine strS ok rfl rfl rfl rfl rfl rfl rfl rfl rfl ((xs.drop o).take (6 + v)) (fun W hW => hsT W (by first | exact (hW) | exact (hW).2 | exact (hW).2.2 | exact (hW).2.2.2 | exact (hW).2.2.2.2 | exact (hW).2.2.2.2.2 | exact (hW).2.2.2.2.2.2 | exact (hW).2.2.2.2.2.2.2 | exact (hW).2.2.2.2.2.2.2.2)) ?_
      simp (maxSteps := 2000000) -implicitDefEqProofs [hN, e6, e7, h6, h8, h9, hcmp]
    case' refine_2 =>
      refine strS ok rfl rfl rfl rfl rfl rfl rfl rfl rfl ((xs.drop o).take (6 + v)) (fun W hW => hsT W (by first | exact (hW) | exact (hW).2 | exact (hW).2.2 | exact (hW).2.2.2 | exact (hW).2.2.2.2 | exact (hW).2.2.2.2.2 | exact (hW).2.2.2.2.2.2 | exact (hW).2.2.2.2.2.2.2 | exact (hW).2.2.2.2.2.2.2.2)) ?_
      simp (maxSteps := 2000000) -implicitDefEqProofs [hN, e6, e7, h6, h8, h9]
      refine strS ok rfl rfl rfl rfl rfl rfl rfl rfl rfl (bodyB X) (fun W hW => hBs W hW.1) ?_
      simp (maxSteps := 2000000) -implicitDefEqProofs [hN, e6, e7, h6, h8, h9, hcmp]
    all_goals
      refine ⟨fun hne => ⟨⟨by omega, hcap⟩, ?_⟩, fun he g73 => ?_⟩
      · rw [if_neg hne] at hnb
        refine R _ _ ?_ ?_
        · exact fun W hW => ⟨hnb, (by first | exact (hW) | exact (hW).2 | exact (hW).2.2 | exact (hW).2.2.2 | exact (hW).2.2.2.2 | exact (hW).2.2.2.2.2 | exact (hW).2.2.2.2.2.2 | exact (hW).2.2.2.2.2.2.2 | exact (hW).2.2.2.2.2.2.2.2), hW.2.2.1⟩
        · simp
      · rw [if_pos he] at hnb
        refine appR ok 600 73 rfl rfl rfl rfl rfl (by decide) rfl rfl rfl rfl rfl rfl rfl (by decide) (by simp) (by show (_ + 1) * 24 ≤ _; omega) (by omega) fun g' c'' => ?_
        obtain ⟨z2, hz2⟩ : ∃ z2, z2 = o + (v + 7) := ⟨_, rfl⟩
        have e8 : IntKind.i64.wrap ((o : Int) + (v : Nat) + 7) = (z2 : Nat) := by rw [w64 (by omega) (by omega)]; omega
        simp [hN, e4, e8]
        have hstep := scan_step hnb
        rw [hXl, ← hz2] at hstep
        refine next (z2, acc ++ [X], (some ⟨g', 0, none⟩, c''), cs ++ [.rw 601 a' v c']) _ _ (by simp only; omega) (fun W hW => ⟨⟨by simp only; omega, by simp only [List.length_append, List.length_singleton]; omega, ?_, ?_⟩, (by first | exact (hW) | exact (hW).2 | exact (hW).2.2 | exact (hW).2.2.2 | exact (hW).2.2.2.2 | exact (hW).2.2.2.2.2 | exact (hW).2.2.2.2.2.2 | exact (hW).2.2.2.2.2.2.2 | exact (hW).2.2.2.2.2.2.2.2)⟩) (by simp)
        · rw [List.map_append]
          exact hW.2.2.1.snoc ⟨(a', c'), by simp [CV.val, hXl], hW.2.1⟩
        · rw [hspec, hstep]
          simp [catS]
  case rest =>
    simp [hN]
    refine knowG fun W0 hW0 => ?_
    have hnx := hW0.1
    rw [scan_stop hnx] at hspec
    have hM : scanM xs = (acc, o, decide ((xs.drop o).count 255 = xs.length - o)) := by
      unfold scanM
      rw [hspec]
      simp [catS]
    rw [hM] at hC
    refine call0 ok rfl rfl rfl (fun w I hI hG => refErased0 w I hI (n := xs.length - o) (c := c - o) (xs.drop o) (fun W e => hso0 W (hG W e).2.1)) fun _ W _ => ?_
    simp [hN]
    refine ret0 hC (ra, rc) (by simp) fun W hp hG => ?_
    exact (Rows.sv (d := dBs) (xs := acc) hG.2.2 (by decide) (by omega) hp.1).2
end Go.Proofs.YtbbaoeidobdblaaGreat.Sx

/- ref01: AppendHalf, Read, ReadHalf. -/
set_option linter.unusedVariables false
set_option linter.unusedSimpArgs false
namespace Go.Proofs.YtbbaoeidobdblaaGreat.Sx
open Go
attribute [local simp ↓] ifb_true' ifb_false'
attribute [local simp] ifb_true ifb_false ifb_eq sx argsT find ev evOp evs evo evBin evInt evStr evNil evNilA ptrA slcA isNoneA asB evLoad look del cellsB evUn evConv kdec fld evFieldA evField evIdxA evIdx evSlc bndL bndH evLen mmi put resV guardV gvL setO tupV cellsOf ones one upd lits nv exitTo SV.val CV.val TI.agg rdyA allR keepB scan simpO gsp isS subs keepT pickT wr memN pubs Res.fact Region.binds bld rest give delL back Res.eqv vi vb num Sv.val undef
theorem hS_half {c : Cp} (hf : c.fit) : hS c.g = halfSz c := by
  obtain ⟨q0, ⟨q1, q2⟩, _⟩ := id hf.right
  unfold hS halfSz halfN
  congr 1
  omega
theorem refBodyBig0 (w : World) (I : Nat → Prop) (hI : ∀ b, I b → b < w.heap.size) (n : Nat) (s : Sl) (hl : 65000 < n) :
    Fn0 Tryz.prog 81 #[.slice s.1 n s.2] w I (fun _ : Unit => .tuple #[.slice none 0 0, .int .i64 21]) (fun _ _ => True) := by
  obtain ⟨a, c⟩ := s
  refine enter (svs := [.c (.v (.slice a n c))]) tysOk Tryz.func81 rfl Tryz.ntmps81 Tryz.results81 (by kernel_rfl) (by simp) hI (fun _ => True) (fun _ _ => trivial) fun C hC hN ok => ?_
  have h1 : (65000 : Int) < n := by omega
  simp [hN, h1]
  exact ret0 hC () rfl fun _ _ _ => trivial
set_option maxHeartbeats 2000000 in
theorem refAppend0 (w : World) (I S : Nat → Prop) (hI : ∀ b, I b → b < w.heap.size) (r : Rc) (h o : Nat) (hh : h < 2) (hf : r.c.fit) (ho : o ≤ 1000000000) (l : List Int) (s : Sl) (hs : ∀ W, Ext I w W → s.ok dByte W l) (hb : ∀ x, x ∈ l → 0 ≤ x ∧ x ≤ 255) (hS : Owns r.res S w) (hSI : ∀ b, S b → b < w.heap.size ∧ ¬ I b) :
    FnS Tryz.prog 41 #[ptrV r.c.gc, .int .i64 (h : Nat), .int .i64 (o : Nat), .slice s.1 l.length s.2] w I S (fun e : Int => .int .i64 e) (fun _ => (r.wi (appendM r.c h o l).2).res) (fun e _ => l.length ≤ 65000 → e = (appendM r.c h o l).1) := by
  obtain ⟨a, cp⟩ := s
  obtain ⟨hl2, hsz, hz⟩ := half_two hf
  have hhl := half_le hf
  have hlb : l.length ≤ 100000000000 := (hs w (Ext.refl _ _)).2.1
  refine enterS (svs := [.c (.bp 1000 r.c.gc 0), .c (.v (.int .i64 (h : Nat))), .c (.v (.int .i64 (o : Nat))), .c (.v (.slice a l.length cp))]) tysOk Tryz.func41 rfl Tryz.ntmps41 Tryz.results41 (by kernel_rfl) (by simp) hI r.res hS hSI (fun W => Sl.ok dByte W (a, cp) l) hs fun C hC hN ok => ?_
  have ho' : ¬ ((o : Nat) : Int) < 0 := by omega
  refine cutK ok (p := ?pos) [(23, .c (.v (.slice a l.length cp))), (0, .c (.bp 1000 r.c.gc 0)), (1, .c (.v (.int .i64 (h : Nat)))), (2, .c (.v (.int .i64 (o : Nat)))), (3, .c (.v (.slice a l.length cp)))] (fun W => Sl.ok dByte W (a, cp) l) [(1000, r.chip), (1001, r.pow), (1002, r.row), (1003, r.cnt)] ?rest fun R => ?main
  case main =>
    simp [hN, ho']
    refine ⟨fun h0 => ⟨fun h1 => ?_, fun h1 => absurd h1 (by omega)⟩, fun h0 => ?_⟩
    all_goals
      refine R _ _ ?_ ?_
      · exact fun _ h => h
      · simp
  case rest =>
  simp [hN]
  rcases Nat.lt_or_ge 65000 l.length with hbig | hle65
  · refine call0 ok rfl rfl rfl (fun w I hI hG => refBodyBig0 w I hI l.length (a, cp) hbig) fun _ W _ => ?_
    have hm : appendM r.c h o l = (10, r.c) := by rw [appendM, if_pos (by omega)]
    rw [hm] at hC
    simp [hN]
    exact retS hC 21 [1000, 1001, 1002, 1003] rfl (by simp) fun _ _ _ h => absurd h (by omega)
  refine call0 ok rfl rfl rfl (fun w I hI hG => refBody0 w I hI l (a, cp) (fun W e => hG W e) hb hle65) fun y W _ => ?_
  simp [hN]
  refine call0 ok rfl rfl rfl (fun w I hI hG => refHalf0 w I hI r.c.g hf.right) fun z W hz' => ?_
  rw [hS_half hf] at hz'
  subst hz'
  have e1 : IntKind.i64.wrap ((halfSz r.c : Int) - (o : Nat)) = halfSz r.c - (o : Nat) := w64 (by omega) (by omega)
  have e1' : IntKind.i64.wrap (6 + (l.length : Int) + 1) = l.length + 7 := by rw [w64 (by omega) (by omega)]; omega
  by_cases hsp : halfSz r.c < o + (l.length + 7)
  · have hm : appendM r.c h o l = (10, r.c) := by rw [appendM, if_pos hsp]
    rw [hm] at hC
    by_cases h1 : (halfSz r.c : Int) < (o : Nat)
    · simp [hN, e1, e1', h1]
      exact retS hC 10 [1000, 1001, 1002, 1003] rfl (by simp) fun _ _ _ _ => rfl
    · have h2 : (halfSz r.c : Int) - (o : Nat) < l.length + 7 := by omega
      simp [hN, e1, e1', h1, h2]
      exact retS hC 10 [1000, 1001, 1002, 1003] rfl (by simp) fun _ _ _ _ => rfl
  have h1 : ¬ (halfSz r.c : Int) < (o : Nat) := by omega
  have h2 : ¬ (halfSz r.c : Int) - (o : Nat) < l.length + 7 := by omega
  have hm := appendM.eq_1 r.c h o l
  rw [if_neg hsp] at hm
  rw [hm] at hC
  have hmul : h * halfSz r.c ≤ 1 * halfSz r.c := Nat.mul_le_mul_right _ (by omega)
  obtain ⟨m, hmm⟩ : ∃ m, m = h * halfSz r.c := ⟨_, rfl⟩
  have e2 : IntKind.i64.wrap ((h : Int) * (halfSz r.c : Nat)) = (m : Nat) := by rw [← Int.natCast_mul, ← hmm, w64 (by omega) (by omega)]
  obtain ⟨y0, hy⟩ : ∃ y0, y0 = m + o := ⟨_, rfl⟩
  have e3 : IntKind.i64.wrap ((m : Int) + (o : Nat)) = (y0 : Nat) := by rw [w64 (by omega) (by omega)]; omega
  simp [hN, e1, e1', h1, h2, e2, e3]
  rw [← hmm, ← hy] at hC
  have hB := bodyB_length l
  have hfit := prog_same hf (o := y0) (xs := bodyB l) (by rw [hB]; omega)
  refine callS ok rfl rfl rfl [1000, 1001, 1002, 1003] r.res (by simp) rfl (fun _ : Unit => [(1000, (r.wi (progM r.c y0 (bodyB l)).2).chip), (1001, (r.wi (progM r.c y0 (bodyB l)).2).pow), (1002, (r.wi (progM r.c y0 (bodyB l)).2).row), (1003, (r.wi (progM r.c y0 (bodyB l)).2).cnt)]) (fun w I S hI hG hO hS' => refProgram0 w I S hI r y0 (bodyB l) (fun W e => ⟨by rw [hB], (hG W e).2.1⟩) (by rw [hB]; omega) (by omega) hf.left hO hS') (fun r => by simp) (.inr fun x q hq => by simp at hq; rcases hq with rfl | rfl | rfl | rfl <;> simp) fun _ W _ => ?_
  simp [hN]
  generalize progM r.c y0 (bodyB l) = Q at hC hfit ⊢
  obtain ⟨e, d⟩ := Q
  simp only at hC hfit ⊢
  refine ⟨fun hne => ?_, fun h0 => ?_⟩
  · rw [if_pos hne] at hC
    exact retS hC e [1000, 1001, 1002, 1003] rfl (by simp) fun _ _ _ _ => rfl
  subst h0
  rw [if_neg (by simp)] at hC
  obtain ⟨z, hz⟩ : ∃ z, z = y0 + (6 + l.length) := ⟨_, rfl⟩
  have e4 : IntKind.i64.wrap ((y0 : Int) + (6 + (l.length : Int))) = (z : Nat) := by rw [w64 (by omega) (by omega)]; omega
  rw [← hz] at hC
  simp [hN, e2, e3, e4]
  intro g
  refine pub 67 rfl (by decide) (callS ok rfl rfl rfl [1000, 1001, 1002, 1003] (r.wi d).res (by simp) rfl (fun _ : Unit => [(1000, (r.wi (progM d z [0]).2).chip), (1001, (r.wi (progM d z [0]).2).pow), (1002, (r.wi (progM d z [0]).2).row), (1003, (r.wi (progM d z [0]).2).cnt)]) (fun w I S hI hG hO hS' => by have := refProgram0 w I S hI (r.wi d) z (a := some ⟨g, 0, none⟩) (n := 1) (cp := 1) [0] (fun W e => ⟨rfl, (byte_ok (xs := [0]) (hG W e).1 (by simp)).2⟩) (by rw [hfit.1.len]; simp; omega) (by rw [hfit.1.len]; omega) hfit.2.left hO hS'; rw [hfit.1.gc] at this; exact this) (fun r => by simp) (.inr fun x q hq => by simp at hq; rcases hq with rfl | rfl | rfl | rfl <;> simp) fun _ W _ => ?_)
  simp [hN]
  exact retS hC (progM d z [0]).1 [1000, 1001, 1002, 1003] rfl (by simp) fun _ _ _ _ => rfl
theorem refRead0 (w : World) (I S : Nat → Prop) (hI : ∀ b, I b → b < w.heap.size) (r : Rc) (o k : Nat) (hf : r.c.fit) (hbc : r.c.b.length ≤ r.c.bc) (h0 : 0 < k) (ho : o + k ≤ r.c.b.length) (hS : Owns r.res S w) (hSI : ∀ b, S b → b < w.heap.size ∧ ¬ I b) :
    FnS Tryz.prog 168 #[ptrV r.c.gc, .int .i64 (o : Nat), .int .i64 (k : Nat)] w I S (fun x : Sl => .tuple #[.slice x.1 k x.2, .int .i64 0]) (fun _ => r.res) (fun x W => Sl.ok dByte W x ((r.c.b.drop o).take k)) := by
  obtain ⟨hl2, hsz, hz⟩ := half_two hf
  refine enterS (svs := [.c (.bp 1000 r.c.gc 0), .c (.v (.int .i64 (o : Nat))), .c (.v (.int .i64 (k : Nat)))]) tysOk Tryz.func168 rfl Tryz.ntmps168 Tryz.results168 (by kernel_rfl) (by simp) hI r.res hS hSI (fun _ => True) (fun _ _ => trivial) fun C hC hN ok => ?_
  have hwi : wiB r.c.b.length o k = true := by simp [wiB]; omega
  simp [hN]
  refine callS ok rfl rfl rfl [1000] [r.chip] (by simp) rfl (fun _ : Unit => [(1000, r.chip)]) (fun w I S hI hG hO hS' => refWithin0 w I S hI r o k (by omega) (by omega) hO hS') (fun r => by simp) (.inr fun x q hq => by simp at hq; subst hq; simp) fun _ W _ => ?_
  rw [hwi]
  obtain ⟨z, hz'⟩ : ∃ z, z = o + k := ⟨_, rfl⟩
  have e1 : IntKind.i64.wrap ((o : Int) + (k : Nat)) = (z : Nat) := by rw [w64 (by omega) (by omega)]; omega
  have h1 : (o : Int) ≤ (z : Nat) := by omega
  have h2 : (z : Int) ≤ (r.c.bc : Nat) := by omega
  have h3 : z - o = k := by omega
  have h4 : r.c.bc ≠ o := by omega
  simp [hN, e1, h1, h2, h3, h4]
  refine nilr 600 5 1 (appP ok 600 1002 rfl rfl rfl rfl rfl rfl rfl rfl rfl rfl rfl rfl rfl h0 (by rw [bC_len]; exact ho) (by rw [bC_sub]; exact ones_bC _) (by show (0 + k) * 1 ≤ _; omega) (by omega) fun g' c' => ?_)
  simp only [List.nil_append, bC_sub]
  simp [hN]
  refine retS hC (some ⟨g', 0, none⟩, c') [1000, 1001, 1002, 1003] rfl (by simp) fun W hp hG => ?_
  have hl : ((r.c.b.drop o).take k).length = k := by rw [List.length_take, List.length_drop]; omega
  have := (Rows.sv (d := dByte) (xs := (r.c.b.drop o).take k) (rows_byte.2 (bC_val _)) (by decide) (by omega) hp.1).2
  exact this
theorem refReadHalf0 (w : World) (I S : Nat → Prop) (hI : ∀ b, I b → b < w.heap.size) (r : Rc) (h : Nat) (hh : h < 2) (hf : r.c.fit) (hbc : r.c.b.length ≤ r.c.bc) (hS : Owns r.res S w) (hSI : ∀ b, S b → b < w.heap.size ∧ ¬ I b) :
    FnS Tryz.prog 123 #[ptrV r.c.gc, .int .i64 (h : Nat)] w I S (fun x : Sl => .tuple #[.slice x.1 (halfSz r.c) x.2, .int .i64 0]) (fun _ => r.res) (fun x W => Sl.ok dByte W x (halfB r.c h)) := by
  obtain ⟨hl2, hsz, hz⟩ := half_two hf
  have hpos := halfSz_pos hf
  have hfits := half_fits hf hh
  refine enterS (svs := [.c (.bp 1000 r.c.gc 0), .c (.v (.int .i64 (h : Nat)))]) tysOk Tryz.func123 rfl Tryz.ntmps123 Tryz.results123 (by kernel_rfl) (by simp) hI r.res hS hSI (fun _ => True) (fun _ _ => trivial) fun C hC hN ok => ?_
  refine cutK ok (p := ?pos) [(16, .ag ((geoC r.c.g).map .v)), (0, .c (.bp 1000 r.c.gc 0)), (1, .c (.v (.int .i64 (h : Nat))))] (fun _ => True) [(1000, r.chip), (1001, r.pow), (1002, r.row), (1003, r.cnt)] ?rest fun R => ?main
  case main =>
    simp [hN]
    refine ⟨fun h0 => ⟨fun h1 => absurd h1 (by omega), fun h1 => ?_⟩, fun h0 => ?_⟩
    all_goals
      refine R _ _ ?_ ?_
      · exact fun _ _ => trivial
      · simp
  case rest =>
  simp [hN]
  refine call0 ok rfl rfl rfl (fun w I hI hG => refHalf0 w I hI r.c.g hf.right) fun z W hz' => ?_
  rw [hS_half hf] at hz'
  subst hz'
  obtain ⟨m, hmm⟩ : ∃ m, m = h * halfSz r.c := ⟨_, rfl⟩
  have hmul : h * halfSz r.c ≤ 1 * halfSz r.c := Nat.mul_le_mul_right _ (by omega)
  have e2 : IntKind.i64.wrap ((h : Int) * (halfSz r.c : Nat)) = (m : Nat) := by rw [← Int.natCast_mul, ← hmm, w64 (by omega) (by omega)]
  simp [hN, e2]
  refine callS ok rfl rfl rfl [1000, 1001, 1002, 1003] r.res (by simp) rfl (fun _ : Sl => [(1000, r.chip), (1001, r.pow), (1002, r.row), (1003, r.cnt)]) (fun w I S hI hG hO hS' => refRead0 w I S hI r m (halfSz r.c) hf hbc hpos (by omega) hO hS') (fun r => by simp) (.inr fun x q hq => by simp at hq; rcases hq with rfl | rfl | rfl | rfl <;> simp) fun x W hx => ?_
  simp [hN]
  exact retS hC x [1000, 1001, 1002, 1003] rfl (by simp) fun W _ hG => by rw [halfB, ← hmm]; exact hG.1
end Go.Proofs.YtbbaoeidobdblaaGreat.Sx

/- ref17: counted. -/
set_option linter.unusedVariables false
set_option linter.unusedSimpArgs false
namespace Go.Proofs.YtbbaoeidobdblaaGreat.Sx
open Go
attribute [local simp ↓] ifb_true' ifb_false'
attribute [local simp] ifb_true ifb_false ifb_eq sx argsT find ev evOp evs evo evBin evInt evStr evNil evNilA ptrA slcA isNoneA asB evLoad look del cellsB evUn evConv kdec fld evFieldA evField evIdxA evIdx evSlc bndL bndH evLen mmi put resV guardV gvL setO tupV cellsOf ones one upd lits nv exitTo SV.val CV.val TI.agg rdyA allR keepB scan simpO gsp isS subs keepT pickT wr memN pubs Res.fact Region.binds bld rest give delL back Res.eqv vi vb num Sv.val undef
theorem ep_bad {V : Int} (h : 0 ≤ V ∧ V < 18446744073709551616) : (V < 1 ∨ 2147483648 ≤ V) ↔ (IntKind.i64.wrap V ≤ 0 ∨ 2147483647 < IntKind.i64.wrap V) := by
  rw [IntKind.wrap_i64]
  omega
set_option maxRecDepth 100000 in
set_option maxHeartbeats 4000000 in
theorem refCounted0 (w : World) (I S : Nat → Prop) (hI : ∀ b, I b → b < w.heap.size) (r : Rc) (h : Nat) (hh : h < 2) (hf : r.c.fit) (hbc : r.c.b.length ≤ r.c.bc) (hby : r.c.bytes) (hS : Owns r.res S w) (hSI : ∀ b, S b → b < w.heap.size ∧ ¬ I b) :
    FnS Tryz.prog 79 #[ptrV r.c.gc, .int .i64 (h : Nat)] w I S (fun x : Sl × Sl × Nat => .tuple #[.agg (staC (readM (halfB r.c h)).s x.1 x.2.1).toArray, .int .i64 (readM (halfB r.c h)).ep, .int .i64 (x.2.2 : Nat), .bool (!decide ((readM (halfB r.c h)).ep = 0) && !(readM (halfB r.c h)).more)]) (fun _ => r.res) (fun x W => StaR W (readM (halfB r.c h)).s x.1 x.2.1 ∧ ((readM (halfB r.c h)).ep ≠ 0 → (readM (halfB r.c h)).more = false → x.2.2 = (readM (halfB r.c h)).used)) := by
  obtain ⟨hl2, hsz, hz⟩ := half_two hf
  have hhl := half_le hf
  refine enterS (svs := [.c (.bp 1000 r.c.gc 0), .c (.v (.int .i64 (h : Nat)))]) tysOk Tryz.func79 rfl Tryz.ntmps79 Tryz.results79 (by kernel_rfl) (by simp) hI r.res hS hSI (fun _ => True) (fun _ _ => trivial) fun C hC hN ok => ?_
  simp [hN]
  intro g4
  refine callS ok rfl rfl rfl [1000, 1001, 1002, 1003] r.res (by simp) rfl (fun _ : Sl => [(1000, r.chip), (1001, r.pow), (1002, r.row), (1003, r.cnt)]) (fun w I S hI hG hO hS' => refReadHalf0 w I S hI r h hh hf hbc hO hS') (fun r => by simp) (.inr fun x q hq => by simp at hq; rcases hq with rfl | rfl | rfl | rfl <;> simp) fun y0 W hy0 => ?_
  have hb := halfB_byte hby h
  have hxl := halfB_length hf hh
  obtain ⟨xs, hxs⟩ : ∃ xs, xs = halfB r.c h := ⟨_, rfl⟩
  rw [← hxs] at hb hxl hC
  simp only [← hxs]
  simp [hN]
  have hscan := fun (w : World) (I : Nat → Prop) (hI : ∀ b, I b → b < w.heap.size) (h : ∀ W, Ext I w W → Sv.ok dByte W (y0.1, halfSz r.c, y0.2) xs) => refScan0 w I hI (a := y0.1) (n := halfSz r.c) (c := y0.2) xs (by omega) h hb
  refine call0 ok rfl rfl rfl (fun w I hI hG => hscan w I hI (fun W e => ⟨hxl.symm, (by first | exact (hG W e) | exact (hG W e).2 | exact (hG W e).2.2 | exact (hG W e).2.2.2 | exact (hG W e).2.2.2.2 | exact (hG W e).2.2.2.2.2 | exact (hG W e).2.2.2.2.2.2 | exact (hG W e).2.2.2.2.2.2.2 | exact (hG W e).2.2.2.2.2.2.2.2)⟩)) fun y W hy => ?_
  have hM := readM.eq_1 xs
  have hT := scanN_tot xs xs.length 0 (Nat.zero_le _)
  have hT' : (scanM xs).2.1 ≤ xs.length ∧ totP ((scanM xs).1.map fun y => (y, y.length)) = (scanM xs).2.1 ∧ ∀ x, x ∈ (scanM xs).1 → x.length ≤ 65000 ∧ ((∀ y, y ∈ xs → 0 ≤ y ∧ y ≤ 255) → ∀ y, y ∈ x → 0 ≤ y ∧ y ≤ 255) := ⟨hT.1, by have := hT.2.1; rw [Nat.zero_add] at this; exact this, hT.2.2⟩
  clear hT hscan
  generalize scanM xs = Q at hM hT' hy ⊢
  obtain ⟨L, at_, cl⟩ := Q
  simp only at hM hT' hy ⊢
  obtain ⟨t1, t2, t3⟩ := hT'
  obtain ⟨ya, yc⟩ := y
  have nilS : ∀ W, StaR W staZ (none, 0) (none, 0) := fun W => ⟨⟨Nat.zero_le _, Nat.zero_le _, rd_nil _ _ _⟩, ⟨Nat.zero_le _, Nat.zero_le _, rd_nil _ _ _⟩⟩
  have zero_ok : ∀ m, readM xs = fndZ → give m.rs [1000, 1001, 1002, 1003] r.res → RetP C (.tuple #[.agg (staC staZ (none, 0) (none, 0)).toArray, .int .i64 0, .int .i64 0, .bool false]) m := fun m hz hg => by
    rw [hz] at hC
    exact retS hC ((none, 0), (none, 0), 0) [1000, 1001, 1002, 1003] rfl hg fun W _ _ => ⟨nilS W, fun h => absurd rfl h⟩
  have hld : ∀ (i : Nat) (hlt : i < L.length) (W : World), Sl.ok dBs W (ya, yc) L → ∃ b off, ya = some ⟨b, off, none⟩ ∧ ∃ v, W.cell? ⟨b, off + i, none⟩ = some v ∧ slQ dByte L[i] v W := fun i hlt W hW => by
    obtain ⟨b, off, e⟩ := hW.2.2.is_some (show 0 < L.length by omega)
    cases e
    obtain ⟨cs, ⟨s, rfl, hs⟩, _, hc⟩ := hW.2.2.get hlt
    exact ⟨b, off, rfl, _, by simpa [dBs] using hc 0 _ rfl, s, rfl, hs⟩
  rcases Nat.eq_zero_or_pos L.length with h0 | hpos
  · have : L = [] := List.length_eq_zero_iff.1 h0
    subst this
    simp only at hM
    simp [hN]
    exact zero_ok _ hM (by simp)
  obtain ⟨b, off, e, _⟩ := hld 0 hpos W hy
  cases e
  have hld' : ∀ (i : Nat) (hlt : i < L.length) (W : World), Sl.ok dBs W (some ⟨b, off, none⟩, yc) L → ∃ v, W.cell? ⟨b, off + i, none⟩ = some v ∧ slQ dByte L[i] v W := fun i hlt W hW => by
    obtain ⟨b', off', e, hv⟩ := hld i hlt W hW
    cases e
    exact hv
  have hne : ¬ (L.length : Int) = 0 := by omega
  have hne' : ¬ L = [] := fun h => by rw [h] at hpos; cases hpos
  obtain ⟨x0, rr, hL⟩ : ∃ x r, L = x :: r := by
    cases L with
    | nil => exact absurd rfl hne'
    | cons x r => exact ⟨x, r, rfl⟩
  have h00 : L[0] = x0 := by simp [hL]
  have hx0 := t3 x0 (by rw [hL]; exact List.mem_cons_self)
  rw [hL] at hM
  simp only at hM
  rw [← hL] at hM
  have hld0 : ∀ W, Sl.ok dBs W (some ⟨b, off, none⟩, yc) L → ∃ v, W.cell? ⟨b, off, none⟩ = some v ∧ slQ dByte x0 v W := fun W hW => by have := hld' 0 hpos W hW; rw [h00] at this; simpa using this
  simp [hN, hne, hne', hpos]
  refine load1 ok rfl rfl rfl rfl (slQ dByte x0) (fun W hW => hld0 W (by first | exact (hW) | exact (hW).1 | exact (hW).1.2 | exact (hW).1.2.1 | exact (hW).1.2.2.1 | exact (hW).1.2.2.2.1 | exact (hW).2 | exact (hW).2.1 | exact (hW).2.1.2 | exact (hW).2.1.2.1 | exact (hW).2.1.2.2.1 | exact (hW).2.1.2.2.2.1 | exact (hW).2.2 | exact (hW).2.2.1 | exact (hW).2.2.1.2 | exact (hW).2.2.1.2.1 | exact (hW).2.2.1.2.2.1 | exact (hW).2.2.1.2.2.2.1 | exact (hW).2.2.2 | exact (hW).2.2.2.1 | exact (hW).2.2.2.1.2 | exact (hW).2.2.2.1.2.1 | exact (hW).2.2.2.1.2.2.1 | exact (hW).2.2.2.1.2.2.2.1 | exact (hW).2.2.2.2 | exact (hW).2.2.2.2.1 | exact (hW).2.2.2.2.1.2 | exact (hW).2.2.2.2.1.2.1 | exact (hW).2.2.2.2.1.2.2.1 | exact (hW).2.2.2.2.1.2.2.2.1 | exact (hW).2.2.2.2.2 | exact (hW).2.2.2.2.2.1 | exact (hW).2.2.2.2.2.1.2 | exact (hW).2.2.2.2.2.1.2.1 | exact (hW).2.2.2.2.2.1.2.2.1 | exact (hW).2.2.2.2.2.1.2.2.2.1 | exact (hW).2.2.2.2.2.2 | exact (hW).2.2.2.2.2.2.1 | exact (hW).2.2.2.2.2.2.1.2 | exact (hW).2.2.2.2.2.2.1.2.1 | exact (hW).2.2.2.2.2.2.1.2.2.1 | exact (hW).2.2.2.2.2.2.1.2.2.2.1 | exact (hW).2.2.2.2.2.2.2 | exact (hW).2.2.2.2.2.2.2.1 | exact (hW).2.2.2.2.2.2.2.1.2 | exact (hW).2.2.2.2.2.2.2.1.2.1 | exact (hW).2.2.2.2.2.2.2.1.2.2.1 | exact (hW).2.2.2.2.2.2.2.1.2.2.2.1 | exact (hW).2.2.2.2.2.2.2.2 | exact (hW).2.2.2.2.2.2.2.2.1 | exact (hW).2.2.2.2.2.2.2.2.1.2 | exact (hW).2.2.2.2.2.2.2.2.1.2.1 | exact (hW).2.2.2.2.2.2.2.2.1.2.2.1 | exact (hW).2.2.2.2.2.2.2.2.1.2.2.2.1 | exact (hW).2.2.2.2.2.2.2.2.2)) ?_
  rintro v W ⟨sv, rfl, hsv⟩ _
  by_cases h8 : x0.length < 8
  · have hz : readM xs = fndZ := by rw [hM, if_pos (.inl (by unfold getM; rw [if_pos (by omega)]; decide))]
    have h8' : (x0.length : Int) < 8 := by omega
    simp [hN, h8']
    exact zero_ok _ hz (by simp)
  have h8' : ¬ (x0.length : Int) < 8 := by omega
  have h8'' : (8 : Int) ≤ (x0.length : Nat) := by omega
  have hg8 := getM_le (hx0.2 hb) 0 8
  have hge : (getM x0 0 8).2 = 0 := by unfold getM; rw [if_neg (by omega)]
  have hep : epOf x0 = IntKind.i64.wrap (getM x0 0 8).1 := rfl
  simp [hN, h8', hpos]
  refine load1 ok rfl rfl rfl rfl (slQ dByte x0) (fun W hW => hld0 W (by first | exact (hW) | exact (hW).1 | exact (hW).1.2 | exact (hW).1.2.1 | exact (hW).1.2.2.1 | exact (hW).1.2.2.2.1 | exact (hW).2 | exact (hW).2.1 | exact (hW).2.1.2 | exact (hW).2.1.2.1 | exact (hW).2.1.2.2.1 | exact (hW).2.1.2.2.2.1 | exact (hW).2.2 | exact (hW).2.2.1 | exact (hW).2.2.1.2 | exact (hW).2.2.1.2.1 | exact (hW).2.2.1.2.2.1 | exact (hW).2.2.1.2.2.2.1 | exact (hW).2.2.2 | exact (hW).2.2.2.1 | exact (hW).2.2.2.1.2 | exact (hW).2.2.2.1.2.1 | exact (hW).2.2.2.1.2.2.1 | exact (hW).2.2.2.1.2.2.2.1 | exact (hW).2.2.2.2 | exact (hW).2.2.2.2.1 | exact (hW).2.2.2.2.1.2 | exact (hW).2.2.2.2.1.2.1 | exact (hW).2.2.2.2.1.2.2.1 | exact (hW).2.2.2.2.1.2.2.2.1 | exact (hW).2.2.2.2.2 | exact (hW).2.2.2.2.2.1 | exact (hW).2.2.2.2.2.1.2 | exact (hW).2.2.2.2.2.1.2.1 | exact (hW).2.2.2.2.2.1.2.2.1 | exact (hW).2.2.2.2.2.1.2.2.2.1 | exact (hW).2.2.2.2.2.2 | exact (hW).2.2.2.2.2.2.1 | exact (hW).2.2.2.2.2.2.1.2 | exact (hW).2.2.2.2.2.2.1.2.1 | exact (hW).2.2.2.2.2.2.1.2.2.1 | exact (hW).2.2.2.2.2.2.1.2.2.2.1 | exact (hW).2.2.2.2.2.2.2 | exact (hW).2.2.2.2.2.2.2.1 | exact (hW).2.2.2.2.2.2.2.1.2 | exact (hW).2.2.2.2.2.2.2.1.2.1 | exact (hW).2.2.2.2.2.2.2.1.2.2.1 | exact (hW).2.2.2.2.2.2.2.1.2.2.2.1 | exact (hW).2.2.2.2.2.2.2.2 | exact (hW).2.2.2.2.2.2.2.2.1 | exact (hW).2.2.2.2.2.2.2.2.1.2 | exact (hW).2.2.2.2.2.2.2.2.1.2.1 | exact (hW).2.2.2.2.2.2.2.2.1.2.2.1 | exact (hW).2.2.2.2.2.2.2.2.1.2.2.2.1 | exact (hW).2.2.2.2.2.2.2.2.2)) ?_
  rintro v W ⟨sv2, rfl, hsv2⟩ _
  simp [hN]
  refine call0 ok rfl rfl rfl (fun w I hI hG => refGet0 w I hI (a := sv2.1) (n := x0.length) (c := sv2.2) x0 (fun W e => ⟨rfl, (hG W e).1.get.2⟩) (hx0.2 hb) 0 8 (by omega) (by decide)) fun _ W _ => ?_
  rw [hge] at hM
  generalize (getM x0 0 8).1 = V at hg8 hep ⊢
  simp [hN, hpos]
  refine load1 ok rfl rfl rfl rfl (slQ dByte x0) (fun W hW => hld0 W (by first | exact (hW) | exact (hW).1 | exact (hW).1.2 | exact (hW).1.2.1 | exact (hW).1.2.2.1 | exact (hW).1.2.2.2.1 | exact (hW).2 | exact (hW).2.1 | exact (hW).2.1.2 | exact (hW).2.1.2.1 | exact (hW).2.1.2.2.1 | exact (hW).2.1.2.2.2.1 | exact (hW).2.2 | exact (hW).2.2.1 | exact (hW).2.2.1.2 | exact (hW).2.2.1.2.1 | exact (hW).2.2.1.2.2.1 | exact (hW).2.2.1.2.2.2.1 | exact (hW).2.2.2 | exact (hW).2.2.2.1 | exact (hW).2.2.2.1.2 | exact (hW).2.2.2.1.2.1 | exact (hW).2.2.2.1.2.2.1 | exact (hW).2.2.2.1.2.2.2.1 | exact (hW).2.2.2.2 | exact (hW).2.2.2.2.1 | exact (hW).2.2.2.2.1.2 | exact (hW).2.2.2.2.1.2.1 | exact (hW).2.2.2.2.1.2.2.1 | exact (hW).2.2.2.2.1.2.2.2.1 | exact (hW).2.2.2.2.2 | exact (hW).2.2.2.2.2.1 | exact (hW).2.2.2.2.2.1.2 | exact (hW).2.2.2.2.2.1.2.1 | exact (hW).2.2.2.2.2.1.2.2.1 | exact (hW).2.2.2.2.2.1.2.2.2.1 | exact (hW).2.2.2.2.2.2 | exact (hW).2.2.2.2.2.2.1 | exact (hW).2.2.2.2.2.2.1.2 | exact (hW).2.2.2.2.2.2.1.2.1 | exact (hW).2.2.2.2.2.2.1.2.2.1 | exact (hW).2.2.2.2.2.2.1.2.2.2.1 | exact (hW).2.2.2.2.2.2.2 | exact (hW).2.2.2.2.2.2.2.1 | exact (hW).2.2.2.2.2.2.2.1.2 | exact (hW).2.2.2.2.2.2.2.1.2.1 | exact (hW).2.2.2.2.2.2.2.1.2.2.1 | exact (hW).2.2.2.2.2.2.2.1.2.2.2.1 | exact (hW).2.2.2.2.2.2.2.2 | exact (hW).2.2.2.2.2.2.2.2.1 | exact (hW).2.2.2.2.2.2.2.2.1.2 | exact (hW).2.2.2.2.2.2.2.2.1.2.1 | exact (hW).2.2.2.2.2.2.2.2.1.2.2.1 | exact (hW).2.2.2.2.2.2.2.2.1.2.2.2.1 | exact (hW).2.2.2.2.2.2.2.2.2)) ?_
  rintro v W ⟨sv3, rfl, hsv3⟩ _
  have hc3 : x0.length ≤ sv3.2 := hsv3.1
  simp [hN, h8'', hc3]
  obtain ⟨z0, hz0⟩ : ∃ z0, z0 = x0.drop 8 := ⟨_, rfl⟩
  have hz0l : x0.length - 8 = z0.length := by rw [hz0, List.length_drop]
  have hz0b : ∀ x, x ∈ z0 → 0 ≤ x ∧ x ≤ 255 := fun x hx => by rw [hz0] at hx; exact hx0.2 hb x (List.mem_of_mem_drop hx)
  have hsv8 : ∀ W, slQ dByte x0 (.slice sv3.1 x0.length sv3.2) W → Sv.ok dByte W (if sv3.2 = 8 then sv3.1 else addrP sv3.1 8, z0.length, sv3.2 - 8) z0 := fun W hW => by
    have h1 : Sv.ok dByte W (sv3.1, x0.length, sv3.2) x0 := ⟨rfl, hW.get.2⟩
    have h2 := Sv.drop h1 (show 8 ≤ x0.length by omega)
    rw [hz0l, ← hz0] at h2
    simpa [dByte, flat] using h2
  rw [← hz0] at hM
  rw [hz0l]
  have hz0le : z0.length ≤ x0.length := by omega
  refine call0 ok rfl rfl rfl (fun w I hI hG => refUnpack0 w I hI z0 (by omega) (fun W e => hsv8 W (hG W e).1) hz0b) fun y3 W hy3 => ?_
  obtain ⟨hy3e, hy3s⟩ := hy3
  obtain ⟨⟨da, dc⟩, ue⟩ := y3
  simp only at hy3e
  have hbV := ep_bad (V := V) ⟨hg8.1, by have := hg8.2; simpa using this⟩
  rw [← hep] at hbV
  have hge2 : ∀ (W : World), True := fun _ => trivial
  by_cases hbad : ue ≠ 0 ∨ V < 1 ∨ 2147483648 ≤ V
  · have hz : readM xs = fndZ := by
      rw [hM]
      by_cases hv : V < 1 ∨ 2147483648 ≤ V
      · rw [if_pos (.inr (hbV.1 hv))]
      · rw [if_neg (by intro hc; rcases hc with hc | hc; · exact absurd rfl hc
                       · exact hv (hbV.2 hc))]
        rw [if_pos]
        rcases hbad with hc | hc
        · exact fun h => hc (hy3e.2 h)
        · exact absurd hc hv
    by_cases c1 : ue = 0
    · by_cases c2 : V < 1
      · simp [hN, c1, c2]
        exact zero_ok _ hz (by simp)
      · have c3 : 2147483648 ≤ V := by
          rcases hbad with h | h | h
          · exact absurd c1 h
          · exact absurd h c2
          · exact h
        simp [hN, c1, c2, c3]
        exact zero_ok _ hz (by simp)
    · simp [hN, c1]
      exact zero_ok _ hz (by simp)
  have c1 : ue = 0 := Classical.byContradiction fun h => hbad (.inl h)
  have c2 : ¬ V < 1 := fun h => hbad (.inr (.inl h))
  have c3 : ¬ 2147483648 ≤ V := fun h => hbad (.inr (.inr h))
  have hnbV : ¬ (epOf x0 ≤ 0 ∨ 2147483647 < epOf x0) := fun h => by rcases hbV.2 h with h | h; · exact c2 h
                                                                    · exact c3 h
  have hpz : (parseM z0).2 = 0 := hy3e.1 c1
  subst c1
  rw [if_neg (by intro hc; rcases hc with hc | hc; · exact absurd rfl hc
                 · exact hnbV hc), if_neg (by simp [hpz])] at hM
  have hpl0 := parse_len z0
  have hrl := recL_length L
  have hLb : L.length ≤ 100000000000 := hy.2.1
  have hr0 : recL L = (z0, x0.length) :: rr.map fun y => (y, y.length) := by rw [hL, recL, hz0]
  have hgo0 : goP staZ 0 (recL L) = goP (applyL staZ (parseM z0).1) (0 + (x0.length + 7)) ((recL L).drop 1) := by
    rw [hr0, goP, if_neg (by simp [hpz])]
    rfl
  have htt : x0.length + 7 + totP ((recL L).drop 1) = at_ := by
    rw [← t2, hr0, hL]
    rfl
  have hal0 := applyL_len staZ (parseM z0).1
  simp [hN, c2, c3]
  refine call0 ok rfl rfl rfl (fun w I hI hG => refApply0 w I hI staZ (none, 0) (none, 0) (a := da) (n := (parseM z0).1.length) (c := dc) (parseM z0).1 (fun W e => nilS W) (fun W e => ⟨rfl, (by first | exact (hG W e) | exact (hG W e).1 | exact (hG W e).1.2 | exact (hG W e).1.2.1 | exact (hG W e).1.2.2.1 | exact (hG W e).1.2.2.2.1 | exact (hG W e).2 | exact (hG W e).2.1 | exact (hG W e).2.1.2 | exact (hG W e).2.1.2.1 | exact (hG W e).2.1.2.2.1 | exact (hG W e).2.1.2.2.2.1 | exact (hG W e).2.2 | exact (hG W e).2.2.1 | exact (hG W e).2.2.1.2 | exact (hG W e).2.2.1.2.1 | exact (hG W e).2.2.1.2.2.1 | exact (hG W e).2.2.1.2.2.2.1 | exact (hG W e).2.2.2 | exact (hG W e).2.2.2.1 | exact (hG W e).2.2.2.1.2 | exact (hG W e).2.2.2.1.2.1 | exact (hG W e).2.2.2.1.2.2.1 | exact (hG W e).2.2.2.1.2.2.2.1 | exact (hG W e).2.2.2.2 | exact (hG W e).2.2.2.2.1 | exact (hG W e).2.2.2.2.1.2 | exact (hG W e).2.2.2.2.1.2.1 | exact (hG W e).2.2.2.2.1.2.2.1 | exact (hG W e).2.2.2.2.1.2.2.2.1 | exact (hG W e).2.2.2.2.2 | exact (hG W e).2.2.2.2.2.1 | exact (hG W e).2.2.2.2.2.1.2 | exact (hG W e).2.2.2.2.2.1.2.1 | exact (hG W e).2.2.2.2.2.1.2.2.1 | exact (hG W e).2.2.2.2.2.1.2.2.2.1 | exact (hG W e).2.2.2.2.2.2 | exact (hG W e).2.2.2.2.2.2.1 | exact (hG W e).2.2.2.2.2.2.1.2 | exact (hG W e).2.2.2.2.2.2.1.2.1 | exact (hG W e).2.2.2.2.2.2.1.2.2.1 | exact (hG W e).2.2.2.2.2.2.1.2.2.2.1 | exact (hG W e).2.2.2.2.2.2.2 | exact (hG W e).2.2.2.2.2.2.2.1 | exact (hG W e).2.2.2.2.2.2.2.1.2 | exact (hG W e).2.2.2.2.2.2.2.1.2.1 | exact (hG W e).2.2.2.2.2.2.2.1.2.2.1 | exact (hG W e).2.2.2.2.2.2.2.1.2.2.2.1 | exact (hG W e).2.2.2.2.2.2.2.2 | exact (hG W e).2.2.2.2.2.2.2.2.1 | exact (hG W e).2.2.2.2.2.2.2.2.1.2 | exact (hG W e).2.2.2.2.2.2.2.2.1.2.1 | exact (hG W e).2.2.2.2.2.2.2.2.1.2.2.1 | exact (hG W e).2.2.2.2.2.2.2.2.1.2.2.2.1 | exact (hG W e).2.2.2.2.2.2.2.2.2)⟩) (by simp [staZ]; omega)) fun y4 W hy4 => ?_
  simp [hN]
  intro g17
  refine forget (fun W => StaR W (applyL staZ (parseM z0).1) y4.1 y4.2 ∧ Sl.ok dBs W (some ⟨b, off, none⟩, yc) L) ?fg ?_
  case fg => exact fun W hW => ⟨hW.1, (by first | exact (hW) | exact (hW).1 | exact (hW).1.2 | exact (hW).1.2.1 | exact (hW).1.2.2.1 | exact (hW).1.2.2.2.1 | exact (hW).2 | exact (hW).2.1 | exact (hW).2.1.2 | exact (hW).2.1.2.1 | exact (hW).2.1.2.2.1 | exact (hW).2.1.2.2.2.1 | exact (hW).2.2 | exact (hW).2.2.1 | exact (hW).2.2.1.2 | exact (hW).2.2.1.2.1 | exact (hW).2.2.1.2.2.1 | exact (hW).2.2.1.2.2.2.1 | exact (hW).2.2.2 | exact (hW).2.2.2.1 | exact (hW).2.2.2.1.2 | exact (hW).2.2.2.1.2.1 | exact (hW).2.2.2.1.2.2.1 | exact (hW).2.2.2.1.2.2.2.1 | exact (hW).2.2.2.2 | exact (hW).2.2.2.2.1 | exact (hW).2.2.2.2.1.2 | exact (hW).2.2.2.2.1.2.1 | exact (hW).2.2.2.2.1.2.2.1 | exact (hW).2.2.2.2.1.2.2.2.1 | exact (hW).2.2.2.2.2 | exact (hW).2.2.2.2.2.1 | exact (hW).2.2.2.2.2.1.2 | exact (hW).2.2.2.2.2.1.2.1 | exact (hW).2.2.2.2.2.1.2.2.1 | exact (hW).2.2.2.2.2.1.2.2.2.1 | exact (hW).2.2.2.2.2.2 | exact (hW).2.2.2.2.2.2.1 | exact (hW).2.2.2.2.2.2.1.2 | exact (hW).2.2.2.2.2.2.1.2.1 | exact (hW).2.2.2.2.2.2.1.2.2.1 | exact (hW).2.2.2.2.2.2.1.2.2.2.1 | exact (hW).2.2.2.2.2.2.2 | exact (hW).2.2.2.2.2.2.2.1 | exact (hW).2.2.2.2.2.2.2.1.2 | exact (hW).2.2.2.2.2.2.2.1.2.1 | exact (hW).2.2.2.2.2.2.2.1.2.2.1 | exact (hW).2.2.2.2.2.2.2.1.2.2.2.1 | exact (hW).2.2.2.2.2.2.2.2 | exact (hW).2.2.2.2.2.2.2.2.1 | exact (hW).2.2.2.2.2.2.2.2.1.2 | exact (hW).2.2.2.2.2.2.2.2.1.2.1 | exact (hW).2.2.2.2.2.2.2.2.1.2.2.1 | exact (hW).2.2.2.2.2.2.2.2.1.2.2.2.1 | exact (hW).2.2.2.2.2.2.2.2.2)⟩
  refine loopK [4, 10, 11, 12, 13, 17] ok (fun y : Nat × Sta × Nat × Sl × Sl => [(18, .c (.v (.int .i64 (y.1 : Nat))))]) (fun y => [(1000, r.chip), (1001, r.pow), (1002, r.row), (1003, r.cnt), (4, .box g4 39 ((staC staZ (none, 0) (none, 0)).map .v)), (17, .box g17 39 ((staC y.2.1 y.2.2.2.1 y.2.2.2.2).map .v))]) (fun y W => 1 ≤ y.1 ∧ y.1 ≤ L.length ∧ StaR W y.2.1 y.2.2.2.1 y.2.2.2.2 ∧ y.2.1.inos.length ≤ y.2.2.1 ∧ y.2.1.bad.length ≤ y.2.2.1 ∧ y.2.2.1 + totP ((recL L).drop y.1) = at_ ∧ goP staZ 0 (recL L) = goP y.2.1 y.2.2.1 ((recL L).drop y.1)) (fun y => L.length - y.1) (1, applyL staZ (parseM z0).1, 0 + (x0.length + 7), y4.1, y4.2) ?_ ?_ (fun W hW => ⟨Nat.le_refl _, hpos, hW.1, by simp [staZ] at hal0 ⊢; omega, by simp [staZ] at hal0 ⊢; omega, by simp only; omega, hgo0⟩) ?_
  · simp
  · simp [staZ]
  rintro ⟨i, s, u, si, sb⟩ W ⟨hi1, hi, hSW, hu1, hu2, hut, hgo⟩ hG next
  simp only at hi1 hi hSW hu1 hu2 hut hgo
  have hwV : IntKind.i64.wrap V = epOf x0 := hep.symm
  have hepne : ¬ epOf x0 = 0 := fun h => hnbV (.inl (by omega))
  rcases Nat.lt_or_ge i L.length with hlt | hge
  · have hD : (recL L).drop i = (L[i], L[i].length) :: (recL L).drop (i + 1) := by
      have h1 := recL_get hlt
      rw [if_neg (by omega)] at h1
      have h2 : i < (recL L).length := by rw [hrl]; exact hlt
      rw [List.drop_eq_getElem_cons h2]
      rw [List.getElem?_eq_getElem h2] at h1
      rw [Option.some.inj h1]
    have hz := t3 _ (List.getElem_mem hlt)
    have hldi := hld' i hlt
    simp [hN, hlt]
    refine load1 ok rfl rfl rfl rfl (slQ dByte L[i]) (fun W hW => hldi W (by first | exact (hW) | exact (hW).1 | exact (hW).1.2 | exact (hW).1.2.1 | exact (hW).1.2.2.1 | exact (hW).1.2.2.2.1 | exact (hW).2 | exact (hW).2.1 | exact (hW).2.1.2 | exact (hW).2.1.2.1 | exact (hW).2.1.2.2.1 | exact (hW).2.1.2.2.2.1 | exact (hW).2.2 | exact (hW).2.2.1 | exact (hW).2.2.1.2 | exact (hW).2.2.1.2.1 | exact (hW).2.2.1.2.2.1 | exact (hW).2.2.1.2.2.2.1 | exact (hW).2.2.2 | exact (hW).2.2.2.1 | exact (hW).2.2.2.1.2 | exact (hW).2.2.2.1.2.1 | exact (hW).2.2.2.1.2.2.1 | exact (hW).2.2.2.1.2.2.2.1 | exact (hW).2.2.2.2 | exact (hW).2.2.2.2.1 | exact (hW).2.2.2.2.1.2 | exact (hW).2.2.2.2.1.2.1 | exact (hW).2.2.2.2.1.2.2.1 | exact (hW).2.2.2.2.1.2.2.2.1 | exact (hW).2.2.2.2.2 | exact (hW).2.2.2.2.2.1 | exact (hW).2.2.2.2.2.1.2 | exact (hW).2.2.2.2.2.1.2.1 | exact (hW).2.2.2.2.2.1.2.2.1 | exact (hW).2.2.2.2.2.1.2.2.2.1 | exact (hW).2.2.2.2.2.2 | exact (hW).2.2.2.2.2.2.1 | exact (hW).2.2.2.2.2.2.1.2 | exact (hW).2.2.2.2.2.2.1.2.1 | exact (hW).2.2.2.2.2.2.1.2.2.1 | exact (hW).2.2.2.2.2.2.1.2.2.2.1 | exact (hW).2.2.2.2.2.2.2 | exact (hW).2.2.2.2.2.2.2.1 | exact (hW).2.2.2.2.2.2.2.1.2 | exact (hW).2.2.2.2.2.2.2.1.2.1 | exact (hW).2.2.2.2.2.2.2.1.2.2.1 | exact (hW).2.2.2.2.2.2.2.1.2.2.2.1 | exact (hW).2.2.2.2.2.2.2.2 | exact (hW).2.2.2.2.2.2.2.2.1 | exact (hW).2.2.2.2.2.2.2.2.1.2 | exact (hW).2.2.2.2.2.2.2.2.1.2.1 | exact (hW).2.2.2.2.2.2.2.2.1.2.2.1 | exact (hW).2.2.2.2.2.2.2.2.1.2.2.2.1 | exact (hW).2.2.2.2.2.2.2.2.2)) ?_
    generalize L[i] = z at hD hz hldi
    rintro v W ⟨sz, rfl, hsz⟩ _
    rw [hD] at hut hgo
    have hpl := parse_len z
    have e6 : IntKind.i64.wrap ((i : Int) + 1) = (i + 1 : Nat) := by rw [w64 (by omega) (by omega)]; omega
    simp [hN]
    refine call0 ok rfl rfl rfl (fun w I hI hG => refUnpack0 w I hI (a := sz.1) (n := z.length) (c := sz.2) z (by omega) (fun W e => ⟨rfl, (hG W e).1.get.2⟩) (hz.2 hb)) fun y5 W hy5 => ?_
    obtain ⟨hy5e, hy5s⟩ := hy5
    obtain ⟨⟨ea, ec⟩, u5⟩ := y5
    simp only at hy5e
    by_cases hu5 : u5 = 0
    · have hpe := hy5e.1 hu5
      have hal := applyL_len s (parseM z).1
      rw [goP, if_neg (by simp [hpe])] at hgo
      simp only [totP] at hut
      subst hu5
      simp [hN]
      refine call0 ok rfl rfl rfl (fun w I hI hG => refApply0 w I hI s si sb (a := ea) (n := (parseM z).1.length) (c := ec) (parseM z).1 (fun W e => (by first | exact (hG W e) | exact (hG W e).1 | exact (hG W e).1.2 | exact (hG W e).1.2.1 | exact (hG W e).1.2.2.1 | exact (hG W e).1.2.2.2.1 | exact (hG W e).2 | exact (hG W e).2.1 | exact (hG W e).2.1.2 | exact (hG W e).2.1.2.1 | exact (hG W e).2.1.2.2.1 | exact (hG W e).2.1.2.2.2.1 | exact (hG W e).2.2 | exact (hG W e).2.2.1 | exact (hG W e).2.2.1.2 | exact (hG W e).2.2.1.2.1 | exact (hG W e).2.2.1.2.2.1 | exact (hG W e).2.2.1.2.2.2.1 | exact (hG W e).2.2.2 | exact (hG W e).2.2.2.1 | exact (hG W e).2.2.2.1.2 | exact (hG W e).2.2.2.1.2.1 | exact (hG W e).2.2.2.1.2.2.1 | exact (hG W e).2.2.2.1.2.2.2.1 | exact (hG W e).2.2.2.2 | exact (hG W e).2.2.2.2.1 | exact (hG W e).2.2.2.2.1.2 | exact (hG W e).2.2.2.2.1.2.1 | exact (hG W e).2.2.2.2.1.2.2.1 | exact (hG W e).2.2.2.2.1.2.2.2.1 | exact (hG W e).2.2.2.2.2 | exact (hG W e).2.2.2.2.2.1 | exact (hG W e).2.2.2.2.2.1.2 | exact (hG W e).2.2.2.2.2.1.2.1 | exact (hG W e).2.2.2.2.2.1.2.2.1 | exact (hG W e).2.2.2.2.2.1.2.2.2.1 | exact (hG W e).2.2.2.2.2.2 | exact (hG W e).2.2.2.2.2.2.1 | exact (hG W e).2.2.2.2.2.2.1.2 | exact (hG W e).2.2.2.2.2.2.1.2.1 | exact (hG W e).2.2.2.2.2.2.1.2.2.1 | exact (hG W e).2.2.2.2.2.2.1.2.2.2.1 | exact (hG W e).2.2.2.2.2.2.2 | exact (hG W e).2.2.2.2.2.2.2.1 | exact (hG W e).2.2.2.2.2.2.2.1.2 | exact (hG W e).2.2.2.2.2.2.2.1.2.1 | exact (hG W e).2.2.2.2.2.2.2.1.2.2.1 | exact (hG W e).2.2.2.2.2.2.2.1.2.2.2.1 | exact (hG W e).2.2.2.2.2.2.2.2 | exact (hG W e).2.2.2.2.2.2.2.2.1 | exact (hG W e).2.2.2.2.2.2.2.2.1.2 | exact (hG W e).2.2.2.2.2.2.2.2.1.2.1 | exact (hG W e).2.2.2.2.2.2.2.2.1.2.2.1 | exact (hG W e).2.2.2.2.2.2.2.2.1.2.2.2.1 | exact (hG W e).2.2.2.2.2.2.2.2.2)) (fun W e => ⟨rfl, (by first | exact (hG W e) | exact (hG W e).1 | exact (hG W e).1.2 | exact (hG W e).1.2.1 | exact (hG W e).1.2.2.1 | exact (hG W e).1.2.2.2.1 | exact (hG W e).2 | exact (hG W e).2.1 | exact (hG W e).2.1.2 | exact (hG W e).2.1.2.1 | exact (hG W e).2.1.2.2.1 | exact (hG W e).2.1.2.2.2.1 | exact (hG W e).2.2 | exact (hG W e).2.2.1 | exact (hG W e).2.2.1.2 | exact (hG W e).2.2.1.2.1 | exact (hG W e).2.2.1.2.2.1 | exact (hG W e).2.2.1.2.2.2.1 | exact (hG W e).2.2.2 | exact (hG W e).2.2.2.1 | exact (hG W e).2.2.2.1.2 | exact (hG W e).2.2.2.1.2.1 | exact (hG W e).2.2.2.1.2.2.1 | exact (hG W e).2.2.2.1.2.2.2.1 | exact (hG W e).2.2.2.2 | exact (hG W e).2.2.2.2.1 | exact (hG W e).2.2.2.2.1.2 | exact (hG W e).2.2.2.2.1.2.1 | exact (hG W e).2.2.2.2.1.2.2.1 | exact (hG W e).2.2.2.2.1.2.2.2.1 | exact (hG W e).2.2.2.2.2 | exact (hG W e).2.2.2.2.2.1 | exact (hG W e).2.2.2.2.2.1.2 | exact (hG W e).2.2.2.2.2.1.2.1 | exact (hG W e).2.2.2.2.2.1.2.2.1 | exact (hG W e).2.2.2.2.2.1.2.2.2.1 | exact (hG W e).2.2.2.2.2.2 | exact (hG W e).2.2.2.2.2.2.1 | exact (hG W e).2.2.2.2.2.2.1.2 | exact (hG W e).2.2.2.2.2.2.1.2.1 | exact (hG W e).2.2.2.2.2.2.1.2.2.1 | exact (hG W e).2.2.2.2.2.2.1.2.2.2.1 | exact (hG W e).2.2.2.2.2.2.2 | exact (hG W e).2.2.2.2.2.2.2.1 | exact (hG W e).2.2.2.2.2.2.2.1.2 | exact (hG W e).2.2.2.2.2.2.2.1.2.1 | exact (hG W e).2.2.2.2.2.2.2.1.2.2.1 | exact (hG W e).2.2.2.2.2.2.2.1.2.2.2.1 | exact (hG W e).2.2.2.2.2.2.2.2 | exact (hG W e).2.2.2.2.2.2.2.2.1 | exact (hG W e).2.2.2.2.2.2.2.2.1.2 | exact (hG W e).2.2.2.2.2.2.2.2.1.2.1 | exact (hG W e).2.2.2.2.2.2.2.2.1.2.2.1 | exact (hG W e).2.2.2.2.2.2.2.2.1.2.2.2.1 | exact (hG W e).2.2.2.2.2.2.2.2.2)⟩) (by omega)) fun q W hq => ?_
      simp [hN, e6]
      exact next (i + 1, applyL s (parseM z).1, u + (z.length + 7), q.1, q.2) _ _ (by simp only; omega) (fun W hW => ⟨⟨by simp only; omega, by simp only; omega, hW.1, by simp only; omega, by simp only; omega, by simp only; omega, hgo⟩, (by first | exact (hW) | exact (hW).1 | exact (hW).1.2 | exact (hW).1.2.1 | exact (hW).1.2.2.1 | exact (hW).1.2.2.2.1 | exact (hW).2 | exact (hW).2.1 | exact (hW).2.1.2 | exact (hW).2.1.2.1 | exact (hW).2.1.2.2.1 | exact (hW).2.1.2.2.2.1 | exact (hW).2.2 | exact (hW).2.2.1 | exact (hW).2.2.1.2 | exact (hW).2.2.1.2.1 | exact (hW).2.2.1.2.2.1 | exact (hW).2.2.1.2.2.2.1 | exact (hW).2.2.2 | exact (hW).2.2.2.1 | exact (hW).2.2.2.1.2 | exact (hW).2.2.2.1.2.1 | exact (hW).2.2.2.1.2.2.1 | exact (hW).2.2.2.1.2.2.2.1 | exact (hW).2.2.2.2 | exact (hW).2.2.2.2.1 | exact (hW).2.2.2.2.1.2 | exact (hW).2.2.2.2.1.2.1 | exact (hW).2.2.2.2.1.2.2.1 | exact (hW).2.2.2.2.1.2.2.2.1 | exact (hW).2.2.2.2.2 | exact (hW).2.2.2.2.2.1 | exact (hW).2.2.2.2.2.1.2 | exact (hW).2.2.2.2.2.1.2.1 | exact (hW).2.2.2.2.2.1.2.2.1 | exact (hW).2.2.2.2.2.1.2.2.2.1 | exact (hW).2.2.2.2.2.2 | exact (hW).2.2.2.2.2.2.1 | exact (hW).2.2.2.2.2.2.1.2 | exact (hW).2.2.2.2.2.2.1.2.1 | exact (hW).2.2.2.2.2.2.1.2.2.1 | exact (hW).2.2.2.2.2.2.1.2.2.2.1 | exact (hW).2.2.2.2.2.2.2 | exact (hW).2.2.2.2.2.2.2.1 | exact (hW).2.2.2.2.2.2.2.1.2 | exact (hW).2.2.2.2.2.2.2.1.2.1 | exact (hW).2.2.2.2.2.2.2.1.2.2.1 | exact (hW).2.2.2.2.2.2.2.1.2.2.2.1 | exact (hW).2.2.2.2.2.2.2.2 | exact (hW).2.2.2.2.2.2.2.2.1 | exact (hW).2.2.2.2.2.2.2.2.1.2 | exact (hW).2.2.2.2.2.2.2.2.1.2.1 | exact (hW).2.2.2.2.2.2.2.2.1.2.2.1 | exact (hW).2.2.2.2.2.2.2.2.1.2.2.2.1 | exact (hW).2.2.2.2.2.2.2.2.2)⟩) (by simp)
    · have hpe : (parseM z).2 ≠ 0 := fun h => hu5 (hy5e.2 h)
      rw [goP, if_pos hpe] at hgo
      rw [hgo] at hM
      simp only [totP] at hut
      have hlt2 : u < at_ := by omega
      rw [decide_eq_true hlt2, Bool.or_true] at hM
      rw [hM] at hC
      simp [hN, hu5, hwV]
      refine retS hC (si, sb, at_) [1000, 1001, 1002, 1003] (by simp [hepne]) (by simp) fun W _ hG => ⟨(by first | exact (hG) | exact (hG).1 | exact (hG).1.2 | exact (hG).1.2.1 | exact (hG).1.2.2.1 | exact (hG).1.2.2.2.1 | exact (hG).2 | exact (hG).2.1 | exact (hG).2.1.2 | exact (hG).2.1.2.1 | exact (hG).2.1.2.2.1 | exact (hG).2.1.2.2.2.1 | exact (hG).2.2 | exact (hG).2.2.1 | exact (hG).2.2.1.2 | exact (hG).2.2.1.2.1 | exact (hG).2.2.1.2.2.1 | exact (hG).2.2.1.2.2.2.1 | exact (hG).2.2.2 | exact (hG).2.2.2.1 | exact (hG).2.2.2.1.2 | exact (hG).2.2.2.1.2.1 | exact (hG).2.2.2.1.2.2.1 | exact (hG).2.2.2.1.2.2.2.1 | exact (hG).2.2.2.2 | exact (hG).2.2.2.2.1 | exact (hG).2.2.2.2.1.2 | exact (hG).2.2.2.2.1.2.1 | exact (hG).2.2.2.2.1.2.2.1 | exact (hG).2.2.2.2.1.2.2.2.1 | exact (hG).2.2.2.2.2 | exact (hG).2.2.2.2.2.1 | exact (hG).2.2.2.2.2.1.2 | exact (hG).2.2.2.2.2.1.2.1 | exact (hG).2.2.2.2.2.1.2.2.1 | exact (hG).2.2.2.2.2.1.2.2.2.1 | exact (hG).2.2.2.2.2.2 | exact (hG).2.2.2.2.2.2.1 | exact (hG).2.2.2.2.2.2.1.2 | exact (hG).2.2.2.2.2.2.1.2.1 | exact (hG).2.2.2.2.2.2.1.2.2.1 | exact (hG).2.2.2.2.2.2.1.2.2.2.1 | exact (hG).2.2.2.2.2.2.2 | exact (hG).2.2.2.2.2.2.2.1 | exact (hG).2.2.2.2.2.2.2.1.2 | exact (hG).2.2.2.2.2.2.2.1.2.1 | exact (hG).2.2.2.2.2.2.2.1.2.2.1 | exact (hG).2.2.2.2.2.2.2.1.2.2.2.1 | exact (hG).2.2.2.2.2.2.2.2 | exact (hG).2.2.2.2.2.2.2.2.1 | exact (hG).2.2.2.2.2.2.2.2.1.2 | exact (hG).2.2.2.2.2.2.2.2.1.2.1 | exact (hG).2.2.2.2.2.2.2.2.1.2.2.1 | exact (hG).2.2.2.2.2.2.2.2.1.2.2.2.1 | exact (hG).2.2.2.2.2.2.2.2.2), fun _ h => by cases h⟩
  · obtain rfl : i = L.length := by omega
    rw [List.drop_eq_nil_of_le (by omega)] at hut hgo
    simp only [totP, Nat.add_zero] at hut
    rw [goP] at hgo
    rw [hgo] at hM
    rw [decide_eq_false (by simp only; omega), Bool.or_false] at hM
    rw [hM] at hC
    simp [hN, hwV]
    refine retS hC (si, sb, at_) [1000, 1001, 1002, 1003] (by simp [hepne]) (by simp) fun W _ hG => ⟨(by first | exact (hG) | exact (hG).1 | exact (hG).1.2 | exact (hG).1.2.1 | exact (hG).1.2.2.1 | exact (hG).1.2.2.2.1 | exact (hG).2 | exact (hG).2.1 | exact (hG).2.1.2 | exact (hG).2.1.2.1 | exact (hG).2.1.2.2.1 | exact (hG).2.1.2.2.2.1 | exact (hG).2.2 | exact (hG).2.2.1 | exact (hG).2.2.1.2 | exact (hG).2.2.1.2.1 | exact (hG).2.2.1.2.2.1 | exact (hG).2.2.1.2.2.2.1 | exact (hG).2.2.2 | exact (hG).2.2.2.1 | exact (hG).2.2.2.1.2 | exact (hG).2.2.2.1.2.1 | exact (hG).2.2.2.1.2.2.1 | exact (hG).2.2.2.1.2.2.2.1 | exact (hG).2.2.2.2 | exact (hG).2.2.2.2.1 | exact (hG).2.2.2.2.1.2 | exact (hG).2.2.2.2.1.2.1 | exact (hG).2.2.2.2.1.2.2.1 | exact (hG).2.2.2.2.1.2.2.2.1 | exact (hG).2.2.2.2.2 | exact (hG).2.2.2.2.2.1 | exact (hG).2.2.2.2.2.1.2 | exact (hG).2.2.2.2.2.1.2.1 | exact (hG).2.2.2.2.2.1.2.2.1 | exact (hG).2.2.2.2.2.1.2.2.2.1 | exact (hG).2.2.2.2.2.2 | exact (hG).2.2.2.2.2.2.1 | exact (hG).2.2.2.2.2.2.1.2 | exact (hG).2.2.2.2.2.2.1.2.1 | exact (hG).2.2.2.2.2.2.1.2.2.1 | exact (hG).2.2.2.2.2.2.1.2.2.2.1 | exact (hG).2.2.2.2.2.2.2 | exact (hG).2.2.2.2.2.2.2.1 | exact (hG).2.2.2.2.2.2.2.1.2 | exact (hG).2.2.2.2.2.2.2.1.2.1 | exact (hG).2.2.2.2.2.2.2.1.2.2.1 | exact (hG).2.2.2.2.2.2.2.1.2.2.2.1 | exact (hG).2.2.2.2.2.2.2.2 | exact (hG).2.2.2.2.2.2.2.2.1 | exact (hG).2.2.2.2.2.2.2.2.1.2 | exact (hG).2.2.2.2.2.2.2.2.1.2.1 | exact (hG).2.2.2.2.2.2.2.2.1.2.2.1 | exact (hG).2.2.2.2.2.2.2.2.1.2.2.2.1 | exact (hG).2.2.2.2.2.2.2.2.2), fun _ _ => hut.symm⟩
end Go.Proofs.YtbbaoeidobdblaaGreat.Sx

/- ref17: first, anew, Format. -/
set_option linter.unusedVariables false
set_option linter.unusedSimpArgs false
namespace Go.Proofs.YtbbaoeidobdblaaGreat.Sx
open Go
attribute [local simp ↓] ifb_true' ifb_false'
attribute [local simp] ifb_true ifb_false ifb_eq sx argsT find ev evOp evs evo evBin evInt evStr evNil evNilA ptrA slcA isNoneA asB evLoad look del cellsB evUn evConv kdec fld evFieldA evField evIdxA evIdx evSlc bndL bndH evLen mmi put resV guardV gvL setO tupV cellsOf ones one upd lits nv exitTo SV.val CV.val TI.agg rdyA allR keepB scan simpO gsp isS subs keepT pickT wr memN pubs Res.fact Region.binds bld rest give delL back Res.eqv vi vb num Sv.val undef
set_option maxHeartbeats 1000000 in
theorem first17G_0 (w : World) (I : Nat → Prop) (hI : ∀ b, I b → b < w.heap.size) (e : Int) (s : Sta) (si sb : Sl) (h : ∀ W, Ext I w W → StaR W s si sb) (hl : s.inos.length + s.bad.length ≤ 1000000000) (hl2 : (deedsB (wholeL s)).length ≤ 10000000000) :
    Fn0 Tryz.prog 65 #[.int .i64 e, .agg (staC s si sb).toArray] w I (fun r : Sl => .slice r.1 (firstB e s).length r.2) (fun r W => r.ok dByte W (firstB e s)) := by
  obtain ⟨ia, ic⟩ := si
  obtain ⟨ba, bc⟩ := sb
  refine enter (svs := [.c (.v (.int .i64 e)), .ag ((staC s (ia, ic) (ba, bc)).map .v)]) tysOk Tryz.func65 rfl Tryz.ntmps65 Tryz.results65 (by kernel_rfl) (by simp) hI (fun W => StaR W s (ia, ic) (ba, bc)) h fun C hC hN ok => ?_
  simp [hN]
  intro g1
  refine drawK ok mixed (by kernel_rfl) ?_
  simp (maxSteps := 2000000) -implicitDefEqProofs [hN, u64_wrap]
  refine callS ok rfl rfl rfl [] [] trivial rfl (fun x : Sl => [(600, .row x.1 8 x.2 5 1 (bC (intB e)))]) (fun w I S hI hG hO hS => (refPutS w I hI [] (none, 0) _ 8 (fun W _ => by simp [Sl.ok, Rd]) (by simp) (by omega) (Int.emod_nonneg _ (by decide))).lone hO) (fun r => by simp [intB]) (.inl fun k hk => by cases hk) fun x W _ => ?_
  simp (maxSteps := 2000000) -implicitDefEqProofs [hN]
  refine call0 ok rfl rfl rfl (fun w I hI hG => refWhole0 w I hI s (ia, ic) (ba, bc) (fun W e => hG W e) hl) fun y W hy => ?_
  simp (maxSteps := 2000000) -implicitDefEqProofs [hN]
  refine call0 ok rfl rfl rfl (fun w I hI hG => refPackG0 w I hI (wholeL s) y (fun W e => (hG W e).1) hl2) fun z W hz => ?_
  simp (maxSteps := 2000000) -implicitDefEqProofs [hN]
  obtain ⟨za, zn, zc⟩ := z
  have hzn : zn = (deedsB (wholeL s)).length := hz.1
  refine appV ok 600 rfl rfl rfl rfl rfl (by decide) rfl rfl rfl rfl rfl rfl dByte (deedsB (wholeL s)) rfl (by show (8 + _) * 1 ≤ _; omega) (by omega) (fun W hW => hW.1) fun l a' c'' W hl hr _ => ?_
  simp (maxSteps := 2000000) -implicitDefEqProofs [hN]
  have hll : l = (deedsB (wholeL s)).map (Value.int .u8) := rows_byte.1 hr
  have hrow : bC (intB e) ++ l.map nv = bC (firstB e s) := by rw [hll, bC_nv, bC_app, firstB]
  rw [hrow]
  refine ret0 hC (a', c'') (by simp [firstB_length]) fun W hp hG => ?_
  simp only [pubs, Res.fact] at hp
  exact (byte_ok (xs := firstB e s) hp.1 (by rw [firstB_length]; omega)).2
/-- The reference's journal: the model, and the counts of erases. -/
structure Rj where
  j : Jn
  gk : Nat
  kc : Nat
  ct : List Int
abbrev Rj.rc (x : Rj) : Rc := ⟨x.j.c, x.gk, x.kc, x.ct⟩
abbrev rjC (j : Jn) : List CV := [.bp 1000 j.c.gc 0, .v (.int .i64 j.s.next), .v (.slice j.si.1 j.s.inos.length j.si.2), .v (.slice j.sb.1 j.s.bad.length j.sb.2), .v (.int .i64 (j.half : Nat)), .v (.int .i64 j.ep), .v (.int .i64 (j.used : Nat)), .b j.ended]
abbrev rjB (j : Jn) : Res := .box j.gj 83 (rjC j)
abbrev Rj.box (x : Rj) : Res := rjB x.j
abbrev Rj.res (x : Rj) : List Res := [x.rc.chip, x.rc.pow, x.rc.row, x.rc.cnt, x.box]
set_option maxRecDepth 100000 in
set_option maxHeartbeats 2000000 in
theorem refAnew0 (w : World) (I S : Nat → Prop) (hI : ∀ b, I b → b < w.heap.size) (x : Rj) (s : Sta) (si sb : Sl) (hf : x.j.c.fit) (hct : (x.ct.length : Int) = x.j.c.g.sectors) (hh : x.j.half < 2) (he : 0 ≤ x.j.ep ∧ x.j.ep ≤ 2147483647) (h : ∀ W, Ext I w W → StaR W s si sb) (hl : s.inos.length + s.bad.length ≤ 1000000000) (hl2 : (deedsB (wholeL s)).length ≤ 1000000000) (hS : Owns x.res S w) (hSI : ∀ b, S b → b < w.heap.size ∧ ¬ I b) :
    FnS Tryz.prog 80 #[ptrV x.j.gj, .agg (staC s si sb).toArray] w I S (fun _ : List Int => .int .i64 (anewM x.j s si sb).1) (fun ct => (Rj.mk (anewM x.j s si sb).2 x.gk x.kc ct).res) (fun ct _ => ct.length = x.ct.length) := by
  obtain ⟨ia, ic⟩ := si
  obtain ⟨ba, bc⟩ := sb
  obtain ⟨j, gk, kc, ct⟩ := x
  simp only at hf hct hh he
  obtain ⟨hl3, hsz, hz⟩ := half_two hf
  have hhl := half_le hf
  refine enterS (svs := [.c (.bp 1004 j.gj 0), .ag ((staC s (ia, ic) (ba, bc)).map .v)]) tysOk Tryz.func80 rfl Tryz.ntmps80 Tryz.results80 (by kernel_rfl) (by simp) hI (Rj.mk j gk kc ct).res hS hSI (fun W => StaR W s (ia, ic) (ba, bc)) h fun C hC hN ok => ?_
  simp only at hC
  simp [hN]
  intro g3
  obtain ⟨to, hto⟩ : ∃ to, to = 1 - j.half := ⟨_, rfl⟩
  have e1 : IntKind.i64.wrap (1 - (j.half : Int)) = (to : Nat) := by rw [w64 (by omega) (by omega)]; omega
  have e2 : IntKind.i64.wrap (j.ep + 1) = j.ep + 1 := w64 (by omega) (by omega)
  refine drawK ok mixed (by kernel_rfl) ?_
  simp (maxSteps := 2000000) -implicitDefEqProofs [hN, e1, e2]
  refine call0 ok rfl rfl rfl (fun w I hI hG => first17G_0 w I hI (j.ep + 1) s (ia, ic) (ba, bc) (fun W e => hG W e) hl (by omega)) fun b W hb => ?_
  have hbl := firstB_length (j.ep + 1) s
  have hbb := firstB_byte (j.ep + 1) s
  obtain ⟨fb, hfb⟩ : ∃ fb, fb = firstB (j.ep + 1) s := ⟨_, rfl⟩
  rw [← hfb] at hbl hbb
  simp only [← hfb]
  have e3 : IntKind.i64.wrap ((fb.length : Int) + 7) = fb.length + 7 := w64 (by omega) (by omega)
  simp (maxSteps := 2000000) -implicitDefEqProofs [hN, e1, e2, e3]
  refine call0 ok rfl rfl rfl (fun w I hI hG => refHalf0 w I hI j.c.g hf.right) fun z W hz' => ?_
  rw [hS_half hf] at hz'
  subst hz'
  have hA := anewM.eq_1 j s (ia, ic) (ba, bc)
  simp only [← hfb, ← hto] at hA
  have hw := wipe_same' hf (i := to) (by omega)
  by_cases hno : halfSz j.c < fb.length + 7 ∨ 2147483647 ≤ j.ep
  · rw [if_pos hno] at hA
    rw [hA] at hC
    by_cases h1 : (halfSz j.c : Int) < fb.length + 7
    · simp [hN, e2, e3, h1]
      exact retS hC ct [1000, 1001, 1002, 1003, 1004] rfl (by simp) fun _ _ _ => rfl
    · have h2 : 2147483648 ≤ j.ep + 1 := by omega
      simp [hN, e2, e3, h1, h2]
      exact retS hC ct [1000, 1001, 1002, 1003, 1004] rfl (by simp) fun _ _ _ => rfl
  rw [if_neg hno] at hA
  have h1 : ¬ (halfSz j.c : Int) < fb.length + 7 := by omega
  have h2 : ¬ 2147483648 ≤ j.ep + 1 := by omega
  simp [hN, e1, e2, e3, h1, h2]
  refine callS ok rfl rfl rfl [1000, 1001, 1002, 1003] (Rc.mk j.c gk kc ct).res (by simp) rfl (fun ct' : List Int => [(1000, (Rc.mk (wipeM j.c to).2 gk kc ct').chip), (1001, (Rc.mk (wipeM j.c to).2 gk kc ct').pow), (1002, (Rc.mk (wipeM j.c to).2 gk kc ct').row), (1003, (Rc.mk (wipeM j.c to).2 gk kc ct').cnt)]) (fun w I S hI hG hO hS' => refWipe0 w I S hI (Rc.mk j.c gk kc ct) to (by omega) hf hct hO hS') (fun r => by simp) (.inr fun x q hq => by simp at hq; rcases hq with rfl | rfl | rfl | rfl <;> simp) fun ct' W hct' => ?_
  replace hct' : ct'.length = ct.length := hct'
  generalize wipeM j.c to = Q at hA hw ⊢
  obtain ⟨e, d⟩ := Q
  simp only at hA hw
  simp [hN]
  refine ⟨fun h0 => ?_, fun hne => ?_⟩
  · subst h0
    rw [if_neg (by simp)] at hA
    have hap := append_same hw.2 (h := to) (o := 0) (by omega) (b := fb)
    refine callS ok rfl rfl rfl [1000, 1001, 1002, 1003] (Rc.mk d gk kc ct').res (by simp) rfl (fun _ : Int => [(1000, (Rc.mk (appendM d to 0 fb).2 gk kc ct').chip), (1001, (Rc.mk (appendM d to 0 fb).2 gk kc ct').pow), (1002, (Rc.mk (appendM d to 0 fb).2 gk kc ct').row), (1003, (Rc.mk (appendM d to 0 fb).2 gk kc ct').cnt)]) (fun w I S hI hG hO hS' => by have := refAppend0 w I S hI (Rc.mk d gk kc ct') to 0 (by omega) hw.2 (by omega) fb b (fun W e => (by first | exact (hG W e) | exact (hG W e).1 | exact (hG W e).1.2 | exact (hG W e).1.2.1 | exact (hG W e).1.2.2.1 | exact (hG W e).1.2.2.2.1 | exact (hG W e).2 | exact (hG W e).2.1 | exact (hG W e).2.1.2 | exact (hG W e).2.1.2.1 | exact (hG W e).2.1.2.2.1 | exact (hG W e).2.1.2.2.2.1 | exact (hG W e).2.2 | exact (hG W e).2.2.1 | exact (hG W e).2.2.1.2 | exact (hG W e).2.2.1.2.1 | exact (hG W e).2.2.1.2.2.1 | exact (hG W e).2.2.1.2.2.2.1 | exact (hG W e).2.2.2 | exact (hG W e).2.2.2.1 | exact (hG W e).2.2.2.1.2 | exact (hG W e).2.2.2.1.2.1 | exact (hG W e).2.2.2.1.2.2.1 | exact (hG W e).2.2.2.1.2.2.2.1 | exact (hG W e).2.2.2.2 | exact (hG W e).2.2.2.2.1 | exact (hG W e).2.2.2.2.1.2 | exact (hG W e).2.2.2.2.1.2.1 | exact (hG W e).2.2.2.2.1.2.2.1 | exact (hG W e).2.2.2.2.1.2.2.2.1 | exact (hG W e).2.2.2.2.2 | exact (hG W e).2.2.2.2.2.1 | exact (hG W e).2.2.2.2.2.1.2 | exact (hG W e).2.2.2.2.2.1.2.1 | exact (hG W e).2.2.2.2.2.1.2.2.1 | exact (hG W e).2.2.2.2.2.1.2.2.2.1 | exact (hG W e).2.2.2.2.2.2 | exact (hG W e).2.2.2.2.2.2.1 | exact (hG W e).2.2.2.2.2.2.1.2 | exact (hG W e).2.2.2.2.2.2.1.2.1 | exact (hG W e).2.2.2.2.2.2.1.2.2.1 | exact (hG W e).2.2.2.2.2.2.1.2.2.2.1 | exact (hG W e).2.2.2.2.2.2.2 | exact (hG W e).2.2.2.2.2.2.2.1 | exact (hG W e).2.2.2.2.2.2.2.1.2 | exact (hG W e).2.2.2.2.2.2.2.1.2.1 | exact (hG W e).2.2.2.2.2.2.2.1.2.2.1 | exact (hG W e).2.2.2.2.2.2.2.1.2.2.2.1 | exact (hG W e).2.2.2.2.2.2.2.2 | exact (hG W e).2.2.2.2.2.2.2.2.1 | exact (hG W e).2.2.2.2.2.2.2.2.1.2 | exact (hG W e).2.2.2.2.2.2.2.2.1.2.1 | exact (hG W e).2.2.2.2.2.2.2.2.1.2.2.1 | exact (hG W e).2.2.2.2.2.2.2.2.1.2.2.2.1 | exact (hG W e).2.2.2.2.2.2.2.2.2)) hbb hO hS'; rw [hw.1.gc] at this; exact this) (fun r => by simp) (.inr fun x q hq => by simp at hq; rcases hq with rfl | rfl | rfl | rfl <;> simp) fun ee W hee => ?_
    replace hee : ee = (appendM d to 0 fb).1 := hee (by omega)
    subst hee
    generalize appendM d to 0 fb = Q at hA hap ⊢
    obtain ⟨e2', d2⟩ := Q
    simp only at hA hap
    have hgc : d2.gc = j.c.gc := by rw [hap.1.gc, hw.1.gc]
    simp [hN]
    refine ⟨fun hne => ?_, fun h0 => ?_⟩
    · rw [if_pos hne] at hA
      rw [hA] at hC
      exact retS hC ct' [1000, 1001, 1002, 1003, 1004] rfl (by simp [hgc]) fun _ _ _ => hct'
    · rw [if_neg (by simp [h0])] at hA
      rw [hA] at hC
      refine draw ok [(3, .box g3 39 ((staC s (ia, ic) (ba, bc)).map .v))] (by rw [ok.P]; exact mixed) (by kernel_rfl) ?_
      simp (maxSteps := 2000000) -implicitDefEqProofs [hN, e1, e2, e3]
      subst h0
      exact retS hC ct' [1000, 1001, 1002, 1003, 1004] rfl (by simp [hgc]) fun _ _ _ => hct'
  · rw [if_pos hne] at hA
    simp [hN, hne]
    rw [hA] at hC
    exact retS hC ct' [1000, 1001, 1002, 1003, 1004] rfl (by simp [hw.1.gc]) fun _ _ _ => hct'
end Go.Proofs.YtbbaoeidobdblaaGreat.Sx

/- ref17: Open. -/
set_option linter.unusedVariables false
set_option linter.unusedSimpArgs false
namespace Go.Proofs.YtbbaoeidobdblaaGreat.Sx
open Go
attribute [local simp ↓] ifb_true' ifb_false'
attribute [local simp] ifb_true ifb_false ifb_eq sx argsT find ev evOp evs evo evBin evInt evStr evNil evNilA ptrA slcA isNoneA asB evLoad look del cellsB evUn evConv kdec fld evFieldA evField evIdxA evIdx evSlc bndL bndH evLen mmi put resV guardV gvL setO tupV cellsOf ones one upd lits nv exitTo SV.val CV.val TI.agg rdyA allR keepB scan simpO gsp isS subs keepT pickT wr memN pubs Res.fact Region.binds bld rest give delL back Res.eqv vi vb num Sv.val undef
theorem anew_used (j : Jn) (u : Nat) (s : Sta) (si sb : Sl) : (anewM { j with used := u } s si sb).1 = (anewM j s si sb).1 ∧ (anewM { j with used := u } s si sb).2.c = (anewM j s si sb).2.c ∧ ((anewM j s si sb).1 = 0 → (anewM { j with used := u } s si sb).2 = (anewM j s si sb).2) := by
  unfold anewM
  simp only
  split
  · exact ⟨rfl, rfl, fun h => absurd (show (10 : Int) = 0 from h) (by decide)⟩
  · split
    · rename_i h1
      exact ⟨rfl, rfl, fun h => absurd h h1⟩
    · split
      · rename_i h1
        exact ⟨rfl, rfl, fun h => absurd h h1⟩
      · exact ⟨rfl, rfl, fun _ => rfl⟩
theorem best1_eq (c : Cp) : best1 c = readM (halfB c 0) := by
  unfold best1
  split
  · rfl
  · have h := read_w (halfB c 0)
    rw [h.2.2.2.2 (by omega)]
set_option maxRecDepth 100000 in
set_option maxHeartbeats 4000000 in
theorem refOpen0 (w : World) (I S : Nat → Prop) (hI : ∀ b, I b → b < w.heap.size) (r : Rc) (hf : r.c.fit) (hct : (r.ct.length : Int) = r.c.g.sectors) (hbc : r.c.b.length ≤ r.c.bc) (hby : r.c.bytes) (hS : Owns r.res S w) (hSI : ∀ b, S b → b < w.heap.size ∧ ¬ I b) :
    FnS Tryz.prog 37 #[ptrV r.c.gc] w I S (fun x : (Nat × Sl × Sl) × List Int => .tuple #[if openE r.c = 0 then ptrV x.1.1 else .pointer none, .int .i64 (openE r.c)]) (fun x => if openE r.c = 0 then (Rj.mk (openM r.c x.1).2 r.gk r.kc x.2).res else (Rc.mk (openC r.c) r.gk r.kc x.2).res) (fun x W => x.2.length = r.ct.length ∧ (openE r.c = 0 → StaR W (openM r.c x.1).2.s (openM r.c x.1).2.si (openM r.c x.1).2.sb)) := by
  obtain ⟨c, gk, kc, ct⟩ := r
  simp only at hf hct hbc hby
  obtain ⟨hl2, hsz, hz⟩ := half_two hf
  have hhl := half_le hf
  refine enterS (svs := [.c (.bp 1000 c.gc 0)]) tysOk Tryz.func37 rfl Tryz.ntmps37 Tryz.results37 (by kernel_rfl) (by simp) hI (Rc.mk c gk kc ct).res hS hSI (fun _ => True) (fun _ _ => trivial) fun C hC hN ok => ?_
  simp only at hC
  have hbo := best_ok hf
  have hB := bestM.eq_1 c
  rw [best1_eq] at hB
  have hr0 := read_w (halfB c 0)
  have hr1 := read_w (halfB c 1)
  simp [hN]
  refine callS ok rfl rfl rfl [1000, 1001, 1002, 1003] (Rc.mk c gk kc ct).res (by simp) rfl (fun _ : Sl × Sl × Nat => [(1000, (Rc.mk c gk kc ct).chip), (1001, (Rc.mk c gk kc ct).pow), (1002, (Rc.mk c gk kc ct).row), (1003, (Rc.mk c gk kc ct).cnt)]) (fun w I S hI hG hO hS' => refCounted0 w I S hI (Rc.mk c gk kc ct) 0 (by omega) hf hbc hby hO hS') (fun r => by simp) (.inr fun x q hq => by simp at hq; rcases hq with rfl | rfl | rfl | rfl <;> simp) fun x0 W hx0 => ?_
  simp only
  generalize readM (halfB c 0) = R0 at hB hr0 hx0 ⊢
  obtain ⟨s0, b0, n0⟩ := x0
  simp [hN]
  intro g4 g26
  refine callS ok rfl rfl rfl [1000, 1001, 1002, 1003] (Rc.mk c gk kc ct).res (by simp) rfl (fun _ : Sl × Sl × Nat => [(1000, (Rc.mk c gk kc ct).chip), (1001, (Rc.mk c gk kc ct).pow), (1002, (Rc.mk c gk kc ct).row), (1003, (Rc.mk c gk kc ct).cnt)]) (fun w I S hI hG hO hS' => refCounted0 w I S hI (Rc.mk c gk kc ct) 1 (by omega) hf hbc hby hO hS') (fun r => by simp) (.inr fun x q hq => by simp at hq; rcases hq with rfl | rfl | rfl | rfl <;> simp) fun x1 W hx1 => ?_
  simp only
  generalize readM (halfB c 1) = R1 at hB hr1 hx1 ⊢
  obtain ⟨s1, b1, n1⟩ := x1
  simp [hN]
  intro g9
  refine ⟨fun hgt => ?_, fun hle => ?_⟩
  · have hbi : bestM c = (R1, 1) := by rw [hB, if_pos hgt]
    have hO := openM.eq_1 c (g26, s1, b1)
    have hE : openE c = (openM c (g26, s1, b1)).1 := (open_e c (g26, s1, b1)).1.symm
    have hCC := (open_e c (g26, s1, b1)).2
    rw [hbi] at hO hbo
    simp only at hO hbo
    obtain ⟨k1, k2, k3, k4, k5⟩ := hbo
    have hcw := count_w R1.s
    have hww := whole_w R1.s
    refine ⟨fun h0 => ?_, fun hne => ⟨fun hm => ?_, fun hm1 hm2 => ?_⟩⟩
    · rw [if_pos h0] at hO
      have h23 : openE c = 23 := by rw [hE, hO]
      rw [hO] at hCC
      rw [h23] at hC
      exact retS hC ((g26, s1, b1), ct) [1000, 1001, 1002, 1003] rfl (by simp [← hCC, openJ]) fun W _ hG => ⟨rfl, fun h => by cases h⟩
    · have hm' : R1.more = true := by
        rcases hm with h | h
        · exact absurd h hne
        · exact h
      rw [if_neg hne, if_pos hm'] at hO
      have hau := anew_used (openJ c (g26, s1, b1)) n1 R1.s s1 b1
      rw [← hO] at hau
      have hs := anew_s (openJ c (g26, s1, b1)) R1.s s1 b1
      rw [← hO] at hs
      obtain ⟨J, hJ⟩ : ∃ J, J = { openJ c (g26, s1, b1) with used := n1 } := ⟨_, rfl⟩
      rw [← hJ] at hau
      have hJc : J.c = c ∧ J.gj = g26 ∧ J.half = 1 ∧ J.ep = R1.ep := by rw [hJ]; simp [openJ, hbi]
      refine callS ok rfl rfl rfl [1000, 1001, 1002, 1003, 26] (Rj.mk J gk kc ct).res (by simp [hJ, openJ, hbi]) rfl (fun ct' : List Int => [(1000, (Rj.mk (anewM J R1.s s1 b1).2 gk kc ct').rc.chip), (1001, (Rj.mk (anewM J R1.s s1 b1).2 gk kc ct').rc.pow), (1002, (Rj.mk (anewM J R1.s s1 b1).2 gk kc ct').rc.row), (1003, (Rj.mk (anewM J R1.s s1 b1).2 gk kc ct').rc.cnt), (1004, rjB (anewM J R1.s s1 b1).2)]) (fun w I S hI hG hO hS' => by have := refAnew0 w I S hI ⟨J, gk, kc, ct⟩ R1.s s1 b1 (by rw [hJc.1]; exact hf) (by rw [hJc.1]; exact hct) (by rw [hJc.2.2.1]; exact k5) (by rw [hJc.2.2.2]; exact ⟨k3, k4⟩) (fun W e => (by first | exact (hG W e) | exact (hG W e).1 | exact (hG W e).1.1 | exact (hG W e).1.2 | exact (hG W e).1.2.1 | exact (hG W e).1.2.2.1 | exact (hG W e).1.2.2.2.1 | exact (hG W e).2 | exact (hG W e).2.1 | exact (hG W e).2.1.1 | exact (hG W e).2.1.2 | exact (hG W e).2.1.2.1 | exact (hG W e).2.1.2.2.1 | exact (hG W e).2.1.2.2.2.1 | exact (hG W e).2.2 | exact (hG W e).2.2.1 | exact (hG W e).2.2.1.1 | exact (hG W e).2.2.1.2 | exact (hG W e).2.2.1.2.1 | exact (hG W e).2.2.1.2.2.1 | exact (hG W e).2.2.1.2.2.2.1 | exact (hG W e).2.2.2 | exact (hG W e).2.2.2.1 | exact (hG W e).2.2.2.1.1 | exact (hG W e).2.2.2.1.2 | exact (hG W e).2.2.2.1.2.1 | exact (hG W e).2.2.2.1.2.2.1 | exact (hG W e).2.2.2.1.2.2.2.1 | exact (hG W e).2.2.2.2 | exact (hG W e).2.2.2.2.1 | exact (hG W e).2.2.2.2.1.1 | exact (hG W e).2.2.2.2.1.2 | exact (hG W e).2.2.2.2.1.2.1 | exact (hG W e).2.2.2.2.1.2.2.1 | exact (hG W e).2.2.2.2.1.2.2.2.1 | exact (hG W e).2.2.2.2.2 | exact (hG W e).2.2.2.2.2.1 | exact (hG W e).2.2.2.2.2.1.1 | exact (hG W e).2.2.2.2.2.1.2 | exact (hG W e).2.2.2.2.2.1.2.1 | exact (hG W e).2.2.2.2.2.1.2.2.1 | exact (hG W e).2.2.2.2.2.1.2.2.2.1 | exact (hG W e).2.2.2.2.2.2 | exact (hG W e).2.2.2.2.2.2.1 | exact (hG W e).2.2.2.2.2.2.1.1 | exact (hG W e).2.2.2.2.2.2.1.2 | exact (hG W e).2.2.2.2.2.2.1.2.1 | exact (hG W e).2.2.2.2.2.2.1.2.2.1 | exact (hG W e).2.2.2.2.2.2.1.2.2.2.1 | exact (hG W e).2.2.2.2.2.2.2 | exact (hG W e).2.2.2.2.2.2.2.1 | exact (hG W e).2.2.2.2.2.2.2.1.1 | exact (hG W e).2.2.2.2.2.2.2.1.2 | exact (hG W e).2.2.2.2.2.2.2.1.2.1 | exact (hG W e).2.2.2.2.2.2.2.1.2.2.1 | exact (hG W e).2.2.2.2.2.2.2.1.2.2.2.1 | exact (hG W e).2.2.2.2.2.2.2.2 | exact (hG W e).2.2.2.2.2.2.2.2.1 | exact (hG W e).2.2.2.2.2.2.2.2.1.1 | exact (hG W e).2.2.2.2.2.2.2.2.1.2 | exact (hG W e).2.2.2.2.2.2.2.2.1.2.1 | exact (hG W e).2.2.2.2.2.2.2.2.1.2.2.1 | exact (hG W e).2.2.2.2.2.2.2.2.1.2.2.2.1 | exact (hG W e).2.2.2.2.2.2.2.2.2)) (by omega) (by show wholeB _ ≤ _; omega) hO hS'; rw [hJc.2.1] at this; exact this) (fun r => by simp) (.inr fun x q hq => by simp at hq; rcases hq with rfl | rfl | rfl | rfl | rfl <;> simp) fun ct' W hct' => ?_
      replace hct' : ct'.length = ct.length := hct'
      rw [hau.1, ← hE]
      simp [hN]
      refine ⟨fun hne2 => ?_, fun h02 => ?_⟩
      · exact retS hC ((g26, s1, b1), ct') [1000, 1001, 1002, 1003] (by simp [hne2]) (by simp [hne2, hau.2.1, hCC]) fun W _ hG => ⟨hct', fun h => absurd h hne2⟩
      · have h3 := hau.2.2 (by rw [← hE]; exact h02)
        have hs := hs (by rw [← hE]; exact h02)
        refine retS hC ((g26, s1, b1), ct') [1000, 1001, 1002, 1003, 1004] (by simp [h02]) (by simp [h02, h3]) fun W _ hG => ⟨hct', fun _ => ?_⟩
        rw [hs.1, hs.2.1, hs.2.2]
        exact (by first | exact (hG) | exact (hG).1 | exact (hG).1.1 | exact (hG).1.2 | exact (hG).1.2.1 | exact (hG).1.2.2.1 | exact (hG).1.2.2.2.1 | exact (hG).2 | exact (hG).2.1 | exact (hG).2.1.1 | exact (hG).2.1.2 | exact (hG).2.1.2.1 | exact (hG).2.1.2.2.1 | exact (hG).2.1.2.2.2.1 | exact (hG).2.2 | exact (hG).2.2.1 | exact (hG).2.2.1.1 | exact (hG).2.2.1.2 | exact (hG).2.2.1.2.1 | exact (hG).2.2.1.2.2.1 | exact (hG).2.2.1.2.2.2.1 | exact (hG).2.2.2 | exact (hG).2.2.2.1 | exact (hG).2.2.2.1.1 | exact (hG).2.2.2.1.2 | exact (hG).2.2.2.1.2.1 | exact (hG).2.2.2.1.2.2.1 | exact (hG).2.2.2.1.2.2.2.1 | exact (hG).2.2.2.2 | exact (hG).2.2.2.2.1 | exact (hG).2.2.2.2.1.1 | exact (hG).2.2.2.2.1.2 | exact (hG).2.2.2.2.1.2.1 | exact (hG).2.2.2.2.1.2.2.1 | exact (hG).2.2.2.2.1.2.2.2.1 | exact (hG).2.2.2.2.2 | exact (hG).2.2.2.2.2.1 | exact (hG).2.2.2.2.2.1.1 | exact (hG).2.2.2.2.2.1.2 | exact (hG).2.2.2.2.2.1.2.1 | exact (hG).2.2.2.2.2.1.2.2.1 | exact (hG).2.2.2.2.2.1.2.2.2.1 | exact (hG).2.2.2.2.2.2 | exact (hG).2.2.2.2.2.2.1 | exact (hG).2.2.2.2.2.2.1.1 | exact (hG).2.2.2.2.2.2.1.2 | exact (hG).2.2.2.2.2.2.1.2.1 | exact (hG).2.2.2.2.2.2.1.2.2.1 | exact (hG).2.2.2.2.2.2.1.2.2.2.1 | exact (hG).2.2.2.2.2.2.2 | exact (hG).2.2.2.2.2.2.2.1 | exact (hG).2.2.2.2.2.2.2.1.1 | exact (hG).2.2.2.2.2.2.2.1.2 | exact (hG).2.2.2.2.2.2.2.1.2.1 | exact (hG).2.2.2.2.2.2.2.1.2.2.1 | exact (hG).2.2.2.2.2.2.2.1.2.2.2.1 | exact (hG).2.2.2.2.2.2.2.2 | exact (hG).2.2.2.2.2.2.2.2.1 | exact (hG).2.2.2.2.2.2.2.2.1.1 | exact (hG).2.2.2.2.2.2.2.2.1.2 | exact (hG).2.2.2.2.2.2.2.2.1.2.1 | exact (hG).2.2.2.2.2.2.2.2.1.2.2.1 | exact (hG).2.2.2.2.2.2.2.2.1.2.2.2.1 | exact (hG).2.2.2.2.2.2.2.2.2)
    · have hm' : R1.more = false := by simpa using hm2
      rw [if_neg hne, if_neg (by simp [hm'])] at hO
      have h0 : openE c = 0 := by rw [hE, hO]
      rw [h0] at hC
      have hn : n1 = R1.used := hx1.2 hne hm'
      exact retS hC ((g26, s1, b1), ct) [1000, 1001, 1002, 1003, 26] rfl (by simp [hO, openJ, hbi, hn]) fun W _ hG => ⟨rfl, fun _ => by rw [hO]; simp only [openJ, hbi]; exact (by first | exact (hG) | exact (hG).1 | exact (hG).1.1 | exact (hG).1.2 | exact (hG).1.2.1 | exact (hG).1.2.2.1 | exact (hG).1.2.2.2.1 | exact (hG).2 | exact (hG).2.1 | exact (hG).2.1.1 | exact (hG).2.1.2 | exact (hG).2.1.2.1 | exact (hG).2.1.2.2.1 | exact (hG).2.1.2.2.2.1 | exact (hG).2.2 | exact (hG).2.2.1 | exact (hG).2.2.1.1 | exact (hG).2.2.1.2 | exact (hG).2.2.1.2.1 | exact (hG).2.2.1.2.2.1 | exact (hG).2.2.1.2.2.2.1 | exact (hG).2.2.2 | exact (hG).2.2.2.1 | exact (hG).2.2.2.1.1 | exact (hG).2.2.2.1.2 | exact (hG).2.2.2.1.2.1 | exact (hG).2.2.2.1.2.2.1 | exact (hG).2.2.2.1.2.2.2.1 | exact (hG).2.2.2.2 | exact (hG).2.2.2.2.1 | exact (hG).2.2.2.2.1.1 | exact (hG).2.2.2.2.1.2 | exact (hG).2.2.2.2.1.2.1 | exact (hG).2.2.2.2.1.2.2.1 | exact (hG).2.2.2.2.1.2.2.2.1 | exact (hG).2.2.2.2.2 | exact (hG).2.2.2.2.2.1 | exact (hG).2.2.2.2.2.1.1 | exact (hG).2.2.2.2.2.1.2 | exact (hG).2.2.2.2.2.1.2.1 | exact (hG).2.2.2.2.2.1.2.2.1 | exact (hG).2.2.2.2.2.1.2.2.2.1 | exact (hG).2.2.2.2.2.2 | exact (hG).2.2.2.2.2.2.1 | exact (hG).2.2.2.2.2.2.1.1 | exact (hG).2.2.2.2.2.2.1.2 | exact (hG).2.2.2.2.2.2.1.2.1 | exact (hG).2.2.2.2.2.2.1.2.2.1 | exact (hG).2.2.2.2.2.2.1.2.2.2.1 | exact (hG).2.2.2.2.2.2.2 | exact (hG).2.2.2.2.2.2.2.1 | exact (hG).2.2.2.2.2.2.2.1.1 | exact (hG).2.2.2.2.2.2.2.1.2 | exact (hG).2.2.2.2.2.2.2.1.2.1 | exact (hG).2.2.2.2.2.2.2.1.2.2.1 | exact (hG).2.2.2.2.2.2.2.1.2.2.2.1 | exact (hG).2.2.2.2.2.2.2.2 | exact (hG).2.2.2.2.2.2.2.2.1 | exact (hG).2.2.2.2.2.2.2.2.1.1 | exact (hG).2.2.2.2.2.2.2.2.1.2 | exact (hG).2.2.2.2.2.2.2.2.1.2.1 | exact (hG).2.2.2.2.2.2.2.2.1.2.2.1 | exact (hG).2.2.2.2.2.2.2.2.1.2.2.2.1 | exact (hG).2.2.2.2.2.2.2.2.2)⟩
  · have hbi : bestM c = (R0, 0) := by rw [hB, if_neg (by omega)]
    have hO := openM.eq_1 c (g26, s0, b0)
    have hE : openE c = (openM c (g26, s0, b0)).1 := (open_e c (g26, s0, b0)).1.symm
    have hCC := (open_e c (g26, s0, b0)).2
    rw [hbi] at hO hbo
    simp only at hO hbo
    obtain ⟨k1, k2, k3, k4, k5⟩ := hbo
    have hcw := count_w R0.s
    have hww := whole_w R0.s
    refine ⟨fun h0 => ?_, fun hne => ⟨fun hm => ?_, fun hm1 hm2 => ?_⟩⟩
    · rw [if_pos h0] at hO
      have h23 : openE c = 23 := by rw [hE, hO]
      rw [hO] at hCC
      rw [h23] at hC
      exact retS hC ((g26, s0, b0), ct) [1000, 1001, 1002, 1003] rfl (by simp [← hCC, openJ]) fun W _ hG => ⟨rfl, fun h => by cases h⟩
    · have hm' : R0.more = true := by
        rcases hm with h | h
        · exact absurd h hne
        · exact h
      rw [if_neg hne, if_pos hm'] at hO
      have hau := anew_used (openJ c (g26, s0, b0)) n0 R0.s s0 b0
      rw [← hO] at hau
      have hs := anew_s (openJ c (g26, s0, b0)) R0.s s0 b0
      rw [← hO] at hs
      obtain ⟨J, hJ⟩ : ∃ J, J = { openJ c (g26, s0, b0) with used := n0 } := ⟨_, rfl⟩
      rw [← hJ] at hau
      have hJc : J.c = c ∧ J.gj = g26 ∧ J.half = 0 ∧ J.ep = R0.ep := by rw [hJ]; simp [openJ, hbi]
      refine callS ok rfl rfl rfl [1000, 1001, 1002, 1003, 26] (Rj.mk J gk kc ct).res (by simp [hJ, openJ, hbi]) rfl (fun ct' : List Int => [(1000, (Rj.mk (anewM J R0.s s0 b0).2 gk kc ct').rc.chip), (1001, (Rj.mk (anewM J R0.s s0 b0).2 gk kc ct').rc.pow), (1002, (Rj.mk (anewM J R0.s s0 b0).2 gk kc ct').rc.row), (1003, (Rj.mk (anewM J R0.s s0 b0).2 gk kc ct').rc.cnt), (1004, rjB (anewM J R0.s s0 b0).2)]) (fun w I S hI hG hO hS' => by have := refAnew0 w I S hI ⟨J, gk, kc, ct⟩ R0.s s0 b0 (by rw [hJc.1]; exact hf) (by rw [hJc.1]; exact hct) (by rw [hJc.2.2.1]; exact k5) (by rw [hJc.2.2.2]; exact ⟨k3, k4⟩) (fun W e => (by first | exact (hG W e) | exact (hG W e).1 | exact (hG W e).1.1 | exact (hG W e).1.2 | exact (hG W e).1.2.1 | exact (hG W e).1.2.2.1 | exact (hG W e).1.2.2.2.1 | exact (hG W e).2 | exact (hG W e).2.1 | exact (hG W e).2.1.1 | exact (hG W e).2.1.2 | exact (hG W e).2.1.2.1 | exact (hG W e).2.1.2.2.1 | exact (hG W e).2.1.2.2.2.1 | exact (hG W e).2.2 | exact (hG W e).2.2.1 | exact (hG W e).2.2.1.1 | exact (hG W e).2.2.1.2 | exact (hG W e).2.2.1.2.1 | exact (hG W e).2.2.1.2.2.1 | exact (hG W e).2.2.1.2.2.2.1 | exact (hG W e).2.2.2 | exact (hG W e).2.2.2.1 | exact (hG W e).2.2.2.1.1 | exact (hG W e).2.2.2.1.2 | exact (hG W e).2.2.2.1.2.1 | exact (hG W e).2.2.2.1.2.2.1 | exact (hG W e).2.2.2.1.2.2.2.1 | exact (hG W e).2.2.2.2 | exact (hG W e).2.2.2.2.1 | exact (hG W e).2.2.2.2.1.1 | exact (hG W e).2.2.2.2.1.2 | exact (hG W e).2.2.2.2.1.2.1 | exact (hG W e).2.2.2.2.1.2.2.1 | exact (hG W e).2.2.2.2.1.2.2.2.1 | exact (hG W e).2.2.2.2.2 | exact (hG W e).2.2.2.2.2.1 | exact (hG W e).2.2.2.2.2.1.1 | exact (hG W e).2.2.2.2.2.1.2 | exact (hG W e).2.2.2.2.2.1.2.1 | exact (hG W e).2.2.2.2.2.1.2.2.1 | exact (hG W e).2.2.2.2.2.1.2.2.2.1 | exact (hG W e).2.2.2.2.2.2 | exact (hG W e).2.2.2.2.2.2.1 | exact (hG W e).2.2.2.2.2.2.1.1 | exact (hG W e).2.2.2.2.2.2.1.2 | exact (hG W e).2.2.2.2.2.2.1.2.1 | exact (hG W e).2.2.2.2.2.2.1.2.2.1 | exact (hG W e).2.2.2.2.2.2.1.2.2.2.1 | exact (hG W e).2.2.2.2.2.2.2 | exact (hG W e).2.2.2.2.2.2.2.1 | exact (hG W e).2.2.2.2.2.2.2.1.1 | exact (hG W e).2.2.2.2.2.2.2.1.2 | exact (hG W e).2.2.2.2.2.2.2.1.2.1 | exact (hG W e).2.2.2.2.2.2.2.1.2.2.1 | exact (hG W e).2.2.2.2.2.2.2.1.2.2.2.1 | exact (hG W e).2.2.2.2.2.2.2.2 | exact (hG W e).2.2.2.2.2.2.2.2.1 | exact (hG W e).2.2.2.2.2.2.2.2.1.1 | exact (hG W e).2.2.2.2.2.2.2.2.1.2 | exact (hG W e).2.2.2.2.2.2.2.2.1.2.1 | exact (hG W e).2.2.2.2.2.2.2.2.1.2.2.1 | exact (hG W e).2.2.2.2.2.2.2.2.1.2.2.2.1 | exact (hG W e).2.2.2.2.2.2.2.2.2)) (by omega) (by show wholeB _ ≤ _; omega) hO hS'; rw [hJc.2.1] at this; exact this) (fun r => by simp) (.inr fun x q hq => by simp at hq; rcases hq with rfl | rfl | rfl | rfl | rfl <;> simp) fun ct' W hct' => ?_
      replace hct' : ct'.length = ct.length := hct'
      rw [hau.1, ← hE]
      simp [hN]
      refine ⟨fun hne2 => ?_, fun h02 => ?_⟩
      · exact retS hC ((g26, s0, b0), ct') [1000, 1001, 1002, 1003] (by simp [hne2]) (by simp [hne2, hau.2.1, hCC]) fun W _ hG => ⟨hct', fun h => absurd h hne2⟩
      · have h3 := hau.2.2 (by rw [← hE]; exact h02)
        have hs := hs (by rw [← hE]; exact h02)
        refine retS hC ((g26, s0, b0), ct') [1000, 1001, 1002, 1003, 1004] (by simp [h02]) (by simp [h02, h3]) fun W _ hG => ⟨hct', fun _ => ?_⟩
        rw [hs.1, hs.2.1, hs.2.2]
        exact (by first | exact (hG) | exact (hG).1 | exact (hG).1.1 | exact (hG).1.2 | exact (hG).1.2.1 | exact (hG).1.2.2.1 | exact (hG).1.2.2.2.1 | exact (hG).2 | exact (hG).2.1 | exact (hG).2.1.1 | exact (hG).2.1.2 | exact (hG).2.1.2.1 | exact (hG).2.1.2.2.1 | exact (hG).2.1.2.2.2.1 | exact (hG).2.2 | exact (hG).2.2.1 | exact (hG).2.2.1.1 | exact (hG).2.2.1.2 | exact (hG).2.2.1.2.1 | exact (hG).2.2.1.2.2.1 | exact (hG).2.2.1.2.2.2.1 | exact (hG).2.2.2 | exact (hG).2.2.2.1 | exact (hG).2.2.2.1.1 | exact (hG).2.2.2.1.2 | exact (hG).2.2.2.1.2.1 | exact (hG).2.2.2.1.2.2.1 | exact (hG).2.2.2.1.2.2.2.1 | exact (hG).2.2.2.2 | exact (hG).2.2.2.2.1 | exact (hG).2.2.2.2.1.1 | exact (hG).2.2.2.2.1.2 | exact (hG).2.2.2.2.1.2.1 | exact (hG).2.2.2.2.1.2.2.1 | exact (hG).2.2.2.2.1.2.2.2.1 | exact (hG).2.2.2.2.2 | exact (hG).2.2.2.2.2.1 | exact (hG).2.2.2.2.2.1.1 | exact (hG).2.2.2.2.2.1.2 | exact (hG).2.2.2.2.2.1.2.1 | exact (hG).2.2.2.2.2.1.2.2.1 | exact (hG).2.2.2.2.2.1.2.2.2.1 | exact (hG).2.2.2.2.2.2 | exact (hG).2.2.2.2.2.2.1 | exact (hG).2.2.2.2.2.2.1.1 | exact (hG).2.2.2.2.2.2.1.2 | exact (hG).2.2.2.2.2.2.1.2.1 | exact (hG).2.2.2.2.2.2.1.2.2.1 | exact (hG).2.2.2.2.2.2.1.2.2.2.1 | exact (hG).2.2.2.2.2.2.2 | exact (hG).2.2.2.2.2.2.2.1 | exact (hG).2.2.2.2.2.2.2.1.1 | exact (hG).2.2.2.2.2.2.2.1.2 | exact (hG).2.2.2.2.2.2.2.1.2.1 | exact (hG).2.2.2.2.2.2.2.1.2.2.1 | exact (hG).2.2.2.2.2.2.2.1.2.2.2.1 | exact (hG).2.2.2.2.2.2.2.2 | exact (hG).2.2.2.2.2.2.2.2.1 | exact (hG).2.2.2.2.2.2.2.2.1.1 | exact (hG).2.2.2.2.2.2.2.2.1.2 | exact (hG).2.2.2.2.2.2.2.2.1.2.1 | exact (hG).2.2.2.2.2.2.2.2.1.2.2.1 | exact (hG).2.2.2.2.2.2.2.2.1.2.2.2.1 | exact (hG).2.2.2.2.2.2.2.2.2)
    · have hm' : R0.more = false := by simpa using hm2
      rw [if_neg hne, if_neg (by simp [hm'])] at hO
      have h0 : openE c = 0 := by rw [hE, hO]
      rw [h0] at hC
      have hn : n0 = R0.used := hx0.2 hne hm'
      exact retS hC ((g26, s0, b0), ct) [1000, 1001, 1002, 1003, 26] rfl (by simp [hO, openJ, hbi, hn]) fun W _ hG => ⟨rfl, fun _ => by rw [hO]; simp only [openJ, hbi]; exact (by first | exact (hG) | exact (hG).1 | exact (hG).1.1 | exact (hG).1.2 | exact (hG).1.2.1 | exact (hG).1.2.2.1 | exact (hG).1.2.2.2.1 | exact (hG).2 | exact (hG).2.1 | exact (hG).2.1.1 | exact (hG).2.1.2 | exact (hG).2.1.2.1 | exact (hG).2.1.2.2.1 | exact (hG).2.1.2.2.2.1 | exact (hG).2.2 | exact (hG).2.2.1 | exact (hG).2.2.1.1 | exact (hG).2.2.1.2 | exact (hG).2.2.1.2.1 | exact (hG).2.2.1.2.2.1 | exact (hG).2.2.1.2.2.2.1 | exact (hG).2.2.2 | exact (hG).2.2.2.1 | exact (hG).2.2.2.1.1 | exact (hG).2.2.2.1.2 | exact (hG).2.2.2.1.2.1 | exact (hG).2.2.2.1.2.2.1 | exact (hG).2.2.2.1.2.2.2.1 | exact (hG).2.2.2.2 | exact (hG).2.2.2.2.1 | exact (hG).2.2.2.2.1.1 | exact (hG).2.2.2.2.1.2 | exact (hG).2.2.2.2.1.2.1 | exact (hG).2.2.2.2.1.2.2.1 | exact (hG).2.2.2.2.1.2.2.2.1 | exact (hG).2.2.2.2.2 | exact (hG).2.2.2.2.2.1 | exact (hG).2.2.2.2.2.1.1 | exact (hG).2.2.2.2.2.1.2 | exact (hG).2.2.2.2.2.1.2.1 | exact (hG).2.2.2.2.2.1.2.2.1 | exact (hG).2.2.2.2.2.1.2.2.2.1 | exact (hG).2.2.2.2.2.2 | exact (hG).2.2.2.2.2.2.1 | exact (hG).2.2.2.2.2.2.1.1 | exact (hG).2.2.2.2.2.2.1.2 | exact (hG).2.2.2.2.2.2.1.2.1 | exact (hG).2.2.2.2.2.2.1.2.2.1 | exact (hG).2.2.2.2.2.2.1.2.2.2.1 | exact (hG).2.2.2.2.2.2.2 | exact (hG).2.2.2.2.2.2.2.1 | exact (hG).2.2.2.2.2.2.2.1.1 | exact (hG).2.2.2.2.2.2.2.1.2 | exact (hG).2.2.2.2.2.2.2.1.2.1 | exact (hG).2.2.2.2.2.2.2.1.2.2.1 | exact (hG).2.2.2.2.2.2.2.1.2.2.2.1 | exact (hG).2.2.2.2.2.2.2.2 | exact (hG).2.2.2.2.2.2.2.2.1 | exact (hG).2.2.2.2.2.2.2.2.1.1 | exact (hG).2.2.2.2.2.2.2.2.1.2 | exact (hG).2.2.2.2.2.2.2.2.1.2.1 | exact (hG).2.2.2.2.2.2.2.2.1.2.2.1 | exact (hG).2.2.2.2.2.2.2.2.1.2.2.2.1 | exact (hG).2.2.2.2.2.2.2.2.2)⟩
end Go.Proofs.YtbbaoeidobdblaaGreat.Sx

/- Bytes of one's own as a text; same.Bytes with a row that is lent; Load of such a row; nil journals and chips. -/
set_option linter.unusedVariables false
set_option linter.unusedSimpArgs false
namespace Go.Proofs.YtbbaoeidobdblaaGreat.Sx
open Go
attribute [local simp ↓] ifb_true' ifb_false'
attribute [local simp] ifb_true ifb_false ifb_eq sx argsT find ev evOp evs evo evBin evInt evStr evNil evNilA ptrA slcA isNoneA asB evLoad look del cellsB evUn evConv kdec fld evFieldA evField evIdxA evIdx evSlc bndL bndH evLen mmi put resV guardV gvL setO tupV cellsOf ones one upd lits nv exitTo SV.val CV.val TI.agg rdyA allR keepB scan simpO gsp isS subs keepT pickT wr memN pubs Res.fact Region.binds bld rest give delL back Res.eqv vi vb num Sv.val undef
section
variable {P : Program} {C : Ctx} {T : Ty} {res : List ResultVar} {p : Pos} {tm : Tm} {m : Mem}
end
theorem loadB0 (w : World) (I S : Nat → Prop) (hI : ∀ b, I b → b < w.heap.size) (c : Cp) (xs : List Int) (g cap : Nat) (hf : c.fit) (hx : xs.length = c.b.length) (h0 : 0 < c.b.length) (hS : Owns (c.res ++ [.row (some ⟨g, 0, none⟩) xs.length cap 5 1 (bC xs)]) S w) (hSI : ∀ b, S b → b < w.heap.size ∧ ¬ I b) :
    FnS Tryz.prog 43 #[ptrV c.gc, .slice (some ⟨g, 0, none⟩) xs.length cap] w I S (fun _ : Unit => .int .i64 0) (fun _ => Cp.res { c with b := xs } ++ [.row (some ⟨g, 0, none⟩) xs.length cap 5 1 (bC xs)]) (fun _ _ => True) := by
  refine enterS (svs := [.c (.bp 1000 c.gc 0), .c (.rw 1004 (some ⟨g, 0, none⟩) xs.length cap)]) tysOk Tryz.func43 rfl Tryz.ntmps43 Tryz.results43 (by kernel_rfl) (by simp) hI (c.res ++ [.row (some ⟨g, 0, none⟩) xs.length cap 5 1 (bC xs)]) hS hSI (fun _ => True) (fun _ _ => trivial) fun C hC hN ok => ?_
  have hmin : Nat.min xs.length c.b.length = xs.length := by rw [hx]; exact Nat.min_self _
  simp [hN, hx]
  refine copyR ok 1002 1004 rfl rfl rfl rfl rfl rfl rfl rfl rfl rfl ?_ ?_ ?_ ?_
  · simp
  · simp [hx]
  · rw [bC_sub]
    exact ones_bC _
  · have hlay : lay (bC c.b) 0 (List.take c.b.length (bC xs)) = bC xs := by
      have e1 : List.take c.b.length (bC xs) = bC xs := List.take_of_length_le (by rw [bC_len, hx]; exact Nat.le_refl _)
      rw [e1]
      unfold lay
      rw [List.take_zero, List.nil_append, Nat.zero_add, List.drop_of_length_le (by rw [bC_len, bC_len, hx]; exact Nat.le_refl _), List.append_nil]
    simp [hN, hlay]
    exact retS hC () [1000, 1001, 1002, 1003, 1004] rfl (by simp [Cp.map, mapR, hx]) fun _ _ _ => trivial
abbrev nilP : Value := .pointer none
theorem halfAskNil0 (w : World) (I : Nat → Prop) (hI : ∀ b, I b → b < w.heap.size) (h : Int) :
    Fn0 Tryz.prog 98 #[nilP, .int .i64 h] w I (fun _ : Unit => .int .i64 2) (fun _ _ => True) := by
  refine enter (svs := [.c (.v nilP), .c (.v (.int .i64 h))]) tysOk Tryz.func98 rfl Tryz.ntmps98 Tryz.results98 (by kernel_rfl) (by simp) hI (fun _ => True) (fun _ _ => trivial) fun C hC hN ok => ?_
  simp [hN]
  exact ret0 hC () rfl fun _ _ _ => trivial
theorem halfReadNil0 (w : World) (I : Nat → Prop) (hI : ∀ b, I b → b < w.heap.size) (h : Int) :
    Fn0 Tryz.prog 73 #[nilP, .int .i64 h] w I (fun _ : Unit => .tuple #[.slice none 0 0, .int .i64 2]) (fun _ _ => True) := by
  refine enter (svs := [.c (.v nilP), .c (.v (.int .i64 h))]) tysOk Tryz.func73 rfl Tryz.ntmps73 Tryz.results73 (by kernel_rfl) (by simp) hI (fun _ => True) (fun _ _ => trivial) fun C hC hN ok => ?_
  simp [hN]
  refine call0 ok rfl rfl rfl (fun w I hI hG => halfAskNil0 w I hI h) fun _ W _ => ?_
  simp [hN]
  exact ret0 hC () rfl fun _ _ _ => trivial
theorem halfWipeNil0 (w : World) (I : Nat → Prop) (hI : ∀ b, I b → b < w.heap.size) (h : Int) :
    Fn0 Tryz.prog 55 #[nilP, .int .i64 h] w I (fun _ : Unit => .int .i64 2) (fun _ _ => True) := by
  refine enter (svs := [.c (.v nilP), .c (.v (.int .i64 h))]) tysOk Tryz.func55 rfl Tryz.ntmps55 Tryz.results55 (by kernel_rfl) (by simp) hI (fun _ => True) (fun _ _ => trivial) fun C hC hN ok => ?_
  simp [hN]
  refine call0 ok rfl rfl rfl (fun w I hI hG => halfAskNil0 w I hI h) fun _ W _ => ?_
  simp [hN]
  exact ret0 hC () rfl fun _ _ _ => trivial
theorem openNil0 (w : World) (I : Nat → Prop) (hI : ∀ b, I b → b < w.heap.size) :
    Fn0 Tryz.prog 22 #[nilP] w I (fun _ : Unit => .tuple #[nilP, .int .i64 2]) (fun _ _ => True) := by
  refine enter (svs := [.c (.v nilP)]) tysOk Tryz.func22 rfl Tryz.ntmps22 Tryz.results22 (by kernel_rfl) (by simp) hI (fun _ => True) (fun _ _ => trivial) fun C hC hN ok => ?_
  simp [hN]
  intro g1
  refine loopK [0] ok (fun _ : Unit => [(14, .c (.v (.int .i64 0)))]) (fun _ => []) (fun _ _ => True) (fun _ => 0) () ?_ ?_ (fun _ _ => trivial) ?_
  · simp
  · simp
  rintro _ W _ hG next
  simp [hN]
  refine call0 ok rfl rfl rfl (fun w I hI hG => halfReadNil0 w I hI 0) fun _ W _ => ?_
  simp [hN]
  exact ret0 hC () rfl fun _ _ _ => trivial
theorem formatNil0 (w : World) (I : Nat → Prop) (hI : ∀ b, I b → b < w.heap.size) :
    Fn0 Tryz.prog 15 #[nilP] w I (fun _ : Unit => .tuple #[nilP, .int .i64 2]) (fun _ _ => True) := by
  refine enter (svs := [.c (.v nilP)]) tysOk Tryz.func15 rfl Tryz.ntmps15 Tryz.results15 (by kernel_rfl) (by simp) hI (fun _ => True) (fun _ _ => trivial) fun C hC hN ok => ?_
  simp [hN]
  refine loopK [0] ok (fun _ : Unit => [(9, .c (.v (.int .i64 0)))]) (fun _ => []) (fun _ _ => True) (fun _ => 0) () ?_ ?_ (fun _ _ => trivial) ?_
  · simp
  · simp
  rintro _ W _ hG next
  simp [hN]
  refine call0 ok rfl rfl rfl (fun w I hI hG => halfWipeNil0 w I hI 0) fun _ W _ => ?_
  simp [hN]
  exact ret0 hC () rfl fun _ _ _ => trivial
theorem commitNil0 (w : World) (I : Nat → Prop) (hI : ∀ b, I b → b < w.heap.size) :
    Fn0 Tryz.prog 17 #[nilP, .slice none 0 0] w I (fun _ : Unit => .int .i64 2) (fun _ _ => True) := by
  refine enter (svs := [.c (.v nilP), .c (.v (.slice none 0 0))]) tysOk Tryz.func17 rfl Tryz.ntmps17 Tryz.results17 (by kernel_rfl) (by simp) hI (fun _ => True) (fun _ _ => trivial) fun C hC hN ok => ?_
  simp [hN]
  exact ret0 hC () rfl fun _ _ _ => trivial
theorem epochNil0 (w : World) (I : Nat → Prop) (hI : ∀ b, I b → b < w.heap.size) :
    Fn0 Tryz.prog 27 #[nilP] w I (fun _ : Unit => .int .i64 0) (fun _ _ => True) := by
  refine enter (svs := [.c (.v nilP)]) tysOk Tryz.func27 rfl Tryz.ntmps27 Tryz.results27 (by kernel_rfl) (by simp) hI (fun _ => True) (fun _ _ => trivial) fun C hC hN ok => ?_
  simp [hN]
  exact ret0 hC () rfl fun _ _ _ => trivial
theorem halfNil0 (w : World) (I : Nat → Prop) (hI : ∀ b, I b → b < w.heap.size) :
    Fn0 Tryz.prog 28 #[nilP] w I (fun _ : Unit => .int .i64 0) (fun _ _ => True) := by
  refine enter (svs := [.c (.v nilP)]) tysOk Tryz.func28 rfl Tryz.ntmps28 Tryz.results28 (by kernel_rfl) (by simp) hI (fun _ => True) (fun _ _ => trivial) fun C hC hN ok => ?_
  simp [hN]
  exact ret0 hC () rfl fun _ _ _ => trivial
theorem stateNil0 (w : World) (I : Nat → Prop) (hI : ∀ b, I b → b < w.heap.size) :
    Fn0 Tryz.prog 21 #[nilP] w I (fun _ : Unit => .agg (staC staZ (none, 0) (none, 0)).toArray) (fun _ _ => True) := by
  refine enter (svs := [.c (.v nilP)]) tysOk Tryz.func21 rfl Tryz.ntmps21 Tryz.results21 (by kernel_rfl) (by simp) hI (fun _ => True) (fun _ _ => trivial) fun C hC hN ok => ?_
  simp [hN]
  intro g1
  exact ret0 hC () rfl fun _ _ _ => trivial
end Go.Proofs.YtbbaoeidobdblaaGreat.Sx

/- garretlaw17.JournalImages. -/
set_option linter.unusedVariables false
set_option linter.unusedSimpArgs false
namespace Go.Proofs.YtbbaoeidobdblaaGreat.Sx
open Go
attribute [local simp ↓] ifb_true' ifb_false'
attribute [local simp] ifb_true ifb_false ifb_eq sx argsT find ev evOp evs evo evBin evInt evStr evNil evNilA ptrA slcA isNoneA asB evLoad look del cellsB evUn evConv kdec fld evFieldA evField evIdxA evIdx evSlc bndL bndH evLen mmi put resV guardV gvL setO tupV cellsOf ones one upd lits nv exitTo SV.val CV.val TI.agg rdyA allR keepB scan simpO gsp isS subs keepT pickT wr memN pubs Res.fact Region.binds bld rest give delL back Res.eqv vi vb num Sv.val undef
theorem open_gjR (c : Cp) (x : Nat × Sl × Sl) : (openM c x).2.gj = x.1 := by
  unfold openM anewM openJ
  simp only
  split
  · rfl
  · split
    · split
      · rfl
      · split
        · rfl
        · split <;> rfl
    · rfl
theorem open_s {c : Cp} (x : Nat × Sl × Sl) (h : openE c = 0) : (openM c x).2.s = (bestM c).1.s := by
  have hE := (open_e c x).1
  rw [h] at hE
  unfold openM at hE ⊢
  split at hE
  · exact absurd (show (23 : Int) = 0 from hE) (by decide)
  · rename_i h1
    rw [if_neg h1]
    split at hE
    · rename_i h2
      rw [if_pos h2]
      exact (anew_s _ _ _ _ hE).1
    · rename_i h2
      rw [if_neg h2]
      rfl
def newRc (G : Geo) (gp : Nat) (x : Nat × Nat × Nat × Nat × Nat) (n k : Nat) : Rc := ⟨⟨G, x.1, gp, x.2.1, 0, n, x.2.2.1, ⟨-1, 0, false, 0⟩, .map none, List.replicate n 255, []⟩, x.2.2.2.1, x.2.2.2.2, List.replicate k 0⟩
set_option maxRecDepth 100000 in
set_option maxHeartbeats 4000000 in
theorem journalImagesLaw0 (w : World) (g : Geo) {aa ba ja : Option Addr} {an ac bn bc jn jc : Nat} (la lb : List Dee) (junk : List Int) (x y at_ : Int) (h : ∀ W, Ext (fun b => b < w.heap.size) w W → Sv.ok dDee W (aa, an, ac) la ∧ Sv.ok dDee W (ba, bn, bc) lb ∧ Sv.ok dByte W (ja, jn, jc) junk) (hda : (deedsB la).length ≤ 1000000000) (hdb : (deedsB lb).length ≤ 1000000000) (hjb : isB junk) :
    Fn0 Tryz.prog 8 #[.agg (geoC g).toArray, .slice aa an ac, .slice ba bn bc, .int .i64 x, .int .i64 y, .slice ja jn jc, .int .i64 at_] w (fun b => b < w.heap.size) (fun b : Bool => .bool b) (fun y W => y = true) := by
  have hI : ∀ b, b < w.heap.size → b < w.heap.size := fun b h => h
  have hjn : jn = junk.length := (h w (Ext.refl _ _)).2.2.1
  refine enter (svs := [.ag ((geoC g).map .v), .c (.v (.slice aa an ac)), .c (.v (.slice ba bn bc)), .c (.v (.int .i64 x)), .c (.v (.int .i64 y)), .c (.v (.slice ja jn jc)), .c (.v (.int .i64 at_))]) tysOk Tryz.func8 rfl Tryz.ntmps8 Tryz.results8 (by kernel_rfl) (by simp) hI (fun W => Sv.ok dDee W (aa, an, ac) la ∧ Sv.ok dDee W (ba, bn, bc) lb ∧ Sv.ok dByte W (ja, jn, jc) junk) h fun C hC hN ok => ?_
  simp [hN]
  intro g7
  refine call0 ok rfl rfl rfl (fun w I hI hG => geometry0 w I hI g) fun y' W _ => ?_
  have hgr := geoP_right g
  generalize geoP g = G at hgr
  obtain ⟨q0, ⟨q1, q2⟩, ⟨q3, q4⟩, ⟨q5, q6⟩, ⟨q7, q8⟩, ⟨q9, q10⟩⟩ := id hgr
  simp [hN]
  refine call0 ok rfl rfl rfl (fun w I hI hG => few0 w I hI (n := an) la (fun W e => (hG W e).1)) fun f1 W _ => ?_
  cases f1 with
  | false =>
    simp [hN]
    refine call0 ok rfl rfl rfl (fun w I hI hG => awake17 w I hI) fun _ W _ => ?_
    simp [hN]
    exact ret0 hC true rfl fun _ _ _ => rfl
  | true =>
  simp [hN]
  refine call0 ok rfl rfl rfl (fun w I hI hG => few0 w I hI (n := bn) lb (fun W e => (hG W e).2.1)) fun f2 W _ => ?_
  cases f2 with
  | false =>
    simp [hN]
    refine call0 ok rfl rfl rfl (fun w I hI hG => awake17 w I hI) fun _ W _ => ?_
    simp [hN]
    exact ret0 hC true rfl fun _ _ _ => rfl
  | true =>
  by_cases hj200 : (200 : Int) < jn
  · simp [hN, hj200]
    refine call0 ok rfl rfl rfl (fun w I hI hG => awake17 w I hI) fun _ W _ => ?_
    simp [hN]
    exact ret0 hC true rfl fun _ _ _ => rfl
  simp [hN, hj200]
  obtain ⟨nb, hnb, hnb0, hnb1⟩ : ∃ nb : Nat, G.sectors * G.sector = (nb : Nat) ∧ 0 < nb ∧ nb ≤ 100000 := by
    obtain ⟨a, ha⟩ : ∃ a : Nat, G.sectors = a := ⟨G.sectors.toNat, by omega⟩
    obtain ⟨b, hb⟩ : ∃ b : Nat, G.sector = b := ⟨G.sector.toNat, by omega⟩
    refine ⟨a * b, by rw [ha, hb]; simp, Nat.mul_pos (by omega) (by omega), ?_⟩
    have : a * b ≤ 16 * 4096 := Nat.mul_le_mul (by omega) (by omega)
    omega
  obtain ⟨kb, hkb⟩ : ∃ kb : Nat, G.sectors = (kb : Nat) := ⟨G.sectors.toNat, by omega⟩
  refine drawK ok mixed (by kernel_rfl) ?_
  simp (maxSteps := 2000000) -implicitDefEqProofs [hN]
  refine callS ok rfl rfl rfl [] [] trivial rfl (fun gp : Nat => [(1001, .box gp 79 (rpB ⟨-1, 0, false, 0⟩))]) (fun w I S hI hG hO hS => (rpNew0 w I hI).lone hO) (fun r => by simp) (.inl fun k hk => by cases hk) fun gp W _ => ?_
  simp (maxSteps := 2000000) -implicitDefEqProofs [hN]
  refine callS ok rfl rfl rfl [] [] trivial rfl (fun x : Nat × Nat × Nat × Nat × Nat => [(1000, (newRc G gp x nb kb).chip), (1002, (newRc G gp x nb kb).row), (1003, (newRc G gp x nb kb).cnt)]) (fun w I S hI hG hO hS => (refNew0 w I hI G gp nb kb hgr hnb hnb0 hnb1 hkb).lone hO) (fun r => by simp [newRc]) (.inl fun k hk => by cases hk) fun x0 W _ => ?_
  obtain ⟨r0, hr0⟩ : ∃ r0, r0 = newRc G gp x0 nb kb := ⟨_, rfl⟩
  have hfit : r0.c.fit := by
    rw [hr0]
    exact ⟨hgr, by simp only [newRc, List.length_replicate]; exact hnb.symm, by simp [newRc], by simp [newRc]⟩
  have hct0 : (r0.ct.length : Int) = r0.c.g.sectors := by rw [hr0]; simp [newRc, hkb]
  have hgc : x0.1 = r0.c.gc := by rw [hr0]; rfl
  have hpw : (.box gp 79 (rpB ⟨-1, 0, false, 0⟩) : Res) = r0.pow := by rw [hr0]; rfl
  have hG0 : r0.c.g = G := by rw [hr0]; rfl
  have hp0 : r0.c.p = ⟨-1, 0, false, 0⟩ := by rw [hr0]; rfl
  have hb0 : isB r0.c.b := by rw [hr0]; exact isB_rep _
  have hl0 : r0.c.b.length = nb := by rw [hr0]; simp [newRc]
  rw [hpw]
  simp only [← hr0, hgc]
  clear hpw hr0
  simp (maxSteps := 2000000) -implicitDefEqProofs [hN]
  refine rowLe 1002 rfl fun hbc => ?_
  refine tagA 56 (.c (.bp 1000 r0.c.gc 6)) rfl rfl (tagA 15 (.c (.bp 1000 r0.c.gc 0)) rfl rfl (goon ok ?_))
  have e1 : (nb : Int).tdiv 2 = ((nb / 2 : Nat) : Int) := by rw [Int.tdiv_eq_ediv_of_nonneg (by omega)]; omega
  have e2 : IntKind.i64.wrap ((nb : Int) / 2) = ((nb / 2 : Nat) : Int) := by rw [w64 (by omega) (by omega)]; omega
  have hV : ∀ v : Int, ∃ V : Int, (IntKind.u64.wrap v).tmod 5 = V ∧ 0 ≤ V := fun v => ⟨_, rfl, by rw [u64_wrap, Int.tmod_eq_emod_of_nonneg (by omega)]; omega⟩
  obtain ⟨V1, hV1, hV1a⟩ := hV x
  obtain ⟨V2, hV2, hV2a⟩ := hV y
  rw [hl0] at hbc
  simp [hN, hl0, e1, e2, hV1]
  refine callS ok rfl rfl rfl [] [] trivial rfl (fun x : Sl => [(610, .row x.1 8 x.2 5 1 (bC (lowB V1 8)))]) (fun w I S hI hG hO hS => (refPutS w I hI [] (none, 0) V1 8 (fun W _ => by simp [Sl.ok, Rd]) (by simp) (by omega) hV1a).lone hO) (fun r => by simp) (.inl fun k hk => by cases hk) fun p1 W _ => ?_
  simp [hN, hV2]
  refine callS ok rfl rfl rfl [] [] trivial rfl (fun x : Sl => [(611, .row x.1 8 x.2 5 1 (bC (lowB V2 8)))]) (fun w I S hI hG hO hS => (refPutS w I hI [] (none, 0) V2 8 (fun W _ => by simp [Sl.ok, Rd]) (by simp) (by omega) hV2a).lone hO) (fun r => by simp) (.inl fun k hk => by cases hk) fun p2 W _ => ?_
  simp [hN]
  refine call0 ok rfl rfl rfl (fun w I hI hG => refPackG0 w I hI la (aa, an, ac) (fun W e => (hG W e).1) (by omega)) fun z1 W hz1 => ?_
  obtain ⟨za, zn, zc⟩ := z1
  obtain rfl : zn = (deedsB la).length := hz1.1
  simp [hN]
  refine appV ok 610 rfl rfl rfl rfl rfl (by decide) rfl rfl rfl rfl rfl rfl dByte (deedsB la) rfl (by show (8 + _) * 1 ≤ _; omega) (by omega) (fun W hW => hW.1) fun k1 a1 c1 W hll1 hr1 _ => ?_
  have hk1 : k1 = (deedsB la).map (Value.int .u8) := rows_byte.1 hr1
  obtain ⟨L1, hL1⟩ : ∃ L1, L1 = lowB V1 8 ++ deedsB la := ⟨_, rfl⟩
  have hrow1 : bC (lowB V1 8) ++ k1.map nv = bC L1 := by rw [hk1, bC_nv, bC_app, hL1]
  have hl1 : L1.length = 8 + (deedsB la).length := by rw [hL1, List.length_append, lowB_length]
  have hb1 : isB L1 := by rw [hL1]; exact isB_app.2 ⟨lowB_byte _ _, deedsB_byte la⟩
  rw [hrow1, ← hl1]
  simp [hN]
  refine pub 610 rfl (by decide) (forget (fun W => Sl.ok dByte W (a1, c1) L1 ∧ Sv.ok dDee W (ba, bn, bc) lb ∧ Sv.ok dByte W (ja, jn, jc) junk) ?fg ?_)
  case fg => exact fun W hW => ⟨(byte_ok (xs := L1) hW.1 (by omega)).2, hW.2.2.2.2⟩
  have hap1 := append_same hfit (h := 0) (o := 0) (by omega) (b := L1)
  have hib1 := append_isB hb0 0 0 hb1
  refine callS ok rfl rfl rfl [1000, 1001, 1002, 1003] r0.res (by simp [hl0]) rfl (fun _ : Int => [(1000, (r0.wi (appendM r0.c 0 0 L1).2).chip), (1001, (r0.wi (appendM r0.c 0 0 L1).2).pow), (1002, (r0.wi (appendM r0.c 0 0 L1).2).row), (1003, (r0.wi (appendM r0.c 0 0 L1).2).cnt)]) (fun w I S hI hG hO hS' => refAppend0 w I S hI r0 0 0 (by omega) hfit (by omega) L1 (a1, c1) (fun W e => (hG W e).1) hb1 hO hS') (fun r => by simp) (.inr fun x q hq => by simp at hq; rcases hq with rfl | rfl | rfl | rfl <;> simp) fun _ W _ => ?_
  obtain ⟨d1, hd1⟩ : ∃ d1, d1 = (appendM r0.c 0 0 L1).2 := ⟨_, rfl⟩
  simp only [← hd1] at hap1 hib1
  simp only [← hd1]
  simp [hN]
  refine call0 ok rfl rfl rfl (fun w I hI hG => refPackG0 w I hI lb (ba, bn, bc) (fun W e => (by first | exact (hG W e) | exact (hG W e).1 | exact (hG W e).1.1 | exact (hG W e).1.2 | exact (hG W e).1.2.1 | exact (hG W e).1.2.2.1 | exact (hG W e).1.2.2.2.1 | exact (hG W e).2 | exact (hG W e).2.1 | exact (hG W e).2.1.1 | exact (hG W e).2.1.2 | exact (hG W e).2.1.2.1 | exact (hG W e).2.1.2.2.1 | exact (hG W e).2.1.2.2.2.1 | exact (hG W e).2.2 | exact (hG W e).2.2.1 | exact (hG W e).2.2.1.1 | exact (hG W e).2.2.1.2 | exact (hG W e).2.2.1.2.1 | exact (hG W e).2.2.1.2.2.1 | exact (hG W e).2.2.1.2.2.2.1 | exact (hG W e).2.2.2 | exact (hG W e).2.2.2.1 | exact (hG W e).2.2.2.1.1 | exact (hG W e).2.2.2.1.2 | exact (hG W e).2.2.2.1.2.1 | exact (hG W e).2.2.2.1.2.2.1 | exact (hG W e).2.2.2.1.2.2.2.1 | exact (hG W e).2.2.2.2 | exact (hG W e).2.2.2.2.1 | exact (hG W e).2.2.2.2.1.1 | exact (hG W e).2.2.2.2.1.2 | exact (hG W e).2.2.2.2.1.2.1 | exact (hG W e).2.2.2.2.1.2.2.1 | exact (hG W e).2.2.2.2.1.2.2.2.1 | exact (hG W e).2.2.2.2.2 | exact (hG W e).2.2.2.2.2.1 | exact (hG W e).2.2.2.2.2.1.1 | exact (hG W e).2.2.2.2.2.1.2 | exact (hG W e).2.2.2.2.2.1.2.1 | exact (hG W e).2.2.2.2.2.1.2.2.1 | exact (hG W e).2.2.2.2.2.1.2.2.2.1 | exact (hG W e).2.2.2.2.2.2 | exact (hG W e).2.2.2.2.2.2.1 | exact (hG W e).2.2.2.2.2.2.1.1 | exact (hG W e).2.2.2.2.2.2.1.2 | exact (hG W e).2.2.2.2.2.2.1.2.1 | exact (hG W e).2.2.2.2.2.2.1.2.2.1 | exact (hG W e).2.2.2.2.2.2.1.2.2.2.1 | exact (hG W e).2.2.2.2.2.2.2 | exact (hG W e).2.2.2.2.2.2.2.1 | exact (hG W e).2.2.2.2.2.2.2.1.1 | exact (hG W e).2.2.2.2.2.2.2.1.2 | exact (hG W e).2.2.2.2.2.2.2.1.2.1 | exact (hG W e).2.2.2.2.2.2.2.1.2.2.1 | exact (hG W e).2.2.2.2.2.2.2.1.2.2.2.1 | exact (hG W e).2.2.2.2.2.2.2.2 | exact (hG W e).2.2.2.2.2.2.2.2.1 | exact (hG W e).2.2.2.2.2.2.2.2.1.1 | exact (hG W e).2.2.2.2.2.2.2.2.1.2 | exact (hG W e).2.2.2.2.2.2.2.2.1.2.1 | exact (hG W e).2.2.2.2.2.2.2.2.1.2.2.1 | exact (hG W e).2.2.2.2.2.2.2.2.1.2.2.2.1 | exact (hG W e).2.2.2.2.2.2.2.2.2)) (by omega)) fun z2 W hz2 => ?_
  obtain ⟨ya, yn, yc⟩ := z2
  obtain rfl : yn = (deedsB lb).length := hz2.1
  simp [hN]
  refine appV ok 611 rfl rfl rfl rfl rfl (by decide) rfl rfl rfl rfl rfl rfl dByte (deedsB lb) rfl (by show (8 + _) * 1 ≤ _; omega) (by omega) (fun W hW => hW.1) fun k2 a2 c2 W hll2 hr2 _ => ?_
  have hk2 : k2 = (deedsB lb).map (Value.int .u8) := rows_byte.1 hr2
  obtain ⟨L2, hL2⟩ : ∃ L2, L2 = lowB V2 8 ++ deedsB lb := ⟨_, rfl⟩
  have hrow2 : bC (lowB V2 8) ++ k2.map nv = bC L2 := by rw [hk2, bC_nv, bC_app, hL2]
  have hl2 : L2.length = 8 + (deedsB lb).length := by rw [hL2, List.length_append, lowB_length]
  have hb2 : isB L2 := by rw [hL2]; exact isB_app.2 ⟨lowB_byte _ _, deedsB_byte lb⟩
  rw [hrow2, ← hl2]
  simp [hN]
  refine pub 611 rfl (by decide) (forget (fun W => Sl.ok dByte W (a2, c2) L2 ∧ Sv.ok dByte W (ja, jn, jc) junk) ?fg2 ?_)
  case fg2 => exact fun W hW => ⟨(byte_ok (xs := L2) hW.1 (by omega)).2, (by first | exact (hW) | exact (hW).2 | exact (hW).2.2 | exact (hW).2.2.2 | exact (hW).2.2.2.2 | exact (hW).2.2.2.2.2 | exact (hW).2.2.2.2.2.2 | exact (hW).2.2.2.2.2.2.2 | exact (hW).2.2.2.2.2.2.2.2)⟩
  have hap2 := append_same hap1.2 (h := 1) (o := 0) (by omega) (b := L2)
  have hib2 := append_isB hib1 1 0 hb2
  refine callS ok rfl rfl rfl [1000, 1001, 1002, 1003] (r0.wi d1).res (by simp) rfl (fun _ : Int => [(1000, (r0.wi (appendM d1 1 0 L2).2).chip), (1001, (r0.wi (appendM d1 1 0 L2).2).pow), (1002, (r0.wi (appendM d1 1 0 L2).2).row), (1003, (r0.wi (appendM d1 1 0 L2).2).cnt)]) (fun w I S hI hG hO hS' => by have := refAppend0 w I S hI (r0.wi d1) 1 0 (by omega) hap1.2 (by omega) L2 (a2, c2) (fun W e => (hG W e).1) hb2 hO hS'; rw [hap1.1.gc] at this; exact this) (fun r => by simp) (.inr fun x q hq => by simp at hq; rcases hq with rfl | rfl | rfl | rfl <;> simp) fun _ W _ => ?_
  obtain ⟨d2, hd2⟩ : ∃ d2, d2 = (appendM d1 1 0 L2).2 := ⟨_, rfl⟩
  simp only [← hd2] at hap2 hib2
  simp only [← hd2]
  have hsm := hap1.1.trans hap2.1
  have hf2 := hap2.2
  have hl2b : d2.b.length = nb := by rw [hsm.len, hl0]
  obtain ⟨o, ho⟩ : ∃ o : Nat, (IntKind.u64.wrap at_).tmod (IntKind.u64.wrap (nb : Int)) = (o : Nat) ∧ o < nb := by
    have e : IntKind.u64.wrap (nb : Int) = nb := by rw [u64_wrap]; omega
    rw [e, u64_wrap, Int.tmod_eq_emod_of_nonneg (by omega)]
    have h1 := Int.emod_nonneg (at_ % 18446744073709551616) (show (nb : Int) ≠ 0 by omega)
    have h2 := Int.emod_lt_of_pos (at_ % 18446744073709551616) (show (0 : Int) < nb by omega)
    exact ⟨((at_ % 18446744073709551616) % (nb : Int)).toNat, by omega, by omega⟩
  have e3 : IntKind.i64.wrap (o : Int) = (o : Nat) := w64 (by omega) (by omega)
  have hnz : ¬ IntKind.u64.wrap (nb : Int) = 0 := by rw [u64_wrap]; omega
  have hpe : PwE r0.c.p d2.p := by
    rw [hd2]
    have h0 : r0.c.p.left < 0 ∧ r0.c.p.off = false := by rw [hp0]; exact ⟨(by decide : (-1 : Int) < 0), rfl⟩
    have h1 : PwE r0.c.p d1.p := by rw [hd1]; exact append_still h0.1 h0.2 ⟨rfl, rfl, rfl⟩ 0 0 L1
    exact append_still h0.1 h0.2 h1 1 0 L2
  have hnbig : 512 ≤ nb := by
    have : (2 : Int) * 256 ≤ G.sectors * G.sector := Int.mul_le_mul q1 q3 (by decide) (by omega)
    omega
  clear hd1 hd2
  simp [hN, hsm.gc, hl2b, ho.1, e3, hnz]
  refine forget (fun W => Sv.ok dByte W (ja, jn, jc) junk) ?fg3 ?_
  case fg3 => exact fun W hW => (by first | exact (hW) | exact (hW).2 | exact (hW).2.2 | exact (hW).2.2.2 | exact (hW).2.2.2.2 | exact (hW).2.2.2.2.2 | exact (hW).2.2.2.2.2.2 | exact (hW).2.2.2.2.2.2.2 | exact (hW).2.2.2.2.2.2.2.2)
  refine loopK [5, 7, 15, 17] ok (fun i : Nat => [(20, .c (.v (.int .i64 (i : Nat)))), (6, .c (.v (.int .i64 (o : Nat))))]) (fun i => [(1000, (r0.wi d2).chip), (1001, (r0.wi d2).pow), (1002, .row (some ⟨d2.gb, 0, none⟩) nb d2.bc 5 1 (bC (layI d2.b o (junk.take i)))), (1003, (r0.wi d2).cnt), (7, .box g7 23 ((geoC G).map .v))]) (fun i W => i ≤ jn ∧ o + i ≤ nb) (fun i => jn - i) 0 ?_ ?_ (fun W hW => ⟨Nat.zero_le _, by omega⟩) ?_
  · simp
  · simp [layI, hl2b]
  rintro i W ⟨hi, hoi⟩ hG next
  have htk : (junk.take i).length = i := by rw [List.length_take]; omega
  have hrl : (layI d2.b o (junk.take i)).length = nb := by rw [layI_len _ _ _ (by omega), hl2b]
  have hbl := bC_len (layI d2.b o (junk.take i))
  rw [hrl] at hbl
  obtain ⟨z, hz⟩ : ∃ z, z = o + i := ⟨_, rfl⟩
  have e4 : IntKind.i64.wrap ((o : Int) + (i : Nat)) = (z : Nat) := by rw [w64 (by omega) (by omega)]; omega
  have hib3 : isB (layI d2.b o (junk.take i)) := isB_lay hib2 (fun x hx => hjb x (List.mem_of_mem_take hx)) o
  by_cases hgo : i < jn ∧ z < nb
  · obtain ⟨hlt, hzn⟩ := hgo
    have hltI : (i : Int) < (jn : Nat) := by omega
    have hznI : (z : Int) < (nb : Nat) := by omega
    have hltj : i < junk.length := by omega
    have e5 : IntKind.i64.wrap ((i : Int) + 1) = (i + 1 : Nat) := by rw [w64 (by omega) (by omega)]; omega
    obtain ⟨b', o', e, _⟩ := byte_get (h w (Ext.refl _ _)).2.2 hltj
    cases e
    have hget : ∀ W, Sv.ok dByte W (some ⟨b', o', none⟩, jn, jc) junk → ∃ v, W.cell? ⟨b', o' + i, none⟩ = some v ∧ v = .int .u8 junk[i] := fun W hW => by
      obtain ⟨b'', o'', e, hc⟩ := byte_get hW hltj
      cases e
      exact ⟨_, hc, rfl⟩
    have hset : (bC (layI d2.b o (junk.take i))).set z (.v (.int .u8 junk[i])) = bC (layI d2.b o (junk.take (i + 1))) := by
      have hft : junk.take (i + 1) = junk.take i ++ [junk[i]] := by rw [List.take_add_one, List.getElem?_eq_getElem hltj]; rfl
      rw [bC_set, hz, hft]
      have := layI_set d2.b o (junk.take i) junk[i] (by rw [htk, hl2b]; omega)
      rw [htk] at this
      rw [this]
    simp [hN, hsm.gc, hl2b, e4, hltI, hznI]
    refine draw ok [(1000, (r0.wi d2).chip)] (by rw [ok.P]; exact mixed) (by kernel_rfl) ?_
    simp (maxSteps := 2000000) -implicitDefEqProofs [hN, hsm.gc, hl2b, e4, hltI, hznI, hzn, hlt]
    refine load1 ok rfl rfl rfl rfl (fun v W => v = .int .u8 junk[i]) (fun W hW => hget W (by first | exact (hW) | exact (hW).2 | exact (hW).2.2 | exact (hW).2.2.2 | exact (hW).2.2.2.2 | exact (hW).2.2.2.2.2 | exact (hW).2.2.2.2.2.2 | exact (hW).2.2.2.2.2.2.2 | exact (hW).2.2.2.2.2.2.2.2)) ?_
    rintro v W rfl _
    simp (maxSteps := 2000000) -implicitDefEqProofs [hN, hsm.gc, hl2b, e4, e5, hznI, hzn, hbl, hset]
    exact ⟨by omega, next (i + 1) _ _ (by omega) (fun W hW => ⟨⟨hlt, by omega⟩, (by first | exact (hW) | exact (hW).2 | exact (hW).2.2 | exact (hW).2.2.2 | exact (hW).2.2.2.2 | exact (hW).2.2.2.2.2 | exact (hW).2.2.2.2.2.2 | exact (hW).2.2.2.2.2.2.2 | exact (hW).2.2.2.2.2.2.2.2)⟩) (by simp [hsm.gc])⟩
  clear next
  obtain ⟨B3, hB3⟩ : ∃ B3, B3 = layI d2.b o (junk.take i) := ⟨_, rfl⟩
  rw [← hB3] at hrl hib3
  simp only [← hB3]
  refine cutK ok (p := ?pos) [(7, .c (.bp 7 g7 0)), (15, .c (.bp 1000 r0.c.gc 0)), (17, .c (.v (.int .i64 ((nb / 2 : Nat) : Int))))] (fun _ => True) [(1000, (r0.wi d2).chip), (1001, (r0.wi d2).pow), (1002, .row (some ⟨d2.gb, 0, none⟩) nb d2.bc 5 1 (bC B3)), (1003, (r0.wi d2).cnt), (7, .box g7 23 ((geoC G).map .v))] ?rest fun R => ?main
  case main =>
    by_cases hlt : i < jn
    case' pos =>
      have hltI : (i : Int) < (jn : Nat) := by omega
      have hznI : ¬ (z : Int) < (nb : Nat) := fun h => hgo ⟨hlt, by omega⟩
      simp [hN, hsm.gc, hl2b, e4, hltI, hznI]
    case' neg =>
      have hltI : ¬ (i : Int) < (jn : Nat) := by omega
      simp [hN, hltI]
    all_goals
      refine R _ _ ?_ ?_
      · exact fun _ _ => trivial
      · simp [hsm.gc]
  case rest =>
  simp [hN]
  refine drawK ok mixed (by kernel_rfl) ?_
  simp (maxSteps := 2000000) -implicitDefEqProofs [hN]
  refine callS ok rfl rfl rfl [] [] trivial rfl (fun gp : Nat => [(1011, .box gp 108 (powB ⟨-1, 0, false, 0⟩ (.map none)))]) (fun w I S hI hG hO hS => (powNew0 w I hI).lone hO) (fun r => by simp) (.inl fun k hk => by cases hk) fun gq W _ => ?_
  simp (maxSteps := 2000000) -implicitDefEqProofs [hN]
  refine callS ok rfl rfl rfl [] [] trivial rfl (fun x : Nat × Nat × Nat × Nat => [(1010, (newCp G gq ⟨-1, 0, false, 0⟩ (.map none) x nb).chip), (1012, (newCp G gq ⟨-1, 0, false, 0⟩ (.map none) x nb).row), (1013, (newCp G gq ⟨-1, 0, false, 0⟩ (.map none) x nb).map)]) (fun w I S hI hG hO hS => (norNew0 w I hI G gq nb ⟨-1, 0, false, 0⟩ (.map none) hgr hnb hnb0 hnb1).lone hO) (fun r => by simp [Cp.map, mapR]) (.inl fun k hk => by cases hk) fun xc W _ => ?_
  obtain ⟨c0, hc0⟩ : ∃ c0, c0 = newCp G gq ⟨-1, 0, false, 0⟩ (.map none) xc nb := ⟨_, rfl⟩
  have hcf : c0.fit := by
    rw [hc0]
    exact ⟨hgr, by simp only [newCp, List.length_replicate]; exact hnb.symm, by simp [newCp], by simp [newCp]⟩
  have hcgc : xc.1 = c0.gc := by rw [hc0]; rfl
  have hcpw : (.box gq 108 (powB ⟨-1, 0, false, 0⟩ (.map none)) : Res) = c0.pow := by rw [hc0]; rfl
  have hcG : c0.g = G := by rw [hc0]; rfl
  have hcp : c0.p = ⟨-1, 0, false, 0⟩ := by rw [hc0]; rfl
  have hcl : c0.b.length = nb := by rw [hc0]; simp [newCp]
  rw [hcpw]
  simp only [← hc0, hcgc]
  clear hcpw hc0
  simp (maxSteps := 2000000) -implicitDefEqProofs [hN]
  refine call0 ok rfl rfl rfl (fun w I hI hG => awake17 w I hI) fun _ W _ => ?_
  have hh2 : ¬ (nb : Int) / 2 = 0 := by omega
  simp [hN, hh2, hsm.gc, hl2b]
  obtain ⟨c4, hc4⟩ : ∃ c4, c4 = { c0 with b := B3 } := ⟨_, rfl⟩
  obtain ⟨d3, hd3⟩ : ∃ d3, d3 = { d2 with b := B3 } := ⟨_, rfl⟩
  have h4f : c4.fit := by rw [hc4]; exact ⟨hcf.right, by simp only [hrl]; rw [← hcl]; exact hcf.len, by simp only [hrl]; rw [← hcl]; exact hcf.cap, hcf.left⟩
  have h4b : isB c4.b := by rw [hc4]; exact hib3
  have h4gc : c4.gc = c0.gc := by rw [hc4]
  have h3f : d3.fit := by rw [hd3]; exact ⟨hf2.right, by simp only [hrl]; rw [← hl2b]; exact hf2.len, by simp only [hrl]; rw [← hl2b]; exact hf2.cap, hf2.left⟩
  have h3b : isB d3.b := by rw [hd3]; exact hib3
  have h3gc : d3.gc = r0.c.gc := by rw [hd3]; exact hsm.gc
  have h3bc : d3.b.length ≤ d3.bc := by rw [hd3]; simp only [hrl]; rw [hsm.bc]; exact hbc
  have h3ct : (r0.ct.length : Int) = d3.g.sectors := by rw [hd3]; simp only; rw [hsm.g]; exact hct0
  have htw : Tw c4 d3 := by
    rw [hc4, hd3]
    refine ⟨by simp only; rw [hsm.g, hG0, hcG], rfl, ?_⟩
    simp only
    rw [hcp, ← hp0]
    exact hpe
  have h3row : (.row (some ⟨d2.gb, 0, none⟩) nb d2.bc 5 1 (bC B3) : Res) = (r0.wi d3).row := by rw [hd3]; simp [hrl]
  have h3chip : (r0.wi d2).chip = (r0.wi d3).chip := by rw [hd3]; simp [hrl, hl2b]
  have h3pow : (r0.wi d2).pow = (r0.wi d3).pow := by rw [hd3]
  refine callS ok rfl rfl rfl [1010, 1011, 1012, 1013, 1002] (c0.res ++ [.row (some ⟨d2.gb, 0, none⟩) B3.length d2.bc 5 1 (bC B3)]) (by simp [Cp.map, mapR, hrl]) rfl (fun _ : Unit => [(1010, c4.chip), (1011, c4.pow), (1012, c4.row), (1013, c4.map), (1002, (r0.wi d3).row)]) (fun w I S hI hG hO hS' => by have := loadB0 w I S hI c0 B3 d2.gb d2.bc hcf (by rw [hrl, hcl]) (by omega) hO hS'; rw [hrl] at this; exact this) (fun r => by simp [Cp.map, mapR, hc4, ← h3row, hrl]) (.inr fun x q hq => by simp at hq; rcases hq with rfl | rfl | rfl | rfl | rfl <;> simp) fun _ W _ => ?_
  rw [h3chip, h3pow]
  clear h3row h3chip h3pow hc4 hd3
  simp [hN]
  have hot := open_tw htw
  have hE : openE d3 = openE c4 := (hot (0, (none, 0), (none, 0)) (0, (none, 0), (none, 0))).1
  have hopc := fun (w : World) (I S : Nat → Prop) (hI : ∀ b, I b → b < w.heap.size) (hO : Owns c4.res S w) (hS' : ∀ b, S b → b < w.heap.size ∧ ¬ I b) => open0 w I S hI c4 h4f h4b hO hS'
  have hopr := fun (w : World) (I S : Nat → Prop) (hI : ∀ b, I b → b < w.heap.size) (hO : Owns (r0.wi d3).res S w) (hS' : ∀ b, S b → b < w.heap.size ∧ ¬ I b) => refOpen0 w I S hI (r0.wi d3) h3f h3ct h3bc h3b hO hS'
  simp only [h4gc, h3gc, hE] at hopc hopr
  by_cases ho : openE c4 = 0
  all_goals have nilS : ∀ W, StaR W staZ (none, 0) (none, 0) := fun W => ⟨⟨Nat.zero_le _, Nat.zero_le _, rd_nil _ _ _⟩, ⟨Nat.zero_le _, Nat.zero_le _, rd_nil _ _ _⟩⟩
  · simp only [ho, if_true] at hopc hopr
    refine callS ok rfl rfl rfl [1010, 1011, 1012, 1013] c4.res (by simp [Cp.map, mapR]) rfl (fun x : Nat × Sl × Sl => [(1010, (openM c4 x).2.c.chip), (1011, (openM c4 x).2.c.pow), (1012, (openM c4 x).2.c.row), (1013, (openM c4 x).2.c.map), (1014, (openM c4 x).2.box)]) (fun w I S hI hG hO hS' => hopc w I S hI hO hS') (fun r => by simp [Cp.map, mapR]) (.inr fun x q hq => by simp at hq; rcases hq with rfl | rfl | rfl | rfl | rfl <;> simp) fun xj W hxj => ?_
    simp [hN]
    refine callS ok rfl rfl rfl [1000, 1001, 1002, 1003] (r0.wi d3).res (by simp) rfl (fun y : (Nat × Sl × Sl) × List Int => [(1000, (Rj.mk (openM d3 y.1).2 r0.gk r0.kc y.2).rc.chip), (1001, (Rj.mk (openM d3 y.1).2 r0.gk r0.kc y.2).rc.pow), (1002, (Rj.mk (openM d3 y.1).2 r0.gk r0.kc y.2).rc.row), (1003, (Rj.mk (openM d3 y.1).2 r0.gk r0.kc y.2).rc.cnt), (1004, rjB (openM d3 y.1).2)]) (fun w I S hI hG hO hS' => hopr w I S hI hO hS') (fun r => by simp) (.inr fun x q hq => by simp at hq; rcases hq with rfl | rfl | rfl | rfl | rfl <;> simp) fun yk W hyk => ?_
    have hjk := (hot xj yk.1).2
    have hgj := open_gjR c4 xj
    have hgk := open_gjR d3 yk.1
    have hjs := open_s xj ho
    have hbo := best_ok h4f
    have hhl := half_le h4f
    have hcw := count_w (bestM c4).1.s
    obtain ⟨j, hj⟩ : ∃ j, (openM c4 xj).2 = j := ⟨_, rfl⟩
    rw [hj] at hjs
    rw [← hjs] at hcw hbo
    obtain ⟨k, hk⟩ : ∃ k, (openM d3 yk.1).2 = k := ⟨_, rfl⟩
    rw [hj] at hgj
    rw [hk] at hgk
    rw [hj, hk] at hjk
    simp only [hj, hk, ← hgj, ← hgk]
    simp [hN]
    refine call0 ok rfl rfl rfl (fun w I hI hG => openNil0 w I hI) fun _ W _ => ?_
    simp [hN]
    refine call0 ok rfl rfl rfl (fun w I hI hG => formatNil0 w I hI) fun _ W _ => ?_
    simp [hN]
    refine call0 ok rfl rfl rfl (fun w I hI hG => commitNil0 w I hI) fun _ W _ => ?_
    simp [hN]
    refine call0 ok rfl rfl rfl (fun w I hI hG => epochNil0 w I hI) fun _ W _ => ?_
    simp [hN]
    refine call0 ok rfl rfl rfl (fun w I hI hG => halfNil0 w I hI) fun _ W _ => ?_
    simp [hN]
    refine call0 ok rfl rfl rfl (fun w I hI hG => stateNil0 w I hI) fun _ W _ => ?_
    simp [hN]
    refine call0 ok rfl rfl rfl (fun w I hI hG => sameSta0 w I hI staZ staZ (none, 0) (none, 0) (none, 0) (none, 0) (fun W e => ⟨nilS W, nilS W⟩)) fun _ W _ => ?_
    rw [tB_true rfl]
    simp [hN]
    refine tagA 25 (.c (.bp 1004 k.gj 0)) rfl rfl (drawK ok mixed (by kernel_rfl) ?_)
    simp (maxSteps := 2000000) -implicitDefEqProofs [hN]
    refine callS ok rfl rfl rfl [1014] [j.box] (by simp) rfl (fun _ : Sl × Sl => [(1014, j.box)]) (fun w I S hI hG hO hS' => state0 w I S hI j (fun W e => (by first | exact (hG W e) | exact (hG W e).1 | exact (hG W e).1.1 | exact (hG W e).1.2 | exact (hG W e).1.2.1 | exact (hG W e).1.2.2.1 | exact (hG W e).1.2.2.2.1 | exact (hG W e).2 | exact (hG W e).2.1 | exact (hG W e).2.1.1 | exact (hG W e).2.1.2 | exact (hG W e).2.1.2.1 | exact (hG W e).2.1.2.2.1 | exact (hG W e).2.1.2.2.2.1 | exact (hG W e).2.2 | exact (hG W e).2.2.1 | exact (hG W e).2.2.1.1 | exact (hG W e).2.2.1.2 | exact (hG W e).2.2.1.2.1 | exact (hG W e).2.2.1.2.2.1 | exact (hG W e).2.2.1.2.2.2.1 | exact (hG W e).2.2.2 | exact (hG W e).2.2.2.1 | exact (hG W e).2.2.2.1.1 | exact (hG W e).2.2.2.1.2 | exact (hG W e).2.2.2.1.2.1 | exact (hG W e).2.2.2.1.2.2.1 | exact (hG W e).2.2.2.1.2.2.2.1 | exact (hG W e).2.2.2.2 | exact (hG W e).2.2.2.2.1 | exact (hG W e).2.2.2.2.1.1 | exact (hG W e).2.2.2.2.1.2 | exact (hG W e).2.2.2.2.1.2.1 | exact (hG W e).2.2.2.2.1.2.2.1 | exact (hG W e).2.2.2.2.1.2.2.2.1 | exact (hG W e).2.2.2.2.2 | exact (hG W e).2.2.2.2.2.1 | exact (hG W e).2.2.2.2.2.1.1 | exact (hG W e).2.2.2.2.2.1.2 | exact (hG W e).2.2.2.2.2.1.2.1 | exact (hG W e).2.2.2.2.2.1.2.2.1 | exact (hG W e).2.2.2.2.2.1.2.2.2.1 | exact (hG W e).2.2.2.2.2.2 | exact (hG W e).2.2.2.2.2.2.1 | exact (hG W e).2.2.2.2.2.2.1.1 | exact (hG W e).2.2.2.2.2.2.1.2 | exact (hG W e).2.2.2.2.2.2.1.2.1 | exact (hG W e).2.2.2.2.2.2.1.2.2.1 | exact (hG W e).2.2.2.2.2.2.1.2.2.2.1 | exact (hG W e).2.2.2.2.2.2.2 | exact (hG W e).2.2.2.2.2.2.2.1 | exact (hG W e).2.2.2.2.2.2.2.1.1 | exact (hG W e).2.2.2.2.2.2.2.1.2 | exact (hG W e).2.2.2.2.2.2.2.1.2.1 | exact (hG W e).2.2.2.2.2.2.2.1.2.2.1 | exact (hG W e).2.2.2.2.2.2.2.1.2.2.2.1 | exact (hG W e).2.2.2.2.2.2.2.2 | exact (hG W e).2.2.2.2.2.2.2.2.1 | exact (hG W e).2.2.2.2.2.2.2.2.1.1 | exact (hG W e).2.2.2.2.2.2.2.2.1.2 | exact (hG W e).2.2.2.2.2.2.2.2.1.2.1 | exact (hG W e).2.2.2.2.2.2.2.2.1.2.2.1 | exact (hG W e).2.2.2.2.2.2.2.2.1.2.2.2.1 | exact (hG W e).2.2.2.2.2.2.2.2.2)) (by omega) hO hS') (fun r => by simp) (.inr fun x q hq => by simp at hq; subst hq; simp) fun z W _ => ?_
    simp (maxSteps := 2000000) -implicitDefEqProofs [hN]
    refine call0 ok rfl rfl rfl (fun w I hI hG => sameSta0 w I hI (applyL j.s []) k.s z.1 z.2 k.si k.sb (fun W e => ⟨(hG W e).1, (by first | exact (hG W e) | exact (hG W e).1 | exact (hG W e).1.1 | exact (hG W e).1.2 | exact (hG W e).1.2.1 | exact (hG W e).1.2.2.1 | exact (hG W e).1.2.2.2.1 | exact (hG W e).2 | exact (hG W e).2.1 | exact (hG W e).2.1.1 | exact (hG W e).2.1.2 | exact (hG W e).2.1.2.1 | exact (hG W e).2.1.2.2.1 | exact (hG W e).2.1.2.2.2.1 | exact (hG W e).2.2 | exact (hG W e).2.2.1 | exact (hG W e).2.2.1.1 | exact (hG W e).2.2.1.2 | exact (hG W e).2.2.1.2.1 | exact (hG W e).2.2.1.2.2.1 | exact (hG W e).2.2.1.2.2.2.1 | exact (hG W e).2.2.2 | exact (hG W e).2.2.2.1 | exact (hG W e).2.2.2.1.1 | exact (hG W e).2.2.2.1.2 | exact (hG W e).2.2.2.1.2.1 | exact (hG W e).2.2.2.1.2.2.1 | exact (hG W e).2.2.2.1.2.2.2.1 | exact (hG W e).2.2.2.2 | exact (hG W e).2.2.2.2.1 | exact (hG W e).2.2.2.2.1.1 | exact (hG W e).2.2.2.2.1.2 | exact (hG W e).2.2.2.2.1.2.1 | exact (hG W e).2.2.2.2.1.2.2.1 | exact (hG W e).2.2.2.2.1.2.2.2.1 | exact (hG W e).2.2.2.2.2 | exact (hG W e).2.2.2.2.2.1 | exact (hG W e).2.2.2.2.2.1.1 | exact (hG W e).2.2.2.2.2.1.2 | exact (hG W e).2.2.2.2.2.1.2.1 | exact (hG W e).2.2.2.2.2.1.2.2.1 | exact (hG W e).2.2.2.2.2.1.2.2.2.1 | exact (hG W e).2.2.2.2.2.2 | exact (hG W e).2.2.2.2.2.2.1 | exact (hG W e).2.2.2.2.2.2.1.1 | exact (hG W e).2.2.2.2.2.2.1.2 | exact (hG W e).2.2.2.2.2.2.1.2.1 | exact (hG W e).2.2.2.2.2.2.1.2.2.1 | exact (hG W e).2.2.2.2.2.2.1.2.2.2.1 | exact (hG W e).2.2.2.2.2.2.2 | exact (hG W e).2.2.2.2.2.2.2.1 | exact (hG W e).2.2.2.2.2.2.2.1.1 | exact (hG W e).2.2.2.2.2.2.2.1.2 | exact (hG W e).2.2.2.2.2.2.2.1.2.1 | exact (hG W e).2.2.2.2.2.2.2.1.2.2.1 | exact (hG W e).2.2.2.2.2.2.2.1.2.2.2.1 | exact (hG W e).2.2.2.2.2.2.2.2 | exact (hG W e).2.2.2.2.2.2.2.2.1 | exact (hG W e).2.2.2.2.2.2.2.2.1.1 | exact (hG W e).2.2.2.2.2.2.2.2.1.2 | exact (hG W e).2.2.2.2.2.2.2.2.1.2.1 | exact (hG W e).2.2.2.2.2.2.2.2.1.2.2.1 | exact (hG W e).2.2.2.2.2.2.2.2.1.2.2.2.1 | exact (hG W e).2.2.2.2.2.2.2.2.2)⟩)) fun _ W _ => ?_
    rw [tB_true (show applyL j.s [] = k.s from hjk.s.symm)]
    simp (maxSteps := 2000000) -implicitDefEqProofs [hN]
    refine callS ok rfl rfl rfl [1014] [j.box] (by simp) rfl (fun _ : Unit => [(1014, j.box)]) (fun w I S hI hG hO hS' => epoch0 w I S hI j hO hS') (fun r => by simp) (.inr fun x q hq => by simp at hq; subst hq; simp) fun _ W _ => ?_
    simp (maxSteps := 2000000) -implicitDefEqProofs [hN, hjk.ep]
    refine callS ok rfl rfl rfl [1014] [j.box] (by simp) rfl (fun _ : Unit => [(1014, j.box)]) (fun w I S hI hG hO hS' => half0 w I S hI j hO hS') (fun r => by simp) (.inr fun x q hq => by simp at hq; subst hq; simp) fun _ W _ => ?_
    simp (maxSteps := 2000000) -implicitDefEqProofs [hN, hjk.half]
    exact ret0 hC true rfl fun _ _ _ => rfl
  · simp only [ho, if_false] at hopc hopr
    refine callS ok rfl rfl rfl [1010, 1011, 1012, 1013] c4.res (by simp [Cp.map, mapR]) rfl (fun x : Nat × Sl × Sl => [(1010, (openC c4).chip), (1011, (openC c4).pow), (1012, (openC c4).row), (1013, (openC c4).map)]) (fun w I S hI hG hO hS' => hopc w I S hI hO hS') (fun r => by simp [Cp.map, mapR]) (.inr fun x q hq => by simp at hq; rcases hq with rfl | rfl | rfl | rfl <;> simp) fun xj W hxj => ?_
    simp [hN]
    refine callS ok rfl rfl rfl [1000, 1001, 1002, 1003] (r0.wi d3).res (by simp) rfl (fun y : (Nat × Sl × Sl) × List Int => [(1000, (Rc.mk (openC d3) r0.gk r0.kc y.2).chip), (1001, (Rc.mk (openC d3) r0.gk r0.kc y.2).pow), (1002, (Rc.mk (openC d3) r0.gk r0.kc y.2).row), (1003, (Rc.mk (openC d3) r0.gk r0.kc y.2).cnt)]) (fun w I S hI hG hO hS' => hopr w I S hI hO hS') (fun r => by simp) (.inr fun x q hq => by simp at hq; rcases hq with rfl | rfl | rfl | rfl <;> simp) fun yk W hyk => ?_
    simp [hN]
    refine call0 ok rfl rfl rfl (fun w I hI hG => openNil0 w I hI) fun _ W _ => ?_
    simp [hN]
    refine call0 ok rfl rfl rfl (fun w I hI hG => formatNil0 w I hI) fun _ W _ => ?_
    simp [hN]
    refine call0 ok rfl rfl rfl (fun w I hI hG => commitNil0 w I hI) fun _ W _ => ?_
    simp [hN]
    refine call0 ok rfl rfl rfl (fun w I hI hG => epochNil0 w I hI) fun _ W _ => ?_
    simp [hN]
    refine call0 ok rfl rfl rfl (fun w I hI hG => halfNil0 w I hI) fun _ W _ => ?_
    simp [hN]
    refine call0 ok rfl rfl rfl (fun w I hI hG => stateNil0 w I hI) fun _ W _ => ?_
    simp [hN]
    refine call0 ok rfl rfl rfl (fun w I hI hG => sameSta0 w I hI staZ staZ (none, 0) (none, 0) (none, 0) (none, 0) (fun W e => ⟨nilS W, nilS W⟩)) fun _ W _ => ?_
    rw [tB_true rfl]
    simp [hN]
    refine drawK ok mixed (by kernel_rfl) ?_
    simp (maxSteps := 2000000) -implicitDefEqProofs [hN]
    exact ret0 hC true rfl fun _ _ _ => rfl
end Go.Proofs.YtbbaoeidobdblaaGreat.Sx

/- How many bytes deeds of some bulk have. -/
set_option linter.unusedVariables false
set_option linter.unusedSimpArgs false
namespace Go.Proofs.YtbbaoeidobdblaaGreat.Sx
open Go
attribute [local simp ↓] ifb_true' ifb_false'
attribute [local simp] ifb_true ifb_false ifb_eq sx argsT find ev evOp evs evo evBin evInt evStr evNil evNilA ptrA slcA isNoneA asB evLoad look del cellsB evUn evConv kdec fld evFieldA evField evIdxA evIdx evSlc bndL bndH evLen mmi put resV guardV gvL setO tupV cellsOf ones one upd lits nv exitTo SV.val CV.val TI.agg rdyA allR keepB scan simpO gsp isS subs keepT pickT wr memN pubs Res.fact Region.binds bld rest give delL back Res.eqv vi vb num Sv.val undef
theorem dees_raw {ds : List Dee} (h : DeesIn ds) : (deedsB ds).length ≤ 100000000 := by
  have : ∀ l : List Dee, (deedsB l).length ≤ 69 * sumN (l.map fun d => szN d.ino + 1) := by
    intro l
    induction l with
    | nil => exact Nat.zero_le _
    | cons e r ih =>
      have h1 : (deedB e).length ≤ 69 * (szN e.ino + 1) := by
        by_cases k1 : e.kind = 1 ∨ e.kind = 3 ∨ e.kind = 4
        · have := num_len e.kind e.no e.ino k1
          have e2 : (⟨e.kind, e.no, e.ino⟩ : Dee) = e := rfl
          rw [e2] at this
          omega
        · by_cases k2 : e.kind = 2
          · rw [put_len k2]
            have := wI_sz e.ino
            omega
          · have ht : tailB e = [] := by unfold tailB; rw [if_neg k1, if_neg k2]
            rw [deedB, List.length_append, lowB_length, ht]
            simp
            omega
      rw [deeds_len] at ih ⊢
      simp only [List.map_cons, sumN_cons]
      omega
  have := this ds
  have := h.size
  omega
end Go.Proofs.YtbbaoeidobdblaaGreat.Sx

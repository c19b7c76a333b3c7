/- Laid together: Sg11, Sg12, Sg13, Sg14. -/
import Derived.Test.YtbbaoeidobdblaaBA4
/- Inside of the reference: it ends. -/
set_option linter.unusedVariables false
set_option linter.unusedSimpArgs false
namespace Go.Proofs.Ytbbaoeidobdblaa.Sx
open Go
attribute [local simp ↓] ifb_true' ifb_false'
attribute [local simp] ifb_true ifb_false ifb_eq sx argsT find ev evOp evs evo evBin evInt evStr evNil evNilA ptrA slcA isNoneA asB evLoad look del cellsB evUn evConv kdec fld evFieldA evField evIdxA evIdx evSlc bndL bndH evLen mmi put resV guardV gvL setO tupV cellsOf ones one upd lits nv exitTo SV.val CV.val TI.agg rdyA allR keepB scan simpO gsp isS subs keepT pickT wr memN pubs Res.fact Region.binds bld rest give delL back Res.eqv vi vb num Sv.val undef
section
variable {P : Program} {C : Ctx} {T : Ty} {res : List ResultVar} {p : Pos} {tm : Tm} {m : Mem}
/-- A function that only reads is called, and reads something of one's own. -/
theorem callR (ok : Okc P T C res) {o : Oper} {fo : Operand} {args : Array Operand} {tys : Array TypeId} (ho : o.op = .call ⟨.value fo, args, tys⟩) {f : FuncId} (hf : ev tm fo = some (.c (.v (.func (.func f) #[] #[])))) {svs : List SV} (ha : evs tm args.toList = some svs) (kr : Nat) {r : Res} (hk : look kr m.rs = some r) {α : Type} {enc : α → Value} {R : α → World → Prop}
    (spec : ∀ w I, (∀ b, I b → b < w.heap.size) → (∀ W, Ext I w W → r.fact W ∧ m.G W) → Fn0 P f (svs.map SV.val).toArray w I enc R)
    (k : ∀ x W, R x W → sx T C res 1000 p (put C.n o.dst (.c (nv (enc x))) tm) m) : At C (.op o p) tm m := by
  obtain rfl := ok.P
  rintro a w cs hR ⟨I, F, hi⟩
  have o1 := hi.own _ (look_mem hk)
  obtain ⟨hc, hs⟩ := spec w (fun b => I b ∨ F kr b) (by
    rintro b (h | h)
    · exact hi.Isz b h
    · exact (hi.Fsz _ b (look_mem hk) h).1) fun W e => ⟨(o1.ext (e.mono fun b hb => .inr hb)).fact, hi.know W (e.mono fun b hb => .inl hb)⟩
  show o.wp C.P a w (Nx C cs p) (QQ C cs p.k)
  have e1 : a.eval fo = .func (.func f) #[] #[] := hR.eval hf
  have e2 : args.map a.eval = (svs.map SV.val).toArray := by apply Array.ext'; simpa using evs_ok hR ha
  have hr : (execOp a.eval o).run C.P w = .ok (.enter f (svs.map SV.val).toArray) w := by
    simp [execOp, ho, resolve, e1, e2, Deferred.ofValue, invoke, callB_run hc]
  unfold Oper.wp
  rw [hr]
  refine Calls.mono hs ?_
  rintro e w' ⟨v, S', rfl, hg, hS1, hS2, hP⟩
  have hgr : Ext (fun b => b < w.heap.size) w w' := hg.mono fun b hb => ⟨hb, fun h => h⟩
  have hRp := hR.put o.dst (.c (nv (enc v)))
  simp only [SV.val, nv_val] at hRp
  refine ok.sx (k v w' (hP w' (Ext.refl _ _))) _ _ _ hRp ⟨fun b => I b ∨ (w.heap.size ≤ b ∧ b < w'.heap.size), F, hi.grow.trans hgr fun b hb => Nat.lt_of_lt_of_le hb.1 hi.grow.size, ?_, fun b hb => .inl (hi.I0 b hb), ?_, ?_, ?_, hi.disj, hi.new, ?_, ?_⟩
  · rintro b (hb | hb)
    · exact Nat.lt_of_lt_of_le (hi.Isz b hb) hgr.size
    · exact hb.2
  · rintro b (hb | hb) hlt
    · exact hi.Iold b hb hlt
    · have := hi.grow.size; omega
  · exact fun q hq => (hi.own q hq).ext (hgr.mono fun b hb => (hi.Fsz q b hq hb).1)
  · intro q b hq hb
    obtain ⟨h1, h2, h3⟩ := hi.Fsz q b hq hb
    refine ⟨Nat.lt_of_lt_of_le h1 hgr.size, ?_, h3⟩
    rintro (h4 | h4)
    · exact h2 h4
    · omega
  · exact fun W e => hi.base W ((hgr.mono hi.Isz).trans e fun b hb => .inl hb)
  · exact fun W e => hi.know W ((hgr.mono hi.Isz).trans e fun b hb => .inl hb)
end
/-- What was seen, and what is still to be seen. -/
structure Qu where
  seen : List Int
  sa : Option Addr
  sc : Nat
  todo : List Int
  b : Nat
  off : Nat
  c : Nat
set_option maxRecDepth 100000 in
set_option maxHeartbeats 4000000 in
theorem inside0 (w : World) (I : Nat → Prop) (hI : ∀ b, I b → b < w.heap.size) (s : Sta) (si sb : Sl) (no dir : Int) (h : ∀ W, Ext I w W → StaR W s si sb) (hl : s.inos.length ≤ 1000000000) (he : ∀ x, x ∈ s.inos → x.ents.length ≤ 100) :
    Fn0 Try.prog 125 #[.agg (staC s si sb).toArray, .int .i64 no, .int .i64 dir] w I (fun b : Bool => .bool b) (fun _ _ => True) := by
  refine enter (svs := [.ag ((staC s si sb).map .v), .c (.v (.int .i64 no)), .c (.v (.int .i64 dir))]) tysOk Try.func125 rfl Try.ntmps125 Try.results125 (by kernel_rfl) (by simp) hI (fun W => StaR W s si sb) h fun C hC hN ok => ?_
  obtain ⟨ia, ic⟩ := si
  obtain ⟨ba, bc⟩ := sb
  simp [hN]
  intro g3 g16
  refine nilr 607 3 1 (tagA 7 (.c (.rw 607 none 0 0)) rfl rfl (quOf 16 (l := [dir]) rfl (tagA 8 (.c (.v (.slice (some ⟨g16, 0, none⟩) 1 1))) rfl rfl ?_)))
  refine loopK [1, 3] ok (fun y : Qu => [(7, .c (.rw 607 y.sa y.seen.length y.sc)), (8, .c (.v (.slice (some ⟨y.b, y.off, none⟩) y.todo.length y.c)))]) (fun y => [(607, .row y.sa y.seen.length y.sc 3 1 (iC y.seen)), (16, quR 3 y.b y.off y.todo.length y.c y.todo), (3, .box g3 47 ((staC s (ia, ic) (ba, bc)).map .v))]) (fun y W => y.seen.length ≤ 201 ∧ y.todo.length ≤ 1 + y.seen.length * 100 ∧ y.todo.length ≤ y.c) (fun y => (202 - y.seen.length) * 102 + y.todo.length) ⟨[], none, 0, [dir], g16, 0, 1⟩ ?_ ?_ (fun W hW => by simp) ?_
  · simp
  · simp [iC]
  rintro ⟨seen, sa, sc, todo, qb, qo, qc⟩ W ⟨h1, h2, h4⟩ hG next
  simp only at h1 h2 h4
  cases todo with
  | nil =>
    simp (maxSteps := 2000000) -implicitDefEqProofs [hN]
    exact ret0 hC false rfl fun _ _ _ => trivial
  | cons d r =>
    have hpos : (0 : Int) < (r.length : Nat) + 1 := by omega
    by_cases h3 : seen.length ≤ 200
    · have h3I : (seen.length : Int) ≤ 200 := by omega
      simp (maxSteps := 2000000) -implicitDefEqProofs [hN, hpos, h3I]
      refine quLd ok 16 rfl rfl rfl rfl rfl ?_
      have hT : (r.length : Int) + 1 ≤ (qc : Nat) := by simp at h4; omega
      simp (maxSteps := 2000000) -implicitDefEqProofs [hN, hpos, h3I, hT]
      refine ⟨by omega, fun hdn => ret0 hC true rfl fun _ _ _ => trivial, fun hdn => ?_⟩
      refine quTail 16 rfl (tagA 8 (.c (.v (.slice (some ⟨qb, if qc = 1 then qo else qo + 1, none⟩) r.length (qc - 1)))) rfl (by simp only [SV.val, CV.val]; split <;> rfl) ?_)
      generalize hqo2 : (if qc = 1 then qo else qo + 1) = qo2
      refine callR ok rfl rfl rfl 607 rfl (fun w I hI hG => in0 w I hI seen d (fun W e => ⟨rfl, ints_sl (by simpa [iC_val] using (hG W e).1) (by omega)⟩)) fun y W _ => ?_
      cases y with
      | true =>
        simp (maxSteps := 2000000) -implicitDefEqProofs [hN]
        refine next ⟨seen, sa, sc, r, qb, qo2, qc - 1⟩ _ _ (by simp) (fun W hW => ⟨⟨h1, by simp at h2 ⊢; omega, by simp at h4 ⊢; omega⟩, hW.2⟩) ?_
        simp
      | false =>
        simp (maxSteps := 2000000) -implicitDefEqProofs [hN]
        intro g38
        refine appR ok 607 38 rfl rfl rfl rfl rfl (by decide) rfl rfl rfl rfl rfl rfl rfl (by decide) (by simp) (by show (seen.length + 1) * 8 ≤ _; omega) (by omega) fun g' c' => ?_
        simp (maxSteps := 2000000) -implicitDefEqProofs [hN]
        refine call0 ok rfl rfl rfl (fun w I hI hG => findIno0 w I hI s (ia, ic) (ba, bc) d (fun W e => (hG W e).2) hl) fun y W hx => ?_
        obtain ⟨⟨x, ⟨xa, xc⟩, ⟨ya, yc⟩⟩, has⟩ := y
        have hxe : x.ents.length ≤ 100 := by
          cases has with
          | true => exact he x (hx.2.1 rfl).1
          | false =>
            have := (hx.2.2 rfl).1
            simp only at this
            rw [this]
            exact Nat.zero_le _
        simp (maxSteps := 2000000) -implicitDefEqProofs [hN]
        intro g10
        refine loopK [1, 3, 10] ok (fun y : Nat × List Int × Nat × Nat × Nat => [(12, .c (.v (.int .i64 (y.1 : Nat)))), (7, .c (.rw 607 (some ⟨g', 0, none⟩) (seen.length + 1) c')), (8, .c (.v (.slice (some ⟨y.2.2.1, y.2.2.2.1, none⟩) y.2.1.length y.2.2.2.2)))]) (fun y => [(607, .row (some ⟨g', 0, none⟩) (seen.length + 1) c' 3 1 (iC (seen ++ [d]))), (16, quR 3 y.2.2.1 y.2.2.2.1 y.2.1.length y.2.2.2.2 y.2.1), (3, .box g3 47 ((staC s (ia, ic) (ba, bc)).map .v)), (10, .box g10 39 ((inoC x (xa, xc) (ya, yc)).map .v))]) (fun y W => y.1 ≤ x.ents.length ∧ y.2.1.length ≤ r.length + y.1 ∧ y.2.1.length ≤ y.2.2.2.2) (fun y => x.ents.length - y.1) (0, r, qb, qo2, qc - 1) ?_ ?_ (fun W hW => by simp at h4 ⊢; omega) ?_
        · simp
        · simp [iC]
        rintro ⟨i, todo, qb2, qo3, qc2⟩ W2 ⟨j1, j2, j3⟩ hG2 next2
        simp only at j1 j2 j3
        have hix : ∀ W, InoR W x (xa, xc) (ya, yc) → Sv.ok dEnt W (xa, x.ents.length, xc) x.ents := fun W hW => ⟨rfl, hW.1⟩
        by_cases hgo : i < x.ents.length ∧ x.kind = 2
        · obtain ⟨hlt, hk⟩ := hgo
          obtain ⟨eb, eo, e0, _⟩ := ent_get (hix W2 (by first | exact (hG2) | exact (hG2).1 | exact (hG2).1.1 | exact (hG2).1.2 | exact (hG2).1.2.1 | exact (hG2).1.2.2.1 | exact (hG2).1.2.2.2.1 | exact (hG2).1.2.2.2 | exact (hG2).2 | exact (hG2).2.1 | exact (hG2).2.1.1 | exact (hG2).2.1.2 | exact (hG2).2.1.2.1 | exact (hG2).2.1.2.2.1 | exact (hG2).2.1.2.2.2.1 | exact (hG2).2.1.2.2.2 | exact (hG2).2.2 | exact (hG2).2.2.1 | exact (hG2).2.2.1.1 | exact (hG2).2.2.1.2 | exact (hG2).2.2.1.2.1 | exact (hG2).2.2.1.2.2.1 | exact (hG2).2.2.1.2.2.2.1 | exact (hG2).2.2.1.2.2.2 | exact (hG2).2.2.2 | exact (hG2).2.2.2.1 | exact (hG2).2.2.2.1.1 | exact (hG2).2.2.2.1.2 | exact (hG2).2.2.2.1.2.1 | exact (hG2).2.2.2.1.2.2.1 | exact (hG2).2.2.2.1.2.2.2.1 | exact (hG2).2.2.2.1.2.2.2 | exact (hG2).2.2.2.2 | exact (hG2).2.2.2.2.1 | exact (hG2).2.2.2.2.1.1 | exact (hG2).2.2.2.2.1.2 | exact (hG2).2.2.2.2.1.2.1 | exact (hG2).2.2.2.2.1.2.2.1 | exact (hG2).2.2.2.2.1.2.2.2.1 | exact (hG2).2.2.2.2.1.2.2.2 | exact (hG2).2.2.2.2.2 | exact (hG2).2.2.2.2.2.1 | exact (hG2).2.2.2.2.2.1.1 | exact (hG2).2.2.2.2.2.1.2 | exact (hG2).2.2.2.2.2.1.2.1 | exact (hG2).2.2.2.2.2.1.2.2.1 | exact (hG2).2.2.2.2.2.1.2.2.2.1 | exact (hG2).2.2.2.2.2.1.2.2.2 | exact (hG2).2.2.2.2.2.2 | exact (hG2).2.2.2.2.2.2.1 | exact (hG2).2.2.2.2.2.2.1.1 | exact (hG2).2.2.2.2.2.2.1.2 | exact (hG2).2.2.2.2.2.2.1.2.1 | exact (hG2).2.2.2.2.2.2.1.2.2.1 | exact (hG2).2.2.2.2.2.2.1.2.2.2.1 | exact (hG2).2.2.2.2.2.2.1.2.2.2 | exact (hG2).2.2.2.2.2.2.2 | exact (hG2).2.2.2.2.2.2.2.1 | exact (hG2).2.2.2.2.2.2.2.1.1 | exact (hG2).2.2.2.2.2.2.2.1.2 | exact (hG2).2.2.2.2.2.2.2.1.2.1 | exact (hG2).2.2.2.2.2.2.2.1.2.2.1 | exact (hG2).2.2.2.2.2.2.2.1.2.2.2.1 | exact (hG2).2.2.2.2.2.2.2.1.2.2.2 | exact (hG2).2.2.2.2.2.2.2.2 | exact (hG2).2.2.2.2.2.2.2.2.1 | exact (hG2).2.2.2.2.2.2.2.2.1.1 | exact (hG2).2.2.2.2.2.2.2.2.1.2 | exact (hG2).2.2.2.2.2.2.2.2.1.2.1 | exact (hG2).2.2.2.2.2.2.2.2.1.2.2.1 | exact (hG2).2.2.2.2.2.2.2.2.1.2.2.2.1 | exact (hG2).2.2.2.2.2.2.2.2.1.2.2.2 | exact (hG2).2.2.2.2.2.2.2.2.2)) hlt
          cases e0
          have hltI : (i : Int) < (x.ents.length : Nat) := by omega
          have e6 : IntKind.i64.wrap ((i : Int) + 1) = (i + 1 : Nat) := by rw [w64 (by omega) (by omega)]; omega
          simp (maxSteps := 2000000) -implicitDefEqProofs [hN, hk, hlt, hltI]
          refine drawK ok mixed (by kernel_rfl) ?_
          simp (maxSteps := 2000000) -implicitDefEqProofs [hN, hk, hlt, hltI]
          obtain ⟨no2, hno2⟩ : ∃ v, v = x.ents[i].no := ⟨_, rfl⟩
          refine ⟨?o1, fun g13 => ?o3⟩
          case' o1 =>
            refine load1 ok rfl rfl rfl rfl (fun v W => v = .int .i64 no2) (fun W hW => ?_) ?_
            · obtain ⟨b', o', e, _, hc⟩ := ent_get (hix W (by first | exact (hW) | exact (hW).1 | exact (hW).1.1 | exact (hW).1.2 | exact (hW).1.2.1 | exact (hW).1.2.2.1 | exact (hW).1.2.2.2.1 | exact (hW).1.2.2.2 | exact (hW).2 | exact (hW).2.1 | exact (hW).2.1.1 | exact (hW).2.1.2 | exact (hW).2.1.2.1 | exact (hW).2.1.2.2.1 | exact (hW).2.1.2.2.2.1 | exact (hW).2.1.2.2.2 | exact (hW).2.2 | exact (hW).2.2.1 | exact (hW).2.2.1.1 | exact (hW).2.2.1.2 | exact (hW).2.2.1.2.1 | exact (hW).2.2.1.2.2.1 | exact (hW).2.2.1.2.2.2.1 | exact (hW).2.2.1.2.2.2 | exact (hW).2.2.2 | exact (hW).2.2.2.1 | exact (hW).2.2.2.1.1 | exact (hW).2.2.2.1.2 | exact (hW).2.2.2.1.2.1 | exact (hW).2.2.2.1.2.2.1 | exact (hW).2.2.2.1.2.2.2.1 | exact (hW).2.2.2.1.2.2.2 | exact (hW).2.2.2.2 | exact (hW).2.2.2.2.1 | exact (hW).2.2.2.2.1.1 | exact (hW).2.2.2.2.1.2 | exact (hW).2.2.2.2.1.2.1 | exact (hW).2.2.2.2.1.2.2.1 | exact (hW).2.2.2.2.1.2.2.2.1 | exact (hW).2.2.2.2.1.2.2.2 | exact (hW).2.2.2.2.2 | exact (hW).2.2.2.2.2.1 | exact (hW).2.2.2.2.2.1.1 | exact (hW).2.2.2.2.2.1.2 | exact (hW).2.2.2.2.2.1.2.1 | exact (hW).2.2.2.2.2.1.2.2.1 | exact (hW).2.2.2.2.2.1.2.2.2.1 | exact (hW).2.2.2.2.2.1.2.2.2 | exact (hW).2.2.2.2.2.2 | exact (hW).2.2.2.2.2.2.1 | exact (hW).2.2.2.2.2.2.1.1 | exact (hW).2.2.2.2.2.2.1.2 | exact (hW).2.2.2.2.2.2.1.2.1 | exact (hW).2.2.2.2.2.2.1.2.2.1 | exact (hW).2.2.2.2.2.2.1.2.2.2.1 | exact (hW).2.2.2.2.2.2.1.2.2.2 | exact (hW).2.2.2.2.2.2.2 | exact (hW).2.2.2.2.2.2.2.1 | exact (hW).2.2.2.2.2.2.2.1.1 | exact (hW).2.2.2.2.2.2.2.1.2 | exact (hW).2.2.2.2.2.2.2.1.2.1 | exact (hW).2.2.2.2.2.2.2.1.2.2.1 | exact (hW).2.2.2.2.2.2.2.1.2.2.2.1 | exact (hW).2.2.2.2.2.2.2.1.2.2.2 | exact (hW).2.2.2.2.2.2.2.2 | exact (hW).2.2.2.2.2.2.2.2.1 | exact (hW).2.2.2.2.2.2.2.2.1.1 | exact (hW).2.2.2.2.2.2.2.2.1.2 | exact (hW).2.2.2.2.2.2.2.2.1.2.1 | exact (hW).2.2.2.2.2.2.2.2.1.2.2.1 | exact (hW).2.2.2.2.2.2.2.2.1.2.2.2.1 | exact (hW).2.2.2.2.2.2.2.2.1.2.2.2 | exact (hW).2.2.2.2.2.2.2.2.2)) hlt
              cases e
              exact ⟨_, hc, by rw [hno2]⟩
            rintro v W rfl _
            simp (maxSteps := 2000000) -implicitDefEqProofs [hN, hk, hlt, hltI]
            refine ⟨?p1, fun g13 => ?p2⟩
          case' o3 =>
            refine load1 ok rfl rfl rfl rfl (fun v W => v = .int .i64 no2) (fun W hW => ?_) ?_
            · obtain ⟨b', o', e, _, hc⟩ := ent_get (hix W (by first | exact (hW) | exact (hW).1 | exact (hW).1.1 | exact (hW).1.2 | exact (hW).1.2.1 | exact (hW).1.2.2.1 | exact (hW).1.2.2.2.1 | exact (hW).1.2.2.2 | exact (hW).2 | exact (hW).2.1 | exact (hW).2.1.1 | exact (hW).2.1.2 | exact (hW).2.1.2.1 | exact (hW).2.1.2.2.1 | exact (hW).2.1.2.2.2.1 | exact (hW).2.1.2.2.2 | exact (hW).2.2 | exact (hW).2.2.1 | exact (hW).2.2.1.1 | exact (hW).2.2.1.2 | exact (hW).2.2.1.2.1 | exact (hW).2.2.1.2.2.1 | exact (hW).2.2.1.2.2.2.1 | exact (hW).2.2.1.2.2.2 | exact (hW).2.2.2 | exact (hW).2.2.2.1 | exact (hW).2.2.2.1.1 | exact (hW).2.2.2.1.2 | exact (hW).2.2.2.1.2.1 | exact (hW).2.2.2.1.2.2.1 | exact (hW).2.2.2.1.2.2.2.1 | exact (hW).2.2.2.1.2.2.2 | exact (hW).2.2.2.2 | exact (hW).2.2.2.2.1 | exact (hW).2.2.2.2.1.1 | exact (hW).2.2.2.2.1.2 | exact (hW).2.2.2.2.1.2.1 | exact (hW).2.2.2.2.1.2.2.1 | exact (hW).2.2.2.2.1.2.2.2.1 | exact (hW).2.2.2.2.1.2.2.2 | exact (hW).2.2.2.2.2 | exact (hW).2.2.2.2.2.1 | exact (hW).2.2.2.2.2.1.1 | exact (hW).2.2.2.2.2.1.2 | exact (hW).2.2.2.2.2.1.2.1 | exact (hW).2.2.2.2.2.1.2.2.1 | exact (hW).2.2.2.2.2.1.2.2.2.1 | exact (hW).2.2.2.2.2.1.2.2.2 | exact (hW).2.2.2.2.2.2 | exact (hW).2.2.2.2.2.2.1 | exact (hW).2.2.2.2.2.2.1.1 | exact (hW).2.2.2.2.2.2.1.2 | exact (hW).2.2.2.2.2.2.1.2.1 | exact (hW).2.2.2.2.2.2.1.2.2.1 | exact (hW).2.2.2.2.2.2.1.2.2.2.1 | exact (hW).2.2.2.2.2.2.1.2.2.2 | exact (hW).2.2.2.2.2.2.2 | exact (hW).2.2.2.2.2.2.2.1 | exact (hW).2.2.2.2.2.2.2.1.1 | exact (hW).2.2.2.2.2.2.2.1.2 | exact (hW).2.2.2.2.2.2.2.1.2.1 | exact (hW).2.2.2.2.2.2.2.1.2.2.1 | exact (hW).2.2.2.2.2.2.2.1.2.2.2.1 | exact (hW).2.2.2.2.2.2.2.1.2.2.2 | exact (hW).2.2.2.2.2.2.2.2 | exact (hW).2.2.2.2.2.2.2.2.1 | exact (hW).2.2.2.2.2.2.2.2.1.1 | exact (hW).2.2.2.2.2.2.2.2.1.2 | exact (hW).2.2.2.2.2.2.2.2.1.2.1 | exact (hW).2.2.2.2.2.2.2.2.1.2.2.1 | exact (hW).2.2.2.2.2.2.2.2.1.2.2.2.1 | exact (hW).2.2.2.2.2.2.2.2.1.2.2.2 | exact (hW).2.2.2.2.2.2.2.2.2)) hlt
              cases e
              exact ⟨_, hc, by rw [hno2]⟩
            rintro v W rfl _
            simp (maxSteps := 2000000) -implicitDefEqProofs [hN, hk, hlt, hltI]
          case p1 =>
            refine call0 ok rfl rfl rfl (fun w I hI hG => findIno0 w I hI s (ia, ic) (ba, bc) no2 (fun W e => ((by first | exact (hG W e) | exact (hG W e).1 | exact (hG W e).1.1 | exact (hG W e).1.2 | exact (hG W e).1.2.1 | exact (hG W e).1.2.2.1 | exact (hG W e).1.2.2.2.1 | exact (hG W e).1.2.2.2 | exact (hG W e).2 | exact (hG W e).2.1 | exact (hG W e).2.1.1 | exact (hG W e).2.1.2 | exact (hG W e).2.1.2.1 | exact (hG W e).2.1.2.2.1 | exact (hG W e).2.1.2.2.2.1 | exact (hG W e).2.1.2.2.2 | exact (hG W e).2.2 | exact (hG W e).2.2.1 | exact (hG W e).2.2.1.1 | exact (hG W e).2.2.1.2 | exact (hG W e).2.2.1.2.1 | exact (hG W e).2.2.1.2.2.1 | exact (hG W e).2.2.1.2.2.2.1 | exact (hG W e).2.2.1.2.2.2 | exact (hG W e).2.2.2 | exact (hG W e).2.2.2.1 | exact (hG W e).2.2.2.1.1 | exact (hG W e).2.2.2.1.2 | exact (hG W e).2.2.2.1.2.1 | exact (hG W e).2.2.2.1.2.2.1 | exact (hG W e).2.2.2.1.2.2.2.1 | exact (hG W e).2.2.2.1.2.2.2 | exact (hG W e).2.2.2.2 | exact (hG W e).2.2.2.2.1 | exact (hG W e).2.2.2.2.1.1 | exact (hG W e).2.2.2.2.1.2 | exact (hG W e).2.2.2.2.1.2.1 | exact (hG W e).2.2.2.2.1.2.2.1 | exact (hG W e).2.2.2.2.1.2.2.2.1 | exact (hG W e).2.2.2.2.1.2.2.2 | exact (hG W e).2.2.2.2.2 | exact (hG W e).2.2.2.2.2.1 | exact (hG W e).2.2.2.2.2.1.1 | exact (hG W e).2.2.2.2.2.1.2 | exact (hG W e).2.2.2.2.2.1.2.1 | exact (hG W e).2.2.2.2.2.1.2.2.1 | exact (hG W e).2.2.2.2.2.1.2.2.2.1 | exact (hG W e).2.2.2.2.2.1.2.2.2 | exact (hG W e).2.2.2.2.2.2 | exact (hG W e).2.2.2.2.2.2.1 | exact (hG W e).2.2.2.2.2.2.1.1 | exact (hG W e).2.2.2.2.2.2.1.2 | exact (hG W e).2.2.2.2.2.2.1.2.1 | exact (hG W e).2.2.2.2.2.2.1.2.2.1 | exact (hG W e).2.2.2.2.2.2.1.2.2.2.1 | exact (hG W e).2.2.2.2.2.2.1.2.2.2 | exact (hG W e).2.2.2.2.2.2.2 | exact (hG W e).2.2.2.2.2.2.2.1 | exact (hG W e).2.2.2.2.2.2.2.1.1 | exact (hG W e).2.2.2.2.2.2.2.1.2 | exact (hG W e).2.2.2.2.2.2.2.1.2.1 | exact (hG W e).2.2.2.2.2.2.2.1.2.2.1 | exact (hG W e).2.2.2.2.2.2.2.1.2.2.2.1 | exact (hG W e).2.2.2.2.2.2.2.1.2.2.2 | exact (hG W e).2.2.2.2.2.2.2.2 | exact (hG W e).2.2.2.2.2.2.2.2.1 | exact (hG W e).2.2.2.2.2.2.2.2.1.1 | exact (hG W e).2.2.2.2.2.2.2.2.1.2 | exact (hG W e).2.2.2.2.2.2.2.2.1.2.1 | exact (hG W e).2.2.2.2.2.2.2.2.1.2.2.1 | exact (hG W e).2.2.2.2.2.2.2.2.1.2.2.2.1 | exact (hG W e).2.2.2.2.2.2.2.2.1.2.2.2 | exact (hG W e).2.2.2.2.2.2.2.2.2) : StaR W s (ia, ic) (ba, bc))) hl) fun y W hy => ?_
            obtain ⟨⟨y, ⟨za, zc⟩, ⟨ta, tc⟩⟩, there⟩ := y
            by_cases hin : there = true ∧ y.kind = 2
            · obtain ⟨rfl, hk2⟩ := hin
              simp (maxSteps := 2000000) -implicitDefEqProofs [hN, hk, hk2]
              intro g13 g78
              refine quApp ok 16 78 rfl rfl rfl rfl rfl rfl rfl rfl rfl rfl rfl rfl rfl (by show (todo.length + 1) * 8 ≤ _; omega) (by omega) fun b' o' c'' hcc => ?_
              simp (maxSteps := 2000000) -implicitDefEqProofs [hN, hk, hk2, e6]
              refine next2 (i + 1, todo ++ [y.no], b', o', c'') _ _ (by simp only; omega) (fun W hW => ⟨⟨by simp only; omega, by simp; omega, by simpa using hcc⟩, (by first | exact (hW) | exact (hW).1 | exact (hW).1.1 | exact (hW).1.2 | exact (hW).1.2.1 | exact (hW).1.2.2.1 | exact (hW).1.2.2.2.1 | exact (hW).1.2.2.2 | exact (hW).2 | exact (hW).2.1 | exact (hW).2.1.1 | exact (hW).2.1.2 | exact (hW).2.1.2.1 | exact (hW).2.1.2.2.1 | exact (hW).2.1.2.2.2.1 | exact (hW).2.1.2.2.2 | exact (hW).2.2 | exact (hW).2.2.1 | exact (hW).2.2.1.1 | exact (hW).2.2.1.2 | exact (hW).2.2.1.2.1 | exact (hW).2.2.1.2.2.1 | exact (hW).2.2.1.2.2.2.1 | exact (hW).2.2.1.2.2.2 | exact (hW).2.2.2 | exact (hW).2.2.2.1 | exact (hW).2.2.2.1.1 | exact (hW).2.2.2.1.2 | exact (hW).2.2.2.1.2.1 | exact (hW).2.2.2.1.2.2.1 | exact (hW).2.2.2.1.2.2.2.1 | exact (hW).2.2.2.1.2.2.2 | exact (hW).2.2.2.2 | exact (hW).2.2.2.2.1 | exact (hW).2.2.2.2.1.1 | exact (hW).2.2.2.2.1.2 | exact (hW).2.2.2.2.1.2.1 | exact (hW).2.2.2.2.1.2.2.1 | exact (hW).2.2.2.2.1.2.2.2.1 | exact (hW).2.2.2.2.1.2.2.2 | exact (hW).2.2.2.2.2 | exact (hW).2.2.2.2.2.1 | exact (hW).2.2.2.2.2.1.1 | exact (hW).2.2.2.2.2.1.2 | exact (hW).2.2.2.2.2.1.2.1 | exact (hW).2.2.2.2.2.1.2.2.1 | exact (hW).2.2.2.2.2.1.2.2.2.1 | exact (hW).2.2.2.2.2.1.2.2.2 | exact (hW).2.2.2.2.2.2 | exact (hW).2.2.2.2.2.2.1 | exact (hW).2.2.2.2.2.2.1.1 | exact (hW).2.2.2.2.2.2.1.2 | exact (hW).2.2.2.2.2.2.1.2.1 | exact (hW).2.2.2.2.2.2.1.2.2.1 | exact (hW).2.2.2.2.2.2.1.2.2.2.1 | exact (hW).2.2.2.2.2.2.1.2.2.2 | exact (hW).2.2.2.2.2.2.2 | exact (hW).2.2.2.2.2.2.2.1 | exact (hW).2.2.2.2.2.2.2.1.1 | exact (hW).2.2.2.2.2.2.2.1.2 | exact (hW).2.2.2.2.2.2.2.1.2.1 | exact (hW).2.2.2.2.2.2.2.1.2.2.1 | exact (hW).2.2.2.2.2.2.2.1.2.2.2.1 | exact (hW).2.2.2.2.2.2.2.1.2.2.2 | exact (hW).2.2.2.2.2.2.2.2 | exact (hW).2.2.2.2.2.2.2.2.1 | exact (hW).2.2.2.2.2.2.2.2.1.1 | exact (hW).2.2.2.2.2.2.2.2.1.2 | exact (hW).2.2.2.2.2.2.2.2.1.2.1 | exact (hW).2.2.2.2.2.2.2.2.1.2.2.1 | exact (hW).2.2.2.2.2.2.2.2.1.2.2.2.1 | exact (hW).2.2.2.2.2.2.2.2.1.2.2.2 | exact (hW).2.2.2.2.2.2.2.2.2)⟩) ?_
              simp [hk]
            · cases there with
              | false =>
                simp (maxSteps := 2000000) -implicitDefEqProofs [hN, hk, e6]
                intro g13
                refine next2 (i + 1, todo, qb2, qo3, qc2) _ _ (by simp only; omega) (fun W hW => ⟨⟨by simp only; omega, by simp only; omega, by simp only; omega⟩, (by first | exact (hW) | exact (hW).1 | exact (hW).1.1 | exact (hW).1.2 | exact (hW).1.2.1 | exact (hW).1.2.2.1 | exact (hW).1.2.2.2.1 | exact (hW).1.2.2.2 | exact (hW).2 | exact (hW).2.1 | exact (hW).2.1.1 | exact (hW).2.1.2 | exact (hW).2.1.2.1 | exact (hW).2.1.2.2.1 | exact (hW).2.1.2.2.2.1 | exact (hW).2.1.2.2.2 | exact (hW).2.2 | exact (hW).2.2.1 | exact (hW).2.2.1.1 | exact (hW).2.2.1.2 | exact (hW).2.2.1.2.1 | exact (hW).2.2.1.2.2.1 | exact (hW).2.2.1.2.2.2.1 | exact (hW).2.2.1.2.2.2 | exact (hW).2.2.2 | exact (hW).2.2.2.1 | exact (hW).2.2.2.1.1 | exact (hW).2.2.2.1.2 | exact (hW).2.2.2.1.2.1 | exact (hW).2.2.2.1.2.2.1 | exact (hW).2.2.2.1.2.2.2.1 | exact (hW).2.2.2.1.2.2.2 | exact (hW).2.2.2.2 | exact (hW).2.2.2.2.1 | exact (hW).2.2.2.2.1.1 | exact (hW).2.2.2.2.1.2 | exact (hW).2.2.2.2.1.2.1 | exact (hW).2.2.2.2.1.2.2.1 | exact (hW).2.2.2.2.1.2.2.2.1 | exact (hW).2.2.2.2.1.2.2.2 | exact (hW).2.2.2.2.2 | exact (hW).2.2.2.2.2.1 | exact (hW).2.2.2.2.2.1.1 | exact (hW).2.2.2.2.2.1.2 | exact (hW).2.2.2.2.2.1.2.1 | exact (hW).2.2.2.2.2.1.2.2.1 | exact (hW).2.2.2.2.2.1.2.2.2.1 | exact (hW).2.2.2.2.2.1.2.2.2 | exact (hW).2.2.2.2.2.2 | exact (hW).2.2.2.2.2.2.1 | exact (hW).2.2.2.2.2.2.1.1 | exact (hW).2.2.2.2.2.2.1.2 | exact (hW).2.2.2.2.2.2.1.2.1 | exact (hW).2.2.2.2.2.2.1.2.2.1 | exact (hW).2.2.2.2.2.2.1.2.2.2.1 | exact (hW).2.2.2.2.2.2.1.2.2.2 | exact (hW).2.2.2.2.2.2.2 | exact (hW).2.2.2.2.2.2.2.1 | exact (hW).2.2.2.2.2.2.2.1.1 | exact (hW).2.2.2.2.2.2.2.1.2 | exact (hW).2.2.2.2.2.2.2.1.2.1 | exact (hW).2.2.2.2.2.2.2.1.2.2.1 | exact (hW).2.2.2.2.2.2.2.1.2.2.2.1 | exact (hW).2.2.2.2.2.2.2.1.2.2.2 | exact (hW).2.2.2.2.2.2.2.2 | exact (hW).2.2.2.2.2.2.2.2.1 | exact (hW).2.2.2.2.2.2.2.2.1.1 | exact (hW).2.2.2.2.2.2.2.2.1.2 | exact (hW).2.2.2.2.2.2.2.2.1.2.1 | exact (hW).2.2.2.2.2.2.2.2.1.2.2.1 | exact (hW).2.2.2.2.2.2.2.2.1.2.2.2.1 | exact (hW).2.2.2.2.2.2.2.2.1.2.2.2 | exact (hW).2.2.2.2.2.2.2.2.2)⟩) ?_
                simp [hk]
              | true =>
                have hk2 : ¬ y.kind = 2 := fun h => hin ⟨rfl, h⟩
                simp (maxSteps := 2000000) -implicitDefEqProofs [hN, hk, hk2, e6]
                intro g13
                refine next2 (i + 1, todo, qb2, qo3, qc2) _ _ (by simp only; omega) (fun W hW => ⟨⟨by simp only; omega, by simp only; omega, by simp only; omega⟩, (by first | exact (hW) | exact (hW).1 | exact (hW).1.1 | exact (hW).1.2 | exact (hW).1.2.1 | exact (hW).1.2.2.1 | exact (hW).1.2.2.2.1 | exact (hW).1.2.2.2 | exact (hW).2 | exact (hW).2.1 | exact (hW).2.1.1 | exact (hW).2.1.2 | exact (hW).2.1.2.1 | exact (hW).2.1.2.2.1 | exact (hW).2.1.2.2.2.1 | exact (hW).2.1.2.2.2 | exact (hW).2.2 | exact (hW).2.2.1 | exact (hW).2.2.1.1 | exact (hW).2.2.1.2 | exact (hW).2.2.1.2.1 | exact (hW).2.2.1.2.2.1 | exact (hW).2.2.1.2.2.2.1 | exact (hW).2.2.1.2.2.2 | exact (hW).2.2.2 | exact (hW).2.2.2.1 | exact (hW).2.2.2.1.1 | exact (hW).2.2.2.1.2 | exact (hW).2.2.2.1.2.1 | exact (hW).2.2.2.1.2.2.1 | exact (hW).2.2.2.1.2.2.2.1 | exact (hW).2.2.2.1.2.2.2 | exact (hW).2.2.2.2 | exact (hW).2.2.2.2.1 | exact (hW).2.2.2.2.1.1 | exact (hW).2.2.2.2.1.2 | exact (hW).2.2.2.2.1.2.1 | exact (hW).2.2.2.2.1.2.2.1 | exact (hW).2.2.2.2.1.2.2.2.1 | exact (hW).2.2.2.2.1.2.2.2 | exact (hW).2.2.2.2.2 | exact (hW).2.2.2.2.2.1 | exact (hW).2.2.2.2.2.1.1 | exact (hW).2.2.2.2.2.1.2 | exact (hW).2.2.2.2.2.1.2.1 | exact (hW).2.2.2.2.2.1.2.2.1 | exact (hW).2.2.2.2.2.1.2.2.2.1 | exact (hW).2.2.2.2.2.1.2.2.2 | exact (hW).2.2.2.2.2.2 | exact (hW).2.2.2.2.2.2.1 | exact (hW).2.2.2.2.2.2.1.1 | exact (hW).2.2.2.2.2.2.1.2 | exact (hW).2.2.2.2.2.2.1.2.1 | exact (hW).2.2.2.2.2.2.1.2.2.1 | exact (hW).2.2.2.2.2.2.1.2.2.2.1 | exact (hW).2.2.2.2.2.2.1.2.2.2 | exact (hW).2.2.2.2.2.2.2 | exact (hW).2.2.2.2.2.2.2.1 | exact (hW).2.2.2.2.2.2.2.1.1 | exact (hW).2.2.2.2.2.2.2.1.2 | exact (hW).2.2.2.2.2.2.2.1.2.1 | exact (hW).2.2.2.2.2.2.2.1.2.2.1 | exact (hW).2.2.2.2.2.2.2.1.2.2.2.1 | exact (hW).2.2.2.2.2.2.2.1.2.2.2 | exact (hW).2.2.2.2.2.2.2.2 | exact (hW).2.2.2.2.2.2.2.2.1 | exact (hW).2.2.2.2.2.2.2.2.1.1 | exact (hW).2.2.2.2.2.2.2.2.1.2 | exact (hW).2.2.2.2.2.2.2.2.1.2.1 | exact (hW).2.2.2.2.2.2.2.2.1.2.2.1 | exact (hW).2.2.2.2.2.2.2.2.1.2.2.2.1 | exact (hW).2.2.2.2.2.2.2.2.1.2.2.2 | exact (hW).2.2.2.2.2.2.2.2.2)⟩) ?_
                simp [hk]
          all_goals
            refine call0 ok rfl rfl rfl (fun w I hI hG => findIno0 w I hI s (ia, ic) (ba, bc) no2 (fun W e => ((by first | exact (hG W e) | exact (hG W e).1 | exact (hG W e).1.1 | exact (hG W e).1.2 | exact (hG W e).1.2.1 | exact (hG W e).1.2.2.1 | exact (hG W e).1.2.2.2.1 | exact (hG W e).1.2.2.2 | exact (hG W e).2 | exact (hG W e).2.1 | exact (hG W e).2.1.1 | exact (hG W e).2.1.2 | exact (hG W e).2.1.2.1 | exact (hG W e).2.1.2.2.1 | exact (hG W e).2.1.2.2.2.1 | exact (hG W e).2.1.2.2.2 | exact (hG W e).2.2 | exact (hG W e).2.2.1 | exact (hG W e).2.2.1.1 | exact (hG W e).2.2.1.2 | exact (hG W e).2.2.1.2.1 | exact (hG W e).2.2.1.2.2.1 | exact (hG W e).2.2.1.2.2.2.1 | exact (hG W e).2.2.1.2.2.2 | exact (hG W e).2.2.2 | exact (hG W e).2.2.2.1 | exact (hG W e).2.2.2.1.1 | exact (hG W e).2.2.2.1.2 | exact (hG W e).2.2.2.1.2.1 | exact (hG W e).2.2.2.1.2.2.1 | exact (hG W e).2.2.2.1.2.2.2.1 | exact (hG W e).2.2.2.1.2.2.2 | exact (hG W e).2.2.2.2 | exact (hG W e).2.2.2.2.1 | exact (hG W e).2.2.2.2.1.1 | exact (hG W e).2.2.2.2.1.2 | exact (hG W e).2.2.2.2.1.2.1 | exact (hG W e).2.2.2.2.1.2.2.1 | exact (hG W e).2.2.2.2.1.2.2.2.1 | exact (hG W e).2.2.2.2.1.2.2.2 | exact (hG W e).2.2.2.2.2 | exact (hG W e).2.2.2.2.2.1 | exact (hG W e).2.2.2.2.2.1.1 | exact (hG W e).2.2.2.2.2.1.2 | exact (hG W e).2.2.2.2.2.1.2.1 | exact (hG W e).2.2.2.2.2.1.2.2.1 | exact (hG W e).2.2.2.2.2.1.2.2.2.1 | exact (hG W e).2.2.2.2.2.1.2.2.2 | exact (hG W e).2.2.2.2.2.2 | exact (hG W e).2.2.2.2.2.2.1 | exact (hG W e).2.2.2.2.2.2.1.1 | exact (hG W e).2.2.2.2.2.2.1.2 | exact (hG W e).2.2.2.2.2.2.1.2.1 | exact (hG W e).2.2.2.2.2.2.1.2.2.1 | exact (hG W e).2.2.2.2.2.2.1.2.2.2.1 | exact (hG W e).2.2.2.2.2.2.1.2.2.2 | exact (hG W e).2.2.2.2.2.2.2 | exact (hG W e).2.2.2.2.2.2.2.1 | exact (hG W e).2.2.2.2.2.2.2.1.1 | exact (hG W e).2.2.2.2.2.2.2.1.2 | exact (hG W e).2.2.2.2.2.2.2.1.2.1 | exact (hG W e).2.2.2.2.2.2.2.1.2.2.1 | exact (hG W e).2.2.2.2.2.2.2.1.2.2.2.1 | exact (hG W e).2.2.2.2.2.2.2.1.2.2.2 | exact (hG W e).2.2.2.2.2.2.2.2 | exact (hG W e).2.2.2.2.2.2.2.2.1 | exact (hG W e).2.2.2.2.2.2.2.2.1.1 | exact (hG W e).2.2.2.2.2.2.2.2.1.2 | exact (hG W e).2.2.2.2.2.2.2.2.1.2.1 | exact (hG W e).2.2.2.2.2.2.2.2.1.2.2.1 | exact (hG W e).2.2.2.2.2.2.2.2.1.2.2.2.1 | exact (hG W e).2.2.2.2.2.2.2.2.1.2.2.2 | exact (hG W e).2.2.2.2.2.2.2.2.2) : StaR W s (ia, ic) (ba, bc))) hl) fun y W hy => ?_
            obtain ⟨⟨y, ⟨za, zc⟩, ⟨ta, tc⟩⟩, there⟩ := y
            by_cases hin : there = true ∧ y.kind = 2
            · obtain ⟨rfl, hk2⟩ := hin
              simp (maxSteps := 2000000) -implicitDefEqProofs [hN, hk, hk2]
              intro g78
              refine quApp ok 16 78 rfl rfl rfl rfl rfl rfl rfl rfl rfl rfl rfl rfl rfl (by show (todo.length + 1) * 8 ≤ _; omega) (by omega) fun b' o' c'' hcc => ?_
              simp (maxSteps := 2000000) -implicitDefEqProofs [hN, hk, hk2, e6]
              refine next2 (i + 1, todo ++ [y.no], b', o', c'') _ _ (by simp only; omega) (fun W hW => ⟨⟨by simp only; omega, by simp; omega, by simpa using hcc⟩, (by first | exact (hW) | exact (hW).1 | exact (hW).1.1 | exact (hW).1.2 | exact (hW).1.2.1 | exact (hW).1.2.2.1 | exact (hW).1.2.2.2.1 | exact (hW).1.2.2.2 | exact (hW).2 | exact (hW).2.1 | exact (hW).2.1.1 | exact (hW).2.1.2 | exact (hW).2.1.2.1 | exact (hW).2.1.2.2.1 | exact (hW).2.1.2.2.2.1 | exact (hW).2.1.2.2.2 | exact (hW).2.2 | exact (hW).2.2.1 | exact (hW).2.2.1.1 | exact (hW).2.2.1.2 | exact (hW).2.2.1.2.1 | exact (hW).2.2.1.2.2.1 | exact (hW).2.2.1.2.2.2.1 | exact (hW).2.2.1.2.2.2 | exact (hW).2.2.2 | exact (hW).2.2.2.1 | exact (hW).2.2.2.1.1 | exact (hW).2.2.2.1.2 | exact (hW).2.2.2.1.2.1 | exact (hW).2.2.2.1.2.2.1 | exact (hW).2.2.2.1.2.2.2.1 | exact (hW).2.2.2.1.2.2.2 | exact (hW).2.2.2.2 | exact (hW).2.2.2.2.1 | exact (hW).2.2.2.2.1.1 | exact (hW).2.2.2.2.1.2 | exact (hW).2.2.2.2.1.2.1 | exact (hW).2.2.2.2.1.2.2.1 | exact (hW).2.2.2.2.1.2.2.2.1 | exact (hW).2.2.2.2.1.2.2.2 | exact (hW).2.2.2.2.2 | exact (hW).2.2.2.2.2.1 | exact (hW).2.2.2.2.2.1.1 | exact (hW).2.2.2.2.2.1.2 | exact (hW).2.2.2.2.2.1.2.1 | exact (hW).2.2.2.2.2.1.2.2.1 | exact (hW).2.2.2.2.2.1.2.2.2.1 | exact (hW).2.2.2.2.2.1.2.2.2 | exact (hW).2.2.2.2.2.2 | exact (hW).2.2.2.2.2.2.1 | exact (hW).2.2.2.2.2.2.1.1 | exact (hW).2.2.2.2.2.2.1.2 | exact (hW).2.2.2.2.2.2.1.2.1 | exact (hW).2.2.2.2.2.2.1.2.2.1 | exact (hW).2.2.2.2.2.2.1.2.2.2.1 | exact (hW).2.2.2.2.2.2.1.2.2.2 | exact (hW).2.2.2.2.2.2.2 | exact (hW).2.2.2.2.2.2.2.1 | exact (hW).2.2.2.2.2.2.2.1.1 | exact (hW).2.2.2.2.2.2.2.1.2 | exact (hW).2.2.2.2.2.2.2.1.2.1 | exact (hW).2.2.2.2.2.2.2.1.2.2.1 | exact (hW).2.2.2.2.2.2.2.1.2.2.2.1 | exact (hW).2.2.2.2.2.2.2.1.2.2.2 | exact (hW).2.2.2.2.2.2.2.2 | exact (hW).2.2.2.2.2.2.2.2.1 | exact (hW).2.2.2.2.2.2.2.2.1.1 | exact (hW).2.2.2.2.2.2.2.2.1.2 | exact (hW).2.2.2.2.2.2.2.2.1.2.1 | exact (hW).2.2.2.2.2.2.2.2.1.2.2.1 | exact (hW).2.2.2.2.2.2.2.2.1.2.2.2.1 | exact (hW).2.2.2.2.2.2.2.2.1.2.2.2 | exact (hW).2.2.2.2.2.2.2.2.2)⟩) ?_
              simp [hk]
            · cases there with
              | false =>
                simp (maxSteps := 2000000) -implicitDefEqProofs [hN, hk, e6]
                refine next2 (i + 1, todo, qb2, qo3, qc2) _ _ (by simp only; omega) (fun W hW => ⟨⟨by simp only; omega, by simp only; omega, by simp only; omega⟩, (by first | exact (hW) | exact (hW).1 | exact (hW).1.1 | exact (hW).1.2 | exact (hW).1.2.1 | exact (hW).1.2.2.1 | exact (hW).1.2.2.2.1 | exact (hW).1.2.2.2 | exact (hW).2 | exact (hW).2.1 | exact (hW).2.1.1 | exact (hW).2.1.2 | exact (hW).2.1.2.1 | exact (hW).2.1.2.2.1 | exact (hW).2.1.2.2.2.1 | exact (hW).2.1.2.2.2 | exact (hW).2.2 | exact (hW).2.2.1 | exact (hW).2.2.1.1 | exact (hW).2.2.1.2 | exact (hW).2.2.1.2.1 | exact (hW).2.2.1.2.2.1 | exact (hW).2.2.1.2.2.2.1 | exact (hW).2.2.1.2.2.2 | exact (hW).2.2.2 | exact (hW).2.2.2.1 | exact (hW).2.2.2.1.1 | exact (hW).2.2.2.1.2 | exact (hW).2.2.2.1.2.1 | exact (hW).2.2.2.1.2.2.1 | exact (hW).2.2.2.1.2.2.2.1 | exact (hW).2.2.2.1.2.2.2 | exact (hW).2.2.2.2 | exact (hW).2.2.2.2.1 | exact (hW).2.2.2.2.1.1 | exact (hW).2.2.2.2.1.2 | exact (hW).2.2.2.2.1.2.1 | exact (hW).2.2.2.2.1.2.2.1 | exact (hW).2.2.2.2.1.2.2.2.1 | exact (hW).2.2.2.2.1.2.2.2 | exact (hW).2.2.2.2.2 | exact (hW).2.2.2.2.2.1 | exact (hW).2.2.2.2.2.1.1 | exact (hW).2.2.2.2.2.1.2 | exact (hW).2.2.2.2.2.1.2.1 | exact (hW).2.2.2.2.2.1.2.2.1 | exact (hW).2.2.2.2.2.1.2.2.2.1 | exact (hW).2.2.2.2.2.1.2.2.2 | exact (hW).2.2.2.2.2.2 | exact (hW).2.2.2.2.2.2.1 | exact (hW).2.2.2.2.2.2.1.1 | exact (hW).2.2.2.2.2.2.1.2 | exact (hW).2.2.2.2.2.2.1.2.1 | exact (hW).2.2.2.2.2.2.1.2.2.1 | exact (hW).2.2.2.2.2.2.1.2.2.2.1 | exact (hW).2.2.2.2.2.2.1.2.2.2 | exact (hW).2.2.2.2.2.2.2 | exact (hW).2.2.2.2.2.2.2.1 | exact (hW).2.2.2.2.2.2.2.1.1 | exact (hW).2.2.2.2.2.2.2.1.2 | exact (hW).2.2.2.2.2.2.2.1.2.1 | exact (hW).2.2.2.2.2.2.2.1.2.2.1 | exact (hW).2.2.2.2.2.2.2.1.2.2.2.1 | exact (hW).2.2.2.2.2.2.2.1.2.2.2 | exact (hW).2.2.2.2.2.2.2.2 | exact (hW).2.2.2.2.2.2.2.2.1 | exact (hW).2.2.2.2.2.2.2.2.1.1 | exact (hW).2.2.2.2.2.2.2.2.1.2 | exact (hW).2.2.2.2.2.2.2.2.1.2.1 | exact (hW).2.2.2.2.2.2.2.2.1.2.2.1 | exact (hW).2.2.2.2.2.2.2.2.1.2.2.2.1 | exact (hW).2.2.2.2.2.2.2.2.1.2.2.2 | exact (hW).2.2.2.2.2.2.2.2.2)⟩) ?_
                simp [hk]
              | true =>
                have hk2 : ¬ y.kind = 2 := fun h => hin ⟨rfl, h⟩
                simp (maxSteps := 2000000) -implicitDefEqProofs [hN, hk, hk2, e6]
                refine next2 (i + 1, todo, qb2, qo3, qc2) _ _ (by simp only; omega) (fun W hW => ⟨⟨by simp only; omega, by simp only; omega, by simp only; omega⟩, (by first | exact (hW) | exact (hW).1 | exact (hW).1.1 | exact (hW).1.2 | exact (hW).1.2.1 | exact (hW).1.2.2.1 | exact (hW).1.2.2.2.1 | exact (hW).1.2.2.2 | exact (hW).2 | exact (hW).2.1 | exact (hW).2.1.1 | exact (hW).2.1.2 | exact (hW).2.1.2.1 | exact (hW).2.1.2.2.1 | exact (hW).2.1.2.2.2.1 | exact (hW).2.1.2.2.2 | exact (hW).2.2 | exact (hW).2.2.1 | exact (hW).2.2.1.1 | exact (hW).2.2.1.2 | exact (hW).2.2.1.2.1 | exact (hW).2.2.1.2.2.1 | exact (hW).2.2.1.2.2.2.1 | exact (hW).2.2.1.2.2.2 | exact (hW).2.2.2 | exact (hW).2.2.2.1 | exact (hW).2.2.2.1.1 | exact (hW).2.2.2.1.2 | exact (hW).2.2.2.1.2.1 | exact (hW).2.2.2.1.2.2.1 | exact (hW).2.2.2.1.2.2.2.1 | exact (hW).2.2.2.1.2.2.2 | exact (hW).2.2.2.2 | exact (hW).2.2.2.2.1 | exact (hW).2.2.2.2.1.1 | exact (hW).2.2.2.2.1.2 | exact (hW).2.2.2.2.1.2.1 | exact (hW).2.2.2.2.1.2.2.1 | exact (hW).2.2.2.2.1.2.2.2.1 | exact (hW).2.2.2.2.1.2.2.2 | exact (hW).2.2.2.2.2 | exact (hW).2.2.2.2.2.1 | exact (hW).2.2.2.2.2.1.1 | exact (hW).2.2.2.2.2.1.2 | exact (hW).2.2.2.2.2.1.2.1 | exact (hW).2.2.2.2.2.1.2.2.1 | exact (hW).2.2.2.2.2.1.2.2.2.1 | exact (hW).2.2.2.2.2.1.2.2.2 | exact (hW).2.2.2.2.2.2 | exact (hW).2.2.2.2.2.2.1 | exact (hW).2.2.2.2.2.2.1.1 | exact (hW).2.2.2.2.2.2.1.2 | exact (hW).2.2.2.2.2.2.1.2.1 | exact (hW).2.2.2.2.2.2.1.2.2.1 | exact (hW).2.2.2.2.2.2.1.2.2.2.1 | exact (hW).2.2.2.2.2.2.1.2.2.2 | exact (hW).2.2.2.2.2.2.2 | exact (hW).2.2.2.2.2.2.2.1 | exact (hW).2.2.2.2.2.2.2.1.1 | exact (hW).2.2.2.2.2.2.2.1.2 | exact (hW).2.2.2.2.2.2.2.1.2.1 | exact (hW).2.2.2.2.2.2.2.1.2.2.1 | exact (hW).2.2.2.2.2.2.2.1.2.2.2.1 | exact (hW).2.2.2.2.2.2.2.1.2.2.2 | exact (hW).2.2.2.2.2.2.2.2 | exact (hW).2.2.2.2.2.2.2.2.1 | exact (hW).2.2.2.2.2.2.2.2.1.1 | exact (hW).2.2.2.2.2.2.2.2.1.2 | exact (hW).2.2.2.2.2.2.2.2.1.2.1 | exact (hW).2.2.2.2.2.2.2.2.1.2.2.1 | exact (hW).2.2.2.2.2.2.2.2.1.2.2.2.1 | exact (hW).2.2.2.2.2.2.2.2.1.2.2.2 | exact (hW).2.2.2.2.2.2.2.2.2)⟩) ?_
                simp [hk]
        · rcases Nat.lt_or_ge i x.ents.length with hlt | hge
          · have hk : ¬ x.kind = 2 := fun h => hgo ⟨hlt, h⟩
            have hltI : (i : Int) < (x.ents.length : Nat) := by omega
            simp (maxSteps := 2000000) -implicitDefEqProofs [hN, hk, hltI]
            refine next ⟨seen ++ [d], some ⟨g', 0, none⟩, c', todo, qb2, qo3, qc2⟩ _ _ (by simp; omega) (fun W hW => ⟨⟨by simp; omega, by simp at h2 ⊢; omega, by simp; omega⟩, (by first | exact (hW) | exact (hW).1 | exact (hW).1.1 | exact (hW).1.2 | exact (hW).1.2.1 | exact (hW).1.2.2.1 | exact (hW).1.2.2.2.1 | exact (hW).1.2.2.2 | exact (hW).2 | exact (hW).2.1 | exact (hW).2.1.1 | exact (hW).2.1.2 | exact (hW).2.1.2.1 | exact (hW).2.1.2.2.1 | exact (hW).2.1.2.2.2.1 | exact (hW).2.1.2.2.2 | exact (hW).2.2 | exact (hW).2.2.1 | exact (hW).2.2.1.1 | exact (hW).2.2.1.2 | exact (hW).2.2.1.2.1 | exact (hW).2.2.1.2.2.1 | exact (hW).2.2.1.2.2.2.1 | exact (hW).2.2.1.2.2.2 | exact (hW).2.2.2 | exact (hW).2.2.2.1 | exact (hW).2.2.2.1.1 | exact (hW).2.2.2.1.2 | exact (hW).2.2.2.1.2.1 | exact (hW).2.2.2.1.2.2.1 | exact (hW).2.2.2.1.2.2.2.1 | exact (hW).2.2.2.1.2.2.2 | exact (hW).2.2.2.2 | exact (hW).2.2.2.2.1 | exact (hW).2.2.2.2.1.1 | exact (hW).2.2.2.2.1.2 | exact (hW).2.2.2.2.1.2.1 | exact (hW).2.2.2.2.1.2.2.1 | exact (hW).2.2.2.2.1.2.2.2.1 | exact (hW).2.2.2.2.1.2.2.2 | exact (hW).2.2.2.2.2 | exact (hW).2.2.2.2.2.1 | exact (hW).2.2.2.2.2.1.1 | exact (hW).2.2.2.2.2.1.2 | exact (hW).2.2.2.2.2.1.2.1 | exact (hW).2.2.2.2.2.1.2.2.1 | exact (hW).2.2.2.2.2.1.2.2.2.1 | exact (hW).2.2.2.2.2.1.2.2.2 | exact (hW).2.2.2.2.2.2 | exact (hW).2.2.2.2.2.2.1 | exact (hW).2.2.2.2.2.2.1.1 | exact (hW).2.2.2.2.2.2.1.2 | exact (hW).2.2.2.2.2.2.1.2.1 | exact (hW).2.2.2.2.2.2.1.2.2.1 | exact (hW).2.2.2.2.2.2.1.2.2.2.1 | exact (hW).2.2.2.2.2.2.1.2.2.2 | exact (hW).2.2.2.2.2.2.2 | exact (hW).2.2.2.2.2.2.2.1 | exact (hW).2.2.2.2.2.2.2.1.1 | exact (hW).2.2.2.2.2.2.2.1.2 | exact (hW).2.2.2.2.2.2.2.1.2.1 | exact (hW).2.2.2.2.2.2.2.1.2.2.1 | exact (hW).2.2.2.2.2.2.2.1.2.2.2.1 | exact (hW).2.2.2.2.2.2.2.1.2.2.2 | exact (hW).2.2.2.2.2.2.2.2 | exact (hW).2.2.2.2.2.2.2.2.1 | exact (hW).2.2.2.2.2.2.2.2.1.1 | exact (hW).2.2.2.2.2.2.2.2.1.2 | exact (hW).2.2.2.2.2.2.2.2.1.2.1 | exact (hW).2.2.2.2.2.2.2.2.1.2.2.1 | exact (hW).2.2.2.2.2.2.2.2.1.2.2.2.1 | exact (hW).2.2.2.2.2.2.2.2.1.2.2.2 | exact (hW).2.2.2.2.2.2.2.2.2)⟩) ?_
            simp
          · have hltI : ¬ (i : Int) < (x.ents.length : Nat) := by omega
            simp (maxSteps := 2000000) -implicitDefEqProofs [hN, hltI]
            refine next ⟨seen ++ [d], some ⟨g', 0, none⟩, c', todo, qb2, qo3, qc2⟩ _ _ (by simp; omega) (fun W hW => ⟨⟨by simp; omega, by simp at h2 ⊢; omega, by simp; omega⟩, (by first | exact (hW) | exact (hW).1 | exact (hW).1.1 | exact (hW).1.2 | exact (hW).1.2.1 | exact (hW).1.2.2.1 | exact (hW).1.2.2.2.1 | exact (hW).1.2.2.2 | exact (hW).2 | exact (hW).2.1 | exact (hW).2.1.1 | exact (hW).2.1.2 | exact (hW).2.1.2.1 | exact (hW).2.1.2.2.1 | exact (hW).2.1.2.2.2.1 | exact (hW).2.1.2.2.2 | exact (hW).2.2 | exact (hW).2.2.1 | exact (hW).2.2.1.1 | exact (hW).2.2.1.2 | exact (hW).2.2.1.2.1 | exact (hW).2.2.1.2.2.1 | exact (hW).2.2.1.2.2.2.1 | exact (hW).2.2.1.2.2.2 | exact (hW).2.2.2 | exact (hW).2.2.2.1 | exact (hW).2.2.2.1.1 | exact (hW).2.2.2.1.2 | exact (hW).2.2.2.1.2.1 | exact (hW).2.2.2.1.2.2.1 | exact (hW).2.2.2.1.2.2.2.1 | exact (hW).2.2.2.1.2.2.2 | exact (hW).2.2.2.2 | exact (hW).2.2.2.2.1 | exact (hW).2.2.2.2.1.1 | exact (hW).2.2.2.2.1.2 | exact (hW).2.2.2.2.1.2.1 | exact (hW).2.2.2.2.1.2.2.1 | exact (hW).2.2.2.2.1.2.2.2.1 | exact (hW).2.2.2.2.1.2.2.2 | exact (hW).2.2.2.2.2 | exact (hW).2.2.2.2.2.1 | exact (hW).2.2.2.2.2.1.1 | exact (hW).2.2.2.2.2.1.2 | exact (hW).2.2.2.2.2.1.2.1 | exact (hW).2.2.2.2.2.1.2.2.1 | exact (hW).2.2.2.2.2.1.2.2.2.1 | exact (hW).2.2.2.2.2.1.2.2.2 | exact (hW).2.2.2.2.2.2 | exact (hW).2.2.2.2.2.2.1 | exact (hW).2.2.2.2.2.2.1.1 | exact (hW).2.2.2.2.2.2.1.2 | exact (hW).2.2.2.2.2.2.1.2.1 | exact (hW).2.2.2.2.2.2.1.2.2.1 | exact (hW).2.2.2.2.2.2.1.2.2.2.1 | exact (hW).2.2.2.2.2.2.1.2.2.2 | exact (hW).2.2.2.2.2.2.2 | exact (hW).2.2.2.2.2.2.2.1 | exact (hW).2.2.2.2.2.2.2.1.1 | exact (hW).2.2.2.2.2.2.2.1.2 | exact (hW).2.2.2.2.2.2.2.1.2.1 | exact (hW).2.2.2.2.2.2.2.1.2.2.1 | exact (hW).2.2.2.2.2.2.2.1.2.2.2.1 | exact (hW).2.2.2.2.2.2.2.1.2.2.2 | exact (hW).2.2.2.2.2.2.2.2 | exact (hW).2.2.2.2.2.2.2.2.1 | exact (hW).2.2.2.2.2.2.2.2.1.1 | exact (hW).2.2.2.2.2.2.2.2.1.2 | exact (hW).2.2.2.2.2.2.2.2.1.2.1 | exact (hW).2.2.2.2.2.2.2.2.1.2.2.1 | exact (hW).2.2.2.2.2.2.2.2.1.2.2.2.1 | exact (hW).2.2.2.2.2.2.2.2.1.2.2.2 | exact (hW).2.2.2.2.2.2.2.2.2)⟩) ?_
            simp
    · have h3I : ¬ (seen.length : Int) ≤ 200 := by omega
      simp (maxSteps := 2000000) -implicitDefEqProofs [hN, hpos, h3I]
      exact ret0 hC false rfl fun _ _ _ => trivial
end Go.Proofs.Ytbbaoeidobdblaa.Sx

/- Make of the reference: deeds that keep a state fine. -/
set_option linter.unusedVariables false
set_option linter.unusedSimpArgs false
namespace Go.Proofs.Ytbbaoeidobdblaa.Sx
open Go
attribute [local simp ↓] ifb_true' ifb_false'
attribute [local simp] ifb_true ifb_false ifb_eq sx argsT find ev evOp evs evo evBin evInt evStr evNil evNilA ptrA slcA isNoneA asB evLoad look del cellsB evUn evConv kdec fld evFieldA evField evIdxA evIdx evSlc bndL bndH evLen mmi put resV guardV gvL setO tupV cellsOf ones one upd lits nv exitTo SV.val CV.val TI.agg rdyA allR keepB scan simpO gsp isS subs keepT pickT wr memN pubs Res.fact Region.binds bld rest give delL back Res.eqv vi vb num Sv.val undef
theorem dees_rowsG {W : World} : ∀ (l : List (Dee × Sl × Sl)), (∀ y, y ∈ l → InoR W y.1.ino y.2.1 y.2.2) → Rows dDee W (l.map fun y => y.1) (l.flatMap fun y => deeC y.1 y.2.1 y.2.2)
  | [], _ => rows_nil _ _
  | y :: r, h => by
    rw [List.map_cons, List.flatMap_cons]
    exact Rows.cons_iff.2 ⟨_, _, rfl, ⟨y.2.1, y.2.2, rfl, h y List.mem_cons_self⟩, dees_rowsG r fun z hz => h z (List.mem_cons_of_mem _ hz)⟩
/-- A row of deeds, once it is given away. -/
theorem dees_sl {W : World} {e : TypeId} {a : Option Addr} {c : Nat} {l : List (Dee × Sl × Sl)} (h : W.ownsRow 0 e 9 (.slice a l.length c) l.length (l.flatMap fun y => deeC y.1 y.2.1 y.2.2)) (hi : ∀ y, y ∈ l → InoR W y.1.ino y.2.1 y.2.2) (hl : l.length ≤ 1000000000) : Sl.ok dDee W (a, c) (l.map fun y => y.1) :=
  ((dees_rowsG l hi).sv (base := 0) (e := e) (by decide) (by simp; omega) h).2
theorem deedsNil (s : Sta) : DeedsOk s [] := ⟨by simp, [], [], rfl, fun d hd => by simp at hd, .inl rfl⟩
set_option maxRecDepth 100000 in
set_option maxHeartbeats 4000000 in
theorem make0 (w : World) (I : Nat → Prop) (hI : ∀ b, I b → b < w.heap.size) (s : Sta) (si sb : Sl) (path : ByteArray) (kind : Int) (target : ByteArray) (h : ∀ W, Ext I w W → StaR W s si sb) (hl : s.inos.length ≤ 1000) (hok : ∀ x, x ∈ s.inos → InoOk x) (htg : target.size ≤ 1000000) :
    Fn0 Try.prog 86 #[.agg (staC s si sb).toArray, .string path, .int .i64 kind, .string target] w I (fun y : Sl × List Dee × Int × Int => .tuple #[.slice y.1.1 y.2.1.length y.1.2, .int .i64 y.2.2.1, .int .i64 y.2.2.2]) (fun y W => Sl.ok dDee W y.1 y.2.1 ∧ DeedsOk s y.2.1) := by
  refine enter (svs := [.ag ((staC s si sb).map .v), .c (.v (.string path)), .c (.v (.int .i64 kind)), .c (.v (.string target))]) tysOk Try.func86 rfl Try.ntmps86 Try.results86 (by kernel_rfl) (by simp) hI (fun W => StaR W s si sb) h fun C hC hN ok => ?_
  obtain ⟨ia, ic⟩ := si
  obtain ⟨ba, bc⟩ := sb
  have nl : ∀ (W : World), Sl.ok dDee W (none, 0) [] ∧ DeedsOk s [] := fun W => ⟨nilSl dDee W, deedsNil s⟩
  by_cases k1 : kind < 1
  · simp [hN, k1]
    intro g4
    exact ret0 hC ((none, 0), [], 0, 1) rfl fun W _ _ => nl W
  by_cases k3 : 3 < kind
  · simp [hN, k1, k3]
    intro g4
    exact ret0 hC ((none, 0), [], 0, 1) rfl fun W _ _ => nl W
  simp [hN, k1, k3]
  intro g4
  refine call0 ok rfl rfl rfl (fun w I hI hG => parts0 w I hI target) fun z W hz => ?_
  obtain ⟨⟨pa, pc⟩, l, top, e⟩ := z
  refine cutG ok (p := ?pos) (fun _ : Unit => [(1, .c (.v (.string path))), (2, .c (.v (.int .i64 kind))), (3, .c (.v (.string target))), (4, .c (.bp 4 g4 0)), (46, .ag ((staC s (ia, ic) (ba, bc)).map .v)), (47, .c (.v (.string path)))]) (fun _ W => (kind = 3 → target.size ≤ 200) ∧ StaR W s (ia, ic) (ba, bc)) (fun _ => [(4, .box g4 47 ((staC s (ia, ic) (ba, bc)).map .v))]) ?rest fun RR => ?main
  case main =>
    by_cases k4 : kind = 3
    · subst k4
      simp (maxSteps := 2000000) -implicitDefEqProofs [hN]
      refine call0 ok rfl rfl rfl (fun w I hI hG => rightTarget0 w I hI target (by omega)) fun z W hr => ?_
      cases z with
      | false =>
        simp (maxSteps := 2000000) -implicitDefEqProofs [hN]
        exact ret0 hC ((none, 0), [], 0, 17) rfl fun W _ _ => nl W
      | true =>
        by_cases he : e = 0
        · subst he
          simp (maxSteps := 2000000) -implicitDefEqProofs [hN]
          refine RR () _ _ ?_ ?_
          · exact fun W hW => ⟨fun _ => hr rfl, (by first | exact (hW) | exact (hW).1 | exact (hW).1.1 | exact (hW).1.2 | exact (hW).1.2.1 | exact (hW).1.2.2.1 | exact (hW).1.2.2.2.1 | exact (hW).1.2.2.2 | exact (hW).2 | exact (hW).2.1 | exact (hW).2.1.1 | exact (hW).2.1.2 | exact (hW).2.1.2.1 | exact (hW).2.1.2.2.1 | exact (hW).2.1.2.2.2.1 | exact (hW).2.1.2.2.2 | exact (hW).2.2 | exact (hW).2.2.1 | exact (hW).2.2.1.1 | exact (hW).2.2.1.2 | exact (hW).2.2.1.2.1 | exact (hW).2.2.1.2.2.1 | exact (hW).2.2.1.2.2.2.1 | exact (hW).2.2.1.2.2.2 | exact (hW).2.2.2 | exact (hW).2.2.2.1 | exact (hW).2.2.2.1.1 | exact (hW).2.2.2.1.2 | exact (hW).2.2.2.1.2.1 | exact (hW).2.2.2.1.2.2.1 | exact (hW).2.2.2.1.2.2.2.1 | exact (hW).2.2.2.1.2.2.2 | exact (hW).2.2.2.2 | exact (hW).2.2.2.2.1 | exact (hW).2.2.2.2.1.1 | exact (hW).2.2.2.2.1.2 | exact (hW).2.2.2.2.1.2.1 | exact (hW).2.2.2.2.1.2.2.1 | exact (hW).2.2.2.2.1.2.2.2.1 | exact (hW).2.2.2.2.1.2.2.2 | exact (hW).2.2.2.2.2 | exact (hW).2.2.2.2.2.1 | exact (hW).2.2.2.2.2.1.1 | exact (hW).2.2.2.2.2.1.2 | exact (hW).2.2.2.2.2.1.2.1 | exact (hW).2.2.2.2.2.1.2.2.1 | exact (hW).2.2.2.2.2.1.2.2.2.1 | exact (hW).2.2.2.2.2.1.2.2.2 | exact (hW).2.2.2.2.2.2 | exact (hW).2.2.2.2.2.2.1 | exact (hW).2.2.2.2.2.2.1.1 | exact (hW).2.2.2.2.2.2.1.2 | exact (hW).2.2.2.2.2.2.1.2.1 | exact (hW).2.2.2.2.2.2.1.2.2.1 | exact (hW).2.2.2.2.2.2.1.2.2.2.1 | exact (hW).2.2.2.2.2.2.1.2.2.2 | exact (hW).2.2.2.2.2.2.2 | exact (hW).2.2.2.2.2.2.2.1 | exact (hW).2.2.2.2.2.2.2.1.1 | exact (hW).2.2.2.2.2.2.2.1.2 | exact (hW).2.2.2.2.2.2.2.1.2.1 | exact (hW).2.2.2.2.2.2.2.1.2.2.1 | exact (hW).2.2.2.2.2.2.2.1.2.2.2.1 | exact (hW).2.2.2.2.2.2.2.1.2.2.2 | exact (hW).2.2.2.2.2.2.2.2 | exact (hW).2.2.2.2.2.2.2.2.1 | exact (hW).2.2.2.2.2.2.2.2.1.1 | exact (hW).2.2.2.2.2.2.2.2.1.2 | exact (hW).2.2.2.2.2.2.2.2.1.2.1 | exact (hW).2.2.2.2.2.2.2.2.1.2.2.1 | exact (hW).2.2.2.2.2.2.2.2.1.2.2.2.1 | exact (hW).2.2.2.2.2.2.2.2.1.2.2.2 | exact (hW).2.2.2.2.2.2.2.2.2)⟩
          · simp
        · simp (maxSteps := 2000000) -implicitDefEqProofs [hN, he]
          exact ret0 hC ((none, 0), [], 0, 17) rfl fun W _ _ => nl W
    · simp (maxSteps := 2000000) -implicitDefEqProofs [hN, k4]
      refine RR () _ _ ?_ ?_
      · exact fun W hW => ⟨fun h => absurd h k4, (by first | exact (hW) | exact (hW).1 | exact (hW).1.1 | exact (hW).1.2 | exact (hW).1.2.1 | exact (hW).1.2.2.1 | exact (hW).1.2.2.2.1 | exact (hW).1.2.2.2 | exact (hW).2 | exact (hW).2.1 | exact (hW).2.1.1 | exact (hW).2.1.2 | exact (hW).2.1.2.1 | exact (hW).2.1.2.2.1 | exact (hW).2.1.2.2.2.1 | exact (hW).2.1.2.2.2 | exact (hW).2.2 | exact (hW).2.2.1 | exact (hW).2.2.1.1 | exact (hW).2.2.1.2 | exact (hW).2.2.1.2.1 | exact (hW).2.2.1.2.2.1 | exact (hW).2.2.1.2.2.2.1 | exact (hW).2.2.1.2.2.2 | exact (hW).2.2.2 | exact (hW).2.2.2.1 | exact (hW).2.2.2.1.1 | exact (hW).2.2.2.1.2 | exact (hW).2.2.2.1.2.1 | exact (hW).2.2.2.1.2.2.1 | exact (hW).2.2.2.1.2.2.2.1 | exact (hW).2.2.2.1.2.2.2 | exact (hW).2.2.2.2 | exact (hW).2.2.2.2.1 | exact (hW).2.2.2.2.1.1 | exact (hW).2.2.2.2.1.2 | exact (hW).2.2.2.2.1.2.1 | exact (hW).2.2.2.2.1.2.2.1 | exact (hW).2.2.2.2.1.2.2.2.1 | exact (hW).2.2.2.2.1.2.2.2 | exact (hW).2.2.2.2.2 | exact (hW).2.2.2.2.2.1 | exact (hW).2.2.2.2.2.1.1 | exact (hW).2.2.2.2.2.1.2 | exact (hW).2.2.2.2.2.1.2.1 | exact (hW).2.2.2.2.2.1.2.2.1 | exact (hW).2.2.2.2.2.1.2.2.2.1 | exact (hW).2.2.2.2.2.1.2.2.2 | exact (hW).2.2.2.2.2.2 | exact (hW).2.2.2.2.2.2.1 | exact (hW).2.2.2.2.2.2.1.1 | exact (hW).2.2.2.2.2.2.1.2 | exact (hW).2.2.2.2.2.2.1.2.1 | exact (hW).2.2.2.2.2.2.1.2.2.1 | exact (hW).2.2.2.2.2.2.1.2.2.2.1 | exact (hW).2.2.2.2.2.2.1.2.2.2 | exact (hW).2.2.2.2.2.2.2 | exact (hW).2.2.2.2.2.2.2.1 | exact (hW).2.2.2.2.2.2.2.1.1 | exact (hW).2.2.2.2.2.2.2.1.2 | exact (hW).2.2.2.2.2.2.2.1.2.1 | exact (hW).2.2.2.2.2.2.2.1.2.2.1 | exact (hW).2.2.2.2.2.2.2.1.2.2.2.1 | exact (hW).2.2.2.2.2.2.2.1.2.2.2 | exact (hW).2.2.2.2.2.2.2.2 | exact (hW).2.2.2.2.2.2.2.2.1 | exact (hW).2.2.2.2.2.2.2.2.1.1 | exact (hW).2.2.2.2.2.2.2.2.1.2 | exact (hW).2.2.2.2.2.2.2.2.1.2.1 | exact (hW).2.2.2.2.2.2.2.2.1.2.2.1 | exact (hW).2.2.2.2.2.2.2.2.1.2.2.2.1 | exact (hW).2.2.2.2.2.2.2.2.1.2.2.2 | exact (hW).2.2.2.2.2.2.2.2.2)⟩
      · simp
  case rest =>
    intro _
    refine someG fun W0 hW0 => ?_
    have ht := hW0.1
    refine call0 ok rfl rfl rfl (fun w I hI hG => parent0 w I hI s (ia, ic) (ba, bc) path (fun W e => (hG W e).2) (by omega)) fun y W hp => ?_
    obtain ⟨dir, nm, e⟩ := y
    by_cases he : e = 0
    · subst he
      simp (maxSteps := 2000000) -implicitDefEqProofs [hN]
      refine call0 ok rfl rfl rfl (fun w I hI hG => findIno0 w I hI s (ia, ic) (ba, bc) dir (fun W e => ((by first | exact (hG W e) | exact (hG W e).1 | exact (hG W e).1.1 | exact (hG W e).1.2 | exact (hG W e).1.2.1 | exact (hG W e).1.2.2.1 | exact (hG W e).1.2.2.2.1 | exact (hG W e).1.2.2.2 | exact (hG W e).2 | exact (hG W e).2.1 | exact (hG W e).2.1.1 | exact (hG W e).2.1.2 | exact (hG W e).2.1.2.1 | exact (hG W e).2.1.2.2.1 | exact (hG W e).2.1.2.2.2.1 | exact (hG W e).2.1.2.2.2 | exact (hG W e).2.2 | exact (hG W e).2.2.1 | exact (hG W e).2.2.1.1 | exact (hG W e).2.2.1.2 | exact (hG W e).2.2.1.2.1 | exact (hG W e).2.2.1.2.2.1 | exact (hG W e).2.2.1.2.2.2.1 | exact (hG W e).2.2.1.2.2.2 | exact (hG W e).2.2.2 | exact (hG W e).2.2.2.1 | exact (hG W e).2.2.2.1.1 | exact (hG W e).2.2.2.1.2 | exact (hG W e).2.2.2.1.2.1 | exact (hG W e).2.2.2.1.2.2.1 | exact (hG W e).2.2.2.1.2.2.2.1 | exact (hG W e).2.2.2.1.2.2.2 | exact (hG W e).2.2.2.2 | exact (hG W e).2.2.2.2.1 | exact (hG W e).2.2.2.2.1.1 | exact (hG W e).2.2.2.2.1.2 | exact (hG W e).2.2.2.2.1.2.1 | exact (hG W e).2.2.2.2.1.2.2.1 | exact (hG W e).2.2.2.2.1.2.2.2.1 | exact (hG W e).2.2.2.2.1.2.2.2 | exact (hG W e).2.2.2.2.2 | exact (hG W e).2.2.2.2.2.1 | exact (hG W e).2.2.2.2.2.1.1 | exact (hG W e).2.2.2.2.2.1.2 | exact (hG W e).2.2.2.2.2.1.2.1 | exact (hG W e).2.2.2.2.2.1.2.2.1 | exact (hG W e).2.2.2.2.2.1.2.2.2.1 | exact (hG W e).2.2.2.2.2.1.2.2.2 | exact (hG W e).2.2.2.2.2.2 | exact (hG W e).2.2.2.2.2.2.1 | exact (hG W e).2.2.2.2.2.2.1.1 | exact (hG W e).2.2.2.2.2.2.1.2 | exact (hG W e).2.2.2.2.2.2.1.2.1 | exact (hG W e).2.2.2.2.2.2.1.2.2.1 | exact (hG W e).2.2.2.2.2.2.1.2.2.2.1 | exact (hG W e).2.2.2.2.2.2.1.2.2.2 | exact (hG W e).2.2.2.2.2.2.2 | exact (hG W e).2.2.2.2.2.2.2.1 | exact (hG W e).2.2.2.2.2.2.2.1.1 | exact (hG W e).2.2.2.2.2.2.2.1.2 | exact (hG W e).2.2.2.2.2.2.2.1.2.1 | exact (hG W e).2.2.2.2.2.2.2.1.2.2.1 | exact (hG W e).2.2.2.2.2.2.2.1.2.2.2.1 | exact (hG W e).2.2.2.2.2.2.2.1.2.2.2 | exact (hG W e).2.2.2.2.2.2.2.2 | exact (hG W e).2.2.2.2.2.2.2.2.1 | exact (hG W e).2.2.2.2.2.2.2.2.1.1 | exact (hG W e).2.2.2.2.2.2.2.2.1.2 | exact (hG W e).2.2.2.2.2.2.2.2.1.2.1 | exact (hG W e).2.2.2.2.2.2.2.2.1.2.2.1 | exact (hG W e).2.2.2.2.2.2.2.2.1.2.2.2.1 | exact (hG W e).2.2.2.2.2.2.2.2.1.2.2.2 | exact (hG W e).2.2.2.2.2.2.2.2.2) : StaR W s (ia, ic) (ba, bc))) (by omega)) fun y W hd => ?_
      obtain ⟨⟨d, ⟨da, dc⟩, ⟨ra, rc⟩⟩, has⟩ := y
      have hdi : d ∈ s.inos := by
        cases has with
        | true => exact (hd.2.1 rfl).1
        | false =>
          obtain ⟨z, hz, hn⟩ := hp.2 rfl
          exact absurd hn ((hd.2.2 rfl).2 z hz)
      simp (maxSteps := 2000000) -implicitDefEqProofs [hN]
      intro g17
      refine call0 ok rfl rfl rfl (fun w I hI hG => find0 w I hI d.ents nm (fun W e => ⟨rfl, ((by first | exact (hG W e) | exact (hG W e).1 | exact (hG W e).1.1 | exact (hG W e).1.2 | exact (hG W e).1.2.1 | exact (hG W e).1.2.2.1 | exact (hG W e).1.2.2.2.1 | exact (hG W e).1.2.2.2 | exact (hG W e).2 | exact (hG W e).2.1 | exact (hG W e).2.1.1 | exact (hG W e).2.1.2 | exact (hG W e).2.1.2.1 | exact (hG W e).2.1.2.2.1 | exact (hG W e).2.1.2.2.2.1 | exact (hG W e).2.1.2.2.2 | exact (hG W e).2.2 | exact (hG W e).2.2.1 | exact (hG W e).2.2.1.1 | exact (hG W e).2.2.1.2 | exact (hG W e).2.2.1.2.1 | exact (hG W e).2.2.1.2.2.1 | exact (hG W e).2.2.1.2.2.2.1 | exact (hG W e).2.2.1.2.2.2 | exact (hG W e).2.2.2 | exact (hG W e).2.2.2.1 | exact (hG W e).2.2.2.1.1 | exact (hG W e).2.2.2.1.2 | exact (hG W e).2.2.2.1.2.1 | exact (hG W e).2.2.2.1.2.2.1 | exact (hG W e).2.2.2.1.2.2.2.1 | exact (hG W e).2.2.2.1.2.2.2 | exact (hG W e).2.2.2.2 | exact (hG W e).2.2.2.2.1 | exact (hG W e).2.2.2.2.1.1 | exact (hG W e).2.2.2.2.1.2 | exact (hG W e).2.2.2.2.1.2.1 | exact (hG W e).2.2.2.2.1.2.2.1 | exact (hG W e).2.2.2.2.1.2.2.2.1 | exact (hG W e).2.2.2.2.1.2.2.2 | exact (hG W e).2.2.2.2.2 | exact (hG W e).2.2.2.2.2.1 | exact (hG W e).2.2.2.2.2.1.1 | exact (hG W e).2.2.2.2.2.1.2 | exact (hG W e).2.2.2.2.2.1.2.1 | exact (hG W e).2.2.2.2.2.1.2.2.1 | exact (hG W e).2.2.2.2.2.1.2.2.2.1 | exact (hG W e).2.2.2.2.2.1.2.2.2 | exact (hG W e).2.2.2.2.2.2 | exact (hG W e).2.2.2.2.2.2.1 | exact (hG W e).2.2.2.2.2.2.1.1 | exact (hG W e).2.2.2.2.2.2.1.2 | exact (hG W e).2.2.2.2.2.2.1.2.1 | exact (hG W e).2.2.2.2.2.2.1.2.2.1 | exact (hG W e).2.2.2.2.2.2.1.2.2.2.1 | exact (hG W e).2.2.2.2.2.2.1.2.2.2 | exact (hG W e).2.2.2.2.2.2.2 | exact (hG W e).2.2.2.2.2.2.2.1 | exact (hG W e).2.2.2.2.2.2.2.1.1 | exact (hG W e).2.2.2.2.2.2.2.1.2 | exact (hG W e).2.2.2.2.2.2.2.1.2.1 | exact (hG W e).2.2.2.2.2.2.2.1.2.2.1 | exact (hG W e).2.2.2.2.2.2.2.1.2.2.2.1 | exact (hG W e).2.2.2.2.2.2.2.1.2.2.2 | exact (hG W e).2.2.2.2.2.2.2.2 | exact (hG W e).2.2.2.2.2.2.2.2.1 | exact (hG W e).2.2.2.2.2.2.2.2.1.1 | exact (hG W e).2.2.2.2.2.2.2.2.1.2 | exact (hG W e).2.2.2.2.2.2.2.2.1.2.1 | exact (hG W e).2.2.2.2.2.2.2.2.1.2.2.1 | exact (hG W e).2.2.2.2.2.2.2.2.1.2.2.2.1 | exact (hG W e).2.2.2.2.2.2.2.2.1.2.2.2 | exact (hG W e).2.2.2.2.2.2.2.2.2) : InoR W d (da, dc) (ra, rc)).1⟩)) fun y W hf => ?_
      obtain ⟨no, is⟩ := y
      cases is with
      | true =>
        simp (maxSteps := 2000000) -implicitDefEqProofs [hN]
        exact ret0 hC ((none, 0), [], 0, 12) rfl fun W _ _ => nl W
      | false =>
        by_cases hin : (200 : Int) ≤ (s.inos.length : Nat)
        · simp (maxSteps := 2000000) -implicitDefEqProofs [hN, hin]
          exact ret0 hC ((none, 0), [], 0, 10) rfl fun W _ _ => nl W
        · by_cases hlk : kind = 2 ∧ 100 ≤ d.links
          · simp (maxSteps := 2000000) -implicitDefEqProofs [hN, hin, hlk.1, hlk.2]
            exact ret0 hC ((none, 0), [], 0, 18) rfl fun W _ _ => nl W
          · have go : True := trivial
            refine cutG ok (p := ?pos2) (fun _ : Unit => [(2, .c (.v (.int .i64 kind))), (3, .c (.v (.string target))), (4, .c (.bp 4 g4 0)), (17, .c (.bp 17 g17 0)), (85, .c (.v (.slice da d.ents.length dc))), (89, .ag [.v (.string nm), .v (.int .i64 s.next)])]) (fun _ W => InoR W d (da, dc) (ra, rc) ∧ StaR W s (ia, ic) (ba, bc)) (fun _ => [(4, .box g4 47 ((staC s (ia, ic) (ba, bc)).map .v)), (17, .box g17 39 ((inoC d (da, dc) (ra, rc)).map .v))]) ?rest2 fun R2 => ?main2
            case main2 =>
              by_cases k2 : kind = 2
              · have hlk2 : ¬ (100 ≤ d.links) := fun h => hlk ⟨k2, h⟩
                subst k2
                simp (maxSteps := 2000000) -implicitDefEqProofs [hN, hin, hlk2]
                refine R2 () _ _ ?_ ?_
                · exact fun W hW => ⟨(by first | exact (hW) | exact (hW).1 | exact (hW).1.1 | exact (hW).1.2 | exact (hW).1.2.1 | exact (hW).1.2.2.1 | exact (hW).1.2.2.2.1 | exact (hW).1.2.2.2 | exact (hW).2 | exact (hW).2.1 | exact (hW).2.1.1 | exact (hW).2.1.2 | exact (hW).2.1.2.1 | exact (hW).2.1.2.2.1 | exact (hW).2.1.2.2.2.1 | exact (hW).2.1.2.2.2 | exact (hW).2.2 | exact (hW).2.2.1 | exact (hW).2.2.1.1 | exact (hW).2.2.1.2 | exact (hW).2.2.1.2.1 | exact (hW).2.2.1.2.2.1 | exact (hW).2.2.1.2.2.2.1 | exact (hW).2.2.1.2.2.2 | exact (hW).2.2.2 | exact (hW).2.2.2.1 | exact (hW).2.2.2.1.1 | exact (hW).2.2.2.1.2 | exact (hW).2.2.2.1.2.1 | exact (hW).2.2.2.1.2.2.1 | exact (hW).2.2.2.1.2.2.2.1 | exact (hW).2.2.2.1.2.2.2 | exact (hW).2.2.2.2 | exact (hW).2.2.2.2.1 | exact (hW).2.2.2.2.1.1 | exact (hW).2.2.2.2.1.2 | exact (hW).2.2.2.2.1.2.1 | exact (hW).2.2.2.2.1.2.2.1 | exact (hW).2.2.2.2.1.2.2.2.1 | exact (hW).2.2.2.2.1.2.2.2 | exact (hW).2.2.2.2.2 | exact (hW).2.2.2.2.2.1 | exact (hW).2.2.2.2.2.1.1 | exact (hW).2.2.2.2.2.1.2 | exact (hW).2.2.2.2.2.1.2.1 | exact (hW).2.2.2.2.2.1.2.2.1 | exact (hW).2.2.2.2.2.1.2.2.2.1 | exact (hW).2.2.2.2.2.1.2.2.2 | exact (hW).2.2.2.2.2.2 | exact (hW).2.2.2.2.2.2.1 | exact (hW).2.2.2.2.2.2.1.1 | exact (hW).2.2.2.2.2.2.1.2 | exact (hW).2.2.2.2.2.2.1.2.1 | exact (hW).2.2.2.2.2.2.1.2.2.1 | exact (hW).2.2.2.2.2.2.1.2.2.2.1 | exact (hW).2.2.2.2.2.2.1.2.2.2 | exact (hW).2.2.2.2.2.2.2 | exact (hW).2.2.2.2.2.2.2.1 | exact (hW).2.2.2.2.2.2.2.1.1 | exact (hW).2.2.2.2.2.2.2.1.2 | exact (hW).2.2.2.2.2.2.2.1.2.1 | exact (hW).2.2.2.2.2.2.2.1.2.2.1 | exact (hW).2.2.2.2.2.2.2.1.2.2.2.1 | exact (hW).2.2.2.2.2.2.2.1.2.2.2 | exact (hW).2.2.2.2.2.2.2.2 | exact (hW).2.2.2.2.2.2.2.2.1 | exact (hW).2.2.2.2.2.2.2.2.1.1 | exact (hW).2.2.2.2.2.2.2.2.1.2 | exact (hW).2.2.2.2.2.2.2.2.1.2.1 | exact (hW).2.2.2.2.2.2.2.2.1.2.2.1 | exact (hW).2.2.2.2.2.2.2.2.1.2.2.2.1 | exact (hW).2.2.2.2.2.2.2.2.1.2.2.2 | exact (hW).2.2.2.2.2.2.2.2.2), (by first | exact (hW) | exact (hW).1 | exact (hW).1.1 | exact (hW).1.2 | exact (hW).1.2.1 | exact (hW).1.2.2.1 | exact (hW).1.2.2.2.1 | exact (hW).1.2.2.2 | exact (hW).2 | exact (hW).2.1 | exact (hW).2.1.1 | exact (hW).2.1.2 | exact (hW).2.1.2.1 | exact (hW).2.1.2.2.1 | exact (hW).2.1.2.2.2.1 | exact (hW).2.1.2.2.2 | exact (hW).2.2 | exact (hW).2.2.1 | exact (hW).2.2.1.1 | exact (hW).2.2.1.2 | exact (hW).2.2.1.2.1 | exact (hW).2.2.1.2.2.1 | exact (hW).2.2.1.2.2.2.1 | exact (hW).2.2.1.2.2.2 | exact (hW).2.2.2 | exact (hW).2.2.2.1 | exact (hW).2.2.2.1.1 | exact (hW).2.2.2.1.2 | exact (hW).2.2.2.1.2.1 | exact (hW).2.2.2.1.2.2.1 | exact (hW).2.2.2.1.2.2.2.1 | exact (hW).2.2.2.1.2.2.2 | exact (hW).2.2.2.2 | exact (hW).2.2.2.2.1 | exact (hW).2.2.2.2.1.1 | exact (hW).2.2.2.2.1.2 | exact (hW).2.2.2.2.1.2.1 | exact (hW).2.2.2.2.1.2.2.1 | exact (hW).2.2.2.2.1.2.2.2.1 | exact (hW).2.2.2.2.1.2.2.2 | exact (hW).2.2.2.2.2 | exact (hW).2.2.2.2.2.1 | exact (hW).2.2.2.2.2.1.1 | exact (hW).2.2.2.2.2.1.2 | exact (hW).2.2.2.2.2.1.2.1 | exact (hW).2.2.2.2.2.1.2.2.1 | exact (hW).2.2.2.2.2.1.2.2.2.1 | exact (hW).2.2.2.2.2.1.2.2.2 | exact (hW).2.2.2.2.2.2 | exact (hW).2.2.2.2.2.2.1 | exact (hW).2.2.2.2.2.2.1.1 | exact (hW).2.2.2.2.2.2.1.2 | exact (hW).2.2.2.2.2.2.1.2.1 | exact (hW).2.2.2.2.2.2.1.2.2.1 | exact (hW).2.2.2.2.2.2.1.2.2.2.1 | exact (hW).2.2.2.2.2.2.1.2.2.2 | exact (hW).2.2.2.2.2.2.2 | exact (hW).2.2.2.2.2.2.2.1 | exact (hW).2.2.2.2.2.2.2.1.1 | exact (hW).2.2.2.2.2.2.2.1.2 | exact (hW).2.2.2.2.2.2.2.1.2.1 | exact (hW).2.2.2.2.2.2.2.1.2.2.1 | exact (hW).2.2.2.2.2.2.2.1.2.2.2.1 | exact (hW).2.2.2.2.2.2.2.1.2.2.2 | exact (hW).2.2.2.2.2.2.2.2 | exact (hW).2.2.2.2.2.2.2.2.1 | exact (hW).2.2.2.2.2.2.2.2.1.1 | exact (hW).2.2.2.2.2.2.2.2.1.2 | exact (hW).2.2.2.2.2.2.2.2.1.2.1 | exact (hW).2.2.2.2.2.2.2.2.1.2.2.1 | exact (hW).2.2.2.2.2.2.2.2.1.2.2.2.1 | exact (hW).2.2.2.2.2.2.2.2.1.2.2.2 | exact (hW).2.2.2.2.2.2.2.2.2)⟩
                · simp
              · simp (maxSteps := 2000000) -implicitDefEqProofs [hN, hin, k2]
                refine R2 () _ _ ?_ ?_
                · exact fun W hW => ⟨(by first | exact (hW) | exact (hW).1 | exact (hW).1.1 | exact (hW).1.2 | exact (hW).1.2.1 | exact (hW).1.2.2.1 | exact (hW).1.2.2.2.1 | exact (hW).1.2.2.2 | exact (hW).2 | exact (hW).2.1 | exact (hW).2.1.1 | exact (hW).2.1.2 | exact (hW).2.1.2.1 | exact (hW).2.1.2.2.1 | exact (hW).2.1.2.2.2.1 | exact (hW).2.1.2.2.2 | exact (hW).2.2 | exact (hW).2.2.1 | exact (hW).2.2.1.1 | exact (hW).2.2.1.2 | exact (hW).2.2.1.2.1 | exact (hW).2.2.1.2.2.1 | exact (hW).2.2.1.2.2.2.1 | exact (hW).2.2.1.2.2.2 | exact (hW).2.2.2 | exact (hW).2.2.2.1 | exact (hW).2.2.2.1.1 | exact (hW).2.2.2.1.2 | exact (hW).2.2.2.1.2.1 | exact (hW).2.2.2.1.2.2.1 | exact (hW).2.2.2.1.2.2.2.1 | exact (hW).2.2.2.1.2.2.2 | exact (hW).2.2.2.2 | exact (hW).2.2.2.2.1 | exact (hW).2.2.2.2.1.1 | exact (hW).2.2.2.2.1.2 | exact (hW).2.2.2.2.1.2.1 | exact (hW).2.2.2.2.1.2.2.1 | exact (hW).2.2.2.2.1.2.2.2.1 | exact (hW).2.2.2.2.1.2.2.2 | exact (hW).2.2.2.2.2 | exact (hW).2.2.2.2.2.1 | exact (hW).2.2.2.2.2.1.1 | exact (hW).2.2.2.2.2.1.2 | exact (hW).2.2.2.2.2.1.2.1 | exact (hW).2.2.2.2.2.1.2.2.1 | exact (hW).2.2.2.2.2.1.2.2.2.1 | exact (hW).2.2.2.2.2.1.2.2.2 | exact (hW).2.2.2.2.2.2 | exact (hW).2.2.2.2.2.2.1 | exact (hW).2.2.2.2.2.2.1.1 | exact (hW).2.2.2.2.2.2.1.2 | exact (hW).2.2.2.2.2.2.1.2.1 | exact (hW).2.2.2.2.2.2.1.2.2.1 | exact (hW).2.2.2.2.2.2.1.2.2.2.1 | exact (hW).2.2.2.2.2.2.1.2.2.2 | exact (hW).2.2.2.2.2.2.2 | exact (hW).2.2.2.2.2.2.2.1 | exact (hW).2.2.2.2.2.2.2.1.1 | exact (hW).2.2.2.2.2.2.2.1.2 | exact (hW).2.2.2.2.2.2.2.1.2.1 | exact (hW).2.2.2.2.2.2.2.1.2.2.1 | exact (hW).2.2.2.2.2.2.2.1.2.2.2.1 | exact (hW).2.2.2.2.2.2.2.1.2.2.2 | exact (hW).2.2.2.2.2.2.2.2 | exact (hW).2.2.2.2.2.2.2.2.1 | exact (hW).2.2.2.2.2.2.2.2.1.1 | exact (hW).2.2.2.2.2.2.2.2.1.2 | exact (hW).2.2.2.2.2.2.2.2.1.2.1 | exact (hW).2.2.2.2.2.2.2.2.1.2.2.1 | exact (hW).2.2.2.2.2.2.2.2.1.2.2.2.1 | exact (hW).2.2.2.2.2.2.2.2.1.2.2.2 | exact (hW).2.2.2.2.2.2.2.2.2), (by first | exact (hW) | exact (hW).1 | exact (hW).1.1 | exact (hW).1.2 | exact (hW).1.2.1 | exact (hW).1.2.2.1 | exact (hW).1.2.2.2.1 | exact (hW).1.2.2.2 | exact (hW).2 | exact (hW).2.1 | exact (hW).2.1.1 | exact (hW).2.1.2 | exact (hW).2.1.2.1 | exact (hW).2.1.2.2.1 | exact (hW).2.1.2.2.2.1 | exact (hW).2.1.2.2.2 | exact (hW).2.2 | exact (hW).2.2.1 | exact (hW).2.2.1.1 | exact (hW).2.2.1.2 | exact (hW).2.2.1.2.1 | exact (hW).2.2.1.2.2.1 | exact (hW).2.2.1.2.2.2.1 | exact (hW).2.2.1.2.2.2 | exact (hW).2.2.2 | exact (hW).2.2.2.1 | exact (hW).2.2.2.1.1 | exact (hW).2.2.2.1.2 | exact (hW).2.2.2.1.2.1 | exact (hW).2.2.2.1.2.2.1 | exact (hW).2.2.2.1.2.2.2.1 | exact (hW).2.2.2.1.2.2.2 | exact (hW).2.2.2.2 | exact (hW).2.2.2.2.1 | exact (hW).2.2.2.2.1.1 | exact (hW).2.2.2.2.1.2 | exact (hW).2.2.2.2.1.2.1 | exact (hW).2.2.2.2.1.2.2.1 | exact (hW).2.2.2.2.1.2.2.2.1 | exact (hW).2.2.2.2.1.2.2.2 | exact (hW).2.2.2.2.2 | exact (hW).2.2.2.2.2.1 | exact (hW).2.2.2.2.2.1.1 | exact (hW).2.2.2.2.2.1.2 | exact (hW).2.2.2.2.2.1.2.1 | exact (hW).2.2.2.2.2.1.2.2.1 | exact (hW).2.2.2.2.2.1.2.2.2.1 | exact (hW).2.2.2.2.2.1.2.2.2 | exact (hW).2.2.2.2.2.2 | exact (hW).2.2.2.2.2.2.1 | exact (hW).2.2.2.2.2.2.1.1 | exact (hW).2.2.2.2.2.2.1.2 | exact (hW).2.2.2.2.2.2.1.2.1 | exact (hW).2.2.2.2.2.2.1.2.2.1 | exact (hW).2.2.2.2.2.2.1.2.2.2.1 | exact (hW).2.2.2.2.2.2.1.2.2.2 | exact (hW).2.2.2.2.2.2.2 | exact (hW).2.2.2.2.2.2.2.1 | exact (hW).2.2.2.2.2.2.2.1.1 | exact (hW).2.2.2.2.2.2.2.1.2 | exact (hW).2.2.2.2.2.2.2.1.2.1 | exact (hW).2.2.2.2.2.2.2.1.2.2.1 | exact (hW).2.2.2.2.2.2.2.1.2.2.2.1 | exact (hW).2.2.2.2.2.2.2.1.2.2.2 | exact (hW).2.2.2.2.2.2.2.2 | exact (hW).2.2.2.2.2.2.2.2.1 | exact (hW).2.2.2.2.2.2.2.2.1.1 | exact (hW).2.2.2.2.2.2.2.2.1.2 | exact (hW).2.2.2.2.2.2.2.2.1.2.1 | exact (hW).2.2.2.2.2.2.2.2.1.2.2.1 | exact (hW).2.2.2.2.2.2.2.2.1.2.2.2.1 | exact (hW).2.2.2.2.2.2.2.2.1.2.2.2 | exact (hW).2.2.2.2.2.2.2.2.2)⟩
                · simp
            case rest2 =>
              intro _
              refine call0 ok rfl rfl rfl (fun w I hI hG => addEntry0 w I hI d.ents ⟨nm, s.next⟩ (fun W e => ⟨rfl, (hG W e).1.1⟩) (by have := hp.1; simp only at this ⊢; omega)) fun y W ha => ?_
              obtain ⟨⟨ea, ec⟩, r, e⟩ := y
              by_cases he : e = 0
              · subst he
                have hdo := hok d hdi
                have hent : r.length ≤ 100 ∧ ∀ x, x ∈ r → x.name.size ≤ 32 := ⟨ha.2.2.1, fun x hx => by
                  rcases ha.2.2.2 x hx with h | ⟨h1, h2⟩
                  · exact hdo.names x h
                  · rw [h1]; exact h2⟩
                have hnew : InoOk (newIno s.next kind target) := ⟨fun j hj => by simp [newIno] at hj, by simp [newIno], by simp [newIno], by
                  by_cases k3 : kind = 3
                  · simp [newIno, k3]; exact ht k3
                  · simp [newIno, k3, emp]; decide⟩
                have fin : ∀ (v m K : Int), K = kind → DeedsOk s [⟨1, m, inoZ⟩, ⟨2, 0, { d with links := v, ents := r }⟩, ⟨2, 0, newIno s.next K target⟩] := fun v m K hK => by
                  rw [hK]
                  exact ⟨by simp, [⟨1, m, inoZ⟩, ⟨2, 0, { d with links := v, ents := r }⟩], [⟨2, 0, newIno s.next kind target⟩], rfl, fun q hq => by
                  simp at hq
                  rcases hq with rfl | rfl
                  · exact .inl rfl
                  · exact .inr ⟨rfl, ⟨hdo.right, hent.1, hent.2, hdo.tgt⟩, d, hdi, rfl, rfl⟩, .inr ⟨_, rfl, .inr ⟨rfl, hnew, rfl⟩⟩⟩
                by_cases k2 : kind = 2
                · simp (maxSteps := 2000000) -implicitDefEqProofs [hN, k2]
                  refine drawK ok mixed (by kernel_rfl) ?_
                  simp (maxSteps := 2000000) -implicitDefEqProofs [hN, k2]
                  refine call0 ok rfl rfl rfl (fun w I hI hG => putDeed0 w I hI { d with links := IntKind.i64.wrap (d.links + 1), ents := r } (ea, ec) (ra, rc)) fun _ W _ => ?_
                  simp (maxSteps := 2000000) -implicitDefEqProofs [hN]
                  refine call0 ok rfl rfl rfl (fun w I hI hG => newIno0 w I hI s.next 2 target) fun _ W _ => ?_
                  simp (maxSteps := 2000000) -implicitDefEqProofs [hN]
                  refine call0 ok rfl rfl rfl (fun w I hI hG => putDeed0 w I hI (newIno s.next 2 target) (none, 0) (none, 0)) fun _ W _ => ?_
                  simp (maxSteps := 2000000) -implicitDefEqProofs [hN]
                  intro g116
                  exact ret0 hC ((some ⟨g116, 0, none⟩, 3), [⟨1, IntKind.i64.wrap (s.next + 1), inoZ⟩, ⟨2, 0, { d with links := IntKind.i64.wrap (d.links + 1), ents := r }⟩, ⟨2, 0, newIno s.next 2 target⟩], s.next, 0) rfl fun W hp hG => ⟨dees_sl (l := [(⟨1, IntKind.i64.wrap (s.next + 1), inoZ⟩, (none, 0), (none, 0)), (⟨2, 0, { d with links := IntKind.i64.wrap (d.links + 1), ents := r }⟩, (ea, ec), (ra, rc)), (⟨2, 0, newIno s.next 2 target⟩, (none, 0), (none, 0))]) (e := 41) hp.1 (fun y hy => by
                    simp only [List.mem_cons, List.not_mem_nil, or_false] at hy
                    rcases hy with rfl | rfl | rfl
                    · exact inoNilR W
                    · exact ⟨hG.1.1, hG.2.1.2⟩
                    · exact ⟨nilSl dEnt W, nilSl dRn W⟩) (by simp), fin _ _ 2 k2.symm⟩
                · simp (maxSteps := 2000000) -implicitDefEqProofs [hN, k2]
                  refine drawK ok mixed (by kernel_rfl) ?_
                  simp (maxSteps := 2000000) -implicitDefEqProofs [hN, k2]
                  refine call0 ok rfl rfl rfl (fun w I hI hG => putDeed0 w I hI { d with links := d.links, ents := r } (ea, ec) (ra, rc)) fun _ W _ => ?_
                  simp (maxSteps := 2000000) -implicitDefEqProofs [hN]
                  refine call0 ok rfl rfl rfl (fun w I hI hG => newIno0 w I hI s.next kind target) fun _ W _ => ?_
                  simp (maxSteps := 2000000) -implicitDefEqProofs [hN]
                  refine call0 ok rfl rfl rfl (fun w I hI hG => putDeed0 w I hI (newIno s.next kind target) (none, 0) (none, 0)) fun _ W _ => ?_
                  simp (maxSteps := 2000000) -implicitDefEqProofs [hN]
                  intro g116
                  exact ret0 hC ((some ⟨g116, 0, none⟩, 3), [⟨1, IntKind.i64.wrap (s.next + 1), inoZ⟩, ⟨2, 0, { d with links := d.links, ents := r }⟩, ⟨2, 0, newIno s.next kind target⟩], s.next, 0) rfl fun W hp hG => ⟨dees_sl (l := [(⟨1, IntKind.i64.wrap (s.next + 1), inoZ⟩, (none, 0), (none, 0)), (⟨2, 0, { d with links := d.links, ents := r }⟩, (ea, ec), (ra, rc)), (⟨2, 0, newIno s.next kind target⟩, (none, 0), (none, 0))]) (e := 41) hp.1 (fun y hy => by
                    simp only [List.mem_cons, List.not_mem_nil, or_false] at hy
                    rcases hy with rfl | rfl | rfl
                    · exact inoNilR W
                    · exact ⟨hG.1.1, hG.2.1.2⟩
                    · exact ⟨nilSl dEnt W, nilSl dRn W⟩) (by simp), fin _ _ kind rfl⟩
              · simp (maxSteps := 2000000) -implicitDefEqProofs [hN, he]
                exact ret0 hC ((none, 0), [], 0, e) rfl fun W _ _ => nl W
    · simp (maxSteps := 2000000) -implicitDefEqProofs [hN, he]
      exact ret0 hC ((none, 0), [], 0, e) rfl fun W _ _ => nl W
end Go.Proofs.Ytbbaoeidobdblaa.Sx

/- Unlink, Rmdir of the reference. -/
set_option linter.unusedVariables false
set_option linter.unusedSimpArgs false
namespace Go.Proofs.Ytbbaoeidobdblaa.Sx
open Go
attribute [local simp ↓] ifb_true' ifb_false'
attribute [local simp] ifb_true ifb_false ifb_eq sx argsT find ev evOp evs evo evBin evInt evStr evNil evNilA ptrA slcA isNoneA asB evLoad look del cellsB evUn evConv kdec fld evFieldA evField evIdxA evIdx evSlc bndL bndH evLen mmi put resV guardV gvL setO tupV cellsOf ones one upd lits nv exitTo SV.val CV.val TI.agg rdyA allR keepB scan simpO gsp isS subs keepT pickT wr memN pubs Res.fact Region.binds bld rest give delL back Res.eqv vi vb num Sv.val undef
theorem inoOk_ents {d : Ino} (h : InoOk d) {r : List Ent} {v : Int} (h1 : r.length ≤ 100) (h2 : ∀ x, x ∈ r → x.name.size ≤ 32) : InoOk { d with links := v, ents := r } := ⟨h.right, h1, h2, h.tgt⟩
theorem inoOk_links {d : Ino} (h : InoOk d) {v : Int} : InoOk { d with links := v } := ⟨h.right, h.ents, h.names, h.tgt⟩
/-- What letGo answers, as a deed of a state. -/
theorem letGo_ok {s : Sta} {x : Ino} (hx : x ∈ s.inos) (hok : InoOk x) {d : Dee} (h : d.kind = 3 ∨ d.kind = 2 ∧ ∃ v, d.ino = { x with links := v }) : SameD s d ∨ LastD d := by
  rcases h with h | ⟨h, v, e⟩
  · exact .inr (.inl h)
  · exact .inl (.inr ⟨h, by rw [e]; exact inoOk_links hok, x, hx, by rw [e], by rw [e]⟩)
theorem deeds_two {s : Sta} {a b : Dee} (h1 : SameD s a) (h2 : SameD s b ∨ LastD b) : DeedsOk s [a, b] := by
  rcases h2 with h2 | h2
  · refine ⟨by simp, [a, b], [], rfl, fun q hq => ?_, .inl rfl⟩
    simp at hq
    rcases hq with rfl | rfl
    · exact h1
    · exact h2
  · refine ⟨by simp, [a], [b], rfl, fun q hq => ?_, .inr ⟨b, rfl, h2⟩⟩
    simp at hq
    rw [hq]
    exact h1
set_option maxRecDepth 100000 in
set_option maxHeartbeats 4000000 in
theorem unlink0 (w : World) (I : Nat → Prop) (hI : ∀ b, I b → b < w.heap.size) (s : Sta) (si sb : Sl) (path : ByteArray) (h : ∀ W, Ext I w W → StaR W s si sb) (hl : s.inos.length ≤ 1000) (hok : ∀ x, x ∈ s.inos → InoOk x) :
    Fn0 Try.prog 89 #[.agg (staC s si sb).toArray, .string path, .slice none 0 0] w I (fun y : Sl × List Dee × Int => .tuple #[.slice y.1.1 y.2.1.length y.1.2, .int .i64 y.2.2]) (fun y W => Sl.ok dDee W y.1 y.2.1 ∧ DeedsOk s y.2.1) := by
  refine enter (svs := [.ag ((staC s si sb).map .v), .c (.v (.string path)), .c (.v (.slice none 0 0))]) tysOk Try.func89 rfl Try.ntmps89 Try.results89 (by kernel_rfl) (by simp) hI (fun W => StaR W s si sb) h fun C hC hN ok => ?_
  obtain ⟨ia, ic⟩ := si
  obtain ⟨ba, bc⟩ := sb
  have nl : ∀ (W : World), Sl.ok dDee W (none, 0) [] ∧ DeedsOk s [] := fun W => ⟨nilSl dDee W, deedsNil s⟩
  simp [hN]
  intro g3
  refine call0 ok rfl rfl rfl (fun w I hI hG => entry0 w I hI s (ia, ic) (ba, bc) path hG (by omega)) fun y W hy => ?_
  obtain ⟨⟨d, ⟨da, dc⟩, ⟨ra, rc⟩⟩, nm, ⟨x, ⟨xa, xc⟩, ⟨ya, yc⟩⟩, e⟩ := y
  by_cases he : e = 0
  · subst he
    obtain ⟨_, _, hnm, _, hin⟩ := hy
    obtain ⟨hdi, hxi⟩ := hin rfl
    simp only at hdi hxi hnm
    by_cases k2 : x.kind = 2
    · simp (maxSteps := 2000000) -implicitDefEqProofs [hN, k2]
      intro g8 g10
      exact ret0 hC ((none, 0), [], 14) rfl fun W _ _ => nl W
    · simp (maxSteps := 2000000) -implicitDefEqProofs [hN, k2]
      intro g8 g10
      refine call0 ok rfl rfl rfl (fun w I hI hG => removeEntry0 w I hI d.ents nm (fun W e => ⟨rfl, ((by first | exact (hG W e) | exact (hG W e).1 | exact (hG W e).1.1 | exact (hG W e).1.2 | exact (hG W e).1.2.1 | exact (hG W e).1.2.2.1 | exact (hG W e).1.2.2.2.1 | exact (hG W e).1.2.2.2 | exact (hG W e).2 | exact (hG W e).2.1 | exact (hG W e).2.1.1 | exact (hG W e).2.1.2 | exact (hG W e).2.1.2.1 | exact (hG W e).2.1.2.2.1 | exact (hG W e).2.1.2.2.2.1 | exact (hG W e).2.1.2.2.2 | exact (hG W e).2.2 | exact (hG W e).2.2.1 | exact (hG W e).2.2.1.1 | exact (hG W e).2.2.1.2 | exact (hG W e).2.2.1.2.1 | exact (hG W e).2.2.1.2.2.1 | exact (hG W e).2.2.1.2.2.2.1 | exact (hG W e).2.2.1.2.2.2 | exact (hG W e).2.2.2 | exact (hG W e).2.2.2.1 | exact (hG W e).2.2.2.1.1 | exact (hG W e).2.2.2.1.2 | exact (hG W e).2.2.2.1.2.1 | exact (hG W e).2.2.2.1.2.2.1 | exact (hG W e).2.2.2.1.2.2.2.1 | exact (hG W e).2.2.2.1.2.2.2 | exact (hG W e).2.2.2.2 | exact (hG W e).2.2.2.2.1 | exact (hG W e).2.2.2.2.1.1 | exact (hG W e).2.2.2.2.1.2 | exact (hG W e).2.2.2.2.1.2.1 | exact (hG W e).2.2.2.2.1.2.2.1 | exact (hG W e).2.2.2.2.1.2.2.2.1 | exact (hG W e).2.2.2.2.1.2.2.2 | exact (hG W e).2.2.2.2.2 | exact (hG W e).2.2.2.2.2.1 | exact (hG W e).2.2.2.2.2.1.1 | exact (hG W e).2.2.2.2.2.1.2 | exact (hG W e).2.2.2.2.2.1.2.1 | exact (hG W e).2.2.2.2.2.1.2.2.1 | exact (hG W e).2.2.2.2.2.1.2.2.2.1 | exact (hG W e).2.2.2.2.2.1.2.2.2 | exact (hG W e).2.2.2.2.2.2 | exact (hG W e).2.2.2.2.2.2.1 | exact (hG W e).2.2.2.2.2.2.1.1 | exact (hG W e).2.2.2.2.2.2.1.2 | exact (hG W e).2.2.2.2.2.2.1.2.1 | exact (hG W e).2.2.2.2.2.2.1.2.2.1 | exact (hG W e).2.2.2.2.2.2.1.2.2.2.1 | exact (hG W e).2.2.2.2.2.2.1.2.2.2 | exact (hG W e).2.2.2.2.2.2.2 | exact (hG W e).2.2.2.2.2.2.2.1 | exact (hG W e).2.2.2.2.2.2.2.1.1 | exact (hG W e).2.2.2.2.2.2.2.1.2 | exact (hG W e).2.2.2.2.2.2.2.1.2.1 | exact (hG W e).2.2.2.2.2.2.2.1.2.2.1 | exact (hG W e).2.2.2.2.2.2.2.1.2.2.2.1 | exact (hG W e).2.2.2.2.2.2.2.1.2.2.2 | exact (hG W e).2.2.2.2.2.2.2.2 | exact (hG W e).2.2.2.2.2.2.2.2.1 | exact (hG W e).2.2.2.2.2.2.2.2.1.1 | exact (hG W e).2.2.2.2.2.2.2.2.1.2 | exact (hG W e).2.2.2.2.2.2.2.2.1.2.1 | exact (hG W e).2.2.2.2.2.2.2.2.1.2.2.1 | exact (hG W e).2.2.2.2.2.2.2.2.1.2.2.2.1 | exact (hG W e).2.2.2.2.2.2.2.2.1.2.2.2 | exact (hG W e).2.2.2.2.2.2.2.2.2) : Inx.r W (d, (da, dc), (ra, rc))).1⟩) (by have := (hok d hdi).ents; omega)) fun y W hr => ?_
      obtain ⟨⟨ea, ec⟩, r, e⟩ := y
      simp only at hr
      simp (maxSteps := 2000000) -implicitDefEqProofs [hN]
      refine drawK ok mixed (by kernel_rfl) ?_
      simp (maxSteps := 2000000) -implicitDefEqProofs [hN]
      have hdo := hok d hdi
      refine call0 ok rfl rfl rfl (fun w I hI hG => putDeed0 w I hI { d with ents := r } (ea, ec) (ra, rc)) fun _ W _ => ?_
      simp (maxSteps := 2000000) -implicitDefEqProofs [hN]
      refine call0 ok rfl rfl rfl (fun w I hI hG => letGo0 w I hI x (xa, xc) (ya, yc) (fun W e => ((by first | exact (hG W e) | exact (hG W e).1 | exact (hG W e).1.1 | exact (hG W e).1.2 | exact (hG W e).1.2.1 | exact (hG W e).1.2.2.1 | exact (hG W e).1.2.2.2.1 | exact (hG W e).1.2.2.2 | exact (hG W e).2 | exact (hG W e).2.1 | exact (hG W e).2.1.1 | exact (hG W e).2.1.2 | exact (hG W e).2.1.2.1 | exact (hG W e).2.1.2.2.1 | exact (hG W e).2.1.2.2.2.1 | exact (hG W e).2.1.2.2.2 | exact (hG W e).2.2 | exact (hG W e).2.2.1 | exact (hG W e).2.2.1.1 | exact (hG W e).2.2.1.2 | exact (hG W e).2.2.1.2.1 | exact (hG W e).2.2.1.2.2.1 | exact (hG W e).2.2.1.2.2.2.1 | exact (hG W e).2.2.1.2.2.2 | exact (hG W e).2.2.2 | exact (hG W e).2.2.2.1 | exact (hG W e).2.2.2.1.1 | exact (hG W e).2.2.2.1.2 | exact (hG W e).2.2.2.1.2.1 | exact (hG W e).2.2.2.1.2.2.1 | exact (hG W e).2.2.2.1.2.2.2.1 | exact (hG W e).2.2.2.1.2.2.2 | exact (hG W e).2.2.2.2 | exact (hG W e).2.2.2.2.1 | exact (hG W e).2.2.2.2.1.1 | exact (hG W e).2.2.2.2.1.2 | exact (hG W e).2.2.2.2.1.2.1 | exact (hG W e).2.2.2.2.1.2.2.1 | exact (hG W e).2.2.2.2.1.2.2.2.1 | exact (hG W e).2.2.2.2.1.2.2.2 | exact (hG W e).2.2.2.2.2 | exact (hG W e).2.2.2.2.2.1 | exact (hG W e).2.2.2.2.2.1.1 | exact (hG W e).2.2.2.2.2.1.2 | exact (hG W e).2.2.2.2.2.1.2.1 | exact (hG W e).2.2.2.2.2.1.2.2.1 | exact (hG W e).2.2.2.2.2.1.2.2.2.1 | exact (hG W e).2.2.2.2.2.1.2.2.2 | exact (hG W e).2.2.2.2.2.2 | exact (hG W e).2.2.2.2.2.2.1 | exact (hG W e).2.2.2.2.2.2.1.1 | exact (hG W e).2.2.2.2.2.2.1.2 | exact (hG W e).2.2.2.2.2.2.1.2.1 | exact (hG W e).2.2.2.2.2.2.1.2.2.1 | exact (hG W e).2.2.2.2.2.2.1.2.2.2.1 | exact (hG W e).2.2.2.2.2.2.1.2.2.2 | exact (hG W e).2.2.2.2.2.2.2 | exact (hG W e).2.2.2.2.2.2.2.1 | exact (hG W e).2.2.2.2.2.2.2.1.1 | exact (hG W e).2.2.2.2.2.2.2.1.2 | exact (hG W e).2.2.2.2.2.2.2.1.2.1 | exact (hG W e).2.2.2.2.2.2.2.1.2.2.1 | exact (hG W e).2.2.2.2.2.2.2.1.2.2.2.1 | exact (hG W e).2.2.2.2.2.2.2.1.2.2.2 | exact (hG W e).2.2.2.2.2.2.2.2 | exact (hG W e).2.2.2.2.2.2.2.2.1 | exact (hG W e).2.2.2.2.2.2.2.2.1.1 | exact (hG W e).2.2.2.2.2.2.2.2.1.2 | exact (hG W e).2.2.2.2.2.2.2.2.1.2.1 | exact (hG W e).2.2.2.2.2.2.2.2.1.2.2.1 | exact (hG W e).2.2.2.2.2.2.2.2.1.2.2.2.1 | exact (hG W e).2.2.2.2.2.2.2.2.1.2.2.2 | exact (hG W e).2.2.2.2.2.2.2.2.2) : Inx.r W (x, (xa, xc), (ya, yc))))) fun z W hz => ?_
      obtain ⟨z, ⟨za, zc⟩, ⟨ta, tc⟩⟩ := z
      simp (maxSteps := 2000000) -implicitDefEqProofs [hN]
      intro g39
      exact ret0 hC ((some ⟨g39, 0, none⟩, 2), [⟨2, 0, { d with ents := r }⟩, z], 0) rfl fun W hp hG => ⟨dees_sl (l := [(⟨2, 0, { d with ents := r }⟩, (ea, ec), (ra, rc)), (z, (za, zc), (ta, tc))]) (e := 41) hp.1 (fun y hy => by
        simp only [List.mem_cons, List.not_mem_nil, or_false] at hy
        rcases hy with rfl | rfl
        · exact ⟨hG.2.1.1, hG.2.2.1.1.2⟩
        · exact hG.1.1) (by simp), deeds_two (.inr ⟨rfl, inoOk_ents (v := d.links) hdo (by have := hdo.ents; omega) (fun q hq => hdo.names q (hr.2.2 q hq)), d, hdi, rfl, rfl⟩) (letGo_ok hxi (hok x hxi) hz.2)⟩
  · simp (maxSteps := 2000000) -implicitDefEqProofs [hN, he]
    intro g8 g10
    exact ret0 hC ((none, 0), [], e) rfl fun W _ _ => nl W
set_option maxRecDepth 100000 in
set_option maxHeartbeats 4000000 in
theorem rmdir0 (w : World) (I : Nat → Prop) (hI : ∀ b, I b → b < w.heap.size) (s : Sta) (si sb : Sl) (path : ByteArray) (h : ∀ W, Ext I w W → StaR W s si sb) (hl : s.inos.length ≤ 1000) (hok : ∀ x, x ∈ s.inos → InoOk x) :
    Fn0 Try.prog 90 #[.agg (staC s si sb).toArray, .string path] w I (fun y : Sl × List Dee × Int => .tuple #[.slice y.1.1 y.2.1.length y.1.2, .int .i64 y.2.2]) (fun y W => Sl.ok dDee W y.1 y.2.1 ∧ DeedsOk s y.2.1) := by
  refine enter (svs := [.ag ((staC s si sb).map .v), .c (.v (.string path))]) tysOk Try.func90 rfl Try.ntmps90 Try.results90 (by kernel_rfl) (by simp) hI (fun W => StaR W s si sb) h fun C hC hN ok => ?_
  obtain ⟨ia, ic⟩ := si
  obtain ⟨ba, bc⟩ := sb
  have nl : ∀ (W : World), Sl.ok dDee W (none, 0) [] ∧ DeedsOk s [] := fun W => ⟨nilSl dDee W, deedsNil s⟩
  simp [hN]
  intro g2
  refine call0 ok rfl rfl rfl (fun w I hI hG => entry0 w I hI s (ia, ic) (ba, bc) path hG (by omega)) fun y W hy => ?_
  obtain ⟨⟨d, ⟨da, dc⟩, ⟨ra, rc⟩⟩, nm, ⟨x, ⟨xa, xc⟩, ⟨ya, yc⟩⟩, e⟩ := y
  by_cases he : e = 0
  · subst he
    obtain ⟨_, _, hnm, _, hin⟩ := hy
    obtain ⟨hdi, hxi⟩ := hin rfl
    simp only at hdi hxi hnm
    by_cases k2 : x.kind = 2
    · simp (maxSteps := 2000000) -implicitDefEqProofs [hN, k2]
      intro g6 g8
      refine ⟨fun hpos => ret0 hC ((none, 0), [], 15) rfl fun W _ _ => nl W, fun hem => ?_⟩
      have hdo := hok d hdi
      refine call0 ok rfl rfl rfl (fun w I hI hG => removeEntry0 w I hI d.ents nm (fun W e => ⟨rfl, ((by first | exact (hG W e) | exact (hG W e).1 | exact (hG W e).1.1 | exact (hG W e).1.2 | exact (hG W e).1.2.1 | exact (hG W e).1.2.2.1 | exact (hG W e).1.2.2.2.1 | exact (hG W e).1.2.2.2 | exact (hG W e).2 | exact (hG W e).2.1 | exact (hG W e).2.1.1 | exact (hG W e).2.1.2 | exact (hG W e).2.1.2.1 | exact (hG W e).2.1.2.2.1 | exact (hG W e).2.1.2.2.2.1 | exact (hG W e).2.1.2.2.2 | exact (hG W e).2.2 | exact (hG W e).2.2.1 | exact (hG W e).2.2.1.1 | exact (hG W e).2.2.1.2 | exact (hG W e).2.2.1.2.1 | exact (hG W e).2.2.1.2.2.1 | exact (hG W e).2.2.1.2.2.2.1 | exact (hG W e).2.2.1.2.2.2 | exact (hG W e).2.2.2 | exact (hG W e).2.2.2.1 | exact (hG W e).2.2.2.1.1 | exact (hG W e).2.2.2.1.2 | exact (hG W e).2.2.2.1.2.1 | exact (hG W e).2.2.2.1.2.2.1 | exact (hG W e).2.2.2.1.2.2.2.1 | exact (hG W e).2.2.2.1.2.2.2 | exact (hG W e).2.2.2.2 | exact (hG W e).2.2.2.2.1 | exact (hG W e).2.2.2.2.1.1 | exact (hG W e).2.2.2.2.1.2 | exact (hG W e).2.2.2.2.1.2.1 | exact (hG W e).2.2.2.2.1.2.2.1 | exact (hG W e).2.2.2.2.1.2.2.2.1 | exact (hG W e).2.2.2.2.1.2.2.2 | exact (hG W e).2.2.2.2.2 | exact (hG W e).2.2.2.2.2.1 | exact (hG W e).2.2.2.2.2.1.1 | exact (hG W e).2.2.2.2.2.1.2 | exact (hG W e).2.2.2.2.2.1.2.1 | exact (hG W e).2.2.2.2.2.1.2.2.1 | exact (hG W e).2.2.2.2.2.1.2.2.2.1 | exact (hG W e).2.2.2.2.2.1.2.2.2 | exact (hG W e).2.2.2.2.2.2 | exact (hG W e).2.2.2.2.2.2.1 | exact (hG W e).2.2.2.2.2.2.1.1 | exact (hG W e).2.2.2.2.2.2.1.2 | exact (hG W e).2.2.2.2.2.2.1.2.1 | exact (hG W e).2.2.2.2.2.2.1.2.2.1 | exact (hG W e).2.2.2.2.2.2.1.2.2.2.1 | exact (hG W e).2.2.2.2.2.2.1.2.2.2 | exact (hG W e).2.2.2.2.2.2.2 | exact (hG W e).2.2.2.2.2.2.2.1 | exact (hG W e).2.2.2.2.2.2.2.1.1 | exact (hG W e).2.2.2.2.2.2.2.1.2 | exact (hG W e).2.2.2.2.2.2.2.1.2.1 | exact (hG W e).2.2.2.2.2.2.2.1.2.2.1 | exact (hG W e).2.2.2.2.2.2.2.1.2.2.2.1 | exact (hG W e).2.2.2.2.2.2.2.1.2.2.2 | exact (hG W e).2.2.2.2.2.2.2.2 | exact (hG W e).2.2.2.2.2.2.2.2.1 | exact (hG W e).2.2.2.2.2.2.2.2.1.1 | exact (hG W e).2.2.2.2.2.2.2.2.1.2 | exact (hG W e).2.2.2.2.2.2.2.2.1.2.1 | exact (hG W e).2.2.2.2.2.2.2.2.1.2.2.1 | exact (hG W e).2.2.2.2.2.2.2.2.1.2.2.2.1 | exact (hG W e).2.2.2.2.2.2.2.2.1.2.2.2 | exact (hG W e).2.2.2.2.2.2.2.2.2) : Inx.r W (d, (da, dc), (ra, rc))).1⟩) (by have := hdo.ents; omega)) fun y W hr => ?_
      obtain ⟨⟨ea, ec⟩, r, e⟩ := y
      simp only at hr
      simp (maxSteps := 2000000) -implicitDefEqProofs [hN]
      refine drawK ok mixed (by kernel_rfl) ?_
      simp (maxSteps := 2000000) -implicitDefEqProofs [hN]
      refine call0 ok rfl rfl rfl (fun w I hI hG => putDeed0 w I hI { d with links := IntKind.i64.wrap (d.links - 1), ents := r } (ea, ec) (ra, rc)) fun _ W _ => ?_
      simp (maxSteps := 2000000) -implicitDefEqProofs [hN]
      intro g48
      exact ret0 hC ((some ⟨g48, 0, none⟩, 2), [⟨2, 0, { d with links := IntKind.i64.wrap (d.links - 1), ents := r }⟩, ⟨3, x.no, inoZ⟩], 0) rfl fun W hp hG => ⟨dees_sl (l := [(⟨2, 0, { d with links := IntKind.i64.wrap (d.links - 1), ents := r }⟩, (ea, ec), (ra, rc)), (⟨3, x.no, inoZ⟩, (none, 0), (none, 0))]) (e := 41) hp.1 (fun y hy => by
        simp only [List.mem_cons, List.not_mem_nil, or_false] at hy
        rcases hy with rfl | rfl
        · exact ⟨hG.1.1, hG.2.1.1.2⟩
        · exact inoNilR W) (by simp), deeds_two (.inr ⟨rfl, inoOk_ents hdo (by have := hdo.ents; omega) (fun q hq => hdo.names q (hr.2.2 q hq)), d, hdi, rfl, rfl⟩) (.inr (.inl rfl))⟩
    · simp (maxSteps := 2000000) -implicitDefEqProofs [hN, k2]
      intro g6 g8
      exact ret0 hC ((none, 0), [], 13) rfl fun W _ _ => nl W
  · simp (maxSteps := 2000000) -implicitDefEqProofs [hN, he]
    intro g8 g10
    exact ret0 hC ((none, 0), [], e) rfl fun W _ _ => nl W
end Go.Proofs.Ytbbaoeidobdblaa.Sx

/- Hard (a hard link) of the reference. -/
set_option linter.unusedVariables false
set_option linter.unusedSimpArgs false
namespace Go.Proofs.Ytbbaoeidobdblaa.Sx
open Go
attribute [local simp ↓] ifb_true' ifb_false'
attribute [local simp] ifb_true ifb_false ifb_eq sx argsT find ev evOp evs evo evBin evInt evStr evNil evNilA ptrA slcA isNoneA asB evLoad look del cellsB evUn evConv kdec fld evFieldA evField evIdxA evIdx evSlc bndL bndH evLen mmi put resV guardV gvL setO tupV cellsOf ones one upd lits nv exitTo SV.val CV.val TI.agg rdyA allR keepB scan simpO gsp isS subs keepT pickT wr memN pubs Res.fact Region.binds bld rest give delL back Res.eqv vi vb num Sv.val undef
theorem inoOkZ : InoOk inoZ := ⟨fun j hj => by simp [inoZ] at hj, by simp [inoZ], by simp [inoZ], by simp [inoZ]; decide⟩
/-- An inode that was sought, put again. -/
theorem sought_ok {s : Sta} (hok : ∀ x, x ∈ s.inos → InoOk x) {x : Ino} (h : x ∈ s.inos ∨ x = inoZ) {v : Int} : SameD s ⟨2, 0, { x with links := v }⟩ ∨ LastD ⟨2, 0, { x with links := v }⟩ := by
  rcases h with h | rfl
  · exact .inl (.inr ⟨rfl, inoOk_links (hok x h), x, h, rfl, rfl⟩)
  · exact .inr (.inr ⟨rfl, inoOk_links inoOkZ, rfl⟩)
theorem ents_ok {d : Ino} (h : InoOk d) {l r : List Ent} (hl : l.length ≤ 100) (hn : ∀ x, x ∈ l → x.name.size ≤ 32) {en : Ent} (hr : EntsP l en r) : r.length ≤ 100 ∧ ∀ x, x ∈ r → x.name.size ≤ 32 := ⟨hr.2.1, fun x hx => by
  rcases hr.2.2 x hx with h1 | ⟨h1, h2⟩
  · exact hn x h1
  · rw [h1]; exact h2⟩
set_option maxRecDepth 100000 in
set_option maxHeartbeats 4000000 in
theorem hard0 (w : World) (I : Nat → Prop) (hI : ∀ b, I b → b < w.heap.size) (s : Sta) (si sb : Sl) (old path : ByteArray) (h : ∀ W, Ext I w W → StaR W s si sb) (hl : s.inos.length ≤ 1000) (hok : ∀ x, x ∈ s.inos → InoOk x) :
    Fn0 Try.prog 87 #[.agg (staC s si sb).toArray, .string old, .string path] w I (fun y : Sl × List Dee × Int => .tuple #[.slice y.1.1 y.2.1.length y.1.2, .int .i64 y.2.2]) (fun y W => Sl.ok dDee W y.1 y.2.1 ∧ DeedsOk s y.2.1) := by
  refine enter (svs := [.ag ((staC s si sb).map .v), .c (.v (.string old)), .c (.v (.string path))]) tysOk Try.func87 rfl Try.ntmps87 Try.results87 (by kernel_rfl) (by simp) hI (fun W => StaR W s si sb) h fun C hC hN ok => ?_
  obtain ⟨ia, ic⟩ := si
  obtain ⟨ba, bc⟩ := sb
  have nl : ∀ (W : World), Sl.ok dDee W (none, 0) [] ∧ DeedsOk s [] := fun W => ⟨nilSl dDee W, deedsNil s⟩
  simp [hN]
  intro g3
  refine call0 ok rfl rfl rfl (fun w I hI hG => resolve0 w I hI s (ia, ic) (ba, bc) old false hG (by omega)) fun y W _ => ?_
  obtain ⟨no, e⟩ := y
  by_cases he : e = 0
  · subst he
    simp (maxSteps := 2000000) -implicitDefEqProofs [hN]
    refine call0 ok rfl rfl rfl (fun w I hI hG => findIno0 w I hI s (ia, ic) (ba, bc) no (fun W e => ((by first | exact (hG W e) | exact (hG W e).1 | exact (hG W e).1.1 | exact (hG W e).1.2 | exact (hG W e).1.2.1 | exact (hG W e).1.2.2.1 | exact (hG W e).1.2.2.2.1 | exact (hG W e).1.2.2.2 | exact (hG W e).2 | exact (hG W e).2.1 | exact (hG W e).2.1.1 | exact (hG W e).2.1.2 | exact (hG W e).2.1.2.1 | exact (hG W e).2.1.2.2.1 | exact (hG W e).2.1.2.2.2.1 | exact (hG W e).2.1.2.2.2 | exact (hG W e).2.2 | exact (hG W e).2.2.1 | exact (hG W e).2.2.1.1 | exact (hG W e).2.2.1.2 | exact (hG W e).2.2.1.2.1 | exact (hG W e).2.2.1.2.2.1 | exact (hG W e).2.2.1.2.2.2.1 | exact (hG W e).2.2.1.2.2.2 | exact (hG W e).2.2.2 | exact (hG W e).2.2.2.1 | exact (hG W e).2.2.2.1.1 | exact (hG W e).2.2.2.1.2 | exact (hG W e).2.2.2.1.2.1 | exact (hG W e).2.2.2.1.2.2.1 | exact (hG W e).2.2.2.1.2.2.2.1 | exact (hG W e).2.2.2.1.2.2.2 | exact (hG W e).2.2.2.2 | exact (hG W e).2.2.2.2.1 | exact (hG W e).2.2.2.2.1.1 | exact (hG W e).2.2.2.2.1.2 | exact (hG W e).2.2.2.2.1.2.1 | exact (hG W e).2.2.2.2.1.2.2.1 | exact (hG W e).2.2.2.2.1.2.2.2.1 | exact (hG W e).2.2.2.2.1.2.2.2 | exact (hG W e).2.2.2.2.2 | exact (hG W e).2.2.2.2.2.1 | exact (hG W e).2.2.2.2.2.1.1 | exact (hG W e).2.2.2.2.2.1.2 | exact (hG W e).2.2.2.2.2.1.2.1 | exact (hG W e).2.2.2.2.2.1.2.2.1 | exact (hG W e).2.2.2.2.2.1.2.2.2.1 | exact (hG W e).2.2.2.2.2.1.2.2.2 | exact (hG W e).2.2.2.2.2.2 | exact (hG W e).2.2.2.2.2.2.1 | exact (hG W e).2.2.2.2.2.2.1.1 | exact (hG W e).2.2.2.2.2.2.1.2 | exact (hG W e).2.2.2.2.2.2.1.2.1 | exact (hG W e).2.2.2.2.2.2.1.2.2.1 | exact (hG W e).2.2.2.2.2.2.1.2.2.2.1 | exact (hG W e).2.2.2.2.2.2.1.2.2.2 | exact (hG W e).2.2.2.2.2.2.2 | exact (hG W e).2.2.2.2.2.2.2.1 | exact (hG W e).2.2.2.2.2.2.2.1.1 | exact (hG W e).2.2.2.2.2.2.2.1.2 | exact (hG W e).2.2.2.2.2.2.2.1.2.1 | exact (hG W e).2.2.2.2.2.2.2.1.2.2.1 | exact (hG W e).2.2.2.2.2.2.2.1.2.2.2.1 | exact (hG W e).2.2.2.2.2.2.2.1.2.2.2 | exact (hG W e).2.2.2.2.2.2.2.2 | exact (hG W e).2.2.2.2.2.2.2.2.1 | exact (hG W e).2.2.2.2.2.2.2.2.1.1 | exact (hG W e).2.2.2.2.2.2.2.2.1.2 | exact (hG W e).2.2.2.2.2.2.2.2.1.2.1 | exact (hG W e).2.2.2.2.2.2.2.2.1.2.2.1 | exact (hG W e).2.2.2.2.2.2.2.2.1.2.2.2.1 | exact (hG W e).2.2.2.2.2.2.2.2.1.2.2.2 | exact (hG W e).2.2.2.2.2.2.2.2.2) : StaR W s (ia, ic) (ba, bc))) (by omega)) fun y W hx => ?_
    obtain ⟨⟨x, ⟨xa, xc⟩, ⟨ya, yc⟩⟩, has⟩ := y
    have hxi : x ∈ s.inos ∨ x = inoZ := by
      cases has with
      | true => exact .inl (hx.2.1 rfl).1
      | false => exact .inr (hx.2.2 rfl).1
    replace hx := hx.1
    by_cases k2 : x.kind = 2
    · simp (maxSteps := 2000000) -implicitDefEqProofs [hN, k2]
      intro g10
      exact ret0 hC ((none, 0), [], 14) rfl fun W _ _ => nl W
    · simp (maxSteps := 2000000) -implicitDefEqProofs [hN, k2]
      intro g10
      refine call0 ok rfl rfl rfl (fun w I hI hG => parent0 w I hI s (ia, ic) (ba, bc) path (fun W e => ((by first | exact (hG W e) | exact (hG W e).1 | exact (hG W e).1.1 | exact (hG W e).1.2 | exact (hG W e).1.2.1 | exact (hG W e).1.2.2.1 | exact (hG W e).1.2.2.2.1 | exact (hG W e).1.2.2.2 | exact (hG W e).2 | exact (hG W e).2.1 | exact (hG W e).2.1.1 | exact (hG W e).2.1.2 | exact (hG W e).2.1.2.1 | exact (hG W e).2.1.2.2.1 | exact (hG W e).2.1.2.2.2.1 | exact (hG W e).2.1.2.2.2 | exact (hG W e).2.2 | exact (hG W e).2.2.1 | exact (hG W e).2.2.1.1 | exact (hG W e).2.2.1.2 | exact (hG W e).2.2.1.2.1 | exact (hG W e).2.2.1.2.2.1 | exact (hG W e).2.2.1.2.2.2.1 | exact (hG W e).2.2.1.2.2.2 | exact (hG W e).2.2.2 | exact (hG W e).2.2.2.1 | exact (hG W e).2.2.2.1.1 | exact (hG W e).2.2.2.1.2 | exact (hG W e).2.2.2.1.2.1 | exact (hG W e).2.2.2.1.2.2.1 | exact (hG W e).2.2.2.1.2.2.2.1 | exact (hG W e).2.2.2.1.2.2.2 | exact (hG W e).2.2.2.2 | exact (hG W e).2.2.2.2.1 | exact (hG W e).2.2.2.2.1.1 | exact (hG W e).2.2.2.2.1.2 | exact (hG W e).2.2.2.2.1.2.1 | exact (hG W e).2.2.2.2.1.2.2.1 | exact (hG W e).2.2.2.2.1.2.2.2.1 | exact (hG W e).2.2.2.2.1.2.2.2 | exact (hG W e).2.2.2.2.2 | exact (hG W e).2.2.2.2.2.1 | exact (hG W e).2.2.2.2.2.1.1 | exact (hG W e).2.2.2.2.2.1.2 | exact (hG W e).2.2.2.2.2.1.2.1 | exact (hG W e).2.2.2.2.2.1.2.2.1 | exact (hG W e).2.2.2.2.2.1.2.2.2.1 | exact (hG W e).2.2.2.2.2.1.2.2.2 | exact (hG W e).2.2.2.2.2.2 | exact (hG W e).2.2.2.2.2.2.1 | exact (hG W e).2.2.2.2.2.2.1.1 | exact (hG W e).2.2.2.2.2.2.1.2 | exact (hG W e).2.2.2.2.2.2.1.2.1 | exact (hG W e).2.2.2.2.2.2.1.2.2.1 | exact (hG W e).2.2.2.2.2.2.1.2.2.2.1 | exact (hG W e).2.2.2.2.2.2.1.2.2.2 | exact (hG W e).2.2.2.2.2.2.2 | exact (hG W e).2.2.2.2.2.2.2.1 | exact (hG W e).2.2.2.2.2.2.2.1.1 | exact (hG W e).2.2.2.2.2.2.2.1.2 | exact (hG W e).2.2.2.2.2.2.2.1.2.1 | exact (hG W e).2.2.2.2.2.2.2.1.2.2.1 | exact (hG W e).2.2.2.2.2.2.2.1.2.2.2.1 | exact (hG W e).2.2.2.2.2.2.2.1.2.2.2 | exact (hG W e).2.2.2.2.2.2.2.2 | exact (hG W e).2.2.2.2.2.2.2.2.1 | exact (hG W e).2.2.2.2.2.2.2.2.1.1 | exact (hG W e).2.2.2.2.2.2.2.2.1.2 | exact (hG W e).2.2.2.2.2.2.2.2.1.2.1 | exact (hG W e).2.2.2.2.2.2.2.2.1.2.2.1 | exact (hG W e).2.2.2.2.2.2.2.2.1.2.2.2.1 | exact (hG W e).2.2.2.2.2.2.2.2.1.2.2.2 | exact (hG W e).2.2.2.2.2.2.2.2.2) : StaR W s (ia, ic) (ba, bc))) (by omega)) fun y W hp => ?_
      obtain ⟨dir, nm, e⟩ := y
      by_cases he : e = 0
      · subst he
        simp (maxSteps := 2000000) -implicitDefEqProofs [hN]
        refine call0 ok rfl rfl rfl (fun w I hI hG => findIno0 w I hI s (ia, ic) (ba, bc) dir (fun W e => ((by first | exact (hG W e) | exact (hG W e).1 | exact (hG W e).1.1 | exact (hG W e).1.2 | exact (hG W e).1.2.1 | exact (hG W e).1.2.2.1 | exact (hG W e).1.2.2.2.1 | exact (hG W e).1.2.2.2 | exact (hG W e).2 | exact (hG W e).2.1 | exact (hG W e).2.1.1 | exact (hG W e).2.1.2 | exact (hG W e).2.1.2.1 | exact (hG W e).2.1.2.2.1 | exact (hG W e).2.1.2.2.2.1 | exact (hG W e).2.1.2.2.2 | exact (hG W e).2.2 | exact (hG W e).2.2.1 | exact (hG W e).2.2.1.1 | exact (hG W e).2.2.1.2 | exact (hG W e).2.2.1.2.1 | exact (hG W e).2.2.1.2.2.1 | exact (hG W e).2.2.1.2.2.2.1 | exact (hG W e).2.2.1.2.2.2 | exact (hG W e).2.2.2 | exact (hG W e).2.2.2.1 | exact (hG W e).2.2.2.1.1 | exact (hG W e).2.2.2.1.2 | exact (hG W e).2.2.2.1.2.1 | exact (hG W e).2.2.2.1.2.2.1 | exact (hG W e).2.2.2.1.2.2.2.1 | exact (hG W e).2.2.2.1.2.2.2 | exact (hG W e).2.2.2.2 | exact (hG W e).2.2.2.2.1 | exact (hG W e).2.2.2.2.1.1 | exact (hG W e).2.2.2.2.1.2 | exact (hG W e).2.2.2.2.1.2.1 | exact (hG W e).2.2.2.2.1.2.2.1 | exact (hG W e).2.2.2.2.1.2.2.2.1 | exact (hG W e).2.2.2.2.1.2.2.2 | exact (hG W e).2.2.2.2.2 | exact (hG W e).2.2.2.2.2.1 | exact (hG W e).2.2.2.2.2.1.1 | exact (hG W e).2.2.2.2.2.1.2 | exact (hG W e).2.2.2.2.2.1.2.1 | exact (hG W e).2.2.2.2.2.1.2.2.1 | exact (hG W e).2.2.2.2.2.1.2.2.2.1 | exact (hG W e).2.2.2.2.2.1.2.2.2 | exact (hG W e).2.2.2.2.2.2 | exact (hG W e).2.2.2.2.2.2.1 | exact (hG W e).2.2.2.2.2.2.1.1 | exact (hG W e).2.2.2.2.2.2.1.2 | exact (hG W e).2.2.2.2.2.2.1.2.1 | exact (hG W e).2.2.2.2.2.2.1.2.2.1 | exact (hG W e).2.2.2.2.2.2.1.2.2.2.1 | exact (hG W e).2.2.2.2.2.2.1.2.2.2 | exact (hG W e).2.2.2.2.2.2.2 | exact (hG W e).2.2.2.2.2.2.2.1 | exact (hG W e).2.2.2.2.2.2.2.1.1 | exact (hG W e).2.2.2.2.2.2.2.1.2 | exact (hG W e).2.2.2.2.2.2.2.1.2.1 | exact (hG W e).2.2.2.2.2.2.2.1.2.2.1 | exact (hG W e).2.2.2.2.2.2.2.1.2.2.2.1 | exact (hG W e).2.2.2.2.2.2.2.1.2.2.2 | exact (hG W e).2.2.2.2.2.2.2.2 | exact (hG W e).2.2.2.2.2.2.2.2.1 | exact (hG W e).2.2.2.2.2.2.2.2.1.1 | exact (hG W e).2.2.2.2.2.2.2.2.1.2 | exact (hG W e).2.2.2.2.2.2.2.2.1.2.1 | exact (hG W e).2.2.2.2.2.2.2.2.1.2.2.1 | exact (hG W e).2.2.2.2.2.2.2.2.1.2.2.2.1 | exact (hG W e).2.2.2.2.2.2.2.2.1.2.2.2 | exact (hG W e).2.2.2.2.2.2.2.2.2) : StaR W s (ia, ic) (ba, bc))) (by omega)) fun y W hd => ?_
        obtain ⟨⟨d, ⟨da, dc⟩, ⟨ra, rc⟩⟩, had⟩ := y
        have hdi : d ∈ s.inos := by
          cases had with
          | true => exact (hd.2.1 rfl).1
          | false =>
            obtain ⟨z, hz, hn⟩ := hp.2 rfl
            exact absurd hn ((hd.2.2 rfl).2 z hz)
        have hdo := hok d hdi
        simp (maxSteps := 2000000) -implicitDefEqProofs [hN]
        intro g14
        refine call0 ok rfl rfl rfl (fun w I hI hG => find0 w I hI d.ents nm (fun W e => ⟨rfl, ((by first | exact (hG W e) | exact (hG W e).1 | exact (hG W e).1.1 | exact (hG W e).1.2 | exact (hG W e).1.2.1 | exact (hG W e).1.2.2.1 | exact (hG W e).1.2.2.2.1 | exact (hG W e).1.2.2.2 | exact (hG W e).2 | exact (hG W e).2.1 | exact (hG W e).2.1.1 | exact (hG W e).2.1.2 | exact (hG W e).2.1.2.1 | exact (hG W e).2.1.2.2.1 | exact (hG W e).2.1.2.2.2.1 | exact (hG W e).2.1.2.2.2 | exact (hG W e).2.2 | exact (hG W e).2.2.1 | exact (hG W e).2.2.1.1 | exact (hG W e).2.2.1.2 | exact (hG W e).2.2.1.2.1 | exact (hG W e).2.2.1.2.2.1 | exact (hG W e).2.2.1.2.2.2.1 | exact (hG W e).2.2.1.2.2.2 | exact (hG W e).2.2.2 | exact (hG W e).2.2.2.1 | exact (hG W e).2.2.2.1.1 | exact (hG W e).2.2.2.1.2 | exact (hG W e).2.2.2.1.2.1 | exact (hG W e).2.2.2.1.2.2.1 | exact (hG W e).2.2.2.1.2.2.2.1 | exact (hG W e).2.2.2.1.2.2.2 | exact (hG W e).2.2.2.2 | exact (hG W e).2.2.2.2.1 | exact (hG W e).2.2.2.2.1.1 | exact (hG W e).2.2.2.2.1.2 | exact (hG W e).2.2.2.2.1.2.1 | exact (hG W e).2.2.2.2.1.2.2.1 | exact (hG W e).2.2.2.2.1.2.2.2.1 | exact (hG W e).2.2.2.2.1.2.2.2 | exact (hG W e).2.2.2.2.2 | exact (hG W e).2.2.2.2.2.1 | exact (hG W e).2.2.2.2.2.1.1 | exact (hG W e).2.2.2.2.2.1.2 | exact (hG W e).2.2.2.2.2.1.2.1 | exact (hG W e).2.2.2.2.2.1.2.2.1 | exact (hG W e).2.2.2.2.2.1.2.2.2.1 | exact (hG W e).2.2.2.2.2.1.2.2.2 | exact (hG W e).2.2.2.2.2.2 | exact (hG W e).2.2.2.2.2.2.1 | exact (hG W e).2.2.2.2.2.2.1.1 | exact (hG W e).2.2.2.2.2.2.1.2 | exact (hG W e).2.2.2.2.2.2.1.2.1 | exact (hG W e).2.2.2.2.2.2.1.2.2.1 | exact (hG W e).2.2.2.2.2.2.1.2.2.2.1 | exact (hG W e).2.2.2.2.2.2.1.2.2.2 | exact (hG W e).2.2.2.2.2.2.2 | exact (hG W e).2.2.2.2.2.2.2.1 | exact (hG W e).2.2.2.2.2.2.2.1.1 | exact (hG W e).2.2.2.2.2.2.2.1.2 | exact (hG W e).2.2.2.2.2.2.2.1.2.1 | exact (hG W e).2.2.2.2.2.2.2.1.2.2.1 | exact (hG W e).2.2.2.2.2.2.2.1.2.2.2.1 | exact (hG W e).2.2.2.2.2.2.2.1.2.2.2 | exact (hG W e).2.2.2.2.2.2.2.2 | exact (hG W e).2.2.2.2.2.2.2.2.1 | exact (hG W e).2.2.2.2.2.2.2.2.1.1 | exact (hG W e).2.2.2.2.2.2.2.2.1.2 | exact (hG W e).2.2.2.2.2.2.2.2.1.2.1 | exact (hG W e).2.2.2.2.2.2.2.2.1.2.2.1 | exact (hG W e).2.2.2.2.2.2.2.2.1.2.2.2.1 | exact (hG W e).2.2.2.2.2.2.2.2.1.2.2.2 | exact (hG W e).2.2.2.2.2.2.2.2.2) : InoR W d (da, dc) (ra, rc)).1⟩)) fun y W hf => ?_
        obtain ⟨no3, is⟩ := y
        cases is with
        | true =>
          simp (maxSteps := 2000000) -implicitDefEqProofs [hN]
          exact ret0 hC ((none, 0), [], 12) rfl fun W _ _ => nl W
        | false =>
          by_cases hlk : 100 ≤ x.links
          · simp (maxSteps := 2000000) -implicitDefEqProofs [hN, hlk]
            exact ret0 hC ((none, 0), [], 18) rfl fun W _ _ => nl W
          · simp (maxSteps := 2000000) -implicitDefEqProofs [hN, hlk]
            refine call0 ok rfl rfl rfl (fun w I hI hG => addEntry0 w I hI d.ents ⟨nm, no⟩ (fun W e => ⟨rfl, ((by first | exact (hG W e) | exact (hG W e).1 | exact (hG W e).1.1 | exact (hG W e).1.2 | exact (hG W e).1.2.1 | exact (hG W e).1.2.2.1 | exact (hG W e).1.2.2.2.1 | exact (hG W e).1.2.2.2 | exact (hG W e).2 | exact (hG W e).2.1 | exact (hG W e).2.1.1 | exact (hG W e).2.1.2 | exact (hG W e).2.1.2.1 | exact (hG W e).2.1.2.2.1 | exact (hG W e).2.1.2.2.2.1 | exact (hG W e).2.1.2.2.2 | exact (hG W e).2.2 | exact (hG W e).2.2.1 | exact (hG W e).2.2.1.1 | exact (hG W e).2.2.1.2 | exact (hG W e).2.2.1.2.1 | exact (hG W e).2.2.1.2.2.1 | exact (hG W e).2.2.1.2.2.2.1 | exact (hG W e).2.2.1.2.2.2 | exact (hG W e).2.2.2 | exact (hG W e).2.2.2.1 | exact (hG W e).2.2.2.1.1 | exact (hG W e).2.2.2.1.2 | exact (hG W e).2.2.2.1.2.1 | exact (hG W e).2.2.2.1.2.2.1 | exact (hG W e).2.2.2.1.2.2.2.1 | exact (hG W e).2.2.2.1.2.2.2 | exact (hG W e).2.2.2.2 | exact (hG W e).2.2.2.2.1 | exact (hG W e).2.2.2.2.1.1 | exact (hG W e).2.2.2.2.1.2 | exact (hG W e).2.2.2.2.1.2.1 | exact (hG W e).2.2.2.2.1.2.2.1 | exact (hG W e).2.2.2.2.1.2.2.2.1 | exact (hG W e).2.2.2.2.1.2.2.2 | exact (hG W e).2.2.2.2.2 | exact (hG W e).2.2.2.2.2.1 | exact (hG W e).2.2.2.2.2.1.1 | exact (hG W e).2.2.2.2.2.1.2 | exact (hG W e).2.2.2.2.2.1.2.1 | exact (hG W e).2.2.2.2.2.1.2.2.1 | exact (hG W e).2.2.2.2.2.1.2.2.2.1 | exact (hG W e).2.2.2.2.2.1.2.2.2 | exact (hG W e).2.2.2.2.2.2 | exact (hG W e).2.2.2.2.2.2.1 | exact (hG W e).2.2.2.2.2.2.1.1 | exact (hG W e).2.2.2.2.2.2.1.2 | exact (hG W e).2.2.2.2.2.2.1.2.1 | exact (hG W e).2.2.2.2.2.2.1.2.2.1 | exact (hG W e).2.2.2.2.2.2.1.2.2.2.1 | exact (hG W e).2.2.2.2.2.2.1.2.2.2 | exact (hG W e).2.2.2.2.2.2.2 | exact (hG W e).2.2.2.2.2.2.2.1 | exact (hG W e).2.2.2.2.2.2.2.1.1 | exact (hG W e).2.2.2.2.2.2.2.1.2 | exact (hG W e).2.2.2.2.2.2.2.1.2.1 | exact (hG W e).2.2.2.2.2.2.2.1.2.2.1 | exact (hG W e).2.2.2.2.2.2.2.1.2.2.2.1 | exact (hG W e).2.2.2.2.2.2.2.1.2.2.2 | exact (hG W e).2.2.2.2.2.2.2.2 | exact (hG W e).2.2.2.2.2.2.2.2.1 | exact (hG W e).2.2.2.2.2.2.2.2.1.1 | exact (hG W e).2.2.2.2.2.2.2.2.1.2 | exact (hG W e).2.2.2.2.2.2.2.2.1.2.1 | exact (hG W e).2.2.2.2.2.2.2.2.1.2.2.1 | exact (hG W e).2.2.2.2.2.2.2.2.1.2.2.2.1 | exact (hG W e).2.2.2.2.2.2.2.2.1.2.2.2 | exact (hG W e).2.2.2.2.2.2.2.2.2) : InoR W d (da, dc) (ra, rc)).1⟩) (by have := hp.1; simp only at this ⊢; omega)) fun y W ha => ?_
            obtain ⟨⟨ea, ec⟩, r, e⟩ := y
            by_cases he : e = 0
            · subst he
              have hent := ents_ok hdo hdo.ents hdo.names ha.2
              simp only at hent
              simp (maxSteps := 2000000) -implicitDefEqProofs [hN]
              refine drawK ok mixed (by kernel_rfl) ?_
              simp (maxSteps := 2000000) -implicitDefEqProofs [hN]
              refine call0 ok rfl rfl rfl (fun w I hI hG => putDeed0 w I hI { d with ents := r } (ea, ec) (ra, rc)) fun _ W _ => ?_
              simp (maxSteps := 2000000) -implicitDefEqProofs [hN]
              refine call0 ok rfl rfl rfl (fun w I hI hG => putDeed0 w I hI { x with links := IntKind.i64.wrap (x.links + 1) } (xa, xc) (ya, yc)) fun _ W _ => ?_
              simp (maxSteps := 2000000) -implicitDefEqProofs [hN]
              intro g86
              exact ret0 hC ((some ⟨g86, 0, none⟩, 2), [⟨2, 0, { d with ents := r }⟩, ⟨2, 0, { x with links := IntKind.i64.wrap (x.links + 1) }⟩], 0) rfl fun W hp hG => ⟨dees_sl (l := [(⟨2, 0, { d with ents := r }⟩, (ea, ec), (ra, rc)), (⟨2, 0, { x with links := IntKind.i64.wrap (x.links + 1) }⟩, (xa, xc), (ya, yc))]) (e := 41) hp.1 (fun y hy => by
                simp only [List.mem_cons, List.not_mem_nil, or_false] at hy
                rcases hy with rfl | rfl
                · exact ⟨((by first | exact (hG) | exact (hG).1 | exact (hG).1.1 | exact (hG).1.2 | exact (hG).1.2.1 | exact (hG).1.2.2.1 | exact (hG).1.2.2.2.1 | exact (hG).1.2.2.2 | exact (hG).2 | exact (hG).2.1 | exact (hG).2.1.1 | exact (hG).2.1.2 | exact (hG).2.1.2.1 | exact (hG).2.1.2.2.1 | exact (hG).2.1.2.2.2.1 | exact (hG).2.1.2.2.2 | exact (hG).2.2 | exact (hG).2.2.1 | exact (hG).2.2.1.1 | exact (hG).2.2.1.2 | exact (hG).2.2.1.2.1 | exact (hG).2.2.1.2.2.1 | exact (hG).2.2.1.2.2.2.1 | exact (hG).2.2.1.2.2.2 | exact (hG).2.2.2 | exact (hG).2.2.2.1 | exact (hG).2.2.2.1.1 | exact (hG).2.2.2.1.2 | exact (hG).2.2.2.1.2.1 | exact (hG).2.2.2.1.2.2.1 | exact (hG).2.2.2.1.2.2.2.1 | exact (hG).2.2.2.1.2.2.2 | exact (hG).2.2.2.2 | exact (hG).2.2.2.2.1 | exact (hG).2.2.2.2.1.1 | exact (hG).2.2.2.2.1.2 | exact (hG).2.2.2.2.1.2.1 | exact (hG).2.2.2.2.1.2.2.1 | exact (hG).2.2.2.2.1.2.2.2.1 | exact (hG).2.2.2.2.1.2.2.2 | exact (hG).2.2.2.2.2 | exact (hG).2.2.2.2.2.1 | exact (hG).2.2.2.2.2.1.1 | exact (hG).2.2.2.2.2.1.2 | exact (hG).2.2.2.2.2.1.2.1 | exact (hG).2.2.2.2.2.1.2.2.1 | exact (hG).2.2.2.2.2.1.2.2.2.1 | exact (hG).2.2.2.2.2.1.2.2.2 | exact (hG).2.2.2.2.2.2 | exact (hG).2.2.2.2.2.2.1 | exact (hG).2.2.2.2.2.2.1.1 | exact (hG).2.2.2.2.2.2.1.2 | exact (hG).2.2.2.2.2.2.1.2.1 | exact (hG).2.2.2.2.2.2.1.2.2.1 | exact (hG).2.2.2.2.2.2.1.2.2.2.1 | exact (hG).2.2.2.2.2.2.1.2.2.2 | exact (hG).2.2.2.2.2.2.2 | exact (hG).2.2.2.2.2.2.2.1 | exact (hG).2.2.2.2.2.2.2.1.1 | exact (hG).2.2.2.2.2.2.2.1.2 | exact (hG).2.2.2.2.2.2.2.1.2.1 | exact (hG).2.2.2.2.2.2.2.1.2.2.1 | exact (hG).2.2.2.2.2.2.2.1.2.2.2.1 | exact (hG).2.2.2.2.2.2.2.1.2.2.2 | exact (hG).2.2.2.2.2.2.2.2 | exact (hG).2.2.2.2.2.2.2.2.1 | exact (hG).2.2.2.2.2.2.2.2.1.1 | exact (hG).2.2.2.2.2.2.2.2.1.2 | exact (hG).2.2.2.2.2.2.2.2.1.2.1 | exact (hG).2.2.2.2.2.2.2.2.1.2.2.1 | exact (hG).2.2.2.2.2.2.2.2.1.2.2.2.1 | exact (hG).2.2.2.2.2.2.2.2.1.2.2.2 | exact (hG).2.2.2.2.2.2.2.2.2) : Sl.ok dEnt W (ea, ec) r), ((by first | exact (hG) | exact (hG).1 | exact (hG).1.1 | exact (hG).1.2 | exact (hG).1.2.1 | exact (hG).1.2.2.1 | exact (hG).1.2.2.2.1 | exact (hG).1.2.2.2 | exact (hG).2 | exact (hG).2.1 | exact (hG).2.1.1 | exact (hG).2.1.2 | exact (hG).2.1.2.1 | exact (hG).2.1.2.2.1 | exact (hG).2.1.2.2.2.1 | exact (hG).2.1.2.2.2 | exact (hG).2.2 | exact (hG).2.2.1 | exact (hG).2.2.1.1 | exact (hG).2.2.1.2 | exact (hG).2.2.1.2.1 | exact (hG).2.2.1.2.2.1 | exact (hG).2.2.1.2.2.2.1 | exact (hG).2.2.1.2.2.2 | exact (hG).2.2.2 | exact (hG).2.2.2.1 | exact (hG).2.2.2.1.1 | exact (hG).2.2.2.1.2 | exact (hG).2.2.2.1.2.1 | exact (hG).2.2.2.1.2.2.1 | exact (hG).2.2.2.1.2.2.2.1 | exact (hG).2.2.2.1.2.2.2 | exact (hG).2.2.2.2 | exact (hG).2.2.2.2.1 | exact (hG).2.2.2.2.1.1 | exact (hG).2.2.2.2.1.2 | exact (hG).2.2.2.2.1.2.1 | exact (hG).2.2.2.2.1.2.2.1 | exact (hG).2.2.2.2.1.2.2.2.1 | exact (hG).2.2.2.2.1.2.2.2 | exact (hG).2.2.2.2.2 | exact (hG).2.2.2.2.2.1 | exact (hG).2.2.2.2.2.1.1 | exact (hG).2.2.2.2.2.1.2 | exact (hG).2.2.2.2.2.1.2.1 | exact (hG).2.2.2.2.2.1.2.2.1 | exact (hG).2.2.2.2.2.1.2.2.2.1 | exact (hG).2.2.2.2.2.1.2.2.2 | exact (hG).2.2.2.2.2.2 | exact (hG).2.2.2.2.2.2.1 | exact (hG).2.2.2.2.2.2.1.1 | exact (hG).2.2.2.2.2.2.1.2 | exact (hG).2.2.2.2.2.2.1.2.1 | exact (hG).2.2.2.2.2.2.1.2.2.1 | exact (hG).2.2.2.2.2.2.1.2.2.2.1 | exact (hG).2.2.2.2.2.2.1.2.2.2 | exact (hG).2.2.2.2.2.2.2 | exact (hG).2.2.2.2.2.2.2.1 | exact (hG).2.2.2.2.2.2.2.1.1 | exact (hG).2.2.2.2.2.2.2.1.2 | exact (hG).2.2.2.2.2.2.2.1.2.1 | exact (hG).2.2.2.2.2.2.2.1.2.2.1 | exact (hG).2.2.2.2.2.2.2.1.2.2.2.1 | exact (hG).2.2.2.2.2.2.2.1.2.2.2 | exact (hG).2.2.2.2.2.2.2.2 | exact (hG).2.2.2.2.2.2.2.2.1 | exact (hG).2.2.2.2.2.2.2.2.1.1 | exact (hG).2.2.2.2.2.2.2.2.1.2 | exact (hG).2.2.2.2.2.2.2.2.1.2.1 | exact (hG).2.2.2.2.2.2.2.2.1.2.2.1 | exact (hG).2.2.2.2.2.2.2.2.1.2.2.2.1 | exact (hG).2.2.2.2.2.2.2.2.1.2.2.2 | exact (hG).2.2.2.2.2.2.2.2.2) : InoR W d (da, dc) (ra, rc)).2⟩
                · exact ((by first | exact (hG) | exact (hG).1 | exact (hG).1.1 | exact (hG).1.2 | exact (hG).1.2.1 | exact (hG).1.2.2.1 | exact (hG).1.2.2.2.1 | exact (hG).1.2.2.2 | exact (hG).2 | exact (hG).2.1 | exact (hG).2.1.1 | exact (hG).2.1.2 | exact (hG).2.1.2.1 | exact (hG).2.1.2.2.1 | exact (hG).2.1.2.2.2.1 | exact (hG).2.1.2.2.2 | exact (hG).2.2 | exact (hG).2.2.1 | exact (hG).2.2.1.1 | exact (hG).2.2.1.2 | exact (hG).2.2.1.2.1 | exact (hG).2.2.1.2.2.1 | exact (hG).2.2.1.2.2.2.1 | exact (hG).2.2.1.2.2.2 | exact (hG).2.2.2 | exact (hG).2.2.2.1 | exact (hG).2.2.2.1.1 | exact (hG).2.2.2.1.2 | exact (hG).2.2.2.1.2.1 | exact (hG).2.2.2.1.2.2.1 | exact (hG).2.2.2.1.2.2.2.1 | exact (hG).2.2.2.1.2.2.2 | exact (hG).2.2.2.2 | exact (hG).2.2.2.2.1 | exact (hG).2.2.2.2.1.1 | exact (hG).2.2.2.2.1.2 | exact (hG).2.2.2.2.1.2.1 | exact (hG).2.2.2.2.1.2.2.1 | exact (hG).2.2.2.2.1.2.2.2.1 | exact (hG).2.2.2.2.1.2.2.2 | exact (hG).2.2.2.2.2 | exact (hG).2.2.2.2.2.1 | exact (hG).2.2.2.2.2.1.1 | exact (hG).2.2.2.2.2.1.2 | exact (hG).2.2.2.2.2.1.2.1 | exact (hG).2.2.2.2.2.1.2.2.1 | exact (hG).2.2.2.2.2.1.2.2.2.1 | exact (hG).2.2.2.2.2.1.2.2.2 | exact (hG).2.2.2.2.2.2 | exact (hG).2.2.2.2.2.2.1 | exact (hG).2.2.2.2.2.2.1.1 | exact (hG).2.2.2.2.2.2.1.2 | exact (hG).2.2.2.2.2.2.1.2.1 | exact (hG).2.2.2.2.2.2.1.2.2.1 | exact (hG).2.2.2.2.2.2.1.2.2.2.1 | exact (hG).2.2.2.2.2.2.1.2.2.2 | exact (hG).2.2.2.2.2.2.2 | exact (hG).2.2.2.2.2.2.2.1 | exact (hG).2.2.2.2.2.2.2.1.1 | exact (hG).2.2.2.2.2.2.2.1.2 | exact (hG).2.2.2.2.2.2.2.1.2.1 | exact (hG).2.2.2.2.2.2.2.1.2.2.1 | exact (hG).2.2.2.2.2.2.2.1.2.2.2.1 | exact (hG).2.2.2.2.2.2.2.1.2.2.2 | exact (hG).2.2.2.2.2.2.2.2 | exact (hG).2.2.2.2.2.2.2.2.1 | exact (hG).2.2.2.2.2.2.2.2.1.1 | exact (hG).2.2.2.2.2.2.2.2.1.2 | exact (hG).2.2.2.2.2.2.2.2.1.2.1 | exact (hG).2.2.2.2.2.2.2.2.1.2.2.1 | exact (hG).2.2.2.2.2.2.2.2.1.2.2.2.1 | exact (hG).2.2.2.2.2.2.2.2.1.2.2.2 | exact (hG).2.2.2.2.2.2.2.2.2) : InoR W x (xa, xc) (ya, yc))) (by simp), deeds_two (.inr ⟨rfl, inoOk_ents (v := d.links) hdo hent.1 hent.2, d, hdi, rfl, rfl⟩) (sought_ok hok hxi)⟩
            · simp (maxSteps := 2000000) -implicitDefEqProofs [hN, he]
              exact ret0 hC ((none, 0), [], e) rfl fun W _ _ => nl W
      · simp (maxSteps := 2000000) -implicitDefEqProofs [hN, he]
        exact ret0 hC ((none, 0), [], e) rfl fun W _ _ => nl W
  · simp (maxSteps := 2000000) -implicitDefEqProofs [hN, he]
    exact ret0 hC ((none, 0), [], e) rfl fun W _ _ => nl W
end Go.Proofs.Ytbbaoeidobdblaa.Sx

/- Laid together: Sk14, Sxq, Sk71, Sk74, Sp16, Sk87, Sk90, Sk91, Sp18, Sk94, Sk96, Rdk, Rdk3, JournalPlays. -/
import Derived.Test.YtbbaoeidobdblaaGreatJI8
import Derived.Test.YtbbaoeidobdblaaGreatRows
import Derived.ChangeArms
import Derived.JoinedCond
/- References: new inodes and states; geometries. -/
set_option linter.unusedVariables false
set_option linter.unusedSimpArgs false
namespace Go.Proofs.YtbbaoeidobdblaaGreat.Sx
open Go
attribute [local simp ↓] ifb_true' ifb_false'
attribute [local simp] ifb_true ifb_false ifb_eq sx argsT find ev evOp evs evo evBin evInt evStr evNil evNilA ptrA slcA isNoneA asB evLoad look del cellsB evUn evConv kdec fld evFieldA evField evIdxA evIdx evSlc bndL bndH evLen mmi put resV guardV gvL setO tupV cellsOf ones one upd lits nv exitTo SV.val CV.val TI.agg rdyA allR keepB scan simpO gsp isS subs keepT pickT wr memN pubs Res.fact Region.binds bld rest give delL back Res.eqv vi vb num Sv.val undef
theorem newIno0 (w : World) (I : Nat → Prop) (hI : ∀ b, I b → b < w.heap.size) (no kind : Int) (t : ByteArray) :
    Fn0 Tryz.prog 60 #[.int .i64 no, .int .i64 kind, .string t] w I (fun _ : Unit => .agg (inoC (newIno no kind t) (none, 0) (none, 0)).toArray) (fun y W => True) := by
  refine enter (svs := [.c (.v (.int .i64 no)), .c (.v (.int .i64 kind)), .c (.v (.string t))]) tysOk Tryz.func60 rfl Tryz.ntmps60 Tryz.results60 (by kernel_rfl) (by simp) hI (fun _ => True) (fun _ _ => trivial) fun C hC hN ok => ?_
  by_cases k2 : kind = 2
  · subst k2
    simp [hN]
    exact fun g1 g2 => ret0 hC () rfl fun _ _ _ => trivial
  · by_cases k3 : kind = 3
    · subst k3
      simp [hN]
      exact fun g1 g2 => ret0 hC () rfl fun _ _ _ => trivial
    · simp [hN, k2, k3]
      exact fun g1 g2 => ret0 hC () (by simp [newIno, k2, k3, emp]) fun _ _ _ => trivial
theorem newSta0 (w : World) (I : Nat → Prop) (hI : ∀ b, I b → b < w.heap.size) :
    Fn0 Tryz.prog 16 #[] w I (fun y : Sl => .agg (staC newSta y (none, 0)).toArray) (fun y W => StaR W newSta y (none, 0)) := by
  refine enter (svs := []) tysOk Tryz.func16 rfl Tryz.ntmps16 Tryz.results16 (by kernel_rfl) (by simp) hI (fun _ => True) (fun _ _ => trivial) fun C hC hN ok => ?_
  simp [hN]
  intro g1
  refine call0 ok rfl rfl rfl (fun w I hI hG => newIno0 w I hI 1 2 emp) fun y W _ => ?_
  simp [hN]
  intro g2
  refine ret0 hC (some ⟨g2, 0, none⟩, 1) rfl fun W hp _ => ?_
  have h1 : Rows dIno W [newIno 1 2 emp] (inoC (newIno 1 2 emp) (none, 0) (none, 0)) := by
    refine Rows.cons_iff.2 ⟨_, [], (List.append_nil _).symm, ⟨(none, 0), (none, 0), rfl, ⟨Nat.le_refl _, by simp [newIno], rd_nil _ _ _⟩, ⟨Nat.le_refl _, by simp [newIno], rd_nil _ _ _⟩⟩, rows_nil _ _⟩
  have h2 : W.ownsRow 0 44 7 (.slice (some ⟨g2, 0, none⟩) 1 1) 1 (inoC (newIno 1 2 emp) (none, 0) (none, 0)) := by simpa [newIno, emp, inoC] using hp.2.1
  obtain ⟨k1, k2, k3⟩ := h1.rd h2 (by decide)
  exact ⟨⟨by simp [newSta], by simp [newSta], k3⟩, ⟨Nat.le_refl _, by simp [newSta], rd_nil _ _ _⟩⟩
end Go.Proofs.YtbbaoeidobdblaaGreat.Sx

/- Sx, part 17: bytes that nobody changes are copied into a row of one's own; what reads goes on reading. -/
set_option linter.unusedVariables false
set_option linter.unusedSimpArgs false
namespace Go.Proofs.YtbbaoeidobdblaaGreat.Sx
open Go
section
variable {P : Program} {C : Ctx} {T : Ty} {res : List ResultVar} {p : Pos} {tm : Tm} {m : Mem}
/-- Many ends have one road on, which hangs on something. -/
theorem cutKc {Goal : Prop} {p : Pos} {β : Type} (ok : Okc P T C res) (tm0 : β → Tm) (G0 : β → World → Prop) (rs0 : β → List (Nat × Res)) (rest : ∀ x, sx T C res 1000 p (tm0 x) ⟨fun _ => True, G0 x, rs0 x⟩) (main : (∀ x tm m, (∀ W, m.G W → G0 x W) → subs tm (tm0 x) ∧ keepB m.rs (rs0 x) → At C p tm m) → Goal) : Goal := main fun x => cutAt ok (tm0 x) (G0 x) (rs0 x) (rest x)
end
end Go.Proofs.YtbbaoeidobdblaaGreat.Sx

/- power.Cut, On. -/
set_option linter.unusedVariables false
set_option linter.unusedSimpArgs false
namespace Go.Proofs.YtbbaoeidobdblaaGreat.Sx
open Go
attribute [local simp ↓] ifb_true' ifb_false'
attribute [local simp] ifb_true ifb_false ifb_eq sx argsT find ev evOp evs evo evBin evInt evStr evNil evNilA ptrA slcA isNoneA asB evLoad look del cellsB evUn evConv kdec fld evFieldA evField evIdxA evIdx evSlc bndL bndH evLen mmi put resV guardV gvL setO tupV cellsOf ones one upd lits nv exitTo SV.val CV.val TI.agg rdyA allR keepB scan simpO gsp isS subs keepT pickT wr memN pubs Res.fact Region.binds bld rest give delL back Res.eqv vi vb num Sv.val undef
def Pw.cut (p : Pw) (left mask : Int) : Pw := { p with left := if left < -1 then -1 else left, mask := mask }
theorem cut0 (w : World) (I S : Nat → Prop) (hI : ∀ b, I b → b < w.heap.size) (gp : Nat) (p : Pw) (fl : Value) (left mask : Int) (hS : Owns [.box gp 108 (powB p fl)] S w) (hSI : ∀ b, S b → b < w.heap.size ∧ ¬ I b) :
    FnS Tryz.prog 30 #[ptrV gp, .int .i64 left, .int .u8 mask] w I S (fun _ : Unit => .tuple #[]) (fun _ => [.box gp 108 (powB (p.cut left mask) fl)]) (fun _ _ => True) := by
  refine enterS (svs := [.c (.bp 1000 gp 0), .c (.v (.int .i64 left)), .c (.v (.int .u8 mask))]) tysOk Tryz.func30 rfl Tryz.ntmps30 Tryz.results30 (by kernel_rfl) (by simp) hI [.box gp 108 (powB p fl)] hS hSI (fun _ => True) (fun _ _ => trivial) fun C hC hN ok => ?_
  obtain ⟨l0, m0, off, done⟩ := p
  simp [hN]
  exact retS hC () [1000] rfl (by simp [Pw.cut]) fun _ _ _ => trivial
theorem on0 (w : World) (I S : Nat → Prop) (hI : ∀ b, I b → b < w.heap.size) (gp : Nat) (p : Pw) (fl : Value) (hS : Owns [.box gp 108 (powB p fl)] S w) (hSI : ∀ b, S b → b < w.heap.size ∧ ¬ I b) :
    FnS Tryz.prog 31 #[ptrV gp] w I S (fun _ : Unit => .tuple #[]) (fun _ => [.box gp 108 (powB p.on fl)]) (fun _ _ => True) := by
  refine enterS (svs := [.c (.bp 1000 gp 0)]) tysOk Tryz.func31 rfl Tryz.ntmps31 Tryz.results31 (by kernel_rfl) (by simp) hI [.box gp 108 (powB p fl)] hS hSI (fun _ => True) (fun _ _ => trivial) fun C hC hN ok => ?_
  obtain ⟨l0, m0, off, done⟩ := p
  simp [hN]
  exact retS hC () [1000] rfl (by simp [Pw.on]) fun _ _ _ => trivial
end Go.Proofs.YtbbaoeidobdblaaGreat.Sx

/- The reference's power. -/
set_option linter.unusedVariables false
set_option linter.unusedSimpArgs false
namespace Go.Proofs.YtbbaoeidobdblaaGreat.Sx
open Go
attribute [local simp ↓] ifb_true' ifb_false'
attribute [local simp] ifb_true ifb_false ifb_eq sx argsT find ev evOp evs evo evBin evInt evStr evNil evNilA ptrA slcA isNoneA asB evLoad look del cellsB evUn evConv kdec fld evFieldA evField evIdxA evIdx evSlc bndL bndH evLen mmi put resV guardV gvL setO tupV cellsOf ones one upd lits nv exitTo SV.val CV.val TI.agg rdyA allR keepB scan simpO gsp isS subs keepT pickT wr memN pubs Res.fact Region.binds bld rest give delL back Res.eqv vi vb num Sv.val undef
theorem rpCut0 (w : World) (I S : Nat → Prop) (hI : ∀ b, I b → b < w.heap.size) (gp : Nat) (p : Pw) (left mask : Int) (hS : Owns [.box gp 79 (rpB p)] S w) (hSI : ∀ b, S b → b < w.heap.size ∧ ¬ I b) :
    FnS Tryz.prog 38 #[ptrV gp, .int .i64 left, .int .u8 mask] w I S (fun _ : Unit => .tuple #[]) (fun _ => [.box gp 79 (rpB (p.cut left mask))]) (fun _ _ => True) := by
  refine enterS (svs := [.c (.bp 1000 gp 0), .c (.v (.int .i64 left)), .c (.v (.int .u8 mask))]) tysOk Tryz.func38 rfl Tryz.ntmps38 Tryz.results38 (by kernel_rfl) (by simp) hI [.box gp 79 (rpB p)] hS hSI (fun _ => True) (fun _ _ => trivial) fun C hC hN ok => ?_
  obtain ⟨l0, m0, off, done⟩ := p
  have hc : (if left < -1 then -1 else left) = if -1 < left then left else -1 := by split <;> split <;> omega
  by_cases h : -1 < left
  · simp [hN, h]
    exact retS hC () [1000] rfl (by simp [Pw.cut, hc, h]) fun _ _ _ => trivial
  · simp [hN, h]
    exact retS hC () [1000] rfl (by simp [Pw.cut, hc, h]) fun _ _ _ => trivial
theorem rpOn0 (w : World) (I S : Nat → Prop) (hI : ∀ b, I b → b < w.heap.size) (gp : Nat) (p : Pw) (hS : Owns [.box gp 79 (rpB p)] S w) (hSI : ∀ b, S b → b < w.heap.size ∧ ¬ I b) :
    FnS Tryz.prog 36 #[ptrV gp] w I S (fun _ : Unit => .tuple #[]) (fun _ => [.box gp 79 (rpB p.on)]) (fun _ _ => True) := by
  refine enterS (svs := [.c (.bp 1000 gp 0)]) tysOk Tryz.func36 rfl Tryz.ntmps36 Tryz.results36 (by kernel_rfl) (by simp) hI [.box gp 79 (rpB p)] hS hSI (fun _ => True) (fun _ _ => trivial) fun C hC hN ok => ?_
  obtain ⟨l0, m0, off, done⟩ := p
  simp [hN]
  exact retS hC () [1000] rfl (by simp [Pw.on]) fun _ _ _ => trivial
end Go.Proofs.YtbbaoeidobdblaaGreat.Sx

/- Plain: a record as the reference reads it; chips that have the same bytes. -/
set_option linter.unusedVariables false
set_option linter.unusedSimpArgs false
namespace Go.Proofs.YtbbaoeidobdblaaGreat.Sx
open Go
theorem commit_tw {j k : Jn} (h : Jw j k) (l : List Dee) (x y : Sl × Sl) : (commitM k l y).1 = (commitM j l x).1 ∧ Jw (commitM j l x).2 (commitM k l y).2 := by
  unfold commitM
  rw [h.ended, h.c.halfSz, h.used, h.s, h.half]
  obtain ⟨h3, h4⟩ := append_tw h.c j.half j.used (deedsB l)
  rw [h3]
  split
  · exact ⟨rfl, h⟩
  · split
    · exact anew_tw h _ _ _ _ _
    · split
      · exact ⟨rfl, h4, by first | rfl | exact h.half, h.ep, by first | rfl | exact h.used, by first | rfl | exact h.s, rfl⟩
      · exact ⟨rfl, h4, by first | rfl | exact h.half, h.ep, rfl, rfl, by first | rfl | exact h.ended⟩
theorem wks_tw {c d : Cp} (h : Tw c d) : Tw (wks c 2) (wks d 2) := (wipe_tw (wipe_tw h 0).2 1).2
theorem form_tw {c d : Cp} (h : Tw c d) (x y : Nat × Sl) : (formC d).1 = (formC c).1 ∧ Jw (formJ c x) (formJ d y) := by
  obtain ⟨h1, h2⟩ := append_tw (wks_tw h) 0 0 (firstB 1 newSta)
  exact ⟨h1, h2, rfl, rfl, rfl, rfl, rfl⟩
theorem isB_set {b : List Int} (hb : isB b) (o n : Nat) (m : Int) : isB (setM b o n m) := fun y hy => by
  rcases List.mem_append.1 hy with hy | hy
  · rcases List.mem_append.1 hy with hy | hy
    · exact hb y (List.mem_of_mem_take hy)
    · obtain ⟨z, _, rfl⟩ := List.mem_map.1 hy
      exact bor_byte' _ _
  · exact hb y (List.mem_of_mem_drop hy)
theorem erase_isB {c : Cp} (h : isB c.b) (i : Nat) : isB (eraseM c i).2.b := by
  unfold eraseM
  rcases c.p.step with ⟨a, t, q⟩
  cases a with
  | true => exact isB_set h _ _ _
  | false =>
    cases t with
    | true => exact isB_set h _ _ _
    | false => exact h
theorem wipeN_isB (base : Nat) : ∀ (k : Nat) {c : Cp}, isB c.b → isB (wipeN c base k).2.b
  | 0, c, h => h
  | k + 1, c, h => by
    unfold wipeN
    split
    · exact erase_isB h _
    · exact wipeN_isB base k (erase_isB h _)
theorem wipe_isB {c : Cp} (h : isB c.b) (i : Nat) : isB (wipeM c i).2.b := wipeN_isB _ _ h
theorem anew_isB {j : Jn} (h : isB j.c.b) (s : Sta) (si sb : Sl) : isB (anewM j s si sb).2.c.b := by
  have h1 := wipe_isB h (1 - j.half)
  have h2 := append_isB h1 (1 - j.half) 0 (firstB_isB (j.ep + 1) s)
  unfold anewM
  split
  · exact h
  · split
    · exact h1
    · split
      · exact h2
      · exact h2
theorem commit_isB {j : Jn} (h : isB j.c.b) (l : List Dee) (x : Sl × Sl) : isB (commitM j l x).2.c.b := by
  have h2 := append_isB h j.half j.used (deedsB_isB l)
  unfold commitM
  split
  · exact h
  · split
    · exact anew_isB h _ _ _
    · split
      · exact h2
      · exact h2
theorem form_isB {c : Cp} (h : isB c.b) : isB (formC c).2.b := append_isB (wipe_isB (wipe_isB h 0) 1) _ _ (firstB_isB 1 newSta)
theorem open_isB {c : Cp} (h : isB c.b) (x : Nat × Sl × Sl) : isB (openM c x).2.c.b := by
  unfold openM
  split
  · exact h
  · split
    · exact anew_isB (j := openJ c x) h _ _ _
    · exact h
end Go.Proofs.YtbbaoeidobdblaaGreat.Sx

/- ref17: first, anew, Format. -/
set_option linter.unusedVariables false
set_option linter.unusedSimpArgs false
namespace Go.Proofs.YtbbaoeidobdblaaGreat.Sx
open Go
attribute [local simp ↓] ifb_true' ifb_false'
attribute [local simp] ifb_true ifb_false ifb_eq sx argsT find ev evOp evs evo evBin evInt evStr evNil evNilA ptrA slcA isNoneA asB evLoad look del cellsB evUn evConv kdec fld evFieldA evField evIdxA evIdx evSlc bndL bndH evLen mmi put resV guardV gvL setO tupV cellsOf ones one upd lits nv exitTo SV.val CV.val TI.agg rdyA allR keepB scan simpO gsp isS subs keepT pickT wr memN pubs Res.fact Region.binds bld rest give delL back Res.eqv vi vb num Sv.val undef
set_option maxHeartbeats 2000000 in
theorem refFormat0 (w : World) (I S : Nat → Prop) (hI : ∀ b, I b → b < w.heap.size) (r : Rc) (hf : r.c.fit) (hct : (r.ct.length : Int) = r.c.g.sectors) (h0 : (wipeM r.c 0).1 = 0) (h1 : (wipeM (wipeM r.c 0).2 1).1 = 0) (h2 : (formC r.c).1 = 0) (hS : Owns r.res S w) (hSI : ∀ b, S b → b < w.heap.size ∧ ¬ I b) :
    FnS Tryz.prog 35 #[ptrV r.c.gc] w I S (fun x : (Nat × Sl) × List Int => .tuple #[ptrV x.1.1, .int .i64 0]) (fun x => (Rj.mk (formJ r.c x.1) r.gk r.kc x.2).res) (fun x W => StaR W newSta x.1.2 (none, 0) ∧ x.2.length = r.ct.length) := by
  obtain ⟨c, gk, kc, ct⟩ := r
  simp only at hf hct h0 h1 h2
  refine enterS (svs := [.c (.bp 1000 c.gc 0)]) tysOk Tryz.func35 rfl Tryz.ntmps35 Tryz.results35 (by kernel_rfl) (by simp) hI (Rc.mk c gk kc ct).res hS hSI (fun _ => True) (fun _ _ => trivial) fun C hC hN ok => ?_
  simp only at hC
  simp [hN]
  refine loopK [0] ok (fun y : Nat × List Int => [(4, .c (.v (.int .i64 (y.1 : Nat))))]) (fun y => [(1000, (Rc.mk (wks c y.1) gk kc y.2).chip), (1001, (Rc.mk (wks c y.1) gk kc y.2).pow), (1002, (Rc.mk (wks c y.1) gk kc y.2).row), (1003, (Rc.mk (wks c y.1) gk kc y.2).cnt)]) (fun y W => y.1 ≤ 2 ∧ y.2.length = ct.length) (fun y => 2 - y.1) (0, ct) ?_ ?_ (fun W hW => ⟨Nat.zero_le _, rfl⟩) ?_
  · simp
  · simp [wks]
  rintro ⟨i, ct2⟩ W ⟨hi, hc2⟩ hG next
  simp only at hi hc2
  rcases Nat.lt_or_ge i 2 with hlt | hge
  · have e1 : IntKind.i64.wrap ((i : Int) + 1) = (i + 1 : Nat) := by rw [w64 (by omega) (by omega)]; omega
    have hs := wks_same hf i
    have hlt' : (i : Int) < 2 := by omega
    have hz : (wipeM (wks c i) i).1 = 0 ∧ (wipeM (wks c i) i).2 = wks c (i + 1) := by
      match i, hlt with
      | 0, _ => exact ⟨h0, rfl⟩
      | 1, _ => exact ⟨h1, rfl⟩
    simp [hN, hlt']
    refine callS ok rfl rfl rfl [1000, 1001, 1002, 1003] (Rc.mk (wks c i) gk kc ct2).res (by simp) rfl (fun ct' : List Int => [(1000, (Rc.mk (wks c (i + 1)) gk kc ct').chip), (1001, (Rc.mk (wks c (i + 1)) gk kc ct').pow), (1002, (Rc.mk (wks c (i + 1)) gk kc ct').row), (1003, (Rc.mk (wks c (i + 1)) gk kc ct').cnt)]) (fun w I S hI hG hO hS' => by have := refWipe0 w I S hI (Rc.mk (wks c i) gk kc ct2) i hlt hs.2 (by rw [hc2, hs.1.g]; exact hct) hO hS'; rw [hs.1.gc, hz.1, hz.2] at this; exact this) (fun r => by simp) (.inr fun x q hq => by simp at hq; rcases hq with rfl | rfl | rfl | rfl <;> simp) fun ct' W hct' => ?_
    simp [hN, e1]
    exact next (i + 1, ct') _ _ (by simp only; omega) (fun W h => ⟨⟨by simp only; omega, hct'.trans hc2⟩, trivial⟩) (by simp)
  · obtain rfl : i = 2 := by omega
    have hs := wks_same hf 2
    simp [hN]
    refine call0 ok rfl rfl rfl (fun w I hI hG => newSta0 w I hI) fun y W hy => ?_
    simp [hN]
    refine call0 ok rfl rfl rfl (fun w I hI hG => first17G_0 w I hI 1 newSta y (none, 0) (fun W e => (hG W e).1) (by decide) (by have := firstB_length 1 newSta; rw [first_new] at this; omega)) fun b W hb => ?_
    have hbl := first_new
    have hbb := firstB_byte 1 newSta
    have hFC : formC c = appendM (wks c 2) 0 0 (firstB 1 newSta) := rfl
    obtain ⟨fb, hfb⟩ : ∃ fb, fb = firstB 1 newSta := ⟨_, rfl⟩
    rw [← hfb] at hbl hbb hFC
    simp only [← hfb]
    simp [hN]
    refine callS ok rfl rfl rfl [1000, 1001, 1002, 1003] (Rc.mk (wks c 2) gk kc ct2).res (by simp) rfl (fun _ : Int => [(1000, (Rc.mk (formC c).2 gk kc ct2).chip), (1001, (Rc.mk (formC c).2 gk kc ct2).pow), (1002, (Rc.mk (formC c).2 gk kc ct2).row), (1003, (Rc.mk (formC c).2 gk kc ct2).cnt)]) (fun w I S hI hG hO hS' => by have := refAppend0 w I S hI (Rc.mk (wks c 2) gk kc ct2) 0 0 (by omega) hs.2 (by omega) fb b (fun W e => (hG W e).1) hbb hO hS'; rw [hs.1.gc] at this; simp only [← hFC] at this; exact this) (fun r => by simp) (.inr fun x q hq => by simp at hq; rcases hq with rfl | rfl | rfl | rfl <;> simp) fun ee W hee => ?_
    replace hee : ee = 0 := by have := hee (by omega); rw [this]; first | exact h2 | (rw [← hFC]; exact h2)
    subst hee
    simp [hN]
    refine call0 ok rfl rfl rfl (fun w I hI hG => newSta0 w I hI) fun y2 W hy2 => ?_
    have e3 : IntKind.i64.wrap ((fb.length : Int) + 7) = fb.length + 7 := w64 (by omega) (by omega)
    have hap := append_same hs.2 (h := 0) (o := 0) (by omega) (b := fb)
    rw [← hFC] at hap
    simp [hN, e3]
    intro g32
    exact retS hC ((g32, y2), ct2) [1000, 1001, 1002, 1003, 32] rfl (by simp [formJ, hap.1.gc, hs.1.gc, ← hfb]) fun W _ hG => ⟨hG.1, hc2⟩
end Go.Proofs.YtbbaoeidobdblaaGreat.Sx

/- ref17: Commit. -/
set_option linter.unusedVariables false
set_option linter.unusedSimpArgs false
namespace Go.Proofs.YtbbaoeidobdblaaGreat.Sx
open Go
attribute [local simp ↓] ifb_true' ifb_false'
attribute [local simp] ifb_true ifb_false ifb_eq sx argsT find ev evOp evs evo evBin evInt evStr evNil evNilA ptrA slcA isNoneA asB evLoad look del cellsB evUn evConv kdec fld evFieldA evField evIdxA evIdx evSlc bndL bndH evLen mmi put resV guardV gvL setO tupV cellsOf ones one upd lits nv exitTo SV.val CV.val TI.agg rdyA allR keepB scan simpO gsp isS subs keepT pickT wr memN pubs Res.fact Region.binds bld rest give delL back Res.eqv vi vb num Sv.val undef
set_option maxRecDepth 100000 in
set_option maxHeartbeats 4000000 in
theorem refCommit0 (w : World) (I S : Nat → Prop) (hI : ∀ b, I b → b < w.heap.size) (x : Rj) {a : Option Addr} {n cp : Nat} (l : List Dee) (hf : x.j.c.fit) (hct : (x.ct.length : Int) = x.j.c.g.sectors) (hh : x.j.half < 2) (he : 0 ≤ x.j.ep ∧ x.j.ep ≤ 2147483647) (hu : x.j.used ≤ 1000000000) (h : ∀ W, Ext I w W → StaR W x.j.s x.j.si x.j.sb) (hd : ∀ W, Ext I w W → Sv.ok dDee W (a, n, cp) l) (hl : x.j.s.inos.length + l.length ≤ 1000000000 ∧ x.j.s.bad.length + l.length ≤ 1000000000) (hl1 : (applyL x.j.s l).inos.length + (applyL x.j.s l).bad.length ≤ 1000000000) (hl2 : (deedsB (wholeL (applyL x.j.s l))).length ≤ 1000000000) (hl3 : (deedsB l).length ≤ 1000000000) (hS : Owns x.res S w) (hSI : ∀ b, S b → b < w.heap.size ∧ ¬ I b) :
    FnS Tryz.prog 39 #[ptrV x.j.gj, .slice a n cp] w I S (fun y : (Sl × Sl) × List Int => .int .i64 (commitM x.j l y.1).1) (fun y => (Rj.mk (commitM x.j l y.1).2 x.gk x.kc y.2).res) (fun y W => y.2.length = x.ct.length ∧ (x.j.ended = false → StaR W (applyL x.j.s l) y.1.1 y.1.2)) := by
  obtain rfl : n = l.length := (hd w (Ext.refl _ _)).1
  obtain ⟨j, gk, kc, ct⟩ := x
  simp only at hf hct hh he hu h hl hl1 hl2
  obtain ⟨hl4, hsz, hz⟩ := half_two hf
  have hhl := half_le hf
  refine enterS (svs := [.c (.bp 1004 j.gj 0), .c (.v (.slice a l.length cp))]) tysOk Tryz.func39 rfl Tryz.ntmps39 Tryz.results39 (by kernel_rfl) (by simp) hI (Rj.mk j gk kc ct).res hS hSI (fun W => StaR W j.s j.si j.sb ∧ Sv.ok dDee W (a, l.length, cp) l) (fun W e => ⟨h W e, hd W e⟩) fun C hC hN ok => ?_
  simp only at hC
  cases hend : j.ended with
  | true =>
    simp [hN, hend]
    exact retS hC (((none, 0), (none, 0)), ct) [1000, 1001, 1002, 1003, 1004] (by simp [commitM, hend]) (by simp [commitM, hend]) fun W _ _ => ⟨rfl, fun h => by first | cases h | (rw [hend] at h; cases h)⟩
  | false =>
    simp [hN, hend]
    refine call0 ok rfl rfl rfl (fun w I hI hG => refPackG0 w I hI l (a, l.length, cp) (fun W e => (hG W e).2) (by omega)) fun b W hb => ?_
    obtain ⟨ba, bn, bc⟩ := b
    obtain rfl : bn = (deedsB l).length := hb.1
    obtain ⟨fb, hfb⟩ : ∃ fb, fb = deedsB l := ⟨_, rfl⟩
    have hfbb := deedsB_byte l
    rw [← hfb] at hl3 hb hfbb
    simp only [← hfb]
    simp [hN, hend]
    refine call0 ok rfl rfl rfl (fun w I hI hG => refApply0 w I hI j.s j.si j.sb (a := a) (n := l.length) (c := cp) l (fun W e => (hG W e).2.1) (fun W e => (hG W e).2.2) hl) fun y W hy => ?_
    simp [hN, hend]
    intro g6
    have e1 : IntKind.i64.wrap ((j.used : Int) + fb.length) = j.used + fb.length := w64 (by omega) (by omega)
    have e2 : IntKind.i64.wrap ((j.used : Int) + fb.length + 7) = j.used + fb.length + 7 := w64 (by omega) (by omega)
    have hA := commitM.eq_1 j l y
    rw [hend, if_neg (by simp), ← hfb] at hA
    refine forget (fun W => StaR W (applyL j.s l) y.1 y.2 ∧ Sl.ok dByte W (ba, bc) fb) ?fg ?_
    case fg => exact fun W hW => ⟨hW.1, (by first | exact (hW) | exact (hW).1 | exact (hW).1.1 | exact (hW).1.2 | exact (hW).1.2.1 | exact (hW).1.2.2.1 | exact (hW).1.2.2.2.1 | exact (hW).2 | exact (hW).2.1 | exact (hW).2.1.1 | exact (hW).2.1.2 | exact (hW).2.1.2.1 | exact (hW).2.1.2.2.1 | exact (hW).2.1.2.2.2.1 | exact (hW).2.2 | exact (hW).2.2.1 | exact (hW).2.2.1.1 | exact (hW).2.2.1.2 | exact (hW).2.2.1.2.1 | exact (hW).2.2.1.2.2.1 | exact (hW).2.2.1.2.2.2.1 | exact (hW).2.2.2 | exact (hW).2.2.2.1 | exact (hW).2.2.2.1.1 | exact (hW).2.2.2.1.2 | exact (hW).2.2.2.1.2.1 | exact (hW).2.2.2.1.2.2.1 | exact (hW).2.2.2.1.2.2.2.1 | exact (hW).2.2.2.2 | exact (hW).2.2.2.2.1 | exact (hW).2.2.2.2.1.1 | exact (hW).2.2.2.2.1.2 | exact (hW).2.2.2.2.1.2.1 | exact (hW).2.2.2.2.1.2.2.1 | exact (hW).2.2.2.2.1.2.2.2.1 | exact (hW).2.2.2.2.2 | exact (hW).2.2.2.2.2.1 | exact (hW).2.2.2.2.2.1.1 | exact (hW).2.2.2.2.2.1.2 | exact (hW).2.2.2.2.2.1.2.1 | exact (hW).2.2.2.2.2.1.2.2.1 | exact (hW).2.2.2.2.2.1.2.2.2.1 | exact (hW).2.2.2.2.2.2 | exact (hW).2.2.2.2.2.2.1 | exact (hW).2.2.2.2.2.2.1.1 | exact (hW).2.2.2.2.2.2.1.2 | exact (hW).2.2.2.2.2.2.1.2.1 | exact (hW).2.2.2.2.2.2.1.2.2.1 | exact (hW).2.2.2.2.2.2.1.2.2.2.1 | exact (hW).2.2.2.2.2.2.2 | exact (hW).2.2.2.2.2.2.2.1 | exact (hW).2.2.2.2.2.2.2.1.1 | exact (hW).2.2.2.2.2.2.2.1.2 | exact (hW).2.2.2.2.2.2.2.1.2.1 | exact (hW).2.2.2.2.2.2.2.1.2.2.1 | exact (hW).2.2.2.2.2.2.2.1.2.2.2.1 | exact (hW).2.2.2.2.2.2.2.2 | exact (hW).2.2.2.2.2.2.2.2.1 | exact (hW).2.2.2.2.2.2.2.2.1.1 | exact (hW).2.2.2.2.2.2.2.2.1.2 | exact (hW).2.2.2.2.2.2.2.2.1.2.1 | exact (hW).2.2.2.2.2.2.2.2.1.2.2.1 | exact (hW).2.2.2.2.2.2.2.2.1.2.2.2.1 | exact (hW).2.2.2.2.2.2.2.2.2)⟩
    refine cutK ok (p := ?pos) [(42, .c (.bp 1004 j.gj 0)), (43, .ag ((staC (applyL j.s l) y.1 y.2).map .v))] (fun W => StaR W (applyL j.s l) y.1 y.2 ∧ halfSz j.c < j.used + (fb.length + 7)) [(1000, (Rj.mk j gk kc ct).rc.chip), (1001, (Rj.mk j gk kc ct).rc.pow), (1002, (Rj.mk j gk kc ct).rc.row), (1003, (Rj.mk j gk kc ct).rc.cnt), (1004, (Rj.mk j gk kc ct).box)] ?rest fun R => ?main
    case main =>
      refine drawK ok mixed (by kernel_rfl) ?_
      simp (maxSteps := 2000000) -implicitDefEqProofs [hN, e1, e2]
      refine ⟨fun hbig => ?_, fun hle => ?_⟩
      · refine R _ _ ?_ ?_
        · exact fun W hW => ⟨hW.1, by omega⟩
        · simp
      refine call0 ok rfl rfl rfl (fun w I hI hG => refHalf0 w I hI j.c.g hf.right) fun z W hz' => ?_
      rw [hS_half hf] at hz'
      subst hz'
      simp (maxSteps := 2000000) -implicitDefEqProofs [hN, e1, e2]
      refine ⟨fun hgt => ?_, fun hle2 => ?_⟩
      · refine R _ _ ?_ ?_
        · exact fun W hW => ⟨hW.2.1, by omega⟩
        · simp
      rw [if_neg (by omega)] at hA
      refine draw ok [(1004, (Rj.mk j gk kc ct).box)] (by rw [ok.P]; exact mixed) (by kernel_rfl) ?_
      simp (maxSteps := 2000000) -implicitDefEqProofs [hN]
      have hap := append_same hf (h := j.half) (o := j.used) hh (b := fb)
      refine callS ok rfl rfl rfl [1000, 1001, 1002, 1003] (Rj.mk j gk kc ct).rc.res (by simp) rfl (fun _ : Int => [(1000, (Rc.mk (appendM j.c j.half j.used fb).2 gk kc ct).chip), (1001, (Rc.mk (appendM j.c j.half j.used fb).2 gk kc ct).pow), (1002, (Rc.mk (appendM j.c j.half j.used fb).2 gk kc ct).row), (1003, (Rc.mk (appendM j.c j.half j.used fb).2 gk kc ct).cnt)]) (fun w I S hI hG hO hS' => refAppend0 w I S hI (Rc.mk j.c gk kc ct) j.half j.used hh hf hu fb (ba, bc) (fun W e => (by first | exact (hG W e) | exact (hG W e).1 | exact (hG W e).1.1 | exact (hG W e).1.2 | exact (hG W e).1.2.1 | exact (hG W e).1.2.2.1 | exact (hG W e).1.2.2.2.1 | exact (hG W e).2 | exact (hG W e).2.1 | exact (hG W e).2.1.1 | exact (hG W e).2.1.2 | exact (hG W e).2.1.2.1 | exact (hG W e).2.1.2.2.1 | exact (hG W e).2.1.2.2.2.1 | exact (hG W e).2.2 | exact (hG W e).2.2.1 | exact (hG W e).2.2.1.1 | exact (hG W e).2.2.1.2 | exact (hG W e).2.2.1.2.1 | exact (hG W e).2.2.1.2.2.1 | exact (hG W e).2.2.1.2.2.2.1 | exact (hG W e).2.2.2 | exact (hG W e).2.2.2.1 | exact (hG W e).2.2.2.1.1 | exact (hG W e).2.2.2.1.2 | exact (hG W e).2.2.2.1.2.1 | exact (hG W e).2.2.2.1.2.2.1 | exact (hG W e).2.2.2.1.2.2.2.1 | exact (hG W e).2.2.2.2 | exact (hG W e).2.2.2.2.1 | exact (hG W e).2.2.2.2.1.1 | exact (hG W e).2.2.2.2.1.2 | exact (hG W e).2.2.2.2.1.2.1 | exact (hG W e).2.2.2.2.1.2.2.1 | exact (hG W e).2.2.2.2.1.2.2.2.1 | exact (hG W e).2.2.2.2.2 | exact (hG W e).2.2.2.2.2.1 | exact (hG W e).2.2.2.2.2.1.1 | exact (hG W e).2.2.2.2.2.1.2 | exact (hG W e).2.2.2.2.2.1.2.1 | exact (hG W e).2.2.2.2.2.1.2.2.1 | exact (hG W e).2.2.2.2.2.1.2.2.2.1 | exact (hG W e).2.2.2.2.2.2 | exact (hG W e).2.2.2.2.2.2.1 | exact (hG W e).2.2.2.2.2.2.1.1 | exact (hG W e).2.2.2.2.2.2.1.2 | exact (hG W e).2.2.2.2.2.2.1.2.1 | exact (hG W e).2.2.2.2.2.2.1.2.2.1 | exact (hG W e).2.2.2.2.2.2.1.2.2.2.1 | exact (hG W e).2.2.2.2.2.2.2 | exact (hG W e).2.2.2.2.2.2.2.1 | exact (hG W e).2.2.2.2.2.2.2.1.1 | exact (hG W e).2.2.2.2.2.2.2.1.2 | exact (hG W e).2.2.2.2.2.2.2.1.2.1 | exact (hG W e).2.2.2.2.2.2.2.1.2.2.1 | exact (hG W e).2.2.2.2.2.2.2.1.2.2.2.1 | exact (hG W e).2.2.2.2.2.2.2.2 | exact (hG W e).2.2.2.2.2.2.2.2.1 | exact (hG W e).2.2.2.2.2.2.2.2.1.1 | exact (hG W e).2.2.2.2.2.2.2.2.1.2 | exact (hG W e).2.2.2.2.2.2.2.2.1.2.1 | exact (hG W e).2.2.2.2.2.2.2.2.1.2.2.1 | exact (hG W e).2.2.2.2.2.2.2.2.1.2.2.2.1 | exact (hG W e).2.2.2.2.2.2.2.2.2)) hfbb hO hS') (fun r => by simp) (.inr fun x q hq => by simp at hq; rcases hq with rfl | rfl | rfl | rfl <;> simp) fun ee W hee => ?_
      replace hee : ee = (appendM j.c j.half j.used fb).1 := hee (by omega)
      subst hee
      generalize appendM j.c j.half j.used fb = Q at hA hap ⊢
      obtain ⟨e2', d2⟩ := Q
      simp only at hA hap
      have hgc : d2.gc = j.c.gc := hap.1.gc
      simp (maxSteps := 2000000) -implicitDefEqProofs [hN]
      refine ⟨fun hne => ?_, fun h0 => ?_⟩
      · rw [if_pos hne] at hA
        exact retS hC (y, ct) [1000, 1001, 1002, 1003, 1004] (by simp [hA]) (by simp [hA, hgc]) fun W _ hG => ⟨rfl, fun _ => (by first | exact (hG) | exact (hG).1 | exact (hG).1.1 | exact (hG).1.2 | exact (hG).1.2.1 | exact (hG).1.2.2.1 | exact (hG).1.2.2.2.1 | exact (hG).2 | exact (hG).2.1 | exact (hG).2.1.1 | exact (hG).2.1.2 | exact (hG).2.1.2.1 | exact (hG).2.1.2.2.1 | exact (hG).2.1.2.2.2.1 | exact (hG).2.2 | exact (hG).2.2.1 | exact (hG).2.2.1.1 | exact (hG).2.2.1.2 | exact (hG).2.2.1.2.1 | exact (hG).2.2.1.2.2.1 | exact (hG).2.2.1.2.2.2.1 | exact (hG).2.2.2 | exact (hG).2.2.2.1 | exact (hG).2.2.2.1.1 | exact (hG).2.2.2.1.2 | exact (hG).2.2.2.1.2.1 | exact (hG).2.2.2.1.2.2.1 | exact (hG).2.2.2.1.2.2.2.1 | exact (hG).2.2.2.2 | exact (hG).2.2.2.2.1 | exact (hG).2.2.2.2.1.1 | exact (hG).2.2.2.2.1.2 | exact (hG).2.2.2.2.1.2.1 | exact (hG).2.2.2.2.1.2.2.1 | exact (hG).2.2.2.2.1.2.2.2.1 | exact (hG).2.2.2.2.2 | exact (hG).2.2.2.2.2.1 | exact (hG).2.2.2.2.2.1.1 | exact (hG).2.2.2.2.2.1.2 | exact (hG).2.2.2.2.2.1.2.1 | exact (hG).2.2.2.2.2.1.2.2.1 | exact (hG).2.2.2.2.2.1.2.2.2.1 | exact (hG).2.2.2.2.2.2 | exact (hG).2.2.2.2.2.2.1 | exact (hG).2.2.2.2.2.2.1.1 | exact (hG).2.2.2.2.2.2.1.2 | exact (hG).2.2.2.2.2.2.1.2.1 | exact (hG).2.2.2.2.2.2.1.2.2.1 | exact (hG).2.2.2.2.2.2.1.2.2.2.1 | exact (hG).2.2.2.2.2.2.2 | exact (hG).2.2.2.2.2.2.2.1 | exact (hG).2.2.2.2.2.2.2.1.1 | exact (hG).2.2.2.2.2.2.2.1.2 | exact (hG).2.2.2.2.2.2.2.1.2.1 | exact (hG).2.2.2.2.2.2.2.1.2.2.1 | exact (hG).2.2.2.2.2.2.2.1.2.2.2.1 | exact (hG).2.2.2.2.2.2.2.2 | exact (hG).2.2.2.2.2.2.2.2.1 | exact (hG).2.2.2.2.2.2.2.2.1.1 | exact (hG).2.2.2.2.2.2.2.2.1.2 | exact (hG).2.2.2.2.2.2.2.2.1.2.1 | exact (hG).2.2.2.2.2.2.2.2.1.2.2.1 | exact (hG).2.2.2.2.2.2.2.2.1.2.2.2.1 | exact (hG).2.2.2.2.2.2.2.2.2)⟩
      · subst h0
        rw [if_neg (by simp)] at hA
        refine draw ok [(6, .box g6 39 ((staC (applyL j.s l) y.1 y.2).map .v))] (by rw [ok.P]; exact mixed) (by kernel_rfl) ?_
        simp (maxSteps := 2000000) -implicitDefEqProofs [hN, e1, e2]
        exact retS hC (y, ct) [1000, 1001, 1002, 1003, 1004] (by simp [hA]) (by simp [hA, hgc, Int.add_assoc, hend]) fun W _ hG => ⟨rfl, fun _ => (by first | exact (hG) | exact (hG).1 | exact (hG).1.1 | exact (hG).1.2 | exact (hG).1.2.1 | exact (hG).1.2.2.1 | exact (hG).1.2.2.2.1 | exact (hG).2 | exact (hG).2.1 | exact (hG).2.1.1 | exact (hG).2.1.2 | exact (hG).2.1.2.1 | exact (hG).2.1.2.2.1 | exact (hG).2.1.2.2.2.1 | exact (hG).2.2 | exact (hG).2.2.1 | exact (hG).2.2.1.1 | exact (hG).2.2.1.2 | exact (hG).2.2.1.2.1 | exact (hG).2.2.1.2.2.1 | exact (hG).2.2.1.2.2.2.1 | exact (hG).2.2.2 | exact (hG).2.2.2.1 | exact (hG).2.2.2.1.1 | exact (hG).2.2.2.1.2 | exact (hG).2.2.2.1.2.1 | exact (hG).2.2.2.1.2.2.1 | exact (hG).2.2.2.1.2.2.2.1 | exact (hG).2.2.2.2 | exact (hG).2.2.2.2.1 | exact (hG).2.2.2.2.1.1 | exact (hG).2.2.2.2.1.2 | exact (hG).2.2.2.2.1.2.1 | exact (hG).2.2.2.2.1.2.2.1 | exact (hG).2.2.2.2.1.2.2.2.1 | exact (hG).2.2.2.2.2 | exact (hG).2.2.2.2.2.1 | exact (hG).2.2.2.2.2.1.1 | exact (hG).2.2.2.2.2.1.2 | exact (hG).2.2.2.2.2.1.2.1 | exact (hG).2.2.2.2.2.1.2.2.1 | exact (hG).2.2.2.2.2.1.2.2.2.1 | exact (hG).2.2.2.2.2.2 | exact (hG).2.2.2.2.2.2.1 | exact (hG).2.2.2.2.2.2.1.1 | exact (hG).2.2.2.2.2.2.1.2 | exact (hG).2.2.2.2.2.2.1.2.1 | exact (hG).2.2.2.2.2.2.1.2.2.1 | exact (hG).2.2.2.2.2.2.1.2.2.2.1 | exact (hG).2.2.2.2.2.2.2 | exact (hG).2.2.2.2.2.2.2.1 | exact (hG).2.2.2.2.2.2.2.1.1 | exact (hG).2.2.2.2.2.2.2.1.2 | exact (hG).2.2.2.2.2.2.2.1.2.1 | exact (hG).2.2.2.2.2.2.2.1.2.2.1 | exact (hG).2.2.2.2.2.2.2.1.2.2.2.1 | exact (hG).2.2.2.2.2.2.2.2 | exact (hG).2.2.2.2.2.2.2.2.1 | exact (hG).2.2.2.2.2.2.2.2.1.1 | exact (hG).2.2.2.2.2.2.2.2.1.2 | exact (hG).2.2.2.2.2.2.2.2.1.2.1 | exact (hG).2.2.2.2.2.2.2.2.1.2.2.1 | exact (hG).2.2.2.2.2.2.2.2.1.2.2.2.1 | exact (hG).2.2.2.2.2.2.2.2.2)⟩
    case rest =>
      simp [hN]
      refine knowG fun W0 hW0 => ?_
      have hgt := hW0.2
      rw [if_pos hgt] at hA
      refine callS ok rfl rfl rfl [1000, 1001, 1002, 1003, 1004] (Rj.mk j gk kc ct).res (by simp) rfl (fun ct' : List Int => [(1000, (Rj.mk (anewM j (applyL j.s l) y.1 y.2).2 gk kc ct').rc.chip), (1001, (Rj.mk (anewM j (applyL j.s l) y.1 y.2).2 gk kc ct').rc.pow), (1002, (Rj.mk (anewM j (applyL j.s l) y.1 y.2).2 gk kc ct').rc.row), (1003, (Rj.mk (anewM j (applyL j.s l) y.1 y.2).2 gk kc ct').rc.cnt), (1004, rjB (anewM j (applyL j.s l) y.1 y.2).2)]) (fun w I S hI hG hO hS' => refAnew0 w I S hI ⟨j, gk, kc, ct⟩ (applyL j.s l) y.1 y.2 hf hct hh he (fun W e => (by first | exact (hG W e) | exact (hG W e).1 | exact (hG W e).1.1 | exact (hG W e).1.2 | exact (hG W e).1.2.1 | exact (hG W e).1.2.2.1 | exact (hG W e).1.2.2.2.1 | exact (hG W e).2 | exact (hG W e).2.1 | exact (hG W e).2.1.1 | exact (hG W e).2.1.2 | exact (hG W e).2.1.2.1 | exact (hG W e).2.1.2.2.1 | exact (hG W e).2.1.2.2.2.1 | exact (hG W e).2.2 | exact (hG W e).2.2.1 | exact (hG W e).2.2.1.1 | exact (hG W e).2.2.1.2 | exact (hG W e).2.2.1.2.1 | exact (hG W e).2.2.1.2.2.1 | exact (hG W e).2.2.1.2.2.2.1 | exact (hG W e).2.2.2 | exact (hG W e).2.2.2.1 | exact (hG W e).2.2.2.1.1 | exact (hG W e).2.2.2.1.2 | exact (hG W e).2.2.2.1.2.1 | exact (hG W e).2.2.2.1.2.2.1 | exact (hG W e).2.2.2.1.2.2.2.1 | exact (hG W e).2.2.2.2 | exact (hG W e).2.2.2.2.1 | exact (hG W e).2.2.2.2.1.1 | exact (hG W e).2.2.2.2.1.2 | exact (hG W e).2.2.2.2.1.2.1 | exact (hG W e).2.2.2.2.1.2.2.1 | exact (hG W e).2.2.2.2.1.2.2.2.1 | exact (hG W e).2.2.2.2.2 | exact (hG W e).2.2.2.2.2.1 | exact (hG W e).2.2.2.2.2.1.1 | exact (hG W e).2.2.2.2.2.1.2 | exact (hG W e).2.2.2.2.2.1.2.1 | exact (hG W e).2.2.2.2.2.1.2.2.1 | exact (hG W e).2.2.2.2.2.1.2.2.2.1 | exact (hG W e).2.2.2.2.2.2 | exact (hG W e).2.2.2.2.2.2.1 | exact (hG W e).2.2.2.2.2.2.1.1 | exact (hG W e).2.2.2.2.2.2.1.2 | exact (hG W e).2.2.2.2.2.2.1.2.1 | exact (hG W e).2.2.2.2.2.2.1.2.2.1 | exact (hG W e).2.2.2.2.2.2.1.2.2.2.1 | exact (hG W e).2.2.2.2.2.2.2 | exact (hG W e).2.2.2.2.2.2.2.1 | exact (hG W e).2.2.2.2.2.2.2.1.1 | exact (hG W e).2.2.2.2.2.2.2.1.2 | exact (hG W e).2.2.2.2.2.2.2.1.2.1 | exact (hG W e).2.2.2.2.2.2.2.1.2.2.1 | exact (hG W e).2.2.2.2.2.2.2.1.2.2.2.1 | exact (hG W e).2.2.2.2.2.2.2.2 | exact (hG W e).2.2.2.2.2.2.2.2.1 | exact (hG W e).2.2.2.2.2.2.2.2.1.1 | exact (hG W e).2.2.2.2.2.2.2.2.1.2 | exact (hG W e).2.2.2.2.2.2.2.2.1.2.1 | exact (hG W e).2.2.2.2.2.2.2.2.1.2.2.1 | exact (hG W e).2.2.2.2.2.2.2.2.1.2.2.2.1 | exact (hG W e).2.2.2.2.2.2.2.2.2)) hl1 hl2 hO hS') (fun r => by simp) (.inr fun x q hq => by simp at hq; rcases hq with rfl | rfl | rfl | rfl | rfl <;> simp) fun ct' W hct' => ?_
      simp [hN]
      exact retS hC (y, ct') [1000, 1001, 1002, 1003, 1004] (by simp [hA]) (by simp [hA]) fun W _ hG => ⟨hct', fun _ => (by first | exact (hG) | exact (hG).1 | exact (hG).1.1 | exact (hG).1.2 | exact (hG).1.2.1 | exact (hG).1.2.2.1 | exact (hG).1.2.2.2.1 | exact (hG).2 | exact (hG).2.1 | exact (hG).2.1.1 | exact (hG).2.1.2 | exact (hG).2.1.2.1 | exact (hG).2.1.2.2.1 | exact (hG).2.1.2.2.2.1 | exact (hG).2.2 | exact (hG).2.2.1 | exact (hG).2.2.1.1 | exact (hG).2.2.1.2 | exact (hG).2.2.1.2.1 | exact (hG).2.2.1.2.2.1 | exact (hG).2.2.1.2.2.2.1 | exact (hG).2.2.2 | exact (hG).2.2.2.1 | exact (hG).2.2.2.1.1 | exact (hG).2.2.2.1.2 | exact (hG).2.2.2.1.2.1 | exact (hG).2.2.2.1.2.2.1 | exact (hG).2.2.2.1.2.2.2.1 | exact (hG).2.2.2.2 | exact (hG).2.2.2.2.1 | exact (hG).2.2.2.2.1.1 | exact (hG).2.2.2.2.1.2 | exact (hG).2.2.2.2.1.2.1 | exact (hG).2.2.2.2.1.2.2.1 | exact (hG).2.2.2.2.1.2.2.2.1 | exact (hG).2.2.2.2.2 | exact (hG).2.2.2.2.2.1 | exact (hG).2.2.2.2.2.1.1 | exact (hG).2.2.2.2.2.1.2 | exact (hG).2.2.2.2.2.1.2.1 | exact (hG).2.2.2.2.2.1.2.2.1 | exact (hG).2.2.2.2.2.1.2.2.2.1 | exact (hG).2.2.2.2.2.2 | exact (hG).2.2.2.2.2.2.1 | exact (hG).2.2.2.2.2.2.1.1 | exact (hG).2.2.2.2.2.2.1.2 | exact (hG).2.2.2.2.2.2.1.2.1 | exact (hG).2.2.2.2.2.2.1.2.2.1 | exact (hG).2.2.2.2.2.2.1.2.2.2.1 | exact (hG).2.2.2.2.2.2.2 | exact (hG).2.2.2.2.2.2.2.1 | exact (hG).2.2.2.2.2.2.2.1.1 | exact (hG).2.2.2.2.2.2.2.1.2 | exact (hG).2.2.2.2.2.2.2.1.2.1 | exact (hG).2.2.2.2.2.2.2.1.2.2.1 | exact (hG).2.2.2.2.2.2.2.1.2.2.2.1 | exact (hG).2.2.2.2.2.2.2.2 | exact (hG).2.2.2.2.2.2.2.2.1 | exact (hG).2.2.2.2.2.2.2.2.1.1 | exact (hG).2.2.2.2.2.2.2.2.1.2 | exact (hG).2.2.2.2.2.2.2.2.1.2.1 | exact (hG).2.2.2.2.2.2.2.2.1.2.2.1 | exact (hG).2.2.2.2.2.2.2.2.1.2.2.2.1 | exact (hG).2.2.2.2.2.2.2.2.2)⟩
end Go.Proofs.YtbbaoeidobdblaaGreat.Sx

/- Bytes of one's own as a text; same.Bytes with a row that is lent; Load of such a row; nil journals and chips. -/
set_option linter.unusedVariables false
set_option linter.unusedSimpArgs false
namespace Go.Proofs.YtbbaoeidobdblaaGreat.Sx
open Go
attribute [local simp ↓] ifb_true' ifb_false'
attribute [local simp] ifb_true ifb_false ifb_eq sx argsT find ev evOp evs evo evBin evInt evStr evNil evNilA ptrA slcA isNoneA asB evLoad look del cellsB evUn evConv kdec fld evFieldA evField evIdxA evIdx evSlc bndL bndH evLen mmi put resV guardV gvL setO tupV cellsOf ones one upd lits nv exitTo SV.val CV.val TI.agg rdyA allR keepB scan simpO gsp isS subs keepT pickT wr memN pubs Res.fact Region.binds bld rest give delL back Res.eqv vi vb num Sv.val undef
section
variable {P : Program} {C : Ctx} {T : Ty} {res : List ResultVar} {p : Pos} {tm : Tm} {m : Mem}
theorem strR (ok : Okc P T C res) (k : Nat) {o : Oper} {src dst : TypeId} {x : Operand} (ho : o.op = .convert src dst x) {g n c : Nat} {u : SV} (hx : ev tm x = some u) (hv : u.val = .slice (some ⟨g, 0, none⟩) n c) {i ie j : TI} (hi : tf src T = some i) (hik : i.kd = 3) (hie : tf i.el T = some ie) (hk : ie.kd = 8) (hu : kdec ie.el = .u8) (hj : tf dst T = some j) (hjk : j.kd = 4)
    (l : List Int) (hn : n = l.length) {e : TypeId} (hr : look k m.rs = some (.row (some ⟨g, 0, none⟩) n c e 1 (bC l)))
    (kk : sx T C res 1000 p (put C.n o.dst (.c (.v (.string (txtOf l)))) tm) m) : At C (.op o p) tm m := by
  subst hn
  rintro act w cs hR hJ
  have h1 : act.eval x = .slice (some ⟨g, 0, none⟩) l.length c := by rw [hR.eval hx, hv]
  have hc : ∀ i, i < l.length → w.cell? ⟨g, i, none⟩ = some (.int .u8 (l.getD i 0)) := fun i hi => by
    have := hJ.ok k _ g _ hr rfl i (by rw [bC_len]; exact hi)
    rw [this]
    simp [bC, hi, CV.val]
  have h2 := run_convert_bytes_string (P := C.P) w src dst i.el (some ⟨g, 0, none⟩) l.length c ((ok.ty.get hi).g_slice hik) (by have := (ok.ty.get hie).g_int hk; rw [hu] at this; exact this) ((ok.ty.get hj).g_string hjk)
  have h3 : (Conv.bytesToString (.slice (some ⟨g, 0, none⟩) l.length c)).run C.P w = .ok (.string (txtOf l)) w := by
    have hr := run_loadCellsFrom (P := C.P) (w := w) ⟨g, 0, none⟩ (fun j => .int .u8 (l.getD j 0)) l.length 0 #[] (fun j hj => by
      rw [addr_add]
      simpa using hc j hj)
    have hr' : (loadCells ⟨g, 0, none⟩ l.length).run C.P w = _ := hr
    have := run_bytesToString (P := C.P) w ⟨g, 0, none⟩ l.length c l (by
      rw [hr']
      congr 1
      apply Array.ext
      · simp
      · intro j h1 h2
        simp at h1 h2
        simp [List.getD, h2])
    rw [this, txt_push]
    congr 2
  have hrun : (execOp act.eval o).run C.P w = .ok (.value (.string (txtOf l))) w := by simp [execOp, ho, h1, h2, h3]
  exact op_value (ok.sx kk) hrun (hR.put o.dst (.c (.v (.string (txtOf l))))) hJ
end
theorem sameBL0 (w : World) (I S : Nat → Prop) (hI : ∀ b, I b → b < w.heap.size) {a : Option Addr} {n c g c' : Nat} (xs ys : List Int) (h : ∀ W, Ext I w W → Sv.ok dByte W (a, n, c) xs) (hx : isB xs) (hy : isB ys) (hS : Owns [.row (some ⟨g, 0, none⟩) ys.length c' 5 1 (bC ys)] S w) (hSI : ∀ b, S b → b < w.heap.size ∧ ¬ I b) :
    FnS Tryz.prog 29 #[.slice a n c, .slice (some ⟨g, 0, none⟩) ys.length c'] w I S (fun _ : Unit => .bool (decide (xs = ys))) (fun _ => [.row (some ⟨g, 0, none⟩) ys.length c' 5 1 (bC ys)]) (fun _ _ => True) := by
  refine enterS (svs := [.c (.v (.slice a n c)), .c (.rw 1000 (some ⟨g, 0, none⟩) ys.length c')]) tysOk Tryz.func29 rfl Tryz.ntmps29 Tryz.results29 (by kernel_rfl) (by simp) hI [.row (some ⟨g, 0, none⟩) ys.length c' 5 1 (bC ys)] hS hSI (fun W => Sv.ok dByte W (a, n, c) xs) h fun C hC hN ok => ?_
  simp [hN]
  refine strS ok rfl rfl rfl rfl rfl rfl rfl rfl rfl xs (fun W hW => hW) ?_
  simp [hN]
  refine strR ok 1000 rfl rfl rfl rfl rfl rfl rfl rfl rfl rfl ys rfl rfl ?_
  have := txtOf_eq hx hy
  simp [hN, this]
  exact retS hC () [1000] rfl (by simp) fun _ _ _ => trivial
end Go.Proofs.YtbbaoeidobdblaaGreat.Sx

/- Plain: journals in lockstep: what stays however they are driven. -/
set_option linter.unusedVariables false
set_option linter.unusedSimpArgs false
namespace Go.Proofs.YtbbaoeidobdblaaGreat.Sx
open Go
theorem anew_samej {j : Jn} (hf : j.c.fit) (hh : j.half < 2) (s : Sta) (si sb : Sl) : j.c.same (anewM j s si sb).2.c ∧ (anewM j s si sb).2.c.fit := by
  have h1 := wipe_same' hf (i := 1 - j.half) (by omega)
  have h2 := append_same h1.2 (h := 1 - j.half) (o := 0) (by omega) (b := firstB (j.ep + 1) s)
  unfold anewM
  split
  · exact ⟨Cp.same.refl _, hf⟩
  · split
    · exact h1
    · split
      · exact ⟨h1.1.trans h2.1, h2.2⟩
      · exact ⟨h1.1.trans h2.1, h2.2⟩
theorem commit_samej {j : Jn} (hf : j.c.fit) (hh : j.half < 2) (l : List Dee) (x : Sl × Sl) : j.c.same (commitM j l x).2.c ∧ (commitM j l x).2.c.fit := by
  have h2 := append_same hf (h := j.half) (o := j.used) hh (b := deedsB l)
  unfold commitM
  split
  · exact ⟨Cp.same.refl _, hf⟩
  · split
    · exact anew_samej hf hh _ _ _
    · split
      · exact h2
      · exact h2
theorem open_samej {c : Cp} (hf : c.fit) (x : Nat × Sl × Sl) : c.same (openM c x).2.c ∧ (openM c x).2.c.fit := by
  have hb := best_ok hf
  unfold openM
  split
  · exact ⟨Cp.same.refl _, hf⟩
  · split
    · exact anew_samej (j := openJ c x) hf hb.2.2.2.2 _ _ _
    · exact ⟨Cp.same.refl _, hf⟩
/-- What a journal's numbers are like. -/
structure Jb (j : Jn) (B : Nat) : Prop where
  half : j.half < 2
  ep : 0 ≤ j.ep ∧ j.ep ≤ 2147483647
  used : j.used ≤ 1000000
  w : wS j.s ≤ B
theorem Jb.mono {j : Jn} {A B : Nat} (h : Jb j A) (k : A ≤ B) : Jb j B := ⟨h.half, h.ep, h.used, Nat.le_trans h.w k⟩
theorem anew_jb {j : Jn} {B : Nat} (hf : j.c.fit) (h : Jb j B) (s : Sta) (si sb : Sl) (hs : wS s ≤ B) : Jb (anewM j s si sb).2 B := by
  have hl := half_le hf
  unfold anewM
  split
  · exact h
  · rename_i h1
    split
    · exact ⟨h.half, h.ep, h.used, h.w⟩
    · split
      · exact ⟨h.half, h.ep, h.used, h.w⟩
      · have := h.ep
        exact ⟨by simp only; omega, by simp only; omega, by simp only; omega, hs⟩
theorem commit_jb {j : Jn} {B : Nat} (hf : j.c.fit) (h : Jb j B) (l : List Dee) (x : Sl × Sl) : Jb (commitM j l x).2 (B + (deedsB l).length) := by
  have hl := half_le hf
  have hw := applyL_w j.s l
  have hb := h.w
  have hm : Jb j (B + (deedsB l).length) := h.mono (by omega)
  unfold commitM
  split
  · exact hm
  · split
    · exact anew_jb hf hm _ _ _ (by omega)
    · split
      · exact ⟨hm.half, hm.ep, hm.used, hm.w⟩
      · exact ⟨hm.half, hm.ep, by simp only; omega, by simp only; omega⟩
theorem open_jb {c : Cp} (hf : c.fit) (x : Nat × Sl × Sl) : Jb (openM c x).2 40000 := by
  have hl := half_le hf
  obtain ⟨h1, h2, h3, h4, h5⟩ := best_ok hf
  have hj : Jb (openJ c x) 40000 := ⟨h5, ⟨h3, h4⟩, by show (bestM c).1.used ≤ _; omega, by show wS (bestM c).1.s ≤ _; omega⟩
  unfold openM
  split
  · exact hj
  · split
    · exact anew_jb (j := openJ c x) hf hj _ _ _ (by omega)
    · exact hj
theorem form_jb {c : Cp} (x : Nat × Sl) : Jb (formJ c x) 40000 := by
  have h := first_new
  have h2 := firstB_length 1 newSta
  have h3 := whole_w newSta
  refine ⟨by show (0 : Nat) < 2; decide, by show (0 : Int) ≤ 1 ∧ (1 : Int) ≤ 2147483647; decide, by show (firstB 1 newSta).length + 7 ≤ _; omega, ?_⟩
  show wS newSta ≤ 40000
  have : wholeB newSta = (deedsB (wholeL newSta)).length := rfl
  omega
/-- Two journals, or two chips where there is none. -/
inductive Wt where
  | up (j k : Jn) (ct : List Int)
  | down (c d : Cp) (ct : List Int)
def Wt.c : Wt → Cp
  | .up j _ _ => j.c
  | .down c _ _ => c
def Wt.d : Wt → Cp
  | .up _ k _ => k.c
  | .down _ d _ => d
def Wt.ct : Wt → List Int
  | .up _ _ ct => ct
  | .down _ _ ct => ct
abbrev chipRs (c d : Cp) (gk kc : Nat) (ct : List Int) : List (Nat × Res) := [(1010, c.chip), (1011, c.pow), (1012, c.row), (1013, c.map), (1000, (Rc.mk d gk kc ct).chip), (1001, (Rc.mk d gk kc ct).pow), (1002, (Rc.mk d gk kc ct).row), (1003, (Rc.mk d gk kc ct).cnt)]
def Wt.rs (gk kc : Nat) : Wt → List (Nat × Res)
  | .up j k ct => [(1010, j.c.chip), (1011, j.c.pow), (1012, j.c.row), (1013, j.c.map), (1000, (Rc.mk k.c gk kc ct).chip), (1001, (Rc.mk k.c gk kc ct).pow), (1002, (Rc.mk k.c gk kc ct).row), (1003, (Rc.mk k.c gk kc ct).cnt), (1014, j.box), (1004, rjB k)]
  | .down c d ct => [(1010, c.chip), (1011, c.pow), (1012, c.row), (1013, c.map), (1000, (Rc.mk d gk kc ct).chip), (1001, (Rc.mk d gk kc ct).pow), (1002, (Rc.mk d gk kc ct).row), (1003, (Rc.mk d gk kc ct).cnt)]
def Wt.pj : Wt → CV
  | .up j _ _ => .v (ptrV j.gj)
  | .down _ _ _ => .v (.pointer none)
def Wt.pk : Wt → CV
  | .up _ k _ => .bp 1004 k.gj 0
  | .down _ _ _ => .v (.pointer none)
/-- Chips in lockstep. -/
structure Ck (c0 d0 : Cp) (n : Nat) (c d : Cp) (ct : List Int) : Prop where
  tw : Tw c d
  cf : c.fit
  df : d.fit
  cb : isB c.b
  cs : c0.same c
  ds : d0.same d
  ct : ct.length = n
theorem Ck.db {c0 d0 : Cp} {n : Nat} {c d : Cp} {ct : List Int} (h : Ck c0 d0 n c d ct) : isB d.b := by rw [h.tw.b]; exact h.cb
theorem Ck.at {c0 d0 : Cp} {n : Nat} {c d : Cp} {ct : List Int} (h : Ck c0 d0 n c d ct) {p q : Pw} (hp : PwE p q) (h1 : p.left ≤ 9223372036854775807) (h2 : q.left ≤ 9223372036854775807) : Ck c0 d0 n { c with p := p } { d with p := q } ct :=
  ⟨⟨h.tw.g, h.tw.b, hp⟩, ⟨h.cf.right, h.cf.len, h.cf.cap, h1⟩, ⟨h.df.right, h.df.len, h.df.cap, h2⟩, h.cb, ⟨h.cs.g, h.cs.gc, h.cs.gp, h.cs.gb, h.cs.gm, h.cs.cap, h.cs.bc, h.cs.fl, h.cs.len⟩, ⟨h.ds.g, h.ds.gc, h.ds.gp, h.ds.gb, h.ds.gm, h.ds.cap, h.ds.bc, h.ds.fl, h.ds.len⟩, h.ct⟩
def Wt.ok (c0 d0 : Cp) (n B : Nat) : Wt → Prop
  | .up j k ct => Ck c0 d0 n j.c k.c ct ∧ Jw j k ∧ Jb j B
  | .down c d ct => Ck c0 d0 n c d ct
def Wt.st (W : World) : Wt → Prop
  | .up j k _ => StaR W j.s j.si j.sb ∧ StaR W k.s k.si k.sb
  | .down _ _ _ => True
theorem commit_P (P : Sta → Sl → Sl → Prop) {j : Jn} (l : List Dee) (x : Sl × Sl) (h1 : P j.s j.si j.sb) (h2 : j.ended = false → P (applyL j.s l) x.1 x.2) : P (commitM j l x).2.s (commitM j l x).2.si (commitM j l x).2.sb := by
  unfold commitM anewM
  split
  · exact h1
  · rename_i he
    have h3 := h2 (by simpa using he)
    split
    · split
      · exact h1
      · split
        · exact h1
        · split
          · exact h1
          · exact h3
    · split
      · exact h1
      · exact h3
theorem Jw.jb {j k : Jn} {B : Nat} (h : Jw j k) (hj : Jb j B) : Jb k B := ⟨by rw [h.half]; exact hj.half, by rw [h.ep]; exact hj.ep, by rw [h.used]; exact hj.used, by rw [h.s]; exact hj.w⟩
end Go.Proofs.YtbbaoeidobdblaaGreat.Sx

/- garretlaw17.JournalPlays. -/
set_option linter.unusedVariables false
set_option linter.unusedSimpArgs false
namespace Go.Proofs.YtbbaoeidobdblaaGreat.Sx
open Go
attribute [local simp ↓] ifb_true' ifb_false'
attribute [local simp] ifb_true ifb_false ifb_eq sx argsT find ev evOp evs evo evBin evInt evStr evNil evNilA ptrA slcA isNoneA asB evLoad look del cellsB evUn evConv kdec fld evFieldA evField evIdxA evIdx evSlc bndL bndH evLen mmi put resV guardV gvL setO tupV cellsOf ones one upd lits nv exitTo SV.val CV.val TI.agg rdyA allR keepB scan simpO gsp isS subs keepT pickT wr memN pubs Res.fact Region.binds bld rest give delL back Res.eqv vi vb num Sv.val undef
def newRcP (G : Geo) (gp : Nat) (x : Nat × Nat × Nat × Nat × Nat) (n k : Nat) : Rc := ⟨⟨G, x.1, gp, x.2.1, 0, n, x.2.2.1, ⟨-1, 0, false, 0⟩, .map none, List.replicate n 255, []⟩, x.2.2.2.1, x.2.2.2.2, List.replicate k 0⟩
theorem anew_gj (j : Jn) (s : Sta) (si sb : Sl) : (anewM j s si sb).2.gj = j.gj := by
  unfold anewM
  repeat' split
  all_goals rfl
theorem commit_gj (j : Jn) (l : List Dee) (x : Sl × Sl) : (commitM j l x).2.gj = j.gj := by
  unfold commitM
  repeat' split
  all_goals first | rfl | exact anew_gj _ _ _ _
theorem open_gjP (c : Cp) (x : Nat × Sl × Sl) : (openM c x).2.gj = x.1 := by
  unfold openM
  repeat' split
  all_goals first | rfl | exact anew_gj _ _ _ _
/-- One thing that is done. -/
structure Opn where
  kind : Int
  n : Int
  mask : Int
  l : List Dee
abbrev opC (x : Opn) (s : Sl) : List Value := [.int .i64 x.kind, .int .i64 x.n, .int .u8 x.mask, .slice s.1 x.l.length s.2]
def dOpn : Dt Opn := ⟨4, fun W x cs => ∃ s : Sl, cs = opC x s ∧ s.ok dDee W x.l, fun h => by obtain ⟨s, rfl, _⟩ := h; rfl, fun h u hu => by
  obtain ⟨s, rfl, _⟩ := h
  simp at hu
  rcases hu with rfl | rfl | rfl | rfl <;> rfl⟩
theorem keepOpn : Keeps dOpn := fun h k => by
  obtain ⟨s, hc, h1⟩ := k
  exact ⟨s, hc, sl_keep keepDee h h1⟩
theorem sumN_take (l : List Nat) (i : Nat) : sumN (l.take i) ≤ sumN l := by
  induction l generalizing i with
  | nil => simp
  | cons x r ih =>
    cases i with
    | zero => exact Nat.zero_le _
    | succ i =>
      have := ih i
      simp only [List.take_succ_cons, sumN_cons]
      omega
theorem deeds_count (l : List Dee) : l.length ≤ (deedsB l).length := by
  rw [deeds_len]
  induction l with
  | nil => exact Nat.le_refl _
  | cons d r ih =>
    have : 1 ≤ (deedB d).length := by rw [deedB, List.length_append, lowB_length]; omega
    simp only [List.length_cons, List.map_cons, sumN_cons]
    omega
theorem opn_get {W : World} {op : Opn} {s : Sl} (h : dOpn.K W op (opC op s)) : Sl.ok dDee W s op.l := by
  obtain ⟨⟨a', b'⟩, h1, h2⟩ := h
  obtain ⟨a, b⟩ := s
  simp at h1
  obtain ⟨rfl, rfl⟩ := h1
  exact h2
def opD (ops : List Opn) (i : Nat) : Nat := sumN ((ops.take i).map fun x => (deedsB x.l).length)
theorem opD_succ {ops : List Opn} {i : Nat} (h : i < ops.length) : opD ops (i + 1) = opD ops i + (deedsB ops[i].l).length := by
  unfold opD
  rw [List.take_add_one, List.getElem?_eq_getElem h, List.map_append, sumN_app]
  simp [sumN]
theorem opD_le (ops : List Opn) (i : Nat) : opD ops i ≤ sumN (ops.map fun x => (deedsB x.l).length) := by
  unfold opD
  rw [List.map_take]
  exact sumN_take _ _
set_option maxRecDepth 100000 in
set_option maxHeartbeats 8000000 in
theorem journalPlaysLaw0 (w : World) (g : Geo) {oa : Option Addr} {on oc : Nat} (ops : List Opn) (h : ∀ W, Ext (fun b => b < w.heap.size) w W → Sv.ok dOpn W (oa, on, oc) ops) (hN1 : ∀ x ∈ ops, x.n ≤ 9223372036854775807) (hsz : sumN (ops.map fun x => (deedsB x.l).length) ≤ 100000000) :
    Fn0 Tryz.prog 7 #[.agg (geoC g).toArray, .slice oa on oc] w (fun b => b < w.heap.size) (fun b : Bool => .bool b) (fun y W => y = true) := by
  have hI : ∀ b, b < w.heap.size → b < w.heap.size := fun b h => h
  have hon : on = ops.length := (h w (Ext.refl _ _)).1
  refine enter (svs := [.ag ((geoC g).map .v), .c (.v (.slice oa on oc))]) tysOk Tryz.func7 rfl Tryz.ntmps7 Tryz.results7 (by kernel_rfl) (by simp) hI (fun W => Sv.ok dOpn W (oa, on, oc) ops) h fun C hC hN ok => ?_
  simp [hN]
  intro g2
  refine call0 ok rfl rfl rfl (fun w I hI hG => geometry0 w I hI g) fun y' W _ => ?_
  have hgr := geoP_right g
  generalize geoP g = G at hgr
  obtain ⟨q0, ⟨q1, q2⟩, ⟨q3, q4⟩, ⟨q5, q6⟩, ⟨q7, q8⟩, ⟨q9, q10⟩⟩ := id hgr
  obtain ⟨nb, hnb, hnb0, hnb1⟩ : ∃ nb : Nat, G.sectors * G.sector = (nb : Nat) ∧ 0 < nb ∧ nb ≤ 100000 := by
    obtain ⟨a, ha⟩ : ∃ a : Nat, G.sectors = a := ⟨G.sectors.toNat, by omega⟩
    obtain ⟨b, hb⟩ : ∃ b : Nat, G.sector = b := ⟨G.sector.toNat, by omega⟩
    refine ⟨a * b, by rw [ha, hb]; simp, Nat.mul_pos (by omega) (by omega), ?_⟩
    have : a * b ≤ 16 * 4096 := Nat.mul_le_mul (by omega) (by omega)
    omega
  obtain ⟨kb, hkb⟩ : ∃ kb : Nat, G.sectors = (kb : Nat) := ⟨G.sectors.toNat, by omega⟩
  simp [hN]
  refine callS ok rfl rfl rfl [] [] trivial rfl (fun gp : Nat => [(1011, .box gp 108 (powB ⟨-1, 0, false, 0⟩ (.map none)))]) (fun w I S hI hG hO hS => (powNew0 w I hI).lone hO) (fun r => by simp) (.inl fun k hk => by cases hk) fun gp W _ => ?_
  simp [hN]
  refine callS ok rfl rfl rfl [] [] trivial rfl (fun gq : Nat => [(1001, .box gq 79 (rpB ⟨-1, 0, false, 0⟩))]) (fun w I S hI hG hO hS => (rpNew0 w I hI).lone hO) (fun r => by simp) (.inl fun k hk => by cases hk) fun gq W _ => ?_
  simp [hN]
  refine callS ok rfl rfl rfl [] [] trivial rfl (fun x : Nat × Nat × Nat × Nat => [(1010, (newCp G gp ⟨-1, 0, false, 0⟩ (.map none) x nb).chip), (1012, (newCp G gp ⟨-1, 0, false, 0⟩ (.map none) x nb).row), (1013, (newCp G gp ⟨-1, 0, false, 0⟩ (.map none) x nb).map)]) (fun w I S hI hG hO hS => (norNew0 w I hI G gp nb ⟨-1, 0, false, 0⟩ (.map none) hgr hnb hnb0 hnb1).lone hO) (fun r => by simp [Cp.map, mapR]) (.inl fun k hk => by cases hk) fun xc W _ => ?_
  obtain ⟨c0, hc0⟩ : ∃ c0, c0 = newCp G gp ⟨-1, 0, false, 0⟩ (.map none) xc nb := ⟨_, rfl⟩
  have hcf : c0.fit := by
    rw [hc0]
    exact ⟨hgr, by simp only [newCp, List.length_replicate]; exact hnb.symm, by simp [newCp], by simp [newCp]⟩
  have hcgc : xc.1 = c0.gc := by rw [hc0]; rfl
  have hcgp : gp = c0.gp := by rw [hc0]; rfl
  have hcpw : (.box gp 108 (powB ⟨-1, 0, false, 0⟩ (.map none)) : Res) = c0.pow := by rw [hc0]; rfl
  have hcG : c0.g = G := by rw [hc0]; rfl
  have hcp : c0.p = ⟨-1, 0, false, 0⟩ := by rw [hc0]; rfl
  have hcl : c0.b.length = nb := by rw [hc0]; simp [newCp]
  have hcb : c0.b = List.replicate nb 255 := by rw [hc0]; rfl
  rw [hcpw]
  simp only [← hc0]
  simp only [hcgc, hcgp]
  clear hcpw hc0
  simp [hN]
  refine callS ok rfl rfl rfl [] [] trivial rfl (fun x : Nat × Nat × Nat × Nat × Nat => [(1000, (newRcP G gq x nb kb).chip), (1002, (newRcP G gq x nb kb).row), (1003, (newRcP G gq x nb kb).cnt)]) (fun w I S hI hG hO hS => (refNew0 w I hI G gq nb kb hgr hnb hnb0 hnb1 hkb).lone hO) (fun r => by simp [newRcP]) (.inl fun k hk => by cases hk) fun x0 W _ => ?_
  obtain ⟨r0, hr0⟩ : ∃ r0, r0 = newRcP G gq x0 nb kb := ⟨_, rfl⟩
  have hdf : r0.c.fit := by
    rw [hr0]
    exact ⟨hgr, by simp only [newRcP, List.length_replicate]; exact hnb.symm, by simp [newRcP], by simp [newRcP]⟩
  have hct0 : r0.ct.length = kb := by rw [hr0]; simp [newRcP]
  have hgc : x0.1 = r0.c.gc := by rw [hr0]; rfl
  have hgp : gq = r0.c.gp := by rw [hr0]; rfl
  have hpw : (.box gq 79 (rpB ⟨-1, 0, false, 0⟩) : Res) = r0.pow := by rw [hr0]; rfl
  have hG0 : r0.c.g = G := by rw [hr0]; rfl
  have hp0 : r0.c.p = ⟨-1, 0, false, 0⟩ := by rw [hr0]; rfl
  have hb0 : r0.c.b = List.replicate nb 255 := by rw [hr0]; rfl
  have hl0 : r0.c.b.length = nb := by rw [hb0]; simp
  rw [hpw]
  simp only [← hr0]
  simp only [hgc, hgp]
  clear hpw hr0
  simp [hN]
  refine rowLe 1002 rfl ?_
  intro hbc
  replace hbc : nb ≤ r0.c.bc := by rw [← hl0]; exact hbc
  obtain ⟨d0, gk, kc, ct0⟩ := r0
  simp only at hdf hct0 hgc hgp hG0 hp0 hb0 hl0 hbc
  have htw : Tw c0 d0 := ⟨by rw [hG0, hcG], by rw [hb0, hcb], by rw [hcp, hp0]; exact ⟨rfl, rfl, rfl⟩⟩
  have hlc : live c0.p := by rw [hcp]; exact ⟨(by decide : (-1 : Int) < 0), rfl⟩
  have hld : live d0.p := by rw [hp0]; exact ⟨(by decide : (-1 : Int) < 0), rfl⟩
  have hcib : isB c0.b := by rw [hcb]; exact isB_rep _
  have hfc := form_live hcf hlc
  have hfd := form_live hdf hld
  have hctd : (ct0.length : Int) = d0.g.sectors := by rw [hct0, hG0, hkb]
  refine tagA 6 (.c (.bp 1001 d0.gp 0)) rfl rfl (tagA 9 (.c (.bp 1000 d0.gc 0)) rfl rfl (goon ok ?_))
  simp [hN]
  refine call0 ok rfl rfl rfl (fun w I hI hG => awake17 w I hI) fun _ W _ => ?_
  simp [hN]
  refine callS ok rfl rfl rfl [1010, 1011, 1012, 1013] c0.res (by simp [Cp.map, mapR]) rfl (fun x : Nat × Sl => [(1010, (formJ c0 x).c.chip), (1011, (formJ c0 x).c.pow), (1012, (formJ c0 x).c.row), (1013, (formJ c0 x).c.map), (1014, (formJ c0 x).box)]) (fun w I S hI hG hO hS' => by have := format0 w I S hI c0 hcf hfc.1 hfc.2.1 hfc.2.2.1 hO hS'; exact this) (fun r => by simp [Cp.map, mapR]) (.inr fun x q hq => by simp at hq; rcases hq with rfl | rfl | rfl | rfl | rfl <;> simp) fun xf W hxf => ?_
  simp [hN]
  refine callS ok rfl rfl rfl [1000, 1001, 1002, 1003] (Rc.mk d0 gk kc ct0).res (by simp) rfl (fun y : (Nat × Sl) × List Int => [(1000, (Rj.mk (formJ d0 y.1) gk kc y.2).rc.chip), (1001, (Rj.mk (formJ d0 y.1) gk kc y.2).rc.pow), (1002, (Rj.mk (formJ d0 y.1) gk kc y.2).rc.row), (1003, (Rj.mk (formJ d0 y.1) gk kc y.2).rc.cnt), (1004, rjB (formJ d0 y.1))]) (fun w I S hI hG hO hS' => by have := refFormat0 w I S hI (Rc.mk d0 gk kc ct0) hdf hctd hfd.1 hfd.2.1 hfd.2.2.1 hO hS'; exact this) (fun r => by simp) (.inr fun x q hq => by simp at hq; rcases hq with rfl | rfl | rfl | rfl | rfl <;> simp) fun yf W hyf => ?_
  obtain ⟨J0, hJ0⟩ : ∃ J0, J0 = formJ c0 xf := ⟨_, rfl⟩
  obtain ⟨K0, hK0⟩ : ∃ K0, K0 = formJ d0 yf.1 := ⟨_, rfl⟩
  have hw0 : (Wt.up J0 K0 yf.2).ok c0 d0 kb (40000 + opD ops 0) := by
    rw [hJ0, hK0]
    exact ⟨⟨(form_tw htw xf yf.1).2.c, (form_ok hcf hlc xf).1.fit, (form_ok hdf hld yf.1).1.fit, form_isB hcib, (form_ok hcf hlc xf).2, (form_ok hdf hld yf.1).2, hyf.2.trans hct0⟩, (form_tw htw xf yf.1).2, (form_jb xf).mono (by omega)⟩
  have hpj : ptrV xf.1 = ptrV J0.gj := by rw [hJ0]; rfl
  have hpk : ptrV yf.1.1 = ptrV K0.gj := by rw [hK0]; rfl
  simp only [← hJ0, ← hK0, hpj, hpk]
  simp [hN]
  refine forget (fun W => Sv.ok dOpn W (oa, on, oc) ops ∧ (StaR W J0.s J0.si J0.sb ∧ StaR W K0.s K0.si K0.sb)) ?fg0 ?_
  case fg0 =>
    intro W hW
    rw [hJ0, hK0]
    exact ⟨(by first | exact (hW) | exact (hW).2 | exact (hW).2.2 | exact (hW).2.2.2 | exact (hW).2.2.2.2 | exact (hW).2.2.2.2.2 | exact (hW).2.2.2.2.2.2 | exact (hW).2.2.2.2.2.2.2 | exact (hW).2.2.2.2.2.2.2.2), (by first | exact (hW) | exact (hW).1 | exact (hW).1.1 | exact (hW).1.2 | exact (hW).1.2.1 | exact (hW).1.2.2.1 | exact (hW).1.2.2.2.1 | exact (hW).1.2.2.2 | exact (hW).2 | exact (hW).2.1 | exact (hW).2.1.1 | exact (hW).2.1.2 | exact (hW).2.1.2.1 | exact (hW).2.1.2.2.1 | exact (hW).2.1.2.2.2.1 | exact (hW).2.1.2.2.2 | exact (hW).2.2 | exact (hW).2.2.1 | exact (hW).2.2.1.1 | exact (hW).2.2.1.2 | exact (hW).2.2.1.2.1 | exact (hW).2.2.1.2.2.1 | exact (hW).2.2.1.2.2.2.1 | exact (hW).2.2.1.2.2.2 | exact (hW).2.2.2 | exact (hW).2.2.2.1 | exact (hW).2.2.2.1.1 | exact (hW).2.2.2.1.2 | exact (hW).2.2.2.1.2.1 | exact (hW).2.2.2.1.2.2.1 | exact (hW).2.2.2.1.2.2.2.1 | exact (hW).2.2.2.1.2.2.2 | exact (hW).2.2.2.2 | exact (hW).2.2.2.2.1 | exact (hW).2.2.2.2.1.1 | exact (hW).2.2.2.2.1.2 | exact (hW).2.2.2.2.1.2.1 | exact (hW).2.2.2.2.1.2.2.1 | exact (hW).2.2.2.2.1.2.2.2.1 | exact (hW).2.2.2.2.1.2.2.2 | exact (hW).2.2.2.2.2 | exact (hW).2.2.2.2.2.1 | exact (hW).2.2.2.2.2.1.1 | exact (hW).2.2.2.2.2.1.2 | exact (hW).2.2.2.2.2.1.2.1 | exact (hW).2.2.2.2.2.1.2.2.1 | exact (hW).2.2.2.2.2.1.2.2.2.1 | exact (hW).2.2.2.2.2.1.2.2.2 | exact (hW).2.2.2.2.2.2 | exact (hW).2.2.2.2.2.2.1 | exact (hW).2.2.2.2.2.2.1.1 | exact (hW).2.2.2.2.2.2.1.2 | exact (hW).2.2.2.2.2.2.1.2.1 | exact (hW).2.2.2.2.2.2.1.2.2.1 | exact (hW).2.2.2.2.2.2.1.2.2.2.1 | exact (hW).2.2.2.2.2.2.1.2.2.2 | exact (hW).2.2.2.2.2.2.2 | exact (hW).2.2.2.2.2.2.2.1 | exact (hW).2.2.2.2.2.2.2.1.1 | exact (hW).2.2.2.2.2.2.2.1.2 | exact (hW).2.2.2.2.2.2.2.1.2.1 | exact (hW).2.2.2.2.2.2.2.1.2.2.1 | exact (hW).2.2.2.2.2.2.2.1.2.2.2.1 | exact (hW).2.2.2.2.2.2.2.1.2.2.2 | exact (hW).2.2.2.2.2.2.2.2 | exact (hW).2.2.2.2.2.2.2.2.1 | exact (hW).2.2.2.2.2.2.2.2.1.1 | exact (hW).2.2.2.2.2.2.2.2.1.2 | exact (hW).2.2.2.2.2.2.2.2.1.2.1 | exact (hW).2.2.2.2.2.2.2.2.1.2.2.1 | exact (hW).2.2.2.2.2.2.2.2.1.2.2.2.1 | exact (hW).2.2.2.2.2.2.2.2.1.2.2.2 | exact (hW).2.2.2.2.2.2.2.2.2), (by first | exact (hW) | exact (hW).1 | exact (hW).1.1 | exact (hW).1.2 | exact (hW).1.2.1 | exact (hW).1.2.2.1 | exact (hW).1.2.2.2.1 | exact (hW).1.2.2.2 | exact (hW).2 | exact (hW).2.1 | exact (hW).2.1.1 | exact (hW).2.1.2 | exact (hW).2.1.2.1 | exact (hW).2.1.2.2.1 | exact (hW).2.1.2.2.2.1 | exact (hW).2.1.2.2.2 | exact (hW).2.2 | exact (hW).2.2.1 | exact (hW).2.2.1.1 | exact (hW).2.2.1.2 | exact (hW).2.2.1.2.1 | exact (hW).2.2.1.2.2.1 | exact (hW).2.2.1.2.2.2.1 | exact (hW).2.2.1.2.2.2 | exact (hW).2.2.2 | exact (hW).2.2.2.1 | exact (hW).2.2.2.1.1 | exact (hW).2.2.2.1.2 | exact (hW).2.2.2.1.2.1 | exact (hW).2.2.2.1.2.2.1 | exact (hW).2.2.2.1.2.2.2.1 | exact (hW).2.2.2.1.2.2.2 | exact (hW).2.2.2.2 | exact (hW).2.2.2.2.1 | exact (hW).2.2.2.2.1.1 | exact (hW).2.2.2.2.1.2 | exact (hW).2.2.2.2.1.2.1 | exact (hW).2.2.2.2.1.2.2.1 | exact (hW).2.2.2.2.1.2.2.2.1 | exact (hW).2.2.2.2.1.2.2.2 | exact (hW).2.2.2.2.2 | exact (hW).2.2.2.2.2.1 | exact (hW).2.2.2.2.2.1.1 | exact (hW).2.2.2.2.2.1.2 | exact (hW).2.2.2.2.2.1.2.1 | exact (hW).2.2.2.2.2.1.2.2.1 | exact (hW).2.2.2.2.2.1.2.2.2.1 | exact (hW).2.2.2.2.2.1.2.2.2 | exact (hW).2.2.2.2.2.2 | exact (hW).2.2.2.2.2.2.1 | exact (hW).2.2.2.2.2.2.1.1 | exact (hW).2.2.2.2.2.2.1.2 | exact (hW).2.2.2.2.2.2.1.2.1 | exact (hW).2.2.2.2.2.2.1.2.2.1 | exact (hW).2.2.2.2.2.2.1.2.2.2.1 | exact (hW).2.2.2.2.2.2.1.2.2.2 | exact (hW).2.2.2.2.2.2.2 | exact (hW).2.2.2.2.2.2.2.1 | exact (hW).2.2.2.2.2.2.2.1.1 | exact (hW).2.2.2.2.2.2.2.1.2 | exact (hW).2.2.2.2.2.2.2.1.2.1 | exact (hW).2.2.2.2.2.2.2.1.2.2.1 | exact (hW).2.2.2.2.2.2.2.1.2.2.2.1 | exact (hW).2.2.2.2.2.2.2.1.2.2.2 | exact (hW).2.2.2.2.2.2.2.2 | exact (hW).2.2.2.2.2.2.2.2.1 | exact (hW).2.2.2.2.2.2.2.2.1.1 | exact (hW).2.2.2.2.2.2.2.2.1.2 | exact (hW).2.2.2.2.2.2.2.2.1.2.1 | exact (hW).2.2.2.2.2.2.2.2.1.2.2.1 | exact (hW).2.2.2.2.2.2.2.2.1.2.2.2.1 | exact (hW).2.2.2.2.2.2.2.2.1.2.2.2 | exact (hW).2.2.2.2.2.2.2.2.2)⟩
  refine tagA 13 (.c (.bp 1004 K0.gj 0)) rfl rfl ?_
  refine loopK [1, 5, 6, 7, 9] ok (fun y : Nat × Wt => [(15, .c (.v (.int .i64 (y.1 : Nat)))), (11, .c y.2.pj), (13, .c y.2.pk)]) (fun y => y.2.rs gk kc) (fun y W => y.1 ≤ on ∧ y.1 ≤ 25 ∧ y.2.ok c0 d0 kb (40000 + opD ops y.1) ∧ y.2.st W) (fun y => on - y.1) (0, .up J0 K0 yf.2) ?_ ?_ (fun W hW => ⟨Nat.zero_le _, Nat.zero_le _, hw0, hW.2⟩) ?_
  · simp [Wt.pj, Wt.pk]
  · simp [Wt.rs, hJ0, hK0, Cp.map, mapR]
  clear hw0 hpj hpk hfc hfd
  rintro ⟨i, st⟩ W ⟨hi, hi25, hst, hsW⟩ hG next
  simp only at hi hi25 hst hsW
  have e6 : IntKind.i64.wrap ((i : Int) + 1) = (i + 1 : Nat) := by rw [w64 (by omega) (by omega)]; omega
  by_cases hgo : i < on ∧ i < 25
  case neg =>
    by_cases hlt : i < on
    · have hltI : (i : Int) < (on : Nat) := by omega
      have h25 : ¬ (i : Int) < 25 := by omega
      simp [hN, hltI, h25]
      exact ret0 hC true rfl fun _ _ _ => rfl
    · have hltI : ¬ (i : Int) < (on : Nat) := by omega
      simp [hN, hltI]
      exact ret0 hC true rfl fun _ _ _ => rfl
  obtain ⟨hlt, h25⟩ := hgo
  have hltI : (i : Int) < (on : Nat) := by omega
  have h25I : (i : Int) < 25 := by omega
  have hltj : i < ops.length := by omega
  have hDs := opD_succ hltj
  have hDl := opD_le ops (i + 1)
  have hN2 := hN1 _ (List.getElem_mem hltj)
  obtain ⟨b, off, e⟩ : ∃ b off, oa = some ⟨b, off, none⟩ := by
    obtain ⟨b, off, e⟩ := (h w (Ext.refl _ _)).2.2.2.is_some (show 0 < ops.length by omega)
    exact ⟨b, off, e⟩
  cases e
  have hget : ∀ W, Sv.ok dOpn W (some ⟨b, off, none⟩, on, oc) ops → ∃ cs, dOpn.K W ops[i] cs ∧ cs.length = 4 ∧ ∀ j v, cs[j]? = some v → W.cell? ⟨b, off + i * 4 + j, none⟩ = some v := fun W hW => by
    obtain ⟨cs, k1, k2, k3⟩ := hW.2.2.2.get hltj
    exact ⟨cs, k1, k2, k3⟩
  generalize ops[i] = op at hget hDs hN2
  simp [hN, hltI, h25I, hlt]
  refine loadA ok rfl rfl rfl rfl (fun c W => dOpn.K W op c) (fun W hW => ?_) ?_
  · obtain ⟨cs, k1, k2, k3⟩ := hget W (by first | exact (hW) | exact (hW).1 | exact (hW).1.1 | exact (hW).1.2 | exact (hW).1.2.1 | exact (hW).1.2.2.1 | exact (hW).1.2.2.2.1 | exact (hW).1.2.2.2 | exact (hW).2 | exact (hW).2.1 | exact (hW).2.1.1 | exact (hW).2.1.2 | exact (hW).2.1.2.1 | exact (hW).2.1.2.2.1 | exact (hW).2.1.2.2.2.1 | exact (hW).2.1.2.2.2 | exact (hW).2.2 | exact (hW).2.2.1 | exact (hW).2.2.1.1 | exact (hW).2.2.1.2 | exact (hW).2.2.1.2.1 | exact (hW).2.2.1.2.2.1 | exact (hW).2.2.1.2.2.2.1 | exact (hW).2.2.1.2.2.2 | exact (hW).2.2.2 | exact (hW).2.2.2.1 | exact (hW).2.2.2.1.1 | exact (hW).2.2.2.1.2 | exact (hW).2.2.2.1.2.1 | exact (hW).2.2.2.1.2.2.1 | exact (hW).2.2.2.1.2.2.2.1 | exact (hW).2.2.2.1.2.2.2 | exact (hW).2.2.2.2 | exact (hW).2.2.2.2.1 | exact (hW).2.2.2.2.1.1 | exact (hW).2.2.2.2.1.2 | exact (hW).2.2.2.2.1.2.1 | exact (hW).2.2.2.2.1.2.2.1 | exact (hW).2.2.2.2.1.2.2.2.1 | exact (hW).2.2.2.2.1.2.2.2 | exact (hW).2.2.2.2.2 | exact (hW).2.2.2.2.2.1 | exact (hW).2.2.2.2.2.1.1 | exact (hW).2.2.2.2.2.1.2 | exact (hW).2.2.2.2.2.1.2.1 | exact (hW).2.2.2.2.2.1.2.2.1 | exact (hW).2.2.2.2.2.1.2.2.2.1 | exact (hW).2.2.2.2.2.1.2.2.2 | exact (hW).2.2.2.2.2.2 | exact (hW).2.2.2.2.2.2.1 | exact (hW).2.2.2.2.2.2.1.1 | exact (hW).2.2.2.2.2.2.1.2 | exact (hW).2.2.2.2.2.2.1.2.1 | exact (hW).2.2.2.2.2.2.1.2.2.1 | exact (hW).2.2.2.2.2.2.1.2.2.2.1 | exact (hW).2.2.2.2.2.2.1.2.2.2 | exact (hW).2.2.2.2.2.2.2 | exact (hW).2.2.2.2.2.2.2.1 | exact (hW).2.2.2.2.2.2.2.1.1 | exact (hW).2.2.2.2.2.2.2.1.2 | exact (hW).2.2.2.2.2.2.2.1.2.1 | exact (hW).2.2.2.2.2.2.2.1.2.2.1 | exact (hW).2.2.2.2.2.2.2.1.2.2.2.1 | exact (hW).2.2.2.2.2.2.2.1.2.2.2 | exact (hW).2.2.2.2.2.2.2.2 | exact (hW).2.2.2.2.2.2.2.2.1 | exact (hW).2.2.2.2.2.2.2.2.1.1 | exact (hW).2.2.2.2.2.2.2.2.1.2 | exact (hW).2.2.2.2.2.2.2.2.1.2.1 | exact (hW).2.2.2.2.2.2.2.2.1.2.2.1 | exact (hW).2.2.2.2.2.2.2.2.1.2.2.2.1 | exact (hW).2.2.2.2.2.2.2.2.1.2.2.2 | exact (hW).2.2.2.2.2.2.2.2.2)
    exact ⟨cs, k2, k3, k1⟩
  rintro v W _ ⟨s, rfl, hs⟩ hG2
  simp [hN]
  intro g16
  refine forget (fun W => (st.ok c0 d0 kb (40000 + opD ops i) ∧ st.st W) ∧ Sl.ok dDee W s op.l ∧ (Sv.ok dOpn W (some ⟨b, off, none⟩, on, oc) ops ∧ StaR W J0.s J0.si J0.sb ∧ StaR W K0.s K0.si K0.sb)) ?fg1 ?_
  case fg1 => exact fun W hW => ⟨⟨hst, (by first | exact (hW) | exact (hW).1 | exact (hW).1.1 | exact (hW).1.2 | exact (hW).1.2.1 | exact (hW).1.2.2.1 | exact (hW).1.2.2.2.1 | exact (hW).1.2.2.2 | exact (hW).2 | exact (hW).2.1 | exact (hW).2.1.1 | exact (hW).2.1.2 | exact (hW).2.1.2.1 | exact (hW).2.1.2.2.1 | exact (hW).2.1.2.2.2.1 | exact (hW).2.1.2.2.2 | exact (hW).2.2 | exact (hW).2.2.1 | exact (hW).2.2.1.1 | exact (hW).2.2.1.2 | exact (hW).2.2.1.2.1 | exact (hW).2.2.1.2.2.1 | exact (hW).2.2.1.2.2.2.1 | exact (hW).2.2.1.2.2.2 | exact (hW).2.2.2 | exact (hW).2.2.2.1 | exact (hW).2.2.2.1.1 | exact (hW).2.2.2.1.2 | exact (hW).2.2.2.1.2.1 | exact (hW).2.2.2.1.2.2.1 | exact (hW).2.2.2.1.2.2.2.1 | exact (hW).2.2.2.1.2.2.2 | exact (hW).2.2.2.2 | exact (hW).2.2.2.2.1 | exact (hW).2.2.2.2.1.1 | exact (hW).2.2.2.2.1.2 | exact (hW).2.2.2.2.1.2.1 | exact (hW).2.2.2.2.1.2.2.1 | exact (hW).2.2.2.2.1.2.2.2.1 | exact (hW).2.2.2.2.1.2.2.2 | exact (hW).2.2.2.2.2 | exact (hW).2.2.2.2.2.1 | exact (hW).2.2.2.2.2.1.1 | exact (hW).2.2.2.2.2.1.2 | exact (hW).2.2.2.2.2.1.2.1 | exact (hW).2.2.2.2.2.1.2.2.1 | exact (hW).2.2.2.2.2.1.2.2.2.1 | exact (hW).2.2.2.2.2.1.2.2.2 | exact (hW).2.2.2.2.2.2 | exact (hW).2.2.2.2.2.2.1 | exact (hW).2.2.2.2.2.2.1.1 | exact (hW).2.2.2.2.2.2.1.2 | exact (hW).2.2.2.2.2.2.1.2.1 | exact (hW).2.2.2.2.2.2.1.2.2.1 | exact (hW).2.2.2.2.2.2.1.2.2.2.1 | exact (hW).2.2.2.2.2.2.1.2.2.2 | exact (hW).2.2.2.2.2.2.2 | exact (hW).2.2.2.2.2.2.2.1 | exact (hW).2.2.2.2.2.2.2.1.1 | exact (hW).2.2.2.2.2.2.2.1.2 | exact (hW).2.2.2.2.2.2.2.1.2.1 | exact (hW).2.2.2.2.2.2.2.1.2.2.1 | exact (hW).2.2.2.2.2.2.2.1.2.2.2.1 | exact (hW).2.2.2.2.2.2.2.1.2.2.2 | exact (hW).2.2.2.2.2.2.2.2 | exact (hW).2.2.2.2.2.2.2.2.1 | exact (hW).2.2.2.2.2.2.2.2.1.1 | exact (hW).2.2.2.2.2.2.2.2.1.2 | exact (hW).2.2.2.2.2.2.2.2.1.2.1 | exact (hW).2.2.2.2.2.2.2.2.1.2.2.1 | exact (hW).2.2.2.2.2.2.2.2.1.2.2.2.1 | exact (hW).2.2.2.2.2.2.2.2.1.2.2.2 | exact (hW).2.2.2.2.2.2.2.2.2)⟩, opn_get hW.1, (by first | exact (hW) | exact (hW).1 | exact (hW).1.1 | exact (hW).1.2 | exact (hW).1.2.1 | exact (hW).1.2.2.1 | exact (hW).1.2.2.2.1 | exact (hW).1.2.2.2 | exact (hW).2 | exact (hW).2.1 | exact (hW).2.1.1 | exact (hW).2.1.2 | exact (hW).2.1.2.1 | exact (hW).2.1.2.2.1 | exact (hW).2.1.2.2.2.1 | exact (hW).2.1.2.2.2 | exact (hW).2.2 | exact (hW).2.2.1 | exact (hW).2.2.1.1 | exact (hW).2.2.1.2 | exact (hW).2.2.1.2.1 | exact (hW).2.2.1.2.2.1 | exact (hW).2.2.1.2.2.2.1 | exact (hW).2.2.1.2.2.2 | exact (hW).2.2.2 | exact (hW).2.2.2.1 | exact (hW).2.2.2.1.1 | exact (hW).2.2.2.1.2 | exact (hW).2.2.2.1.2.1 | exact (hW).2.2.2.1.2.2.1 | exact (hW).2.2.2.1.2.2.2.1 | exact (hW).2.2.2.1.2.2.2 | exact (hW).2.2.2.2 | exact (hW).2.2.2.2.1 | exact (hW).2.2.2.2.1.1 | exact (hW).2.2.2.2.1.2 | exact (hW).2.2.2.2.1.2.1 | exact (hW).2.2.2.2.1.2.2.1 | exact (hW).2.2.2.2.1.2.2.2.1 | exact (hW).2.2.2.2.1.2.2.2 | exact (hW).2.2.2.2.2 | exact (hW).2.2.2.2.2.1 | exact (hW).2.2.2.2.2.1.1 | exact (hW).2.2.2.2.2.1.2 | exact (hW).2.2.2.2.2.1.2.1 | exact (hW).2.2.2.2.2.1.2.2.1 | exact (hW).2.2.2.2.2.1.2.2.2.1 | exact (hW).2.2.2.2.2.1.2.2.2 | exact (hW).2.2.2.2.2.2 | exact (hW).2.2.2.2.2.2.1 | exact (hW).2.2.2.2.2.2.1.1 | exact (hW).2.2.2.2.2.2.1.2 | exact (hW).2.2.2.2.2.2.1.2.1 | exact (hW).2.2.2.2.2.2.1.2.2.1 | exact (hW).2.2.2.2.2.2.1.2.2.2.1 | exact (hW).2.2.2.2.2.2.1.2.2.2 | exact (hW).2.2.2.2.2.2.2 | exact (hW).2.2.2.2.2.2.2.1 | exact (hW).2.2.2.2.2.2.2.1.1 | exact (hW).2.2.2.2.2.2.2.1.2 | exact (hW).2.2.2.2.2.2.2.1.2.1 | exact (hW).2.2.2.2.2.2.2.1.2.2.1 | exact (hW).2.2.2.2.2.2.2.1.2.2.2.1 | exact (hW).2.2.2.2.2.2.2.1.2.2.2 | exact (hW).2.2.2.2.2.2.2.2 | exact (hW).2.2.2.2.2.2.2.2.1 | exact (hW).2.2.2.2.2.2.2.2.1.1 | exact (hW).2.2.2.2.2.2.2.2.1.2 | exact (hW).2.2.2.2.2.2.2.2.1.2.1 | exact (hW).2.2.2.2.2.2.2.2.1.2.2.1 | exact (hW).2.2.2.2.2.2.2.2.1.2.2.2.1 | exact (hW).2.2.2.2.2.2.2.2.1.2.2.2 | exact (hW).2.2.2.2.2.2.2.2.2)⟩
  refine call0 ok rfl rfl rfl (fun w I hI hG => few0 w I hI (n := op.l.length) op.l (fun W e => ⟨rfl, (hG W e).2.1⟩)) fun fw W _ => ?_
  cases fw with
  | false =>
    simp [hN]
    exact ret0 hC true rfl fun _ _ _ => rfl
  | true =>
  refine cutKc ok (p := ?posE) (fun x : Wt × Int => [(152, .c (.v (ptrV c0.gc))), (157, .c (.v (.int .i64 (nb : Nat)))), (11, .c x.1.pj), (13, .c x.1.pk), (17, .c (.v (.int .i64 x.2))), (18, .c (.v (.int .i64 x.2))), (1, .c (.v (.slice (some ⟨b, off, none⟩) on oc))), (5, .c (.v (ptrV c0.gp))), (6, .c (.bp 1001 d0.gp 0)), (7, .c (.v (ptrV c0.gc))), (9, .c (.bp 1000 d0.gc 0)), (15, .c (.v (.int .i64 (i : Nat))))]) (fun x W => (x.1.ok c0 d0 kb (40000 + opD ops (i + 1)) ∧ x.1.st W) ∧ (Sv.ok dOpn W (some ⟨b, off, none⟩, on, oc) ops ∧ StaR W J0.s J0.si J0.sb ∧ StaR W K0.s K0.si K0.sb)) (fun x => x.1.rs gk kc) ?restE fun RE => ?mainE
  case mainE =>
    refine cutKc ok (p := ?posO) (fun x : Cp × Cp × List Int => [(123, .c (.v (ptrV c0.gc))), (1, .c (.v (.slice (some ⟨b, off, none⟩) on oc))), (5, .c (.v (ptrV c0.gp))), (6, .c (.bp 1001 d0.gp 0)), (7, .c (.v (ptrV c0.gc))), (9, .c (.bp 1000 d0.gc 0)), (15, .c (.v (.int .i64 (i : Nat))))]) (fun x W => Ck c0 d0 kb x.1 x.2.1 x.2.2 ∧ (Sv.ok dOpn W (some ⟨b, off, none⟩, on, oc) ops ∧ StaR W J0.s J0.si J0.sb ∧ StaR W K0.s K0.si K0.sb)) (fun x => chipRs x.1 x.2.1 gk kc x.2.2) ?restO fun RO => ?mainO
    case mainO =>
      refine cutKc ok (p := ?posF) (fun x : Cp × Cp × List Int => [(113, .c (.v (ptrV c0.gc))), (1, .c (.v (.slice (some ⟨b, off, none⟩) on oc))), (5, .c (.v (ptrV c0.gp))), (6, .c (.bp 1001 d0.gp 0)), (7, .c (.v (ptrV c0.gc))), (9, .c (.bp 1000 d0.gc 0)), (15, .c (.v (.int .i64 (i : Nat))))]) (fun x W => (Ck c0 d0 kb x.1 x.2.1 x.2.2 ∧ live x.1.p ∧ live x.2.1.p) ∧ (Sv.ok dOpn W (some ⟨b, off, none⟩, on, oc) ops ∧ StaR W J0.s J0.si J0.sb ∧ StaR W K0.s K0.si K0.sb)) (fun x => chipRs x.1 x.2.1 gk kc x.2.2) ?restF fun RF => ?mainF
      case mainF =>
        cases st with
        | up j k ct =>
          obtain ⟨hck, hjw, hjb⟩ := hst
          have gcc : j.c.gc = c0.gc := hck.cs.gc
          have gcp : j.c.gp = c0.gp := hck.cs.gp
          have gdc : k.c.gc = d0.gc := hck.ds.gc
          have gdp : k.c.gp = d0.gp := hck.ds.gp
          have hkl : k.c.b.length = nb := by rw [hck.ds.len, hl0]
          by_cases k1 : op.kind = 1
          · simp [hN, k1, Wt.rs, Wt.pj, Wt.pk, gdp, gdc, hkl]
            refine RO (j.c, k.c, ct) _ _ ?_ ?_
            · exact fun W hW => ⟨hck, (by first | exact (hW) | exact (hW).1 | exact (hW).1.1 | exact (hW).1.2 | exact (hW).1.2.1 | exact (hW).1.2.2.1 | exact (hW).1.2.2.2.1 | exact (hW).1.2.2.2 | exact (hW).2 | exact (hW).2.1 | exact (hW).2.1.1 | exact (hW).2.1.2 | exact (hW).2.1.2.1 | exact (hW).2.1.2.2.1 | exact (hW).2.1.2.2.2.1 | exact (hW).2.1.2.2.2 | exact (hW).2.2 | exact (hW).2.2.1 | exact (hW).2.2.1.1 | exact (hW).2.2.1.2 | exact (hW).2.2.1.2.1 | exact (hW).2.2.1.2.2.1 | exact (hW).2.2.1.2.2.2.1 | exact (hW).2.2.1.2.2.2 | exact (hW).2.2.2 | exact (hW).2.2.2.1 | exact (hW).2.2.2.1.1 | exact (hW).2.2.2.1.2 | exact (hW).2.2.2.1.2.1 | exact (hW).2.2.2.1.2.2.1 | exact (hW).2.2.2.1.2.2.2.1 | exact (hW).2.2.2.1.2.2.2 | exact (hW).2.2.2.2 | exact (hW).2.2.2.2.1 | exact (hW).2.2.2.2.1.1 | exact (hW).2.2.2.2.1.2 | exact (hW).2.2.2.2.1.2.1 | exact (hW).2.2.2.2.1.2.2.1 | exact (hW).2.2.2.2.1.2.2.2.1 | exact (hW).2.2.2.2.1.2.2.2 | exact (hW).2.2.2.2.2 | exact (hW).2.2.2.2.2.1 | exact (hW).2.2.2.2.2.1.1 | exact (hW).2.2.2.2.2.1.2 | exact (hW).2.2.2.2.2.1.2.1 | exact (hW).2.2.2.2.2.1.2.2.1 | exact (hW).2.2.2.2.2.1.2.2.2.1 | exact (hW).2.2.2.2.2.1.2.2.2 | exact (hW).2.2.2.2.2.2 | exact (hW).2.2.2.2.2.2.1 | exact (hW).2.2.2.2.2.2.1.1 | exact (hW).2.2.2.2.2.2.1.2 | exact (hW).2.2.2.2.2.2.1.2.1 | exact (hW).2.2.2.2.2.2.1.2.2.1 | exact (hW).2.2.2.2.2.2.1.2.2.2.1 | exact (hW).2.2.2.2.2.2.1.2.2.2 | exact (hW).2.2.2.2.2.2.2 | exact (hW).2.2.2.2.2.2.2.1 | exact (hW).2.2.2.2.2.2.2.1.1 | exact (hW).2.2.2.2.2.2.2.1.2 | exact (hW).2.2.2.2.2.2.2.1.2.1 | exact (hW).2.2.2.2.2.2.2.1.2.2.1 | exact (hW).2.2.2.2.2.2.2.1.2.2.2.1 | exact (hW).2.2.2.2.2.2.2.1.2.2.2 | exact (hW).2.2.2.2.2.2.2.2 | exact (hW).2.2.2.2.2.2.2.2.1 | exact (hW).2.2.2.2.2.2.2.2.1.1 | exact (hW).2.2.2.2.2.2.2.2.1.2 | exact (hW).2.2.2.2.2.2.2.2.1.2.1 | exact (hW).2.2.2.2.2.2.2.2.1.2.2.1 | exact (hW).2.2.2.2.2.2.2.2.1.2.2.2.1 | exact (hW).2.2.2.2.2.2.2.2.1.2.2.2 | exact (hW).2.2.2.2.2.2.2.2.2)⟩
            · simp [Cp.map, mapR]
          by_cases k3 : op.kind = 3
          · simp [hN, k1, k3, Wt.rs, Wt.pj, Wt.pk, gdp, gdc, hkl]
            obtain ⟨c', hc'⟩ : ∃ c' : Cp, c' = { j.c with p := j.c.p.on } := ⟨_, rfl⟩
            obtain ⟨d', hd'⟩ : ∃ d' : Cp, d' = { k.c with p := k.c.p.on } := ⟨_, rfl⟩
            have hck' : Ck c0 d0 kb c' d' ct := by rw [hc', hd']; exact hck.at ⟨rfl, hck.tw.p.mask, rfl⟩ (by show (-1 : Int) ≤ _; decide) (by show (-1 : Int) ≤ _; decide)
            have hlv : live c'.p ∧ live d'.p := by rw [hc', hd']; exact ⟨⟨show (-1 : Int) < 0 by decide, rfl⟩, ⟨show (-1 : Int) < 0 by decide, rfl⟩⟩
            have ec : j.c.chip = c'.chip ∧ j.c.row = c'.row ∧ j.c.map = c'.map := by rw [hc']; exact ⟨rfl, rfl, rfl⟩
            have em : c'.gm = j.c.gm ∧ c'.er = j.c.er := by rw [hc']; exact ⟨rfl, rfl⟩
            have ed : (Rc.mk k.c gk kc ct).chip = (Rc.mk d' gk kc ct).chip ∧ (Rc.mk k.c gk kc ct).row = (Rc.mk d' gk kc ct).row ∧ (Rc.mk k.c gk kc ct).cnt = (Rc.mk d' gk kc ct).cnt := by rw [hd']; exact ⟨rfl, rfl, rfl⟩
            refine callS ok rfl rfl rfl [1011] [j.c.pow] (by simp) rfl (fun _ : Unit => [(1011, c'.pow)]) (fun w I S hI hG hO hS' => by have := on0 w I S hI j.c.gp j.c.p j.c.fl hO hS'; rw [gcp] at this; exact this) (fun r => by simp [hc', gcp]) (.inr fun x q hq => by simp at hq; subst hq; simp) fun _ W _ => ?_
            simp [hN]
            refine callS ok rfl rfl rfl [1001] [(Rc.mk k.c gk kc ct).pow] (by simp) rfl (fun _ : Unit => [(1001, (Rc.mk d' gk kc ct).pow)]) (fun w I S hI hG hO hS' => by have := rpOn0 w I S hI k.c.gp k.c.p hO hS'; rw [gdp] at this; exact this) (fun r => by simp [hd', gdp]) (.inr fun x q hq => by simp at hq; subst hq; simp) fun _ W _ => ?_
            simp [hN]
            refine RO (c', d', ct) _ _ ?_ ?_
            · exact fun W hW => ⟨hck', (by first | exact (hW) | exact (hW).1 | exact (hW).1.1 | exact (hW).1.2 | exact (hW).1.2.1 | exact (hW).1.2.2.1 | exact (hW).1.2.2.2.1 | exact (hW).1.2.2.2 | exact (hW).2 | exact (hW).2.1 | exact (hW).2.1.1 | exact (hW).2.1.2 | exact (hW).2.1.2.1 | exact (hW).2.1.2.2.1 | exact (hW).2.1.2.2.2.1 | exact (hW).2.1.2.2.2 | exact (hW).2.2 | exact (hW).2.2.1 | exact (hW).2.2.1.1 | exact (hW).2.2.1.2 | exact (hW).2.2.1.2.1 | exact (hW).2.2.1.2.2.1 | exact (hW).2.2.1.2.2.2.1 | exact (hW).2.2.1.2.2.2 | exact (hW).2.2.2 | exact (hW).2.2.2.1 | exact (hW).2.2.2.1.1 | exact (hW).2.2.2.1.2 | exact (hW).2.2.2.1.2.1 | exact (hW).2.2.2.1.2.2.1 | exact (hW).2.2.2.1.2.2.2.1 | exact (hW).2.2.2.1.2.2.2 | exact (hW).2.2.2.2 | exact (hW).2.2.2.2.1 | exact (hW).2.2.2.2.1.1 | exact (hW).2.2.2.2.1.2 | exact (hW).2.2.2.2.1.2.1 | exact (hW).2.2.2.2.1.2.2.1 | exact (hW).2.2.2.2.1.2.2.2.1 | exact (hW).2.2.2.2.1.2.2.2 | exact (hW).2.2.2.2.2 | exact (hW).2.2.2.2.2.1 | exact (hW).2.2.2.2.2.1.1 | exact (hW).2.2.2.2.2.1.2 | exact (hW).2.2.2.2.2.1.2.1 | exact (hW).2.2.2.2.2.1.2.2.1 | exact (hW).2.2.2.2.2.1.2.2.2.1 | exact (hW).2.2.2.2.2.1.2.2.2 | exact (hW).2.2.2.2.2.2 | exact (hW).2.2.2.2.2.2.1 | exact (hW).2.2.2.2.2.2.1.1 | exact (hW).2.2.2.2.2.2.1.2 | exact (hW).2.2.2.2.2.2.1.2.1 | exact (hW).2.2.2.2.2.2.1.2.2.1 | exact (hW).2.2.2.2.2.2.1.2.2.2.1 | exact (hW).2.2.2.2.2.2.1.2.2.2 | exact (hW).2.2.2.2.2.2.2 | exact (hW).2.2.2.2.2.2.2.1 | exact (hW).2.2.2.2.2.2.2.1.1 | exact (hW).2.2.2.2.2.2.2.1.2 | exact (hW).2.2.2.2.2.2.2.1.2.1 | exact (hW).2.2.2.2.2.2.2.1.2.2.1 | exact (hW).2.2.2.2.2.2.2.1.2.2.2.1 | exact (hW).2.2.2.2.2.2.2.1.2.2.2 | exact (hW).2.2.2.2.2.2.2.2 | exact (hW).2.2.2.2.2.2.2.2.1 | exact (hW).2.2.2.2.2.2.2.2.1.1 | exact (hW).2.2.2.2.2.2.2.2.1.2 | exact (hW).2.2.2.2.2.2.2.2.1.2.1 | exact (hW).2.2.2.2.2.2.2.2.1.2.2.1 | exact (hW).2.2.2.2.2.2.2.2.1.2.2.2.1 | exact (hW).2.2.2.2.2.2.2.2.1.2.2.2 | exact (hW).2.2.2.2.2.2.2.2.2)⟩
            · simp [ec.1, ec.2.1, em.1, em.2, ed.1, ed.2.1, ed.2.2, Cp.map, mapR]
          by_cases k4 : op.kind = 4
          · simp [hN, k1, k3, k4, Wt.rs, Wt.pj, Wt.pk, gdp, gdc, hkl]
            obtain ⟨c', hc'⟩ : ∃ c' : Cp, c' = { j.c with p := j.c.p.on } := ⟨_, rfl⟩
            obtain ⟨d', hd'⟩ : ∃ d' : Cp, d' = { k.c with p := k.c.p.on } := ⟨_, rfl⟩
            have hck' : Ck c0 d0 kb c' d' ct := by rw [hc', hd']; exact hck.at ⟨rfl, hck.tw.p.mask, rfl⟩ (by show (-1 : Int) ≤ _; decide) (by show (-1 : Int) ≤ _; decide)
            have hlv : live c'.p ∧ live d'.p := by rw [hc', hd']; exact ⟨⟨show (-1 : Int) < 0 by decide, rfl⟩, ⟨show (-1 : Int) < 0 by decide, rfl⟩⟩
            have ec : j.c.chip = c'.chip ∧ j.c.row = c'.row ∧ j.c.map = c'.map := by rw [hc']; exact ⟨rfl, rfl, rfl⟩
            have em : c'.gm = j.c.gm ∧ c'.er = j.c.er := by rw [hc']; exact ⟨rfl, rfl⟩
            have ed : (Rc.mk k.c gk kc ct).chip = (Rc.mk d' gk kc ct).chip ∧ (Rc.mk k.c gk kc ct).row = (Rc.mk d' gk kc ct).row ∧ (Rc.mk k.c gk kc ct).cnt = (Rc.mk d' gk kc ct).cnt := by rw [hd']; exact ⟨rfl, rfl, rfl⟩
            refine callS ok rfl rfl rfl [1011] [j.c.pow] (by simp) rfl (fun _ : Unit => [(1011, c'.pow)]) (fun w I S hI hG hO hS' => by have := on0 w I S hI j.c.gp j.c.p j.c.fl hO hS'; rw [gcp] at this; exact this) (fun r => by simp [hc', gcp]) (.inr fun x q hq => by simp at hq; subst hq; simp) fun _ W _ => ?_
            simp [hN]
            refine callS ok rfl rfl rfl [1001] [(Rc.mk k.c gk kc ct).pow] (by simp) rfl (fun _ : Unit => [(1001, (Rc.mk d' gk kc ct).pow)]) (fun w I S hI hG hO hS' => by have := rpOn0 w I S hI k.c.gp k.c.p hO hS'; rw [gdp] at this; exact this) (fun r => by simp [hd', gdp]) (.inr fun x q hq => by simp at hq; subst hq; simp) fun _ W _ => ?_
            simp [hN]
            refine RF (c', d', ct) _ _ ?_ ?_
            · exact fun W hW => ⟨⟨hck', hlv⟩, (by first | exact (hW) | exact (hW).1 | exact (hW).1.1 | exact (hW).1.2 | exact (hW).1.2.1 | exact (hW).1.2.2.1 | exact (hW).1.2.2.2.1 | exact (hW).1.2.2.2 | exact (hW).2 | exact (hW).2.1 | exact (hW).2.1.1 | exact (hW).2.1.2 | exact (hW).2.1.2.1 | exact (hW).2.1.2.2.1 | exact (hW).2.1.2.2.2.1 | exact (hW).2.1.2.2.2 | exact (hW).2.2 | exact (hW).2.2.1 | exact (hW).2.2.1.1 | exact (hW).2.2.1.2 | exact (hW).2.2.1.2.1 | exact (hW).2.2.1.2.2.1 | exact (hW).2.2.1.2.2.2.1 | exact (hW).2.2.1.2.2.2 | exact (hW).2.2.2 | exact (hW).2.2.2.1 | exact (hW).2.2.2.1.1 | exact (hW).2.2.2.1.2 | exact (hW).2.2.2.1.2.1 | exact (hW).2.2.2.1.2.2.1 | exact (hW).2.2.2.1.2.2.2.1 | exact (hW).2.2.2.1.2.2.2 | exact (hW).2.2.2.2 | exact (hW).2.2.2.2.1 | exact (hW).2.2.2.2.1.1 | exact (hW).2.2.2.2.1.2 | exact (hW).2.2.2.2.1.2.1 | exact (hW).2.2.2.2.1.2.2.1 | exact (hW).2.2.2.2.1.2.2.2.1 | exact (hW).2.2.2.2.1.2.2.2 | exact (hW).2.2.2.2.2 | exact (hW).2.2.2.2.2.1 | exact (hW).2.2.2.2.2.1.1 | exact (hW).2.2.2.2.2.1.2 | exact (hW).2.2.2.2.2.1.2.1 | exact (hW).2.2.2.2.2.1.2.2.1 | exact (hW).2.2.2.2.2.1.2.2.2.1 | exact (hW).2.2.2.2.2.1.2.2.2 | exact (hW).2.2.2.2.2.2 | exact (hW).2.2.2.2.2.2.1 | exact (hW).2.2.2.2.2.2.1.1 | exact (hW).2.2.2.2.2.2.1.2 | exact (hW).2.2.2.2.2.2.1.2.1 | exact (hW).2.2.2.2.2.2.1.2.2.1 | exact (hW).2.2.2.2.2.2.1.2.2.2.1 | exact (hW).2.2.2.2.2.2.1.2.2.2 | exact (hW).2.2.2.2.2.2.2 | exact (hW).2.2.2.2.2.2.2.1 | exact (hW).2.2.2.2.2.2.2.1.1 | exact (hW).2.2.2.2.2.2.2.1.2 | exact (hW).2.2.2.2.2.2.2.1.2.1 | exact (hW).2.2.2.2.2.2.2.1.2.2.1 | exact (hW).2.2.2.2.2.2.2.1.2.2.2.1 | exact (hW).2.2.2.2.2.2.2.1.2.2.2 | exact (hW).2.2.2.2.2.2.2.2 | exact (hW).2.2.2.2.2.2.2.2.1 | exact (hW).2.2.2.2.2.2.2.2.1.1 | exact (hW).2.2.2.2.2.2.2.2.1.2 | exact (hW).2.2.2.2.2.2.2.2.1.2.1 | exact (hW).2.2.2.2.2.2.2.2.1.2.2.1 | exact (hW).2.2.2.2.2.2.2.2.1.2.2.2.1 | exact (hW).2.2.2.2.2.2.2.2.1.2.2.2 | exact (hW).2.2.2.2.2.2.2.2.2)⟩
            · simp [ec.1, ec.2.1, em.1, em.2, ed.1, ed.2.1, ed.2.2, Cp.map, mapR]
          by_cases k2 : op.kind = 2
          · simp [hN, k1, k3, k4, k2, Wt.rs, Wt.pj, Wt.pk, gdp, gdc, hkl]
            refine ⟨fun hoff => ?_, fun hoff => ?_⟩
            · obtain ⟨c', hc'⟩ : ∃ c' : Cp, c' = { j.c with p := j.c.p.cut op.n op.mask } := ⟨_, rfl⟩
              obtain ⟨d', hd'⟩ : ∃ d' : Cp, d' = { k.c with p := k.c.p.cut op.n op.mask } := ⟨_, rfl⟩
              have hcl2 : ∀ p : Pw, (p.cut op.n op.mask).left ≤ 9223372036854775807 := fun p => by unfold Pw.cut; simp only; split <;> omega
              have hck' : Ck c0 d0 kb c' d' ct := by rw [hc', hd']; exact hck.at ⟨rfl, rfl, hck.tw.p.off⟩ (hcl2 _) (hcl2 _)
              have ec : j.c.chip = c'.chip ∧ j.c.row = c'.row ∧ j.c.map = c'.map := by rw [hc']; exact ⟨rfl, rfl, rfl⟩
              have em : c'.gm = j.c.gm ∧ c'.er = j.c.er := by rw [hc']; exact ⟨rfl, rfl⟩
              have eg : c'.gc = j.c.gc ∧ d'.gc = k.c.gc := by rw [hc', hd']; exact ⟨rfl, rfl⟩
              have ed : (Rc.mk k.c gk kc ct).chip = (Rc.mk d' gk kc ct).chip ∧ (Rc.mk k.c gk kc ct).row = (Rc.mk d' gk kc ct).row ∧ (Rc.mk k.c gk kc ct).cnt = (Rc.mk d' gk kc ct).cnt := by rw [hd']; exact ⟨rfl, rfl, rfl⟩
              refine callS ok rfl rfl rfl [1011] [j.c.pow] (by simp) rfl (fun _ : Unit => [(1011, c'.pow)]) (fun w I S hI hG hO hS' => by have := cut0 w I S hI j.c.gp j.c.p j.c.fl op.n op.mask hO hS'; rw [gcp] at this; exact this) (fun r => by simp [hc', gcp]) (.inr fun x q hq => by simp at hq; subst hq; simp) fun _ W _ => ?_
              simp [hN, gdp]
              refine callS ok rfl rfl rfl [1001] [(Rc.mk k.c gk kc ct).pow] (by simp) rfl (fun _ : Unit => [(1001, (Rc.mk d' gk kc ct).pow)]) (fun w I S hI hG hO hS' => by have := rpCut0 w I S hI k.c.gp k.c.p op.n op.mask hO hS'; rw [gdp] at this; exact this) (fun r => by simp [hd', gdp]) (.inr fun x q hq => by simp at hq; subst hq; simp) fun _ W _ => ?_
              simp [hN, gdc, hkl]
              refine RE (.up { j with c := c' } { k with c := d' } ct, 0) _ _ ?_ ?_
              · exact fun W hW => ⟨⟨⟨hck', ⟨hck'.tw, hjw.half, hjw.ep, hjw.used, hjw.s, hjw.ended⟩, ⟨hjb.half, hjb.ep, hjb.used, Nat.le_trans hjb.w (by omega)⟩⟩, (by first | exact (hW) | exact (hW).1 | exact (hW).1.1 | exact (hW).1.2 | exact (hW).1.2.1 | exact (hW).1.2.2.1 | exact (hW).1.2.2.2.1 | exact (hW).1.2.2.2 | exact (hW).2 | exact (hW).2.1 | exact (hW).2.1.1 | exact (hW).2.1.2 | exact (hW).2.1.2.1 | exact (hW).2.1.2.2.1 | exact (hW).2.1.2.2.2.1 | exact (hW).2.1.2.2.2 | exact (hW).2.2 | exact (hW).2.2.1 | exact (hW).2.2.1.1 | exact (hW).2.2.1.2 | exact (hW).2.2.1.2.1 | exact (hW).2.2.1.2.2.1 | exact (hW).2.2.1.2.2.2.1 | exact (hW).2.2.1.2.2.2 | exact (hW).2.2.2 | exact (hW).2.2.2.1 | exact (hW).2.2.2.1.1 | exact (hW).2.2.2.1.2 | exact (hW).2.2.2.1.2.1 | exact (hW).2.2.2.1.2.2.1 | exact (hW).2.2.2.1.2.2.2.1 | exact (hW).2.2.2.1.2.2.2 | exact (hW).2.2.2.2 | exact (hW).2.2.2.2.1 | exact (hW).2.2.2.2.1.1 | exact (hW).2.2.2.2.1.2 | exact (hW).2.2.2.2.1.2.1 | exact (hW).2.2.2.2.1.2.2.1 | exact (hW).2.2.2.2.1.2.2.2.1 | exact (hW).2.2.2.2.1.2.2.2 | exact (hW).2.2.2.2.2 | exact (hW).2.2.2.2.2.1 | exact (hW).2.2.2.2.2.1.1 | exact (hW).2.2.2.2.2.1.2 | exact (hW).2.2.2.2.2.1.2.1 | exact (hW).2.2.2.2.2.1.2.2.1 | exact (hW).2.2.2.2.2.1.2.2.2.1 | exact (hW).2.2.2.2.2.1.2.2.2 | exact (hW).2.2.2.2.2.2 | exact (hW).2.2.2.2.2.2.1 | exact (hW).2.2.2.2.2.2.1.1 | exact (hW).2.2.2.2.2.2.1.2 | exact (hW).2.2.2.2.2.2.1.2.1 | exact (hW).2.2.2.2.2.2.1.2.2.1 | exact (hW).2.2.2.2.2.2.1.2.2.2.1 | exact (hW).2.2.2.2.2.2.1.2.2.2 | exact (hW).2.2.2.2.2.2.2 | exact (hW).2.2.2.2.2.2.2.1 | exact (hW).2.2.2.2.2.2.2.1.1 | exact (hW).2.2.2.2.2.2.2.1.2 | exact (hW).2.2.2.2.2.2.2.1.2.1 | exact (hW).2.2.2.2.2.2.2.1.2.2.1 | exact (hW).2.2.2.2.2.2.2.1.2.2.2.1 | exact (hW).2.2.2.2.2.2.2.1.2.2.2 | exact (hW).2.2.2.2.2.2.2.2 | exact (hW).2.2.2.2.2.2.2.2.1 | exact (hW).2.2.2.2.2.2.2.2.1.1 | exact (hW).2.2.2.2.2.2.2.2.1.2 | exact (hW).2.2.2.2.2.2.2.2.1.2.1 | exact (hW).2.2.2.2.2.2.2.2.1.2.2.1 | exact (hW).2.2.2.2.2.2.2.2.1.2.2.2.1 | exact (hW).2.2.2.2.2.2.2.2.1.2.2.2 | exact (hW).2.2.2.2.2.2.2.2.2)⟩, (by first | exact (hW) | exact (hW).1 | exact (hW).1.1 | exact (hW).1.2 | exact (hW).1.2.1 | exact (hW).1.2.2.1 | exact (hW).1.2.2.2.1 | exact (hW).1.2.2.2 | exact (hW).2 | exact (hW).2.1 | exact (hW).2.1.1 | exact (hW).2.1.2 | exact (hW).2.1.2.1 | exact (hW).2.1.2.2.1 | exact (hW).2.1.2.2.2.1 | exact (hW).2.1.2.2.2 | exact (hW).2.2 | exact (hW).2.2.1 | exact (hW).2.2.1.1 | exact (hW).2.2.1.2 | exact (hW).2.2.1.2.1 | exact (hW).2.2.1.2.2.1 | exact (hW).2.2.1.2.2.2.1 | exact (hW).2.2.1.2.2.2 | exact (hW).2.2.2 | exact (hW).2.2.2.1 | exact (hW).2.2.2.1.1 | exact (hW).2.2.2.1.2 | exact (hW).2.2.2.1.2.1 | exact (hW).2.2.2.1.2.2.1 | exact (hW).2.2.2.1.2.2.2.1 | exact (hW).2.2.2.1.2.2.2 | exact (hW).2.2.2.2 | exact (hW).2.2.2.2.1 | exact (hW).2.2.2.2.1.1 | exact (hW).2.2.2.2.1.2 | exact (hW).2.2.2.2.1.2.1 | exact (hW).2.2.2.2.1.2.2.1 | exact (hW).2.2.2.2.1.2.2.2.1 | exact (hW).2.2.2.2.1.2.2.2 | exact (hW).2.2.2.2.2 | exact (hW).2.2.2.2.2.1 | exact (hW).2.2.2.2.2.1.1 | exact (hW).2.2.2.2.2.1.2 | exact (hW).2.2.2.2.2.1.2.1 | exact (hW).2.2.2.2.2.1.2.2.1 | exact (hW).2.2.2.2.2.1.2.2.2.1 | exact (hW).2.2.2.2.2.1.2.2.2 | exact (hW).2.2.2.2.2.2 | exact (hW).2.2.2.2.2.2.1 | exact (hW).2.2.2.2.2.2.1.1 | exact (hW).2.2.2.2.2.2.1.2 | exact (hW).2.2.2.2.2.2.1.2.1 | exact (hW).2.2.2.2.2.2.1.2.2.1 | exact (hW).2.2.2.2.2.2.1.2.2.2.1 | exact (hW).2.2.2.2.2.2.1.2.2.2 | exact (hW).2.2.2.2.2.2.2 | exact (hW).2.2.2.2.2.2.2.1 | exact (hW).2.2.2.2.2.2.2.1.1 | exact (hW).2.2.2.2.2.2.2.1.2 | exact (hW).2.2.2.2.2.2.2.1.2.1 | exact (hW).2.2.2.2.2.2.2.1.2.2.1 | exact (hW).2.2.2.2.2.2.2.1.2.2.2.1 | exact (hW).2.2.2.2.2.2.2.1.2.2.2 | exact (hW).2.2.2.2.2.2.2.2 | exact (hW).2.2.2.2.2.2.2.2.1 | exact (hW).2.2.2.2.2.2.2.2.1.1 | exact (hW).2.2.2.2.2.2.2.2.1.2 | exact (hW).2.2.2.2.2.2.2.2.1.2.1 | exact (hW).2.2.2.2.2.2.2.2.1.2.2.1 | exact (hW).2.2.2.2.2.2.2.2.1.2.2.2.1 | exact (hW).2.2.2.2.2.2.2.2.1.2.2.2 | exact (hW).2.2.2.2.2.2.2.2.2)⟩
              · simp [Wt.rs, Wt.pj, Wt.pk, ec.1, ec.2.1, em.1, em.2, eg.1, eg.2, ed.1, ed.2.1, ed.2.2, Cp.map, mapR]
            · refine RE (.up j k ct, 0) _ _ ?_ ?_
              · exact fun W hW => ⟨⟨⟨hck, hjw, hjb.mono (by omega)⟩, (by first | exact (hW) | exact (hW).1 | exact (hW).1.1 | exact (hW).1.2 | exact (hW).1.2.1 | exact (hW).1.2.2.1 | exact (hW).1.2.2.2.1 | exact (hW).1.2.2.2 | exact (hW).2 | exact (hW).2.1 | exact (hW).2.1.1 | exact (hW).2.1.2 | exact (hW).2.1.2.1 | exact (hW).2.1.2.2.1 | exact (hW).2.1.2.2.2.1 | exact (hW).2.1.2.2.2 | exact (hW).2.2 | exact (hW).2.2.1 | exact (hW).2.2.1.1 | exact (hW).2.2.1.2 | exact (hW).2.2.1.2.1 | exact (hW).2.2.1.2.2.1 | exact (hW).2.2.1.2.2.2.1 | exact (hW).2.2.1.2.2.2 | exact (hW).2.2.2 | exact (hW).2.2.2.1 | exact (hW).2.2.2.1.1 | exact (hW).2.2.2.1.2 | exact (hW).2.2.2.1.2.1 | exact (hW).2.2.2.1.2.2.1 | exact (hW).2.2.2.1.2.2.2.1 | exact (hW).2.2.2.1.2.2.2 | exact (hW).2.2.2.2 | exact (hW).2.2.2.2.1 | exact (hW).2.2.2.2.1.1 | exact (hW).2.2.2.2.1.2 | exact (hW).2.2.2.2.1.2.1 | exact (hW).2.2.2.2.1.2.2.1 | exact (hW).2.2.2.2.1.2.2.2.1 | exact (hW).2.2.2.2.1.2.2.2 | exact (hW).2.2.2.2.2 | exact (hW).2.2.2.2.2.1 | exact (hW).2.2.2.2.2.1.1 | exact (hW).2.2.2.2.2.1.2 | exact (hW).2.2.2.2.2.1.2.1 | exact (hW).2.2.2.2.2.1.2.2.1 | exact (hW).2.2.2.2.2.1.2.2.2.1 | exact (hW).2.2.2.2.2.1.2.2.2 | exact (hW).2.2.2.2.2.2 | exact (hW).2.2.2.2.2.2.1 | exact (hW).2.2.2.2.2.2.1.1 | exact (hW).2.2.2.2.2.2.1.2 | exact (hW).2.2.2.2.2.2.1.2.1 | exact (hW).2.2.2.2.2.2.1.2.2.1 | exact (hW).2.2.2.2.2.2.1.2.2.2.1 | exact (hW).2.2.2.2.2.2.1.2.2.2 | exact (hW).2.2.2.2.2.2.2 | exact (hW).2.2.2.2.2.2.2.1 | exact (hW).2.2.2.2.2.2.2.1.1 | exact (hW).2.2.2.2.2.2.2.1.2 | exact (hW).2.2.2.2.2.2.2.1.2.1 | exact (hW).2.2.2.2.2.2.2.1.2.2.1 | exact (hW).2.2.2.2.2.2.2.1.2.2.2.1 | exact (hW).2.2.2.2.2.2.2.1.2.2.2 | exact (hW).2.2.2.2.2.2.2.2 | exact (hW).2.2.2.2.2.2.2.2.1 | exact (hW).2.2.2.2.2.2.2.2.1.1 | exact (hW).2.2.2.2.2.2.2.2.1.2 | exact (hW).2.2.2.2.2.2.2.2.1.2.1 | exact (hW).2.2.2.2.2.2.2.2.1.2.2.1 | exact (hW).2.2.2.2.2.2.2.2.1.2.2.2.1 | exact (hW).2.2.2.2.2.2.2.2.1.2.2.2 | exact (hW).2.2.2.2.2.2.2.2.2)⟩, (by first | exact (hW) | exact (hW).1 | exact (hW).1.1 | exact (hW).1.2 | exact (hW).1.2.1 | exact (hW).1.2.2.1 | exact (hW).1.2.2.2.1 | exact (hW).1.2.2.2 | exact (hW).2 | exact (hW).2.1 | exact (hW).2.1.1 | exact (hW).2.1.2 | exact (hW).2.1.2.1 | exact (hW).2.1.2.2.1 | exact (hW).2.1.2.2.2.1 | exact (hW).2.1.2.2.2 | exact (hW).2.2 | exact (hW).2.2.1 | exact (hW).2.2.1.1 | exact (hW).2.2.1.2 | exact (hW).2.2.1.2.1 | exact (hW).2.2.1.2.2.1 | exact (hW).2.2.1.2.2.2.1 | exact (hW).2.2.1.2.2.2 | exact (hW).2.2.2 | exact (hW).2.2.2.1 | exact (hW).2.2.2.1.1 | exact (hW).2.2.2.1.2 | exact (hW).2.2.2.1.2.1 | exact (hW).2.2.2.1.2.2.1 | exact (hW).2.2.2.1.2.2.2.1 | exact (hW).2.2.2.1.2.2.2 | exact (hW).2.2.2.2 | exact (hW).2.2.2.2.1 | exact (hW).2.2.2.2.1.1 | exact (hW).2.2.2.2.1.2 | exact (hW).2.2.2.2.1.2.1 | exact (hW).2.2.2.2.1.2.2.1 | exact (hW).2.2.2.2.1.2.2.2.1 | exact (hW).2.2.2.2.1.2.2.2 | exact (hW).2.2.2.2.2 | exact (hW).2.2.2.2.2.1 | exact (hW).2.2.2.2.2.1.1 | exact (hW).2.2.2.2.2.1.2 | exact (hW).2.2.2.2.2.1.2.1 | exact (hW).2.2.2.2.2.1.2.2.1 | exact (hW).2.2.2.2.2.1.2.2.2.1 | exact (hW).2.2.2.2.2.1.2.2.2 | exact (hW).2.2.2.2.2.2 | exact (hW).2.2.2.2.2.2.1 | exact (hW).2.2.2.2.2.2.1.1 | exact (hW).2.2.2.2.2.2.1.2 | exact (hW).2.2.2.2.2.2.1.2.1 | exact (hW).2.2.2.2.2.2.1.2.2.1 | exact (hW).2.2.2.2.2.2.1.2.2.2.1 | exact (hW).2.2.2.2.2.2.1.2.2.2 | exact (hW).2.2.2.2.2.2.2 | exact (hW).2.2.2.2.2.2.2.1 | exact (hW).2.2.2.2.2.2.2.1.1 | exact (hW).2.2.2.2.2.2.2.1.2 | exact (hW).2.2.2.2.2.2.2.1.2.1 | exact (hW).2.2.2.2.2.2.2.1.2.2.1 | exact (hW).2.2.2.2.2.2.2.1.2.2.2.1 | exact (hW).2.2.2.2.2.2.2.1.2.2.2 | exact (hW).2.2.2.2.2.2.2.2 | exact (hW).2.2.2.2.2.2.2.2.1 | exact (hW).2.2.2.2.2.2.2.2.1.1 | exact (hW).2.2.2.2.2.2.2.2.1.2 | exact (hW).2.2.2.2.2.2.2.2.1.2.1 | exact (hW).2.2.2.2.2.2.2.2.1.2.2.1 | exact (hW).2.2.2.2.2.2.2.2.1.2.2.2.1 | exact (hW).2.2.2.2.2.2.2.2.1.2.2.2 | exact (hW).2.2.2.2.2.2.2.2.2)⟩
              · simp [Wt.rs, Wt.pj, Wt.pk]
          simp [hN, k1, k3, k4, k2, Wt.rs, Wt.pj, Wt.pk, gdp, gdc, hkl]
          have hcw0 := count_w j.s
          have hw0' := hjb.w
          have hdc := deeds_count op.l
          have haw := applyL_w j.s op.l
          have hcw := count_w (applyL j.s op.l)
          have hww := whole_w (applyL j.s op.l)
          have hjb2 := hjw.jb hjb
          have hu := hjb.used
          refine draw ok [(16, .box g16 77 [.v (.int .i64 op.kind), .v (.int .i64 op.n), .v (.int .u8 op.mask), .v (.slice s.1 op.l.length s.2)])] (by rw [ok.P]; exact mixed) (by kernel_rfl) ?_
          simp (maxSteps := 2000000) -implicitDefEqProofs [hN]
          refine callS ok rfl rfl rfl [1010, 1011, 1012, 1013, 1014] j.res (by simp [Cp.map, mapR]) rfl (fun v : Sl × Sl => [(1010, (commitM j op.l v).2.c.chip), (1011, (commitM j op.l v).2.c.pow), (1012, (commitM j op.l v).2.c.row), (1013, (commitM j op.l v).2.c.map), (1014, (commitM j op.l v).2.box)]) (fun w I S hI hG hO hS' => commit0 w I S hI j (a := s.1) (n := op.l.length) (c := s.2) op.l hck.cf hjb.half hjb.ep (by omega) (fun W e => (hG W e).1.2.1) (fun W e => ⟨rfl, (by first | exact (hG W e) | exact (hG W e).1 | exact (hG W e).1.1 | exact (hG W e).1.2 | exact (hG W e).1.2.1 | exact (hG W e).1.2.2.1 | exact (hG W e).1.2.2.2.1 | exact (hG W e).1.2.2.2 | exact (hG W e).2 | exact (hG W e).2.1 | exact (hG W e).2.1.1 | exact (hG W e).2.1.2 | exact (hG W e).2.1.2.1 | exact (hG W e).2.1.2.2.1 | exact (hG W e).2.1.2.2.2.1 | exact (hG W e).2.1.2.2.2 | exact (hG W e).2.2 | exact (hG W e).2.2.1 | exact (hG W e).2.2.1.1 | exact (hG W e).2.2.1.2 | exact (hG W e).2.2.1.2.1 | exact (hG W e).2.2.1.2.2.1 | exact (hG W e).2.2.1.2.2.2.1 | exact (hG W e).2.2.1.2.2.2 | exact (hG W e).2.2.2 | exact (hG W e).2.2.2.1 | exact (hG W e).2.2.2.1.1 | exact (hG W e).2.2.2.1.2 | exact (hG W e).2.2.2.1.2.1 | exact (hG W e).2.2.2.1.2.2.1 | exact (hG W e).2.2.2.1.2.2.2.1 | exact (hG W e).2.2.2.1.2.2.2 | exact (hG W e).2.2.2.2 | exact (hG W e).2.2.2.2.1 | exact (hG W e).2.2.2.2.1.1 | exact (hG W e).2.2.2.2.1.2 | exact (hG W e).2.2.2.2.1.2.1 | exact (hG W e).2.2.2.2.1.2.2.1 | exact (hG W e).2.2.2.2.1.2.2.2.1 | exact (hG W e).2.2.2.2.1.2.2.2 | exact (hG W e).2.2.2.2.2 | exact (hG W e).2.2.2.2.2.1 | exact (hG W e).2.2.2.2.2.1.1 | exact (hG W e).2.2.2.2.2.1.2 | exact (hG W e).2.2.2.2.2.1.2.1 | exact (hG W e).2.2.2.2.2.1.2.2.1 | exact (hG W e).2.2.2.2.2.1.2.2.2.1 | exact (hG W e).2.2.2.2.2.1.2.2.2 | exact (hG W e).2.2.2.2.2.2 | exact (hG W e).2.2.2.2.2.2.1 | exact (hG W e).2.2.2.2.2.2.1.1 | exact (hG W e).2.2.2.2.2.2.1.2 | exact (hG W e).2.2.2.2.2.2.1.2.1 | exact (hG W e).2.2.2.2.2.2.1.2.2.1 | exact (hG W e).2.2.2.2.2.2.1.2.2.2.1 | exact (hG W e).2.2.2.2.2.2.1.2.2.2 | exact (hG W e).2.2.2.2.2.2.2 | exact (hG W e).2.2.2.2.2.2.2.1 | exact (hG W e).2.2.2.2.2.2.2.1.1 | exact (hG W e).2.2.2.2.2.2.2.1.2 | exact (hG W e).2.2.2.2.2.2.2.1.2.1 | exact (hG W e).2.2.2.2.2.2.2.1.2.2.1 | exact (hG W e).2.2.2.2.2.2.2.1.2.2.2.1 | exact (hG W e).2.2.2.2.2.2.2.1.2.2.2 | exact (hG W e).2.2.2.2.2.2.2.2 | exact (hG W e).2.2.2.2.2.2.2.2.1 | exact (hG W e).2.2.2.2.2.2.2.2.1.1 | exact (hG W e).2.2.2.2.2.2.2.2.1.2 | exact (hG W e).2.2.2.2.2.2.2.2.1.2.1 | exact (hG W e).2.2.2.2.2.2.2.2.1.2.2.1 | exact (hG W e).2.2.2.2.2.2.2.2.1.2.2.2.1 | exact (hG W e).2.2.2.2.2.2.2.2.1.2.2.2 | exact (hG W e).2.2.2.2.2.2.2.2.2)⟩) (by omega) (by omega) (by show wholeB _ ≤ _; omega) (by omega) hO hS') (fun r => by simp [Cp.map, mapR]) (.inr fun x q hq => by simp at hq; rcases hq with rfl | rfl | rfl | rfl | rfl <;> simp) fun v W hv => ?_
          simp (maxSteps := 2000000) -implicitDefEqProofs [hN]
          refine callS ok rfl rfl rfl [1000, 1001, 1002, 1003, 1004] (Rj.mk k gk kc ct).res (by simp) rfl (fun v : (Sl × Sl) × List Int => [(1000, (Rj.mk (commitM k op.l v.1).2 gk kc v.2).rc.chip), (1001, (Rj.mk (commitM k op.l v.1).2 gk kc v.2).rc.pow), (1002, (Rj.mk (commitM k op.l v.1).2 gk kc v.2).rc.row), (1003, (Rj.mk (commitM k op.l v.1).2 gk kc v.2).rc.cnt), (1004, rjB (commitM k op.l v.1).2)]) (fun w I S hI hG hO hS' => refCommit0 w I S hI (Rj.mk k gk kc ct) (a := s.1) (n := op.l.length) (cp := s.2) op.l hck.df (by show (ct.length : Int) = k.c.g.sectors; rw [hck.ct, hck.ds.g, hG0, hkb]) hjb2.half hjb2.ep (by have := hjb2.used; show k.used ≤ _; omega) (fun W e => (hG W e).2.1.2.2) (fun W e => ⟨rfl, (hG W e).2.2.1⟩) (by simp only [hjw.s]; omega) (by simp only [hjw.s]; omega) (by simp only [hjw.s]; show wholeB _ ≤ _; omega) (by omega) hO hS') (fun r => by simp) (.inr fun x q hq => by simp at hq; rcases hq with rfl | rfl | rfl | rfl | rfl <;> simp) fun u W hu => ?_
          have ht2 := commit_tw hjw op.l v u.1
          have hjb3 := commit_jb hck.cf hjb op.l v
          have hcs := commit_samej hck.cf hjb.half op.l v
          have hds := commit_samej hck.df hjb2.half op.l u.1
          have hib := commit_isB hck.cb op.l v
          have eg1 := commit_gj j op.l v
          have eg2 := commit_gj k op.l u.1
          have el2 : (commitM k op.l u.1).2.c.b.length = nb := hds.1.len.trans hkl
          have ec2 : (commitM j op.l v).2.c.gc = c0.gc := hcs.1.gc.trans gcc
          have ed2 : (commitM k op.l u.1).2.c.gc = d0.gc := hds.1.gc.trans gdc
          simp (maxSteps := 2000000) -implicitDefEqProofs [hN, ht2.1, el2, ec2, ed2]
          refine RE (.up (commitM j op.l v).2 (commitM k op.l u.1).2 u.2, (commitM j op.l v).1) _ _ ?_ ?_
          · exact fun W hW => ⟨⟨⟨⟨ht2.2.c, hcs.2, hds.2, hib, hck.cs.trans hcs.1, hck.ds.trans hds.1, hu.1.trans hck.ct⟩, ht2.2, hjb3.mono (by omega)⟩, commit_P (StaR W) op.l v hW.2.2.1.2.1 hW.2.1, commit_P (StaR W) op.l u.1 hW.2.2.1.2.2 hW.1.2⟩, hW.2.2.2.2⟩
          · simp [Wt.rs, Wt.pj, Wt.pk, Cp.map, mapR, eg1, eg2]
        | down c d ct =>
          have hck : Ck c0 d0 kb c d ct := hst
          have gcc : c.gc = c0.gc := hck.cs.gc
          have gcp : c.gp = c0.gp := hck.cs.gp
          have gdc : d.gc = d0.gc := hck.ds.gc
          have gdp : d.gp = d0.gp := hck.ds.gp
          have hkl : d.b.length = nb := by rw [hck.ds.len, hl0]
          by_cases k1 : op.kind = 1
          · simp [hN, k1, Wt.rs, Wt.pj, Wt.pk, gdp, gdc, hkl]
            refine RO (c, d, ct) _ _ ?_ ?_
            · exact fun W hW => ⟨hck, (by first | exact (hW) | exact (hW).1 | exact (hW).1.1 | exact (hW).1.2 | exact (hW).1.2.1 | exact (hW).1.2.2.1 | exact (hW).1.2.2.2.1 | exact (hW).1.2.2.2 | exact (hW).2 | exact (hW).2.1 | exact (hW).2.1.1 | exact (hW).2.1.2 | exact (hW).2.1.2.1 | exact (hW).2.1.2.2.1 | exact (hW).2.1.2.2.2.1 | exact (hW).2.1.2.2.2 | exact (hW).2.2 | exact (hW).2.2.1 | exact (hW).2.2.1.1 | exact (hW).2.2.1.2 | exact (hW).2.2.1.2.1 | exact (hW).2.2.1.2.2.1 | exact (hW).2.2.1.2.2.2.1 | exact (hW).2.2.1.2.2.2 | exact (hW).2.2.2 | exact (hW).2.2.2.1 | exact (hW).2.2.2.1.1 | exact (hW).2.2.2.1.2 | exact (hW).2.2.2.1.2.1 | exact (hW).2.2.2.1.2.2.1 | exact (hW).2.2.2.1.2.2.2.1 | exact (hW).2.2.2.1.2.2.2 | exact (hW).2.2.2.2 | exact (hW).2.2.2.2.1 | exact (hW).2.2.2.2.1.1 | exact (hW).2.2.2.2.1.2 | exact (hW).2.2.2.2.1.2.1 | exact (hW).2.2.2.2.1.2.2.1 | exact (hW).2.2.2.2.1.2.2.2.1 | exact (hW).2.2.2.2.1.2.2.2 | exact (hW).2.2.2.2.2 | exact (hW).2.2.2.2.2.1 | exact (hW).2.2.2.2.2.1.1 | exact (hW).2.2.2.2.2.1.2 | exact (hW).2.2.2.2.2.1.2.1 | exact (hW).2.2.2.2.2.1.2.2.1 | exact (hW).2.2.2.2.2.1.2.2.2.1 | exact (hW).2.2.2.2.2.1.2.2.2 | exact (hW).2.2.2.2.2.2 | exact (hW).2.2.2.2.2.2.1 | exact (hW).2.2.2.2.2.2.1.1 | exact (hW).2.2.2.2.2.2.1.2 | exact (hW).2.2.2.2.2.2.1.2.1 | exact (hW).2.2.2.2.2.2.1.2.2.1 | exact (hW).2.2.2.2.2.2.1.2.2.2.1 | exact (hW).2.2.2.2.2.2.1.2.2.2 | exact (hW).2.2.2.2.2.2.2 | exact (hW).2.2.2.2.2.2.2.1 | exact (hW).2.2.2.2.2.2.2.1.1 | exact (hW).2.2.2.2.2.2.2.1.2 | exact (hW).2.2.2.2.2.2.2.1.2.1 | exact (hW).2.2.2.2.2.2.2.1.2.2.1 | exact (hW).2.2.2.2.2.2.2.1.2.2.2.1 | exact (hW).2.2.2.2.2.2.2.1.2.2.2 | exact (hW).2.2.2.2.2.2.2.2 | exact (hW).2.2.2.2.2.2.2.2.1 | exact (hW).2.2.2.2.2.2.2.2.1.1 | exact (hW).2.2.2.2.2.2.2.2.1.2 | exact (hW).2.2.2.2.2.2.2.2.1.2.1 | exact (hW).2.2.2.2.2.2.2.2.1.2.2.1 | exact (hW).2.2.2.2.2.2.2.2.1.2.2.2.1 | exact (hW).2.2.2.2.2.2.2.2.1.2.2.2 | exact (hW).2.2.2.2.2.2.2.2.2)⟩
            · simp [Cp.map, mapR]
          by_cases k3 : op.kind = 3
          · simp [hN, k1, k3, Wt.rs, Wt.pj, Wt.pk, gdp, gdc, hkl]
            obtain ⟨c', hc'⟩ : ∃ c' : Cp, c' = { c with p := c.p.on } := ⟨_, rfl⟩
            obtain ⟨d', hd'⟩ : ∃ d' : Cp, d' = { d with p := d.p.on } := ⟨_, rfl⟩
            have hck' : Ck c0 d0 kb c' d' ct := by rw [hc', hd']; exact hck.at ⟨rfl, hck.tw.p.mask, rfl⟩ (by show (-1 : Int) ≤ _; decide) (by show (-1 : Int) ≤ _; decide)
            have hlv : live c'.p ∧ live d'.p := by rw [hc', hd']; exact ⟨⟨show (-1 : Int) < 0 by decide, rfl⟩, ⟨show (-1 : Int) < 0 by decide, rfl⟩⟩
            have ec : c.chip = c'.chip ∧ c.row = c'.row ∧ c.map = c'.map := by rw [hc']; exact ⟨rfl, rfl, rfl⟩
            have em : c'.gm = c.gm ∧ c'.er = c.er := by rw [hc']; exact ⟨rfl, rfl⟩
            have ed : (Rc.mk d gk kc ct).chip = (Rc.mk d' gk kc ct).chip ∧ (Rc.mk d gk kc ct).row = (Rc.mk d' gk kc ct).row ∧ (Rc.mk d gk kc ct).cnt = (Rc.mk d' gk kc ct).cnt := by rw [hd']; exact ⟨rfl, rfl, rfl⟩
            refine callS ok rfl rfl rfl [1011] [c.pow] (by simp) rfl (fun _ : Unit => [(1011, c'.pow)]) (fun w I S hI hG hO hS' => by have := on0 w I S hI c.gp c.p c.fl hO hS'; rw [gcp] at this; exact this) (fun r => by simp [hc', gcp]) (.inr fun x q hq => by simp at hq; subst hq; simp) fun _ W _ => ?_
            simp [hN]
            refine callS ok rfl rfl rfl [1001] [(Rc.mk d gk kc ct).pow] (by simp) rfl (fun _ : Unit => [(1001, (Rc.mk d' gk kc ct).pow)]) (fun w I S hI hG hO hS' => by have := rpOn0 w I S hI d.gp d.p hO hS'; rw [gdp] at this; exact this) (fun r => by simp [hd', gdp]) (.inr fun x q hq => by simp at hq; subst hq; simp) fun _ W _ => ?_
            simp [hN]
            refine RO (c', d', ct) _ _ ?_ ?_
            · exact fun W hW => ⟨hck', (by first | exact (hW) | exact (hW).1 | exact (hW).1.1 | exact (hW).1.2 | exact (hW).1.2.1 | exact (hW).1.2.2.1 | exact (hW).1.2.2.2.1 | exact (hW).1.2.2.2 | exact (hW).2 | exact (hW).2.1 | exact (hW).2.1.1 | exact (hW).2.1.2 | exact (hW).2.1.2.1 | exact (hW).2.1.2.2.1 | exact (hW).2.1.2.2.2.1 | exact (hW).2.1.2.2.2 | exact (hW).2.2 | exact (hW).2.2.1 | exact (hW).2.2.1.1 | exact (hW).2.2.1.2 | exact (hW).2.2.1.2.1 | exact (hW).2.2.1.2.2.1 | exact (hW).2.2.1.2.2.2.1 | exact (hW).2.2.1.2.2.2 | exact (hW).2.2.2 | exact (hW).2.2.2.1 | exact (hW).2.2.2.1.1 | exact (hW).2.2.2.1.2 | exact (hW).2.2.2.1.2.1 | exact (hW).2.2.2.1.2.2.1 | exact (hW).2.2.2.1.2.2.2.1 | exact (hW).2.2.2.1.2.2.2 | exact (hW).2.2.2.2 | exact (hW).2.2.2.2.1 | exact (hW).2.2.2.2.1.1 | exact (hW).2.2.2.2.1.2 | exact (hW).2.2.2.2.1.2.1 | exact (hW).2.2.2.2.1.2.2.1 | exact (hW).2.2.2.2.1.2.2.2.1 | exact (hW).2.2.2.2.1.2.2.2 | exact (hW).2.2.2.2.2 | exact (hW).2.2.2.2.2.1 | exact (hW).2.2.2.2.2.1.1 | exact (hW).2.2.2.2.2.1.2 | exact (hW).2.2.2.2.2.1.2.1 | exact (hW).2.2.2.2.2.1.2.2.1 | exact (hW).2.2.2.2.2.1.2.2.2.1 | exact (hW).2.2.2.2.2.1.2.2.2 | exact (hW).2.2.2.2.2.2 | exact (hW).2.2.2.2.2.2.1 | exact (hW).2.2.2.2.2.2.1.1 | exact (hW).2.2.2.2.2.2.1.2 | exact (hW).2.2.2.2.2.2.1.2.1 | exact (hW).2.2.2.2.2.2.1.2.2.1 | exact (hW).2.2.2.2.2.2.1.2.2.2.1 | exact (hW).2.2.2.2.2.2.1.2.2.2 | exact (hW).2.2.2.2.2.2.2 | exact (hW).2.2.2.2.2.2.2.1 | exact (hW).2.2.2.2.2.2.2.1.1 | exact (hW).2.2.2.2.2.2.2.1.2 | exact (hW).2.2.2.2.2.2.2.1.2.1 | exact (hW).2.2.2.2.2.2.2.1.2.2.1 | exact (hW).2.2.2.2.2.2.2.1.2.2.2.1 | exact (hW).2.2.2.2.2.2.2.1.2.2.2 | exact (hW).2.2.2.2.2.2.2.2 | exact (hW).2.2.2.2.2.2.2.2.1 | exact (hW).2.2.2.2.2.2.2.2.1.1 | exact (hW).2.2.2.2.2.2.2.2.1.2 | exact (hW).2.2.2.2.2.2.2.2.1.2.1 | exact (hW).2.2.2.2.2.2.2.2.1.2.2.1 | exact (hW).2.2.2.2.2.2.2.2.1.2.2.2.1 | exact (hW).2.2.2.2.2.2.2.2.1.2.2.2 | exact (hW).2.2.2.2.2.2.2.2.2)⟩
            · simp [ec.1, ec.2.1, em.1, em.2, ed.1, ed.2.1, ed.2.2, Cp.map, mapR]
          by_cases k4 : op.kind = 4
          · simp [hN, k1, k3, k4, Wt.rs, Wt.pj, Wt.pk, gdp, gdc, hkl]
            obtain ⟨c', hc'⟩ : ∃ c' : Cp, c' = { c with p := c.p.on } := ⟨_, rfl⟩
            obtain ⟨d', hd'⟩ : ∃ d' : Cp, d' = { d with p := d.p.on } := ⟨_, rfl⟩
            have hck' : Ck c0 d0 kb c' d' ct := by rw [hc', hd']; exact hck.at ⟨rfl, hck.tw.p.mask, rfl⟩ (by show (-1 : Int) ≤ _; decide) (by show (-1 : Int) ≤ _; decide)
            have hlv : live c'.p ∧ live d'.p := by rw [hc', hd']; exact ⟨⟨show (-1 : Int) < 0 by decide, rfl⟩, ⟨show (-1 : Int) < 0 by decide, rfl⟩⟩
            have ec : c.chip = c'.chip ∧ c.row = c'.row ∧ c.map = c'.map := by rw [hc']; exact ⟨rfl, rfl, rfl⟩
            have em : c'.gm = c.gm ∧ c'.er = c.er := by rw [hc']; exact ⟨rfl, rfl⟩
            have ed : (Rc.mk d gk kc ct).chip = (Rc.mk d' gk kc ct).chip ∧ (Rc.mk d gk kc ct).row = (Rc.mk d' gk kc ct).row ∧ (Rc.mk d gk kc ct).cnt = (Rc.mk d' gk kc ct).cnt := by rw [hd']; exact ⟨rfl, rfl, rfl⟩
            refine callS ok rfl rfl rfl [1011] [c.pow] (by simp) rfl (fun _ : Unit => [(1011, c'.pow)]) (fun w I S hI hG hO hS' => by have := on0 w I S hI c.gp c.p c.fl hO hS'; rw [gcp] at this; exact this) (fun r => by simp [hc', gcp]) (.inr fun x q hq => by simp at hq; subst hq; simp) fun _ W _ => ?_
            simp [hN]
            refine callS ok rfl rfl rfl [1001] [(Rc.mk d gk kc ct).pow] (by simp) rfl (fun _ : Unit => [(1001, (Rc.mk d' gk kc ct).pow)]) (fun w I S hI hG hO hS' => by have := rpOn0 w I S hI d.gp d.p hO hS'; rw [gdp] at this; exact this) (fun r => by simp [hd', gdp]) (.inr fun x q hq => by simp at hq; subst hq; simp) fun _ W _ => ?_
            simp [hN]
            refine RF (c', d', ct) _ _ ?_ ?_
            · exact fun W hW => ⟨⟨hck', hlv⟩, (by first | exact (hW) | exact (hW).1 | exact (hW).1.1 | exact (hW).1.2 | exact (hW).1.2.1 | exact (hW).1.2.2.1 | exact (hW).1.2.2.2.1 | exact (hW).1.2.2.2 | exact (hW).2 | exact (hW).2.1 | exact (hW).2.1.1 | exact (hW).2.1.2 | exact (hW).2.1.2.1 | exact (hW).2.1.2.2.1 | exact (hW).2.1.2.2.2.1 | exact (hW).2.1.2.2.2 | exact (hW).2.2 | exact (hW).2.2.1 | exact (hW).2.2.1.1 | exact (hW).2.2.1.2 | exact (hW).2.2.1.2.1 | exact (hW).2.2.1.2.2.1 | exact (hW).2.2.1.2.2.2.1 | exact (hW).2.2.1.2.2.2 | exact (hW).2.2.2 | exact (hW).2.2.2.1 | exact (hW).2.2.2.1.1 | exact (hW).2.2.2.1.2 | exact (hW).2.2.2.1.2.1 | exact (hW).2.2.2.1.2.2.1 | exact (hW).2.2.2.1.2.2.2.1 | exact (hW).2.2.2.1.2.2.2 | exact (hW).2.2.2.2 | exact (hW).2.2.2.2.1 | exact (hW).2.2.2.2.1.1 | exact (hW).2.2.2.2.1.2 | exact (hW).2.2.2.2.1.2.1 | exact (hW).2.2.2.2.1.2.2.1 | exact (hW).2.2.2.2.1.2.2.2.1 | exact (hW).2.2.2.2.1.2.2.2 | exact (hW).2.2.2.2.2 | exact (hW).2.2.2.2.2.1 | exact (hW).2.2.2.2.2.1.1 | exact (hW).2.2.2.2.2.1.2 | exact (hW).2.2.2.2.2.1.2.1 | exact (hW).2.2.2.2.2.1.2.2.1 | exact (hW).2.2.2.2.2.1.2.2.2.1 | exact (hW).2.2.2.2.2.1.2.2.2 | exact (hW).2.2.2.2.2.2 | exact (hW).2.2.2.2.2.2.1 | exact (hW).2.2.2.2.2.2.1.1 | exact (hW).2.2.2.2.2.2.1.2 | exact (hW).2.2.2.2.2.2.1.2.1 | exact (hW).2.2.2.2.2.2.1.2.2.1 | exact (hW).2.2.2.2.2.2.1.2.2.2.1 | exact (hW).2.2.2.2.2.2.1.2.2.2 | exact (hW).2.2.2.2.2.2.2 | exact (hW).2.2.2.2.2.2.2.1 | exact (hW).2.2.2.2.2.2.2.1.1 | exact (hW).2.2.2.2.2.2.2.1.2 | exact (hW).2.2.2.2.2.2.2.1.2.1 | exact (hW).2.2.2.2.2.2.2.1.2.2.1 | exact (hW).2.2.2.2.2.2.2.1.2.2.2.1 | exact (hW).2.2.2.2.2.2.2.1.2.2.2 | exact (hW).2.2.2.2.2.2.2.2 | exact (hW).2.2.2.2.2.2.2.2.1 | exact (hW).2.2.2.2.2.2.2.2.1.1 | exact (hW).2.2.2.2.2.2.2.2.1.2 | exact (hW).2.2.2.2.2.2.2.2.1.2.1 | exact (hW).2.2.2.2.2.2.2.2.1.2.2.1 | exact (hW).2.2.2.2.2.2.2.2.1.2.2.2.1 | exact (hW).2.2.2.2.2.2.2.2.1.2.2.2 | exact (hW).2.2.2.2.2.2.2.2.2)⟩
            · simp [ec.1, ec.2.1, em.1, em.2, ed.1, ed.2.1, ed.2.2, Cp.map, mapR]
          by_cases k2 : op.kind = 2
          · simp [hN, k1, k3, k4, k2, Wt.rs, Wt.pj, Wt.pk, gdp, gdc, hkl]
            refine ⟨fun hoff => ?_, fun hoff => ?_⟩
            · obtain ⟨c', hc'⟩ : ∃ c' : Cp, c' = { c with p := c.p.cut op.n op.mask } := ⟨_, rfl⟩
              obtain ⟨d', hd'⟩ : ∃ d' : Cp, d' = { d with p := d.p.cut op.n op.mask } := ⟨_, rfl⟩
              have hcl2 : ∀ p : Pw, (p.cut op.n op.mask).left ≤ 9223372036854775807 := fun p => by unfold Pw.cut; simp only; split <;> omega
              have hck' : Ck c0 d0 kb c' d' ct := by rw [hc', hd']; exact hck.at ⟨rfl, rfl, hck.tw.p.off⟩ (hcl2 _) (hcl2 _)
              have ec : c.chip = c'.chip ∧ c.row = c'.row ∧ c.map = c'.map := by rw [hc']; exact ⟨rfl, rfl, rfl⟩
              have em : c'.gm = c.gm ∧ c'.er = c.er := by rw [hc']; exact ⟨rfl, rfl⟩
              have eg : c'.gc = c.gc ∧ d'.gc = d.gc := by rw [hc', hd']; exact ⟨rfl, rfl⟩
              have ed : (Rc.mk d gk kc ct).chip = (Rc.mk d' gk kc ct).chip ∧ (Rc.mk d gk kc ct).row = (Rc.mk d' gk kc ct).row ∧ (Rc.mk d gk kc ct).cnt = (Rc.mk d' gk kc ct).cnt := by rw [hd']; exact ⟨rfl, rfl, rfl⟩
              refine callS ok rfl rfl rfl [1011] [c.pow] (by simp) rfl (fun _ : Unit => [(1011, c'.pow)]) (fun w I S hI hG hO hS' => by have := cut0 w I S hI c.gp c.p c.fl op.n op.mask hO hS'; rw [gcp] at this; exact this) (fun r => by simp [hc', gcp]) (.inr fun x q hq => by simp at hq; subst hq; simp) fun _ W _ => ?_
              simp [hN, gdp]
              refine callS ok rfl rfl rfl [1001] [(Rc.mk d gk kc ct).pow] (by simp) rfl (fun _ : Unit => [(1001, (Rc.mk d' gk kc ct).pow)]) (fun w I S hI hG hO hS' => by have := rpCut0 w I S hI d.gp d.p op.n op.mask hO hS'; rw [gdp] at this; exact this) (fun r => by simp [hd', gdp]) (.inr fun x q hq => by simp at hq; subst hq; simp) fun _ W _ => ?_
              simp [hN, gdc, hkl]
              refine RE (.down c' d' ct, 0) _ _ ?_ ?_
              · exact fun W hW => ⟨⟨hck', trivial⟩, (by first | exact (hW) | exact (hW).1 | exact (hW).1.1 | exact (hW).1.2 | exact (hW).1.2.1 | exact (hW).1.2.2.1 | exact (hW).1.2.2.2.1 | exact (hW).1.2.2.2 | exact (hW).2 | exact (hW).2.1 | exact (hW).2.1.1 | exact (hW).2.1.2 | exact (hW).2.1.2.1 | exact (hW).2.1.2.2.1 | exact (hW).2.1.2.2.2.1 | exact (hW).2.1.2.2.2 | exact (hW).2.2 | exact (hW).2.2.1 | exact (hW).2.2.1.1 | exact (hW).2.2.1.2 | exact (hW).2.2.1.2.1 | exact (hW).2.2.1.2.2.1 | exact (hW).2.2.1.2.2.2.1 | exact (hW).2.2.1.2.2.2 | exact (hW).2.2.2 | exact (hW).2.2.2.1 | exact (hW).2.2.2.1.1 | exact (hW).2.2.2.1.2 | exact (hW).2.2.2.1.2.1 | exact (hW).2.2.2.1.2.2.1 | exact (hW).2.2.2.1.2.2.2.1 | exact (hW).2.2.2.1.2.2.2 | exact (hW).2.2.2.2 | exact (hW).2.2.2.2.1 | exact (hW).2.2.2.2.1.1 | exact (hW).2.2.2.2.1.2 | exact (hW).2.2.2.2.1.2.1 | exact (hW).2.2.2.2.1.2.2.1 | exact (hW).2.2.2.2.1.2.2.2.1 | exact (hW).2.2.2.2.1.2.2.2 | exact (hW).2.2.2.2.2 | exact (hW).2.2.2.2.2.1 | exact (hW).2.2.2.2.2.1.1 | exact (hW).2.2.2.2.2.1.2 | exact (hW).2.2.2.2.2.1.2.1 | exact (hW).2.2.2.2.2.1.2.2.1 | exact (hW).2.2.2.2.2.1.2.2.2.1 | exact (hW).2.2.2.2.2.1.2.2.2 | exact (hW).2.2.2.2.2.2 | exact (hW).2.2.2.2.2.2.1 | exact (hW).2.2.2.2.2.2.1.1 | exact (hW).2.2.2.2.2.2.1.2 | exact (hW).2.2.2.2.2.2.1.2.1 | exact (hW).2.2.2.2.2.2.1.2.2.1 | exact (hW).2.2.2.2.2.2.1.2.2.2.1 | exact (hW).2.2.2.2.2.2.1.2.2.2 | exact (hW).2.2.2.2.2.2.2 | exact (hW).2.2.2.2.2.2.2.1 | exact (hW).2.2.2.2.2.2.2.1.1 | exact (hW).2.2.2.2.2.2.2.1.2 | exact (hW).2.2.2.2.2.2.2.1.2.1 | exact (hW).2.2.2.2.2.2.2.1.2.2.1 | exact (hW).2.2.2.2.2.2.2.1.2.2.2.1 | exact (hW).2.2.2.2.2.2.2.1.2.2.2 | exact (hW).2.2.2.2.2.2.2.2 | exact (hW).2.2.2.2.2.2.2.2.1 | exact (hW).2.2.2.2.2.2.2.2.1.1 | exact (hW).2.2.2.2.2.2.2.2.1.2 | exact (hW).2.2.2.2.2.2.2.2.1.2.1 | exact (hW).2.2.2.2.2.2.2.2.1.2.2.1 | exact (hW).2.2.2.2.2.2.2.2.1.2.2.2.1 | exact (hW).2.2.2.2.2.2.2.2.1.2.2.2 | exact (hW).2.2.2.2.2.2.2.2.2)⟩
              · simp [Wt.rs, Wt.pj, Wt.pk, ec.1, ec.2.1, em.1, em.2, eg.1, eg.2, ed.1, ed.2.1, ed.2.2, Cp.map, mapR]
            · refine RE (.down c d ct, 0) _ _ ?_ ?_
              · exact fun W hW => ⟨⟨hck, trivial⟩, (by first | exact (hW) | exact (hW).1 | exact (hW).1.1 | exact (hW).1.2 | exact (hW).1.2.1 | exact (hW).1.2.2.1 | exact (hW).1.2.2.2.1 | exact (hW).1.2.2.2 | exact (hW).2 | exact (hW).2.1 | exact (hW).2.1.1 | exact (hW).2.1.2 | exact (hW).2.1.2.1 | exact (hW).2.1.2.2.1 | exact (hW).2.1.2.2.2.1 | exact (hW).2.1.2.2.2 | exact (hW).2.2 | exact (hW).2.2.1 | exact (hW).2.2.1.1 | exact (hW).2.2.1.2 | exact (hW).2.2.1.2.1 | exact (hW).2.2.1.2.2.1 | exact (hW).2.2.1.2.2.2.1 | exact (hW).2.2.1.2.2.2 | exact (hW).2.2.2 | exact (hW).2.2.2.1 | exact (hW).2.2.2.1.1 | exact (hW).2.2.2.1.2 | exact (hW).2.2.2.1.2.1 | exact (hW).2.2.2.1.2.2.1 | exact (hW).2.2.2.1.2.2.2.1 | exact (hW).2.2.2.1.2.2.2 | exact (hW).2.2.2.2 | exact (hW).2.2.2.2.1 | exact (hW).2.2.2.2.1.1 | exact (hW).2.2.2.2.1.2 | exact (hW).2.2.2.2.1.2.1 | exact (hW).2.2.2.2.1.2.2.1 | exact (hW).2.2.2.2.1.2.2.2.1 | exact (hW).2.2.2.2.1.2.2.2 | exact (hW).2.2.2.2.2 | exact (hW).2.2.2.2.2.1 | exact (hW).2.2.2.2.2.1.1 | exact (hW).2.2.2.2.2.1.2 | exact (hW).2.2.2.2.2.1.2.1 | exact (hW).2.2.2.2.2.1.2.2.1 | exact (hW).2.2.2.2.2.1.2.2.2.1 | exact (hW).2.2.2.2.2.1.2.2.2 | exact (hW).2.2.2.2.2.2 | exact (hW).2.2.2.2.2.2.1 | exact (hW).2.2.2.2.2.2.1.1 | exact (hW).2.2.2.2.2.2.1.2 | exact (hW).2.2.2.2.2.2.1.2.1 | exact (hW).2.2.2.2.2.2.1.2.2.1 | exact (hW).2.2.2.2.2.2.1.2.2.2.1 | exact (hW).2.2.2.2.2.2.1.2.2.2 | exact (hW).2.2.2.2.2.2.2 | exact (hW).2.2.2.2.2.2.2.1 | exact (hW).2.2.2.2.2.2.2.1.1 | exact (hW).2.2.2.2.2.2.2.1.2 | exact (hW).2.2.2.2.2.2.2.1.2.1 | exact (hW).2.2.2.2.2.2.2.1.2.2.1 | exact (hW).2.2.2.2.2.2.2.1.2.2.2.1 | exact (hW).2.2.2.2.2.2.2.1.2.2.2 | exact (hW).2.2.2.2.2.2.2.2 | exact (hW).2.2.2.2.2.2.2.2.1 | exact (hW).2.2.2.2.2.2.2.2.1.1 | exact (hW).2.2.2.2.2.2.2.2.1.2 | exact (hW).2.2.2.2.2.2.2.2.1.2.1 | exact (hW).2.2.2.2.2.2.2.2.1.2.2.1 | exact (hW).2.2.2.2.2.2.2.2.1.2.2.2.1 | exact (hW).2.2.2.2.2.2.2.2.1.2.2.2 | exact (hW).2.2.2.2.2.2.2.2.2)⟩
              · simp [Wt.rs, Wt.pj, Wt.pk]
          simp [hN, k1, k3, k4, k2, Wt.rs, Wt.pj, Wt.pk, gdp, gdc, hkl]
          refine RE (.down c d ct, 0) _ _ ?_ ?_
          · exact fun W hW => ⟨⟨hck, trivial⟩, (by first | exact (hW) | exact (hW).1 | exact (hW).1.1 | exact (hW).1.2 | exact (hW).1.2.1 | exact (hW).1.2.2.1 | exact (hW).1.2.2.2.1 | exact (hW).1.2.2.2 | exact (hW).2 | exact (hW).2.1 | exact (hW).2.1.1 | exact (hW).2.1.2 | exact (hW).2.1.2.1 | exact (hW).2.1.2.2.1 | exact (hW).2.1.2.2.2.1 | exact (hW).2.1.2.2.2 | exact (hW).2.2 | exact (hW).2.2.1 | exact (hW).2.2.1.1 | exact (hW).2.2.1.2 | exact (hW).2.2.1.2.1 | exact (hW).2.2.1.2.2.1 | exact (hW).2.2.1.2.2.2.1 | exact (hW).2.2.1.2.2.2 | exact (hW).2.2.2 | exact (hW).2.2.2.1 | exact (hW).2.2.2.1.1 | exact (hW).2.2.2.1.2 | exact (hW).2.2.2.1.2.1 | exact (hW).2.2.2.1.2.2.1 | exact (hW).2.2.2.1.2.2.2.1 | exact (hW).2.2.2.1.2.2.2 | exact (hW).2.2.2.2 | exact (hW).2.2.2.2.1 | exact (hW).2.2.2.2.1.1 | exact (hW).2.2.2.2.1.2 | exact (hW).2.2.2.2.1.2.1 | exact (hW).2.2.2.2.1.2.2.1 | exact (hW).2.2.2.2.1.2.2.2.1 | exact (hW).2.2.2.2.1.2.2.2 | exact (hW).2.2.2.2.2 | exact (hW).2.2.2.2.2.1 | exact (hW).2.2.2.2.2.1.1 | exact (hW).2.2.2.2.2.1.2 | exact (hW).2.2.2.2.2.1.2.1 | exact (hW).2.2.2.2.2.1.2.2.1 | exact (hW).2.2.2.2.2.1.2.2.2.1 | exact (hW).2.2.2.2.2.1.2.2.2 | exact (hW).2.2.2.2.2.2 | exact (hW).2.2.2.2.2.2.1 | exact (hW).2.2.2.2.2.2.1.1 | exact (hW).2.2.2.2.2.2.1.2 | exact (hW).2.2.2.2.2.2.1.2.1 | exact (hW).2.2.2.2.2.2.1.2.2.1 | exact (hW).2.2.2.2.2.2.1.2.2.2.1 | exact (hW).2.2.2.2.2.2.1.2.2.2 | exact (hW).2.2.2.2.2.2.2 | exact (hW).2.2.2.2.2.2.2.1 | exact (hW).2.2.2.2.2.2.2.1.1 | exact (hW).2.2.2.2.2.2.2.1.2 | exact (hW).2.2.2.2.2.2.2.1.2.1 | exact (hW).2.2.2.2.2.2.2.1.2.2.1 | exact (hW).2.2.2.2.2.2.2.1.2.2.2.1 | exact (hW).2.2.2.2.2.2.2.1.2.2.2 | exact (hW).2.2.2.2.2.2.2.2 | exact (hW).2.2.2.2.2.2.2.2.1 | exact (hW).2.2.2.2.2.2.2.2.1.1 | exact (hW).2.2.2.2.2.2.2.2.1.2 | exact (hW).2.2.2.2.2.2.2.2.1.2.1 | exact (hW).2.2.2.2.2.2.2.2.1.2.2.1 | exact (hW).2.2.2.2.2.2.2.2.1.2.2.2.1 | exact (hW).2.2.2.2.2.2.2.2.1.2.2.2 | exact (hW).2.2.2.2.2.2.2.2.2)⟩
          · simp [Wt.rs, Wt.pj, Wt.pk]
      case restF =>
        rintro ⟨c, d, ct⟩
        simp [hN]
        refine knowG ?_
        rintro W ⟨⟨hck, hlv1, hlv2⟩, _⟩
        replace hck : Ck c0 d0 kb c d ct := hck
        have gcc : c.gc = c0.gc := hck.cs.gc
        have gdc : d.gc = d0.gc := hck.ds.gc
        have hkl : d.b.length = nb := by rw [hck.ds.len, hl0]
        have hctk : (ct.length : Int) = d.g.sectors := by rw [hck.ct, hck.ds.g, hG0, hkb]
        replace hlv1 : live c.p := hlv1
        replace hlv2 : live d.p := hlv2
        have hfc := form_live hck.cf hlv1
        have hfd := form_live hck.df hlv2
        refine callS ok rfl rfl rfl [1010, 1011, 1012, 1013] c.res (by simp [Cp.map, mapR]) rfl (fun x : Nat × Sl => [(1010, (formJ c x).c.chip), (1011, (formJ c x).c.pow), (1012, (formJ c x).c.row), (1013, (formJ c x).c.map), (1014, (formJ c x).box)]) (fun w I S hI hG hO hS' => by have := format0 w I S hI c hck.cf hfc.1 hfc.2.1 hfc.2.2.1 hO hS'; rw [gcc] at this; exact this) (fun r => by simp [Cp.map, mapR]) (.inr fun x q hq => by simp at hq; rcases hq with rfl | rfl | rfl | rfl | rfl <;> simp) fun xf W hxf => ?_
        simp [hN]
        refine callS ok rfl rfl rfl [1000, 1001, 1002, 1003] (Rc.mk d gk kc ct).res (by simp) rfl (fun y : (Nat × Sl) × List Int => [(1000, (Rj.mk (formJ d y.1) gk kc y.2).rc.chip), (1001, (Rj.mk (formJ d y.1) gk kc y.2).rc.pow), (1002, (Rj.mk (formJ d y.1) gk kc y.2).rc.row), (1003, (Rj.mk (formJ d y.1) gk kc y.2).rc.cnt), (1004, rjB (formJ d y.1))]) (fun w I S hI hG hO hS' => by have := refFormat0 w I S hI (Rc.mk d gk kc ct) hck.df hctk hfd.1 hfd.2.1 hfd.2.2.1 hO hS'; simp only [gdc] at this; exact this) (fun r => by simp) (.inr fun x q hq => by simp at hq; rcases hq with rfl | rfl | rfl | rfl | rfl <;> simp) fun yf W hyf => ?_
        have ht2 := form_tw hck.tw xf yf.1
        have el2 : (formJ d yf.1).c.b.length = nb := (form_ok hck.df hlv2 yf.1).2.len.trans hkl
        have ed2 : (formJ d yf.1).c.gc = d0.gc := (form_ok hck.df hlv2 yf.1).2.gc.trans gdc
        have hg1 : (formJ c xf).gj = xf.1 := rfl
        simp [hN, el2, ed2]
        refine tagA 13 (.c (.bp 1004 (formJ d yf.1).gj 0)) rfl rfl ?_
        refine RE (.up (formJ c xf) (formJ d yf.1) yf.2, 0) _ _ ?_ ?_
        · exact fun W hW => ⟨⟨⟨⟨ht2.2.c, (form_ok hck.cf hlv1 xf).1.fit, (form_ok hck.df hlv2 yf.1).1.fit, form_isB hck.cb, hck.cs.trans (form_ok hck.cf hlv1 xf).2, hck.ds.trans (form_ok hck.df hlv2 yf.1).2, hyf.2.trans hck.ct⟩, ht2.2, (form_jb xf).mono (by omega)⟩, hW.2.1, hW.1.1⟩, hW.2.2.2⟩
        · simp [Wt.rs, Wt.pj, Wt.pk, Cp.map, mapR, hg1]
    case restO =>
      rintro ⟨c, d, ct⟩
      simp [hN]
      refine knowG ?_
      rintro W ⟨hck, _⟩
      replace hck : Ck c0 d0 kb c d ct := hck
      have gcc : c.gc = c0.gc := hck.cs.gc
      have gdc : d.gc = d0.gc := hck.ds.gc
      have hkl : d.b.length = nb := by rw [hck.ds.len, hl0]
      have hctk : (ct.length : Int) = d.g.sectors := by rw [hck.ct, hck.ds.g, hG0, hkb]
      have hdbc : d.b.length ≤ d.bc := by rw [hck.ds.len, hl0, hck.ds.bc]; exact hbc
      have hopc := fun (w : World) (I S : Nat → Prop) (hI : ∀ b, I b → b < w.heap.size) (hO : Owns c.res S w) (hS' : ∀ b, S b → b < w.heap.size ∧ ¬ I b) => open0 w I S hI c hck.cf hck.cb hO hS'
      have hopr := fun (w : World) (I S : Nat → Prop) (hI : ∀ b, I b → b < w.heap.size) (hO : Owns (Rc.mk d gk kc ct).res S w) (hS' : ∀ b, S b → b < w.heap.size ∧ ¬ I b) => refOpen0 w I S hI (Rc.mk d gk kc ct) hck.df hctk hdbc hck.db hO hS'
      have hE : openE d = openE c := (open_tw hck.tw (0, (none, 0), (none, 0)) (0, (none, 0), (none, 0))).1
      simp only [gcc, gdc, hE] at hopc hopr
      by_cases ho : openE c = 0
      · simp only [ho, if_true] at hopc hopr
        refine callS ok rfl rfl rfl [1010, 1011, 1012, 1013] c.res (by simp [Cp.map, mapR]) rfl (fun x : Nat × Sl × Sl => [(1010, (openM c x).2.c.chip), (1011, (openM c x).2.c.pow), (1012, (openM c x).2.c.row), (1013, (openM c x).2.c.map), (1014, (openM c x).2.box)]) (fun w I S hI hG hO hS' => hopc w I S hI hO hS') (fun r => by simp [Cp.map, mapR]) (.inr fun x q hq => by simp at hq; rcases hq with rfl | rfl | rfl | rfl | rfl <;> simp) fun xj W hxj => ?_
        simp [hN]
        refine callS ok rfl rfl rfl [1000, 1001, 1002, 1003] (Rc.mk d gk kc ct).res (by simp) rfl (fun y : (Nat × Sl × Sl) × List Int => [(1000, (Rj.mk (openM d y.1).2 gk kc y.2).rc.chip), (1001, (Rj.mk (openM d y.1).2 gk kc y.2).rc.pow), (1002, (Rj.mk (openM d y.1).2 gk kc y.2).rc.row), (1003, (Rj.mk (openM d y.1).2 gk kc y.2).rc.cnt), (1004, rjB (openM d y.1).2)]) (fun w I S hI hG hO hS' => hopr w I S hI hO hS') (fun r => by simp) (.inr fun x q hq => by simp at hq; rcases hq with rfl | rfl | rfl | rfl | rfl <;> simp) fun yk W hyk => ?_
        have ht2 := open_tw hck.tw xj yk.1
        have eg1 := open_gjP c xj
        have eg2 := open_gjP d yk.1
        have hcs := open_samej hck.cf xj
        have hds := open_samej hck.df yk.1
        have el2 : (openM d yk.1).2.c.b.length = nb := hds.1.len.trans hkl
        have ed2 : (openM d yk.1).2.c.gc = d0.gc := hds.1.gc.trans gdc
        simp [hN, el2, ed2]
        rw [← eg2]
        refine tagA 13 (.c (.bp 1004 (openM d yk.1).2.gj 0)) rfl rfl ?_
        refine RE (.up (openM c xj).2 (openM d yk.1).2 yk.2, 0) _ _ ?_ ?_
        · exact fun W hW => ⟨⟨⟨⟨ht2.2.c, hcs.2, hds.2, open_isB hck.cb xj, hck.cs.trans hcs.1, hck.ds.trans hds.1, hyk.1.trans hck.ct⟩, ht2.2, (open_jb hck.cf xj).mono (by omega)⟩, hW.2.1, hW.1.2⟩, hW.2.2.2⟩
        · simp [Wt.rs, Wt.pj, Wt.pk, Cp.map, mapR, eg1, eg2]
      · simp only [ho, if_false] at hopc hopr
        refine callS ok rfl rfl rfl [1010, 1011, 1012, 1013] c.res (by simp [Cp.map, mapR]) rfl (fun x : Nat × Sl × Sl => [(1010, (openC c).chip), (1011, (openC c).pow), (1012, (openC c).row), (1013, (openC c).map)]) (fun w I S hI hG hO hS' => hopc w I S hI hO hS') (fun r => by simp [Cp.map, mapR]) (.inr fun x q hq => by simp at hq; rcases hq with rfl | rfl | rfl | rfl <;> simp) fun xj W hxj => ?_
        simp [hN]
        refine callS ok rfl rfl rfl [1000, 1001, 1002, 1003] (Rc.mk d gk kc ct).res (by simp) rfl (fun y : (Nat × Sl × Sl) × List Int => [(1000, (Rc.mk (openC d) gk kc y.2).chip), (1001, (Rc.mk (openC d) gk kc y.2).pow), (1002, (Rc.mk (openC d) gk kc y.2).row), (1003, (Rc.mk (openC d) gk kc y.2).cnt)]) (fun w I S hI hG hO hS' => hopr w I S hI hO hS') (fun r => by simp) (.inr fun x q hq => by simp at hq; rcases hq with rfl | rfl | rfl | rfl <;> simp) fun yk W hyk => ?_
        obtain ⟨z0, hz0⟩ : ∃ z : Nat × Sl × Sl, z = (0, (none, 0), (none, 0)) := ⟨_, rfl⟩
        have ht2 := open_tw hck.tw z0 z0
        have hcs := open_samej hck.cf z0
        have hds := open_samej hck.df z0
        have hcb := open_isB hck.cb z0
        have htc := ht2.2.c
        rw [(open_e c z0).2] at hcs hcb htc
        rw [(open_e d z0).2] at hds htc
        have el2 : (openC d).b.length = nb := hds.1.len.trans hkl
        have ed2 : (openC d).gc = d0.gc := hds.1.gc.trans gdc
        simp [hN, el2, ed2]
        refine RE (.down (openC c) (openC d) yk.2, openE c) _ _ ?_ ?_
        · exact fun W hW => ⟨⟨⟨htc, hcs.2, hds.2, hcb, hck.cs.trans hcs.1, hck.ds.trans hds.1, hyk.1.trans hck.ct⟩, trivial⟩, hW.2.2⟩
        · simp [Wt.rs, Wt.pj, Wt.pk, Cp.map, mapR]
  case restE =>
    rintro ⟨y, e⟩
    cases y with
    | up j k ct =>
      simp [hN, Wt.rs, Wt.pj, Wt.pk]
      refine knowG ?_
      rintro W ⟨⟨⟨hck, hjw, hjb⟩, _⟩, _⟩
      have gcc : j.c.gc = c0.gc := hck.cs.gc
      have gdc : k.c.gc = d0.gc := hck.ds.gc
      have hkl : k.c.b.length = nb := by rw [hck.ds.len, hl0]
      have hjl : j.c.b.length = nb := by rw [← hck.tw.b]; exact hkl
      have hdt : (j.c.b.drop 0).take nb = j.c.b := by rw [List.drop_zero, List.take_of_length_le (by omega)]
      have hcw := count_w j.s
      have hw0 := hjb.w
      have hbt : decide (j.c.b = k.c.b) = true := decide_eq_true hck.tw.b.symm
      refine callS ok rfl rfl rfl [1010, 1011, 1012, 1013] j.c.res (by simp [Cp.map, mapR]) rfl (fun _ : Sl => [(1010, j.c.chip), (1011, j.c.pow), (1012, j.c.row), (1013, j.c.map)]) (fun w I S hI hG hO hS' => by have := norRead0 w I S hI j.c 0 nb hck.cf hnb0 (by omega) hO hS'; rw [hdt, gcc] at this; exact this) (fun r => by simp [Cp.map, mapR]) (.inr fun x q hq => by simp at hq; rcases hq with rfl | rfl | rfl | rfl <;> simp) fun wa W _ => ?_
      simp [hN, gdc]
      refine callS ok rfl rfl rfl [1002] [(Rc.mk k.c gk kc ct).row] (by simp) rfl (fun _ : Unit => [(1002, (Rc.mk k.c gk kc ct).row)]) (fun w I S hI hG hO hS' => sameBL0 w I S hI (a := wa.1) (n := nb) (c := wa.2) j.c.b k.c.b (fun W e => ⟨hjl.symm, (hG W e).1⟩) hck.cb hck.db hO hS') (fun r => by simp) (.inr fun x q hq => by simp at hq; subst hq; simp) fun _ W _ => ?_
      rw [hbt]
      simp [hN]
      refine forget (fun W => (StaR W j.s j.si j.sb ∧ StaR W k.s k.si k.sb) ∧ (Sv.ok dOpn W (some ⟨b, off, none⟩, on, oc) ops ∧ StaR W J0.s J0.si J0.sb ∧ StaR W K0.s K0.si K0.sb)) ?fg2 ?_
      case fg2 => exact fun W hW => ⟨(by first | exact (hW) | exact (hW).1 | exact (hW).1.1 | exact (hW).1.2 | exact (hW).1.2.1 | exact (hW).1.2.2.1 | exact (hW).1.2.2.2.1 | exact (hW).1.2.2.2 | exact (hW).2 | exact (hW).2.1 | exact (hW).2.1.1 | exact (hW).2.1.2 | exact (hW).2.1.2.1 | exact (hW).2.1.2.2.1 | exact (hW).2.1.2.2.2.1 | exact (hW).2.1.2.2.2 | exact (hW).2.2 | exact (hW).2.2.1 | exact (hW).2.2.1.1 | exact (hW).2.2.1.2 | exact (hW).2.2.1.2.1 | exact (hW).2.2.1.2.2.1 | exact (hW).2.2.1.2.2.2.1 | exact (hW).2.2.1.2.2.2 | exact (hW).2.2.2 | exact (hW).2.2.2.1 | exact (hW).2.2.2.1.1 | exact (hW).2.2.2.1.2 | exact (hW).2.2.2.1.2.1 | exact (hW).2.2.2.1.2.2.1 | exact (hW).2.2.2.1.2.2.2.1 | exact (hW).2.2.2.1.2.2.2 | exact (hW).2.2.2.2 | exact (hW).2.2.2.2.1 | exact (hW).2.2.2.2.1.1 | exact (hW).2.2.2.2.1.2 | exact (hW).2.2.2.2.1.2.1 | exact (hW).2.2.2.2.1.2.2.1 | exact (hW).2.2.2.2.1.2.2.2.1 | exact (hW).2.2.2.2.1.2.2.2 | exact (hW).2.2.2.2.2 | exact (hW).2.2.2.2.2.1 | exact (hW).2.2.2.2.2.1.1 | exact (hW).2.2.2.2.2.1.2 | exact (hW).2.2.2.2.2.1.2.1 | exact (hW).2.2.2.2.2.1.2.2.1 | exact (hW).2.2.2.2.2.1.2.2.2.1 | exact (hW).2.2.2.2.2.1.2.2.2 | exact (hW).2.2.2.2.2.2 | exact (hW).2.2.2.2.2.2.1 | exact (hW).2.2.2.2.2.2.1.1 | exact (hW).2.2.2.2.2.2.1.2 | exact (hW).2.2.2.2.2.2.1.2.1 | exact (hW).2.2.2.2.2.2.1.2.2.1 | exact (hW).2.2.2.2.2.2.1.2.2.2.1 | exact (hW).2.2.2.2.2.2.1.2.2.2 | exact (hW).2.2.2.2.2.2.2 | exact (hW).2.2.2.2.2.2.2.1 | exact (hW).2.2.2.2.2.2.2.1.1 | exact (hW).2.2.2.2.2.2.2.1.2 | exact (hW).2.2.2.2.2.2.2.1.2.1 | exact (hW).2.2.2.2.2.2.2.1.2.2.1 | exact (hW).2.2.2.2.2.2.2.1.2.2.2.1 | exact (hW).2.2.2.2.2.2.2.1.2.2.2 | exact (hW).2.2.2.2.2.2.2.2 | exact (hW).2.2.2.2.2.2.2.2.1 | exact (hW).2.2.2.2.2.2.2.2.1.1 | exact (hW).2.2.2.2.2.2.2.2.1.2 | exact (hW).2.2.2.2.2.2.2.2.1.2.1 | exact (hW).2.2.2.2.2.2.2.2.1.2.2.1 | exact (hW).2.2.2.2.2.2.2.2.1.2.2.2.1 | exact (hW).2.2.2.2.2.2.2.2.1.2.2.2 | exact (hW).2.2.2.2.2.2.2.2.2), (by first | exact (hW) | exact (hW).1 | exact (hW).1.1 | exact (hW).1.2 | exact (hW).1.2.1 | exact (hW).1.2.2.1 | exact (hW).1.2.2.2.1 | exact (hW).1.2.2.2 | exact (hW).2 | exact (hW).2.1 | exact (hW).2.1.1 | exact (hW).2.1.2 | exact (hW).2.1.2.1 | exact (hW).2.1.2.2.1 | exact (hW).2.1.2.2.2.1 | exact (hW).2.1.2.2.2 | exact (hW).2.2 | exact (hW).2.2.1 | exact (hW).2.2.1.1 | exact (hW).2.2.1.2 | exact (hW).2.2.1.2.1 | exact (hW).2.2.1.2.2.1 | exact (hW).2.2.1.2.2.2.1 | exact (hW).2.2.1.2.2.2 | exact (hW).2.2.2 | exact (hW).2.2.2.1 | exact (hW).2.2.2.1.1 | exact (hW).2.2.2.1.2 | exact (hW).2.2.2.1.2.1 | exact (hW).2.2.2.1.2.2.1 | exact (hW).2.2.2.1.2.2.2.1 | exact (hW).2.2.2.1.2.2.2 | exact (hW).2.2.2.2 | exact (hW).2.2.2.2.1 | exact (hW).2.2.2.2.1.1 | exact (hW).2.2.2.2.1.2 | exact (hW).2.2.2.2.1.2.1 | exact (hW).2.2.2.2.1.2.2.1 | exact (hW).2.2.2.2.1.2.2.2.1 | exact (hW).2.2.2.2.1.2.2.2 | exact (hW).2.2.2.2.2 | exact (hW).2.2.2.2.2.1 | exact (hW).2.2.2.2.2.1.1 | exact (hW).2.2.2.2.2.1.2 | exact (hW).2.2.2.2.2.1.2.1 | exact (hW).2.2.2.2.2.1.2.2.1 | exact (hW).2.2.2.2.2.1.2.2.2.1 | exact (hW).2.2.2.2.2.1.2.2.2 | exact (hW).2.2.2.2.2.2 | exact (hW).2.2.2.2.2.2.1 | exact (hW).2.2.2.2.2.2.1.1 | exact (hW).2.2.2.2.2.2.1.2 | exact (hW).2.2.2.2.2.2.1.2.1 | exact (hW).2.2.2.2.2.2.1.2.2.1 | exact (hW).2.2.2.2.2.2.1.2.2.2.1 | exact (hW).2.2.2.2.2.2.1.2.2.2 | exact (hW).2.2.2.2.2.2.2 | exact (hW).2.2.2.2.2.2.2.1 | exact (hW).2.2.2.2.2.2.2.1.1 | exact (hW).2.2.2.2.2.2.2.1.2 | exact (hW).2.2.2.2.2.2.2.1.2.1 | exact (hW).2.2.2.2.2.2.2.1.2.2.1 | exact (hW).2.2.2.2.2.2.2.1.2.2.2.1 | exact (hW).2.2.2.2.2.2.2.1.2.2.2 | exact (hW).2.2.2.2.2.2.2.2 | exact (hW).2.2.2.2.2.2.2.2.1 | exact (hW).2.2.2.2.2.2.2.2.1.1 | exact (hW).2.2.2.2.2.2.2.2.1.2 | exact (hW).2.2.2.2.2.2.2.2.1.2.1 | exact (hW).2.2.2.2.2.2.2.2.1.2.2.1 | exact (hW).2.2.2.2.2.2.2.2.1.2.2.2.1 | exact (hW).2.2.2.2.2.2.2.2.1.2.2.2 | exact (hW).2.2.2.2.2.2.2.2.2)⟩
      dsimp only
      refine drawK ok mixed (by kernel_rfl) ?_
      simp (maxSteps := 2000000) -implicitDefEqProofs [hN]
      refine callS ok rfl rfl rfl [1014] [j.box] (by simp) rfl (fun _ : Sl × Sl => [(1014, j.box)]) (fun w I S hI hG hO hS' => state0 w I S hI j (fun W e => (by first | exact (hG W e) | exact (hG W e).1 | exact (hG W e).1.1 | exact (hG W e).1.2 | exact (hG W e).1.2.1 | exact (hG W e).1.2.2.1 | exact (hG W e).1.2.2.2.1 | exact (hG W e).1.2.2.2 | exact (hG W e).2 | exact (hG W e).2.1 | exact (hG W e).2.1.1 | exact (hG W e).2.1.2 | exact (hG W e).2.1.2.1 | exact (hG W e).2.1.2.2.1 | exact (hG W e).2.1.2.2.2.1 | exact (hG W e).2.1.2.2.2 | exact (hG W e).2.2 | exact (hG W e).2.2.1 | exact (hG W e).2.2.1.1 | exact (hG W e).2.2.1.2 | exact (hG W e).2.2.1.2.1 | exact (hG W e).2.2.1.2.2.1 | exact (hG W e).2.2.1.2.2.2.1 | exact (hG W e).2.2.1.2.2.2 | exact (hG W e).2.2.2 | exact (hG W e).2.2.2.1 | exact (hG W e).2.2.2.1.1 | exact (hG W e).2.2.2.1.2 | exact (hG W e).2.2.2.1.2.1 | exact (hG W e).2.2.2.1.2.2.1 | exact (hG W e).2.2.2.1.2.2.2.1 | exact (hG W e).2.2.2.1.2.2.2 | exact (hG W e).2.2.2.2 | exact (hG W e).2.2.2.2.1 | exact (hG W e).2.2.2.2.1.1 | exact (hG W e).2.2.2.2.1.2 | exact (hG W e).2.2.2.2.1.2.1 | exact (hG W e).2.2.2.2.1.2.2.1 | exact (hG W e).2.2.2.2.1.2.2.2.1 | exact (hG W e).2.2.2.2.1.2.2.2 | exact (hG W e).2.2.2.2.2 | exact (hG W e).2.2.2.2.2.1 | exact (hG W e).2.2.2.2.2.1.1 | exact (hG W e).2.2.2.2.2.1.2 | exact (hG W e).2.2.2.2.2.1.2.1 | exact (hG W e).2.2.2.2.2.1.2.2.1 | exact (hG W e).2.2.2.2.2.1.2.2.2.1 | exact (hG W e).2.2.2.2.2.1.2.2.2 | exact (hG W e).2.2.2.2.2.2 | exact (hG W e).2.2.2.2.2.2.1 | exact (hG W e).2.2.2.2.2.2.1.1 | exact (hG W e).2.2.2.2.2.2.1.2 | exact (hG W e).2.2.2.2.2.2.1.2.1 | exact (hG W e).2.2.2.2.2.2.1.2.2.1 | exact (hG W e).2.2.2.2.2.2.1.2.2.2.1 | exact (hG W e).2.2.2.2.2.2.1.2.2.2 | exact (hG W e).2.2.2.2.2.2.2 | exact (hG W e).2.2.2.2.2.2.2.1 | exact (hG W e).2.2.2.2.2.2.2.1.1 | exact (hG W e).2.2.2.2.2.2.2.1.2 | exact (hG W e).2.2.2.2.2.2.2.1.2.1 | exact (hG W e).2.2.2.2.2.2.2.1.2.2.1 | exact (hG W e).2.2.2.2.2.2.2.1.2.2.2.1 | exact (hG W e).2.2.2.2.2.2.2.1.2.2.2 | exact (hG W e).2.2.2.2.2.2.2.2 | exact (hG W e).2.2.2.2.2.2.2.2.1 | exact (hG W e).2.2.2.2.2.2.2.2.1.1 | exact (hG W e).2.2.2.2.2.2.2.2.1.2 | exact (hG W e).2.2.2.2.2.2.2.2.1.2.1 | exact (hG W e).2.2.2.2.2.2.2.2.1.2.2.1 | exact (hG W e).2.2.2.2.2.2.2.2.1.2.2.2.1 | exact (hG W e).2.2.2.2.2.2.2.2.1.2.2.2 | exact (hG W e).2.2.2.2.2.2.2.2.2)) (by omega) hO hS') (fun r => by simp) (.inr fun x q hq => by simp at hq; subst hq; simp) fun z W _ => ?_
      simp (maxSteps := 2000000) -implicitDefEqProofs [hN]
      refine call0 ok rfl rfl rfl (fun w I hI hG => sameSta0 w I hI (applyL j.s []) k.s z.1 z.2 k.si k.sb (fun W e => ⟨(hG W e).1, (by first | exact (hG W e) | exact (hG W e).1 | exact (hG W e).1.1 | exact (hG W e).1.2 | exact (hG W e).1.2.1 | exact (hG W e).1.2.2.1 | exact (hG W e).1.2.2.2.1 | exact (hG W e).1.2.2.2 | exact (hG W e).2 | exact (hG W e).2.1 | exact (hG W e).2.1.1 | exact (hG W e).2.1.2 | exact (hG W e).2.1.2.1 | exact (hG W e).2.1.2.2.1 | exact (hG W e).2.1.2.2.2.1 | exact (hG W e).2.1.2.2.2 | exact (hG W e).2.2 | exact (hG W e).2.2.1 | exact (hG W e).2.2.1.1 | exact (hG W e).2.2.1.2 | exact (hG W e).2.2.1.2.1 | exact (hG W e).2.2.1.2.2.1 | exact (hG W e).2.2.1.2.2.2.1 | exact (hG W e).2.2.1.2.2.2 | exact (hG W e).2.2.2 | exact (hG W e).2.2.2.1 | exact (hG W e).2.2.2.1.1 | exact (hG W e).2.2.2.1.2 | exact (hG W e).2.2.2.1.2.1 | exact (hG W e).2.2.2.1.2.2.1 | exact (hG W e).2.2.2.1.2.2.2.1 | exact (hG W e).2.2.2.1.2.2.2 | exact (hG W e).2.2.2.2 | exact (hG W e).2.2.2.2.1 | exact (hG W e).2.2.2.2.1.1 | exact (hG W e).2.2.2.2.1.2 | exact (hG W e).2.2.2.2.1.2.1 | exact (hG W e).2.2.2.2.1.2.2.1 | exact (hG W e).2.2.2.2.1.2.2.2.1 | exact (hG W e).2.2.2.2.1.2.2.2 | exact (hG W e).2.2.2.2.2 | exact (hG W e).2.2.2.2.2.1 | exact (hG W e).2.2.2.2.2.1.1 | exact (hG W e).2.2.2.2.2.1.2 | exact (hG W e).2.2.2.2.2.1.2.1 | exact (hG W e).2.2.2.2.2.1.2.2.1 | exact (hG W e).2.2.2.2.2.1.2.2.2.1 | exact (hG W e).2.2.2.2.2.1.2.2.2 | exact (hG W e).2.2.2.2.2.2 | exact (hG W e).2.2.2.2.2.2.1 | exact (hG W e).2.2.2.2.2.2.1.1 | exact (hG W e).2.2.2.2.2.2.1.2 | exact (hG W e).2.2.2.2.2.2.1.2.1 | exact (hG W e).2.2.2.2.2.2.1.2.2.1 | exact (hG W e).2.2.2.2.2.2.1.2.2.2.1 | exact (hG W e).2.2.2.2.2.2.1.2.2.2 | exact (hG W e).2.2.2.2.2.2.2 | exact (hG W e).2.2.2.2.2.2.2.1 | exact (hG W e).2.2.2.2.2.2.2.1.1 | exact (hG W e).2.2.2.2.2.2.2.1.2 | exact (hG W e).2.2.2.2.2.2.2.1.2.1 | exact (hG W e).2.2.2.2.2.2.2.1.2.2.1 | exact (hG W e).2.2.2.2.2.2.2.1.2.2.2.1 | exact (hG W e).2.2.2.2.2.2.2.1.2.2.2 | exact (hG W e).2.2.2.2.2.2.2.2 | exact (hG W e).2.2.2.2.2.2.2.2.1 | exact (hG W e).2.2.2.2.2.2.2.2.1.1 | exact (hG W e).2.2.2.2.2.2.2.2.1.2 | exact (hG W e).2.2.2.2.2.2.2.2.1.2.1 | exact (hG W e).2.2.2.2.2.2.2.2.1.2.2.1 | exact (hG W e).2.2.2.2.2.2.2.2.1.2.2.2.1 | exact (hG W e).2.2.2.2.2.2.2.2.1.2.2.2 | exact (hG W e).2.2.2.2.2.2.2.2.2)⟩)) fun _ W _ => ?_
      rw [tB_true (show applyL j.s [] = k.s from hjw.s.symm)]
      simp (maxSteps := 2000000) -implicitDefEqProofs [hN]
      refine callS ok rfl rfl rfl [1014] [j.box] (by simp) rfl (fun _ : Unit => [(1014, j.box)]) (fun w I S hI hG hO hS' => epoch0 w I S hI j hO hS') (fun r => by simp) (.inr fun x q hq => by simp at hq; subst hq; simp) fun _ W _ => ?_
      simp (maxSteps := 2000000) -implicitDefEqProofs [hN, hjw.ep]
      refine callS ok rfl rfl rfl [1014] [j.box] (by simp) rfl (fun _ : Unit => [(1014, j.box)]) (fun w I S hI hG hO hS' => half0 w I S hI j hO hS') (fun r => by simp) (.inr fun x q hq => by simp at hq; subst hq; simp) fun _ W _ => ?_
      simp (maxSteps := 2000000) -implicitDefEqProofs [hN, hjw.half]
      exact next (i + 1, .up j k ct) _ _ (by simp only; omega) (fun W hW => ⟨⟨hlt, h25, ⟨hck, hjw, hjb⟩, (by first | exact (hW) | exact (hW).1 | exact (hW).1.1 | exact (hW).1.2 | exact (hW).1.2.1 | exact (hW).1.2.2.1 | exact (hW).1.2.2.2.1 | exact (hW).1.2.2.2 | exact (hW).2 | exact (hW).2.1 | exact (hW).2.1.1 | exact (hW).2.1.2 | exact (hW).2.1.2.1 | exact (hW).2.1.2.2.1 | exact (hW).2.1.2.2.2.1 | exact (hW).2.1.2.2.2 | exact (hW).2.2 | exact (hW).2.2.1 | exact (hW).2.2.1.1 | exact (hW).2.2.1.2 | exact (hW).2.2.1.2.1 | exact (hW).2.2.1.2.2.1 | exact (hW).2.2.1.2.2.2.1 | exact (hW).2.2.1.2.2.2 | exact (hW).2.2.2 | exact (hW).2.2.2.1 | exact (hW).2.2.2.1.1 | exact (hW).2.2.2.1.2 | exact (hW).2.2.2.1.2.1 | exact (hW).2.2.2.1.2.2.1 | exact (hW).2.2.2.1.2.2.2.1 | exact (hW).2.2.2.1.2.2.2 | exact (hW).2.2.2.2 | exact (hW).2.2.2.2.1 | exact (hW).2.2.2.2.1.1 | exact (hW).2.2.2.2.1.2 | exact (hW).2.2.2.2.1.2.1 | exact (hW).2.2.2.2.1.2.2.1 | exact (hW).2.2.2.2.1.2.2.2.1 | exact (hW).2.2.2.2.1.2.2.2 | exact (hW).2.2.2.2.2 | exact (hW).2.2.2.2.2.1 | exact (hW).2.2.2.2.2.1.1 | exact (hW).2.2.2.2.2.1.2 | exact (hW).2.2.2.2.2.1.2.1 | exact (hW).2.2.2.2.2.1.2.2.1 | exact (hW).2.2.2.2.2.1.2.2.2.1 | exact (hW).2.2.2.2.2.1.2.2.2 | exact (hW).2.2.2.2.2.2 | exact (hW).2.2.2.2.2.2.1 | exact (hW).2.2.2.2.2.2.1.1 | exact (hW).2.2.2.2.2.2.1.2 | exact (hW).2.2.2.2.2.2.1.2.1 | exact (hW).2.2.2.2.2.2.1.2.2.1 | exact (hW).2.2.2.2.2.2.1.2.2.2.1 | exact (hW).2.2.2.2.2.2.1.2.2.2 | exact (hW).2.2.2.2.2.2.2 | exact (hW).2.2.2.2.2.2.2.1 | exact (hW).2.2.2.2.2.2.2.1.1 | exact (hW).2.2.2.2.2.2.2.1.2 | exact (hW).2.2.2.2.2.2.2.1.2.1 | exact (hW).2.2.2.2.2.2.2.1.2.2.1 | exact (hW).2.2.2.2.2.2.2.1.2.2.2.1 | exact (hW).2.2.2.2.2.2.2.1.2.2.2 | exact (hW).2.2.2.2.2.2.2.2 | exact (hW).2.2.2.2.2.2.2.2.1 | exact (hW).2.2.2.2.2.2.2.2.1.1 | exact (hW).2.2.2.2.2.2.2.2.1.2 | exact (hW).2.2.2.2.2.2.2.2.1.2.1 | exact (hW).2.2.2.2.2.2.2.2.1.2.2.1 | exact (hW).2.2.2.2.2.2.2.2.1.2.2.2.1 | exact (hW).2.2.2.2.2.2.2.2.1.2.2.2 | exact (hW).2.2.2.2.2.2.2.2.2)⟩, (by first | exact (hW) | exact (hW).1 | exact (hW).1.1 | exact (hW).1.2 | exact (hW).1.2.1 | exact (hW).1.2.2.1 | exact (hW).1.2.2.2.1 | exact (hW).1.2.2.2 | exact (hW).2 | exact (hW).2.1 | exact (hW).2.1.1 | exact (hW).2.1.2 | exact (hW).2.1.2.1 | exact (hW).2.1.2.2.1 | exact (hW).2.1.2.2.2.1 | exact (hW).2.1.2.2.2 | exact (hW).2.2 | exact (hW).2.2.1 | exact (hW).2.2.1.1 | exact (hW).2.2.1.2 | exact (hW).2.2.1.2.1 | exact (hW).2.2.1.2.2.1 | exact (hW).2.2.1.2.2.2.1 | exact (hW).2.2.1.2.2.2 | exact (hW).2.2.2 | exact (hW).2.2.2.1 | exact (hW).2.2.2.1.1 | exact (hW).2.2.2.1.2 | exact (hW).2.2.2.1.2.1 | exact (hW).2.2.2.1.2.2.1 | exact (hW).2.2.2.1.2.2.2.1 | exact (hW).2.2.2.1.2.2.2 | exact (hW).2.2.2.2 | exact (hW).2.2.2.2.1 | exact (hW).2.2.2.2.1.1 | exact (hW).2.2.2.2.1.2 | exact (hW).2.2.2.2.1.2.1 | exact (hW).2.2.2.2.1.2.2.1 | exact (hW).2.2.2.2.1.2.2.2.1 | exact (hW).2.2.2.2.1.2.2.2 | exact (hW).2.2.2.2.2 | exact (hW).2.2.2.2.2.1 | exact (hW).2.2.2.2.2.1.1 | exact (hW).2.2.2.2.2.1.2 | exact (hW).2.2.2.2.2.1.2.1 | exact (hW).2.2.2.2.2.1.2.2.1 | exact (hW).2.2.2.2.2.1.2.2.2.1 | exact (hW).2.2.2.2.2.1.2.2.2 | exact (hW).2.2.2.2.2.2 | exact (hW).2.2.2.2.2.2.1 | exact (hW).2.2.2.2.2.2.1.1 | exact (hW).2.2.2.2.2.2.1.2 | exact (hW).2.2.2.2.2.2.1.2.1 | exact (hW).2.2.2.2.2.2.1.2.2.1 | exact (hW).2.2.2.2.2.2.1.2.2.2.1 | exact (hW).2.2.2.2.2.2.1.2.2.2 | exact (hW).2.2.2.2.2.2.2 | exact (hW).2.2.2.2.2.2.2.1 | exact (hW).2.2.2.2.2.2.2.1.1 | exact (hW).2.2.2.2.2.2.2.1.2 | exact (hW).2.2.2.2.2.2.2.1.2.1 | exact (hW).2.2.2.2.2.2.2.1.2.2.1 | exact (hW).2.2.2.2.2.2.2.1.2.2.2.1 | exact (hW).2.2.2.2.2.2.2.1.2.2.2 | exact (hW).2.2.2.2.2.2.2.2 | exact (hW).2.2.2.2.2.2.2.2.1 | exact (hW).2.2.2.2.2.2.2.2.1.1 | exact (hW).2.2.2.2.2.2.2.2.1.2 | exact (hW).2.2.2.2.2.2.2.2.1.2.1 | exact (hW).2.2.2.2.2.2.2.2.1.2.2.1 | exact (hW).2.2.2.2.2.2.2.2.1.2.2.2.1 | exact (hW).2.2.2.2.2.2.2.2.1.2.2.2 | exact (hW).2.2.2.2.2.2.2.2.2)⟩) (by simp [Wt.rs, Wt.pj, Wt.pk, e6])
    | down c d ct =>
      simp [hN, Wt.rs, Wt.pj, Wt.pk]
      refine knowG ?_
      rintro W ⟨⟨hck, _⟩, _⟩
      replace hck : Ck c0 d0 kb c d ct := hck
      have gcc : c.gc = c0.gc := hck.cs.gc
      have gdc : d.gc = d0.gc := hck.ds.gc
      have hkl : d.b.length = nb := by rw [hck.ds.len, hl0]
      have hjl : c.b.length = nb := by rw [← hck.tw.b]; exact hkl
      have hdt : (c.b.drop 0).take nb = c.b := by rw [List.drop_zero, List.take_of_length_le (by omega)]
      have hbt : decide (c.b = d.b) = true := decide_eq_true hck.tw.b.symm
      refine callS ok rfl rfl rfl [1010, 1011, 1012, 1013] c.res (by simp [Cp.map, mapR]) rfl (fun _ : Sl => [(1010, c.chip), (1011, c.pow), (1012, c.row), (1013, c.map)]) (fun w I S hI hG hO hS' => by have := norRead0 w I S hI c 0 nb hck.cf hnb0 (by omega) hO hS'; rw [hdt, gcc] at this; exact this) (fun r => by simp [Cp.map, mapR]) (.inr fun x q hq => by simp at hq; rcases hq with rfl | rfl | rfl | rfl <;> simp) fun wa W _ => ?_
      simp [hN, gdc]
      refine callS ok rfl rfl rfl [1002] [(Rc.mk d gk kc ct).row] (by simp) rfl (fun _ : Unit => [(1002, (Rc.mk d gk kc ct).row)]) (fun w I S hI hG hO hS' => sameBL0 w I S hI (a := wa.1) (n := nb) (c := wa.2) c.b d.b (fun W e => ⟨hjl.symm, (hG W e).1⟩) hck.cb hck.db hO hS') (fun r => by simp) (.inr fun x q hq => by simp at hq; subst hq; simp) fun _ W _ => ?_
      rw [hbt]
      simp [hN]
      refine drawK ok mixed (by kernel_rfl) ?_
      simp (maxSteps := 2000000) -implicitDefEqProofs [hN]
      exact next (i + 1, .down c d ct) _ _ (by simp only; omega) (fun W hW => ⟨⟨hlt, h25, hck, trivial⟩, (by first | exact (hW) | exact (hW).1 | exact (hW).1.1 | exact (hW).1.2 | exact (hW).1.2.1 | exact (hW).1.2.2.1 | exact (hW).1.2.2.2.1 | exact (hW).1.2.2.2 | exact (hW).2 | exact (hW).2.1 | exact (hW).2.1.1 | exact (hW).2.1.2 | exact (hW).2.1.2.1 | exact (hW).2.1.2.2.1 | exact (hW).2.1.2.2.2.1 | exact (hW).2.1.2.2.2 | exact (hW).2.2 | exact (hW).2.2.1 | exact (hW).2.2.1.1 | exact (hW).2.2.1.2 | exact (hW).2.2.1.2.1 | exact (hW).2.2.1.2.2.1 | exact (hW).2.2.1.2.2.2.1 | exact (hW).2.2.1.2.2.2 | exact (hW).2.2.2 | exact (hW).2.2.2.1 | exact (hW).2.2.2.1.1 | exact (hW).2.2.2.1.2 | exact (hW).2.2.2.1.2.1 | exact (hW).2.2.2.1.2.2.1 | exact (hW).2.2.2.1.2.2.2.1 | exact (hW).2.2.2.1.2.2.2 | exact (hW).2.2.2.2 | exact (hW).2.2.2.2.1 | exact (hW).2.2.2.2.1.1 | exact (hW).2.2.2.2.1.2 | exact (hW).2.2.2.2.1.2.1 | exact (hW).2.2.2.2.1.2.2.1 | exact (hW).2.2.2.2.1.2.2.2.1 | exact (hW).2.2.2.2.1.2.2.2 | exact (hW).2.2.2.2.2 | exact (hW).2.2.2.2.2.1 | exact (hW).2.2.2.2.2.1.1 | exact (hW).2.2.2.2.2.1.2 | exact (hW).2.2.2.2.2.1.2.1 | exact (hW).2.2.2.2.2.1.2.2.1 | exact (hW).2.2.2.2.2.1.2.2.2.1 | exact (hW).2.2.2.2.2.1.2.2.2 | exact (hW).2.2.2.2.2.2 | exact (hW).2.2.2.2.2.2.1 | exact (hW).2.2.2.2.2.2.1.1 | exact (hW).2.2.2.2.2.2.1.2 | exact (hW).2.2.2.2.2.2.1.2.1 | exact (hW).2.2.2.2.2.2.1.2.2.1 | exact (hW).2.2.2.2.2.2.1.2.2.2.1 | exact (hW).2.2.2.2.2.2.1.2.2.2 | exact (hW).2.2.2.2.2.2.2 | exact (hW).2.2.2.2.2.2.2.1 | exact (hW).2.2.2.2.2.2.2.1.1 | exact (hW).2.2.2.2.2.2.2.1.2 | exact (hW).2.2.2.2.2.2.2.1.2.1 | exact (hW).2.2.2.2.2.2.2.1.2.2.1 | exact (hW).2.2.2.2.2.2.2.1.2.2.2.1 | exact (hW).2.2.2.2.2.2.2.1.2.2.2 | exact (hW).2.2.2.2.2.2.2.2 | exact (hW).2.2.2.2.2.2.2.2.1 | exact (hW).2.2.2.2.2.2.2.2.1.1 | exact (hW).2.2.2.2.2.2.2.2.1.2 | exact (hW).2.2.2.2.2.2.2.2.1.2.1 | exact (hW).2.2.2.2.2.2.2.2.1.2.2.1 | exact (hW).2.2.2.2.2.2.2.2.1.2.2.2.1 | exact (hW).2.2.2.2.2.2.2.2.1.2.2.2 | exact (hW).2.2.2.2.2.2.2.2.2)⟩) (by simp [Wt.rs, Wt.pj, Wt.pk, e6])
end Go.Proofs.YtbbaoeidobdblaaGreat.Sx

/- How many bytes deeds of some bulk have. -/
set_option linter.unusedVariables false
set_option linter.unusedSimpArgs false
namespace Go.Proofs.YtbbaoeidobdblaaGreat.Sx
open Go
attribute [local simp ↓] ifb_true' ifb_false'
attribute [local simp] ifb_true ifb_false ifb_eq sx argsT find ev evOp evs evo evBin evInt evStr evNil evNilA ptrA slcA isNoneA asB evLoad look del cellsB evUn evConv kdec fld evFieldA evField evIdxA evIdx evSlc bndL bndH evLen mmi put resV guardV gvL setO tupV cellsOf ones one upd lits nv exitTo SV.val CV.val TI.agg rdyA allR keepB scan simpO gsp isS subs keepT pickT wr memN pubs Res.fact Region.binds bld rest give delL back Res.eqv vi vb num Sv.val undef
theorem deeds_sz (l : List Dee) : (deedsB l).length ≤ 69 * sumN (l.map fun d => szN d.ino + 1) := by
  induction l with
  | nil => exact Nat.zero_le _
  | cons e r ih =>
    have h1 : (deedB e).length ≤ 69 * (szN e.ino + 1) := by
      by_cases k1 : e.kind = 1 ∨ e.kind = 3 ∨ e.kind = 4
      · have := num_len e.kind e.no e.ino k1
        have e2 : (⟨e.kind, e.no, e.ino⟩ : Dee) = e := rfl
        rw [e2] at this
        omega
      · by_cases k2 : e.kind = 2
        · rw [put_len k2]
          have := wI_sz e.ino
          omega
        · have ht : tailB e = [] := by unfold tailB; rw [if_neg k1, if_neg k2]
          rw [deedB, List.length_append, lowB_length, ht]
          simp
          omega
    rw [deeds_len] at ih ⊢
    simp only [List.map_cons, sumN_cons]
    omega
end Go.Proofs.YtbbaoeidobdblaaGreat.Sx

/- What comes in, read: numbers, texts, bytes, slices of such, entries, runs, inodes, deeds (their bulk is bounded). -/
set_option linter.unusedVariables false
set_option linter.unusedSimpArgs false
namespace Go.Proofs.YtbbaoeidobdblaaGreat.Rdk
open Go Go.Proofs.YtbbaoeidobdblaaGreat.Sx
theorem one_le {H : Type} (d : DataW H) : 1 ≤ Rows.uptoBulk d := by
  cases d with
  | lit l => cases l <;> simp [Rows.uptoBulk]
  | nil => simp [Rows.uptoBulk]
  | ptr d => simp [Rows.uptoBulk]
  | slice elems spare => simp [Rows.uptoBulk]
  | agg parts => simp [Rows.uptoBulk]
  | iface t d => simp [Rows.uptoBulk]
  | map entries => simp [Rows.uptoBulk]
  | held h => simp [Rows.uptoBulk]
theorem part_le {H : Type} {l : List (DataW H)} {i : Nat} {d : DataW H} (h : l[i]? = some d) : Rows.uptoBulk d ≤ Rows.uptoBulkAll l := by
  induction l generalizing i with
  | nil => simp at h
  | cons x r ih =>
    simp only [Rows.uptoBulkAll]
    cases i with
    | zero => simp at h; subst h; omega
    | succ i => have := ih (by simpa using h); omega
/-- Two parts of a whole. -/
theorem part_two {H : Type} {l : List (DataW H)} {i j : Nat} {d e : DataW H} (hij : i < j) (h : l[i]? = some d) (k : l[j]? = some e) : Rows.uptoBulk d + Rows.uptoBulk e ≤ Rows.uptoBulkAll l := by
  induction l generalizing i j with
  | nil => simp at h
  | cons x r ih =>
    obtain ⟨j, rfl⟩ : ∃ q, j = q + 1 := ⟨j - 1, by omega⟩
    simp only [Rows.uptoBulkAll]
    cases i with
    | zero =>
      simp at h
      subst h
      have := part_le (l := r) (i := j) (by simpa using k)
      omega
    | succ i => have := ih (i := i) (j := j) (by omega) (by simpa using h) (by simpa using k); omega
theorem part_three {H : Type} {l : List (DataW H)} {i j k : Nat} {a b c : DataW H} (hij : i < j) (hjk : j < k) (h : l[i]? = some a) (h2 : l[j]? = some b) (h3 : l[k]? = some c) : Rows.uptoBulk a + Rows.uptoBulk b + Rows.uptoBulk c ≤ Rows.uptoBulkAll l := by
  induction l generalizing i j k with
  | nil => simp at h
  | cons x r ih =>
    obtain ⟨j, rfl⟩ : ∃ q, j = q + 1 := ⟨j - 1, by omega⟩
    obtain ⟨k, rfl⟩ : ∃ q, k = q + 1 := ⟨k - 1, by omega⟩
    simp only [Rows.uptoBulkAll]
    cases i with
    | zero =>
      simp at h
      subst h
      have := part_two (l := r) (i := j) (j := k) (by omega) (by simpa using h2) (by simpa using h3)
      omega
    | succ i => have := ih (i := i) (j := j) (k := k) (by omega) (by omega) (by simpa using h) (by simpa using h2) (by simpa using h3); omega
/-- A kind of things can be read off cells of a type. -/
structure RdT (P : Program) (w : World) {α : Type} (t : TypeId) (d : Dt α) (fit : α → Prop) (sz : α → Nat) : Prop where
  get : ∀ {H : Type} {enc : TypeId × Value → H} {base : Nat} {spare : Nat → Bool} {held : Bool} {n : Nat} {cs : List Value} {y : DataW H × List MemPlace}, DataW.trod enc P w base spare held n t cs = some y → Rows.uptoBulk y.1 ≤ 1048576 → ∃ x, d.K w x cs ∧ fit x ∧ sz x ≤ Rows.uptoBulk y.1
theorem wf_fit {n : Int} (h : (Lit.int .i64 n).wf = true) : fitI n := by
  simp [Lit.wf, IntKind.min, IntKind.max, IntKind.signed, IntKind.bits] at h
  unfold fitI
  omega
theorem fold_parts {α : Type} {H : Type} (Q : Nat → α → Prop) (sz : α → Nat) : ∀ (elems : List (DataW H × List MemPlace)) (i0 : Nat), (∀ k y, elems[k]? = some y → ∃ x, Q (i0 + k) x ∧ sz x ≤ Rows.uptoBulk y.1) → ∃ xs : List α, xs.length = elems.length ∧ (∀ k x, xs[k]? = some x → Q (i0 + k) x) ∧ sumN (xs.map sz) ≤ Rows.uptoBulkAll (elems.map (·.1))
  | [], i0, _ => ⟨[], rfl, fun k x h => by simp at h, Nat.le_refl _⟩
  | y :: r, i0, h => by
    obtain ⟨x, h1, h2⟩ := h 0 y rfl
    obtain ⟨xs, h3, h4, h5⟩ := fold_parts Q sz r (i0 + 1) fun k z hz => by
      have := h (k + 1) z (by simpa using hz)
      rw [show i0 + 1 + k = i0 + (k + 1) by omega]
      exact this
    refine ⟨x :: xs, by simp [h3], fun k z hz => ?_, ?_⟩
    · cases k with
      | zero => simp at hz; subst hz; exact h1
      | succ k =>
        have := h4 k z (by simpa using hz)
        rw [show i0 + (k + 1) = i0 + 1 + k by omega]
        exact this
    · simp only [List.map_cons, sumN_cons, Rows.uptoBulkAll]
      omega
theorem len_bulk {H : Type} (l : List (DataW H)) : l.length ≤ Rows.uptoBulkAll l := by
  induction l with
  | nil => simp [Rows.uptoBulkAll]
  | cons x r ih => have := one_le x; simp only [Rows.uptoBulkAll, List.length_cons]; omega
/-- A slice is read. -/
theorem rdSlice {P : Program} {w : World} {α : Type} {t e : TypeId} {d : Dt α} {fit : α → Prop} {sz : α → Nat} (R : RdT P w e d fit sz) (ht : P.underlying t = some (.slice e)) (hc : P.cellsOf e = d.sz) (h0 : 0 < d.sz)
    {H : Type} {enc : TypeId × Value → H} {base : Nat} {spare : Nat → Bool} {held : Bool} {n : Nat} {cs : List Value} {y : DataW H × List MemPlace} (h : DataW.trod enc P w base spare held n t cs = some y) (hb : Rows.uptoBulk y.1 ≤ 1048576) :
    ∃ (s : Sl) (xs : List α), cs = [.slice s.1 xs.length s.2] ∧ Sl.ok d w s xs ∧ (∀ x ∈ xs, fit x) ∧ sumN (xs.map sz) + 1 ≤ Rows.uptoBulk y.1 ∧ xs.length + 1 ≤ Rows.uptoBulk y.1 := by
  rcases DataW.trod_slice ht h with ⟨rfl, rfl⟩ | ⟨a, len, cap, elems, rest, m, rfl, rfl, rfl, h1, h2, h3, h4, h5, _, _⟩
  · exact ⟨(none, 0), [], rfl, ⟨Nat.le_refl _, Nat.zero_le _, rd_nil _ _ _⟩, fun x hx => absurd hx List.not_mem_nil, by simp [Rows.uptoBulk], by simp [Rows.uptoBulk]⟩
  · simp only [Rows.uptoBulk] at hb ⊢
    have hp : ∀ k y, elems[k]? = some y → ∃ x, (fun i x => fit x ∧ ∃ cs, d.K w x cs ∧ ∀ j, j < d.sz → w.cell? ((a.add (i * d.sz)).add j) = cs[j]?) (0 + k) x ∧ sz x ≤ Rows.uptoBulk y.1 := fun k y hy => by
      have hk : k < len := by rw [← h4]; exact (List.getElem?_eq_some_iff.1 hy).1
      have h6 := h5 k hk
      rw [hy, Option.bind_eq_some_iff] at h6
      obtain ⟨cs, h7, h8⟩ := h6
      have hyb : Rows.uptoBulk y.1 ≤ Rows.uptoBulkAll (elems.map (·.1)) := part_le (i := k) (by simp [hy])
      obtain ⟨x, k1, k2, k3⟩ := R.get h8 (by omega)
      obtain ⟨_, c1, c2⟩ := World.cells?_some h7
      rw [hc] at c2
      exact ⟨x, ⟨k2, cs, k1, by rw [Nat.zero_add]; exact c2⟩, k3⟩
    obtain ⟨xs, l1, l2, l3⟩ := fold_parts (fun i x => fit x ∧ ∃ cs, d.K w x cs ∧ ∀ j, j < d.sz → w.cell? ((a.add (i * d.sz)).add j) = cs[j]?) sz elems 0 hp
    have hlen := len_bulk (elems.map (·.1))
    rw [List.length_map] at hlen
    have hxl : xs.length = len := by rw [l1, h4]
    refine ⟨(some a, cap), xs, by rw [hxl], ⟨by simp only; omega, by omega, fun hne => ?_⟩, fun x hx => ?_, by omega, by omega⟩
    · have hpos : 0 < xs.length := List.length_pos_iff.2 hne
      obtain ⟨_, cs, k1, k2⟩ := l2 0 xs[0] (List.getElem?_eq_getElem hpos)
      have hcl := d.len k1
      have hsp : a.spot = none := by
        have := World.cell?_spot (k2 0 h0 |>.trans (List.getElem?_eq_getElem (by omega)))
        simpa [Addr.add] using this
      obtain ⟨b, o, sp⟩ := a
      simp only at hsp
      subst hsp
      refine ⟨b, o, rfl, fun i x hx => ?_⟩
      obtain ⟨_, cs, k1, k2⟩ := l2 i x hx
      refine ⟨cs, k1, fun j v hv => ?_⟩
      have hj : j < d.sz := by rw [← d.len k1]; exact (List.getElem?_eq_some_iff.1 hv).1
      have := k2 j hj
      rw [addr_add, addr_add, Nat.zero_add] at this
      rw [this, hv]
    · obtain ⟨i, hi⟩ := List.mem_iff_getElem?.1 hx
      exact (l2 i x hi).1
/-- The parts of a struct, one by one. -/
theorem rdStruct {P : Program} {w : World} {t : TypeId} {fs : Array Field} (ht : P.underlying t = some (.struct fs)) {H : Type} {enc : TypeId × Value → H} {base : Nat} {spare : Nat → Bool} {held : Bool} {n : Nat} {cs : List Value} {y : DataW H × List MemPlace} (h : DataW.trod enc P w base spare held n t cs = some y) :
    ∃ (l : List (DataW H × List MemPlace)) (m : Nat), Rows.uptoBulk y.1 = Rows.uptoBulkAll (l.map (·.1)) + 1 ∧ cs.length = P.cellsOf t ∧ ∀ (i : Nat) (f : Field), fs.toList[i]? = some f → ∃ z, l[i]? = some z ∧ DataW.trod enc P w base spare held m f.type ((cs.drop f.offset).take (P.cellsOf f.type)) = some z := by
  obtain ⟨xs, m, rfl, rfl, h1, h2, h3⟩ := DataW.trod_struct ht h
  refine ⟨xs, m, by simp [Rows.uptoBulk], h1, fun i f hf => ?_⟩
  rw [Array.getElem?_toList] at hf
  have h4 := h3 i f hf
  have hi : i < xs.length := by rw [h2]; exact (Array.getElem?_eq_some_iff.1 hf).1
  exact ⟨xs[i], List.getElem?_eq_getElem hi, by rw [h4]; exact List.getElem?_eq_getElem hi⟩
theorem len2 {l : List Value} (h : l.length = 2) : ∃ a b, l = [a, b] := by
  match l, h with
  | [a, b], _ => exact ⟨a, b, rfl⟩
theorem len3 {l : List Value} (h : l.length = 3) : ∃ a b c, l = [a, b, c] := by
  match l, h with
  | [a, b, c], _ => exact ⟨a, b, c, rfl⟩
theorem len7 {l : List Value} (h : l.length = 7) : ∃ a b c d e f g, l = [a, b, c, d, e, f, g] := by
  match l, h with
  | [a, b, c, d, e, f, g], _ => exact ⟨a, b, c, d, e, f, g, rfl⟩
theorem len9 {l : List Value} (h : l.length = 9) : ∃ i j a b c d e f g, l = [i, j, a, b, c, d, e, f, g] := by
  match l, h with
  | [i, j, a, b, c, d, e, f, g], _ => exact ⟨i, j, a, b, c, d, e, f, g, rfl⟩
theorem cellInt : Tryz.prog.cellsOf 3 = 1 := by kernel_rfl
theorem cellStr : Tryz.prog.cellsOf 9 = 1 := by kernel_rfl
theorem cellEs : Tryz.prog.cellsOf 41 = 1 := by kernel_rfl
theorem cellRs : Tryz.prog.cellsOf 42 = 1 := by kernel_rfl
theorem cellEnt : Tryz.prog.cellsOf 127 = 2 := by kernel_rfl
theorem cellRun : Tryz.prog.cellsOf 139 = 3 := by kernel_rfl
theorem cellIno : Tryz.prog.cellsOf 44 = 7 := by kernel_rfl
theorem cellDee : Tryz.prog.cellsOf 46 = 9 := by kernel_rfl
theorem rdEnt (w : World) : RdT Tryz.prog w 127 dEnt (fun e => FitE e) (fun e => e.name.size + 1) := ⟨fun {H enc base spare held n cs y} h hb => by
  obtain ⟨l, m, hB, hl, hp⟩ := rdStruct Tryz.underlying127 h
  obtain ⟨z0, e0, t0⟩ := hp 0 _ rfl
  obtain ⟨z1, e1, t1⟩ := hp 1 _ rfl
  simp only [cellStr, cellInt] at t0 t1
  obtain ⟨s, c0, rfl, _⟩ := DataW.trod_string Tryz.underlying9 t0
  obtain ⟨v, c1, rfl, hv⟩ := DataW.trod_int Tryz.underlying3 t1
  rw [cellEnt] at hl
  obtain ⟨a, b, rfl⟩ := len2 hl
  focus
    simp at c0 c1
    subst c0 c1
    have hb0 := part_le (l := l.map (·.1)) (i := 0) (by rw [List.getElem?_map, e0]; rfl)
    simp only [Rows.uptoBulk] at hb0
    have hs : s.data.toList.length = s.size := by simp
    refine ⟨⟨s, v⟩, rfl, ⟨by simp only; omega, wf_fit hv⟩, by simp only; omega⟩⟩
theorem rdRun (w : World) : RdT Tryz.prog w 139 dRn (fun r => FitR r) (fun _ => 1) := ⟨fun {H enc base spare held n cs y} h hb => by
  obtain ⟨l, m, hB, hl, hp⟩ := rdStruct Tryz.underlying139 h
  obtain ⟨z0, e0, t0⟩ := hp 0 _ rfl
  obtain ⟨z1, e1, t1⟩ := hp 1 _ rfl
  obtain ⟨z2, e2, t2⟩ := hp 2 _ rfl
  simp only [cellInt] at t0 t1 t2
  obtain ⟨u, c0, rfl, h0⟩ := DataW.trod_int Tryz.underlying3 t0
  obtain ⟨v, c1, rfl, h1⟩ := DataW.trod_int Tryz.underlying3 t1
  obtain ⟨x, c2, rfl, h2⟩ := DataW.trod_int Tryz.underlying3 t2
  rw [cellRun] at hl
  obtain ⟨a, b, c, rfl⟩ := len3 hl
  focus
    simp at c0 c1 c2
    subst c0 c1 c2
    exact ⟨⟨u, v, x⟩, rfl, ⟨wf_fit h0, wf_fit h1, wf_fit h2⟩, one_le _⟩⟩
/-- The size of an inode. -/
def szI (x : Ino) : Nat := x.target.size + sumN (x.ents.map fun e => e.name.size + 1) + x.runs.length
theorem rdIno (w : World) : RdT Tryz.prog w 44 dIno (fun x => FitN x) szI := ⟨fun {H enc base spare held n cs y} h hb => by
  obtain ⟨l, m, hB, hl, hp⟩ := rdStruct Tryz.underlying44 h
  obtain ⟨z0, e0, t0⟩ := hp 0 _ rfl
  obtain ⟨z1, e1, t1⟩ := hp 1 _ rfl
  obtain ⟨z2, e2, t2⟩ := hp 2 _ rfl
  obtain ⟨z3, e3, t3⟩ := hp 3 _ rfl
  obtain ⟨z4, e4, t4⟩ := hp 4 _ rfl
  obtain ⟨z5, e5, t5⟩ := hp 5 _ rfl
  obtain ⟨z6, e6, t6⟩ := hp 6 _ rfl
  simp only [cellInt, cellStr, cellEs, cellRs] at t0 t1 t2 t3 t4 t5 t6
  obtain ⟨v0, c0, rfl, h0⟩ := DataW.trod_int Tryz.underlying3 t0
  obtain ⟨v1, c1, rfl, h1⟩ := DataW.trod_int Tryz.underlying3 t1
  obtain ⟨v2, c2, rfl, h2⟩ := DataW.trod_int Tryz.underlying3 t2
  obtain ⟨v3, c3, rfl, h3⟩ := DataW.trod_int Tryz.underlying3 t3
  obtain ⟨s, c4, rfl, _⟩ := DataW.trod_string Tryz.underlying9 t4
  have g4 : (l.map (·.1))[4]? = some (.lit (.string s.data.toList)) := by rw [List.getElem?_map, e4]; rfl
  have g5 : (l.map (·.1))[5]? = some z5.1 := by rw [List.getElem?_map, e5]; rfl
  have g6 : (l.map (·.1))[6]? = some z6.1 := by rw [List.getElem?_map, e6]; rfl
  have hbb := part_three (by omega) (by omega) g4 g5 g6
  have hs : s.data.toList.length = s.size := by simp
  simp only [Rows.uptoBulk] at hbb
  obtain ⟨se, xe, c5, ok5, f5, b5, n5⟩ := rdSlice (rdEnt w) Tryz.underlying41 cellEnt (by decide) t5 (by omega)
  obtain ⟨sr, xr, c6, ok6, f6, b6, n6⟩ := rdSlice (rdRun w) Tryz.underlying42 cellRun (by decide) t6 (by omega)
  rw [cellIno] at hl
  obtain ⟨a0, a1, a2, a3, a4, a5, a6, rfl⟩ := len7 hl
  focus
    simp at c0 c1 c2 c3 c4 c5 c6
    subst c0 c1 c2 c3 c4 c5 c6
    refine ⟨⟨v0, v1, v2, v3, s, xe, xr⟩, ⟨se, sr, rfl, ok5, ok6⟩, ⟨wf_fit h0, wf_fit h1, wf_fit h2, wf_fit h3, by simp only; omega, by simp only; omega, by simp only; omega, f5, f6⟩, ?_⟩
    simp only [szI]
    omega⟩
theorem rdDee (w : World) : RdT Tryz.prog w 46 dDee (fun x => fitI x.kind ∧ fitI x.no ∧ FitN x.ino) (fun x => szI x.ino + 1) := ⟨fun {H enc base spare held n cs y} h hb => by
  obtain ⟨l, m, hB, hl, hp⟩ := rdStruct Tryz.underlying46 h
  obtain ⟨z0, e0, t0⟩ := hp 0 _ rfl
  obtain ⟨z1, e1, t1⟩ := hp 1 _ rfl
  obtain ⟨z2, e2, t2⟩ := hp 2 _ rfl
  simp only [cellInt, cellIno] at t0 t1 t2
  obtain ⟨v0, c0, rfl, h0⟩ := DataW.trod_int Tryz.underlying3 t0
  obtain ⟨v1, c1, rfl, h1⟩ := DataW.trod_int Tryz.underlying3 t1
  have hbb := part_le (l := l.map (·.1)) (i := 2) (d := z2.1) (by rw [List.getElem?_map, e2]; rfl)
  obtain ⟨x, ⟨se, sr, c2, ok⟩, hf, hz⟩ := (rdIno w).get t2 (by omega)
  rw [cellDee] at hl
  obtain ⟨a0, a1, b0, b1, b2, b3, b4, b5, b6, rfl⟩ := len9 hl
  focus
    simp at c0 c1 c2
    subst c0 c1
    obtain ⟨rfl, rfl, rfl, rfl, rfl, rfl, rfl⟩ := c2
    exact ⟨⟨v0, v1, x⟩, ⟨se, sr, rfl, ok⟩, ⟨wf_fit h0, wf_fit h1, hf⟩, by simp only; omega⟩⟩
end Go.Proofs.YtbbaoeidobdblaaGreat.Rdk

/- What comes in, read: things to be done (garretlaw17.Op). -/
set_option linter.unusedVariables false
set_option linter.unusedSimpArgs false
namespace Go.Proofs.YtbbaoeidobdblaaGreat.Rdk
open Go Go.Proofs.YtbbaoeidobdblaaGreat.Sx
theorem len4 {l : List Value} (h : l.length = 4) : ∃ a b c d, l = [a, b, c, d] := by
  match l, h with
  | [a, b, c, d], _ => exact ⟨a, b, c, d, rfl⟩
theorem cellByt : Tryz.prog.cellsOf 5 = 1 := by kernel_rfl
theorem cellDs : Tryz.prog.cellsOf 47 = 1 := by kernel_rfl
theorem cellOpn : Tryz.prog.cellsOf 77 = 4 := by kernel_rfl
def szO (x : Opn) : Nat := sumN (x.l.map fun d => szI d.ino + 1)
theorem rdOpn (w : World) : RdT Tryz.prog w 77 dOpn (fun x => x.n ≤ 9223372036854775807) szO := ⟨fun {H enc base spare held n cs y} h hb => by
  obtain ⟨l, m, hB, hl, hp⟩ := rdStruct Tryz.underlying77 h
  obtain ⟨z0, e0, t0⟩ := hp 0 _ rfl
  obtain ⟨z1, e1, t1⟩ := hp 1 _ rfl
  obtain ⟨z2, e2, t2⟩ := hp 2 _ rfl
  obtain ⟨z3, e3, t3⟩ := hp 3 _ rfl
  simp only [cellInt, cellByt, cellDs] at t0 t1 t2 t3
  obtain ⟨v0, c0, rfl, h0⟩ := DataW.trod_int Tryz.underlying3 t0
  obtain ⟨v1, c1, rfl, h1⟩ := DataW.trod_int Tryz.underlying3 t1
  obtain ⟨v2, c2, rfl, h2⟩ := DataW.trod_int Tryz.underlying5 t2
  have hbb := part_le (l := l.map (·.1)) (i := 3) (d := z3.1) (by rw [List.getElem?_map, e3]; rfl)
  obtain ⟨sd, xd, c3, ok3, f3, b3, n3⟩ := rdSlice (rdDee w) Tryz.underlying47 cellDee (by decide) t3 (by omega)
  rw [cellOpn] at hl
  obtain ⟨a0, a1, a2, a3, rfl⟩ := len4 hl
  have hf := wf_fit h1
  unfold fitI at hf
  focus
    simp at c0 c1 c2 c3
    subst c0 c1 c2 c3
    exact ⟨⟨v0, v1, v2, xd⟩, ⟨sd, rfl, ok3⟩, by simp only; omega, by simp only [szO]; omega⟩⟩
theorem ops_raw (l : List Opn) (h : sumN (l.map szO) ≤ 1048576) : sumN (l.map fun x => (deedsB x.l).length) ≤ 100000000 := by
  have : ∀ l : List Opn, sumN (l.map fun x => (deedsB x.l).length) ≤ 69 * sumN (l.map szO) := by
    intro l
    induction l with
    | nil => exact Nat.zero_le _
    | cons e r ih =>
      have h1 : (deedsB e.l).length ≤ 69 * szO e := deeds_sz e.l
      simp only [List.map_cons, sumN_cons]
      omega
  have := this l
  omega
end Go.Proofs.YtbbaoeidobdblaaGreat.Rdk

/- JournalPlays, its narrowed form: for every input of bulk at most 1048576 the law returns true, and each argument reads behind the call as it read ahead of it. -/
set_option linter.unusedVariables false
set_option linter.unusedSimpArgs false
namespace Go.Proofs.YtbbaoeidobdblaaGreat.journalPlays
open Go.ChangeShapes Go.WideShapes Go.ChangeAt Go.RowKit Go.Deep Go.Proofs.YtbbaoeidobdblaaGreat.Rowl
theorem own : ownKnob Tryz.prog.godebug = none := by kernel_rfl
theorem laidOut : laidOutB Tryz.prog = true := by kernel_rfl

set_option maxRecDepth 100000 in
theorem lifted (os : Os) (started : os.Started) (H : Type) (enc : TypeId × Value → H) (F : Stop.Interp) :
    ReturnsInHanded {} Tryz.checked os 7 .any ((Rows.OpenSpec.upto Rows.journalPlaysSpec).pre6 enc Tryz.prog Tryz.f7 Rows.journalPlaysUptoRow.domain false) (((Rows.OpenSpec.upto Rows.journalPlaysSpec).at F).post enc Tryz.prog Tryz.f7 false true false false) := by
  refine returnsInHanded_of_cond (C := Tryz.checked) (s := Rows.OpenSpec.upto Rows.journalPlaysSpec) (k := Rows.uptoSmall) rfl own started (by kernel_rfl) Tryz.func7
    (OpenSpec.witness (enc := enc) (C := Tryz.checked) (s := Rows.OpenSpec.upto Rows.journalPlaysSpec) (k := Rows.uptoSmall) rfl false ⟨#[], #[.agg #[.int .i64 0, .int .i64 0, .int .i64 0, .int .i64 0, .int .i64 0], .slice none 0 0], []⟩ 8 (by kernel_rfl) (by kernel_rfl) (by kernel_rfl)
      (x := ([.agg [.lit (.int .i64 0), .lit (.int .i64 0), .lit (.int .i64 0), .lit (.int .i64 0), .lit (.int .i64 0)], .nil], [], [])) (by kernel_rfl) rfl (by kernel_rfl)) ?_
  intro W base args ds gs before hval0 hW hcnd hk0 _
  have hval : ∀ (j : Nat) t v, Tryz.f7.params[j]? = some t → args[j]? = some v → Value.okWide Tryz.prog W .any base t v := hval0
  have hW' := hW
  obtain ⟨p, q, hA0, hV, rfl, hfz, hnd⟩ := hW
  have hA : DataW.TrodAll enc Tryz.prog W 0 (fun _ => true) true Tryz.f7.params.toList args.toList ds p := hA0
  rw [Tryz.params7] at hA hval
  obtain ⟨v0, vs0, d0, ds0, p0, q0, hargs, rfl, rfl, h0, r0⟩ := trodAll_cons hA
  obtain ⟨v1, vs1, d1, ds1, p1, q1, rfl, rfl, rfl, h1, r1⟩ := trodAll_cons r0
  obtain ⟨rfl, rfl, rfl⟩ := trodAll_nil r1
  obtain rfl : args = #[v0, v1] := by cases args; simp_all
  obtain ⟨rfl, rfl⟩ := trodVars_none hV
  have hk : Rows.uptoBulk d0 + Rows.uptoBulk d1 ≤ 1048576 := by
    have h := of_decide_eq_true hk0
    simp only [Rows.uptoBulkAll, List.append_nil] at h
    omega
  have k0 := h0
  have lt0 : ∀ x ∈ p0, x.block < W.heap.size := by obtain ⟨m, hm⟩ := k0; exact DataW.trod_lt m _ _ _ hm
  obtain ⟨g0a, g0b, g0c, g0d, g0e, rfl⟩ := agg5_in Tryz.underlying23 (by kernel_rfl) (by kernel_rfl) Tryz.underlying3 ⟨rfl, rfl, rfl, rfl, rfl⟩ (hval 0 23 v0 rfl rfl) h0
  have k1 := h1
  have lt1 : ∀ x ∈ p1, x.block < W.heap.size := by obtain ⟨m, hm⟩ := k1; exact DataW.trod_lt m _ _ _ hm
  obtain ⟨b1, len1, cap1, rfl⟩ := okWide_slice Tryz.underlying67 (hval 1 67 v1 rfl rfl)
  obtain ⟨m1, f1⟩ := h1
  obtain ⟨s1, l1, e1, ok1, fit1, sz1, ln1⟩ := Rdk.rdSlice (Rdk.rdOpn W) Tryz.underlying67 (by kernel_rfl) (by decide) f1 (by simp only; omega)
  obtain ⟨rfl, rfl, rfl⟩ : b1 = s1.1 ∧ len1 = l1.length ∧ cap1 = s1.2 := by simpa [Value.cells] using e1
  simp only at sz1 ln1
  clear hA0 hval0
  refine (row_calls (Sx.journalPlaysLaw0 W ⟨g0a, g0b, g0c, g0d, g0e⟩ l1 (fun W' e => ⟨rfl, Sx.sl_keep Sx.keepOpn e ok1⟩) fit1 (Rdk.ops_raw l1 (by omega)))).mono fun e W' ⟨he, gr⟩ => ?_
  subst he
  have bel : Below W.heap.size W W' := ⟨gr.os, gr.tape, gr.output, gr.size, fun k hk => gr.block k hk (by simp)⟩
  exact ⟨_, rfl, _, _, _, [], _, [], hW', trodAll_mk1 (shut_bool Tryz.underlying4 _), (trodAll_cons_mk (Below.trod laidOut (by kernel_rfl) (of_decide_eq_true (by kernel_rfl)) k0 bel lt0) (trodAll_cons_mk (Below.trod laidOut (by kernel_rfl) (of_decide_eq_true (by kernel_rfl)) k1 bel lt1) trodAll_mk0)), rfl, bel.frame _, fun h => by cases h⟩

theorem over : Rows.journalPlaysUptoRow.holds Tryz.pinned (Rows.OpenSpec.upto Rows.journalPlaysSpec) :=
  OpenClaim.holds_of_cond 7 Tryz.f7 rfl rfl rfl rfl rfl rfl rfl ⟨rfl, rfl, rfl, rfl, rfl⟩ rfl rfl rfl rfl rfl (by kernel_rfl) Tryz.func7 (by kernel_rfl)
    (of_decide_eq_true (by kernel_rfl)) (by unfold Func.isWrapper; first | (rw [if_pos (by decide +kernel)]; kernel_rfl) | (rw [if_neg (by decide +kernel)]; exact ⟨rfl, rfl⟩))
    (fun os started H enc _ F => lifted os started H enc F)

/-- The statement. -/
theorem proved : Rows.JournalPlaysUptoSaid := over
#print axioms proved
end Go.Proofs.YtbbaoeidobdblaaGreat.journalPlays

/- Laid together: Sp14, Sp15, Sk71, Sk74, Sk75, Sk76, Sk73, Sk77, Sp16, Sp17, Sk78, Sk79, Sk82, Sk80, Sk84. -/
import Derived.Test.YtbbaoeidobdblaaGreatJI6
/- Plain: power goes while a half is wiped. -/
set_option linter.unusedVariables false
set_option linter.unusedSimpArgs false
namespace Go.Proofs.YtbbaoeidobdblaaGreat.Sx
open Go
/-- Bytes that were wiped in part, from the last one on. -/
structure part (b b' : List Int) (lo hi : Nat) : Prop where
  len : b'.length = b.length
  byte : isB b'
  out : ∀ j, j < lo ∨ hi ≤ j → b'[j]? = b[j]?
  on : ∃ p, p ≤ hi ∧ (∀ j, j < p → b'[j]? = b[j]?) ∧ ∀ j, p ≤ j → j < hi → b'[j]? ≠ some 0
theorem part.refl {b : List Int} (hb : isB b) (lo hi : Nat) : part b b lo hi := ⟨rfl, hb, fun _ _ => rfl, hi, Nat.le_refl _, fun _ _ => rfl, fun j h1 h2 => by omega⟩
end Go.Proofs.YtbbaoeidobdblaaGreat.Sx

/- Plain: what a chip tells wherever power goes. -/
set_option linter.unusedVariables false
set_option linter.unusedSimpArgs false
namespace Go.Proofs.YtbbaoeidobdblaaGreat.Sx
open Go
/-- A half tells a state, of an epoch; the other one is older. -/
def tells (c : Cp) (h : Nat) (s : Sta) (e : Int) : Prop := (∃ u m, readM (halfB c h) = ⟨e, u, s, m⟩) ∧ (readM (halfB c (1 - h))).ep < e
/-- A chip tells a state, of an epoch. -/
structure Gd (c : Cp) (s : Sta) (e : Int) : Prop where
  fit : c.fit
  bytes : isB c.b
  sok : StaOk s
  fits : wholeB s + 15 ≤ halfSz c
  ep : 1 ≤ e
  on : ∃ h, h < 2 ∧ tells c h s e
/-- Power plays no part. -/
theorem Gd.pow {c : Cp} {s : Sta} {e : Int} (h : Gd c s e) (q : Pw) (hq : q.left ≤ 9223372036854775807) : Gd { c with p := q } s e :=
  ⟨⟨h.fit.right, h.fit.len, h.fit.cap, hq⟩, h.bytes, h.sok, h.fits, h.ep, h.on⟩
/-- A journal whose power may go. -/
def Jn.at (j : Jn) (q : Pw) : Jn := { j with c := { j.c with p := q } }
end Go.Proofs.YtbbaoeidobdblaaGreat.Sx

/- power.Cut, On. -/
set_option linter.unusedVariables false
set_option linter.unusedSimpArgs false
namespace Go.Proofs.YtbbaoeidobdblaaGreat.Sx
open Go
attribute [local simp ↓] ifb_true' ifb_false'
attribute [local simp] ifb_true ifb_false ifb_eq sx argsT find ev evOp evs evo evBin evInt evStr evNil evNilA ptrA slcA isNoneA asB evLoad look del cellsB evUn evConv kdec fld evFieldA evField evIdxA evIdx evSlc bndL bndH evLen mmi put resV guardV gvL setO tupV cellsOf ones one upd lits nv exitTo SV.val CV.val TI.agg rdyA allR keepB scan simpO gsp isS subs keepT pickT wr memN pubs Res.fact Region.binds bld rest give delL back Res.eqv vi vb num Sv.val undef
def Pw.on (p : Pw) : Pw := { p with left := -1, off := false }
end Go.Proofs.YtbbaoeidobdblaaGreat.Sx

/- The reference's power. -/
set_option linter.unusedVariables false
set_option linter.unusedSimpArgs false
namespace Go.Proofs.YtbbaoeidobdblaaGreat.Sx
open Go
attribute [local simp ↓] ifb_true' ifb_false'
attribute [local simp] ifb_true ifb_false ifb_eq sx argsT find ev evOp evs evo evBin evInt evStr evNil evNilA ptrA slcA isNoneA asB evLoad look del cellsB evUn evConv kdec fld evFieldA evField evIdxA evIdx evSlc bndL bndH evLen mmi put resV guardV gvL setO tupV cellsOf ones one upd lits nv exitTo SV.val CV.val TI.agg rdyA allR keepB scan simpO gsp isS subs keepT pickT wr memN pubs Res.fact Region.binds bld rest give delL back Res.eqv vi vb num Sv.val undef
abbrev rpB (p : Pw) : List CV := [.b p.off, .v (.int .i64 p.left), .v (.int .u8 p.mask), .v (.int .i64 p.done), .v (.slice none 0 0)]
theorem rpNew0 (w : World) (I : Nat → Prop) (hI : ∀ b, I b → b < w.heap.size) :
    FnS Tryz.prog 33 #[] w I noS ptrV (fun g => [.box g 79 (rpB ⟨-1, 0, false, 0⟩)]) (fun _ _ => True) := by
  refine enterS (svs := []) tysOk Tryz.func33 rfl Tryz.ntmps33 Tryz.results33 (by kernel_rfl) (by simp) hI [] (owns_nil w) (fun b hb => hb.elim) (fun _ => True) (fun _ _ => trivial) fun C hC hN ok => ?_
  simp [hN]
  exact fun g => retS hC g [2] rfl (by simp) fun _ _ _ => trivial
theorem rpStep0 (w : World) (I S : Nat → Prop) (hI : ∀ b, I b → b < w.heap.size) (gp : Nat) (p : Pw) (hp : p.left ≤ 9223372036854775807) (hS : Owns [.box gp 79 (rpB p)] S w) (hSI : ∀ b, S b → b < w.heap.size ∧ ¬ I b) :
    FnS Tryz.prog 129 #[ptrV gp] w I S (fun _ : Unit => .tuple #[.bool p.step.1, .bool p.step.2.1]) (fun _ => [.box gp 79 (rpB p.step.2.2)]) (fun _ _ => True) := by
  refine enterS (svs := [.c (.bp 1000 gp 0)]) tysOk Tryz.func129 rfl Tryz.ntmps129 Tryz.results129 (by kernel_rfl) (by simp) hI [.box gp 79 (rpB p)] hS hSI (fun _ => True) (fun _ _ => trivial) fun C hC hN ok => ?_
  obtain ⟨left, mask, off, done⟩ := p
  simp only at hp
  cases off with
  | true =>
    simp [hN]
    exact retS hC () [1000] (by simp [Pw.step]) (by simp [Pw.step]) fun _ _ _ => trivial
  | false =>
    by_cases h0 : left = 0
    · subst h0
      simp [hN]
      exact retS hC () [1000] (by simp [Pw.step]) (by simp [Pw.step]) fun _ _ _ => trivial
    · by_cases h1 : 0 < left
      · have e1 : IntKind.i64.wrap (left - 1) = left - 1 := w64 (by omega) (by omega)
        simp [hN, h0, h1, e1]
        exact retS hC () [1000] (by simp [Pw.step, h0, h1]) (by simp [Pw.step, h0, h1]) fun _ _ _ => trivial
      · simp [hN, h0, h1]
        exact retS hC () [1000] (by simp [Pw.step, h0, h1]) (by simp [Pw.step, h0, h1]) fun _ _ _ => trivial
/-- So many bytes 255. -/
theorem blank0 (w : World) (I : Nat → Prop) (hI : ∀ b, I b → b < w.heap.size) (n : Nat) (hn : n ≤ 1000000) :
    FnS Tryz.prog 77 #[.int .i64 (n : Nat)] w I noS (fun r : Nat × Nat => .slice (some ⟨r.1, 0, none⟩) n r.2) (fun r => [.row (some ⟨r.1, 0, none⟩) n r.2 5 1 (bC (List.replicate n 255))]) (fun _ _ => True) := by
  refine enterS (svs := [.c (.v (.int .i64 (n : Nat)))]) tysOk Tryz.func77 rfl Tryz.ntmps77 Tryz.results77 (by kernel_rfl) (by simp) hI [] (owns_nil w) (fun b hb => hb.elim) (fun _ => True) (fun _ _ => trivial) fun C hC hN ok => ?_
  simp [hN]
  refine mksl ok rfl rfl rfl rfl rfl rfl rfl rfl rfl (by omega) (by show (1 : Int) * n ≤ _; omega) (by omega) fun g => ?_
  simp [hN]
  refine loop ok (fun i : Nat => [(4, .c (.v (.int .i64 (i : Nat))))]) (fun i => [(6, .row (some ⟨g, 0, none⟩) n n 5 1 (bC (List.replicate i 255 ++ List.replicate (n - i) 0)))]) (fun i W => i ≤ n) (fun i => n - i) 0 ?_ ?_ (fun W _ => Nat.zero_le _) ?_
  · simp
  · simp [bC]
  rintro i W hi hG next
  simp [hN]
  refine ⟨fun hlt => ?_, fun hge => ?_⟩
  · have e7 : IntKind.i64.wrap ((i : Int) + 1) = (i + 1 : Nat) := by rw [w64 (by omega) (by omega)]; omega
    have hset : (bC (List.replicate i 255 ++ List.replicate (n - i) 0)).set i (.v (.int .u8 255)) = bC (List.replicate (i + 1) 255 ++ List.replicate (n - (i + 1)) 0) := by
      rw [show n - i = (n - (i + 1)) + 1 by omega, List.replicate_succ, bC_set, List.set_append_right _ _ (by simp), List.length_replicate, Nat.sub_self, List.set_cons_zero, List.replicate_succ', List.append_assoc]
      rfl
    rw [hset, e7]
    refine ⟨hlt, by simp [bC]; omega, next (i + 1) _ _ (by omega) (fun W h => ⟨hlt, trivial⟩) ?_⟩
    simp
  · obtain rfl : i = n := by omega
    exact retS hC (g, i) [6] rfl (by simp) fun _ _ _ => trivial
end Go.Proofs.YtbbaoeidobdblaaGreat.Sx

/- ref01.NewNor, within, Read. -/
set_option linter.unusedVariables false
set_option linter.unusedSimpArgs false
namespace Go.Proofs.YtbbaoeidobdblaaGreat.Sx
open Go
attribute [local simp ↓] ifb_true' ifb_false'
attribute [local simp] ifb_true ifb_false ifb_eq sx argsT find ev evOp evs evo evBin evInt evStr evNil evNilA ptrA slcA isNoneA asB evLoad look del cellsB evUn evConv kdec fld evFieldA evField evIdxA evIdx evSlc bndL bndH evLen mmi put resV guardV gvL setO tupV cellsOf ones one upd lits nv exitTo SV.val CV.val TI.agg rdyA allR keepB scan simpO gsp isS subs keepT pickT wr memN pubs Res.fact Region.binds bld rest give delL back Res.eqv vi vb num Sv.val undef
/-- The reference's chip: a chip (its map is a ghost), and how often each sector was erased. -/
structure Rc where
  c : Cp
  gk : Nat
  kc : Nat
  ct : List Int
abbrev kC (l : List Int) : List CV := l.map fun y => .v (.int .i64 y)
abbrev Rc.chip (r : Rc) : Res := .box r.c.gc 81 [.v (.int .i64 r.c.g.sectors), .v (.int .i64 r.c.g.sector), .v (.int .i64 r.c.g.blocks), .v (.int .i64 r.c.g.pages), .v (.int .i64 r.c.g.page), .bp 1001 r.c.gp 0, .rw 1002 (some ⟨r.c.gb, 0, none⟩) r.c.b.length r.c.bc, .rw 1003 (some ⟨r.gk, 0, none⟩) r.ct.length r.kc]
abbrev Rc.pow (r : Rc) : Res := .box r.c.gp 79 (rpB r.c.p)
abbrev Rc.row (r : Rc) : Res := .row (some ⟨r.c.gb, 0, none⟩) r.c.b.length r.c.bc 5 1 (bC r.c.b)
abbrev Rc.cnt (r : Rc) : Res := .row (some ⟨r.gk, 0, none⟩) r.ct.length r.kc 3 1 (kC r.ct)
abbrev Rc.res (r : Rc) : List Res := [r.chip, r.pow, r.row, r.cnt]
set_option maxRecDepth 100000 in
set_option maxHeartbeats 1000000 in
theorem refNew0 (w : World) (I : Nat → Prop) (hI : ∀ b, I b → b < w.heap.size) (g : Geo) (gp n k : Nat) (hg : g.right) (hn : g.sectors * g.sector = (n : Nat)) (hn0 : 0 < n) (hn1 : n ≤ 100000) (hk : g.sectors = (k : Nat)) :
    FnS Tryz.prog 34 #[.agg (geoC g).toArray, ptrV gp] w I noS (fun x : Nat × Nat × Nat × Nat × Nat => .tuple #[ptrV x.1, .int .i64 0]) (fun x => [.box x.1 81 [.v (.int .i64 g.sectors), .v (.int .i64 g.sector), .v (.int .i64 g.blocks), .v (.int .i64 g.pages), .v (.int .i64 g.page), .v (ptrV gp), .rw 1002 (some ⟨x.2.1, 0, none⟩) n x.2.2.1, .rw 1003 (some ⟨x.2.2.2.1, 0, none⟩) k x.2.2.2.2], .row (some ⟨x.2.1, 0, none⟩) n x.2.2.1 5 1 (bC (List.replicate n 255)), .row (some ⟨x.2.2.2.1, 0, none⟩) k x.2.2.2.2 3 1 (kC (List.replicate k 0))]) (fun _ _ => True) := by
  refine enterS (svs := [.ag ((geoC g).map .v), .c (.v (ptrV gp))]) tysOk Tryz.func34 rfl Tryz.ntmps34 Tryz.results34 (by kernel_rfl) (by simp) hI [] (owns_nil w) (fun b hb => hb.elim) (fun _ => True) (fun _ _ => trivial) fun C hC hN ok => ?_
  obtain ⟨q0, ⟨q1, q2⟩, ⟨q3, q4⟩, ⟨q5, q6⟩, ⟨q7, q8⟩, ⟨q9, q10⟩⟩ := id hg
  have enb : IntKind.i64.wrap ((n : Nat) : Int) = (n : Nat) := w64 (by omega) (by omega)
  simp [hN]
  intro g2
  refine call0 ok rfl rfl rfl (fun w I hI hG => refRight0 w I hI g hg) fun y W hy => ?_
  subst hy
  simp [hN]
  refine draw ok [(2, .box g2 23 ((geoC g).map .v))] (by rw [ok.P]; exact mixed) (by kernel_rfl) ?_
  simp (maxSteps := 2000000) -implicitDefEqProofs [hN, hn, enb]
  rw [hk]
  refine ⟨?_, ?_⟩
  · refine callS ok rfl rfl rfl [] [] trivial rfl (fun r : Nat × Nat => [(600, .row (some ⟨r.1, 0, none⟩) n r.2 5 1 (bC (List.replicate n 255)))]) (fun w I S hI hG hO hS => (blank0 w I hI n (by omega)).lone hO) (fun r => by simp) (.inl fun k hk => by cases hk) fun r W _ => ?_
    simp (maxSteps := 2000000) -implicitDefEqProofs [hN, hn, enb]
    obtain ⟨gb, rc⟩ := r
    simp (maxSteps := 2000000) -implicitDefEqProofs [hN, hn, enb]
    refine mksl ok rfl rfl rfl rfl rfl rfl rfl rfl rfl (by omega) (by show (8 : Int) * _ ≤ _; omega) (by omega) fun gk => ?_
    simp (maxSteps := 2000000) -implicitDefEqProofs [hN, hn, enb]
    intro g21
    exact retS hC (g21, gb, rc, gk, k) [21, 600, 19] rfl (by simp [hk]) fun _ _ _ => trivial
  · refine mksl ok rfl rfl rfl rfl rfl rfl rfl rfl rfl (by omega) (by show (8 : Int) * _ ≤ _; omega) (by omega) fun gk => ?_
    simp (maxSteps := 2000000) -implicitDefEqProofs [hN, hn, enb]
    refine callS ok rfl rfl rfl [] [] trivial rfl (fun r : Nat × Nat => [(600, .row (some ⟨r.1, 0, none⟩) n r.2 5 1 (bC (List.replicate n 255)))]) (fun w I S hI hG hO hS => (blank0 w I hI n (by omega)).lone hO) (fun r => by simp) (.inl fun k hk => by cases hk) fun r W _ => ?_
    obtain ⟨gb, rc⟩ := r
    simp (maxSteps := 2000000) -implicitDefEqProofs [hN, hn, enb]
    intro g21
    exact retS hC (g21, gb, rc, gk, k) [21, 600, 19] rfl (by simp [hk]) fun _ _ _ => trivial
end Go.Proofs.YtbbaoeidobdblaaGreat.Sx

/- ref01.within. -/
set_option linter.unusedVariables false
set_option linter.unusedSimpArgs false
namespace Go.Proofs.YtbbaoeidobdblaaGreat.Sx
open Go
attribute [local simp ↓] ifb_true' ifb_false'
attribute [local simp] ifb_true ifb_false ifb_eq sx argsT find ev evOp evs evo evBin evInt evStr evNil evNilA ptrA slcA isNoneA asB evLoad look del cellsB evUn evConv kdec fld evFieldA evField evIdxA evIdx evSlc bndL bndH evLen mmi put resV guardV gvL setO tupV cellsOf ones one upd lits nv exitTo SV.val CV.val TI.agg rdyA allR keepB scan simpO gsp isS subs keepT pickT wr memN pubs Res.fact Region.binds bld rest give delL back Res.eqv vi vb num Sv.val undef
def wiB (n : Nat) (x k : Int) : Bool := decide (0 ≤ x ∧ 0 ≤ k ∧ x ≤ n ∧ k ≤ n - x)
theorem refWithin0 (w : World) (I S : Nat → Prop) (hI : ∀ b, I b → b < w.heap.size) (r : Rc) (x k : Int) (hx : -1000000000000 ≤ x ∧ x ≤ 1000000000000) (hn : r.c.b.length ≤ 100000000000) (hS : Owns [r.chip] S w) (hSI : ∀ b, S b → b < w.heap.size ∧ ¬ I b) :
    FnS Tryz.prog 128 #[ptrV r.c.gc, .int .i64 x, .int .i64 k] w I S (fun _ : Unit => .bool (wiB r.c.b.length x k)) (fun _ => [r.chip]) (fun _ _ => True) := by
  refine enterS (svs := [.c (.bp 1000 r.c.gc 0), .c (.v (.int .i64 x)), .c (.v (.int .i64 k))]) tysOk Tryz.func128 rfl Tryz.ntmps128 Tryz.results128 (by kernel_rfl) (by simp) hI [r.chip] hS hSI (fun _ => True) (fun _ _ => trivial) fun C hC hN ok => ?_
  have e1 : IntKind.i64.wrap ((r.c.b.length : Int) - x) = r.c.b.length - x := w64 (by omega) (by omega)
  have hr : ∀ e, e = wiB r.c.b.length x k → RetP C (.bool e) ⟨fun _ => True, fun _ => True, [(1000, r.chip)]⟩ := fun e he => retS hC () [1000] (by rw [he]) (by simp) fun _ _ _ => trivial
  simp [hN, e1]
  refine ⟨fun h1 => ⟨fun h2 => ⟨fun h3 => hr _ (by simp [wiB, h1, h2, h3]), fun h3 => hr _ (by simp [wiB]; omega)⟩, fun h2 => hr _ (by simp [wiB]; omega)⟩, fun h1 => hr _ (by simp [wiB]; omega)⟩
end Go.Proofs.YtbbaoeidobdblaaGreat.Sx

/- ref09.Pack of any deeds. -/
set_option linter.unusedVariables false
set_option linter.unusedSimpArgs false
namespace Go.Proofs.YtbbaoeidobdblaaGreat.Sx
open Go
attribute [local simp ↓] ifb_true' ifb_false'
attribute [local simp] ifb_true ifb_false ifb_eq sx argsT find ev evOp evs evo evBin evInt evStr evNil evNilA ptrA slcA isNoneA asB evLoad look del cellsB evUn evConv kdec fld evFieldA evField evIdxA evIdx evSlc bndL bndH evLen mmi put resV guardV gvL setO tupV cellsOf ones one upd lits nv exitTo SV.val CV.val TI.agg rdyA allR keepB scan simpO gsp isS subs keepT pickT wr memN pubs Res.fact Region.binds bld rest give delL back Res.eqv vi vb num Sv.val undef
set_option maxHeartbeats 2000000 in
theorem refPackG0 (w : World) (I : Nat → Prop) (hI : ∀ b, I b → b < w.heap.size) (l : List Dee) (s : Sv) (h : ∀ W, Ext I w W → s.ok dDee W l) (hl : (deedsB l).length ≤ 10000000000) :
    Fn0 Tryz.prog 42 #[s.val] w I Sv.val (fun r W => Sv.ok dByte W r (deedsB l)) := by
  obtain ⟨sa, sn, sc⟩ := s
  obtain rfl : sn = l.length := (h w (Ext.refl _ _)).1
  have hx := (h w (Ext.refl _ _)).2.2.1
  refine enter (svs := [.c (.v (.slice sa l.length sc))]) tysOk Tryz.func42 rfl Tryz.ntmps42 Tryz.results42 (by kernel_rfl) (by simp) hI (fun W => Sv.ok dDee W (sa, l.length, sc) l) h fun C hC hN ok => ?_
  simp [hN]
  have b1 := fm_le deedB l
  refine nilr 600 5 1 (loop ok (fun a : Nat × Nat × Sl => [(4, .c (.v (.int .i64 (a.1 : Nat)))), (3, .c (.v (.slice a.2.2.1 a.2.1 a.2.2.2)))]) (fun a => [(600, .row a.2.2.1 a.2.1 a.2.2.2 5 1 (bC ((l.take a.1).flatMap deedB)))]) (fun a W => a.1 ≤ l.length ∧ a.2.1 = ((l.take a.1).flatMap deedB).length) (fun a => l.length - a.1) (0, 0, (none, 0)) ?_ ?_ (fun W hW => ⟨Nat.zero_le _, rfl⟩) ?_)
  · simp
  · simp [bC]
  rintro ⟨i, yn, ya, yc⟩ W ⟨hi, hr⟩ hG next
  simp only at hi hr
  simp [hN]
  refine ⟨fun hlt => ?_, fun hge => ?_⟩
  · have hG' : Sv.ok dDee W (sa, l.length, sc) l := hG
    obtain ⟨b, o, e⟩ := hG'.2.2.2.is_some (Nat.lt_of_le_of_lt (Nat.zero_le _) hlt)
    cases e
    simp [hN]
    have hb := b1 (i + 1)
    rw [fm_take _ _ _ hlt, List.length_append] at hb
    have hb2 : yn + (deedB l[i]).length ≤ 10000000000 := by rw [hr]; exact Nat.le_trans hb hl
    have e6 : IntKind.i64.wrap ((i : Int) + 1) = (i + 1 : Nat) := by rw [w64 (by omega) (by omega)]; omega
    have ft := fm_take deedB _ _ hlt
    generalize hd : l[i] = d at hb2 ft
    obtain ⟨X, hX⟩ : ∃ X, X = (l.take i).flatMap deedB := ⟨_, rfl⟩
    rw [← hX] at ft hr ⊢
    refine ⟨hlt, loadA ok rfl rfl rfl rfl (fun c W => dDee.K W d c) (fun W hW => ?_) ?_⟩
    · obtain ⟨cs, hk, hl, hc⟩ := hW.2.2.2.2.get hlt
      rw [hd] at hk
      exact ⟨cs, hl, hc, hk⟩
    · rintro v W _ ⟨⟨ea, ec⟩, ⟨ra, rc⟩, rfl, hR⟩ hG2
      simp [hN]
      have hd1 : 1 ≤ (deedB d).length := by simp only [deedB, List.length_append, lowB_length]; omega
      have k0 : lowB (d.kind % 18446744073709551616) 1 = [d.kind % 256] := by simp [lowB]
      intro g5 g6
      refine appR ok 600 23 rfl rfl rfl rfl rfl (by decide) rfl rfl rfl rfl rfl rfl rfl (by decide) (by simp) (by show (_ + 1) * 1 ≤ _; omega) (by omega) fun g7 c7 => ?_
      have hbs : ∀ v : Int, bC X ++ [CV.v (.int .u8 v)] = bC (X ++ [v]) := fun v => by simp [bC]
      simp [hN, u8_wrap, hbs]
      obtain ⟨Y, hY⟩ : ∃ Y, Y = X ++ [d.kind % 256] := ⟨_, rfl⟩
      rw [← hY]
      have hYl : yn + 1 = Y.length := by rw [hY, List.length_append, ← hr]; rfl
      refine ⟨fun k1 => ?_, fun k1 => ⟨fun k2 => ?_, fun k2 => ⟨fun k3 => ?_, fun k3 => ⟨fun k4 => ?_, fun k4 => ?_⟩⟩⟩⟩
      · have td : deedB d = lowB (d.kind % 18446744073709551616) 1 ++ intB d.no := by simp [deedB, tailB, k1]
        rw [td, k0] at hb2 ft
        simp only [List.length_append, List.length_cons, List.length_nil, intB_length] at hb2
        refine pub 600 rfl (by decide) (callS ok rfl rfl rfl [] [] trivial rfl (fun x : Sl => [(600, .row x.1 (yn + 1 + 8) x.2 5 1 (bC (Y ++ intB d.no)))]) (fun w I S hI hG hO hS => (refNum1 hI Y d.no (fun W e => row_ok (hG W e).1 hYl (by omega)) (by omega)).lone hO) (fun r => by simp) (.inl fun k hk => by cases hk) fun x W _ => ?_)
        simp [hN, e6]
        refine next (i + 1, yn + 1 + 8, x) _ _ (by simp; omega) (fun W h => ⟨⟨hlt, by rw [ft, List.length_append, List.length_append, ← hr]; simp [intB_length]⟩, h.2.2.2⟩) ?_
        simp [ft, hY]
      · have td : deedB d = lowB (d.kind % 18446744073709551616) 1 ++ intB d.no := by simp [deedB, tailB, k2]
        rw [td, k0] at hb2 ft
        simp only [List.length_append, List.length_cons, List.length_nil, intB_length] at hb2
        refine pub 600 rfl (by decide) (callS ok rfl rfl rfl [] [] trivial rfl (fun x : Sl => [(600, .row x.1 (yn + 1 + 8) x.2 5 1 (bC (Y ++ intB d.no)))]) (fun w I S hI hG hO hS => (refNum1 hI Y d.no (fun W e => row_ok (hG W e).1 hYl (by omega)) (by omega)).lone hO) (fun r => by simp) (.inl fun k hk => by cases hk) fun x W _ => ?_)
        simp [hN, e6]
        refine next (i + 1, yn + 1 + 8, x) _ _ (by simp; omega) (fun W h => ⟨⟨hlt, by rw [ft, List.length_append, List.length_append, ← hr]; simp [intB_length]⟩, h.2.2.2⟩) ?_
        simp [ft, hY]
      · have td : deedB d = lowB (d.kind % 18446744073709551616) 1 ++ intB d.no := by simp [deedB, tailB, k3]
        rw [td, k0] at hb2 ft
        simp only [List.length_append, List.length_cons, List.length_nil, intB_length] at hb2
        refine pub 600 rfl (by decide) (callS ok rfl rfl rfl [] [] trivial rfl (fun x : Sl => [(600, .row x.1 (yn + 1 + 8) x.2 5 1 (bC (Y ++ intB d.no)))]) (fun w I S hI hG hO hS => (refNum1 hI Y d.no (fun W e => row_ok (hG W e).1 hYl (by omega)) (by omega)).lone hO) (fun r => by simp) (.inl fun k hk => by cases hk) fun x W _ => ?_)
        simp [hN, e6]
        refine next (i + 1, yn + 1 + 8, x) _ _ (by simp; omega) (fun W h => ⟨⟨hlt, by rw [ft, List.length_append, List.length_append, ← hr]; simp [intB_length]⟩, h.2.2.2⟩) ?_
        simp [ft, hY]
      · have td : deedB d = lowB (d.kind % 18446744073709551616) 1 ++ inoB d.ino := by simp [deedB, tailB, k4]
        rw [td, k0] at hb2 ft
        have hx1 := hR.1.2.1
        have hx2 := hR.2.2.1
        generalize hx : d.ino = x at *
        simp only [List.length_append, List.length_cons, List.length_nil, inoB_length] at hb2
        intro g8
        refine pub 600 rfl (by decide) (drawK ok mixed (by kernel_rfl) ?_)
        simp (maxSteps := 2000000) -implicitDefEqProofs [hN]
        refine callS ok rfl rfl rfl [] [] trivial rfl (fun r : Sl => [(600, .row r.1 (yn + 1 + 8) r.2 5 1 (bC (Y ++ intB x.no)))]) (fun w I S hI hG hO hS => (refNum1 hI (Y) x.no (fun W e => row_ok (hG W e).1 hYl (by omega)) (by omega)).lone hO) (fun r => by simp) (.inl fun k hk => by cases hk) fun r0 W _ => ?_
        obtain ⟨Y0, hY0⟩ : ∃ Z, Z = Y ++ intB x.no := ⟨_, rfl⟩
        obtain ⟨n0, hn0⟩ : ∃ n, n = yn + 1 + 8 := ⟨_, rfl⟩
        have hl0 : n0 = Y0.length := by rw [hY0, List.length_append, ← hYl, hn0, intB_length]
        rw [← hY0, ← hn0]
        obtain ⟨ra0, rc0⟩ := r0
        simp (maxSteps := 2000000) -implicitDefEqProofs [hN]
        refine pub 600 rfl (by decide) (callS ok rfl rfl rfl [] [] trivial rfl (fun r : Sl => [(600, .row r.1 (n0 + 8) r.2 5 1 (bC (Y0 ++ intB x.kind)))]) (fun w I S hI hG hO hS => (refNum1 hI (Y0) x.kind (fun W e => row_ok (hG W e).1 hl0 (by omega)) (by omega)).lone hO) (fun r => by simp) (.inl fun k hk => by cases hk) fun r1 W _ => ?_)
        obtain ⟨Y1, hY1⟩ : ∃ Z, Z = Y0 ++ intB x.kind := ⟨_, rfl⟩
        obtain ⟨n1, hn1⟩ : ∃ n, n = n0 + 8 := ⟨_, rfl⟩
        have hl1 : n1 = Y1.length := by rw [hY1, List.length_append, ← hl0, hn1, intB_length]
        rw [← hY1, ← hn1]
        obtain ⟨ra1, rc1⟩ := r1
        simp (maxSteps := 2000000) -implicitDefEqProofs [hN]
        refine pub 600 rfl (by decide) (callS ok rfl rfl rfl [] [] trivial rfl (fun r : Sl => [(600, .row r.1 (n1 + 8) r.2 5 1 (bC (Y1 ++ intB x.links)))]) (fun w I S hI hG hO hS => (refNum1 hI (Y1) x.links (fun W e => row_ok (hG W e).1 hl1 (by omega)) (by omega)).lone hO) (fun r => by simp) (.inl fun k hk => by cases hk) fun r2 W _ => ?_)
        obtain ⟨Y2, hY2⟩ : ∃ Z, Z = Y1 ++ intB x.links := ⟨_, rfl⟩
        obtain ⟨n2, hn2⟩ : ∃ n, n = n1 + 8 := ⟨_, rfl⟩
        have hl2 : n2 = Y2.length := by rw [hY2, List.length_append, ← hl1, hn2, intB_length]
        rw [← hY2, ← hn2]
        obtain ⟨ra2, rc2⟩ := r2
        simp (maxSteps := 2000000) -implicitDefEqProofs [hN]
        refine pub 600 rfl (by decide) (callS ok rfl rfl rfl [] [] trivial rfl (fun r : Sl => [(600, .row r.1 (n2 + 8) r.2 5 1 (bC (Y2 ++ intB x.size)))]) (fun w I S hI hG hO hS => (refNum1 hI (Y2) x.size (fun W e => row_ok (hG W e).1 hl2 (by omega)) (by omega)).lone hO) (fun r => by simp) (.inl fun k hk => by cases hk) fun r3 W _ => ?_)
        obtain ⟨Y3, hY3⟩ : ∃ Z, Z = Y2 ++ intB x.size := ⟨_, rfl⟩
        obtain ⟨n3, hn3⟩ : ∃ n, n = n2 + 8 := ⟨_, rfl⟩
        have hl3 : n3 = Y3.length := by rw [hY3, List.length_append, ← hl2, hn3, intB_length]
        rw [← hY3, ← hn3]
        obtain ⟨ra3, rc3⟩ := r3
        simp (maxSteps := 2000000) -implicitDefEqProofs [hN]
        have e1 : IntKind.u64.wrap (x.ents.length : Int) = x.ents.length := by rw [u64_wrap]; omega
        have e2 : IntKind.u64.wrap (x.runs.length : Int) = x.runs.length := by rw [u64_wrap]; omega
        refine pub 600 rfl (by decide) (drawK ok mixed (by kernel_rfl) ?_)
        simp (maxSteps := 2000000) -implicitDefEqProofs [hN, e1]
        refine callS ok rfl rfl rfl [] [] trivial rfl (fun r : Sl => [(600, .row r.1 (n3 + (4 + x.target.size)) r.2 5 1 (bC (Y3 ++ textB x.target)))]) (fun w I S hI hG hO hS => (refText1 hI (Y3) x.target (fun W e => row_ok (hG W e).1 hl3 (by omega)) (by omega)).lone hO) (fun r => by simp) (.inl fun k hk => by cases hk) fun r4 W _ => ?_
        obtain ⟨Y4, hY4⟩ : ∃ Z, Z = Y3 ++ textB x.target := ⟨_, rfl⟩
        obtain ⟨n4, hn4⟩ : ∃ n, n = n3 + (4 + x.target.size) := ⟨_, rfl⟩
        have hl4 : n4 = Y4.length := by rw [hY4, List.length_append, ← hl3, hn4, textB_length]; omega
        rw [← hY4, ← hn4]
        obtain ⟨ra4, rc4⟩ := r4
        simp (maxSteps := 2000000) -implicitDefEqProofs [hN, e1]
        refine pub 600 rfl (by decide) (callS ok rfl rfl rfl [] [] trivial rfl (fun r : Sl => [(600, .row r.1 (n4 + 4) r.2 5 1 (bC (Y4 ++ lowB x.ents.length 4)))]) (fun w I S hI hG hO hS => (refPut1 hI (Y4) x.ents.length 4 (fun W e => row_ok (hG W e).1 hl4 (by omega)) (by omega) (by omega) (by omega)).lone hO) (fun r => by simp) (.inl fun k hk => by cases hk) fun r5 W _ => ?_)
        obtain ⟨Y5, hY5⟩ : ∃ Z, Z = Y4 ++ lowB x.ents.length 4 := ⟨_, rfl⟩
        obtain ⟨n5, hn5⟩ : ∃ n, n = n4 + 4 := ⟨_, rfl⟩
        have hl5 : n5 = Y5.length := by rw [hY5, List.length_append, ← hl4, hn5, lowB_length]
        rw [← hY5, ← hn5]
        obtain ⟨ra5, rc5⟩ := r5
        simp (maxSteps := 2000000) -implicitDefEqProofs [hN]
        have b1 := fm_le entB x.ents
        have b2 := fm_le runB x.runs
        refine cutK ok (p := ?pos) [(7, .c (.v (.int .i64 0))), (3, .c (.v (.slice ra5 n5 rc5))), (0, .c (.v (.slice (some ⟨b, o, none⟩) l.length sc))), (2, .c (.v (.slice none 0 0))), (4, .c (.v (.int .i64 (i : Nat)))), (6, .c (.bp 6 g8 0))] (fun W => InoR W x (ea, ec) (ra, rc) ∧ Sv.ok dDee W (some ⟨b, o, none⟩, l.length, sc) l) [(600, .row ra5 n5 rc5 5 1 (bC Y5)), (6, .box g8 44 [.v (.int .i64 x.no), .v (.int .i64 x.kind), .v (.int .i64 x.links), .v (.int .i64 x.size), .v (.string x.target), .v (.slice ea x.ents.length ec), .v (.slice ra x.runs.length rc)])] ?rest fun R => ?main
        case main =>
          refine R _ _ (fun W hW => ⟨?_, ?_⟩) ?_
          · have h1 : dDee.K W d (deeC d (ea, ec) (ra, rc)) := by repeat (first | with_reducible exact hW.1 | replace hW := hW.2)
            have h2 := dee_get h1
            rwa [hx] at h2
          · show Sv.ok dDee W (some ⟨b, o, none⟩, l.length, sc) l
            repeat (first | with_reducible exact hW | replace hW := hW.2)
          · simp
        case rest =>
        simp [hN]
        refine loop ok (fun a : Nat × Nat × Sl => [(7, .c (.v (.int .i64 (a.1 : Nat)))), (3, .c (.v (.slice a.2.2.1 a.2.1 a.2.2.2)))]) (fun a => [(600, .row a.2.2.1 a.2.1 a.2.2.2 5 1 (bC (Y5 ++ (x.ents.take a.1).flatMap entB))), (6, .box g8 44 [.v (.int .i64 x.no), .v (.int .i64 x.kind), .v (.int .i64 x.links), .v (.int .i64 x.size), .v (.string x.target), .v (.slice ea x.ents.length ec), .v (.slice ra x.runs.length rc)])]) (fun a W => a.1 ≤ x.ents.length ∧ a.2.1 = n5 + ((x.ents.take a.1).flatMap entB).length) (fun a => x.ents.length - a.1) (0, n5, (ra5, rc5)) ?_ ?_ (fun W hW => ⟨Nat.zero_le _, rfl⟩) ?_
        · simp
        · simp
        rintro ⟨j, zn, za, zc⟩ W ⟨hj, hz⟩ hG3 next2
        simp only at hj hz
        obtain ⟨ZB, hZ⟩ : ∃ Z, Z = Y5 ++ (x.ents.take j).flatMap entB := ⟨_, rfl⟩
        have hzl : zn = ZB.length := by rw [hZ, List.length_append, hz, hl5]
        rw [← hZ]
        simp [hN]
        refine ⟨fun hlt2 => ?_, fun hge2 => ?_⟩
        · have hE0 : InoR W x (ea, ec) (ra, rc) := hG3.1
          obtain ⟨eb, eo, e⟩ := hE0.1.2.2.is_some (Nat.lt_of_le_of_lt (Nat.zero_le _) hlt2)
          cases e
          have e7 : IntKind.i64.wrap ((j : Int) + 1) = (j + 1 : Nat) := by rw [w64 (by omega) (by omega)]; omega
          have hb1 := b1 (j + 1)
          have hfe : (x.ents.take (j + 1)).flatMap entB = (x.ents.take j).flatMap entB ++ entB x.ents[j] := fm_take _ _ _ hlt2
          have hE : ∀ W, InoR W x (some ⟨eb, eo, none⟩, ec) (ra, rc) → W.cell? ⟨eb, eo + j * 2, none⟩ = some (.string x.ents[j].name) ∧ W.cell? ⟨eb, eo + j * 2 + 1, none⟩ = some (.int .i64 x.ents[j].no) := fun W hW => by
            obtain ⟨cs, hk, _, hc⟩ := hW.1.2.2.get hlt2
            have hk' : cs = [.string x.ents[j].name, .int .i64 x.ents[j].no] := by rw [hk]
            subst hk'
            exact ⟨by simpa [show dEnt.sz = 2 from rfl] using hc 0 _ rfl, by simpa [show dEnt.sz = 2 from rfl] using hc 1 _ rfl⟩
          rw [hfe] at hb1
          generalize x.ents[j] = E at hE hfe hb1
          simp only [entB, List.length_append, textB_length, intB_length] at hb1
          refine pub 600 rfl (by decide) (drawK ok mixed (by kernel_rfl) ?_)
          simp (maxSteps := 2000000) -implicitDefEqProofs [hN, hlt2]
          refine ⟨?_, ?_⟩
          · refine load1 ok rfl rfl rfl rfl (fun v W => v = .string E.name) (fun W hW => ⟨_, (hE W (by repeat (first | with_reducible exact hW.1 | replace hW := hW.2))).1, rfl⟩) ?_
            rintro v W rfl _
            simp (maxSteps := 2000000) -implicitDefEqProofs [hN, e7]
            refine ⟨?_, ?_⟩
            · refine callS ok rfl rfl rfl [] [] trivial rfl (fun r : Sl => [(600, .row r.1 (zn + (4 + E.name.size)) r.2 5 1 (bC (ZB ++ textB E.name)))]) (fun w I S hI hG hO hS => (refText1 hI (ZB) E.name (fun W e => row_ok (hG W e).1 hzl (by omega)) (by omega)).lone hO) (fun r => by simp) (.inl fun k hk => by cases hk) fun r6 W _ => ?_
              obtain ⟨Y6, hY6⟩ : ∃ Z, Z = ZB ++ textB E.name := ⟨_, rfl⟩
              obtain ⟨n6, hn6⟩ : ∃ n, n = zn + (4 + E.name.size) := ⟨_, rfl⟩
              have hl6 : n6 = Y6.length := by rw [hY6, List.length_append, ← hzl, hn6, textB_length]; omega
              rw [← hY6, ← hn6]
              obtain ⟨ra6, rc6⟩ := r6
              simp (maxSteps := 2000000) -implicitDefEqProofs [hN, e7]
              refine load1 ok rfl rfl rfl rfl (fun v W => v = .int .i64 E.no) (fun W hW => ⟨_, (hE W (by repeat (first | with_reducible exact hW.1 | replace hW := hW.2))).2, rfl⟩) ?_
              rintro v W rfl _
              simp (maxSteps := 2000000) -implicitDefEqProofs [hN, e7]
              refine pub 600 rfl (by decide) (callS ok rfl rfl rfl [] [] trivial rfl (fun r : Sl => [(600, .row r.1 (n6 + 8) r.2 5 1 (bC (Y6 ++ intB E.no)))]) (fun w I S hI hG hO hS => (refNum1 hI (Y6) E.no (fun W e => row_ok (hG W e).1 hl6 (by omega)) (by omega)).lone hO) (fun r => by simp) (.inl fun k hk => by cases hk) fun r7 W _ => ?_)
              obtain ⟨Y7, hY7⟩ : ∃ Z, Z = Y6 ++ intB E.no := ⟨_, rfl⟩
              obtain ⟨n7, hn7⟩ : ∃ n, n = n6 + 8 := ⟨_, rfl⟩
              have hl7 : n7 = Y7.length := by rw [hY7, List.length_append, ← hl6, hn7, intB_length]
              rw [← hY7, ← hn7]
              obtain ⟨ra7, rc7⟩ := r7
              simp (maxSteps := 2000000) -implicitDefEqProofs [hN, e7]
              have hYf : Y5 ++ (x.ents.take (j + 1)).flatMap entB = Y7 := by rw [hY7, hY6, hZ, hfe]; simp [entB]
              refine next2 (j + 1, n7, ra7, rc7) _ _ (by simp; omega) (fun W h => ⟨⟨hlt2, by simp only [hl7, ← hYf, List.length_append, hl5]⟩, by repeat (first | with_reducible exact h | replace h := h.2)⟩) ?_
              simp [hYf]
            · refine load1 ok rfl rfl rfl rfl (fun v W => v = .int .i64 E.no) (fun W hW => ⟨_, (hE W (by repeat (first | with_reducible exact hW.1 | replace hW := hW.2))).2, rfl⟩) ?_
              rintro v W rfl _
              simp (maxSteps := 2000000) -implicitDefEqProofs [hN, e7]
              refine callS ok rfl rfl rfl [] [] trivial rfl (fun r : Sl => [(600, .row r.1 (zn + (4 + E.name.size)) r.2 5 1 (bC (ZB ++ textB E.name)))]) (fun w I S hI hG hO hS => (refText1 hI (ZB) E.name (fun W e => row_ok (hG W e).1 hzl (by omega)) (by omega)).lone hO) (fun r => by simp) (.inl fun k hk => by cases hk) fun r6 W _ => ?_
              obtain ⟨Y6, hY6⟩ : ∃ Z, Z = ZB ++ textB E.name := ⟨_, rfl⟩
              obtain ⟨n6, hn6⟩ : ∃ n, n = zn + (4 + E.name.size) := ⟨_, rfl⟩
              have hl6 : n6 = Y6.length := by rw [hY6, List.length_append, ← hzl, hn6, textB_length]; omega
              rw [← hY6, ← hn6]
              obtain ⟨ra6, rc6⟩ := r6
              simp (maxSteps := 2000000) -implicitDefEqProofs [hN, e7]
              refine pub 600 rfl (by decide) (callS ok rfl rfl rfl [] [] trivial rfl (fun r : Sl => [(600, .row r.1 (n6 + 8) r.2 5 1 (bC (Y6 ++ intB E.no)))]) (fun w I S hI hG hO hS => (refNum1 hI (Y6) E.no (fun W e => row_ok (hG W e).1 hl6 (by omega)) (by omega)).lone hO) (fun r => by simp) (.inl fun k hk => by cases hk) fun r7 W _ => ?_)
              obtain ⟨Y7, hY7⟩ : ∃ Z, Z = Y6 ++ intB E.no := ⟨_, rfl⟩
              obtain ⟨n7, hn7⟩ : ∃ n, n = n6 + 8 := ⟨_, rfl⟩
              have hl7 : n7 = Y7.length := by rw [hY7, List.length_append, ← hl6, hn7, intB_length]
              rw [← hY7, ← hn7]
              obtain ⟨ra7, rc7⟩ := r7
              simp (maxSteps := 2000000) -implicitDefEqProofs [hN, e7]
              have hYf : Y5 ++ (x.ents.take (j + 1)).flatMap entB = Y7 := by rw [hY7, hY6, hZ, hfe]; simp [entB]
              refine next2 (j + 1, n7, ra7, rc7) _ _ (by simp; omega) (fun W h => ⟨⟨hlt2, by simp only [hl7, ← hYf, List.length_append, hl5]⟩, by repeat (first | with_reducible exact h | replace h := h.2)⟩) ?_
              simp [hYf]
          · refine load1 ok rfl rfl rfl rfl (fun v W => v = .int .i64 E.no) (fun W hW => ⟨_, (hE W (by repeat (first | with_reducible exact hW.1 | replace hW := hW.2))).2, rfl⟩) ?_
            rintro v W rfl _
            simp (maxSteps := 2000000) -implicitDefEqProofs [hN, e7]
            refine load1 ok rfl rfl rfl rfl (fun v W => v = .string E.name) (fun W hW => ⟨_, (hE W (by repeat (first | with_reducible exact hW.1 | replace hW := hW.2))).1, rfl⟩) ?_
            rintro v W rfl _
            simp (maxSteps := 2000000) -implicitDefEqProofs [hN, e7]
            refine callS ok rfl rfl rfl [] [] trivial rfl (fun r : Sl => [(600, .row r.1 (zn + (4 + E.name.size)) r.2 5 1 (bC (ZB ++ textB E.name)))]) (fun w I S hI hG hO hS => (refText1 hI (ZB) E.name (fun W e => row_ok (hG W e).1 hzl (by omega)) (by omega)).lone hO) (fun r => by simp) (.inl fun k hk => by cases hk) fun r6 W _ => ?_
            obtain ⟨Y6, hY6⟩ : ∃ Z, Z = ZB ++ textB E.name := ⟨_, rfl⟩
            obtain ⟨n6, hn6⟩ : ∃ n, n = zn + (4 + E.name.size) := ⟨_, rfl⟩
            have hl6 : n6 = Y6.length := by rw [hY6, List.length_append, ← hzl, hn6, textB_length]; omega
            rw [← hY6, ← hn6]
            obtain ⟨ra6, rc6⟩ := r6
            simp (maxSteps := 2000000) -implicitDefEqProofs [hN, e7]
            refine pub 600 rfl (by decide) (callS ok rfl rfl rfl [] [] trivial rfl (fun r : Sl => [(600, .row r.1 (n6 + 8) r.2 5 1 (bC (Y6 ++ intB E.no)))]) (fun w I S hI hG hO hS => (refNum1 hI (Y6) E.no (fun W e => row_ok (hG W e).1 hl6 (by omega)) (by omega)).lone hO) (fun r => by simp) (.inl fun k hk => by cases hk) fun r7 W _ => ?_)
            obtain ⟨Y7, hY7⟩ : ∃ Z, Z = Y6 ++ intB E.no := ⟨_, rfl⟩
            obtain ⟨n7, hn7⟩ : ∃ n, n = n6 + 8 := ⟨_, rfl⟩
            have hl7 : n7 = Y7.length := by rw [hY7, List.length_append, ← hl6, hn7, intB_length]
            rw [← hY7, ← hn7]
            obtain ⟨ra7, rc7⟩ := r7
            simp (maxSteps := 2000000) -implicitDefEqProofs [hN, e7]
            have hYf : Y5 ++ (x.ents.take (j + 1)).flatMap entB = Y7 := by rw [hY7, hY6, hZ, hfe]; simp [entB]
            refine next2 (j + 1, n7, ra7, rc7) _ _ (by simp; omega) (fun W h => ⟨⟨hlt2, by simp only [hl7, ← hYf, List.length_append, hl5]⟩, by repeat (first | with_reducible exact h | replace h := h.2)⟩) ?_
            simp [hYf]
        · obtain rfl : j = x.ents.length := by omega
          rw [List.take_length] at hZ
          have hz' : zn = n5 + (x.ents.flatMap entB).length := by rw [hz, List.take_length]
          clear hz
          simp [hN, e2]
          refine pub 600 rfl (by decide) (callS ok rfl rfl rfl [] [] trivial rfl (fun r : Sl => [(600, .row r.1 (zn + 4) r.2 5 1 (bC (ZB ++ lowB x.runs.length 4)))]) (fun w I S hI hG hO hS => (refPut1 hI (ZB) x.runs.length 4 (fun W e => row_ok (hG W e).1 hzl (by omega)) (by omega) (by omega) (by omega)).lone hO) (fun r => by simp) (.inl fun k hk => by cases hk) fun r30 W _ => ?_)
          obtain ⟨Y30, hY30⟩ : ∃ Z, Z = ZB ++ lowB x.runs.length 4 := ⟨_, rfl⟩
          obtain ⟨n30, hn30⟩ : ∃ n, n = zn + 4 := ⟨_, rfl⟩
          have hl30 : n30 = Y30.length := by rw [hY30, List.length_append, ← hzl, hn30, lowB_length]
          rw [← hY30, ← hn30]
          obtain ⟨ra30, rc30⟩ := r30
          simp (maxSteps := 2000000) -implicitDefEqProofs [hN]
          refine cutK ok (p := ?pos3) [(8, .c (.v (.int .i64 0))), (3, .c (.v (.slice ra30 n30 rc30))), (0, .c (.v (.slice (some ⟨b, o, none⟩) l.length sc))), (2, .c (.v (.slice none 0 0))), (4, .c (.v (.int .i64 (i : Nat)))), (6, .c (.bp 6 g8 0))] (fun W => InoR W x (ea, ec) (ra, rc) ∧ Sv.ok dDee W (some ⟨b, o, none⟩, l.length, sc) l) [(600, .row ra30 n30 rc30 5 1 (bC Y30)), (6, .box g8 44 [.v (.int .i64 x.no), .v (.int .i64 x.kind), .v (.int .i64 x.links), .v (.int .i64 x.size), .v (.string x.target), .v (.slice ea x.ents.length ec), .v (.slice ra x.runs.length rc)])] ?rest3 fun R => ?main3
          case main3 =>
            refine R _ _ (fun W hW => ⟨?_, ?_⟩) ?_
            · repeat (first | with_reducible exact hW.1 | replace hW := hW.2)
            · show Sv.ok dDee W (some ⟨b, o, none⟩, l.length, sc) l
              repeat (first | with_reducible exact hW | replace hW := hW.2)
            · simp
          case rest3 =>
          simp [hN]
          refine loop ok (fun a : Nat × Nat × Sl => [(8, .c (.v (.int .i64 (a.1 : Nat)))), (3, .c (.v (.slice a.2.2.1 a.2.1 a.2.2.2)))]) (fun a => [(600, .row a.2.2.1 a.2.1 a.2.2.2 5 1 (bC (Y30 ++ (x.runs.take a.1).flatMap runB))), (6, .box g8 44 [.v (.int .i64 x.no), .v (.int .i64 x.kind), .v (.int .i64 x.links), .v (.int .i64 x.size), .v (.string x.target), .v (.slice ea x.ents.length ec), .v (.slice ra x.runs.length rc)])]) (fun a W => a.1 ≤ x.runs.length ∧ a.2.1 = n30 + ((x.runs.take a.1).flatMap runB).length) (fun a => x.runs.length - a.1) (0, n30, (ra30, rc30)) ?_ ?_ (fun W hW => ⟨Nat.zero_le _, rfl⟩) ?_
          · simp
          · simp
          rintro ⟨j, zm, za, zc⟩ W ⟨hj2, hz2⟩ hG4 next3
          simp only at hj2 hz2
          obtain ⟨ZR, hZR⟩ : ∃ Z, Z = Y30 ++ (x.runs.take j).flatMap runB := ⟨_, rfl⟩
          have hzl2 : zm = ZR.length := by rw [hZR, List.length_append, hz2, hl30]
          rw [← hZR]
          simp [hN]
          refine ⟨fun hlt2 => ?_, fun hge3 => ?_⟩
          · have hE0 : InoR W x (ea, ec) (ra, rc) := hG4.1
            obtain ⟨eb, eo, e⟩ := hE0.2.2.2.is_some (Nat.lt_of_le_of_lt (Nat.zero_le _) hlt2)
            cases e
            have e7 : IntKind.i64.wrap ((j : Int) + 1) = (j + 1 : Nat) := by rw [w64 (by omega) (by omega)]; omega
            have hb3 := b2 (j + 1)
            have hfe : (x.runs.take (j + 1)).flatMap runB = (x.runs.take j).flatMap runB ++ runB x.runs[j] := fm_take _ _ _ hlt2
            have hE : ∀ W, InoR W x (ea, ec) (some ⟨eb, eo, none⟩, rc) → W.cell? ⟨eb, eo + j * 3, none⟩ = some (.int .i64 x.runs[j].fr) ∧ W.cell? ⟨eb, eo + j * 3 + 1, none⟩ = some (.int .i64 x.runs[j].at_) ∧ W.cell? ⟨eb, eo + j * 3 + 2, none⟩ = some (.int .i64 x.runs[j].ct) := fun W hW => by
              obtain ⟨cs, hk, _, hc⟩ := hW.2.2.2.get hlt2
              have hk' : cs = [.int .i64 x.runs[j].fr, .int .i64 x.runs[j].at_, .int .i64 x.runs[j].ct] := by rw [hk]
              subst hk'
              exact ⟨by simpa [show dRn.sz = 3 from rfl] using hc 0 _ rfl, by simpa [show dRn.sz = 3 from rfl] using hc 1 _ rfl, by simpa [show dRn.sz = 3 from rfl] using hc 2 _ rfl⟩
            rw [hfe] at hb3
            generalize x.runs[j] = E at hE hfe hb3
            simp only [runB, List.length_append, intB_length] at hb3
            refine pub 600 rfl (by decide) (drawK ok mixed (by kernel_rfl) ?_)
            simp (maxSteps := 2000000) -implicitDefEqProofs [hN, hlt2]
            refine ⟨?_, ?_, ?_⟩
            · refine load1 ok rfl rfl rfl rfl (fun v W => v = .int .i64 E.fr) (fun W hW => ⟨_, (hE W (by repeat (first | with_reducible exact hW.1 | replace hW := hW.2))).1, rfl⟩) ?_
              rintro v W rfl _
              simp (maxSteps := 2000000) -implicitDefEqProofs [hN, e7]
              refine ⟨?_, ?_, ?_⟩
              · refine callS ok rfl rfl rfl [] [] trivial rfl (fun r : Sl => [(600, .row r.1 (zm + 8) r.2 5 1 (bC (ZR ++ intB E.fr)))]) (fun w I S hI hG hO hS => (refNum1 hI (ZR) E.fr (fun W e => row_ok (hG W e).1 hzl2 (by omega)) (by omega)).lone hO) (fun r => by simp) (.inl fun k hk => by cases hk) fun r40 W _ => ?_
                obtain ⟨Y40, hY40⟩ : ∃ Z, Z = ZR ++ intB E.fr := ⟨_, rfl⟩
                obtain ⟨n40, hn40⟩ : ∃ n, n = zm + 8 := ⟨_, rfl⟩
                have hl40 : n40 = Y40.length := by rw [hY40, List.length_append, ← hzl2, hn40, intB_length]
                rw [← hY40, ← hn40]
                obtain ⟨ra40, rc40⟩ := r40
                simp (maxSteps := 2000000) -implicitDefEqProofs [hN, e7]
                refine ⟨?_, ?_⟩
                · refine load1 ok rfl rfl rfl rfl (fun v W => v = .int .i64 E.at_) (fun W hW => ⟨_, (hE W (by repeat (first | with_reducible exact hW.1 | replace hW := hW.2))).2.1, rfl⟩) ?_
                  rintro v W rfl _
                  simp (maxSteps := 2000000) -implicitDefEqProofs [hN, e7]
                  refine ⟨?_, ?_⟩
                  · refine pub 600 rfl (by decide) (callS ok rfl rfl rfl [] [] trivial rfl (fun r : Sl => [(600, .row r.1 (n40 + 8) r.2 5 1 (bC (Y40 ++ intB E.at_)))]) (fun w I S hI hG hO hS => (refNum1 hI (Y40) E.at_ (fun W e => row_ok (hG W e).1 hl40 (by omega)) (by omega)).lone hO) (fun r => by simp) (.inl fun k hk => by cases hk) fun r41 W _ => ?_)
                    obtain ⟨Y41, hY41⟩ : ∃ Z, Z = Y40 ++ intB E.at_ := ⟨_, rfl⟩
                    obtain ⟨n41, hn41⟩ : ∃ n, n = n40 + 8 := ⟨_, rfl⟩
                    have hl41 : n41 = Y41.length := by rw [hY41, List.length_append, ← hl40, hn41, intB_length]
                    rw [← hY41, ← hn41]
                    obtain ⟨ra41, rc41⟩ := r41
                    simp (maxSteps := 2000000) -implicitDefEqProofs [hN, e7]
                    refine load1 ok rfl rfl rfl rfl (fun v W => v = .int .i64 E.ct) (fun W hW => ⟨_, (hE W (by repeat (first | with_reducible exact hW.1 | replace hW := hW.2))).2.2, rfl⟩) ?_
                    rintro v W rfl _
                    simp (maxSteps := 2000000) -implicitDefEqProofs [hN, e7]
                    refine pub 600 rfl (by decide) (callS ok rfl rfl rfl [] [] trivial rfl (fun r : Sl => [(600, .row r.1 (n41 + 8) r.2 5 1 (bC (Y41 ++ intB E.ct)))]) (fun w I S hI hG hO hS => (refNum1 hI (Y41) E.ct (fun W e => row_ok (hG W e).1 hl41 (by omega)) (by omega)).lone hO) (fun r => by simp) (.inl fun k hk => by cases hk) fun r42 W _ => ?_)
                    obtain ⟨Y42, hY42⟩ : ∃ Z, Z = Y41 ++ intB E.ct := ⟨_, rfl⟩
                    obtain ⟨n42, hn42⟩ : ∃ n, n = n41 + 8 := ⟨_, rfl⟩
                    have hl42 : n42 = Y42.length := by rw [hY42, List.length_append, ← hl41, hn42, intB_length]
                    rw [← hY42, ← hn42]
                    obtain ⟨ra42, rc42⟩ := r42
                    simp (maxSteps := 2000000) -implicitDefEqProofs [hN, e7]
                    have hYf : Y30 ++ (x.runs.take (j + 1)).flatMap runB = Y42 := by rw [hY42, hY41, hY40, hZR, hfe]; simp [runB]
                    refine next3 (j + 1, n42, ra42, rc42) _ _ (by simp; omega) (fun W h => ⟨⟨hlt2, by simp only [hl42, ← hYf, List.length_append, hl30]⟩, by repeat (first | with_reducible exact h | replace h := h.2)⟩) ?_
                    simp [hYf]
                  · refine load1 ok rfl rfl rfl rfl (fun v W => v = .int .i64 E.ct) (fun W hW => ⟨_, (hE W (by repeat (first | with_reducible exact hW.1 | replace hW := hW.2))).2.2, rfl⟩) ?_
                    rintro v W rfl _
                    simp (maxSteps := 2000000) -implicitDefEqProofs [hN, e7]
                    refine pub 600 rfl (by decide) (callS ok rfl rfl rfl [] [] trivial rfl (fun r : Sl => [(600, .row r.1 (n40 + 8) r.2 5 1 (bC (Y40 ++ intB E.at_)))]) (fun w I S hI hG hO hS => (refNum1 hI (Y40) E.at_ (fun W e => row_ok (hG W e).1 hl40 (by omega)) (by omega)).lone hO) (fun r => by simp) (.inl fun k hk => by cases hk) fun r41 W _ => ?_)
                    obtain ⟨Y41, hY41⟩ : ∃ Z, Z = Y40 ++ intB E.at_ := ⟨_, rfl⟩
                    obtain ⟨n41, hn41⟩ : ∃ n, n = n40 + 8 := ⟨_, rfl⟩
                    have hl41 : n41 = Y41.length := by rw [hY41, List.length_append, ← hl40, hn41, intB_length]
                    rw [← hY41, ← hn41]
                    obtain ⟨ra41, rc41⟩ := r41
                    simp (maxSteps := 2000000) -implicitDefEqProofs [hN, e7]
                    refine pub 600 rfl (by decide) (callS ok rfl rfl rfl [] [] trivial rfl (fun r : Sl => [(600, .row r.1 (n41 + 8) r.2 5 1 (bC (Y41 ++ intB E.ct)))]) (fun w I S hI hG hO hS => (refNum1 hI (Y41) E.ct (fun W e => row_ok (hG W e).1 hl41 (by omega)) (by omega)).lone hO) (fun r => by simp) (.inl fun k hk => by cases hk) fun r42 W _ => ?_)
                    obtain ⟨Y42, hY42⟩ : ∃ Z, Z = Y41 ++ intB E.ct := ⟨_, rfl⟩
                    obtain ⟨n42, hn42⟩ : ∃ n, n = n41 + 8 := ⟨_, rfl⟩
                    have hl42 : n42 = Y42.length := by rw [hY42, List.length_append, ← hl41, hn42, intB_length]
                    rw [← hY42, ← hn42]
                    obtain ⟨ra42, rc42⟩ := r42
                    simp (maxSteps := 2000000) -implicitDefEqProofs [hN, e7]
                    have hYf : Y30 ++ (x.runs.take (j + 1)).flatMap runB = Y42 := by rw [hY42, hY41, hY40, hZR, hfe]; simp [runB]
                    refine next3 (j + 1, n42, ra42, rc42) _ _ (by simp; omega) (fun W h => ⟨⟨hlt2, by simp only [hl42, ← hYf, List.length_append, hl30]⟩, by repeat (first | with_reducible exact h | replace h := h.2)⟩) ?_
                    simp [hYf]
                · refine load1 ok rfl rfl rfl rfl (fun v W => v = .int .i64 E.ct) (fun W hW => ⟨_, (hE W (by repeat (first | with_reducible exact hW.1 | replace hW := hW.2))).2.2, rfl⟩) ?_
                  rintro v W rfl _
                  simp (maxSteps := 2000000) -implicitDefEqProofs [hN, e7]
                  refine load1 ok rfl rfl rfl rfl (fun v W => v = .int .i64 E.at_) (fun W hW => ⟨_, (hE W (by repeat (first | with_reducible exact hW.1 | replace hW := hW.2))).2.1, rfl⟩) ?_
                  rintro v W rfl _
                  simp (maxSteps := 2000000) -implicitDefEqProofs [hN, e7]
                  refine pub 600 rfl (by decide) (callS ok rfl rfl rfl [] [] trivial rfl (fun r : Sl => [(600, .row r.1 (n40 + 8) r.2 5 1 (bC (Y40 ++ intB E.at_)))]) (fun w I S hI hG hO hS => (refNum1 hI (Y40) E.at_ (fun W e => row_ok (hG W e).1 hl40 (by omega)) (by omega)).lone hO) (fun r => by simp) (.inl fun k hk => by cases hk) fun r41 W _ => ?_)
                  obtain ⟨Y41, hY41⟩ : ∃ Z, Z = Y40 ++ intB E.at_ := ⟨_, rfl⟩
                  obtain ⟨n41, hn41⟩ : ∃ n, n = n40 + 8 := ⟨_, rfl⟩
                  have hl41 : n41 = Y41.length := by rw [hY41, List.length_append, ← hl40, hn41, intB_length]
                  rw [← hY41, ← hn41]
                  obtain ⟨ra41, rc41⟩ := r41
                  simp (maxSteps := 2000000) -implicitDefEqProofs [hN, e7]
                  refine pub 600 rfl (by decide) (callS ok rfl rfl rfl [] [] trivial rfl (fun r : Sl => [(600, .row r.1 (n41 + 8) r.2 5 1 (bC (Y41 ++ intB E.ct)))]) (fun w I S hI hG hO hS => (refNum1 hI (Y41) E.ct (fun W e => row_ok (hG W e).1 hl41 (by omega)) (by omega)).lone hO) (fun r => by simp) (.inl fun k hk => by cases hk) fun r42 W _ => ?_)
                  obtain ⟨Y42, hY42⟩ : ∃ Z, Z = Y41 ++ intB E.ct := ⟨_, rfl⟩
                  obtain ⟨n42, hn42⟩ : ∃ n, n = n41 + 8 := ⟨_, rfl⟩
                  have hl42 : n42 = Y42.length := by rw [hY42, List.length_append, ← hl41, hn42, intB_length]
                  rw [← hY42, ← hn42]
                  obtain ⟨ra42, rc42⟩ := r42
                  simp (maxSteps := 2000000) -implicitDefEqProofs [hN, e7]
                  have hYf : Y30 ++ (x.runs.take (j + 1)).flatMap runB = Y42 := by rw [hY42, hY41, hY40, hZR, hfe]; simp [runB]
                  refine next3 (j + 1, n42, ra42, rc42) _ _ (by simp; omega) (fun W h => ⟨⟨hlt2, by simp only [hl42, ← hYf, List.length_append, hl30]⟩, by repeat (first | with_reducible exact h | replace h := h.2)⟩) ?_
                  simp [hYf]
              · refine load1 ok rfl rfl rfl rfl (fun v W => v = .int .i64 E.at_) (fun W hW => ⟨_, (hE W (by repeat (first | with_reducible exact hW.1 | replace hW := hW.2))).2.1, rfl⟩) ?_
                rintro v W rfl _
                simp (maxSteps := 2000000) -implicitDefEqProofs [hN, e7]
                refine ⟨?_, ?_⟩
                · refine callS ok rfl rfl rfl [] [] trivial rfl (fun r : Sl => [(600, .row r.1 (zm + 8) r.2 5 1 (bC (ZR ++ intB E.fr)))]) (fun w I S hI hG hO hS => (refNum1 hI (ZR) E.fr (fun W e => row_ok (hG W e).1 hzl2 (by omega)) (by omega)).lone hO) (fun r => by simp) (.inl fun k hk => by cases hk) fun r40 W _ => ?_
                  obtain ⟨Y40, hY40⟩ : ∃ Z, Z = ZR ++ intB E.fr := ⟨_, rfl⟩
                  obtain ⟨n40, hn40⟩ : ∃ n, n = zm + 8 := ⟨_, rfl⟩
                  have hl40 : n40 = Y40.length := by rw [hY40, List.length_append, ← hzl2, hn40, intB_length]
                  rw [← hY40, ← hn40]
                  obtain ⟨ra40, rc40⟩ := r40
                  simp (maxSteps := 2000000) -implicitDefEqProofs [hN, e7]
                  refine ⟨?_, ?_⟩
                  · refine pub 600 rfl (by decide) (callS ok rfl rfl rfl [] [] trivial rfl (fun r : Sl => [(600, .row r.1 (n40 + 8) r.2 5 1 (bC (Y40 ++ intB E.at_)))]) (fun w I S hI hG hO hS => (refNum1 hI (Y40) E.at_ (fun W e => row_ok (hG W e).1 hl40 (by omega)) (by omega)).lone hO) (fun r => by simp) (.inl fun k hk => by cases hk) fun r41 W _ => ?_)
                    obtain ⟨Y41, hY41⟩ : ∃ Z, Z = Y40 ++ intB E.at_ := ⟨_, rfl⟩
                    obtain ⟨n41, hn41⟩ : ∃ n, n = n40 + 8 := ⟨_, rfl⟩
                    have hl41 : n41 = Y41.length := by rw [hY41, List.length_append, ← hl40, hn41, intB_length]
                    rw [← hY41, ← hn41]
                    obtain ⟨ra41, rc41⟩ := r41
                    simp (maxSteps := 2000000) -implicitDefEqProofs [hN, e7]
                    refine load1 ok rfl rfl rfl rfl (fun v W => v = .int .i64 E.ct) (fun W hW => ⟨_, (hE W (by repeat (first | with_reducible exact hW.1 | replace hW := hW.2))).2.2, rfl⟩) ?_
                    rintro v W rfl _
                    simp (maxSteps := 2000000) -implicitDefEqProofs [hN, e7]
                    refine pub 600 rfl (by decide) (callS ok rfl rfl rfl [] [] trivial rfl (fun r : Sl => [(600, .row r.1 (n41 + 8) r.2 5 1 (bC (Y41 ++ intB E.ct)))]) (fun w I S hI hG hO hS => (refNum1 hI (Y41) E.ct (fun W e => row_ok (hG W e).1 hl41 (by omega)) (by omega)).lone hO) (fun r => by simp) (.inl fun k hk => by cases hk) fun r42 W _ => ?_)
                    obtain ⟨Y42, hY42⟩ : ∃ Z, Z = Y41 ++ intB E.ct := ⟨_, rfl⟩
                    obtain ⟨n42, hn42⟩ : ∃ n, n = n41 + 8 := ⟨_, rfl⟩
                    have hl42 : n42 = Y42.length := by rw [hY42, List.length_append, ← hl41, hn42, intB_length]
                    rw [← hY42, ← hn42]
                    obtain ⟨ra42, rc42⟩ := r42
                    simp (maxSteps := 2000000) -implicitDefEqProofs [hN, e7]
                    have hYf : Y30 ++ (x.runs.take (j + 1)).flatMap runB = Y42 := by rw [hY42, hY41, hY40, hZR, hfe]; simp [runB]
                    refine next3 (j + 1, n42, ra42, rc42) _ _ (by simp; omega) (fun W h => ⟨⟨hlt2, by simp only [hl42, ← hYf, List.length_append, hl30]⟩, by repeat (first | with_reducible exact h | replace h := h.2)⟩) ?_
                    simp [hYf]
                  · refine load1 ok rfl rfl rfl rfl (fun v W => v = .int .i64 E.ct) (fun W hW => ⟨_, (hE W (by repeat (first | with_reducible exact hW.1 | replace hW := hW.2))).2.2, rfl⟩) ?_
                    rintro v W rfl _
                    simp (maxSteps := 2000000) -implicitDefEqProofs [hN, e7]
                    refine pub 600 rfl (by decide) (callS ok rfl rfl rfl [] [] trivial rfl (fun r : Sl => [(600, .row r.1 (n40 + 8) r.2 5 1 (bC (Y40 ++ intB E.at_)))]) (fun w I S hI hG hO hS => (refNum1 hI (Y40) E.at_ (fun W e => row_ok (hG W e).1 hl40 (by omega)) (by omega)).lone hO) (fun r => by simp) (.inl fun k hk => by cases hk) fun r41 W _ => ?_)
                    obtain ⟨Y41, hY41⟩ : ∃ Z, Z = Y40 ++ intB E.at_ := ⟨_, rfl⟩
                    obtain ⟨n41, hn41⟩ : ∃ n, n = n40 + 8 := ⟨_, rfl⟩
                    have hl41 : n41 = Y41.length := by rw [hY41, List.length_append, ← hl40, hn41, intB_length]
                    rw [← hY41, ← hn41]
                    obtain ⟨ra41, rc41⟩ := r41
                    simp (maxSteps := 2000000) -implicitDefEqProofs [hN, e7]
                    refine pub 600 rfl (by decide) (callS ok rfl rfl rfl [] [] trivial rfl (fun r : Sl => [(600, .row r.1 (n41 + 8) r.2 5 1 (bC (Y41 ++ intB E.ct)))]) (fun w I S hI hG hO hS => (refNum1 hI (Y41) E.ct (fun W e => row_ok (hG W e).1 hl41 (by omega)) (by omega)).lone hO) (fun r => by simp) (.inl fun k hk => by cases hk) fun r42 W _ => ?_)
                    obtain ⟨Y42, hY42⟩ : ∃ Z, Z = Y41 ++ intB E.ct := ⟨_, rfl⟩
                    obtain ⟨n42, hn42⟩ : ∃ n, n = n41 + 8 := ⟨_, rfl⟩
                    have hl42 : n42 = Y42.length := by rw [hY42, List.length_append, ← hl41, hn42, intB_length]
                    rw [← hY42, ← hn42]
                    obtain ⟨ra42, rc42⟩ := r42
                    simp (maxSteps := 2000000) -implicitDefEqProofs [hN, e7]
                    have hYf : Y30 ++ (x.runs.take (j + 1)).flatMap runB = Y42 := by rw [hY42, hY41, hY40, hZR, hfe]; simp [runB]
                    refine next3 (j + 1, n42, ra42, rc42) _ _ (by simp; omega) (fun W h => ⟨⟨hlt2, by simp only [hl42, ← hYf, List.length_append, hl30]⟩, by repeat (first | with_reducible exact h | replace h := h.2)⟩) ?_
                    simp [hYf]
                · refine load1 ok rfl rfl rfl rfl (fun v W => v = .int .i64 E.ct) (fun W hW => ⟨_, (hE W (by repeat (first | with_reducible exact hW.1 | replace hW := hW.2))).2.2, rfl⟩) ?_
                  rintro v W rfl _
                  simp (maxSteps := 2000000) -implicitDefEqProofs [hN, e7]
                  refine callS ok rfl rfl rfl [] [] trivial rfl (fun r : Sl => [(600, .row r.1 (zm + 8) r.2 5 1 (bC (ZR ++ intB E.fr)))]) (fun w I S hI hG hO hS => (refNum1 hI (ZR) E.fr (fun W e => row_ok (hG W e).1 hzl2 (by omega)) (by omega)).lone hO) (fun r => by simp) (.inl fun k hk => by cases hk) fun r40 W _ => ?_
                  obtain ⟨Y40, hY40⟩ : ∃ Z, Z = ZR ++ intB E.fr := ⟨_, rfl⟩
                  obtain ⟨n40, hn40⟩ : ∃ n, n = zm + 8 := ⟨_, rfl⟩
                  have hl40 : n40 = Y40.length := by rw [hY40, List.length_append, ← hzl2, hn40, intB_length]
                  rw [← hY40, ← hn40]
                  obtain ⟨ra40, rc40⟩ := r40
                  simp (maxSteps := 2000000) -implicitDefEqProofs [hN, e7]
                  refine pub 600 rfl (by decide) (callS ok rfl rfl rfl [] [] trivial rfl (fun r : Sl => [(600, .row r.1 (n40 + 8) r.2 5 1 (bC (Y40 ++ intB E.at_)))]) (fun w I S hI hG hO hS => (refNum1 hI (Y40) E.at_ (fun W e => row_ok (hG W e).1 hl40 (by omega)) (by omega)).lone hO) (fun r => by simp) (.inl fun k hk => by cases hk) fun r41 W _ => ?_)
                  obtain ⟨Y41, hY41⟩ : ∃ Z, Z = Y40 ++ intB E.at_ := ⟨_, rfl⟩
                  obtain ⟨n41, hn41⟩ : ∃ n, n = n40 + 8 := ⟨_, rfl⟩
                  have hl41 : n41 = Y41.length := by rw [hY41, List.length_append, ← hl40, hn41, intB_length]
                  rw [← hY41, ← hn41]
                  obtain ⟨ra41, rc41⟩ := r41
                  simp (maxSteps := 2000000) -implicitDefEqProofs [hN, e7]
                  refine pub 600 rfl (by decide) (callS ok rfl rfl rfl [] [] trivial rfl (fun r : Sl => [(600, .row r.1 (n41 + 8) r.2 5 1 (bC (Y41 ++ intB E.ct)))]) (fun w I S hI hG hO hS => (refNum1 hI (Y41) E.ct (fun W e => row_ok (hG W e).1 hl41 (by omega)) (by omega)).lone hO) (fun r => by simp) (.inl fun k hk => by cases hk) fun r42 W _ => ?_)
                  obtain ⟨Y42, hY42⟩ : ∃ Z, Z = Y41 ++ intB E.ct := ⟨_, rfl⟩
                  obtain ⟨n42, hn42⟩ : ∃ n, n = n41 + 8 := ⟨_, rfl⟩
                  have hl42 : n42 = Y42.length := by rw [hY42, List.length_append, ← hl41, hn42, intB_length]
                  rw [← hY42, ← hn42]
                  obtain ⟨ra42, rc42⟩ := r42
                  simp (maxSteps := 2000000) -implicitDefEqProofs [hN, e7]
                  have hYf : Y30 ++ (x.runs.take (j + 1)).flatMap runB = Y42 := by rw [hY42, hY41, hY40, hZR, hfe]; simp [runB]
                  refine next3 (j + 1, n42, ra42, rc42) _ _ (by simp; omega) (fun W h => ⟨⟨hlt2, by simp only [hl42, ← hYf, List.length_append, hl30]⟩, by repeat (first | with_reducible exact h | replace h := h.2)⟩) ?_
                  simp [hYf]
              · refine load1 ok rfl rfl rfl rfl (fun v W => v = .int .i64 E.ct) (fun W hW => ⟨_, (hE W (by repeat (first | with_reducible exact hW.1 | replace hW := hW.2))).2.2, rfl⟩) ?_
                rintro v W rfl _
                simp (maxSteps := 2000000) -implicitDefEqProofs [hN, e7]
                refine ⟨?_, ?_⟩
                · refine callS ok rfl rfl rfl [] [] trivial rfl (fun r : Sl => [(600, .row r.1 (zm + 8) r.2 5 1 (bC (ZR ++ intB E.fr)))]) (fun w I S hI hG hO hS => (refNum1 hI (ZR) E.fr (fun W e => row_ok (hG W e).1 hzl2 (by omega)) (by omega)).lone hO) (fun r => by simp) (.inl fun k hk => by cases hk) fun r40 W _ => ?_
                  obtain ⟨Y40, hY40⟩ : ∃ Z, Z = ZR ++ intB E.fr := ⟨_, rfl⟩
                  obtain ⟨n40, hn40⟩ : ∃ n, n = zm + 8 := ⟨_, rfl⟩
                  have hl40 : n40 = Y40.length := by rw [hY40, List.length_append, ← hzl2, hn40, intB_length]
                  rw [← hY40, ← hn40]
                  obtain ⟨ra40, rc40⟩ := r40
                  simp (maxSteps := 2000000) -implicitDefEqProofs [hN, e7]
                  refine load1 ok rfl rfl rfl rfl (fun v W => v = .int .i64 E.at_) (fun W hW => ⟨_, (hE W (by repeat (first | with_reducible exact hW.1 | replace hW := hW.2))).2.1, rfl⟩) ?_
                  rintro v W rfl _
                  simp (maxSteps := 2000000) -implicitDefEqProofs [hN, e7]
                  refine pub 600 rfl (by decide) (callS ok rfl rfl rfl [] [] trivial rfl (fun r : Sl => [(600, .row r.1 (n40 + 8) r.2 5 1 (bC (Y40 ++ intB E.at_)))]) (fun w I S hI hG hO hS => (refNum1 hI (Y40) E.at_ (fun W e => row_ok (hG W e).1 hl40 (by omega)) (by omega)).lone hO) (fun r => by simp) (.inl fun k hk => by cases hk) fun r41 W _ => ?_)
                  obtain ⟨Y41, hY41⟩ : ∃ Z, Z = Y40 ++ intB E.at_ := ⟨_, rfl⟩
                  obtain ⟨n41, hn41⟩ : ∃ n, n = n40 + 8 := ⟨_, rfl⟩
                  have hl41 : n41 = Y41.length := by rw [hY41, List.length_append, ← hl40, hn41, intB_length]
                  rw [← hY41, ← hn41]
                  obtain ⟨ra41, rc41⟩ := r41
                  simp (maxSteps := 2000000) -implicitDefEqProofs [hN, e7]
                  refine pub 600 rfl (by decide) (callS ok rfl rfl rfl [] [] trivial rfl (fun r : Sl => [(600, .row r.1 (n41 + 8) r.2 5 1 (bC (Y41 ++ intB E.ct)))]) (fun w I S hI hG hO hS => (refNum1 hI (Y41) E.ct (fun W e => row_ok (hG W e).1 hl41 (by omega)) (by omega)).lone hO) (fun r => by simp) (.inl fun k hk => by cases hk) fun r42 W _ => ?_)
                  obtain ⟨Y42, hY42⟩ : ∃ Z, Z = Y41 ++ intB E.ct := ⟨_, rfl⟩
                  obtain ⟨n42, hn42⟩ : ∃ n, n = n41 + 8 := ⟨_, rfl⟩
                  have hl42 : n42 = Y42.length := by rw [hY42, List.length_append, ← hl41, hn42, intB_length]
                  rw [← hY42, ← hn42]
                  obtain ⟨ra42, rc42⟩ := r42
                  simp (maxSteps := 2000000) -implicitDefEqProofs [hN, e7]
                  have hYf : Y30 ++ (x.runs.take (j + 1)).flatMap runB = Y42 := by rw [hY42, hY41, hY40, hZR, hfe]; simp [runB]
                  refine next3 (j + 1, n42, ra42, rc42) _ _ (by simp; omega) (fun W h => ⟨⟨hlt2, by simp only [hl42, ← hYf, List.length_append, hl30]⟩, by repeat (first | with_reducible exact h | replace h := h.2)⟩) ?_
                  simp [hYf]
                · refine load1 ok rfl rfl rfl rfl (fun v W => v = .int .i64 E.at_) (fun W hW => ⟨_, (hE W (by repeat (first | with_reducible exact hW.1 | replace hW := hW.2))).2.1, rfl⟩) ?_
                  rintro v W rfl _
                  simp (maxSteps := 2000000) -implicitDefEqProofs [hN, e7]
                  refine callS ok rfl rfl rfl [] [] trivial rfl (fun r : Sl => [(600, .row r.1 (zm + 8) r.2 5 1 (bC (ZR ++ intB E.fr)))]) (fun w I S hI hG hO hS => (refNum1 hI (ZR) E.fr (fun W e => row_ok (hG W e).1 hzl2 (by omega)) (by omega)).lone hO) (fun r => by simp) (.inl fun k hk => by cases hk) fun r40 W _ => ?_
                  obtain ⟨Y40, hY40⟩ : ∃ Z, Z = ZR ++ intB E.fr := ⟨_, rfl⟩
                  obtain ⟨n40, hn40⟩ : ∃ n, n = zm + 8 := ⟨_, rfl⟩
                  have hl40 : n40 = Y40.length := by rw [hY40, List.length_append, ← hzl2, hn40, intB_length]
                  rw [← hY40, ← hn40]
                  obtain ⟨ra40, rc40⟩ := r40
                  simp (maxSteps := 2000000) -implicitDefEqProofs [hN, e7]
                  refine pub 600 rfl (by decide) (callS ok rfl rfl rfl [] [] trivial rfl (fun r : Sl => [(600, .row r.1 (n40 + 8) r.2 5 1 (bC (Y40 ++ intB E.at_)))]) (fun w I S hI hG hO hS => (refNum1 hI (Y40) E.at_ (fun W e => row_ok (hG W e).1 hl40 (by omega)) (by omega)).lone hO) (fun r => by simp) (.inl fun k hk => by cases hk) fun r41 W _ => ?_)
                  obtain ⟨Y41, hY41⟩ : ∃ Z, Z = Y40 ++ intB E.at_ := ⟨_, rfl⟩
                  obtain ⟨n41, hn41⟩ : ∃ n, n = n40 + 8 := ⟨_, rfl⟩
                  have hl41 : n41 = Y41.length := by rw [hY41, List.length_append, ← hl40, hn41, intB_length]
                  rw [← hY41, ← hn41]
                  obtain ⟨ra41, rc41⟩ := r41
                  simp (maxSteps := 2000000) -implicitDefEqProofs [hN, e7]
                  refine pub 600 rfl (by decide) (callS ok rfl rfl rfl [] [] trivial rfl (fun r : Sl => [(600, .row r.1 (n41 + 8) r.2 5 1 (bC (Y41 ++ intB E.ct)))]) (fun w I S hI hG hO hS => (refNum1 hI (Y41) E.ct (fun W e => row_ok (hG W e).1 hl41 (by omega)) (by omega)).lone hO) (fun r => by simp) (.inl fun k hk => by cases hk) fun r42 W _ => ?_)
                  obtain ⟨Y42, hY42⟩ : ∃ Z, Z = Y41 ++ intB E.ct := ⟨_, rfl⟩
                  obtain ⟨n42, hn42⟩ : ∃ n, n = n41 + 8 := ⟨_, rfl⟩
                  have hl42 : n42 = Y42.length := by rw [hY42, List.length_append, ← hl41, hn42, intB_length]
                  rw [← hY42, ← hn42]
                  obtain ⟨ra42, rc42⟩ := r42
                  simp (maxSteps := 2000000) -implicitDefEqProofs [hN, e7]
                  have hYf : Y30 ++ (x.runs.take (j + 1)).flatMap runB = Y42 := by rw [hY42, hY41, hY40, hZR, hfe]; simp [runB]
                  refine next3 (j + 1, n42, ra42, rc42) _ _ (by simp; omega) (fun W h => ⟨⟨hlt2, by simp only [hl42, ← hYf, List.length_append, hl30]⟩, by repeat (first | with_reducible exact h | replace h := h.2)⟩) ?_
                  simp [hYf]
            · refine load1 ok rfl rfl rfl rfl (fun v W => v = .int .i64 E.at_) (fun W hW => ⟨_, (hE W (by repeat (first | with_reducible exact hW.1 | replace hW := hW.2))).2.1, rfl⟩) ?_
              rintro v W rfl _
              simp (maxSteps := 2000000) -implicitDefEqProofs [hN, e7]
              refine ⟨?_, ?_⟩
              · refine load1 ok rfl rfl rfl rfl (fun v W => v = .int .i64 E.fr) (fun W hW => ⟨_, (hE W (by repeat (first | with_reducible exact hW.1 | replace hW := hW.2))).1, rfl⟩) ?_
                rintro v W rfl _
                simp (maxSteps := 2000000) -implicitDefEqProofs [hN, e7]
                refine ⟨?_, ?_⟩
                · refine callS ok rfl rfl rfl [] [] trivial rfl (fun r : Sl => [(600, .row r.1 (zm + 8) r.2 5 1 (bC (ZR ++ intB E.fr)))]) (fun w I S hI hG hO hS => (refNum1 hI (ZR) E.fr (fun W e => row_ok (hG W e).1 hzl2 (by omega)) (by omega)).lone hO) (fun r => by simp) (.inl fun k hk => by cases hk) fun r40 W _ => ?_
                  obtain ⟨Y40, hY40⟩ : ∃ Z, Z = ZR ++ intB E.fr := ⟨_, rfl⟩
                  obtain ⟨n40, hn40⟩ : ∃ n, n = zm + 8 := ⟨_, rfl⟩
                  have hl40 : n40 = Y40.length := by rw [hY40, List.length_append, ← hzl2, hn40, intB_length]
                  rw [← hY40, ← hn40]
                  obtain ⟨ra40, rc40⟩ := r40
                  simp (maxSteps := 2000000) -implicitDefEqProofs [hN, e7]
                  refine ⟨?_, ?_⟩
                  · refine pub 600 rfl (by decide) (callS ok rfl rfl rfl [] [] trivial rfl (fun r : Sl => [(600, .row r.1 (n40 + 8) r.2 5 1 (bC (Y40 ++ intB E.at_)))]) (fun w I S hI hG hO hS => (refNum1 hI (Y40) E.at_ (fun W e => row_ok (hG W e).1 hl40 (by omega)) (by omega)).lone hO) (fun r => by simp) (.inl fun k hk => by cases hk) fun r41 W _ => ?_)
                    obtain ⟨Y41, hY41⟩ : ∃ Z, Z = Y40 ++ intB E.at_ := ⟨_, rfl⟩
                    obtain ⟨n41, hn41⟩ : ∃ n, n = n40 + 8 := ⟨_, rfl⟩
                    have hl41 : n41 = Y41.length := by rw [hY41, List.length_append, ← hl40, hn41, intB_length]
                    rw [← hY41, ← hn41]
                    obtain ⟨ra41, rc41⟩ := r41
                    simp (maxSteps := 2000000) -implicitDefEqProofs [hN, e7]
                    refine load1 ok rfl rfl rfl rfl (fun v W => v = .int .i64 E.ct) (fun W hW => ⟨_, (hE W (by repeat (first | with_reducible exact hW.1 | replace hW := hW.2))).2.2, rfl⟩) ?_
                    rintro v W rfl _
                    simp (maxSteps := 2000000) -implicitDefEqProofs [hN, e7]
                    refine pub 600 rfl (by decide) (callS ok rfl rfl rfl [] [] trivial rfl (fun r : Sl => [(600, .row r.1 (n41 + 8) r.2 5 1 (bC (Y41 ++ intB E.ct)))]) (fun w I S hI hG hO hS => (refNum1 hI (Y41) E.ct (fun W e => row_ok (hG W e).1 hl41 (by omega)) (by omega)).lone hO) (fun r => by simp) (.inl fun k hk => by cases hk) fun r42 W _ => ?_)
                    obtain ⟨Y42, hY42⟩ : ∃ Z, Z = Y41 ++ intB E.ct := ⟨_, rfl⟩
                    obtain ⟨n42, hn42⟩ : ∃ n, n = n41 + 8 := ⟨_, rfl⟩
                    have hl42 : n42 = Y42.length := by rw [hY42, List.length_append, ← hl41, hn42, intB_length]
                    rw [← hY42, ← hn42]
                    obtain ⟨ra42, rc42⟩ := r42
                    simp (maxSteps := 2000000) -implicitDefEqProofs [hN, e7]
                    have hYf : Y30 ++ (x.runs.take (j + 1)).flatMap runB = Y42 := by rw [hY42, hY41, hY40, hZR, hfe]; simp [runB]
                    refine next3 (j + 1, n42, ra42, rc42) _ _ (by simp; omega) (fun W h => ⟨⟨hlt2, by simp only [hl42, ← hYf, List.length_append, hl30]⟩, by repeat (first | with_reducible exact h | replace h := h.2)⟩) ?_
                    simp [hYf]
                  · refine load1 ok rfl rfl rfl rfl (fun v W => v = .int .i64 E.ct) (fun W hW => ⟨_, (hE W (by repeat (first | with_reducible exact hW.1 | replace hW := hW.2))).2.2, rfl⟩) ?_
                    rintro v W rfl _
                    simp (maxSteps := 2000000) -implicitDefEqProofs [hN, e7]
                    refine pub 600 rfl (by decide) (callS ok rfl rfl rfl [] [] trivial rfl (fun r : Sl => [(600, .row r.1 (n40 + 8) r.2 5 1 (bC (Y40 ++ intB E.at_)))]) (fun w I S hI hG hO hS => (refNum1 hI (Y40) E.at_ (fun W e => row_ok (hG W e).1 hl40 (by omega)) (by omega)).lone hO) (fun r => by simp) (.inl fun k hk => by cases hk) fun r41 W _ => ?_)
                    obtain ⟨Y41, hY41⟩ : ∃ Z, Z = Y40 ++ intB E.at_ := ⟨_, rfl⟩
                    obtain ⟨n41, hn41⟩ : ∃ n, n = n40 + 8 := ⟨_, rfl⟩
                    have hl41 : n41 = Y41.length := by rw [hY41, List.length_append, ← hl40, hn41, intB_length]
                    rw [← hY41, ← hn41]
                    obtain ⟨ra41, rc41⟩ := r41
                    simp (maxSteps := 2000000) -implicitDefEqProofs [hN, e7]
                    refine pub 600 rfl (by decide) (callS ok rfl rfl rfl [] [] trivial rfl (fun r : Sl => [(600, .row r.1 (n41 + 8) r.2 5 1 (bC (Y41 ++ intB E.ct)))]) (fun w I S hI hG hO hS => (refNum1 hI (Y41) E.ct (fun W e => row_ok (hG W e).1 hl41 (by omega)) (by omega)).lone hO) (fun r => by simp) (.inl fun k hk => by cases hk) fun r42 W _ => ?_)
                    obtain ⟨Y42, hY42⟩ : ∃ Z, Z = Y41 ++ intB E.ct := ⟨_, rfl⟩
                    obtain ⟨n42, hn42⟩ : ∃ n, n = n41 + 8 := ⟨_, rfl⟩
                    have hl42 : n42 = Y42.length := by rw [hY42, List.length_append, ← hl41, hn42, intB_length]
                    rw [← hY42, ← hn42]
                    obtain ⟨ra42, rc42⟩ := r42
                    simp (maxSteps := 2000000) -implicitDefEqProofs [hN, e7]
                    have hYf : Y30 ++ (x.runs.take (j + 1)).flatMap runB = Y42 := by rw [hY42, hY41, hY40, hZR, hfe]; simp [runB]
                    refine next3 (j + 1, n42, ra42, rc42) _ _ (by simp; omega) (fun W h => ⟨⟨hlt2, by simp only [hl42, ← hYf, List.length_append, hl30]⟩, by repeat (first | with_reducible exact h | replace h := h.2)⟩) ?_
                    simp [hYf]
                · refine load1 ok rfl rfl rfl rfl (fun v W => v = .int .i64 E.ct) (fun W hW => ⟨_, (hE W (by repeat (first | with_reducible exact hW.1 | replace hW := hW.2))).2.2, rfl⟩) ?_
                  rintro v W rfl _
                  simp (maxSteps := 2000000) -implicitDefEqProofs [hN, e7]
                  refine callS ok rfl rfl rfl [] [] trivial rfl (fun r : Sl => [(600, .row r.1 (zm + 8) r.2 5 1 (bC (ZR ++ intB E.fr)))]) (fun w I S hI hG hO hS => (refNum1 hI (ZR) E.fr (fun W e => row_ok (hG W e).1 hzl2 (by omega)) (by omega)).lone hO) (fun r => by simp) (.inl fun k hk => by cases hk) fun r40 W _ => ?_
                  obtain ⟨Y40, hY40⟩ : ∃ Z, Z = ZR ++ intB E.fr := ⟨_, rfl⟩
                  obtain ⟨n40, hn40⟩ : ∃ n, n = zm + 8 := ⟨_, rfl⟩
                  have hl40 : n40 = Y40.length := by rw [hY40, List.length_append, ← hzl2, hn40, intB_length]
                  rw [← hY40, ← hn40]
                  obtain ⟨ra40, rc40⟩ := r40
                  simp (maxSteps := 2000000) -implicitDefEqProofs [hN, e7]
                  refine pub 600 rfl (by decide) (callS ok rfl rfl rfl [] [] trivial rfl (fun r : Sl => [(600, .row r.1 (n40 + 8) r.2 5 1 (bC (Y40 ++ intB E.at_)))]) (fun w I S hI hG hO hS => (refNum1 hI (Y40) E.at_ (fun W e => row_ok (hG W e).1 hl40 (by omega)) (by omega)).lone hO) (fun r => by simp) (.inl fun k hk => by cases hk) fun r41 W _ => ?_)
                  obtain ⟨Y41, hY41⟩ : ∃ Z, Z = Y40 ++ intB E.at_ := ⟨_, rfl⟩
                  obtain ⟨n41, hn41⟩ : ∃ n, n = n40 + 8 := ⟨_, rfl⟩
                  have hl41 : n41 = Y41.length := by rw [hY41, List.length_append, ← hl40, hn41, intB_length]
                  rw [← hY41, ← hn41]
                  obtain ⟨ra41, rc41⟩ := r41
                  simp (maxSteps := 2000000) -implicitDefEqProofs [hN, e7]
                  refine pub 600 rfl (by decide) (callS ok rfl rfl rfl [] [] trivial rfl (fun r : Sl => [(600, .row r.1 (n41 + 8) r.2 5 1 (bC (Y41 ++ intB E.ct)))]) (fun w I S hI hG hO hS => (refNum1 hI (Y41) E.ct (fun W e => row_ok (hG W e).1 hl41 (by omega)) (by omega)).lone hO) (fun r => by simp) (.inl fun k hk => by cases hk) fun r42 W _ => ?_)
                  obtain ⟨Y42, hY42⟩ : ∃ Z, Z = Y41 ++ intB E.ct := ⟨_, rfl⟩
                  obtain ⟨n42, hn42⟩ : ∃ n, n = n41 + 8 := ⟨_, rfl⟩
                  have hl42 : n42 = Y42.length := by rw [hY42, List.length_append, ← hl41, hn42, intB_length]
                  rw [← hY42, ← hn42]
                  obtain ⟨ra42, rc42⟩ := r42
                  simp (maxSteps := 2000000) -implicitDefEqProofs [hN, e7]
                  have hYf : Y30 ++ (x.runs.take (j + 1)).flatMap runB = Y42 := by rw [hY42, hY41, hY40, hZR, hfe]; simp [runB]
                  refine next3 (j + 1, n42, ra42, rc42) _ _ (by simp; omega) (fun W h => ⟨⟨hlt2, by simp only [hl42, ← hYf, List.length_append, hl30]⟩, by repeat (first | with_reducible exact h | replace h := h.2)⟩) ?_
                  simp [hYf]
              · refine load1 ok rfl rfl rfl rfl (fun v W => v = .int .i64 E.ct) (fun W hW => ⟨_, (hE W (by repeat (first | with_reducible exact hW.1 | replace hW := hW.2))).2.2, rfl⟩) ?_
                rintro v W rfl _
                simp (maxSteps := 2000000) -implicitDefEqProofs [hN, e7]
                refine load1 ok rfl rfl rfl rfl (fun v W => v = .int .i64 E.fr) (fun W hW => ⟨_, (hE W (by repeat (first | with_reducible exact hW.1 | replace hW := hW.2))).1, rfl⟩) ?_
                rintro v W rfl _
                simp (maxSteps := 2000000) -implicitDefEqProofs [hN, e7]
                refine callS ok rfl rfl rfl [] [] trivial rfl (fun r : Sl => [(600, .row r.1 (zm + 8) r.2 5 1 (bC (ZR ++ intB E.fr)))]) (fun w I S hI hG hO hS => (refNum1 hI (ZR) E.fr (fun W e => row_ok (hG W e).1 hzl2 (by omega)) (by omega)).lone hO) (fun r => by simp) (.inl fun k hk => by cases hk) fun r40 W _ => ?_
                obtain ⟨Y40, hY40⟩ : ∃ Z, Z = ZR ++ intB E.fr := ⟨_, rfl⟩
                obtain ⟨n40, hn40⟩ : ∃ n, n = zm + 8 := ⟨_, rfl⟩
                have hl40 : n40 = Y40.length := by rw [hY40, List.length_append, ← hzl2, hn40, intB_length]
                rw [← hY40, ← hn40]
                obtain ⟨ra40, rc40⟩ := r40
                simp (maxSteps := 2000000) -implicitDefEqProofs [hN, e7]
                refine pub 600 rfl (by decide) (callS ok rfl rfl rfl [] [] trivial rfl (fun r : Sl => [(600, .row r.1 (n40 + 8) r.2 5 1 (bC (Y40 ++ intB E.at_)))]) (fun w I S hI hG hO hS => (refNum1 hI (Y40) E.at_ (fun W e => row_ok (hG W e).1 hl40 (by omega)) (by omega)).lone hO) (fun r => by simp) (.inl fun k hk => by cases hk) fun r41 W _ => ?_)
                obtain ⟨Y41, hY41⟩ : ∃ Z, Z = Y40 ++ intB E.at_ := ⟨_, rfl⟩
                obtain ⟨n41, hn41⟩ : ∃ n, n = n40 + 8 := ⟨_, rfl⟩
                have hl41 : n41 = Y41.length := by rw [hY41, List.length_append, ← hl40, hn41, intB_length]
                rw [← hY41, ← hn41]
                obtain ⟨ra41, rc41⟩ := r41
                simp (maxSteps := 2000000) -implicitDefEqProofs [hN, e7]
                refine pub 600 rfl (by decide) (callS ok rfl rfl rfl [] [] trivial rfl (fun r : Sl => [(600, .row r.1 (n41 + 8) r.2 5 1 (bC (Y41 ++ intB E.ct)))]) (fun w I S hI hG hO hS => (refNum1 hI (Y41) E.ct (fun W e => row_ok (hG W e).1 hl41 (by omega)) (by omega)).lone hO) (fun r => by simp) (.inl fun k hk => by cases hk) fun r42 W _ => ?_)
                obtain ⟨Y42, hY42⟩ : ∃ Z, Z = Y41 ++ intB E.ct := ⟨_, rfl⟩
                obtain ⟨n42, hn42⟩ : ∃ n, n = n41 + 8 := ⟨_, rfl⟩
                have hl42 : n42 = Y42.length := by rw [hY42, List.length_append, ← hl41, hn42, intB_length]
                rw [← hY42, ← hn42]
                obtain ⟨ra42, rc42⟩ := r42
                simp (maxSteps := 2000000) -implicitDefEqProofs [hN, e7]
                have hYf : Y30 ++ (x.runs.take (j + 1)).flatMap runB = Y42 := by rw [hY42, hY41, hY40, hZR, hfe]; simp [runB]
                refine next3 (j + 1, n42, ra42, rc42) _ _ (by simp; omega) (fun W h => ⟨⟨hlt2, by simp only [hl42, ← hYf, List.length_append, hl30]⟩, by repeat (first | with_reducible exact h | replace h := h.2)⟩) ?_
                simp [hYf]
            · refine load1 ok rfl rfl rfl rfl (fun v W => v = .int .i64 E.ct) (fun W hW => ⟨_, (hE W (by repeat (first | with_reducible exact hW.1 | replace hW := hW.2))).2.2, rfl⟩) ?_
              rintro v W rfl _
              simp (maxSteps := 2000000) -implicitDefEqProofs [hN, e7]
              refine ⟨?_, ?_⟩
              · refine load1 ok rfl rfl rfl rfl (fun v W => v = .int .i64 E.fr) (fun W hW => ⟨_, (hE W (by repeat (first | with_reducible exact hW.1 | replace hW := hW.2))).1, rfl⟩) ?_
                rintro v W rfl _
                simp (maxSteps := 2000000) -implicitDefEqProofs [hN, e7]
                refine ⟨?_, ?_⟩
                · refine callS ok rfl rfl rfl [] [] trivial rfl (fun r : Sl => [(600, .row r.1 (zm + 8) r.2 5 1 (bC (ZR ++ intB E.fr)))]) (fun w I S hI hG hO hS => (refNum1 hI (ZR) E.fr (fun W e => row_ok (hG W e).1 hzl2 (by omega)) (by omega)).lone hO) (fun r => by simp) (.inl fun k hk => by cases hk) fun r40 W _ => ?_
                  obtain ⟨Y40, hY40⟩ : ∃ Z, Z = ZR ++ intB E.fr := ⟨_, rfl⟩
                  obtain ⟨n40, hn40⟩ : ∃ n, n = zm + 8 := ⟨_, rfl⟩
                  have hl40 : n40 = Y40.length := by rw [hY40, List.length_append, ← hzl2, hn40, intB_length]
                  rw [← hY40, ← hn40]
                  obtain ⟨ra40, rc40⟩ := r40
                  simp (maxSteps := 2000000) -implicitDefEqProofs [hN, e7]
                  refine load1 ok rfl rfl rfl rfl (fun v W => v = .int .i64 E.at_) (fun W hW => ⟨_, (hE W (by repeat (first | with_reducible exact hW.1 | replace hW := hW.2))).2.1, rfl⟩) ?_
                  rintro v W rfl _
                  simp (maxSteps := 2000000) -implicitDefEqProofs [hN, e7]
                  refine pub 600 rfl (by decide) (callS ok rfl rfl rfl [] [] trivial rfl (fun r : Sl => [(600, .row r.1 (n40 + 8) r.2 5 1 (bC (Y40 ++ intB E.at_)))]) (fun w I S hI hG hO hS => (refNum1 hI (Y40) E.at_ (fun W e => row_ok (hG W e).1 hl40 (by omega)) (by omega)).lone hO) (fun r => by simp) (.inl fun k hk => by cases hk) fun r41 W _ => ?_)
                  obtain ⟨Y41, hY41⟩ : ∃ Z, Z = Y40 ++ intB E.at_ := ⟨_, rfl⟩
                  obtain ⟨n41, hn41⟩ : ∃ n, n = n40 + 8 := ⟨_, rfl⟩
                  have hl41 : n41 = Y41.length := by rw [hY41, List.length_append, ← hl40, hn41, intB_length]
                  rw [← hY41, ← hn41]
                  obtain ⟨ra41, rc41⟩ := r41
                  simp (maxSteps := 2000000) -implicitDefEqProofs [hN, e7]
                  refine pub 600 rfl (by decide) (callS ok rfl rfl rfl [] [] trivial rfl (fun r : Sl => [(600, .row r.1 (n41 + 8) r.2 5 1 (bC (Y41 ++ intB E.ct)))]) (fun w I S hI hG hO hS => (refNum1 hI (Y41) E.ct (fun W e => row_ok (hG W e).1 hl41 (by omega)) (by omega)).lone hO) (fun r => by simp) (.inl fun k hk => by cases hk) fun r42 W _ => ?_)
                  obtain ⟨Y42, hY42⟩ : ∃ Z, Z = Y41 ++ intB E.ct := ⟨_, rfl⟩
                  obtain ⟨n42, hn42⟩ : ∃ n, n = n41 + 8 := ⟨_, rfl⟩
                  have hl42 : n42 = Y42.length := by rw [hY42, List.length_append, ← hl41, hn42, intB_length]
                  rw [← hY42, ← hn42]
                  obtain ⟨ra42, rc42⟩ := r42
                  simp (maxSteps := 2000000) -implicitDefEqProofs [hN, e7]
                  have hYf : Y30 ++ (x.runs.take (j + 1)).flatMap runB = Y42 := by rw [hY42, hY41, hY40, hZR, hfe]; simp [runB]
                  refine next3 (j + 1, n42, ra42, rc42) _ _ (by simp; omega) (fun W h => ⟨⟨hlt2, by simp only [hl42, ← hYf, List.length_append, hl30]⟩, by repeat (first | with_reducible exact h | replace h := h.2)⟩) ?_
                  simp [hYf]
                · refine load1 ok rfl rfl rfl rfl (fun v W => v = .int .i64 E.at_) (fun W hW => ⟨_, (hE W (by repeat (first | with_reducible exact hW.1 | replace hW := hW.2))).2.1, rfl⟩) ?_
                  rintro v W rfl _
                  simp (maxSteps := 2000000) -implicitDefEqProofs [hN, e7]
                  refine callS ok rfl rfl rfl [] [] trivial rfl (fun r : Sl => [(600, .row r.1 (zm + 8) r.2 5 1 (bC (ZR ++ intB E.fr)))]) (fun w I S hI hG hO hS => (refNum1 hI (ZR) E.fr (fun W e => row_ok (hG W e).1 hzl2 (by omega)) (by omega)).lone hO) (fun r => by simp) (.inl fun k hk => by cases hk) fun r40 W _ => ?_
                  obtain ⟨Y40, hY40⟩ : ∃ Z, Z = ZR ++ intB E.fr := ⟨_, rfl⟩
                  obtain ⟨n40, hn40⟩ : ∃ n, n = zm + 8 := ⟨_, rfl⟩
                  have hl40 : n40 = Y40.length := by rw [hY40, List.length_append, ← hzl2, hn40, intB_length]
                  rw [← hY40, ← hn40]
                  obtain ⟨ra40, rc40⟩ := r40
                  simp (maxSteps := 2000000) -implicitDefEqProofs [hN, e7]
                  refine pub 600 rfl (by decide) (callS ok rfl rfl rfl [] [] trivial rfl (fun r : Sl => [(600, .row r.1 (n40 + 8) r.2 5 1 (bC (Y40 ++ intB E.at_)))]) (fun w I S hI hG hO hS => (refNum1 hI (Y40) E.at_ (fun W e => row_ok (hG W e).1 hl40 (by omega)) (by omega)).lone hO) (fun r => by simp) (.inl fun k hk => by cases hk) fun r41 W _ => ?_)
                  obtain ⟨Y41, hY41⟩ : ∃ Z, Z = Y40 ++ intB E.at_ := ⟨_, rfl⟩
                  obtain ⟨n41, hn41⟩ : ∃ n, n = n40 + 8 := ⟨_, rfl⟩
                  have hl41 : n41 = Y41.length := by rw [hY41, List.length_append, ← hl40, hn41, intB_length]
                  rw [← hY41, ← hn41]
                  obtain ⟨ra41, rc41⟩ := r41
                  simp (maxSteps := 2000000) -implicitDefEqProofs [hN, e7]
                  refine pub 600 rfl (by decide) (callS ok rfl rfl rfl [] [] trivial rfl (fun r : Sl => [(600, .row r.1 (n41 + 8) r.2 5 1 (bC (Y41 ++ intB E.ct)))]) (fun w I S hI hG hO hS => (refNum1 hI (Y41) E.ct (fun W e => row_ok (hG W e).1 hl41 (by omega)) (by omega)).lone hO) (fun r => by simp) (.inl fun k hk => by cases hk) fun r42 W _ => ?_)
                  obtain ⟨Y42, hY42⟩ : ∃ Z, Z = Y41 ++ intB E.ct := ⟨_, rfl⟩
                  obtain ⟨n42, hn42⟩ : ∃ n, n = n41 + 8 := ⟨_, rfl⟩
                  have hl42 : n42 = Y42.length := by rw [hY42, List.length_append, ← hl41, hn42, intB_length]
                  rw [← hY42, ← hn42]
                  obtain ⟨ra42, rc42⟩ := r42
                  simp (maxSteps := 2000000) -implicitDefEqProofs [hN, e7]
                  have hYf : Y30 ++ (x.runs.take (j + 1)).flatMap runB = Y42 := by rw [hY42, hY41, hY40, hZR, hfe]; simp [runB]
                  refine next3 (j + 1, n42, ra42, rc42) _ _ (by simp; omega) (fun W h => ⟨⟨hlt2, by simp only [hl42, ← hYf, List.length_append, hl30]⟩, by repeat (first | with_reducible exact h | replace h := h.2)⟩) ?_
                  simp [hYf]
              · refine load1 ok rfl rfl rfl rfl (fun v W => v = .int .i64 E.at_) (fun W hW => ⟨_, (hE W (by repeat (first | with_reducible exact hW.1 | replace hW := hW.2))).2.1, rfl⟩) ?_
                rintro v W rfl _
                simp (maxSteps := 2000000) -implicitDefEqProofs [hN, e7]
                refine load1 ok rfl rfl rfl rfl (fun v W => v = .int .i64 E.fr) (fun W hW => ⟨_, (hE W (by repeat (first | with_reducible exact hW.1 | replace hW := hW.2))).1, rfl⟩) ?_
                rintro v W rfl _
                simp (maxSteps := 2000000) -implicitDefEqProofs [hN, e7]
                refine callS ok rfl rfl rfl [] [] trivial rfl (fun r : Sl => [(600, .row r.1 (zm + 8) r.2 5 1 (bC (ZR ++ intB E.fr)))]) (fun w I S hI hG hO hS => (refNum1 hI (ZR) E.fr (fun W e => row_ok (hG W e).1 hzl2 (by omega)) (by omega)).lone hO) (fun r => by simp) (.inl fun k hk => by cases hk) fun r40 W _ => ?_
                obtain ⟨Y40, hY40⟩ : ∃ Z, Z = ZR ++ intB E.fr := ⟨_, rfl⟩
                obtain ⟨n40, hn40⟩ : ∃ n, n = zm + 8 := ⟨_, rfl⟩
                have hl40 : n40 = Y40.length := by rw [hY40, List.length_append, ← hzl2, hn40, intB_length]
                rw [← hY40, ← hn40]
                obtain ⟨ra40, rc40⟩ := r40
                simp (maxSteps := 2000000) -implicitDefEqProofs [hN, e7]
                refine pub 600 rfl (by decide) (callS ok rfl rfl rfl [] [] trivial rfl (fun r : Sl => [(600, .row r.1 (n40 + 8) r.2 5 1 (bC (Y40 ++ intB E.at_)))]) (fun w I S hI hG hO hS => (refNum1 hI (Y40) E.at_ (fun W e => row_ok (hG W e).1 hl40 (by omega)) (by omega)).lone hO) (fun r => by simp) (.inl fun k hk => by cases hk) fun r41 W _ => ?_)
                obtain ⟨Y41, hY41⟩ : ∃ Z, Z = Y40 ++ intB E.at_ := ⟨_, rfl⟩
                obtain ⟨n41, hn41⟩ : ∃ n, n = n40 + 8 := ⟨_, rfl⟩
                have hl41 : n41 = Y41.length := by rw [hY41, List.length_append, ← hl40, hn41, intB_length]
                rw [← hY41, ← hn41]
                obtain ⟨ra41, rc41⟩ := r41
                simp (maxSteps := 2000000) -implicitDefEqProofs [hN, e7]
                refine pub 600 rfl (by decide) (callS ok rfl rfl rfl [] [] trivial rfl (fun r : Sl => [(600, .row r.1 (n41 + 8) r.2 5 1 (bC (Y41 ++ intB E.ct)))]) (fun w I S hI hG hO hS => (refNum1 hI (Y41) E.ct (fun W e => row_ok (hG W e).1 hl41 (by omega)) (by omega)).lone hO) (fun r => by simp) (.inl fun k hk => by cases hk) fun r42 W _ => ?_)
                obtain ⟨Y42, hY42⟩ : ∃ Z, Z = Y41 ++ intB E.ct := ⟨_, rfl⟩
                obtain ⟨n42, hn42⟩ : ∃ n, n = n41 + 8 := ⟨_, rfl⟩
                have hl42 : n42 = Y42.length := by rw [hY42, List.length_append, ← hl41, hn42, intB_length]
                rw [← hY42, ← hn42]
                obtain ⟨ra42, rc42⟩ := r42
                simp (maxSteps := 2000000) -implicitDefEqProofs [hN, e7]
                have hYf : Y30 ++ (x.runs.take (j + 1)).flatMap runB = Y42 := by rw [hY42, hY41, hY40, hZR, hfe]; simp [runB]
                refine next3 (j + 1, n42, ra42, rc42) _ _ (by simp; omega) (fun W h => ⟨⟨hlt2, by simp only [hl42, ← hYf, List.length_append, hl30]⟩, by repeat (first | with_reducible exact h | replace h := h.2)⟩) ?_
                simp [hYf]
          · obtain rfl : j = x.runs.length := by omega
            rw [List.take_length] at hZR
            simp [hN, e6]
            have hYL : X ++ (d.kind % 256 :: inoB x) = ZR := by
              rw [hZR, hY30, hZ, hY5, hY4, hY3, hY2, hY1, hY0, hY]
              simp [inoB, headB]
            refine next (i + 1, zm, za, zc) _ _ (by simp; omega) (fun W h => ⟨⟨hlt, by rw [ft, hzl2, ← hYL]; simp⟩, by
              show Sv.ok dDee W (some ⟨b, o, none⟩, l.length, sc) l
              repeat (first | with_reducible exact h | replace h := h.2)⟩) ?_
            simp [ft, ← hYL]
      · have td : deedB d = lowB (d.kind % 18446744073709551616) 1 := by simp [deedB, tailB, k1, k2, k3, k4]
        rw [td, k0] at ft
        simp [hN, e6]
        refine next (i + 1, yn + 1, some ⟨g7, 0, none⟩, c7) _ _ (by simp; omega) (fun W h => ⟨⟨hlt, by rw [ft, List.length_append, ← hr]; rfl⟩, h.2.2⟩) ?_
        simp [ft, hY]
  · have hi' : i = l.length := by omega
    subst hi'
    rw [List.take_length] at hr ⊢
    refine ret0 hC (ya, yn, yc) rfl fun W hp hG => ?_
    simp only [pubs, Res.fact] at hp
    have hl' : (l.flatMap deedB).length ≤ 10000000000 := hl
    exact row_ok hp.1 hr (by rw [hr]; exact Nat.le_trans hl' (by omega))
end Go.Proofs.YtbbaoeidobdblaaGreat.Sx

/- ref01.Nor: Program. -/
set_option linter.unusedVariables false
set_option linter.unusedSimpArgs false
namespace Go.Proofs.YtbbaoeidobdblaaGreat.Sx
open Go
attribute [local simp ↓] ifb_true' ifb_false'
attribute [local simp] ifb_true ifb_false ifb_eq sx argsT find ev evOp evs evo evBin evInt evStr evNil evNilA ptrA slcA isNoneA asB evLoad look del cellsB evUn evConv kdec fld evFieldA evField evIdxA evIdx evSlc bndL bndH evLen mmi put resV guardV gvL setO tupV cellsOf ones one upd lits nv exitTo SV.val CV.val TI.agg rdyA allR keepB scan simpO gsp isS subs keepT pickT wr memN pubs Res.fact Region.binds bld rest give delL back Res.eqv vi vb num Sv.val undef
abbrev Rc.wi (r : Rc) (c : Cp) : Rc := ⟨c, r.gk, r.kc, r.ct⟩
theorem step_dt {p : Pw} : p.step.1 = true → p.step.2.1 = false := by
  unfold Pw.step
  split
  · intro h; rfl
  · split
    · intro h; cases h
    · intro h; rfl
set_option maxRecDepth 100000 in
set_option maxHeartbeats 2000000 in
theorem refProgram0 (w : World) (I S : Nat → Prop) (hI : ∀ b, I b → b < w.heap.size) (r : Rc) (o : Nat) {a : Option Addr} {n cp : Nat} (xs : List Int) (hx : ∀ W, Ext I w W → Sv.ok dByte W (a, n, cp) xs) (ho : o + xs.length ≤ r.c.b.length) (hb : r.c.b.length ≤ 1000000000) (hp : r.c.p.left ≤ 9223372036854775807) (hS : Owns r.res S w) (hSI : ∀ b, S b → b < w.heap.size ∧ ¬ I b) :
    FnS Tryz.prog 82 #[ptrV r.c.gc, .int .i64 (o : Nat), .slice a n cp] w I S (fun _ : Unit => .int .i64 (progM r.c o xs).1) (fun _ => (r.wi (progM r.c o xs).2).res) (fun _ _ => True) := by
  obtain rfl : n = xs.length := (hx w (Ext.refl _ _)).1
  refine enterS (svs := [.c (.bp 1000 r.c.gc 0), .c (.v (.int .i64 (o : Nat))), .c (.v (.slice a xs.length cp))]) tysOk Tryz.func82 rfl Tryz.ntmps82 Tryz.results82 (by kernel_rfl) (by simp) hI r.res hS hSI (fun W => Sv.ok dByte W (a, xs.length, cp) xs) hx fun C hC hN ok => ?_
  have hwi : wiB r.c.b.length o xs.length = true := by simp [wiB]; omega
  simp [hN]
  refine callS ok rfl rfl rfl [1000] [r.chip] (by simp) rfl (fun _ : Unit => [(1000, r.chip)]) (fun w I S hI hG hO hS' => refWithin0 w I S hI r o xs.length (by omega) (by omega) hO hS') (fun r => by simp) (.inr fun x q hq => by simp at hq; subst hq; simp) fun _ W _ => ?_
  rw [hwi]
  simp [hN]
  refine loopK [0, 1, 2] ok (fun i : Nat => [(7, .c (.v (.int .i64 i)))]) (fun _ => [(1000, r.chip), (1001, r.pow), (1002, r.row), (1003, r.cnt)]) (fun i W => i ≤ xs.length ∧ ∀ j (h1 : j < xs.length) (h2 : o + j < r.c.b.length), j < i → bandn xs[j] r.c.b[o + j] = 0) (fun i => xs.length - i) 0 ?_ ?_ (fun W hW => ⟨Nat.zero_le _, fun j _ _ h => absurd h (Nat.not_lt_zero _)⟩) ?_
  · simp
  · simp
  rintro i W ⟨hi, hfit⟩ hG next
  rcases Nat.lt_or_ge i xs.length with hlt | hge
  · obtain ⟨b', o', e, _⟩ := byte_get (show Sv.ok dByte W (a, xs.length, cp) xs from hG) hlt
    cases e
    have e6 : IntKind.i64.wrap ((i : Int) + 1) = (i + 1 : Nat) := by rw [w64 (by omega) (by omega)]; omega
    obtain ⟨z, hz⟩ : ∃ z, z = o + i := ⟨_, rfl⟩
    have e7 : IntKind.i64.wrap ((o : Int) + i) = (z : Nat) := by rw [w64 (by omega) (by omega)]; omega
    have hoi : z < r.c.b.length := by omega
    have hat := bC_at (List.getElem?_eq_getElem hoi)
    have hbl := bC_len r.c.b
    have hat2 : ∀ h : z < (bC r.c.b).length, (bC r.c.b)[z]'h = .v (.int .u8 r.c.b[z]) := fun h => by rw [List.getElem?_eq_getElem h] at hat; exact Option.some.inj hat
    simp [hN, hlt]
    refine drawK ok mixed (by kernel_rfl) ?_
    simp (maxSteps := 2000000) -implicitDefEqProofs [hN, e7, hat, hat2, hoi, hbl, hlt]
    refine ⟨by omega, load1 ok rfl rfl rfl rfl (fun v W => v = .int .u8 xs[i]) (fun W hW => ?_) ?_⟩
    · obtain ⟨b'', o'', e, hc⟩ := byte_get hW.2 hlt
      cases e
      exact ⟨_, hc, rfl⟩
    rintro v W rfl _
    simp (maxSteps := 2000000) -implicitDefEqProofs [hN, e6, e7, hat, hat2, hoi, hbl, bandn_eq]
    refine ⟨fun hbad => ?_, fun hok => next (i + 1) _ _ (by omega) (fun W h => ⟨⟨hlt, fun j h1 h2 h3 => ?_⟩, h.2⟩) (by simp)⟩
    · have hpm : progM r.c o xs = (9, r.c) := by
        rw [progM, if_neg]
        rw [fitsM_no (r.c.b.drop o) xs i (by simp; omega) hlt (by rw [List.getElem_drop]; simpa [hz] using hbad)]
        decide
      rw [hpm] at hC
      exact retS hC () [1000, 1001, 1002, 1003] rfl (by simp) fun _ _ _ => trivial
    · rcases Nat.lt_or_ge j i with h4 | h4
      · exact hfit j h1 h2 h4
      · obtain rfl : j = i := by omega
        simpa [hz] using hok
  have hfits : fitsM (r.c.b.drop o) xs = true := fitsM_yes _ _ fun j h1 h2 => by
    rw [List.getElem_drop]
    exact hfit j h2 (by simp at h1; omega) (by omega)
  clear next
  have hpm : progM r.c o xs = (if (writeM r.c.p ((r.c.b.drop o).take xs.length) xs).1 then 0 else 6, { r.c with p := (writeM r.c.p ((r.c.b.drop o).take xs.length) xs).2.2, b := layI r.c.b o (writeM r.c.p ((r.c.b.drop o).take xs.length) xs).2.1 }) := by rw [progM, if_pos hfits]
  rw [hpm] at hC
  have hol : ((r.c.b.drop o).take xs.length).length = xs.length := by simp; omega
  obtain ⟨old, hold⟩ : ∃ old, old = (r.c.b.drop o).take xs.length := ⟨_, rfl⟩
  have hoat : ∀ j (h : j < old.length) (h2 : o + j < r.c.b.length), old[j] = r.c.b[o + j] := fun j h h2 => by
    subst hold
    rw [List.getElem_take, List.getElem_drop]
  rw [← hold] at hC hol
  simp [hN, Nat.not_lt.2 hge]
  refine loopK [0, 1, 2] ok (fun y : Nat × Pw => [(8, .c (.v (.int .i64 (y.1 : Nat))))]) (fun y => [(1000, r.chip), (1001, .box r.c.gp 79 (rpB y.2)), (1002, .row (some ⟨r.c.gb, 0, none⟩) r.c.b.length r.c.bc 5 1 (bC (layI r.c.b o (xs.take y.1)))), (1003, r.cnt)]) (fun y W => y.1 ≤ xs.length ∧ y.2.left ≤ 9223372036854775807 ∧ writeM r.c.p old xs = ((writeM y.2 (old.drop y.1) (xs.drop y.1)).1, xs.take y.1 ++ (writeM y.2 (old.drop y.1) (xs.drop y.1)).2.1, (writeM y.2 (old.drop y.1) (xs.drop y.1)).2.2)) (fun y => xs.length - y.1) (0, r.c.p) ?_ ?_ (fun W hW => ⟨Nat.zero_le _, hp, by simp⟩) ?_
  · simp
  · simp [layI]
  rintro ⟨k, p⟩ W ⟨hk, hpl, hwm⟩ hG2 next
  simp only at hk hpl hwm
  rcases Nat.lt_or_ge k xs.length with hlt | hge2
  · obtain ⟨b', o', e, _⟩ := byte_get (show Sv.ok dByte W (a, xs.length, cp) xs from hG2.2) hlt
    cases e
    have e6 : IntKind.i64.wrap ((k : Int) + 1) = (k + 1 : Nat) := by rw [w64 (by omega) (by omega)]; omega
    obtain ⟨z, hz⟩ : ∃ z, z = o + k := ⟨_, rfl⟩
    have e7 : IntKind.i64.wrap ((o : Int) + k) = (z : Nat) := by rw [w64 (by omega) (by omega)]; omega
    have hw1 : writeM p (old.drop k) (xs.drop k) = match p.step with
      | (true, _, q) => ((writeM q (old.drop (k + 1)) (xs.drop (k + 1))).1, xs[k] :: (writeM q (old.drop (k + 1)) (xs.drop (k + 1))).2.1, (writeM q (old.drop (k + 1)) (xs.drop (k + 1))).2.2)
      | (false, true, q) => (false, bor xs[k] (band r.c.b[o + k] q.mask) :: old.drop (k + 1), q)
      | (false, false, q) => (false, r.c.b[o + k] :: old.drop (k + 1), q) := by
      rw [List.drop_eq_getElem_cons (show k < old.length by omega), List.drop_eq_getElem_cons hlt, writeM, hoat k (by omega) (by omega)]
      all_goals
        rcases p.step with ⟨d, t, q⟩
        cases d <;> cases t <;> rfl
    have hsl : p.step.2.2.left ≤ 9223372036854775807 := step_left hpl
    have hdt := @step_dt p
    have hget : ∀ W, Sv.ok dByte W (some ⟨b', o', none⟩, xs.length, cp) xs → ∃ v, W.cell? ⟨b', o' + k, none⟩ = some v ∧ v = .int .u8 xs[k] := fun W hW => by
      obtain ⟨b'', o'', e, hc⟩ := byte_get hW hlt
      cases e
      exact ⟨_, hc, rfl⟩
    simp [hN, hlt]
    refine callS ok rfl rfl rfl [1001] [.box r.c.gp 79 (rpB p)] (by simp) rfl (fun _ : Unit => [(1001, .box r.c.gp 79 (rpB p.step.2.2))]) (fun w I S hI hG hO hS' => rpStep0 w I S hI r.c.gp p hpl hO hS') (fun r => by simp) (.inr fun x q hq => by simp at hq; subst hq; simp) fun _ W _ => ?_
    generalize p.step = R at *
    obtain ⟨d, t, q⟩ := R
    have htk : (xs.take k).length = k := by simp; omega
    have hrl : (layI r.c.b o (xs.take k)).length = r.c.b.length := layI_len _ _ _ (by rw [htk]; omega)
    have hbl := bC_len (layI r.c.b o (xs.take k))
    rw [hrl] at hbl
    have hset : ∀ y, (bC (layI r.c.b o (xs.take k))).set z (.v (.int .u8 y)) = bC (layI r.c.b o (xs.take k ++ [y])) := fun y => by
      rw [bC_set, hz]
      have := layI_set r.c.b o (xs.take k) y (by rw [htk]; omega)
      rw [htk] at this
      rw [this]
    have hat := bC_at (show (layI r.c.b o (xs.take k))[z]? = some (r.c.b[o + k]'(by omega)) by have := layI_at r.c.b o (xs.take k) (by rw [htk]; omega); simp only [htk] at this; subst hz; exact this)
    have hat2 : ∀ h : z < (bC (layI r.c.b o (xs.take k))).length, (bC (layI r.c.b o (xs.take k)))[z]'h = .v (.int .u8 (r.c.b[o + k]'(by omega))) := fun h => by rw [List.getElem?_eq_getElem h] at hat; exact Option.some.inj hat
    have hzl : z < r.c.b.length := by omega
    cases d with
    | true =>
      obtain rfl : t = false := hdt rfl
      simp [hN]
      refine draw ok [(1000, r.chip)] (by rw [ok.P]; exact mixed) (by kernel_rfl) ?_
      simp (maxSteps := 2000000) -implicitDefEqProofs [hN, e7, hbl, hset, hzl, hlt]
      refine load1 ok rfl rfl rfl rfl (fun v W => v = .int .u8 xs[k]) (fun W hW => hget W (by first | exact (hW) | exact (hW).2 | exact (hW).2.2 | exact (hW).2.2.2 | exact (hW).2.2.2.2 | exact (hW).2.2.2.2.2 | exact (hW).2.2.2.2.2.2 | exact (hW).2.2.2.2.2.2.2 | exact (hW).2.2.2.2.2.2.2.2)) ?_
      rintro v W rfl _
      simp (maxSteps := 2000000) -implicitDefEqProofs [hN, e6, e7, hbl, hset, hzl]
      have hf3 : writeM r.c.p old xs = ((writeM q (old.drop (k + 1)) (xs.drop (k + 1))).1, xs.take (k + 1) ++ (writeM q (old.drop (k + 1)) (xs.drop (k + 1))).2.1, (writeM q (old.drop (k + 1)) (xs.drop (k + 1))).2.2) := by
        have hft : xs.take (k + 1) = xs.take k ++ [xs[k]] := by rw [List.take_add_one, List.getElem?_eq_getElem hlt]; rfl
        rw [hwm, hw1, hft, List.append_assoc]
        rfl
      exact ⟨by omega, next (k + 1, q) _ _ (by simp; omega) (fun W h => ⟨⟨hlt, hsl, hf3⟩, (by first | exact (h) | exact (h).2 | exact (h).2.2 | exact (h).2.2.2 | exact (h).2.2.2.2 | exact (h).2.2.2.2.2 | exact (h).2.2.2.2.2.2 | exact (h).2.2.2.2.2.2.2 | exact (h).2.2.2.2.2.2.2.2)⟩) (by simp)⟩
    | false =>
      cases t with
      | true =>
        simp [hN]
        refine draw ok [(1000, r.chip), (1001, .box r.c.gp 79 (rpB q))] (by rw [ok.P]; exact mixed) (by kernel_rfl) ?_
        simp (maxSteps := 2000000) -implicitDefEqProofs [hN, e7, hat, hat2, hbl, hzl, hlt, hset]
        have hf3 : writeM r.c.p old xs = (false, xs.take k ++ bor xs[k] (band r.c.b[o + k] q.mask) :: old.drop (k + 1), q) := by rw [hwm, hw1]
        have hf4 : layI r.c.b o (xs.take k ++ bor xs[k] (band r.c.b[o + k] q.mask) :: old.drop (k + 1)) = layI r.c.b o (xs.take k ++ [bor xs[k] (band r.c.b[o + k] q.mask)]) := by
          have := layI_old r.c.b o xs.length (xs.take k ++ [bor xs[k] (band r.c.b[o + k] q.mask)]) (by simp; omega) ho
          rw [← hold] at this
          simpa [htk] using this
        rw [hf3] at hC
        simp only [hf4] at hC
        have hl2 : (layI r.c.b o (xs.take k ++ [bor xs[k] (band r.c.b[o + k] q.mask)])).length = r.c.b.length := layI_len _ _ _ (by simp; omega)
        and_intros
        all_goals try omega
        all_goals
          refine load1 ok rfl rfl rfl rfl (fun v W => v = .int .u8 xs[k]) (fun W hW => hget W (by first | exact (hW) | exact (hW).2 | exact (hW).2.2 | exact (hW).2.2.2 | exact (hW).2.2.2.2 | exact (hW).2.2.2.2.2 | exact (hW).2.2.2.2.2.2 | exact (hW).2.2.2.2.2.2.2 | exact (hW).2.2.2.2.2.2.2.2)) ?_
          rintro v W rfl _
          simp (maxSteps := 2000000) -implicitDefEqProofs [hN, e7, hat, hat2, hbl, hzl, band_eq, bor_eq, hset]
          and_intros
          all_goals try omega
          exact retS hC () [1000, 1001, 1002, 1003] rfl (by simp [hl2]) fun _ _ _ => trivial
      | false =>
        simp [hN]
        have hf3 : writeM r.c.p old xs = (false, xs.take k ++ old.drop k, q) := by
          rw [hwm, hw1, List.drop_eq_getElem_cons (show k < old.length by omega), hoat k (by omega) (by omega)]
        have hf4 : layI r.c.b o (xs.take k ++ old.drop k) = layI r.c.b o (xs.take k) := by
          have := layI_old r.c.b o xs.length (xs.take k) (by simp; omega) ho
          rw [← hold, htk] at this
          exact this
        rw [hf3] at hC
        simp only [hf4] at hC
        exact retS hC () [1000, 1001, 1002, 1003] rfl (by simp [hrl]) fun _ _ _ => trivial
  · have hkn : k = xs.length := by omega
    have hf3 : writeM r.c.p old xs = (true, xs, p) := by
      rw [hwm, hkn, List.drop_eq_nil_of_le (by omega), List.drop_eq_nil_of_le (Nat.le_refl _), List.take_length]
      simp [writeM]
    have hTk : xs.take k = xs := List.take_of_length_le hge2
    have hrl : (layI r.c.b o xs).length = r.c.b.length := layI_len _ _ _ ho
    rw [hf3] at hC
    simp only [hTk]
    simp [hN, Nat.not_lt.2 hge2]
    exact retS hC () [1000, 1001, 1002, 1003] rfl (by simp [hrl]) fun _ _ _ => trivial
end Go.Proofs.YtbbaoeidobdblaaGreat.Sx

/- Plain: a record as the reference reads it; chips that have the same bytes. -/
set_option linter.unusedVariables false
set_option linter.unusedSimpArgs false
namespace Go.Proofs.YtbbaoeidobdblaaGreat.Sx
open Go
theorem lowB_valB : ∀ l : List Int, isB l → lowB (valB l) l.length = l
  | [], _ => rfl
  | x :: r, h => by
    have hx := h x List.mem_cons_self
    have ih := lowB_valB r fun y hy => h y (List.mem_cons_of_mem _ hy)
    have h1 := valB_le r fun y hy => h y (List.mem_cons_of_mem _ hy)
    rw [List.length_cons, lowB_succ, valB]
    have e1 : (x + 256 * valB r) % 256 = x := by omega
    have e2 : (x + 256 * valB r) / 256 = valB r := by omega
    rw [e1, e2, ih]
theorem bor_byte' (a b : Int) : 0 ≤ bor a b ∧ bor a b ≤ 255 := by unfold bor; rw [u8_wrap]; omega
theorem txtOf_inj {a b : List Int} (ha : isB a) (hb : isB b) (h : txtOf a = txtOf b) : a = b := by
  have h1 : a.map (fun x => UInt8.ofNat x.toNat) = b.map fun x => UInt8.ofNat x.toNat := by
    have := congrArg (fun s : ByteArray => s.data.toList) h
    simpa [txtOf] using this
  have key : ∀ l : List Int, isB l → (l.map fun x => UInt8.ofNat x.toNat).map (fun u => (u.toNat : Int)) = l := fun l hl => by
    rw [List.map_map]
    conv => rhs; rw [← List.map_id l]
    apply List.map_congr_left
    intro x hx
    have := hl x hx
    simp only [Function.comp, id]
    rw [UInt8.toNat_ofNat_of_lt' (by show x.toNat < 256; omega)]
    omega
  have h2 := congrArg (List.map fun u : UInt8 => (u.toNat : Int)) h1
  rwa [key a ha, key b hb] at h2
theorem txtOf_eq {a b : List Int} (ha : isB a) (hb : isB b) : ((txtOf a).toList == (txtOf b).toList) = decide (a = b) := by
  by_cases h : a = b
  · subst h; simp
  · have : ¬ (txtOf a).toList = (txtOf b).toList := fun e => h (txtOf_inj ha hb (bytes_toList e))
    simp [h, this]
theorem isB_sub {l : List Int} (h : isB l) (o k : Nat) : isB ((l.drop o).take k) := fun x hx => h x (List.mem_of_mem_drop (List.mem_of_mem_take hx))
/-- The next record, as it is told by making its body anew. -/
theorem next_body {b : List Int} {v : Nat} (hb : isB b) (h2 : 2 ≤ b.length) (hv : valB (b.take 2) = v) (hv2 : v ≤ 65000) (hl : v + 7 ≤ b.length) (h0 : b[v + 6]? = some 0) :
    nextM b = if bodyB ((b.drop 6).take v) = b.take (6 + v) then some ((b.drop 6).take v) else none := by
  have hX : ((b.drop 6).take v).length = v := by rw [List.length_take, List.length_drop]; omega
  have h22 : (b.take 2).length = 2 := by rw [List.length_take]; omega
  have e1 : lowB v 2 = b.take 2 := by
    have := lowB_valB (b.take 2) (fun x hx => hb x (List.mem_of_mem_take hx))
    rwa [hv, h22] at this
  have e2 : b.take (6 + v) = b.take 2 ++ (b.drop 2).take 4 ++ (b.drop 6).take v := by
    rw [List.append_assoc, show 6 + v = 2 + (4 + v) by omega, List.take_add, List.take_add, List.drop_drop]
  have h24 : ((b.drop 2).take 4).length = 4 := by rw [List.length_take, List.length_drop]; omega
  have e3 : (bodyB ((b.drop 6).take v) = b.take (6 + v)) ↔ sumM (b.take 2 ++ (b.drop 6).take v) = valB ((b.drop 2).take 4) := by
    rw [bodyB, hX, e1, e2]
    have hs := sumM_le (b.take 2 ++ (b.drop 6).take v)
    constructor
    · intro h
      have h3 := List.append_inj_left' h rfl
      have h4 := List.append_cancel_left h3
      rw [← h4, valB_lowB]
      exact (Int.emod_eq_of_lt hs.1 hs.2).symm
    · intro h
      have h5 := lowB_valB ((b.drop 2).take 4) (isB_sub hb 2 4)
      rw [h24] at h5
      rw [h, h5]
  unfold nextM
  rw [if_neg (by omega), hv, Int.toNat_natCast, if_neg (by omega)]
  by_cases hc : bodyB ((b.drop 6).take v) = b.take (6 + v)
  · rw [if_pos hc, if_pos ⟨e3.1 hc, h0⟩]
  · rw [if_neg hc, if_neg (fun h => hc (e3.2 h.1))]
/-- Powers that are alike but for how many steps were done. -/
structure PwE (p q : Pw) : Prop where
  left : q.left = p.left
  mask : q.mask = p.mask
  off : q.off = p.off
theorem step_e {p q : Pw} (h : PwE p q) : q.step.1 = p.step.1 ∧ q.step.2.1 = p.step.2.1 ∧ PwE p.step.2.2 q.step.2.2 := by
  unfold Pw.step
  rw [h.off, h.left]
  split
  · exact ⟨rfl, rfl, h⟩
  · split
    · exact ⟨rfl, rfl, by first | exact h.left | rfl, h.mask, rfl⟩
    · exact ⟨rfl, rfl, by simp only [h.left], h.mask, rfl⟩
theorem writeM_e : ∀ (p q : Pw) (os xs : List Int), PwE p q → (writeM q os xs).1 = (writeM p os xs).1 ∧ (writeM q os xs).2.1 = (writeM p os xs).2.1 ∧ PwE (writeM p os xs).2.2 (writeM q os xs).2.2
  | p, q, [], [], h => ⟨rfl, rfl, h⟩
  | p, q, [], _ :: _, h => ⟨rfl, rfl, h⟩
  | p, q, _ :: _, [], h => ⟨rfl, rfl, h⟩
  | p, q, o :: os, x :: xs, h => by
    obtain ⟨h1, h2, h3⟩ := step_e h
    unfold writeM
    generalize p.step = r at h1 h2 h3
    generalize q.step = r' at h1 h2 h3
    obtain ⟨d, t, u⟩ := r
    obtain ⟨d', t', u'⟩ := r'
    simp only at h1 h2 h3
    subst h1 h2
    obtain ⟨k1, k2, k3⟩ := writeM_e u u' os xs h3
    cases d' with
    | true => exact ⟨k1, by simp only [k2], k3⟩
    | false =>
      cases t' with
      | true => exact ⟨rfl, by simp only [h3.mask], h3⟩
      | false => exact ⟨rfl, rfl, h3⟩
/-- Two chips that have the same form and bytes, and powers that are alike. -/
structure Tw (c d : Cp) : Prop where
  g : d.g = c.g
  b : d.b = c.b
  p : PwE c.p d.p
theorem Tw.halfN {c d : Cp} (h : Tw c d) : halfN d = halfN c := by unfold Sx.halfN; rw [h.g]
theorem Tw.halfSz {c d : Cp} (h : Tw c d) : halfSz d = halfSz c := by unfold Sx.halfSz; rw [h.halfN, h.g]
theorem erase_tw {c d : Cp} (h : Tw c d) (i : Nat) : (eraseM d i).1 = (eraseM c i).1 ∧ Tw (eraseM c i).2 (eraseM d i).2 := by
  obtain ⟨h1, h2, h3⟩ := step_e h.p
  unfold eraseM
  rw [h.g, h.b]
  generalize c.p.step = r at h1 h2 h3
  generalize d.p.step = r' at h1 h2 h3
  obtain ⟨a, t, q⟩ := r
  obtain ⟨a', t', q'⟩ := r'
  simp only at h1 h2 h3
  subst h1 h2
  cases a' with
  | true => exact ⟨rfl, rfl, rfl, h3⟩
  | false =>
    cases t' with
    | true => exact ⟨rfl, rfl, by simp only [h3.mask], h3⟩
    | false => exact ⟨rfl, rfl, rfl, h3⟩
theorem wipeN_tw (base : Nat) : ∀ (k : Nat) {c d : Cp}, Tw c d → (wipeN d base k).1 = (wipeN c base k).1 ∧ Tw (wipeN c base k).2 (wipeN d base k).2
  | 0, c, d, h => ⟨rfl, h⟩
  | k + 1, c, d, h => by
    obtain ⟨h1, h2⟩ := erase_tw h (base + k)
    unfold wipeN
    rw [h1]
    split
    · exact ⟨h1, h2⟩
    · exact wipeN_tw base k h2
theorem wipe_tw {c d : Cp} (h : Tw c d) (i : Nat) : (wipeM d i).1 = (wipeM c i).1 ∧ Tw (wipeM c i).2 (wipeM d i).2 := by
  unfold wipeM
  rw [h.halfN]
  exact wipeN_tw _ _ h
theorem prog_tw {c d : Cp} (h : Tw c d) (o : Nat) (xs : List Int) : (progM d o xs).1 = (progM c o xs).1 ∧ Tw (progM c o xs).2 (progM d o xs).2 := by
  obtain ⟨h1, h2, h3⟩ := writeM_e c.p d.p ((c.b.drop o).take xs.length) xs h.p
  unfold progM
  rw [h.b, h1, h2]
  split
  · exact ⟨rfl, h.g, rfl, h3⟩
  · exact ⟨rfl, h⟩
theorem append_tw {c d : Cp} (h : Tw c d) (i o : Nat) (l : List Int) : (appendM d i o l).1 = (appendM c i o l).1 ∧ Tw (appendM c i o l).2 (appendM d i o l).2 := by
  unfold appendM
  rw [h.halfSz]
  split
  · exact ⟨rfl, h⟩
  · obtain ⟨h1, h2⟩ := prog_tw h (i * Sx.halfSz c + o) (bodyB l)
    rw [h1]
    split
    · exact ⟨h1, h2⟩
    · exact prog_tw h2 _ _
/-- Two journals that are at the same. -/
structure Jw (j k : Jn) : Prop where
  c : Tw j.c k.c
  half : k.half = j.half
  ep : k.ep = j.ep
  used : k.used = j.used
  s : k.s = j.s
  ended : k.ended = j.ended
theorem anew_tw {j k : Jn} (h : Jw j k) (s : Sta) (si sb si' sb' : Sl) : (anewM k s si' sb').1 = (anewM j s si sb).1 ∧ Jw (anewM j s si sb).2 (anewM k s si' sb').2 := by
  unfold anewM
  rw [h.c.halfSz, h.ep, h.half]
  obtain ⟨h1, h2⟩ := wipe_tw h.c (1 - j.half)
  obtain ⟨h3, h4⟩ := append_tw h2 (1 - j.half) 0 (firstB (j.ep + 1) s)
  rw [h1, h3]
  split
  · exact ⟨rfl, h⟩
  · split
    · exact ⟨rfl, h2, by first | rfl | exact h.half, by first | rfl | exact h.ep, h.used, h.s, rfl⟩
    · split
      · exact ⟨rfl, h4, by first | rfl | exact h.half, by first | rfl | exact h.ep, h.used, h.s, rfl⟩
      · exact ⟨rfl, h4, rfl, rfl, rfl, rfl, h.ended⟩
theorem halfB_tw {c d : Cp} (h : Tw c d) (i : Nat) : halfB d i = halfB c i := by unfold halfB; rw [h.b, h.halfSz]
theorem best_tw {c d : Cp} (h : Tw c d) : bestM d = bestM c := by unfold bestM best1; rw [halfB_tw h, halfB_tw h]
theorem open_tw {c d : Cp} (h : Tw c d) (x y : Nat × Sl × Sl) : (openM d y).1 = (openM c x).1 ∧ Jw (openM c x).2 (openM d y).2 := by
  have hj : Jw (openJ c x) (openJ d y) := by unfold openJ; rw [best_tw h]; exact ⟨h, rfl, rfl, rfl, rfl, rfl⟩
  unfold openM
  rw [best_tw h]
  split
  · exact ⟨rfl, hj⟩
  · split
    · exact anew_tw hj _ _ _ _ _
    · exact ⟨rfl, hj⟩
theorem writeM_isB : ∀ (p : Pw) (os xs : List Int), isB os → isB xs → isB (writeM p os xs).2.1
  | p, [], [], _, h => h
  | p, [], x :: xs, _, h => by unfold writeM; exact fun x hx => by cases hx
  | p, o :: os, [], h, _ => by
    unfold writeM
    intro x hx
    first | exact h x hx | cases hx
  | p, o :: os, x :: xs, ho, hx => by
    have h1 : isB os := fun y hy => ho y (List.mem_cons_of_mem _ hy)
    have h2 : isB xs := fun y hy => hx y (List.mem_cons_of_mem _ hy)
    unfold writeM
    rcases p.step with ⟨d, t, q⟩
    have key : ∀ (z : Int) (zs : List Int), (0 ≤ z ∧ z ≤ 255) → isB zs → isB (z :: zs) := fun z zs hz hzs y hy => by
      rcases List.mem_cons.1 hy with rfl | hy
      · exact hz
      · exact hzs y hy
    cases d with
    | true => exact key _ _ (hx x List.mem_cons_self) (writeM_isB q os xs h1 h2)
    | false =>
      cases t with
      | true => exact key _ _ (bor_byte' _ _) h1
      | false => exact key _ _ (ho o List.mem_cons_self) h1
theorem prog_isB {c : Cp} (h : isB c.b) (o : Nat) {xs : List Int} (hx : isB xs) : isB (progM c o xs).2.b := by
  unfold progM
  split
  · exact isB_lay h (writeM_isB _ _ _ (isB_sub h _ _) hx) _
  · exact h
theorem append_isB {c : Cp} (h : isB c.b) (i o : Nat) {l : List Int} (hl : isB l) : isB (appendM c i o l).2.b := by
  have h1 := prog_isB h (i * Sx.halfSz c + o) (bodyB_byte l hl)
  unfold appendM
  split
  · exact h
  · split
    · exact h1
    · exact prog_isB h1 _ (fun x hx => by rw [List.mem_singleton.1 hx]; decide)
end Go.Proofs.YtbbaoeidobdblaaGreat.Sx

/- Plain: power that is on for good stays alike. -/
set_option linter.unusedVariables false
set_option linter.unusedSimpArgs false
namespace Go.Proofs.YtbbaoeidobdblaaGreat.Sx
open Go
theorem step_still {p0 p : Pw} (h : PwE p0 p) (hl : p0.left < 0) (ho : p0.off = false) : PwE p0 p.step.2.2 := by
  unfold Pw.step
  rw [h.off, h.left, if_neg (by simp [ho]), if_neg (by omega)]
  exact ⟨by simp only; rw [if_neg (by omega)], h.mask, rfl⟩
theorem writeM_still {p0 : Pw} (hl : p0.left < 0) (ho : p0.off = false) : ∀ (p : Pw) (os xs : List Int), PwE p0 p → PwE p0 (writeM p os xs).2.2
  | p, [], [], h => h
  | p, [], _ :: _, h => h
  | p, _ :: _, [], h => h
  | p, o :: os, x :: xs, h => by
    have h1 := step_still h hl ho
    unfold writeM
    generalize p.step = r at h1
    obtain ⟨d, t, q⟩ := r
    cases d with
    | true => exact writeM_still hl ho q os xs h1
    | false => cases t <;> exact h1
theorem prog_still {p0 : Pw} (hl : p0.left < 0) (ho : p0.off = false) {c : Cp} (h : PwE p0 c.p) (o : Nat) (xs : List Int) : PwE p0 (progM c o xs).2.p := by
  unfold progM
  split
  · exact writeM_still hl ho _ _ _ h
  · exact h
theorem append_still {p0 : Pw} (hl : p0.left < 0) (ho : p0.off = false) {c : Cp} (h : PwE p0 c.p) (i o : Nat) (l : List Int) : PwE p0 (appendM c i o l).2.p := by
  have h1 := prog_still hl ho h (i * Sx.halfSz c + o) (bodyB l)
  unfold appendM
  split
  · exact h
  · split
    · exact h1
    · exact prog_still hl ho h1 _ _
end Go.Proofs.YtbbaoeidobdblaaGreat.Sx

/- ref01: Sum, Get, GetText, erased. -/
set_option linter.unusedVariables false
set_option linter.unusedSimpArgs false
namespace Go.Proofs.YtbbaoeidobdblaaGreat.Sx
open Go
attribute [local simp ↓] ifb_true' ifb_false'
attribute [local simp] ifb_true ifb_false ifb_eq sx argsT find ev evOp evs evo evBin evInt evStr evNil evNilA ptrA slcA isNoneA asB evLoad look del cellsB evUn evConv kdec fld evFieldA evField evIdxA evIdx evSlc bndL bndH evLen mmi put resV guardV gvL setO tupV cellsOf ones one upd lits nv exitTo SV.val CV.val TI.agg rdyA allR keepB scan simpO gsp isS subs keepT pickT wr memN pubs Res.fact Region.binds bld rest give delL back Res.eqv vi vb num Sv.val undef
theorem sumM_eq (l : List Int) : sumM l = (sumP l).2 * 65536 + (sumP l).1 := by
  obtain ⟨h1, h2, h3, h4⟩ := sumP_le l
  unfold sumM
  generalize sumP l = s at *
  obtain ⟨p, q⟩ := s
  simp only at *
  obtain ⟨p, rfl⟩ : ∃ n : Nat, p = n := ⟨p.toNat, by omega⟩
  obtain ⟨q, rfl⟩ : ∃ n : Nat, q = n := ⟨q.toNat, by omega⟩
  have e0 : ((2 : Int) ^ min 16 IntKind.u32.bits) = 65536 := by decide
  have e1 : ((2 : Int) ^ IntKind.u32.bits) = 4294967296 := by decide
  rw [e0, e1, u32_wrap, u32_wrap]
  have e2 : (((q : Int) * 65536) % 4294967296 % 4294967296).toNat = q * 65536 := by omega
  have e3 : ((p : Int) % 4294967296).toNat = p := by omega
  rw [e2, e3]
  have e4 : q * 65536 ||| p = q * 65536 + p := by
    rw [show (65536 : Nat) = 2 ^ 16 from rfl, ← Nat.shiftLeft_eq, ← Nat.shiftLeft_add_eq_or_of_lt (by omega)]
  rw [e4]
  omega
set_option maxHeartbeats 1000000 in
theorem refSum0 (w : World) (I : Nat → Prop) (hI : ∀ b, I b → b < w.heap.size) {a : Option Addr} {n c : Nat} (l : List Int) (h : ∀ W, Ext I w W → Sv.ok dByte W (a, n, c) l) (hb : ∀ x, x ∈ l → 0 ≤ x ∧ x ≤ 255) :
    Fn0 Tryz.prog 127 #[.slice a n c] w I (fun _ : Unit => .int .u32 (sumM l)) (fun _ _ => True) := by
  obtain rfl : n = l.length := (h w (Ext.refl _ _)).1
  have hl := (h w (Ext.refl _ _)).2.2.1
  refine enter (svs := [.c (.v (.slice a l.length c))]) tysOk Tryz.func127 rfl Tryz.ntmps127 Tryz.results127 (by kernel_rfl) (by simp) hI (fun W => Sv.ok dByte W (a, l.length, c) l) h fun C hC hN ok => ?_
  simp [hN]
  refine loopK [0] ok (fun i : Nat => [(5, .c (.v (.int .i64 i))), (3, .c (.v (.int .i64 (sumP (l.take i)).1))), (4, .c (.v (.int .i64 (sumP (l.take i)).2)))]) (fun _ => []) (fun i W => i ≤ l.length) (fun i => l.length - i) 0 ?_ ?_ (fun W hW => Nat.zero_le _) ?_
  · simp [sumP]
  · simp
  rintro i W hi hG next
  have hs := sumP_le (l.take i)
  rcases Nat.lt_or_ge i l.length with hlt | hge
  · obtain ⟨b, o, e, _⟩ := byte_get (show Sv.ok dByte W (a, l.length, c) l from hG) hlt
    cases e
    have e6 : IntKind.i64.wrap ((i : Int) + 1) = (i + 1 : Nat) := by rw [w64 (by omega) (by omega)]; omega
    have ft : sumP (l.take (i + 1)) = (((sumP (l.take i)).1 + l[i]) % 65521, ((sumP (l.take i)).2 + ((sumP (l.take i)).1 + l[i]) % 65521) % 65521) := by
      rw [List.take_add_one, List.getElem?_eq_getElem hlt]
      exact sumP_snoc _ _
    have hx := hb _ (List.getElem_mem hlt)
    have hget : ∀ W, Sv.ok dByte W (some ⟨b, o, none⟩, l.length, c) l → ∃ v, W.cell? ⟨b, o + i, none⟩ = some v ∧ v = .int .u8 l[i] := fun W hW => by
      obtain ⟨b'', o'', e, hc⟩ := byte_get hW hlt
      cases e
      exact ⟨_, hc, rfl⟩
    generalize sumP (l.take i) = s at hs ft
    obtain ⟨p, q⟩ := s
    simp only at hs ft
    generalize l[i] = x at hx hget ft
    have w1 : IntKind.i64.wrap x = x := w64 (by omega) (by omega)
    have w2 : IntKind.i64.wrap (p + x) = p + x := w64 (by omega) (by omega)
    have w3 : (p + x).tmod 65521 = (p + x) % 65521 := Int.tmod_eq_emod_of_nonneg (by omega)
    have w4 : IntKind.i64.wrap (q + (p + x) % 65521) = q + (p + x) % 65521 := w64 (by omega) (by omega)
    have w5 : (q + (p + x) % 65521).tmod 65521 = (q + (p + x) % 65521) % 65521 := Int.tmod_eq_emod_of_nonneg (by omega)
    simp [hN, hlt]
    refine load1 ok rfl rfl rfl rfl (fun v W => v = .int .u8 x) (fun W hW => hget W hW.2) ?_
    rintro v W rfl _
    simp [hN, e6, w1, w2, w3, w4, w5]
    exact next (i + 1) _ _ (by omega) (fun W h => ⟨hlt, h.2⟩) (by simp [ft])
  · have hT : l.take i = l := List.take_of_length_le hge
    rw [hT] at hs
    simp only [hT]
    have hm := sumM_eq l
    have w6 : IntKind.i64.wrap ((sumP l).2 * 2 ^ min 16 IntKind.i64.bits) = (sumP l).2 * 65536 := by
      rw [show ((2 : Int) ^ min 16 IntKind.i64.bits) = 65536 by decide]
      exact w64 (by omega) (by omega)
    have w7 : IntKind.i64.wrap ((sumP l).2 * 65536 + (sumP l).1) = (sumP l).2 * 65536 + (sumP l).1 := w64 (by omega) (by omega)
    have w8 : IntKind.u32.wrap ((sumP l).2 * 65536 + (sumP l).1) = sumM l := by rw [u32_wrap, hm]; omega
    simp [hN, Nat.not_lt.2 hge, w6, w7, w8]
    exact ret0 hC () rfl fun _ _ _ => trivial
theorem or8 {v x : Int} (hv : 0 ≤ v ∧ v < 256 ^ 7) (hx : 0 ≤ x ∧ x ≤ 255) : IntKind.u64.wrap (((IntKind.u64.wrap (v * 2 ^ min 8 IntKind.u64.bits) % 2 ^ IntKind.u64.bits).toNat ||| (x % 2 ^ IntKind.u64.bits).toNat : Nat) : Int) = x + 256 * v := by
  obtain ⟨v, rfl⟩ : ∃ n : Nat, v = n := ⟨v.toNat, by omega⟩
  obtain ⟨x, rfl⟩ : ∃ n : Nat, x = n := ⟨x.toNat, by omega⟩
  have h1 : v < 72057594037927936 := by have := hv.2; rw [show ((256 : Int) ^ 7) = 72057594037927936 by decide] at this; omega
  have e0 : ((2 : Int) ^ min 8 IntKind.u64.bits) = 256 := by decide
  have e1 : ((2 : Int) ^ IntKind.u64.bits) = 18446744073709551616 := by decide
  rw [e0, e1, u64_wrap, u64_wrap]
  have e2 : (((v : Int) * 256) % 18446744073709551616 % 18446744073709551616).toNat = v * 256 := by omega
  have e3 : ((x : Int) % 18446744073709551616).toNat = x := by omega
  rw [e2, e3]
  have e4 : v * 256 ||| x = v * 256 + x := by
    rw [show (256 : Nat) = 2 ^ 8 from rfl, ← Nat.shiftLeft_eq, ← Nat.shiftLeft_add_eq_or_of_lt (by omega)]
  rw [e4]
  omega
set_option maxHeartbeats 1000000 in
theorem refGet0 (w : World) (I : Nat → Prop) (hI : ∀ b, I b → b < w.heap.size) {a : Option Addr} {n c : Nat} (xs : List Int) (h : ∀ W, Ext I w W → Sv.ok dByte W (a, n, c) xs) (hb : ∀ x, x ∈ xs → 0 ≤ x ∧ x ≤ 255) (o k : Nat) (ho : o ≤ 1000000000000) (hk : 1 ≤ k ∧ k ≤ 8) :
    Fn0 Tryz.prog 125 #[.slice a n c, .int .i64 (o : Nat), .int .i64 (k : Nat)] w I (fun _ : Unit => .tuple #[.int .u64 (getM xs o k).1, .int .i64 (getM xs o k).2]) (fun _ _ => True) := by
  obtain rfl : n = xs.length := (h w (Ext.refl _ _)).1
  have hl := (h w (Ext.refl _ _)).2.2.1
  have hcap : xs.length ≤ c := (h w (Ext.refl _ _)).2.1
  refine enter (svs := [.c (.v (.slice a xs.length c)), .c (.v (.int .i64 (o : Nat))), .c (.v (.int .i64 (k : Nat)))]) tysOk Tryz.func125 rfl Tryz.ntmps125 Tryz.results125 (by kernel_rfl) (by simp) hI (fun W => Sv.ok dByte W (a, xs.length, c) xs) h fun C hC hN ok => ?_
  have h1 : ¬ ((o : Nat) : Int) < 0 := by omega
  have h2 : ¬ ((k : Nat) : Int) < 1 := by omega
  have h3 : ¬ (8 : Int) < ((k : Nat) : Int) := by omega
  have e1 : IntKind.i64.wrap ((xs.length : Int) - (o : Nat)) = xs.length - (o : Nat) := w64 (by omega) (by omega)
  have e2 : IntKind.i64.wrap ((k : Int) - 1) = (k : Nat) - 1 := w64 (by omega) (by omega)
  by_cases hsh : xs.length < o + k
  · have hg : getM xs o k = (0, 3) := by rw [getM, if_pos hsh]
    by_cases h4 : xs.length < o
    · simp [hN, h1, h2, h3, e1, h4]
      exact ret0 hC () (by rw [hg]) fun _ _ _ => trivial
    · have h5 : (xs.length : Int) - (o : Nat) < (k : Nat) := by omega
      simp [hN, h1, h2, h3, e1, h4, h5]
      exact ret0 hC () (by rw [hg]) fun _ _ _ => trivial
  have hg : getM xs o k = (valB ((xs.drop o).take k), 0) := by rw [getM, if_neg hsh]
  have h4 : ¬ xs.length < o := by omega
  have h5 : ¬ (xs.length : Int) - (o : Nat) < (k : Nat) := by omega
  simp [hN, h1, h2, h3, e1, e2, h4, h5]
  have hby := byte_sub hb o k
  have hyl : ((xs.drop o).take k).length = k := by rw [List.length_take, List.length_drop]; omega
  have hgi : ∀ i (hi : i < k), ∃ h, ((xs.drop o).take k)[i]? = some (xs[o + i]'h) := fun i hi => ⟨by omega, by rw [List.getElem?_eq_getElem (by omega), List.getElem_take, List.getElem_drop]⟩
  generalize (xs.drop o).take k = ys at hby hyl hg hgi
  refine loopK [0, 1] ok (fun j : Nat => [(9, .c (.v (.int .i64 ((j : Nat) - 1)))), (8, .c (.v (.int .u64 (valB (ys.drop j)))))]) (fun _ => []) (fun j W => j ≤ k) (fun j => j) k ?_ ?_ (fun W hW => Nat.le_refl _) ?_
  · simp [valB, List.drop_eq_nil_of_le (Nat.le_of_eq hyl)]
  · simp
  rintro j W hj hG next
  cases j with
  | zero =>
    simp [hN]
    exact ret0 hC () (by rw [hg]) fun _ _ _ => trivial
  | succ i =>
    have hik : i < k := by omega
    obtain ⟨hoi, hyi⟩ := hgi i hik
    rw [List.getElem?_eq_getElem (by omega)] at hyi
    replace hyi := Option.some.inj hyi
    obtain ⟨b, off, e, _⟩ := byte_get hG hoi
    cases e
    have hx := hby _ (List.getElem_mem (show i < ys.length by omega))
    have hget : ∀ W, Sv.ok dByte W (some ⟨b, off, none⟩, xs.length, c) xs → ∃ v, W.cell? ⟨b, off + (o + i), none⟩ = some v ∧ v = .int .u8 ys[i] := fun W hW => by
      obtain ⟨b'', o'', e, hc⟩ := byte_get hW hoi
      cases e
      exact ⟨_, hc, by rw [hyi]⟩
    have ht : valB (ys.drop i) = ys[i] + 256 * valB (ys.drop (i + 1)) := by rw [List.drop_eq_getElem_cons (show i < ys.length by omega), valB]
    have hv := valB_le (ys.drop (i + 1)) fun x hx => hby x (List.mem_of_mem_drop hx)
    have hv7 : valB (ys.drop (i + 1)) < 256 ^ 7 := Int.lt_of_lt_of_le hv.2 (by
      rw [List.length_drop]
      have h7 : (256 : Nat) ^ (ys.length - (i + 1)) ≤ 256 ^ 7 := Nat.pow_le_pow_right (by decide) (by omega)
      have e : ∀ n : Nat, ((256 : Int) ^ n) = ((256 ^ n : Nat) : Int) := fun n => by rw [Int.natCast_pow]; rfl
      rw [e, e]
      exact Int.ofNat_le.2 h7)
    generalize ys[i] = x at hx hget ht
    generalize valB (ys.drop (i + 1)) = v at hv hv7 ht
    have w4 := or8 ⟨hv.1, hv7⟩ hx
    have w1 : IntKind.u64.wrap x = x := by rw [u64_wrap]; omega
    have w2 : IntKind.i64.wrap ((i : Int) - 1) = (i : Nat) - 1 := w64 (by omega) (by omega)
    obtain ⟨z, hz⟩ : ∃ z, z = o + i := ⟨_, rfl⟩
    have w3 : IntKind.i64.wrap ((o : Int) + (i : Nat)) = (z : Nat) := by rw [w64 (by omega) (by omega)]; omega
    have hzx : z < xs.length := by omega
    rw [← hz] at hget
    simp [hN, w3, hzx]
    refine load1 ok rfl rfl rfl rfl (fun v W => v = .int .u8 x) (fun W hW => hget W hW.2) ?_
    rintro v' W rfl _
    simp [hN, w1, w2, w4]
    exact next i _ _ (by omega) (fun W h => ⟨by omega, h.2⟩) (by simp [ht])
end Go.Proofs.YtbbaoeidobdblaaGreat.Sx

/- ref01.GetText; ref09.reader: number, text, many. -/
set_option linter.unusedVariables false
set_option linter.unusedSimpArgs false
namespace Go.Proofs.YtbbaoeidobdblaaGreat.Sx
open Go
attribute [local simp ↓] ifb_true' ifb_false'
attribute [local simp] ifb_true ifb_false ifb_eq sx argsT find ev evOp evs evo evBin evInt evStr evNil evNilA ptrA slcA isNoneA asB evLoad look del cellsB evUn evConv kdec fld evFieldA evField evIdxA evIdx evSlc bndL bndH evLen mmi put resV guardV gvL setO tupV cellsOf ones one upd lits nv exitTo SV.val CV.val TI.agg rdyA allR keepB scan simpO gsp isS subs keepT pickT wr memN pubs Res.fact Region.binds bld rest give delL back Res.eqv vi vb num Sv.val undef
set_option maxHeartbeats 1000000 in
theorem refText0 (w : World) (I : Nat → Prop) (hI : ∀ b, I b → b < w.heap.size) {a : Option Addr} {n c : Nat} (xs : List Int) (h : ∀ W, Ext I w W → Sv.ok dByte W (a, n, c) xs) (hb : ∀ x, x ∈ xs → 0 ≤ x ∧ x ≤ 255) (o : Nat) (ho : o ≤ 1000000000000) :
    Fn0 Tryz.prog 214 #[.slice a n c, .int .i64 (o : Nat)] w I (fun _ : Unit => .tuple #[.string (textR xs (o, 0)).1, .int .i64 ((textR xs (o, 0)).2.1 : Nat), .int .i64 (textR xs (o, 0)).2.2]) (fun _ _ => True) := by
  obtain rfl : n = xs.length := (h w (Ext.refl _ _)).1
  have hl := (h w (Ext.refl _ _)).2.2.1
  have hcap : xs.length ≤ c := (h w (Ext.refl _ _)).2.1
  refine enter (svs := [.c (.v (.slice a xs.length c)), .c (.v (.int .i64 (o : Nat)))]) tysOk Tryz.func214 rfl Tryz.ntmps214 Tryz.results214 (by kernel_rfl) (by simp) hI (fun W => Sv.ok dByte W (a, xs.length, c) xs) h fun C hC hN ok => ?_
  simp [hN]
  refine call0 ok rfl rfl rfl (fun w I hI hG => refGet0 w I hI (a := a) (n := xs.length) (c := c) xs (fun W e => hG W e) hb o 4 ho (by decide)) fun _ W _ => ?_
  have hle := getM_le hb o 4
  have hR := textR.eq_1 xs (o, 0)
  simp only [ne_eq, not_true, if_false] at hR
  rcases Nat.lt_or_ge xs.length (o + 4) with h1 | h1
  · have hg : getM xs o 4 = (0, 3) := by rw [getM, if_pos h1]
    rw [if_pos h1] at hR
    rw [hR] at hC
    simp [hN, hg]
    exact ret0 hC () rfl fun _ _ _ => trivial
  have hg : getM xs o 4 = (valB ((xs.drop o).take 4), 0) := by rw [getM, if_neg (by omega)]
  rw [if_neg (by omega)] at hR
  rw [hg] at hle ⊢
  simp only at hle
  generalize valB ((xs.drop o).take 4) = v at hle hR ⊢
  obtain ⟨k, rfl⟩ : ∃ k : Nat, v = k := ⟨v.toNat, by omega⟩
  rw [Int.toNat_natCast] at hR
  have hk : k < 4294967296 := by have := hle.2; simp at this; omega
  obtain ⟨u, hu⟩ : ∃ u, u = o + 4 := ⟨_, rfl⟩
  rw [← hu] at hR
  have e1 : IntKind.i64.wrap ((o : Int) + 4) = (u : Nat) := by rw [w64 (by omega) (by omega)]; omega
  have e2 : IntKind.i64.wrap ((xs.length : Int) - (o : Nat)) = (xs.length : Int) - (o : Nat) := w64 (by omega) (by omega)
  have e3 : IntKind.i64.wrap ((xs.length : Int) - (o : Nat) - 4) = (xs.length : Int) - (o : Nat) - 4 := w64 (by omega) (by omega)
  have e4 : IntKind.i64.wrap (k : Int) = (k : Nat) := w64 (by omega) (by omega)
  by_cases hgt : xs.length < u + k
  · have hgt' : (xs.length : Int) - (o : Nat) - 4 < (k : Nat) := by omega
    rw [if_pos hgt] at hR
    rw [hR] at hC
    simp [hN, e1, e2, e3, e4, hgt']
    exact ret0 hC () rfl fun _ _ _ => trivial
  have hgt' : ¬ (xs.length : Int) - (o : Nat) - 4 < (k : Nat) := by omega
  rw [if_neg hgt] at hR
  rw [hR] at hC
  obtain ⟨y, hy⟩ : ∃ y, y = u + k := ⟨_, rfl⟩
  have e5 : IntKind.i64.wrap ((u : Int) + (k : Nat)) = (y : Nat) := by rw [w64 (by omega) (by omega)]; omega
  have huy : (u : Int) ≤ (y : Nat) := by omega
  have hyc : (y : Int) ≤ (c : Nat) := by omega
  have eyu : y - u = k := by omega
  simp [hN, e1, e2, e3, e4, e5, huy, hyc, eyu, hgt']
  refine strS ok rfl rfl rfl rfl rfl rfl rfl rfl rfl ((xs.drop u).take k) (fun W hW => ?_) ?_
  · exact sub_ok hW (by omega)
  rw [← hy] at hC
  simp [hN, e1, e5]
  exact ret0 hC () rfl fun _ _ _ => trivial
abbrev rdQ (g : Nat) (a : Option Addr) (n c : Nat) (o : Nat) (e : Int) : Res := .box g 219 [.v (.slice a n c), .v (.int .i64 (o : Nat)), .b (!decide (e = 0))]
theorem getM_getR (xs : List Int) (o k : Nat) : getR xs (o, 0) k = ((getM xs o k).1, (o + k, (getM xs o k).2)) := by
  unfold getR getM
  simp only [ne_eq, not_true, if_false]
  split <;> rfl
set_option maxHeartbeats 1000000 in
theorem refNum0 (w : World) (I S : Nat → Prop) (hI : ∀ b, I b → b < w.heap.size) (gr : Nat) {a : Option Addr} {n c : Nat} (xs : List Int) (h : ∀ W, Ext I w W → Sv.ok dByte W (a, n, c) xs) (hb : ∀ x, x ∈ xs → 0 ≤ x ∧ x ≤ 255) (o : Nat) (q : Rs) (ho : o ≤ 200000000000) (hq : q.2 = 0 → o = q.1) (hS : Owns [rdQ gr a n c o q.2] S w) (hSI : ∀ b, S b → b < w.heap.size ∧ ¬ I b) :
    FnS Tryz.prog 170 #[ptrV gr] w I S (fun v : Int => .int .i64 v) (fun _ => [rdQ gr a n c (o + 8) (intR xs q).2.2]) (fun v _ => q.2 = 0 → v = (intR xs q).1) := by
  obtain rfl : n = xs.length := (h w (Ext.refl _ _)).1
  refine enterS (svs := [.c (.bp 1000 gr 0)]) tysOk Tryz.func170 rfl Tryz.ntmps170 Tryz.results170 (by kernel_rfl) (by simp) hI [rdQ gr a xs.length c o q.2] hS hSI (fun W => Sv.ok dByte W (a, xs.length, c) xs) h fun C hC hN ok => ?_
  have e1 : IntKind.i64.wrap ((o : Int) + 8) = (o + 8 : Nat) := by rw [w64 (by omega) (by omega)]; omega
  have hv : q.2 = 0 → IntKind.i64.wrap (getM xs o 8).1 = (intR xs q).1 := fun h0 => by
    obtain ⟨p, e⟩ := q
    replace h0 : e = 0 := h0
    subst h0
    obtain rfl := hq rfl
    rw [intR, getM_getR]
  have hbd : (decide (q.2 ≠ 0) || decide ((getM xs o 8).2 ≠ 0)) = !decide ((intR xs q).2.2 = 0) := by
    obtain ⟨p, e⟩ := q
    by_cases h0 : e = 0
    · subst h0
      obtain rfl := hq rfl
      rw [intR, getM_getR]
      simp
    · simp [intR, getR_err (r := (p, e)) h0, h0]
  simp [hN]
  refine drawK ok mixed (by kernel_rfl) ?_
  simp (maxSteps := 2000000) -implicitDefEqProofs [hN]
  refine call0 ok rfl rfl rfl (fun w I hI hG => refGet0 w I hI (a := a) (n := xs.length) (c := c) xs (fun W e => hG W e) hb o 8 (by omega) (by decide)) fun _ W _ => ?_
  generalize getM xs o 8 = G at hv hbd ⊢
  simp (maxSteps := 2000000) -implicitDefEqProofs [hN]
  refine drawW ok mixed (by kernel_rfl) ?_
  simp (maxSteps := 2000000) -implicitDefEqProofs [hN, e1]
  refine ⟨fun h0 => ?_, fun h0 => ?_⟩
  · exact retS hC _ [1000] rfl (by simp only [rdQ, ← hbd]; simp [h0]) fun _ _ _ h => hv h
  · exact retS hC _ [1000] rfl (by simp only [rdQ, ← hbd]; simp [h0]) fun _ _ _ h => hv h
end Go.Proofs.YtbbaoeidobdblaaGreat.Sx

/- ref01: Body, AppendHalf, ReadHalf, Read, erased. -/
set_option linter.unusedVariables false
set_option linter.unusedSimpArgs false
namespace Go.Proofs.YtbbaoeidobdblaaGreat.Sx
open Go
attribute [local simp ↓] ifb_true' ifb_false'
attribute [local simp] ifb_true ifb_false ifb_eq sx argsT find ev evOp evs evo evBin evInt evStr evNil evNilA ptrA slcA isNoneA asB evLoad look del cellsB evUn evConv kdec fld evFieldA evField evIdxA evIdx evSlc bndL bndH evLen mmi put resV guardV gvL setO tupV cellsOf ones one upd lits nv exitTo SV.val CV.val TI.agg rdyA allR keepB scan simpO gsp isS subs keepT pickT wr memN pubs Res.fact Region.binds bld rest give delL back Res.eqv vi vb num Sv.val undef
section
variable {P : Program} {C : Ctx} {T : Ty} {res : List ResultVar} {p : Pos} {tm : Tm} {m : Mem}
theorem forget (G' : World → Prop) (hG : ∀ W, m.G W → G' W) (h : At C p tm ⟨m.B, G', m.rs⟩) : At C p tm m := fun a w cs hR hJ => h a w cs hR (hJ.weaken (fun _ x => x) hG (fun _ x => x))
/-- What is known holds of some world. -/
theorem knowG (h : ∀ W, m.G W → At C p tm m) : At C p tm m := fun a w cs hR hJ => h w hJ.atG a w cs hR hJ
end
set_option maxHeartbeats 1000000 in
theorem refBody0 (w : World) (I : Nat → Prop) (hI : ∀ b, I b → b < w.heap.size) (l : List Int) (s : Sl) (h : ∀ W, Ext I w W → s.ok dByte W l) (hb : ∀ x, x ∈ l → 0 ≤ x ∧ x ≤ 255) (hl : l.length ≤ 65000) :
    Fn0 Tryz.prog 81 #[.slice s.1 l.length s.2] w I (fun r : Sl => .tuple #[.slice r.1 (6 + l.length) r.2, .int .i64 0]) (fun r W => r.ok dByte W (bodyB l)) := by
  obtain ⟨a, c⟩ := s
  refine enter (svs := [.c (.v (.slice a l.length c))]) tysOk Tryz.func81 rfl Tryz.ntmps81 Tryz.results81 (by kernel_rfl) (by simp) hI (fun W => Sl.ok dByte W (a, c) l) h fun C hC hN ok => ?_
  have h1 : ¬ (65000 : Int) < l.length := by omega
  have e1 : IntKind.u64.wrap (l.length : Int) = l.length := by rw [u64_wrap]; omega
  simp [hN, h1, e1]
  refine callS ok rfl rfl rfl [] [] trivial rfl (fun x : Sl => [(600, .row x.1 2 x.2 5 1 (bC (lowB l.length 2)))]) (fun w I S hI hG hO hS => (refPutS w I hI [] (none, 0) _ 2 (fun W _ => by simp [Sl.ok, Rd]) (by simp) (by omega) (by omega)).lone hO) (fun r => by simp) (.inl fun k hk => by cases hk) fun x W _ => ?_
  simp [hN]
  refine appV ok 600 rfl rfl rfl rfl rfl (by decide) rfl rfl rfl rfl rfl rfl dByte l rfl (by show (2 + _) * 1 ≤ _; omega) (by omega) (fun W hW => ⟨rfl, hW⟩) fun k a' c' W hll hr _ => ?_
  have hk : k = l.map (Value.int .u8) := rows_byte.1 hr
  have hrow : bC (lowB l.length 2) ++ k.map nv = bC (lowB l.length 2 ++ l) := by rw [hk, bC_nv, bC_app]
  rw [hrow]
  simp [hN]
  have hm := sumM_le (lowB l.length 2 ++ l)
  obtain ⟨m, hm'⟩ : ∃ m, m = sumM (lowB l.length 2 ++ l) := ⟨_, rfl⟩
  rw [← hm'] at hm
  have e2 : IntKind.u64.wrap m = m := by rw [u64_wrap]; omega
  have hlen : (lowB l.length 2 ++ l).length = 2 + l.length := by simp [lowB_length]
  have hby : ∀ x, x ∈ lowB l.length 2 ++ l → 0 ≤ x ∧ x ≤ 255 := fun x hx => by
    rcases List.mem_append.1 hx with hx | hx
    · exact lowB_byte _ _ _ hx
    · exact hb _ hx
  have hl2 : (lowB l.length 2).length = 2 := lowB_length _ _
  have hc2 : 2 ≤ c' → (2 : Int) ≤ (c' : Nat) := fun h => by omega
  refine pub 600 rfl (by decide) (forget (fun W => Sv.ok dByte W (a', 2 + l.length, c') (lowB l.length 2 ++ l) ∧ Sl.ok dByte W (a, c) l) (fun W hW => ⟨⟨hlen.symm, (byte_ok (xs := lowB l.length 2 ++ l) hW.1 (by omega)).2⟩, hW.2.2⟩) ?_)
  refine knowG fun W0 hW0 => ?_
  have hcap : 2 ≤ c' := by
    have : (lowB l.length 2 ++ l).length ≤ c' := hW0.1.2.1
    omega
  replace hc2 := hc2 hcap
  refine drawK ok mixed (by kernel_rfl) ?_
  simp (maxSteps := 2000000) -implicitDefEqProofs [hN, hc2, hcap]
  refine call0 ok rfl rfl rfl (fun w I hI hG => refSum0 w I hI (a := a') (n := 2 + l.length) (c := c') (lowB l.length 2 ++ l) (fun W e => (hG W e).1) hby) fun _ W _ => ?_
  simp only [← hm']
  simp (maxSteps := 2000000) -implicitDefEqProofs [hN, e2, hc2, hcap]
  refine callS ok rfl rfl rfl [] [] trivial rfl (fun x : Sl => [(601, .row x.1 6 x.2 5 1 (bC (lowB l.length 2 ++ lowB m 4)))]) (fun w I S hI hG hO hS => by have := (refPutS w I hI (lowB l.length 2) (a', c') m 4 (fun W e => by have := (Sv.take (i := 2) (hG W e).1 (by omega)).2; rw [List.take_left' hl2] at this; exact this) (by omega) (by omega) (by omega)).lone hO; rw [hl2] at this; exact this) (fun r => by simp) (.inl fun k hk => by cases hk) fun x W _ => ?_
  simp (maxSteps := 2000000) -implicitDefEqProofs [hN]
  refine appV ok 601 rfl rfl rfl rfl rfl (by decide) rfl rfl rfl rfl rfl rfl dByte l rfl (by show (6 + _) * 1 ≤ _; omega) (by omega) (fun W hW => ⟨rfl, hW.2⟩) fun k2 a2 c2 W hll2 hr2 _ => ?_
  have hk2 : k2 = l.map (Value.int .u8) := rows_byte.1 hr2
  have hrow2 : bC (lowB l.length 2 ++ lowB m 4) ++ k2.map nv = bC (bodyB l) := by rw [hk2, bC_nv, bC_app, bodyB, hm']
  rw [hrow2]
  simp (maxSteps := 2000000) -implicitDefEqProofs [hN]
  refine ret0 hC (a2, c2) rfl fun W hp hG => ?_
  exact (byte_ok (xs := bodyB l) hp.1 (by rw [bodyB_length]; omega)).2
end Go.Proofs.YtbbaoeidobdblaaGreat.Sx

/- ref09.reader: text, many, inode. -/
set_option linter.unusedVariables false
set_option linter.unusedSimpArgs false
namespace Go.Proofs.YtbbaoeidobdblaaGreat.Sx
open Go
attribute [local simp ↓] ifb_true' ifb_false'
attribute [local simp] ifb_true ifb_false ifb_eq sx argsT find ev evOp evs evo evBin evInt evStr evNil evNilA ptrA slcA isNoneA asB evLoad look del cellsB evUn evConv kdec fld evFieldA evField evIdxA evIdx evSlc bndL bndH evLen mmi put resV guardV gvL setO tupV cellsOf ones one upd lits nv exitTo SV.val CV.val TI.agg rdyA allR keepB scan simpO gsp isS subs keepT pickT wr memN pubs Res.fact Region.binds bld rest give delL back Res.eqv vi vb num Sv.val undef
set_option maxHeartbeats 1000000 in
theorem refRText0 (w : World) (I S : Nat → Prop) (hI : ∀ b, I b → b < w.heap.size) (gr : Nat) {a : Option Addr} {n c : Nat} (xs : List Int) (h : ∀ W, Ext I w W → Sv.ok dByte W (a, n, c) xs) (hb : ∀ x, x ∈ xs → 0 ≤ x ∧ x ≤ 255) (o : Nat) (ho : o ≤ 200000000000) (hS : Owns [rdQ gr a n c o 0] S w) (hSI : ∀ b, S b → b < w.heap.size ∧ ¬ I b) :
    FnS Tryz.prog 201 #[ptrV gr] w I S (fun _ : Unit => .string (textR xs (o, 0)).1) (fun _ => [rdQ gr a n c (textR xs (o, 0)).2.1 (textR xs (o, 0)).2.2]) (fun _ _ => True) := by
  obtain rfl : n = xs.length := (h w (Ext.refl _ _)).1
  refine enterS (svs := [.c (.bp 1000 gr 0)]) tysOk Tryz.func201 rfl Tryz.ntmps201 Tryz.results201 (by kernel_rfl) (by simp) hI [rdQ gr a xs.length c o 0] hS hSI (fun W => Sv.ok dByte W (a, xs.length, c) xs) h fun C hC hN ok => ?_
  simp [hN]
  refine drawK ok mixed (by kernel_rfl) ?_
  simp (maxSteps := 2000000) -implicitDefEqProofs [hN]
  refine call0 ok rfl rfl rfl (fun w I hI hG => refText0 w I hI (a := a) (n := xs.length) (c := c) xs (fun W e => hG W e) hb o (by omega)) fun _ W _ => ?_
  generalize textR xs (o, 0) = G at hC ⊢
  simp (maxSteps := 2000000) -implicitDefEqProofs [hN]
  exact retS hC () [1000] rfl (by simp) fun _ _ _ => trivial
set_option maxHeartbeats 1000000 in
theorem refMany0 (w : World) (I S : Nat → Prop) (hI : ∀ b, I b → b < w.heap.size) (gr : Nat) {a : Option Addr} {n c : Nat} (xs : List Int) (h : ∀ W, Ext I w W → Sv.ok dByte W (a, n, c) xs) (hb : ∀ x, x ∈ xs → 0 ≤ x ∧ x ≤ 255) (o : Nat) (ho : o ≤ 200000000000) (hS : Owns [rdQ gr a n c o 0] S w) (hSI : ∀ b, S b → b < w.heap.size ∧ ¬ I b) :
    FnS Tryz.prog 202 #[ptrV gr] w I S (fun _ : Unit => .int .i64 (getR xs (o, 0) 4).1) (fun _ => [rdQ gr a n c (getR xs (o, 0) 4).2.1 (getR xs (o, 0) 4).2.2]) (fun _ _ => True) := by
  obtain rfl : n = xs.length := (h w (Ext.refl _ _)).1
  refine enterS (svs := [.c (.bp 1000 gr 0)]) tysOk Tryz.func202 rfl Tryz.ntmps202 Tryz.results202 (by kernel_rfl) (by simp) hI [rdQ gr a xs.length c o 0] hS hSI (fun W => Sv.ok dByte W (a, xs.length, c) xs) h fun C hC hN ok => ?_
  have e1 : IntKind.i64.wrap ((o : Int) + 4) = (o + 4 : Nat) := by rw [w64 (by omega) (by omega)]; omega
  have hle := getM_le hb o 4
  simp only [getM_getR] at hC
  simp [hN]
  refine drawK ok mixed (by kernel_rfl) ?_
  simp (maxSteps := 2000000) -implicitDefEqProofs [hN]
  refine call0 ok rfl rfl rfl (fun w I hI hG => refGet0 w I hI (a := a) (n := xs.length) (c := c) xs (fun W e => hG W e) hb o 4 (by omega) (by decide)) fun _ W _ => ?_
  generalize getM xs o 4 = G at hC hle ⊢
  have e2 : IntKind.i64.wrap G.1 = G.1 := by have h1 := hle.1; have h2 := hle.2; simp at h2; exact w64 (by omega) (by omega)
  simp (maxSteps := 2000000) -implicitDefEqProofs [hN]
  refine drawW ok mixed (by kernel_rfl) ?_
  simp (maxSteps := 2000000) -implicitDefEqProofs [hN, e1, e2]
  exact retS hC () [1000] rfl (by simp) fun _ _ _ => trivial
end Go.Proofs.YtbbaoeidobdblaaGreat.Sx

/- ref09.reader: inode. -/
set_option linter.unusedVariables false
set_option linter.unusedSimpArgs false
namespace Go.Proofs.YtbbaoeidobdblaaGreat.Sx
open Go
attribute [local simp ↓] ifb_true' ifb_false'
attribute [local simp] ifb_true ifb_false ifb_eq sx argsT find ev evOp evs evo evBin evInt evStr evNil evNilA ptrA slcA isNoneA asB evLoad look del cellsB evUn evConv kdec fld evFieldA evField evIdxA evIdx evSlc bndL bndH evLen mmi put resV guardV gvL setO tupV cellsOf ones one upd lits nv exitTo SV.val CV.val TI.agg rdyA allR keepB scan simpO gsp isS subs keepT pickT wr memN pubs Res.fact Region.binds bld rest give delL back Res.eqv vi vb num Sv.val undef
section
variable {C : Ctx} {p : Pos} {tm : Tm} {m : Mem}
end
theorem ino_back {l : List Int} {r : Rs} (h : (inoR l r).2.2 = 0) : (inoM l r).2.2 = 0 ∧ (inoE l r).2.2 = 0 ∧ (inoN l r).2.2 = 0 ∧ (inoA l r).2.2 = 0 ∧ (nthR l r 4).2 = 0 := by
  have h1 : (inoM l r).2.2 = 0 := many_back h
  have h2 : (inoE l r).2.2 = 0 := getR_back h1
  have h3 : (inoN l r).2.2 = 0 := many_back h2
  have h4 : (inoA l r).2.2 = 0 := getR_back h3
  exact ⟨h1, h2, h3, h4, textR_back h4⟩
theorem nth_pos {l : List Int} {o : Nat} : ∀ i, (nthR l (o, 0) i).2 = 0 → o + 8 * i = (nthR l (o, 0) i).1
  | 0, _ => rfl
  | i + 1, h => by
    have h1 := intR_le (l := l) (r := nthR l (o, 0) i) h
    have h2 := nth_pos i h1.1
    have h3 : (nthR l (o, 0) (i + 1)).1 = (nthR l (o, 0) i).1 + 8 := h1.2.1
    omega
theorem nth_pre {l : List Int} {r : Rs} {i : Nat} (h : (nthR l r (i + 1)).2 = 0) : (nthR l r i).2 = 0 := (intR_le h).1
theorem pair0 {r : Rs} (h : r.2 = 0) : r = (r.1, 0) := by rw [← h]
theorem textR_at {l : List Int} {o : Nat} (hl : o ≤ l.length) : (textR l (o, 0)).2.1 ≤ l.length := by
  by_cases h : (textR l (o, 0)).2.2 = 0
  · exact (textR_le h).2
  · unfold textR at h ⊢
    simp only [ne_eq, not_true, if_false] at h ⊢
    split
    · exact Nat.zero_le _
    · rename_i h1
      rw [if_neg h1] at h
      split
      · exact Nat.zero_le _
      · rename_i h2
        rw [if_neg h2] at h
        exact absurd rfl h
abbrev inb (v1 v2 v3 v4 : Int) (t : ByteArray) (e r : CV) : List CV := [.v (.int .i64 v1), .v (.int .i64 v2), .v (.int .i64 v3), .v (.int .i64 v4), .v (.string t), e, r]
abbrev inbZ : List CV := inb 0 0 0 0 ⟨#[]⟩ (.v (.slice none 0 0)) (.v (.slice none 0 0))
set_option maxHeartbeats 4000000 in
set_option maxRecDepth 100000 in
theorem refInode0 (w : World) (I S : Nat → Prop) (hI : ∀ b, I b → b < w.heap.size) (gr : Nat) {a : Option Addr} {n c : Nat} (xs : List Int) (hx10 : xs.length ≤ 10000000000) (h : ∀ W, Ext I w W → Sv.ok dByte W (a, n, c) xs) (hb : ∀ x, x ∈ xs → 0 ≤ x ∧ x ≤ 255) (o : Nat) (ho : o ≤ xs.length) (hS : Owns [rdQ gr a n c o 0] S w) (hSI : ∀ b, S b → b < w.heap.size ∧ ¬ I b) :
    FnS Tryz.prog 171 #[ptrV gr] w I S (fun x : Ino × Sl × Sl × Nat => .agg (inoC x.1 x.2.1 x.2.2.1).toArray) (fun x => [rdQ gr a n c x.2.2.2 (inoR xs (o, 0)).2.2]) (fun x W => (inoR xs (o, 0)).2.2 = 0 → x.1 = (inoR xs (o, 0)).1 ∧ x.2.2.2 = (inoR xs (o, 0)).2.1 ∧ InoR W x.1 x.2.1 x.2.2.1) := by
  refine enterS (svs := [.c (.bp 1000 gr 0)]) tysOk Tryz.func171 rfl Tryz.ntmps171 Tryz.results171 (by kernel_rfl) (by simp) hI [rdQ gr a n c o 0] hS hSI (fun W => Sv.ok dByte W (a, n, c) xs) h fun C hC hN ok => ?_
  obtain ⟨q0, hq0⟩ : ∃ q0 : Rs, q0 = (o, 0) := ⟨_, rfl⟩
  have hz0 : (0 : Int) = q0.2 := by rw [hq0]
  have hp := fun i => nth_pos (l := xs) (o := o) i
  have hbk := @ino_back xs (o, 0)
  simp only [← hq0] at hC hp hbk
  have hbad : ∀ (m : Mem) (v : Value) (x : Ino) (se sr : Sl) (p : Nat), (inoR xs q0).2.2 ≠ 0 → v = .agg (inoC x se sr).toArray → give m.rs [1000] [rdQ gr a n c p (inoR xs q0).2.2] → RetP C v m := fun m v x se sr p hne hv hg => retS hC (x, se, sr, p) [1000] hv hg fun W _ _ h => absurd h hne
  simp [hN]
  intro g2
  refine callS ok rfl rfl rfl [1000] [rdQ gr a n c o 0] (by simp) rfl (fun _ : Int => [(1000, rdQ gr a n c (o + 8) (nthR xs q0 1).2)]) (fun w I S hI hG hO hS' => refNum0 w I S hI gr xs (fun W e => (by first | exact (hG W e) | exact (hG W e).2 | exact (hG W e).2.2 | exact (hG W e).2.2.2 | exact (hG W e).2.2.2.2 | exact (hG W e).2.2.2.2.2 | exact (hG W e).2.2.2.2.2.2 | exact (hG W e).2.2.2.2.2.2.2 | exact (hG W e).2.2.2.2.2.2.2.2)) hb o q0 (by omega) (fun _ => by rw [hq0]) (by rw [← hz0]; exact hO) hS') (fun r => by simp [nthR, Int.add_assoc] <;> rfl) (.inr fun x q hq => by simp at hq; subst hq; simp) fun v1 W hv1 => ?_
  simp [hN]
  intro g3
  refine callS ok rfl rfl rfl [1000] [rdQ gr a n c (o + 8) (nthR xs q0 1).2] (by simp) rfl (fun _ : Int => [(1000, rdQ gr a n c (o + 16) (nthR xs q0 2).2)]) (fun w I S hI hG hO hS' => refNum0 w I S hI gr xs (fun W e => (by first | exact (hG W e) | exact (hG W e).2 | exact (hG W e).2.2 | exact (hG W e).2.2.2 | exact (hG W e).2.2.2.2 | exact (hG W e).2.2.2.2.2 | exact (hG W e).2.2.2.2.2.2 | exact (hG W e).2.2.2.2.2.2.2 | exact (hG W e).2.2.2.2.2.2.2.2)) hb (o + 8) (nthR xs q0 1) (by omega) (fun h => hp 1 h) hO hS') (fun r => by simp [nthR, Int.add_assoc] <;> rfl) (.inr fun x q hq => by simp at hq; subst hq; simp) fun v2 W hv2 => ?_
  simp [hN]
  refine callS ok rfl rfl rfl [1000] [rdQ gr a n c (o + 16) (nthR xs q0 2).2] (by simp) rfl (fun _ : Int => [(1000, rdQ gr a n c (o + 24) (nthR xs q0 3).2)]) (fun w I S hI hG hO hS' => refNum0 w I S hI gr xs (fun W e => (by first | exact (hG W e) | exact (hG W e).2 | exact (hG W e).2.2 | exact (hG W e).2.2.2 | exact (hG W e).2.2.2.2 | exact (hG W e).2.2.2.2.2 | exact (hG W e).2.2.2.2.2.2 | exact (hG W e).2.2.2.2.2.2.2 | exact (hG W e).2.2.2.2.2.2.2.2)) hb (o + 16) (nthR xs q0 2) (by omega) (fun h => hp 2 h) hO hS') (fun r => by simp [nthR, Int.add_assoc] <;> rfl) (.inr fun x q hq => by simp at hq; subst hq; simp) fun v3 W hv3 => ?_
  simp [hN]
  refine callS ok rfl rfl rfl [1000] [rdQ gr a n c (o + 24) (nthR xs q0 3).2] (by simp) rfl (fun _ : Int => [(1000, rdQ gr a n c (o + 32) (nthR xs q0 4).2)]) (fun w I S hI hG hO hS' => refNum0 w I S hI gr xs (fun W e => (by first | exact (hG W e) | exact (hG W e).2 | exact (hG W e).2.2 | exact (hG W e).2.2.2 | exact (hG W e).2.2.2.2 | exact (hG W e).2.2.2.2.2 | exact (hG W e).2.2.2.2.2.2 | exact (hG W e).2.2.2.2.2.2.2 | exact (hG W e).2.2.2.2.2.2.2.2)) hb (o + 24) (nthR xs q0 3) (by omega) (fun h => hp 3 h) hO hS') (fun r => by simp [nthR, Int.add_assoc] <;> rfl) (.inr fun x q hq => by simp at hq; subst hq; simp) fun v4 W hv4 => ?_
  by_cases h4 : (nthR xs q0 4).2 = 0
  case neg =>
    have hne : (inoR xs q0).2.2 ≠ 0 := fun h => h4 (hbk h).2.2.2.2
    simp [hN, h4]
    exact hbad _ _ ⟨v1, v2, v3, v4, emp, [], []⟩ (none, 0) (none, 0) (o + 32) hne rfl (by simp [h4, hne])
  have h3 := nth_pre h4
  have h2 := nth_pre h3
  have h1 := nth_pre h2
  replace hv1 := hv1 (by rw [hq0])
  replace hv2 := hv2 h1
  replace hv3 := hv3 h2
  replace hv4 := hv4 h3
  have hp4 : nthR xs q0 4 = (o + 32, 0) := by rw [pair0 h4, ← hp 4 h4]
  have hA : textR xs (o + 32, 0) = inoA xs q0 := by rw [inoA, hp4]
  have hl32 : o + 32 ≤ xs.length := by have := (intR_le (l := xs) (r := nthR xs q0 3) h4).2.2; rw [← hp 3 h3] at this; omega
  have hAt := textR_at hl32
  rw [hA] at hAt
  simp [hN, h4]
  refine callS ok rfl rfl rfl [1000] [rdQ gr a n c (o + 32) 0] (by simp) rfl (fun _ : Unit => [(1000, rdQ gr a n c (inoA xs q0).2.1 (inoA xs q0).2.2)]) (fun w I S hI hG hO hS' => refRText0 w I S hI gr xs (fun W e => (by first | exact (hG W e) | exact (hG W e).2 | exact (hG W e).2.2 | exact (hG W e).2.2.2 | exact (hG W e).2.2.2.2 | exact (hG W e).2.2.2.2.2 | exact (hG W e).2.2.2.2.2.2 | exact (hG W e).2.2.2.2.2.2.2 | exact (hG W e).2.2.2.2.2.2.2.2)) hb (o + 32) (by omega) hO hS') (fun r => by simp [hA]) (.inr fun x q hq => by simp at hq; subst hq; simp) fun _ W _ => ?_
  rw [hA]
  by_cases hA0 : (inoA xs q0).2.2 = 0
  case neg =>
    have hne : (inoR xs q0).2.2 ≠ 0 := fun h => hA0 (hbk h).2.2.2.1
    simp [hN, hA0]
    exact hbad _ _ ⟨v1, v2, v3, v4, (inoA xs q0).1, [], []⟩ (none, 0) (none, 0) (inoA xs q0).2.1 hne rfl (by simp [hA0, hne])
  have hN1 : getR xs ((inoA xs q0).2.1, 0) 4 = inoN xs q0 := by rw [inoN, ← pair0 hA0]
  simp [hN, hA0]
  refine callS ok rfl rfl rfl [1000] [rdQ gr a n c (inoA xs q0).2.1 0] (by simp) rfl (fun _ : Unit => [(1000, rdQ gr a n c (inoN xs q0).2.1 (inoN xs q0).2.2)]) (fun w I S hI hG hO hS' => refMany0 w I S hI gr xs (fun W e => (by first | exact (hG W e) | exact (hG W e).2 | exact (hG W e).2.2 | exact (hG W e).2.2.2 | exact (hG W e).2.2.2.2 | exact (hG W e).2.2.2.2.2 | exact (hG W e).2.2.2.2.2.2 | exact (hG W e).2.2.2.2.2.2.2 | exact (hG W e).2.2.2.2.2.2.2.2)) hb _ (by omega) hO hS') (fun r => by simp [hN1]) (.inr fun x q hq => by simp at hq; subst hq; simp) fun _ W _ => ?_
  rw [hN1]
  have hM := getR_val hb (inoA xs q0).2 4
  have hT : getR xs (inoA xs q0).2 4 = inoN xs q0 := rfl
  rw [hT] at hM
  obtain ⟨M, hM1⟩ : ∃ M : Nat, (inoN xs q0).1 = M := ⟨(inoN xs q0).1.toNat, by omega⟩
  have hM2 : M < 4294967296 := by have := hM.2; rw [hM1] at this; simp at this; omega
  have hE : inoE xs q0 = manyR (entR xs) M (inoN xs q0).2 := by rw [inoE, hM1]; rfl
  have hr0 : (inoN xs q0).2.1 ≤ xs.length + 8 ∧ ((inoN xs q0).2.2 = 0 → (inoN xs q0).2.1 ≤ xs.length) := by
    rw [← hN1, getM_getR]
    refine ⟨by simp only; omega, fun h => ?_⟩
    simp only at h ⊢
    unfold getM at h
    split at h
    · cases h
    · omega
  rw [hM1]
  clear hM hM1 hT
  simp [hN]
  generalize (inoN xs q0).2 = r0 at hr0 hE
  refine nilr 600 127 2 (nilr 601 139 3 (retell 3 (by simp; rfl) (r' := .box g3 44 (inb v1 v2 v3 v4 (inoA xs q0).1 (.rw 600 none 0 0) (.rw 601 none 0 0))) (by simp [Res.eqv]) (forget (fun W => Sv.ok dByte W (a, n, c) xs) (fun W h => (by first | exact (h) | exact (h).2 | exact (h).2.2 | exact (h).2.2.2 | exact (h).2.2.2.2 | exact (h).2.2.2.2.2 | exact (h).2.2.2.2.2.2 | exact (h).2.2.2.2.2.2.2 | exact (h).2.2.2.2.2.2.2.2)) ?_)))
  refine loopK [0, 2, 3] ok (fun y : Nat × Rs × Nat × List Ent × Sl => [(4, .c (.v (.int .i64 (y.1 : Nat))))]) (fun y => [(1000, rdQ gr a n c y.2.2.1 y.2.1.2), (2, .box g2 44 inbZ), (3, .box g3 44 (inb v1 v2 v3 v4 (inoA xs q0).1 (.rw 600 y.2.2.2.2.1 y.2.2.2.1.length y.2.2.2.2.2) (.rw 601 none 0 0))), (600, .row y.2.2.2.2.1 y.2.2.2.1.length y.2.2.2.2.2 127 2 (eC y.2.2.2.1)), (601, .row none 0 0 139 3 [])]) (fun y W => y.2.2.2.1.length + y.1 ≤ M ∧ y.2.2.1 ≤ xs.length + 8 ∧ (y.2.1.2 = 0 → y.2.2.1 = y.2.1.1 ∧ y.2.2.1 ≤ xs.length) ∧ (y.2.1.2 = 0 → manyR (entR xs) M r0 = (y.2.2.2.1 ++ (manyR (entR xs) y.1 y.2.1).1, (manyR (entR xs) y.1 y.2.1).2)) ∧ (y.2.1.2 ≠ 0 → (manyR (entR xs) M r0).2.2 ≠ 0)) (fun y => y.1) (M, r0, r0.1, [], (none, 0)) ?_ ?_ (fun W hW => ⟨by simp, hr0.1, fun h => ⟨rfl, hr0.2 h⟩, fun _ => rfl, fun h => ?_⟩) ?_
  · simp
  · simp [eC]
  · intro h2
    exact h (many_back h2)
  rintro ⟨k, q, p, acc, ea, ec⟩ W ⟨hkl, hp8, hqp, hm, hmb⟩ hG next
  simp only at hkl hp8 hqp hm hmb
  by_cases hgo : 0 < k ∧ q.2 = 0
  · obtain ⟨hk0, hq0'⟩ := hgo
    obtain ⟨k, rfl⟩ : ∃ j, k = j + 1 := ⟨k - 1, by omega⟩
    have e6 : IntKind.i64.wrap (k : Int) = (k : Nat) := w64 (by omega) (by omega)
    have hqe : q = (p, 0) := by rw [pair0 hq0', ← (hqp hq0').1]
    subst hqe
    have hpl := (hqp rfl).2
    replace hm := hm rfl
    have hmk : manyR (entR xs) (k + 1) (p, 0) = ((entR xs (p, 0)).1 :: (manyR (entR xs) k (entR xs (p, 0)).2).1, (manyR (entR xs) k (entR xs (p, 0)).2).2) := by rw [manyR, if_neg (by simp)]
    rw [hmk] at hm
    have hta := textR_at hpl
    simp [hN]
    refine callS ok rfl rfl rfl [1000] [rdQ gr a n c p 0] (by simp) rfl (fun _ : Unit => [(1000, rdQ gr a n c (textR xs (p, 0)).2.1 (textR xs (p, 0)).2.2)]) (fun w I S hI hG hO hS' => refRText0 w I S hI gr xs (fun W e => (by first | exact (hG W e) | exact (hG W e).2 | exact (hG W e).2.2 | exact (hG W e).2.2.2 | exact (hG W e).2.2.2.2 | exact (hG W e).2.2.2.2.2 | exact (hG W e).2.2.2.2.2.2 | exact (hG W e).2.2.2.2.2.2.2 | exact (hG W e).2.2.2.2.2.2.2.2)) hb p (by omega) hO hS') (fun r => by simp) (.inr fun x q hq => by simp at hq; subst hq; simp) fun _ W _ => ?_
    by_cases ht0 : (textR xs (p, 0)).2.2 = 0
    · simp [hN, ht0]
      refine drawW ok mixed (by kernel_rfl) ?_
      simp (maxSteps := 2000000) -implicitDefEqProofs [hN, ht0]
      have hel := fun h => intR_le (l := xs) (r := (textR xs (p, 0)).2) h
      have hnum := fun (w : World) (I S : Nat → Prop) (hI : ∀ b, I b → b < w.heap.size) (h : ∀ W, Ext I w W → Sv.ok dByte W (a, n, c) xs) (hO : Owns [rdQ gr a n c (textR xs (p, 0)).2.1 0] S w) (hS' : ∀ b, S b → b < w.heap.size ∧ ¬ I b) => refNum0 w I S hI gr xs h hb (textR xs (p, 0)).2.1 (textR xs (p, 0)).2 (by omega) (fun _ => rfl) (by rw [ht0]; exact hO) hS'
      have fin : ∀ (v : Int) (g' c' : Nat) tm m, (ht0 : (textR xs (p, 0)).2.2 = 0) → (v = (intR xs (textR xs (p, 0)).2).1) → (∀ W, m.G W → Sv.ok dByte W (a, n, c) xs) → subs tm ([(4, .c (.v (.int .i64 (k : Nat))))] ++ [(3, .c (.bp 3 g3 0)), (2, .c (.bp 2 g2 0)), (0, .c (.bp 1000 gr 0))]) → keepB m.rs [(1000, rdQ gr a n c ((textR xs (p, 0)).2.1 + 8) (entR xs (p, 0)).2.2), (2, .box g2 44 inbZ), (3, .box g3 44 (inb v1 v2 v3 v4 (inoA xs q0).1 (.rw 600 (some ⟨g', 0, none⟩) (acc.length + 1) c') (.rw 601 none 0 0))), (600, .row (some ⟨g', 0, none⟩) (acc.length + 1) c' 127 2 (eC acc ++ [.v (.string (textR xs (p, 0)).1), .v (.int .i64 v)])), (601, .row none 0 0 139 3 [])] → At C _ tm m := fun v g' c' tm m _ hv hG ht hr => next (k, (entR xs (p, 0)).2, (textR xs (p, 0)).2.1 + 8, acc ++ [⟨(textR xs (p, 0)).1, v⟩], (some ⟨g', 0, none⟩, c')) _ _ (by simp only; omega) (fun W h => ⟨⟨by simp only [List.length_append, List.length_singleton]; omega, by simp only; omega, fun h2 => ⟨(hel h2).2.1.symm, by have := (hel h2).2.2; exact this⟩, fun h2 => by rw [hm, hv]; simp [entR], fun h2 h3 => by rw [hm] at h3; exact h2 (many_back h3)⟩, hG W h⟩) ⟨by simpa using ht, by simpa [eC_snoc] using hr⟩
      refine ⟨?_, ?_⟩
      · refine callS ok rfl rfl rfl [1000] [rdQ gr a n c (textR xs (p, 0)).2.1 0] (by simp) rfl (fun _ : Int => [(1000, rdQ gr a n c ((textR xs (p, 0)).2.1 + 8) (entR xs (p, 0)).2.2)]) (fun w I S hI hG hO hS' => hnum w I S hI (fun W e => (by first | exact (hG W e) | exact (hG W e).2 | exact (hG W e).2.2 | exact (hG W e).2.2.2 | exact (hG W e).2.2.2.2 | exact (hG W e).2.2.2.2.2 | exact (hG W e).2.2.2.2.2.2 | exact (hG W e).2.2.2.2.2.2.2 | exact (hG W e).2.2.2.2.2.2.2.2)) hO hS') (fun r => by simp [entR] <;> rfl) (.inr fun x q hq => by simp at hq; subst hq; simp) fun v W hv => ?_
        replace hv := hv ht0
        simp (maxSteps := 2000000) -implicitDefEqProofs [hN]
        intro g59
        refine appR ok 600 59 rfl rfl rfl rfl rfl (by decide) rfl rfl rfl rfl rfl rfl rfl (by decide) (by simp) (by show (_ + 1) * 24 ≤ _; omega) (by omega) fun g' c' => ?_
        simp (maxSteps := 2000000) -implicitDefEqProofs [hN, e6]
        exact fin v g' c' _ _ ht0 hv (fun W h => (by first | exact (h) | exact (h).2 | exact (h).2.2 | exact (h).2.2.2 | exact (h).2.2.2.2 | exact (h).2.2.2.2.2 | exact (h).2.2.2.2.2.2 | exact (h).2.2.2.2.2.2.2 | exact (h).2.2.2.2.2.2.2.2)) (by simp) (by simp)
      · refine callS ok rfl rfl rfl [1000] [rdQ gr a n c (textR xs (p, 0)).2.1 0] (by simp) rfl (fun _ : Int => [(1000, rdQ gr a n c ((textR xs (p, 0)).2.1 + 8) (entR xs (p, 0)).2.2)]) (fun w I S hI hG hO hS' => hnum w I S hI (fun W e => (by first | exact (hG W e) | exact (hG W e).2 | exact (hG W e).2.2 | exact (hG W e).2.2.2 | exact (hG W e).2.2.2.2 | exact (hG W e).2.2.2.2.2 | exact (hG W e).2.2.2.2.2.2 | exact (hG W e).2.2.2.2.2.2.2 | exact (hG W e).2.2.2.2.2.2.2.2)) hO hS') (fun r => by simp [entR] <;> rfl) (.inr fun x q hq => by simp at hq; subst hq; simp) fun v W hv => ?_
        replace hv := hv ht0
        simp (maxSteps := 2000000) -implicitDefEqProofs [hN]
        refine ⟨fun g59 => ?_, fun g59 => ?_⟩
        all_goals
          refine appR ok 600 59 rfl rfl rfl rfl rfl (by decide) rfl rfl rfl rfl rfl rfl rfl (by decide) (by simp) (by show (_ + 1) * 24 ≤ _; omega) (by omega) fun g' c' => ?_
          simp (maxSteps := 2000000) -implicitDefEqProofs [hN, e6]
          exact fin v g' c' _ _ ht0 hv (fun W h => (by first | exact (h) | exact (h).2 | exact (h).2.2 | exact (h).2.2.2 | exact (h).2.2.2.2 | exact (h).2.2.2.2.2 | exact (h).2.2.2.2.2.2 | exact (h).2.2.2.2.2.2.2 | exact (h).2.2.2.2.2.2.2.2)) (by simp) (by simp)
    · have hen : (entR xs (p, 0)).2 = (textR xs (p, 0)).2 := by rw [entR, intR, getR_err ht0]
      simp [hN, ht0, e6]
      refine next (k, (entR xs (p, 0)).2, (textR xs (p, 0)).2.1, acc, (ea, ec)) _ _ (by simp only; omega) (fun W h => ⟨⟨by simp only; omega, by simp only; omega, fun h2 => absurd (by rw [← hen]; exact h2) ht0, fun h2 => absurd (by rw [← hen]; exact h2) ht0, fun _ h2 => ?_⟩, (by first | exact (h) | exact (h).2 | exact (h).2.2 | exact (h).2.2.2 | exact (h).2.2.2.2 | exact (h).2.2.2.2.2 | exact (h).2.2.2.2.2.2 | exact (h).2.2.2.2.2.2.2 | exact (h).2.2.2.2.2.2.2.2)⟩) (by simp [hen, ht0])
      rw [hm] at h2
      exact ht0 (by rw [← hen]; exact many_back h2)
  by_cases hq0' : q.2 = 0
  case neg =>
    have hne : (inoR xs q0).2.2 ≠ 0 := fun h => hmb hq0' (by rw [← hE]; exact (hbk h).2.1)
    by_cases hk0 : 0 < k
    case' pos =>
      simp [hN, hk0, hq0']
    case' neg =>
      obtain rfl : k = 0 := by omega
      simp [hN, hq0']
    all_goals exact hbad _ _ ⟨v1, v2, v3, v4, (inoA xs q0).1, acc, []⟩ (ea, ec) (none, 0) p hne rfl (by simp [hq0', hne])
  obtain rfl : k = 0 := Nat.eq_zero_of_not_pos fun h => hgo ⟨h, hq0'⟩
  have hqe : q = (p, 0) := by rw [pair0 hq0', ← (hqp hq0').1]
  subst hqe
  have hpl := (hqp rfl).2
  have hEE : inoE xs q0 = (acc, (p, 0)) := by rw [hE, hm rfl]; simp [manyR]
  clear next hm hmb hE hgo hqp
  have hE2 : (inoE xs q0).2 = (p, 0) := by rw [hEE]
  have hM0 : getR xs (p, 0) 4 = inoM xs q0 := by rw [inoM, hE2]
  simp [hN]
  refine callS ok rfl rfl rfl [1000] [rdQ gr a n c p 0] (by simp) rfl (fun _ : Unit => [(1000, rdQ gr a n c (inoM xs q0).2.1 (inoM xs q0).2.2)]) (fun w I S hI hG hO hS' => refMany0 w I S hI gr xs (fun W e => (by first | exact (hG W e) | exact (hG W e).2 | exact (hG W e).2.2 | exact (hG W e).2.2.2 | exact (hG W e).2.2.2.2 | exact (hG W e).2.2.2.2.2 | exact (hG W e).2.2.2.2.2.2 | exact (hG W e).2.2.2.2.2.2.2 | exact (hG W e).2.2.2.2.2.2.2.2)) hb p (by omega) hO hS') (fun r => by simp [hM0]) (.inr fun x q hq => by simp at hq; subst hq; simp) fun _ W _ => ?_
  rw [hM0]
  have hM := getR_val hb (p, 0) 4
  rw [hM0] at hM
  obtain ⟨K, hK1⟩ : ∃ K : Nat, (inoM xs q0).1 = K := ⟨(inoM xs q0).1.toNat, by omega⟩
  have hK2 : K < 4294967296 := by have := hM.2; rw [hK1] at this; simp at this; omega
  have hU : inoU xs q0 = manyR (rnR xs) K (inoM xs q0).2 := by rw [inoU, hK1]; rfl
  have hr1 : (inoM xs q0).2.1 ≤ xs.length + 8 ∧ ((inoM xs q0).2.2 = 0 → (inoM xs q0).2.1 ≤ xs.length) := by
    rw [← hM0, getM_getR]
    refine ⟨by simp only; omega, fun h => ?_⟩
    simp only at h ⊢
    unfold getM at h
    split at h
    · cases h
    · omega
  rw [hK1]
  clear hM hK1 hM0 hpl
  simp [hN]
  generalize (inoM xs q0).2 = r1 at hr1 hU
  refine loopK [0, 2, 3] ok (fun y : Nat × Rs × Nat × List Rn × Sl => [(6, .c (.v (.int .i64 (y.1 : Nat))))]) (fun y => [(1000, rdQ gr a n c y.2.2.1 y.2.1.2), (2, .box g2 44 inbZ), (3, .box g3 44 (inb v1 v2 v3 v4 (inoA xs q0).1 (.rw 600 ea acc.length ec) (.rw 601 y.2.2.2.2.1 y.2.2.2.1.length y.2.2.2.2.2))), (600, .row ea acc.length ec 127 2 (eC acc)), (601, .row y.2.2.2.2.1 y.2.2.2.1.length y.2.2.2.2.2 139 3 (rC y.2.2.2.1))]) (fun y W => y.2.2.2.1.length + y.1 ≤ K ∧ y.2.2.1 ≤ xs.length + 24 ∧ (y.2.1.2 = 0 → y.2.2.1 = y.2.1.1 ∧ y.2.2.1 ≤ xs.length) ∧ (y.2.1.2 = 0 → manyR (rnR xs) K r1 = (y.2.2.2.1 ++ (manyR (rnR xs) y.1 y.2.1).1, (manyR (rnR xs) y.1 y.2.1).2)) ∧ (y.2.1.2 ≠ 0 → (manyR (rnR xs) K r1).2.2 ≠ 0)) (fun y => y.1) (K, r1, r1.1, [], (none, 0)) ?_ ?_ (fun W hW => ⟨by simp, by have := hr1.1; simp only; omega, fun h => ⟨rfl, hr1.2 h⟩, fun _ => rfl, fun h => ?_⟩) ?_
  · simp
  · simp [rC]
  · intro h2
    exact h (many_back h2)
  rintro ⟨k, q, p, bcc, ra, rc⟩ W ⟨hkl, hp8, hqp, hm, hmb⟩ hG next
  simp only at hkl hp8 hqp hm hmb
  by_cases hgo : 0 < k ∧ q.2 = 0
  · obtain ⟨hk0, hq0'⟩ := hgo
    obtain ⟨k, rfl⟩ : ∃ j, k = j + 1 := ⟨k - 1, by omega⟩
    have e6 : IntKind.i64.wrap (k : Int) = (k : Nat) := w64 (by omega) (by omega)
    have hqe : q = (p, 0) := by rw [pair0 hq0', ← (hqp hq0').1]
    subst hqe
    have hpl := (hqp rfl).2
    replace hm := hm rfl
    have hmk : manyR (rnR xs) (k + 1) (p, 0) = ((rnR xs (p, 0)).1 :: (manyR (rnR xs) k (rnR xs (p, 0)).2).1, (manyR (rnR xs) k (rnR xs (p, 0)).2).2) := by rw [manyR, if_neg (by simp)]
    rw [hmk] at hm
    have hpp := fun i => nth_pos (l := xs) (o := p) i
    simp [hN]
    refine callS ok rfl rfl rfl [1000] [rdQ gr a n c p 0] (by simp) rfl (fun _ : Int => [(1000, rdQ gr a n c (p + 8) (nthR xs (p, 0) 1).2)]) (fun w I S hI hG hO hS' => refNum0 w I S hI gr xs (fun W e => (by first | exact (hG W e) | exact (hG W e).2 | exact (hG W e).2.2 | exact (hG W e).2.2.2 | exact (hG W e).2.2.2.2 | exact (hG W e).2.2.2.2.2 | exact (hG W e).2.2.2.2.2.2 | exact (hG W e).2.2.2.2.2.2.2 | exact (hG W e).2.2.2.2.2.2.2.2)) hb p (p, 0) (by omega) (fun _ => rfl) hO hS') (fun r => by simp [nthR, Int.add_assoc] <;> rfl) (.inr fun x q hq => by simp at hq; subst hq; simp) fun v5 W hv5 => ?_
    simp [hN]
    intro g7
    refine callS ok rfl rfl rfl [1000] [rdQ gr a n c (p + 8) (nthR xs (p, 0) 1).2] (by simp) rfl (fun _ : Int => [(1000, rdQ gr a n c (p + 16) (nthR xs (p, 0) 2).2)]) (fun w I S hI hG hO hS' => refNum0 w I S hI gr xs (fun W e => (by first | exact (hG W e) | exact (hG W e).2 | exact (hG W e).2.2 | exact (hG W e).2.2.2 | exact (hG W e).2.2.2.2 | exact (hG W e).2.2.2.2.2 | exact (hG W e).2.2.2.2.2.2 | exact (hG W e).2.2.2.2.2.2.2 | exact (hG W e).2.2.2.2.2.2.2.2)) hb (p + 8) (nthR xs (p, 0) 1) (by omega) (fun h => hpp 1 h) hO hS') (fun r => by simp [nthR, Int.add_assoc] <;> rfl) (.inr fun x q hq => by simp at hq; subst hq; simp) fun v6 W hv6 => ?_
    simp [hN]
    refine callS ok rfl rfl rfl [1000] [rdQ gr a n c (p + 16) (nthR xs (p, 0) 2).2] (by simp) rfl (fun _ : Int => [(1000, rdQ gr a n c (p + 24) (nthR xs (p, 0) 3).2)]) (fun w I S hI hG hO hS' => refNum0 w I S hI gr xs (fun W e => (by first | exact (hG W e) | exact (hG W e).2 | exact (hG W e).2.2 | exact (hG W e).2.2.2 | exact (hG W e).2.2.2.2 | exact (hG W e).2.2.2.2.2 | exact (hG W e).2.2.2.2.2.2 | exact (hG W e).2.2.2.2.2.2.2 | exact (hG W e).2.2.2.2.2.2.2.2)) hb (p + 16) (nthR xs (p, 0) 2) (by omega) (fun h => hpp 2 h) hO hS') (fun r => by simp [nthR, Int.add_assoc] <;> rfl) (.inr fun x q hq => by simp at hq; subst hq; simp) fun v7 W hv7 => ?_
    simp [hN]
    intro g92
    refine appR ok 601 92 rfl rfl rfl rfl rfl (by decide) rfl rfl rfl rfl rfl rfl rfl (by decide) (by simp) (by show (_ + 1) * 24 ≤ _; omega) (by omega) fun g' c' => ?_
    simp [hN, e6]
    have hrn : (rnR xs (p, 0)).2 = nthR xs (p, 0) 3 := rfl
    have hrv : (nthR xs (p, 0) 3).2 = 0 → (rnR xs (p, 0)).1 = ⟨v5, v6, v7⟩ ∧ p + 24 = (nthR xs (p, 0) 3).1 ∧ p + 24 ≤ xs.length := fun h => by
      have h2 := nth_pre h
      have h1 := nth_pre h2
      have hle := (intR_le (l := xs) (r := nthR xs (p, 0) 2) h).2.2
      rw [← hpp 2 h2] at hle
      exact ⟨by rw [hv5 rfl, hv6 h1, hv7 h2]; rfl, hpp 3 h, by omega⟩
    refine next (k, nthR xs (p, 0) 3, p + 24, bcc ++ [⟨v5, v6, v7⟩], (some ⟨g', 0, none⟩, c')) _ _ (by simp only; omega) (fun W h => ⟨⟨by simp only [List.length_append, List.length_singleton]; omega, by simp only; omega, fun h2 => (hrv h2).2, fun h2 => ?_, fun h2 h3 => ?_⟩, (by first | exact (h) | exact (h).2 | exact (h).2.2 | exact (h).2.2.2 | exact (h).2.2.2.2 | exact (h).2.2.2.2.2 | exact (h).2.2.2.2.2.2 | exact (h).2.2.2.2.2.2.2 | exact (h).2.2.2.2.2.2.2.2)⟩) (by simp [rC_snoc])
    · rw [hm, hrn, (hrv h2).1]
      simp
    · rw [hm, hrn] at h3
      exact h2 (many_back h3)
  by_cases hq0' : q.2 = 0
  case neg =>
    have hne : (inoR xs q0).2.2 ≠ 0 := fun h => hmb hq0' (by rw [← hU]; exact h)
    by_cases hk0 : 0 < k
    case' pos =>
      simp [hN, hk0, hq0']
    case' neg =>
      obtain rfl : k = 0 := by omega
      simp [hN, hq0']
    all_goals exact hbad _ _ ⟨v1, v2, v3, v4, (inoA xs q0).1, acc, bcc⟩ (ea, ec) (ra, rc) p hne rfl (by simp [hq0', hne])
  obtain rfl : k = 0 := Nat.eq_zero_of_not_pos fun h => hgo ⟨h, hq0'⟩
  have hqe : q = (p, 0) := by rw [pair0 hq0', ← (hqp hq0').1]
  subst hqe
  have hUU : inoU xs q0 = (bcc, (p, 0)) := by rw [hU, hm rfl]; simp [manyR]
  have hfin : inoR xs q0 = (⟨v1, v2, v3, v4, (inoA xs q0).1, acc, bcc⟩, (p, 0)) := by
    rw [inoR, hUU, hEE, hv1, hv2, hv3, hv4]
  simp [hN]
  refine retS hC (⟨v1, v2, v3, v4, (inoA xs q0).1, acc, bcc⟩, (ea, ec), (ra, rc), p) [1000] rfl (by simp [hfin]) fun W hp hG _ => ?_
  rw [hfin]
  refine ⟨rfl, rfl, ?_, ?_⟩
  · exact (Rows.sv (d := dEnt) (xs := acc) (rowsE.2 (eC_val acc)) (by decide) (by omega) hp.2.2.1).2
  · exact (Rows.sv (d := dRn) (xs := bcc) (rowsR.2 (rC_val bcc)) (by decide) (by omega) hp.2.2.2.1).2
end Go.Proofs.YtbbaoeidobdblaaGreat.Sx

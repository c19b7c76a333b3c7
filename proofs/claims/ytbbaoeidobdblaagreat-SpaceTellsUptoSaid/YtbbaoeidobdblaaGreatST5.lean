/- Laid together: Sp7, Sk59, Sp8, Sp9, Sp10, Rowl, Sxq, Sk64, Sk65, Sxr, Sk67, Sk68, Sk69, Sp12, Sp14, Sp15, Sk71, Sk74, Sk75, Sk73, Sk96, Sg1, Sg2. -/
import Derived.Test.YtbbaoeidobdblaaGreatST4
import Derived.WalkKit
import Derived.ProofKit
import Derived.OpenShut
import Derived.ShutString
import Derived.ChangeOld
import Derived.Below
import Derived.Lib.SmallJoins
import Derived.Lib.AppendStr
/- Plain: how large states are that are read from bytes. -/
set_option linter.unusedVariables false
set_option linter.unusedSimpArgs false
namespace Go.Proofs.YtbbaoeidobdblaaGreat.Sx
open Go
def sumN (l : List Nat) : Nat := l.foldr (· + ·) 0
@[simp] theorem sumN_nil : sumN [] = 0 := rfl
@[simp] theorem sumN_cons (x : Nat) (l : List Nat) : sumN (x :: l) = x + sumN l := rfl
theorem sumN_app (l k : List Nat) : sumN (l ++ k) = sumN l + sumN k := by
  induction l with
  | nil => simp
  | cons x r ih => simp [ih]; omega
theorem sumN_filter {α : Type} (p : α → Bool) (f : α → Nat) (l : List α) : sumN ((l.filter p).map f) ≤ sumN (l.map f) := by
  induction l with
  | nil => exact Nat.le_refl _
  | cons x r ih =>
    rw [List.filter_cons]
    split <;> simp only [List.map_cons, sumN_cons] <;> omega
theorem fmB_len {α : Type} (f : α → List Int) (l : List α) : (l.flatMap f).length = sumN (l.map fun x => (f x).length) := by
  induction l with
  | nil => rfl
  | cons x r ih => simp [ih]
def wI (x : Ino) : Nat := (deedB ⟨2, 0, x⟩).length
theorem wI_eq (x : Ino) : wI x = 45 + x.target.size + (x.ents.flatMap entB).length + (x.runs.flatMap runB).length := by
  have : tailB ⟨2, 0, x⟩ = inoB x := by unfold tailB; rw [if_neg (by simp), if_pos rfl]
  rw [wI, deedB, List.length_append, lowB_length, this, inoB_length]
  omega
/-- The bytes of a state, less those of its number. -/
def wS (s : Sta) : Nat := sumN (s.inos.map wI) + 9 * s.bad.length
theorem num_len (k n : Int) (i : Ino) (h : k = 1 ∨ k = 3 ∨ k = 4) : (deedB ⟨k, n, i⟩).length = 9 := by
  have : tailB ⟨k, n, i⟩ = intB n := by unfold tailB; rw [if_pos h]
  rw [deedB, List.length_append, lowB_length, this, intB_length]
theorem put_len {d : Dee} (h : d.kind = 2) : (deedB d).length = wI d.ino := by
  have : tailB d = inoB d.ino := by unfold tailB; rw [if_neg (by rw [h]; decide), if_pos h]
  rw [deedB, List.length_append, lowB_length, this, wI_eq, inoB_length]
  omega
theorem deeds_len (l : List Dee) : (deedsB l).length = sumN (l.map fun d => (deedB d).length) := fmB_len deedB l
theorem whole_w (s : Sta) : wholeB s = 9 + wS s := by
  rw [wholeB, deeds_len, wholeL, List.map_append, sumN_app, List.map_cons, sumN_cons, num_len 1 _ _ (.inl rfl), List.map_map, List.map_map, wS]
  have h1 : sumN (s.bad.map ((fun d => (deedB d).length) ∘ fun n => (⟨4, n, inoZ⟩ : Dee))) = 9 * s.bad.length := by
    induction s.bad with
    | nil => rfl
    | cons x r ih =>
      rw [List.map_cons, sumN_cons, ih]
      simp only [Function.comp]
      rw [num_len 4 _ _ (.inr (.inr rfl)), List.length_cons]
      omega
  rw [h1]
  have h2 : s.inos.map ((fun d => (deedB d).length) ∘ fun x => (⟨2, 0, x⟩ : Dee)) = s.inos.map wI := rfl
  rw [h2]
  omega
theorem putI_w (l : List Ino) (x : Ino) : sumN ((putInoL l x).map wI) ≤ sumN (l.map wI) + wI x := by
  have h1 : ∀ l : List Ino, sumN ((replI l x).map wI) ≤ sumN (l.map wI) + wI x := by
    intro l
    induction l with
    | nil => exact Nat.zero_le _
    | cons y r ih =>
      unfold replI
      split <;> simp only [List.map_cons, sumN_cons] <;> omega
  have h2 : ∀ l : List Ino, sumN ((insI l x).map wI) ≤ sumN (l.map wI) + wI x := by
    intro l
    induction l with
    | nil => simp [insI]
    | cons y r ih =>
      unfold insI
      split <;> simp only [List.map_cons, sumN_cons] <;> omega
  unfold putInoL
  split
  · exact h1 l
  · exact h2 l
theorem applyOne_w (s : Sta) (d : Dee) : wS (applyOne s d) ≤ wS s + (deedB d).length := by
  unfold applyOne
  split
  · exact Nat.le_add_right _ _
  · split
    · rename_i h
      have := putI_w s.inos d.ino
      rw [put_len h]
      simp only [wS]
      omega
    · split
      · have := sumN_filter (fun x : Ino => decide (x.no ≠ d.no)) wI s.inos
        simp only [wS]
        omega
      · split
        · rename_i h
          have := addBadL_len s.bad d.no
          obtain ⟨k, n, i⟩ := d
          simp only at h this ⊢
          rw [num_len _ _ _ (.inr (.inr h))]
          simp only [wS]
          omega
        · exact Nat.le_add_right _ _
theorem applyL_w (s : Sta) (l : List Dee) : wS (applyL s l) ≤ wS s + (deedsB l).length := by
  induction l generalizing s with
  | nil => exact Nat.le_add_right _ _
  | cons d r ih =>
    have h1 := ih (applyOne s d)
    have h2 := applyOne_w s d
    rw [deeds_len] at h1 ⊢
    simp only [applyL, List.foldl_cons, List.map_cons, sumN_cons] at h1 ⊢
    omega
end Go.Proofs.YtbbaoeidobdblaaGreat.Sx

/- journal.Open, Epoch, Half. -/
set_option linter.unusedVariables false
set_option linter.unusedSimpArgs false
namespace Go.Proofs.YtbbaoeidobdblaaGreat.Sx
open Go
attribute [local simp ↓] ifb_true' ifb_false'
attribute [local simp] ifb_true ifb_false ifb_eq sx argsT find ev evOp evs evo evBin evInt evStr evNil evNilA ptrA slcA isNoneA asB evLoad look del cellsB evUn evConv kdec fld evFieldA evField evIdxA evIdx evSlc bndL bndH evLen mmi put resV guardV gvL setO tupV cellsOf ones one upd lits nv exitTo SV.val CV.val TI.agg rdyA allR keepB scan simpO gsp isS subs keepT pickT wr memN pubs Res.fact Region.binds bld rest give delL back Res.eqv vi vb num Sv.val undef
/-- All bytes of a chip are bytes. -/
def Cp.bytes (c : Cp) : Prop := ∀ x, x ∈ c.b → 0 ≤ x ∧ x ≤ 255
end Go.Proofs.YtbbaoeidobdblaaGreat.Sx

/- Plain: what was packed is parsed. -/
set_option linter.unusedVariables false
set_option linter.unusedSimpArgs false
namespace Go.Proofs.YtbbaoeidobdblaaGreat.Sx
open Go
def fitI (v : Int) : Prop := -9223372036854775808 ≤ v ∧ v ≤ 9223372036854775807
/-- Bytes have others at a place. -/
def has (l : List Int) (o : Nat) (x : List Int) : Prop := (l.drop o).take x.length = x ∧ o + x.length ≤ l.length
structure FitE (e : Ent) : Prop where
  name : e.name.size < 4294967296
  no : fitI e.no
structure FitR (r : Rn) : Prop where
  fr : fitI r.fr
  at_ : fitI r.at_
  ct : fitI r.ct
structure FitN (x : Ino) : Prop where
  no : fitI x.no
  kind : fitI x.kind
  links : fitI x.links
  size : fitI x.size
  target : x.target.size < 4294967296
  ents : x.ents.length < 4294967296
  runs : x.runs.length < 4294967296
  ent : ∀ e ∈ x.ents, FitE e
  run : ∀ r ∈ x.runs, FitR r
structure FitD (d : Dee) : Prop where
  kind : d.kind = 1 ∨ d.kind = 2 ∨ d.kind = 3 ∨ d.kind = 4
  no : d.kind ≠ 2 → fitI d.no
  ino : d.kind = 2 → FitN d.ino
end Go.Proofs.YtbbaoeidobdblaaGreat.Sx

/- Plain: states that are sorted are built anew of their deeds; records, one behind the other. -/
set_option linter.unusedVariables false
set_option linter.unusedSimpArgs false
namespace Go.Proofs.YtbbaoeidobdblaaGreat.Sx
open Go
structure StaOk (s : Sta) : Prop where
  next : fitI s.next
  inos : s.inos.Pairwise fun x y => x.no < y.no
  bad : s.bad.Pairwise fun x y => x < y
  fit : ∀ x ∈ s.inos, FitN x
  fitb : ∀ x ∈ s.bad, fitI x
end Go.Proofs.YtbbaoeidobdblaaGreat.Sx

/- Plain: what a journal's chip has, and what is found on it. -/
set_option linter.unusedVariables false
set_option linter.unusedSimpArgs false
namespace Go.Proofs.YtbbaoeidobdblaaGreat.Sx
open Go
def isB (l : List Int) : Prop := ∀ x, x ∈ l → 0 ≤ x ∧ x ≤ 255
theorem isB_app {a b : List Int} : isB (a ++ b) ↔ isB a ∧ isB b := by
  unfold isB
  constructor
  · exact fun h => ⟨fun x hx => h x (List.mem_append_left _ hx), fun x hx => h x (List.mem_append_right _ hx)⟩
  · rintro ⟨h1, h2⟩ x hx
    rcases List.mem_append.1 hx with h | h
    · exact h1 x h
    · exact h2 x h
def recsB (ls : List (List Int)) : List Int := ls.flatMap recB
/-- Deeds that may be packed into one record. -/
structure FitL (l : List Dee) : Prop where
  each : ∀ d ∈ l, FitD d
/-- The records of a half: the state at its begin, and deeds. -/
def halfL (e : Int) (s : Sta) (ds : List (List Dee)) : List (List Int) := firstB e s :: ds.map deedsB
noncomputable def stateL (s : Sta) (ds : List (List Dee)) : Sta := ds.foldl applyL s
/-- A half of bytes. -/
def hB (b : List Int) (H h : Nat) : List Int := (b.drop (h * H)).take H
/-- A journal whose chip has what it is. -/
structure Jon (j : Jn) : Prop extends Jok j where
  bytes : j.c.bytes
  sok : StaOk j.s
  on : ∃ s0 ds, StaOk s0 ∧ (∀ d ∈ ds, FitL d) ∧ j.s = stateL s0 ds ∧ j.used = (recsB (halfL j.ep s0 ds)).length ∧ halfB j.c j.half = recsB (halfL j.ep s0 ds) ++ List.replicate (halfSz j.c - j.used) 255
  other : (readM (halfB j.c (1 - j.half))).ep < j.ep
end Go.Proofs.YtbbaoeidobdblaaGreat.Sx

/- What the rows share: structs of ints that came in, opened; contracts, as a row wants them. -/
set_option linter.unusedVariables false
set_option linter.unusedSimpArgs false
namespace Go.Proofs.YtbbaoeidobdblaaGreat.Rowl
open Go.ChangeShapes Go.WideShapes Go.ChangeAt Go.RowKit Go.Joins Go.Deep
section
variable {H : Type} {enc : TypeId × Value → H} {P : Program} {w : World} {base : Nat} {spare : Nat → Bool} {held : Bool}
theorem agg5_in {r : Reach} {b0 : Nat} {t e : TypeId} {f0 f1 f2 f3 f4 : Field} {v : Value} {d : DataW H} {p : List MemPlace} (hs : P.underlying t = some (.struct #[f0, f1, f2, f3, f4])) (hone : oneCellFields P #[f0, f1, f2, f3, f4] = true) (hC : P.cellsOf t = 5)
    (he : P.underlying e = some (.int .i64)) (ht : f0.type = e ∧ f1.type = e ∧ f2.type = e ∧ f3.type = e ∧ f4.type = e)
    (hv : Value.okWide P w r b0 t v) (h : DataW.Trod enc P w base spare held t v d p) :
    ∃ a b c x y : Int, v = .agg #[.int .i64 a, .int .i64 b, .int .i64 c, .int .i64 x, .int .i64 y] := by
  obtain ⟨cs, rfl, hsz⟩ := okWide_struct hs hv
  obtain ⟨l⟩ := cs
  match l, hsz.trans hC with
  | [c0, c1, c2, c3, c4], _ =>
    obtain ⟨fuel, hf⟩ := h
    obtain ⟨xs, n, _, hx, _, hlen, hg⟩ := DataW.trod_struct hs hf
    obtain ⟨o0, k0⟩ := hone_of hone 0 f0 rfl
    obtain ⟨o1, k1⟩ := hone_of hone 1 f1 rfl
    obtain ⟨o2, k2⟩ := hone_of hone 2 f2 rfl
    obtain ⟨o3, k3⟩ := hone_of hone 3 f3 rfl
    obtain ⟨o4, k4⟩ := hone_of hone 4 f4 rfl
    match xs, hlen with
    | [y0, y1, y2, y3, y4], _ =>
      have g0 : DataW.trod enc P w base spare held n f0.type [c0] = some y0 := by simpa [Value.cells, o0, k0] using hg 0 f0 rfl
      have g1 : DataW.trod enc P w base spare held n f1.type [c1] = some y1 := by simpa [Value.cells, o1, k1] using hg 1 f1 rfl
      have g2 : DataW.trod enc P w base spare held n f2.type [c2] = some y2 := by simpa [Value.cells, o2, k2] using hg 2 f2 rfl
      have g3 : DataW.trod enc P w base spare held n f3.type [c3] = some y3 := by simpa [Value.cells, o3, k3] using hg 3 f3 rfl
      have g4 : DataW.trod enc P w base spare held n f4.type [c4] = some y4 := by simpa [Value.cells, o4, k4] using hg 4 f4 rfl
      obtain ⟨t0, t1, t2, t3, t4⟩ := ht
      rw [t0] at g0
      rw [t1] at g1
      rw [t2] at g2
      rw [t3] at g3
      rw [t4] at g4
      obtain ⟨z0, e0, _, _⟩ := DataW.trod_int he g0
      obtain ⟨z1, e1, _, _⟩ := DataW.trod_int he g1
      obtain ⟨z2, e2, _, _⟩ := DataW.trod_int he g2
      obtain ⟨z3, e3, _, _⟩ := DataW.trod_int he g3
      obtain ⟨z4, e4, _, _⟩ := DataW.trod_int he g4
      cases e0
      cases e1
      cases e2
      cases e3
      cases e4
      exact ⟨z0, z1, z2, z3, z4, rfl⟩
end
theorem row_calls {P : Program} {f : FuncId} {args : Array Value} {w : World} {I : Nat → Prop} (h : Sx.Fn0 P f args w I (fun b : Bool => .bool b) (fun y _ => y = true)) : Calls P f args w fun e w' => e = .returned (.bool true) ∧ w.grownBy w' none :=
  Calls.mono h.2 (by
    rintro e w' ⟨x, S', rfl, hg, _, _, hR⟩
    have := hR w' (Sx.Ext.refl _ _)
    simp only at this
    subst this
    exact ⟨rfl, ⟨hg.os, hg.tape, hg.output, hg.size, fun k hk _ => hg.block k ⟨hk, fun h => h⟩⟩⟩)
end Go.Proofs.YtbbaoeidobdblaaGreat.Rowl

/- Sx, part 17: bytes that nobody changes are copied into a row of one's own; what reads goes on reading. -/
set_option linter.unusedVariables false
set_option linter.unusedSimpArgs false
namespace Go.Proofs.YtbbaoeidobdblaaGreat.Sx
open Go
section
variable {P : Program} {C : Ctx} {T : Ty} {res : List ResultVar} {p : Pos} {tm : Tm} {m : Mem}
end
/-- What is there stays there. -/
theorem cell_keep {w W : World} (h : Ext (fun b => b < w.heap.size) w W) {a : Addr} {v : Value} (hc : w.cell? a = some v) : W.cell? a = some v := by
  have hb : a.block < w.heap.size := by
    rcases Nat.lt_or_ge a.block w.heap.size with hb | hb
    · exact hb
    · simp only [World.cell?, Array.getElem?_eq_none hb] at hc
      simp at hc
  rw [h.cell hb, hc]
def Keeps {α : Type} (d : Dt α) : Prop := ∀ {w W : World} {x : α} {cs : List Value}, Ext (fun b => b < w.heap.size) w W → d.K w x cs → d.K W x cs
theorem rd_keep {α : Type} {d : Dt α} (hd : Keeps d) {w W : World} (h : Ext (fun b => b < w.heap.size) w W) {a : Option Addr} {xs : List α} (hr : Rd d w a xs) : Rd d W a xs := fun hne => by
  obtain ⟨b, o, e, hc⟩ := hr hne
  exact ⟨b, o, e, fun i x hx => by
    obtain ⟨cs, k1, k2⟩ := hc i x hx
    exact ⟨cs, hd h k1, fun j v hv => cell_keep h (k2 j v hv)⟩⟩
theorem sl_keep {α : Type} {d : Dt α} (hd : Keeps d) {w W : World} (h : Ext (fun b => b < w.heap.size) w W) {s : Sl} {xs : List α} (hr : Sl.ok d w s xs) : Sl.ok d W s xs := ⟨hr.1, hr.2.1, rd_keep hd h hr.2.2⟩
theorem keepInt : Keeps dInt := fun _ h => h
theorem keepEnt : Keeps dEnt := fun _ h => h
theorem keepRn : Keeps dRn := fun _ h => h
theorem keepDee : Keeps dDee := fun h k => by
  obtain ⟨e, r, hc, h1, h2⟩ := k
  exact ⟨e, r, hc, sl_keep keepEnt h h1, sl_keep keepRn h h2⟩
end Go.Proofs.YtbbaoeidobdblaaGreat.Sx

/- garretlaw17: few, clean; nor.Chip.Load. -/
set_option linter.unusedVariables false
set_option linter.unusedSimpArgs false
namespace Go.Proofs.YtbbaoeidobdblaaGreat.Sx
open Go
attribute [local simp ↓] ifb_true' ifb_false'
attribute [local simp] ifb_true ifb_false ifb_eq sx argsT find ev evOp evs evo evBin evInt evStr evNil evNilA ptrA slcA isNoneA asB evLoad look del cellsB evUn evConv kdec fld evFieldA evField evIdxA evIdx evSlc bndL bndH evLen mmi put resV guardV gvL setO tupV cellsOf ones one upd lits nv exitTo SV.val CV.val TI.agg rdyA allR keepB scan simpO gsp isS subs keepT pickT wr memN pubs Res.fact Region.binds bld rest give delL back Res.eqv vi vb num Sv.val undef
/-- A deed of a kind that is, with what its kind has alone. -/
def cleanD (d : Dee) : Dee := if 1 + d.kind % 4 = 2 then ⟨2, 0, d.ino⟩ else ⟨1 + d.kind % 4, d.no, inoZ⟩
theorem clean_fit {d : Dee} (h : fitI d.no ∧ FitN d.ino) : FitD (cleanD d) := by
  unfold cleanD
  split
  · exact ⟨.inr (.inl rfl), fun e => absurd rfl e, fun _ => h.2⟩
  · rename_i hne
    refine ⟨?_, fun _ => h.1, fun e => absurd e hne⟩
    simp only
    omega
end Go.Proofs.YtbbaoeidobdblaaGreat.Sx

/- garretlaw17.JournalNew. -/
set_option linter.unusedVariables false
set_option linter.unusedSimpArgs false
namespace Go.Proofs.YtbbaoeidobdblaaGreat.Sx
open Go
attribute [local simp ↓] ifb_true' ifb_false'
attribute [local simp] ifb_true ifb_false ifb_eq sx argsT find ev evOp evs evo evBin evInt evStr evNil evNilA ptrA slcA isNoneA asB evLoad look del cellsB evUn evConv kdec fld evFieldA evField evIdxA evIdx evSlc bndL bndH evLen mmi put resV guardV gvL setO tupV cellsOf ones one upd lits nv exitTo SV.val CV.val TI.agg rdyA allR keepB scan simpO gsp isS subs keepT pickT wr memN pubs Res.fact Region.binds bld rest give delL back Res.eqv vi vb num Sv.val undef
/-- The size of an inode that came in. -/
def szN (x : Ino) : Nat := x.target.size + sumN (x.ents.map fun e => e.name.size + 1) + x.runs.length
theorem wI_sz (x : Ino) : wI x ≤ 45 + 24 * szN x := by
  rw [wI_eq, fmB_len, fmB_len]
  have h1 : ∀ l : List Ent, sumN (l.map fun e => (entB e).length) ≤ 24 * sumN (l.map fun e => e.name.size + 1) := by
    intro l
    induction l with
    | nil => exact Nat.le_refl _
    | cons e r ih =>
      have he : (entB e).length = e.name.size + 12 := by rw [entB, List.length_append, textB_length, intB_length]
      simp only [List.map_cons, sumN_cons]
      rw [he]
      omega
  have h2 : ∀ l : List Rn, sumN (l.map fun e => (runB e).length) ≤ 24 * l.length := by
    intro l
    induction l with
    | nil => exact Nat.le_refl _
    | cons e r ih =>
      have he : (runB e).length = 24 := by rw [runB, List.length_append, List.length_append, intB_length, intB_length, intB_length]
      simp only [List.map_cons, sumN_cons, List.length_cons]
      rw [he]
      omega
  have := h1 x.ents
  have := h2 x.runs
  unfold szN
  omega
/-- Deeds that came in. -/
structure DeesIn (ds : List Dee) : Prop where
  fit : ∀ d ∈ ds, fitI d.kind ∧ fitI d.no ∧ FitN d.ino
  size : sumN (ds.map fun d => szN d.ino + 1) ≤ 1048576
theorem DeesIn.len {ds : List Dee} (h : DeesIn ds) : ds.length ≤ 1048576 := by
  have : ∀ l : List Dee, l.length ≤ sumN (l.map fun d => szN d.ino + 1) := by
    intro l
    induction l with
    | nil => exact Nat.le_refl _
    | cons e r ih => simp only [List.map_cons, sumN_cons, List.length_cons]; omega
  exact Nat.le_trans (this ds) h.size
theorem DeesIn.clean {ds : List Dee} (h : DeesIn ds) : FitL (ds.map cleanD) ∧ (deedsB (ds.map cleanD)).length ≤ 100000000 := by
  refine ⟨⟨fun d hd => ?_⟩, ?_⟩
  · obtain ⟨x, hx, rfl⟩ := List.mem_map.1 hd
    exact clean_fit (h.fit x hx).2
  · have : ∀ l : List Dee, (deedsB (l.map cleanD)).length ≤ 69 * sumN (l.map fun d => szN d.ino + 1) := by
      intro l
      induction l with
      | nil => exact Nat.zero_le _
      | cons e r ih =>
        have h1 : (deedB (cleanD e)).length ≤ 69 * (szN e.ino + 1) := by
          unfold cleanD
          split
          · rw [put_len rfl]
            have := wI_sz e.ino
            simp only
            omega
          · rw [num_len _ _ _ (by omega)]
            omega
        rw [deeds_len] at ih ⊢
        simp only [List.map_cons, sumN_cons]
        omega
    have := this ds
    have := h.size
    omega
end Go.Proofs.YtbbaoeidobdblaaGreat.Sx

/- Sx, part 18: a text is appended to bytes of one's own. -/
set_option linter.unusedVariables false
set_option linter.unusedSimpArgs false
namespace Go.Proofs.YtbbaoeidobdblaaGreat.Sx
open Go
section
variable {P : Program} {C : Ctx} {T : Ty} {res : List ResultVar} {p : Pos} {tm : Tm} {m : Mem}
theorem grow_text {P : Program} {w : World} {t tu ty e : TypeId} {ie : TI} (hu : P.underlying t = some (.slice e)) (htu : P.underlying tu = some .string) (he : TIok P e ie) (hs1 : ie.sz = 1) {g n c : Nat} {xs : List Value} (hown : w.ownsRow 0 e 1 (.slice (some ⟨g, 0, none⟩) n c) n xs) (s : ByteArray)
    (hzl : ie.zero.length = 1) (hb : (n + s.size) * ie.bt ≤ 140737488355328) (hmx : n + s.size ≤ 140737488355328) :
    ∃ g' c' w', (Builtin.append_ #[t, tu] ty #[.slice (some ⟨g, 0, none⟩) n c, .string s]).run P w = .ok (.slice (some ⟨g', 0, none⟩) (n + s.size) c') w' ∧ w'.ownsRow 0 e 1 (.slice (some ⟨g', 0, none⟩) (n + s.size) c') (n + s.size) (xs ++ Lib.strCells s) ∧
      Ext (fun b => b < w.heap.size ∧ (Value.slice (some ⟨g, 0, none⟩) n c).ownBlock ≠ some b) w w' ∧ ((Value.slice (some ⟨g, 0, none⟩) n c).ownBlock = some g' ∨ w.heap.size ≤ g') ∧ g' < w'.heap.size := by
  obtain ⟨i, hi, hsz, hbt, z, hz, hzc⟩ := he.g_some
  have hzs : z.cells.size = 1 := by rw [← Array.length_toList, hzc, hzl]
  have hml : n + s.size ≤ maxLen := by unfold maxLen; omega
  have hxl : xs.length = n := by simpa using hown.1
  have hlen : (xs ++ Lib.strCells s).length = (n + s.size) * 1 := by rw [List.length_append, hxl, Lib.strCells_length, Nat.mul_one]
  rcases hown.2 with ⟨hv, hn⟩ | ⟨g1, cap, cur, hv, _, hg, hnc, hcm, hcs, htake⟩
  · cases hv
  · obtain ⟨rfl, rfl⟩ : g = g1 ∧ c = cap := by simpa using hv
    by_cases hroom : n + s.size ≤ c
    · have hr := Lib.run_append_room_string (P := P) w t tu ty e i hu htu hi (by omega) g n c cur hg s hroom (by rw [hcs]; omega)
      have hlt := (Array.getElem?_eq_some_iff.1 hg).1
      refine ⟨g, c, _, hr, ⟨hlen, .inr ⟨g, c, _, rfl, Nat.zero_le _, setRow_heap w g cur _ e _ hg, hroom, hcm, ?_, ?_⟩⟩, ⟨rfl, rfl, rfl, by simp, fun k hk => setRow_other w g k _ (fun e => hk.2 (by simp [Value.ownBlock, e]))⟩, .inl (by simp [Value.ownBlock]), by simp [hlt]⟩
      · simp only [List.size_toArray, List.length_append, List.length_take, List.length_drop, Array.length_toList, Lib.strCells_length]
        omega
      · rw [Nat.mul_one] at htake
        rw [htake, ← hlen]
        exact List.take_left
    · have holds : ∀ j u, xs[j]? = some u → w.cell? ((⟨g, 0, none⟩ : Addr).add j) = some u := hown.cells (g := g) rfl
      have hr := Lib.run_append_grow_string (P := P) w t tu ty e i z hu htu hi hz ⟨g, 0, none⟩ n c xs (by rw [hsz, hs1]; omega) holds s (by omega) (by omega) (growslice_fits (by omega) (by rw [hbt]; exact hb))
      have hge := grownCap_ge w (n + s.size) c e
      have hcm : grownCap w (n + s.size) c e ≤ maxLen := grownCap_le_maxLen w (n + s.size) c e hml
      refine ⟨_, _, _, hr, ⟨hlen, .inr ⟨w.heap.size, _, _, rfl, Nat.zero_le _, heap_alloc_new w.drew _, hge, hcm, ?_, ?_⟩⟩, (Ext.drew _ w).trans (Ext.alloc _ w.drew _ fun b hb => hb.1) fun _ hx => hx, .inr (Nat.le_refl _), by simp⟩
      · simp only [Array.size_append, List.size_toArray, size_zeroCells, hzs, hxl, Lib.strCells_length]
        omega
      · simp only [Array.toList_append, List.append_assoc]
        rw [← List.append_assoc, ← hlen]
        exact List.take_left
/-- A text is appended to bytes of one's own. -/
theorem appT (ok : Okc P T C res) (k : Nat) {o : Oper} {s x : Operand} {t tu d : Nat} (ho : o.op = .call ⟨.builtin .append, #[s, x], #[t, tu]⟩) (hd : o.dst = some d) {i ie iu : TI} (hi : tf t T = some i) (hik : i.kd = 3) (hie : tf i.el T = some ie) (hs1 : ie.sz = 1) (hzl : ie.zero.length = 1) (hiu : tf tu T = some iu) (huk : iu.kd = 4)
    {g n c : Nat} {cs : List CV} {u : SV} {st : ByteArray} (hk : look k m.rs = some (.row (some ⟨g, 0, none⟩) n c i.el 1 cs)) (hs : ev tm s = some u) (hu : u.val = .slice (some ⟨g, 0, none⟩) n c) (hx : ev tm x = some (.c (.v (.string st))))
    (hb : (n + st.size) * ie.bt ≤ 140737488355328) (hmx : n + st.size ≤ 140737488355328)
    (kk : ∀ g' c'', sx T C res 1000 p (put C.n (some d) (.c (.rw k (some ⟨g', 0, none⟩) (n + st.size) c'')) tm) ⟨m.B, m.G, (k, .row (some ⟨g', 0, none⟩) (n + st.size) c'' i.el 1 (cs ++ bC (bytesOf st))) :: del k (del k m.rs)⟩) : At C (.op o p) tm m := by
  rintro act w cs0 hR ⟨I, F, hJ⟩
  have o1 := hJ.own _ (look_mem hk)
  obtain ⟨g', c'', w', hr, hown, hext, hblk, hlt⟩ := grow_text (P := C.P) (t := t) (tu := tu) (ty := o.type) (ok.ty.get hi |>.g_slice hik) (ok.ty.get hiu |>.g_string huk) (ok.ty.get hie) hs1 o1.2 st hzl hb hmx
  have e1 : act.eval s = .slice (some ⟨g, 0, none⟩) n c := by rw [hR.eval hs, hu]
  have e2 : act.eval x = .string st := hR.eval hx
  have hrun : (execOp act.eval o).run C.P w = .ok (.value (.slice (some ⟨g', 0, none⟩) (n + st.size) c'')) w' := by
    simp [execOp, ho, resolve, invoke, builtin, e1, e2, hr]
  have hlv : (bC (bytesOf st)).map CV.val = Lib.strCells st := by simp [bC, bytesOf, Lib.strCells, Function.comp_def, CV.val]
  have hup := hJ.upd k k (.row (some ⟨g', 0, none⟩) (n + st.size) c'' i.el 1 (cs ++ bC (bytesOf st))) (fun b => (Value.slice (some ⟨g, 0, none⟩) n c).ownBlock = some b) (fun b => b = g') (fun b hb => ⟨(o1.1 b).2 hb, _, look_mem hk⟩) hext ⟨fun b => by simp [Value.ownBlock]; exact ⟨fun h => h.symm, fun h => h.symm⟩, by rw [List.map_append, hlv]; exact hown⟩ (fun b hb => by subst hb; exact ⟨hlt, hblk⟩) id
  have hRp := hR.put (some d) (.c (.rw k (some ⟨g', 0, none⟩) (n + st.size) c''))
  exact op_value (ok.sx (kk g' c'')) hrun (by rw [hd]; exact hRp) ⟨I, _, hup⟩
end
end Go.Proofs.YtbbaoeidobdblaaGreat.Sx

/- ref01.Put, PutText, number: what they hand back is one's own. -/
set_option linter.unusedVariables false
set_option linter.unusedSimpArgs false
namespace Go.Proofs.YtbbaoeidobdblaaGreat.Sx
open Go
attribute [local simp ↓] ifb_true' ifb_false'
attribute [local simp] ifb_true ifb_false ifb_eq sx argsT find ev evOp evs evo evBin evInt evStr evNil evNilA ptrA slcA isNoneA asB evLoad look del cellsB evUn evConv kdec fld evFieldA evField evIdxA evIdx evSlc bndL bndH evLen mmi put resV guardV gvL setO tupV cellsOf ones one upd lits nv exitTo SV.val CV.val TI.agg rdyA allR keepB scan simpO gsp isS subs keepT pickT wr memN pubs Res.fact Region.binds bld rest give delL back Res.eqv vi vb num Sv.val undef
theorem refPutS (w : World) (I : Nat → Prop) (hI : ∀ b, I b → b < w.heap.size) (xs : List Int) (s : Sl) (v : Int) (n : Nat) (h : ∀ W, Ext I w W → s.ok dByte W xs) (hl : xs.length + n ≤ 100000000000) (hn : n ≤ 8) (hv : 0 ≤ v) :
    FnS Tryz.prog 40 #[.slice s.1 xs.length s.2, .int .u64 v, .int .i64 n] w I noS (fun r : Sl => .slice r.1 (xs.length + n) r.2) (fun r => [.row r.1 (xs.length + n) r.2 5 1 (bC (xs ++ lowB v n))]) (fun _ _ => True) := by
  refine enterS (svs := [.c (.v (.slice s.1 xs.length s.2)), .c (.v (.int .u64 v)), .c (.v (.int .i64 n))]) tysOk Tryz.func40 rfl Tryz.ntmps40 Tryz.results40 (by kernel_rfl) (by simp) hI [] (owns_nil w) (fun b hb => hb.elim) (fun W => s.ok dByte W xs) h fun C hC hN ok => ?_
  have e1 : ¬ ((n : Int) < 0) := by omega
  have e2 : ¬ ((8 : Int) < n) := by omega
  simp [hN]
  refine nilr 600 5 1 (appV ok 600 rfl rfl rfl rfl rfl (by decide) rfl rfl rfl rfl rfl rfl dByte xs rfl (by show (0 + _) * 1 ≤ _; omega) (by omega) (fun W hW => ⟨rfl, hW⟩) fun l a' c'' W hll hr _ => ?_)
  have hx : l = xs.map (Value.int .u8) := rows_byte.1 hr
  subst hx
  simp [hN]
  refine loop ok (fun y : Nat × Sl => [(8, .c (.v (.int .i64 (y.1 : Nat)))), (7, .c (.v (.slice y.2.1 (xs.length + y.1) y.2.2)))]) (fun y => [(600, .row y.2.1 (xs.length + y.1) y.2.2 5 1 (bC (xs ++ (lowB v n).take y.1)))]) (fun y W => y.1 ≤ n) (fun y => n - y.1) (0, (a', c'')) ?_ ?_ (fun W _ => Nat.zero_le _) ?_
  · simp
  · simp [← bC_nv]
  rintro ⟨i, ra, rc⟩ W hi hG next
  simp only at hi
  simp [hN, e1, e2]
  refine ⟨fun hlt => ?_, fun hge => ?_⟩
  · have e3 : IntKind.i64.wrap (8 * (i : Int)) = (8 * i : Nat) := by rw [w64 (by omega) (by omega)]; omega
    have e4 : IntKind.u64.wrap ((8 * i : Nat) : Int) = (8 * i : Nat) := by rw [u64_wrap]; omega
    have e5 : min (8 * i) IntKind.u64.bits = 8 * i := by simp [IntKind.bits]; omega
    have e6 : v.fdiv (2 ^ (8 * i)) = v / 2 ^ (8 * i) := Int.fdiv_eq_ediv_of_nonneg _ (Int.le_of_lt (Int.pow_pos (by decide)))
    have e7 : IntKind.i64.wrap ((i : Int) + 1) = (i + 1 : Nat) := by rw [w64 (by omega) (by omega)]; omega
    have e8 : IntKind.u8.wrap (v.fdiv (2 ^ (8 * i))) = v / 2 ^ (8 * i) % 256 := by rw [e6, u8_wrap]
    have e9 : (lowB v n).take (i + 1) = (lowB v n).take i ++ [v / 2 ^ (8 * i) % 256] := by
      have : i < (lowB v n).length := by rw [lowB_length]; omega
      rw [List.take_add_one, List.getElem?_eq_getElem this]
      simp [lowB]
    rw [e3, e4, Int.toNat_natCast, e5, e8]
    refine ⟨by omega, fun g => appR ok 600 25 rfl rfl rfl rfl rfl (by decide) rfl rfl rfl rfl rfl rfl rfl (by decide) (by simp) (by show (_ + 1) * 1 ≤ _; omega) (by omega) fun g' c'' => ?_⟩
    simp [hN, e7]
    refine next (i + 1, some ⟨g', 0, none⟩, c'') _ _ (by simp; omega) (fun W h => ⟨by omega, h.2⟩) ?_
    simp [e9, bC, Nat.add_assoc]
  · obtain rfl : i = n := by omega
    have e10 : (lowB v i).take i = lowB v i := by rw [List.take_of_length_le]; rw [lowB_length]; omega
    rw [e10]
    exact retS hC (ra, rc) [600] (by simp) (by simp) fun _ _ _ => trivial
theorem refNumS (w : World) (I : Nat → Prop) (hI : ∀ b, I b → b < w.heap.size) (xs : List Int) (s : Sl) (v : Int) (h : ∀ W, Ext I w W → s.ok dByte W xs) (hl : xs.length + 8 ≤ 100000000000) :
    FnS Tryz.prog 83 #[.slice s.1 xs.length s.2, .int .i64 v] w I noS (fun r : Sl => .slice r.1 (xs.length + 8) r.2) (fun r => [.row r.1 (xs.length + 8) r.2 5 1 (bC (xs ++ intB v))]) (fun _ _ => True) := by
  refine enterS (svs := [.c (.v (.slice s.1 xs.length s.2)), .c (.v (.int .i64 v))]) tysOk Tryz.func83 rfl Tryz.ntmps83 Tryz.results83 (by kernel_rfl) (by simp) hI [] (owns_nil w) (fun b hb => hb.elim) (fun W => s.ok dByte W xs) h fun C hC hN ok => ?_
  simp [hN, u64_wrap]
  refine callS ok rfl rfl rfl [] [] trivial rfl (fun x : Sl => [(600, .row x.1 (xs.length + 8) x.2 5 1 (bC (xs ++ intB v)))]) (fun w I S hI hG hO hS => (refPutS w I hI xs s _ 8 hG hl (by omega) (Int.emod_nonneg _ (by decide))).lone hO) (fun r => by simp [intB]) (.inl fun k hk => by cases hk) fun x W _ => ?_
  simp [hN]
  exact retS hC x [600] rfl (by simp) fun W _ hG => trivial
theorem refTextS (w : World) (I : Nat → Prop) (hI : ∀ b, I b → b < w.heap.size) (xs : List Int) (s : Sl) (t : ByteArray) (h : ∀ W, Ext I w W → s.ok dByte W xs) (hl : xs.length + (4 + t.size) ≤ 100000000000) :
    FnS Tryz.prog 84 #[.slice s.1 xs.length s.2, .string t] w I noS (fun r : Sl => .slice r.1 (xs.length + (4 + t.size)) r.2) (fun r => [.row r.1 (xs.length + (4 + t.size)) r.2 5 1 (bC (xs ++ textB t))]) (fun _ _ => True) := by
  refine enterS (svs := [.c (.v (.slice s.1 xs.length s.2)), .c (.v (.string t))]) tysOk Tryz.func84 rfl Tryz.ntmps84 Tryz.results84 (by kernel_rfl) (by simp) hI [] (owns_nil w) (fun b hb => hb.elim) (fun W => s.ok dByte W xs) h fun C hC hN ok => ?_
  have e1 : IntKind.u64.wrap (t.size : Int) = (t.size : Int) := by rw [u64_wrap]; omega
  simp [hN, e1]
  refine callS ok rfl rfl rfl [] [] trivial rfl (fun x : Sl => [(600, .row x.1 (xs.length + 4) x.2 5 1 (bC (xs ++ lowB t.size 4)))]) (fun w I S hI hG hO hS => (refPutS w I hI xs s _ 4 hG (by omega) (by omega) (by omega)).lone hO) (fun r => by simp) (.inl fun k hk => by cases hk) fun x W _ => ?_
  simp [hN]
  refine rowSome 600 rfl (by omega) fun g e => ?_
  obtain ⟨xa, xc⟩ := x
  simp only at e
  subst e
  refine appT ok 600 rfl rfl rfl rfl rfl rfl rfl rfl rfl rfl rfl rfl rfl (by show _ * 1 ≤ _; omega) (by omega) fun g' c'' => ?_
  simp [hN]
  exact retS hC (some ⟨g', 0, none⟩, c'') [600] (by simp [Nat.add_assoc]) (by simp [Nat.add_assoc, textB, bC]) fun W _ hG => trivial
end Go.Proofs.YtbbaoeidobdblaaGreat.Sx

/- ref09.Pack. -/
set_option linter.unusedVariables false
set_option linter.unusedSimpArgs false
namespace Go.Proofs.YtbbaoeidobdblaaGreat.Sx
open Go
attribute [local simp ↓] ifb_true' ifb_false'
attribute [local simp] ifb_true ifb_false ifb_eq sx argsT find ev evOp evs evo evBin evInt evStr evNil evNilA ptrA slcA isNoneA asB evLoad look del cellsB evUn evConv kdec fld evFieldA evField evIdxA evIdx evSlc bndL bndH evLen mmi put resV guardV gvL setO tupV cellsOf ones one upd lits nv exitTo SV.val CV.val TI.agg rdyA allR keepB scan simpO gsp isS subs keepT pickT wr memN pubs Res.fact Region.binds bld rest give delL back Res.eqv vi vb num Sv.val undef
theorem refPut1 {w : World} {I : Nat → Prop} (hI : ∀ b, I b → b < w.heap.size) {a : Option Addr} {m c : Nat} (xs : List Int) (v : Int) (n : Nat) (h : ∀ W, Ext I w W → Sv.ok dByte W (a, m, c) xs) (hl : m + n ≤ 100000000000) (hn : n ≤ 8) (hv : 0 ≤ v) :
    FnS Tryz.prog 40 #[.slice a m c, .int .u64 v, .int .i64 n] w I noS (fun r : Sl => .slice r.1 (m + n) r.2) (fun r => [.row r.1 (m + n) r.2 5 1 (bC (xs ++ lowB v n))]) (fun _ _ => True) := by
  obtain rfl : m = xs.length := (h w (Ext.refl _ _)).1
  exact refPutS w I hI xs (a, c) v n (fun W e => (h W e).2) hl hn hv
theorem refNum1 {w : World} {I : Nat → Prop} (hI : ∀ b, I b → b < w.heap.size) {a : Option Addr} {m c : Nat} (xs : List Int) (v : Int) (h : ∀ W, Ext I w W → Sv.ok dByte W (a, m, c) xs) (hl : m + 8 ≤ 100000000000) :
    FnS Tryz.prog 83 #[.slice a m c, .int .i64 v] w I noS (fun r : Sl => .slice r.1 (m + 8) r.2) (fun r => [.row r.1 (m + 8) r.2 5 1 (bC (xs ++ intB v))]) (fun _ _ => True) := by
  obtain rfl : m = xs.length := (h w (Ext.refl _ _)).1
  exact refNumS w I hI xs (a, c) v (fun W e => (h W e).2) hl
theorem refText1 {w : World} {I : Nat → Prop} (hI : ∀ b, I b → b < w.heap.size) {a : Option Addr} {m c : Nat} (xs : List Int) (t : ByteArray) (h : ∀ W, Ext I w W → Sv.ok dByte W (a, m, c) xs) (hl : m + (4 + t.size) ≤ 100000000000) :
    FnS Tryz.prog 84 #[.slice a m c, .string t] w I noS (fun r : Sl => .slice r.1 (m + (4 + t.size)) r.2) (fun r => [.row r.1 (m + (4 + t.size)) r.2 5 1 (bC (xs ++ textB t))]) (fun _ _ => True) := by
  obtain rfl : m = xs.length := (h w (Ext.refl _ _)).1
  exact refTextS w I hI xs (a, c) t (fun W e => (h W e).2) hl
theorem row_ok {W : World} {a : Option Addr} {n c : Nat} {xs : List Int} (h : W.ownsRow 0 5 1 (.slice a n c) n ((bC xs).map CV.val)) (hn : n = xs.length) (hl : n ≤ 100000000000) : Sv.ok dByte W (a, n, c) xs := by
  subst hn
  exact byte_ok (by simpa [bC_val] using h) hl
end Go.Proofs.YtbbaoeidobdblaaGreat.Sx

/- ref09.Whole, ref17.first, Fits. -/
set_option linter.unusedVariables false
set_option linter.unusedSimpArgs false
namespace Go.Proofs.YtbbaoeidobdblaaGreat.Sx
open Go
attribute [local simp ↓] ifb_true' ifb_false'
attribute [local simp] ifb_true ifb_false ifb_eq sx argsT find ev evOp evs evo evBin evInt evStr evNil evNilA ptrA slcA isNoneA asB evLoad look del cellsB evUn evConv kdec fld evFieldA evField evIdxA evIdx evSlc bndL bndH evLen mmi put resV guardV gvL setO tupV cellsOf ones one upd lits nv exitTo SV.val CV.val TI.agg rdyA allR keepB scan simpO gsp isS subs keepT pickT wr memN pubs Res.fact Region.binds bld rest give delL back Res.eqv vi vb num Sv.val undef
theorem refWhole0 (w : World) (I : Nat → Prop) (hI : ∀ b, I b → b < w.heap.size) (s : Sta) (si sb : Sl) (h : ∀ W, Ext I w W → StaR W s si sb) (hl : s.inos.length + s.bad.length ≤ 1000000000) :
    Fn0 Tryz.prog 113 #[.agg (staC s si sb).toArray] w I Sv.val (fun r W => Sv.ok dDee W r (wholeL s)) := by
  obtain ⟨ia, ic⟩ := si
  obtain ⟨ba, bc⟩ := sb
  refine enter (svs := [.ag ((staC s (ia, ic) (ba, bc)).map .v)]) tysOk Tryz.func113 rfl Tryz.ntmps113 Tryz.results113 (by kernel_rfl) (by simp) hI (fun W => StaR W s (ia, ic) (ba, bc)) h fun C hC hN ok => ?_
  simp [hN]
  intro g1 g2
  have z0 : ∀ W, InoR W inoZ (none, 0) (none, 0) := fun W => ⟨⟨Nat.le_refl _, by simp [inoZ], rd_nil _ _ _⟩, ⟨Nat.le_refl _, by simp [inoZ], rd_nil _ _ _⟩⟩
  refine loop ok (fun y : Nat × Option Addr × Nat × List Dx => [(4, .c (.v (.int .i64 (y.1 : Nat)))), (3, .c (.v (.slice y.2.1 (y.1 + 1) y.2.2.1)))]) (fun y => [(9, .row y.2.1 (y.1 + 1) y.2.2.1 46 9 (deesC y.2.2.2)), (1, .box g1 39 ((staC s (ia, ic) (ba, bc)).map .v))]) (fun y W => y.1 ≤ s.inos.length ∧ y.2.2.2.map Prod.fst = ⟨1, s.next, inoZ⟩ :: ((s.inos.take y.1).map fun x => ⟨2, 0, x⟩) ∧ DeesR W y.2.2.2) (fun y => s.inos.length - y.1) (0, some ⟨g2, 0, none⟩, 1, [(⟨1, s.next, inoZ⟩, (none, 0), (none, 0))]) ?_ ?_ (fun W hW => ⟨Nat.zero_le _, by simp, fun y hy => by rw [List.mem_singleton.1 hy]; exact z0 W⟩) ?_
  · simp
  · simp [deesC, inoZ]
  rintro ⟨i, ya, yc, l⟩ W ⟨hi, hm, hr⟩ hG next
  simp [hN]
  refine ⟨fun hlt => ?_, fun hge => ?_⟩
  · obtain ⟨b, o, e⟩ := (sta_get (show StaR W s (ia, ic) (ba, bc) from hG)).1.2.2.2.is_some (Nat.lt_of_le_of_lt (Nat.zero_le _) hlt)
    cases e
    simp [hN]
    have e6 : IntKind.i64.wrap ((i : Int) + 1) = (i + 1 : Nat) := by rw [w64 (by omega) (by omega)]; omega
    have ft : s.inos.take (i + 1) = s.inos.take i ++ [s.inos[i]] := by rw [List.take_add_one, List.getElem?_eq_getElem hlt]; rfl
    generalize hd : s.inos[i] = d at ft
    refine ⟨hlt, loadA ok rfl rfl rfl rfl (fun c W => dIno.K W d c) (fun W hW => ?_) ?_⟩
    · obtain ⟨cs, hk, hl, hc⟩ := (sta_get hW.2).1.2.2.2.get hlt
      rw [hd] at hk
      exact ⟨cs, hl, hc, hk⟩
    · rintro v W _ ⟨⟨ea, ec⟩, ⟨ra, rc⟩, rfl, hR⟩ hG2
      simp [hN]
      intro g5
      refine appR ok 9 24 rfl rfl rfl rfl rfl (by decide) rfl rfl rfl rfl rfl rfl rfl (by decide) (by simp) (by show (i + 1 + 1) * 112 ≤ _; omega) (by omega) fun g' c' => ?_
      simp [hN, e6]
      refine next (i + 1, some ⟨g', 0, none⟩, c', l ++ [(⟨2, 0, d⟩, (ea, ec), (ra, rc))]) _ _ (by simp; omega) (fun W h => ⟨⟨hlt, by simp [hm, ft], fun y hy => ?_⟩, h.2.2⟩) ?_
      · rcases List.mem_append.1 hy with hy | hy
        · exact h.2.1.2.2 y hy
        · rw [List.mem_singleton.1 hy]
          exact ino_get h.1
      · simp [deesC_snoc]
  · have hi' : i = s.inos.length := by simp only at hi; omega
    subst hi'
    have hT : s.inos.take s.inos.length = s.inos := List.take_length
    rw [hT] at *
    simp [hN]
    refine loop ok (fun y : Nat × Option Addr × Nat × List Dx => [(5, .c (.v (.int .i64 (y.1 : Nat)))), (3, .c (.v (.slice y.2.1 (s.inos.length + 1 + y.1) y.2.2.1)))]) (fun y => [(9, .row y.2.1 (s.inos.length + 1 + y.1) y.2.2.1 46 9 (deesC y.2.2.2)), (1, .box g1 39 ((staC s (ia, ic) (ba, bc)).map .v))]) (fun y W => y.1 ≤ s.bad.length ∧ y.2.2.2.map Prod.fst = ⟨1, s.next, inoZ⟩ :: (s.inos.map fun x => ⟨2, 0, x⟩) ++ ((s.bad.take y.1).map fun n => ⟨4, n, inoZ⟩) ∧ DeesR W y.2.2.2) (fun y => s.bad.length - y.1) (0, ya, yc, l) ?_ ?_ (fun W hW => ⟨Nat.zero_le _, by simpa using hm, hW.1.2⟩) ?_
    · simp
    · simp
    rintro ⟨i, za, zc, k⟩ W ⟨hi2, hm2, hr2⟩ hG3 next2
    simp [hN]
    refine ⟨fun hlt => ?_, fun hge => ?_⟩
    · obtain ⟨b, o, e⟩ := (sta_get (show StaR W s (ia, ic) (ba, bc) from hG3.2)).2.2.2.2.is_some (Nat.lt_of_le_of_lt (Nat.zero_le _) hlt)
      cases e
      simp [hN]
      have e6 : IntKind.i64.wrap ((i : Int) + 1) = (i + 1 : Nat) := by rw [w64 (by omega) (by omega)]; omega
      have ft : s.bad.take (i + 1) = s.bad.take i ++ [s.bad[i]] := by rw [List.take_add_one, List.getElem?_eq_getElem hlt]; rfl
      generalize hd : s.bad[i] = d at ft
      refine ⟨hlt, load1 ok rfl rfl rfl rfl (fun v W => v = .int .i64 d) (fun W hW => ?_) ?_⟩
      · obtain ⟨cs, hk, _, hc⟩ := (sta_get hW.2.2).2.2.2.2.get hlt
        rw [hd] at hk
        exact ⟨_, by simpa [dInt, flat] using hc 0 (.int .i64 d) (by rw [hk]; rfl), rfl⟩
      · rintro v W rfl hG4
        simp [hN]
        intro g15
        refine appR ok 9 40 rfl rfl rfl rfl rfl (by decide) rfl rfl rfl rfl rfl rfl rfl (by decide) (by simp) (by show (s.inos.length + 1 + i + 1) * 112 ≤ _; omega) (by omega) fun g' c' => ?_
        simp [hN, e6]
        refine next2 (i + 1, some ⟨g', 0, none⟩, c', k ++ [(⟨4, d, inoZ⟩, (none, 0), (none, 0))]) _ _ (by simp; omega) (fun W h => ⟨⟨hlt, by simp [hm2, ft], fun y hy => ?_⟩, h.2⟩) ?_
        · rcases List.mem_append.1 hy with hy | hy
          · exact h.1.2.2 y hy
          · rw [List.mem_singleton.1 hy]
            exact z0 W
        · simp [deesC_snoc, inoZ, Nat.add_assoc]
    · have hi' : i = s.bad.length := by simp only at hi2; omega
      subst hi'
      have hT2 : s.bad.take s.bad.length = s.bad := List.take_length
      have hm3 : k.map Prod.fst = wholeL s := by rw [hm2, hT2]; rfl
      have hkl : (wholeL s).length = s.inos.length + 1 + s.bad.length := by simp [wholeL]; omega
      refine ret0 hC (za, s.inos.length + 1 + s.bad.length, zc) rfl fun W hp hG => ?_
      have hrw := dees_rows k hG.1.2.2
      rw [hm3] at hrw
      obtain ⟨k1, k2, k3⟩ := hrw.rd hp.1 (by decide)
      exact ⟨k1, by simp; omega, by omega, k3⟩
set_option maxRecDepth 100000 in
set_option maxHeartbeats 1000000 in
theorem refRight0 (w : World) (I : Nat → Prop) (hI : ∀ b, I b → b < w.heap.size) (g : Geo) (hg : g.right) :
    Fn0 Tryz.prog 66 #[.agg (geoC g).toArray] w I (fun b : Bool => .bool b) (fun y W => y = true) := by
  refine enter (svs := [.ag ((geoC g).map .v)]) tysOk Tryz.func66 rfl Tryz.ntmps66 Tryz.results66 (by kernel_rfl) (by simp) hI (fun _ => True) (fun _ _ => trivial) fun C hC hN ok => ?_
  obtain ⟨q0, ⟨q1, q2⟩, ⟨q3, q4⟩, ⟨q5, q6⟩, ⟨q7, q8⟩, ⟨q9, q10⟩⟩ := id hg
  simp (maxSteps := 2000000) -implicitDefEqProofs [hN, q0, q1, q2, q3, q4, q5, q6, q7, q8, q9, q10]
  intro g1
  exact ret0 hC true rfl fun _ _ _ => rfl
/-- How many bytes a half has. -/
def hS (g : Geo) : Nat := g.sectors.toNat / 2 * g.sector.toNat
theorem hS_le {g : Geo} (hg : g.right) : (hS g : Int) = g.sectors / 2 * g.sector ∧ hS g ≤ 32768 := by
  obtain ⟨q0, ⟨q1, q2⟩, ⟨q3, q4⟩, _⟩ := id hg
  have h2 : (g.sectors.toNat : Int) = g.sectors := by omega
  have h3 : (g.sector.toNat : Int) = g.sector := by omega
  refine ⟨by unfold hS; rw [Int.natCast_mul, Int.natCast_ediv, h2, h3]; rfl, ?_⟩
  have h5 : g.sectors.toNat / 2 ≤ 8 := by omega
  exact Nat.mul_le_mul h5 (show g.sector.toNat ≤ 4096 by omega)
theorem refHalf0 (w : World) (I : Nat → Prop) (hI : ∀ b, I b → b < w.heap.size) (g : Geo) (hg : g.right) :
    Fn0 Tryz.prog 67 #[.agg (geoC g).toArray] w I (fun v : Int => .int .i64 v) (fun y W => y = hS g) := by
  refine enter (svs := [.ag ((geoC g).map .v)]) tysOk Tryz.func67 rfl Tryz.ntmps67 Tryz.results67 (by kernel_rfl) (by simp) hI (fun _ => True) (fun _ _ => trivial) fun C hC hN ok => ?_
  obtain ⟨q0, ⟨q1, q2⟩, ⟨q3, q4⟩, ⟨q5, q6⟩, ⟨q7, q8⟩, ⟨q9, q10⟩⟩ := id hg
  obtain ⟨k1, k2⟩ := hS_le hg
  have e1 : g.sectors.tdiv 2 = g.sectors / 2 := Int.tdiv_eq_ediv_of_nonneg (by omega)
  have e2 : IntKind.i64.wrap (g.sectors / 2) = g.sectors / 2 := w64 (by omega) (by omega)
  have e3 : IntKind.i64.wrap (g.sectors / 2 * g.sector) = hS g := by rw [← k1]; exact w64 (by omega) (by omega)
  simp [hN]
  intro g1
  refine call0 ok rfl rfl rfl (fun w I hI hG => refRight0 w I hI g hg) fun y W hy => ?_
  subst hy
  simp [hN, e1, e2, e3]
  exact ret0 hC _ rfl fun W _ _ => rfl
end Go.Proofs.YtbbaoeidobdblaaGreat.Sx

/- Plain: power goes while something is written. -/
set_option linter.unusedVariables false
set_option linter.unusedSimpArgs false
namespace Go.Proofs.YtbbaoeidobdblaaGreat.Sx
open Go
/-- What stands there when power goes: some of it, one byte of whatever kind, and what is erased. -/
def torn (xs ys : List Int) : Prop := ∃ i y, i < xs.length ∧ (0 ≤ y ∧ y ≤ 255) ∧ ys = xs.take i ++ y :: List.replicate (xs.length - i - 1) 255
theorem torn.len {xs ys : List Int} (h : torn xs ys) : ys.length = xs.length := by
  obtain ⟨i, y, h1, _, rfl⟩ := h
  simp
  omega
theorem torn.isB {xs ys : List Int} (h : torn xs ys) (hx : isB xs) : isB ys := by
  obtain ⟨i, y, h1, h2, rfl⟩ := h
  refine isB_app.2 ⟨fun x h => hx x (List.mem_of_mem_take h), fun x h => ?_⟩
  rcases List.mem_cons.1 h with rfl | h
  · exact h2
  · rw [(List.mem_replicate.1 h).2]; decide
theorem torn.cons {xs ys : List Int} (x : Int) (h : torn xs ys) : torn (x :: xs) (x :: ys) := by
  obtain ⟨i, y, h1, h2, rfl⟩ := h
  exact ⟨i + 1, y, by simpa using h1, h2, by simp⟩
theorem torn.snoc {xs ys : List Int} (x : Int) (h : torn xs ys) : torn (xs ++ [x]) (ys ++ [255]) := by
  obtain ⟨i, y, h1, h2, rfl⟩ := h
  refine ⟨i, y, by simp; omega, h2, ?_⟩
  rw [List.take_append_of_le_length (by omega), List.append_assoc, List.cons_append]
  congr 2
  rw [show [(255 : Int)] = List.replicate 1 255 from rfl, List.replicate_append_replicate]
  congr 1
  simp
  omega
end Go.Proofs.YtbbaoeidobdblaaGreat.Sx

/- Plain: power goes while a half is wiped. -/
set_option linter.unusedVariables false
set_option linter.unusedSimpArgs false
namespace Go.Proofs.YtbbaoeidobdblaaGreat.Sx
open Go
/-- Bytes that were wiped in part, from the last one on. -/
structure part (b b' : List Int) (lo hi : Nat) : Prop where
  len : b'.length = b.length
  byte : isB b'
  out : ∀ j, j < lo ∨ hi ≤ j → b'[j]? = b[j]?
  on : ∃ p, p ≤ hi ∧ (∀ j, j < p → b'[j]? = b[j]?) ∧ ∀ j, p ≤ j → j < hi → b'[j]? ≠ some 0
theorem part.refl {b : List Int} (hb : isB b) (lo hi : Nat) : part b b lo hi := ⟨rfl, hb, fun _ _ => rfl, hi, Nat.le_refl _, fun _ _ => rfl, fun j h1 h2 => by omega⟩
end Go.Proofs.YtbbaoeidobdblaaGreat.Sx

/- Plain: what a chip tells wherever power goes. -/
set_option linter.unusedVariables false
set_option linter.unusedSimpArgs false
namespace Go.Proofs.YtbbaoeidobdblaaGreat.Sx
open Go
/-- A half tells a state, of an epoch; the other one is older. -/
def tells (c : Cp) (h : Nat) (s : Sta) (e : Int) : Prop := (∃ u m, readM (halfB c h) = ⟨e, u, s, m⟩) ∧ (readM (halfB c (1 - h))).ep < e
/-- A chip tells a state, of an epoch. -/
structure Gd (c : Cp) (s : Sta) (e : Int) : Prop where
  fit : c.fit
  bytes : isB c.b
  sok : StaOk s
  fits : wholeB s + 15 ≤ halfSz c
  ep : 1 ≤ e
  on : ∃ h, h < 2 ∧ tells c h s e
/-- Power plays no part. -/
theorem Gd.pow {c : Cp} {s : Sta} {e : Int} (h : Gd c s e) (q : Pw) (hq : q.left ≤ 9223372036854775807) : Gd { c with p := q } s e :=
  ⟨⟨h.fit.right, h.fit.len, h.fit.cap, hq⟩, h.bytes, h.sok, h.fits, h.ep, h.on⟩
/-- A journal whose power may go. -/
def Jn.at (j : Jn) (q : Pw) : Jn := { j with c := { j.c with p := q } }
end Go.Proofs.YtbbaoeidobdblaaGreat.Sx

/- power.Cut, On. -/
set_option linter.unusedVariables false
set_option linter.unusedSimpArgs false
namespace Go.Proofs.YtbbaoeidobdblaaGreat.Sx
open Go
attribute [local simp ↓] ifb_true' ifb_false'
attribute [local simp] ifb_true ifb_false ifb_eq sx argsT find ev evOp evs evo evBin evInt evStr evNil evNilA ptrA slcA isNoneA asB evLoad look del cellsB evUn evConv kdec fld evFieldA evField evIdxA evIdx evSlc bndL bndH evLen mmi put resV guardV gvL setO tupV cellsOf ones one upd lits nv exitTo SV.val CV.val TI.agg rdyA allR keepB scan simpO gsp isS subs keepT pickT wr memN pubs Res.fact Region.binds bld rest give delL back Res.eqv vi vb num Sv.val undef
def Pw.on (p : Pw) : Pw := { p with left := -1, off := false }
end Go.Proofs.YtbbaoeidobdblaaGreat.Sx

/- The reference's power. -/
set_option linter.unusedVariables false
set_option linter.unusedSimpArgs false
namespace Go.Proofs.YtbbaoeidobdblaaGreat.Sx
open Go
attribute [local simp ↓] ifb_true' ifb_false'
attribute [local simp] ifb_true ifb_false ifb_eq sx argsT find ev evOp evs evo evBin evInt evStr evNil evNilA ptrA slcA isNoneA asB evLoad look del cellsB evUn evConv kdec fld evFieldA evField evIdxA evIdx evSlc bndL bndH evLen mmi put resV guardV gvL setO tupV cellsOf ones one upd lits nv exitTo SV.val CV.val TI.agg rdyA allR keepB scan simpO gsp isS subs keepT pickT wr memN pubs Res.fact Region.binds bld rest give delL back Res.eqv vi vb num Sv.val undef
abbrev rpB (p : Pw) : List CV := [.b p.off, .v (.int .i64 p.left), .v (.int .u8 p.mask), .v (.int .i64 p.done), .v (.slice none 0 0)]
end Go.Proofs.YtbbaoeidobdblaaGreat.Sx

/- ref01.NewNor, within, Read. -/
set_option linter.unusedVariables false
set_option linter.unusedSimpArgs false
namespace Go.Proofs.YtbbaoeidobdblaaGreat.Sx
open Go
attribute [local simp ↓] ifb_true' ifb_false'
attribute [local simp] ifb_true ifb_false ifb_eq sx argsT find ev evOp evs evo evBin evInt evStr evNil evNilA ptrA slcA isNoneA asB evLoad look del cellsB evUn evConv kdec fld evFieldA evField evIdxA evIdx evSlc bndL bndH evLen mmi put resV guardV gvL setO tupV cellsOf ones one upd lits nv exitTo SV.val CV.val TI.agg rdyA allR keepB scan simpO gsp isS subs keepT pickT wr memN pubs Res.fact Region.binds bld rest give delL back Res.eqv vi vb num Sv.val undef
/-- The reference's chip: a chip (its map is a ghost), and how often each sector was erased. -/
structure Rc where
  c : Cp
  gk : Nat
  kc : Nat
  ct : List Int
abbrev kC (l : List Int) : List CV := l.map fun y => .v (.int .i64 y)
abbrev Rc.chip (r : Rc) : Res := .box r.c.gc 81 [.v (.int .i64 r.c.g.sectors), .v (.int .i64 r.c.g.sector), .v (.int .i64 r.c.g.blocks), .v (.int .i64 r.c.g.pages), .v (.int .i64 r.c.g.page), .bp 1001 r.c.gp 0, .rw 1002 (some ⟨r.c.gb, 0, none⟩) r.c.b.length r.c.bc, .rw 1003 (some ⟨r.gk, 0, none⟩) r.ct.length r.kc]
abbrev Rc.pow (r : Rc) : Res := .box r.c.gp 79 (rpB r.c.p)
abbrev Rc.row (r : Rc) : Res := .row (some ⟨r.c.gb, 0, none⟩) r.c.b.length r.c.bc 5 1 (bC r.c.b)
abbrev Rc.cnt (r : Rc) : Res := .row (some ⟨r.gk, 0, none⟩) r.ct.length r.kc 3 1 (kC r.ct)
abbrev Rc.res (r : Rc) : List Res := [r.chip, r.pow, r.row, r.cnt]
end Go.Proofs.YtbbaoeidobdblaaGreat.Sx

/- ref09.Pack of any deeds. -/
set_option linter.unusedVariables false
set_option linter.unusedSimpArgs false
namespace Go.Proofs.YtbbaoeidobdblaaGreat.Sx
open Go
attribute [local simp ↓] ifb_true' ifb_false'
attribute [local simp] ifb_true ifb_false ifb_eq sx argsT find ev evOp evs evo evBin evInt evStr evNil evNilA ptrA slcA isNoneA asB evLoad look del cellsB evUn evConv kdec fld evFieldA evField evIdxA evIdx evSlc bndL bndH evLen mmi put resV guardV gvL setO tupV cellsOf ones one upd lits nv exitTo SV.val CV.val TI.agg rdyA allR keepB scan simpO gsp isS subs keepT pickT wr memN pubs Res.fact Region.binds bld rest give delL back Res.eqv vi vb num Sv.val undef
set_option maxHeartbeats 2000000 in
theorem refPackG0 (w : World) (I : Nat → Prop) (hI : ∀ b, I b → b < w.heap.size) (l : List Dee) (s : Sv) (h : ∀ W, Ext I w W → s.ok dDee W l) (hl : (deedsB l).length ≤ 10000000000) :
    Fn0 Tryz.prog 42 #[s.val] w I Sv.val (fun r W => Sv.ok dByte W r (deedsB l)) := by
  obtain ⟨sa, sn, sc⟩ := s
  obtain rfl : sn = l.length := (h w (Ext.refl _ _)).1
  have hx := (h w (Ext.refl _ _)).2.2.1
  refine enter (svs := [.c (.v (.slice sa l.length sc))]) tysOk Tryz.func42 rfl Tryz.ntmps42 Tryz.results42 (by kernel_rfl) (by simp) hI (fun W => Sv.ok dDee W (sa, l.length, sc) l) h fun C hC hN ok => ?_
  simp [hN]
  have b1 := fm_le deedB l
  refine nilr 600 5 1 (loop ok (fun a : Nat × Nat × Sl => [(4, .c (.v (.int .i64 (a.1 : Nat)))), (3, .c (.v (.slice a.2.2.1 a.2.1 a.2.2.2)))]) (fun a => [(600, .row a.2.2.1 a.2.1 a.2.2.2 5 1 (bC ((l.take a.1).flatMap deedB)))]) (fun a W => a.1 ≤ l.length ∧ a.2.1 = ((l.take a.1).flatMap deedB).length) (fun a => l.length - a.1) (0, 0, (none, 0)) ?_ ?_ (fun W hW => ⟨Nat.zero_le _, rfl⟩) ?_)
  · simp
  · simp [bC]
  rintro ⟨i, yn, ya, yc⟩ W ⟨hi, hr⟩ hG next
  simp only at hi hr
  simp [hN]
  refine ⟨fun hlt => ?_, fun hge => ?_⟩
  · have hG' : Sv.ok dDee W (sa, l.length, sc) l := hG
    obtain ⟨b, o, e⟩ := hG'.2.2.2.is_some (Nat.lt_of_le_of_lt (Nat.zero_le _) hlt)
    cases e
    simp [hN]
    have hb := b1 (i + 1)
    rw [fm_take _ _ _ hlt, List.length_append] at hb
    have hb2 : yn + (deedB l[i]).length ≤ 10000000000 := by rw [hr]; exact Nat.le_trans hb hl
    have e6 : IntKind.i64.wrap ((i : Int) + 1) = (i + 1 : Nat) := by rw [w64 (by omega) (by omega)]; omega
    have ft := fm_take deedB _ _ hlt
    generalize hd : l[i] = d at hb2 ft
    obtain ⟨X, hX⟩ : ∃ X, X = (l.take i).flatMap deedB := ⟨_, rfl⟩
    rw [← hX] at ft hr ⊢
    refine ⟨hlt, loadA ok rfl rfl rfl rfl (fun c W => dDee.K W d c) (fun W hW => ?_) ?_⟩
    · obtain ⟨cs, hk, hl, hc⟩ := hW.2.2.2.2.get hlt
      rw [hd] at hk
      exact ⟨cs, hl, hc, hk⟩
    · rintro v W _ ⟨⟨ea, ec⟩, ⟨ra, rc⟩, rfl, hR⟩ hG2
      simp [hN]
      have hd1 : 1 ≤ (deedB d).length := by simp only [deedB, List.length_append, lowB_length]; omega
      have k0 : lowB (d.kind % 18446744073709551616) 1 = [d.kind % 256] := by simp [lowB]
      intro g5 g6
      refine appR ok 600 23 rfl rfl rfl rfl rfl (by decide) rfl rfl rfl rfl rfl rfl rfl (by decide) (by simp) (by show (_ + 1) * 1 ≤ _; omega) (by omega) fun g7 c7 => ?_
      have hbs : ∀ v : Int, bC X ++ [CV.v (.int .u8 v)] = bC (X ++ [v]) := fun v => by simp [bC]
      simp [hN, u8_wrap, hbs]
      obtain ⟨Y, hY⟩ : ∃ Y, Y = X ++ [d.kind % 256] := ⟨_, rfl⟩
      rw [← hY]
      have hYl : yn + 1 = Y.length := by rw [hY, List.length_append, ← hr]; rfl
      refine ⟨fun k1 => ?_, fun k1 => ⟨fun k2 => ?_, fun k2 => ⟨fun k3 => ?_, fun k3 => ⟨fun k4 => ?_, fun k4 => ?_⟩⟩⟩⟩
      · have td : deedB d = lowB (d.kind % 18446744073709551616) 1 ++ intB d.no := by simp [deedB, tailB, k1]
        rw [td, k0] at hb2 ft
        simp only [List.length_append, List.length_cons, List.length_nil, intB_length] at hb2
        refine pub 600 rfl (by decide) (callS ok rfl rfl rfl [] [] trivial rfl (fun x : Sl => [(600, .row x.1 (yn + 1 + 8) x.2 5 1 (bC (Y ++ intB d.no)))]) (fun w I S hI hG hO hS => (refNum1 hI Y d.no (fun W e => row_ok (hG W e).1 hYl (by omega)) (by omega)).lone hO) (fun r => by simp) (.inl fun k hk => by cases hk) fun x W _ => ?_)
        simp [hN, e6]
        refine next (i + 1, yn + 1 + 8, x) _ _ (by simp; omega) (fun W h => ⟨⟨hlt, by rw [ft, List.length_append, List.length_append, ← hr]; simp [intB_length]⟩, h.2.2.2⟩) ?_
        simp [ft, hY]
      · have td : deedB d = lowB (d.kind % 18446744073709551616) 1 ++ intB d.no := by simp [deedB, tailB, k2]
        rw [td, k0] at hb2 ft
        simp only [List.length_append, List.length_cons, List.length_nil, intB_length] at hb2
        refine pub 600 rfl (by decide) (callS ok rfl rfl rfl [] [] trivial rfl (fun x : Sl => [(600, .row x.1 (yn + 1 + 8) x.2 5 1 (bC (Y ++ intB d.no)))]) (fun w I S hI hG hO hS => (refNum1 hI Y d.no (fun W e => row_ok (hG W e).1 hYl (by omega)) (by omega)).lone hO) (fun r => by simp) (.inl fun k hk => by cases hk) fun x W _ => ?_)
        simp [hN, e6]
        refine next (i + 1, yn + 1 + 8, x) _ _ (by simp; omega) (fun W h => ⟨⟨hlt, by rw [ft, List.length_append, List.length_append, ← hr]; simp [intB_length]⟩, h.2.2.2⟩) ?_
        simp [ft, hY]
      · have td : deedB d = lowB (d.kind % 18446744073709551616) 1 ++ intB d.no := by simp [deedB, tailB, k3]
        rw [td, k0] at hb2 ft
        simp only [List.length_append, List.length_cons, List.length_nil, intB_length] at hb2
        refine pub 600 rfl (by decide) (callS ok rfl rfl rfl [] [] trivial rfl (fun x : Sl => [(600, .row x.1 (yn + 1 + 8) x.2 5 1 (bC (Y ++ intB d.no)))]) (fun w I S hI hG hO hS => (refNum1 hI Y d.no (fun W e => row_ok (hG W e).1 hYl (by omega)) (by omega)).lone hO) (fun r => by simp) (.inl fun k hk => by cases hk) fun x W _ => ?_)
        simp [hN, e6]
        refine next (i + 1, yn + 1 + 8, x) _ _ (by simp; omega) (fun W h => ⟨⟨hlt, by rw [ft, List.length_append, List.length_append, ← hr]; simp [intB_length]⟩, h.2.2.2⟩) ?_
        simp [ft, hY]
      · have td : deedB d = lowB (d.kind % 18446744073709551616) 1 ++ inoB d.ino := by simp [deedB, tailB, k4]
        rw [td, k0] at hb2 ft
        have hx1 := hR.1.2.1
        have hx2 := hR.2.2.1
        generalize hx : d.ino = x at *
        simp only [List.length_append, List.length_cons, List.length_nil, inoB_length] at hb2
        intro g8
        refine pub 600 rfl (by decide) (drawK ok mixed (by kernel_rfl) ?_)
        simp (maxSteps := 2000000) -implicitDefEqProofs [hN]
        refine callS ok rfl rfl rfl [] [] trivial rfl (fun r : Sl => [(600, .row r.1 (yn + 1 + 8) r.2 5 1 (bC (Y ++ intB x.no)))]) (fun w I S hI hG hO hS => (refNum1 hI (Y) x.no (fun W e => row_ok (hG W e).1 hYl (by omega)) (by omega)).lone hO) (fun r => by simp) (.inl fun k hk => by cases hk) fun r0 W _ => ?_
        obtain ⟨Y0, hY0⟩ : ∃ Z, Z = Y ++ intB x.no := ⟨_, rfl⟩
        obtain ⟨n0, hn0⟩ : ∃ n, n = yn + 1 + 8 := ⟨_, rfl⟩
        have hl0 : n0 = Y0.length := by rw [hY0, List.length_append, ← hYl, hn0, intB_length]
        rw [← hY0, ← hn0]
        obtain ⟨ra0, rc0⟩ := r0
        simp (maxSteps := 2000000) -implicitDefEqProofs [hN]
        refine pub 600 rfl (by decide) (callS ok rfl rfl rfl [] [] trivial rfl (fun r : Sl => [(600, .row r.1 (n0 + 8) r.2 5 1 (bC (Y0 ++ intB x.kind)))]) (fun w I S hI hG hO hS => (refNum1 hI (Y0) x.kind (fun W e => row_ok (hG W e).1 hl0 (by omega)) (by omega)).lone hO) (fun r => by simp) (.inl fun k hk => by cases hk) fun r1 W _ => ?_)
        obtain ⟨Y1, hY1⟩ : ∃ Z, Z = Y0 ++ intB x.kind := ⟨_, rfl⟩
        obtain ⟨n1, hn1⟩ : ∃ n, n = n0 + 8 := ⟨_, rfl⟩
        have hl1 : n1 = Y1.length := by rw [hY1, List.length_append, ← hl0, hn1, intB_length]
        rw [← hY1, ← hn1]
        obtain ⟨ra1, rc1⟩ := r1
        simp (maxSteps := 2000000) -implicitDefEqProofs [hN]
        refine pub 600 rfl (by decide) (callS ok rfl rfl rfl [] [] trivial rfl (fun r : Sl => [(600, .row r.1 (n1 + 8) r.2 5 1 (bC (Y1 ++ intB x.links)))]) (fun w I S hI hG hO hS => (refNum1 hI (Y1) x.links (fun W e => row_ok (hG W e).1 hl1 (by omega)) (by omega)).lone hO) (fun r => by simp) (.inl fun k hk => by cases hk) fun r2 W _ => ?_)
        obtain ⟨Y2, hY2⟩ : ∃ Z, Z = Y1 ++ intB x.links := ⟨_, rfl⟩
        obtain ⟨n2, hn2⟩ : ∃ n, n = n1 + 8 := ⟨_, rfl⟩
        have hl2 : n2 = Y2.length := by rw [hY2, List.length_append, ← hl1, hn2, intB_length]
        rw [← hY2, ← hn2]
        obtain ⟨ra2, rc2⟩ := r2
        simp (maxSteps := 2000000) -implicitDefEqProofs [hN]
        refine pub 600 rfl (by decide) (callS ok rfl rfl rfl [] [] trivial rfl (fun r : Sl => [(600, .row r.1 (n2 + 8) r.2 5 1 (bC (Y2 ++ intB x.size)))]) (fun w I S hI hG hO hS => (refNum1 hI (Y2) x.size (fun W e => row_ok (hG W e).1 hl2 (by omega)) (by omega)).lone hO) (fun r => by simp) (.inl fun k hk => by cases hk) fun r3 W _ => ?_)
        obtain ⟨Y3, hY3⟩ : ∃ Z, Z = Y2 ++ intB x.size := ⟨_, rfl⟩
        obtain ⟨n3, hn3⟩ : ∃ n, n = n2 + 8 := ⟨_, rfl⟩
        have hl3 : n3 = Y3.length := by rw [hY3, List.length_append, ← hl2, hn3, intB_length]
        rw [← hY3, ← hn3]
        obtain ⟨ra3, rc3⟩ := r3
        simp (maxSteps := 2000000) -implicitDefEqProofs [hN]
        have e1 : IntKind.u64.wrap (x.ents.length : Int) = x.ents.length := by rw [u64_wrap]; omega
        have e2 : IntKind.u64.wrap (x.runs.length : Int) = x.runs.length := by rw [u64_wrap]; omega
        refine pub 600 rfl (by decide) (drawK ok mixed (by kernel_rfl) ?_)
        simp (maxSteps := 2000000) -implicitDefEqProofs [hN, e1]
        refine callS ok rfl rfl rfl [] [] trivial rfl (fun r : Sl => [(600, .row r.1 (n3 + (4 + x.target.size)) r.2 5 1 (bC (Y3 ++ textB x.target)))]) (fun w I S hI hG hO hS => (refText1 hI (Y3) x.target (fun W e => row_ok (hG W e).1 hl3 (by omega)) (by omega)).lone hO) (fun r => by simp) (.inl fun k hk => by cases hk) fun r4 W _ => ?_
        obtain ⟨Y4, hY4⟩ : ∃ Z, Z = Y3 ++ textB x.target := ⟨_, rfl⟩
        obtain ⟨n4, hn4⟩ : ∃ n, n = n3 + (4 + x.target.size) := ⟨_, rfl⟩
        have hl4 : n4 = Y4.length := by rw [hY4, List.length_append, ← hl3, hn4, textB_length]; omega
        rw [← hY4, ← hn4]
        obtain ⟨ra4, rc4⟩ := r4
        simp (maxSteps := 2000000) -implicitDefEqProofs [hN, e1]
        refine pub 600 rfl (by decide) (callS ok rfl rfl rfl [] [] trivial rfl (fun r : Sl => [(600, .row r.1 (n4 + 4) r.2 5 1 (bC (Y4 ++ lowB x.ents.length 4)))]) (fun w I S hI hG hO hS => (refPut1 hI (Y4) x.ents.length 4 (fun W e => row_ok (hG W e).1 hl4 (by omega)) (by omega) (by omega) (by omega)).lone hO) (fun r => by simp) (.inl fun k hk => by cases hk) fun r5 W _ => ?_)
        obtain ⟨Y5, hY5⟩ : ∃ Z, Z = Y4 ++ lowB x.ents.length 4 := ⟨_, rfl⟩
        obtain ⟨n5, hn5⟩ : ∃ n, n = n4 + 4 := ⟨_, rfl⟩
        have hl5 : n5 = Y5.length := by rw [hY5, List.length_append, ← hl4, hn5, lowB_length]
        rw [← hY5, ← hn5]
        obtain ⟨ra5, rc5⟩ := r5
        simp (maxSteps := 2000000) -implicitDefEqProofs [hN]
        have b1 := fm_le entB x.ents
        have b2 := fm_le runB x.runs
        refine cutK ok (p := ?pos) [(7, .c (.v (.int .i64 0))), (3, .c (.v (.slice ra5 n5 rc5))), (0, .c (.v (.slice (some ⟨b, o, none⟩) l.length sc))), (2, .c (.v (.slice none 0 0))), (4, .c (.v (.int .i64 (i : Nat)))), (6, .c (.bp 6 g8 0))] (fun W => InoR W x (ea, ec) (ra, rc) ∧ Sv.ok dDee W (some ⟨b, o, none⟩, l.length, sc) l) [(600, .row ra5 n5 rc5 5 1 (bC Y5)), (6, .box g8 44 [.v (.int .i64 x.no), .v (.int .i64 x.kind), .v (.int .i64 x.links), .v (.int .i64 x.size), .v (.string x.target), .v (.slice ea x.ents.length ec), .v (.slice ra x.runs.length rc)])] ?rest fun R => ?main
        case main =>
          refine R _ _ (fun W hW => ⟨?_, ?_⟩) ?_
          · have h1 : dDee.K W d (deeC d (ea, ec) (ra, rc)) := by repeat (first | with_reducible exact hW.1 | replace hW := hW.2)
            have h2 := dee_get h1
            rwa [hx] at h2
          · show Sv.ok dDee W (some ⟨b, o, none⟩, l.length, sc) l
            repeat (first | with_reducible exact hW | replace hW := hW.2)
          · simp
        case rest =>
        simp [hN]
        refine loop ok (fun a : Nat × Nat × Sl => [(7, .c (.v (.int .i64 (a.1 : Nat)))), (3, .c (.v (.slice a.2.2.1 a.2.1 a.2.2.2)))]) (fun a => [(600, .row a.2.2.1 a.2.1 a.2.2.2 5 1 (bC (Y5 ++ (x.ents.take a.1).flatMap entB))), (6, .box g8 44 [.v (.int .i64 x.no), .v (.int .i64 x.kind), .v (.int .i64 x.links), .v (.int .i64 x.size), .v (.string x.target), .v (.slice ea x.ents.length ec), .v (.slice ra x.runs.length rc)])]) (fun a W => a.1 ≤ x.ents.length ∧ a.2.1 = n5 + ((x.ents.take a.1).flatMap entB).length) (fun a => x.ents.length - a.1) (0, n5, (ra5, rc5)) ?_ ?_ (fun W hW => ⟨Nat.zero_le _, rfl⟩) ?_
        · simp
        · simp
        rintro ⟨j, zn, za, zc⟩ W ⟨hj, hz⟩ hG3 next2
        simp only at hj hz
        obtain ⟨ZB, hZ⟩ : ∃ Z, Z = Y5 ++ (x.ents.take j).flatMap entB := ⟨_, rfl⟩
        have hzl : zn = ZB.length := by rw [hZ, List.length_append, hz, hl5]
        rw [← hZ]
        simp [hN]
        refine ⟨fun hlt2 => ?_, fun hge2 => ?_⟩
        · have hE0 : InoR W x (ea, ec) (ra, rc) := hG3.1
          obtain ⟨eb, eo, e⟩ := hE0.1.2.2.is_some (Nat.lt_of_le_of_lt (Nat.zero_le _) hlt2)
          cases e
          have e7 : IntKind.i64.wrap ((j : Int) + 1) = (j + 1 : Nat) := by rw [w64 (by omega) (by omega)]; omega
          have hb1 := b1 (j + 1)
          have hfe : (x.ents.take (j + 1)).flatMap entB = (x.ents.take j).flatMap entB ++ entB x.ents[j] := fm_take _ _ _ hlt2
          have hE : ∀ W, InoR W x (some ⟨eb, eo, none⟩, ec) (ra, rc) → W.cell? ⟨eb, eo + j * 2, none⟩ = some (.string x.ents[j].name) ∧ W.cell? ⟨eb, eo + j * 2 + 1, none⟩ = some (.int .i64 x.ents[j].no) := fun W hW => by
            obtain ⟨cs, hk, _, hc⟩ := hW.1.2.2.get hlt2
            have hk' : cs = [.string x.ents[j].name, .int .i64 x.ents[j].no] := by rw [hk]
            subst hk'
            exact ⟨by simpa [show dEnt.sz = 2 from rfl] using hc 0 _ rfl, by simpa [show dEnt.sz = 2 from rfl] using hc 1 _ rfl⟩
          rw [hfe] at hb1
          generalize x.ents[j] = E at hE hfe hb1
          simp only [entB, List.length_append, textB_length, intB_length] at hb1
          refine pub 600 rfl (by decide) (drawK ok mixed (by kernel_rfl) ?_)
          simp (maxSteps := 2000000) -implicitDefEqProofs [hN, hlt2]
          refine ⟨?_, ?_⟩
          · refine load1 ok rfl rfl rfl rfl (fun v W => v = .string E.name) (fun W hW => ⟨_, (hE W (by repeat (first | with_reducible exact hW.1 | replace hW := hW.2))).1, rfl⟩) ?_
            rintro v W rfl _
            simp (maxSteps := 2000000) -implicitDefEqProofs [hN, e7]
            refine ⟨?_, ?_⟩
            · refine callS ok rfl rfl rfl [] [] trivial rfl (fun r : Sl => [(600, .row r.1 (zn + (4 + E.name.size)) r.2 5 1 (bC (ZB ++ textB E.name)))]) (fun w I S hI hG hO hS => (refText1 hI (ZB) E.name (fun W e => row_ok (hG W e).1 hzl (by omega)) (by omega)).lone hO) (fun r => by simp) (.inl fun k hk => by cases hk) fun r6 W _ => ?_
              obtain ⟨Y6, hY6⟩ : ∃ Z, Z = ZB ++ textB E.name := ⟨_, rfl⟩
              obtain ⟨n6, hn6⟩ : ∃ n, n = zn + (4 + E.name.size) := ⟨_, rfl⟩
              have hl6 : n6 = Y6.length := by rw [hY6, List.length_append, ← hzl, hn6, textB_length]; omega
              rw [← hY6, ← hn6]
              obtain ⟨ra6, rc6⟩ := r6
              simp (maxSteps := 2000000) -implicitDefEqProofs [hN, e7]
              refine load1 ok rfl rfl rfl rfl (fun v W => v = .int .i64 E.no) (fun W hW => ⟨_, (hE W (by repeat (first | with_reducible exact hW.1 | replace hW := hW.2))).2, rfl⟩) ?_
              rintro v W rfl _
              simp (maxSteps := 2000000) -implicitDefEqProofs [hN, e7]
              refine pub 600 rfl (by decide) (callS ok rfl rfl rfl [] [] trivial rfl (fun r : Sl => [(600, .row r.1 (n6 + 8) r.2 5 1 (bC (Y6 ++ intB E.no)))]) (fun w I S hI hG hO hS => (refNum1 hI (Y6) E.no (fun W e => row_ok (hG W e).1 hl6 (by omega)) (by omega)).lone hO) (fun r => by simp) (.inl fun k hk => by cases hk) fun r7 W _ => ?_)
              obtain ⟨Y7, hY7⟩ : ∃ Z, Z = Y6 ++ intB E.no := ⟨_, rfl⟩
              obtain ⟨n7, hn7⟩ : ∃ n, n = n6 + 8 := ⟨_, rfl⟩
              have hl7 : n7 = Y7.length := by rw [hY7, List.length_append, ← hl6, hn7, intB_length]
              rw [← hY7, ← hn7]
              obtain ⟨ra7, rc7⟩ := r7
              simp (maxSteps := 2000000) -implicitDefEqProofs [hN, e7]
              have hYf : Y5 ++ (x.ents.take (j + 1)).flatMap entB = Y7 := by rw [hY7, hY6, hZ, hfe]; simp [entB]
              refine next2 (j + 1, n7, ra7, rc7) _ _ (by simp; omega) (fun W h => ⟨⟨hlt2, by simp only [hl7, ← hYf, List.length_append, hl5]⟩, by repeat (first | with_reducible exact h | replace h := h.2)⟩) ?_
              simp [hYf]
            · refine load1 ok rfl rfl rfl rfl (fun v W => v = .int .i64 E.no) (fun W hW => ⟨_, (hE W (by repeat (first | with_reducible exact hW.1 | replace hW := hW.2))).2, rfl⟩) ?_
              rintro v W rfl _
              simp (maxSteps := 2000000) -implicitDefEqProofs [hN, e7]
              refine callS ok rfl rfl rfl [] [] trivial rfl (fun r : Sl => [(600, .row r.1 (zn + (4 + E.name.size)) r.2 5 1 (bC (ZB ++ textB E.name)))]) (fun w I S hI hG hO hS => (refText1 hI (ZB) E.name (fun W e => row_ok (hG W e).1 hzl (by omega)) (by omega)).lone hO) (fun r => by simp) (.inl fun k hk => by cases hk) fun r6 W _ => ?_
              obtain ⟨Y6, hY6⟩ : ∃ Z, Z = ZB ++ textB E.name := ⟨_, rfl⟩
              obtain ⟨n6, hn6⟩ : ∃ n, n = zn + (4 + E.name.size) := ⟨_, rfl⟩
              have hl6 : n6 = Y6.length := by rw [hY6, List.length_append, ← hzl, hn6, textB_length]; omega
              rw [← hY6, ← hn6]
              obtain ⟨ra6, rc6⟩ := r6
              simp (maxSteps := 2000000) -implicitDefEqProofs [hN, e7]
              refine pub 600 rfl (by decide) (callS ok rfl rfl rfl [] [] trivial rfl (fun r : Sl => [(600, .row r.1 (n6 + 8) r.2 5 1 (bC (Y6 ++ intB E.no)))]) (fun w I S hI hG hO hS => (refNum1 hI (Y6) E.no (fun W e => row_ok (hG W e).1 hl6 (by omega)) (by omega)).lone hO) (fun r => by simp) (.inl fun k hk => by cases hk) fun r7 W _ => ?_)
              obtain ⟨Y7, hY7⟩ : ∃ Z, Z = Y6 ++ intB E.no := ⟨_, rfl⟩
              obtain ⟨n7, hn7⟩ : ∃ n, n = n6 + 8 := ⟨_, rfl⟩
              have hl7 : n7 = Y7.length := by rw [hY7, List.length_append, ← hl6, hn7, intB_length]
              rw [← hY7, ← hn7]
              obtain ⟨ra7, rc7⟩ := r7
              simp (maxSteps := 2000000) -implicitDefEqProofs [hN, e7]
              have hYf : Y5 ++ (x.ents.take (j + 1)).flatMap entB = Y7 := by rw [hY7, hY6, hZ, hfe]; simp [entB]
              refine next2 (j + 1, n7, ra7, rc7) _ _ (by simp; omega) (fun W h => ⟨⟨hlt2, by simp only [hl7, ← hYf, List.length_append, hl5]⟩, by repeat (first | with_reducible exact h | replace h := h.2)⟩) ?_
              simp [hYf]
          · refine load1 ok rfl rfl rfl rfl (fun v W => v = .int .i64 E.no) (fun W hW => ⟨_, (hE W (by repeat (first | with_reducible exact hW.1 | replace hW := hW.2))).2, rfl⟩) ?_
            rintro v W rfl _
            simp (maxSteps := 2000000) -implicitDefEqProofs [hN, e7]
            refine load1 ok rfl rfl rfl rfl (fun v W => v = .string E.name) (fun W hW => ⟨_, (hE W (by repeat (first | with_reducible exact hW.1 | replace hW := hW.2))).1, rfl⟩) ?_
            rintro v W rfl _
            simp (maxSteps := 2000000) -implicitDefEqProofs [hN, e7]
            refine callS ok rfl rfl rfl [] [] trivial rfl (fun r : Sl => [(600, .row r.1 (zn + (4 + E.name.size)) r.2 5 1 (bC (ZB ++ textB E.name)))]) (fun w I S hI hG hO hS => (refText1 hI (ZB) E.name (fun W e => row_ok (hG W e).1 hzl (by omega)) (by omega)).lone hO) (fun r => by simp) (.inl fun k hk => by cases hk) fun r6 W _ => ?_
            obtain ⟨Y6, hY6⟩ : ∃ Z, Z = ZB ++ textB E.name := ⟨_, rfl⟩
            obtain ⟨n6, hn6⟩ : ∃ n, n = zn + (4 + E.name.size) := ⟨_, rfl⟩
            have hl6 : n6 = Y6.length := by rw [hY6, List.length_append, ← hzl, hn6, textB_length]; omega
            rw [← hY6, ← hn6]
            obtain ⟨ra6, rc6⟩ := r6
            simp (maxSteps := 2000000) -implicitDefEqProofs [hN, e7]
            refine pub 600 rfl (by decide) (callS ok rfl rfl rfl [] [] trivial rfl (fun r : Sl => [(600, .row r.1 (n6 + 8) r.2 5 1 (bC (Y6 ++ intB E.no)))]) (fun w I S hI hG hO hS => (refNum1 hI (Y6) E.no (fun W e => row_ok (hG W e).1 hl6 (by omega)) (by omega)).lone hO) (fun r => by simp) (.inl fun k hk => by cases hk) fun r7 W _ => ?_)
            obtain ⟨Y7, hY7⟩ : ∃ Z, Z = Y6 ++ intB E.no := ⟨_, rfl⟩
            obtain ⟨n7, hn7⟩ : ∃ n, n = n6 + 8 := ⟨_, rfl⟩
            have hl7 : n7 = Y7.length := by rw [hY7, List.length_append, ← hl6, hn7, intB_length]
            rw [← hY7, ← hn7]
            obtain ⟨ra7, rc7⟩ := r7
            simp (maxSteps := 2000000) -implicitDefEqProofs [hN, e7]
            have hYf : Y5 ++ (x.ents.take (j + 1)).flatMap entB = Y7 := by rw [hY7, hY6, hZ, hfe]; simp [entB]
            refine next2 (j + 1, n7, ra7, rc7) _ _ (by simp; omega) (fun W h => ⟨⟨hlt2, by simp only [hl7, ← hYf, List.length_append, hl5]⟩, by repeat (first | with_reducible exact h | replace h := h.2)⟩) ?_
            simp [hYf]
        · obtain rfl : j = x.ents.length := by omega
          rw [List.take_length] at hZ
          have hz' : zn = n5 + (x.ents.flatMap entB).length := by rw [hz, List.take_length]
          clear hz
          simp [hN, e2]
          refine pub 600 rfl (by decide) (callS ok rfl rfl rfl [] [] trivial rfl (fun r : Sl => [(600, .row r.1 (zn + 4) r.2 5 1 (bC (ZB ++ lowB x.runs.length 4)))]) (fun w I S hI hG hO hS => (refPut1 hI (ZB) x.runs.length 4 (fun W e => row_ok (hG W e).1 hzl (by omega)) (by omega) (by omega) (by omega)).lone hO) (fun r => by simp) (.inl fun k hk => by cases hk) fun r30 W _ => ?_)
          obtain ⟨Y30, hY30⟩ : ∃ Z, Z = ZB ++ lowB x.runs.length 4 := ⟨_, rfl⟩
          obtain ⟨n30, hn30⟩ : ∃ n, n = zn + 4 := ⟨_, rfl⟩
          have hl30 : n30 = Y30.length := by rw [hY30, List.length_append, ← hzl, hn30, lowB_length]
          rw [← hY30, ← hn30]
          obtain ⟨ra30, rc30⟩ := r30
          simp (maxSteps := 2000000) -implicitDefEqProofs [hN]
          refine cutK ok (p := ?pos3) [(8, .c (.v (.int .i64 0))), (3, .c (.v (.slice ra30 n30 rc30))), (0, .c (.v (.slice (some ⟨b, o, none⟩) l.length sc))), (2, .c (.v (.slice none 0 0))), (4, .c (.v (.int .i64 (i : Nat)))), (6, .c (.bp 6 g8 0))] (fun W => InoR W x (ea, ec) (ra, rc) ∧ Sv.ok dDee W (some ⟨b, o, none⟩, l.length, sc) l) [(600, .row ra30 n30 rc30 5 1 (bC Y30)), (6, .box g8 44 [.v (.int .i64 x.no), .v (.int .i64 x.kind), .v (.int .i64 x.links), .v (.int .i64 x.size), .v (.string x.target), .v (.slice ea x.ents.length ec), .v (.slice ra x.runs.length rc)])] ?rest3 fun R => ?main3
          case main3 =>
            refine R _ _ (fun W hW => ⟨?_, ?_⟩) ?_
            · repeat (first | with_reducible exact hW.1 | replace hW := hW.2)
            · show Sv.ok dDee W (some ⟨b, o, none⟩, l.length, sc) l
              repeat (first | with_reducible exact hW | replace hW := hW.2)
            · simp
          case rest3 =>
          simp [hN]
          refine loop ok (fun a : Nat × Nat × Sl => [(8, .c (.v (.int .i64 (a.1 : Nat)))), (3, .c (.v (.slice a.2.2.1 a.2.1 a.2.2.2)))]) (fun a => [(600, .row a.2.2.1 a.2.1 a.2.2.2 5 1 (bC (Y30 ++ (x.runs.take a.1).flatMap runB))), (6, .box g8 44 [.v (.int .i64 x.no), .v (.int .i64 x.kind), .v (.int .i64 x.links), .v (.int .i64 x.size), .v (.string x.target), .v (.slice ea x.ents.length ec), .v (.slice ra x.runs.length rc)])]) (fun a W => a.1 ≤ x.runs.length ∧ a.2.1 = n30 + ((x.runs.take a.1).flatMap runB).length) (fun a => x.runs.length - a.1) (0, n30, (ra30, rc30)) ?_ ?_ (fun W hW => ⟨Nat.zero_le _, rfl⟩) ?_
          · simp
          · simp
          rintro ⟨j, zm, za, zc⟩ W ⟨hj2, hz2⟩ hG4 next3
          simp only at hj2 hz2
          obtain ⟨ZR, hZR⟩ : ∃ Z, Z = Y30 ++ (x.runs.take j).flatMap runB := ⟨_, rfl⟩
          have hzl2 : zm = ZR.length := by rw [hZR, List.length_append, hz2, hl30]
          rw [← hZR]
          simp [hN]
          refine ⟨fun hlt2 => ?_, fun hge3 => ?_⟩
          · have hE0 : InoR W x (ea, ec) (ra, rc) := hG4.1
            obtain ⟨eb, eo, e⟩ := hE0.2.2.2.is_some (Nat.lt_of_le_of_lt (Nat.zero_le _) hlt2)
            cases e
            have e7 : IntKind.i64.wrap ((j : Int) + 1) = (j + 1 : Nat) := by rw [w64 (by omega) (by omega)]; omega
            have hb3 := b2 (j + 1)
            have hfe : (x.runs.take (j + 1)).flatMap runB = (x.runs.take j).flatMap runB ++ runB x.runs[j] := fm_take _ _ _ hlt2
            have hE : ∀ W, InoR W x (ea, ec) (some ⟨eb, eo, none⟩, rc) → W.cell? ⟨eb, eo + j * 3, none⟩ = some (.int .i64 x.runs[j].fr) ∧ W.cell? ⟨eb, eo + j * 3 + 1, none⟩ = some (.int .i64 x.runs[j].at_) ∧ W.cell? ⟨eb, eo + j * 3 + 2, none⟩ = some (.int .i64 x.runs[j].ct) := fun W hW => by
              obtain ⟨cs, hk, _, hc⟩ := hW.2.2.2.get hlt2
              have hk' : cs = [.int .i64 x.runs[j].fr, .int .i64 x.runs[j].at_, .int .i64 x.runs[j].ct] := by rw [hk]
              subst hk'
              exact ⟨by simpa [show dRn.sz = 3 from rfl] using hc 0 _ rfl, by simpa [show dRn.sz = 3 from rfl] using hc 1 _ rfl, by simpa [show dRn.sz = 3 from rfl] using hc 2 _ rfl⟩
            rw [hfe] at hb3
            generalize x.runs[j] = E at hE hfe hb3
            simp only [runB, List.length_append, intB_length] at hb3
            refine pub 600 rfl (by decide) (drawK ok mixed (by kernel_rfl) ?_)
            simp (maxSteps := 2000000) -implicitDefEqProofs [hN, hlt2]
            refine ⟨?_, ?_, ?_⟩
            · refine load1 ok rfl rfl rfl rfl (fun v W => v = .int .i64 E.fr) (fun W hW => ⟨_, (hE W (by repeat (first | with_reducible exact hW.1 | replace hW := hW.2))).1, rfl⟩) ?_
              rintro v W rfl _
              simp (maxSteps := 2000000) -implicitDefEqProofs [hN, e7]
              refine ⟨?_, ?_, ?_⟩
              · refine callS ok rfl rfl rfl [] [] trivial rfl (fun r : Sl => [(600, .row r.1 (zm + 8) r.2 5 1 (bC (ZR ++ intB E.fr)))]) (fun w I S hI hG hO hS => (refNum1 hI (ZR) E.fr (fun W e => row_ok (hG W e).1 hzl2 (by omega)) (by omega)).lone hO) (fun r => by simp) (.inl fun k hk => by cases hk) fun r40 W _ => ?_
                obtain ⟨Y40, hY40⟩ : ∃ Z, Z = ZR ++ intB E.fr := ⟨_, rfl⟩
                obtain ⟨n40, hn40⟩ : ∃ n, n = zm + 8 := ⟨_, rfl⟩
                have hl40 : n40 = Y40.length := by rw [hY40, List.length_append, ← hzl2, hn40, intB_length]
                rw [← hY40, ← hn40]
                obtain ⟨ra40, rc40⟩ := r40
                simp (maxSteps := 2000000) -implicitDefEqProofs [hN, e7]
                refine ⟨?_, ?_⟩
                · refine load1 ok rfl rfl rfl rfl (fun v W => v = .int .i64 E.at_) (fun W hW => ⟨_, (hE W (by repeat (first | with_reducible exact hW.1 | replace hW := hW.2))).2.1, rfl⟩) ?_
                  rintro v W rfl _
                  simp (maxSteps := 2000000) -implicitDefEqProofs [hN, e7]
                  refine ⟨?_, ?_⟩
                  · refine pub 600 rfl (by decide) (callS ok rfl rfl rfl [] [] trivial rfl (fun r : Sl => [(600, .row r.1 (n40 + 8) r.2 5 1 (bC (Y40 ++ intB E.at_)))]) (fun w I S hI hG hO hS => (refNum1 hI (Y40) E.at_ (fun W e => row_ok (hG W e).1 hl40 (by omega)) (by omega)).lone hO) (fun r => by simp) (.inl fun k hk => by cases hk) fun r41 W _ => ?_)
                    obtain ⟨Y41, hY41⟩ : ∃ Z, Z = Y40 ++ intB E.at_ := ⟨_, rfl⟩
                    obtain ⟨n41, hn41⟩ : ∃ n, n = n40 + 8 := ⟨_, rfl⟩
                    have hl41 : n41 = Y41.length := by rw [hY41, List.length_append, ← hl40, hn41, intB_length]
                    rw [← hY41, ← hn41]
                    obtain ⟨ra41, rc41⟩ := r41
                    simp (maxSteps := 2000000) -implicitDefEqProofs [hN, e7]
                    refine load1 ok rfl rfl rfl rfl (fun v W => v = .int .i64 E.ct) (fun W hW => ⟨_, (hE W (by repeat (first | with_reducible exact hW.1 | replace hW := hW.2))).2.2, rfl⟩) ?_
                    rintro v W rfl _
                    simp (maxSteps := 2000000) -implicitDefEqProofs [hN, e7]
                    refine pub 600 rfl (by decide) (callS ok rfl rfl rfl [] [] trivial rfl (fun r : Sl => [(600, .row r.1 (n41 + 8) r.2 5 1 (bC (Y41 ++ intB E.ct)))]) (fun w I S hI hG hO hS => (refNum1 hI (Y41) E.ct (fun W e => row_ok (hG W e).1 hl41 (by omega)) (by omega)).lone hO) (fun r => by simp) (.inl fun k hk => by cases hk) fun r42 W _ => ?_)
                    obtain ⟨Y42, hY42⟩ : ∃ Z, Z = Y41 ++ intB E.ct := ⟨_, rfl⟩
                    obtain ⟨n42, hn42⟩ : ∃ n, n = n41 + 8 := ⟨_, rfl⟩
                    have hl42 : n42 = Y42.length := by rw [hY42, List.length_append, ← hl41, hn42, intB_length]
                    rw [← hY42, ← hn42]
                    obtain ⟨ra42, rc42⟩ := r42
                    simp (maxSteps := 2000000) -implicitDefEqProofs [hN, e7]
                    have hYf : Y30 ++ (x.runs.take (j + 1)).flatMap runB = Y42 := by rw [hY42, hY41, hY40, hZR, hfe]; simp [runB]
                    refine next3 (j + 1, n42, ra42, rc42) _ _ (by simp; omega) (fun W h => ⟨⟨hlt2, by simp only [hl42, ← hYf, List.length_append, hl30]⟩, by repeat (first | with_reducible exact h | replace h := h.2)⟩) ?_
                    simp [hYf]
                  · refine load1 ok rfl rfl rfl rfl (fun v W => v = .int .i64 E.ct) (fun W hW => ⟨_, (hE W (by repeat (first | with_reducible exact hW.1 | replace hW := hW.2))).2.2, rfl⟩) ?_
                    rintro v W rfl _
                    simp (maxSteps := 2000000) -implicitDefEqProofs [hN, e7]
                    refine pub 600 rfl (by decide) (callS ok rfl rfl rfl [] [] trivial rfl (fun r : Sl => [(600, .row r.1 (n40 + 8) r.2 5 1 (bC (Y40 ++ intB E.at_)))]) (fun w I S hI hG hO hS => (refNum1 hI (Y40) E.at_ (fun W e => row_ok (hG W e).1 hl40 (by omega)) (by omega)).lone hO) (fun r => by simp) (.inl fun k hk => by cases hk) fun r41 W _ => ?_)
                    obtain ⟨Y41, hY41⟩ : ∃ Z, Z = Y40 ++ intB E.at_ := ⟨_, rfl⟩
                    obtain ⟨n41, hn41⟩ : ∃ n, n = n40 + 8 := ⟨_, rfl⟩
                    have hl41 : n41 = Y41.length := by rw [hY41, List.length_append, ← hl40, hn41, intB_length]
                    rw [← hY41, ← hn41]
                    obtain ⟨ra41, rc41⟩ := r41
                    simp (maxSteps := 2000000) -implicitDefEqProofs [hN, e7]
                    refine pub 600 rfl (by decide) (callS ok rfl rfl rfl [] [] trivial rfl (fun r : Sl => [(600, .row r.1 (n41 + 8) r.2 5 1 (bC (Y41 ++ intB E.ct)))]) (fun w I S hI hG hO hS => (refNum1 hI (Y41) E.ct (fun W e => row_ok (hG W e).1 hl41 (by omega)) (by omega)).lone hO) (fun r => by simp) (.inl fun k hk => by cases hk) fun r42 W _ => ?_)
                    obtain ⟨Y42, hY42⟩ : ∃ Z, Z = Y41 ++ intB E.ct := ⟨_, rfl⟩
                    obtain ⟨n42, hn42⟩ : ∃ n, n = n41 + 8 := ⟨_, rfl⟩
                    have hl42 : n42 = Y42.length := by rw [hY42, List.length_append, ← hl41, hn42, intB_length]
                    rw [← hY42, ← hn42]
                    obtain ⟨ra42, rc42⟩ := r42
                    simp (maxSteps := 2000000) -implicitDefEqProofs [hN, e7]
                    have hYf : Y30 ++ (x.runs.take (j + 1)).flatMap runB = Y42 := by rw [hY42, hY41, hY40, hZR, hfe]; simp [runB]
                    refine next3 (j + 1, n42, ra42, rc42) _ _ (by simp; omega) (fun W h => ⟨⟨hlt2, by simp only [hl42, ← hYf, List.length_append, hl30]⟩, by repeat (first | with_reducible exact h | replace h := h.2)⟩) ?_
                    simp [hYf]
                · refine load1 ok rfl rfl rfl rfl (fun v W => v = .int .i64 E.ct) (fun W hW => ⟨_, (hE W (by repeat (first | with_reducible exact hW.1 | replace hW := hW.2))).2.2, rfl⟩) ?_
                  rintro v W rfl _
                  simp (maxSteps := 2000000) -implicitDefEqProofs [hN, e7]
                  refine load1 ok rfl rfl rfl rfl (fun v W => v = .int .i64 E.at_) (fun W hW => ⟨_, (hE W (by repeat (first | with_reducible exact hW.1 | replace hW := hW.2))).2.1, rfl⟩) ?_
                  rintro v W rfl _
                  simp (maxSteps := 2000000) -implicitDefEqProofs [hN, e7]
                  refine pub 600 rfl (by decide) (callS ok rfl rfl rfl [] [] trivial rfl (fun r : Sl => [(600, .row r.1 (n40 + 8) r.2 5 1 (bC (Y40 ++ intB E.at_)))]) (fun w I S hI hG hO hS => (refNum1 hI (Y40) E.at_ (fun W e => row_ok (hG W e).1 hl40 (by omega)) (by omega)).lone hO) (fun r => by simp) (.inl fun k hk => by cases hk) fun r41 W _ => ?_)
                  obtain ⟨Y41, hY41⟩ : ∃ Z, Z = Y40 ++ intB E.at_ := ⟨_, rfl⟩
                  obtain ⟨n41, hn41⟩ : ∃ n, n = n40 + 8 := ⟨_, rfl⟩
                  have hl41 : n41 = Y41.length := by rw [hY41, List.length_append, ← hl40, hn41, intB_length]
                  rw [← hY41, ← hn41]
                  obtain ⟨ra41, rc41⟩ := r41
                  simp (maxSteps := 2000000) -implicitDefEqProofs [hN, e7]
                  refine pub 600 rfl (by decide) (callS ok rfl rfl rfl [] [] trivial rfl (fun r : Sl => [(600, .row r.1 (n41 + 8) r.2 5 1 (bC (Y41 ++ intB E.ct)))]) (fun w I S hI hG hO hS => (refNum1 hI (Y41) E.ct (fun W e => row_ok (hG W e).1 hl41 (by omega)) (by omega)).lone hO) (fun r => by simp) (.inl fun k hk => by cases hk) fun r42 W _ => ?_)
                  obtain ⟨Y42, hY42⟩ : ∃ Z, Z = Y41 ++ intB E.ct := ⟨_, rfl⟩
                  obtain ⟨n42, hn42⟩ : ∃ n, n = n41 + 8 := ⟨_, rfl⟩
                  have hl42 : n42 = Y42.length := by rw [hY42, List.length_append, ← hl41, hn42, intB_length]
                  rw [← hY42, ← hn42]
                  obtain ⟨ra42, rc42⟩ := r42
                  simp (maxSteps := 2000000) -implicitDefEqProofs [hN, e7]
                  have hYf : Y30 ++ (x.runs.take (j + 1)).flatMap runB = Y42 := by rw [hY42, hY41, hY40, hZR, hfe]; simp [runB]
                  refine next3 (j + 1, n42, ra42, rc42) _ _ (by simp; omega) (fun W h => ⟨⟨hlt2, by simp only [hl42, ← hYf, List.length_append, hl30]⟩, by repeat (first | with_reducible exact h | replace h := h.2)⟩) ?_
                  simp [hYf]
              · refine load1 ok rfl rfl rfl rfl (fun v W => v = .int .i64 E.at_) (fun W hW => ⟨_, (hE W (by repeat (first | with_reducible exact hW.1 | replace hW := hW.2))).2.1, rfl⟩) ?_
                rintro v W rfl _
                simp (maxSteps := 2000000) -implicitDefEqProofs [hN, e7]
                refine ⟨?_, ?_⟩
                · refine callS ok rfl rfl rfl [] [] trivial rfl (fun r : Sl => [(600, .row r.1 (zm + 8) r.2 5 1 (bC (ZR ++ intB E.fr)))]) (fun w I S hI hG hO hS => (refNum1 hI (ZR) E.fr (fun W e => row_ok (hG W e).1 hzl2 (by omega)) (by omega)).lone hO) (fun r => by simp) (.inl fun k hk => by cases hk) fun r40 W _ => ?_
                  obtain ⟨Y40, hY40⟩ : ∃ Z, Z = ZR ++ intB E.fr := ⟨_, rfl⟩
                  obtain ⟨n40, hn40⟩ : ∃ n, n = zm + 8 := ⟨_, rfl⟩
                  have hl40 : n40 = Y40.length := by rw [hY40, List.length_append, ← hzl2, hn40, intB_length]
                  rw [← hY40, ← hn40]
                  obtain ⟨ra40, rc40⟩ := r40
                  simp (maxSteps := 2000000) -implicitDefEqProofs [hN, e7]
                  refine ⟨?_, ?_⟩
                  · refine pub 600 rfl (by decide) (callS ok rfl rfl rfl [] [] trivial rfl (fun r : Sl => [(600, .row r.1 (n40 + 8) r.2 5 1 (bC (Y40 ++ intB E.at_)))]) (fun w I S hI hG hO hS => (refNum1 hI (Y40) E.at_ (fun W e => row_ok (hG W e).1 hl40 (by omega)) (by omega)).lone hO) (fun r => by simp) (.inl fun k hk => by cases hk) fun r41 W _ => ?_)
                    obtain ⟨Y41, hY41⟩ : ∃ Z, Z = Y40 ++ intB E.at_ := ⟨_, rfl⟩
                    obtain ⟨n41, hn41⟩ : ∃ n, n = n40 + 8 := ⟨_, rfl⟩
                    have hl41 : n41 = Y41.length := by rw [hY41, List.length_append, ← hl40, hn41, intB_length]
                    rw [← hY41, ← hn41]
                    obtain ⟨ra41, rc41⟩ := r41
                    simp (maxSteps := 2000000) -implicitDefEqProofs [hN, e7]
                    refine load1 ok rfl rfl rfl rfl (fun v W => v = .int .i64 E.ct) (fun W hW => ⟨_, (hE W (by repeat (first | with_reducible exact hW.1 | replace hW := hW.2))).2.2, rfl⟩) ?_
                    rintro v W rfl _
                    simp (maxSteps := 2000000) -implicitDefEqProofs [hN, e7]
                    refine pub 600 rfl (by decide) (callS ok rfl rfl rfl [] [] trivial rfl (fun r : Sl => [(600, .row r.1 (n41 + 8) r.2 5 1 (bC (Y41 ++ intB E.ct)))]) (fun w I S hI hG hO hS => (refNum1 hI (Y41) E.ct (fun W e => row_ok (hG W e).1 hl41 (by omega)) (by omega)).lone hO) (fun r => by simp) (.inl fun k hk => by cases hk) fun r42 W _ => ?_)
                    obtain ⟨Y42, hY42⟩ : ∃ Z, Z = Y41 ++ intB E.ct := ⟨_, rfl⟩
                    obtain ⟨n42, hn42⟩ : ∃ n, n = n41 + 8 := ⟨_, rfl⟩
                    have hl42 : n42 = Y42.length := by rw [hY42, List.length_append, ← hl41, hn42, intB_length]
                    rw [← hY42, ← hn42]
                    obtain ⟨ra42, rc42⟩ := r42
                    simp (maxSteps := 2000000) -implicitDefEqProofs [hN, e7]
                    have hYf : Y30 ++ (x.runs.take (j + 1)).flatMap runB = Y42 := by rw [hY42, hY41, hY40, hZR, hfe]; simp [runB]
                    refine next3 (j + 1, n42, ra42, rc42) _ _ (by simp; omega) (fun W h => ⟨⟨hlt2, by simp only [hl42, ← hYf, List.length_append, hl30]⟩, by repeat (first | with_reducible exact h | replace h := h.2)⟩) ?_
                    simp [hYf]
                  · refine load1 ok rfl rfl rfl rfl (fun v W => v = .int .i64 E.ct) (fun W hW => ⟨_, (hE W (by repeat (first | with_reducible exact hW.1 | replace hW := hW.2))).2.2, rfl⟩) ?_
                    rintro v W rfl _
                    simp (maxSteps := 2000000) -implicitDefEqProofs [hN, e7]
                    refine pub 600 rfl (by decide) (callS ok rfl rfl rfl [] [] trivial rfl (fun r : Sl => [(600, .row r.1 (n40 + 8) r.2 5 1 (bC (Y40 ++ intB E.at_)))]) (fun w I S hI hG hO hS => (refNum1 hI (Y40) E.at_ (fun W e => row_ok (hG W e).1 hl40 (by omega)) (by omega)).lone hO) (fun r => by simp) (.inl fun k hk => by cases hk) fun r41 W _ => ?_)
                    obtain ⟨Y41, hY41⟩ : ∃ Z, Z = Y40 ++ intB E.at_ := ⟨_, rfl⟩
                    obtain ⟨n41, hn41⟩ : ∃ n, n = n40 + 8 := ⟨_, rfl⟩
                    have hl41 : n41 = Y41.length := by rw [hY41, List.length_append, ← hl40, hn41, intB_length]
                    rw [← hY41, ← hn41]
                    obtain ⟨ra41, rc41⟩ := r41
                    simp (maxSteps := 2000000) -implicitDefEqProofs [hN, e7]
                    refine pub 600 rfl (by decide) (callS ok rfl rfl rfl [] [] trivial rfl (fun r : Sl => [(600, .row r.1 (n41 + 8) r.2 5 1 (bC (Y41 ++ intB E.ct)))]) (fun w I S hI hG hO hS => (refNum1 hI (Y41) E.ct (fun W e => row_ok (hG W e).1 hl41 (by omega)) (by omega)).lone hO) (fun r => by simp) (.inl fun k hk => by cases hk) fun r42 W _ => ?_)
                    obtain ⟨Y42, hY42⟩ : ∃ Z, Z = Y41 ++ intB E.ct := ⟨_, rfl⟩
                    obtain ⟨n42, hn42⟩ : ∃ n, n = n41 + 8 := ⟨_, rfl⟩
                    have hl42 : n42 = Y42.length := by rw [hY42, List.length_append, ← hl41, hn42, intB_length]
                    rw [← hY42, ← hn42]
                    obtain ⟨ra42, rc42⟩ := r42
                    simp (maxSteps := 2000000) -implicitDefEqProofs [hN, e7]
                    have hYf : Y30 ++ (x.runs.take (j + 1)).flatMap runB = Y42 := by rw [hY42, hY41, hY40, hZR, hfe]; simp [runB]
                    refine next3 (j + 1, n42, ra42, rc42) _ _ (by simp; omega) (fun W h => ⟨⟨hlt2, by simp only [hl42, ← hYf, List.length_append, hl30]⟩, by repeat (first | with_reducible exact h | replace h := h.2)⟩) ?_
                    simp [hYf]
                · refine load1 ok rfl rfl rfl rfl (fun v W => v = .int .i64 E.ct) (fun W hW => ⟨_, (hE W (by repeat (first | with_reducible exact hW.1 | replace hW := hW.2))).2.2, rfl⟩) ?_
                  rintro v W rfl _
                  simp (maxSteps := 2000000) -implicitDefEqProofs [hN, e7]
                  refine callS ok rfl rfl rfl [] [] trivial rfl (fun r : Sl => [(600, .row r.1 (zm + 8) r.2 5 1 (bC (ZR ++ intB E.fr)))]) (fun w I S hI hG hO hS => (refNum1 hI (ZR) E.fr (fun W e => row_ok (hG W e).1 hzl2 (by omega)) (by omega)).lone hO) (fun r => by simp) (.inl fun k hk => by cases hk) fun r40 W _ => ?_
                  obtain ⟨Y40, hY40⟩ : ∃ Z, Z = ZR ++ intB E.fr := ⟨_, rfl⟩
                  obtain ⟨n40, hn40⟩ : ∃ n, n = zm + 8 := ⟨_, rfl⟩
                  have hl40 : n40 = Y40.length := by rw [hY40, List.length_append, ← hzl2, hn40, intB_length]
                  rw [← hY40, ← hn40]
                  obtain ⟨ra40, rc40⟩ := r40
                  simp (maxSteps := 2000000) -implicitDefEqProofs [hN, e7]
                  refine pub 600 rfl (by decide) (callS ok rfl rfl rfl [] [] trivial rfl (fun r : Sl => [(600, .row r.1 (n40 + 8) r.2 5 1 (bC (Y40 ++ intB E.at_)))]) (fun w I S hI hG hO hS => (refNum1 hI (Y40) E.at_ (fun W e => row_ok (hG W e).1 hl40 (by omega)) (by omega)).lone hO) (fun r => by simp) (.inl fun k hk => by cases hk) fun r41 W _ => ?_)
                  obtain ⟨Y41, hY41⟩ : ∃ Z, Z = Y40 ++ intB E.at_ := ⟨_, rfl⟩
                  obtain ⟨n41, hn41⟩ : ∃ n, n = n40 + 8 := ⟨_, rfl⟩
                  have hl41 : n41 = Y41.length := by rw [hY41, List.length_append, ← hl40, hn41, intB_length]
                  rw [← hY41, ← hn41]
                  obtain ⟨ra41, rc41⟩ := r41
                  simp (maxSteps := 2000000) -implicitDefEqProofs [hN, e7]
                  refine pub 600 rfl (by decide) (callS ok rfl rfl rfl [] [] trivial rfl (fun r : Sl => [(600, .row r.1 (n41 + 8) r.2 5 1 (bC (Y41 ++ intB E.ct)))]) (fun w I S hI hG hO hS => (refNum1 hI (Y41) E.ct (fun W e => row_ok (hG W e).1 hl41 (by omega)) (by omega)).lone hO) (fun r => by simp) (.inl fun k hk => by cases hk) fun r42 W _ => ?_)
                  obtain ⟨Y42, hY42⟩ : ∃ Z, Z = Y41 ++ intB E.ct := ⟨_, rfl⟩
                  obtain ⟨n42, hn42⟩ : ∃ n, n = n41 + 8 := ⟨_, rfl⟩
                  have hl42 : n42 = Y42.length := by rw [hY42, List.length_append, ← hl41, hn42, intB_length]
                  rw [← hY42, ← hn42]
                  obtain ⟨ra42, rc42⟩ := r42
                  simp (maxSteps := 2000000) -implicitDefEqProofs [hN, e7]
                  have hYf : Y30 ++ (x.runs.take (j + 1)).flatMap runB = Y42 := by rw [hY42, hY41, hY40, hZR, hfe]; simp [runB]
                  refine next3 (j + 1, n42, ra42, rc42) _ _ (by simp; omega) (fun W h => ⟨⟨hlt2, by simp only [hl42, ← hYf, List.length_append, hl30]⟩, by repeat (first | with_reducible exact h | replace h := h.2)⟩) ?_
                  simp [hYf]
              · refine load1 ok rfl rfl rfl rfl (fun v W => v = .int .i64 E.ct) (fun W hW => ⟨_, (hE W (by repeat (first | with_reducible exact hW.1 | replace hW := hW.2))).2.2, rfl⟩) ?_
                rintro v W rfl _
                simp (maxSteps := 2000000) -implicitDefEqProofs [hN, e7]
                refine ⟨?_, ?_⟩
                · refine callS ok rfl rfl rfl [] [] trivial rfl (fun r : Sl => [(600, .row r.1 (zm + 8) r.2 5 1 (bC (ZR ++ intB E.fr)))]) (fun w I S hI hG hO hS => (refNum1 hI (ZR) E.fr (fun W e => row_ok (hG W e).1 hzl2 (by omega)) (by omega)).lone hO) (fun r => by simp) (.inl fun k hk => by cases hk) fun r40 W _ => ?_
                  obtain ⟨Y40, hY40⟩ : ∃ Z, Z = ZR ++ intB E.fr := ⟨_, rfl⟩
                  obtain ⟨n40, hn40⟩ : ∃ n, n = zm + 8 := ⟨_, rfl⟩
                  have hl40 : n40 = Y40.length := by rw [hY40, List.length_append, ← hzl2, hn40, intB_length]
                  rw [← hY40, ← hn40]
                  obtain ⟨ra40, rc40⟩ := r40
                  simp (maxSteps := 2000000) -implicitDefEqProofs [hN, e7]
                  refine load1 ok rfl rfl rfl rfl (fun v W => v = .int .i64 E.at_) (fun W hW => ⟨_, (hE W (by repeat (first | with_reducible exact hW.1 | replace hW := hW.2))).2.1, rfl⟩) ?_
                  rintro v W rfl _
                  simp (maxSteps := 2000000) -implicitDefEqProofs [hN, e7]
                  refine pub 600 rfl (by decide) (callS ok rfl rfl rfl [] [] trivial rfl (fun r : Sl => [(600, .row r.1 (n40 + 8) r.2 5 1 (bC (Y40 ++ intB E.at_)))]) (fun w I S hI hG hO hS => (refNum1 hI (Y40) E.at_ (fun W e => row_ok (hG W e).1 hl40 (by omega)) (by omega)).lone hO) (fun r => by simp) (.inl fun k hk => by cases hk) fun r41 W _ => ?_)
                  obtain ⟨Y41, hY41⟩ : ∃ Z, Z = Y40 ++ intB E.at_ := ⟨_, rfl⟩
                  obtain ⟨n41, hn41⟩ : ∃ n, n = n40 + 8 := ⟨_, rfl⟩
                  have hl41 : n41 = Y41.length := by rw [hY41, List.length_append, ← hl40, hn41, intB_length]
                  rw [← hY41, ← hn41]
                  obtain ⟨ra41, rc41⟩ := r41
                  simp (maxSteps := 2000000) -implicitDefEqProofs [hN, e7]
                  refine pub 600 rfl (by decide) (callS ok rfl rfl rfl [] [] trivial rfl (fun r : Sl => [(600, .row r.1 (n41 + 8) r.2 5 1 (bC (Y41 ++ intB E.ct)))]) (fun w I S hI hG hO hS => (refNum1 hI (Y41) E.ct (fun W e => row_ok (hG W e).1 hl41 (by omega)) (by omega)).lone hO) (fun r => by simp) (.inl fun k hk => by cases hk) fun r42 W _ => ?_)
                  obtain ⟨Y42, hY42⟩ : ∃ Z, Z = Y41 ++ intB E.ct := ⟨_, rfl⟩
                  obtain ⟨n42, hn42⟩ : ∃ n, n = n41 + 8 := ⟨_, rfl⟩
                  have hl42 : n42 = Y42.length := by rw [hY42, List.length_append, ← hl41, hn42, intB_length]
                  rw [← hY42, ← hn42]
                  obtain ⟨ra42, rc42⟩ := r42
                  simp (maxSteps := 2000000) -implicitDefEqProofs [hN, e7]
                  have hYf : Y30 ++ (x.runs.take (j + 1)).flatMap runB = Y42 := by rw [hY42, hY41, hY40, hZR, hfe]; simp [runB]
                  refine next3 (j + 1, n42, ra42, rc42) _ _ (by simp; omega) (fun W h => ⟨⟨hlt2, by simp only [hl42, ← hYf, List.length_append, hl30]⟩, by repeat (first | with_reducible exact h | replace h := h.2)⟩) ?_
                  simp [hYf]
                · refine load1 ok rfl rfl rfl rfl (fun v W => v = .int .i64 E.at_) (fun W hW => ⟨_, (hE W (by repeat (first | with_reducible exact hW.1 | replace hW := hW.2))).2.1, rfl⟩) ?_
                  rintro v W rfl _
                  simp (maxSteps := 2000000) -implicitDefEqProofs [hN, e7]
                  refine callS ok rfl rfl rfl [] [] trivial rfl (fun r : Sl => [(600, .row r.1 (zm + 8) r.2 5 1 (bC (ZR ++ intB E.fr)))]) (fun w I S hI hG hO hS => (refNum1 hI (ZR) E.fr (fun W e => row_ok (hG W e).1 hzl2 (by omega)) (by omega)).lone hO) (fun r => by simp) (.inl fun k hk => by cases hk) fun r40 W _ => ?_
                  obtain ⟨Y40, hY40⟩ : ∃ Z, Z = ZR ++ intB E.fr := ⟨_, rfl⟩
                  obtain ⟨n40, hn40⟩ : ∃ n, n = zm + 8 := ⟨_, rfl⟩
                  have hl40 : n40 = Y40.length := by rw [hY40, List.length_append, ← hzl2, hn40, intB_length]
                  rw [← hY40, ← hn40]
                  obtain ⟨ra40, rc40⟩ := r40
                  simp (maxSteps := 2000000) -implicitDefEqProofs [hN, e7]
                  refine pub 600 rfl (by decide) (callS ok rfl rfl rfl [] [] trivial rfl (fun r : Sl => [(600, .row r.1 (n40 + 8) r.2 5 1 (bC (Y40 ++ intB E.at_)))]) (fun w I S hI hG hO hS => (refNum1 hI (Y40) E.at_ (fun W e => row_ok (hG W e).1 hl40 (by omega)) (by omega)).lone hO) (fun r => by simp) (.inl fun k hk => by cases hk) fun r41 W _ => ?_)
                  obtain ⟨Y41, hY41⟩ : ∃ Z, Z = Y40 ++ intB E.at_ := ⟨_, rfl⟩
                  obtain ⟨n41, hn41⟩ : ∃ n, n = n40 + 8 := ⟨_, rfl⟩
                  have hl41 : n41 = Y41.length := by rw [hY41, List.length_append, ← hl40, hn41, intB_length]
                  rw [← hY41, ← hn41]
                  obtain ⟨ra41, rc41⟩ := r41
                  simp (maxSteps := 2000000) -implicitDefEqProofs [hN, e7]
                  refine pub 600 rfl (by decide) (callS ok rfl rfl rfl [] [] trivial rfl (fun r : Sl => [(600, .row r.1 (n41 + 8) r.2 5 1 (bC (Y41 ++ intB E.ct)))]) (fun w I S hI hG hO hS => (refNum1 hI (Y41) E.ct (fun W e => row_ok (hG W e).1 hl41 (by omega)) (by omega)).lone hO) (fun r => by simp) (.inl fun k hk => by cases hk) fun r42 W _ => ?_)
                  obtain ⟨Y42, hY42⟩ : ∃ Z, Z = Y41 ++ intB E.ct := ⟨_, rfl⟩
                  obtain ⟨n42, hn42⟩ : ∃ n, n = n41 + 8 := ⟨_, rfl⟩
                  have hl42 : n42 = Y42.length := by rw [hY42, List.length_append, ← hl41, hn42, intB_length]
                  rw [← hY42, ← hn42]
                  obtain ⟨ra42, rc42⟩ := r42
                  simp (maxSteps := 2000000) -implicitDefEqProofs [hN, e7]
                  have hYf : Y30 ++ (x.runs.take (j + 1)).flatMap runB = Y42 := by rw [hY42, hY41, hY40, hZR, hfe]; simp [runB]
                  refine next3 (j + 1, n42, ra42, rc42) _ _ (by simp; omega) (fun W h => ⟨⟨hlt2, by simp only [hl42, ← hYf, List.length_append, hl30]⟩, by repeat (first | with_reducible exact h | replace h := h.2)⟩) ?_
                  simp [hYf]
            · refine load1 ok rfl rfl rfl rfl (fun v W => v = .int .i64 E.at_) (fun W hW => ⟨_, (hE W (by repeat (first | with_reducible exact hW.1 | replace hW := hW.2))).2.1, rfl⟩) ?_
              rintro v W rfl _
              simp (maxSteps := 2000000) -implicitDefEqProofs [hN, e7]
              refine ⟨?_, ?_⟩
              · refine load1 ok rfl rfl rfl rfl (fun v W => v = .int .i64 E.fr) (fun W hW => ⟨_, (hE W (by repeat (first | with_reducible exact hW.1 | replace hW := hW.2))).1, rfl⟩) ?_
                rintro v W rfl _
                simp (maxSteps := 2000000) -implicitDefEqProofs [hN, e7]
                refine ⟨?_, ?_⟩
                · refine callS ok rfl rfl rfl [] [] trivial rfl (fun r : Sl => [(600, .row r.1 (zm + 8) r.2 5 1 (bC (ZR ++ intB E.fr)))]) (fun w I S hI hG hO hS => (refNum1 hI (ZR) E.fr (fun W e => row_ok (hG W e).1 hzl2 (by omega)) (by omega)).lone hO) (fun r => by simp) (.inl fun k hk => by cases hk) fun r40 W _ => ?_
                  obtain ⟨Y40, hY40⟩ : ∃ Z, Z = ZR ++ intB E.fr := ⟨_, rfl⟩
                  obtain ⟨n40, hn40⟩ : ∃ n, n = zm + 8 := ⟨_, rfl⟩
                  have hl40 : n40 = Y40.length := by rw [hY40, List.length_append, ← hzl2, hn40, intB_length]
                  rw [← hY40, ← hn40]
                  obtain ⟨ra40, rc40⟩ := r40
                  simp (maxSteps := 2000000) -implicitDefEqProofs [hN, e7]
                  refine ⟨?_, ?_⟩
                  · refine pub 600 rfl (by decide) (callS ok rfl rfl rfl [] [] trivial rfl (fun r : Sl => [(600, .row r.1 (n40 + 8) r.2 5 1 (bC (Y40 ++ intB E.at_)))]) (fun w I S hI hG hO hS => (refNum1 hI (Y40) E.at_ (fun W e => row_ok (hG W e).1 hl40 (by omega)) (by omega)).lone hO) (fun r => by simp) (.inl fun k hk => by cases hk) fun r41 W _ => ?_)
                    obtain ⟨Y41, hY41⟩ : ∃ Z, Z = Y40 ++ intB E.at_ := ⟨_, rfl⟩
                    obtain ⟨n41, hn41⟩ : ∃ n, n = n40 + 8 := ⟨_, rfl⟩
                    have hl41 : n41 = Y41.length := by rw [hY41, List.length_append, ← hl40, hn41, intB_length]
                    rw [← hY41, ← hn41]
                    obtain ⟨ra41, rc41⟩ := r41
                    simp (maxSteps := 2000000) -implicitDefEqProofs [hN, e7]
                    refine load1 ok rfl rfl rfl rfl (fun v W => v = .int .i64 E.ct) (fun W hW => ⟨_, (hE W (by repeat (first | with_reducible exact hW.1 | replace hW := hW.2))).2.2, rfl⟩) ?_
                    rintro v W rfl _
                    simp (maxSteps := 2000000) -implicitDefEqProofs [hN, e7]
                    refine pub 600 rfl (by decide) (callS ok rfl rfl rfl [] [] trivial rfl (fun r : Sl => [(600, .row r.1 (n41 + 8) r.2 5 1 (bC (Y41 ++ intB E.ct)))]) (fun w I S hI hG hO hS => (refNum1 hI (Y41) E.ct (fun W e => row_ok (hG W e).1 hl41 (by omega)) (by omega)).lone hO) (fun r => by simp) (.inl fun k hk => by cases hk) fun r42 W _ => ?_)
                    obtain ⟨Y42, hY42⟩ : ∃ Z, Z = Y41 ++ intB E.ct := ⟨_, rfl⟩
                    obtain ⟨n42, hn42⟩ : ∃ n, n = n41 + 8 := ⟨_, rfl⟩
                    have hl42 : n42 = Y42.length := by rw [hY42, List.length_append, ← hl41, hn42, intB_length]
                    rw [← hY42, ← hn42]
                    obtain ⟨ra42, rc42⟩ := r42
                    simp (maxSteps := 2000000) -implicitDefEqProofs [hN, e7]
                    have hYf : Y30 ++ (x.runs.take (j + 1)).flatMap runB = Y42 := by rw [hY42, hY41, hY40, hZR, hfe]; simp [runB]
                    refine next3 (j + 1, n42, ra42, rc42) _ _ (by simp; omega) (fun W h => ⟨⟨hlt2, by simp only [hl42, ← hYf, List.length_append, hl30]⟩, by repeat (first | with_reducible exact h | replace h := h.2)⟩) ?_
                    simp [hYf]
                  · refine load1 ok rfl rfl rfl rfl (fun v W => v = .int .i64 E.ct) (fun W hW => ⟨_, (hE W (by repeat (first | with_reducible exact hW.1 | replace hW := hW.2))).2.2, rfl⟩) ?_
                    rintro v W rfl _
                    simp (maxSteps := 2000000) -implicitDefEqProofs [hN, e7]
                    refine pub 600 rfl (by decide) (callS ok rfl rfl rfl [] [] trivial rfl (fun r : Sl => [(600, .row r.1 (n40 + 8) r.2 5 1 (bC (Y40 ++ intB E.at_)))]) (fun w I S hI hG hO hS => (refNum1 hI (Y40) E.at_ (fun W e => row_ok (hG W e).1 hl40 (by omega)) (by omega)).lone hO) (fun r => by simp) (.inl fun k hk => by cases hk) fun r41 W _ => ?_)
                    obtain ⟨Y41, hY41⟩ : ∃ Z, Z = Y40 ++ intB E.at_ := ⟨_, rfl⟩
                    obtain ⟨n41, hn41⟩ : ∃ n, n = n40 + 8 := ⟨_, rfl⟩
                    have hl41 : n41 = Y41.length := by rw [hY41, List.length_append, ← hl40, hn41, intB_length]
                    rw [← hY41, ← hn41]
                    obtain ⟨ra41, rc41⟩ := r41
                    simp (maxSteps := 2000000) -implicitDefEqProofs [hN, e7]
                    refine pub 600 rfl (by decide) (callS ok rfl rfl rfl [] [] trivial rfl (fun r : Sl => [(600, .row r.1 (n41 + 8) r.2 5 1 (bC (Y41 ++ intB E.ct)))]) (fun w I S hI hG hO hS => (refNum1 hI (Y41) E.ct (fun W e => row_ok (hG W e).1 hl41 (by omega)) (by omega)).lone hO) (fun r => by simp) (.inl fun k hk => by cases hk) fun r42 W _ => ?_)
                    obtain ⟨Y42, hY42⟩ : ∃ Z, Z = Y41 ++ intB E.ct := ⟨_, rfl⟩
                    obtain ⟨n42, hn42⟩ : ∃ n, n = n41 + 8 := ⟨_, rfl⟩
                    have hl42 : n42 = Y42.length := by rw [hY42, List.length_append, ← hl41, hn42, intB_length]
                    rw [← hY42, ← hn42]
                    obtain ⟨ra42, rc42⟩ := r42
                    simp (maxSteps := 2000000) -implicitDefEqProofs [hN, e7]
                    have hYf : Y30 ++ (x.runs.take (j + 1)).flatMap runB = Y42 := by rw [hY42, hY41, hY40, hZR, hfe]; simp [runB]
                    refine next3 (j + 1, n42, ra42, rc42) _ _ (by simp; omega) (fun W h => ⟨⟨hlt2, by simp only [hl42, ← hYf, List.length_append, hl30]⟩, by repeat (first | with_reducible exact h | replace h := h.2)⟩) ?_
                    simp [hYf]
                · refine load1 ok rfl rfl rfl rfl (fun v W => v = .int .i64 E.ct) (fun W hW => ⟨_, (hE W (by repeat (first | with_reducible exact hW.1 | replace hW := hW.2))).2.2, rfl⟩) ?_
                  rintro v W rfl _
                  simp (maxSteps := 2000000) -implicitDefEqProofs [hN, e7]
                  refine callS ok rfl rfl rfl [] [] trivial rfl (fun r : Sl => [(600, .row r.1 (zm + 8) r.2 5 1 (bC (ZR ++ intB E.fr)))]) (fun w I S hI hG hO hS => (refNum1 hI (ZR) E.fr (fun W e => row_ok (hG W e).1 hzl2 (by omega)) (by omega)).lone hO) (fun r => by simp) (.inl fun k hk => by cases hk) fun r40 W _ => ?_
                  obtain ⟨Y40, hY40⟩ : ∃ Z, Z = ZR ++ intB E.fr := ⟨_, rfl⟩
                  obtain ⟨n40, hn40⟩ : ∃ n, n = zm + 8 := ⟨_, rfl⟩
                  have hl40 : n40 = Y40.length := by rw [hY40, List.length_append, ← hzl2, hn40, intB_length]
                  rw [← hY40, ← hn40]
                  obtain ⟨ra40, rc40⟩ := r40
                  simp (maxSteps := 2000000) -implicitDefEqProofs [hN, e7]
                  refine pub 600 rfl (by decide) (callS ok rfl rfl rfl [] [] trivial rfl (fun r : Sl => [(600, .row r.1 (n40 + 8) r.2 5 1 (bC (Y40 ++ intB E.at_)))]) (fun w I S hI hG hO hS => (refNum1 hI (Y40) E.at_ (fun W e => row_ok (hG W e).1 hl40 (by omega)) (by omega)).lone hO) (fun r => by simp) (.inl fun k hk => by cases hk) fun r41 W _ => ?_)
                  obtain ⟨Y41, hY41⟩ : ∃ Z, Z = Y40 ++ intB E.at_ := ⟨_, rfl⟩
                  obtain ⟨n41, hn41⟩ : ∃ n, n = n40 + 8 := ⟨_, rfl⟩
                  have hl41 : n41 = Y41.length := by rw [hY41, List.length_append, ← hl40, hn41, intB_length]
                  rw [← hY41, ← hn41]
                  obtain ⟨ra41, rc41⟩ := r41
                  simp (maxSteps := 2000000) -implicitDefEqProofs [hN, e7]
                  refine pub 600 rfl (by decide) (callS ok rfl rfl rfl [] [] trivial rfl (fun r : Sl => [(600, .row r.1 (n41 + 8) r.2 5 1 (bC (Y41 ++ intB E.ct)))]) (fun w I S hI hG hO hS => (refNum1 hI (Y41) E.ct (fun W e => row_ok (hG W e).1 hl41 (by omega)) (by omega)).lone hO) (fun r => by simp) (.inl fun k hk => by cases hk) fun r42 W _ => ?_)
                  obtain ⟨Y42, hY42⟩ : ∃ Z, Z = Y41 ++ intB E.ct := ⟨_, rfl⟩
                  obtain ⟨n42, hn42⟩ : ∃ n, n = n41 + 8 := ⟨_, rfl⟩
                  have hl42 : n42 = Y42.length := by rw [hY42, List.length_append, ← hl41, hn42, intB_length]
                  rw [← hY42, ← hn42]
                  obtain ⟨ra42, rc42⟩ := r42
                  simp (maxSteps := 2000000) -implicitDefEqProofs [hN, e7]
                  have hYf : Y30 ++ (x.runs.take (j + 1)).flatMap runB = Y42 := by rw [hY42, hY41, hY40, hZR, hfe]; simp [runB]
                  refine next3 (j + 1, n42, ra42, rc42) _ _ (by simp; omega) (fun W h => ⟨⟨hlt2, by simp only [hl42, ← hYf, List.length_append, hl30]⟩, by repeat (first | with_reducible exact h | replace h := h.2)⟩) ?_
                  simp [hYf]
              · refine load1 ok rfl rfl rfl rfl (fun v W => v = .int .i64 E.ct) (fun W hW => ⟨_, (hE W (by repeat (first | with_reducible exact hW.1 | replace hW := hW.2))).2.2, rfl⟩) ?_
                rintro v W rfl _
                simp (maxSteps := 2000000) -implicitDefEqProofs [hN, e7]
                refine load1 ok rfl rfl rfl rfl (fun v W => v = .int .i64 E.fr) (fun W hW => ⟨_, (hE W (by repeat (first | with_reducible exact hW.1 | replace hW := hW.2))).1, rfl⟩) ?_
                rintro v W rfl _
                simp (maxSteps := 2000000) -implicitDefEqProofs [hN, e7]
                refine callS ok rfl rfl rfl [] [] trivial rfl (fun r : Sl => [(600, .row r.1 (zm + 8) r.2 5 1 (bC (ZR ++ intB E.fr)))]) (fun w I S hI hG hO hS => (refNum1 hI (ZR) E.fr (fun W e => row_ok (hG W e).1 hzl2 (by omega)) (by omega)).lone hO) (fun r => by simp) (.inl fun k hk => by cases hk) fun r40 W _ => ?_
                obtain ⟨Y40, hY40⟩ : ∃ Z, Z = ZR ++ intB E.fr := ⟨_, rfl⟩
                obtain ⟨n40, hn40⟩ : ∃ n, n = zm + 8 := ⟨_, rfl⟩
                have hl40 : n40 = Y40.length := by rw [hY40, List.length_append, ← hzl2, hn40, intB_length]
                rw [← hY40, ← hn40]
                obtain ⟨ra40, rc40⟩ := r40
                simp (maxSteps := 2000000) -implicitDefEqProofs [hN, e7]
                refine pub 600 rfl (by decide) (callS ok rfl rfl rfl [] [] trivial rfl (fun r : Sl => [(600, .row r.1 (n40 + 8) r.2 5 1 (bC (Y40 ++ intB E.at_)))]) (fun w I S hI hG hO hS => (refNum1 hI (Y40) E.at_ (fun W e => row_ok (hG W e).1 hl40 (by omega)) (by omega)).lone hO) (fun r => by simp) (.inl fun k hk => by cases hk) fun r41 W _ => ?_)
                obtain ⟨Y41, hY41⟩ : ∃ Z, Z = Y40 ++ intB E.at_ := ⟨_, rfl⟩
                obtain ⟨n41, hn41⟩ : ∃ n, n = n40 + 8 := ⟨_, rfl⟩
                have hl41 : n41 = Y41.length := by rw [hY41, List.length_append, ← hl40, hn41, intB_length]
                rw [← hY41, ← hn41]
                obtain ⟨ra41, rc41⟩ := r41
                simp (maxSteps := 2000000) -implicitDefEqProofs [hN, e7]
                refine pub 600 rfl (by decide) (callS ok rfl rfl rfl [] [] trivial rfl (fun r : Sl => [(600, .row r.1 (n41 + 8) r.2 5 1 (bC (Y41 ++ intB E.ct)))]) (fun w I S hI hG hO hS => (refNum1 hI (Y41) E.ct (fun W e => row_ok (hG W e).1 hl41 (by omega)) (by omega)).lone hO) (fun r => by simp) (.inl fun k hk => by cases hk) fun r42 W _ => ?_)
                obtain ⟨Y42, hY42⟩ : ∃ Z, Z = Y41 ++ intB E.ct := ⟨_, rfl⟩
                obtain ⟨n42, hn42⟩ : ∃ n, n = n41 + 8 := ⟨_, rfl⟩
                have hl42 : n42 = Y42.length := by rw [hY42, List.length_append, ← hl41, hn42, intB_length]
                rw [← hY42, ← hn42]
                obtain ⟨ra42, rc42⟩ := r42
                simp (maxSteps := 2000000) -implicitDefEqProofs [hN, e7]
                have hYf : Y30 ++ (x.runs.take (j + 1)).flatMap runB = Y42 := by rw [hY42, hY41, hY40, hZR, hfe]; simp [runB]
                refine next3 (j + 1, n42, ra42, rc42) _ _ (by simp; omega) (fun W h => ⟨⟨hlt2, by simp only [hl42, ← hYf, List.length_append, hl30]⟩, by repeat (first | with_reducible exact h | replace h := h.2)⟩) ?_
                simp [hYf]
            · refine load1 ok rfl rfl rfl rfl (fun v W => v = .int .i64 E.ct) (fun W hW => ⟨_, (hE W (by repeat (first | with_reducible exact hW.1 | replace hW := hW.2))).2.2, rfl⟩) ?_
              rintro v W rfl _
              simp (maxSteps := 2000000) -implicitDefEqProofs [hN, e7]
              refine ⟨?_, ?_⟩
              · refine load1 ok rfl rfl rfl rfl (fun v W => v = .int .i64 E.fr) (fun W hW => ⟨_, (hE W (by repeat (first | with_reducible exact hW.1 | replace hW := hW.2))).1, rfl⟩) ?_
                rintro v W rfl _
                simp (maxSteps := 2000000) -implicitDefEqProofs [hN, e7]
                refine ⟨?_, ?_⟩
                · refine callS ok rfl rfl rfl [] [] trivial rfl (fun r : Sl => [(600, .row r.1 (zm + 8) r.2 5 1 (bC (ZR ++ intB E.fr)))]) (fun w I S hI hG hO hS => (refNum1 hI (ZR) E.fr (fun W e => row_ok (hG W e).1 hzl2 (by omega)) (by omega)).lone hO) (fun r => by simp) (.inl fun k hk => by cases hk) fun r40 W _ => ?_
                  obtain ⟨Y40, hY40⟩ : ∃ Z, Z = ZR ++ intB E.fr := ⟨_, rfl⟩
                  obtain ⟨n40, hn40⟩ : ∃ n, n = zm + 8 := ⟨_, rfl⟩
                  have hl40 : n40 = Y40.length := by rw [hY40, List.length_append, ← hzl2, hn40, intB_length]
                  rw [← hY40, ← hn40]
                  obtain ⟨ra40, rc40⟩ := r40
                  simp (maxSteps := 2000000) -implicitDefEqProofs [hN, e7]
                  refine load1 ok rfl rfl rfl rfl (fun v W => v = .int .i64 E.at_) (fun W hW => ⟨_, (hE W (by repeat (first | with_reducible exact hW.1 | replace hW := hW.2))).2.1, rfl⟩) ?_
                  rintro v W rfl _
                  simp (maxSteps := 2000000) -implicitDefEqProofs [hN, e7]
                  refine pub 600 rfl (by decide) (callS ok rfl rfl rfl [] [] trivial rfl (fun r : Sl => [(600, .row r.1 (n40 + 8) r.2 5 1 (bC (Y40 ++ intB E.at_)))]) (fun w I S hI hG hO hS => (refNum1 hI (Y40) E.at_ (fun W e => row_ok (hG W e).1 hl40 (by omega)) (by omega)).lone hO) (fun r => by simp) (.inl fun k hk => by cases hk) fun r41 W _ => ?_)
                  obtain ⟨Y41, hY41⟩ : ∃ Z, Z = Y40 ++ intB E.at_ := ⟨_, rfl⟩
                  obtain ⟨n41, hn41⟩ : ∃ n, n = n40 + 8 := ⟨_, rfl⟩
                  have hl41 : n41 = Y41.length := by rw [hY41, List.length_append, ← hl40, hn41, intB_length]
                  rw [← hY41, ← hn41]
                  obtain ⟨ra41, rc41⟩ := r41
                  simp (maxSteps := 2000000) -implicitDefEqProofs [hN, e7]
                  refine pub 600 rfl (by decide) (callS ok rfl rfl rfl [] [] trivial rfl (fun r : Sl => [(600, .row r.1 (n41 + 8) r.2 5 1 (bC (Y41 ++ intB E.ct)))]) (fun w I S hI hG hO hS => (refNum1 hI (Y41) E.ct (fun W e => row_ok (hG W e).1 hl41 (by omega)) (by omega)).lone hO) (fun r => by simp) (.inl fun k hk => by cases hk) fun r42 W _ => ?_)
                  obtain ⟨Y42, hY42⟩ : ∃ Z, Z = Y41 ++ intB E.ct := ⟨_, rfl⟩
                  obtain ⟨n42, hn42⟩ : ∃ n, n = n41 + 8 := ⟨_, rfl⟩
                  have hl42 : n42 = Y42.length := by rw [hY42, List.length_append, ← hl41, hn42, intB_length]
                  rw [← hY42, ← hn42]
                  obtain ⟨ra42, rc42⟩ := r42
                  simp (maxSteps := 2000000) -implicitDefEqProofs [hN, e7]
                  have hYf : Y30 ++ (x.runs.take (j + 1)).flatMap runB = Y42 := by rw [hY42, hY41, hY40, hZR, hfe]; simp [runB]
                  refine next3 (j + 1, n42, ra42, rc42) _ _ (by simp; omega) (fun W h => ⟨⟨hlt2, by simp only [hl42, ← hYf, List.length_append, hl30]⟩, by repeat (first | with_reducible exact h | replace h := h.2)⟩) ?_
                  simp [hYf]
                · refine load1 ok rfl rfl rfl rfl (fun v W => v = .int .i64 E.at_) (fun W hW => ⟨_, (hE W (by repeat (first | with_reducible exact hW.1 | replace hW := hW.2))).2.1, rfl⟩) ?_
                  rintro v W rfl _
                  simp (maxSteps := 2000000) -implicitDefEqProofs [hN, e7]
                  refine callS ok rfl rfl rfl [] [] trivial rfl (fun r : Sl => [(600, .row r.1 (zm + 8) r.2 5 1 (bC (ZR ++ intB E.fr)))]) (fun w I S hI hG hO hS => (refNum1 hI (ZR) E.fr (fun W e => row_ok (hG W e).1 hzl2 (by omega)) (by omega)).lone hO) (fun r => by simp) (.inl fun k hk => by cases hk) fun r40 W _ => ?_
                  obtain ⟨Y40, hY40⟩ : ∃ Z, Z = ZR ++ intB E.fr := ⟨_, rfl⟩
                  obtain ⟨n40, hn40⟩ : ∃ n, n = zm + 8 := ⟨_, rfl⟩
                  have hl40 : n40 = Y40.length := by rw [hY40, List.length_append, ← hzl2, hn40, intB_length]
                  rw [← hY40, ← hn40]
                  obtain ⟨ra40, rc40⟩ := r40
                  simp (maxSteps := 2000000) -implicitDefEqProofs [hN, e7]
                  refine pub 600 rfl (by decide) (callS ok rfl rfl rfl [] [] trivial rfl (fun r : Sl => [(600, .row r.1 (n40 + 8) r.2 5 1 (bC (Y40 ++ intB E.at_)))]) (fun w I S hI hG hO hS => (refNum1 hI (Y40) E.at_ (fun W e => row_ok (hG W e).1 hl40 (by omega)) (by omega)).lone hO) (fun r => by simp) (.inl fun k hk => by cases hk) fun r41 W _ => ?_)
                  obtain ⟨Y41, hY41⟩ : ∃ Z, Z = Y40 ++ intB E.at_ := ⟨_, rfl⟩
                  obtain ⟨n41, hn41⟩ : ∃ n, n = n40 + 8 := ⟨_, rfl⟩
                  have hl41 : n41 = Y41.length := by rw [hY41, List.length_append, ← hl40, hn41, intB_length]
                  rw [← hY41, ← hn41]
                  obtain ⟨ra41, rc41⟩ := r41
                  simp (maxSteps := 2000000) -implicitDefEqProofs [hN, e7]
                  refine pub 600 rfl (by decide) (callS ok rfl rfl rfl [] [] trivial rfl (fun r : Sl => [(600, .row r.1 (n41 + 8) r.2 5 1 (bC (Y41 ++ intB E.ct)))]) (fun w I S hI hG hO hS => (refNum1 hI (Y41) E.ct (fun W e => row_ok (hG W e).1 hl41 (by omega)) (by omega)).lone hO) (fun r => by simp) (.inl fun k hk => by cases hk) fun r42 W _ => ?_)
                  obtain ⟨Y42, hY42⟩ : ∃ Z, Z = Y41 ++ intB E.ct := ⟨_, rfl⟩
                  obtain ⟨n42, hn42⟩ : ∃ n, n = n41 + 8 := ⟨_, rfl⟩
                  have hl42 : n42 = Y42.length := by rw [hY42, List.length_append, ← hl41, hn42, intB_length]
                  rw [← hY42, ← hn42]
                  obtain ⟨ra42, rc42⟩ := r42
                  simp (maxSteps := 2000000) -implicitDefEqProofs [hN, e7]
                  have hYf : Y30 ++ (x.runs.take (j + 1)).flatMap runB = Y42 := by rw [hY42, hY41, hY40, hZR, hfe]; simp [runB]
                  refine next3 (j + 1, n42, ra42, rc42) _ _ (by simp; omega) (fun W h => ⟨⟨hlt2, by simp only [hl42, ← hYf, List.length_append, hl30]⟩, by repeat (first | with_reducible exact h | replace h := h.2)⟩) ?_
                  simp [hYf]
              · refine load1 ok rfl rfl rfl rfl (fun v W => v = .int .i64 E.at_) (fun W hW => ⟨_, (hE W (by repeat (first | with_reducible exact hW.1 | replace hW := hW.2))).2.1, rfl⟩) ?_
                rintro v W rfl _
                simp (maxSteps := 2000000) -implicitDefEqProofs [hN, e7]
                refine load1 ok rfl rfl rfl rfl (fun v W => v = .int .i64 E.fr) (fun W hW => ⟨_, (hE W (by repeat (first | with_reducible exact hW.1 | replace hW := hW.2))).1, rfl⟩) ?_
                rintro v W rfl _
                simp (maxSteps := 2000000) -implicitDefEqProofs [hN, e7]
                refine callS ok rfl rfl rfl [] [] trivial rfl (fun r : Sl => [(600, .row r.1 (zm + 8) r.2 5 1 (bC (ZR ++ intB E.fr)))]) (fun w I S hI hG hO hS => (refNum1 hI (ZR) E.fr (fun W e => row_ok (hG W e).1 hzl2 (by omega)) (by omega)).lone hO) (fun r => by simp) (.inl fun k hk => by cases hk) fun r40 W _ => ?_
                obtain ⟨Y40, hY40⟩ : ∃ Z, Z = ZR ++ intB E.fr := ⟨_, rfl⟩
                obtain ⟨n40, hn40⟩ : ∃ n, n = zm + 8 := ⟨_, rfl⟩
                have hl40 : n40 = Y40.length := by rw [hY40, List.length_append, ← hzl2, hn40, intB_length]
                rw [← hY40, ← hn40]
                obtain ⟨ra40, rc40⟩ := r40
                simp (maxSteps := 2000000) -implicitDefEqProofs [hN, e7]
                refine pub 600 rfl (by decide) (callS ok rfl rfl rfl [] [] trivial rfl (fun r : Sl => [(600, .row r.1 (n40 + 8) r.2 5 1 (bC (Y40 ++ intB E.at_)))]) (fun w I S hI hG hO hS => (refNum1 hI (Y40) E.at_ (fun W e => row_ok (hG W e).1 hl40 (by omega)) (by omega)).lone hO) (fun r => by simp) (.inl fun k hk => by cases hk) fun r41 W _ => ?_)
                obtain ⟨Y41, hY41⟩ : ∃ Z, Z = Y40 ++ intB E.at_ := ⟨_, rfl⟩
                obtain ⟨n41, hn41⟩ : ∃ n, n = n40 + 8 := ⟨_, rfl⟩
                have hl41 : n41 = Y41.length := by rw [hY41, List.length_append, ← hl40, hn41, intB_length]
                rw [← hY41, ← hn41]
                obtain ⟨ra41, rc41⟩ := r41
                simp (maxSteps := 2000000) -implicitDefEqProofs [hN, e7]
                refine pub 600 rfl (by decide) (callS ok rfl rfl rfl [] [] trivial rfl (fun r : Sl => [(600, .row r.1 (n41 + 8) r.2 5 1 (bC (Y41 ++ intB E.ct)))]) (fun w I S hI hG hO hS => (refNum1 hI (Y41) E.ct (fun W e => row_ok (hG W e).1 hl41 (by omega)) (by omega)).lone hO) (fun r => by simp) (.inl fun k hk => by cases hk) fun r42 W _ => ?_)
                obtain ⟨Y42, hY42⟩ : ∃ Z, Z = Y41 ++ intB E.ct := ⟨_, rfl⟩
                obtain ⟨n42, hn42⟩ : ∃ n, n = n41 + 8 := ⟨_, rfl⟩
                have hl42 : n42 = Y42.length := by rw [hY42, List.length_append, ← hl41, hn42, intB_length]
                rw [← hY42, ← hn42]
                obtain ⟨ra42, rc42⟩ := r42
                simp (maxSteps := 2000000) -implicitDefEqProofs [hN, e7]
                have hYf : Y30 ++ (x.runs.take (j + 1)).flatMap runB = Y42 := by rw [hY42, hY41, hY40, hZR, hfe]; simp [runB]
                refine next3 (j + 1, n42, ra42, rc42) _ _ (by simp; omega) (fun W h => ⟨⟨hlt2, by simp only [hl42, ← hYf, List.length_append, hl30]⟩, by repeat (first | with_reducible exact h | replace h := h.2)⟩) ?_
                simp [hYf]
          · obtain rfl : j = x.runs.length := by omega
            rw [List.take_length] at hZR
            simp [hN, e6]
            have hYL : X ++ (d.kind % 256 :: inoB x) = ZR := by
              rw [hZR, hY30, hZ, hY5, hY4, hY3, hY2, hY1, hY0, hY]
              simp [inoB, headB]
            refine next (i + 1, zm, za, zc) _ _ (by simp; omega) (fun W h => ⟨⟨hlt, by rw [ft, hzl2, ← hYL]; simp⟩, by
              show Sv.ok dDee W (some ⟨b, o, none⟩, l.length, sc) l
              repeat (first | with_reducible exact h | replace h := h.2)⟩) ?_
            simp [ft, ← hYL]
      · have td : deedB d = lowB (d.kind % 18446744073709551616) 1 := by simp [deedB, tailB, k1, k2, k3, k4]
        rw [td, k0] at ft
        simp [hN, e6]
        refine next (i + 1, yn + 1, some ⟨g7, 0, none⟩, c7) _ _ (by simp; omega) (fun W h => ⟨⟨hlt, by rw [ft, List.length_append, ← hr]; rfl⟩, h.2.2⟩) ?_
        simp [ft, hY]
  · have hi' : i = l.length := by omega
    subst hi'
    rw [List.take_length] at hr ⊢
    refine ret0 hC (ya, yn, yc) rfl fun W hp hG => ?_
    simp only [pubs, Res.fact] at hp
    have hl' : (l.flatMap deedB).length ≤ 10000000000 := hl
    exact row_ok hp.1 hr (by rw [hr]; exact Nat.le_trans hl' (by omega))
end Go.Proofs.YtbbaoeidobdblaaGreat.Sx

/- How many bytes deeds of some bulk have. -/
set_option linter.unusedVariables false
set_option linter.unusedSimpArgs false
namespace Go.Proofs.YtbbaoeidobdblaaGreat.Sx
open Go
attribute [local simp ↓] ifb_true' ifb_false'
attribute [local simp] ifb_true ifb_false ifb_eq sx argsT find ev evOp evs evo evBin evInt evStr evNil evNilA ptrA slcA isNoneA asB evLoad look del cellsB evUn evConv kdec fld evFieldA evField evIdxA evIdx evSlc bndL bndH evLen mmi put resV guardV gvL setO tupV cellsOf ones one upd lits nv exitTo SV.val CV.val TI.agg rdyA allR keepB scan simpO gsp isS subs keepT pickT wr memN pubs Res.fact Region.binds bld rest give delL back Res.eqv vi vb num Sv.val undef
theorem deeds_sz (l : List Dee) : (deedsB l).length ≤ 69 * sumN (l.map fun d => szN d.ino + 1) := by
  induction l with
  | nil => exact Nat.zero_le _
  | cons e r ih =>
    have h1 : (deedB e).length ≤ 69 * (szN e.ino + 1) := by
      by_cases k1 : e.kind = 1 ∨ e.kind = 3 ∨ e.kind = 4
      · have := num_len e.kind e.no e.ino k1
        have e2 : (⟨e.kind, e.no, e.ino⟩ : Dee) = e := rfl
        rw [e2] at this
        omega
      · by_cases k2 : e.kind = 2
        · rw [put_len k2]
          have := wI_sz e.ino
          omega
        · have ht : tailB e = [] := by unfold tailB; rw [if_neg k1, if_neg k2]
          rw [deedB, List.length_append, lowB_length, ht]
          simp
          omega
    rw [deeds_len] at ih ⊢
    simp only [List.map_cons, sumN_cons]
    omega
end Go.Proofs.YtbbaoeidobdblaaGreat.Sx

/- RightName, Parts, Split of the reference: what is known of what they answer. -/
set_option linter.unusedVariables false
set_option linter.unusedSimpArgs false
namespace Go.Proofs.YtbbaoeidobdblaaGreat.Sx
open Go
attribute [local simp ↓] ifb_true' ifb_false'
attribute [local simp] ifb_true ifb_false ifb_eq sx argsT find ev evOp evs evo evBin evInt evStr evNil evNilA ptrA slcA isNoneA asB evLoad look del cellsB evUn evConv kdec fld evFieldA evField evIdxA evIdx evSlc bndL bndH evLen mmi put resV guardV gvL setO tupV cellsOf ones one upd lits nv exitTo SV.val CV.val TI.agg rdyA allR keepB scan simpO gsp isS subs keepT pickT wr memN pubs Res.fact Region.binds bld rest give delL back Res.eqv vi vb num Sv.val undef
set_option maxRecDepth 100000 in
set_option maxHeartbeats 1000000 in
theorem rightName0 (w : World) (I : Nat → Prop) (hI : ∀ b, I b → b < w.heap.size) (s : ByteArray) (hs : s.size ≤ 1000000000) :
    Fn0 Tryz.prog 203 #[.string s] w I (fun b : Bool => .bool b) (fun b _ => b = true → s.size ≤ 32) := by
  refine enter (svs := [.c (.v (.string s))]) tysOk Tryz.func203 rfl Tryz.ntmps203 Tryz.results203 (by kernel_rfl) (by simp) hI (fun _ => True) (fun _ _ => trivial) fun C hC hN ok => ?_
  simp [hN]
  refine loop ok (fun i : Nat => [(3, .c (.v (.int .i64 i)))]) (fun _ => []) (fun i W => i ≤ s.size) (fun i => s.size - i) 0 ?_ ?_ (fun W hW => Nat.zero_le _) ?_
  · simp
  · simp
  rintro i W hi hG next
  rcases Nat.lt_or_ge i s.size with hlt | hge
  · have e6 : IntKind.i64.wrap ((i : Int) + 1) = (i + 1 : Nat) := by rw [w64 (by omega) (by omega)]; omega
    have hltI : (i : Int) < (s.size : Nat) := by omega
    simp [hN, hlt, hltI, e6]
    refine ⟨fun h1 => ⟨fun h2 => ret0 hC false rfl fun _ _ _ => by simp, fun h2 => next (i + 1) _ _ (by omega) (fun W h => ⟨hlt, trivial⟩) ?_⟩, fun h1 => ret0 hC false rfl fun _ _ _ => by simp⟩
    simp
  · simp [hN, Nat.not_lt.2 hge]
    refine ⟨fun h1 => ⟨fun h2 => ⟨fun h3 => ret0 hC _ rfl fun _ _ _ _ => by omega, fun h3 => ret0 hC false rfl fun _ _ _ => by simp⟩, fun h2 => ret0 hC false rfl fun _ _ _ => by simp⟩, fun h1 => ret0 hC false rfl fun _ _ _ => by simp⟩
theorem nilSl {α : Type} (d : Dt α) (W : World) : Sl.ok d W (none, 0) [] := ⟨Nat.le_refl _, Nat.zero_le _, rd_nil _ _ _⟩
theorem txt_len {s : ByteArray} {l : List UInt8} (h : s.toList = l) : s.size = l.length := by
  rw [← h, ByteArray.toList_eq]
  simp
/-- Names that are short. -/
def NmL (l : List ByteArray) : Prop := ∀ n, n ∈ l → n.size ≤ 32
theorem rowsT {W : World} {xs : List ByteArray} {l : List Value} : Rows dStr W xs l ↔ l = xs.flatMap fun x => [.string x] := by
  unfold dStr
  rw [rows_flat]
def sC (l : List ByteArray) : List CV := l.map fun s => .v (.string s)
theorem sC_val (l : List ByteArray) : (sC l).map CV.val = l.flatMap fun x => [.string x] := by
  induction l with
  | nil => rfl
  | cons x r ih => simp [sC, CV.val] at ih ⊢; exact ih
set_option maxRecDepth 100000 in
set_option maxHeartbeats 1000000 in
theorem parts0 (w : World) (I : Nat → Prop) (hI : ∀ b, I b → b < w.heap.size) (s : ByteArray) :
    Fn0 Tryz.prog 172 #[.string s] w I (fun y : Sl × List ByteArray × Bool × Int => .tuple #[.slice y.1.1 y.2.1.length y.1.2, .bool y.2.2.1, .int .i64 y.2.2.2]) (fun y W => Sl.ok dStr W y.1 y.2.1 ∧ y.2.1.length ≤ 401 ∧ NmL y.2.1) := by
  refine enter (svs := [.c (.v (.string s))]) tysOk Tryz.func172 rfl Tryz.ntmps172 Tryz.results172 (by kernel_rfl) (by simp) hI (fun _ => True) (fun _ _ => trivial) fun C hC hN ok => ?_
  have nl : ∀ (b : Bool) (e : Int), ∃ y : Sl × List ByteArray × Bool × Int, y = ((none, 0), [], b, e) := fun b e => ⟨_, rfl⟩
  simp [hN]
  refine ⟨fun hl1 => ⟨fun hl2 => ?_, fun hl2 => ?_⟩, fun hl1 => ?_⟩
  · exact ret0 hC ((none, 0), [], false, 17) rfl fun W _ _ => ⟨nilSl dStr W, by simp, fun n h => by simp at h⟩
  · have hs1 : 1 ≤ s.size := by omega
    have hs2 : s.size ≤ 400 := by omega
    refine nilr 600 9 1 (loopK [0] ok (fun y : Nat × Nat × List ByteArray × Sl => [(7, .c (.v (.int .i64 (y.1 : Nat)))), (6, .c (.v (.int .i64 (y.2.1 : Nat)))), (5, .c (.rw 600 y.2.2.2.1 y.2.2.1.length y.2.2.2.2))]) (fun y => [(600, .row y.2.2.2.1 y.2.2.1.length y.2.2.2.2 9 1 (sC y.2.2.1))]) (fun y W => y.2.1 ≤ y.1 ∧ y.1 ≤ s.size + 1 ∧ y.2.2.1.length ≤ y.1 ∧ NmL y.2.2.1) (fun y => s.size + 1 - y.1) (0, 0, [], (none, 0)) ?_ ?_ (fun W hW => ⟨Nat.le_refl _, Nat.zero_le _, Nat.zero_le _, fun n h => by simp at h⟩) ?_)
    · simp
    · simp [sC]
    rintro ⟨i, f, l, ra, rc⟩ W ⟨hf, hi, hll, hnm⟩ hG next
    simp only at hf hi hll hnm
    have e6 : IntKind.i64.wrap ((i : Int) + 1) = (i + 1 : Nat) := by rw [w64 (by omega) (by omega)]; omega
    by_cases hgo : i ≤ s.size
    · have hgoI : (i : Int) ≤ (s.size : Nat) := by omega
      simp [hN, hgo, hgoI, e6]
      have hx : (s.extract f i).size ≤ 400 := by rw [ByteArray.size_extract]; omega
      generalize s.extract f i = x at hx
      have go : ∀ {p q : Prop}, p → q → p ∧ q := fun a b => ⟨a, b⟩
      refine ⟨fun hlt => ⟨hlt, fun _ => next (i + 1, f, l, ra, rc) _ _ (by simp only; omega) (fun W h => ⟨⟨by simp only; omega, by simp only; omega, by simp only; omega, hnm⟩, trivial⟩) ?_, fun _ => ?_⟩, fun hge => ?_⟩
      · simp
      all_goals
        refine ⟨hf, fun n1 => ⟨fun n2 => next (i + 1, i + 1, l, ra, rc) _ _ (by simp only; omega) (fun W h => ⟨⟨Nat.le_refl _, by simp only; omega, by simp only; omega, hnm⟩, trivial⟩) ?_, fun n2 => ⟨fun n3 => ?_, fun n3 => ?_⟩⟩, fun n1 => next (i + 1, i + 1, l, ra, rc) _ _ (by simp only; omega) (fun W h => ⟨⟨Nat.le_refl _, by simp only; omega, by simp only; omega, hnm⟩, trivial⟩) ?_⟩
        · simp
        · refine call0 ok rfl rfl rfl (fun w I hI hG => rightName0 w I hI x (by omega)) fun y W hy => ?_
          cases y with
          | false =>
            simp [hN]
            exact ret0 hC ((none, 0), [], false, 17) rfl fun W _ _ => ⟨nilSl dStr W, by simp, fun n h => by simp at h⟩
          | true =>
            have hx2 := hy rfl
            simp [hN]
            intro g
            refine appR ok 600 54 rfl rfl rfl rfl rfl (by decide) rfl rfl rfl rfl rfl rfl rfl (by decide) (by simp) (by show (l.length + 1) * 16 ≤ _; omega) (by omega) fun g' c' => ?_
            simp [hN, e6]
            exact next (i + 1, i + 1, l ++ [x], some ⟨g', 0, none⟩, c') _ _ (by simp only; omega) (fun W h => ⟨⟨Nat.le_refl _, by simp only; omega, by simp; omega, fun n hn => by rcases List.mem_append.1 hn with hn | hn; exact hnm n hn; rw [List.mem_singleton.1 hn]; exact hx2⟩, trivial⟩) (by simp [sC])
        · intro g
          have hx2 := txt_len n3
          refine appR ok 600 54 rfl rfl rfl rfl rfl (by decide) rfl rfl rfl rfl rfl rfl rfl (by decide) (by simp) (by show (l.length + 1) * 16 ≤ _; omega) (by omega) fun g' c' => ?_
          simp [hN, e6]
          exact next (i + 1, i + 1, l ++ [x], some ⟨g', 0, none⟩, c') _ _ (by simp only; omega) (fun W h => ⟨⟨Nat.le_refl _, by simp only; omega, by simp; omega, fun n hn => by rcases List.mem_append.1 hn with hn | hn; exact hnm n hn; rw [List.mem_singleton.1 hn, hx2]; decide⟩, trivial⟩) (by simp [sC])
        · simp
    · simp [hN, hgo]
      refine drawK ok mixed (by kernel_rfl) ?_
      simp (maxSteps := 2000000) -implicitDefEqProofs [hN]

      refine ⟨by omega, ret0 hC ((ra, rc), l, decide (bts s 0 = 47), 0) rfl fun W hp hG => ⟨?_, by show l.length ≤ 401; omega, hnm⟩⟩
      have h1 : W.ownsRow 0 9 1 (.slice ra l.length rc) l.length ((sC l).map CV.val) := hp.1
      rw [sC_val] at h1
      exact ((rowsT.2 rfl : Rows dStr W l _).sv (base := 0) (e := 9) (by decide) (by show l.length ≤ _; omega) h1).2
  · exact ret0 hC ((none, 0), [], false, 17) rfl fun W _ _ => ⟨nilSl dStr W, by simp, fun n h => by simp at h⟩
end Go.Proofs.YtbbaoeidobdblaaGreat.Sx

/- Split, FindInode, Find of the reference: what is known of what they answer. -/
set_option linter.unusedVariables false
set_option linter.unusedSimpArgs false
namespace Go.Proofs.YtbbaoeidobdblaaGreat.Sx
open Go
attribute [local simp ↓] ifb_true' ifb_false'
attribute [local simp] ifb_true ifb_false ifb_eq sx argsT find ev evOp evs evo evBin evInt evStr evNil evNilA ptrA slcA isNoneA asB evLoad look del cellsB evUn evConv kdec fld evFieldA evField evIdxA evIdx evSlc bndL bndH evLen mmi put resV guardV gvL setO tupV cellsOf ones one upd lits nv exitTo SV.val CV.val TI.agg rdyA allR keepB scan simpO gsp isS subs keepT pickT wr memN pubs Res.fact Region.binds bld rest give delL back Res.eqv vi vb num Sv.val undef
set_option maxRecDepth 100000 in
set_option maxHeartbeats 1000000 in
theorem split0 (w : World) (I : Nat → Prop) (hI : ∀ b, I b → b < w.heap.size) (s : ByteArray) :
    Fn0 Tryz.prog 135 #[.string s] w I (fun y : Sl × List ByteArray × Int => .tuple #[.slice y.1.1 y.2.1.length y.1.2, .int .i64 y.2.2]) (fun y W => Sl.ok dStr W y.1 y.2.1 ∧ y.2.1.length ≤ 401 ∧ NmL y.2.1) := by
  refine enter (svs := [.c (.v (.string s))]) tysOk Tryz.func135 rfl Tryz.ntmps135 Tryz.results135 (by kernel_rfl) (by simp) hI (fun _ => True) (fun _ _ => trivial) fun C hC hN ok => ?_
  simp [hN]
  refine call0 ok rfl rfl rfl (fun w I hI hG => parts0 w I hI s) fun y W hy => ?_
  obtain ⟨⟨pa, pc⟩, l, top, e⟩ := y
  have nl : ∀ (W : World), Sl.ok dStr W (none, 0) [] ∧ ([] : List ByteArray).length ≤ 401 ∧ NmL [] := fun W => ⟨nilSl dStr W, by simp, fun n h => by simp at h⟩
  by_cases he : e = 0
  · subst he
    cases top with
    | false =>
      simp [hN]
      exact ret0 hC ((none, 0), [], 17) rfl fun W _ _ => nl W
    | true =>
      simp [hN]
      exact ret0 hC ((pa, pc), l, 0) rfl fun W _ hG => hG
  · simp [hN, he]
    exact ret0 hC ((none, 0), [], e) rfl fun W _ _ => nl W
theorem ino_of {W : World} {x : Ino} {e r : Sl} (h : dIno.K W x (inoC x e r)) : InoR W x e r := by
  obtain ⟨⟨ea', ec'⟩, ⟨ra', rc'⟩, h1, h2⟩ := h
  obtain ⟨ea, ec⟩ := e
  obtain ⟨ra, rc⟩ := r
  simp at h1
  obtain ⟨⟨rfl, rfl⟩, rfl, rfl⟩ := h1
  exact h2
theorem inoNilR (W : World) : InoR W inoZ (none, 0) (none, 0) := ⟨nilSl dEnt W, nilSl dRn W⟩
set_option maxRecDepth 100000 in
set_option maxHeartbeats 1000000 in
theorem findIno0 (w : World) (I : Nat → Prop) (hI : ∀ b, I b → b < w.heap.size) (s : Sta) (si sb : Sl) (no : Int) (h : ∀ W, Ext I w W → StaR W s si sb) (hl : s.inos.length ≤ 1000000000) :
    Fn0 Tryz.prog 87 #[.agg (staC s si sb).toArray, .int .i64 no] w I (fun y : (Ino × Sl × Sl) × Bool => .tuple #[.agg (inoC y.1.1 y.1.2.1 y.1.2.2).toArray, .bool y.2]) (fun y W => InoR W y.1.1 y.1.2.1 y.1.2.2 ∧ (y.2 = true → y.1.1 ∈ s.inos ∧ y.1.1.no = no) ∧ (y.2 = false → y.1.1 = inoZ ∧ ∀ x, x ∈ s.inos → x.no ≠ no)) := by
  refine enter (svs := [.ag ((staC s si sb).map .v), .c (.v (.int .i64 no))]) tysOk Tryz.func87 rfl Tryz.ntmps87 Tryz.results87 (by kernel_rfl) (by simp) hI (fun W => StaR W s si sb) h fun C hC hN ok => ?_
  obtain ⟨ia, ic⟩ := si
  simp [hN]
  intro g2 g4
  refine loop ok (fun i : Nat => [(6, .c (.v (.int .i64 i)))]) (fun _ => [(2, .box g2 39 ((staC s (ia, ic) sb).map .v)), (4, .box g4 44 ((inoC inoZ (none, 0) (none, 0)).map .v))]) (fun i W => i ≤ s.inos.length ∧ ∀ x, x ∈ s.inos.take i → x.no ≠ no) (fun i => s.inos.length - i) 0 ?_ ?_ (fun W hW => ⟨Nat.zero_le _, by simp⟩) ?_
  · simp
  · simp [inoZ]
  rintro i W ⟨hi, hpre⟩ hG next
  rcases Nat.lt_or_ge i s.inos.length with hlt | hge
  · have e6 : IntKind.i64.wrap ((i : Int) + 1) = (i + 1 : Nat) := by rw [w64 (by omega) (by omega)]; omega
    have hsv : ∀ W, StaR W s (ia, ic) sb → Sv.ok dIno W (ia, s.inos.length, ic) s.inos := fun W hW => ⟨rfl, hW.1⟩
    have hpre1 : ¬ s.inos[i].no = no → ∀ x, x ∈ s.inos.take (i + 1) → x.no ≠ no := fun hne x hx => by
      rw [List.take_add_one, List.getElem?_eq_getElem hlt] at hx
      simp only [Option.toList, List.mem_append, List.mem_singleton] at hx
      rcases hx with hx | rfl
      · exact hpre x hx
      · exact hne
    obtain ⟨b, o, e, _⟩ := ino_no (hsv W hG) hlt
    cases e
    simp [hN, hlt, e6]
    refine load1 ok rfl rfl rfl rfl (fun v W => v = .int .i64 s.inos[i].no) (fun W hW => ?_) ?_
    · obtain ⟨b', o', e, hc⟩ := ino_no (hsv W hW.2) hlt
      cases e
      exact ⟨_, hc, rfl⟩
    rintro v W rfl _
    simp [hN, hlt]
    refine ⟨fun he => ?_, fun he => next (i + 1) _ _ (by omega) (fun W h => ⟨⟨hlt, hpre1 he⟩, h.2⟩) ?_⟩
    · refine loadA ok rfl rfl rfl rfl (fun c W => dIno.K W s.inos[i] c) (fun W hW => ?_) ?_
      · obtain ⟨cs, k1, k2, k3⟩ := (hsv W (by first | exact (hW) | exact (hW).2 | exact (hW).2.2 | exact (hW).2.2.2 | exact (hW).2.2.2.2 | exact (hW).2.2.2.2.2 | exact (hW).2.2.2.2.2.2 | exact (hW).2.2.2.2.2.2.2 | exact (hW).2.2.2.2.2.2.2.2)).2.2.2.get hlt
        exact ⟨cs, k2, k3, k1⟩
      rintro v W _ ⟨e, r, rfl, hir⟩ hG2
      simp [hN]
      exact ret0 hC ((s.inos[i], e, r), true) rfl fun W _ hG => ⟨ino_of hG.1, fun _ => ⟨List.getElem_mem hlt, he⟩, by simp⟩
    · simp [e6]
  · simp [hN, Nat.not_lt.2 hge]
    exact ret0 hC ((inoZ, (none, 0), (none, 0)), false) rfl fun W _ hG => ⟨inoNilR W, by simp, fun _ => ⟨rfl, fun x hx => hpre x (by rw [List.take_of_length_le (by omega)]; exact hx)⟩⟩
end Go.Proofs.YtbbaoeidobdblaaGreat.Sx

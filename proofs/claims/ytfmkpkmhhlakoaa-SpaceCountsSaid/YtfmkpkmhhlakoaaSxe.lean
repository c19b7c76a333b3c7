/- Sx, part 5: all simple operations in one table. -/
import Derived.Test.YtfmkpkmhhlakoaaSxd
set_option linter.unusedVariables false
set_option linter.unusedSimpArgs false
namespace Go.Proofs.Ytfmkpkmhhlakoaa.Sx
open Go

/-- A part of a slice, or of a string: s[lo:hi]. -/
def bndL : Option SV → Option Int
  | none => some 0
  | some (.c (.v (.int _ j))) => some j
  | _ => none
def bndH (n : Nat) : Option SV → Option Int
  | none => some n
  | some (.c (.v (.int _ j))) => some j
  | _ => none
def addrP : Option Addr → Nat → Option Addr
  | none, _ => none
  | some x, k => some (x.add k)
@[simp] theorem addrP_none (k : Nat) : addrP none k = none := rfl
@[simp] theorem addrP_some (b o k : Nat) : addrP (some ⟨b, o, none⟩) k = some ⟨b, o + k, none⟩ := by simp [addrP, addr_add]
def evSlc (i : TI) (e : Option TI) (x : SV) (lo hi : Option SV) : Yl :=
  match x with
  | .c (.v (.string s)) =>
    match bndL lo, bndH s.size hi with
    | some l, some h => some (i.kd = 4 ∧ 0 ≤ l ∧ l ≤ h ∧ h ≤ s.size, .c (.v (.string (s.extract l.toNat h.toNat))))
    | _, _ => none
  | x =>
    match slcA x, e, lo, bndH 0 hi with
    | some (a, n, c), some e, none, some h => some (i.kd = 3 ∧ hi.isSome = true ∧ 0 ≤ h ∧ h ≤ c, .c (.v (.slice a h.toNat c)))
    | some (a, n, c), some e, some (.c (.v (.int _ l))), _ =>
      match bndH n hi with
      | some h => some (i.kd = 3 ∧ 0 ≤ l ∧ l ≤ h ∧ h ≤ c, .c (.v (.slice (if c = l.toNat then a else addrP a (l.toNat * e.sz)) (h.toNat - l.toNat) (c - l.toNat))))
      | none => none
    | _, _, _, _ => none
theorem sb_run {P : Program} {k : IntKind} {x : Int} {y : Nat} {code : BoundsCode} (h0 : 0 ≤ x) (h1 : x ≤ y) (w : World) : (Instr.sliceBound (.int k x) y code).run P w = .ok x.toNat w := by
  unfold Instr.sliceBound
  simp [asIntOf, h0, h1]
theorem bounds_run {P : Program} {b : Bool} {n c : Nat} {lo hi : Option SV} {l h : Int} (el : bndL lo = some l) (eh : bndH n hi = some h) (h0 : 0 ≤ l) (h1 : l ≤ h) (h2 : h ≤ c) (w : World) :
    (Instr.sliceBounds b n c (lo.map SV.val) (hi.map SV.val) none).run P w = .ok (l.toNat, h.toNat, c) w := by
  unfold Instr.sliceBounds
  have hh : 0 ≤ h := by omega
  have e1 : l ≤ (h.toNat : Int) := by omega
  cases hi with
  | none =>
    simp only [bndH, Option.some.injEq] at eh
    subst eh
    cases lo with
    | none =>
      simp only [bndL, Option.some.injEq] at el
      subst el
      simp
    | some x =>
      unfold bndL at el
      split at el <;> simp_all [SV.val, CV.val, sb_run]
  | some y =>
    obtain ⟨k, rfl⟩ : ∃ k, y = .c (.v (.int k h)) := by
      unfold bndH at eh
      split at eh <;> simp_all
    cases lo with
    | none =>
      simp only [bndL, Option.some.injEq] at el
      subst el
      simp [SV.val, CV.val, sb_run, hh, h2]
    | some x =>
      unfold bndL at el
      split at el <;> simp_all [SV.val, CV.val, sb_run]
theorem evSlc_ok {P : Program} {t : TypeId} {i : TI} (hi : TIok P t i) {e : Option TI} (he : ∀ x, e = some x → TIok P i.el x) {x s : SV} {lo hi' : Option SV} {c : Prop} (h : evSlc i e x lo hi' = some (c, s)) (hc : c) (w : World) : (Instr.sliceAt t x.val (lo.map SV.val) (hi'.map SV.val) none).run P w = .ok s.val w := by
  unfold evSlc at h
  split at h
  · rename_i s'
    split at h
    · rename_i l hh el eh
      simp only [Option.some.injEq, Prod.mk.injEq] at h
      obtain ⟨rfl, rfl⟩ := h
      have hu := hi.g_string hc.1
      have hb := fun w => bounds_run (P := P) (b := false) el eh hc.2.1 hc.2.2.1 hc.2.2.2 w
      unfold Instr.sliceAt
      simp [underlying, hu, Instr.slice, SV.val, CV.val, hb]
    · cases h
  · split at h
    · rename_i a n c e' hh hs hbh
      simp only [Option.some.injEq, Prod.mk.injEq] at h
      obtain ⟨rfl, rfl⟩ := h
      have hu := hi.g_slice hc.1
      have e2 : bndH n hi' = some hh := by
        cases hi' with
        | none => simp at hc
        | some y =>
          unfold bndH at hbh ⊢
          split at hbh <;> simp_all
      have hb := fun w => bounds_run (P := P) (b := true) (lo := none) (l := 0) rfl e2 (by omega) hc.2.2.1 hc.2.2.2 w
      have hz := (he _ rfl).g_sizeOf
      have ha : (if c = 0 then a else Option.map (fun x => x.add (0 * e'.sz)) a) = a := by
        split
        · rfl
        · cases a <;> simp [Addr.add]
      simp only [Option.map_none] at hb
      unfold Instr.sliceAt
      rw [slcA_val hs]
      simp [underlying, hu, Instr.slice, SV.val, CV.val, hb, hz]
      intro _
      cases a <;> simp [Addr.add]
    · rename_i a n c e' k l hs
      split at h
      · rename_i hh eh
        simp only [Option.some.injEq, Prod.mk.injEq] at h
        obtain ⟨rfl, rfl⟩ := h
        have hu := hi.g_slice hc.1
        have hb := fun w => bounds_run (P := P) (b := true) (lo := some (.c (.v (.int k l)))) (l := l) rfl eh hc.2.1 hc.2.2.1 hc.2.2.2 w
        have hz := (he _ rfl).g_sizeOf
        unfold Instr.sliceAt
        rw [slcA_val hs]
        simp only [Option.map_some, SV.val, CV.val] at hb ⊢
        simp [underlying, hu, Instr.slice, hb, hz]
        cases a <;> simp [addrP]
      · cases h
    · cases h
def evs (tm : Tm) : List Operand → Option (List SV)
  | [] => some []
  | x :: r => match ev tm x, evs tm r with | some s, some l => some (s :: l) | _, _ => none
theorem evs_ok {n : Nat} {tm : Tm} {a : Act} (h : Rel n tm a) : ∀ {l : List Operand} {s : List SV}, evs tm l = some s → l.map a.eval = s.map SV.val
  | [], s, e => by cases e; rfl
  | x :: r, s, e => by
    simp only [evs] at e
    split at e
    · rename_i y l h1 h2
      cases e
      simp [h.eval h1, evs_ok h h2]
    · cases e
def evo (tm : Tm) : Option Operand → Option (Option SV)
  | none => some none
  | some x => (ev tm x).map some
theorem evo_ok {n : Nat} {tm : Tm} {a : Act} (h : Rel n tm a) {x : Option Operand} {s : Option SV} (e : evo tm x = some s) : x.map a.eval = s.map SV.val := by
  cases x with
  | none => simp only [evo, Option.some.injEq] at e; subst e; rfl
  | some x =>
    simp only [evo, Option.map_eq_some_iff] at e
    obtain ⟨y, h1, rfl⟩ := e
    simp [h.eval h1]
def mmi (mx : Bool) : List SV → Option (IntKind × Int)
  | [.c (.v (.int k a)), .c (.v (.int _ b))] => some (k, if mx then (if b > a then b else a) else (if b < a then b else a))
  | _ => none
def evLen (i : TI) (x : SV) : Yl :=
  match x, slcA x with
  | .c (.v (.string s)), _ => some (i.kd = 4, vi .i64 s.size)
  | _, some (_, n, _) => some (i.kd = 3, vi .i64 n)
  | _, none => match i.kd with | 2 => some (True, vi .i64 i.n) | _ => none
theorem evLen_ok {P : Program} {t ty : TypeId} {i : TI} (hi : TIok P t i) {x s : SV} {c : Prop} (h : evLen i x = some (c, s)) (hc : c) (w : World) : (Builtin.len_ #[t] ty #[x.val]).run P w = .ok s.val w := by
  unfold evLen at h
  unfold Builtin.len_
  split at h
  · rename_i s'
    simp only [Option.some.injEq, Prod.mk.injEq] at h
    obtain ⟨rfl, rfl⟩ := h
    simp [underlying, hi.g_string hc, SV.val, CV.val, goInt]
  · rename_i a n c' _ hs
    simp only [Option.some.injEq, Prod.mk.injEq] at h
    obtain ⟨rfl, rfl⟩ := h
    rw [slcA_val hs]
    simp [underlying, hi.g_slice hc, SV.val, CV.val, goInt]
  · split at h
    · rename_i hk
      simp only [Option.some.injEq, Prod.mk.injEq] at h
      obtain ⟨rfl, rfl⟩ := h
      simp [underlying, hi.g_array hk, SV.val, CV.val, goInt]
    · cases h
/-- A struct that is written out. -/
def bld (i : TI) (tm : Tm) : List CV → List (Nat × Operand) → Yl
  | cs, [] => some (i.kd = 1 ∧ i.fl.all (fun x => x.2.1 != 0) = true, .ag cs)
  | cs, (f, x) :: r => match fld i f, ev tm x with | some (o, z, _), some s => (match bld i tm (upd cs o (cellsOf s)) r with | some (c, y) => some (((cellsOf s).length = z ∧ o + z ≤ cs.length) ∧ c, y) | none => none) | _, _ => none
theorem fold_upd : ∀ (q : List CV) (o k : Nat) (cs : List CV), (((q.map CV.val).zipIdx k).foldl (fun (a : Array Value) (c : Value × Nat) => a.setIfInBounds (o + c.2) c.1) (cs.map CV.val).toArray) = ((upd cs (o + k) q).map CV.val).toArray
  | [], o, k, cs => rfl
  | x :: q, o, k, cs => by
    simp only [List.map_cons, List.zipIdx_cons, List.foldl_cons, upd]
    rw [List.setIfInBounds_toArray, ← List.map_set, fold_upd q o (k + 1) (cs.set (o + k) x)]
    rfl
theorem bld_fill {i : TI} {n : Nat} {tm : Tm} {a : Act} (hR : Rel n tm a) {places : Array (Nat × Nat)} (hp : ∀ f o z b, fld i f = some (o, z, b) → places[f]? = some (o, z)) : ∀ {l : List (Nat × Operand)} {cs : List CV} {c : Prop} {y : SV}, bld i tm cs l = some (c, y) → c →
    i.kd = 1 ∧ i.fl.all (fun x => x.2.1 != 0) = true ∧ ∃ q, y = .ag q ∧ Instr.fill (places[·]?) (cs.map CV.val).toArray (l.map fun x => (x.1, a.eval x.2)) = some (q.map CV.val).toArray
  | [], cs, c, y, h, hc => by
    simp only [bld, Option.some.injEq, Prod.mk.injEq] at h
    obtain ⟨rfl, rfl⟩ := h
    exact ⟨hc.1, hc.2, cs, rfl, rfl⟩
  | (f, x) :: r, cs, c, y, h, hc => by
    simp only [bld] at h
    split at h
    · rename_i o z b s hf hs
      split at h
      · rename_i c' y' hr
        simp only [Option.some.injEq, Prod.mk.injEq] at h
        obtain ⟨rfl, rfl⟩ := h
        obtain ⟨k1, k2, q, k3, k4⟩ := bld_fill hR hp hr hc.2
        refine ⟨k1, k2, q, k3, ?_⟩
        have e := hR.eval hs
        have hcl := cellsOf_val s
        have hsz : s.val.cells.size = z := by rw [← hc.1.1, ← List.length_map (as := cellsOf s) CV.val, hcl, Array.length_toList]
        have hle : ¬ (o + s.val.cells.size > (cs.map CV.val).toArray.size) := by
          have := hc.1.2
          simp
          omega
        have hfd := fold_upd (cellsOf s) o 0 cs
        rw [hcl, Nat.add_zero] at hfd
        have hz : s.val.cells.zipIdx.foldl (fun (a : Array Value) (c : Value × Nat) => a.setIfInBounds (o + c.2) c.1) (cs.map CV.val).toArray = ((upd cs o (cellsOf s)).map CV.val).toArray := by
          rw [← hfd, ← Array.foldl_toList, Array.toList_zipIdx]
        simp only [List.map_cons, Instr.fill, hp f o z b hf, e, hsz, ne_eq, not_true, decide_false, Bool.false_or]
        rw [if_neg (by simpa [hsz] using hle), ← k4, ← hz]
      · cases h
    · cases h
theorem places_run {P : Program} {w : World} : ∀ (l : List Field) (fl : List (Nat × Nat × Bool)), (l.map fun f => (f.offset, szB P f.type, aggB P f.type)) = fl.map (fun x => (x.1, x.2.1, some x.2.2)) → fl.all (fun x => x.2.1 != 0) = true →
    (l.mapM (fun f => do pure (f.offset, ← sizeOf f.type) : Field → Sem (Nat × Nat))).run P w = .ok (fl.map fun x => (x.1, x.2.1)) w
  | [], [], _, _ => by simp
  | [], _ :: _, h, _ => by simp at h
  | _ :: _, [], h, _ => by simp at h
  | f :: l, x :: fl, h, h0 => by
    simp only [List.map_cons, List.cons.injEq, Prod.mk.injEq] at h
    simp only [List.all_cons, Bool.and_eq_true, bne_iff_ne, ne_eq] at h0
    have ih := places_run (P := P) (w := w) l fl h.2 h0.2
    simp only [List.mapM_cons, Sem.run_bind, sz_run h.1.2.1 h0.1, Result.andThen_ok, Sem.run_pure, ih, List.map_cons, h.1.1]
theorem bld_ok {P : Program} {t : TypeId} {i : TI} (hi : TIok P t i) {n : Nat} {tm : Tm} {a : Act} (hR : Rel n tm a) {parts : Array (Nat × Operand)} {c : Prop} {y : SV} (h : bld i tm (i.zero.map .v) parts.toList = some (c, y)) (hc : c) (w : World) :
    (Instr.build t (parts.map fun (j, x) => (j, a.eval x))).run P w = .ok y.val w := by
  have hpl : ∀ f o z b, fld i f = some (o, z, b) → (i.fl.map fun x => (x.1, x.2.1)).toArray[f]? = some (o, z) := fun f o z b hf => by
    unfold fld at hf
    simp [hf]
  obtain ⟨hk, h0, q, rfl, hq⟩ := bld_fill hR hpl h hc
  obtain ⟨z, hz, hzc⟩ := hi.g_zeroValue w
  obtain ⟨fs, hu, hfl⟩ := hi.g_struct hk
  have hp := places_run (P := P) (w := w) fs.toList i.fl hfl h0
  have e1 : ((i.zero.map CV.v).map CV.val).toArray = z.cells := by
    apply Array.ext'
    rw [hzc]
    simp [Function.comp_def, CV.val]
  rw [e1] at hq
  have e2 : (parts.map fun (x : Nat × Operand) => (x.1, a.eval x.2)).toList = parts.toList.map fun x => (x.1, a.eval x.2) := by simp
  unfold Instr.build
  have e3 : (fs.mapM (fun f => do pure (f.offset, ← sizeOf f.type) : Field → Sem (Nat × Nat))).run P w = .ok (i.fl.map fun x => (x.1, x.2.1)).toArray w := by
    rw [← Array.toArray_toList (xs := fs), List.mapM_toArray]
    simp only [Sem.run_map, hp, Result.andThen_ok]
  simp only [Sem.run_bind, hz, Result.andThen_ok, run_underlying hu]
  simp only [Sem.run_bind, e3, Result.andThen_ok]
  have hq' : Instr.fill (fun x => (i.fl.map fun x => (x.1, x.2.1)).toArray[x]?) z.cells (parts.map fun (x : Nat × Operand) => (x.1, a.eval x.2)).toList = some (q.map CV.val).toArray := by rw [e2]; exact hq
  simp only [hq', Sem.run_pure]
  rfl
def evOp (T : Ty) (tm : Tm) (rs : List (Nat × Res)) : Op → Yl
  | .move x | .assign x => match ev tm x with | some s => some (True, s) | none => none
  | .pick c a b => match ev tm c, ev tm a, ev tm b with | some (.c (.v (.bool q))), some x, some y => some (True, match q with | true => x | false => y) | some (.c (.b q)), some x, some y => (match asB x, asB y with | some a, some b => some (True, vb (bif q then a else b)) | _, _ => none) | _, _, _ => none
  | .load t x => match ev tm x, tf t T with | some (.c (.bp k g o)), some i => evLoad i g o (look k rs) | _, _ => none
  | .nilCheck x => match ev tm x with | some (.c (.bp k g o)) => some (True, .c (.bp k g o)) | some (.c (.v (.pointer (some p)))) => some (True, .c (.v (.pointer (some p)))) | some (.c (.v (.func (.func f) a b))) => some (True, .c (.v (.func (.func f) a b))) | _ => none
  | .binOp op t x y _ => match ev tm x, ev tm y with | some a, some b => evBin op (tf t T) a b | _, _ => none
  | .unOp op _ x => match ev tm x with | some a => evUn op a | none => none
  | .convert src dst x => match ev tm x, tf src T, tf dst T with | some a, some _, some i => evConv i a | _, _, _ => none
  | .makeFunc fn fi ca => match evs tm fi.toList, evs tm ca.toList with | some a, some b => some (True, .c (.v (.func fn (a.map SV.val).toArray (b.map SV.val).toArray))) | _, _ => none
  | .fieldAddr s x f => match ev tm x, tf s T with | some a, some i => evFieldA i a f | _, _ => none
  | .field s x f => match ev tm x, tf s T with | some a, some i => evField i a f | _, _ => none
  | .indexAddr t x y => match ev tm x, ev tm y, tf t T with | some a, some b, some i => (match tf i.el T with | some e => evIdxA i e a b | none => none) | _, _, _ => none
  | .index t x y => match ev tm x, ev tm y, tf t T with | some a, some b, some i => evIdx i a b | _, _, _ => none
  | .extract x j => match ev tm x with | some (.c (.v (.tuple vs))) => (match vs.toList[j]? with | some v => some (True, .c (.v v)) | none => none) | _ => none
  | .build t parts => match tf t T with | some i => bld i tm (i.zero.map .v) parts.toList | none => none
  | .slice t x lo hi none => match ev tm x, evo tm lo, evo tm hi, tf t T with | some a, some l, some h, some i => evSlc i (tf i.el T) a l h | _, _, _, _ => none
  | .call ⟨.builtin .len, args, tys⟩ => match evs tm args.toList, tys.toList with | some [x], [t] => (match tf t T with | some i => evLen i x | none => none) | _, _ => none
  | .call ⟨.builtin .cap, args, tys⟩ => match evs tm args.toList, tys.toList with | some [x], [t] => (match tf t T, slcA x with | some i, some (_, _, c) => some (i.kd = 3, vi .i64 c) | _, _ => none) | _, _ => none
  | .call ⟨.builtin .min, args, _⟩ => match evs tm args.toList with | some l => (match mmi false l with | some (k, z) => some (True, vi k z) | none => none) | none => none
  | .call ⟨.builtin .max, args, _⟩ => match evs tm args.toList with | some l => (match mmi true l with | some (k, z) => some (True, vi k z) | none => none) | none => none
  | _ => none
theorem mm_ok {P : Program} {mx : Bool} {l : List SV} {k : IntKind} {z : Int} (h : mmi mx l = some (k, z)) (tys : Array TypeId) (ty : TypeId) (w : World) : (if mx then Builtin.max_ tys ty (l.map SV.val).toArray else Builtin.min_ tys ty (l.map SV.val).toArray).run P w = .ok (.int k z) w := by
  unfold mmi at h
  split at h
  · simp only [Option.some.injEq, Prod.mk.injEq] at h
    obtain ⟨rfl, rfl⟩ := h
    cases mx <;> simp [Builtin.max_, Builtin.min_, Builtin.max2, Builtin.min2, SV.val, CV.val]
  · cases h
theorem evOp_ok {P : Program} {T : Ty} (hT : TyOk P T) {n : Nat} {tm : Tm} {a : Act} (hR : Rel n tm a) {rs : List (Nat × Res)} {w : World} (hC : CellsOK rs w) {o : Oper} {c : Prop} {s : SV} (h : evOp T tm rs o.op = some (c, s)) (hc : c) : (execOp a.eval o).run P w = .ok (.value s.val) w := by
  obtain ⟨dst, op, ty, pos, aft, gd⟩ := o
  simp only at h
  unfold evOp at h
  split at h
  · split at h
    · rename_i x s' hx
      cases h
      simp [execOp, hR.eval hx]
    · cases h
  · split at h
    · rename_i x s' hx
      cases h
      simp [execOp, hR.eval hx]
    · cases h
  · split at h
    · rename_i q x y h1 h2 h3
      cases h
      cases q <;> simp [execOp, hR.eval h1, hR.eval h2, hR.eval h3, SV.val, CV.val, asBool]
    · rename_i q x y h1 h2 h3
      split at h
      · rename_i u v h4 h5
        cases h
        have e1 : ∀ q, (SV.c (.b q)).val = .bool q := fun _ => rfl
        have e4 := asB_val h4
        have e5 := asB_val h5
        cases q <;> simp [execOp, hR.eval h1, hR.eval h2, hR.eval h3, e1, e4, e5, asBool]
      · cases h
    · cases h
  · split at h
    · rename_i t x k g o' i h1 h2
      have hl := evLoad_ok (hT.get h2) hC h hc
      simp [execOp, hR.eval h1, SV.val, CV.val, Instr.loadAt, Instr.sureAddr] at hl ⊢
      simp [hl]
    · cases h
  · split at h
    · rename_i x k g o' h1
      cases h
      simp [execOp, hR.eval h1, SV.val, CV.val]
    · rename_i x p h1
      cases h
      simp [execOp, hR.eval h1, SV.val, CV.val]
    · rename_i x f p q h1
      cases h
      simp [execOp, hR.eval h1, SV.val, CV.val]
    · cases h
  · rename_i op' t x y yt
    split at h
    · rename_i u v h1 h2
      have key : (do eqGuard op' t x y u.val v.val; binOp op' t u.val v.val : Sem Value).run P w = .ok s.val w := by
        unfold evBin at h
        split at h
        · simp only [SV.val, CV.val, Sem.run_bind, eqG (.inr (.inr (.inl ⟨_, _, rfl⟩))), Result.andThen_ok]
          exact evInt_ok h hc t w
        · simp only [SV.val, CV.val, Sem.run_bind, eqG (.inr (.inr (.inr (.inl ⟨_, rfl⟩)))), Result.andThen_ok]
          exact evStr_ok h hc t w
        · split at h
          · rename_i i hi
            split at h
            · rename_i b1 b2 e1 e2
              simp only [Option.some.injEq, Prod.mk.injEq] at h
              obtain ⟨rfl, rfl⟩ := h
              rw [asB_val e1, asB_val e2]
              simp [SV.val, CV.val, eqG (.inr (.inr (.inr (.inr ⟨_, rfl⟩)))), binOp, eqBool (hT.get hi) hc]
            · exact evNil_ok (hT.get hi) (eq := true) h hc x y w
          · rename_i i hi
            split at h
            · rename_i b1 b2 e1 e2
              simp only [Option.some.injEq, Prod.mk.injEq] at h
              obtain ⟨rfl, rfl⟩ := h
              rw [asB_val e1, asB_val e2]
              simp [SV.val, CV.val, eqG (.inr (.inr (.inr (.inr ⟨_, rfl⟩)))), binOp, eqBool (hT.get hi) hc]
            · exact evNil_ok (hT.get hi) (eq := false) h hc x y w
          · cases h
      simp only [execOp, hR.eval h1, hR.eval h2]
      simp only [Sem.run_bind] at key ⊢
      simp [key]
    · cases h
  · split at h
    · rename_i x u h1
      simp [execOp, hR.eval h1, evUn_ok h w]
    · cases h
  · split at h
    · rename_i x u i j h1 h2 h3
      simp [execOp, hR.eval h1, evConv_ok (hT.get h3) (hT.get h2) h hc w]
    · cases h
  · split at h
    · rename_i fn fi ca _ _ u v h1 h2
      cases h
      have e1 := evs_ok hR h1
      have e2 := evs_ok hR h2
      have e3 : fi.map a.eval = (u.map SV.val).toArray := by apply Array.ext'; simpa using e1
      have e4 : ca.map a.eval = (v.map SV.val).toArray := by apply Array.ext'; simpa using e2
      simp [execOp, Instr.makeFunc, e3, e4, SV.val, CV.val]
    · cases h
  · split at h
    · rename_i u i h1 h2
      simp [execOp, hR.eval h1, evFieldA_ok (hT.get h2) h hc w]
    · cases h
  · split at h
    · rename_i u i h1 h2
      simp [execOp, hR.eval h1, evField_ok (hT.get h2) h hc w]
    · cases h
  · split at h
    · rename_i u v i h1 h2 h3
      split at h
      · rename_i e he
        simp [execOp, hR.eval h1, hR.eval h2, evIdxA_ok (hT.get h3) (hT.get he) h hc w]
      · cases h
    · cases h
  · split at h
    · rename_i u v i h1 h2 h3
      simp [execOp, hR.eval h1, hR.eval h2, evIdx_ok (hT.get h3) h hc w]
    · cases h
  · split at h
    · rename_i x j _ vs h1
      split at h
      · rename_i v hv
        cases h
        have : vs[j]? = some v := by simpa using hv
        simp [execOp, hR.eval h1, SV.val, CV.val, Instr.extract, this]
      · cases h
    · cases h
  · rename_i t parts
    split at h
    · rename_i i hi
      have := bld_ok (hT.get hi) hR h hc w
      simp [execOp, this]
    · cases h
  · split at h
    · rename_i u l hh i h1 h2 h3 h4
      simp [execOp, hR.eval h1, evo_ok hR h2, evo_ok hR h3, evSlc_ok (hT.get h4) (fun x hx => hT.get hx) h hc w]
    · cases h
  · split at h
    · rename_i args tys _ _ x t h1 h2
      split at h
      · rename_i i hi
        have e1 : args.map a.eval = #[x.val] := by apply Array.ext'; simpa using evs_ok hR h1
        have e2 : tys = #[t] := by apply Array.ext'; simpa using h2
        simp [execOp, resolve, invoke, builtin, e1, e2, evLen_ok (hT.get hi) h hc w]
      · cases h
    · cases h
  · split at h
    · rename_i args tys _ _ x t h1 h2
      split at h
      · rename_i i _ a' n' c' hi hs
        simp only [Option.some.injEq, Prod.mk.injEq] at h
        obtain ⟨rfl, rfl⟩ := h
        have e1 : args.map a.eval = #[x.val] := by apply Array.ext'; simpa using evs_ok hR h1
        have e2 : tys = #[t] := by apply Array.ext'; simpa using h2
        rw [slcA_val hs] at e1
        simp [execOp, resolve, invoke, builtin, e1, e2, Builtin.cap_, underlying, (hT.get hi).g_slice hc, goInt, SV.val, CV.val]
      · cases h
    · cases h
  · split at h
    · rename_i args tys _ l h1
      split at h
      · rename_i k z hm
        cases h
        have e1 : args.map a.eval = (l.map SV.val).toArray := by apply Array.ext'; simpa using evs_ok hR h1
        have := mm_ok (P := P) hm tys ty w
        simp at this
        simp [execOp, resolve, invoke, builtin, e1, this, SV.val, CV.val]
      · cases h
    · cases h
  · split at h
    · rename_i args tys _ l h1
      split at h
      · rename_i k z hm
        cases h
        have e1 : args.map a.eval = (l.map SV.val).toArray := by apply Array.ext'; simpa using evs_ok hR h1
        have := mm_ok (P := P) hm tys ty w
        simp at this
        simp [execOp, resolve, invoke, builtin, e1, this, SV.val, CV.val]
      · cases h
    · cases h
  · cases h
end Go.Proofs.Ytfmkpkmhhlakoaa.Sx

/- Sx, part 6: what is to be shown, computed from a function's text; and that it suffices. -/
import Derived.Test.YtfmkpkmhhlakoaaSxe
import Derived.Laws.Sem
set_option linter.unusedVariables false
set_option linter.unusedSimpArgs false
namespace Go.Proofs.Ytfmkpkmhhlakoaa.Sx
open Go

/-- Where one stands: ahead of items, within a region in order, ahead of one operation, within a region that draws its order. -/
inductive Pos where
  | todo (k : List Item)
  | ops (all : Array Oper) (l : List Oper) (k : List Item)
  | op (o : Oper) (p : Pos)
  | any (all : Array Oper) (B : World → Prop) (keep : List (Nat × Res)) (fuel : Nat) (listed : List Bool) (k : List Item)
  | alts (rs : List Nat) (all : Array Oper) (B : World → Prop) (keep : List (Nat × Res)) (fuel : Nat) (listed : List Bool) (k : List Item)
def Pos.k : Pos → List Item
  | .todo k => k
  | .ops _ _ k => k
  | .op _ p => p.k
  | .any _ _ _ _ _ k => k
  | .alts _ _ _ _ _ _ k => k
def base (f : FuncId) : Frame := { (default : Frame) with fn := f, kind := .normal }
def Good (C : Ctx) (cs : List Frame) (k : List Item) (a : Act) (w : World) : Prop :=
  ∃ e w' fr, FinP C.w0 C.I0 C.S0 C.enc C.B C.R e w' ∧ Comes C.P (lone ((base C.f).at a k) cs w) (lone fr cs w') e ∧ fr.fn = C.f ∧ fr.leaving C.P w' e
theorem Good.of {C : Ctx} {cs : List Frame} {k k' : List Item} {a a' : Act} {w w' : World} (h : Good C cs k' a' w') (s : Steps C.P (lone ((base C.f).at a k) cs w) (lone ((base C.f).at a' k') cs w')) : Good C cs k a w := by
  obtain ⟨e, w2, fr, h1, h2, h3⟩ := h
  exact ⟨e, w2, fr, h1, .of_steps s h2, h3⟩
def QQ (C : Ctx) (cs : List Frame) (k : List Item) (e : Exit) (a : Act) (w : World) : Prop := e = .normal ∧ Good C cs k a w
theorem Good.region {C : Ctx} {cs : List Frame} {c : Code} {k : List Item} {a : Act} {w : World} (h : c.wp C.P (QQ C cs k) a w) : Good C cs (.code c :: k) a w := by
  obtain ⟨e, a', w', ⟨rfl, hg⟩, hs⟩ := h (base C.f) k cs
  exact hg.of hs
def SK (B : World → Prop) (keep : List (Nat × Res)) (w : World) : Prop := B w ∧ CellsOK keep w
/-- Operations that may be taken first. -/
def isS : Op → Bool
  | .move _ | .assign _ | .pick .. | .load .. | .nilCheck _ | .binOp .. | .unOp .. | .convert .. | .makeFunc .. | .fieldAddr .. | .field .. | .indexAddr .. | .index .. | .extract .. | .slice .. | .build .. => true
  | .call ⟨.builtin .len, _, _⟩ | .call ⟨.builtin .cap, _, _⟩ | .call ⟨.builtin .min, _, _⟩ | .call ⟨.builtin .max, _, _⟩ => true
  | _ => false
/-- Of a region: what may be taken first is touched by none that does not wait for it. -/
def frB (all : Array Oper) : Bool := Region.noSelect all && (List.range all.size).all fun i => match all[i]? with
  | some o => !isS o.op || (List.range all.size).all fun j => j == i || o.after.any (fun e => Region.binds .any e && e.on == j) || (match all[j]? with | some oj => oj.after.any (fun e => Region.binds .any e && e.on == i) || o.apart all oj | none => true)
  | none => true
def Nx (C : Ctx) (cs : List Frame) : Pos → Act → World → Prop
  | .todo k => Good C cs k
  | .ops all l k => wpList C.P all (QQ C cs k) l
  | .op o p => fun a w => o.wp C.P a w (Nx C cs p) (QQ C cs p.k)
  | .any all B keep fuel listed k => fun a w => SK B keep w ∧ (frB all = true → wpAnyH C.P .any all (QQ C cs k) (SK B keep) fuel listed.toArray a w)
  | .alts rs all B keep fuel listed k => fun a w => frB all = true → ∀ i ∈ rs, wpOp C.P all (QQ C cs k) i (fun a' w' => SK B keep w' ∧ wpAnyH C.P .any all (QQ C cs k) (SK B keep) fuel (listed.set i true).toArray a' w') a w
def At (C : Ctx) (p : Pos) (tm : Tm) (m : Mem) : Prop := ∀ a w cs, Rel C.n tm a → J C m w → Nx C cs p a w
def RetP (C : Ctx) (v : Value) (m : Mem) : Prop := ∀ w, J C m w → FinP C.w0 C.I0 C.S0 C.enc C.B C.R (.returned v) w
/-- The results. -/
def resV (T : Ty) (tm : Tm) (rs : List (Nat × Res)) : List ResultVar → Option (Prop × List SV)
  | [] => some (True, [])
  | .tmp t :: r => match find t tm, resV T tm rs r with | some x, some (c, l) => some (c, x :: l) | _, _ => none
  | .cell p t :: r =>
    match find p tm, tf t T, resV T tm rs r with
    | some (.c (.bp k g o)), some i, some (c, l) => (match evLoad i g o (look k rs) with | some (d, x) => some (d ∧ c, x :: l) | none => none)
    | _, _, _ => none
/-- One result is read. -/
def rdV (tmps : Array Value) : ResultVar → Sem Value
  | .tmp t => pure (tmps.getD t undef)
  | .cell p t => do loadVar t (← asAddr (tmps.getD p undef))
theorem results_rd (fn : Func) (tmps : Array Value) : results fn tmps = (do let vs ← fn.results.mapM (rdV tmps); pure (if h : vs.size = 1 then vs[0] else .tuple vs)) := by
  unfold results
  congr 1
theorem resV_ok {P : Program} {T : Ty} (hT : TyOk P T) {n : Nat} {tm : Tm} {a : Act} (hR : Rel n tm a) {rs : List (Nat × Res)} {w : World} (hC : CellsOK rs w) : ∀ {l : List ResultVar} {c : Prop} {s : List SV}, resV T tm rs l = some (c, s) → c →
    (l.mapM (rdV a.tmps)).run P w = .ok (s.map SV.val) w
  | [], c, s, h, hc => by
    simp only [resV, Option.some.injEq, Prod.mk.injEq] at h
    obtain ⟨rfl, rfl⟩ := h
    simp
  | .tmp t :: r, c, s, h, hc => by
    simp only [resV] at h
    split at h
    · rename_i x c' l h1 h2
      simp only [Option.some.injEq, Prod.mk.injEq] at h
      obtain ⟨rfl, rfl⟩ := h
      have ih := resV_ok hT hR hC h2 hc
      have hg := hR.get t x h1
      have h0 : (rdV a.tmps (.tmp t)).run P w = .ok x.val w := by simp [rdV, hg]
      simp only [List.mapM_cons, Sem.run_bind, h0, Sem.run_pure, Result.andThen_ok, ih, List.map_cons]
    · cases h
  | .cell p t :: r, c, s, h, hc => by
    simp only [resV] at h
    split at h
    · rename_i k g o i c' l h1 h2 h3
      split at h
      · rename_i d x he
        simp only [Option.some.injEq, Prod.mk.injEq] at h
        obtain ⟨rfl, rfl⟩ := h
        have ih := resV_ok hT hR hC h3 hc.2
        have hl := evLoad_ok (hT.get h2) hC he hc.1
        have hg := hR.get p _ h1
        have hg' : a.tmps.getD p undef = .pointer (some ⟨g, o, none⟩) := by simp [hg, SV.val, CV.val]
        have h0 : (rdV a.tmps (.cell p t)).run P w = .ok x.val w := by simp only [rdV, hg', asAddr, Sem.run_bind, Sem.run_pure, Result.andThen_ok, hl]
        simp only [List.mapM_cons, Sem.run_bind, h0, Sem.run_pure, Result.andThen_ok, ih, List.map_cons]
      · cases h
    · cases h
def tupV : List SV → Value
  | [x] => x.val
  | l => .tuple (l.map SV.val).toArray
/-- The parts of a slice that is written out, one by one. -/
def lits (tm : Tm) (sz : Nat) : Nat → List (Nat × Operand) → Option (List CV)
  | _, [] => some []
  | j, (i, x) :: r => if i = j then (match ev tm x, lits tm sz (j + 1) r with | some s, some l => if (cellsOf s).length = sz then some (cellsOf s ++ l) else none | _, _ => none) else none
def rdyA (all : Array Oper) (listed : List Bool) : Nat → Nat → List Nat
  | 0, _ => []
  | n + 1, i => if !listed.getD i true && ((all[i]?).map (·.after.all fun e => !Region.binds .any e || listed.getD e.on false)).getD false then i :: rdyA all listed n (i + 1) else rdyA all listed n (i + 1)
def allR (f : Nat → Prop) : List Nat → Prop
  | [] => True
  | i :: r => f i ∧ allR f r
def keepB (rs : List (Nat × Res)) : List (Nat × Res) → Prop
  | [] => True
  | (k, r) :: t => look k rs = some r ∧ keepB rs t
inductive GV where
  | yes
  | no
  | if_ (d : Nat) (b want : Bool)
  | lost
def gvL : Bool → Bool → GV
  | true, true => .yes
  | false, false => .yes
  | _, _ => .no
def guardV (all : Array Oper) (tm : Tm) : Option (Nat × Bool) → GV
  | none => .yes
  | some (j, want) =>
    match (all[j]?).bind (·.dst) with
    | none => .lost
    | some d =>
      match find d tm with
      | some (.c (.v (.bool b))) => gvL b want
      | some (.c (.b b)) => .if_ d b want
      | some (.c (.v (.tuple _))) => .no
      | _ => .lost
/-- What a test has told of a slot. -/
def setO (c : Operand) (b : Bool) (tm : Tm) : Tm :=
  match c with
  | .tmp t => (t, .c (.v (.bool b))) :: tm
  | _ => tm
theorem Rel.same {n : Nat} {tm : Tm} {a : Act} (h : Rel n tm a) {t : Nat} {x y : SV} (hx : find t tm = some x) (e : x.val = y.val) : Rel n ((t, y) :: tm) a := by
  refine ⟨h.size, h.defers, fun u z hz => ?_⟩
  simp only [find] at hz
  by_cases hu : u = t
  · subst hu
    rw [if_pos rfl] at hz
    cases hz
    rw [← e]
    exact h.get _ _ hx
  · rw [if_neg hu] at hz
    exact h.get _ _ hz
theorem Rel.setO {n : Nat} {tm : Tm} {a : Act} (h : Rel n tm a) {c : Operand} {b : Bool} (hc : ev tm c = some (.c (.b b))) : Rel n (setO c b tm) a := by
  unfold Sx.setO
  split
  · exact h.same hc rfl
  · exact h
/-- The first of some operations that may be taken first (those without a guard). -/
def simp1 (T : Ty) (tm : Tm) (keep : List (Nat × Res)) (all : Array Oper) : List Nat → Option (Nat × Option Tmp × Prop × SV)
  | [] => none
  | i :: r =>
    match all[i]? with
    | none => simp1 T tm keep all r
    | some o =>
      match guardV all tm o.guard with
      | .yes => (match evOp T tm keep o.op with | some (c, x) => some (i, o.dst, c, x) | none => simp1 T tm keep all r)
      | .no => (match isS o.op with | true => some (i, o.dst, True, .c (.v undef)) | false => simp1 T tm keep all r)
      | _ => simp1 T tm keep all r
/-- The same, of one operation. -/
def simpO (T : Ty) (tm : Tm) (keep : List (Nat × Res)) (all : Array Oper) (i : Nat) : Option (Nat × Option Tmp × Prop × SV) :=
  match all[i]? with
  | none => none
  | some o =>
    match guardV all tm o.guard with
    | .yes => (match evOp T tm keep o.op with | some (c, x) => some (i, o.dst, c, x) | none => none)
    | .no => (match isS o.op with | true => some (i, o.dst, True, .c (.v undef)) | false => none)
    | _ => none
/-- The first one that may be taken, and may be taken first. -/
def scan (T : Ty) (tm : Tm) (keep : List (Nat × Res)) (all : Array Oper) (listed : List Bool) : List Bool → Nat → Option (Nat × Option Tmp × Prop × SV)
  | [], _ => none
  | true :: r, i => scan T tm keep all listed r (i + 1)
  | false :: r, i => if ((all[i]?).map (·.after.all fun e => !Region.binds .any e || listed.getD e.on false)).getD false then (match simpO T tm keep all i with | some r => some r | none => scan T tm keep all listed r (i + 1)) else scan T tm keep all listed r (i + 1)
/-- A test that an operation waits for, and that is not told yet. -/
def gsp (all : Array Oper) (tm : Tm) : List Nat → Option (Nat × Bool)
  | [] => none
  | i :: r =>
    match all[i]? with
    | none => gsp all tm r
    | some o => (match guardV all tm o.guard with | .if_ d b _ => some (d, b) | _ => gsp all tm r)
theorem guardV_if0 {all : Array Oper} {tm : Tm} {g : Option (Nat × Bool)} {d : Nat} {b want : Bool} (h : guardV all tm g = .if_ d b want) : find d tm = some (.c (.b b)) := by
  unfold guardV at h
  split at h
  · cases h
  · split at h
    · cases h
    · split at h
      · unfold gvL at h
        split at h <;> cases h
      · rename_i hx
        cases h
        exact hx
      · cases h
      · cases h
theorem gsp_ok {all : Array Oper} {tm : Tm} {d : Nat} {b : Bool} : ∀ {rs : List Nat}, gsp all tm rs = some (d, b) → find d tm = some (.c (.b b))
  | [], h => by cases h
  | i :: r, h => by
    simp only [gsp] at h
    split at h
    · exact gsp_ok h
    · split at h
      · rename_i hg
        cases h
        exact guardV_if0 hg
      · exact gsp_ok h
theorem upd_app (o : Nat) (l : List CV) : ∀ (cs r : List CV), o + l.length ≤ cs.length → upd (cs ++ r) o l = upd cs o l ++ r := by
  induction l generalizing o with
  | nil => exact fun _ _ _ => rfl
  | cons x q ih =>
    intro cs r h
    simp only [List.length_cons] at h
    rw [upd, upd, List.set_append_left _ _ (by omega), ih _ _ _ (by simp; omega)]
/-- A row of one's own is written. -/
theorem row_store {P : Program} {t : TypeId} {i : TI} (h : TIok P t i) {w : World} {S : Nat → Prop} {g n c o sz : Nat} {T : TypeId} {cs : List CV} (hr : (Res.row (some ⟨g, 0, none⟩) n c T sz cs).holds S w) (s : SV) (hl : (cellsOf s).length = i.sz) (ho : o + i.sz ≤ cs.length) (h1 : ones (cellsOf s)) :
    ∃ w', (storeVar t ⟨g, o, none⟩ s.val).run P w = .ok () w' ∧ Ext (fun b => b ≠ g) w w' ∧ w'.ownsRow 0 T sz (.slice (some ⟨g, 0, none⟩) n c) n ((upd cs o (cellsOf s)).map CV.val) ∧ g < w'.heap.size := by
  obtain ⟨_, h2, h3⟩ := hr
  rcases h3 with ⟨h3, _⟩ | ⟨g', cap, cur, hv, _, hg, hn, hc, hs, ht⟩
  · cases h3
  · obtain ⟨rfl, rfl⟩ : g = g' ∧ c = cap := by simpa using hv
    have hcur : cur = ((cs ++ (cur.toList.drop (n * sz)).map CV.v).map CV.val).toArray := by
      apply Array.ext'
      simp only [List.map_append, List.map_map]
      rw [← ht, show (CV.val ∘ CV.v) = id from rfl, List.map_id, List.take_append_drop]
    rw [hcur] at hg
    obtain ⟨w', k1, k2, k3⟩ := store_run (P := P) (o := o) h hg s hl (by rw [List.length_append]; omega) h1
    rw [upd_app _ _ _ _ (by omega)] at k3
    have hlen : cs.length = n * sz := by simpa using h2
    refine ⟨w', k1, k2, ⟨by simp [upd_length, hlen], .inr ⟨g, c, _, rfl, Nat.zero_le _, k3, hn, hc, ?_, ?_⟩⟩, (Array.getElem?_eq_some_iff.1 k3).1⟩
    · have h5 := congrArg Array.size hcur
      simp only [List.map_append, List.size_toArray, List.length_append, List.length_map, upd_length] at h5 ⊢
      omega
    · simp only [List.map_append]
      rw [List.take_left' (by simp [upd_length, hlen])]
/-- One thing, or the other. -/
def ifb (b : Bool) (A B : Prop) : Prop := (b = true → A) ∧ (b = false → B)
@[congr] theorem ifb_congr {b c : Bool} {A B : Prop} (h : b = c) : ifb b A B = ifb c A B := by rw [h]
theorem ifb_true {A B : Prop} : ifb true A B = A := by simp [ifb]
theorem ifb_false {A B : Prop} : ifb false A B = B := by simp [ifb]
theorem ifb_true' {A B : Prop} : ifb true A B = A := ifb_true
theorem ifb_false' {A B : Prop} : ifb false A B = B := ifb_false
theorem ifb_eq {b : Bool} {A B : Prop} : ifb b A B = ((b = true → A) ∧ (b = false → B)) := rfl
/-- WHAT IS TO BE SHOWN. -/
def sx (T : Ty) (C : Ctx) (res : List ResultVar) : Nat → Pos → Tm → Mem → Prop
  | 0, p, tm, m => At C p tm m
  | n + 1, .todo k, tm, m =>
    match k with
    | .code .skip :: k | .code (.label _) :: k | .inBlock _ :: k => sx T C res n (.todo k) tm m
    | .code (.seq a b) :: k => sx T C res n (.todo (.code a :: .code b :: k)) tm m
    | .code (.block id b) :: k => sx T C res n (.todo (.code b :: .inBlock id :: k)) tm m
    | .code (.exit id) :: k => (match exitTo id k with | some k' => sx T C res n (.todo k') tm m | none => At C (.todo (.code (.exit id) :: k)) tm m)
    | .code (.cond c x y) :: k => (match ev tm c with | some (.c (.v (.bool true))) => sx T C res n (.todo (.code x :: k)) tm m | some (.c (.v (.bool false))) => sx T C res n (.todo (.code y :: k)) tm m | some (.c (.b b)) => ifb b (sx T C res n (.todo (.code x :: k)) (setO c true tm) m) (sx T C res n (.todo (.code y :: k)) (setO c false tm) m) | _ => At C (.todo (.code (.cond c x y) :: k)) tm m)
    | .code (.region _ all false) :: k => sx T C res n (.ops all all.toList k) tm m
    | .code .ret :: k => (match resV T tm m.rs res with | some (c, l) => c ∧ RetP C (tupV l) m | none => At C (.todo (.code .ret :: k)) tm m)
    | [] => (match resV T tm m.rs res with | some (c, l) => c ∧ RetP C (tupV l) m | none => At C (.todo []) tm m)
    | k => At C (.todo k) tm m
  | n + 1, .ops all l k, tm, m =>
    match l with
    | [] => sx T C res n (.todo k) tm m
    | o :: l =>
      match guardV all tm o.guard with
      | .yes => sx T C res n (.op o (.ops all l k)) tm m
      | .no => sx T C res n (.ops all l k) (put C.n o.dst (.c (.v undef)) tm) m
      | .if_ d b want => (b = want → sx T C res n (.op o (.ops all l k)) ((d, .c (.v (.bool want))) :: tm) m) ∧ (b = !want → sx T C res n (.ops all l k) (put C.n o.dst (.c (.v undef)) ((d, .c (.v (.bool !want))) :: tm)) m)
      | .lost => At C (.ops all (o :: l) k) tm m
  | n + 1, .op o p, tm, m =>
    match evOp T tm m.rs o.op with
    | some (c, x) => c ∧ sx T C res n p (put C.n o.dst x tm) m
    | none =>
      match o.op, o.dst with
      | .alloc t, some d =>
        (match tf t T with
        | some i => ∀ g, sx T C res n p (put C.n (some d) (.c (.bp d g 0)) tm) ⟨m.B, m.G, (d, .box g t (i.zero.map .v)) :: del d (del d m.rs)⟩
        | none => At C (.op o p) tm m)
      | .box t x, some d =>
        (match ev tm x with
        | some s => ∀ g, sx T C res n p (put C.n (some d) (.c (.bp d g 0)) tm) ⟨m.B, m.G, (d, .box g t (cellsOf s)) :: del d (del d m.rs)⟩
        | none => At C (.op o p) tm m)
      | .store t x y, none =>
        (match ev tm x, ev tm y, tf t T with
        | some (.c (.bp k g off)), some s, some i =>
          (match look k m.rs with
          | some (.box g' t' cs) => g = g' ∧ (cellsOf s).length = i.sz ∧ off + i.sz ≤ cs.length ∧ ones (cellsOf s) ∧ sx T C res n p tm ⟨m.B, m.G, (k, .box g' t' (upd cs off (cellsOf s))) :: del k (del k m.rs)⟩
          | some (.row (some ⟨g', 0, none⟩) rn rc t' sz cs) => g = g' ∧ (cellsOf s).length = i.sz ∧ off + i.sz ≤ cs.length ∧ ones (cellsOf s) ∧ sx T C res n p tm ⟨m.B, m.G, (k, .row (some ⟨g', 0, none⟩) rn rc t' sz (upd cs off (cellsOf s))) :: del k (del k m.rs)⟩
          | _ => At C (.op o p) tm m)
        | _, _, _ => At C (.op o p) tm m)
      | .buildSlice t len parts, some d =>
        (match tf t T with
        | some i =>
          (match tf i.el T with
          | some e =>
            (match lits tm e.sz 0 parts.toList with
            | some cs => i.kd = 3 ∧ cs.length = len * e.sz ∧ 0 < e.sz ∧ len * e.sz ≤ 16777216 ∧ e.zero.length = e.sz ∧ ∀ g, sx T C res n p (put C.n (some d) (.c (.rw d (some ⟨g, 0, none⟩) len len)) tm) ⟨m.B, m.G, (d, .row (some ⟨g, 0, none⟩) len len i.el e.sz cs) :: del d (del d m.rs)⟩
            | none => At C (.op o p) tm m)
          | none => At C (.op o p) tm m)
        | none => At C (.op o p) tm m)
      | _, _ => At C (.op o p) tm m
  | n + 1, .any all B keep fu listed k, tm, m =>
    (∀ W, m.B W → B W) ∧ keepB m.rs keep ∧
    (match scan T tm keep all listed listed 0 with
    | some (i, d, c, x) => (match fu with | 0 => False | fu + 1 => c ∧ sx T C res n (.any all B keep fu (listed.set i true) k) (put C.n d x tm) m)
    | none =>
      match rdyA all listed all.size 0 with
      | [] => sx T C res n (.todo k) tm m
      | rs =>
        match gsp all tm rs with
        | some (d, b) => ifb b (sx T C res n (.any all B keep fu listed k) ((d, .c (.v (.bool true))) :: tm) m) (sx T C res n (.any all B keep fu listed k) ((d, .c (.v (.bool false))) :: tm) m)
        | none =>
          match fu with
          | 0 => False
          | fu + 1 => sx T C res n (.alts rs all B keep fu listed k) tm m)
  | n + 1, .alts rs all B keep fu listed k, tm, m =>
    match rs with
    | [] => True
    | i :: r =>
      (match all[i]? with
      | none => False
      | some o =>
        match guardV all tm o.guard with
        | .yes => sx T C res n (.op o (.any all B keep fu (listed.set i true) k)) tm m
        | .no => sx T C res n (.any all B keep fu (listed.set i true) k) (put C.n o.dst (.c (.v undef)) tm) m
        | .if_ d b want => (b = want → sx T C res n (.op o (.any all B keep fu (listed.set i true) k)) ((d, .c (.v (.bool want))) :: tm) m) ∧ (b = !want → sx T C res n (.any all B keep fu (listed.set i true) k) (put C.n o.dst (.c (.v undef)) ((d, .c (.v (.bool !want))) :: tm)) m)
        | .lost => False) ∧ sx T C res n (.alts r all B keep fu listed k) tm m
section
variable {C : Ctx} {T : Ty} {res : List ResultVar}
theorem At.next {p q : Pos} {tm : Tm} {m : Mem} (h : At C q tm m) (hs : ∀ a w cs, Nx C cs q a w → Nx C cs p a w) : At C p tm m := fun a w cs hR hJ => hs a w cs (h a w cs hR hJ)
/-- Behind an operation that yields a value. -/
theorem op_value {o : Oper} {p : Pos} {tm' : Tm} {m' : Mem} {a : Act} {w w' : World} {cs : List Frame} {v : Value} (h : At C p tm' m') (hr : (execOp a.eval o).run C.P w = .ok (.value v) w') (hR : Rel C.n tm' (a.put o.dst v)) (hJ : J C m' w') : Nx C cs (.op o p) a w := by
  show o.wp C.P a w (Nx C cs p) (QQ C cs p.k)
  unfold Oper.wp
  rw [hr]
  exact h _ _ _ hR hJ
theorem op_skip {o : Oper} {p : Pos} {tm' : Tm} {m' : Mem} {a : Act} {w w' : World} {cs : List Frame} (h : At C p tm' m') (hr : (execOp a.eval o).run C.P w = .ok .skip w') (hR : Rel C.n tm' (a.put o.dst undef)) (hJ : J C m' w') : Nx C cs (.op o p) a w := by
  show o.wp C.P a w (Nx C cs p) (QQ C cs p.k)
  unfold Oper.wp
  rw [hr]
  exact h _ _ _ hR hJ
theorem ret_end {tm : Tm} {m : Mem} {c : Prop} {l : List SV} (hT : TyOk C.P T) (hfn : C.P.funcs[C.f]? = some C.fn) (hres : C.fn.results.toList = res) (h : resV T tm m.rs res = some (c, l)) (hc : c) (hr : RetP C (tupV l) m) {a : Act} {w : World} (hR : Rel C.n tm a) (hJ : J C m w) (k : List Item) (cs : List Frame)
    (hs : Steps C.P (lone ((base C.f).at a k) cs w) (lone { (base C.f).at a k with mode := .returning } cs w)) : Good C cs k a w := by
  refine ⟨.returned (tupV l), w, { (base C.f).at a k with mode := .returning }, hr w hJ, hs, rfl, rfl, hR.defers, rfl, C.fn, hfn, ?_⟩
  have h1 := resV_ok hT hR hJ.ok h hc
  have e : C.fn.results = res.toArray := by rw [← hres]
  rw [results_rd, e, List.mapM_toArray]
  have h2 : (res.mapM (rdV (Frame.tmps { (base C.f).at a k with mode := .returning }))).run C.P w = .ok (l.map SV.val) w := h1
  simp only [Sem.run_bind, Sem.run_map, h2]
  unfold tupV
  split
  · simp
  · rename_i h3
    have : ¬ (l.map SV.val).toArray.size = 1 := by
      intro h4
      match l, h3, h4 with
      | [x], h3, _ => exact h3 x rfl
      | [], _, h4 => simp at h4
      | x :: y :: r, _, h4 => simp at h4
    simp only [Result.andThen_ok, Sem.run_pure, this, dite_false]
theorem wanted_none {all : Array Oper} {o : Oper} {a : Act} (h : o.guard = none) : Region.wanted o (yielded all a.tmps) = true := by simp [Region.wanted, h]
theorem lits_len {tm : Tm} {sz : Nat} : ∀ {l : List (Nat × Operand)} {j : Nat} {cs : List CV}, lits tm sz j l = some cs → cs.length = l.length * sz
  | [], j, cs, h => by cases h; simp
  | (i, x) :: r, j, cs, h => by
    simp only [lits] at h
    split at h
    · split at h
      · rename_i s l h1 h2
        split at h
        · rename_i hs
          cases h
          have := lits_len h2
          simp [this, hs, Nat.add_mul]
          omega
        · cases h
      · cases h
    · cases h
/-- A part is laid into zeros. -/
theorem fill_ok {n : Nat} {tm : Tm} {a : Act} (hR : Rel n tm a) {sz : Nat} (h0 : 0 < sz) : ∀ {l : List (Nat × Operand)} {j : Nat} {cs : List CV}, lits tm sz j l = some cs → ∀ (pre post : List Value), pre.length = j * sz → post.length = l.length * sz →
    Instr.fill (fun i => some (i * sz, sz)) (pre ++ post).toArray (l.map fun x => (x.1, a.eval x.2)) = some (pre ++ cs.map CV.val).toArray
  | [], j, cs, h, pre, post, hp, hq => by
    cases h
    have : post = [] := List.eq_nil_of_length_eq_zero (by simpa using hq)
    simp [Instr.fill, this]
  | (i, x) :: r, j, cs, h, pre, post, hp, hq => by
    simp only [lits] at h
    split at h
    · rename_i hij
      subst hij
      split at h
      · rename_i s l h1 h2
        split at h
        · rename_i hs
          cases h
          have e := hR.eval h1
          have hc := cellsOf_val s
          have hcl : s.val.cells.size = sz := by rw [← Array.length_toList, ← hc]; simpa using hs
          have hq' : post.length = r.length * sz + sz := by simpa [Nat.add_mul] using hq
          have hfold : ∀ (q p2 : List Value) (k : Nat) (pq : List Value), pq.length = i * sz + k → q.length ≤ p2.length →
              ((q.zipIdx k).foldl (fun (cs : Array Value) (c : Value × Nat) => cs.setIfInBounds (i * sz + c.2) c.1) (pq ++ p2).toArray) = (pq ++ q ++ p2.drop q.length).toArray := by
            intro q
            induction q with
            | nil => intro p2 k pq _ _; simp
            | cons y q ih =>
              intro p2 k pq hl hle
              cases p2 with
              | nil => simp at hle
              | cons z p2 =>
                simp only [List.zipIdx_cons, List.foldl_cons]
                have e1 : (pq ++ z :: p2).toArray.setIfInBounds (i * sz + k) y = ((pq ++ [y]) ++ p2).toArray := by
                  rw [← hl]
                  simp [List.setIfInBounds_toArray, List.set_append_right]
                rw [e1, ih p2 (k + 1) (pq ++ [y]) (by simp [hl]; omega) (by simpa using hle)]
                simp
          have hf := hfold s.val.cells.toList post 0 pre (by simpa using hp) (by rw [Array.length_toList, hcl, hq']; omega)
          have hnot : ¬ (s.val.cells.size ≠ sz || i * sz + s.val.cells.size > (pre ++ post).toArray.size) := by
            simp [hcl, hp, hq']
          have ih := fill_ok hR h0 h2 (pre ++ s.val.cells.toList) (post.drop s.val.cells.toList.length) (by simp [hp, hcl, Nat.add_mul]) (by simp [hcl, hq'])
          have hz : s.val.cells.zipIdx = (s.val.cells.toList.zipIdx 0).toArray := by
            apply Array.ext'
            simp
          simp only [List.map_cons, Instr.fill, e]
          rw [if_neg (by simpa using hnot), hz, List.foldl_toArray, hf, ih]
          simp [hc]
        · cases h
      · cases h
    · cases h
theorem rdyA_eq (all : Array Oper) (listed : List Bool) : ∀ n i, rdyA all listed n i = (List.range' i n).filter fun i => !listed.toArray.getD i true && ((all[i]?).map (·.after.all fun e => !Region.binds .any e || listed.toArray.getD e.on false)).getD false
  | 0, i => rfl
  | n + 1, i => by
    have e : ∀ (j : Nat) (b : Bool), listed.toArray.getD j b = listed.getD j b := fun j b => by simp
    simp only [rdyA, List.range'_succ, List.filter_cons, e]
    rw [rdyA_eq all listed n (i + 1)]
    simp only [e]
theorem ready_eq (all : Array Oper) (listed : List Bool) : Region.ready .any all listed.toArray = rdyA all listed all.size 0 := by
  rw [rdyA_eq, Region.ready, List.range_eq_range']
theorem J.atB {C : Ctx} {m : Mem} {w : World} (h : J C m w) : m.B w := by
  obtain ⟨I, F, h⟩ := h
  exact h.base w (Ext.refl _ _)
theorem keepB_look {rs : List (Nat × Res)} : ∀ {l : List (Nat × Res)}, keepB rs l → ∀ k r, look k l = some r → look k rs = some r
  | [], _, k, r, h => by cases h
  | (j, q) :: t, hk, k, r, h => by
    simp only [look] at h
    by_cases e : k = j
    · subst e
      rw [if_pos rfl] at h
      cases h
      exact hk.1
    · rw [if_neg e] at h
      exact keepB_look hk.2 k r h
theorem CellsOK.keep {rs l : List (Nat × Res)} {w : World} (h : CellsOK rs w) (hk : keepB rs l) : CellsOK l w := fun k r g cs hl hr => h k r g cs (keepB_look hk k r hl) hr
theorem simp1_ok {T : Ty} {tm : Tm} {keep : List (Nat × Res)} {all : Array Oper} {i : Nat} {d : Option Tmp} {c : Prop} {x : SV} : ∀ {rs : List Nat}, simp1 T tm keep all rs = some (i, d, c, x) → ∃ o, all[i]? = some o ∧ d = o.dst ∧ i ∈ rs ∧ ((guardV all tm o.guard = .yes ∧ evOp T tm keep o.op = some (c, x)) ∨ (guardV all tm o.guard = .no ∧ isS o.op = true ∧ x = .c (.v undef)))
  | [], h => by cases h
  | j :: r, h => by
    have more : simp1 T tm keep all r = some (i, d, c, x) → ∃ o, all[i]? = some o ∧ d = o.dst ∧ i ∈ j :: r ∧ ((guardV all tm o.guard = .yes ∧ evOp T tm keep o.op = some (c, x)) ∨ (guardV all tm o.guard = .no ∧ isS o.op = true ∧ x = .c (.v undef))) := fun h => by
      obtain ⟨o, h1, h2, h3, h4⟩ := simp1_ok h
      exact ⟨o, h1, h2, List.mem_cons_of_mem _ h3, h4⟩
    simp only [simp1] at h
    split at h
    · exact more h
    · rename_i o ho
      split at h
      · rename_i hg
        split at h
        · rename_i c' x' he
          cases h
          exact ⟨o, ho, rfl, List.mem_cons_self, .inl ⟨hg, he⟩⟩
        · exact more h
      · rename_i hg
        split at h
        · rename_i hs
          cases h
          exact ⟨o, ho, rfl, List.mem_cons_self, .inr ⟨hg, hs, rfl⟩⟩
        · exact more h
      · exact more h
theorem simpO_ok {T : Ty} {tm : Tm} {keep : List (Nat × Res)} {all : Array Oper} {i j : Nat} {d : Option Tmp} {c : Prop} {x : SV} (h : simpO T tm keep all i = some (j, d, c, x)) : j = i ∧ ∃ o, all[i]? = some o ∧ d = o.dst ∧ ((guardV all tm o.guard = .yes ∧ evOp T tm keep o.op = some (c, x)) ∨ (guardV all tm o.guard = .no ∧ isS o.op = true ∧ x = .c (.v undef))) := by
  unfold simpO at h
  split at h
  · cases h
  · rename_i o ho
    split at h
    · rename_i hg
      split at h
      · rename_i c' x' he
        cases h
        exact ⟨rfl, o, ho, rfl, .inl ⟨hg, he⟩⟩
      · cases h
    · rename_i hg
      split at h
      · rename_i hs
        cases h
        exact ⟨rfl, o, ho, rfl, .inr ⟨hg, hs, rfl⟩⟩
      · cases h
    · cases h
theorem scan_ok {T : Ty} {tm : Tm} {keep : List (Nat × Res)} {all : Array Oper} {listed : List Bool} {j : Nat} {d : Option Tmp} {c : Prop} {x : SV} : ∀ {s : List Bool} {i : Nat}, (∀ k : Nat, s[k]? = listed[i + k]?) → scan T tm keep all listed s i = some (j, d, c, x) →
    ∃ o, all[j]? = some o ∧ d = o.dst ∧ j ∈ rdyA all listed all.size 0 ∧ ((guardV all tm o.guard = .yes ∧ evOp T tm keep o.op = some (c, x)) ∨ (guardV all tm o.guard = .no ∧ isS o.op = true ∧ x = .c (.v undef)))
  | [], _, _, h => by cases h
  | true :: r, i, hk, h => scan_ok (s := r) (i := i + 1) (fun k => by have := hk (k + 1); rw [List.getElem?_cons_succ] at this; rw [this]; congr 1; omega) h
  | false :: r, i, hk, h => by
    have next : ∀ k : Nat, r[k]? = listed[i + 1 + k]? := fun k => by have := hk (k + 1); rw [List.getElem?_cons_succ] at this; rw [this]; congr 1; omega
    simp only [scan] at h
    split at h
    · rename_i hr
      split at h
      · rename_i r' hs
        cases h
        obtain ⟨rfl, o, ho, h1, h2⟩ := simpO_ok hs
        refine ⟨o, ho, h1, ?_, h2⟩
        rw [rdyA_eq, List.mem_filter]
        have hl : listed[j]? = some false := by have := hk 0; simpa using this.symm
        refine ⟨by have := (Array.getElem?_eq_some_iff.1 ho).1; simp; omega, ?_⟩
        simp only [Bool.and_eq_true]
        exact ⟨by simp [hl], by simpa using hr⟩
      · exact scan_ok next h
    · exact scan_ok next h
theorem evOp_isS {T : Ty} {tm : Tm} {rs : List (Nat × Res)} {o : Op} {c : Prop} {x : SV} (h : evOp T tm rs o = some (c, x)) : isS o = true := by
  unfold evOp at h
  split at h <;> first | rfl | cases h
theorem frB_sel {all : Array Oper} (h : frB all = true) : Region.noSelect all = true := by
  simp only [frB, Bool.and_eq_true] at h
  exact h.1
theorem frB_free {all : Array Oper} (h : frB all = true) {i : Nat} {o : Oper} (hi : all[i]? = some o) (hs : isS o.op = true) {listed : Array Bool} (hr : i ∈ Region.ready .any all listed) : ∀ j oj, all[j]? = some oj → j ≠ i → listed.getD j true = false → (∀ e ∈ oj.after, Region.binds .any e = true → e.on ≠ i) → o.apart all oj = true := by
  intro j oj hj hne hun hno
  have hlt := (Array.getElem?_eq_some_iff.1 hi).1
  have hjl := (Array.getElem?_eq_some_iff.1 hj).1
  simp only [frB, Bool.and_eq_true, List.all_eq_true, List.mem_range] at h
  have h1 := h.2 i hlt
  simp only [hi, hs, Bool.not_true, Bool.false_or, List.all_eq_true, List.mem_range] at h1
  have h2 := h1 j hjl
  simp only [hj, Bool.or_eq_true, beq_iff_eq, hne, false_or] at h2
  rcases h2 with h2 | h2 | h2
  · obtain ⟨e, he, hb⟩ := Array.any_eq_true'.1 h2
    simp only [Bool.and_eq_true, beq_iff_eq] at hb
    simp only [Region.ready, List.mem_filter, hi, Option.map_some, Option.getD_some, Bool.and_eq_true] at hr
    have h3 := Array.all_eq_true'.1 hr.2.2 e he
    simp only [hb.1, Bool.not_true, Bool.false_or, hb.2] at h3
    rw [Array.getD_eq_getD_getElem?] at h3 hun
    cases hg : listed[j]? with
    | none => rw [hg] at h3; cases h3
    | some b =>
      rw [hg] at h3 hun
      simp at h3 hun
      rw [h3] at hun
      cases hun
  · obtain ⟨e, he, hb⟩ := Array.any_eq_true'.1 h2
    simp only [Bool.and_eq_true, beq_iff_eq] at hb
    exact absurd hb.2 (hno e he hb.1)
  · exact h2
theorem yield_find {all : Array Oper} {n : Nat} {tm : Tm} {a : Act} (hR : Rel n tm a) {j d : Nat} {x : SV} (hd : (all[j]?).bind (·.dst) = some d) (hx : find d tm = some x) : yielded all a.tmps j = match x.val with | .bool b => some b | _ => none := by
  unfold yielded
  rw [hd]
  have := hR.get d x hx
  simp only [Option.bind_some, this]
  cases x.val <;> rfl
theorem gvL_yes {a b : Bool} (h : gvL a b = .yes) : a = b := by cases a <;> cases b <;> first | rfl | cases h
theorem gvL_no {a b : Bool} (h : gvL a b = .no) : a ≠ b := by cases a <;> cases b <;> simp [gvL] at h ⊢
theorem guardV_yes {all : Array Oper} {n : Nat} {tm : Tm} {o : Oper} {a : Act} (hR : Rel n tm a) (h : guardV all tm o.guard = .yes) : Region.wanted o (yielded all a.tmps) = true := by
  unfold guardV at h
  split at h
  · rename_i hg
    exact wanted_none hg
  · rename_i j want hg
    split at h
    · cases h
    · rename_i d hd
      split at h
      · rename_i b hb
        have h1 := yield_find hR hd hb
        simp only [SV.val, CV.val] at h1
        simp [Region.wanted, hg, h1, gvL_yes h]
      all_goals cases h
theorem guardV_no {all : Array Oper} {n : Nat} {tm : Tm} {o : Oper} {a : Act} (hR : Rel n tm a) (h : guardV all tm o.guard = .no) : Region.wanted o (yielded all a.tmps) = false := by
  unfold guardV at h
  split at h
  · cases h
  · rename_i j want hg
    split at h
    · cases h
    · rename_i d hd
      split at h
      · rename_i b hb
        have h1 := yield_find hR hd hb
        simp only [SV.val, CV.val] at h1
        simp [Region.wanted, hg, h1, gvL_no h]
      · cases h
      · rename_i vs hb
        have h1 := yield_find hR hd hb
        simp only [SV.val, CV.val] at h1
        simp [Region.wanted, hg, h1]
      · cases h
theorem guardV_if {all : Array Oper} {n : Nat} {tm : Tm} {o : Oper} {a : Act} {d : Nat} {b want : Bool} (hR : Rel n tm a) (h : guardV all tm o.guard = .if_ d b want) : Region.wanted o (yielded all a.tmps) = (b == want) ∧ find d tm = some (.c (.b b)) := by
  unfold guardV at h
  split at h
  · cases h
  · rename_i j w' hg
    split at h
    · cases h
    · rename_i d' hd
      split at h
      · rename_i b' hb
        cases b' <;> cases w' <;> cases h
      · rename_i b' hb
        cases h
        have h1 := yield_find hR hd hb
        simp only [SV.val, CV.val] at h1
        exact ⟨by simp [Region.wanted, hg, h1], hb⟩
      all_goals cases h
theorem J.lit' {C : Ctx} {m : Mem} {w : World} (h : J C m w) (k : Nat) (T sz n : Nat) (cs : List CV) (arr : Array Value) (ha : arr = (cs.map CV.val).toArray) (hn : n ≤ maxLen) (hl : cs.length = n * sz) : J C ⟨m.B, m.G, (k, .row (some ⟨w.heap.size, 0, none⟩) n n T sz cs) :: del k (del k m.rs)⟩ (w.alloc (.cells arr T)) := by
  subst ha
  exact h.lit k T sz n cs hn hl
theorem sx_ok (hT : TyOk C.P T) (hfn : C.P.funcs[C.f]? = some C.fn) (hres : C.fn.results.toList = res) : ∀ (n : Nat) (p : Pos) (tm : Tm) (m : Mem), sx T C res n p tm m → At C p tm m := by
  intro n
  induction n with
  | zero => exact fun p tm m h => h
  | succ n ih =>
    intro p tm m h
    cases p with
    | todo k =>
      unfold sx at h
      split at h
      · exact (ih _ _ _ h).next fun a w cs hg => Good.of hg (.one step_skip)
      · exact (ih _ _ _ h).next fun a w cs hg => Good.of hg (.one step_label)
      · exact (ih _ _ _ h).next fun a w cs hg => Good.of hg (.one step_inBlock)
      · exact (ih _ _ _ h).next fun a w cs hg => Good.of hg (.one step_seq)
      · exact (ih _ _ _ h).next fun a w cs hg => Good.of hg (.one step_block)
      · split at h
        · rename_i k' he
          exact (ih _ _ _ h).next fun a w cs hg => Good.of hg (.one (step_exit he))
        · exact h
      · split at h
        · rename_i hb
          intro a w cs hR hJ
          have hc := hR.eval hb
          exact Good.of (ih _ _ _ h a w cs hR hJ) (.one (by simpa using step_cond hc))
        · rename_i hb
          intro a w cs hR hJ
          have hc := hR.eval hb
          exact Good.of (ih _ _ _ h a w cs hR hJ) (.one (by simpa using step_cond hc))
        · rename_i b hb
          intro a w cs hR hJ
          have hc := hR.eval hb
          cases b with
          | true => exact Good.of (ih _ _ _ (And.left (show _ ∧ _ from h) rfl) a w cs (hR.setO hb) hJ) (.one (by simpa using step_cond hc))
          | false => exact Good.of (ih _ _ _ (And.right (show _ ∧ _ from h) rfl) a w cs (hR.setO hb) hJ) (.one (by simpa using step_cond hc))
        · exact h
      · rename_i id all k
        intro a w cs hR hJ
        exact Good.region (wp_region_list (ih _ _ _ h a w cs hR hJ))
      · split at h
        · rename_i c l hr
          exact fun a w cs hR hJ => ret_end hT hfn hres hr h.1 h.2 hR hJ _ cs (.one step_ret)
        · exact h
      · split at h
        · rename_i c l hr
          exact fun a w cs hR hJ => ret_end hT hfn hres hr h.1 h.2 hR hJ _ cs (.one step_end)
        · exact h
      · exact h
    | ops all l k =>
      unfold sx at h
      split at h
      · exact (ih _ _ _ h).next fun a w cs hg => ⟨rfl, hg⟩
      · rename_i o l
        have hop : ∀ tm, sx T C res n (.op o (.ops all l k)) tm m → ∀ a w cs, Rel C.n tm a → J C m w → Region.wanted o (yielded all a.tmps) = true → Nx C cs (.ops all (o :: l) k) a w := fun tm h a w cs hR hJ hw => by
          have := ih _ _ _ h a w cs hR hJ
          show wpList _ _ _ _ _ _
          unfold wpList
          rw [if_pos hw]
          exact .inl this
        have hsk : ∀ tm, sx T C res n (.ops all l k) (put C.n o.dst (.c (.v undef)) tm) m → ∀ a w cs, Rel C.n tm a → J C m w → Region.wanted o (yielded all a.tmps) = false → Nx C cs (.ops all (o :: l) k) a w := fun tm h a w cs hR hJ hw => by
          have := ih _ _ _ h _ w cs (hR.put o.dst (.c (.v undef))) hJ
          show wpList _ _ _ _ _ _
          unfold wpList
          rw [if_neg (by rw [hw]; decide)]
          exact this
        split at h
        · rename_i hg
          exact fun a w cs hR hJ => hop _ h a w cs hR hJ (guardV_yes hR hg)
        · rename_i hg
          exact fun a w cs hR hJ => hsk _ h a w cs hR hJ (guardV_no hR hg)
        · rename_i d b want hg
          intro a w cs hR hJ
          obtain ⟨hw, hf⟩ := guardV_if hR hg
          by_cases e : b = want
          · exact hop _ (h.1 e) a w cs (hR.same hf (by rw [e]; rfl)) hJ (by rw [hw]; simp [e])
          · have e2 : b = !want := by cases b <;> cases want <;> simp_all
            exact hsk _ (h.2 e2) a w cs (hR.same hf (by rw [e2]; rfl)) hJ (by rw [hw]; simp [e])
        · exact h
    | op o p =>
      unfold sx at h
      split at h
      · rename_i c x he
        exact fun a w cs hR hJ => op_value (ih _ _ _ h.2) (evOp_ok hT hR hJ.ok he h.1) (hR.put _ _) hJ
      · split at h
        · rename_i t d ho hd
          split at h
          · rename_i i hi
            intro a w cs hR hJ
            have ok := hT.get hi
            obtain ⟨z, hz, hc⟩ := ok.g_zeroValue w
            have hzc : z.cells = ((i.zero.map CV.v).map CV.val).toArray := by apply Array.ext'; simp [hc, CV.val]; rw [← hc]; simp [Function.comp_def, CV.val]
            have hJ' := hJ.alloc d t (i.zero.map .v)
            rw [← hzc] at hJ'
            refine op_value (v := .pointer (some ⟨w.heap.size, 0, none⟩)) (ih _ _ _ (h w.heap.size)) ?_ (by rw [hd]; exact hR.put (some d) (.c (.bp d w.heap.size 0))) hJ'
            simp [execOp, ho, Instr.alloc, hz, newVar, newRow, newObj, Sem.run]
          · exact h
        · rename_i t x d ho hd
          split at h
          · rename_i s hs
            intro a w cs hR hJ
            have hzc : s.val.cells = ((cellsOf s).map CV.val).toArray := by apply Array.ext'; rw [cellsOf_val]
            have hJ' := hJ.alloc d t (cellsOf s)
            rw [← hzc] at hJ'
            refine op_value (v := .pointer (some ⟨w.heap.size, 0, none⟩)) (ih _ _ _ (h w.heap.size)) ?_ (by rw [hd]; exact hR.put (some d) (.c (.bp d w.heap.size 0))) hJ'
            simp [execOp, ho, Instr.box, hR.eval hs, newVar, newRow, newObj, Sem.run]
          · exact h
        · rename_i t x y ho hd
          split at h
          · rename_i k g off s i hx hy hi
            split at h
            · rename_i g' t' cs hl
              obtain ⟨rfl, h1, h2, h3, h4⟩ := h
              intro a w cs' hR hJ
              obtain ⟨w', hr, he, hh⟩ := store_run (hT.get hi) (hJ.cells hl) s h1 h2 h3
              refine op_skip (ih _ _ _ h4) (w' := w') ?_ (by rw [hd]; exact hR) (hJ.write hl he hh)
              have e1 := hR.eval hx
              have e2 := hR.eval hy
              simp only [SV.val, CV.val] at e1
              simp [execOp, ho, Instr.storeAt, e1, e2, Instr.sureAddr, hr]
            · rename_i g' rn rc t' sz cs hl
              obtain ⟨rfl, h1, h2, h3, h4⟩ := h
              rintro a w cs' hR ⟨I, F, hJ⟩
              have h0 := hJ.own _ (look_mem hl)
              obtain ⟨w', hr, he, hh, hlt⟩ := row_store (hT.get hi) h0 s h1 h2 h3
              refine op_skip (ih _ _ _ h4) (w' := w') ?_ (by rw [hd]; exact hR) ⟨I, _, hJ.upd k k _ (fun b => b = g) (fun b => b = g) (fun b hb => ⟨(h0.1 b).2 (by rw [hb]; rfl), _, look_mem hl⟩) (he.mono fun b hb => hb.2) ⟨fun b => by simp [Value.ownBlock]; exact ⟨fun h => h.symm, fun h => h.symm⟩, hh⟩ (fun b hb => ⟨by rw [hb]; exact hlt, .inl hb⟩) id⟩
              have e1 := hR.eval hx
              have e2 := hR.eval hy
              simp only [SV.val, CV.val] at e1
              simp [execOp, ho, Instr.storeAt, e1, e2, Instr.sureAddr, hr]
            · exact h
          · exact h
        · rename_i t len parts d ho hd
          split at h
          · rename_i i hi
            split at h
            · rename_i e he
              split at h
              · rename_i cs hcs
                obtain ⟨hk, hl, h0, hs, hz, h⟩ := h
                intro a w cs' hR hJ
                have hu := (hT.get hi).g_slice hk
                have hlen := lits_len hcs
                have hle : parts.toList.length = len := by
                  have := hl.symm.trans hlen
                  exact (Nat.eq_of_mul_eq_mul_right h0 this).symm
                obtain ⟨z, hzr, hzc⟩ := (hT.get he).g_zeroValue w
                have hzs : z.cells.size = e.sz := by rw [← hz, ← hzc, Array.length_toList]
                have hf := fill_ok hR h0 hcs [] ((List.range (len * e.sz)).map fun j => z.cells[j % z.cells.size]!) (by simp) (by simp [hle])
                have hn : len ≤ maxLen := by
                  have : len * 1 ≤ len * e.sz := Nat.mul_le_mul_left len h0
                  unfold maxLen
                  omega
                refine op_value (v := .slice (some ⟨w.heap.size, 0, none⟩) len len) (w' := w.alloc (.cells (cs.map CV.val).toArray i.el)) (ih _ _ _ (h w.heap.size)) ?_ (by rw [hd]; exact hR.put (some d) (.c (.rw d (some ⟨w.heap.size, 0, none⟩) len len))) (hJ.lit d i.el e.sz len cs hn hl)
                have hnb : ¬ (len * e.sz > 2 ^ 24) := by omega
                have hpm : (parts.map fun x => (x.1, a.eval x.2)).toList = parts.toList.map fun x => (x.1, a.eval x.2) := by simp
                simp only [List.nil_append] at hf
                have hrange : ((Array.range (len * e.sz)).map fun j => z.cells[j % z.cells.size]!) = ((List.range (len * e.sz)).map fun j => z.cells[j % z.cells.size]!).toArray := by
                  apply Array.ext'
                  simp
                have hz2 := (hT.get he).g_sizeOf (P := C.P)
                have hpe : ∀ (q : Array (Nat × Value)), q.toList = parts.toList.map (fun x => (x.1, a.eval x.2)) → (Instr.buildSlice t len q).run C.P w = .ok (.slice (some ⟨w.heap.size, 0, none⟩) len len) (w.alloc (.cells (cs.map CV.val).toArray i.el)) := by
                  intro q hq
                  unfold Instr.buildSlice
                  rw [hq]
                  rcases Nat.eq_zero_or_pos (len * e.sz) with h5 | h5
                  · have hl0 : len = 0 := by
                      rcases Nat.mul_eq_zero.1 h5 with h6 | h6
                      · exact h6
                      · omega
                    have hp0 : parts.toList = [] := List.eq_nil_of_length_eq_zero (by omega)
                    have hc0 : cs = [] := List.eq_nil_of_length_eq_zero (by omega)
                    subst hl0
                    simp [underlying, hu, hz2, hp0, hc0, Instr.fill, newRow, newObj, Sem.run]
                    congr 2
                    apply Array.ext'
                    simp
                  · have h6 : ¬ (len * e.sz = 0) := by omega
                    simp only [underlying, Sem.run_bind, hz2, hnb, h6, if_false, hzr, hrange, hf]
                    simp [hu, hz2, hnb, h6, hzr, hrange, hf, newRow, newObj, Sem.run]
                simp [execOp, ho, hpe _ hpm]
              · exact h
            · exact h
          · exact h
        · exact h
    | any all B keep fu listed k =>
      unfold sx at h
      obtain ⟨hB, hK, h⟩ := h
      have hSK : ∀ w, J C m w → SK B keep w := fun w hJ => ⟨hB w hJ.atB, hJ.ok.keep hK⟩
      split at h
      · rename_i i d c x hs
        obtain ⟨o, hi, rfl, hmem, hs⟩ := scan_ok (fun k => by rw [Nat.zero_add]) hs
        split at h
        · exact h.elim
        · rename_i fu
          intro a w cs hR hJ
          refine ⟨hSK w hJ, fun hf => ?_⟩
          have hn := ih _ _ _ h.2 _ w cs (hR.put o.dst x) hJ
          have hy : YieldsIf C.P all (SK B keep) o x.val a := by
            rcases hs with ⟨hg, he⟩ | ⟨hg, _, rfl⟩
            · exact .inl ⟨guardV_yes hR hg, fun w' hS => evOp_ok hT hR hS.2 he h.1⟩
            · exact .inr ⟨guardV_no hR hg, rfl⟩
          have hsS : isS o.op = true := by
            rcases hs with ⟨_, he⟩ | ⟨_, h1, _⟩
            · exact evOp_isS he
            · exact h1
          refine wpAnyH_first hi (Region.noSelect_spec (frB_sel hf)) (fun c a w hq => by cases hq.1) fu _ a w (frB_free hf hi hsS (by rw [ready_eq]; exact hmem)) (by rw [ready_eq]; exact hmem) hy (hSK w hJ) ?_
          rw [List.setIfInBounds_toArray]
          exact hn.2 hf
      · split at h
        · rename_i hr
          intro a w cs hR hJ
          refine ⟨hSK w hJ, fun hf => wpAnyH_done (by rw [ready_eq]; exact hr) ⟨rfl, ih _ _ _ h a w cs hR hJ⟩ _⟩
        · rename_i rs hne
          split at h
          · rename_i d b hg
            have hfd := gsp_ok hg
            intro a w cs hR hJ
            cases b with
            | true => exact ih _ _ _ (And.left (show _ ∧ _ from h) rfl) a w cs (hR.same hfd rfl) hJ
            | false => exact ih _ _ _ (And.right (show _ ∧ _ from h) rfl) a w cs (hR.same hfd rfl) hJ
          · split at h
            · exact h.elim
            · rename_i fu
              intro a w cs hR hJ
              refine ⟨hSK w hJ, fun hf => ?_⟩
              have hn := ih _ _ _ h a w cs hR hJ hf
              refine ⟨fun h0 => absurd (ready_eq all listed ▸ h0) (fun e => hne e), fun i hi => ?_⟩
              rw [List.setIfInBounds_toArray]
              exact hn i (by rw [← ready_eq]; exact hi)
    | alts rs all B keep fu listed k =>
      unfold sx at h
      split at h
      · exact fun a w cs hR hJ hf i hi => by cases hi
      · rename_i i r
        obtain ⟨h1, h2⟩ := h
        intro a w cs hR hJ hf j hj
        rcases List.mem_cons.1 hj with rfl | hj
        · split at h1
          · exact h1.elim
          · rename_i o ho
            have hyes : ∀ tm, Rel C.n tm a → sx T C res n (.op o (.any all B keep fu (listed.set j true) k)) tm m → Region.wanted o (yielded all a.tmps) = true → wpOp C.P all (QQ C cs k) j (fun a' w' => SK B keep w' ∧ wpAnyH C.P .any all (QQ C cs k) (SK B keep) fu (listed.set j true).toArray a' w') a w := fun tm hR h hw => by
              have hn := ih _ _ _ h a w cs hR hJ
              unfold wpOp
              simp only [ho, hw, if_true]
              exact .inl (Oper.wp_mono (fun a' w' hk => ⟨hk.1, hk.2 hf⟩) hn)
            have hno : ∀ tm, Rel C.n tm a → sx T C res n (.any all B keep fu (listed.set j true) k) (put C.n o.dst (.c (.v undef)) tm) m → Region.wanted o (yielded all a.tmps) = false → wpOp C.P all (QQ C cs k) j (fun a' w' => SK B keep w' ∧ wpAnyH C.P .any all (QQ C cs k) (SK B keep) fu (listed.set j true).toArray a' w') a w := fun tm hR h hw => by
              have hn := ih _ _ _ h _ w cs (hR.put o.dst (.c (.v undef))) hJ
              unfold wpOp
              simp only [ho, hw, Bool.false_eq_true, if_false]
              exact ⟨hn.1, hn.2 hf⟩
            split at h1
            · rename_i hg
              exact hyes _ hR h1 (guardV_yes hR hg)
            · rename_i hg
              exact hno _ hR h1 (guardV_no hR hg)
            · rename_i d b want hg
              obtain ⟨hw, hfd⟩ := guardV_if hR hg
              by_cases e : b = want
              · exact hyes _ (hR.same hfd (by rw [e]; rfl)) (h1.1 e) (by rw [hw]; simp [e])
              · have e2 : b = !want := by cases b <;> cases want <;> simp_all
                exact hno _ (hR.same hfd (by rw [e2]; rfl)) (h1.2 e2) (by rw [hw]; simp [e])
            · exact h1.elim
        · exact ih _ _ _ h2 a w cs hR hJ hf j hj
end
end Go.Proofs.Ytfmkpkmhhlakoaa.Sx

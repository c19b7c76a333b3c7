/- Sx, part 7: the rules: entering, calls, loops, regions in any order, appending, loading, returning. -/
import Derived.Test.YtfmkpkmhhlakoaaSxf
import Derived.Test.YtfmkpkmhhlakoaaApp
set_option linter.unusedVariables false
set_option linter.unusedSimpArgs false
namespace Go.Proofs.Ytfmkpkmhhlakoaa.Sx
open Go

def callB (P : Program) (f : FuncId) : Bool := match P.funcs[f]? with | some fn => fn.body.isSome && !(fn.name == "runtime.NumGoroutine") | none => false
theorem callB_run {P : Program} {f : FuncId} (h : callB P f = true) (args : Array Value) (w : World) : (callFunc f args).run P w = .ok (.enter f args) w := by
  unfold callB at h
  split at h
  · rename_i fn hf
    simp only [Bool.and_eq_true, Bool.not_eq_true'] at h
    have hb : ¬ fn.body = none := by cases hb : fn.body <;> simp_all
    have hne : ¬ fn.name = "runtime.NumGoroutine" := by simpa using h.2
    unfold callFunc
    simp [hf, hne, hb]
  · cases h
/-- A contract: whatever a call is lent (S), it hands back; what it may read lies in I. -/
def Fits (P : Program) (f : FuncId) (args : Array Value) (w : World) (I S : Nat → Prop) {α : Type} (enc : α → Value) (B : α → (Nat → Prop) → World → Prop) (R : α → World → Prop) : Prop := callB P f = true ∧ Calls P f args w (FinP w I S enc B R)
/-- The contract of a function that only reads, and makes: it hands back some 'enc x', of which R is known. -/
abbrev Fn0 (P : Program) (f : FuncId) (args : Array Value) (w : World) (I : Nat → Prop) {α : Type} (enc : α → Value) (R : α → World → Prop) : Prop := Fits P f args w I noS enc noB R
/-- That a table, a function's text and its results belong together. -/
structure Okc (P : Program) (T : Ty) (C : Ctx) (res : List ResultVar) : Prop where
  P : C.P = P
  ty : TyOk C.P T
  fn : C.P.funcs[C.f]? = some C.fn
  res : C.fn.results.toList = res
theorem Okc.sx {P : Program} {T : Ty} {C : Ctx} {res : List ResultVar} (h : Okc P T C res) {n : Nat} {p : Pos} {tm : Tm} {m : Mem} (k : sx T C res n p tm m) : At C p tm m := sx_ok h.ty h.fn h.res n p tm m k
def argsT : Nat → List SV → Tm
  | _, [] => []
  | j, x :: r => (j, x) :: argsT (j + 1) r
theorem argsT_find : ∀ (l : List SV) (j t : Nat) (x : SV), find t (argsT j l) = some x → ∃ i, t = j + i ∧ l[i]? = some x
  | [], j, t, x, h => by cases h
  | y :: r, j, t, x, h => by
    simp only [argsT, find] at h
    by_cases e : t = j
    · rw [if_pos e] at h
      cases h
      exact ⟨0, by omega, rfl⟩
    · rw [if_neg e] at h
      obtain ⟨i, h1, h2⟩ := argsT_find r (j + 1) t x h
      exact ⟨i + 1, by omega, by simpa using h2⟩
theorem enterJ {P : Program} {f : FuncId} {fn : Func} {c : Code} {T : Ty} {res : List ResultVar} {n : Nat} {svs : List SV} {w : World} {I S : Nat → Prop} {α : Type} {enc : α → Value} {B : α → (Nat → Prop) → World → Prop} {R : α → World → Prop} {m : Mem} (hT : TyOk P T) (hf : P.funcs[f]? = some fn) (hb : fn.body = some c) (hn : fn.ntmps = n) (hr : fn.results = res.toArray) (hc : callB P f = true)
    (hl : svs.length ≤ n) (hJ : J ⟨P, f, fn, n, w, I, S, α, enc, B, R⟩ m w) (h : ∀ C : Ctx, C = ⟨P, f, fn, n, w, I, S, α, enc, B, R⟩ → C.n = n → Okc P T C res → sx T C res 1000 (.todo [.code c]) (argsT 0 svs) m) : Fits P f (svs.map SV.val).toArray w I S enc B R := by
  refine ⟨hc, fun cs => ?_⟩
  have ok : Okc P T ⟨P, f, fn, n, w, I, S, α, enc, B, R⟩ res := ⟨rfl, hT, hf, by rw [hr]⟩
  have h1 := ok.sx (h _ rfl rfl ok)
  have hR : Rel n (argsT 0 svs) { tmps := (svs.map SV.val).toArray ++ Array.replicate (n - (svs.map SV.val).toArray.size) undef, defers := [] } := by
    refine ⟨by simp; omega, rfl, fun t x hx => ?_⟩
    obtain ⟨i, rfl, hi⟩ := argsT_find _ _ _ _ hx
    have hlt := (List.getElem?_eq_some_iff.1 hi).1
    rw [Array.getElem?_append_left (by simpa using hlt)]
    simp [hi]
  obtain ⟨e, w', fr, h2, h3, h4, h5⟩ := h1 _ w cs hR hJ
  have henter : Frame.enter P f (svs.map SV.val).toArray .normal = (base f).at { tmps := (svs.map SV.val).toArray ++ Array.replicate (n - (svs.map SV.val).toArray.size) undef, defers := [] } [.code c] := by
    simp [Frame.enter, Frame.at, hf, hb, base, hn]
  rw [henter]
  exact ⟨e, w', fr, h2, h3, h4, h5⟩
/-- A function that only reads, and makes. -/
theorem enter {P : Program} {f : FuncId} {fn : Func} {c : Code} {T : Ty} {res : List ResultVar} {n : Nat} {svs : List SV} {w : World} {I : Nat → Prop} {α : Type} {enc : α → Value} {R : α → World → Prop} (hT : TyOk P T) (hf : P.funcs[f]? = some fn) (hb : fn.body = some c) (hn : fn.ntmps = n) (hr : fn.results = res.toArray) (hc : callB P f = true)
    (hl : svs.length ≤ n) (hI : ∀ b, I b → b < w.heap.size) (G : World → Prop) (hG : ∀ W, Ext I w W → G W) (h : ∀ C : Ctx, C = ⟨P, f, fn, n, w, I, noS, α, enc, noB, R⟩ → C.n = n → Okc P T C res → sx T C res 1000 (.todo [.code c]) (argsT 0 svs) ⟨fun _ => True, G, []⟩) : Fn0 P f (svs.map SV.val).toArray w I enc R :=
  enterJ hT hf hb hn hr hc hl ⟨I, fun _ => noS, Ext.refl _ _, hI, fun _ h => h, fun _ h _ => h, fun p hp => (by cases hp), fun p b hp => (by cases hp), fun p q b hp => (by cases hp), fun p b hp => (by cases hp), fun _ _ => trivial, hG⟩ h
def pubs : List (Nat × Res) → World → Prop
  | [], _ => True
  | p :: r, W => p.2.fact W ∧ pubs r W
theorem pubs_of {W : World} : ∀ {l : List (Nat × Res)}, (∀ p, p ∈ l → p.2.fact W) → pubs l W
  | [], _ => trivial
  | p :: r, h => ⟨h p List.mem_cons_self, pubs_of fun q hq => h q (List.mem_cons_of_mem _ hq)⟩
section
variable {P : Program} {C : Ctx} {T : Ty} {res : List ResultVar} {p : Pos} {tm : Tm} {m : Mem}
theorem ret00 {v : Value} (hS : C.S0 = noS) (hB : C.B = noB) (x : C.α) (hv : v = C.enc x) (h : ∀ W, pubs m.rs W → m.G W → C.R x W) : RetP C v m := by
  rintro w ⟨I, F, hi⟩
  refine ⟨x, noS, by rw [hv], hi.grow, fun b hb => hb.elim, by rw [hB]; exact fun b hb => hb, fun W e => h W (pubs_of fun q hq => ?_) (hi.know W (e.mono fun b hb => ⟨?_, fun h => h⟩))⟩
  · refine ((hi.own q hq).ext (e.mono fun b hb => ⟨?_, fun h => h⟩)).fact
    obtain ⟨h1, h2, h3⟩ := hi.Fsz q b hq hb
    refine .inr ⟨?_, h1⟩
    rcases Nat.lt_or_ge b C.w0.heap.size with h4 | h4
    · have := h3 h4
      rw [hS] at this
      exact this.elim
    · exact h4
  · rcases Nat.lt_or_ge b C.w0.heap.size with h4 | h4
    · exact .inl (hi.Iold b hb h4)
    · exact .inr ⟨h4, hi.Isz b hb⟩
theorem ret0 {v : Value} {f : FuncId} {fn : Func} {n : Nat} {w : World} {I : Nat → Prop} {α : Type} {enc : α → Value} {R : α → World → Prop} (hC : C = ⟨P, f, fn, n, w, I, noS, α, enc, noB, R⟩) (x : α) (hv : v = enc x) (h : ∀ W, pubs m.rs W → m.G W → R x W) : RetP C v m := by
  subst hC
  exact ret00 rfl rfl x hv h
/-- A call of a function that only reads, and makes. -/
theorem call0 (ok : Okc P T C res) {o : Oper} {fo : Operand} {args : Array Operand} {tys : Array TypeId} (ho : o.op = .call ⟨.value fo, args, tys⟩) {f : FuncId} (hf : ev tm fo = some (.c (.v (.func (.func f) #[] #[])))) {svs : List SV} (ha : evs tm args.toList = some svs) {α : Type} {enc : α → Value} {R : α → World → Prop}
    (spec : ∀ w I, (∀ b, I b → b < w.heap.size) → (∀ W, Ext I w W → m.G W) → Fn0 P f (svs.map SV.val).toArray w I enc R)
    (k : ∀ x W, R x W → sx T C res 1000 p (put C.n o.dst (.c (nv (enc x))) tm) ⟨m.B, fun W => R x W ∧ m.G W, m.rs⟩) : At C (.op o p) tm m := by
  obtain rfl := ok.P
  rintro a w cs hR ⟨I, F, hi⟩
  obtain ⟨hc, hs⟩ := spec w I hi.Isz hi.know
  show o.wp C.P a w (Nx C cs p) (QQ C cs p.k)
  have e1 : a.eval fo = .func (.func f) #[] #[] := hR.eval hf
  have e2 : args.map a.eval = (svs.map SV.val).toArray := by apply Array.ext'; simpa using evs_ok hR ha
  have hr : (execOp a.eval o).run C.P w = .ok (.enter f (svs.map SV.val).toArray) w := by
    simp [execOp, ho, resolve, e1, e2, Deferred.ofValue, invoke, callB_run hc]
  unfold Oper.wp
  rw [hr]
  refine Calls.mono hs ?_
  rintro e w' ⟨v, S', rfl, hg, hS1, hS2, hP⟩
  have hgr : Ext (fun b => b < w.heap.size) w w' := hg.mono fun b hb => ⟨hb, fun h => h⟩
  have hn : ∀ b, ¬ S' b := hS2
  have hRp := hR.put o.dst (.c (nv (enc v)))
  simp only [SV.val, nv_val] at hRp
  refine ok.sx (k v w' (hP w' (Ext.refl _ _))) _ _ _ hRp ⟨fun b => I b ∨ (w.heap.size ≤ b ∧ b < w'.heap.size), F, hi.grow.trans hgr fun b hb => Nat.lt_of_lt_of_le hb.1 hi.grow.size, ?_, fun b hb => .inl (hi.I0 b hb), ?_, ?_, ?_, hi.disj, hi.new, ?_, ?_⟩
  · rintro b (hb | hb)
    · exact Nat.lt_of_lt_of_le (hi.Isz b hb) hgr.size
    · exact hb.2
  · rintro b (hb | hb) hlt
    · exact hi.Iold b hb hlt
    · have := hi.grow.size; omega
  · exact fun q hq => (hi.own q hq).ext (hgr.mono fun b hb => (hi.Fsz q b hq hb).1)
  · intro q b hq hb
    obtain ⟨h1, h2, h3⟩ := hi.Fsz q b hq hb
    refine ⟨Nat.lt_of_lt_of_le h1 hgr.size, ?_, h3⟩
    rintro (h4 | h4)
    · exact h2 h4
    · omega
  · exact fun W e => hi.base W ((hgr.mono hi.Isz).trans e fun b hb => .inl hb)
  · exact fun W e => ⟨hP W (e.mono fun b hb => hb.1), hi.know W ((hgr.mono hi.Isz).trans e fun b hb => .inl hb)⟩
/-- Something of one's own is given up, ahead of what follows. -/
theorem pub (k : Nat) {r : Res} (hl : look k m.rs = some r) (hk : k < 1000) (h : At C p tm ⟨m.B, fun W => r.fact W ∧ m.G W, del k m.rs⟩) : At C p tm m :=
  fun a w cs hR hJ => h a w cs hR (hJ.pub hl hk)
theorem goon (ok : Okc P T C res) (h : sx T C res 1000 p tm m) : At C p tm m := ok.sx h
/-- A cell that is there whatever else may change lies in what stays. -/
theorem stays {I : Nat → Prop} {w : World} {ad : Addr} (h : ∀ W, Ext I w W → ∃ v, W.cell? ad = some v) : I ad.block := by
  refine Classical.byContradiction fun hn => ?_
  obtain ⟨v, hv⟩ := h w (Ext.refl _ _)
  have hlt := World.block_lt_of_cell? w ad hv
  obtain ⟨u, hu⟩ := h { w with heap := w.heap.setIfInBounds ad.block (.cells #[] 0 (0, 0)) } ⟨rfl, rfl, rfl, by simp, fun b hb => by
    rw [Array.getElem?_setIfInBounds, if_neg (fun e => hn (by rw [e]; exact hb))]⟩
  simp [World.cell?, hlt] at hu
/-- A cell that nobody changes is loaded. -/
theorem load1 (ok : Okc P T C res) {o : Oper} {t : TypeId} {x : Operand} (ho : o.op = .load t x) {ad : Addr} (hx : ev tm x = some (.c (.v (.pointer (some ad))))) {i : TI} (hi : tf t T = some i) (ha : i.agg = false) (Q : Value → World → Prop)
    (h : ∀ W, m.G W → ∃ v, W.cell? ad = some v ∧ Q v W) (k : ∀ v W, Q v W → m.G W → sx T C res 1000 p (put C.n o.dst (.c (nv v)) tm) ⟨m.B, fun W => Q v W ∧ m.G W, m.rs⟩) : At C (.op o p) tm m := by
  rintro a w cs hR ⟨I, F, hJ⟩
  have hst : I ad.block := stays (w := w) fun W e => by
    obtain ⟨v, hv, _⟩ := h W (hJ.know W e)
    exact ⟨v, hv⟩
  have hw : m.G w := hJ.know w (Ext.refl _ _)
  obtain ⟨v, hv, hq⟩ := h w hw
  have hq' : ∀ W, Ext I w W → Q v W := fun W e => by
    obtain ⟨u, hu, hqu⟩ := h W (hJ.know W e)
    have := e.cell hst
    rw [hu, hv] at this
    cases this
    exact hqu
  refine op_value (v := v) (ok.sx (k v w hq hw)) ?_ (by have h2 := hR.put o.dst (.c (nv v)); simpa only [SV.val, nv_val] using h2) ⟨I, F, hJ.learn hq'⟩
  have e1 := hR.eval hx
  simp only [SV.val, CV.val] at e1
  simp [execOp, ho, Instr.loadAt, e1, Instr.sureAddr, load_one (ok.ty.get hi) hv ha, SV.val, CV.val]
/-- A value of several cells that nobody changes is loaded. -/
theorem loadA (ok : Okc P T C res) {o : Oper} {t : TypeId} {x : Operand} (ho : o.op = .load t x) {b off : Nat} (hx : ev tm x = some (.c (.v (.pointer (some ⟨b, off, none⟩))))) {i : TI} (hi : tf t T = some i) (ha : i.agg = true) (Q : List Value → World → Prop)
    (h : ∀ W, m.G W → ∃ l, l.length = i.sz ∧ (∀ j v, l[j]? = some v → W.cell? ⟨b, off + j, none⟩ = some v) ∧ Q l W) (k : ∀ l W, l.length = i.sz → Q l W → m.G W → sx T C res 1000 p (put C.n o.dst (.ag (l.map nv)) tm) ⟨m.B, fun W => Q l W ∧ m.G W, m.rs⟩) : At C (.op o p) tm m := by
  rintro a w cs hR ⟨I, F, hJ⟩
  have hw : m.G w := hJ.know w (Ext.refl _ _)
  obtain ⟨l, hl, hc, hq⟩ := h w hw
  have hq' : ∀ W, Ext I w W → Q l W := fun W e => by
    obtain ⟨l2, hl2, hc2, hq2⟩ := h W (hJ.know W e)
    have : l2 = l := by
      apply List.ext_getElem?
      intro j
      rcases Nat.lt_or_ge j i.sz with hj | hj
      · have e1 : l2[j]? = some (l2[j]'(by omega)) := List.getElem?_eq_getElem _
        have e2 : l[j]? = some (l[j]'(by omega)) := List.getElem?_eq_getElem _
        have hst : I b := stays (w := w) (ad := ⟨b, off + j, none⟩) fun W' e' => by
          obtain ⟨l3, hl3, hc3, _⟩ := h W' (hJ.know W' e')
          exact ⟨_, hc3 j _ (List.getElem?_eq_getElem (by omega))⟩
        have e3 := e.cell (a := ⟨b, off + j, none⟩) hst
        rw [hc j _ e2, hc2 j _ e1] at e3
        rw [e1, e2, e3]
      · rw [List.getElem?_eq_none (by omega), List.getElem?_eq_none (by omega)]
    subst this
    exact hq2
  refine op_value (ok.sx (k l w hl hq hw)) ?_ (hR.put o.dst (.ag (l.map nv))) ⟨I, F, hJ.learn hq'⟩
  have e1 := hR.eval hx
  simp only [SV.val, CV.val] at e1
  have hr := run_loadCellsFrom (P := C.P) (w := w) ⟨b, off, none⟩ (fun j => l.getD j undef) i.sz 0 #[] (fun j hj => by
    rw [addr_add, Nat.zero_add]
    exact hc j _ (by simp [hl, hj]))
  have hr' : (loadCells ⟨b, off, none⟩ i.sz).run C.P w = .ok (l.toArray) w := by
    refine Eq.trans hr ?_
    congr 1
    apply Array.ext
    · simp [hl]
    · intro j h1 h2
      simp at h1 h2
      simp [List.getD, h2]
  have hld : (loadVar t ⟨b, off, none⟩).run C.P w = .ok (.agg l.toArray) w := by
    unfold loadVar
    simp only [Sem.run_bind, (ok.ty.get hi).g_isAgg, ha, Result.andThen_ok, if_true, (ok.ty.get hi).g_sizeOf, hr', Sem.run_pure]
  simp [execOp, ho, Instr.loadAt, e1, Instr.sureAddr, hld, SV.val, nv_val, Function.comp_def]
/-- A region, in whatever order. -/
theorem draw (ok : Okc P T C res) (ks : List (Nat × Res)) {id : Nat} {all : Array Oper} {k : List Item} (hm : C.P.follows .mixedOrders = true) (hf : frB all = true)
    (h : sx T C res 1000 (.any all m.G ks all.size (List.replicate all.size false) k) tm ⟨m.G, m.G, m.rs⟩) : At C (.todo (.code (.region id all true) :: k)) tm m := by
  intro a w cs hR hJ
  have hJ' : J C ⟨m.G, m.G, m.rs⟩ w.drew := by
    obtain ⟨I, F, hi⟩ := hJ.drew
    exact ⟨I, F, hi.grow, hi.Isz, hi.I0, hi.Iold, hi.own, hi.Fsz, hi.disj, hi.new, hi.know, hi.know⟩
  have hn := ok.sx h a w.drew cs hR hJ'
  have := hn.2 hf
  refine Good.region (wp_region_held (S := SK m.G ks) hm ?_)
  simpa using this
/-- The same; none of one's own is written in it. -/
theorem drawK (ok : Okc P T C res) {id : Nat} {all : Array Oper} {k : List Item} (hm : P.follows .mixedOrders = true) (hf : frB all = true)
    (h : sx T C res 1000 (.any all m.G m.rs all.size (List.replicate all.size false) k) tm ⟨m.G, m.G, m.rs⟩) : At C (.todo (.code (.region id all true) :: k)) tm m := draw ok m.rs (by rw [ok.P]; exact hm) hf h
/-- The same; some of one's own is written in it. -/
theorem drawW (ok : Okc P T C res) {id : Nat} {all : Array Oper} {k : List Item} (hm : P.follows .mixedOrders = true) (hf : frB all = true)
    (h : sx T C res 1000 (.any all m.G [] all.size (List.replicate all.size false) k) tm ⟨m.G, m.G, m.rs⟩) : At C (.todo (.code (.region id all true) :: k)) tm m := draw ok [] (by rw [ok.P]; exact hm) hf h
/-- One thing more is appended to a row of one's own (or to none): from a row of one's own (as a written-out one is). -/
theorem grow_row {P : Program} {w : World} {t ty e : TypeId} {ie : TI} (hu : P.underlying t = some (.slice e)) (he : TIok P e ie) (h0 : 0 < ie.sz) (hzl : ie.zero.length = ie.sz) {a : Option Addr} {n c m mc : Nat} {xs news : List Value} (hown : w.ownsRow 0 e ie.sz (.slice a n c) n xs) {ad : Addr} (hl : news.length = m * ie.sz)
    (hnews : ∀ j u, news[j]? = some u → w.cell? (ad.add j) = some u) (h1 : ∀ u ∈ news, u.oneCell' = true) (hm : 0 < m) (hb : (n + m) * ie.bt ≤ 140737488355328) (hmx : n + m ≤ 140737488355328) :
    ∃ g c' w', (Builtin.append_ #[t, t] ty #[.slice a n c, .slice (some ad) m mc]).run P w = .ok (.slice (some ⟨g, 0, none⟩) (n + m) c') w' ∧ w'.ownsRow 0 e ie.sz (.slice (some ⟨g, 0, none⟩) (n + m) c') (n + m) (xs ++ news) ∧
      Ext (fun b => b < w.heap.size ∧ (Value.slice a n c).ownBlock ≠ some b) w w' ∧ ((Value.slice a n c).ownBlock = some g ∨ w.heap.size ≤ g) ∧ g < w'.heap.size := by
  obtain ⟨i, hi, hsz, hbt, z, hz, hzc⟩ := he.g_some
  have hzs : z.cells.size = ie.sz := by rw [← Array.length_toList, hzc, hzl]
  have hml : n + m ≤ maxLen := by unfold maxLen; omega
  have hlen : (xs ++ news).length = (n + m) * ie.sz := by rw [List.length_append, hown.1, hl, Nat.add_mul]
  have grown : ∀ (old : Nat), old < n + m →
      (w.drew.alloc (.cells (xs.toArray ++ news.toArray ++ Builtin.zeroCells z.cells (grownCap w (n + m) old e - (n + m))) e)).ownsRow 0 e ie.sz (.slice (some ⟨w.heap.size, 0, none⟩) (n + m) (grownCap w (n + m) old e)) (n + m) (xs ++ news) := by
    intro old ho
    have hge := grownCap_ge w (n + m) old e
    have hcm : grownCap w (n + m) old e ≤ maxLen := grownCap_le_maxLen w (n + m) old e hml
    refine ⟨hlen, .inr ⟨w.heap.size, _, _, rfl, Nat.zero_le _, heap_alloc_new w.drew _, hge, hcm, ?_, ?_⟩⟩
    · simp only [Array.size_append, List.size_toArray, size_zeroCells, hzs, hown.1, hl, ← Nat.add_mul]
      congr 1
      omega
    · simp only [Array.toList_append, List.append_assoc]
      rw [← List.append_assoc, ← hlen]
      exact List.take_left
  have hext : ∀ (o : Obj) (q : Nat → Prop), Ext (fun b => b < w.heap.size ∧ q b) w (w.drew.alloc o) := fun o q => (Ext.drew _ w).trans (Ext.alloc _ w.drew o fun b hb => hb.1) fun _ hx => hx
  rcases hown.2 with ⟨hv, hn⟩ | ⟨g, cap, cur, hv, _, hg, hnc, hcm, hcs, htake⟩
  · cases hv
    have hx : xs = [] := List.eq_nil_of_length_eq_zero (by simpa using hown.1)
    subst hx
    have hr := run_append_nil (P := P) w t ty e i z hu hi hz ad m mc news (by rw [hsz]; exact hl) hnews (by omega) (by omega) (by have hb := hb; simp only [Nat.zero_add] at hb; rw [hbt]; omega)
    have hgr := grown 0 (by omega)
    simp only [Nat.zero_add, List.nil_append, Array.empty_append] at hgr ⊢
    exact ⟨_, _, _, hr, hgr, hext _ _, .inr (Nat.le_refl _), by simp⟩
  · obtain ⟨rfl, rfl⟩ : a = some ⟨g, 0, none⟩ ∧ c = cap := by simpa using hv
    by_cases hroom : n + m ≤ c
    · have hfit : n * i.size + news.length ≤ cur.size := by rw [hl, hcs, hsz, ← Nat.add_mul]; exact Nat.mul_le_mul_right _ hroom
      have hr := run_append_room (P := P) w t ty e i hu hi g n c cur hg ad m mc news (by rw [hsz]; exact hl) hnews h1 hroom hfit
      have hlt := (Array.getElem?_eq_some_iff.1 hg).1
      refine ⟨g, c, _, hr, ⟨hlen, .inr ⟨g, c, _, rfl, Nat.zero_le _, setRow_heap w g cur _ e _ hg, hroom, hcm, ?_, ?_⟩⟩, ⟨rfl, rfl, rfl, by simp, fun k hk => setRow_other w g k _ (fun e => hk.2 (by simp [Value.ownBlock, e]))⟩, .inl (by simp [Value.ownBlock]), by simp [hlt]⟩
      · rw [hsz] at hfit ⊢
        simp only [List.size_toArray, List.length_append, List.length_take, List.length_drop, Array.length_toList]
        omega
      · rw [hsz, htake, ← hlen]
        exact List.take_left
    · have holds : ∀ j u, xs[j]? = some u → w.cell? ((⟨g, 0, none⟩ : Addr).add j) = some u := hown.cells (g := g) rfl
      have hr := run_append_grow (P := P) w t ty e i z hu hi hz ⟨g, 0, none⟩ n c xs (by rw [hsz]; exact hown.1) holds ad m mc news (by rw [hsz]; exact hl) hnews (by omega) (by omega) (growslice_fits (by omega) (by rw [hbt]; exact hb))
      exact ⟨_, _, _, hr, grown c (by omega), hext _ _, .inr (Nat.le_refl _), by simp⟩
theorem ones_cells : ∀ {l : List CV}, ones l → ∀ u ∈ l.map CV.val, u.oneCell' = true
  | [], _, u, hu => by cases hu
  | x :: r, h, u, hu => by
    rcases List.mem_cons.1 hu with rfl | hu
    · have := h.1
      cases hx : x.val <;> simp_all [one, Value.oneCell']
    · exact ones_cells h.2 u hu
theorem nilr (k : Nat) (e : TypeId) (sz : Nat) (h : At C p tm ⟨m.B, m.G, (k, .row none 0 0 e sz []) :: del k (del k m.rs)⟩) : At C p tm m := fun a w cs hR hJ => h a w cs hR (hJ.nilrow k e sz)
/-- What stands in a row of one's own (k', a written-out one as a rule) is appended to another one (k). -/
theorem appR (ok : Okc P T C res) (k k' : Nat) {o : Oper} {s x : Operand} {t d : Nat} (ho : o.op = .call ⟨.builtin .append, #[s, x], #[t, t]⟩) (hd : o.dst = some d) {i ie : TI} (hi : tf t T = some i) (hik : i.kd = 3) (hie : tf i.el T = some ie) (h0 : 0 < ie.sz) (hzl : ie.zero.length = ie.sz)
    {a : Option Addr} {n c g m' c' : Nat} {cs cs' : List CV} {u v : SV} (hk : look k m.rs = some (.row a n c i.el ie.sz cs)) (hs : ev tm s = some u) (hu : u.val = .slice a n c) (hk' : look k' m.rs = some (.row (some ⟨g, 0, none⟩) m' c' i.el ie.sz cs')) (hx : ev tm x = some v) (hv : v.val = .slice (some ⟨g, 0, none⟩) m' c')
    (hm : 0 < m') (h1 : ones cs') (hb : (n + m') * ie.bt ≤ 140737488355328) (hmx : n + m' ≤ 140737488355328)
    (kk : ∀ g' c'', sx T C res 1000 p (put C.n (some d) (.c (.rw k (some ⟨g', 0, none⟩) (n + m') c'')) tm) ⟨m.B, m.G, (k, .row (some ⟨g', 0, none⟩) (n + m') c'' i.el ie.sz (cs ++ cs')) :: del k (del k m.rs)⟩) : At C (.op o p) tm m := by
  rintro act w cs0 hR ⟨I, F, hJ⟩
  have o1 := hJ.own _ (look_mem hk)
  have o2 := hJ.own _ (look_mem hk')
  have hcl : cs'.length = m' * ie.sz := by simpa using o2.2.1
  obtain ⟨g', c'', w', hr, hown, hext, hblk, hlt⟩ := grow_row (P := C.P) (t := t) (ty := o.type) (ok.ty.get hi |>.g_slice hik) (ok.ty.get hie) h0 hzl o1.2 (ad := ⟨g, 0, none⟩) (mc := c') (news := cs'.map CV.val) (m := m') (by simpa using hcl) (fun j z hz => by
    rw [addr_add, Nat.zero_add]
    have hj : j < cs'.length := by have := (List.getElem?_eq_some_iff.1 hz).1; simpa using this
    rw [holds_cells o2 (g := g) (cs := cs') rfl j hj]
    simp only [List.getElem?_map] at hz
    simp only [List.getD, List.getElem?_eq_getElem hj, Option.map_some, Option.some.injEq] at hz ⊢
    rw [← hz]
    rfl) (ones_cells h1) hm hb hmx
  have e1 : act.eval s = .slice a n c := by rw [hR.eval hs, hu]
  have e2 : act.eval x = .slice (some ⟨g, 0, none⟩) m' c' := by rw [hR.eval hx, hv]
  have hrun : (execOp act.eval o).run C.P w = .ok (.value (.slice (some ⟨g', 0, none⟩) (n + m') c'')) w' := by
    simp [execOp, ho, resolve, invoke, builtin, e1, e2, hr]
  have hup := hJ.upd k k (.row (some ⟨g', 0, none⟩) (n + m') c'' i.el ie.sz (cs ++ cs')) (fun b => (Value.slice a n c).ownBlock = some b) (fun b => b = g') (fun b hb => ⟨(o1.1 b).2 hb, _, look_mem hk⟩) hext ⟨fun b => by simp [Value.ownBlock]; exact ⟨fun h => h.symm, fun h => h.symm⟩, by simpa using hown⟩ (fun b hb => by subst hb; exact ⟨hlt, hblk⟩) id
  have hRp := hR.put (some d) (.c (.rw k (some ⟨g', 0, none⟩) (n + m') c''))
  exact op_value (ok.sx (kk g' c'')) hrun (by rw [hd]; exact hRp) ⟨I, _, hup⟩
/-- What stands in a slice that nobody changes is appended. -/
theorem appI (ok : Okc P T C res) (k : Nat) {o : Oper} {s x : Operand} {t d : Nat} (ho : o.op = .call ⟨.builtin .append, #[s, x], #[t, t]⟩) (hd : o.dst = some d) {i ie : TI} (hi : tf t T = some i) (hik : i.kd = 3) (hie : tf i.el T = some ie) (h0 : 0 < ie.sz) (hzl : ie.zero.length = ie.sz)
    {a : Option Addr} {n c b off m' c' : Nat} {cs : List CV} {u v : SV} (hk : look k m.rs = some (.row a n c i.el ie.sz cs)) (hs : ev tm s = some u) (hu : u.val = .slice a n c) (hx : ev tm x = some v) (hv : v.val = .slice (some ⟨b, off, none⟩) m' c')
    (hm : 0 < m') (hb : (n + m') * ie.bt ≤ 140737488355328) (hmx : n + m' ≤ 140737488355328) (Q : List Value → World → Prop)
    (h : ∀ W, m.G W → ∃ l, l.length = m' * ie.sz ∧ (∀ u ∈ l, u.oneCell' = true) ∧ (∀ j v, l[j]? = some v → W.cell? ⟨b, off + j, none⟩ = some v) ∧ Q l W)
    (kk : ∀ l g' c'' W, Q l W → m.G W → sx T C res 1000 p (put C.n (some d) (.c (.rw k (some ⟨g', 0, none⟩) (n + m') c'')) tm) ⟨m.B, fun W => Q l W ∧ m.G W, (k, .row (some ⟨g', 0, none⟩) (n + m') c'' i.el ie.sz (cs ++ l.map nv)) :: del k (del k m.rs)⟩) : At C (.op o p) tm m := by
  rintro act w cs0 hR ⟨I, F, hJ⟩
  have hw : m.G w := hJ.know w (Ext.refl _ _)
  obtain ⟨l, hl, h1, hc, hq⟩ := h w hw
  have hq' : ∀ W, Ext I w W → Q l W := fun W e => by
    obtain ⟨l2, hl2, _, hc2, hq2⟩ := h W (hJ.know W e)
    have : l2 = l := by
      apply List.ext_getElem?
      intro j
      rcases Nat.lt_or_ge j (m' * ie.sz) with hj | hj
      · have e1 : l2[j]? = some (l2[j]'(by omega)) := List.getElem?_eq_getElem _
        have e2 : l[j]? = some (l[j]'(by omega)) := List.getElem?_eq_getElem _
        have hst : I b := stays (w := w) (ad := ⟨b, off + j, none⟩) fun W' e' => by
          obtain ⟨l3, hl3, _, hc3, _⟩ := h W' (hJ.know W' e')
          exact ⟨_, hc3 j _ (List.getElem?_eq_getElem (by omega))⟩
        have e3 := e.cell (a := ⟨b, off + j, none⟩) hst
        rw [hc j _ e2, hc2 j _ e1] at e3
        rw [e1, e2, e3]
      · rw [List.getElem?_eq_none (by omega), List.getElem?_eq_none (by omega)]
    subst this
    exact hq2
  have o1 := hJ.own _ (look_mem hk)
  obtain ⟨g', c'', w', hr, hown, hext, hblk, hlt⟩ := grow_row (P := C.P) (t := t) (ty := o.type) (ok.ty.get hi |>.g_slice hik) (ok.ty.get hie) h0 hzl o1.2 (ad := ⟨b, off, none⟩) (mc := c') (news := l) (m := m') hl (fun j z hz => by rw [addr_add]; exact hc j z hz) h1 hm hb hmx
  have e1 : act.eval s = .slice a n c := by rw [hR.eval hs, hu]
  have e2 : act.eval x = .slice (some ⟨b, off, none⟩) m' c' := by rw [hR.eval hx, hv]
  have hrun : (execOp act.eval o).run C.P w = .ok (.value (.slice (some ⟨g', 0, none⟩) (n + m') c'')) w' := by
    simp [execOp, ho, resolve, invoke, builtin, e1, e2, hr]
  have hlv : (l.map nv).map CV.val = l := by simp [Function.comp_def, nv_val]
  have hup := hJ.upd k k (.row (some ⟨g', 0, none⟩) (n + m') c'' i.el ie.sz (cs ++ l.map nv)) (fun b => (Value.slice a n c).ownBlock = some b) (fun b => b = g') (fun b hb => ⟨(o1.1 b).2 hb, _, look_mem hk⟩) hext ⟨fun b => by simp [Value.ownBlock]; exact ⟨fun h => h.symm, fun h => h.symm⟩, by rw [List.map_append, hlv]; exact hown⟩ (fun b hb => by subst hb; exact ⟨hlt, hblk⟩) id
  have hRp := hR.put (some d) (.c (.rw k (some ⟨g', 0, none⟩) (n + m') c''))
  have hI : Ext I w w' := hext.mono fun b hb => ⟨hJ.Isz b hb, fun e => (hJ.Fsz _ b (look_mem hk) ((o1.1 b).2 e)).2.1 hb⟩
  exact op_value (ok.sx (kk l g' c'' w hq hw)) hrun (by rw [hd]; exact hRp) ⟨I, _, hup.learn fun W e => hq' W (hI.trans e fun _ hx => hx)⟩
/-- Nothing is appended. -/
theorem app0 (ok : Okc P T C res) {o : Oper} {s x : Operand} {t d : Nat} (ho : o.op = .call ⟨.builtin .append, #[s, x], #[t, t]⟩) (hd : o.dst = some d) {i ie : TI} (hi : tf t T = some i) (hik : i.kd = 3) (hie : tf i.el T = some ie)
    {a b : Option Addr} {n c c' : Nat} {u v : SV} (hs : ev tm s = some u) (hu : u.val = .slice a n c) (hn : n ≤ c) (hx : ev tm x = some v) (hv : v.val = .slice b 0 c') (kk : sx T C res 1000 p (put C.n (some d) u tm) m) : At C (.op o p) tm m := by
  intro act w cs0 hR hJ
  have e1 : act.eval s = .slice a n c := by rw [hR.eval hs, hu]
  have e2 : act.eval x = .slice b 0 c' := by rw [hR.eval hx, hv]
  have hu2 := (ok.ty.get hi).g_slice hik
  have hz := (ok.ty.get hie).g_sizeOf (P := C.P)
  have hrun : (execOp act.eval o).run C.P w = .ok (.value u.val) w := by
    rw [hu]
    cases b <;> cases a <;> simp [execOp, ho, resolve, invoke, builtin, e1, e2, Builtin.append_, run_underlying hu2, hz, Builtin.lenOf, hn, Builtin.firstCells, loadCells, loadCellsFrom, storeCells]
  have hRp := hR.put (some d) u
  exact op_value (ok.sx kk) hrun (by rw [hd]; exact hRp) hJ
/-- Slots that a code may write. -/
def wr : Code → List Nat
  | .region _ ops _ => ops.toList.filterMap (·.dst)
  | .seq a b => wr a ++ wr b
  | .cond _ a b => wr a ++ wr b
  | .block _ b => wr b
  | .loop b => wr b
  | .scope b => wr b
  | _ => []
def memN (t : Nat) : List Nat → Bool
  | [] => false
  | u :: r => if t = u then true else memN t r
def keepT (ws : List Nat) : Tm → Tm
  | [] => []
  | (t, x) :: r => match memN t ws with | true => keepT ws r | false => (t, x) :: keepT ws r
theorem keepT_sub (ws : List Nat) : ∀ (tm : Tm) (t : Nat) (x : SV), find t (keepT ws tm) = some x → find t tm = some x
  | [], t, x, h => by cases h
  | (u, y) :: r, t, x, h => by
    simp only [keepT] at h
    have mem_no : memN t ws = true → find t (keepT ws r) = some x → False := fun hm h => by
      have : ∀ (q : Tm), find t (keepT ws q) = none := by
        intro q
        induction q with
        | nil => rfl
        | cons z q ih =>
          obtain ⟨v, z⟩ := z
          simp only [keepT]
          split
          · exact ih
          · rename_i hv
            simp only [find]
            rw [if_neg (fun e => by subst e; rw [hm] at hv; cases hv)]
            exact ih
      rw [this r] at h
      cases h
    split at h
    · rename_i hu
      by_cases e : t = u
      · subst e
        exact (mem_no hu h).elim
      · simp only [find]
        rw [if_neg e]
        exact keepT_sub ws r t x h
    · simp only [find] at h ⊢
      split
      · rename_i e
        rw [if_pos e] at h
        exact h
      · rename_i e
        rw [if_neg e] at h
        exact keepT_sub ws r t x h
theorem find_app (a b : Tm) (t : Nat) : find t (a ++ b) = match find t a with | some x => some x | none => find t b := by
  induction a with
  | nil => rfl
  | cons z a ih =>
    obtain ⟨u, z⟩ := z
    simp only [List.cons_append, find]
    split
    · rfl
    · exact ih
theorem Sub.app {a b u : Tm} (h1 : Sub a u) (h2 : Sub b u) : Sub (a ++ b) u := fun t x hx => by
  rw [find_app] at hx
  split at hx
  · rename_i y hy
    cases hx
    exact h1 t x hy
  · exact h2 t x hx
theorem keepB_mem {rs : List (Nat × Res)} : ∀ {l : List (Nat × Res)}, keepB rs l → ∀ p, p ∈ l → p ∈ rs
  | [], _, p, hp => by cases hp
  | (j, q) :: t, hk, p, hp => by
    rcases List.mem_cons.1 hp with rfl | hp
    · exact look_mem hk.1
    · exact keepB_mem hk.2 p hp
/-- A loop: what its slots, and what is one's own, are like at each round's head, by a parameter; what is known beside; what goes down. -/
theorem loop (ok : Okc P T C res) {b : Code} {k : List Item} {α : Type} (car : α → Tm) (rs : α → List (Nat × Res)) (F : α → World → Prop) (μ : α → Nat) (a0 : α)
    (h0 : subs tm (car a0)) (hr0 : keepB m.rs (rs a0)) (hF0 : ∀ W, m.G W → F a0 W)
    (round : ∀ a W, F a W → m.G W → (∀ a' tm' m', μ a' < μ a → (∀ W, m'.G W → F a' W ∧ m.G W) → subs tm' (car a' ++ keepT (wr b) tm) ∧ keepB m'.rs (rs a') → At C (.todo (.inLoop b :: k)) tm' m') → sx T C res 1000 (.todo (.code b :: .inLoop b :: k)) (car a ++ keepT (wr b) tm) ⟨fun _ => True, fun W => F a W ∧ m.G W, rs a⟩) :
    At C (.todo (.code (.loop b) :: k)) tm m := by
  have key : ∀ n a, μ a = n → ∀ tm' m', (∀ W, m'.G W → F a W ∧ m.G W) → Sub (car a ++ keepT (wr b) tm) tm' → keepB m'.rs (rs a) → At C (.todo (.code b :: .inLoop b :: k)) tm' m' := by
    intro n
    induction n using Nat.strongRecOn with
    | _ n ih =>
      intro a hn tm' m' hG hs hk a1 w cs hR hJ
      obtain ⟨I, Fo, hi⟩ := hJ
      have hG0 := hG w (hi.know w (Ext.refl _ _))
      have hJ : J C m' w := ⟨I, Fo, hi⟩
      have hr := round a w hG0.1 hG0.2 (fun a' tm2 m2 hlt hG2 h2 => fun a2 w2 cs2 hR2 hJ2 => Good.of (ih (μ a') (hn ▸ hlt) a' rfl tm2 m2 hG2 (Sub.of h2.1) h2.2 a2 w2 cs2 hR2 hJ2) (.one step_inLoop))
      exact ok.sx hr a1 w cs (hR.sub hs) (hJ.weaken (fun _ _ => trivial) hG (keepB_mem hk))
  exact fun a w cs hR hJ => Good.of (key (μ a0) a0 rfl tm m (fun W h => ⟨hF0 W h, h⟩) (Sub.app (Sub.of h0) (fun t x hx => ⟨x, keepT_sub _ _ t x hx, rfl⟩)) hr0 a w cs hR hJ) (.one step_loop)
def pickT (ks : List Nat) : Tm → Tm
  | [] => []
  | (t, x) :: r => match memN t ks with | true => (t, x) :: pickT ks r | false => pickT ks r
theorem pickT_sub (ks : List Nat) : ∀ (tm : Tm) (t : Nat) (x : SV), find t (pickT ks tm) = some x → find t tm = some x
  | [], t, x, h => by cases h
  | (u, y) :: r, t, x, h => by
    have nope : memN t ks = false → ∀ q : Tm, find t (pickT ks q) = none := by
      intro hm q
      induction q with
      | nil => rfl
      | cons z q ih =>
        obtain ⟨v, z⟩ := z
        simp only [pickT]
        split
        · rename_i hv
          simp only [find]
          rw [if_neg (fun e => by subst e; rw [hm] at hv; cases hv)]
          exact ih
        · exact ih
    simp only [pickT] at h
    split at h
    · simp only [find] at h ⊢
      split
      · rename_i e
        rw [if_pos e] at h
        exact h
      · rename_i e
        rw [if_neg e] at h
        exact pickT_sub ks r t x h
    · rename_i hu
      by_cases e : t = u
      · subst e
        rw [nope hu r] at h
        cases h
      · simp only [find]
        rw [if_neg e]
        exact pickT_sub ks r t x h
/-- A loop (slots that stay: ks): what its slots, and what is one's own, are like at each round's head, by a parameter; what is known beside; what goes down. -/
theorem loopK (ks : List Nat) (ok : Okc P T C res) {b : Code} {k : List Item} {α : Type} (car : α → Tm) (rs : α → List (Nat × Res)) (F : α → World → Prop) (μ : α → Nat) (a0 : α)
    (h0 : subs tm (car a0)) (hr0 : keepB m.rs (rs a0)) (hF0 : ∀ W, m.G W → F a0 W)
    (round : ∀ a W, F a W → m.G W → (∀ a' tm' m', μ a' < μ a → (∀ W, m'.G W → F a' W ∧ m.G W) → subs tm' (car a' ++ pickT ks tm) ∧ keepB m'.rs (rs a') → At C (.todo (.inLoop b :: k)) tm' m') → sx T C res 1000 (.todo (.code b :: .inLoop b :: k)) (car a ++ pickT ks tm) ⟨fun _ => True, fun W => F a W ∧ m.G W, rs a⟩) :
    At C (.todo (.code (.loop b) :: k)) tm m := by
  have key : ∀ n a, μ a = n → ∀ tm' m', (∀ W, m'.G W → F a W ∧ m.G W) → Sub (car a ++ pickT ks tm) tm' → keepB m'.rs (rs a) → At C (.todo (.code b :: .inLoop b :: k)) tm' m' := by
    intro n
    induction n using Nat.strongRecOn with
    | _ n ih =>
      intro a hn tm' m' hG hs hk a1 w cs hR hJ
      obtain ⟨I, Fo, hi⟩ := hJ
      have hG0 := hG w (hi.know w (Ext.refl _ _))
      have hJ : J C m' w := ⟨I, Fo, hi⟩
      have hr := round a w hG0.1 hG0.2 (fun a' tm2 m2 hlt hG2 h2 => fun a2 w2 cs2 hR2 hJ2 => Good.of (ih (μ a') (hn ▸ hlt) a' rfl tm2 m2 hG2 (Sub.of h2.1) h2.2 a2 w2 cs2 hR2 hJ2) (.one step_inLoop))
      exact ok.sx hr a1 w cs (hR.sub hs) (hJ.weaken (fun _ _ => trivial) hG (keepB_mem hk))
  exact fun a w cs hR hJ => Good.of (key (μ a0) a0 rfl tm m (fun W h => ⟨hF0 W h, h⟩) (Sub.app (Sub.of h0) (fun t x hx => ⟨x, pickT_sub _ _ t x hx, rfl⟩)) hr0 a w cs hR hJ) (.one step_loop)
end
end Go.Proofs.Ytfmkpkmhhlakoaa.Sx

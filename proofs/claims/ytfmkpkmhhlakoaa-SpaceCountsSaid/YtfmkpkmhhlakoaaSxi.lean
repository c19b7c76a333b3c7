/- Sx, part 9: what is lent, and handed back; function values; slices that are made; texts as bytes. -/
import Derived.Test.YtfmkpkmhhlakoaaSxg
import Derived.Laws.MakeOwn
import Derived.Laws.OwnMore
import Derived.Lib.ConvBytes
import Derived.Laws.BytesString
import Derived.Lib.AppendZeros
set_option linter.unusedVariables false
set_option linter.unusedSimpArgs false
namespace Go.Proofs.Ytfmkpkmhhlakoaa.Sx
open Go

/-- The same values. -/
def Res.eqv : Res → Res → Prop
  | .box g T cs, .box g' T' cs' => g = g' ∧ T = T' ∧ cs.map CV.val = cs'.map CV.val
  | .row a n c T sz cs, .row a' n' c' T' sz' cs' => a = a' ∧ n = n' ∧ c = c' ∧ T = T' ∧ sz = sz' ∧ cs.map CV.val = cs'.map CV.val
  | .usr A, .usr A' => A = A'
  | _, _ => False
theorem Res.eqv.to {r r' : Res} (h : r.eqv r') {S : Nat → Prop} {w : World} (k : r.holds S w) : r'.holds S w := by
  cases r <;> cases r' <;> simp only [Res.eqv] at h
  · obtain ⟨rfl, rfl, h⟩ := h
    simpa only [Res.holds, h] using k
  · obtain ⟨rfl, rfl, rfl, rfl, rfl, h⟩ := h
    simpa only [Res.holds, h] using k
  · subst h
    exact k
theorem Res.holds.same {r : Res} {S S' : Nat → Prop} {w : World} (k : r.holds S w) (h : ∀ b, S' b ↔ S b) : r.holds S' w := by
  have : S' = S := funext fun b => propext (h b)
  rw [this]
  exact k
/-- Some things of one's own, each on blocks that no other is on; S are all of these. -/
def Owns (rs : List Res) (S : Nat → Prop) (w : World) : Prop := ∃ F : Nat → Nat → Prop, (∀ i (r : Res), rs[i]? = some r → r.holds (F i) w) ∧ (∀ i j b, i < rs.length → j < rs.length → i ≠ j → F i b → ¬ F j b) ∧ ∀ b, S b ↔ ∃ i, i < rs.length ∧ F i b
/-- The contract of a function that is lent things, and hands things back. -/
abbrev FnS (P : Program) (f : FuncId) (args : Array Value) (w : World) (I S : Nat → Prop) {α : Type} (enc : α → Value) (rs : α → List Res) (R : α → World → Prop) : Prop := Fits P f args w I S enc (fun x => Owns (rs x)) R
def num : Nat → List Res → List (Nat × Res)
  | _, [] => []
  | j, r :: l => (j, r) :: num (j + 1) l
theorem num_mem {p : Nat × Res} : ∀ {l : List Res} {j : Nat}, p ∈ num j l → ∃ i, l[i]? = some p.2 ∧ p.1 = j + i
  | [], j, h => by cases h
  | r :: l, j, h => by
    rcases List.mem_cons.1 h with rfl | h
    · exact ⟨0, rfl, rfl⟩
    · obtain ⟨i, h1, h2⟩ := num_mem h
      exact ⟨i + 1, by simpa using h1, by omega⟩
theorem enterS {P : Program} {f : FuncId} {fn : Func} {c : Code} {T : Ty} {res : List ResultVar} {n : Nat} {svs : List SV} {w : World} {I S : Nat → Prop} {α : Type} {enc : α → Value} {B : α → (Nat → Prop) → World → Prop} {R : α → World → Prop} (hT : TyOk P T) (hf : P.funcs[f]? = some fn) (hb : fn.body = some c) (hn : fn.ntmps = n) (hr : fn.results = res.toArray) (hc : callB P f = true)
    (hl : svs.length ≤ n) (hI : ∀ b, I b → b < w.heap.size) (lent : List Res) (hS : Owns lent S w) (hSI : ∀ b, S b → b < w.heap.size ∧ ¬ I b) (G : World → Prop) (hG : ∀ W, Ext I w W → G W)
    (h : ∀ C : Ctx, C = ⟨P, f, fn, n, w, I, S, α, enc, B, R⟩ → C.n = n → Okc P T C res → sx T C res 1000 (.todo [.code c]) (argsT 0 svs) ⟨fun _ => True, G, num 1000 lent⟩) : Fits P f (svs.map SV.val).toArray w I S enc B R := by
  obtain ⟨F, h1, h2, h3⟩ := hS
  refine enterJ hT hf hb hn hr hc hl ⟨I, fun k => F (k - 1000), Ext.refl _ _, hI, fun _ h => h, fun _ h _ => h, ?_, ?_, ?_, ?_, fun _ _ => trivial, hG⟩ h
  · intro p hp
    obtain ⟨i, k1, k2⟩ := num_mem hp
    rw [k2, Nat.add_sub_cancel_left]
    exact h1 i _ k1
  · intro p b hp hb
    obtain ⟨i, k1, k2⟩ := num_mem hp
    have hs : S b := (h3 b).2 ⟨p.1 - 1000, by have := (List.getElem?_eq_some_iff.1 k1).1; omega, hb⟩
    exact ⟨(hSI b hs).1, (hSI b hs).2, fun _ => hs⟩
  · intro p q b hp hq hne hb
    obtain ⟨i, k1, k2⟩ := num_mem hp
    obtain ⟨j, k3, k4⟩ := num_mem hq
    have e1 := (List.getElem?_eq_some_iff.1 k1).1
    have e2 := (List.getElem?_eq_some_iff.1 k3).1
    exact h2 _ _ b (by omega) (by omega) (by omega) hb
  · intro p b hp hlt
    obtain ⟨i, k1, k2⟩ := num_mem hp
    omega
/-- Things of one's own, by their numbers, are these. -/
def give (m : List (Nat × Res)) : List Nat → List Res → Prop
  | [], [] => True
  | k :: ks, r :: rs => (match look k m with | some q => q.eqv r | none => False) ∧ memN k ks = false ∧ give m ks rs
  | _, _ => False
theorem memN_mem {k : Nat} : ∀ {ks : List Nat}, memN k ks = true ↔ k ∈ ks
  | [] => by simp [memN]
  | j :: r => by
    simp only [memN, List.mem_cons]
    split
    · rename_i e; simp [e]
    · rename_i e; simp [e, memN_mem]
theorem give_get {m : List (Nat × Res)} : ∀ {ks : List Nat} {rs : List Res}, give m ks rs → ks.length = rs.length ∧ ks.Nodup ∧ ∀ (i : Nat) (r : Res), rs[i]? = some r → ∃ q, look (ks.getD i 0) m = some q ∧ q.eqv r
  | [], [], _ => ⟨rfl, List.nodup_nil, fun i r h => by simp at h⟩
  | k :: ks, r :: rs, ⟨h1, h2, h3⟩ => by
    obtain ⟨k1, k2, k3⟩ := give_get h3
    refine ⟨by simp [k1], List.nodup_cons.2 ⟨fun hm => ?_, k2⟩, fun i q h => ?_⟩
    · rw [memN_mem.2 hm] at h2
      cases h2
    · cases i with
      | zero =>
        simp only [List.getElem?_cons_zero, Option.some.injEq] at h
        subst h
        split at h1
        · rename_i q hq
          exact ⟨q, by simpa using hq, h1⟩
        · exact h1.elim
      | succ i =>
        simp only [List.getElem?_cons_succ] at h
        simpa using k3 i q h
  | [], _ :: _, h => h.elim
  | _ :: _, [], h => h.elim
theorem give_S {m : List (Nat × Res)} {ks : List Nat} {rs : List Res} (h : give m ks rs) {F : Nat → Nat → Prop} {w : World} (own : ∀ p, p ∈ m → p.2.holds (F p.1) w) (disj : ∀ p q b, p ∈ m → q ∈ m → p.1 ≠ q.1 → F p.1 b → ¬ F q.1 b) : Owns rs (fun b => ∃ k, k ∈ ks ∧ F k b) w ∧ ∀ k, k ∈ ks → ∃ r, (k, r) ∈ m := by
  obtain ⟨h1, h2, h3⟩ := give_get h
  have hg : ∀ i, i < ks.length → ∃ r, (ks.getD i 0, r) ∈ m := fun i hi => by
    obtain ⟨q, hq, _⟩ := h3 i rs[i] (List.getElem?_eq_getElem (by omega))
    exact ⟨q, look_mem hq⟩
  have hd : ∀ i, (hi : i < ks.length) → ks.getD i 0 = ks[i] := fun i hi => by simp [hi]
  refine ⟨⟨fun i => F (ks.getD i 0), fun i r hr => ?_, fun i j b hi hj hne hb hb' => ?_, fun b => ⟨?_, ?_⟩⟩, ?_⟩
  · obtain ⟨q, hq, he⟩ := h3 i r hr
    exact he.to (own _ (look_mem hq))
  · obtain ⟨r1, m1⟩ := hg i (by omega)
    obtain ⟨r2, m2⟩ := hg j (by omega)
    refine disj _ _ b m1 m2 (fun e => hne ?_) hb hb'
    simp only [hd i (by omega), hd j (by omega)] at e
    exact (List.getElem_inj h2).1 e
  · rintro ⟨k, hk, hb⟩
    obtain ⟨i, hi, rfl⟩ := List.getElem_of_mem hk
    exact ⟨i, by omega, by show F (ks.getD i 0) b; rw [hd i hi]; exact hb⟩
  · rintro ⟨i, hi, hb⟩
    exact ⟨_, by rw [hd i (by omega)]; exact List.getElem_mem _, hb⟩
  · intro k hk
    obtain ⟨i, hi, rfl⟩ := List.getElem_of_mem hk
    obtain ⟨r, hr⟩ := hg i hi
    rw [hd i hi] at hr
    exact ⟨r, hr⟩
def rest (ks : List Nat) : List (Nat × Res) → List (Nat × Res)
  | [] => []
  | (k, r) :: t => match memN k ks || Nat.ble 1000 k with | true => rest ks t | false => (k, r) :: rest ks t
theorem rest_mem {ks : List Nat} {p : Nat × Res} : ∀ {l : List (Nat × Res)}, p ∈ rest ks l → p ∈ l ∧ p.1 ∉ ks ∧ p.1 < 1000
  | [], h => by cases h
  | (k, r) :: t, h => by
    simp only [rest] at h
    split at h
    · exact ⟨List.mem_cons_of_mem _ (rest_mem h).1, (rest_mem h).2⟩
    · rename_i hn
      rcases List.mem_cons.1 h with rfl | h
      · simp only [Bool.or_eq_false_iff] at hn
        refine ⟨List.mem_cons_self, fun hm => ?_, ?_⟩
        · rw [memN_mem.2 hm] at hn
          cases hn.1
        · have := hn.2
          rcases Nat.lt_or_ge k 1000 with h5 | h5
          · exact h5
          · rw [Nat.ble_eq_true_of_le h5] at this
            cases this
      · exact ⟨List.mem_cons_of_mem _ (rest_mem h).1, (rest_mem h).2⟩
def delL : List Nat → List (Nat × Res) → List (Nat × Res)
  | [], l => l
  | k :: ks, l => delL ks (del k l)
theorem delL_mem {p : Nat × Res} : ∀ {ks : List Nat} {l : List (Nat × Res)}, p ∈ delL ks l → p ∈ l ∧ p.1 ∉ ks
  | [], l, h => ⟨h, by simp⟩
  | k :: ks, l, h => by
    obtain ⟨h1, h2⟩ := delL_mem (ks := ks) h
    obtain ⟨h3, h4⟩ := mem_del h1
    exact ⟨h3, by simp [h2, h4]⟩
/-- What is handed back stands under these numbers. -/
def back : List (Nat × Res) → List Res → Prop
  | [], [] => True
  | (k, r) :: t, q :: l => q.eqv r ∧ memN k (t.map Prod.fst) = false ∧ back t l
  | _, _ => False
theorem back_get : ∀ {t : List (Nat × Res)} {l : List Res}, back t l → t.length = l.length ∧ (t.map Prod.fst).Nodup ∧ ∀ (i : Nat) (p : Nat × Res), t[i]? = some p → ∃ q : Res, l[i]? = some q ∧ q.eqv p.2
  | [], [], _ => ⟨rfl, List.nodup_nil, fun i r h => by simp at h⟩
  | (k, r) :: t, q :: l, ⟨h1, h2, h3⟩ => by
    obtain ⟨k1, k2, k3⟩ := back_get h3
    refine ⟨by simp [k1], List.nodup_cons.2 ⟨fun hm => ?_, k2⟩, fun i p h => ?_⟩
    · rw [memN_mem.2 hm] at h2
      cases h2
    · cases i with
      | zero =>
        simp only [List.getElem?_cons_zero, Option.some.injEq] at h
        subst h
        exact ⟨q, rfl, h1⟩
      | succ i =>
        simp only [List.getElem?_cons_succ] at h
        simpa using k3 i p h
  | [], _ :: _, h => h.elim
  | _ :: _, [], h => h.elim
/-- New blocks are there, which nobody will change. -/
theorem Inv.more {C : Ctx} {m : Mem} {w w' : World} {I : Nat → Prop} {F : Nat → Nat → Prop} (h : Inv C m w I F) (he : Ext (fun b => b < w.heap.size) w w') {Q : World → Prop} (hq : ∀ W, Ext (fun b => I b ∨ (w.heap.size ≤ b ∧ b < w'.heap.size)) w' W → Q W) :
    Inv C ⟨m.B, fun W => Q W ∧ m.G W, m.rs⟩ w' (fun b => I b ∨ (w.heap.size ≤ b ∧ b < w'.heap.size)) F := by
  refine ⟨h.grow.trans he fun b hb => Nat.lt_of_lt_of_le hb.1 h.grow.size, ?_, fun b hb => .inl (h.I0 b hb), ?_, fun q hq => (h.own q hq).ext (he.mono fun b hb => (h.Fsz q b hq hb).1), ?_, h.disj, h.new, fun W e => h.base W ((he.mono h.Isz).trans e fun b hb => .inl hb), fun W e => ⟨hq W e, h.know W ((he.mono h.Isz).trans e fun b hb => .inl hb)⟩⟩
  · rintro b (hb | hb)
    · exact Nat.lt_of_lt_of_le (h.Isz b hb) he.size
    · exact hb.2
  · rintro b (hb | hb) hlt
    · exact h.Iold b hb hlt
    · have := h.grow.size; omega
  · intro q b hq hb
    obtain ⟨h1, h2, h3⟩ := h.Fsz q b hq hb
    refine ⟨Nat.lt_of_lt_of_le h1 he.size, ?_, h3⟩
    rintro (h4 | h4)
    · exact h2 h4
    · omega
section
variable {P : Program} {C : Ctx} {T : Ty} {res : List ResultVar} {p : Pos} {tm : Tm} {m : Mem}
theorem retS0 {v : Value} (rs : C.α → List Res) (hB : C.B = fun x => Owns (rs x)) (x : C.α) (hv : v = C.enc x) (ks : List Nat) (hg : give m.rs ks (rs x)) (h : ∀ W, pubs (rest ks m.rs) W → m.G W → C.R x W) : RetP C v m := by
  rintro w ⟨I, F, hi⟩
  obtain ⟨ho, hk⟩ := give_S hg hi.own hi.disj
  have hF : ∀ b, (∃ k, k ∈ ks ∧ F k b) → b < w.heap.size ∧ ¬ I b ∧ (b < C.w0.heap.size → C.S0 b) := fun b ⟨k, h1, h2⟩ => by
    obtain ⟨r, hr⟩ := hk k h1
    exact hi.Fsz _ b hr h2
  refine ⟨x, fun b => ∃ k, k ∈ ks ∧ F k b, by rw [hv], hi.grow, fun b hb => ⟨(hF b hb).1, fun h0 => (hF b hb).2.1 (hi.I0 b h0), (hF b hb).2.2⟩, by rw [hB]; exact ho, fun W e => h W (pubs_of fun q hq => ?_) (hi.know W (e.mono fun b hb => ⟨?_, fun hs => (hF b hs).2.1 hb⟩))⟩
  · obtain ⟨h1, h2, h3⟩ := rest_mem hq
    refine ((hi.own q h1).ext (e.mono fun b hb => ⟨.inr ⟨hi.new q b h1 h3 hb, (hi.Fsz q b h1 hb).1⟩, ?_⟩)).fact
    rintro ⟨k, h4, h5⟩
    obtain ⟨r, hr⟩ := hk k h4
    exact hi.disj q (k, r) b h1 hr (fun e => h2 (by rw [e]; exact h4)) hb h5
  · rcases Nat.lt_or_ge b C.w0.heap.size with h4 | h4
    · exact .inl (hi.Iold b hb h4)
    · exact .inr ⟨h4, hi.Isz b hb⟩
theorem retS {v : Value} {f : FuncId} {fn : Func} {n : Nat} {w : World} {I S : Nat → Prop} {α : Type} {enc : α → Value} {rs : α → List Res} {R : α → World → Prop} (hC : C = ⟨P, f, fn, n, w, I, S, α, enc, fun x => Owns (rs x), R⟩) (x : α) (ks : List Nat) (hv : v = enc x) (hg : give m.rs ks (rs x)) (h : ∀ W, pubs (rest ks m.rs) W → m.G W → R x W) : RetP C v m := by
  subst hC
  exact retS0 rs rfl x hv ks hg h
/-- A call of a function that is lent things (ks), and hands things back. -/
theorem callS (ok : Okc P T C res) {o : Oper} {fo : Operand} {args : Array Operand} {tys : Array TypeId} (ho : o.op = .call ⟨.value fo, args, tys⟩) {f : FuncId} {fi ca : Array Value} (hf : ev tm fo = some (.c (.v (.func (.func f) fi ca)))) {svs : List SV} (ha : evs tm args.toList = some svs) (ks : List Nat) (lent : List Res) (hg : give m.rs ks lent)
    {V : Array Value} (hV : fi ++ (svs.map SV.val).toArray ++ ca = V) {α : Type} {enc : α → Value} {rs : α → List Res} {R : α → World → Prop} (bk : α → List (Nat × Res))
    (spec : ∀ w I S, (∀ b, I b → b < w.heap.size) → (∀ W, Ext I w W → m.G W) → Owns lent S w → (∀ b, S b → b < w.heap.size ∧ ¬ I b) → FnS P f V w I S enc rs R)
    (hbk : ∀ x, back (bk x) (rs x)) (hks : (∀ k, k ∈ ks → k < 1000) ∨ ∀ x q, q ∈ bk x → 1000 ≤ q.1)
    (k : ∀ x W, R x W → sx T C res 1000 p (put C.n o.dst (.c (nv (enc x))) tm) ⟨m.B, fun W => R x W ∧ m.G W, bk x ++ delL ((bk x).map Prod.fst) (delL ks m.rs)⟩) : At C (.op o p) tm m := by
  obtain rfl := ok.P
  rintro a w cs hR ⟨I, F, hi⟩
  obtain ⟨hown, hkm⟩ := give_S hg hi.own hi.disj
  have hF : ∀ b, (∃ k, k ∈ ks ∧ F k b) → b < w.heap.size ∧ ¬ I b ∧ (b < C.w0.heap.size → C.S0 b) := fun b ⟨k, h1, h2⟩ => by
    obtain ⟨r, hr⟩ := hkm k h1
    exact hi.Fsz _ b hr h2
  obtain ⟨hc, hs⟩ := spec w I _ hi.Isz hi.know hown fun b hb => ⟨(hF b hb).1, (hF b hb).2.1⟩
  show o.wp C.P a w (Nx C cs p) (QQ C cs p.k)
  have e1 : a.eval fo = .func (.func f) fi ca := hR.eval hf
  have e2 : args.map a.eval = (svs.map SV.val).toArray := by apply Array.ext'; simpa using evs_ok hR ha
  have hr : (execOp a.eval o).run C.P w = .ok (.enter f V) w := by
    rw [← hV]
    simp [execOp, ho, resolve, e1, e2, Deferred.ofValue, invoke, callB_run hc]
  unfold Oper.wp
  rw [hr]
  refine Calls.mono hs ?_
  rintro e w' ⟨v, S', rfl, hgw, hS1, ⟨F', f1, f2, f3⟩, hP⟩
  have hIS : ∀ b, I b → b < w.heap.size ∧ ¬ ∃ k, k ∈ ks ∧ F k b := fun b hb => ⟨hi.Isz b hb, fun hs => (hF b hs).2.1 hb⟩
  have hIw : Ext I w w' := hgw.mono hIS
  have hRp := hR.put o.dst (.c (nv (enc v)))
  simp only [SV.val, nv_val] at hRp
  obtain ⟨b1, b2, b3⟩ := back_get (hbk v)
  have idx : ∀ q, q ∈ bk v → ∃ i r, (bk v)[i]? = some q ∧ i < (rs v).length ∧ (rs v)[i]? = some r ∧ r.eqv q.2 := fun q hq => by
    obtain ⟨i, hi, rfl⟩ := List.getElem_of_mem hq
    obtain ⟨r, h1, h2⟩ := b3 i _ (List.getElem?_eq_getElem hi)
    exact ⟨i, r, List.getElem?_eq_getElem hi, by omega, h1, h2⟩
  have uniq : ∀ i j (x y : Nat × Res), (bk v)[i]? = some x → (bk v)[j]? = some y → x.1 = y.1 → i = j := fun i j x y hx hy e => by
    obtain ⟨h1, h2⟩ := List.getElem?_eq_some_iff.1 hx
    obtain ⟨h3, h4⟩ := List.getElem?_eq_some_iff.1 hy
    have e1 : ((bk v).map Prod.fst)[i]'(by simpa using h1) = ((bk v).map Prod.fst)[j]'(by simpa using h3) := by simp [h2, h4, e]
    exact (List.getElem_inj b2).1 e1
  let FF : Nat → Nat → Prop := fun j b => (∃ i r, (bk v)[i]? = some (j, r) ∧ F' i b) ∨ ((∀ q, q ∈ bk v → q.1 ≠ j) ∧ F j b)
  have FFn : ∀ i q b, (bk v)[i]? = some q → (FF q.1 b ↔ F' i b) := fun i q b hq => by
    constructor
    · rintro (⟨i', r', h1, h2⟩ | ⟨h1, _⟩)
      · have := uniq i i' _ _ hq h1 rfl
        rw [this]
        exact h2
      · exact absurd rfl (h1 q (List.mem_of_getElem? hq))
    · exact fun hb => .inl ⟨i, q.2, hq, hb⟩
  have FFo : ∀ q b, q ∈ delL ((bk v).map Prod.fst) (delL ks m.rs) → q ∈ m.rs ∧ q.1 ∉ ks ∧ (FF q.1 b ↔ F q.1 b) := fun q b hq => by
    obtain ⟨h1, h2⟩ := delL_mem hq
    obtain ⟨h3, h4⟩ := delL_mem h1
    have h5 : ∀ x, x ∈ bk v → x.1 ≠ q.1 := fun x hx e => h2 (by rw [← e]; exact List.mem_map_of_mem hx)
    refine ⟨h3, h4, ⟨?_, fun hb => .inr ⟨h5, hb⟩⟩⟩
    rintro (⟨i, r, k1, _⟩ | ⟨_, hb⟩)
    · exact absurd rfl (h5 (q.1, r) (List.mem_of_getElem? k1))
    · exact hb
  have notS : ∀ q b, q ∈ m.rs → q.1 ∉ ks → F q.1 b → ¬ ∃ k, k ∈ ks ∧ F k b := fun q b hq hn hb ⟨k, h1, h2⟩ => by
    obtain ⟨r, hr⟩ := hkm k h1
    exact hi.disj q (k, r) b hq hr (fun e => hn (by rw [e]; exact h1)) hb h2
  have notS' : ∀ q b, q ∈ m.rs → q.1 ∉ ks → F q.1 b → ¬ S' b := fun q b hq hn hb hs => notS q b hq hn hb ((hS1 b hs).2.2 (hi.Fsz q b hq hb).1)
  refine ok.sx (k v w' (hP w' (Ext.refl _ _))) _ _ _ hRp ⟨fun b => I b ∨ ((w.heap.size ≤ b ∧ b < w'.heap.size) ∧ ¬ S' b), FF, hi.grow.trans hgw fun b hb => ⟨Nat.lt_of_lt_of_le hb.1 hi.grow.size, fun hs => hb.2 ((hF b hs).2.2 hb.1)⟩, ?_, fun b hb => .inl (hi.I0 b hb), ?_, ?_, ?_, ?_, ?_, ?_, ?_⟩
  · rintro b (hb | hb)
    · exact Nat.lt_of_lt_of_le (hi.Isz b hb) hgw.size
    · exact hb.1.2
  · rintro b (hb | hb) hlt
    · exact hi.Iold b hb hlt
    · have := hi.grow.size; omega
  · intro q hq
    rcases List.mem_append.1 hq with hq | hq
    · obtain ⟨i, r, h1, h2, h3, h4⟩ := idx q hq
      exact (h4.to (f1 i r h3)).same fun b => FFn i q b h1
    · obtain ⟨h1, h2, _⟩ := FFo q 0 hq
      exact ((hi.own q h1).ext (hgw.mono fun b hb => ⟨(hi.Fsz q b h1 hb).1, notS q b h1 h2 hb⟩)).same fun b => (FFo q b hq).2.2
  · intro q b hq hb
    rcases List.mem_append.1 hq with hq | hq
    · obtain ⟨i, r, h1, h2, h3, h4⟩ := idx q hq
      have hs : S' b := (f3 b).2 ⟨i, h2, (FFn i q b h1).1 hb⟩
      obtain ⟨k1, k2, k3⟩ := hS1 b hs
      refine ⟨k1, ?_, fun hlt => ?_⟩
      · rintro (h5 | h5)
        · exact k2 h5
        · exact h5.2 hs
      · exact (hF b (k3 (Nat.lt_of_lt_of_le hlt hi.grow.size))).2.2 hlt
    · obtain ⟨h1, h2, h3⟩ := FFo q b hq
      have hb := h3.1 hb
      obtain ⟨k1, k2, k3⟩ := hi.Fsz q b h1 hb
      refine ⟨Nat.lt_of_lt_of_le k1 hgw.size, ?_, k3⟩
      rintro (h5 | h5)
      · exact k2 h5
      · omega
  · intro q q' b hq hq' hne hb hb'
    rcases List.mem_append.1 hq with hq | hq
    · obtain ⟨i, r, h1, h2, h3, h4⟩ := idx q hq
      have e1 := (FFn i q b h1).1 hb
      rcases List.mem_append.1 hq' with hq' | hq'
      · obtain ⟨j, r', k1, k2, k3, k4⟩ := idx q' hq'
        refine f2 i j b h2 k2 (fun e => ?_) e1 ((FFn j q' b k1).1 hb')
        subst e
        rw [h1] at k1
        cases k1
        exact hne rfl
      · obtain ⟨k1, k2, k3⟩ := FFo q' b hq'
        exact notS' q' b k1 k2 (k3.1 hb') ((f3 b).2 ⟨i, h2, e1⟩)
    · obtain ⟨k1, k2, k3⟩ := FFo q b hq
      rcases List.mem_append.1 hq' with hq' | hq'
      · obtain ⟨i, r, h1, h2, h3, h4⟩ := idx q' hq'
        exact notS' q b k1 k2 (k3.1 hb) ((f3 b).2 ⟨i, h2, (FFn i q' b h1).1 hb'⟩)
      · obtain ⟨k4, k5, k6⟩ := FFo q' b hq'
        exact hi.disj q q' b k1 k4 hne (k3.1 hb) (k6.1 hb')
  · intro q b hq hlt hb
    rcases List.mem_append.1 hq with hq | hq
    · obtain ⟨i, r, h1, h2, h3, h4⟩ := idx q hq
      have hs : S' b := (f3 b).2 ⟨i, h2, (FFn i q b h1).1 hb⟩
      rcases hks with hks | hks
      · rcases Nat.lt_or_ge b w.heap.size with h5 | h5
        · obtain ⟨k, k1, k2⟩ := (hS1 b hs).2.2 h5
          obtain ⟨r', hr'⟩ := hkm k k1
          exact hi.new _ b hr' (hks k k1) k2
        · exact Nat.le_trans hi.grow.size h5
      · have := hks v q hq
        omega
    · obtain ⟨k1, k2, k3⟩ := FFo q b hq
      exact hi.new q b k1 hlt (k3.1 hb)
  · exact fun W e => hi.base W (hIw.trans e fun b hb => .inl hb)
  · refine fun W e => ⟨hP W (e.mono fun b hb => ?_), hi.know W (hIw.trans e fun b hb => .inl hb)⟩
    rcases hb with ⟨hb | hb, hs⟩
    · exact .inl hb
    · exact .inr ⟨hb, hs⟩
/-- A call of a function value, which only reads, and makes. -/
theorem callF (ok : Okc P T C res) {o : Oper} {fo : Operand} {args : Array Operand} {tys : Array TypeId} (ho : o.op = .call ⟨.value fo, args, tys⟩) {f : FuncId} {fi ca : Array Value} (hf : ev tm fo = some (.c (.v (.func (.func f) fi ca)))) {svs : List SV} (ha : evs tm args.toList = some svs) {V : Array Value} (hV : fi ++ (svs.map SV.val).toArray ++ ca = V) {α : Type} {enc : α → Value} {R : α → World → Prop}
    (spec : ∀ w I, (∀ b, I b → b < w.heap.size) → (∀ W, Ext I w W → m.G W) → Fn0 P f V w I enc R)
    (k : ∀ x W, R x W → sx T C res 1000 p (put C.n o.dst (.c (nv (enc x))) tm) ⟨m.B, fun W => R x W ∧ m.G W, m.rs⟩) : At C (.op o p) tm m := by
  refine callS ok ho hf ha [] [] trivial hV (rs := fun _ => []) (fun _ => []) (fun w I S hI hG hO hS => ?_) (fun _ => trivial) (.inl fun k hk => by cases hk) (fun x W h => by simpa [delL] using k x W h)
  obtain ⟨h1, h2⟩ := spec w I hI hG
  refine ⟨h1, Calls.mono h2 ?_⟩
  have hn : S = noS := funext fun b => propext ⟨fun hb => (by obtain ⟨F, _, _, h3⟩ := hO; obtain ⟨i, hi, _⟩ := (h3 b).1 hb; exact absurd hi (Nat.not_lt_zero _)), fun h => h.elim⟩
  rintro e w' ⟨x, S', rfl, k1, k2, k3, k4⟩
  subst hn
  exact ⟨x, S', rfl, k1, k2, ⟨fun _ _ => False, fun i r h => by simp at h, fun i j b hi => absurd hi (Nat.not_lt_zero _), fun b => ⟨fun hb => absurd hb (k3 b), fun ⟨i, hi, _⟩ => absurd hi (Nat.not_lt_zero _)⟩⟩, k4⟩
/-- A slice is made. -/
theorem mksl (ok : Okc P T C res) {o : Oper} {t d : Nat} {l c : Operand} (ho : o.op = .makeSlice t l c) (hd : o.dst = some d) {i ie : TI} (hi : tf t T = some i) (hik : i.kd = 3) (hie : tf i.el T = some ie) (hz1 : ie.sz = 1) {z : Value} (hz : ie.zero = [z]) {kl kc : IntKind} {x : Int} (hl : ev tm l = some (.c (.v (.int kl x)))) (hc : ev tm c = some (.c (.v (.int kc x))))
    (h0 : 0 ≤ x) (hb : (ie.bt : Int) * x ≤ 140737488355328) (hm : x ≤ 140737488355328)
    (kk : ∀ g, sx T C res 1000 p (put C.n (some d) (.c (.rw d (some ⟨g, 0, none⟩) x.toNat x.toNat)) tm) ⟨m.B, m.G, (d, .row (some ⟨g, 0, none⟩) x.toNat x.toNat i.el 1 (List.replicate x.toNat (.v z))) :: del d (del d m.rs)⟩) : At C (.op o p) tm m := by
  intro a w cs hR hJ
  obtain ⟨y, e1, e2, e3, z', e4, e5⟩ := (ok.ty.get hie).g_some
  have hzc : z'.cells = #[z] := by apply Array.ext'; rw [e5, hz]
  have h1 : a.eval l = .int kl x := hR.eval hl
  have h2 : a.eval c = .int kc x := hR.eval hc
  have hcell : madeCells z'.cells (x.toNat * y.size) = ((List.replicate x.toNat (CV.v z)).map CV.val).toArray := by
    rw [hzc, e2, hz1, Nat.mul_one]
    apply Array.ext'
    rw [toList_madeCells_one]
    simp [CV.val]
  have hrun : (execOp a.eval o).run C.P w = .ok (.value (.slice (some ⟨w.heap.size, 0, none⟩) x.toNat x.toNat)) (w.alloc (.cells ((List.replicate x.toNat (CV.v z)).map CV.val).toArray i.el)) := by
    have h3 := run_make (P := C.P) w t i.el y z' ((ok.ty.get hi).g_slice hik) e1 e4 kl kc x x h0 (Int.le_refl _) (by rw [e3]; omega) (by omega)
    rw [hcell] at h3
    simp [execOp, ho, h1, h2, h3]
  exact op_value (ok.sx (kk w.heap.size)) hrun (by rw [hd]; exact hR.put (some d) (.c (.rw d (some ⟨w.heap.size, 0, none⟩) x.toNat x.toNat))) (hJ.lit d i.el 1 x.toNat _ (by simp only [maxLen]; omega) (by simp))
/-- A row of one's own is cut off (its room stays). -/
theorem J.shrink {w : World} (k h : Nat) {a : Option Addr} {n c : Nat} {e : TypeId} {sz : Nat} {cs : List CV} (hl : look k m.rs = some (.row a n c e sz cs)) (hle : h ≤ n) (hs : a = none → h = 0) (hJ : J C m w) : J C ⟨m.B, m.G, (k, .row a h c e sz (cs.take (h * sz))) :: del k (del k m.rs)⟩ w := by
  obtain ⟨I, F, hJ⟩ := hJ
  have h0 := hJ.own _ (look_mem hl)
  refine ⟨I, _, hJ.upd k k _ (fun b => (Value.slice a n c).ownBlock = some b) (fun b => (Value.slice a n c).ownBlock = some b) (fun b hb => ⟨(h0.1 b).2 hb, _, look_mem hl⟩) ((Ext.refl (fun _ => True) w).mono fun _ _ => trivial) ⟨fun b => by cases a <;> exact Iff.rfl, ?_, ?_⟩ (fun b hb => ⟨(h0.2.lt b hb).2, .inl hb⟩) id⟩
  · have h1 : cs.length = n * sz := by simpa using h0.2.1
    have h2 : h * sz ≤ n * sz := Nat.mul_le_mul_right _ hle
    simp [h1, h2]
  · rcases h0.2.2 with ⟨hv, hn⟩ | ⟨g, cap, cur, hv, hb, hg, hnc, hcm, hcs, ht⟩
    · cases hv
      obtain rfl := hs rfl
      exact .inl ⟨rfl, rfl⟩
    · obtain ⟨rfl, rfl⟩ : a = some ⟨g, 0, none⟩ ∧ c = cap := by simpa using hv
      refine .inr ⟨g, c, cur, rfl, hb, hg, Nat.le_trans hle hnc, hcm, hcs, ?_⟩
      have h2 : h * sz ≤ n * sz := Nat.mul_le_mul_right _ hle
      rw [List.map_take, ← ht, List.take_take, Nat.min_eq_left h2]
theorem shrink (k h : Nat) {a : Option Addr} {n c : Nat} {e : TypeId} {sz : Nat} {cs : List CV} (hl : look k m.rs = some (.row a n c e sz cs)) (hle : h ≤ n) (hs : a = none → h = 0) (kk : At C p tm ⟨m.B, m.G, (k, .row a h c e sz (cs.take (h * sz))) :: del k (del k m.rs)⟩) : At C p tm m :=
  fun act w cs0 hR hJ => kk act w cs0 hR (hJ.shrink k h hl hle hs)
theorem shrinkR {v : Value} (k h : Nat) {a : Option Addr} {n c : Nat} {e : TypeId} {sz : Nat} {cs : List CV} (hl : look k m.rs = some (.row a n c e sz cs)) (hle : h ≤ n) (hs : a = none → h = 0) (kk : RetP C v ⟨m.B, m.G, (k, .row a h c e sz (cs.take (h * sz))) :: del k (del k m.rs)⟩) : RetP C v m :=
  fun w hJ => kk w (hJ.shrink k h hl hle hs)
theorem nilR {v : Value} (k : Nat) (e : TypeId) (sz : Nat) (kk : RetP C v ⟨m.B, m.G, (k, .row none 0 0 e sz []) :: del k (del k m.rs)⟩) : RetP C v m := fun w hJ => kk w (hJ.nilrow k e sz)
theorem rowLe (k : Nat) {a : Option Addr} {n c : Nat} {e : TypeId} {sz : Nat} {cs : List CV} (hl : look k m.rs = some (.row a n c e sz cs)) (h : n ≤ c → At C p tm m) : At C p tm m := by
  rintro act w cs0 hR ⟨I, F, hJ⟩
  refine h ?_ act w cs0 hR ⟨I, F, hJ⟩
  rcases (hJ.own _ (look_mem hl)).2.2 with ⟨hv, hn⟩ | ⟨g, cap, cur, hv, hb, hg, hnc, _⟩
  · omega
  · obtain ⟨rfl, rfl⟩ : a = some ⟨g, 0, none⟩ ∧ c = cap := by simpa using hv
    exact hnc
/-- Zeros are appended to none. -/
theorem appZ (ok : Okc P T C res) {o : Oper} {s x : Operand} {t tn d : Nat} (ho : o.op = .call ⟨.builtin .append, #[s, x], #[t, tn]⟩) (hd : o.dst = some d) {i ie ii : TI} (hi : tf t T = some i) (hik : i.kd = 3) (hie : tf i.el T = some ie) (hz1 : ie.sz = 1) {z : Value} (hz : ie.zero = [z]) (htn : tf tn T = some ii) (hin : ii.kd = 8)
    (hs : ev tm s = some (.c (.v (.slice none 0 0)))) {kn : IntKind} {y : Int} {n : Nat} (hx : ev tm x = some (.c (.v (.int kn y)))) (hy : y = n) (h0 : 0 < n) (hb : n * ie.bt ≤ 140737488355328) (hm : n ≤ 140737488355328)
    (kk : ∀ g c, n ≤ c → sx T C res 1000 p (put C.n (some d) (.c (.rw d (some ⟨g, 0, none⟩) n c)) tm) ⟨m.B, m.G, (d, .row (some ⟨g, 0, none⟩) n c i.el 1 (List.replicate n (.v z))) :: del d (del d m.rs)⟩) : At C (.op o p) tm m := by
  rintro act w cs0 hR ⟨I, F, hJ⟩
  obtain ⟨y', e1, e2, e3, z', e4, e5⟩ := (ok.ty.get hie).g_some
  have hzc : z'.cells = #[z] := by apply Array.ext'; rw [e5, hz]
  subst hy
  have hr := Lib.run_append_nil_zeros (P := C.P) w t tn o.type i.el y' z' kn _ ((ok.ty.get hi).g_slice hik) ((ok.ty.get htn).g_int hin) e1 e4 n h0 (by rw [e2]; omega) (by omega) (by rw [e3]; omega)
  have hg := grownCap_ge w n 0 i.el
  have h1 : act.eval s = .slice none 0 0 := hR.eval hs
  have h2 : act.eval x = .int kn n := hR.eval hx
  have hrun : (execOp act.eval o).run C.P w = .ok (.value (.slice (some ⟨w.heap.size, 0, none⟩) n (grownCap w n 0 i.el))) (w.drew.alloc (.cells (Builtin.zeroCells z'.cells n ++ Builtin.zeroCells z'.cells (grownCap w n 0 i.el - n)) i.el)) := by
    simp [execOp, ho, resolve, invoke, builtin, h1, h2, hr]
  have hzz : ∀ j, (Builtin.zeroCells z'.cells j).toList = List.replicate j z := fun j => by
    rw [hzc]
    show (madeCells #[z] (j * 1)).toList = _
    rw [Nat.mul_one, toList_madeCells_one]
  have hcm : grownCap w n 0 i.el ≤ maxLen := grownCap_le_maxLen w n 0 i.el (by simp only [maxLen]; omega)
  have hup := hJ.upd d d (.row (some ⟨w.heap.size, 0, none⟩) n (grownCap w n 0 i.el) i.el 1 (List.replicate n (.v z))) noS (fun b => b = w.heap.size) (fun _ hb => hb.elim) (w' := w.drew.alloc (.cells (Builtin.zeroCells z'.cells n ++ Builtin.zeroCells z'.cells (grownCap w n 0 i.el - n)) i.el)) ((Ext.drew _ w).trans (Ext.alloc _ w.drew _ fun b hb => hb.1) fun _ hx => hx)
    ⟨fun b => by simp [Value.ownBlock]; exact ⟨fun h => h.symm, fun h => h.symm⟩, by simp, .inr ⟨w.heap.size, _, _, rfl, Nat.zero_le _, heap_alloc_new w.drew _, hg, hcm, by
      rw [← Array.length_toList]
      simp [hzz]
      omega, by simp [hzz, CV.val]⟩⟩ (fun b hb => ⟨by simp [hb], .inr (by omega)⟩) id
  exact op_value (ok.sx (kk w.heap.size _ hg)) hrun (by rw [hd]; exact hR.put (some d) (.c (.rw d (some ⟨w.heap.size, 0, none⟩) n _))) ⟨I, _, hup⟩
/-- A text's bytes stand in a block. -/
def textAt (g : Nat) (s : ByteArray) (W : World) : Prop := ∀ j, j < s.size → W.cell? ⟨g, j, none⟩ = some (.int .u8 (s.data.toList.getD j 0).toNat)
/-- A text, as bytes. -/
theorem strB (ok : Okc P T C res) {o : Oper} {src dst : TypeId} {x : Operand} (ho : o.op = .convert src dst x) {s : ByteArray} (hx : ev tm x = some (.c (.v (.string s)))) {i0 i ie : TI} (h0 : tf src T = some i0) (hi : tf dst T = some i) (hik : i.kd = 3) (hie : tf i.el T = some ie) (hk : ie.kd = 8) (hu : kdec ie.el = .u8)
    (kk : ∀ g c, s.size ≤ c → sx T C res 1000 p (put C.n o.dst (.c (.v (.slice (some ⟨g, 0, none⟩) s.size c))) tm) ⟨m.B, fun W => textAt g s W ∧ m.G W, m.rs⟩) : At C (.op o p) tm m := by
  rintro a w cs hR ⟨I, F, hJ⟩
  have h1 : a.eval x = .string s := hR.eval hx
  obtain ⟨d0, hd0, _⟩ := (ok.ty.get h0).g_under
  have h2 := Lib.run_convert_string_bytes (P := C.P) w src dst i.el s hd0 ((ok.ty.get hi).g_slice hik) (by have := (ok.ty.get hie).g_int hk; rw [hu] at this; exact this)
  have hrun : (execOp a.eval o).run C.P w = .ok (.value (.slice (some ⟨w.heap.size, 0, none⟩) s.size (grownCap w s.size 0 i.el))) (Lib.bytesWorld w i.el s) := by simp [execOp, ho, h1, h2]
  have hR2 := hR.put o.dst (.c (.v (.slice (some ⟨w.heap.size, 0, none⟩) s.size (grownCap w s.size 0 i.el))))
  refine op_value (w' := Lib.bytesWorld w i.el s) (ok.sx (kk w.heap.size _ (grownCap_ge w s.size 0 i.el))) hrun hR2 ⟨_, F, hJ.more (w' := Lib.bytesWorld w i.el s) ⟨rfl, rfl, rfl, by rw [Lib.bytesWorld_size]; omega, fun b hb => Lib.bytesWorld_at_old w _ s b hb⟩ fun W e j hj => ?_⟩
  rw [e.cell (.inr ⟨Nat.le_refl _, by rw [Lib.bytesWorld_size]; exact Nat.lt_succ_self _⟩), Lib.bytesWorld_cell w _ s j hj]
end
end Go.Proofs.Ytfmkpkmhhlakoaa.Sx

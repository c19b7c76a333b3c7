/- Sx, part 1: what is known of a world while a function runs: blocks that stay, blocks of one's own, and what follows. -/
import Derived.OrdersHeld
import Derived.Laws.AppendOwn
import Derived.Laws.Rows
import Derived.Laws.World
set_option linter.unusedVariables false
set_option linter.unusedSimpArgs false
namespace Go.Proofs.Ytfmkpkmhhlakoaa.Sx
open Go

/-- W is w later on: the blocks of I are as they were. -/
structure Ext (I : Nat → Prop) (w W : World) : Prop where
  os : W.os = w.os
  tape : W.tape = w.tape
  output : W.output = w.output
  size : w.heap.size ≤ W.heap.size
  block : ∀ b, I b → W.heap[b]? = w.heap[b]?
theorem Ext.refl (I : Nat → Prop) (w : World) : Ext I w w := ⟨rfl, rfl, rfl, Nat.le_refl _, fun _ _ => rfl⟩
theorem Ext.trans {I J : Nat → Prop} {a b c : World} (h : Ext I a b) (k : Ext J b c) (hs : ∀ x, I x → J x) : Ext I a c :=
  ⟨k.os.trans h.os, k.tape.trans h.tape, k.output.trans h.output, Nat.le_trans h.size k.size, fun x hx => (k.block x (hs x hx)).trans (h.block x hx)⟩
theorem Ext.mono {I J : Nat → Prop} {w W : World} (h : Ext I w W) (hs : ∀ x, J x → I x) : Ext J w W := ⟨h.os, h.tape, h.output, h.size, fun x hx => h.block x (hs x hx)⟩
theorem Ext.drew (I : Nat → Prop) (w : World) : Ext I w w.drew := ⟨rfl, rfl, rfl, Nat.le_refl _, fun _ _ => rfl⟩
theorem Ext.cell {I : Nat → Prop} {w W : World} (h : Ext I w W) {a : Addr} (hb : I a.block) : W.cell? a = w.cell? a := by simp only [World.cell?, h.block _ hb]
theorem Ext.alloc (I : Nat → Prop) (w : World) (o : Obj) (h : ∀ b, I b → b < w.heap.size) : Ext I w (w.alloc o) :=
  ⟨rfl, rfl, rfl, by simp, fun b hb => heap_alloc_old w o b (h b hb)⟩
theorem Ext.setCell (I : Nat → Prop) (w : World) (a : Addr) (v : Value) (h : ∀ b, I b → b ≠ a.block) : Ext I w (w.setCell a v) :=
  ⟨rfl, rfl, rfl, by simp, fun b hb => by simp [World.setCell, Array.getElem?_modify, (h b hb).symm]⟩

/-- A cell's value: any, a place in a block of one's own (number k; the block g), or a row of one's own. -/
inductive CV where
  | v (x : Value)
  | b (p : Bool)
  | bp (k g off : Nat)
  | rw (k : Nat) (a : Option Addr) (n c : Nat)
def CV.val : CV → Value
  | .v x => x
  | .b p => .bool p
  | .bp _ g off => .pointer (some ⟨g, off, none⟩)
  | .rw _ a n c => .slice a n c
/-- A value that is told, as a cell's value. -/
def nv : Value → CV
  | .bool p => .b p
  | x => .v x
theorem nv_val (x : Value) : (nv x).val = x := by cases x <;> rfl
inductive SV where
  | c (x : CV)
  | ag (l : List CV)
def SV.val : SV → Value
  | .c x => x.val
  | .ag l => .agg (l.map CV.val).toArray
abbrev Tm := List (Nat × SV)
def find (t : Nat) : Tm → Option SV
  | [] => none
  | (u, x) :: r => if t = u then some x else find t r
def ev (tm : Tm) : Operand → Option SV
  | .tmp t => find t tm
  | .const v => some (.c (.v v))
  | .global g => some (.c (.v (.pointer (some ⟨g, 0, none⟩))))
  | .func f => some (.c (.v (.func (.func f) #[] #[])))
def put (n : Nat) (d : Option Tmp) (x : SV) (tm : Tm) : Tm :=
  match d with
  | none => tm
  | some d => if d < n then (d, x) :: tm else tm
structure Rel (n : Nat) (tm : Tm) (a : Act) : Prop where
  size : a.tmps.size = n
  defers : a.defers = []
  get : ∀ t x, find t tm = some x → a.tmps[t]? = some x.val
theorem Rel.eval {n : Nat} {tm : Tm} {a : Act} (h : Rel n tm a) {x : Operand} {s : SV} (hx : ev tm x = some s) : a.eval x = s.val := by
  cases x with
  | tmp t =>
    have := h.get t s hx
    simp [Act.eval, this]
  | const v => simp only [ev, Option.some.injEq] at hx; subst hx; rfl
  | global g => simp only [ev, Option.some.injEq] at hx; subst hx; rfl
  | func f => simp only [ev, Option.some.injEq] at hx; subst hx; rfl
theorem Rel.put {n : Nat} {tm : Tm} {a : Act} (h : Rel n tm a) (d : Option Tmp) (x : SV) : Rel n (put n d x tm) (a.put d x.val) := by
  cases d with
  | none => exact h
  | some d =>
    refine ⟨by simp [Act.put, h.size], h.defers, fun t y hy => ?_⟩
    simp only [Sx.put] at hy
    simp only [Act.put, Array.getElem?_setIfInBounds]
    by_cases hd : d < n
    · rw [if_pos hd] at hy
      simp only [find] at hy
      by_cases ht : t = d
      · subst ht
        rw [if_pos rfl] at hy
        cases hy
        rw [if_pos rfl, if_pos (by rw [h.size]; exact hd)]
      · rw [if_neg ht] at hy
        rw [if_neg (fun e => ht e.symm)]
        exact h.get t y hy
    · rw [if_neg hd] at hy
      have h1 := h.get t y hy
      have h2 : t < n := by
        have := (Array.getElem?_eq_some_iff.1 h1).1
        rw [h.size] at this
        exact this
      rw [if_neg (by intro e; subst e; exact hd h2)]
      exact h1
/-- The same slots (of the same values), and others. -/
def Sub (t u : Tm) : Prop := ∀ k x, find k t = some x → ∃ y, find k u = some y ∧ y.val = x.val
theorem Rel.sub {n : Nat} {t u : Tm} {a : Act} (h : Rel n u a) (s : Sub t u) : Rel n t a := ⟨h.size, h.defers, fun k x hx => by
  obtain ⟨y, hy, e⟩ := s k x hx
  rw [← e]
  exact h.get k y hy⟩
/-- Slots one by one. -/
def subs (u : Tm) : Tm → Prop
  | [] => True
  | (k, x) :: r => (match find k u with | some y => y.val = x.val | none => False) ∧ subs u r
theorem Sub.of {u : Tm} : ∀ {t : Tm}, subs u t → Sub t u
  | [], _ => fun k x hx => by cases hx
  | (j, y) :: r, h => fun k x hx => by
    simp only [find] at hx
    by_cases e : k = j
    · subst e
      rw [if_pos rfl] at hx
      cases hx
      have h1 := h.1
      split at h1
      · rename_i z hz
        exact ⟨z, hz, h1⟩
      · exact h1.elim
    · rw [if_neg e] at hx
      exact Sub.of h.2 k x hx

/-- What one has of one's own: a variable's block, a row, or something else (that hangs on its blocks alone). -/
inductive Res where
  | box (g : Nat) (T : TypeId) (cs : List CV)
  | row (a : Option Addr) (n c : Nat) (T sz : Nat) (cs : List CV)
  | usr (A : (Nat → Prop) → World → Prop)
def Res.holds : Res → (Nat → Prop) → World → Prop
  | .box g T cs, S, w => (∀ b, S b ↔ b = g) ∧ w.heap[g]? = some (.cells (cs.map CV.val).toArray T (0, 0))
  | .row a n c T sz cs, S, w => (∀ b, S b ↔ (Value.slice a n c).ownBlock = some b) ∧ w.ownsRow 0 T sz (.slice a n c) n (cs.map CV.val)
  | .usr A, S, w => ∀ W, Ext S w W → A S W
theorem Res.holds.ext {r : Res} {S : Nat → Prop} {w W : World} (h : r.holds S w) (e : Ext S w W) : r.holds S W := by
  cases r with
  | box g T cs => exact ⟨h.1, (e.block g ((h.1 g).2 rfl)).trans h.2⟩
  | row a n c T sz cs =>
    obtain ⟨h1, h2, h3⟩ := h
    refine ⟨h1, h2, ?_⟩
    rcases h3 with h3 | ⟨g, cap, cur, he, hg, hh, r⟩
    · exact .inl h3
    · exact .inr ⟨g, cap, cur, he, hg, (e.block g ((h1 g).2 (by rw [he]; simp [Value.ownBlock]))).trans hh, r⟩
  | usr A => exact fun W' e' => h W' (e.trans e' fun _ hx => hx)
/-- What is known of it when nobody changes it any more. -/
def Res.fact : Res → World → Prop
  | .box g T cs, w => w.heap[g]? = some (.cells (cs.map CV.val).toArray T (0, 0))
  | .row a n c T sz cs, w => w.ownsRow 0 T sz (.slice a n c) n (cs.map CV.val)
  | .usr A, w => ∃ S, A S w
theorem Res.holds.fact {r : Res} {S : Nat → Prop} {w : World} (h : r.holds S w) : r.fact w := by
  cases r with
  | box g T cs => exact h.2
  | row a n c T sz cs => exact h.2
  | usr A => exact ⟨S, h w (Ext.refl _ _)⟩
structure Mem where
  B : World → Prop
  G : World → Prop
  rs : List (Nat × Res)
def look (k : Nat) : List (Nat × Res) → Option Res
  | [] => none
  | (j, r) :: t => if k = j then some r else look k t
theorem look_mem {k : Nat} {r : Res} : ∀ {l : List (Nat × Res)}, look k l = some r → (k, r) ∈ l
  | [], h => by cases h
  | (j, q) :: t, h => by
    simp only [look] at h
    by_cases e : k = j
    · subst e
      rw [if_pos rfl] at h
      cases h
      exact List.mem_cons_self
    · rw [if_neg e] at h
      exact List.mem_cons_of_mem _ (look_mem h)
def del (k : Nat) : List (Nat × Res) → List (Nat × Res)
  | [] => []
  | (j, r) :: t => if k = j then del k t else (j, r) :: del k t
theorem mem_del {k : Nat} {p : Nat × Res} : ∀ {l : List (Nat × Res)}, p ∈ del k l → p ∈ l ∧ p.1 ≠ k
  | [], h => by cases h
  | (j, r) :: t, h => by
    simp only [del] at h
    by_cases e : k = j
    · rw [if_pos e] at h
      exact ⟨List.mem_cons_of_mem _ (mem_del h).1, (mem_del h).2⟩
    · rw [if_neg e] at h
      rcases List.mem_cons.1 h with rfl | h
      · exact ⟨List.mem_cons_self, fun he => e he.symm⟩
      · exact ⟨List.mem_cons_of_mem _ (mem_del h).1, (mem_del h).2⟩

/-- What a function is held against: its begin, the blocks that it may read (I0), those that it was lent (S0), and what it is to answer. -/
structure Ctx where
  P : Program
  f : FuncId
  fn : Func
  n : Nat
  w0 : World
  I0 : Nat → Prop
  S0 : Nat → Prop
  α : Type
  enc : α → Value
  B : α → (Nat → Prop) → World → Prop
  R : α → World → Prop
/-- An ending that is as it should be: a value, what is handed back of one's own (S'), and what is known of it. -/
def FinP (w0 : World) (I0 S0 : Nat → Prop) {α : Type} (enc : α → Value) (B : α → (Nat → Prop) → World → Prop) (R : α → World → Prop) (e : Ending) (w' : World) : Prop :=
  ∃ x S', e = .returned (enc x) ∧ Ext (fun b => b < w0.heap.size ∧ ¬ S0 b) w0 w' ∧ (∀ b, S' b → b < w'.heap.size ∧ ¬ I0 b ∧ (b < w0.heap.size → S0 b)) ∧ B x S' w' ∧
    ∀ W, Ext (fun b => (I0 b ∨ (w0.heap.size ≤ b ∧ b < w'.heap.size)) ∧ ¬ S' b) w' W → R x W
abbrev noS : Nat → Prop := fun _ => False
abbrev noB {α : Type} : α → (Nat → Prop) → World → Prop := fun _ S _ => ∀ b, ¬ S b
structure Inv (C : Ctx) (m : Mem) (w : World) (I : Nat → Prop) (F : Nat → Nat → Prop) : Prop where
  grow : Ext (fun b => b < C.w0.heap.size ∧ ¬ C.S0 b) C.w0 w
  Isz : ∀ b, I b → b < w.heap.size
  I0 : ∀ b, C.I0 b → I b
  Iold : ∀ b, I b → b < C.w0.heap.size → C.I0 b
  own : ∀ p, p ∈ m.rs → p.2.holds (F p.1) w
  Fsz : ∀ p b, p ∈ m.rs → F p.1 b → b < w.heap.size ∧ ¬ I b ∧ (b < C.w0.heap.size → C.S0 b)
  disj : ∀ p q b, p ∈ m.rs → q ∈ m.rs → p.1 ≠ q.1 → F p.1 b → ¬ F q.1 b
  new : ∀ p b, p ∈ m.rs → p.1 < 1000 → F p.1 b → C.w0.heap.size ≤ b
  base : ∀ W, Ext I w W → m.B W
  know : ∀ W, Ext I w W → m.G W
def J (C : Ctx) (m : Mem) (w : World) : Prop := ∃ I F, Inv C m w I F
/-- Blocks of one thing of one's own (k) are changed, or new ones are made, and stand under k'. -/
theorem Inv.upd {C : Ctx} {m : Mem} {w w' : World} {I : Nat → Prop} {F : Nat → Nat → Prop} (h : Inv C m w I F) (k k' : Nat) (r' : Res) (D F' : Nat → Prop) (hD : ∀ b, D b → F k b ∧ ∃ r, (k, r) ∈ m.rs)
    (hw : Ext (fun b => b < w.heap.size ∧ ¬ D b) w w') (hr : r'.holds F' w') (hF : ∀ b, F' b → b < w'.heap.size ∧ (D b ∨ w.heap.size ≤ b)) (hk : k' < 1000 → k < 1000) :
    Inv C ⟨m.B, m.G, (k', r') :: del k' (del k m.rs)⟩ w' I (fun j => if j = k' then F' else F j) := by
  have hDI : ∀ b, D b → ¬ I b := fun b hb => by
    obtain ⟨h1, r, h2⟩ := hD b hb
    exact (h.Fsz (k, r) b h2 h1).2.1
  have hI : Ext I w w' := hw.mono fun b hb => ⟨h.Isz b hb, fun hd => hDI b hd hb⟩
  refine ⟨?_, fun b hb => Nat.lt_of_lt_of_le (h.Isz b hb) hw.size, h.I0, h.Iold, ?_, ?_, ?_, ?_, fun W e => h.base W (hI.trans e fun _ hx => hx), fun W e => h.know W (hI.trans e fun _ hx => hx)⟩
  · refine h.grow.trans hw fun b hb => ⟨Nat.lt_of_lt_of_le hb.1 h.grow.size, fun hd => ?_⟩
    obtain ⟨h1, r, h2⟩ := hD b hd
    exact hb.2 ((h.Fsz (k, r) b h2 h1).2.2 hb.1)
  · intro p hp
    rcases List.mem_cons.1 hp with rfl | hp
    · simpa using hr
    · obtain ⟨hp, n1⟩ := mem_del hp
      obtain ⟨hp, n2⟩ := mem_del hp
      simp only [n1, if_false]
      refine (h.own p hp).ext (hw.mono fun b hb => ⟨(h.Fsz p b hp hb).1, fun hd => ?_⟩)
      obtain ⟨h1, r, h2⟩ := hD b hd
      exact h.disj p (k, r) b hp h2 n2 hb h1
  · intro p b hp hb
    rcases List.mem_cons.1 hp with rfl | hp
    · simp only [if_true] at hb
      obtain ⟨h1, h2⟩ := hF b hb
      refine ⟨h1, ?_, ?_⟩
      · rcases h2 with h2 | h2
        · exact hDI b h2
        · exact fun hi => by have := h.Isz b hi; omega
      · intro hlt
        rcases h2 with h2 | h2
        · obtain ⟨h3, r, h4⟩ := hD b h2
          exact (h.Fsz (k, r) b h4 h3).2.2 hlt
        · have := h.grow.size
          omega
    · obtain ⟨hp, n1⟩ := mem_del hp
      obtain ⟨hp, n2⟩ := mem_del hp
      simp only [n1, if_false] at hb
      obtain ⟨h1, h2, h3⟩ := h.Fsz p b hp hb
      exact ⟨Nat.lt_of_lt_of_le h1 hw.size, h2, h3⟩
  · have key : ∀ p b, p ∈ m.rs → p.1 ≠ k → F' b → ¬ F p.1 b := fun p b hp n2 hb hq => by
      obtain ⟨h1, h2⟩ := hF b hb
      rcases h2 with h2 | h2
      · obtain ⟨h3, r, h4⟩ := hD b h2
        exact h.disj p (k, r) b hp h4 n2 hq h3
      · have := (h.Fsz p b hp hq).1
        omega
    intro p q b hp hq hne hb
    rcases List.mem_cons.1 hp with rfl | hp
    · rcases List.mem_cons.1 hq with rfl | hq
      · exact absurd rfl hne
      · obtain ⟨hq, n1⟩ := mem_del hq
        obtain ⟨hq, n2⟩ := mem_del hq
        simp only [if_true] at hb
        simp only [n1, if_false]
        exact key q b hq n2 hb
    · obtain ⟨hp, n1⟩ := mem_del hp
      obtain ⟨hp, n2⟩ := mem_del hp
      simp only [n1, if_false] at hb
      rcases List.mem_cons.1 hq with rfl | hq
      · simp only [if_true]
        exact fun hf => key p b hp n2 hf hb
      · obtain ⟨hq, n3⟩ := mem_del hq
        obtain ⟨hq, n4⟩ := mem_del hq
        simp only [n3, if_false]
        exact h.disj p q b hp hq hne hb
  · intro p b hp hlt hb
    rcases List.mem_cons.1 hp with rfl | hp
    · simp only [if_true] at hb
      rcases (hF b hb).2 with h2 | h2
      · obtain ⟨h3, r, h4⟩ := hD b h2
        exact h.new _ b h4 (hk hlt) h3
      · exact Nat.le_trans h.grow.size h2
    · obtain ⟨hp, n1⟩ := mem_del hp
      obtain ⟨hp, n2⟩ := mem_del hp
      simp only [n1, if_false] at hb
      exact h.new p b hp hlt hb
theorem J.drew {C : Ctx} {m : Mem} {w : World} (h : J C m w) : J C m w.drew := by
  obtain ⟨I, F, h⟩ := h
  exact ⟨I, F, h.grow.trans (Ext.drew _ _) fun _ hx => hx, h.Isz, h.I0, h.Iold, fun p hp => (h.own p hp).ext (Ext.drew _ _), h.Fsz, h.disj, h.new, fun W e => h.base W ((Ext.drew _ _).trans e fun _ hx => hx), fun W e => h.know W ((Ext.drew _ _).trans e fun _ hx => hx)⟩
/-- A variable's block is made. -/
theorem J.alloc {C : Ctx} {m : Mem} {w : World} (h : J C m w) (k : Nat) (T : TypeId) (cs : List CV) : J C ⟨m.B, m.G, (k, .box w.heap.size T cs) :: del k (del k m.rs)⟩ (w.alloc (.cells (cs.map CV.val).toArray T)) := by
  obtain ⟨I, F, h⟩ := h
  exact ⟨I, _, h.upd k k _ noS (fun b => b = w.heap.size) (fun _ hb => hb.elim) (Ext.alloc _ _ _ fun b hb => hb.1) ⟨fun b => Iff.rfl, heap_alloc_new w _⟩ (fun b hb => ⟨by simp [hb], .inr (by omega)⟩) id⟩
/-- A row is made. -/
theorem J.lit {C : Ctx} {m : Mem} {w : World} (h : J C m w) (k : Nat) (T sz n : Nat) (cs : List CV) (hn : n ≤ maxLen) (hl : cs.length = n * sz) : J C ⟨m.B, m.G, (k, .row (some ⟨w.heap.size, 0, none⟩) n n T sz cs) :: del k (del k m.rs)⟩ (w.alloc (.cells (cs.map CV.val).toArray T)) := by
  obtain ⟨I, F, h⟩ := h
  exact ⟨I, _, h.upd k k _ noS (fun b => b = w.heap.size) (fun _ hb => hb.elim) (Ext.alloc _ _ _ fun b hb => hb.1) ⟨fun b => by simp [Value.ownBlock]; exact ⟨fun h => h.symm, fun h => h.symm⟩, by simpa using hl, .inr ⟨w.heap.size, n, _, rfl, Nat.zero_le _, heap_alloc_new w _, Nat.le_refl _, hn, by simpa using hl, by simp [← hl, List.take_of_length_le]⟩⟩ (fun b hb => ⟨by simp [hb], .inr (by omega)⟩) id⟩
theorem J.cells {C : Ctx} {m : Mem} {w : World} (h : J C m w) {k g : Nat} {T : TypeId} {cs : List CV} (hl : look k m.rs = some (.box g T cs)) : w.heap[g]? = some (.cells (cs.map CV.val).toArray T (0, 0)) := by
  obtain ⟨I, F, h⟩ := h
  exact (h.own _ (look_mem hl)).2
/-- A block of one's own is written. -/
theorem J.write {C : Ctx} {m : Mem} {w w' : World} (h : J C m w) {k g : Nat} {T : TypeId} {cs cs' : List CV} (hl : look k m.rs = some (.box g T cs)) (hw : Ext (fun b => b ≠ g) w w') (hc : w'.heap[g]? = some (.cells (cs'.map CV.val).toArray T (0, 0))) :
    J C ⟨m.B, m.G, (k, .box g T cs') :: del k (del k m.rs)⟩ w' := by
  obtain ⟨I, F, h⟩ := h
  have h0 := h.own _ (look_mem hl)
  have hg : g < w'.heap.size := (Array.getElem?_eq_some_iff.1 hc).1
  exact ⟨I, _, h.upd k k _ (fun b => b = g) (fun b => b = g) (fun b hb => ⟨(h0.1 b).2 hb, _, look_mem hl⟩) (hw.mono fun b hb => hb.2) ⟨fun b => Iff.rfl, hc⟩ (fun b hb => ⟨by rw [hb]; exact hg, .inl hb⟩) id⟩
/-- Less is known, or less is one's own. -/
theorem J.weaken {C : Ctx} {m m' : Mem} {w : World} (h : J C m w) (hB : ∀ W, m.B W → m'.B W) (hG : ∀ W, m.G W → m'.G W) (hr : ∀ p, p ∈ m'.rs → p ∈ m.rs) : J C m' w := by
  obtain ⟨I, F, h⟩ := h
  exact ⟨I, F, h.grow, h.Isz, h.I0, h.Iold, fun p hp => h.own p (hr p hp), fun p b hp => h.Fsz p b (hr p hp), fun p q b hp hq => h.disj p q b (hr p hp) (hr q hq), fun p b hp => h.new p b (hr p hp), fun W e => hB W (h.base W e), fun W e => hG W (h.know W e)⟩
/-- More is known. -/
theorem Inv.learn {C : Ctx} {m : Mem} {w : World} {I : Nat → Prop} {F : Nat → Nat → Prop} (h : Inv C m w I F) {Q : World → Prop} (hq : ∀ W, Ext I w W → Q W) : Inv C ⟨m.B, fun W => Q W ∧ m.G W, m.rs⟩ w I F :=
  ⟨h.grow, h.Isz, h.I0, h.Iold, h.own, h.Fsz, h.disj, h.new, h.base, fun W e => ⟨hq W e, h.know W e⟩⟩
/-- A row of nothing. -/
theorem J.nilrow {C : Ctx} {m : Mem} {w : World} (h : J C m w) (k : Nat) (e : TypeId) (sz : Nat) : J C ⟨m.B, m.G, (k, .row none 0 0 e sz []) :: del k (del k m.rs)⟩ w := by
  obtain ⟨I, F, h⟩ := h
  exact ⟨I, _, h.upd k k _ noS noS (fun _ hb => hb.elim) ((Ext.refl (fun _ => True) w).mono fun _ _ => trivial) ⟨fun b => by simp [Value.ownBlock], by simp, .inl ⟨rfl, rfl⟩⟩ (fun b hb => hb.elim) id⟩
/-- Something of one's own is given up: it stays as it is, for good. -/
theorem J.pub {C : Ctx} {m : Mem} {w : World} (h : J C m w) {k : Nat} {r : Res} (hl : look k m.rs = some r) (hk : k < 1000) : J C ⟨m.B, fun W => r.fact W ∧ m.G W, del k m.rs⟩ w := by
  obtain ⟨I, F, h⟩ := h
  have hm := look_mem hl
  refine ⟨fun b => I b ∨ F k b, F, h.grow, fun b hb => ?_, fun b hb => .inl (h.I0 b hb), fun b hb hlt => ?_, fun p hp => h.own p (mem_del hp).1, fun p b hp hb => ?_, fun p q b hp hq => h.disj p q b (mem_del hp).1 (mem_del hq).1, fun p b hp => h.new p b (mem_del hp).1, fun W e => h.base W (e.mono fun _ hx => .inl hx), fun W e => ⟨?_, h.know W (e.mono fun _ hx => .inl hx)⟩⟩
  · rcases hb with hb | hb
    · exact h.Isz b hb
    · exact (h.Fsz _ b hm hb).1
  · rcases hb with hb | hb
    · exact h.Iold b hb hlt
    · exact absurd (h.new _ b hm hk hb) (by omega)
  · obtain ⟨hp, hne⟩ := mem_del hp
    obtain ⟨h1, h2, h3⟩ := h.Fsz p b hp hb
    refine ⟨h1, fun hx => ?_, h3⟩
    rcases hx with hx | hx
    · exact h2 hx
    · exact h.disj p (k, r) b hp hm hne hb hx
  · exact ((h.own _ hm).ext (e.mono fun _ hx => .inr hx)).fact
end Go.Proofs.Ytfmkpkmhhlakoaa.Sx

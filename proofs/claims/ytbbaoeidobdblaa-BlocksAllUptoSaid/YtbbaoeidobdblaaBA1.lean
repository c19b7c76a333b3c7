/- Laid together: Sxa, Sxb, Sxc, Sxd, Sxe, Sxf, App, Sxg. -/
import Derived.OrdersHeld
import Derived.Laws.AppendOwn
import Derived.Laws.Rows
import Derived.Laws.World
import Derived.Laws.Cells
import Derived.Laws.Tables
import Derived.WalkKit
import Derived.Laws.Sem
import Derived.Laws.OwnMore
import Derived.Deep.RegionLaw
/- Sx, part 1: what is known of a world while a function runs: blocks that stay, blocks of one's own, and what follows. -/
set_option linter.unusedVariables false
set_option linter.unusedSimpArgs false
namespace Go.Proofs.Ytbbaoeidobdblaa.Sx
open Go
/-- W is w later on: the blocks of I are as they were. -/
structure Ext (I : Nat → Prop) (w W : World) : Prop where
  os : W.os = w.os
  tape : W.tape = w.tape
  output : W.output = w.output
  size : w.heap.size ≤ W.heap.size
  block : ∀ b, I b → W.heap[b]? = w.heap[b]?
theorem Ext.refl (I : Nat → Prop) (w : World) : Ext I w w := ⟨rfl, rfl, rfl, Nat.le_refl _, fun _ _ => rfl⟩
theorem Ext.trans {I J : Nat → Prop} {a b c : World} (h : Ext I a b) (k : Ext J b c) (hs : ∀ x, I x → J x) : Ext I a c :=
  ⟨k.os.trans h.os, k.tape.trans h.tape, k.output.trans h.output, Nat.le_trans h.size k.size, fun x hx => (k.block x (hs x hx)).trans (h.block x hx)⟩
theorem Ext.mono {I J : Nat → Prop} {w W : World} (h : Ext I w W) (hs : ∀ x, J x → I x) : Ext J w W := ⟨h.os, h.tape, h.output, h.size, fun x hx => h.block x (hs x hx)⟩
theorem Ext.drew (I : Nat → Prop) (w : World) : Ext I w w.drew := ⟨rfl, rfl, rfl, Nat.le_refl _, fun _ _ => rfl⟩
theorem Ext.cell {I : Nat → Prop} {w W : World} (h : Ext I w W) {a : Addr} (hb : I a.block) : W.cell? a = w.cell? a := by simp only [World.cell?, h.block _ hb]
theorem Ext.alloc (I : Nat → Prop) (w : World) (o : Obj) (h : ∀ b, I b → b < w.heap.size) : Ext I w (w.alloc o) :=
  ⟨rfl, rfl, rfl, by simp, fun b hb => heap_alloc_old w o (h := h b hb)⟩
theorem Ext.setCell (I : Nat → Prop) (w : World) (a : Addr) (v : Value) (h : ∀ b, I b → b ≠ a.block) : Ext I w (w.setCell a v) :=
  ⟨rfl, rfl, rfl, by simp, fun b hb => by simp [World.setCell, Array.getElem?_modify, (h b hb).symm]⟩

/-- A cell's value: any, a place in a block of one's own (number k; the block g), or a row of one's own. -/
inductive CV where
  | v (x : Value)
  | b (p : Bool)
  | bp (k g off : Nat)
  | rw (k : Nat) (a : Option Addr) (n c : Nat)
def CV.val : CV → Value
  | .v x => x
  | .b p => .bool p
  | .bp _ g off => .pointer (some ⟨g, off, none⟩)
  | .rw _ a n c => .slice a n c
/-- A value that is told, as a cell's value. -/
def nv : Value → CV
  | .bool p => .b p
  | x => .v x
theorem nv_val (x : Value) : (nv x).val = x := by cases x <;> rfl
inductive SV where
  | c (x : CV)
  | ag (l : List CV)
def SV.val : SV → Value
  | .c x => x.val
  | .ag l => .agg (l.map CV.val).toArray
abbrev Tm := List (Nat × SV)
def find (t : Nat) : Tm → Option SV
  | [] => none
  | (u, x) :: r => if t = u then some x else find t r
def ev (tm : Tm) : Operand → Option SV
  | .tmp t => find t tm
  | .const v => some (.c (.v v))
  | .global g => some (.c (.v (.pointer (some ⟨g, 0, none⟩))))
  | .func f => some (.c (.v (.func (.func f) #[] #[])))
def put (n : Nat) (d : Option Tmp) (x : SV) (tm : Tm) : Tm :=
  match d with
  | none => tm
  | some d => if d < n then (d, x) :: tm else tm
structure Rel (n : Nat) (tm : Tm) (a : Act) : Prop where
  size : a.tmps.size = n
  defers : a.defers = []
  get : ∀ t x, find t tm = some x → a.tmps[t]? = some x.val
theorem Rel.eval {n : Nat} {tm : Tm} {a : Act} (h : Rel n tm a) {x : Operand} {s : SV} (hx : ev tm x = some s) : a.eval x = s.val := by
  cases x with
  | tmp t =>
    have := h.get t s hx
    simp [Act.eval, this]
  | const v => simp only [ev, Option.some.injEq] at hx; subst hx; rfl
  | global g => simp only [ev, Option.some.injEq] at hx; subst hx; rfl
  | func f => simp only [ev, Option.some.injEq] at hx; subst hx; rfl
theorem Rel.put {n : Nat} {tm : Tm} {a : Act} (h : Rel n tm a) (d : Option Tmp) (x : SV) : Rel n (put n d x tm) (a.put d x.val) := by
  cases d with
  | none => exact h
  | some d =>
    refine ⟨by simp [Act.put, h.size], h.defers, fun t y hy => ?_⟩
    simp only [Sx.put] at hy
    simp only [Act.put, Array.getElem?_setIfInBounds]
    by_cases hd : d < n
    · rw [if_pos hd] at hy
      simp only [find] at hy
      by_cases ht : t = d
      · subst ht
        rw [if_pos rfl] at hy
        cases hy
        rw [if_pos rfl, if_pos (by rw [h.size]; exact hd)]
      · rw [if_neg ht] at hy
        rw [if_neg (fun e => ht e.symm)]
        exact h.get t y hy
    · rw [if_neg hd] at hy
      have h1 := h.get t y hy
      have h2 : t < n := by
        have := (Array.getElem?_eq_some_iff.1 h1).1
        rw [h.size] at this
        exact this
      rw [if_neg (by intro e; subst e; exact hd h2)]
      exact h1
/-- The same slots (of the same values), and others. -/
def Sub (t u : Tm) : Prop := ∀ k x, find k t = some x → ∃ y, find k u = some y ∧ y.val = x.val
theorem Rel.sub {n : Nat} {t u : Tm} {a : Act} (h : Rel n u a) (s : Sub t u) : Rel n t a := ⟨h.size, h.defers, fun k x hx => by
  obtain ⟨y, hy, e⟩ := s k x hx
  rw [← e]
  exact h.get k y hy⟩
/-- Slots one by one. -/
def subs (u : Tm) : Tm → Prop
  | [] => True
  | (k, x) :: r => (match find k u with | some y => y.val = x.val | none => False) ∧ subs u r
theorem Sub.of {u : Tm} : ∀ {t : Tm}, subs u t → Sub t u
  | [], _ => fun k x hx => by cases hx
  | (j, y) :: r, h => fun k x hx => by
    simp only [find] at hx
    by_cases e : k = j
    · subst e
      rw [if_pos rfl] at hx
      cases hx
      have h1 := h.1
      split at h1
      · rename_i z hz
        exact ⟨z, hz, h1⟩
      · exact h1.elim
    · rw [if_neg e] at hx
      exact Sub.of h.2 k x hx

/-- What one has of one's own: a variable's block, a row, or something else (that hangs on its blocks alone). -/
inductive Res where
  | box (g : Nat) (T : TypeId) (cs : List CV)
  | row (a : Option Addr) (n c : Nat) (T sz : Nat) (cs : List CV)
  | usr (A : (Nat → Prop) → World → Prop)
def Res.holds : Res → (Nat → Prop) → World → Prop
  | .box g T cs, S, w => (∀ b, S b ↔ b = g) ∧ w.heap[g]? = some (.cells (cs.map CV.val).toArray T (0, 0))
  | .row a n c T sz cs, S, w => (∀ b, S b ↔ (Value.slice a n c).ownBlock = some b) ∧ w.ownsRow 0 T sz (.slice a n c) n (cs.map CV.val)
  | .usr A, S, w => ∀ W, Ext S w W → A S W
theorem Res.holds.ext {r : Res} {S : Nat → Prop} {w W : World} (h : r.holds S w) (e : Ext S w W) : r.holds S W := by
  cases r with
  | box g T cs => exact ⟨h.1, (e.block g ((h.1 g).2 rfl)).trans h.2⟩
  | row a n c T sz cs =>
    obtain ⟨h1, h2, h3⟩ := h
    refine ⟨h1, h2, ?_⟩
    rcases h3 with h3 | ⟨g, cap, cur, he, hg, hh, r⟩
    · exact .inl h3
    · exact .inr ⟨g, cap, cur, he, hg, (e.block g ((h1 g).2 (by rw [he]; simp [Value.ownBlock]))).trans hh, r⟩
  | usr A => exact fun W' e' => h W' (e.trans e' fun _ hx => hx)
/-- What is known of it when nobody changes it any more. -/
def Res.fact : Res → World → Prop
  | .box g T cs, w => w.heap[g]? = some (.cells (cs.map CV.val).toArray T (0, 0))
  | .row a n c T sz cs, w => w.ownsRow 0 T sz (.slice a n c) n (cs.map CV.val)
  | .usr A, w => ∃ S, A S w
theorem Res.holds.fact {r : Res} {S : Nat → Prop} {w : World} (h : r.holds S w) : r.fact w := by
  cases r with
  | box g T cs => exact h.2
  | row a n c T sz cs => exact h.2
  | usr A => exact ⟨S, h w (Ext.refl _ _)⟩
structure Mem where
  B : World → Prop
  G : World → Prop
  rs : List (Nat × Res)
def look (k : Nat) : List (Nat × Res) → Option Res
  | [] => none
  | (j, r) :: t => if k = j then some r else look k t
theorem look_mem {k : Nat} {r : Res} : ∀ {l : List (Nat × Res)}, look k l = some r → (k, r) ∈ l
  | [], h => by cases h
  | (j, q) :: t, h => by
    simp only [look] at h
    by_cases e : k = j
    · subst e
      rw [if_pos rfl] at h
      cases h
      exact List.mem_cons_self
    · rw [if_neg e] at h
      exact List.mem_cons_of_mem _ (look_mem h)
def del (k : Nat) : List (Nat × Res) → List (Nat × Res)
  | [] => []
  | (j, r) :: t => if k = j then del k t else (j, r) :: del k t
theorem mem_del {k : Nat} {p : Nat × Res} : ∀ {l : List (Nat × Res)}, p ∈ del k l → p ∈ l ∧ p.1 ≠ k
  | [], h => by cases h
  | (j, r) :: t, h => by
    simp only [del] at h
    by_cases e : k = j
    · rw [if_pos e] at h
      exact ⟨List.mem_cons_of_mem _ (mem_del h).1, (mem_del h).2⟩
    · rw [if_neg e] at h
      rcases List.mem_cons.1 h with rfl | h
      · exact ⟨List.mem_cons_self, fun he => e he.symm⟩
      · exact ⟨List.mem_cons_of_mem _ (mem_del h).1, (mem_del h).2⟩

/-- What a function is held against: its begin, the blocks that it may read (I0), those that it was lent (S0), and what it is to answer. -/
structure Ctx where
  P : Program
  f : FuncId
  fn : Func
  n : Nat
  w0 : World
  I0 : Nat → Prop
  S0 : Nat → Prop
  α : Type
  enc : α → Value
  B : α → (Nat → Prop) → World → Prop
  R : α → World → Prop
/-- An ending that is as it should be: a value, what is handed back of one's own (S'), and what is known of it. -/
def FinP (w0 : World) (I0 S0 : Nat → Prop) {α : Type} (enc : α → Value) (B : α → (Nat → Prop) → World → Prop) (R : α → World → Prop) (e : Ending) (w' : World) : Prop :=
  ∃ x S', e = .returned (enc x) ∧ Ext (fun b => b < w0.heap.size ∧ ¬ S0 b) w0 w' ∧ (∀ b, S' b → b < w'.heap.size ∧ ¬ I0 b ∧ (b < w0.heap.size → S0 b)) ∧ B x S' w' ∧
    ∀ W, Ext (fun b => (I0 b ∨ (w0.heap.size ≤ b ∧ b < w'.heap.size)) ∧ ¬ S' b) w' W → R x W
abbrev noS : Nat → Prop := fun _ => False
abbrev noB {α : Type} : α → (Nat → Prop) → World → Prop := fun _ S _ => ∀ b, ¬ S b
structure Inv (C : Ctx) (m : Mem) (w : World) (I : Nat → Prop) (F : Nat → Nat → Prop) : Prop where
  grow : Ext (fun b => b < C.w0.heap.size ∧ ¬ C.S0 b) C.w0 w
  Isz : ∀ b, I b → b < w.heap.size
  I0 : ∀ b, C.I0 b → I b
  Iold : ∀ b, I b → b < C.w0.heap.size → C.I0 b
  own : ∀ p, p ∈ m.rs → p.2.holds (F p.1) w
  Fsz : ∀ p b, p ∈ m.rs → F p.1 b → b < w.heap.size ∧ ¬ I b ∧ (b < C.w0.heap.size → C.S0 b)
  disj : ∀ p q b, p ∈ m.rs → q ∈ m.rs → p.1 ≠ q.1 → F p.1 b → ¬ F q.1 b
  new : ∀ p b, p ∈ m.rs → p.1 < 1000 → F p.1 b → C.w0.heap.size ≤ b
  base : ∀ W, Ext I w W → m.B W
  know : ∀ W, Ext I w W → m.G W
def J (C : Ctx) (m : Mem) (w : World) : Prop := ∃ I F, Inv C m w I F
/-- Blocks of one thing of one's own (k) are changed, or new ones are made, and stand under k'. -/
theorem Inv.upd {C : Ctx} {m : Mem} {w w' : World} {I : Nat → Prop} {F : Nat → Nat → Prop} (h : Inv C m w I F) (k k' : Nat) (r' : Res) (D F' : Nat → Prop) (hD : ∀ b, D b → F k b ∧ ∃ r, (k, r) ∈ m.rs)
    (hw : Ext (fun b => b < w.heap.size ∧ ¬ D b) w w') (hr : r'.holds F' w') (hF : ∀ b, F' b → b < w'.heap.size ∧ (D b ∨ w.heap.size ≤ b)) (hk : k' < 1000 → k < 1000) :
    Inv C ⟨m.B, m.G, (k', r') :: del k' (del k m.rs)⟩ w' I (fun j => if j = k' then F' else F j) := by
  have hDI : ∀ b, D b → ¬ I b := fun b hb => by
    obtain ⟨h1, r, h2⟩ := hD b hb
    exact (h.Fsz (k, r) b h2 h1).2.1
  have hI : Ext I w w' := hw.mono fun b hb => ⟨h.Isz b hb, fun hd => hDI b hd hb⟩
  refine ⟨?_, fun b hb => Nat.lt_of_lt_of_le (h.Isz b hb) hw.size, h.I0, h.Iold, ?_, ?_, ?_, ?_, fun W e => h.base W (hI.trans e fun _ hx => hx), fun W e => h.know W (hI.trans e fun _ hx => hx)⟩
  · refine h.grow.trans hw fun b hb => ⟨Nat.lt_of_lt_of_le hb.1 h.grow.size, fun hd => ?_⟩
    obtain ⟨h1, r, h2⟩ := hD b hd
    exact hb.2 ((h.Fsz (k, r) b h2 h1).2.2 hb.1)
  · intro p hp
    rcases List.mem_cons.1 hp with rfl | hp
    · simpa using hr
    · obtain ⟨hp, n1⟩ := mem_del hp
      obtain ⟨hp, n2⟩ := mem_del hp
      simp only [n1, if_false]
      refine (h.own p hp).ext (hw.mono fun b hb => ⟨(h.Fsz p b hp hb).1, fun hd => ?_⟩)
      obtain ⟨h1, r, h2⟩ := hD b hd
      exact h.disj p (k, r) b hp h2 n2 hb h1
  · intro p b hp hb
    rcases List.mem_cons.1 hp with rfl | hp
    · simp only [if_true] at hb
      obtain ⟨h1, h2⟩ := hF b hb
      refine ⟨h1, ?_, ?_⟩
      · rcases h2 with h2 | h2
        · exact hDI b h2
        · exact fun hi => by have := h.Isz b hi; omega
      · intro hlt
        rcases h2 with h2 | h2
        · obtain ⟨h3, r, h4⟩ := hD b h2
          exact (h.Fsz (k, r) b h4 h3).2.2 hlt
        · have := h.grow.size
          omega
    · obtain ⟨hp, n1⟩ := mem_del hp
      obtain ⟨hp, n2⟩ := mem_del hp
      simp only [n1, if_false] at hb
      obtain ⟨h1, h2, h3⟩ := h.Fsz p b hp hb
      exact ⟨Nat.lt_of_lt_of_le h1 hw.size, h2, h3⟩
  · have key : ∀ p b, p ∈ m.rs → p.1 ≠ k → F' b → ¬ F p.1 b := fun p b hp n2 hb hq => by
      obtain ⟨h1, h2⟩ := hF b hb
      rcases h2 with h2 | h2
      · obtain ⟨h3, r, h4⟩ := hD b h2
        exact h.disj p (k, r) b hp h4 n2 hq h3
      · have := (h.Fsz p b hp hq).1
        omega
    intro p q b hp hq hne hb
    rcases List.mem_cons.1 hp with rfl | hp
    · rcases List.mem_cons.1 hq with rfl | hq
      · exact absurd rfl hne
      · obtain ⟨hq, n1⟩ := mem_del hq
        obtain ⟨hq, n2⟩ := mem_del hq
        simp only [if_true] at hb
        simp only [n1, if_false]
        exact key q b hq n2 hb
    · obtain ⟨hp, n1⟩ := mem_del hp
      obtain ⟨hp, n2⟩ := mem_del hp
      simp only [n1, if_false] at hb
      rcases List.mem_cons.1 hq with rfl | hq
      · simp only [if_true]
        exact fun hf => key p b hp n2 hf hb
      · obtain ⟨hq, n3⟩ := mem_del hq
        obtain ⟨hq, n4⟩ := mem_del hq
        simp only [n3, if_false]
        exact h.disj p q b hp hq hne hb
  · intro p b hp hlt hb
    rcases List.mem_cons.1 hp with rfl | hp
    · simp only [if_true] at hb
      rcases (hF b hb).2 with h2 | h2
      · obtain ⟨h3, r, h4⟩ := hD b h2
        exact h.new _ b h4 (hk hlt) h3
      · exact Nat.le_trans h.grow.size h2
    · obtain ⟨hp, n1⟩ := mem_del hp
      obtain ⟨hp, n2⟩ := mem_del hp
      simp only [n1, if_false] at hb
      exact h.new p b hp hlt hb
theorem J.drew {C : Ctx} {m : Mem} {w : World} (h : J C m w) : J C m w.drew := by
  obtain ⟨I, F, h⟩ := h
  exact ⟨I, F, h.grow.trans (Ext.drew _ _) fun _ hx => hx, h.Isz, h.I0, h.Iold, fun p hp => (h.own p hp).ext (Ext.drew _ _), h.Fsz, h.disj, h.new, fun W e => h.base W ((Ext.drew _ _).trans e fun _ hx => hx), fun W e => h.know W ((Ext.drew _ _).trans e fun _ hx => hx)⟩
/-- A variable's block is made. -/
theorem J.alloc {C : Ctx} {m : Mem} {w : World} (h : J C m w) (k : Nat) (T : TypeId) (cs : List CV) : J C ⟨m.B, m.G, (k, .box w.heap.size T cs) :: del k (del k m.rs)⟩ (w.alloc (.cells (cs.map CV.val).toArray T)) := by
  obtain ⟨I, F, h⟩ := h
  exact ⟨I, _, h.upd k k _ noS (fun b => b = w.heap.size) (fun _ hb => hb.elim) (Ext.alloc _ _ _ fun b hb => hb.1) ⟨fun b => Iff.rfl, heap_alloc_new w _⟩ (fun b hb => ⟨by simp [hb], .inr (by omega)⟩) id⟩
/-- A row is made. -/
theorem J.lit {C : Ctx} {m : Mem} {w : World} (h : J C m w) (k : Nat) (T sz n : Nat) (cs : List CV) (hn : n ≤ maxLen) (hl : cs.length = n * sz) : J C ⟨m.B, m.G, (k, .row (some ⟨w.heap.size, 0, none⟩) n n T sz cs) :: del k (del k m.rs)⟩ (w.alloc (.cells (cs.map CV.val).toArray T)) := by
  obtain ⟨I, F, h⟩ := h
  exact ⟨I, _, h.upd k k _ noS (fun b => b = w.heap.size) (fun _ hb => hb.elim) (Ext.alloc _ _ _ fun b hb => hb.1) ⟨fun b => by simp [Value.ownBlock]; exact ⟨fun h => h.symm, fun h => h.symm⟩, by simpa using hl, .inr ⟨w.heap.size, n, _, rfl, Nat.zero_le _, heap_alloc_new w _, Nat.le_refl _, hn, by simpa using hl, by simp [← hl, List.take_of_length_le]⟩⟩ (fun b hb => ⟨by simp [hb], .inr (by omega)⟩) id⟩
theorem J.cells {C : Ctx} {m : Mem} {w : World} (h : J C m w) {k g : Nat} {T : TypeId} {cs : List CV} (hl : look k m.rs = some (.box g T cs)) : w.heap[g]? = some (.cells (cs.map CV.val).toArray T (0, 0)) := by
  obtain ⟨I, F, h⟩ := h
  exact (h.own _ (look_mem hl)).2
/-- A block of one's own is written. -/
theorem J.write {C : Ctx} {m : Mem} {w w' : World} (h : J C m w) {k g : Nat} {T : TypeId} {cs cs' : List CV} (hl : look k m.rs = some (.box g T cs)) (hw : Ext (fun b => b ≠ g) w w') (hc : w'.heap[g]? = some (.cells (cs'.map CV.val).toArray T (0, 0))) :
    J C ⟨m.B, m.G, (k, .box g T cs') :: del k (del k m.rs)⟩ w' := by
  obtain ⟨I, F, h⟩ := h
  have h0 := h.own _ (look_mem hl)
  have hg : g < w'.heap.size := (Array.getElem?_eq_some_iff.1 hc).1
  exact ⟨I, _, h.upd k k _ (fun b => b = g) (fun b => b = g) (fun b hb => ⟨(h0.1 b).2 hb, _, look_mem hl⟩) (hw.mono fun b hb => hb.2) ⟨fun b => Iff.rfl, hc⟩ (fun b hb => ⟨by rw [hb]; exact hg, .inl hb⟩) id⟩
/-- Less is known, or less is one's own. -/
theorem J.weaken {C : Ctx} {m m' : Mem} {w : World} (h : J C m w) (hB : ∀ W, m.B W → m'.B W) (hG : ∀ W, m.G W → m'.G W) (hr : ∀ p, p ∈ m'.rs → p ∈ m.rs) : J C m' w := by
  obtain ⟨I, F, h⟩ := h
  exact ⟨I, F, h.grow, h.Isz, h.I0, h.Iold, fun p hp => h.own p (hr p hp), fun p b hp => h.Fsz p b (hr p hp), fun p q b hp hq => h.disj p q b (hr p hp) (hr q hq), fun p b hp => h.new p b (hr p hp), fun W e => hB W (h.base W e), fun W e => hG W (h.know W e)⟩
/-- More is known. -/
theorem Inv.learn {C : Ctx} {m : Mem} {w : World} {I : Nat → Prop} {F : Nat → Nat → Prop} (h : Inv C m w I F) {Q : World → Prop} (hq : ∀ W, Ext I w W → Q W) : Inv C ⟨m.B, fun W => Q W ∧ m.G W, m.rs⟩ w I F :=
  ⟨h.grow, h.Isz, h.I0, h.Iold, h.own, h.Fsz, h.disj, h.new, h.base, fun W e => ⟨hq W e, h.know W e⟩⟩
/-- A row of nothing. -/
theorem J.nilrow {C : Ctx} {m : Mem} {w : World} (h : J C m w) (k : Nat) (e : TypeId) (sz : Nat) : J C ⟨m.B, m.G, (k, .row none 0 0 e sz []) :: del k (del k m.rs)⟩ w := by
  obtain ⟨I, F, h⟩ := h
  exact ⟨I, _, h.upd k k _ noS noS (fun _ hb => hb.elim) ((Ext.refl (fun _ => True) w).mono fun _ _ => trivial) ⟨fun b => by simp [Value.ownBlock], by simp, .inl ⟨rfl, rfl⟩⟩ (fun b hb => hb.elim) id⟩
/-- Something of one's own is given up: it stays as it is, for good. -/
theorem J.pub {C : Ctx} {m : Mem} {w : World} (h : J C m w) {k : Nat} {r : Res} (hl : look k m.rs = some r) (hk : k < 1000) : J C ⟨m.B, fun W => r.fact W ∧ m.G W, del k m.rs⟩ w := by
  obtain ⟨I, F, h⟩ := h
  have hm := look_mem hl
  refine ⟨fun b => I b ∨ F k b, F, h.grow, fun b hb => ?_, fun b hb => .inl (h.I0 b hb), fun b hb hlt => ?_, fun p hp => h.own p (mem_del hp).1, fun p b hp hb => ?_, fun p q b hp hq => h.disj p q b (mem_del hp).1 (mem_del hq).1, fun p b hp => h.new p b (mem_del hp).1, fun W e => h.base W (e.mono fun _ hx => .inl hx), fun W e => ⟨?_, h.know W (e.mono fun _ hx => .inl hx)⟩⟩
  · rcases hb with hb | hb
    · exact h.Isz b hb
    · exact (h.Fsz _ b hm hb).1
  · rcases hb with hb | hb
    · exact h.Iold b hb hlt
    · exact absurd (h.new _ b hm hk hb) (by omega)
  · obtain ⟨hp, hne⟩ := mem_del hp
    obtain ⟨h1, h2, h3⟩ := h.Fsz p b hp hb
    refine ⟨h1, fun hx => ?_, h3⟩
    rcases hx with hx | hx
    · exact h2 hx
    · exact h.disj p (k, r) b hp hm hne hb hx
  · exact ((h.own _ hm).ext (e.mono fun _ hx => .inr hx)).fact
end Go.Proofs.Ytbbaoeidobdblaa.Sx

/- Sx, part 2: what single operations yield: those that hang on slots and on blocks of one's own alone. -/
set_option linter.unusedVariables false
set_option linter.unusedSimpArgs false
namespace Go.Proofs.Ytbbaoeidobdblaa.Sx
open Go
/-- What is asked of a type. kd: 0 any, 1 struct, 2 array, 3 slice, 4 string, 5 map, 6 pointer, 7 bool, 8 int. -/
structure TI where
  kd : Nat
  sz : Nat
  bt : Nat
  zero : List Value
  fl : List (Nat × Nat × Bool)
  el : Nat
  n : Nat
inductive Ty where
  | n
  | b (l : Ty) (k : Nat) (x : TI) (r : Ty)
def tf (t : Nat) : Ty → Option TI
  | .n => none
  | .b l k x r => if t = k then some x else if t < k then tf t l else tf t r
def TI.agg (i : TI) : Bool := i.kd == 1 || i.kd == 2
def aggB (P : Program) (t : TypeId) : Option Bool := match P.underlying t with | some (.struct _) | some (.array _ _) => some true | some _ => some false | none => none
def szB (P : Program) (t : TypeId) : Nat := match P.info? t with | some i => i.size | none => 0
def kcode : IntKind → Nat
  | .i8 => 0 | .i16 => 1 | .i32 => 2 | .i64 => 3 | .u8 => 4 | .u16 => 5 | .u32 => 6 | .u64 => 7
def kdec : Nat → IntKind
  | 0 => .i8 | 1 => .i16 | 2 => .i32 | 3 => .i64 | 4 => .u8 | 5 => .u16 | 6 => .u32 | _ => .u64
theorem kdec_code (k : IntKind) : kdec (kcode k) = k := by cases k <;> rfl
def undB (P : Program) (t : TypeId) (i : TI) : Bool :=
  match P.underlying t with
  | some (.struct fs) => i.kd == 1 && (fs.toList.map fun f => (f.offset, szB P f.type, aggB P f.type)) == i.fl.map fun x => (x.1, x.2.1, some x.2.2)
  | some (.array n e) => i.kd == 2 && i.n == n && i.el == e
  | some (.slice e) => i.kd == 3 && i.el == e
  | some .string => i.kd == 4
  | some (.map _ _) => i.kd == 5
  | some (.pointer e) => i.kd == 6 && i.el == e
  | some .bool => i.kd == 7
  | some (.int k) => i.kd == 8 && i.el == kcode k
  | some _ => i.kd == 0
  | none => false
structure TIok (P : Program) (t : TypeId) (i : TI) : Prop where
  info : (P.info? t).map (fun x => (x.size, x.bytes)) = some (i.sz, i.bt)
  zero : ((P.info? t).bind (·.zero)).map (fun z => z.cells.toList) = some i.zero
  und : undB P t i = true
def TyOk (P : Program) : Ty → Prop
  | .n => True
  | .b l k x r => TyOk P l ∧ TIok P k x ∧ TyOk P r
theorem TyOk.get {P : Program} {t : TypeId} {i : TI} : ∀ {T : Ty}, TyOk P T → tf t T = some i → TIok P t i
  | .n, _, h => by cases h
  | .b l k x r, ok, h => by
    simp only [tf] at h
    by_cases e : t = k
    · subst e
      rw [if_pos rfl] at h
      cases h
      exact ok.2.1
    · rw [if_neg e] at h
      split at h
      · exact TyOk.get ok.1 h
      · exact TyOk.get ok.2.2 h
section
variable {P : Program} {t : TypeId} {i : TI}
theorem TIok.g_some (h : TIok P t i) : ∃ x, P.info? t = some x ∧ x.size = i.sz ∧ x.bytes = i.bt ∧ ∃ z, x.zero = some z ∧ z.cells.toList = i.zero := by
  have h1 := h.info
  have h2 := h.zero
  cases hx : P.info? t with
  | none => rw [hx] at h1; cases h1
  | some x =>
    rw [hx] at h1 h2
    simp only [Option.map_some, Option.some.injEq, Prod.mk.injEq] at h1
    cases hz : x.zero with
    | none => simp [hz] at h2
    | some z => exact ⟨x, rfl, h1.1, h1.2, z, hz, by simpa [hz] using h2⟩
theorem TIok.g_sizeOf (h : TIok P t i) (w : World) : (sizeOf t).run P w = .ok i.sz w := by
  obtain ⟨x, hx, hs, _⟩ := h.g_some
  simp [Go.sizeOf, typeInfo, hx, hs]
theorem TIok.g_under (h : TIok P t i) : ∃ d, P.underlying t = some d ∧ (d matches .struct _ | .array _ _) = i.agg := by
  have hu := h.und
  unfold undB at hu
  unfold TI.agg
  cases hd : P.underlying t with
  | none => rw [hd] at hu; cases hu
  | some d =>
    refine ⟨d, rfl, ?_⟩
    rw [hd] at hu
    cases d <;> simp_all
theorem TIok.g_isAgg (h : TIok P t i) (w : World) : (isAgg t).run P w = .ok i.agg w := by
  obtain ⟨d, hd, ha⟩ := h.g_under
  rw [← ha]
  unfold Go.isAgg
  cases d <;> simp [underlying, hd]
theorem TIok.g_zeroValue (h : TIok P t i) (w : World) : ∃ z, (zeroValue t).run P w = .ok z w ∧ z.cells.toList = i.zero := by
  obtain ⟨x, hx, _, _, z, hz, hc⟩ := h.g_some
  exact ⟨z, by simp [Go.zeroValue, typeInfo, hx, hz], hc⟩
theorem TIok.g_struct (h : TIok P t i) (hk : i.kd = 1) : ∃ fs, P.underlying t = some (.struct fs) ∧ (fs.toList.map fun f => (f.offset, szB P f.type, aggB P f.type)) = i.fl.map fun x => (x.1, x.2.1, some x.2.2) := by
  have hu := h.und
  unfold undB at hu
  cases hd : P.underlying t with
  | none => rw [hd] at hu; cases hu
  | some d =>
    rw [hd] at hu
    cases d <;> simp_all
theorem TIok.g_array (h : TIok P t i) (hk : i.kd = 2) : P.underlying t = some (.array i.n i.el) := by
  have hu := h.und
  unfold undB at hu
  cases hd : P.underlying t with
  | none => rw [hd] at hu; cases hu
  | some d =>
    rw [hd] at hu
    cases d <;> simp_all
theorem TIok.g_slice (h : TIok P t i) (hk : i.kd = 3) : P.underlying t = some (.slice i.el) := by
  have hu := h.und
  unfold undB at hu
  cases hd : P.underlying t with
  | none => rw [hd] at hu; cases hu
  | some d =>
    rw [hd] at hu
    cases d <;> simp_all
theorem TIok.g_string (h : TIok P t i) (hk : i.kd = 4) : P.underlying t = some .string := by
  have hu := h.und
  unfold undB at hu
  cases hd : P.underlying t with
  | none => rw [hd] at hu; cases hu
  | some d =>
    rw [hd] at hu
    cases d <;> simp_all
theorem TIok.g_pointer (h : TIok P t i) (hk : i.kd = 6) : P.underlying t = some (.pointer i.el) := by
  have hu := h.und
  unfold undB at hu
  cases hd : P.underlying t with
  | none => rw [hd] at hu; cases hu
  | some d =>
    rw [hd] at hu
    cases d <;> simp_all
theorem TIok.g_bool (h : TIok P t i) (hk : i.kd = 7) : P.underlying t = some .bool := by
  have hu := h.und
  unfold undB at hu
  cases hd : P.underlying t with
  | none => rw [hd] at hu; cases hu
  | some d =>
    rw [hd] at hu
    cases d <;> simp_all
theorem TIok.g_int (h : TIok P t i) (hk : i.kd = 8) : P.underlying t = some (.int (kdec i.el)) := by
  have hu := h.und
  unfold undB at hu
  cases hd : P.underlying t with
  | none => rw [hd] at hu; cases hu
  | some d =>
    rw [hd] at hu
    cases d <;> simp_all [kdec_code]
end
theorem addr_add (g o n : Nat) : (⟨g, o, none⟩ : Addr).add n = ⟨g, o + n, none⟩ := by
  unfold Addr.add
  split
  · rename_i h; subst h; rfl
  · rfl
/-- Cells of a value. -/
def cellsOf : SV → List CV
  | .ag l => l
  | .c (.v (.agg a)) => a.toList.map .v
  | .c x => [x]
theorem cellsOf_val (s : SV) : ((cellsOf s).map CV.val) = s.val.cells.toList := by
  cases s with
  | ag l => simp [cellsOf, SV.val, Value.cells]
  | c x =>
    cases x with
    | v x => cases x <;> simp [cellsOf, SV.val, CV.val, Value.cells, Function.comp_def]
    | b p => rfl
    | bp k g o => rfl
    | rw k a n c => rfl
/-- A variable is loaded. -/
theorem load_agg {P : Program} {t : TypeId} {i : TI} (h : TIok P t i) {w : World} {g o : Nat} {cs : List CV} (hc : ∀ j, j < cs.length → w.cell? ⟨g, j, none⟩ = some (cs.getD j (.v undef)).val) (ho : o + i.sz ≤ cs.length) (ha : i.agg = true) :
    (loadVar t ⟨g, o, none⟩).run P w = .ok (SV.ag ((cs.drop o).take i.sz)).val w := by
  unfold loadVar
  have hr := run_loadCellsFrom (P := P) (w := w) ⟨g, o, none⟩ (fun j => (cs.getD (o + j) (.v undef)).val) i.sz 0 #[] (fun j hj => by
    rw [addr_add]
    simpa using hc (o + j) (by omega))
  have hr' : (loadCells ⟨g, o, none⟩ i.sz).run P w = _ := hr
  simp only [Sem.run_bind, h.g_isAgg, ha, Result.andThen_ok, if_true, h.g_sizeOf, hr', Sem.run_pure]
  simp only [SV.val]
  congr 2
  apply Array.ext
  · simp; omega
  · intro j h1 h2
    simp at h1 h2
    simp [List.getD, show o + j < cs.length by omega]
theorem load_one {P : Program} {t : TypeId} {i : TI} (h : TIok P t i) {w : World} {a : Addr} {v : Value} (hc : w.cell? a = some v) (ha : i.agg = false) : (loadVar t a).run P w = .ok v w := by
  unfold loadVar
  simp only [Sem.run_bind, h.g_isAgg, ha, Result.andThen_ok, Bool.false_eq_true, if_false, load, Sem.run, hc]
/-- Cells are written, one by one. -/
def upd (cs : List CV) (o : Nat) : List CV → List CV
  | [] => cs
  | x :: r => upd (cs.set o x) (o + 1) r
theorem upd_length (o : Nat) (l : List CV) : ∀ cs : List CV, (upd cs o l).length = cs.length := by
  induction l generalizing o with
  | nil => exact fun _ => rfl
  | cons x r ih => intro cs; rw [upd, ih]; simp
def one : Value → Prop
  | .agg _ => False
  | .tuple _ => False
  | _ => True
def ones : List CV → Prop
  | [] => True
  | x :: r => one x.val ∧ ones r
theorem storeCells_run {P : Program} (g o : Nat) (T : TypeId) : ∀ (l : List CV) (j : Nat) (cs : List CV) (w : World), w.heap[g]? = some (.cells (cs.map CV.val).toArray T (0, 0)) → o + j + l.length ≤ cs.length → ones l →
    ∃ w', (storeCells ⟨g, o, none⟩ (l.map CV.val) j).run P w = .ok () w' ∧ Ext (fun b => b ≠ g) w w' ∧ w'.heap[g]? = some (.cells ((upd cs (o + j) l).map CV.val).toArray T (0, 0))
  | [], j, cs, w, hg, ho, h1 => ⟨w, rfl, Ext.refl _ _, hg⟩
  | x :: r, j, cs, w, hg, ho, h1 => by
    have hlen : o + j < cs.length := by simp at ho; omega
    have hc : w.cell? ⟨g, o + j, none⟩ = some (cs.getD (o + j) (.v undef)).val := by
      rw [cell_of_row w g (o + j) _ _ _ hg]
      simp [hlen]
    have hf : w.frozen? ⟨g, o + j, none⟩ = false := by simp [World.frozen?, hg]
    have hst : (w.setCell ⟨g, o + j, none⟩ x.val).heap[g]? = some (.cells ((cs.set (o + j) x).map CV.val).toArray T (0, 0)) := by
      have hgl := (Array.getElem?_eq_some_iff.1 hg).1
      simp only [World.setCell, Array.getElem?_modify, if_true, hg, Option.map_some]
      simp [List.map_set]
    obtain ⟨w', hr, he, hh⟩ := storeCells_run g o T r (j + 1) (cs.set (o + j) x) (w.setCell ⟨g, o + j, none⟩ x.val) hst (by simp at ho ⊢; omega) h1.2
    refine ⟨w', ?_, (Ext.setCell (fun b => b ≠ g) w ⟨g, o + j, none⟩ x.val (fun b hb => hb)).trans he fun _ hx => hx, hh⟩
    have hone := h1.1
    have hs : (store ((⟨g, o, none⟩ : Addr).add j) x.val).run P w = .ok () (w.setCell ⟨g, o + j, none⟩ x.val) := by
      rw [addr_add]
      unfold store
      cases hx : x.val <;> simp_all [one, Sem.run]
    simp only [List.map_cons, storeCells, Sem.run_bind, hs, Result.andThen_ok]
    exact hr
theorem store_run {P : Program} {t : TypeId} {i : TI} (h : TIok P t i) {w : World} {g o : Nat} {T : TypeId} {cs : List CV} (hg : w.heap[g]? = some (.cells (cs.map CV.val).toArray T (0, 0))) (s : SV) (hl : (cellsOf s).length = i.sz) (ho : o + i.sz ≤ cs.length) (h1 : ones (cellsOf s)) :
    ∃ w', (storeVar t ⟨g, o, none⟩ s.val).run P w = .ok () w' ∧ Ext (fun b => b ≠ g) w w' ∧ w'.heap[g]? = some (.cells ((upd cs o (cellsOf s)).map CV.val).toArray T (0, 0)) := by
  obtain ⟨w', hr, he, hh⟩ := storeCells_run (P := P) g o T (cellsOf s) 0 cs w hg (by omega) h1
  rw [cellsOf_val] at hr
  have hsz : s.val.cells.size = i.sz := by
    rw [← hl, ← List.length_map (as := cellsOf s) CV.val, cellsOf_val, Array.length_toList]
  refine ⟨w', ?_, he, hh⟩
  unfold storeVar
  simp only [Sem.run_bind, h.g_sizeOf, Result.andThen_ok, hsz, ne_eq, not_true, if_false, Sem.run_pure]
  exact hr
end Go.Proofs.Ytbbaoeidobdblaa.Sx

/- Sx, part 3: the table of what simple operations yield, and that it is right. -/
set_option linter.unusedVariables false
set_option linter.unusedSimpArgs false
namespace Go.Proofs.Ytbbaoeidobdblaa.Sx
open Go
abbrev Yl := Option (Prop × SV)
abbrev vi (k : IntKind) (x : Int) : SV := .c (.v (.int k x))
abbrev vb (b : Bool) : SV := .c (.b b)
/-- A truth value. -/
def asB : SV → Option Bool
  | .c (.b p) => some p
  | .c (.v (.bool p)) => some p
  | _ => none
theorem asB_val {x : SV} {p : Bool} (h : asB x = some p) : x.val = .bool p := by
  unfold asB at h
  split at h <;> simp_all [SV.val, CV.val]
def evInt (op : BinOp) (k k' : IntKind) (a b : Int) : Yl :=
  match op with
  | .add => some (k = k', vi k (k.wrap (a + b)))
  | .sub => some (k = k', vi k (k.wrap (a - b)))
  | .mul => some (k = k', vi k (k.wrap (a * b)))
  | .quo => some (k = k' ∧ b ≠ 0, vi k (k.wrap (a.tdiv b)))
  | .rem => some (k = k' ∧ b ≠ 0, vi k (a.tmod b))
  | .and => some (k = k', vi k (k.wrap (BitVec.ofInt k.bits a &&& BitVec.ofInt k.bits b).toNat))
  | .or => some (k = k', vi k (k.wrap (BitVec.ofInt k.bits a ||| BitVec.ofInt k.bits b).toNat))
  | .xor => some (k = k', vi k (k.wrap (BitVec.ofInt k.bits a ^^^ BitVec.ofInt k.bits b).toNat))
  | .andNot => some (k = k', vi k (k.wrap (BitVec.ofInt k.bits a &&& ~~~BitVec.ofInt k.bits b).toNat))
  | .shl => some (0 ≤ b, vi k (k.wrap (a * 2 ^ (min b.toNat k.bits))))
  | .shr => some (0 ≤ b, vi k (a.fdiv (2 ^ (min b.toNat k.bits))))
  | .eql => some (k = k', vb (decide (a = b)))
  | .neq => some (k = k', vb (!decide (a = b)))
  | .lss => some (k = k', vb (decide (a < b)))
  | .leq => some (k = k', vb (decide (a ≤ b)))
  | .gtr => some (k = k', vb (decide (b < a)))
  | .geq => some (k = k', vb (decide (b ≤ a)))
def evStr (op : BinOp) (a b : ByteArray) : Yl :=
  match op with
  | .add => some (((a.size + b.size : Nat) : Int) ≤ 9223372036854775807, .c (.v (.string (a ++ b))))
  | .eql => some (True, vb (a.toList == b.toList))
  | .neq => some (True, vb (!(a.toList == b.toList)))
  | .lss => some (True, vb (Op.bytesLess a.toList b.toList))
  | .leq => some (True, vb (Op.bytesLess a.toList b.toList || a.toList == b.toList))
  | .gtr => some (True, vb (!(Op.bytesLess a.toList b.toList || a.toList == b.toList)))
  | .geq => some (True, vb (!Op.bytesLess a.toList b.toList))
  | _ => none
def ptrA : SV → Option (Option Addr)
  | .c (.v (.pointer p)) => some p
  | .c (.bp _ g o) => some (some ⟨g, o, none⟩)
  | _ => none
def slcA : SV → Option (Option Addr × Nat × Nat)
  | .c (.v (.slice a n c)) => some (a, n, c)
  | .c (.rw _ a n c) => some (a, n, c)
  | _ => none
def isNoneA : Option Addr → Bool
  | none => true
  | some _ => false
def evNilA (kd : Nat) (i : TI) (eq : Bool) : Option Addr → Option Addr → Yl
  | p, none => some (i.kd = kd, vb (isNoneA p == eq))
  | none, q => some (i.kd = kd, vb (isNoneA q == eq))
  | some _, some _ => none
def evNil (i : TI) (eq : Bool) (x y : SV) : Yl :=
  match ptrA x, ptrA y with
  | some p, some q => evNilA 6 i eq p q
  | _, _ =>
    match slcA x, slcA y with
    | some p, some q => evNilA 3 i eq p.1 q.1
    | _, _ => none
def evBin (op : BinOp) (i : Option TI) (x y : SV) : Yl :=
  match x, y with
  | .c (.v (.int k a)), .c (.v (.int k' b)) => evInt op k k' a b
  | .c (.v (.string a)), .c (.v (.string b)) => evStr op a b
  | x, y =>
    match op, i with
    | .eql, some i => (match asB x, asB y with | some a, some b => some (i.kd = 7, vb (a == b)) | _, _ => evNil i true x y)
    | .neq, some i => (match asB x, asB y with | some a, some b => some (i.kd = 7, vb (!(a == b))) | _, _ => evNil i false x y)
    | _, _ => none
theorem evInt_ok {P : Program} {op : BinOp} {k k' : IntKind} {a b : Int} {c : Prop} {x : SV} (h : evInt op k k' a b = some (c, x)) (hc : c) (t : TypeId) (w : World) : (binOp op t (.int k a) (.int k' b)).run P w = .ok x.val w := by
  cases op <;> simp only [evInt, Option.some.injEq, Prod.mk.injEq] at h <;> obtain ⟨rfl, rfl⟩ := h <;> (try subst hc) <;> (try (obtain ⟨rfl, hc⟩ := hc)) <;>
    simp [binOp, Op.intArith, Op.intDiv, Op.intBits, Op.shift, Op.intCmp, SV.val, CV.val, *] <;> first | rfl | (intro hb; omega)
theorem evStr_ok {P : Program} {op : BinOp} {a b : ByteArray} {c : Prop} {x : SV} (h : evStr op a b = some (c, x)) (hc : c) (t : TypeId) (w : World) : (binOp op t (.string a) (.string b)).run P w = .ok x.val w := by
  cases op <;> simp only [evStr, Option.some.injEq, Prod.mk.injEq, reduceCtorEq] at h <;> obtain ⟨rfl, rfl⟩ := h <;> simp [binOp, Op.stringOp, SV.val, CV.val] 
  omega
theorem ptrA_val {x : SV} {p : Option Addr} (h : ptrA x = some p) : x.val = .pointer p := by
  unfold ptrA at h
  split at h <;> simp_all [SV.val, CV.val]
theorem slcA_val {x : SV} {a : Option Addr} {n c : Nat} (h : slcA x = some (a, n, c)) : x.val = .slice a n c := by
  unfold slcA at h
  split at h <;> simp_all [SV.val, CV.val]
theorem eqG {P : Program} {op : BinOp} {t : TypeId} {x y : Operand} {a b : Value} (h : (∃ p, a = .pointer p) ∨ (∃ s n c, a = .slice s n c) ∨ (∃ k n, a = .int k n) ∨ (∃ s, a = .string s) ∨ ∃ s, a = .bool s) (w : World) : (eqGuard op t x y a b).run P w = .ok () w := by
  unfold eqGuard
  rcases h with ⟨_, rfl⟩ | ⟨_, _, _, rfl⟩ | ⟨_, _, rfl⟩ | ⟨_, rfl⟩ | ⟨_, rfl⟩ <;> (split <;> rfl)
theorem eqPtr {P : Program} {t : TypeId} {i : TI} (h : TIok P t i) (hk : i.kd = 6) (p q : Option Addr) (hn : p = none ∨ q = none) (w : World) : (Op.equal t (.pointer p) (.pointer q)).run P w = .ok (isNoneA (if q = none then p else q)) w := by
  have hu := h.g_pointer hk
  unfold Op.equal
  rw [show Op.maxDepth = 9999 + 1 from rfl]
  unfold Op.equalIn
  rcases hn with rfl | rfl
  · cases q <;> simp [underlying, hu, isNoneA]
  · cases p <;> simp [underlying, hu, isNoneA]
theorem eqSlc {P : Program} {t : TypeId} {i : TI} (h : TIok P t i) (hk : i.kd = 3) (p q : Option Addr) (n c m d : Nat) (hn : p = none ∨ q = none) (w : World) : (Op.equal t (.slice p n c) (.slice q m d)).run P w = .ok (isNoneA (if q = none then p else q)) w := by
  have hu := h.g_slice hk
  unfold Op.equal
  rw [show Op.maxDepth = 9999 + 1 from rfl]
  unfold Op.equalIn
  rcases hn with rfl | rfl
  · cases q <;> simp [underlying, hu, isNoneA]
  · cases p <;> simp [underlying, hu, isNoneA]
theorem eqBool {P : Program} {t : TypeId} {i : TI} (h : TIok P t i) (hk : i.kd = 7) (p q : Bool) (w : World) : (Op.equal t (.bool p) (.bool q)).run P w = .ok (p == q) w := by
  have hu := h.g_bool hk
  unfold Op.equal
  rw [show Op.maxDepth = 9999 + 1 from rfl]
  unfold Op.equalIn
  simp [underlying, hu]
theorem evNilA_ok {kd : Nat} {i : TI} {eq : Bool} {p q : Option Addr} {c : Prop} {s : SV} (h : evNilA kd i eq p q = some (c, s)) (hc : c) : i.kd = kd ∧ (p = none ∨ q = none) ∧ s = vb (isNoneA (if q = none then p else q) == eq) := by
  cases p <;> cases q <;> simp only [evNilA, Option.some.injEq, Prod.mk.injEq, reduceCtorEq] at h <;> obtain ⟨rfl, rfl⟩ := h <;> simp [hc]
theorem evNil_ok {P : Program} {t : TypeId} {i : TI} (hi : TIok P t i) {eq : Bool} {x y s : SV} {c : Prop} (h : evNil i eq x y = some (c, s)) (hc : c) (u v : Operand) (w : World) :
    (do eqGuard (if eq then BinOp.eql else .neq) t u v x.val y.val; binOp (if eq then BinOp.eql else .neq) t x.val y.val : Sem Value).run P w = .ok s.val w := by
  unfold evNil at h
  split at h
  · rename_i p q h1 h2
    obtain ⟨hk, hn, rfl⟩ := evNilA_ok h hc
    rw [ptrA_val h1, ptrA_val h2]
    simp only [Sem.run_bind, eqG (.inl ⟨_, rfl⟩), Result.andThen_ok]
    have := fun w => eqPtr hi hk p q hn w
    cases eq <;> rcases hn with rfl | rfl <;> simp [binOp, this, SV.val, CV.val]
  · split at h
    · rename_i p q h1 h2
      obtain ⟨hk, hn, rfl⟩ := evNilA_ok h hc
      obtain ⟨a, n, c'⟩ := p
      obtain ⟨a', n', c2⟩ := q
      rw [slcA_val h1, slcA_val h2]
      simp only [Sem.run_bind, eqG (.inr (.inl ⟨_, _, _, rfl⟩)), Result.andThen_ok]
      have := fun w => eqSlc hi hk a a' n c' n' c2 hn w
      cases eq <;> simp [binOp, this, SV.val, CV.val]
    · cases h
end Go.Proofs.Ytbbaoeidobdblaa.Sx

/- Sx, part 4: the rest of the simple operations. -/
set_option linter.unusedVariables false
set_option linter.unusedSimpArgs false
namespace Go.Proofs.Ytbbaoeidobdblaa.Sx
open Go
/-- The cells that a thing of one's own has. -/
def cellsB : Res → Option (Nat × List CV)
  | .box g _ cs => some (g, cs)
  | .row (some ⟨g, 0, none⟩) _ _ _ _ cs => some (g, cs)
  | _ => none
def CellsOK (rs : List (Nat × Res)) (w : World) : Prop := ∀ k r g cs, look k rs = some r → cellsB r = some (g, cs) → ∀ j, j < cs.length → w.cell? ⟨g, j, none⟩ = some (cs.getD j (.v undef)).val
theorem holds_cells {r : Res} {S : Nat → Prop} {w : World} (h : r.holds S w) {g : Nat} {cs : List CV} (hr : cellsB r = some (g, cs)) (j : Nat) (hj : j < cs.length) : w.cell? ⟨g, j, none⟩ = some (cs.getD j (.v undef)).val := by
  unfold cellsB at hr
  split at hr
  · cases hr
    rw [cell_of_row w g j _ _ _ h.2]
    simp [hj]
  · rename_i n c T sz cs'
    cases hr
    have h1 := h.2
    have h2 : cs.length = n * sz := by simpa using h1.1
    rw [h1.cellAt j (by omega)]
    simp [hj]
  · cases hr
theorem J.ok {C : Ctx} {m : Mem} {w : World} (h : J C m w) : CellsOK m.rs w := by
  obtain ⟨I, F, h⟩ := h
  exact fun k r g cs hl hr j hj => holds_cells (h.own _ (look_mem hl)) hr j hj
def evLoad (i : TI) (g o : Nat) (r : Option Res) : Yl :=
  match r with
  | none => none
  | some r =>
    match cellsB r with
    | none => none
    | some (g', cs) => some (g = g' ∧ o + i.sz ≤ cs.length ∧ (i.agg = true ∨ i.sz = 1), match i.agg with | true => .ag ((cs.drop o).take i.sz) | false => .c (cs.getD o (.v undef)))
theorem evLoad_ok {P : Program} {t : TypeId} {i : TI} (hi : TIok P t i) {rs : List (Nat × Res)} {w : World} (hC : CellsOK rs w) {k g o : Nat} {c : Prop} {x : SV} (h : evLoad i g o (look k rs) = some (c, x)) (hc : c) : (loadVar t ⟨g, o, none⟩).run P w = .ok x.val w := by
  unfold evLoad at h
  split at h
  · cases h
  · rename_i r hr
    split at h
    · cases h
    · rename_i g' cs hb
      simp only [Option.some.injEq, Prod.mk.injEq] at h
      obtain ⟨rfl, rfl⟩ := h
      obtain ⟨rfl, ho, hz⟩ := hc
      have hcl := hC k r g cs hr hb
      cases ha : i.agg with
      | true => exact load_agg hi hcl ho ha
      | false =>
        have h1 : i.sz = 1 := by rcases hz with hz | hz; · rw [ha] at hz; cases hz
                                 · exact hz
        exact load_one hi (hcl o (by omega)) ha
def evUn (op : UnOp) (x : SV) : Yl :=
  match op, x with
  | .not, .c (.b b) => some (True, vb (!b))
  | .not, .c (.v (.bool b)) => some (True, vb (!b))
  | .neg, .c (.v (.int k n)) => some (True, vi k (k.wrap (0 - n)))
  | .xor, .c (.v (.int k n)) => some (True, vi k (k.wrap (BitVec.ofInt k.bits (if k.signed then -1 else k.max) ^^^ BitVec.ofInt k.bits n).toNat))
  | _, _ => none
theorem evUn_ok {P : Program} {op : UnOp} {x s : SV} {c : Prop} (h : evUn op x = some (c, s)) (w : World) : (Op.unary op x.val).run P w = .ok s.val w := by
  unfold evUn at h
  split at h <;> simp only [Option.some.injEq, Prod.mk.injEq, reduceCtorEq] at h <;> obtain ⟨rfl, rfl⟩ := h <;> simp [Op.unary, Op.intArith, Op.intBits, SV.val, CV.val]
def evConv (i : TI) (x : SV) : Yl :=
  match x with
  | .c (.v (.int _ n)) => some (i.kd = 8, vi (kdec i.el) ((kdec i.el).wrap n))
  | .c (.v (.string s)) => (match i.kd with | 4 => some (i.kd = 4, .c (.v (.string s))) | _ => none)
  | _ => none
theorem evConv_ok {P : Program} {src dst : TypeId} {i j : TI} (hi : TIok P dst i) (hj : TIok P src j) {x s : SV} {c : Prop} (h : evConv i x = some (c, s)) (hc : c) (w : World) : (convert src dst x.val).run P w = .ok s.val w := by
  obtain ⟨d, hd, _⟩ := hj.g_under
  unfold evConv at h
  split at h
  · simp only [Option.some.injEq, Prod.mk.injEq, reduceCtorEq] at h
    obtain ⟨rfl, rfl⟩ := h
    have := hi.g_int hc
    unfold convert
    simp [underlying, hd, this, SV.val, CV.val, Conv.intToInt]
  · split at h <;> simp only [Option.some.injEq, Prod.mk.injEq, reduceCtorEq] at h
    obtain ⟨rfl, rfl⟩ := h
    have := hi.g_string hc
    unfold convert
    simp [underlying, hd, this, SV.val, CV.val]
  · cases h
/-- Where a field stands: its offset, how many cells, and whether it is more than one value. -/
def fld (i : TI) (f : Nat) : Option (Nat × Nat × Bool) := i.fl[f]?
theorem fld_ok {P : Program} {t : TypeId} {i : TI} (hi : TIok P t i) (hk : i.kd = 1) {f o z : Nat} {b : Bool} (h : fld i f = some (o, z, b)) : ∃ fs x, P.underlying t = some (.struct fs) ∧ fs[f]? = some x ∧ x.offset = o ∧ szB P x.type = z ∧ aggB P x.type = some b := by
  obtain ⟨fs, hu, hf⟩ := hi.g_struct hk
  unfold fld at h
  have h2 := congrArg (fun l => l[f]?) hf
  simp only [List.getElem?_map, h, Option.map_some] at h2
  cases hx : fs.toList[f]? with
  | none => rw [hx] at h2; cases h2
  | some x =>
    rw [hx] at h2
    simp only [Option.map_some, Option.some.injEq, Prod.mk.injEq] at h2
    exact ⟨fs, x, hu, by simpa using hx, h2.1, h2.2.1, h2.2.2⟩
theorem sz_run {P : Program} {t : TypeId} {z : Nat} (h : szB P t = z) (h0 : z ≠ 0) (w : World) : (sizeOf t).run P w = .ok z w := by
  unfold szB at h
  split at h
  · rename_i x hx
    simp [Go.sizeOf, typeInfo, hx, h]
  · exact absurd h.symm h0
theorem agg_run {P : Program} {t : TypeId} {b : Bool} (h : aggB P t = some b) (w : World) : (isAgg t).run P w = .ok b w := by
  unfold aggB at h
  unfold Go.isAgg
  split at h <;> simp_all [underlying]
theorem part_run {P : Program} {t : TypeId} {b : Bool} {z o : Nat} (hz : szB P t = z) (h0 : z ≠ 0) (ha : aggB P t = some b) (x : SV) {cs : Array Value} (hx : x.val = .agg cs) (ho : o + z ≤ (cellsOf x).length) (h1 : b = true ∨ z = 1) (w : World) :
    (part t cs o).run P w = .ok (match b with | true => SV.ag (((cellsOf x).drop o).take z) | false => .c ((cellsOf x).getD o (.v undef))).val w := by
  have hc := cellsOf_val x
  rw [hx] at hc
  simp only [Value.cells] at hc
  unfold part
  cases b with
  | true =>
    simp only [Sem.run_bind, agg_run ha, Result.andThen_ok, if_true, sz_run hz h0, Sem.run_pure, SV.val]
    congr 2
    apply Array.ext'
    rw [Array.toList_extract, ← hc]
    simp [List.extract, List.map_take, List.map_drop]
  | false =>
    have h2 : z = 1 := by rcases h1 with h | h; · cases h
                          · exact h
    have hlt : o < (cellsOf x).length := by omega
    have : cs[o]? = some ((cellsOf x).getD o (.v undef)).val := by
      rw [← Array.getElem?_toList, ← hc]
      simp [hlt]
    simp only [Sem.run_bind, agg_run ha, Result.andThen_ok, Bool.false_eq_true, if_false, this, Sem.run_pure, SV.val]
def evFieldA (i : TI) (x : SV) (f : Nat) : Yl :=
  match fld i f, x with
  | some (o, z, _), .c (.bp k g off) => some (i.kd = 1 ∧ z ≠ 0, .c (.bp k g (off + o)))
  | some (o, z, _), .c (.v (.pointer (some ⟨b, off, none⟩))) => some (i.kd = 1 ∧ z ≠ 0, .c (.v (.pointer (some ⟨b, off + o, none⟩))))
  | _, _ => none
theorem evFieldA_ok {P : Program} {t : TypeId} {i : TI} (hi : TIok P t i) {x s : SV} {f : Nat} {c : Prop} (h : evFieldA i x f = some (c, s)) (hc : c) (w : World) : (Instr.fieldAt t x.val f).run P w = .ok s.val w := by
  unfold evFieldA at h
  split at h
  · rename_i o z b k g off hf
    simp only [Option.some.injEq, Prod.mk.injEq] at h
    obtain ⟨rfl, rfl⟩ := h
    obtain ⟨fs, y, hu, hy, h1, h2, h3⟩ := fld_ok hi hc.1 hf
    unfold Instr.fieldAt
    simp [underlying, hu, hy, SV.val, CV.val, Instr.sureAddr, fieldPlace, sz_run h2 hc.2, hc.2, addr_add, h1]
  · rename_i o z b g off hf
    simp only [Option.some.injEq, Prod.mk.injEq] at h
    obtain ⟨rfl, rfl⟩ := h
    obtain ⟨fs, y, hu, hy, h1, h2, h3⟩ := fld_ok hi hc.1 hf
    unfold Instr.fieldAt
    simp [underlying, hu, hy, SV.val, CV.val, Instr.sureAddr, fieldPlace, sz_run h2 hc.2, hc.2, addr_add, h1]
  · cases h
def evField (i : TI) (x : SV) (f : Nat) : Yl :=
  match fld i f, x with
  | some (o, z, b), .ag l => some (i.kd = 1 ∧ z ≠ 0 ∧ o + z ≤ l.length ∧ (b = true ∨ z = 1), match b with | true => SV.ag ((l.drop o).take z) | false => .c (l.getD o (.v undef)))
  | some (o, z, b), .c (.v (.agg a)) => some (i.kd = 1 ∧ z ≠ 0 ∧ o + z ≤ (a.toList.map CV.v).length ∧ (b = true ∨ z = 1), match b with | true => SV.ag (((a.toList.map CV.v).drop o).take z) | false => .c ((a.toList.map CV.v).getD o (.v undef)))
  | _, _ => none
theorem evField_ok {P : Program} {t : TypeId} {i : TI} (hi : TIok P t i) {x s : SV} {f : Nat} {c : Prop} (h : evField i x f = some (c, s)) (hc : c) (w : World) : (Instr.field t x.val f).run P w = .ok s.val w := by
  unfold evField at h
  split at h
  · rename_i o z b l hf
    simp only [Option.some.injEq, Prod.mk.injEq] at h
    obtain ⟨rfl, rfl⟩ := h
    obtain ⟨fs, y, hu, hy, rfl, h2, h3⟩ := fld_ok hi hc.1 hf
    unfold Instr.field
    have := part_run h2 hc.2.1 h3 (.ag l) rfl hc.2.2.1 hc.2.2.2 w
    simp only [SV.val, cellsOf] at this ⊢
    simp [underlying, hu, hy, asAgg, this]
  · rename_i o z b a hf
    simp only [Option.some.injEq, Prod.mk.injEq] at h
    obtain ⟨rfl, rfl⟩ := h
    obtain ⟨fs, y, hu, hy, rfl, h2, h3⟩ := fld_ok hi hc.1 hf
    unfold Instr.field
    have := part_run h2 hc.2.1 h3 (.c (.v (.agg a))) rfl hc.2.2.1 hc.2.2.2 w
    simp only [SV.val, CV.val, cellsOf] at this ⊢
    simp [underlying, hu, hy, asAgg, this]
  · cases h
def bts (s : ByteArray) (i : Int) : Int := ((s[i.toNat]?).map (fun b => (b.toNat : Int))).getD 0
def evIdxA (i e : TI) (x y : SV) : Yl :=
  match x, y with
  | .c (.v (.slice (some ⟨b, o, none⟩) n _)), .c (.v (.int _ j)) => some (i.kd = 3 ∧ 0 ≤ j ∧ j < n, .c (.v (.pointer (some ⟨b, o + j.toNat * e.sz, none⟩))))
  | .c (.rw k (some ⟨b, o, none⟩) n _), .c (.v (.int _ j)) => some (i.kd = 3 ∧ 0 ≤ j ∧ j < n, .c (.bp k b (o + j.toNat * e.sz)))
  | .c (.bp k g o), .c (.v (.int _ j)) => some (i.kd = 2 ∧ 0 ≤ j ∧ j < i.n, .c (.bp k g (o + j.toNat * e.sz)))
  | _, _ => none
theorem evIdxA_ok {P : Program} {t : TypeId} {i e : TI} (hi : TIok P t i) (he : TIok P i.el e) {x y s : SV} {c : Prop} (h : evIdxA i e x y = some (c, s)) (hc : c) (w : World) : (Instr.indexAt t x.val y.val).run P w = .ok s.val w := by
  unfold evIdxA at h
  split at h <;> simp only [Option.some.injEq, Prod.mk.injEq, reduceCtorEq] at h <;> obtain ⟨rfl, rfl⟩ := h
  · have hu := hi.g_slice hc.1
    unfold Instr.indexAt
    simp [underlying, hu, SV.val, CV.val, asIntOf, hc.2.1, hc.2.2, he.g_sizeOf, addr_add]
  · have hu := hi.g_slice hc.1
    unfold Instr.indexAt
    simp [underlying, hu, SV.val, CV.val, asIntOf, hc.2.1, hc.2.2, he.g_sizeOf, addr_add]
  · have hu := hi.g_array hc.1
    unfold Instr.indexAt
    simp [underlying, hu, SV.val, CV.val, asIntOf, hc.2.1, hc.2.2, he.g_sizeOf, addr_add, Instr.sureAddr]
def evIdx (i : TI) (x y : SV) : Yl :=
  match x, y with
  | .c (.v (.string s)), .c (.v (.int _ j)) => some (i.kd = 4 ∧ 0 ≤ j ∧ j < s.size, vi .u8 (bts s j))
  | _, _ => none
theorem evIdx_ok {P : Program} {t : TypeId} {i : TI} (hi : TIok P t i) {x y s : SV} {c : Prop} (h : evIdx i x y = some (c, s)) (hc : c) (w : World) : (Instr.index t x.val y.val).run P w = .ok s.val w := by
  unfold evIdx at h
  split at h <;> simp only [Option.some.injEq, Prod.mk.injEq, reduceCtorEq] at h
  rename_i s k j
  obtain ⟨rfl, rfl⟩ := h
  have hu := hi.g_string hc.1
  have hlt : j.toNat < s.size := by omega
  unfold Instr.index
  simp [underlying, hu, SV.val, CV.val, asIntOf, hc.2.1, bts, hlt]
end Go.Proofs.Ytbbaoeidobdblaa.Sx

/- Sx, part 5: all simple operations in one table. -/
set_option linter.unusedVariables false
set_option linter.unusedSimpArgs false
namespace Go.Proofs.Ytbbaoeidobdblaa.Sx
open Go
/-- A part of a slice, or of a string: s[lo:hi]. -/
def bndL : Option SV → Option Int
  | none => some 0
  | some (.c (.v (.int _ j))) => some j
  | _ => none
def bndH (n : Nat) : Option SV → Option Int
  | none => some n
  | some (.c (.v (.int _ j))) => some j
  | _ => none
def addrP : Option Addr → Nat → Option Addr
  | none, _ => none
  | some x, k => some (x.add k)
@[simp] theorem addrP_none (k : Nat) : addrP none k = none := rfl
@[simp] theorem addrP_some (b o k : Nat) : addrP (some ⟨b, o, none⟩) k = some ⟨b, o + k, none⟩ := by simp [addrP, addr_add]
def evSlc (i : TI) (e : Option TI) (x : SV) (lo hi : Option SV) : Yl :=
  match x with
  | .c (.v (.string s)) =>
    match bndL lo, bndH s.size hi with
    | some l, some h => some (i.kd = 4 ∧ 0 ≤ l ∧ l ≤ h ∧ h ≤ s.size, .c (.v (.string (s.extract l.toNat h.toNat))))
    | _, _ => none
  | x =>
    match slcA x, e, lo, bndH 0 hi with
    | some (a, n, c), some e, none, some h => some (i.kd = 3 ∧ hi.isSome = true ∧ 0 ≤ h ∧ h ≤ c, .c (.v (.slice a h.toNat c)))
    | some (a, n, c), some e, some (.c (.v (.int _ l))), _ =>
      match bndH n hi with
      | some h => some (i.kd = 3 ∧ 0 ≤ l ∧ l ≤ h ∧ h ≤ c, .c (.v (.slice (if c = l.toNat then a else addrP a (l.toNat * e.sz)) (h.toNat - l.toNat) (c - l.toNat))))
      | none => none
    | _, _, _, _ => none
theorem sb_run {P : Program} {k : IntKind} {x : Int} {y : Nat} {code : BoundsCode} (h0 : 0 ≤ x) (h1 : x ≤ y) (w : World) : (Instr.sliceBound (.int k x) y code).run P w = .ok x.toNat w := by
  unfold Instr.sliceBound
  simp [asIntOf, h0, h1]
theorem bounds_run {P : Program} {b : Bool} {n c : Nat} {lo hi : Option SV} {l h : Int} (el : bndL lo = some l) (eh : bndH n hi = some h) (h0 : 0 ≤ l) (h1 : l ≤ h) (h2 : h ≤ c) (w : World) :
    (Instr.sliceBounds b n c (lo.map SV.val) (hi.map SV.val) none).run P w = .ok (l.toNat, h.toNat, c) w := by
  unfold Instr.sliceBounds
  have hh : 0 ≤ h := by omega
  have e1 : l ≤ (h.toNat : Int) := by omega
  cases hi with
  | none =>
    simp only [bndH, Option.some.injEq] at eh
    subst eh
    cases lo with
    | none =>
      simp only [bndL, Option.some.injEq] at el
      subst el
      simp
    | some x =>
      unfold bndL at el
      split at el <;> simp_all [SV.val, CV.val, sb_run]
  | some y =>
    obtain ⟨k, rfl⟩ : ∃ k, y = .c (.v (.int k h)) := by
      unfold bndH at eh
      split at eh <;> simp_all
    cases lo with
    | none =>
      simp only [bndL, Option.some.injEq] at el
      subst el
      simp [SV.val, CV.val, sb_run, hh, h2]
    | some x =>
      unfold bndL at el
      split at el <;> simp_all [SV.val, CV.val, sb_run]
theorem evSlc_ok {P : Program} {t : TypeId} {i : TI} (hi : TIok P t i) {e : Option TI} (he : ∀ x, e = some x → TIok P i.el x) {x s : SV} {lo hi' : Option SV} {c : Prop} (h : evSlc i e x lo hi' = some (c, s)) (hc : c) (w : World) : (Instr.sliceAt t x.val (lo.map SV.val) (hi'.map SV.val) none).run P w = .ok s.val w := by
  unfold evSlc at h
  split at h
  · rename_i s'
    split at h
    · rename_i l hh el eh
      simp only [Option.some.injEq, Prod.mk.injEq] at h
      obtain ⟨rfl, rfl⟩ := h
      have hu := hi.g_string hc.1
      have hb := fun w => bounds_run (P := P) (b := false) el eh hc.2.1 hc.2.2.1 hc.2.2.2 w
      unfold Instr.sliceAt
      simp [underlying, hu, Instr.slice, SV.val, CV.val, hb]
    · cases h
  · split at h
    · rename_i a n c e' hh hs hbh
      simp only [Option.some.injEq, Prod.mk.injEq] at h
      obtain ⟨rfl, rfl⟩ := h
      have hu := hi.g_slice hc.1
      have e2 : bndH n hi' = some hh := by
        cases hi' with
        | none => simp at hc
        | some y =>
          unfold bndH at hbh ⊢
          split at hbh <;> simp_all
      have hb := fun w => bounds_run (P := P) (b := true) (lo := none) (l := 0) rfl e2 (by omega) hc.2.2.1 hc.2.2.2 w
      have hz := (he _ rfl).g_sizeOf
      have ha : (if c = 0 then a else Option.map (fun x => x.add (0 * e'.sz)) a) = a := by
        split
        · rfl
        · cases a <;> simp [Addr.add]
      simp only [Option.map_none] at hb
      unfold Instr.sliceAt
      rw [slcA_val hs]
      simp [underlying, hu, Instr.slice, SV.val, CV.val, hb, hz]
      intro _
      cases a <;> simp [Addr.add]
    · rename_i a n c e' k l hs
      split at h
      · rename_i hh eh
        simp only [Option.some.injEq, Prod.mk.injEq] at h
        obtain ⟨rfl, rfl⟩ := h
        have hu := hi.g_slice hc.1
        have hb := fun w => bounds_run (P := P) (b := true) (lo := some (.c (.v (.int k l)))) (l := l) rfl eh hc.2.1 hc.2.2.1 hc.2.2.2 w
        have hz := (he _ rfl).g_sizeOf
        unfold Instr.sliceAt
        rw [slcA_val hs]
        simp only [Option.map_some, SV.val, CV.val] at hb ⊢
        simp [underlying, hu, Instr.slice, hb, hz]
        cases a <;> simp [addrP]
      · cases h
    · cases h
def evs (tm : Tm) : List Operand → Option (List SV)
  | [] => some []
  | x :: r => match ev tm x, evs tm r with | some s, some l => some (s :: l) | _, _ => none
theorem evs_ok {n : Nat} {tm : Tm} {a : Act} (h : Rel n tm a) : ∀ {l : List Operand} {s : List SV}, evs tm l = some s → l.map a.eval = s.map SV.val
  | [], s, e => by cases e; rfl
  | x :: r, s, e => by
    simp only [evs] at e
    split at e
    · rename_i y l h1 h2
      cases e
      simp [h.eval h1, evs_ok h h2]
    · cases e
def evo (tm : Tm) : Option Operand → Option (Option SV)
  | none => some none
  | some x => (ev tm x).map some
theorem evo_ok {n : Nat} {tm : Tm} {a : Act} (h : Rel n tm a) {x : Option Operand} {s : Option SV} (e : evo tm x = some s) : x.map a.eval = s.map SV.val := by
  cases x with
  | none => simp only [evo, Option.some.injEq] at e; subst e; rfl
  | some x =>
    simp only [evo, Option.map_eq_some_iff] at e
    obtain ⟨y, h1, rfl⟩ := e
    simp [h.eval h1]
def mmi (mx : Bool) : List SV → Option (IntKind × Int)
  | [.c (.v (.int k a)), .c (.v (.int _ b))] => some (k, if mx then (if b > a then b else a) else (if b < a then b else a))
  | _ => none
def evLen (i : TI) (x : SV) : Yl :=
  match x, slcA x with
  | .c (.v (.string s)), _ => some (i.kd = 4, vi .i64 s.size)
  | _, some (_, n, _) => some (i.kd = 3, vi .i64 n)
  | _, none => match i.kd with | 2 => some (True, vi .i64 i.n) | _ => none
theorem evLen_ok {P : Program} {t ty : TypeId} {i : TI} (hi : TIok P t i) {x s : SV} {c : Prop} (h : evLen i x = some (c, s)) (hc : c) (w : World) : (Builtin.len_ #[t] ty #[x.val]).run P w = .ok s.val w := by
  unfold evLen at h
  unfold Builtin.len_
  split at h
  · rename_i s'
    simp only [Option.some.injEq, Prod.mk.injEq] at h
    obtain ⟨rfl, rfl⟩ := h
    simp [underlying, hi.g_string hc, SV.val, CV.val, goInt]
  · rename_i a n c' _ hs
    simp only [Option.some.injEq, Prod.mk.injEq] at h
    obtain ⟨rfl, rfl⟩ := h
    rw [slcA_val hs]
    simp [underlying, hi.g_slice hc, SV.val, CV.val, goInt]
  · split at h
    · rename_i hk
      simp only [Option.some.injEq, Prod.mk.injEq] at h
      obtain ⟨rfl, rfl⟩ := h
      simp [underlying, hi.g_array hk, SV.val, CV.val, goInt]
    · cases h
/-- A struct that is written out. -/
def bld (i : TI) (tm : Tm) : List CV → List (Nat × Operand) → Yl
  | cs, [] => some (i.kd = 1 ∧ i.fl.all (fun x => x.2.1 != 0) = true, .ag cs)
  | cs, (f, x) :: r => match fld i f, ev tm x with | some (o, z, _), some s => (match bld i tm (upd cs o (cellsOf s)) r with | some (c, y) => some (((cellsOf s).length = z ∧ o + z ≤ cs.length) ∧ c, y) | none => none) | _, _ => none
theorem fold_upd : ∀ (q : List CV) (o k : Nat) (cs : List CV), (((q.map CV.val).zipIdx k).foldl (fun (a : Array Value) (c : Value × Nat) => a.setIfInBounds (o + c.2) c.1) (cs.map CV.val).toArray) = ((upd cs (o + k) q).map CV.val).toArray
  | [], o, k, cs => rfl
  | x :: q, o, k, cs => by
    simp only [List.map_cons, List.zipIdx_cons, List.foldl_cons, upd]
    rw [List.setIfInBounds_toArray, ← List.map_set, fold_upd q o (k + 1) (cs.set (o + k) x)]
    rfl
theorem bld_fill {i : TI} {n : Nat} {tm : Tm} {a : Act} (hR : Rel n tm a) {places : Array (Nat × Nat)} (hp : ∀ f o z b, fld i f = some (o, z, b) → places[f]? = some (o, z)) : ∀ {l : List (Nat × Operand)} {cs : List CV} {c : Prop} {y : SV}, bld i tm cs l = some (c, y) → c →
    i.kd = 1 ∧ i.fl.all (fun x => x.2.1 != 0) = true ∧ ∃ q, y = .ag q ∧ Instr.fill (places[·]?) (cs.map CV.val).toArray (l.map fun x => (x.1, a.eval x.2)) = some (q.map CV.val).toArray
  | [], cs, c, y, h, hc => by
    simp only [bld, Option.some.injEq, Prod.mk.injEq] at h
    obtain ⟨rfl, rfl⟩ := h
    exact ⟨hc.1, hc.2, cs, rfl, rfl⟩
  | (f, x) :: r, cs, c, y, h, hc => by
    simp only [bld] at h
    split at h
    · rename_i o z b s hf hs
      split at h
      · rename_i c' y' hr
        simp only [Option.some.injEq, Prod.mk.injEq] at h
        obtain ⟨rfl, rfl⟩ := h
        obtain ⟨k1, k2, q, k3, k4⟩ := bld_fill hR hp hr hc.2
        refine ⟨k1, k2, q, k3, ?_⟩
        have e := hR.eval hs
        have hcl := cellsOf_val s
        have hsz : s.val.cells.size = z := by rw [← hc.1.1, ← List.length_map (as := cellsOf s) CV.val, hcl, Array.length_toList]
        have hle : ¬ (o + s.val.cells.size > (cs.map CV.val).toArray.size) := by
          have := hc.1.2
          simp
          omega
        have hfd := fold_upd (cellsOf s) o 0 cs
        rw [hcl, Nat.add_zero] at hfd
        have hz : s.val.cells.zipIdx.foldl (fun (a : Array Value) (c : Value × Nat) => a.setIfInBounds (o + c.2) c.1) (cs.map CV.val).toArray = ((upd cs o (cellsOf s)).map CV.val).toArray := by
          rw [← hfd, ← Array.foldl_toList, Array.toList_zipIdx]
        simp only [List.map_cons, Instr.fill, hp f o z b hf, e, hsz, ne_eq, not_true, decide_false, Bool.false_or]
        rw [if_neg (by simpa [hsz] using hle), ← k4, ← hz]
      · cases h
    · cases h
theorem places_run {P : Program} {w : World} : ∀ (l : List Field) (fl : List (Nat × Nat × Bool)), (l.map fun f => (f.offset, szB P f.type, aggB P f.type)) = fl.map (fun x => (x.1, x.2.1, some x.2.2)) → fl.all (fun x => x.2.1 != 0) = true →
    (l.mapM (fun f => do pure (f.offset, ← sizeOf f.type) : Field → Sem (Nat × Nat))).run P w = .ok (fl.map fun x => (x.1, x.2.1)) w
  | [], [], _, _ => by simp
  | [], _ :: _, h, _ => by simp at h
  | _ :: _, [], h, _ => by simp at h
  | f :: l, x :: fl, h, h0 => by
    simp only [List.map_cons, List.cons.injEq, Prod.mk.injEq] at h
    simp only [List.all_cons, Bool.and_eq_true, bne_iff_ne, ne_eq] at h0
    have ih := places_run (P := P) (w := w) l fl h.2 h0.2
    simp only [List.mapM_cons, Sem.run_bind, sz_run h.1.2.1 h0.1, Result.andThen_ok, Sem.run_pure, ih, List.map_cons, h.1.1]
theorem bld_ok {P : Program} {t : TypeId} {i : TI} (hi : TIok P t i) {n : Nat} {tm : Tm} {a : Act} (hR : Rel n tm a) {parts : Array (Nat × Operand)} {c : Prop} {y : SV} (h : bld i tm (i.zero.map .v) parts.toList = some (c, y)) (hc : c) (w : World) :
    (Instr.build t (parts.map fun (j, x) => (j, a.eval x))).run P w = .ok y.val w := by
  have hpl : ∀ f o z b, fld i f = some (o, z, b) → (i.fl.map fun x => (x.1, x.2.1)).toArray[f]? = some (o, z) := fun f o z b hf => by
    unfold fld at hf
    simp [hf]
  obtain ⟨hk, h0, q, rfl, hq⟩ := bld_fill hR hpl h hc
  obtain ⟨z, hz, hzc⟩ := hi.g_zeroValue w
  obtain ⟨fs, hu, hfl⟩ := hi.g_struct hk
  have hp := places_run (P := P) (w := w) fs.toList i.fl hfl h0
  have e1 : ((i.zero.map CV.v).map CV.val).toArray = z.cells := by
    apply Array.ext'
    rw [hzc]
    simp [Function.comp_def, CV.val]
  rw [e1] at hq
  have e2 : (parts.map fun (x : Nat × Operand) => (x.1, a.eval x.2)).toList = parts.toList.map fun x => (x.1, a.eval x.2) := by simp
  unfold Instr.build
  have e3 : (fs.mapM (fun f => do pure (f.offset, ← sizeOf f.type) : Field → Sem (Nat × Nat))).run P w = .ok (i.fl.map fun x => (x.1, x.2.1)).toArray w := by
    rw [← Array.toArray_toList (xs := fs), List.mapM_toArray]
    simp only [Sem.run_map, hp, Result.andThen_ok]
  simp only [Sem.run_bind, hz, Result.andThen_ok, run_underlying hu]
  simp only [Sem.run_bind, e3, Result.andThen_ok]
  have hq' : Instr.fill (fun x => (i.fl.map fun x => (x.1, x.2.1)).toArray[x]?) z.cells (parts.map fun (x : Nat × Operand) => (x.1, a.eval x.2)).toList = some (q.map CV.val).toArray := by rw [e2]; exact hq
  simp only [hq', Sem.run_pure]
  rfl
def evOp (T : Ty) (tm : Tm) (rs : List (Nat × Res)) : Op → Yl
  | .move x | .assign x => match ev tm x with | some s => some (True, s) | none => none
  | .pick c a b => match ev tm c, ev tm a, ev tm b with | some (.c (.v (.bool q))), some x, some y => some (True, match q with | true => x | false => y) | some (.c (.b q)), some x, some y => (match asB x, asB y with | some a, some b => some (True, vb (bif q then a else b)) | _, _ => none) | _, _, _ => none
  | .load t x => match ev tm x, tf t T with | some (.c (.bp k g o)), some i => evLoad i g o (look k rs) | _, _ => none
  | .nilCheck x => match ev tm x with | some (.c (.bp k g o)) => some (True, .c (.bp k g o)) | some (.c (.v (.pointer (some p)))) => some (True, .c (.v (.pointer (some p)))) | some (.c (.v (.func (.func f) a b))) => some (True, .c (.v (.func (.func f) a b))) | _ => none
  | .binOp op t x y _ => match ev tm x, ev tm y with | some a, some b => evBin op (tf t T) a b | _, _ => none
  | .unOp op _ x => match ev tm x with | some a => evUn op a | none => none
  | .convert src dst x => match ev tm x, tf src T, tf dst T with | some a, some _, some i => evConv i a | _, _, _ => none
  | .makeFunc fn fi ca => match evs tm fi.toList, evs tm ca.toList with | some a, some b => some (True, .c (.v (.func fn (a.map SV.val).toArray (b.map SV.val).toArray))) | _, _ => none
  | .fieldAddr s x f => match ev tm x, tf s T with | some a, some i => evFieldA i a f | _, _ => none
  | .field s x f => match ev tm x, tf s T with | some a, some i => evField i a f | _, _ => none
  | .indexAddr t x y => match ev tm x, ev tm y, tf t T with | some a, some b, some i => (match tf i.el T with | some e => evIdxA i e a b | none => none) | _, _, _ => none
  | .index t x y => match ev tm x, ev tm y, tf t T with | some a, some b, some i => evIdx i a b | _, _, _ => none
  | .extract x j => match ev tm x with | some (.c (.v (.tuple vs))) => (match vs.toList[j]? with | some v => some (True, .c (.v v)) | none => none) | _ => none
  | .build t parts => match tf t T with | some i => bld i tm (i.zero.map .v) parts.toList | none => none
  | .slice t x lo hi none => match ev tm x, evo tm lo, evo tm hi, tf t T with | some a, some l, some h, some i => evSlc i (tf i.el T) a l h | _, _, _, _ => none
  | .call ⟨.builtin .len, args, tys⟩ => match evs tm args.toList, tys.toList with | some [x], [t] => (match tf t T with | some i => evLen i x | none => none) | _, _ => none
  | .call ⟨.builtin .cap, args, tys⟩ => match evs tm args.toList, tys.toList with | some [x], [t] => (match tf t T, slcA x with | some i, some (_, _, c) => some (i.kd = 3, vi .i64 c) | _, _ => none) | _, _ => none
  | .call ⟨.builtin .min, args, _⟩ => match evs tm args.toList with | some l => (match mmi false l with | some (k, z) => some (True, vi k z) | none => none) | none => none
  | .call ⟨.builtin .max, args, _⟩ => match evs tm args.toList with | some l => (match mmi true l with | some (k, z) => some (True, vi k z) | none => none) | none => none
  | _ => none
theorem mm_ok {P : Program} {mx : Bool} {l : List SV} {k : IntKind} {z : Int} (h : mmi mx l = some (k, z)) (tys : Array TypeId) (ty : TypeId) (w : World) : (if mx then Builtin.max_ tys ty (l.map SV.val).toArray else Builtin.min_ tys ty (l.map SV.val).toArray).run P w = .ok (.int k z) w := by
  unfold mmi at h
  split at h
  · simp only [Option.some.injEq, Prod.mk.injEq] at h
    obtain ⟨rfl, rfl⟩ := h
    cases mx <;> simp [Builtin.max_, Builtin.min_, Builtin.max2, Builtin.min2, SV.val, CV.val]
  · cases h
theorem evOp_ok {P : Program} {T : Ty} (hT : TyOk P T) {n : Nat} {tm : Tm} {a : Act} (hR : Rel n tm a) {rs : List (Nat × Res)} {w : World} (hC : CellsOK rs w) {o : Oper} {c : Prop} {s : SV} (h : evOp T tm rs o.op = some (c, s)) (hc : c) : (execOp a.eval o).run P w = .ok (.value s.val) w := by
  obtain ⟨dst, op, ty, pos, aft, gd⟩ := o
  simp only at h
  unfold evOp at h
  split at h
  · split at h
    · rename_i x s' hx
      cases h
      simp [execOp, hR.eval hx]
    · cases h
  · split at h
    · rename_i x s' hx
      cases h
      simp [execOp, hR.eval hx]
    · cases h
  · split at h
    · rename_i q x y h1 h2 h3
      cases h
      cases q <;> simp [execOp, hR.eval h1, hR.eval h2, hR.eval h3, SV.val, CV.val, asBool]
    · rename_i q x y h1 h2 h3
      split at h
      · rename_i u v h4 h5
        cases h
        have e1 : ∀ q, (SV.c (.b q)).val = .bool q := fun _ => rfl
        have e4 := asB_val h4
        have e5 := asB_val h5
        cases q <;> simp [execOp, hR.eval h1, hR.eval h2, hR.eval h3, e1, e4, e5, asBool]
      · cases h
    · cases h
  · split at h
    · rename_i t x k g o' i h1 h2
      have hl := evLoad_ok (hT.get h2) hC h hc
      simp [execOp, hR.eval h1, SV.val, CV.val, Instr.loadAt, Instr.sureAddr] at hl ⊢
      simp [hl]
    · cases h
  · split at h
    · rename_i x k g o' h1
      cases h
      simp [execOp, hR.eval h1, SV.val, CV.val]
    · rename_i x p h1
      cases h
      simp [execOp, hR.eval h1, SV.val, CV.val]
    · rename_i x f p q h1
      cases h
      simp [execOp, hR.eval h1, SV.val, CV.val]
    · cases h
  · rename_i op' t x y yt
    split at h
    · rename_i u v h1 h2
      have key : (do eqGuard op' t x y u.val v.val; binOp op' t u.val v.val : Sem Value).run P w = .ok s.val w := by
        unfold evBin at h
        split at h
        · simp only [SV.val, CV.val, Sem.run_bind, eqG (.inr (.inr (.inl ⟨_, _, rfl⟩))), Result.andThen_ok]
          exact evInt_ok h hc t w
        · simp only [SV.val, CV.val, Sem.run_bind, eqG (.inr (.inr (.inr (.inl ⟨_, rfl⟩)))), Result.andThen_ok]
          exact evStr_ok h hc t w
        · split at h
          · rename_i i hi
            split at h
            · rename_i b1 b2 e1 e2
              simp only [Option.some.injEq, Prod.mk.injEq] at h
              obtain ⟨rfl, rfl⟩ := h
              rw [asB_val e1, asB_val e2]
              simp [SV.val, CV.val, eqG (.inr (.inr (.inr (.inr ⟨_, rfl⟩)))), binOp, eqBool (hT.get hi) hc]
            · exact evNil_ok (hT.get hi) (eq := true) h hc x y w
          · rename_i i hi
            split at h
            · rename_i b1 b2 e1 e2
              simp only [Option.some.injEq, Prod.mk.injEq] at h
              obtain ⟨rfl, rfl⟩ := h
              rw [asB_val e1, asB_val e2]
              simp [SV.val, CV.val, eqG (.inr (.inr (.inr (.inr ⟨_, rfl⟩)))), binOp, eqBool (hT.get hi) hc]
            · exact evNil_ok (hT.get hi) (eq := false) h hc x y w
          · cases h
      simp only [execOp, hR.eval h1, hR.eval h2]
      simp only [Sem.run_bind] at key ⊢
      simp [key]
    · cases h
  · split at h
    · rename_i x u h1
      simp [execOp, hR.eval h1, evUn_ok h w]
    · cases h
  · split at h
    · rename_i x u i j h1 h2 h3
      simp [execOp, hR.eval h1, evConv_ok (hT.get h3) (hT.get h2) h hc w]
    · cases h
  · split at h
    · rename_i fn fi ca _ _ u v h1 h2
      cases h
      have e1 := evs_ok hR h1
      have e2 := evs_ok hR h2
      have e3 : fi.map a.eval = (u.map SV.val).toArray := by apply Array.ext'; simpa using e1
      have e4 : ca.map a.eval = (v.map SV.val).toArray := by apply Array.ext'; simpa using e2
      simp [execOp, Instr.makeFunc, e3, e4, SV.val, CV.val]
    · cases h
  · split at h
    · rename_i u i h1 h2
      simp [execOp, hR.eval h1, evFieldA_ok (hT.get h2) h hc w]
    · cases h
  · split at h
    · rename_i u i h1 h2
      simp [execOp, hR.eval h1, evField_ok (hT.get h2) h hc w]
    · cases h
  · split at h
    · rename_i u v i h1 h2 h3
      split at h
      · rename_i e he
        simp [execOp, hR.eval h1, hR.eval h2, evIdxA_ok (hT.get h3) (hT.get he) h hc w]
      · cases h
    · cases h
  · split at h
    · rename_i u v i h1 h2 h3
      simp [execOp, hR.eval h1, hR.eval h2, evIdx_ok (hT.get h3) h hc w]
    · cases h
  · split at h
    · rename_i x j _ vs h1
      split at h
      · rename_i v hv
        cases h
        have : vs[j]? = some v := by simpa using hv
        simp [execOp, hR.eval h1, SV.val, CV.val, Instr.extract, this]
      · cases h
    · cases h
  · rename_i t parts
    split at h
    · rename_i i hi
      have := bld_ok (hT.get hi) hR h hc w
      simp [execOp, this]
    · cases h
  · split at h
    · rename_i u l hh i h1 h2 h3 h4
      simp [execOp, hR.eval h1, evo_ok hR h2, evo_ok hR h3, evSlc_ok (hT.get h4) (fun x hx => hT.get hx) h hc w]
    · cases h
  · split at h
    · rename_i args tys _ _ x t h1 h2
      split at h
      · rename_i i hi
        have e1 : args.map a.eval = #[x.val] := by apply Array.ext'; simpa using evs_ok hR h1
        have e2 : tys = #[t] := by apply Array.ext'; simpa using h2
        simp [execOp, resolve, invoke, builtin, e1, e2, evLen_ok (hT.get hi) h hc w]
      · cases h
    · cases h
  · split at h
    · rename_i args tys _ _ x t h1 h2
      split at h
      · rename_i i _ a' n' c' hi hs
        simp only [Option.some.injEq, Prod.mk.injEq] at h
        obtain ⟨rfl, rfl⟩ := h
        have e1 : args.map a.eval = #[x.val] := by apply Array.ext'; simpa using evs_ok hR h1
        have e2 : tys = #[t] := by apply Array.ext'; simpa using h2
        rw [slcA_val hs] at e1
        simp [execOp, resolve, invoke, builtin, e1, e2, Builtin.cap_, underlying, (hT.get hi).g_slice hc, goInt, SV.val, CV.val]
      · cases h
    · cases h
  · split at h
    · rename_i args tys _ l h1
      split at h
      · rename_i k z hm
        cases h
        have e1 : args.map a.eval = (l.map SV.val).toArray := by apply Array.ext'; simpa using evs_ok hR h1
        have := mm_ok (P := P) hm tys ty w
        simp at this
        simp [execOp, resolve, invoke, builtin, e1, this, SV.val, CV.val]
      · cases h
    · cases h
  · split at h
    · rename_i args tys _ l h1
      split at h
      · rename_i k z hm
        cases h
        have e1 : args.map a.eval = (l.map SV.val).toArray := by apply Array.ext'; simpa using evs_ok hR h1
        have := mm_ok (P := P) hm tys ty w
        simp at this
        simp [execOp, resolve, invoke, builtin, e1, this, SV.val, CV.val]
      · cases h
    · cases h
  · cases h
end Go.Proofs.Ytbbaoeidobdblaa.Sx

/- Sx, part 6: what is to be shown, computed from a function's text; and that it suffices. -/
set_option linter.unusedVariables false
set_option linter.unusedSimpArgs false
namespace Go.Proofs.Ytbbaoeidobdblaa.Sx
open Go
/-- Where one stands: ahead of items, within a region in order, ahead of one operation, within a region that draws its order. -/
inductive Pos where
  | todo (k : List Item)
  | ops (all : Array Oper) (l : List Oper) (k : List Item)
  | op (o : Oper) (p : Pos)
  | any (all : Array Oper) (B : World → Prop) (keep : List (Nat × Res)) (fuel : Nat) (listed : List Bool) (k : List Item)
  | alts (rs : List Nat) (all : Array Oper) (B : World → Prop) (keep : List (Nat × Res)) (fuel : Nat) (listed : List Bool) (k : List Item)
def Pos.k : Pos → List Item
  | .todo k => k
  | .ops _ _ k => k
  | .op _ p => p.k
  | .any _ _ _ _ _ k => k
  | .alts _ _ _ _ _ _ k => k
def base (f : FuncId) : Frame := { (default : Frame) with fn := f, kind := .normal }
def Good (C : Ctx) (cs : List Frame) (k : List Item) (a : Act) (w : World) : Prop :=
  ∃ e w' fr, FinP C.w0 C.I0 C.S0 C.enc C.B C.R e w' ∧ Comes C.P (lone ((base C.f).at a k) cs w) (lone fr cs w') e ∧ fr.fn = C.f ∧ fr.leaving C.P w' e
theorem Good.of {C : Ctx} {cs : List Frame} {k k' : List Item} {a a' : Act} {w w' : World} (h : Good C cs k' a' w') (s : Steps C.P (lone ((base C.f).at a k) cs w) (lone ((base C.f).at a' k') cs w')) : Good C cs k a w := by
  obtain ⟨e, w2, fr, h1, h2, h3⟩ := h
  exact ⟨e, w2, fr, h1, .of_steps s h2, h3⟩
def QQ (C : Ctx) (cs : List Frame) (k : List Item) (e : Exit) (a : Act) (w : World) : Prop := e = .normal ∧ Good C cs k a w
theorem Good.region {C : Ctx} {cs : List Frame} {c : Code} {k : List Item} {a : Act} {w : World} (h : c.wp C.P (QQ C cs k) a w) : Good C cs (.code c :: k) a w := by
  obtain ⟨e, a', w', ⟨rfl, hg⟩, hs⟩ := h (base C.f) k cs
  exact hg.of hs
def SK (B : World → Prop) (keep : List (Nat × Res)) (w : World) : Prop := B w ∧ CellsOK keep w
/-- Operations that may be taken first. -/
def isS : Op → Bool
  | .move _ | .assign _ | .pick .. | .load .. | .nilCheck _ | .binOp .. | .unOp .. | .convert .. | .makeFunc .. | .fieldAddr .. | .field .. | .indexAddr .. | .index .. | .extract .. | .slice .. | .build .. => true
  | .call ⟨.builtin .len, _, _⟩ | .call ⟨.builtin .cap, _, _⟩ | .call ⟨.builtin .min, _, _⟩ | .call ⟨.builtin .max, _, _⟩ => true
  | _ => false
/-- Of a region: what may be taken first is touched by none that does not wait for it. -/
def frB (all : Array Oper) : Bool := Region.noSelect all && (List.range all.size).all fun i => match all[i]? with
  | some o => !isS o.op || (List.range all.size).all fun j => j == i || o.after.any (fun e => Region.binds .any e && e.on == j) || (match all[j]? with | some oj => oj.after.any (fun e => Region.binds .any e && e.on == i) || o.apart all oj | none => true)
  | none => true
def Nx (C : Ctx) (cs : List Frame) : Pos → Act → World → Prop
  | .todo k => Good C cs k
  | .ops all l k => wpList C.P all (QQ C cs k) l
  | .op o p => fun a w => o.wp C.P a w (Nx C cs p) (QQ C cs p.k)
  | .any all B keep fuel listed k => fun a w => SK B keep w ∧ (frB all = true → wpAnyH C.P .any all (QQ C cs k) (SK B keep) fuel listed.toArray a w)
  | .alts rs all B keep fuel listed k => fun a w => frB all = true → ∀ i ∈ rs, wpOp C.P all (QQ C cs k) i (fun a' w' => SK B keep w' ∧ wpAnyH C.P .any all (QQ C cs k) (SK B keep) fuel (listed.set i true).toArray a' w') a w
def At (C : Ctx) (p : Pos) (tm : Tm) (m : Mem) : Prop := ∀ a w cs, Rel C.n tm a → J C m w → Nx C cs p a w
def RetP (C : Ctx) (v : Value) (m : Mem) : Prop := ∀ w, J C m w → FinP C.w0 C.I0 C.S0 C.enc C.B C.R (.returned v) w
/-- The results. -/
def resV (T : Ty) (tm : Tm) (rs : List (Nat × Res)) : List ResultVar → Option (Prop × List SV)
  | [] => some (True, [])
  | .tmp t :: r => match find t tm, resV T tm rs r with | some x, some (c, l) => some (c, x :: l) | _, _ => none
  | .cell p t :: r =>
    match find p tm, tf t T, resV T tm rs r with
    | some (.c (.bp k g o)), some i, some (c, l) => (match evLoad i g o (look k rs) with | some (d, x) => some (d ∧ c, x :: l) | none => none)
    | _, _, _ => none
/-- One result is read. -/
def rdV (tmps : Array Value) : ResultVar → Sem Value
  | .tmp t => pure (tmps.getD t undef)
  | .cell p t => do loadVar t (← asAddr (tmps.getD p undef))
theorem results_rd (fn : Func) (tmps : Array Value) : results fn tmps = (do let vs ← fn.results.mapM (rdV tmps); pure (if h : vs.size = 1 then vs[0] else .tuple vs)) := by
  unfold results
  congr 1
theorem resV_ok {P : Program} {T : Ty} (hT : TyOk P T) {n : Nat} {tm : Tm} {a : Act} (hR : Rel n tm a) {rs : List (Nat × Res)} {w : World} (hC : CellsOK rs w) : ∀ {l : List ResultVar} {c : Prop} {s : List SV}, resV T tm rs l = some (c, s) → c →
    (l.mapM (rdV a.tmps)).run P w = .ok (s.map SV.val) w
  | [], c, s, h, hc => by
    simp only [resV, Option.some.injEq, Prod.mk.injEq] at h
    obtain ⟨rfl, rfl⟩ := h
    simp
  | .tmp t :: r, c, s, h, hc => by
    simp only [resV] at h
    split at h
    · rename_i x c' l h1 h2
      simp only [Option.some.injEq, Prod.mk.injEq] at h
      obtain ⟨rfl, rfl⟩ := h
      have ih := resV_ok hT hR hC h2 hc
      have hg := hR.get t x h1
      have h0 : (rdV a.tmps (.tmp t)).run P w = .ok x.val w := by simp [rdV, hg]
      simp only [List.mapM_cons, Sem.run_bind, h0, Sem.run_pure, Result.andThen_ok, ih, List.map_cons]
    · cases h
  | .cell p t :: r, c, s, h, hc => by
    simp only [resV] at h
    split at h
    · rename_i k g o i c' l h1 h2 h3
      split at h
      · rename_i d x he
        simp only [Option.some.injEq, Prod.mk.injEq] at h
        obtain ⟨rfl, rfl⟩ := h
        have ih := resV_ok hT hR hC h3 hc.2
        have hl := evLoad_ok (hT.get h2) hC he hc.1
        have hg := hR.get p _ h1
        have hg' : a.tmps.getD p undef = .pointer (some ⟨g, o, none⟩) := by simp [hg, SV.val, CV.val]
        have h0 : (rdV a.tmps (.cell p t)).run P w = .ok x.val w := by simp only [rdV, hg', asAddr, Sem.run_bind, Sem.run_pure, Result.andThen_ok, hl]
        simp only [List.mapM_cons, Sem.run_bind, h0, Sem.run_pure, Result.andThen_ok, ih, List.map_cons]
      · cases h
    · cases h
def tupV : List SV → Value
  | [x] => x.val
  | l => .tuple (l.map SV.val).toArray
/-- The parts of a slice that is written out, one by one. -/
def lits (tm : Tm) (sz : Nat) : Nat → List (Nat × Operand) → Option (List CV)
  | _, [] => some []
  | j, (i, x) :: r => if i = j then (match ev tm x, lits tm sz (j + 1) r with | some s, some l => if (cellsOf s).length = sz then some (cellsOf s ++ l) else none | _, _ => none) else none
def rdyA (all : Array Oper) (listed : List Bool) : Nat → Nat → List Nat
  | 0, _ => []
  | n + 1, i => if !listed.getD i true && ((all[i]?).map (·.after.all fun e => !Region.binds .any e || listed.getD e.on false)).getD false then i :: rdyA all listed n (i + 1) else rdyA all listed n (i + 1)
def allR (f : Nat → Prop) : List Nat → Prop
  | [] => True
  | i :: r => f i ∧ allR f r
def keepB (rs : List (Nat × Res)) : List (Nat × Res) → Prop
  | [] => True
  | (k, r) :: t => look k rs = some r ∧ keepB rs t
inductive GV where
  | yes
  | no
  | if_ (d : Nat) (b want : Bool)
  | lost
def gvL : Bool → Bool → GV
  | true, true => .yes
  | false, false => .yes
  | _, _ => .no
def guardV (all : Array Oper) (tm : Tm) : Option (Nat × Bool) → GV
  | none => .yes
  | some (j, want) =>
    match (all[j]?).bind (·.dst) with
    | none => .lost
    | some d =>
      match find d tm with
      | some (.c (.v (.bool b))) => gvL b want
      | some (.c (.b b)) => .if_ d b want
      | some (.c (.v (.tuple _))) => .no
      | _ => .lost
/-- What a test has told of a slot. -/
def setO (c : Operand) (b : Bool) (tm : Tm) : Tm :=
  match c with
  | .tmp t => (t, .c (.v (.bool b))) :: tm
  | _ => tm
theorem Rel.same {n : Nat} {tm : Tm} {a : Act} (h : Rel n tm a) {t : Nat} {x y : SV} (hx : find t tm = some x) (e : x.val = y.val) : Rel n ((t, y) :: tm) a := by
  refine ⟨h.size, h.defers, fun u z hz => ?_⟩
  simp only [find] at hz
  by_cases hu : u = t
  · subst hu
    rw [if_pos rfl] at hz
    cases hz
    rw [← e]
    exact h.get _ _ hx
  · rw [if_neg hu] at hz
    exact h.get _ _ hz
theorem Rel.setO {n : Nat} {tm : Tm} {a : Act} (h : Rel n tm a) {c : Operand} {b : Bool} (hc : ev tm c = some (.c (.b b))) : Rel n (setO c b tm) a := by
  unfold Sx.setO
  split
  · exact h.same hc rfl
  · exact h
/-- The same, of one operation. -/
def simpO (T : Ty) (tm : Tm) (keep : List (Nat × Res)) (all : Array Oper) (i : Nat) : Option (Nat × Option Tmp × Prop × SV) :=
  match all[i]? with
  | none => none
  | some o =>
    match guardV all tm o.guard with
    | .yes => (match evOp T tm keep o.op with | some (c, x) => some (i, o.dst, c, x) | none => none)
    | .no => (match isS o.op with | true => some (i, o.dst, True, .c (.v undef)) | false => none)
    | _ => none
/-- The first one that may be taken, and may be taken first. -/
def scan (T : Ty) (tm : Tm) (keep : List (Nat × Res)) (all : Array Oper) (listed : List Bool) : List Bool → Nat → Option (Nat × Option Tmp × Prop × SV)
  | [], _ => none
  | true :: r, i => scan T tm keep all listed r (i + 1)
  | false :: r, i => if ((all[i]?).map (·.after.all fun e => !Region.binds .any e || listed.getD e.on false)).getD false then (match simpO T tm keep all i with | some r => some r | none => scan T tm keep all listed r (i + 1)) else scan T tm keep all listed r (i + 1)
/-- A test that an operation waits for, and that is not told yet. -/
def gsp (all : Array Oper) (tm : Tm) : List Nat → Option (Nat × Bool)
  | [] => none
  | i :: r =>
    match all[i]? with
    | none => gsp all tm r
    | some o => (match guardV all tm o.guard with | .if_ d b _ => some (d, b) | _ => gsp all tm r)
theorem guardV_if0 {all : Array Oper} {tm : Tm} {g : Option (Nat × Bool)} {d : Nat} {b want : Bool} (h : guardV all tm g = .if_ d b want) : find d tm = some (.c (.b b)) := by
  unfold guardV at h
  split at h
  · cases h
  · split at h
    · cases h
    · split at h
      · unfold gvL at h
        split at h <;> cases h
      · rename_i hx
        cases h
        exact hx
      · cases h
      · cases h
theorem gsp_ok {all : Array Oper} {tm : Tm} {d : Nat} {b : Bool} : ∀ {rs : List Nat}, gsp all tm rs = some (d, b) → find d tm = some (.c (.b b))
  | [], h => by cases h
  | i :: r, h => by
    simp only [gsp] at h
    split at h
    · exact gsp_ok h
    · split at h
      · rename_i hg
        cases h
        exact guardV_if0 hg
      · exact gsp_ok h
theorem upd_app (o : Nat) (l : List CV) : ∀ (cs r : List CV), o + l.length ≤ cs.length → upd (cs ++ r) o l = upd cs o l ++ r := by
  induction l generalizing o with
  | nil => exact fun _ _ _ => rfl
  | cons x q ih =>
    intro cs r h
    simp only [List.length_cons] at h
    rw [upd, upd, List.set_append_left _ _ (by omega), ih _ _ _ (by simp; omega)]
/-- A row of one's own is written. -/
theorem row_store {P : Program} {t : TypeId} {i : TI} (h : TIok P t i) {w : World} {S : Nat → Prop} {g n c o sz : Nat} {T : TypeId} {cs : List CV} (hr : (Res.row (some ⟨g, 0, none⟩) n c T sz cs).holds S w) (s : SV) (hl : (cellsOf s).length = i.sz) (ho : o + i.sz ≤ cs.length) (h1 : ones (cellsOf s)) :
    ∃ w', (storeVar t ⟨g, o, none⟩ s.val).run P w = .ok () w' ∧ Ext (fun b => b ≠ g) w w' ∧ w'.ownsRow 0 T sz (.slice (some ⟨g, 0, none⟩) n c) n ((upd cs o (cellsOf s)).map CV.val) ∧ g < w'.heap.size := by
  obtain ⟨_, h2, h3⟩ := hr
  rcases h3 with ⟨h3, _⟩ | ⟨g', cap, cur, hv, _, hg, hn, hc, hs, ht⟩
  · cases h3
  · obtain ⟨rfl, rfl⟩ : g = g' ∧ c = cap := by simpa using hv
    have hcur : cur = ((cs ++ (cur.toList.drop (n * sz)).map CV.v).map CV.val).toArray := by
      apply Array.ext'
      simp only [List.map_append, List.map_map]
      rw [← ht, show (CV.val ∘ CV.v) = id from rfl, List.map_id, List.take_append_drop]
    rw [hcur] at hg
    obtain ⟨w', k1, k2, k3⟩ := store_run (P := P) (o := o) h hg s hl (by rw [List.length_append]; omega) h1
    rw [upd_app _ _ _ _ (by omega)] at k3
    have hlen : cs.length = n * sz := by simpa using h2
    refine ⟨w', k1, k2, ⟨by simp [upd_length, hlen], .inr ⟨g, c, _, rfl, Nat.zero_le _, k3, hn, hc, ?_, ?_⟩⟩, (Array.getElem?_eq_some_iff.1 k3).1⟩
    · have h5 := congrArg Array.size hcur
      simp only [List.map_append, List.size_toArray, List.length_append, List.length_map, upd_length] at h5 ⊢
      omega
    · simp only [List.map_append]
      rw [List.take_left' (by simp [upd_length, hlen])]
/-- One thing, or the other. -/
def ifb (b : Bool) (A B : Prop) : Prop := (b = true → A) ∧ (b = false → B)
@[congr] theorem ifb_congr {b c : Bool} {A B : Prop} (h : b = c) : ifb b A B = ifb c A B := by rw [h]
theorem ifb_true {A B : Prop} : ifb true A B = A := by simp [ifb]
theorem ifb_false {A B : Prop} : ifb false A B = B := by simp [ifb]
theorem ifb_true' {A B : Prop} : ifb true A B = A := ifb_true
theorem ifb_false' {A B : Prop} : ifb false A B = B := ifb_false
theorem ifb_eq {b : Bool} {A B : Prop} : ifb b A B = ((b = true → A) ∧ (b = false → B)) := rfl
/-- WHAT IS TO BE SHOWN. -/
def sx (T : Ty) (C : Ctx) (res : List ResultVar) : Nat → Pos → Tm → Mem → Prop
  | 0, p, tm, m => At C p tm m
  | n + 1, .todo k, tm, m =>
    match k with
    | .code .skip :: k | .code (.label _) :: k | .inBlock _ :: k => sx T C res n (.todo k) tm m
    | .code (.seq a b) :: k => sx T C res n (.todo (.code a :: .code b :: k)) tm m
    | .code (.block id b) :: k => sx T C res n (.todo (.code b :: .inBlock id :: k)) tm m
    | .code (.exit id) :: k => (match exitTo id k with | some k' => sx T C res n (.todo k') tm m | none => At C (.todo (.code (.exit id) :: k)) tm m)
    | .code (.cond c x y) :: k => (match ev tm c with | some (.c (.v (.bool true))) => sx T C res n (.todo (.code x :: k)) tm m | some (.c (.v (.bool false))) => sx T C res n (.todo (.code y :: k)) tm m | some (.c (.b b)) => ifb b (sx T C res n (.todo (.code x :: k)) (setO c true tm) m) (sx T C res n (.todo (.code y :: k)) (setO c false tm) m) | _ => At C (.todo (.code (.cond c x y) :: k)) tm m)
    | .code (.region _ all false) :: k => sx T C res n (.ops all all.toList k) tm m
    | .code .ret :: k => (match resV T tm m.rs res with | some (c, l) => c ∧ RetP C (tupV l) m | none => At C (.todo (.code .ret :: k)) tm m)
    | [] => (match resV T tm m.rs res with | some (c, l) => c ∧ RetP C (tupV l) m | none => At C (.todo []) tm m)
    | k => At C (.todo k) tm m
  | n + 1, .ops all l k, tm, m =>
    match l with
    | [] => sx T C res n (.todo k) tm m
    | o :: l =>
      match guardV all tm o.guard with
      | .yes => sx T C res n (.op o (.ops all l k)) tm m
      | .no => sx T C res n (.ops all l k) (put C.n o.dst (.c (.v undef)) tm) m
      | .if_ d b want => (b = want → sx T C res n (.op o (.ops all l k)) ((d, .c (.v (.bool want))) :: tm) m) ∧ (b = !want → sx T C res n (.ops all l k) (put C.n o.dst (.c (.v undef)) ((d, .c (.v (.bool !want))) :: tm)) m)
      | .lost => At C (.ops all (o :: l) k) tm m
  | n + 1, .op o p, tm, m =>
    match evOp T tm m.rs o.op with
    | some (c, x) => c ∧ sx T C res n p (put C.n o.dst x tm) m
    | none =>
      match o.op, o.dst with
      | .alloc t, some d =>
        (match tf t T with
        | some i => ∀ g, sx T C res n p (put C.n (some d) (.c (.bp d g 0)) tm) ⟨m.B, m.G, (d, .box g t (i.zero.map .v)) :: del d (del d m.rs)⟩
        | none => At C (.op o p) tm m)
      | .box t x, some d =>
        (match ev tm x with
        | some s => ∀ g, sx T C res n p (put C.n (some d) (.c (.bp d g 0)) tm) ⟨m.B, m.G, (d, .box g t (cellsOf s)) :: del d (del d m.rs)⟩
        | none => At C (.op o p) tm m)
      | .store t x y, none =>
        (match ev tm x, ev tm y, tf t T with
        | some (.c (.bp k g off)), some s, some i =>
          (match look k m.rs with
          | some (.box g' t' cs) => g = g' ∧ (cellsOf s).length = i.sz ∧ off + i.sz ≤ cs.length ∧ ones (cellsOf s) ∧ sx T C res n p tm ⟨m.B, m.G, (k, .box g' t' (upd cs off (cellsOf s))) :: del k (del k m.rs)⟩
          | some (.row (some ⟨g', 0, none⟩) rn rc t' sz cs) => g = g' ∧ (cellsOf s).length = i.sz ∧ off + i.sz ≤ cs.length ∧ ones (cellsOf s) ∧ sx T C res n p tm ⟨m.B, m.G, (k, .row (some ⟨g', 0, none⟩) rn rc t' sz (upd cs off (cellsOf s))) :: del k (del k m.rs)⟩
          | _ => At C (.op o p) tm m)
        | _, _, _ => At C (.op o p) tm m)
      | .buildSlice t len parts, some d =>
        (match tf t T with
        | some i =>
          (match tf i.el T with
          | some e =>
            (match lits tm e.sz 0 parts.toList with
            | some cs => i.kd = 3 ∧ cs.length = len * e.sz ∧ 0 < e.sz ∧ len * e.sz ≤ 16777216 ∧ e.zero.length = e.sz ∧ ∀ g, sx T C res n p (put C.n (some d) (.c (.rw d (some ⟨g, 0, none⟩) len len)) tm) ⟨m.B, m.G, (d, .row (some ⟨g, 0, none⟩) len len i.el e.sz cs) :: del d (del d m.rs)⟩
            | none => At C (.op o p) tm m)
          | none => At C (.op o p) tm m)
        | none => At C (.op o p) tm m)
      | _, _ => At C (.op o p) tm m
  | n + 1, .any all B keep fu listed k, tm, m =>
    (∀ W, m.B W → B W) ∧ keepB m.rs keep ∧
    (match scan T tm keep all listed listed 0 with
    | some (i, d, c, x) => (match fu with | 0 => False | fu + 1 => c ∧ sx T C res n (.any all B keep fu (listed.set i true) k) (put C.n d x tm) m)
    | none =>
      match rdyA all listed all.size 0 with
      | [] => sx T C res n (.todo k) tm m
      | rs =>
        match gsp all tm rs with
        | some (d, b) => ifb b (sx T C res n (.any all B keep fu listed k) ((d, .c (.v (.bool true))) :: tm) m) (sx T C res n (.any all B keep fu listed k) ((d, .c (.v (.bool false))) :: tm) m)
        | none =>
          match fu with
          | 0 => False
          | fu + 1 => sx T C res n (.alts rs all B keep fu listed k) tm m)
  | n + 1, .alts rs all B keep fu listed k, tm, m =>
    match rs with
    | [] => True
    | i :: r =>
      (match all[i]? with
      | none => False
      | some o =>
        match guardV all tm o.guard with
        | .yes => sx T C res n (.op o (.any all B keep fu (listed.set i true) k)) tm m
        | .no => sx T C res n (.any all B keep fu (listed.set i true) k) (put C.n o.dst (.c (.v undef)) tm) m
        | .if_ d b want => (b = want → sx T C res n (.op o (.any all B keep fu (listed.set i true) k)) ((d, .c (.v (.bool want))) :: tm) m) ∧ (b = !want → sx T C res n (.any all B keep fu (listed.set i true) k) (put C.n o.dst (.c (.v undef)) ((d, .c (.v (.bool !want))) :: tm)) m)
        | .lost => False) ∧ sx T C res n (.alts r all B keep fu listed k) tm m
section
variable {C : Ctx} {T : Ty} {res : List ResultVar}
theorem At.next {p q : Pos} {tm : Tm} {m : Mem} (h : At C q tm m) (hs : ∀ a w cs, Nx C cs q a w → Nx C cs p a w) : At C p tm m := fun a w cs hR hJ => hs a w cs (h a w cs hR hJ)
/-- Behind an operation that yields a value. -/
theorem op_value {o : Oper} {p : Pos} {tm' : Tm} {m' : Mem} {a : Act} {w w' : World} {cs : List Frame} {v : Value} (h : At C p tm' m') (hr : (execOp a.eval o).run C.P w = .ok (.value v) w') (hR : Rel C.n tm' (a.put o.dst v)) (hJ : J C m' w') : Nx C cs (.op o p) a w := by
  show o.wp C.P a w (Nx C cs p) (QQ C cs p.k)
  unfold Oper.wp
  rw [hr]
  exact h _ _ _ hR hJ
theorem op_skip {o : Oper} {p : Pos} {tm' : Tm} {m' : Mem} {a : Act} {w w' : World} {cs : List Frame} (h : At C p tm' m') (hr : (execOp a.eval o).run C.P w = .ok .skip w') (hR : Rel C.n tm' (a.put o.dst undef)) (hJ : J C m' w') : Nx C cs (.op o p) a w := by
  show o.wp C.P a w (Nx C cs p) (QQ C cs p.k)
  unfold Oper.wp
  rw [hr]
  exact h _ _ _ hR hJ
theorem ret_end {tm : Tm} {m : Mem} {c : Prop} {l : List SV} (hT : TyOk C.P T) (hfn : C.P.funcs[C.f]? = some C.fn) (hres : C.fn.results.toList = res) (h : resV T tm m.rs res = some (c, l)) (hc : c) (hr : RetP C (tupV l) m) {a : Act} {w : World} (hR : Rel C.n tm a) (hJ : J C m w) (k : List Item) (cs : List Frame)
    (hs : Steps C.P (lone ((base C.f).at a k) cs w) (lone { (base C.f).at a k with mode := .returning } cs w)) : Good C cs k a w := by
  refine ⟨.returned (tupV l), w, { (base C.f).at a k with mode := .returning }, hr w hJ, hs, rfl, rfl, hR.defers, rfl, C.fn, hfn, ?_⟩
  have h1 := resV_ok hT hR hJ.ok h hc
  have e : C.fn.results = res.toArray := by rw [← hres]
  rw [results_rd, e, List.mapM_toArray]
  have h2 : (res.mapM (rdV (Frame.tmps { (base C.f).at a k with mode := .returning }))).run C.P w = .ok (l.map SV.val) w := h1
  simp only [Sem.run_bind, Sem.run_map, h2]
  unfold tupV
  split
  · simp
  · rename_i h3
    have : ¬ (l.map SV.val).toArray.size = 1 := by
      intro h4
      match l, h3, h4 with
      | [x], h3, _ => exact h3 x rfl
      | [], _, h4 => simp at h4
      | x :: y :: r, _, h4 => simp at h4
    simp only [Result.andThen_ok, Sem.run_pure, this, dite_false]
theorem wanted_none {all : Array Oper} {o : Oper} {a : Act} (h : o.guard = none) : Region.wanted o (yielded all a.tmps) = true := by simp [Region.wanted, h]
theorem lits_len {tm : Tm} {sz : Nat} : ∀ {l : List (Nat × Operand)} {j : Nat} {cs : List CV}, lits tm sz j l = some cs → cs.length = l.length * sz
  | [], j, cs, h => by cases h; simp
  | (i, x) :: r, j, cs, h => by
    simp only [lits] at h
    split at h
    · split at h
      · rename_i s l h1 h2
        split at h
        · rename_i hs
          cases h
          have := lits_len h2
          simp [this, hs, Nat.add_mul]
          omega
        · cases h
      · cases h
    · cases h
/-- A part is laid into zeros. -/
theorem fill_ok {n : Nat} {tm : Tm} {a : Act} (hR : Rel n tm a) {sz : Nat} (h0 : 0 < sz) : ∀ {l : List (Nat × Operand)} {j : Nat} {cs : List CV}, lits tm sz j l = some cs → ∀ (pre post : List Value), pre.length = j * sz → post.length = l.length * sz →
    Instr.fill (fun i => some (i * sz, sz)) (pre ++ post).toArray (l.map fun x => (x.1, a.eval x.2)) = some (pre ++ cs.map CV.val).toArray
  | [], j, cs, h, pre, post, hp, hq => by
    cases h
    have : post = [] := List.eq_nil_of_length_eq_zero (by simpa using hq)
    simp [Instr.fill, this]
  | (i, x) :: r, j, cs, h, pre, post, hp, hq => by
    simp only [lits] at h
    split at h
    · rename_i hij
      subst hij
      split at h
      · rename_i s l h1 h2
        split at h
        · rename_i hs
          cases h
          have e := hR.eval h1
          have hc := cellsOf_val s
          have hcl : s.val.cells.size = sz := by rw [← Array.length_toList, ← hc]; simpa using hs
          have hq' : post.length = r.length * sz + sz := by simpa [Nat.add_mul] using hq
          have hfold : ∀ (q p2 : List Value) (k : Nat) (pq : List Value), pq.length = i * sz + k → q.length ≤ p2.length →
              ((q.zipIdx k).foldl (fun (cs : Array Value) (c : Value × Nat) => cs.setIfInBounds (i * sz + c.2) c.1) (pq ++ p2).toArray) = (pq ++ q ++ p2.drop q.length).toArray := by
            intro q
            induction q with
            | nil => intro p2 k pq _ _; simp
            | cons y q ih =>
              intro p2 k pq hl hle
              cases p2 with
              | nil => simp at hle
              | cons z p2 =>
                simp only [List.zipIdx_cons, List.foldl_cons]
                have e1 : (pq ++ z :: p2).toArray.setIfInBounds (i * sz + k) y = ((pq ++ [y]) ++ p2).toArray := by
                  rw [← hl]
                  simp [List.setIfInBounds_toArray, List.set_append_right]
                rw [e1, ih p2 (k + 1) (pq ++ [y]) (by simp [hl]; omega) (by simpa using hle)]
                simp
          have hf := hfold s.val.cells.toList post 0 pre (by simpa using hp) (by rw [Array.length_toList, hcl, hq']; omega)
          have hnot : ¬ (s.val.cells.size ≠ sz || i * sz + s.val.cells.size > (pre ++ post).toArray.size) := by
            simp [hcl, hp, hq']
          have ih := fill_ok hR h0 h2 (pre ++ s.val.cells.toList) (post.drop s.val.cells.toList.length) (by simp [hp, hcl, Nat.add_mul]) (by simp [hcl, hq'])
          have hz : s.val.cells.zipIdx = (s.val.cells.toList.zipIdx 0).toArray := by
            apply Array.ext'
            simp
          simp only [List.map_cons, Instr.fill, e]
          rw [if_neg (by simpa using hnot), hz, List.foldl_toArray, hf, ih]
          simp [hc]
        · cases h
      · cases h
    · cases h
theorem rdyA_eq (all : Array Oper) (listed : List Bool) : ∀ n i, rdyA all listed n i = (List.range' i n).filter fun i => !listed.toArray.getD i true && ((all[i]?).map (·.after.all fun e => !Region.binds .any e || listed.toArray.getD e.on false)).getD false
  | 0, i => rfl
  | n + 1, i => by
    have e : ∀ (j : Nat) (b : Bool), listed.toArray.getD j b = listed.getD j b := fun j b => by simp
    simp only [rdyA, List.range'_succ, List.filter_cons, e]
    rw [rdyA_eq all listed n (i + 1)]
    simp only [e]
theorem ready_eq (all : Array Oper) (listed : List Bool) : Region.ready .any all listed.toArray = rdyA all listed all.size 0 := by
  rw [rdyA_eq, Region.ready, List.range_eq_range']
theorem J.atB {C : Ctx} {m : Mem} {w : World} (h : J C m w) : m.B w := by
  obtain ⟨I, F, h⟩ := h
  exact h.base w (Ext.refl _ _)
theorem keepB_look {rs : List (Nat × Res)} : ∀ {l : List (Nat × Res)}, keepB rs l → ∀ k r, look k l = some r → look k rs = some r
  | [], _, k, r, h => by cases h
  | (j, q) :: t, hk, k, r, h => by
    simp only [look] at h
    by_cases e : k = j
    · subst e
      rw [if_pos rfl] at h
      cases h
      exact hk.1
    · rw [if_neg e] at h
      exact keepB_look hk.2 k r h
theorem CellsOK.keep {rs l : List (Nat × Res)} {w : World} (h : CellsOK rs w) (hk : keepB rs l) : CellsOK l w := fun k r g cs hl hr => h k r g cs (keepB_look hk k r hl) hr
theorem simpO_ok {T : Ty} {tm : Tm} {keep : List (Nat × Res)} {all : Array Oper} {i j : Nat} {d : Option Tmp} {c : Prop} {x : SV} (h : simpO T tm keep all i = some (j, d, c, x)) : j = i ∧ ∃ o, all[i]? = some o ∧ d = o.dst ∧ ((guardV all tm o.guard = .yes ∧ evOp T tm keep o.op = some (c, x)) ∨ (guardV all tm o.guard = .no ∧ isS o.op = true ∧ x = .c (.v undef))) := by
  unfold simpO at h
  split at h
  · cases h
  · rename_i o ho
    split at h
    · rename_i hg
      split at h
      · rename_i c' x' he
        cases h
        exact ⟨rfl, o, ho, rfl, .inl ⟨hg, he⟩⟩
      · cases h
    · rename_i hg
      split at h
      · rename_i hs
        cases h
        exact ⟨rfl, o, ho, rfl, .inr ⟨hg, hs, rfl⟩⟩
      · cases h
    · cases h
theorem scan_ok {T : Ty} {tm : Tm} {keep : List (Nat × Res)} {all : Array Oper} {listed : List Bool} {j : Nat} {d : Option Tmp} {c : Prop} {x : SV} : ∀ {s : List Bool} {i : Nat}, (∀ k : Nat, s[k]? = listed[i + k]?) → scan T tm keep all listed s i = some (j, d, c, x) →
    ∃ o, all[j]? = some o ∧ d = o.dst ∧ j ∈ rdyA all listed all.size 0 ∧ ((guardV all tm o.guard = .yes ∧ evOp T tm keep o.op = some (c, x)) ∨ (guardV all tm o.guard = .no ∧ isS o.op = true ∧ x = .c (.v undef)))
  | [], _, _, h => by cases h
  | true :: r, i, hk, h => scan_ok (s := r) (i := i + 1) (fun k => by have := hk (k + 1); rw [List.getElem?_cons_succ] at this; rw [this]; congr 1; omega) h
  | false :: r, i, hk, h => by
    have next : ∀ k : Nat, r[k]? = listed[i + 1 + k]? := fun k => by have := hk (k + 1); rw [List.getElem?_cons_succ] at this; rw [this]; congr 1; omega
    simp only [scan] at h
    split at h
    · rename_i hr
      split at h
      · rename_i r' hs
        cases h
        obtain ⟨rfl, o, ho, h1, h2⟩ := simpO_ok hs
        refine ⟨o, ho, h1, ?_, h2⟩
        rw [rdyA_eq, List.mem_filter]
        have hl : listed[j]? = some false := by have := hk 0; simpa using this.symm
        refine ⟨by have := (Array.getElem?_eq_some_iff.1 ho).1; simp; omega, ?_⟩
        simp only [Bool.and_eq_true]
        exact ⟨by simp [hl], by simpa using hr⟩
      · exact scan_ok next h
    · exact scan_ok next h
theorem evOp_isS {T : Ty} {tm : Tm} {rs : List (Nat × Res)} {o : Op} {c : Prop} {x : SV} (h : evOp T tm rs o = some (c, x)) : isS o = true := by
  unfold evOp at h
  split at h <;> first | rfl | cases h
theorem frB_sel {all : Array Oper} (h : frB all = true) : Region.noSelect all = true := by
  simp only [frB, Bool.and_eq_true] at h
  exact h.1
theorem frB_free {all : Array Oper} (h : frB all = true) {i : Nat} {o : Oper} (hi : all[i]? = some o) (hs : isS o.op = true) {listed : Array Bool} (hr : i ∈ Region.ready .any all listed) : ∀ j oj, all[j]? = some oj → j ≠ i → listed.getD j true = false → (∀ e ∈ oj.after, Region.binds .any e = true → e.on ≠ i) → o.apart all oj = true := by
  intro j oj hj hne hun hno
  have hlt := (Array.getElem?_eq_some_iff.1 hi).1
  have hjl := (Array.getElem?_eq_some_iff.1 hj).1
  simp only [frB, Bool.and_eq_true, List.all_eq_true, List.mem_range] at h
  have h1 := h.2 i hlt
  simp only [hi, hs, Bool.not_true, Bool.false_or, List.all_eq_true, List.mem_range] at h1
  have h2 := h1 j hjl
  simp only [hj, Bool.or_eq_true, beq_iff_eq, hne, false_or] at h2
  rcases h2 with h2 | h2 | h2
  · obtain ⟨e, he, hb⟩ := Array.any_eq_true'.1 h2
    simp only [Bool.and_eq_true, beq_iff_eq] at hb
    simp only [Region.ready, List.mem_filter, hi, Option.map_some, Option.getD_some, Bool.and_eq_true] at hr
    have h3 := Array.all_eq_true'.1 hr.2.2 e he
    simp only [hb.1, Bool.not_true, Bool.false_or, hb.2] at h3
    rw [Array.getD_eq_getD_getElem?] at h3 hun
    cases hg : listed[j]? with
    | none => rw [hg] at h3; cases h3
    | some b =>
      rw [hg] at h3 hun
      simp at h3 hun
      rw [h3] at hun
      cases hun
  · obtain ⟨e, he, hb⟩ := Array.any_eq_true'.1 h2
    simp only [Bool.and_eq_true, beq_iff_eq] at hb
    exact absurd hb.2 (hno e he hb.1)
  · exact h2
theorem yield_find {all : Array Oper} {n : Nat} {tm : Tm} {a : Act} (hR : Rel n tm a) {j d : Nat} {x : SV} (hd : (all[j]?).bind (·.dst) = some d) (hx : find d tm = some x) : yielded all a.tmps j = match x.val with | .bool b => some b | _ => none := by
  unfold yielded
  rw [hd]
  have := hR.get d x hx
  simp only [Option.bind_some, this]
  cases x.val <;> rfl
theorem gvL_yes {a b : Bool} (h : gvL a b = .yes) : a = b := by cases a <;> cases b <;> first | rfl | cases h
theorem gvL_no {a b : Bool} (h : gvL a b = .no) : a ≠ b := by cases a <;> cases b <;> simp [gvL] at h ⊢
theorem guardV_yes {all : Array Oper} {n : Nat} {tm : Tm} {o : Oper} {a : Act} (hR : Rel n tm a) (h : guardV all tm o.guard = .yes) : Region.wanted o (yielded all a.tmps) = true := by
  unfold guardV at h
  split at h
  · rename_i hg
    exact wanted_none hg
  · rename_i j want hg
    split at h
    · cases h
    · rename_i d hd
      split at h
      · rename_i b hb
        have h1 := yield_find hR hd hb
        simp only [SV.val, CV.val] at h1
        simp [Region.wanted, hg, h1, gvL_yes h]
      all_goals cases h
theorem guardV_no {all : Array Oper} {n : Nat} {tm : Tm} {o : Oper} {a : Act} (hR : Rel n tm a) (h : guardV all tm o.guard = .no) : Region.wanted o (yielded all a.tmps) = false := by
  unfold guardV at h
  split at h
  · cases h
  · rename_i j want hg
    split at h
    · cases h
    · rename_i d hd
      split at h
      · rename_i b hb
        have h1 := yield_find hR hd hb
        simp only [SV.val, CV.val] at h1
        simp [Region.wanted, hg, h1, gvL_no h]
      · cases h
      · rename_i vs hb
        have h1 := yield_find hR hd hb
        simp only [SV.val, CV.val] at h1
        simp [Region.wanted, hg, h1]
      · cases h
theorem guardV_if {all : Array Oper} {n : Nat} {tm : Tm} {o : Oper} {a : Act} {d : Nat} {b want : Bool} (hR : Rel n tm a) (h : guardV all tm o.guard = .if_ d b want) : Region.wanted o (yielded all a.tmps) = (b == want) ∧ find d tm = some (.c (.b b)) := by
  unfold guardV at h
  split at h
  · cases h
  · rename_i j w' hg
    split at h
    · cases h
    · rename_i d' hd
      split at h
      · rename_i b' hb
        cases b' <;> cases w' <;> cases h
      · rename_i b' hb
        cases h
        have h1 := yield_find hR hd hb
        simp only [SV.val, CV.val] at h1
        exact ⟨by simp [Region.wanted, hg, h1], hb⟩
      all_goals cases h
theorem sx_ok (hT : TyOk C.P T) (hfn : C.P.funcs[C.f]? = some C.fn) (hres : C.fn.results.toList = res) : ∀ (n : Nat) (p : Pos) (tm : Tm) (m : Mem), sx T C res n p tm m → At C p tm m := by
  intro n
  induction n with
  | zero => exact fun p tm m h => h
  | succ n ih =>
    intro p tm m h
    cases p with
    | todo k =>
      unfold sx at h
      split at h
      · exact (ih _ _ _ h).next fun a w cs hg => Good.of hg (.one step_skip)
      · exact (ih _ _ _ h).next fun a w cs hg => Good.of hg (.one step_label)
      · exact (ih _ _ _ h).next fun a w cs hg => Good.of hg (.one step_inBlock)
      · exact (ih _ _ _ h).next fun a w cs hg => Good.of hg (.one step_seq)
      · exact (ih _ _ _ h).next fun a w cs hg => Good.of hg (.one step_block)
      · split at h
        · rename_i k' he
          exact (ih _ _ _ h).next fun a w cs hg => Good.of hg (.one (step_exit he))
        · exact h
      · split at h
        · rename_i hb
          intro a w cs hR hJ
          have hc := hR.eval hb
          exact Good.of (ih _ _ _ h a w cs hR hJ) (.one (by simpa using step_cond hc))
        · rename_i hb
          intro a w cs hR hJ
          have hc := hR.eval hb
          exact Good.of (ih _ _ _ h a w cs hR hJ) (.one (by simpa using step_cond hc))
        · rename_i b hb
          intro a w cs hR hJ
          have hc := hR.eval hb
          cases b with
          | true => exact Good.of (ih _ _ _ (And.left (show _ ∧ _ from h) rfl) a w cs (hR.setO hb) hJ) (.one (by simpa using step_cond hc))
          | false => exact Good.of (ih _ _ _ (And.right (show _ ∧ _ from h) rfl) a w cs (hR.setO hb) hJ) (.one (by simpa using step_cond hc))
        · exact h
      · rename_i id all k
        intro a w cs hR hJ
        exact Good.region (wp_region_list (ih _ _ _ h a w cs hR hJ))
      · split at h
        · rename_i c l hr
          exact fun a w cs hR hJ => ret_end hT hfn hres hr h.1 h.2 hR hJ _ cs (.one step_ret)
        · exact h
      · split at h
        · rename_i c l hr
          exact fun a w cs hR hJ => ret_end hT hfn hres hr h.1 h.2 hR hJ _ cs (.one step_end)
        · exact h
      · exact h
    | ops all l k =>
      unfold sx at h
      split at h
      · exact (ih _ _ _ h).next fun a w cs hg => ⟨rfl, hg⟩
      · rename_i o l
        have hop : ∀ tm, sx T C res n (.op o (.ops all l k)) tm m → ∀ a w cs, Rel C.n tm a → J C m w → Region.wanted o (yielded all a.tmps) = true → Nx C cs (.ops all (o :: l) k) a w := fun tm h a w cs hR hJ hw => by
          have := ih _ _ _ h a w cs hR hJ
          show wpList _ _ _ _ _ _
          unfold wpList
          rw [if_pos hw]
          exact .inl this
        have hsk : ∀ tm, sx T C res n (.ops all l k) (put C.n o.dst (.c (.v undef)) tm) m → ∀ a w cs, Rel C.n tm a → J C m w → Region.wanted o (yielded all a.tmps) = false → Nx C cs (.ops all (o :: l) k) a w := fun tm h a w cs hR hJ hw => by
          have := ih _ _ _ h _ w cs (hR.put o.dst (.c (.v undef))) hJ
          show wpList _ _ _ _ _ _
          unfold wpList
          rw [if_neg (by rw [hw]; decide)]
          exact this
        split at h
        · rename_i hg
          exact fun a w cs hR hJ => hop _ h a w cs hR hJ (guardV_yes hR hg)
        · rename_i hg
          exact fun a w cs hR hJ => hsk _ h a w cs hR hJ (guardV_no hR hg)
        · rename_i d b want hg
          intro a w cs hR hJ
          obtain ⟨hw, hf⟩ := guardV_if hR hg
          by_cases e : b = want
          · exact hop _ (h.1 e) a w cs (hR.same hf (by rw [e]; rfl)) hJ (by rw [hw]; simp [e])
          · have e2 : b = !want := by cases b <;> cases want <;> simp_all
            exact hsk _ (h.2 e2) a w cs (hR.same hf (by rw [e2]; rfl)) hJ (by rw [hw]; simp [e])
        · exact h
    | op o p =>
      unfold sx at h
      split at h
      · rename_i c x he
        exact fun a w cs hR hJ => op_value (ih _ _ _ h.2) (evOp_ok hT hR hJ.ok he h.1) (hR.put _ _) hJ
      · split at h
        · rename_i t d ho hd
          split at h
          · rename_i i hi
            intro a w cs hR hJ
            have ok := hT.get hi
            obtain ⟨z, hz, hc⟩ := ok.g_zeroValue w
            have hzc : z.cells = ((i.zero.map CV.v).map CV.val).toArray := by apply Array.ext'; simp [hc, CV.val]; rw [← hc]; simp [Function.comp_def, CV.val]
            have hJ' := hJ.alloc d t (i.zero.map .v)
            rw [← hzc] at hJ'
            refine op_value (v := .pointer (some ⟨w.heap.size, 0, none⟩)) (ih _ _ _ (h w.heap.size)) ?_ (by rw [hd]; exact hR.put (some d) (.c (.bp d w.heap.size 0))) hJ'
            simp [execOp, ho, Instr.alloc, hz, newVar, newRow, newObj, Sem.run]
          · exact h
        · rename_i t x d ho hd
          split at h
          · rename_i s hs
            intro a w cs hR hJ
            have hzc : s.val.cells = ((cellsOf s).map CV.val).toArray := by apply Array.ext'; rw [cellsOf_val]
            have hJ' := hJ.alloc d t (cellsOf s)
            rw [← hzc] at hJ'
            refine op_value (v := .pointer (some ⟨w.heap.size, 0, none⟩)) (ih _ _ _ (h w.heap.size)) ?_ (by rw [hd]; exact hR.put (some d) (.c (.bp d w.heap.size 0))) hJ'
            simp [execOp, ho, Instr.box, hR.eval hs, newVar, newRow, newObj, Sem.run]
          · exact h
        · rename_i t x y ho hd
          split at h
          · rename_i k g off s i hx hy hi
            split at h
            · rename_i g' t' cs hl
              obtain ⟨rfl, h1, h2, h3, h4⟩ := h
              intro a w cs' hR hJ
              obtain ⟨w', hr, he, hh⟩ := store_run (hT.get hi) (hJ.cells hl) s h1 h2 h3
              refine op_skip (ih _ _ _ h4) (w' := w') ?_ (by rw [hd]; exact hR) (hJ.write hl he hh)
              have e1 := hR.eval hx
              have e2 := hR.eval hy
              simp only [SV.val, CV.val] at e1
              simp [execOp, ho, Instr.storeAt, e1, e2, Instr.sureAddr, hr]
            · rename_i g' rn rc t' sz cs hl
              obtain ⟨rfl, h1, h2, h3, h4⟩ := h
              rintro a w cs' hR ⟨I, F, hJ⟩
              have h0 := hJ.own _ (look_mem hl)
              obtain ⟨w', hr, he, hh, hlt⟩ := row_store (hT.get hi) h0 s h1 h2 h3
              refine op_skip (ih _ _ _ h4) (w' := w') ?_ (by rw [hd]; exact hR) ⟨I, _, hJ.upd k k _ (fun b => b = g) (fun b => b = g) (fun b hb => ⟨(h0.1 b).2 (by rw [hb]; rfl), _, look_mem hl⟩) (he.mono fun b hb => hb.2) ⟨fun b => by simp [Value.ownBlock]; exact ⟨fun h => h.symm, fun h => h.symm⟩, hh⟩ (fun b hb => ⟨by rw [hb]; exact hlt, .inl hb⟩) id⟩
              have e1 := hR.eval hx
              have e2 := hR.eval hy
              simp only [SV.val, CV.val] at e1
              simp [execOp, ho, Instr.storeAt, e1, e2, Instr.sureAddr, hr]
            · exact h
          · exact h
        · rename_i t len parts d ho hd
          split at h
          · rename_i i hi
            split at h
            · rename_i e he
              split at h
              · rename_i cs hcs
                obtain ⟨hk, hl, h0, hs, hz, h⟩ := h
                intro a w cs' hR hJ
                have hu := (hT.get hi).g_slice hk
                have hlen := lits_len hcs
                have hle : parts.toList.length = len := by
                  have := hl.symm.trans hlen
                  exact (Nat.eq_of_mul_eq_mul_right h0 this).symm
                obtain ⟨z, hzr, hzc⟩ := (hT.get he).g_zeroValue w
                have hzs : z.cells.size = e.sz := by rw [← hz, ← hzc, Array.length_toList]
                have hf := fill_ok hR h0 hcs [] ((List.range (len * e.sz)).map fun j => z.cells[j % z.cells.size]!) (by simp) (by simp [hle])
                have hn : len ≤ maxLen := by
                  have : len * 1 ≤ len * e.sz := Nat.mul_le_mul_left len h0
                  unfold maxLen
                  omega
                refine op_value (v := .slice (some ⟨w.heap.size, 0, none⟩) len len) (w' := w.alloc (.cells (cs.map CV.val).toArray i.el)) (ih _ _ _ (h w.heap.size)) ?_ (by rw [hd]; exact hR.put (some d) (.c (.rw d (some ⟨w.heap.size, 0, none⟩) len len))) (hJ.lit d i.el e.sz len cs hn hl)
                have hnb : ¬ (len * e.sz > 2 ^ 24) := by omega
                have hpm : (parts.map fun x => (x.1, a.eval x.2)).toList = parts.toList.map fun x => (x.1, a.eval x.2) := by simp
                simp only [List.nil_append] at hf
                have hrange : ((Array.range (len * e.sz)).map fun j => z.cells[j % z.cells.size]!) = ((List.range (len * e.sz)).map fun j => z.cells[j % z.cells.size]!).toArray := by
                  apply Array.ext'
                  simp
                have hz2 := (hT.get he).g_sizeOf (P := C.P)
                have hpe : ∀ (q : Array (Nat × Value)), q.toList = parts.toList.map (fun x => (x.1, a.eval x.2)) → (Instr.buildSlice t len q).run C.P w = .ok (.slice (some ⟨w.heap.size, 0, none⟩) len len) (w.alloc (.cells (cs.map CV.val).toArray i.el)) := by
                  intro q hq
                  unfold Instr.buildSlice
                  rw [hq]
                  rcases Nat.eq_zero_or_pos (len * e.sz) with h5 | h5
                  · have hl0 : len = 0 := by
                      rcases Nat.mul_eq_zero.1 h5 with h6 | h6
                      · exact h6
                      · omega
                    have hp0 : parts.toList = [] := List.eq_nil_of_length_eq_zero (by omega)
                    have hc0 : cs = [] := List.eq_nil_of_length_eq_zero (by omega)
                    subst hl0
                    simp [underlying, hu, hz2, hp0, hc0, Instr.fill, newRow, newObj, Sem.run]
                    congr 2
                    apply Array.ext'
                    simp
                  · have h6 : ¬ (len * e.sz = 0) := by omega
                    simp only [underlying, Sem.run_bind, hz2, hnb, h6, if_false, hzr, hrange, hf]
                    simp [hu, hz2, hnb, h6, hzr, hrange, hf, newRow, newObj, Sem.run]
                simp [execOp, ho, hpe _ hpm]
              · exact h
            · exact h
          · exact h
        · exact h
    | any all B keep fu listed k =>
      unfold sx at h
      obtain ⟨hB, hK, h⟩ := h
      have hSK : ∀ w, J C m w → SK B keep w := fun w hJ => ⟨hB w hJ.atB, hJ.ok.keep hK⟩
      split at h
      · rename_i i d c x hs
        obtain ⟨o, hi, rfl, hmem, hs⟩ := scan_ok (fun k => by rw [Nat.zero_add]) hs
        split at h
        · exact h.elim
        · rename_i fu
          intro a w cs hR hJ
          refine ⟨hSK w hJ, fun hf => ?_⟩
          have hn := ih _ _ _ h.2 _ w cs (hR.put o.dst x) hJ
          have hy : YieldsIf C.P all (SK B keep) o x.val a := by
            rcases hs with ⟨hg, he⟩ | ⟨hg, _, rfl⟩
            · exact .inl ⟨guardV_yes hR hg, fun w' hS => evOp_ok hT hR hS.2 he h.1⟩
            · exact .inr ⟨guardV_no hR hg, rfl⟩
          have hsS : isS o.op = true := by
            rcases hs with ⟨_, he⟩ | ⟨_, h1, _⟩
            · exact evOp_isS he
            · exact h1
          refine wpAnyH_first hi (Region.noSelect_spec (frB_sel hf)) (fun c a w hq => by cases hq.1) fu _ a w (frB_free hf hi hsS (by rw [ready_eq]; exact hmem)) (by rw [ready_eq]; exact hmem) hy (hSK w hJ) ?_
          rw [List.setIfInBounds_toArray]
          exact hn.2 hf
      · split at h
        · rename_i hr
          intro a w cs hR hJ
          refine ⟨hSK w hJ, fun hf => wpAnyH_done (by rw [ready_eq]; exact hr) ⟨rfl, ih _ _ _ h a w cs hR hJ⟩ _⟩
        · rename_i rs hne
          split at h
          · rename_i d b hg
            have hfd := gsp_ok hg
            intro a w cs hR hJ
            cases b with
            | true => exact ih _ _ _ (And.left (show _ ∧ _ from h) rfl) a w cs (hR.same hfd rfl) hJ
            | false => exact ih _ _ _ (And.right (show _ ∧ _ from h) rfl) a w cs (hR.same hfd rfl) hJ
          · split at h
            · exact h.elim
            · rename_i fu
              intro a w cs hR hJ
              refine ⟨hSK w hJ, fun hf => ?_⟩
              have hn := ih _ _ _ h a w cs hR hJ hf
              refine ⟨fun h0 => absurd (ready_eq all listed ▸ h0) (fun e => hne e), fun i hi => ?_⟩
              rw [List.setIfInBounds_toArray]
              exact hn i (by rw [← ready_eq]; exact hi)
    | alts rs all B keep fu listed k =>
      unfold sx at h
      split at h
      · exact fun a w cs hR hJ hf i hi => by cases hi
      · rename_i i r
        obtain ⟨h1, h2⟩ := h
        intro a w cs hR hJ hf j hj
        rcases List.mem_cons.1 hj with rfl | hj
        · split at h1
          · exact h1.elim
          · rename_i o ho
            have hyes : ∀ tm, Rel C.n tm a → sx T C res n (.op o (.any all B keep fu (listed.set j true) k)) tm m → Region.wanted o (yielded all a.tmps) = true → wpOp C.P all (QQ C cs k) j (fun a' w' => SK B keep w' ∧ wpAnyH C.P .any all (QQ C cs k) (SK B keep) fu (listed.set j true).toArray a' w') a w := fun tm hR h hw => by
              have hn := ih _ _ _ h a w cs hR hJ
              unfold wpOp
              simp only [ho, hw, if_true]
              exact .inl (Oper.wp_mono (fun a' w' hk => ⟨hk.1, hk.2 hf⟩) hn)
            have hno : ∀ tm, Rel C.n tm a → sx T C res n (.any all B keep fu (listed.set j true) k) (put C.n o.dst (.c (.v undef)) tm) m → Region.wanted o (yielded all a.tmps) = false → wpOp C.P all (QQ C cs k) j (fun a' w' => SK B keep w' ∧ wpAnyH C.P .any all (QQ C cs k) (SK B keep) fu (listed.set j true).toArray a' w') a w := fun tm hR h hw => by
              have hn := ih _ _ _ h _ w cs (hR.put o.dst (.c (.v undef))) hJ
              unfold wpOp
              simp only [ho, hw, Bool.false_eq_true, if_false]
              exact ⟨hn.1, hn.2 hf⟩
            split at h1
            · rename_i hg
              exact hyes _ hR h1 (guardV_yes hR hg)
            · rename_i hg
              exact hno _ hR h1 (guardV_no hR hg)
            · rename_i d b want hg
              obtain ⟨hw, hfd⟩ := guardV_if hR hg
              by_cases e : b = want
              · exact hyes _ (hR.same hfd (by rw [e]; rfl)) (h1.1 e) (by rw [hw]; simp [e])
              · have e2 : b = !want := by cases b <;> cases want <;> simp_all
                exact hno _ (hR.same hfd (by rw [e2]; rfl)) (h1.2 e2) (by rw [hw]; simp [e])
            · exact h1.elim
        · exact ih _ _ _ h2 a w cs hR hJ hf j hj
end
end Go.Proofs.Ytbbaoeidobdblaa.Sx

/- append on a slice of the call's own, whatever is appended: nil, empty, or cells that lie somewhere. No program in sight. -/
set_option linter.unusedVariables false
set_option linter.unusedSimpArgs false
namespace Go.Proofs.Ytbbaoeidobdblaa.App
open Go
/-- Where what is appended lies. -/
def Src (w : World) (ao : Option Addr) (m c : Nat) (news : List Value) : Prop :=
  (ao = none ∧ m = 0 ∧ c = 0) ∨ ∃ ad, ao = some ad ∧ ∀ j u, news[j]? = some u → w.cell? (ad.add j) = some u

section
variable {P : Program} (w : World)
end
theorem Src.kept {w w' : World} {ao : Option Addr} {m c : Nat} {news : List Value} {row : Option Nat} (h : Src w ao m c news) (hg : w.grownBy w' row) (hr : ∀ ad, ao = some ad → some ad.block ≠ row) : Src w' ao m c news := by
  rcases h with h | ⟨ad, e, hc⟩
  · exact .inl h
  · exact .inr ⟨ad, e, fun j u hu => hg.cell (hc j u hu) (by
      have : (ad.add j).block = ad.block := by unfold Addr.add; split <;> rfl
      rw [this]; exact hr ad e)⟩
end Go.Proofs.Ytbbaoeidobdblaa.App

/- Sx, part 7: the rules: entering, calls, loops, regions in any order, appending, loading, returning. -/
set_option linter.unusedVariables false
set_option linter.unusedSimpArgs false
namespace Go.Proofs.Ytbbaoeidobdblaa.Sx
open Go
def callB (P : Program) (f : FuncId) : Bool := match P.funcs[f]? with | some fn => fn.body.isSome && !(fn.name == "runtime.NumGoroutine") | none => false
theorem callB_run {P : Program} {f : FuncId} (h : callB P f = true) (args : Array Value) (w : World) : (callFunc f args).run P w = .ok (.enter f args) w := by
  unfold callB at h
  split at h
  · rename_i fn hf
    simp only [Bool.and_eq_true, Bool.not_eq_true'] at h
    have hb : ¬ fn.body = none := by cases hb : fn.body <;> simp_all
    have hne : ¬ fn.name = "runtime.NumGoroutine" := by simpa using h.2
    unfold callFunc
    simp [hf, hne, hb]
  · cases h
/-- A contract: whatever a call is lent (S), it hands back; what it may read lies in I. -/
def Fits (P : Program) (f : FuncId) (args : Array Value) (w : World) (I S : Nat → Prop) {α : Type} (enc : α → Value) (B : α → (Nat → Prop) → World → Prop) (R : α → World → Prop) : Prop := callB P f = true ∧ Calls P f args w (FinP w I S enc B R)
/-- The contract of a function that only reads, and makes: it hands back some 'enc x', of which R is known. -/
abbrev Fn0 (P : Program) (f : FuncId) (args : Array Value) (w : World) (I : Nat → Prop) {α : Type} (enc : α → Value) (R : α → World → Prop) : Prop := Fits P f args w I noS enc noB R
/-- That a table, a function's text and its results belong together. -/
structure Okc (P : Program) (T : Ty) (C : Ctx) (res : List ResultVar) : Prop where
  P : C.P = P
  ty : TyOk C.P T
  fn : C.P.funcs[C.f]? = some C.fn
  res : C.fn.results.toList = res
theorem Okc.sx {P : Program} {T : Ty} {C : Ctx} {res : List ResultVar} (h : Okc P T C res) {n : Nat} {p : Pos} {tm : Tm} {m : Mem} (k : sx T C res n p tm m) : At C p tm m := sx_ok h.ty h.fn h.res n p tm m k
def argsT : Nat → List SV → Tm
  | _, [] => []
  | j, x :: r => (j, x) :: argsT (j + 1) r
theorem argsT_find : ∀ (l : List SV) (j t : Nat) (x : SV), find t (argsT j l) = some x → ∃ i, t = j + i ∧ l[i]? = some x
  | [], j, t, x, h => by cases h
  | y :: r, j, t, x, h => by
    simp only [argsT, find] at h
    by_cases e : t = j
    · rw [if_pos e] at h
      cases h
      exact ⟨0, by omega, rfl⟩
    · rw [if_neg e] at h
      obtain ⟨i, h1, h2⟩ := argsT_find r (j + 1) t x h
      exact ⟨i + 1, by omega, by simpa using h2⟩
theorem enterJ {P : Program} {f : FuncId} {fn : Func} {c : Code} {T : Ty} {res : List ResultVar} {n : Nat} {svs : List SV} {w : World} {I S : Nat → Prop} {α : Type} {enc : α → Value} {B : α → (Nat → Prop) → World → Prop} {R : α → World → Prop} {m : Mem} (hT : TyOk P T) (hf : P.funcs[f]? = some fn) (hb : fn.body = some c) (hn : fn.ntmps = n) (hr : fn.results = res.toArray) (hc : callB P f = true)
    (hl : svs.length ≤ n) (hJ : J ⟨P, f, fn, n, w, I, S, α, enc, B, R⟩ m w) (h : ∀ C : Ctx, C = ⟨P, f, fn, n, w, I, S, α, enc, B, R⟩ → C.n = n → Okc P T C res → sx T C res 1000 (.todo [.code c]) (argsT 0 svs) m) : Fits P f (svs.map SV.val).toArray w I S enc B R := by
  refine ⟨hc, fun cs => ?_⟩
  have ok : Okc P T ⟨P, f, fn, n, w, I, S, α, enc, B, R⟩ res := ⟨rfl, hT, hf, by rw [hr]⟩
  have h1 := ok.sx (h _ rfl rfl ok)
  have hR : Rel n (argsT 0 svs) { tmps := (svs.map SV.val).toArray ++ Array.replicate (n - (svs.map SV.val).toArray.size) undef, defers := [] } := by
    refine ⟨by simp; omega, rfl, fun t x hx => ?_⟩
    obtain ⟨i, rfl, hi⟩ := argsT_find _ _ _ _ hx
    have hlt := (List.getElem?_eq_some_iff.1 hi).1
    rw [Array.getElem?_append_left (by simpa using hlt)]
    simp [hi]
  obtain ⟨e, w', fr, h2, h3, h4, h5⟩ := h1 _ w cs hR hJ
  have henter : Frame.enter P f (svs.map SV.val).toArray .normal = (base f).at { tmps := (svs.map SV.val).toArray ++ Array.replicate (n - (svs.map SV.val).toArray.size) undef, defers := [] } [.code c] := by
    simp [Frame.enter, Frame.at, hf, hb, base, hn]
  rw [henter]
  exact ⟨e, w', fr, h2, h3, h4, h5⟩
/-- A function that only reads, and makes. -/
theorem enter {P : Program} {f : FuncId} {fn : Func} {c : Code} {T : Ty} {res : List ResultVar} {n : Nat} {svs : List SV} {w : World} {I : Nat → Prop} {α : Type} {enc : α → Value} {R : α → World → Prop} (hT : TyOk P T) (hf : P.funcs[f]? = some fn) (hb : fn.body = some c) (hn : fn.ntmps = n) (hr : fn.results = res.toArray) (hc : callB P f = true)
    (hl : svs.length ≤ n) (hI : ∀ b, I b → b < w.heap.size) (G : World → Prop) (hG : ∀ W, Ext I w W → G W) (h : ∀ C : Ctx, C = ⟨P, f, fn, n, w, I, noS, α, enc, noB, R⟩ → C.n = n → Okc P T C res → sx T C res 1000 (.todo [.code c]) (argsT 0 svs) ⟨fun _ => True, G, []⟩) : Fn0 P f (svs.map SV.val).toArray w I enc R :=
  enterJ hT hf hb hn hr hc hl ⟨I, fun _ => noS, Ext.refl _ _, hI, fun _ h => h, fun _ h _ => h, fun p hp => (by cases hp), fun p b hp => (by cases hp), fun p q b hp => (by cases hp), fun p b hp => (by cases hp), fun _ _ => trivial, hG⟩ h
def pubs : List (Nat × Res) → World → Prop
  | [], _ => True
  | p :: r, W => p.2.fact W ∧ pubs r W
theorem pubs_of {W : World} : ∀ {l : List (Nat × Res)}, (∀ p, p ∈ l → p.2.fact W) → pubs l W
  | [], _ => trivial
  | p :: r, h => ⟨h p List.mem_cons_self, pubs_of fun q hq => h q (List.mem_cons_of_mem _ hq)⟩
section
variable {P : Program} {C : Ctx} {T : Ty} {res : List ResultVar} {p : Pos} {tm : Tm} {m : Mem}
theorem ret00 {v : Value} (hS : C.S0 = noS) (hB : C.B = noB) (x : C.α) (hv : v = C.enc x) (h : ∀ W, pubs m.rs W → m.G W → C.R x W) : RetP C v m := by
  rintro w ⟨I, F, hi⟩
  refine ⟨x, noS, by rw [hv], hi.grow, fun b hb => hb.elim, by rw [hB]; exact fun b hb => hb, fun W e => h W (pubs_of fun q hq => ?_) (hi.know W (e.mono fun b hb => ⟨?_, fun h => h⟩))⟩
  · refine ((hi.own q hq).ext (e.mono fun b hb => ⟨?_, fun h => h⟩)).fact
    obtain ⟨h1, h2, h3⟩ := hi.Fsz q b hq hb
    refine .inr ⟨?_, h1⟩
    rcases Nat.lt_or_ge b C.w0.heap.size with h4 | h4
    · have := h3 h4
      rw [hS] at this
      exact this.elim
    · exact h4
  · rcases Nat.lt_or_ge b C.w0.heap.size with h4 | h4
    · exact .inl (hi.Iold b hb h4)
    · exact .inr ⟨h4, hi.Isz b hb⟩
theorem ret0 {v : Value} {f : FuncId} {fn : Func} {n : Nat} {w : World} {I : Nat → Prop} {α : Type} {enc : α → Value} {R : α → World → Prop} (hC : C = ⟨P, f, fn, n, w, I, noS, α, enc, noB, R⟩) (x : α) (hv : v = enc x) (h : ∀ W, pubs m.rs W → m.G W → R x W) : RetP C v m := by
  subst hC
  exact ret00 rfl rfl x hv h
/-- A call of a function that only reads, and makes. -/
theorem call0 (ok : Okc P T C res) {o : Oper} {fo : Operand} {args : Array Operand} {tys : Array TypeId} (ho : o.op = .call ⟨.value fo, args, tys⟩) {f : FuncId} (hf : ev tm fo = some (.c (.v (.func (.func f) #[] #[])))) {svs : List SV} (ha : evs tm args.toList = some svs) {α : Type} {enc : α → Value} {R : α → World → Prop}
    (spec : ∀ w I, (∀ b, I b → b < w.heap.size) → (∀ W, Ext I w W → m.G W) → Fn0 P f (svs.map SV.val).toArray w I enc R)
    (k : ∀ x W, R x W → sx T C res 1000 p (put C.n o.dst (.c (nv (enc x))) tm) ⟨m.B, fun W => R x W ∧ m.G W, m.rs⟩) : At C (.op o p) tm m := by
  obtain rfl := ok.P
  rintro a w cs hR ⟨I, F, hi⟩
  obtain ⟨hc, hs⟩ := spec w I hi.Isz hi.know
  show o.wp C.P a w (Nx C cs p) (QQ C cs p.k)
  have e1 : a.eval fo = .func (.func f) #[] #[] := hR.eval hf
  have e2 : args.map a.eval = (svs.map SV.val).toArray := by apply Array.ext'; simpa using evs_ok hR ha
  have hr : (execOp a.eval o).run C.P w = .ok (.enter f (svs.map SV.val).toArray) w := by
    simp [execOp, ho, resolve, e1, e2, Deferred.ofValue, invoke, callB_run hc]
  unfold Oper.wp
  rw [hr]
  refine Calls.mono hs ?_
  rintro e w' ⟨v, S', rfl, hg, hS1, hS2, hP⟩
  have hgr : Ext (fun b => b < w.heap.size) w w' := hg.mono fun b hb => ⟨hb, fun h => h⟩
  have hn : ∀ b, ¬ S' b := hS2
  have hRp := hR.put o.dst (.c (nv (enc v)))
  simp only [SV.val, nv_val] at hRp
  refine ok.sx (k v w' (hP w' (Ext.refl _ _))) _ _ _ hRp ⟨fun b => I b ∨ (w.heap.size ≤ b ∧ b < w'.heap.size), F, hi.grow.trans hgr fun b hb => Nat.lt_of_lt_of_le hb.1 hi.grow.size, ?_, fun b hb => .inl (hi.I0 b hb), ?_, ?_, ?_, hi.disj, hi.new, ?_, ?_⟩
  · rintro b (hb | hb)
    · exact Nat.lt_of_lt_of_le (hi.Isz b hb) hgr.size
    · exact hb.2
  · rintro b (hb | hb) hlt
    · exact hi.Iold b hb hlt
    · have := hi.grow.size; omega
  · exact fun q hq => (hi.own q hq).ext (hgr.mono fun b hb => (hi.Fsz q b hq hb).1)
  · intro q b hq hb
    obtain ⟨h1, h2, h3⟩ := hi.Fsz q b hq hb
    refine ⟨Nat.lt_of_lt_of_le h1 hgr.size, ?_, h3⟩
    rintro (h4 | h4)
    · exact h2 h4
    · omega
  · exact fun W e => hi.base W ((hgr.mono hi.Isz).trans e fun b hb => .inl hb)
  · exact fun W e => ⟨hP W (e.mono fun b hb => hb.1), hi.know W ((hgr.mono hi.Isz).trans e fun b hb => .inl hb)⟩
/-- Something of one's own is given up, ahead of what follows. -/
theorem pub (k : Nat) {r : Res} (hl : look k m.rs = some r) (hk : k < 1000) (h : At C p tm ⟨m.B, fun W => r.fact W ∧ m.G W, del k m.rs⟩) : At C p tm m :=
  fun a w cs hR hJ => h a w cs hR (hJ.pub hl hk)
/-- A cell that is there whatever else may change lies in what stays. -/
theorem stays {I : Nat → Prop} {w : World} {ad : Addr} (h : ∀ W, Ext I w W → ∃ v, W.cell? ad = some v) : I ad.block := by
  refine Classical.byContradiction fun hn => ?_
  obtain ⟨v, hv⟩ := h w (Ext.refl _ _)
  have hlt := World.block_lt_of_cell? w ad hv
  obtain ⟨u, hu⟩ := h { w with heap := w.heap.setIfInBounds ad.block (.cells #[] 0 (0, 0)) } ⟨rfl, rfl, rfl, by simp, fun b hb => by
    rw [Array.getElem?_setIfInBounds, if_neg (fun e => hn (by rw [e]; exact hb))]⟩
  simp [World.cell?, hlt] at hu
/-- A cell that nobody changes is loaded. -/
theorem load1 (ok : Okc P T C res) {o : Oper} {t : TypeId} {x : Operand} (ho : o.op = .load t x) {ad : Addr} (hx : ev tm x = some (.c (.v (.pointer (some ad))))) {i : TI} (hi : tf t T = some i) (ha : i.agg = false) (Q : Value → World → Prop)
    (h : ∀ W, m.G W → ∃ v, W.cell? ad = some v ∧ Q v W) (k : ∀ v W, Q v W → m.G W → sx T C res 1000 p (put C.n o.dst (.c (nv v)) tm) ⟨m.B, fun W => Q v W ∧ m.G W, m.rs⟩) : At C (.op o p) tm m := by
  rintro a w cs hR ⟨I, F, hJ⟩
  have hst : I ad.block := stays (w := w) fun W e => by
    obtain ⟨v, hv, _⟩ := h W (hJ.know W e)
    exact ⟨v, hv⟩
  have hw : m.G w := hJ.know w (Ext.refl _ _)
  obtain ⟨v, hv, hq⟩ := h w hw
  have hq' : ∀ W, Ext I w W → Q v W := fun W e => by
    obtain ⟨u, hu, hqu⟩ := h W (hJ.know W e)
    have := e.cell hst
    rw [hu, hv] at this
    cases this
    exact hqu
  refine op_value (v := v) (ok.sx (k v w hq hw)) ?_ (by have h2 := hR.put o.dst (.c (nv v)); simpa only [SV.val, nv_val] using h2) ⟨I, F, hJ.learn hq'⟩
  have e1 := hR.eval hx
  simp only [SV.val, CV.val] at e1
  simp [execOp, ho, Instr.loadAt, e1, Instr.sureAddr, load_one (ok.ty.get hi) hv ha, SV.val, CV.val]
/-- A value of several cells that nobody changes is loaded. -/
theorem loadA (ok : Okc P T C res) {o : Oper} {t : TypeId} {x : Operand} (ho : o.op = .load t x) {b off : Nat} (hx : ev tm x = some (.c (.v (.pointer (some ⟨b, off, none⟩))))) {i : TI} (hi : tf t T = some i) (ha : i.agg = true) (Q : List Value → World → Prop)
    (h : ∀ W, m.G W → ∃ l, l.length = i.sz ∧ (∀ j v, l[j]? = some v → W.cell? ⟨b, off + j, none⟩ = some v) ∧ Q l W) (k : ∀ l W, l.length = i.sz → Q l W → m.G W → sx T C res 1000 p (put C.n o.dst (.ag (l.map nv)) tm) ⟨m.B, fun W => Q l W ∧ m.G W, m.rs⟩) : At C (.op o p) tm m := by
  rintro a w cs hR ⟨I, F, hJ⟩
  have hw : m.G w := hJ.know w (Ext.refl _ _)
  obtain ⟨l, hl, hc, hq⟩ := h w hw
  have hq' : ∀ W, Ext I w W → Q l W := fun W e => by
    obtain ⟨l2, hl2, hc2, hq2⟩ := h W (hJ.know W e)
    have : l2 = l := by
      apply List.ext_getElem?
      intro j
      rcases Nat.lt_or_ge j i.sz with hj | hj
      · have e1 : l2[j]? = some (l2[j]'(by omega)) := List.getElem?_eq_getElem _
        have e2 : l[j]? = some (l[j]'(by omega)) := List.getElem?_eq_getElem _
        have hst : I b := stays (w := w) (ad := ⟨b, off + j, none⟩) fun W' e' => by
          obtain ⟨l3, hl3, hc3, _⟩ := h W' (hJ.know W' e')
          exact ⟨_, hc3 j _ (List.getElem?_eq_getElem (by omega))⟩
        have e3 := e.cell (a := ⟨b, off + j, none⟩) hst
        rw [hc j _ e2, hc2 j _ e1] at e3
        rw [e1, e2, e3]
      · rw [List.getElem?_eq_none (by omega), List.getElem?_eq_none (by omega)]
    subst this
    exact hq2
  refine op_value (ok.sx (k l w hl hq hw)) ?_ (hR.put o.dst (.ag (l.map nv))) ⟨I, F, hJ.learn hq'⟩
  have e1 := hR.eval hx
  simp only [SV.val, CV.val] at e1
  have hr := run_loadCellsFrom (P := C.P) (w := w) ⟨b, off, none⟩ (fun j => l.getD j undef) i.sz 0 #[] (fun j hj => by
    rw [addr_add, Nat.zero_add]
    exact hc j _ (by simp [hl, hj]))
  have hr' : (loadCells ⟨b, off, none⟩ i.sz).run C.P w = .ok (l.toArray) w := by
    refine Eq.trans hr ?_
    congr 1
    apply Array.ext
    · simp [hl]
    · intro j h1 h2
      simp at h1 h2
      simp [List.getD, h2]
  have hld : (loadVar t ⟨b, off, none⟩).run C.P w = .ok (.agg l.toArray) w := by
    unfold loadVar
    simp only [Sem.run_bind, (ok.ty.get hi).g_isAgg, ha, Result.andThen_ok, if_true, (ok.ty.get hi).g_sizeOf, hr', Sem.run_pure]
  simp [execOp, ho, Instr.loadAt, e1, Instr.sureAddr, hld, SV.val, nv_val, Function.comp_def]
/-- A region, in whatever order. -/
theorem draw (ok : Okc P T C res) (ks : List (Nat × Res)) {id : Nat} {all : Array Oper} {k : List Item} (hm : C.P.follows .mixedOrders = true) (hf : frB all = true)
    (h : sx T C res 1000 (.any all m.G ks all.size (List.replicate all.size false) k) tm ⟨m.G, m.G, m.rs⟩) : At C (.todo (.code (.region id all true) :: k)) tm m := by
  intro a w cs hR hJ
  have hJ' : J C ⟨m.G, m.G, m.rs⟩ w.drew := by
    obtain ⟨I, F, hi⟩ := hJ.drew
    exact ⟨I, F, hi.grow, hi.Isz, hi.I0, hi.Iold, hi.own, hi.Fsz, hi.disj, hi.new, hi.know, hi.know⟩
  have hn := ok.sx h a w.drew cs hR hJ'
  have := hn.2 hf
  refine Good.region (wp_region_held (S := SK m.G ks) hm ?_)
  simpa using this
/-- The same; none of one's own is written in it. -/
theorem drawK (ok : Okc P T C res) {id : Nat} {all : Array Oper} {k : List Item} (hm : P.follows .mixedOrders = true) (hf : frB all = true)
    (h : sx T C res 1000 (.any all m.G m.rs all.size (List.replicate all.size false) k) tm ⟨m.G, m.G, m.rs⟩) : At C (.todo (.code (.region id all true) :: k)) tm m := draw ok m.rs (by rw [ok.P]; exact hm) hf h
/-- The same; some of one's own is written in it. -/
theorem drawW (ok : Okc P T C res) {id : Nat} {all : Array Oper} {k : List Item} (hm : P.follows .mixedOrders = true) (hf : frB all = true)
    (h : sx T C res 1000 (.any all m.G [] all.size (List.replicate all.size false) k) tm ⟨m.G, m.G, m.rs⟩) : At C (.todo (.code (.region id all true) :: k)) tm m := draw ok [] (by rw [ok.P]; exact hm) hf h
/-- One thing more is appended to a row of one's own (or to none): from a row of one's own (as a written-out one is). -/
theorem grow_row {P : Program} {w : World} {t ty e : TypeId} {ie : TI} (hu : P.underlying t = some (.slice e)) (he : TIok P e ie) (h0 : 0 < ie.sz) (hzl : ie.zero.length = ie.sz) {a : Option Addr} {n c m mc : Nat} {xs news : List Value} (hown : w.ownsRow 0 e ie.sz (.slice a n c) n xs) {ad : Addr} (hl : news.length = m * ie.sz)
    (hnews : ∀ j u, news[j]? = some u → w.cell? (ad.add j) = some u) (h1 : ∀ u ∈ news, u.oneCell' = true) (hm : 0 < m) (hb : (n + m) * ie.bt ≤ 140737488355328) (hmx : n + m ≤ 140737488355328) :
    ∃ g c' w', (Builtin.append_ #[t, t] ty #[.slice a n c, .slice (some ad) m mc]).run P w = .ok (.slice (some ⟨g, 0, none⟩) (n + m) c') w' ∧ w'.ownsRow 0 e ie.sz (.slice (some ⟨g, 0, none⟩) (n + m) c') (n + m) (xs ++ news) ∧
      Ext (fun b => b < w.heap.size ∧ (Value.slice a n c).ownBlock ≠ some b) w w' ∧ ((Value.slice a n c).ownBlock = some g ∨ w.heap.size ≤ g) ∧ g < w'.heap.size := by
  obtain ⟨i, hi, hsz, hbt, z, hz, hzc⟩ := he.g_some
  have hzs : z.cells.size = ie.sz := by rw [← Array.length_toList, hzc, hzl]
  have hml : n + m ≤ maxLen := by unfold maxLen; omega
  have hlen : (xs ++ news).length = (n + m) * ie.sz := by rw [List.length_append, hown.1, hl, Nat.add_mul]
  have grown : ∀ (old : Nat), old < n + m →
      (w.drew.alloc (.cells (xs.toArray ++ news.toArray ++ Builtin.zeroCells z.cells (grownCap w (n + m) old e - (n + m))) e)).ownsRow 0 e ie.sz (.slice (some ⟨w.heap.size, 0, none⟩) (n + m) (grownCap w (n + m) old e)) (n + m) (xs ++ news) := by
    intro old ho
    have hge := grownCap_ge w (n + m) old e
    have hcm : grownCap w (n + m) old e ≤ maxLen := grownCap_le_maxLen w (n + m) old e hml
    refine ⟨hlen, .inr ⟨w.heap.size, _, _, rfl, Nat.zero_le _, heap_alloc_new w.drew _, hge, hcm, ?_, ?_⟩⟩
    · simp only [Array.size_append, List.size_toArray, size_zeroCells, hzs, hown.1, hl, ← Nat.add_mul]
      congr 1
      omega
    · simp only [Array.toList_append, List.append_assoc]
      rw [← List.append_assoc, ← hlen]
      exact List.take_left
  have hext : ∀ (o : Obj) (q : Nat → Prop), Ext (fun b => b < w.heap.size ∧ q b) w (w.drew.alloc o) := fun o q => (Ext.drew _ w).trans (Ext.alloc _ w.drew o fun b hb => hb.1) fun _ hx => hx
  rcases hown.2 with ⟨hv, hn⟩ | ⟨g, cap, cur, hv, _, hg, hnc, hcm, hcs, htake⟩
  · cases hv
    have hx : xs = [] := List.eq_nil_of_length_eq_zero (by simpa using hown.1)
    subst hx
    have hr := run_append_nil (P := P) w t ty e i z hu hi hz ad m mc news (by rw [hsz]; exact hl) hnews (by omega) (by omega) (by have hb := hb; simp only [Nat.zero_add] at hb; rw [hbt]; omega)
    have hgr := grown 0 (by omega)
    simp only [Nat.zero_add, List.nil_append, Array.empty_append] at hgr ⊢
    exact ⟨_, _, _, hr, hgr, hext _ _, .inr (Nat.le_refl _), by simp⟩
  · obtain ⟨rfl, rfl⟩ : a = some ⟨g, 0, none⟩ ∧ c = cap := by simpa using hv
    by_cases hroom : n + m ≤ c
    · have hfit : n * i.size + news.length ≤ cur.size := by rw [hl, hcs, hsz, ← Nat.add_mul]; exact Nat.mul_le_mul_right _ hroom
      have hr := run_append_room (P := P) w t ty e i hu hi g n c cur hg ad m mc news (by rw [hsz]; exact hl) hnews h1 hroom hfit
      have hlt := (Array.getElem?_eq_some_iff.1 hg).1
      refine ⟨g, c, _, hr, ⟨hlen, .inr ⟨g, c, _, rfl, Nat.zero_le _, setRow_heap w g cur _ e _ hg, hroom, hcm, ?_, ?_⟩⟩, ⟨rfl, rfl, rfl, by simp, fun k hk => setRow_other w g k _ (fun e => hk.2 (by simp [Value.ownBlock, e]))⟩, .inl (by simp [Value.ownBlock]), by simp [hlt]⟩
      · rw [hsz] at hfit ⊢
        simp only [List.size_toArray, List.length_append, List.length_take, List.length_drop, Array.length_toList]
        omega
      · rw [hsz, htake, ← hlen]
        exact List.take_left
    · have holds : ∀ j u, xs[j]? = some u → w.cell? ((⟨g, 0, none⟩ : Addr).add j) = some u := hown.cells (g := g) rfl
      have hr := run_append_grow (P := P) w t ty e i z hu hi hz ⟨g, 0, none⟩ n c xs (by rw [hsz]; exact hown.1) holds ad m mc news (by rw [hsz]; exact hl) hnews (by omega) (by omega) (growslice_fits (by omega) (by rw [hbt]; exact hb))
      exact ⟨_, _, _, hr, grown c (by omega), hext _ _, .inr (Nat.le_refl _), by simp⟩
theorem ones_cells : ∀ {l : List CV}, ones l → ∀ u ∈ l.map CV.val, u.oneCell' = true
  | [], _, u, hu => by cases hu
  | x :: r, h, u, hu => by
    rcases List.mem_cons.1 hu with rfl | hu
    · have := h.1
      cases hx : x.val <;> simp_all [one, Value.oneCell']
    · exact ones_cells h.2 u hu
theorem nilr (k : Nat) (e : TypeId) (sz : Nat) (h : At C p tm ⟨m.B, m.G, (k, .row none 0 0 e sz []) :: del k (del k m.rs)⟩) : At C p tm m := fun a w cs hR hJ => h a w cs hR (hJ.nilrow k e sz)
/-- What stands in a row of one's own (k', a written-out one as a rule) is appended to another one (k). -/
theorem appR (ok : Okc P T C res) (k k' : Nat) {o : Oper} {s x : Operand} {t d : Nat} (ho : o.op = .call ⟨.builtin .append, #[s, x], #[t, t]⟩) (hd : o.dst = some d) {i ie : TI} (hi : tf t T = some i) (hik : i.kd = 3) (hie : tf i.el T = some ie) (h0 : 0 < ie.sz) (hzl : ie.zero.length = ie.sz)
    {a : Option Addr} {n c g m' c' : Nat} {cs cs' : List CV} {u v : SV} (hk : look k m.rs = some (.row a n c i.el ie.sz cs)) (hs : ev tm s = some u) (hu : u.val = .slice a n c) (hk' : look k' m.rs = some (.row (some ⟨g, 0, none⟩) m' c' i.el ie.sz cs')) (hx : ev tm x = some v) (hv : v.val = .slice (some ⟨g, 0, none⟩) m' c')
    (hm : 0 < m') (h1 : ones cs') (hb : (n + m') * ie.bt ≤ 140737488355328) (hmx : n + m' ≤ 140737488355328)
    (kk : ∀ g' c'', sx T C res 1000 p (put C.n (some d) (.c (.rw k (some ⟨g', 0, none⟩) (n + m') c'')) tm) ⟨m.B, m.G, (k, .row (some ⟨g', 0, none⟩) (n + m') c'' i.el ie.sz (cs ++ cs')) :: del k (del k m.rs)⟩) : At C (.op o p) tm m := by
  rintro act w cs0 hR ⟨I, F, hJ⟩
  have o1 := hJ.own _ (look_mem hk)
  have o2 := hJ.own _ (look_mem hk')
  have hcl : cs'.length = m' * ie.sz := by simpa using o2.2.1
  obtain ⟨g', c'', w', hr, hown, hext, hblk, hlt⟩ := grow_row (P := C.P) (t := t) (ty := o.type) (ok.ty.get hi |>.g_slice hik) (ok.ty.get hie) h0 hzl o1.2 (ad := ⟨g, 0, none⟩) (mc := c') (news := cs'.map CV.val) (m := m') (by simpa using hcl) (fun j z hz => by
    rw [addr_add, Nat.zero_add]
    have hj : j < cs'.length := by have := (List.getElem?_eq_some_iff.1 hz).1; simpa using this
    rw [holds_cells o2 (g := g) (cs := cs') rfl j hj]
    simp only [List.getElem?_map] at hz
    simp only [List.getD, List.getElem?_eq_getElem hj, Option.map_some, Option.some.injEq] at hz ⊢
    rw [← hz]
    rfl) (ones_cells h1) hm hb hmx
  have e1 : act.eval s = .slice a n c := by rw [hR.eval hs, hu]
  have e2 : act.eval x = .slice (some ⟨g, 0, none⟩) m' c' := by rw [hR.eval hx, hv]
  have hrun : (execOp act.eval o).run C.P w = .ok (.value (.slice (some ⟨g', 0, none⟩) (n + m') c'')) w' := by
    simp [execOp, ho, resolve, invoke, builtin, e1, e2, hr]
  have hup := hJ.upd k k (.row (some ⟨g', 0, none⟩) (n + m') c'' i.el ie.sz (cs ++ cs')) (fun b => (Value.slice a n c).ownBlock = some b) (fun b => b = g') (fun b hb => ⟨(o1.1 b).2 hb, _, look_mem hk⟩) hext ⟨fun b => by simp [Value.ownBlock]; exact ⟨fun h => h.symm, fun h => h.symm⟩, by simpa using hown⟩ (fun b hb => by subst hb; exact ⟨hlt, hblk⟩) id
  have hRp := hR.put (some d) (.c (.rw k (some ⟨g', 0, none⟩) (n + m') c''))
  exact op_value (ok.sx (kk g' c'')) hrun (by rw [hd]; exact hRp) ⟨I, _, hup⟩
/-- What stands in a slice that nobody changes is appended. -/
theorem appI (ok : Okc P T C res) (k : Nat) {o : Oper} {s x : Operand} {t d : Nat} (ho : o.op = .call ⟨.builtin .append, #[s, x], #[t, t]⟩) (hd : o.dst = some d) {i ie : TI} (hi : tf t T = some i) (hik : i.kd = 3) (hie : tf i.el T = some ie) (h0 : 0 < ie.sz) (hzl : ie.zero.length = ie.sz)
    {a : Option Addr} {n c b off m' c' : Nat} {cs : List CV} {u v : SV} (hk : look k m.rs = some (.row a n c i.el ie.sz cs)) (hs : ev tm s = some u) (hu : u.val = .slice a n c) (hx : ev tm x = some v) (hv : v.val = .slice (some ⟨b, off, none⟩) m' c')
    (hm : 0 < m') (hb : (n + m') * ie.bt ≤ 140737488355328) (hmx : n + m' ≤ 140737488355328) (Q : List Value → World → Prop)
    (h : ∀ W, m.G W → ∃ l, l.length = m' * ie.sz ∧ (∀ u ∈ l, u.oneCell' = true) ∧ (∀ j v, l[j]? = some v → W.cell? ⟨b, off + j, none⟩ = some v) ∧ Q l W)
    (kk : ∀ l g' c'' W, Q l W → m.G W → sx T C res 1000 p (put C.n (some d) (.c (.rw k (some ⟨g', 0, none⟩) (n + m') c'')) tm) ⟨m.B, fun W => Q l W ∧ m.G W, (k, .row (some ⟨g', 0, none⟩) (n + m') c'' i.el ie.sz (cs ++ l.map nv)) :: del k (del k m.rs)⟩) : At C (.op o p) tm m := by
  rintro act w cs0 hR ⟨I, F, hJ⟩
  have hw : m.G w := hJ.know w (Ext.refl _ _)
  obtain ⟨l, hl, h1, hc, hq⟩ := h w hw
  have hq' : ∀ W, Ext I w W → Q l W := fun W e => by
    obtain ⟨l2, hl2, _, hc2, hq2⟩ := h W (hJ.know W e)
    have : l2 = l := by
      apply List.ext_getElem?
      intro j
      rcases Nat.lt_or_ge j (m' * ie.sz) with hj | hj
      · have e1 : l2[j]? = some (l2[j]'(by omega)) := List.getElem?_eq_getElem _
        have e2 : l[j]? = some (l[j]'(by omega)) := List.getElem?_eq_getElem _
        have hst : I b := stays (w := w) (ad := ⟨b, off + j, none⟩) fun W' e' => by
          obtain ⟨l3, hl3, _, hc3, _⟩ := h W' (hJ.know W' e')
          exact ⟨_, hc3 j _ (List.getElem?_eq_getElem (by omega))⟩
        have e3 := e.cell (a := ⟨b, off + j, none⟩) hst
        rw [hc j _ e2, hc2 j _ e1] at e3
        rw [e1, e2, e3]
      · rw [List.getElem?_eq_none (by omega), List.getElem?_eq_none (by omega)]
    subst this
    exact hq2
  have o1 := hJ.own _ (look_mem hk)
  obtain ⟨g', c'', w', hr, hown, hext, hblk, hlt⟩ := grow_row (P := C.P) (t := t) (ty := o.type) (ok.ty.get hi |>.g_slice hik) (ok.ty.get hie) h0 hzl o1.2 (ad := ⟨b, off, none⟩) (mc := c') (news := l) (m := m') hl (fun j z hz => by rw [addr_add]; exact hc j z hz) h1 hm hb hmx
  have e1 : act.eval s = .slice a n c := by rw [hR.eval hs, hu]
  have e2 : act.eval x = .slice (some ⟨b, off, none⟩) m' c' := by rw [hR.eval hx, hv]
  have hrun : (execOp act.eval o).run C.P w = .ok (.value (.slice (some ⟨g', 0, none⟩) (n + m') c'')) w' := by
    simp [execOp, ho, resolve, invoke, builtin, e1, e2, hr]
  have hlv : (l.map nv).map CV.val = l := by simp [Function.comp_def, nv_val]
  have hup := hJ.upd k k (.row (some ⟨g', 0, none⟩) (n + m') c'' i.el ie.sz (cs ++ l.map nv)) (fun b => (Value.slice a n c).ownBlock = some b) (fun b => b = g') (fun b hb => ⟨(o1.1 b).2 hb, _, look_mem hk⟩) hext ⟨fun b => by simp [Value.ownBlock]; exact ⟨fun h => h.symm, fun h => h.symm⟩, by rw [List.map_append, hlv]; exact hown⟩ (fun b hb => by subst hb; exact ⟨hlt, hblk⟩) id
  have hRp := hR.put (some d) (.c (.rw k (some ⟨g', 0, none⟩) (n + m') c''))
  have hI : Ext I w w' := hext.mono fun b hb => ⟨hJ.Isz b hb, fun e => (hJ.Fsz _ b (look_mem hk) ((o1.1 b).2 e)).2.1 hb⟩
  exact op_value (ok.sx (kk l g' c'' w hq hw)) hrun (by rw [hd]; exact hRp) ⟨I, _, hup.learn fun W e => hq' W (hI.trans e fun _ hx => hx)⟩
/-- Slots that a code may write. -/
def wr : Code → List Nat
  | .region _ ops _ => ops.toList.filterMap (·.dst)
  | .seq a b => wr a ++ wr b
  | .cond _ a b => wr a ++ wr b
  | .block _ b => wr b
  | .loop b => wr b
  | .scope b => wr b
  | _ => []
def memN (t : Nat) : List Nat → Bool
  | [] => false
  | u :: r => if t = u then true else memN t r
def keepT (ws : List Nat) : Tm → Tm
  | [] => []
  | (t, x) :: r => match memN t ws with | true => keepT ws r | false => (t, x) :: keepT ws r
theorem keepT_sub (ws : List Nat) : ∀ (tm : Tm) (t : Nat) (x : SV), find t (keepT ws tm) = some x → find t tm = some x
  | [], t, x, h => by cases h
  | (u, y) :: r, t, x, h => by
    simp only [keepT] at h
    have mem_no : memN t ws = true → find t (keepT ws r) = some x → False := fun hm h => by
      have : ∀ (q : Tm), find t (keepT ws q) = none := by
        intro q
        induction q with
        | nil => rfl
        | cons z q ih =>
          obtain ⟨v, z⟩ := z
          simp only [keepT]
          split
          · exact ih
          · rename_i hv
            simp only [find]
            rw [if_neg (fun e => by subst e; rw [hm] at hv; cases hv)]
            exact ih
      rw [this r] at h
      cases h
    split at h
    · rename_i hu
      by_cases e : t = u
      · subst e
        exact (mem_no hu h).elim
      · simp only [find]
        rw [if_neg e]
        exact keepT_sub ws r t x h
    · simp only [find] at h ⊢
      split
      · rename_i e
        rw [if_pos e] at h
        exact h
      · rename_i e
        rw [if_neg e] at h
        exact keepT_sub ws r t x h
theorem find_app (a b : Tm) (t : Nat) : find t (a ++ b) = match find t a with | some x => some x | none => find t b := by
  induction a with
  | nil => rfl
  | cons z a ih =>
    obtain ⟨u, z⟩ := z
    simp only [List.cons_append, find]
    split
    · rfl
    · exact ih
theorem Sub.app {a b u : Tm} (h1 : Sub a u) (h2 : Sub b u) : Sub (a ++ b) u := fun t x hx => by
  rw [find_app] at hx
  split at hx
  · rename_i y hy
    cases hx
    exact h1 t x hy
  · exact h2 t x hx
theorem keepB_mem {rs : List (Nat × Res)} : ∀ {l : List (Nat × Res)}, keepB rs l → ∀ p, p ∈ l → p ∈ rs
  | [], _, p, hp => by cases hp
  | (j, q) :: t, hk, p, hp => by
    rcases List.mem_cons.1 hp with rfl | hp
    · exact look_mem hk.1
    · exact keepB_mem hk.2 p hp
/-- A loop: what its slots, and what is one's own, are like at each round's head, by a parameter; what is known beside; what goes down. -/
theorem loop (ok : Okc P T C res) {b : Code} {k : List Item} {α : Type} (car : α → Tm) (rs : α → List (Nat × Res)) (F : α → World → Prop) (μ : α → Nat) (a0 : α)
    (h0 : subs tm (car a0)) (hr0 : keepB m.rs (rs a0)) (hF0 : ∀ W, m.G W → F a0 W)
    (round : ∀ a W, F a W → m.G W → (∀ a' tm' m', μ a' < μ a → (∀ W, m'.G W → F a' W ∧ m.G W) → subs tm' (car a' ++ keepT (wr b) tm) ∧ keepB m'.rs (rs a') → At C (.todo (.inLoop b :: k)) tm' m') → sx T C res 1000 (.todo (.code b :: .inLoop b :: k)) (car a ++ keepT (wr b) tm) ⟨fun _ => True, fun W => F a W ∧ m.G W, rs a⟩) :
    At C (.todo (.code (.loop b) :: k)) tm m := by
  have key : ∀ n a, μ a = n → ∀ tm' m', (∀ W, m'.G W → F a W ∧ m.G W) → Sub (car a ++ keepT (wr b) tm) tm' → keepB m'.rs (rs a) → At C (.todo (.code b :: .inLoop b :: k)) tm' m' := by
    intro n
    induction n using Nat.strongRecOn with
    | _ n ih =>
      intro a hn tm' m' hG hs hk a1 w cs hR hJ
      obtain ⟨I, Fo, hi⟩ := hJ
      have hG0 := hG w (hi.know w (Ext.refl _ _))
      have hJ : J C m' w := ⟨I, Fo, hi⟩
      have hr := round a w hG0.1 hG0.2 (fun a' tm2 m2 hlt hG2 h2 => fun a2 w2 cs2 hR2 hJ2 => Good.of (ih (μ a') (hn ▸ hlt) a' rfl tm2 m2 hG2 (Sub.of h2.1) h2.2 a2 w2 cs2 hR2 hJ2) (.one step_inLoop))
      exact ok.sx hr a1 w cs (hR.sub hs) (hJ.weaken (fun _ _ => trivial) hG (keepB_mem hk))
  exact fun a w cs hR hJ => Good.of (key (μ a0) a0 rfl tm m (fun W h => ⟨hF0 W h, h⟩) (Sub.app (Sub.of h0) (fun t x hx => ⟨x, keepT_sub _ _ t x hx, rfl⟩)) hr0 a w cs hR hJ) (.one step_loop)
def pickT (ks : List Nat) : Tm → Tm
  | [] => []
  | (t, x) :: r => match memN t ks with | true => (t, x) :: pickT ks r | false => pickT ks r
theorem pickT_sub (ks : List Nat) : ∀ (tm : Tm) (t : Nat) (x : SV), find t (pickT ks tm) = some x → find t tm = some x
  | [], t, x, h => by cases h
  | (u, y) :: r, t, x, h => by
    have nope : memN t ks = false → ∀ q : Tm, find t (pickT ks q) = none := by
      intro hm q
      induction q with
      | nil => rfl
      | cons z q ih =>
        obtain ⟨v, z⟩ := z
        simp only [pickT]
        split
        · rename_i hv
          simp only [find]
          rw [if_neg (fun e => by subst e; rw [hm] at hv; cases hv)]
          exact ih
        · exact ih
    simp only [pickT] at h
    split at h
    · simp only [find] at h ⊢
      split
      · rename_i e
        rw [if_pos e] at h
        exact h
      · rename_i e
        rw [if_neg e] at h
        exact pickT_sub ks r t x h
    · rename_i hu
      by_cases e : t = u
      · subst e
        rw [nope hu r] at h
        cases h
      · simp only [find]
        rw [if_neg e]
        exact pickT_sub ks r t x h
/-- A loop (slots that stay: ks): what its slots, and what is one's own, are like at each round's head, by a parameter; what is known beside; what goes down. -/
theorem loopK (ks : List Nat) (ok : Okc P T C res) {b : Code} {k : List Item} {α : Type} (car : α → Tm) (rs : α → List (Nat × Res)) (F : α → World → Prop) (μ : α → Nat) (a0 : α)
    (h0 : subs tm (car a0)) (hr0 : keepB m.rs (rs a0)) (hF0 : ∀ W, m.G W → F a0 W)
    (round : ∀ a W, F a W → m.G W → (∀ a' tm' m', μ a' < μ a → (∀ W, m'.G W → F a' W ∧ m.G W) → subs tm' (car a' ++ pickT ks tm) ∧ keepB m'.rs (rs a') → At C (.todo (.inLoop b :: k)) tm' m') → sx T C res 1000 (.todo (.code b :: .inLoop b :: k)) (car a ++ pickT ks tm) ⟨fun _ => True, fun W => F a W ∧ m.G W, rs a⟩) :
    At C (.todo (.code (.loop b) :: k)) tm m := by
  have key : ∀ n a, μ a = n → ∀ tm' m', (∀ W, m'.G W → F a W ∧ m.G W) → Sub (car a ++ pickT ks tm) tm' → keepB m'.rs (rs a) → At C (.todo (.code b :: .inLoop b :: k)) tm' m' := by
    intro n
    induction n using Nat.strongRecOn with
    | _ n ih =>
      intro a hn tm' m' hG hs hk a1 w cs hR hJ
      obtain ⟨I, Fo, hi⟩ := hJ
      have hG0 := hG w (hi.know w (Ext.refl _ _))
      have hJ : J C m' w := ⟨I, Fo, hi⟩
      have hr := round a w hG0.1 hG0.2 (fun a' tm2 m2 hlt hG2 h2 => fun a2 w2 cs2 hR2 hJ2 => Good.of (ih (μ a') (hn ▸ hlt) a' rfl tm2 m2 hG2 (Sub.of h2.1) h2.2 a2 w2 cs2 hR2 hJ2) (.one step_inLoop))
      exact ok.sx hr a1 w cs (hR.sub hs) (hJ.weaken (fun _ _ => trivial) hG (keepB_mem hk))
  exact fun a w cs hR hJ => Good.of (key (μ a0) a0 rfl tm m (fun W h => ⟨hF0 W h, h⟩) (Sub.app (Sub.of h0) (fun t x hx => ⟨x, pickT_sub _ _ t x hx, rfl⟩)) hr0 a w cs hR hJ) (.one step_loop)
end
end Go.Proofs.Ytbbaoeidobdblaa.Sx

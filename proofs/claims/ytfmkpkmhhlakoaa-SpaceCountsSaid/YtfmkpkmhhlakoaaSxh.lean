/- Sx, part 8: how data read in memory: numbers, texts, entries, runs, inodes, deeds, states. -/
import Derived.Test.YtfmkpkmhhlakoaaTys
import Derived.Test.YtfmkpkmhhlakoaaSxi
set_option linter.unusedVariables false
set_option linter.unusedSimpArgs false
namespace Go.Proofs.Ytfmkpkmhhlakoaa.Sx
open Go

@[simp] theorem map_nv (l : List Value) : (l.map nv).map CV.val = l := by simp [Function.comp_def, nv_val]
@[simp] theorem map_nv' (l : List Value) : l.map (CV.val ∘ nv) = l := by simp [Function.comp_def, nv_val]
structure Dt (α : Type) where
  sz : Nat
  K : World → α → List Value → Prop
  len : ∀ {w x cs}, K w x cs → cs.length = sz
  one : ∀ {w x cs}, K w x cs → ∀ u ∈ cs, u.oneCell' = true
/-- A slice at a that reads as xs. -/
def Rd {α : Type} (d : Dt α) (W : World) (a : Option Addr) (xs : List α) : Prop :=
  xs ≠ [] → ∃ b o, a = some ⟨b, o, none⟩ ∧ ∀ i x, xs[i]? = some x → ∃ cs, d.K W x cs ∧ ∀ j v, cs[j]? = some v → W.cell? ⟨b, o + i * d.sz + j, none⟩ = some v
theorem rd_nil {α : Type} (d : Dt α) (W : World) (a : Option Addr) : Rd d W a [] := fun h => absurd rfl h
theorem Rd.get {α : Type} {d : Dt α} {W : World} {b o : Nat} {xs : List α} (h : Rd d W (some ⟨b, o, none⟩) xs) {i : Nat} (hi : i < xs.length) : ∃ cs, d.K W xs[i] cs ∧ cs.length = d.sz ∧ ∀ j v, cs[j]? = some v → W.cell? ⟨b, o + i * d.sz + j, none⟩ = some v := by
  obtain ⟨b', o', e, hc⟩ := h (by rintro rfl; simp at hi)
  cases e
  obtain ⟨cs, h1, h2⟩ := hc i xs[i] (List.getElem?_eq_getElem hi)
  exact ⟨cs, h1, d.len h1, h2⟩
theorem Rd.is_some {α : Type} {d : Dt α} {W : World} {a : Option Addr} {xs : List α} (h : Rd d W a xs) (h0 : 0 < xs.length) : ∃ b o, a = some ⟨b, o, none⟩ := by
  obtain ⟨b, o, e, _⟩ := h (by rintro rfl; simp at h0)
  exact ⟨b, o, e⟩
/-- Cells, element by element. -/
def Rows {α : Type} (d : Dt α) (W : World) (xs : List α) (cs : List Value) : Prop := cs.length = xs.length * d.sz ∧ ∀ i x, xs[i]? = some x → d.K W x ((cs.drop (i * d.sz)).take d.sz)
theorem rows_nil {α : Type} (d : Dt α) (W : World) : Rows d W [] [] := ⟨by simp, fun i x h => by simp at h⟩
theorem Rows.snoc {α : Type} {d : Dt α} {W : World} {xs : List α} {cs c : List Value} {x : α} (h : Rows d W xs cs) (hx : d.K W x c) : Rows d W (xs ++ [x]) (cs ++ c) := by
  have hl := d.len hx
  refine ⟨by simp [h.1, hl, Nat.add_mul], fun i y hy => ?_⟩
  rcases Nat.lt_or_ge i xs.length with hi | hi
  · rw [List.getElem?_append_left hi] at hy
    have h1 := h.2 i y hy
    have h2 : i * d.sz + d.sz ≤ cs.length := by
      rw [h.1, ← Nat.succ_mul]
      exact Nat.mul_le_mul_right _ hi
    rw [List.drop_append_of_le_length (by omega), List.take_append_of_le_length (by rw [List.length_drop]; omega)]
    exact h1
  · rw [List.getElem?_append_right hi] at hy
    have h0 : i - xs.length = 0 := by
      rcases Nat.eq_zero_or_pos (i - xs.length) with h | h
      · exact h
      · rw [List.getElem?_eq_none (by simp; omega)] at hy
        cases hy
    rw [h0] at hy
    simp at hy
    subst hy
    have : i = xs.length := by omega
    rw [this, ← h.1, List.drop_left, ← hl, List.take_length]
    exact hx
theorem Rd.all_rows {α : Type} {d : Dt α} {W : World} {b o : Nat} {xs : List α} (h : Rd d W (some ⟨b, o, none⟩) xs) : ∃ l, Rows d W xs l ∧ (∀ u ∈ l, u.oneCell' = true) ∧ ∀ j v, l[j]? = some v → W.cell? ⟨b, o + j, none⟩ = some v := by
  have key : ∀ n, n ≤ xs.length → ∃ l, Rows d W (xs.take n) l ∧ (∀ u ∈ l, u.oneCell' = true) ∧ ∀ j v, l[j]? = some v → W.cell? ⟨b, o + j, none⟩ = some v := by
    intro n
    induction n with
    | zero => exact fun _ => ⟨[], by simpa using rows_nil d W, fun u hu => (by cases hu), fun j v h => (by simp at h)⟩
    | succ n ih =>
      intro hn
      obtain ⟨l, h1, h2, h3⟩ := ih (by omega)
      obtain ⟨cs, k1, k2, k3⟩ := h.get (i := n) (by omega)
      refine ⟨l ++ cs, ?_, fun u hu => ?_, fun j v hv => ?_⟩
      · rw [List.take_add_one, List.getElem?_eq_getElem (by omega)]
        exact h1.snoc k1
      · rcases List.mem_append.1 hu with hu | hu
        · exact h2 u hu
        · exact d.one k1 u hu
      · have hl : l.length = n * d.sz := by rw [h1.1, List.length_take]; congr 1; omega
        rcases Nat.lt_or_ge j l.length with hj | hj
        · rw [List.getElem?_append_left hj] at hv
          exact h3 j v hv
        · rw [List.getElem?_append_right hj] at hv
          have := k3 _ v hv
          rw [hl] at this hj
          rw [show o + j = o + n * d.sz + (j - n * d.sz) by omega]
          exact this
  obtain ⟨l, h1⟩ := key xs.length (Nat.le_refl _)
  rw [List.take_length] at h1
  exact ⟨l, h1⟩
/-- A row of one's own reads so. -/
theorem Rows.rd {α : Type} {d : Dt α} {W : World} {a : Option Addr} {n c base : Nat} {e : TypeId} {xs : List α} {cs : List Value} (h : Rows d W xs cs) (ho : W.ownsRow base e d.sz (.slice a n c) n cs) (h0 : 0 < d.sz) : n = xs.length ∧ n ≤ c ∧ Rd d W a xs := by
  have hn : n = xs.length := by
    have h1 := ho.1.symm.trans h.1
    exact Nat.eq_of_mul_eq_mul_right h0 h1
  subst hn
  rcases ho.2 with ⟨hv, h1⟩ | ⟨g, cap, cur, hv, _, hg, hnc, _⟩
  · exact ⟨rfl, by omega, fun hne => absurd (List.eq_nil_of_length_eq_zero h1) hne⟩
  · obtain ⟨rfl, rfl⟩ : a = some ⟨g, 0, none⟩ ∧ c = cap := by simpa using hv
    refine ⟨rfl, hnc, fun _ => ⟨g, 0, rfl, fun i x hx => ⟨_, h.2 i x hx, fun j v hv => ?_⟩⟩⟩
    have hj : j < d.sz := by
      have := (List.getElem?_eq_some_iff.1 hv).1
      rw [List.length_take] at this
      omega
    rw [List.getElem?_take, if_pos hj, List.getElem?_drop] at hv
    have hlt := (List.getElem?_eq_some_iff.1 hv).1
    rw [Nat.zero_add, ho.cellAt (i * d.sz + j) (by rw [← ho.1]; exact hlt)]
    exact hv
/-- What is the same value of some cells, whatever the world. -/
def flat {α : Type} (sz : Nat) (f : α → List Value) (h1 : ∀ x, (f x).length = sz) (h2 : ∀ x, ∀ u ∈ f x, u.oneCell' = true) : Dt α := ⟨sz, fun _ x cs => cs = f x, fun h => by rw [h, h1], fun h u hu => h2 _ u (by rw [← h]; exact hu)⟩
theorem Rows.cons_iff {α : Type} {d : Dt α} {W : World} {x : α} {xs : List α} {l : List Value} : Rows d W (x :: xs) l ↔ ∃ c r, l = c ++ r ∧ d.K W x c ∧ Rows d W xs r := by
  constructor
  · intro ⟨h1, h2⟩
    have e : l.length = d.sz + xs.length * d.sz := by rw [h1, List.length_cons, Nat.succ_mul, Nat.add_comm]
    refine ⟨l.take d.sz, l.drop d.sz, (List.take_append_drop _ _).symm, by simpa using h2 0 x rfl, by rw [List.length_drop, e]; omega, fun i y hy => ?_⟩
    have := h2 (i + 1) y (by simpa using hy)
    rwa [List.drop_drop, show d.sz + i * d.sz = (i + 1) * d.sz by rw [Nat.succ_mul, Nat.add_comm]]
  · rintro ⟨c, r, rfl, h1, h2, h3⟩
    have hl := d.len h1
    refine ⟨by rw [List.length_append, hl, h2, List.length_cons, Nat.succ_mul, Nat.add_comm], fun i y hy => ?_⟩
    cases i with
    | zero =>
      simp only [List.getElem?_cons_zero, Option.some.injEq] at hy
      subst hy
      rw [Nat.zero_mul, List.drop_zero, ← hl, List.take_left]
      exact h1
    | succ i =>
      have := h3 i y (by simpa using hy)
      rwa [show (i + 1) * d.sz = c.length + i * d.sz by rw [hl, Nat.succ_mul, Nat.add_comm], ← List.drop_drop, List.drop_left]
theorem rows_flat {α : Type} {sz : Nat} {f : α → List Value} {h1 : ∀ x, (f x).length = sz} {h2 : ∀ x, ∀ u ∈ f x, u.oneCell' = true} {W : World} : ∀ {xs : List α} {l : List Value}, Rows (flat sz f h1 h2) W xs l ↔ l = xs.flatMap f
  | [], l => ⟨fun h => List.eq_nil_of_length_eq_zero (by simpa using h.1), fun h => by subst h; exact rows_nil _ _⟩
  | x :: xs, l => by
    rw [Rows.cons_iff]
    constructor
    · rintro ⟨c, r, rfl, h3, h4⟩
      rw [rows_flat.1 h4]
      exact congrArg (· ++ xs.flatMap f) h3
    · rintro rfl
      exact ⟨f x, xs.flatMap f, rfl, rfl, rows_flat.2 rfl⟩
def dInt : Dt Int := flat 1 (fun x => [.int .i64 x]) (fun _ => rfl) (fun x u hu => by simp at hu; subst hu; rfl)
def dByte : Dt Int := flat 1 (fun x => [.int .u8 x]) (fun _ => rfl) (fun x u hu => by simp at hu; subst hu; rfl)
def dStr : Dt ByteArray := flat 1 (fun x => [.string x]) (fun _ => rfl) (fun x u hu => by simp at hu; subst hu; rfl)
structure Ent where
  name : ByteArray
  no : Int
structure Rn where
  fr : Int
  at_ : Int
  ct : Int
def dEnt : Dt Ent := flat 2 (fun x => [.string x.name, .int .i64 x.no]) (fun _ => rfl) (fun x u hu => by simp at hu; rcases hu with rfl | rfl <;> rfl)
def dRn : Dt Rn := flat 3 (fun x => [.int .i64 x.fr, .int .i64 x.at_, .int .i64 x.ct]) (fun _ => rfl) (fun x u hu => by simp at hu; rcases hu with rfl | rfl | rfl <;> rfl)
structure Ino where
  no : Int
  kind : Int
  links : Int
  size : Int
  target : ByteArray
  ents : List Ent
  runs : List Rn
/-- A slice's value: where, and how much room. -/
abbrev Sl := Option Addr × Nat
def Sl.ok {α : Type} (d : Dt α) (W : World) (s : Sl) (xs : List α) : Prop := xs.length ≤ s.2 ∧ xs.length ≤ 100000000000 ∧ Rd d W s.1 xs
abbrev inoC (x : Ino) (e r : Sl) : List Value := [.int .i64 x.no, .int .i64 x.kind, .int .i64 x.links, .int .i64 x.size, .string x.target, .slice e.1 x.ents.length e.2, .slice r.1 x.runs.length r.2]
def InoR (W : World) (x : Ino) (e r : Sl) : Prop := e.ok dEnt W x.ents ∧ r.ok dRn W x.runs
def dIno : Dt Ino := ⟨7, fun W x cs => ∃ e r, cs = inoC x e r ∧ InoR W x e r, fun h => by obtain ⟨e, r, rfl, _⟩ := h; rfl, fun h u hu => by
  obtain ⟨e, r, rfl, _⟩ := h
  simp [inoC] at hu
  rcases hu with rfl | rfl | rfl | rfl | rfl | rfl | rfl <;> rfl⟩
structure Dee where
  kind : Int
  no : Int
  ino : Ino
abbrev deeC (x : Dee) (e r : Sl) : List Value := .int .i64 x.kind :: .int .i64 x.no :: inoC x.ino e r
def dDee : Dt Dee := ⟨9, fun W x cs => ∃ e r, cs = deeC x e r ∧ InoR W x.ino e r, fun h => by obtain ⟨e, r, rfl, _⟩ := h; rfl, fun h u hu => by
  obtain ⟨e, r, rfl, _⟩ := h
  simp [deeC, inoC] at hu
  rcases hu with rfl | rfl | rfl | rfl | rfl | rfl | rfl | rfl | rfl <;> rfl⟩
structure Sta where
  next : Int
  inos : List Ino
  bad : List Int
abbrev staC (x : Sta) (i b : Sl) : List Value := [.int .i64 x.next, .slice i.1 x.inos.length i.2, .slice b.1 x.bad.length b.2]
def StaR (W : World) (x : Sta) (i b : Sl) : Prop := i.ok dIno W x.inos ∧ b.ok dInt W x.bad
theorem rows_byte {W : World} {xs : List Int} {l : List Value} : Rows dByte W xs l ↔ l = xs.map (Value.int .u8) := by
  unfold dByte
  rw [rows_flat]
  simp [List.map_eq_flatMap]
theorem w64 {x : Int} (h : -9223372036854775808 ≤ x) (k : x ≤ 9223372036854775807) : IntKind.i64.wrap x = x := by rw [IntKind.wrap_i64]; omega
theorem owns_nil (w : World) : Owns [] noS w := ⟨fun _ _ => False, fun i r h => by simp at h, fun i j b hi => absurd hi (Nat.not_lt_zero _), fun b => ⟨fun h => h.elim, fun ⟨i, hi, _⟩ => absurd hi (Nat.not_lt_zero _)⟩⟩
theorem no_owns {S : Nat → Prop} {w : World} (h : Owns [] S w) : S = noS := funext fun b => propext ⟨fun hb => (by obtain ⟨F, _, _, h3⟩ := h; obtain ⟨i, hi, _⟩ := (h3 b).1 hb; exact absurd hi (Nat.not_lt_zero _)), fun h => h.elim⟩
def dBs : Dt (List Int) := ⟨1, fun W x cs => ∃ s : Sl, cs = [.slice s.1 x.length s.2] ∧ s.ok dByte W x, fun h => by obtain ⟨s, rfl, _⟩ := h; rfl, fun h u hu => by
  obtain ⟨s, rfl, _⟩ := h
  simp at hu
  subst hu
  rfl⟩
/-- A slice's value whole: where, how long, how much room. -/
abbrev Sv := Option Addr × Nat × Nat
abbrev Sv.val (s : Sv) : Value := .slice s.1 s.2.1 s.2.2
def Sv.ok {α : Type} (d : Dt α) (W : World) (s : Sv) (xs : List α) : Prop := s.2.1 = xs.length ∧ Sl.ok d W (s.1, s.2.2) xs
/-- A contract told for a length that is a number's. -/
theorem Fits.sv {P : Program} {f : FuncId} {args : Array Value} {w : World} {I : Nat → Prop} {α : Type} {d : Dt α} {n : Nat} {xs : List α} (e : n = xs.length) (h : Fn0 P f args w I (fun r : Sl => .slice r.1 n r.2) (fun r W => r.ok d W xs)) : Fn0 P f args w I Sv.val (fun r W => Sv.ok d W r xs) := by
  refine ⟨h.1, Calls.mono h.2 ?_⟩
  rintro e1 w' ⟨x, S', rfl, k1, k2, k3, k4⟩
  exact ⟨(x.1, n, x.2), S', rfl, k1, k2, k3, fun W hW => ⟨e, k4 W hW⟩⟩
/-- A value that is a slice which reads so. -/
def slQ {α : Type} (d : Dt α) (xs : List α) (v : Value) (W : World) : Prop := ∃ s : Sl, v = .slice s.1 xs.length s.2 ∧ s.ok d W xs
theorem slQ.get {α : Type} {d : Dt α} {xs : List α} {a : Option Addr} {n c : Nat} {W : World} (h : slQ d xs (.slice a n c) W) : n = xs.length ∧ Sl.ok d W (a, c) xs := by
  obtain ⟨⟨a', c'⟩, e, h⟩ := h
  cases e
  exact ⟨rfl, h⟩
theorem Fits.lone {P : Program} {f : FuncId} {args : Array Value} {w : World} {I S : Nat → Prop} {α : Type} {enc : α → Value} {B : α → (Nat → Prop) → World → Prop} {R : α → World → Prop} (h : Fits P f args w I noS enc B R) (hO : Owns [] S w) : Fits P f args w I S enc B R := by
  rw [no_owns hO]
  exact h
def bC (l : List Int) : List CV := l.map fun y => .v (.int .u8 y)
theorem bC_nv (l : List Int) : (l.map (Value.int .u8)).map nv = bC l := by simp [bC, Function.comp_def, nv]
theorem bC_val (l : List Int) : (bC l).map CV.val = l.map (Value.int .u8) := by simp [bC, Function.comp_def, CV.val]
theorem bC_app (l k : List Int) : bC l ++ bC k = bC (l ++ k) := by simp [bC]
end Go.Proofs.Ytfmkpkmhhlakoaa.Sx

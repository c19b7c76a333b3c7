/- Sx, part 3: the table of what simple operations yield, and that it is right. -/
import Derived.Test.YtfmkpkmhhlakoaaSxb
set_option linter.unusedVariables false
set_option linter.unusedSimpArgs false
namespace Go.Proofs.Ytfmkpkmhhlakoaa.Sx
open Go

abbrev Yl := Option (Prop × SV)
abbrev vi (k : IntKind) (x : Int) : SV := .c (.v (.int k x))
abbrev vb (b : Bool) : SV := .c (.b b)
/-- A truth value. -/
def asB : SV → Option Bool
  | .c (.b p) => some p
  | .c (.v (.bool p)) => some p
  | _ => none
theorem asB_val {x : SV} {p : Bool} (h : asB x = some p) : x.val = .bool p := by
  unfold asB at h
  split at h <;> simp_all [SV.val, CV.val]
def evInt (op : BinOp) (k k' : IntKind) (a b : Int) : Yl :=
  match op with
  | .add => some (k = k', vi k (k.wrap (a + b)))
  | .sub => some (k = k', vi k (k.wrap (a - b)))
  | .mul => some (k = k', vi k (k.wrap (a * b)))
  | .quo => some (k = k' ∧ b ≠ 0, vi k (k.wrap (a.tdiv b)))
  | .rem => some (k = k' ∧ b ≠ 0, vi k (a.tmod b))
  | .and => some (k = k', vi k (k.wrap (BitVec.ofInt k.bits a &&& BitVec.ofInt k.bits b).toNat))
  | .or => some (k = k', vi k (k.wrap (BitVec.ofInt k.bits a ||| BitVec.ofInt k.bits b).toNat))
  | .xor => some (k = k', vi k (k.wrap (BitVec.ofInt k.bits a ^^^ BitVec.ofInt k.bits b).toNat))
  | .andNot => some (k = k', vi k (k.wrap (BitVec.ofInt k.bits a &&& ~~~BitVec.ofInt k.bits b).toNat))
  | .shl => some (0 ≤ b, vi k (k.wrap (a * 2 ^ (min b.toNat k.bits))))
  | .shr => some (0 ≤ b, vi k (a.fdiv (2 ^ (min b.toNat k.bits))))
  | .eql => some (k = k', vb (decide (a = b)))
  | .neq => some (k = k', vb (!decide (a = b)))
  | .lss => some (k = k', vb (decide (a < b)))
  | .leq => some (k = k', vb (decide (a ≤ b)))
  | .gtr => some (k = k', vb (decide (b < a)))
  | .geq => some (k = k', vb (decide (b ≤ a)))
def evStr (op : BinOp) (a b : ByteArray) : Yl :=
  match op with
  | .add => some (((a.size + b.size : Nat) : Int) ≤ 9223372036854775807, .c (.v (.string (a ++ b))))
  | .eql => some (True, vb (a.toList == b.toList))
  | .neq => some (True, vb (!(a.toList == b.toList)))
  | .lss => some (True, vb (Op.bytesLess a.toList b.toList))
  | .leq => some (True, vb (Op.bytesLess a.toList b.toList || a.toList == b.toList))
  | .gtr => some (True, vb (!(Op.bytesLess a.toList b.toList || a.toList == b.toList)))
  | .geq => some (True, vb (!Op.bytesLess a.toList b.toList))
  | _ => none
def ptrA : SV → Option (Option Addr)
  | .c (.v (.pointer p)) => some p
  | .c (.bp _ g o) => some (some ⟨g, o, none⟩)
  | _ => none
def slcA : SV → Option (Option Addr × Nat × Nat)
  | .c (.v (.slice a n c)) => some (a, n, c)
  | .c (.rw _ a n c) => some (a, n, c)
  | _ => none
def isNoneA : Option Addr → Bool
  | none => true
  | some _ => false
def evNilA (kd : Nat) (i : TI) (eq : Bool) : Option Addr → Option Addr → Yl
  | p, none => some (i.kd = kd, vb (isNoneA p == eq))
  | none, q => some (i.kd = kd, vb (isNoneA q == eq))
  | some _, some _ => none
def evNil (i : TI) (eq : Bool) (x y : SV) : Yl :=
  match ptrA x, ptrA y with
  | some p, some q => evNilA 6 i eq p q
  | _, _ =>
    match slcA x, slcA y with
    | some p, some q => evNilA 3 i eq p.1 q.1
    | _, _ => none
def evBin (op : BinOp) (i : Option TI) (x y : SV) : Yl :=
  match x, y with
  | .c (.v (.int k a)), .c (.v (.int k' b)) => evInt op k k' a b
  | .c (.v (.string a)), .c (.v (.string b)) => evStr op a b
  | x, y =>
    match op, i with
    | .eql, some i => (match asB x, asB y with | some a, some b => some (i.kd = 7, vb (a == b)) | _, _ => evNil i true x y)
    | .neq, some i => (match asB x, asB y with | some a, some b => some (i.kd = 7, vb (!(a == b))) | _, _ => evNil i false x y)
    | _, _ => none
theorem evInt_ok {P : Program} {op : BinOp} {k k' : IntKind} {a b : Int} {c : Prop} {x : SV} (h : evInt op k k' a b = some (c, x)) (hc : c) (t : TypeId) (w : World) : (binOp op t (.int k a) (.int k' b)).run P w = .ok x.val w := by
  cases op <;> simp only [evInt, Option.some.injEq, Prod.mk.injEq] at h <;> obtain ⟨rfl, rfl⟩ := h <;> (try subst hc) <;> (try (obtain ⟨rfl, hc⟩ := hc)) <;>
    simp [binOp, Op.intArith, Op.intDiv, Op.intBits, Op.shift, Op.intCmp, SV.val, CV.val, *] <;> first | rfl | (intro hb; omega)
theorem evStr_ok {P : Program} {op : BinOp} {a b : ByteArray} {c : Prop} {x : SV} (h : evStr op a b = some (c, x)) (hc : c) (t : TypeId) (w : World) : (binOp op t (.string a) (.string b)).run P w = .ok x.val w := by
  cases op <;> simp only [evStr, Option.some.injEq, Prod.mk.injEq, reduceCtorEq] at h <;> obtain ⟨rfl, rfl⟩ := h <;> simp [binOp, Op.stringOp, SV.val, CV.val] 
  omega
theorem ptrA_val {x : SV} {p : Option Addr} (h : ptrA x = some p) : x.val = .pointer p := by
  unfold ptrA at h
  split at h <;> simp_all [SV.val, CV.val]
theorem slcA_val {x : SV} {a : Option Addr} {n c : Nat} (h : slcA x = some (a, n, c)) : x.val = .slice a n c := by
  unfold slcA at h
  split at h <;> simp_all [SV.val, CV.val]
theorem eqG {P : Program} {op : BinOp} {t : TypeId} {x y : Operand} {a b : Value} (h : (∃ p, a = .pointer p) ∨ (∃ s n c, a = .slice s n c) ∨ (∃ k n, a = .int k n) ∨ (∃ s, a = .string s) ∨ ∃ s, a = .bool s) (w : World) : (eqGuard op t x y a b).run P w = .ok () w := by
  unfold eqGuard
  rcases h with ⟨_, rfl⟩ | ⟨_, _, _, rfl⟩ | ⟨_, _, rfl⟩ | ⟨_, rfl⟩ | ⟨_, rfl⟩ <;> (split <;> rfl)
theorem eqPtr {P : Program} {t : TypeId} {i : TI} (h : TIok P t i) (hk : i.kd = 6) (p q : Option Addr) (hn : p = none ∨ q = none) (w : World) : (Op.equal t (.pointer p) (.pointer q)).run P w = .ok (isNoneA (if q = none then p else q)) w := by
  have hu := h.g_pointer hk
  unfold Op.equal
  rw [show Op.maxDepth = 9999 + 1 from rfl]
  unfold Op.equalIn
  rcases hn with rfl | rfl
  · cases q <;> simp [underlying, hu, isNoneA]
  · cases p <;> simp [underlying, hu, isNoneA]
theorem eqSlc {P : Program} {t : TypeId} {i : TI} (h : TIok P t i) (hk : i.kd = 3) (p q : Option Addr) (n c m d : Nat) (hn : p = none ∨ q = none) (w : World) : (Op.equal t (.slice p n c) (.slice q m d)).run P w = .ok (isNoneA (if q = none then p else q)) w := by
  have hu := h.g_slice hk
  unfold Op.equal
  rw [show Op.maxDepth = 9999 + 1 from rfl]
  unfold Op.equalIn
  rcases hn with rfl | rfl
  · cases q <;> simp [underlying, hu, isNoneA]
  · cases p <;> simp [underlying, hu, isNoneA]
theorem eqBool {P : Program} {t : TypeId} {i : TI} (h : TIok P t i) (hk : i.kd = 7) (p q : Bool) (w : World) : (Op.equal t (.bool p) (.bool q)).run P w = .ok (p == q) w := by
  have hu := h.g_bool hk
  unfold Op.equal
  rw [show Op.maxDepth = 9999 + 1 from rfl]
  unfold Op.equalIn
  simp [underlying, hu]
theorem evNilA_ok {kd : Nat} {i : TI} {eq : Bool} {p q : Option Addr} {c : Prop} {s : SV} (h : evNilA kd i eq p q = some (c, s)) (hc : c) : i.kd = kd ∧ (p = none ∨ q = none) ∧ s = vb (isNoneA (if q = none then p else q) == eq) := by
  cases p <;> cases q <;> simp only [evNilA, Option.some.injEq, Prod.mk.injEq, reduceCtorEq] at h <;> obtain ⟨rfl, rfl⟩ := h <;> simp [hc]
theorem evNil_ok {P : Program} {t : TypeId} {i : TI} (hi : TIok P t i) {eq : Bool} {x y s : SV} {c : Prop} (h : evNil i eq x y = some (c, s)) (hc : c) (u v : Operand) (w : World) :
    (do eqGuard (if eq then BinOp.eql else .neq) t u v x.val y.val; binOp (if eq then BinOp.eql else .neq) t x.val y.val : Sem Value).run P w = .ok s.val w := by
  unfold evNil at h
  split at h
  · rename_i p q h1 h2
    obtain ⟨hk, hn, rfl⟩ := evNilA_ok h hc
    rw [ptrA_val h1, ptrA_val h2]
    simp only [Sem.run_bind, eqG (.inl ⟨_, rfl⟩), Result.andThen_ok]
    have := fun w => eqPtr hi hk p q hn w
    cases eq <;> rcases hn with rfl | rfl <;> simp [binOp, this, SV.val, CV.val]
  · split at h
    · rename_i p q h1 h2
      obtain ⟨hk, hn, rfl⟩ := evNilA_ok h hc
      obtain ⟨a, n, c'⟩ := p
      obtain ⟨a', n', c2⟩ := q
      rw [slcA_val h1, slcA_val h2]
      simp only [Sem.run_bind, eqG (.inr (.inl ⟨_, _, _, rfl⟩)), Result.andThen_ok]
      have := fun w => eqSlc hi hk a a' n c' n' c2 hn w
      cases eq <;> simp [binOp, this, SV.val, CV.val]
    · cases h
end Go.Proofs.Ytfmkpkmhhlakoaa.Sx

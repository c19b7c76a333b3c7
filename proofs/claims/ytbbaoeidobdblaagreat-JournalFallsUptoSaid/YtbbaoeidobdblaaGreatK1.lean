/- Laid together: Sp6, Sxp, Sk51, Sk52, Sk53, Sk54, Sk55, Sk56, Sk57, Sk58, Sp7, Sk59, Sk60. -/
import Derived.Test.YtbbaoeidobdblaaGreatM6
import Derived.Laws.BytesString
import Derived.Lib.BytesEntry
/- Plain: numbers, texts, inodes and deeds, read from bytes. -/
set_option linter.unusedVariables false
set_option linter.unusedSimpArgs false
namespace Go.Proofs.YtbbaoeidobdblaaGreat.Sx
open Go

/-- The number that bytes are, the lowest first. -/
def valB : List Int → Int
  | [] => 0
  | x :: r => x + 256 * valB r
theorem valB_snoc (l : List Int) (x : Int) : valB (l ++ [x]) = valB l + x * 256 ^ l.length := by
  induction l with
  | nil => simp [valB]
  | cons y r ih =>
    simp only [List.cons_append, valB, ih, List.length_cons, Int.pow_succ]
    have e : 256 * (valB r + x * 256 ^ r.length) = 256 * valB r + x * (256 ^ r.length * 256) := by rw [Int.mul_add, Int.mul_left_comm, Int.mul_comm 256 (256 ^ r.length)]
    rw [e]
    omega
theorem valB_le (l : List Int) (h : ∀ x ∈ l, 0 ≤ x ∧ x ≤ 255) : 0 ≤ valB l ∧ valB l < 256 ^ l.length := by
  induction l with
  | nil => simp [valB]
  | cons x r ih =>
    obtain ⟨h1, h2⟩ := ih fun y hy => h y (List.mem_cons_of_mem _ hy)
    have h3 := h x List.mem_cons_self
    simp only [valB, List.length_cons, Int.pow_succ]
    omega
theorem lowB_succ (v : Int) (n : Nat) : lowB v (n + 1) = (v % 256) :: lowB (v / 256) n := by
  simp only [lowB, List.range_succ_eq_map, List.map_cons, List.map_map]
  congr 1
  · simp
  · apply List.map_congr_left
    intro i _
    simp only [Function.comp]
    have : (2 : Int) ^ (8 * (i + 1)) = 256 * 2 ^ (8 * i) := by rw [Nat.mul_add, Int.pow_add]; rw [Int.mul_comm]; rfl
    rw [show (2 : Int) ^ (8 * Nat.succ i) = 256 * 2 ^ (8 * i) from this, ← Int.ediv_ediv_of_nonneg (by decide)]
theorem valB_lowB (n : Nat) : ∀ v : Int, valB (lowB v n) = v % 256 ^ n := by
  induction n with
  | zero => intro v; simp [lowB, valB, Int.emod_one]
  | succ n ih =>
    intro v
    rw [lowB_succ, valB, ih, Int.pow_succ, Int.mul_comm (256 ^ n) 256]
    have h1 := Int.emod_add_mul_ediv v 256
    have h2 := Int.emod_add_mul_ediv (v / 256) (256 ^ n)
    have hp : (0 : Int) < 256 ^ n := Int.pow_pos (by decide)
    have h3 : 0 ≤ v / 256 % 256 ^ n := Int.emod_nonneg _ (by omega)
    have h4 : v / 256 % 256 ^ n < 256 ^ n := Int.emod_lt_of_pos _ hp
    have h5 : 0 ≤ v % 256 ∧ v % 256 < 256 := ⟨by omega, by omega⟩
    have h6 : v = v % 256 + 256 * (v / 256 % 256 ^ n) + (256 * 256 ^ n) * (v / 256 / 256 ^ n) := by
      rw [Int.mul_assoc]
      omega
    have h7 : 0 ≤ v % 256 + 256 * (v / 256 % 256 ^ n) := by omega
    have h8 : v % 256 + 256 * (v / 256 % 256 ^ n) < 256 * 256 ^ n := by omega
    have h9 : v % (256 * 256 ^ n) = (v % 256 + 256 * (v / 256 % 256 ^ n)) % (256 * 256 ^ n) := by
      conv => lhs; rw [h6]
      rw [Int.add_mul_emod_self_left]
    rw [h9, Int.emod_eq_of_lt h7 h8]
/-- Where one is, and the error (0: none). -/
abbrev Rs := Nat × Int
def getR (l : List Int) (r : Rs) (n : Nat) : Int × Rs :=
  if r.2 ≠ 0 then (0, r) else if l.length < r.1 + n then (0, (r.1 + n, 3)) else (valB ((l.drop r.1).take n), (r.1 + n, 0))
def intR (l : List Int) (r : Rs) : Int × Rs := (IntKind.i64.wrap (getR l r 8).1, (getR l r 8).2)
/-- A text of bytes. -/
def txtOf (l : List Int) : ByteArray := ⟨(l.map fun x => UInt8.ofNat x.toNat).toArray⟩
def textR (l : List Int) (r : Rs) : ByteArray × Rs :=
  if r.2 ≠ 0 then (emp, r)
  else if l.length < r.1 + 4 then (emp, (0, 3))
  else if l.length < r.1 + 4 + (valB ((l.drop r.1).take 4)).toNat then (emp, (0, 3))
  else (txtOf ((l.drop (r.1 + 4)).take (valB ((l.drop r.1).take 4)).toNat), (r.1 + 4 + (valB ((l.drop r.1).take 4)).toNat, 0))
def entR (l : List Int) (r : Rs) : Ent × Rs := (⟨(textR l r).1, (intR l (textR l r).2).1⟩, (intR l (textR l r).2).2)
def rnR (l : List Int) (r : Rs) : Rn × Rs := (⟨(intR l r).1, (intR l (intR l r).2).1, (intR l (intR l (intR l r).2).2).1⟩, (intR l (intR l (intR l r).2).2).2)
def manyR {α : Type} (f : Rs → α × Rs) : Nat → Rs → List α × Rs
  | 0, r => ([], r)
  | n + 1, r => if r.2 ≠ 0 then ([], r) else ((f r).1 :: (manyR f n (f r).2).1, (manyR f n (f r).2).2)
/-- Behind i numbers. -/
def nthR (l : List Int) (r : Rs) : Nat → Rs
  | 0 => r
  | i + 1 => (intR l (nthR l r i)).2
def inoA (l : List Int) (r : Rs) := textR l (nthR l r 4)
def inoN (l : List Int) (r : Rs) := getR l (inoA l r).2 4
def inoE (l : List Int) (r : Rs) := manyR (entR l) (inoN l r).1.toNat (inoN l r).2
def inoM (l : List Int) (r : Rs) := getR l (inoE l r).2 4
def inoU (l : List Int) (r : Rs) := manyR (rnR l) (inoM l r).1.toNat (inoM l r).2
def inoR (l : List Int) (r : Rs) : Ino × Rs := (⟨(intR l r).1, (intR l (nthR l r 1)).1, (intR l (nthR l r 2)).1, (intR l (nthR l r 3)).1, (inoA l r).1, (inoE l r).1, (inoU l r).1⟩, (inoU l r).2)
def deeR (l : List Int) (o : Nat) : Dee × Rs :=
  if (getR l (o, 0) 1).1 = 1 ∨ (getR l (o, 0) 1).1 = 3 ∨ (getR l (o, 0) 1).1 = 4 then (⟨(getR l (o, 0) 1).1, (intR l (getR l (o, 0) 1).2).1, inoZ⟩, (intR l (getR l (o, 0) 1).2).2)
  else if (getR l (o, 0) 1).1 = 2 then (⟨2, 0, (inoR l (getR l (o, 0) 1).2).1⟩, (inoR l (getR l (o, 0) 1).2).2)
  else (⟨(getR l (o, 0) 1).1, 0, inoZ⟩, ((getR l (o, 0) 1).2.1, 5))
/-- Deeds, from a place on: what they are, and the error (then none are). -/
def parseN (l : List Int) : Nat → Nat → List Dee × Int
  | 0, _ => ([], 0)
  | f + 1, o => if l.length ≤ o then ([], 0) else if (deeR l o).2.2 ≠ 0 then ([], (deeR l o).2.2) else if (parseN l f (deeR l o).2.1).2 ≠ 0 then ([], (parseN l f (deeR l o).2.1).2) else ((deeR l o).1 :: (parseN l f (deeR l o).2.1).1, 0)
def parseM (l : List Int) : List Dee × Int := parseN l l.length 0
theorem getR_le {l : List Int} {r : Rs} {n : Nat} (h : r.2 = 0) (h2 : (getR l r n).2.2 = 0) : (getR l r n).2.1 = r.1 + n ∧ r.1 + n ≤ l.length := by
  unfold getR at h2 ⊢
  rw [if_neg (by simp [h])] at h2 ⊢
  split at h2
  · cases h2
  · rename_i h3
    rw [if_neg h3]
    exact ⟨rfl, by omega⟩
theorem getR_err {l : List Int} {r : Rs} {n : Nat} (h : r.2 ≠ 0) : getR l r n = (0, r) := by unfold getR; rw [if_pos h]
theorem getR_back {l : List Int} {r : Rs} {n : Nat} (h2 : (getR l r n).2.2 = 0) : r.2 = 0 := by
  by_cases h : r.2 = 0
  · exact h
  · rw [getR_err h] at h2; exact absurd h2 h
theorem textR_back {l : List Int} {r : Rs} (h2 : (textR l r).2.2 = 0) : r.2 = 0 := by
  by_cases h : r.2 = 0
  · exact h
  · unfold textR at h2; rw [if_pos h] at h2; exact absurd h2 h
theorem textR_le {l : List Int} {r : Rs} (h2 : (textR l r).2.2 = 0) : r.1 + 4 ≤ (textR l r).2.1 ∧ (textR l r).2.1 ≤ l.length := by
  have h := textR_back h2
  unfold textR at h2 ⊢
  rw [if_neg (by simp [h])] at h2 ⊢
  split at h2
  · cases h2
  · rename_i h3
    rw [if_neg h3]
    split at h2
    · cases h2
    · rename_i h4
      rw [if_neg h4]
      exact ⟨Nat.le_add_right _ _, by simp only; omega⟩
theorem intR_le {l : List Int} {r : Rs} (h2 : (intR l r).2.2 = 0) : r.2 = 0 ∧ (intR l r).2.1 = r.1 + 8 ∧ r.1 + 8 ≤ l.length := ⟨getR_back h2, getR_le (getR_back h2) h2⟩
theorem manyR_le {α : Type} (f : Rs → α × Rs) (L : Nat) (hf : ∀ r, (f r).2.2 = 0 → r.2 = 0 ∧ r.1 + 1 ≤ (f r).2.1 ∧ (f r).2.1 ≤ L) : ∀ (n : Nat) (r : Rs), r.1 ≤ L → (manyR f n r).1.length ≤ L + 1 - r.1 ∧ ((manyR f n r).2.2 = 0 → r.2 = 0 ∧ r.1 ≤ (manyR f n r).2.1 ∧ (manyR f n r).2.1 ≤ L)
  | 0, r, hr => ⟨Nat.zero_le _, fun h => ⟨h, Nat.le_refl _, hr⟩⟩
  | n + 1, r, hr => by
    unfold manyR
    by_cases h : r.2 = 0
    · rw [if_neg (by simp [h])]
      by_cases h2 : (f r).2.2 = 0
      · have h3 := hf r h2
        have ih := manyR_le f L hf n (f r).2 h3.2.2
        refine ⟨by simp only [List.length_cons]; omega, fun h4 => ?_⟩
        have h5 := ih.2 h4
        exact ⟨h, by simp only at h5 ⊢; omega, h5.2.2⟩
      · have h6 : manyR f n (f r).2 = ([], (f r).2) := by
          cases n with
          | zero => rfl
          | succ n => unfold manyR; rw [if_pos h2]
        rw [h6]
        exact ⟨by simp only [List.length_cons, List.length_nil]; omega, fun h4 => absurd h4 h2⟩
    · rw [if_pos h]
      exact ⟨Nat.zero_le _, fun h4 => absurd h4 h⟩
theorem entR_le {l : List Int} {r : Rs} (h : (entR l r).2.2 = 0) : r.2 = 0 ∧ r.1 + 1 ≤ (entR l r).2.1 ∧ (entR l r).2.1 ≤ l.length := by
  have h1 := intR_le (r := (textR l r).2) h
  have h2 := textR_le h1.1
  exact ⟨textR_back h1.1, by show _ ≤ (intR l (textR l r).2).2.1; omega, by show (intR l (textR l r).2).2.1 ≤ _; omega⟩
theorem rnR_le {l : List Int} {r : Rs} (h : (rnR l r).2.2 = 0) : r.2 = 0 ∧ r.1 + 1 ≤ (rnR l r).2.1 ∧ (rnR l r).2.1 ≤ l.length := by
  have h1 := intR_le (r := (intR l (intR l r).2).2) h
  have h2 := intR_le (r := (intR l r).2) h1.1
  have h3 := intR_le h2.1
  exact ⟨h3.1, by show _ ≤ (intR l (intR l (intR l r).2).2).2.1; omega, by show (intR l (intR l (intR l r).2).2).2.1 ≤ _; omega⟩
end Go.Proofs.YtbbaoeidobdblaaGreat.Sx

/- Sx, part 16: bytes as a text; a part of an array; how often a byte is among bytes (bytealg.Count). -/
set_option linter.unusedVariables false
set_option linter.unusedSimpArgs false
namespace Go.Proofs.YtbbaoeidobdblaaGreat.Sx
open Go

section
variable {P : Program} {C : Ctx} {T : Ty} {res : List ResultVar} {p : Pos} {tm : Tm} {m : Mem}
theorem txt_push : ∀ (l : List Int) (s : ByteArray), l.foldl (fun r n => r.push (UInt8.ofNat n.toNat)) s = s ++ txtOf l
  | [], s => by
    apply ByteArray.ext
    simp [txtOf]
  | x :: r, s => by
    rw [List.foldl_cons, txt_push r]
    apply ByteArray.ext
    simp [txtOf]
theorem J.atG {w : World} (h : J C m w) : m.G w := by
  obtain ⟨I, F, h⟩ := h
  exact h.know w (Ext.refl _ _)
theorem bytes_cells {W : World} {a : Option Addr} {n c : Nat} {l : List Int} (h : Sv.ok dByte W (a, n, c) l) (h0 : 0 < l.length) : ∃ b o, a = some ⟨b, o, none⟩ ∧ ∀ i, i < l.length → W.cell? ⟨b, o + i, none⟩ = some (.int .u8 (l.getD i 0)) := by
  obtain ⟨b, o, e, _⟩ := byte_get h h0
  cases e
  refine ⟨b, o, rfl, fun i hi => ?_⟩
  obtain ⟨b', o', e, hc⟩ := byte_get h hi
  cases e
  rw [hc]
  simp [List.getD, hi]
/-- Bytes, as a text. -/
theorem strS (ok : Okc P T C res) {o : Oper} {src dst : TypeId} {x : Operand} (ho : o.op = .convert src dst x) {a : Option Addr} {n c : Nat} (hx : ev tm x = some (.c (.v (.slice a n c)))) {i ie j : TI} (hi : tf src T = some i) (hik : i.kd = 3) (hie : tf i.el T = some ie) (hk : ie.kd = 8) (hu : kdec ie.el = .u8) (hj : tf dst T = some j) (hjk : j.kd = 4)
    (l : List Int) (hl : ∀ W, m.G W → Sv.ok dByte W (a, n, c) l)
    (kk : sx T C res 1000 p (put C.n o.dst (.c (.v (.string (txtOf l)))) tm) m) : At C (.op o p) tm m := by
  rintro act w cs hR hJ
  have h1 : act.eval x = .slice a n c := hR.eval hx
  have hok := hl w hJ.atG
  obtain rfl : n = l.length := hok.1
  have h2 := run_convert_bytes_string (P := C.P) w src dst i.el a l.length c ((ok.ty.get hi).g_slice hik) (by have := (ok.ty.get hie).g_int hk; rw [hu] at this; exact this) ((ok.ty.get hj).g_string hjk)
  have h3 : (Conv.bytesToString (.slice a l.length c)).run C.P w = .ok (.string (txtOf l)) w := by
    cases a with
    | none =>
      have h0 : l.length = 0 := by
        rcases Nat.eq_zero_or_pos l.length with h | h
        · exact h
        · obtain ⟨b, o, e, _⟩ := byte_get hok h
          cases e
      have : l = [] := List.length_eq_zero_iff.1 h0
      subst this
      simp [Conv.bytesToString, txtOf, Sem.run_pure]
      rfl
    | some ad =>
      rcases Nat.eq_zero_or_pos l.length with h0 | h0
      · have : l = [] := List.length_eq_zero_iff.1 h0
        subst this
        have := run_bytesToString (P := C.P) w ad 0 c [] (by simp [loadCells, loadCellsFrom])
        rw [show ([] : List Int).length = 0 from rfl, this, txt_push]
        congr 2
      · obtain ⟨b, off, e, hc⟩ := bytes_cells hok h0
        cases e
        have hr := run_loadCellsFrom (P := C.P) (w := w) ⟨b, off, none⟩ (fun j => .int .u8 (l.getD j 0)) l.length 0 #[] (fun j hj => by
          rw [addr_add]
          simpa using hc j hj)
        have hr' : (loadCells ⟨b, off, none⟩ l.length).run C.P w = _ := hr
        have := run_bytesToString (P := C.P) w ⟨b, off, none⟩ l.length c l (by
          rw [hr']
          congr 1
          apply Array.ext
          · simp
          · intro j h1 h2
            simp at h1 h2
            simp [List.getD, h2])
        rw [this, txt_push]
        congr 2
  have hrun : (execOp act.eval o).run C.P w = .ok (.value (.string (txtOf l))) w := by simp [execOp, ho, h1, h2, h3]
  exact op_value (ok.sx kk) hrun (hR.put o.dst (.c (.v (.string (txtOf l))))) hJ
/-- A part of an array that is no place. -/
theorem idxK (ok : Okc P T C res) {o : Oper} {t : TypeId} {x y : Operand} (ho : o.op = .index t x y) {l : List CV} (hx : ev tm x = some (.ag l)) {k : IntKind} {n : Nat} (hy : ev tm y = some (.c (.v (.int k (n : Nat))))) {i ie : TI} (hi : tf t T = some i) (hik : i.kd = 2) (hie : tf i.el T = some ie) (hsz : ie.sz = 1) (hag : ie.agg = false) (hn : n < i.n) {v : CV} (hv : l[n]? = some v)
    (kk : sx T C res 1000 p (put C.n o.dst (.c v) tm) m) : At C (.op o p) tm m := by
  rintro act w cs hR hJ
  have h1 : act.eval x = (SV.ag l).val := hR.eval hx
  have h2 : act.eval y = .int k (n : Nat) := hR.eval hy
  have h4 : (l.map CV.val).toArray[n]? = some v.val := by simp [hv]
  have hrun : (execOp act.eval o).run C.P w = .ok (.value v.val) w := by
    have h3 : (part i.el (l.map CV.val).toArray n).run C.P w = .ok v.val w := by
      unfold part
      simp only [Sem.run_bind, (ok.ty.get hie).g_isAgg, hag, Result.andThen_ok, Bool.false_eq_true, if_false, h4, Sem.run_pure]
    simp [execOp, ho, h1, h2, Instr.index, asIntOf, SV.val, run_underlying ((ok.ty.get hi).g_array hik), hn, (ok.ty.get hie).g_sizeOf, hsz, h3]
  exact op_value (ok.sx kk) hrun (hR.put o.dst (.c v)) hJ
def ctB (P : Program) (f : FuncId) : Prop := ∃ fn, P.funcs[f]? = some fn ∧ (fn.name == "runtime.NumGoroutine") = false ∧ fn.body.isNone = true ∧ Extern.findNext fn = none ∧ Extern.find fn = some Extern.BytealgCount.count
theorem count_u8 (l : List Int) (x : Int) (h : ∀ y, y ∈ l → 0 ≤ y ∧ y ≤ 255) (hx : 0 ≤ x ∧ x ≤ 255) : Lib.countByte (Lib.bytesOf l) x.toNat.toUInt8 = l.count x := by
  induction l with
  | nil => rfl
  | cons y r ih =>
    have ih := ih fun z hz => h z (List.mem_cons_of_mem _ hz)
    have hy := h y List.mem_cons_self
    have e : (y.toNat.toUInt8 == x.toNat.toUInt8) = (y == x) := by
      have h1 : y.toNat.toUInt8.toNat = y.toNat := by simp; omega
      have h2 : x.toNat.toUInt8.toNat = x.toNat := by simp; omega
      rw [Bool.eq_iff_iff, beq_iff_eq, beq_iff_eq]
      constructor
      · intro he
        have := congrArg UInt8.toNat he
        omega
      · intro he
        rw [he]
    unfold Lib.countByte at ih ⊢
    rw [show Lib.bytesOf (y :: r) = y.toNat.toUInt8 :: Lib.bytesOf r from rfl, List.count_cons, List.count_cons, ih, e]
/-- How often a byte is there. -/
theorem cntS (ok : Okc P T C res) {o : Oper} {fo xa xb : Operand} {tys : Array TypeId} (ho : o.op = .call ⟨.value fo, #[xa, xb], tys⟩) {f : FuncId} (hf : ev tm fo = some (.c (.v (.func (.func f) #[] #[])))) (hF : ctB P f) {a : Option Addr} {n c : Nat} (hx : ev tm xa = some (.c (.v (.slice a n c)))) {x : Int} (hy : ev tm xb = some (.c (.v (.int .u8 x))))
    (l : List Int) (hl : ∀ W, m.G W → Sv.ok dByte W (a, n, c) l) (hb : ∀ y, y ∈ l → 0 ≤ y ∧ y ≤ 255) (hx1 : 0 ≤ x ∧ x ≤ 255)
    (kk : sx T C res 1000 p (put C.n o.dst (.c (.v (.int .i64 (l.count x : Nat)))) tm) m) : At C (.op o p) tm m := by
  obtain rfl := ok.P
  rintro act w cs hR hJ
  have h1 : act.eval xa = .slice a n c := hR.eval hx
  have h2 : act.eval xb = .int .u8 x := hR.eval hy
  have e0 : act.eval fo = .func (.func f) #[] #[] := hR.eval hf
  have hok := hl w hJ.atG
  obtain rfl : n = l.length := hok.1
  obtain ⟨fn, g1, g2, g3, g4, g5⟩ := hF
  have hcnt : (Extern.BytealgCount.count #[.slice a l.length c, .int .u8 x]).run C.P w = .ok (.int .i64 (l.count x : Nat)) w := by
    have hs := Lib.run_countString (P := C.P) ⟨(Lib.bytesOf l).toArray⟩ x w
    simp only [List.toList_toArray] at hs
    rw [count_u8 l x hb hx1] at hs
    have hb2 : (Extern.Bytes.bytesOf (.slice a l.length c)).run C.P w = .ok ⟨(Lib.bytesOf l).toArray⟩ w := by
      rcases Nat.eq_zero_or_pos l.length with h0 | h0
      · have : l = [] := List.length_eq_zero_iff.1 h0
        subst this
        cases a with
        | none => simp [Extern.Bytes.bytesOf, Sem.run_pure]; rfl
        | some ad => simp [Extern.Bytes.bytesOf, Extern.Bytes.loadBytes, Sem.run_pure]; rfl
      · obtain ⟨b, off, e, hc⟩ := bytes_cells hok h0
        cases e
        have hl := Lib.run_loadBytesX (P := C.P) w l ⟨b, off, none⟩ .empty (fun j x hj => by
          have hjl : j < l.length := (List.getElem?_eq_some_iff.1 hj).1
          rw [addr_add, hc j hjl, List.getD_eq_getElem?_getD, hj]
          rfl)
        simp only [Extern.Bytes.bytesOf]
        rw [hl]
        congr 1
        apply ByteArray.ext
        simp
    change Sem.run C.P (do
      let b ← Extern.Bytes.bytesOf (.slice a l.length c)
      let c' ← Extern.Bytes.asByte (.int .u8 x)
      pure (goInt (b.foldl (fun n x => if x == c' then n + 1 else n) (0 : Nat)))) w = _
    change Sem.run C.P (do
      let b ← Extern.Bytes.bytesOf (.string ⟨(Lib.bytesOf l).toArray⟩)
      let c' ← Extern.Bytes.asByte (.int .u8 x)
      pure (goInt (b.foldl (fun n x => if x == c' then n + 1 else n) (0 : Nat)))) w = _ at hs
    simp only [Sem.run_bind, hb2, Result.andThen]
    simp only [Extern.Bytes.bytesOf, Sem.run_bind, Sem.run_pure, Result.andThen] at hs
    exact hs
  have hrun : (execOp act.eval o).run C.P w = .ok (.value (.int .i64 (l.count x : Nat))) w := by
    have hc := run_callFunc_extern g1 g2 g3 g4 g5 #[.slice a l.length c, .int .u8 x] w
    rw [hcnt] at hc
    simp [execOp, ho, resolve, e0, h1, h2, Deferred.ofValue, invoke, hc]
  exact op_value (ok.sx kk) hrun (hR.put o.dst (.c (.v (.int .i64 (l.count x : Nat))))) hJ
/-- What one has of one's own, told in other words. -/
theorem retell (k : Nat) {r r' : Res} (hl : look k m.rs = some r) (he : r.eqv r') (kk : At C p tm ⟨m.B, m.G, (k, r') :: del k (del k m.rs)⟩) : At C p tm m := by
  rintro act w cs hR ⟨I, F, hJ⟩
  have hm := look_mem hl
  exact kk act w cs hR ⟨I, _, hJ.upd k k r' (F k) (F k) (fun b hb => ⟨hb, r, hm⟩) ((Ext.refl (fun _ => True) w).mono fun _ _ => trivial) (he.to (hJ.own _ hm)) (fun b hb => ⟨(hJ.Fsz _ b hm hb).1, .inl hb⟩) id⟩
/-- All that is known is told anew: less slots, less of one's own, less knowledge. -/
theorem cutAt (ok : Okc P T C res) (tm0 : Tm) (G0 : World → Prop) (rs0 : List (Nat × Res)) (h : sx T C res 1000 p tm0 ⟨fun _ => True, G0, rs0⟩) : ∀ tm m, (∀ W, m.G W → G0 W) → subs tm tm0 ∧ keepB m.rs rs0 → At C p tm m :=
  fun tm m hG hs a w cs hR hJ => ok.sx h a w cs (hR.sub (Sub.of hs.1)) (hJ.weaken (fun _ _ => trivial) hG (keepB_mem hs.2))
/-- Many ends have one road on. -/
theorem cutK {Goal : Prop} {p : Pos} (ok : Okc P T C res) (tm0 : Tm) (G0 : World → Prop) (rs0 : List (Nat × Res)) (rest : sx T C res 1000 p tm0 ⟨fun _ => True, G0, rs0⟩) (main : (∀ tm m, (∀ W, m.G W → G0 W) → subs tm tm0 ∧ keepB m.rs rs0 → At C p tm m) → Goal) : Goal := main (cutAt ok tm0 G0 rs0 rest)
/-- The same; the road on hangs on something. -/
theorem cutKb {Goal : Prop} {p : Pos} {β : Type} (ok : Okc P T C res) (tm0 : β → Tm) (G0 : β → World → Prop) (rs0 : List (Nat × Res)) (rest : ∀ x, sx T C res 1000 p (tm0 x) ⟨fun _ => True, G0 x, rs0⟩) (main : (∀ x tm m, (∀ W, m.G W → G0 x W) → subs tm (tm0 x) ∧ keepB m.rs rs0 → At C p tm m) → Goal) : Goal := main fun x => cutAt ok (tm0 x) (G0 x) rs0 (rest x)
/-- An array of four parts is built, by whatever law. -/
theorem bld4 (ok : Okc P T C res) {o : Oper} {t d : Nat} {x0 x1 x2 x3 : Operand} (ho : o.op = .build t #[(0, x0), (1, x1), (2, x2), (3, x3)]) (hd : o.dst = some d) {u0 u1 u2 u3 : SV} (h0 : ev tm x0 = some u0) (h1 : ev tm x1 = some u1) (h2 : ev tm x2 = some u2) (h3 : ev tm x3 = some u3) (y : SV)
    (h : ∀ w, (Instr.build t #[(0, u0.val), (1, u1.val), (2, u2.val), (3, u3.val)]).run P w = .ok y.val w)
    (kk : sx T C res 1000 p (put C.n (some d) y tm) m) : At C (.op o p) tm m := by
  obtain rfl := ok.P
  intro act w cs0 hR hJ
  have e0 := hR.eval h0
  have e1 := hR.eval h1
  have e2 := hR.eval h2
  have e3 := hR.eval h3
  have hrun : (execOp act.eval o).run C.P w = .ok (.value y.val) w := by
    have := h w
    simp [execOp, ho, e0, e1, e2, e3, this]
  have hRp := hR.put (some d) y
  exact op_value (ok.sx kk) hrun (by rw [hd]; exact hRp) hJ
end
end Go.Proofs.YtbbaoeidobdblaaGreat.Sx

/- codec.Get, GetInt, GetText. -/
set_option linter.unusedVariables false
set_option linter.unusedSimpArgs false
namespace Go.Proofs.YtbbaoeidobdblaaGreat.Sx
open Go

attribute [local simp ↓] ifb_true' ifb_false'
attribute [local simp] ifb_true ifb_false ifb_eq sx argsT find ev evOp evs evo evBin evInt evStr evNil evNilA ptrA slcA isNoneA asB evLoad look del cellsB evUn evConv kdec fld evFieldA evField evIdxA evIdx evSlc bndL bndH evLen mmi put resV guardV gvL setO tupV cellsOf ones one upd lits nv exitTo SV.val CV.val TI.agg rdyA allR keepB scan simpO gsp isS subs keepT pickT wr memN pubs Res.fact Region.binds bld rest give delL back Res.eqv vi vb num Sv.val undef
theorem or64 {v y x : Int} {i : Nat} (hi : i < 8) (hv : 0 ≤ v ∧ v < 256 ^ i) (hx : 0 ≤ x ∧ x ≤ 255) (hy : y = x * 256 ^ i) : IntKind.u64.wrap (((v % 2 ^ IntKind.u64.bits).toNat ||| (y % 2 ^ IntKind.u64.bits).toNat : Nat) : Int) = v + y := by
  obtain ⟨v, rfl⟩ : ∃ n : Nat, v = n := ⟨v.toNat, by omega⟩
  obtain ⟨x, rfl⟩ : ∃ n : Nat, x = n := ⟨x.toNat, by omega⟩
  have h1 : v < 256 ^ i := by
    have e : ((256 : Int) ^ i) = ((256 ^ i : Nat) : Int) := by rw [Int.natCast_pow]; rfl
    have h := hv.2
    rw [e] at h
    exact Int.ofNat_lt.1 h
  have hx2 : x ≤ 255 := by omega
  have h2 : (256 : Nat) ^ i ≤ 256 ^ 7 := Nat.pow_le_pow_right (by decide) (by omega)
  have h3 : x * 256 ^ i ≤ 255 * 256 ^ 7 := Nat.mul_le_mul hx2 h2
  have h4 : y = ((x * 256 ^ i : Nat) : Int) := by rw [hy, Int.natCast_mul, Int.natCast_pow]; rfl
  have h5 : (256 : Nat) ^ 7 = 72057594037927936 := by decide
  obtain ⟨z, hz⟩ : ∃ z, z = x * 256 ^ i := ⟨_, rfl⟩
  rw [← hz] at h3 h4
  have h6 : v ||| z = v + z := by
    have : (256 : Nat) ^ i = 2 ^ (8 * i) := by rw [Nat.pow_mul]
    rw [Nat.or_comm, hz, this, ← Nat.shiftLeft_eq, ← Nat.shiftLeft_add_eq_or_of_lt (by rw [← this]; exact h1), Nat.add_comm]
  have e1 : ((v : Int) % 2 ^ IntKind.u64.bits).toNat = v := by
    rw [show ((2 : Int) ^ IntKind.u64.bits) = 18446744073709551616 by decide]; omega
  have e2 : (y % 2 ^ IntKind.u64.bits).toNat = z := by
    rw [show ((2 : Int) ^ IntKind.u64.bits) = 18446744073709551616 by decide]; omega
  rw [e1, e2, h6, u64_wrap]
  omega
theorem shl64 {x : Int} {i q : Nat} (hi : i < 8) (hq : q = 8 * i) (hx : 0 ≤ x ∧ x ≤ 255) : IntKind.u64.wrap (x * 2 ^ min q IntKind.u64.bits) = x * 256 ^ i := by
  obtain ⟨x, rfl⟩ : ∃ n : Nat, x = n := ⟨x.toNat, by omega⟩
  have h2 : (256 : Nat) ^ i ≤ 256 ^ 7 := Nat.pow_le_pow_right (by decide) (by omega)
  have hx2 : x ≤ 255 := by omega
  have h3 : x * 256 ^ i ≤ 255 * 256 ^ 7 := Nat.mul_le_mul hx2 h2
  have h5 : (256 : Nat) ^ 7 = 72057594037927936 := by decide
  have h6 : min q IntKind.u64.bits = 8 * i := by rw [hq, show IntKind.u64.bits = 64 from rfl]; omega
  have h7 : (x : Int) * 2 ^ (8 * i) = ((x * 256 ^ i : Nat) : Int) := by rw [Int.natCast_mul, Int.natCast_pow, Int.pow_mul]; rfl
  have h8 : (x : Int) * 256 ^ i = ((x * 256 ^ i : Nat) : Int) := by rw [Int.natCast_mul, Int.natCast_pow]; rfl
  rw [h6, h7, h8, u64_wrap]
  omega
/-- A number of k bytes, from a place on: the number, and the error. -/
def getM (xs : List Int) (o k : Nat) : Int × Int := if xs.length < o + k then (0, 3) else (valB ((xs.drop o).take k), 0)
theorem byte_sub {xs : List Int} (hb : ∀ x, x ∈ xs → 0 ≤ x ∧ x ≤ 255) (o k : Nat) : ∀ x, x ∈ (xs.drop o).take k → 0 ≤ x ∧ x ≤ 255 := fun x hx => hb x (List.mem_of_mem_drop (List.mem_of_mem_take hx))
theorem sub_ok {W : World} {a : Option Addr} {n c : Nat} {xs : List Int} (h : Sv.ok dByte W (a, n, c) xs) {o k : Nat} (hk : o + k ≤ xs.length) : Sv.ok dByte W ((if c = o then a else addrP a o), k, c - o) ((xs.drop o).take k) := by
  have h1 := Sv.drop h (show o ≤ xs.length by omega)
  have h2 := Sv.take h1 (i := k) (by rw [List.length_drop]; omega)
  simpa [dByte, flat] using h2
set_option maxHeartbeats 1000000 in
theorem get0 (w : World) (I : Nat → Prop) (hI : ∀ b, I b → b < w.heap.size) {a : Option Addr} {n c : Nat} (xs : List Int) (h : ∀ W, Ext I w W → Sv.ok dByte W (a, n, c) xs) (hb : ∀ x, x ∈ xs → 0 ≤ x ∧ x ≤ 255) (o k : Nat) (ho : o ≤ 1000000000000) (hk : 1 ≤ k ∧ k ≤ 8) :
    Fn0 Tryz.prog 166 #[.slice a n c, .int .i64 (o : Nat), .int .i64 (k : Nat)] w I (fun _ : Unit => .tuple #[.int .u64 (getM xs o k).1, .int .i64 (getM xs o k).2]) (fun _ _ => True) := by
  obtain rfl : n = xs.length := (h w (Ext.refl _ _)).1
  have hl := (h w (Ext.refl _ _)).2.2.1
  have hcap : xs.length ≤ c := (h w (Ext.refl _ _)).2.1
  refine enter (svs := [.c (.v (.slice a xs.length c)), .c (.v (.int .i64 (o : Nat))), .c (.v (.int .i64 (k : Nat)))]) tysOk Tryz.func166 rfl Tryz.ntmps166 Tryz.results166 (by kernel_rfl) (by simp) hI (fun W => Sv.ok dByte W (a, xs.length, c) xs) h fun C hC hN ok => ?_
  have h1 : ¬ ((o : Nat) : Int) < 0 := by omega
  have h2 : ¬ ((k : Nat) : Int) < 1 := by omega
  have h3 : ¬ (8 : Int) < ((k : Nat) : Int) := by omega
  have e1 : IntKind.i64.wrap ((xs.length : Int) - (k : Nat)) = xs.length - (k : Nat) := w64 (by omega) (by omega)
  simp [hN, h1, h2, h3, e1]
  refine ⟨fun hlt => ?_, fun hge => ?_⟩
  · have hg : getM xs o k = (0, 3) := by rw [getM, if_pos (by omega)]
    exact ret0 hC () (by rw [hg]) fun _ _ _ => trivial
  obtain ⟨z, hz⟩ : ∃ z, z = o + k := ⟨_, rfl⟩
  have hg : getM xs o k = (valB ((xs.drop o).take k), 0) := by rw [getM, if_neg (by omega)]
  have e2 : IntKind.i64.wrap ((o : Int) + (k : Nat)) = (z : Nat) := by rw [w64 (by omega) (by omega)]; omega
  have hoz : (o : Int) ≤ (z : Nat) := by omega
  have hzc : (z : Int) ≤ (c : Nat) := by omega
  have ezo : z - o = k := by omega
  have hsub : ∀ W, Sv.ok dByte W (a, xs.length, c) xs → Sv.ok dByte W ((if c = o then a else addrP a o), k, c - o) ((xs.drop o).take k) := fun W hW => sub_ok hW (by omega)
  have hby := byte_sub hb o k
  have hyl : ((xs.drop o).take k).length = k := by rw [List.length_take, List.length_drop]; omega
  simp [hN, e2, hoz, hzc, ezo]
  generalize (xs.drop o).take k = ys at hsub hby hyl hg
  generalize (if c = o then a else addrP a o) = a' at hsub
  refine loopK [34, 35] ok (fun i : Nat => [(36, .c (.v (.int .i64 i))), (8, .c (.v (.int .u64 (valB (ys.take i)))))]) (fun _ => []) (fun i W => i ≤ k) (fun i => k - i) 0 ?_ ?_ (fun W hW => Nat.zero_le _) ?_
  · simp [valB]
  · simp
  rintro i W hi hG next
  rcases Nat.lt_or_ge i k with hlt | hge
  · obtain ⟨b, off, e, _⟩ := byte_get (hsub _ hG) (show i < ys.length by omega)
    cases e
    have e6 : IntKind.i64.wrap ((i : Int) + 1) = (i + 1 : Nat) := by rw [w64 (by omega) (by omega)]; omega
    have hx := hby _ (List.getElem_mem (show i < ys.length by omega))
    have hget : ∀ W, Sv.ok dByte W (a, xs.length, c) xs → ∃ v, W.cell? ⟨b, off + i, none⟩ = some v ∧ v = .int .u8 ys[i] := fun W hW => by
      obtain ⟨b'', o'', e, hc⟩ := byte_get (hsub W hW) (show i < ys.length by omega)
      cases e
      exact ⟨_, hc, rfl⟩
    have ht : valB (ys.take (i + 1)) = valB (ys.take i) + ys[i] * 256 ^ i := by
      rw [List.take_add_one, List.getElem?_eq_getElem (show i < ys.length by omega)]
      simp only [Option.toList]
      rw [valB_snoc, List.length_take, Nat.min_eq_left (by omega)]
    have hv := valB_le (ys.take i) fun x hx => hby x (List.mem_of_mem_take hx)
    rw [List.length_take, Nat.min_eq_left (by omega)] at hv
    generalize ys[i] = x at hx hget ht
    generalize valB (ys.take i) = v at hv ht
    obtain ⟨q, hq⟩ : ∃ q, q = 8 * i := ⟨_, rfl⟩
    have w1 : IntKind.u64.wrap x = x := by rw [u64_wrap]; omega
    have w2 : IntKind.i64.wrap (8 * (i : Int)) = (q : Nat) := by rw [w64 (by omega) (by omega)]; omega
    have w3 := shl64 (x := x) (by omega : i < 8) hq hx
    have w4 := or64 (v := v) (i := i) (by omega) hv hx rfl
    have hlt' : (i : Int) < (k : Nat) := by omega
    simp [hN, hlt']
    refine load1 ok rfl rfl rfl rfl (fun v W => v = .int .u8 x) (fun W hW => hget W hW.2) ?_
    rintro v' W rfl _
    simp [hN, e6, w1, w2, w3, w4]
    exact next (i + 1) _ _ (by omega) (fun W h => ⟨hlt, h.2⟩) (by simp [ht])
  · obtain rfl : i = k := by omega
    have hT : ys.take i = ys := List.take_of_length_le (by omega)
    simp only [hT]
    simp [hN]
    exact ret0 hC () (by rw [hg]) fun _ _ _ => trivial
theorem getM_le {xs : List Int} (hb : ∀ x, x ∈ xs → 0 ≤ x ∧ x ≤ 255) (o k : Nat) : 0 ≤ (getM xs o k).1 ∧ (getM xs o k).1 < 256 ^ k := by
  unfold getM
  split
  · exact ⟨Int.le_refl _, Int.pow_pos (by decide)⟩
  · rename_i h
    have := valB_le _ (byte_sub hb o k)
    rw [List.length_take, List.length_drop, Nat.min_eq_left (by omega)] at this
    exact this
theorem getInt0 (w : World) (I : Nat → Prop) (hI : ∀ b, I b → b < w.heap.size) {a : Option Addr} {n c : Nat} (xs : List Int) (h : ∀ W, Ext I w W → Sv.ok dByte W (a, n, c) xs) (hb : ∀ x, x ∈ xs → 0 ≤ x ∧ x ≤ 255) (o : Nat) (ho : o ≤ 1000000000000) :
    Fn0 Tryz.prog 120 #[.slice a n c, .int .i64 (o : Nat)] w I (fun _ : Unit => .tuple #[.int .i64 (IntKind.i64.wrap (getM xs o 8).1), .int .i64 (getM xs o 8).2]) (fun _ _ => True) := by
  refine enter (svs := [.c (.v (.slice a n c)), .c (.v (.int .i64 (o : Nat)))]) tysOk Tryz.func120 rfl Tryz.ntmps120 Tryz.results120 (by kernel_rfl) (by simp) hI (fun W => Sv.ok dByte W (a, n, c) xs) h fun C hC hN ok => ?_
  simp [hN]
  refine call0 ok rfl rfl rfl (fun w I hI hG => get0 w I hI (a := a) (n := n) (c := c) xs (fun W e => hG W e) hb o 8 ho (by decide)) fun _ W _ => ?_
  simp [hN]
  exact ret0 hC () rfl fun _ _ _ => trivial
set_option maxHeartbeats 1000000 in
theorem getText0 (w : World) (I : Nat → Prop) (hI : ∀ b, I b → b < w.heap.size) {a : Option Addr} {n c : Nat} (xs : List Int) (h : ∀ W, Ext I w W → Sv.ok dByte W (a, n, c) xs) (hb : ∀ x, x ∈ xs → 0 ≤ x ∧ x ≤ 255) (o : Nat) (ho : o ≤ 1000000000000) :
    Fn0 Tryz.prog 219 #[.slice a n c, .int .i64 (o : Nat)] w I (fun _ : Unit => .tuple #[.string (textR xs (o, 0)).1, .int .i64 ((textR xs (o, 0)).2.1 : Nat), .int .i64 (textR xs (o, 0)).2.2]) (fun _ _ => True) := by
  obtain rfl : n = xs.length := (h w (Ext.refl _ _)).1
  have hl := (h w (Ext.refl _ _)).2.2.1
  have hcap : xs.length ≤ c := (h w (Ext.refl _ _)).2.1
  refine enter (svs := [.c (.v (.slice a xs.length c)), .c (.v (.int .i64 (o : Nat)))]) tysOk Tryz.func219 rfl Tryz.ntmps219 Tryz.results219 (by kernel_rfl) (by simp) hI (fun W => Sv.ok dByte W (a, xs.length, c) xs) h fun C hC hN ok => ?_
  simp [hN]
  refine call0 ok rfl rfl rfl (fun w I hI hG => get0 w I hI (a := a) (n := xs.length) (c := c) xs (fun W e => hG W e) hb o 4 ho (by decide)) fun _ W _ => ?_
  have hle := getM_le hb o 4
  have hR := textR.eq_1 xs (o, 0)
  simp only [ne_eq, not_true, if_false] at hR
  rcases Nat.lt_or_ge xs.length (o + 4) with h1 | h1
  · have hg : getM xs o 4 = (0, 3) := by rw [getM, if_pos h1]
    rw [if_pos h1] at hR
    rw [hR] at hC
    simp [hN, hg]
    exact ret0 hC () rfl fun _ _ _ => trivial
  have hg : getM xs o 4 = (valB ((xs.drop o).take 4), 0) := by rw [getM, if_neg (by omega)]
  rw [if_neg (by omega)] at hR
  rw [hg] at hle ⊢
  simp only at hle
  generalize valB ((xs.drop o).take 4) = v at hle hR ⊢
  obtain ⟨k, rfl⟩ : ∃ k : Nat, v = k := ⟨v.toNat, by omega⟩
  rw [Int.toNat_natCast] at hR
  have hk : k < 4294967296 := by have := hle.2; simp at this; omega
  obtain ⟨u, hu⟩ : ∃ u, u = o + 4 := ⟨_, rfl⟩
  obtain ⟨z, hz⟩ : ∃ z, z = xs.length - u := ⟨_, rfl⟩
  rw [← hu] at hR
  have e1 : IntKind.i64.wrap ((o : Int) + 4) = (u : Nat) := by rw [w64 (by omega) (by omega)]; omega
  have e2 : IntKind.i64.wrap ((xs.length : Int) - (u : Nat)) = (z : Nat) := by rw [w64 (by omega) (by omega)]; omega
  have e3 : IntKind.u64.wrap (z : Int) = (z : Nat) := by rw [u64_wrap]; omega
  simp [hN, e1, e2, e3]
  refine ⟨fun hgt => ?_, fun hle2 => ?_⟩
  · rw [if_pos (by omega)] at hR
    rw [hR] at hC
    exact ret0 hC () rfl fun _ _ _ => trivial
  rw [if_neg (by omega)] at hR
  rw [hR] at hC
  obtain ⟨y, hy⟩ : ∃ y, y = u + k := ⟨_, rfl⟩
  have e4 : IntKind.i64.wrap (k : Int) = (k : Nat) := w64 (by omega) (by omega)
  have e5 : IntKind.i64.wrap ((u : Int) + (k : Nat)) = (y : Nat) := by rw [w64 (by omega) (by omega)]; omega
  have huy : (u : Int) ≤ (y : Nat) := by omega
  have hyc : (y : Int) ≤ (c : Nat) := by omega
  have eyu : y - u = k := by omega
  simp [hN, e4, e5, huy, hyc, eyu]
  refine strS ok rfl rfl rfl rfl rfl rfl rfl rfl rfl ((xs.drop u).take k) (fun W hW => ?_) ?_
  · exact sub_ok hW (by omega)
  rw [← hy] at hC
  simp [hN]
  exact ret0 hC () rfl fun _ _ _ => trivial
end Go.Proofs.YtbbaoeidobdblaaGreat.Sx

/- pack.reader: get, int, text. -/
set_option linter.unusedVariables false
set_option linter.unusedSimpArgs false
namespace Go.Proofs.YtbbaoeidobdblaaGreat.Sx
open Go

attribute [local simp ↓] ifb_true' ifb_false'
attribute [local simp] ifb_true ifb_false ifb_eq sx argsT find ev evOp evs evo evBin evInt evStr evNil evNilA ptrA slcA isNoneA asB evLoad look del cellsB evUn evConv kdec fld evFieldA evField evIdxA evIdx evSlc bndL bndH evLen mmi put resV guardV gvL setO tupV cellsOf ones one upd lits nv exitTo SV.val CV.val TI.agg rdyA allR keepB scan simpO gsp isS subs keepT pickT wr memN pubs Res.fact Region.binds bld rest give delL back Res.eqv vi vb num Sv.val undef
abbrev rdrC (a : Option Addr) (n c : Nat) (r : Rs) : List CV := [.v (.slice a n c), .v (.int .i64 (r.1 : Nat)), .v (.int .i64 r.2)]
abbrev rdrB (g : Nat) (a : Option Addr) (n c : Nat) (r : Rs) : Res := .box g 214 (rdrC a n c r)
/-- Where one may be in so many bytes. -/
def rsOk (L : Nat) (r : Rs) : Prop := r.1 ≤ L + 8 ∧ (r.2 = 0 → r.1 ≤ L)
theorem rsOk_get {l : List Int} {r : Rs} {n : Nat} (h : rsOk l.length r) (hn : n ≤ 8) : rsOk l.length (getR l r n).2 := by
  unfold getR
  split
  · exact h
  · rename_i h0
    have h1 := h.2 (by simpa using h0)
    split
    · exact ⟨by simp only; omega, fun h => by cases h⟩
    · exact ⟨by simp only; omega, fun _ => by simp only; omega⟩
theorem rsOk_int {l : List Int} {r : Rs} (h : rsOk l.length r) : rsOk l.length (intR l r).2 := rsOk_get h (Nat.le_refl _)
theorem rsOk_text {l : List Int} {r : Rs} (h : rsOk l.length r) : rsOk l.length (textR l r).2 := by
  unfold textR
  split
  · exact h
  · split
    · exact ⟨by simp only; omega, fun h => by cases h⟩
    · split
      · exact ⟨by simp only; omega, fun h => by cases h⟩
      · exact ⟨by simp only; omega, fun _ => by simp only; omega⟩
set_option maxHeartbeats 1000000 in
theorem rget0 (w : World) (I S : Nat → Prop) (hI : ∀ b, I b → b < w.heap.size) (gr : Nat) {a : Option Addr} {n c : Nat} (xs : List Int) (h : ∀ W, Ext I w W → Sv.ok dByte W (a, n, c) xs) (hb : ∀ x, x ∈ xs → 0 ≤ x ∧ x ≤ 255) (r : Rs) (hr : rsOk xs.length r) (k : Nat) (hk : 1 ≤ k ∧ k ≤ 8) (hS : Owns [rdrB gr a n c r] S w) (hSI : ∀ b, S b → b < w.heap.size ∧ ¬ I b) :
    FnS Tryz.prog 198 #[ptrV gr, .int .i64 (k : Nat)] w I S (fun _ : Unit => .int .u64 (getR xs r k).1) (fun _ => [rdrB gr a n c (getR xs r k).2]) (fun _ _ => True) := by
  obtain rfl : n = xs.length := (h w (Ext.refl _ _)).1
  have hl := (h w (Ext.refl _ _)).2.2.1
  obtain ⟨o, e⟩ := r
  refine enterS (svs := [.c (.bp 1000 gr 0), .c (.v (.int .i64 (k : Nat)))]) tysOk Tryz.func198 rfl Tryz.ntmps198 Tryz.results198 (by kernel_rfl) (by simp) hI [rdrB gr a xs.length c (o, e)] hS hSI (fun W => Sv.ok dByte W (a, xs.length, c) xs) h fun C hC hN ok => ?_
  by_cases he : e = 0
  · subst he
    have ho := hr.2 rfl
    simp only at ho
    simp [hN]
    refine drawK ok mixed (by kernel_rfl) ?_
    simp (maxSteps := 2000000) -implicitDefEqProofs [hN]
    refine call0 ok rfl rfl rfl (fun w I hI hG => get0 w I hI (a := a) (n := xs.length) (c := c) xs (fun W e => hG W e) hb o k (by omega) hk) fun _ W _ => ?_
    have e1 : IntKind.i64.wrap ((o : Int) + (k : Nat)) = (o + k : Nat) := by rw [w64 (by omega) (by omega)]; omega
    have hg : getR xs (o, 0) k = ((getM xs o k).1, (o + k, (getM xs o k).2)) := by
      unfold getR getM
      simp only [ne_eq, not_true, if_false]
      split <;> rfl
    rw [hg] at hC
    simp (maxSteps := 2000000) -implicitDefEqProofs [hN, e1]
    exact retS hC () [1000] rfl (by simp) fun _ _ _ => trivial
  · have hg : getR xs (o, e) k = (0, (o, e)) := getR_err he
    rw [hg] at hC
    simp [hN, he]
    exact retS hC () [1000] rfl (by simp) fun _ _ _ => trivial
theorem rint0 (w : World) (I S : Nat → Prop) (hI : ∀ b, I b → b < w.heap.size) (gr : Nat) {a : Option Addr} {n c : Nat} (xs : List Int) (h : ∀ W, Ext I w W → Sv.ok dByte W (a, n, c) xs) (hb : ∀ x, x ∈ xs → 0 ≤ x ∧ x ≤ 255) (r : Rs) (hr : rsOk xs.length r) (hS : Owns [rdrB gr a n c r] S w) (hSI : ∀ b, S b → b < w.heap.size ∧ ¬ I b) :
    FnS Tryz.prog 199 #[ptrV gr] w I S (fun _ : Unit => .int .i64 (intR xs r).1) (fun _ => [rdrB gr a n c (intR xs r).2]) (fun _ _ => True) := by
  refine enterS (svs := [.c (.bp 1000 gr 0)]) tysOk Tryz.func199 rfl Tryz.ntmps199 Tryz.results199 (by kernel_rfl) (by simp) hI [rdrB gr a n c r] hS hSI (fun W => Sv.ok dByte W (a, n, c) xs) h fun C hC hN ok => ?_
  simp [hN]
  refine callS ok rfl rfl rfl [1000] [rdrB gr a n c r] (by simp) rfl (fun _ : Unit => [(1000, rdrB gr a n c (getR xs r 8).2)]) (fun w I S hI hG hO hS' => rget0 w I S hI gr xs (fun W e => hG W e) hb r hr 8 (by decide) hO hS') (fun r => by simp) (.inr fun x q hq => by simp at hq; subst hq; simp) fun _ W _ => ?_
  simp [hN]
  exact retS hC () [1000] rfl (by simp [intR]) fun _ _ _ => trivial
set_option maxHeartbeats 1000000 in
theorem rtext0 (w : World) (I S : Nat → Prop) (hI : ∀ b, I b → b < w.heap.size) (gr : Nat) {a : Option Addr} {n c : Nat} (xs : List Int) (h : ∀ W, Ext I w W → Sv.ok dByte W (a, n, c) xs) (hb : ∀ x, x ∈ xs → 0 ≤ x ∧ x ≤ 255) (r : Rs) (hr : rsOk xs.length r) (hS : Owns [rdrB gr a n c r] S w) (hSI : ∀ b, S b → b < w.heap.size ∧ ¬ I b) :
    FnS Tryz.prog 213 #[ptrV gr] w I S (fun _ : Unit => .string (textR xs r).1) (fun _ => [rdrB gr a n c (textR xs r).2]) (fun _ _ => True) := by
  obtain rfl : n = xs.length := (h w (Ext.refl _ _)).1
  have hl := (h w (Ext.refl _ _)).2.2.1
  obtain ⟨o, e⟩ := r
  refine enterS (svs := [.c (.bp 1000 gr 0)]) tysOk Tryz.func213 rfl Tryz.ntmps213 Tryz.results213 (by kernel_rfl) (by simp) hI [rdrB gr a xs.length c (o, e)] hS hSI (fun W => Sv.ok dByte W (a, xs.length, c) xs) h fun C hC hN ok => ?_
  by_cases he : e = 0
  · subst he
    have ho := hr.2 rfl
    simp only at ho
    simp [hN]
    refine drawK ok mixed (by kernel_rfl) ?_
    simp (maxSteps := 2000000) -implicitDefEqProofs [hN]
    refine call0 ok rfl rfl rfl (fun w I hI hG => getText0 w I hI (a := a) (n := xs.length) (c := c) xs (fun W e => hG W e) hb o (by omega)) fun _ W _ => ?_
    simp (maxSteps := 2000000) -implicitDefEqProofs [hN]
    exact retS hC () [1000] rfl (by simp) fun _ _ _ => trivial
  · have hg : textR xs (o, e) = (emp, (o, e)) := by unfold textR; rw [if_pos he]
    rw [hg] at hC
    simp [hN, he]
    exact retS hC () [1000] rfl (by simp) fun _ _ _ => trivial
end Go.Proofs.YtbbaoeidobdblaaGreat.Sx

/- pack.reader: inode. -/
set_option linter.unusedVariables false
set_option linter.unusedSimpArgs false
namespace Go.Proofs.YtbbaoeidobdblaaGreat.Sx
open Go

attribute [local simp ↓] ifb_true' ifb_false'
attribute [local simp] ifb_true ifb_false ifb_eq sx argsT find ev evOp evs evo evBin evInt evStr evNil evNilA ptrA slcA isNoneA asB evLoad look del cellsB evUn evConv kdec fld evFieldA evField evIdxA evIdx evSlc bndL bndH evLen mmi put resV guardV gvL setO tupV cellsOf ones one upd lits nv exitTo SV.val CV.val TI.agg rdyA allR keepB scan simpO gsp isS subs keepT pickT wr memN pubs Res.fact Region.binds bld rest give delL back Res.eqv vi vb num Sv.val undef
abbrev entC (x : Ent) : List Value := [.string x.name, .int .i64 x.no]
def eC (l : List Ent) : List CV := l.flatMap fun y => (entC y).map .v
theorem eC_snoc (l : List Ent) (y : Ent) : eC (l ++ [y]) = eC l ++ (entC y).map .v := by simp [eC]
theorem eC_len (l : List Ent) : (eC l).length = l.length * 2 := by
  induction l with
  | nil => rfl
  | cons x r ih => simp [eC] at ih ⊢; omega
theorem eC_val (l : List Ent) : (eC l).map CV.val = l.flatMap entC := by
  induction l with
  | nil => rfl
  | cons x r ih => simp [eC, CV.val] at ih ⊢; exact ih
theorem rowsE {W : World} {xs : List Ent} {l : List Value} : Rows dEnt W xs l ↔ l = xs.flatMap entC := by
  unfold dEnt
  rw [rows_flat]
theorem ptr_zero (w : World) : (zeroValue 255).run Tryz.prog w = .ok (.agg #[.pointer none, .pointer none, .pointer none, .pointer none]) w := by kernel_rfl
theorem ptr_build (a b c d : Option Addr) (w : World) : (Instr.build 255 #[(0, .pointer a), (1, .pointer b), (2, .pointer c), (3, .pointer d)]).run Tryz.prog w = .ok (.agg #[.pointer a, .pointer b, .pointer c, .pointer d]) w := by
  have hs : (sizeOf 254).run Tryz.prog w = .ok 1 w := by kernel_rfl
  simp [Instr.build, ptr_zero, run_underlying Tryz.underlying255, hs, Instr.fill, Value.cells]
theorem rsOk_nth {l : List Int} {r : Rs} (h : rsOk l.length r) : ∀ i, rsOk l.length (nthR l r i)
  | 0 => h
  | i + 1 => rsOk_int (rsOk_nth h i)
theorem getR_val {xs : List Int} (hb : ∀ x, x ∈ xs → 0 ≤ x ∧ x ≤ 255) (r : Rs) (k : Nat) : 0 ≤ (getR xs r k).1 ∧ (getR xs r k).1 < 256 ^ k := by
  unfold getR
  split
  · exact ⟨Int.le_refl _, Int.pow_pos (by decide)⟩
  · have := getM_le hb r.1 k
    unfold getM at this
    split
    · exact ⟨Int.le_refl _, Int.pow_pos (by decide)⟩
    · rename_i h
      rw [if_neg h] at this
      exact this
theorem many_stop {α : Type} (f : Rs → α × Rs) {n : Nat} {r : Rs} (h : ¬ (0 < n ∧ r.2 = 0)) : manyR f n r = ([], r) := by
  cases n with
  | zero => rfl
  | succ n => unfold manyR; rw [if_pos (fun h2 => h ⟨by omega, h2⟩)]
theorem many_len {α : Type} (f : Rs → α × Rs) (L : Nat) (hf : ∀ r, (f r).2.2 = 0 → r.2 = 0 ∧ r.1 + 1 ≤ (f r).2.1 ∧ (f r).2.1 ≤ L) (n : Nat) (r : Rs) (hr : rsOk L r) : (manyR f n r).1.length ≤ L + 1 := by
  by_cases h : r.2 = 0
  · have := (manyR_le f L hf n r (hr.2 h)).1
    omega
  · rw [many_stop f (fun h2 => h h2.2)]
    exact Nat.zero_le _
/-- The first i of four. -/
def four (l : List Int) (r : Rs) (i j : Nat) : Int := if j < i then (intR l (nthR l r j)).1 else 0
set_option maxHeartbeats 4000000 in
set_option maxRecDepth 100000 in
theorem rinode0 (w : World) (I S : Nat → Prop) (hI : ∀ b, I b → b < w.heap.size) (gr : Nat) {a : Option Addr} {n c : Nat} (xs : List Int) (hx10 : xs.length ≤ 10000000000) (h : ∀ W, Ext I w W → Sv.ok dByte W (a, n, c) xs) (hb : ∀ x, x ∈ xs → 0 ≤ x ∧ x ≤ 255) (r : Rs) (hr : rsOk xs.length r) (hS : Owns [rdrB gr a n c r] S w) (hSI : ∀ b, S b → b < w.heap.size ∧ ¬ I b) :
    FnS Tryz.prog 200 #[ptrV gr] w I S (fun x : Sl × Sl => .agg (inoC (inoR xs r).1 x.1 x.2).toArray) (fun _ => [rdrB gr a n c (inoR xs r).2]) (fun x W => InoR W (inoR xs r).1 x.1 x.2) := by
  have hl := (h w (Ext.refl _ _)).2.2.1
  refine enterS (svs := [.c (.bp 1000 gr 0)]) tysOk Tryz.func200 rfl Tryz.ntmps200 Tryz.results200 (by kernel_rfl) (by simp) hI [rdrB gr a n c r] hS hSI (fun W => Sv.ok dByte W (a, n, c) xs) h fun C hC hN ok => ?_
  simp [hN]
  intro g2 g3
  refine bld4 ok rfl rfl rfl rfl rfl rfl (.ag [.bp 3 g3 0, .bp 3 g3 1, .bp 3 g3 2, .bp 3 g3 3]) (fun w => ptr_build _ _ _ _ w) ?_
  simp [hN]
  refine loopK [0, 2, 3, 15] ok (fun i : Nat => [(16, .c (.v (.int .i64 (i : Nat))))]) (fun i => [(1000, rdrB gr a n c (nthR xs r i)), (2, .box g2 44 [.v (.int .i64 0), .v (.int .i64 0), .v (.int .i64 0), .v (.int .i64 0), .v (.string ⟨#[]⟩), .v (.slice none 0 0), .v (.slice none 0 0)]), (3, .box g3 44 [.v (.int .i64 (four xs r i 0)), .v (.int .i64 (four xs r i 1)), .v (.int .i64 (four xs r i 2)), .v (.int .i64 (four xs r i 3)), .v (.string ⟨#[]⟩), .v (.slice none 0 0), .v (.slice none 0 0)])]) (fun i W => i ≤ 4) (fun i => 4 - i) 0 ?_ ?_ (fun W hW => Nat.zero_le _) ?_
  · simp
  · simp [four, nthR]
  rintro i W hi hG next
  have rd := fun i => rsOk_nth hr i
  obtain h4 | rfl : i < 4 ∨ i = 4 := by omega
  · obtain ⟨g, hg⟩ : ∃ v, ([.bp 3 g3 0, .bp 3 g3 1, .bp 3 g3 2, .bp 3 g3 3] : List CV)[i]? = some v ∧ v = .bp 3 g3 i := by
      obtain rfl | rfl | rfl | rfl : i = 0 ∨ i = 1 ∨ i = 2 ∨ i = 3 := by omega
      all_goals exact ⟨_, rfl, rfl⟩
    obtain ⟨hg, rfl⟩ := hg
    have e6 : IntKind.i64.wrap ((i : Int) + 1) = (i + 1 : Nat) := by rw [w64 (by omega) (by omega)]; omega
    have hlt' : (i : Int) < 4 := by omega
    simp [hN, hlt']
    refine idxK ok rfl rfl (n := i) rfl rfl rfl rfl rfl rfl h4 hg ?_
    simp [hN]
    refine callS ok rfl rfl rfl [1000] [rdrB gr a n c (nthR xs r i)] (by simp) rfl (fun _ : Unit => [(1000, rdrB gr a n c (nthR xs r (i + 1)))]) (fun w I S hI hG hO hS' => rint0 w I S hI gr xs (fun W e => (hG W e).2) hb _ (rd i) hO hS') (fun r => by simp [nthR]) (.inr fun x q hq => by simp at hq; subst hq; simp) fun _ W _ => ?_
    simp [hN, e6]
    refine ⟨by omega, next (i + 1) _ _ (by omega) (fun W h => ⟨by omega, h.2⟩) ?_⟩
    obtain rfl | rfl | rfl | rfl : i = 0 ∨ i = 1 ∨ i = 2 ∨ i = 3 := by omega
    all_goals simp [four]
  clear next
  simp [hN]
  refine callS ok rfl rfl rfl [1000] [rdrB gr a n c (nthR xs r 4)] (by simp) rfl (fun _ : Unit => [(1000, rdrB gr a n c (inoA xs r).2)]) (fun w I S hI hG hO hS' => rtext0 w I S hI gr xs (fun W e => (hG W e)) hb _ (rd 4) hO hS') (fun r => by simp [inoA]) (.inr fun x q hq => by simp at hq; subst hq; simp) fun _ W _ => ?_
  have rA : rsOk xs.length (inoA xs r).2 := rsOk_text (rd 4)
  have hT : textR xs (nthR xs r 4) = inoA xs r := rfl
  rw [hT]
  simp [hN]
  refine callS ok rfl rfl rfl [1000] [rdrB gr a n c (inoA xs r).2] (by simp) rfl (fun _ : Unit => [(1000, rdrB gr a n c (inoN xs r).2)]) (fun w I S hI hG hO hS' => rget0 w I S hI gr xs (fun W e => (hG W e)) hb _ rA 4 (by decide) hO hS') (fun r => by simp [inoN]) (.inr fun x q hq => by simp at hq; subst hq; simp) fun _ W _ => ?_
  have rN : rsOk xs.length (inoN xs r).2 := rsOk_get rA (by decide)
  have hT : getR xs (inoA xs r).2 4 = inoN xs r := rfl
  rw [hT]
  have hM := getR_val hb (inoA xs r).2 4
  rw [hT] at hM
  obtain ⟨M, hM1⟩ : ∃ M : Nat, (inoN xs r).1 = M := ⟨(inoN xs r).1.toNat, by omega⟩
  have hM2 : M < 4294967296 := by have := hM.2; rw [hM1] at this; simp at this; omega
  have hE : inoE xs r = manyR (entR xs) M (inoN xs r).2 := by rw [inoE, hM1]; rfl
  rw [hM1]
  clear hM hM1
  simp [hN]
  generalize (inoN xs r).2 = r0 at rN hE
  refine nilr 600 127 2 (nilr 601 139 3 (retell 3 (by simp; rfl) (r' := .box g3 44 [.v (.int .i64 (four xs r 4 0)), .v (.int .i64 (four xs r 4 1)), .v (.int .i64 (four xs r 4 2)), .v (.int .i64 (four xs r 4 3)), .v (.string (inoA xs r).1), .rw 600 none 0 0, .rw 601 none 0 0]) (by simp [Res.eqv]) ?_))
  refine loopK [0, 2, 3] ok (fun y : Nat × Rs × List Ent × Sl => [(6, .c (.v (.int .u64 (y.1 : Nat))))]) (fun y => [(1000, rdrB gr a n c y.2.1), (2, .box g2 44 [.v (.int .i64 0), .v (.int .i64 0), .v (.int .i64 0), .v (.int .i64 0), .v (.string ⟨#[]⟩), .v (.slice none 0 0), .v (.slice none 0 0)]), (3, .box g3 44 [.v (.int .i64 (four xs r 4 0)), .v (.int .i64 (four xs r 4 1)), .v (.int .i64 (four xs r 4 2)), .v (.int .i64 (four xs r 4 3)), .v (.string (inoA xs r).1), .rw 600 y.2.2.2.1 y.2.2.1.length y.2.2.2.2, .rw 601 none 0 0]), (600, .row y.2.2.2.1 y.2.2.1.length y.2.2.2.2 127 2 (eC y.2.2.1)), (601, .row none 0 0 139 3 [])]) (fun y W => y.1 ≤ M ∧ rsOk xs.length y.2.1 ∧ manyR (entR xs) M r0 = (y.2.2.1 ++ (manyR (entR xs) y.1 y.2.1).1, (manyR (entR xs) y.1 y.2.1).2)) (fun y => y.1) (M, r0, [], (none, 0)) ?_ ?_ (fun W hW => ⟨Nat.le_refl _, rN, rfl⟩) ?_
  · simp
  · simp [eC]
  rintro ⟨k, q, acc, ea, ec⟩ W ⟨hk, hq, hm⟩ hG next
  simp only at hk hq hm
  have hal : acc.length ≤ xs.length + 1 := by
    have := many_len (entR xs) xs.length (fun r h => entR_le h) M r0 rN
    rw [hm, List.length_append] at this
    omega
  by_cases hgo : 0 < k ∧ q.2 = 0
  · obtain ⟨hk0, hq0⟩ := hgo
    obtain ⟨k, rfl⟩ : ∃ j, k = j + 1 := ⟨k - 1, by omega⟩
    have e6 : IntKind.u64.wrap (k : Int) = (k : Nat) := by rw [u64_wrap]; omega
    simp [hN, hq0]
    refine callS ok rfl rfl rfl [1000] [rdrB gr a n c q] (by simp) rfl (fun _ : Unit => [(1000, rdrB gr a n c (textR xs q).2)]) (fun w I S hI hG hO hS' => rtext0 w I S hI gr xs (fun W e => (hG W e).2) hb _ hq hO hS') (fun r => by simp) (.inr fun x q hq => by simp at hq; subst hq; simp) fun _ W _ => ?_
    simp [hN]
    refine drawW ok mixed (by kernel_rfl) ?_
    simp (maxSteps := 2000000) -implicitDefEqProofs [hN]
    have hmk : manyR (entR xs) (k + 1) q = ((entR xs q).1 :: (manyR (entR xs) k (entR xs q).2).1, (manyR (entR xs) k (entR xs q).2).2) := by rw [manyR, if_neg (by simp [hq0])]
    have hq2 : rsOk xs.length (entR xs q).2 := rsOk_int (rsOk_text hq)
    have fin : ∀ (g' c' g48 : Nat) tm m, (∀ W, m.G W → Sv.ok dByte W (a, n, c) xs) → subs tm ([(6, .c (.v (.int .u64 (k : Nat))))] ++ [(3, .c (.bp 3 g3 0)), (2, .c (.bp 2 g2 0)), (0, .c (.bp 1000 gr 0))]) → keepB m.rs [(1000, rdrB gr a n c (entR xs q).2), (2, .box g2 44 [.v (.int .i64 0), .v (.int .i64 0), .v (.int .i64 0), .v (.int .i64 0), .v (.string ⟨#[]⟩), .v (.slice none 0 0), .v (.slice none 0 0)]), (3, .box g3 44 [.v (.int .i64 (four xs r 4 0)), .v (.int .i64 (four xs r 4 1)), .v (.int .i64 (four xs r 4 2)), .v (.int .i64 (four xs r 4 3)), .v (.string (inoA xs r).1), .rw 600 (some ⟨g', 0, none⟩) (acc.length + 1) c', .rw 601 none 0 0]), (600, .row (some ⟨g', 0, none⟩) (acc.length + 1) c' 127 2 (eC acc ++ [.v (.string (textR xs q).1), .v (.int .i64 (intR xs (textR xs q).2).1)])), (601, .row none 0 0 139 3 [])] → At C _ tm m := fun g' c' g48 tm m hG ht hr => next (k, (entR xs q).2, acc ++ [(entR xs q).1], (some ⟨g', 0, none⟩, c')) _ _ (by simp only; omega) (fun W h => ⟨⟨by simp only; omega, hq2, by rw [hm, hmk]; simp⟩, hG W h⟩) ⟨by simpa using ht, by simpa [eC_snoc, entR] using hr⟩
    refine ⟨?_, ?_⟩
    · refine callS ok rfl rfl rfl [1000] [rdrB gr a n c (textR xs q).2] (by simp) rfl (fun _ : Unit => [(1000, rdrB gr a n c (entR xs q).2)]) (fun w I S hI hG hO hS' => rint0 w I S hI gr xs (fun W e => (hG W e).2) hb _ (rsOk_text hq) hO hS') (fun r => by simp [entR]) (.inr fun x q hq => by simp at hq; subst hq; simp) fun _ W _ => ?_
      simp (maxSteps := 2000000) -implicitDefEqProofs [hN]
      intro g48
      refine appR ok 600 48 rfl rfl rfl rfl rfl (by decide) rfl rfl rfl rfl rfl rfl rfl (by decide) (by simp) (by show (_ + 1) * 24 ≤ _; omega) (by omega) fun g' c' => ?_
      simp (maxSteps := 2000000) -implicitDefEqProofs [hN, e6]
      exact fin g' c' g48 _ _ (fun W h => h.2) (by simp) (by simp)
    · refine callS ok rfl rfl rfl [1000] [rdrB gr a n c (textR xs q).2] (by simp) rfl (fun _ : Unit => [(1000, rdrB gr a n c (entR xs q).2)]) (fun w I S hI hG hO hS' => rint0 w I S hI gr xs (fun W e => (hG W e).2) hb _ (rsOk_text hq) hO hS') (fun r => by simp [entR]) (.inr fun x q hq => by simp at hq; subst hq; simp) fun _ W _ => ?_
      simp (maxSteps := 2000000) -implicitDefEqProofs [hN]
      refine ⟨fun g48 => ?_, fun g48 => ?_⟩
      all_goals
        refine appR ok 600 48 rfl rfl rfl rfl rfl (by decide) rfl rfl rfl rfl rfl rfl rfl (by decide) (by simp) (by show (_ + 1) * 24 ≤ _; omega) (by omega) fun g' c' => ?_
        simp (maxSteps := 2000000) -implicitDefEqProofs [hN, e6]
        exact fin g' c' g48 _ _ (fun W h => h.2) (by simp) (by simp)
  have hx := many_stop (entR xs) hgo
  rw [hx] at hm
  simp only [List.append_nil] at hm
  have hEE : inoE xs r = (acc, q) := by rw [hE, hm]
  clear next hx hm hE
  refine cutK ok (p := ?pos) [(51, .c (.bp 1000 gr 0)), (3, .c (.bp 3 g3 0)), (2, .c (.bp 2 g2 0)), (0, .c (.bp 1000 gr 0))] (fun W => Sv.ok dByte W (a, n, c) xs) [(1000, rdrB gr a n c q), (2, .box g2 44 [.v (.int .i64 0), .v (.int .i64 0), .v (.int .i64 0), .v (.int .i64 0), .v (.string ⟨#[]⟩), .v (.slice none 0 0), .v (.slice none 0 0)]), (3, .box g3 44 [.v (.int .i64 (four xs r 4 0)), .v (.int .i64 (four xs r 4 1)), .v (.int .i64 (four xs r 4 2)), .v (.int .i64 (four xs r 4 3)), .v (.string (inoA xs r).1), .rw 600 ea acc.length ec, .rw 601 none 0 0]), (600, .row ea acc.length ec 127 2 (eC acc)), (601, .row none 0 0 139 3 [])] ?rest fun R => ?main
  case main =>
    by_cases hk0 : 0 < k
    · have hq0 : ¬ q.2 = 0 := fun h => hgo ⟨hk0, h⟩
      have hk1 : (0 : Int) < (k : Nat) := by omega
      simp [hN, hk0, hq0]
      refine R _ _ ?_ ?_
      · exact fun W h => h.2
      · simp
    · obtain rfl : k = 0 := by omega
      simp [hN]
      refine R _ _ ?_ ?_
      · exact fun W h => h.2
      · simp
  case rest =>
    have hE1 : (inoE xs r).1 = acc := by rw [hEE]
    have hE2 : (inoE xs r).2 = q := by rw [hEE]
    clear hgo hEE hk k
    simp [hN]
    refine callS ok rfl rfl rfl [1000] [rdrB gr a n c q] (by simp) rfl (fun _ : Unit => [(1000, rdrB gr a n c (inoM xs r).2)]) (fun w I S hI hG hO hS' => rget0 w I S hI gr xs (fun W e => (hG W e)) hb _ hq 4 (by decide) hO hS') (fun _ => by simp [inoM, hE2]) (.inr fun x q hq => by simp at hq; subst hq; simp) fun _ W _ => ?_
    have rM : rsOk xs.length (inoM xs r).2 := by rw [inoM, hE2]; exact rsOk_get hq (by decide)
    have hT : getR xs q 4 = inoM xs r := by rw [inoM, hE2]
    rw [hT]
    have hM := getR_val hb q 4
    rw [hT] at hM
    obtain ⟨K, hK1⟩ : ∃ K : Nat, (inoM xs r).1 = K := ⟨(inoM xs r).1.toNat, by omega⟩
    have hK2 : K < 4294967296 := by have := hM.2; rw [hK1] at this; simp at this; omega
    have hU : inoU xs r = manyR (rnR xs) K (inoM xs r).2 := by rw [inoU, hK1]; rfl
    rw [hK1]
    clear hM hK1 hq hE2 hT
    simp [hN]
    generalize (inoM xs r).2 = r1 at rM hU
    clear q
    refine loopK [0, 2, 3] ok (fun y : Nat × Rs × List Rn × Sl => [(8, .c (.v (.int .u64 (y.1 : Nat))))]) (fun y => [(1000, rdrB gr a n c y.2.1), (2, .box g2 44 [.v (.int .i64 0), .v (.int .i64 0), .v (.int .i64 0), .v (.int .i64 0), .v (.string ⟨#[]⟩), .v (.slice none 0 0), .v (.slice none 0 0)]), (3, .box g3 44 [.v (.int .i64 (four xs r 4 0)), .v (.int .i64 (four xs r 4 1)), .v (.int .i64 (four xs r 4 2)), .v (.int .i64 (four xs r 4 3)), .v (.string (inoA xs r).1), .rw 600 ea acc.length ec, .rw 601 y.2.2.2.1 y.2.2.1.length y.2.2.2.2]), (600, .row ea acc.length ec 127 2 (eC acc)), (601, .row y.2.2.2.1 y.2.2.1.length y.2.2.2.2 139 3 (rC y.2.2.1))]) (fun y W => y.1 ≤ K ∧ rsOk xs.length y.2.1 ∧ manyR (rnR xs) K r1 = (y.2.2.1 ++ (manyR (rnR xs) y.1 y.2.1).1, (manyR (rnR xs) y.1 y.2.1).2)) (fun y => y.1) (K, r1, [], (none, 0)) ?_ ?_ (fun W hW => ⟨Nat.le_refl _, rM, rfl⟩) ?_
    · simp
    · simp [rC]
    rintro ⟨k, q, bcc, ra, rc⟩ W ⟨hk, hq, hm⟩ hG next
    simp only at hk hq hm
    have hbl : bcc.length ≤ xs.length + 1 := by
      have := many_len (rnR xs) xs.length (fun r h => rnR_le h) K r1 rM
      rw [hm, List.length_append] at this
      omega
    by_cases hgo : 0 < k ∧ q.2 = 0
    · obtain ⟨hk0, hq0⟩ := hgo
      obtain ⟨k, rfl⟩ : ∃ j, k = j + 1 := ⟨k - 1, by omega⟩
      have e6 : IntKind.u64.wrap (k : Int) = (k : Nat) := by rw [u64_wrap]; omega
      have hmk : manyR (rnR xs) (k + 1) q = ((rnR xs q).1 :: (manyR (rnR xs) k (rnR xs q).2).1, (manyR (rnR xs) k (rnR xs q).2).2) := by rw [manyR, if_neg (by simp [hq0])]
      have hq2 : rsOk xs.length (rnR xs q).2 := rsOk_nth hq 3
      simp [hN, hq0]
      intro g9
      refine loopK [0, 2, 3, 8, 9] ok (fun i : Nat => [(64, .c (.v (.int .i64 (i : Nat))))]) (fun i => [(1000, rdrB gr a n c (nthR xs q i)), (9, .box g9 256 [.v (.int .i64 (four xs q i 0)), .v (.int .i64 (four xs q i 1)), .v (.int .i64 (four xs q i 2))]), (2, .box g2 44 [.v (.int .i64 0), .v (.int .i64 0), .v (.int .i64 0), .v (.int .i64 0), .v (.string ⟨#[]⟩), .v (.slice none 0 0), .v (.slice none 0 0)]), (3, .box g3 44 [.v (.int .i64 (four xs r 4 0)), .v (.int .i64 (four xs r 4 1)), .v (.int .i64 (four xs r 4 2)), .v (.int .i64 (four xs r 4 3)), .v (.string (inoA xs r).1), .rw 600 ea acc.length ec, .rw 601 ra bcc.length rc]), (600, .row ea acc.length ec 127 2 (eC acc)), (601, .row ra bcc.length rc 139 3 (rC bcc))]) (fun i W => i ≤ 3) (fun i => 3 - i) 0 ?_ ?_ (fun W hW => Nat.zero_le _) ?_
      · simp
      · simp [four, nthR]
      rintro i W hi hG2 next2
      rcases Nat.lt_or_ge i 3 with hlt | hge
      · have e7 : IntKind.i64.wrap ((i : Int) + 1) = (i + 1 : Nat) := by rw [w64 (by omega) (by omega)]; omega
        have hlt' : (i : Int) < 3 := by omega
        simp [hN, hlt']
        refine callS ok rfl rfl rfl [1000] [rdrB gr a n c (nthR xs q i)] (by simp) rfl (fun _ : Unit => [(1000, rdrB gr a n c (nthR xs q (i + 1)))]) (fun w I S hI hG hO hS' => rint0 w I S hI gr xs (fun W e => (hG W e).2.2) hb _ (rsOk_nth hq i) hO hS') (fun r => by simp [nthR]) (.inr fun x q hq => by simp at hq; subst hq; simp) fun _ W _ => ?_
        simp [hN, e7, hlt]
        refine ⟨hlt', by omega, next2 (i + 1) _ _ (by omega) (fun W h => ⟨hlt, h.2⟩) ?_⟩
        obtain rfl | rfl | rfl : i = 0 ∨ i = 1 ∨ i = 2 := by omega
        all_goals simp [four]
      · obtain rfl : i = 3 := by omega
        simp [hN]
        intro g81
        refine appR ok 601 81 rfl rfl rfl rfl rfl (by decide) rfl rfl rfl rfl rfl rfl rfl (by decide) (by simp) (by show (_ + 1) * 24 ≤ _; omega) (by omega) fun g' c' => ?_
        simp [hN, e6]
        exact next (k, (rnR xs q).2, bcc ++ [(rnR xs q).1], (some ⟨g', 0, none⟩, c')) _ _ (by simp only; omega) (fun W h => ⟨⟨by simp only; omega, hq2, by rw [hm, hmk]; simp⟩, h.2⟩) (by simp [rC_snoc, rnR, nthR, four])
    have hx := many_stop (rnR xs) hgo
    rw [hx] at hm
    simp only [List.append_nil] at hm
    rw [hm] at hU
    have hU1 : (inoU xs r).1 = bcc := by rw [hU]
    have hU2 : (inoU xs r).2 = q := by rw [hU]
    have hfin : (inoR xs r) = (⟨four xs r 4 0, four xs r 4 1, four xs r 4 2, four xs r 4 3, (inoA xs r).1, acc, bcc⟩, q) := by
      simp [inoR, hU1, hU2, hE1, four, nthR]
    rw [hfin] at hC
    clear next hx hm hU
    by_cases hk0 : 0 < k
    case' pos =>
      have hq0 : ¬ q.2 = 0 := fun h => hgo ⟨hk0, h⟩
      simp [hN, hk0, hq0]
    case' neg =>
      obtain rfl : k = 0 := by omega
      simp [hN]
    all_goals
      refine retS hC ((ea, ec), (ra, rc)) [1000] rfl (by simp) fun W hp hG => ⟨?_, ?_⟩
      · exact (Rows.sv (d := dEnt) (xs := acc) (rowsE.2 (eC_val acc)) (by decide) (by omega) hp.2.2.1).2
      · exact (Rows.sv (d := dRn) (xs := bcc) (rowsR.2 (rC_val bcc)) (by decide) (by omega) hp.2.2.2.1).2
end Go.Proofs.YtbbaoeidobdblaaGreat.Sx

/- pack.reader: deed; pack.Parse. -/
set_option linter.unusedVariables false
set_option linter.unusedSimpArgs false
namespace Go.Proofs.YtbbaoeidobdblaaGreat.Sx
open Go

attribute [local simp ↓] ifb_true' ifb_false'
attribute [local simp] ifb_true ifb_false ifb_eq sx argsT find ev evOp evs evo evBin evInt evStr evNil evNilA ptrA slcA isNoneA asB evLoad look del cellsB evUn evConv kdec fld evFieldA evField evIdxA evIdx evSlc bndL bndH evLen mmi put resV guardV gvL setO tupV cellsOf ones one upd lits nv exitTo SV.val CV.val TI.agg rdyA allR keepB scan simpO gsp isS subs keepT pickT wr memN pubs Res.fact Region.binds bld rest give delL back Res.eqv vi vb num Sv.val undef
theorem many_back {α : Type} {f : Rs → α × Rs} {n : Nat} {r : Rs} (h : (manyR f n r).2.2 = 0) : r.2 = 0 := by
  by_cases h0 : r.2 = 0
  · exact h0
  · rw [many_stop f (fun h2 => h0 h2.2)] at h
    exact absurd h h0
theorem nth_le {l : List Int} {r : Rs} : ∀ i, (nthR l r i).2 = 0 → r.2 = 0 ∧ r.1 ≤ (nthR l r i).1 ∧ (r.1 ≤ l.length → (nthR l r i).1 ≤ l.length)
  | 0, h => ⟨h, Nat.le_refl _, id⟩
  | i + 1, h => by
    have h1 := intR_le (r := nthR l r i) h
    have h2 := nth_le i h1.1
    have e : (nthR l r (i + 1)).1 = (nthR l r i).1 + 8 := h1.2.1
    exact ⟨h2.1, by omega, fun _ => by omega⟩
theorem inoR_le {l : List Int} {r : Rs} (h : (inoR l r).2.2 = 0) : r.2 = 0 ∧ r.1 + 4 ≤ (inoR l r).2.1 ∧ (inoR l r).2.1 ≤ l.length := by
  have hU : (inoU l r).2.2 = 0 := h
  have hM : (inoM l r).2.2 = 0 := many_back hU
  have hE : (inoE l r).2.2 = 0 := getR_back hM
  have hN : (inoN l r).2.2 = 0 := many_back hE
  have hA : (inoA l r).2.2 = 0 := getR_back hN
  have h4 := nth_le 4 (textR_back hA)
  have lA : _ ∧ (inoA l r).2.1 ≤ l.length := textR_le hA
  have lN : (inoN l r).2.1 = _ ∧ _ := getR_le hA hN
  have lE : _ ∧ _ ≤ (inoE l r).2.1 ∧ (inoE l r).2.1 ≤ l.length := (manyR_le (entR l) l.length (fun r h => entR_le h) _ (inoN l r).2 (by rw [lN.1]; exact lN.2)).2 hE
  have lM : (inoM l r).2.1 = _ ∧ _ := getR_le hE hM
  have lU : _ ∧ _ ≤ (inoU l r).2.1 ∧ (inoU l r).2.1 ≤ l.length := (manyR_le (rnR l) l.length (fun r h => rnR_le h) _ (inoM l r).2 (by rw [lM.1]; exact lM.2)).2 hU
  refine ⟨h4.1, ?_, lU.2.2⟩
  have e : (inoR l r).2.1 = (inoU l r).2.1 := rfl
  have l1 : (nthR l r 4).1 + 4 ≤ (inoA l r).2.1 := lA.1
  omega
theorem deeR_le {l : List Int} {o : Nat} (h : (deeR l o).2.2 = 0) : o + 1 ≤ (deeR l o).2.1 ∧ (deeR l o).2.1 ≤ l.length := by
  unfold deeR at h ⊢
  split at h
  · rename_i h1
    rw [if_pos h1]
    have h2 := intR_le (r := (getR l (o, 0) 1).2) h
    have h3 := getR_le (r := (o, 0)) rfl h2.1
    simp only at h2 h3 ⊢
    omega
  · rename_i h1
    rw [if_neg h1]
    split at h
    · rename_i h4
      rw [if_pos h4]
      have h2 := inoR_le (r := (getR l (o, 0) 1).2) h
      have h3 := getR_le (r := (o, 0)) rfl h2.1
      simp only at h2 h3 ⊢
      omega
    · cases h
theorem parse_fuel (l : List Int) : ∀ (f g o : Nat), l.length - o ≤ f → l.length - o ≤ g → parseN l f o = parseN l g o
  | 0, 0, o, _, _ => rfl
  | 0, g + 1, o, hf, hg => by rw [parseN, parseN, if_pos (by omega)]
  | f + 1, 0, o, hf, hg => by rw [parseN, parseN, if_pos (by omega)]
  | f + 1, g + 1, o, hf, hg => by
    rw [parseN, parseN]
    by_cases h : l.length ≤ o
    · rw [if_pos h, if_pos h]
    · rw [if_neg h, if_neg h]
      by_cases h2 : (deeR l o).2.2 = 0
      · have h3 := deeR_le h2
        rw [parse_fuel l f g (deeR l o).2.1 (by omega) (by omega)]
      · rw [if_pos h2, if_pos h2]
set_option maxHeartbeats 2000000 in
theorem rdeed0 (w : World) (I S : Nat → Prop) (hI : ∀ b, I b → b < w.heap.size) (gr : Nat) {a : Option Addr} {n c : Nat} (xs : List Int) (hx10 : xs.length ≤ 10000000000) (h : ∀ W, Ext I w W → Sv.ok dByte W (a, n, c) xs) (hb : ∀ x, x ∈ xs → 0 ≤ x ∧ x ≤ 255) (o : Nat) (ho : o ≤ xs.length) (hS : Owns [rdrB gr a n c (o, 0)] S w) (hSI : ∀ b, S b → b < w.heap.size ∧ ¬ I b) :
    FnS Tryz.prog 167 #[ptrV gr] w I S (fun x : Sl × Sl => .agg (deeC (deeR xs o).1 x.1 x.2).toArray) (fun _ => [rdrB gr a n c (deeR xs o).2]) (fun x W => InoR W (deeR xs o).1.ino x.1 x.2) := by
  have hr : rsOk xs.length (o, 0) := ⟨by simp only; omega, fun _ => ho⟩
  refine enterS (svs := [.c (.bp 1000 gr 0)]) tysOk Tryz.func167 rfl Tryz.ntmps167 Tryz.results167 (by kernel_rfl) (by simp) hI [rdrB gr a n c (o, 0)] hS hSI (fun W => Sv.ok dByte W (a, n, c) xs) h fun C hC hN ok => ?_
  simp [hN]
  intro g2
  refine callS ok rfl rfl rfl [1000] [rdrB gr a n c (o, 0)] (by simp) rfl (fun _ : Unit => [(1000, rdrB gr a n c (getR xs (o, 0) 1).2)]) (fun w I S hI hG hO hS' => rget0 w I S hI gr xs (fun W e => (hG W e)) hb _ hr 1 (by decide) hO hS') (fun r => by simp) (.inr fun x q hq => by simp at hq; subst hq; simp) fun _ W _ => ?_
  have hr1 : rsOk xs.length (getR xs (o, 0) 1).2 := rsOk_get hr (by decide)
  have hv := getR_val hb (o, 0) 1
  have hD := deeR.eq_1 xs o
  generalize getR xs (o, 0) 1 = G at hr1 hv hD ⊢
  obtain ⟨v, q⟩ := G
  simp only at hr1 hv hD ⊢
  have e1 : IntKind.i64.wrap v = v := w64 (by omega) (by have := hv.2; simp at this; omega)
  have nilR : ∀ W, InoR W inoZ (none, 0) (none, 0) := fun W => ⟨⟨by simp [inoZ], by simp [inoZ], rd_nil _ _ _⟩, ⟨by simp [inoZ], by simp [inoZ], rd_nil _ _ _⟩⟩
  by_cases h1 : v = 1 ∨ v = 3 ∨ v = 4
  · rw [if_pos h1] at hD
    rw [hD] at hC
    rcases h1 with rfl | rfl | rfl
    all_goals
      simp [hN, e1]
      intro g3
      refine callS ok rfl rfl rfl [1000] [rdrB gr a n c q] (by simp) rfl (fun _ : Unit => [(1000, rdrB gr a n c (intR xs q).2)]) (fun w I S hI hG hO hS' => rint0 w I S hI gr xs (fun W e => (hG W e)) hb _ hr1 hO hS') (fun r => by simp) (.inr fun x q hq => by simp at hq; subst hq; simp) fun _ W _ => ?_
      simp [hN]
      exact retS hC ((none, 0), (none, 0)) [1000] rfl (by simp) fun W _ _ => nilR W
  rw [if_neg h1] at hD
  have n1 : ¬ v = 1 := fun h => h1 (.inl h)
  have n3 : ¬ v = 3 := fun h => h1 (.inr (.inl h))
  have n4 : ¬ v = 4 := fun h => h1 (.inr (.inr h))
  by_cases h2 : v = 2
  · subst h2
    rw [if_pos rfl] at hD
    rw [hD] at hC
    simp [hN, e1]
    intro g3
    refine callS ok rfl rfl rfl [1000] [rdrB gr a n c q] (by simp) rfl (fun _ : Sl × Sl => [(1000, rdrB gr a n c (inoR xs q).2)]) (fun w I S hI hG hO hS' => rinode0 w I S hI gr xs hx10 (fun W e => (hG W e)) hb _ hr1 hO hS') (fun r => by simp) (.inr fun x q hq => by simp at hq; subst hq; simp) fun y W hy => ?_
    simp [hN]
    exact retS hC y [1000] rfl (by simp) fun W _ hG => hG.1
  · rw [if_neg h2] at hD
    rw [hD] at hC
    simp [hN, e1, n1, n3, n4, h2]
    intro g3
    exact retS hC ((none, 0), (none, 0)) [1000] rfl (by simp) fun W _ _ => nilR W
/-- What comes first, and then the rest. -/
def combP (acc : List Dee) (x : List Dee × Int) : List Dee × Int := if x.2 ≠ 0 then ([], x.2) else (acc ++ x.1, 0)
theorem parse_err (l : List Int) : ∀ (f o : Nat), (parseN l f o).2 ≠ 0 → (parseN l f o).1 = []
  | 0, o, h => rfl
  | f + 1, o, h => by
    rw [parseN] at h ⊢
    split
    · rfl
    · split
      · rfl
      · split
        · rfl
        · rename_i h1 h2 h3
          rw [if_neg h1, if_neg h2, if_neg h3] at h
          exact absurd rfl h
theorem combP_nil (l : List Int) (f o : Nat) : parseN l f o = combP [] (parseN l f o) := by
  unfold combP
  split
  · rename_i h
    rw [← parse_err l f o h]
  · rename_i h
    have h2 : (parseN l f o).2 = 0 := by simpa using h
    rw [← h2]
    rfl
set_option maxHeartbeats 2000000 in
theorem parse0 (w : World) (I : Nat → Prop) (hI : ∀ b, I b → b < w.heap.size) {a : Option Addr} {n c : Nat} (xs : List Int) (hx10 : xs.length ≤ 10000000000) (h : ∀ W, Ext I w W → Sv.ok dByte W (a, n, c) xs) (hb : ∀ x, x ∈ xs → 0 ≤ x ∧ x ≤ 255) :
    Fn0 Tryz.prog 121 #[.slice a n c] w I (fun s : Sl => .tuple #[.slice s.1 (parseM xs).1.length s.2, .int .i64 (parseM xs).2]) (fun s W => s.ok dDee W (parseM xs).1) := by
  obtain rfl : n = xs.length := (h w (Ext.refl _ _)).1
  refine enter (svs := [.c (.v (.slice a xs.length c))]) tysOk Tryz.func121 rfl Tryz.ntmps121 Tryz.results121 (by kernel_rfl) (by simp) hI (fun W => Sv.ok dByte W (a, xs.length, c) xs) h fun C hC hN ok => ?_
  simp [hN]
  intro g8
  refine nilr 600 46 9 (loopK [0, 4] ok (fun y : Nat × List Dee × Sl × List CV => [(5, .c (.rw 600 y.2.2.1.1 y.2.1.length y.2.2.1.2))]) (fun y => [(8, rdrB g8 a xs.length c (y.1, 0)), (600, .row y.2.2.1.1 y.2.1.length y.2.2.1.2 46 9 y.2.2.2)]) (fun y W => y.1 ≤ xs.length ∧ y.2.1.length ≤ y.1 ∧ Rows dDee W y.2.1 (y.2.2.2.map CV.val) ∧ parseM xs = combP y.2.1 (parseN xs (xs.length - y.1) y.1)) (fun y => xs.length - y.1) (0, [], (none, 0), []) ?_ ?_ (fun W hW => ⟨Nat.zero_le _, Nat.le_refl _, rows_nil _ _, ?_⟩) ?_)
  · simp
  · simp
  · exact combP_nil _ _ _
  rintro ⟨o, acc, ⟨ra, rc⟩, cs⟩ W ⟨ho, hacc, hrow, hspec⟩ hG next
  simp only at ho hacc hrow hspec
  rcases Nat.lt_or_ge o xs.length with hlt | hge
  · simp [hN, hlt]
    refine callS ok rfl rfl rfl [8] [rdrB g8 a xs.length c (o, 0)] (by simp) rfl (fun _ : Sl × Sl => [(8, rdrB g8 a xs.length c (deeR xs o).2)]) (fun w I S hI hG hO hS' => rdeed0 w I S hI g8 xs hx10 (fun W e => (hG W e).2) hb o ho hO hS') (fun r => by simp) (.inl fun x hx => by simp at hx; subst hx; decide) fun y W hy => ?_
    simp [hN]
    intro g19
    have hP : parseN xs (xs.length - o) o = parseN xs (xs.length - o - 1 + 1) o := by rw [show xs.length - o - 1 + 1 = xs.length - o by omega]
    rw [parseN, if_neg (by omega)] at hP
    refine appR ok 600 19 rfl rfl rfl rfl rfl (by decide) rfl rfl rfl rfl rfl rfl rfl (by decide) (by simp) (by show (_ + 1) * 112 ≤ _; omega) (by omega) fun g' c' => ?_
    by_cases he : (deeR xs o).2.2 = 0
    · have hle := deeR_le he
      rw [if_neg (by simp [he])] at hP
      have hf := parse_fuel xs (xs.length - o - 1) (xs.length - (deeR xs o).2.1) (deeR xs o).2.1 (by omega) (Nat.le_refl _)
      rw [hf] at hP
      have hc : parseM xs = combP (acc ++ [(deeR xs o).1]) (parseN xs (xs.length - (deeR xs o).2.1) (deeR xs o).2.1) := by
        rw [hspec, hP]
        generalize parseN xs (xs.length - (deeR xs o).2.1) (deeR xs o).2.1 = P
        by_cases h : P.2 = 0 <;> simp [combP, h]
      have hst : (deeR xs o).2 = ((deeR xs o).2.1, 0) := by rw [← he]
      simp [hN, he]
      refine next ((deeR xs o).2.1, acc ++ [(deeR xs o).1], (some ⟨g', 0, none⟩, c'), cs ++ (deeC (deeR xs o).1 y.1 y.2).map .v) _ _ (by simp only; omega) (fun W hW => ⟨⟨hle.2, by simp only [List.length_append, List.length_singleton]; omega, ?_, hc⟩, hW.2.2⟩) ?_
      · rw [List.map_append]
        exact hW.2.1.2.2.1.snoc ⟨y.1, y.2, by simp [Function.comp_def, CV.val], hW.1⟩
      · rw [hst]
        simp
    · rw [if_pos he] at hP
      have hc : parseM xs = ([], (deeR xs o).2.2) := by rw [hspec, hP]; unfold combP; rw [if_pos he]
      rw [hc] at hC
      simp [hN, he]
      refine drawK ok mixed (by kernel_rfl) ?_
      simp (maxSteps := 2000000) -implicitDefEqProofs [hN]
      exact ret0 hC (none, 0) rfl fun W _ _ => ⟨Nat.zero_le _, Nat.zero_le _, rd_nil _ _ _⟩
  · have hc : parseM xs = (acc, 0) := by
      obtain rfl : o = xs.length := by omega
      rw [hspec, Nat.sub_self]
      simp [parseN, combP]
    rw [hc] at hC
    simp [hN, Nat.not_lt.2 hge]
    refine ret0 hC (ra, rc) rfl fun W hp hG => ?_
    exact (Rows.sv hG.1.2.2.1 (by decide) (by omega) hp.2.1).2
end Go.Proofs.YtbbaoeidobdblaaGreat.Sx

/- Bytes of a chip: slices.Clone of a part of a row that is lent, nor.Chip.Read, half.Read. -/
set_option linter.unusedVariables false
set_option linter.unusedSimpArgs false
namespace Go.Proofs.YtbbaoeidobdblaaGreat.Sx
open Go

attribute [local simp ↓] ifb_true' ifb_false'
attribute [local simp] ifb_true ifb_false ifb_eq sx argsT find ev evOp evs evo evBin evInt evStr evNil evNilA ptrA slcA isNoneA asB evLoad look del cellsB evUn evConv kdec fld evFieldA evField evIdxA evIdx evSlc bndL bndH evLen mmi put resV guardV gvL setO tupV cellsOf ones one upd lits nv exitTo SV.val CV.val TI.agg rdyA allR keepB scan simpO gsp isS subs keepT pickT wr memN pubs Res.fact Region.binds bld rest give delL back Res.eqv vi vb num Sv.val undef
section
variable {P : Program} {C : Ctx} {T : Ty} {res : List ResultVar} {p : Pos} {tm : Tm} {m : Mem}
/-- A part of a row of one's own (k') is appended to another one (k). -/
theorem appP (ok : Okc P T C res) (k k' : Nat) {o : Oper} {s x : Operand} {t d : Nat} (ho : o.op = .call ⟨.builtin .append, #[s, x], #[t, t]⟩) (hd : o.dst = some d) {i ie : TI} (hi : tf t T = some i) (hik : i.kd = 3) (hie : tf i.el T = some ie) (h0 : ie.sz = 1) (hzl : ie.zero.length = ie.sz)
    {a : Option Addr} {n c g m' mc off n' c' : Nat} {cs cs' : List CV} {u v : SV} (hk : look k m.rs = some (.row a n c i.el ie.sz cs)) (hs : ev tm s = some u) (hu : u.val = .slice a n c) (hk' : look k' m.rs = some (.row (some ⟨g, 0, none⟩) n' c' i.el ie.sz cs')) (hx : ev tm x = some v) (hv : v.val = .slice (some ⟨g, off, none⟩) m' mc)
    (hm : 0 < m') (hof : off + m' ≤ cs'.length) (h1 : ones ((cs'.drop off).take m')) (hb : (n + m') * ie.bt ≤ 140737488355328) (hmx : n + m' ≤ 140737488355328)
    (kk : ∀ g' c'', sx T C res 1000 p (put C.n (some d) (.c (.rw k (some ⟨g', 0, none⟩) (n + m') c'')) tm) ⟨m.B, m.G, (k, .row (some ⟨g', 0, none⟩) (n + m') c'' i.el ie.sz (cs ++ (cs'.drop off).take m')) :: del k (del k m.rs)⟩) : At C (.op o p) tm m := by
  rintro act w cs0 hR ⟨I, F, hJ⟩
  have o1 := hJ.own _ (look_mem hk)
  have o2 := hJ.own _ (look_mem hk')
  obtain ⟨g', c'', w', hr, hown, hext, hblk, hlt⟩ := grow_row (P := C.P) (t := t) (ty := o.type) (ok.ty.get hi |>.g_slice hik) (ok.ty.get hie) (by omega) hzl o1.2 (ad := ⟨g, off, none⟩) (mc := mc) (news := ((cs'.drop off).take m').map CV.val) (m := m') (by rw [List.length_map, List.length_take, List.length_drop, h0]; omega) (fun j z hz => by
    rw [addr_add]
    have hj : j < m' := by have := (List.getElem?_eq_some_iff.1 hz).1; simp at this; omega
    rw [holds_cells o2 (g := g) (cs := cs') rfl (off + j) (by omega)]
    simp only [List.getElem?_map, List.getElem?_take, hj, if_true, List.getElem?_drop] at hz
    simp only [List.getD, List.getElem?_eq_getElem (show off + j < cs'.length by omega), Option.map_some, Option.some.injEq] at hz ⊢
    rw [← hz]
    rfl) (ones_cells h1) hm hb hmx
  have e1 : act.eval s = .slice a n c := by rw [hR.eval hs, hu]
  have e2 : act.eval x = .slice (some ⟨g, off, none⟩) m' mc := by rw [hR.eval hx, hv]
  have hrun : (execOp act.eval o).run C.P w = .ok (.value (.slice (some ⟨g', 0, none⟩) (n + m') c'')) w' := by
    simp [execOp, ho, resolve, invoke, builtin, e1, e2, hr]
  have hup := hJ.upd k k (.row (some ⟨g', 0, none⟩) (n + m') c'' i.el ie.sz (cs ++ (cs'.drop off).take m')) (fun b => (Value.slice a n c).ownBlock = some b) (fun b => b = g') (fun b hb => ⟨(o1.1 b).2 hb, _, look_mem hk⟩) hext ⟨fun b => by simp [Value.ownBlock]; exact ⟨fun h => h.symm, fun h => h.symm⟩, by simpa using hown⟩ (fun b hb => by subst hb; exact ⟨hlt, hblk⟩) id
  have hRp := hR.put (some d) (.c (.rw k (some ⟨g', 0, none⟩) (n + m') c''))
  exact op_value (ok.sx (kk g' c'')) hrun (by rw [hd]; exact hRp) ⟨I, _, hup⟩
end
theorem bC_sub (b : List Int) (o k : Nat) : ((bC b).drop o).take k = bC ((b.drop o).take k) := by simp [bC, List.map_drop, List.map_take]
theorem cloneL0 (w : World) (I S : Nat → Prop) (hI : ∀ b, I b → b < w.heap.size) (g off m mc bc : Nat) (b : List Int) (h0 : 0 < m) (hm : off + m ≤ b.length) (hb : b.length ≤ 100000000000) (hS : Owns [.row (some ⟨g, 0, none⟩) b.length bc 5 1 (bC b)] S w) (hSI : ∀ b, S b → b < w.heap.size ∧ ¬ I b) :
    FnS Tryz.prog 76 #[.slice (some ⟨g, off, none⟩) m mc] w I S (fun x : Sl => .slice x.1 m x.2) (fun _ => [.row (some ⟨g, 0, none⟩) b.length bc 5 1 (bC b)]) (fun x W => Sl.ok dByte W x ((b.drop off).take m)) := by
  refine enterS (svs := [.c (.v (.slice (some ⟨g, off, none⟩) m mc))]) tysOk Tryz.func76 rfl Tryz.ntmps76 Tryz.results76 (by kernel_rfl) (by simp) hI [.row (some ⟨g, 0, none⟩) b.length bc 5 1 (bC b)] hS hSI (fun _ => True) (fun _ _ => trivial) fun C hC hN ok => ?_
  simp [hN]
  intro g5
  refine appP ok 5 1000 rfl rfl rfl rfl rfl rfl rfl rfl rfl rfl rfl rfl rfl h0 (by rw [bC_len]; exact hm) (by rw [bC_sub]; exact ones_bC _) (by show (0 + m) * 1 ≤ _; omega) (by omega) fun g' c' => ?_
  simp [hN, bC_sub]
  refine retS hC (some ⟨g', 0, none⟩, c') [1000] rfl (by simp) fun W hp hG => ?_
  have hl : ((b.drop off).take m).length = m := by rw [List.length_take, List.length_drop]; omega
  have := (Rows.sv (d := dByte) (xs := (b.drop off).take m) (rows_byte.2 (bC_val _)) (by decide) (by omega) hp.1).2
  exact this
theorem norRead0 (w : World) (I S : Nat → Prop) (hI : ∀ b, I b → b < w.heap.size) (c : Cp) (o k : Nat) (hf : c.fit) (h0 : 0 < k) (ho : o + k ≤ c.b.length) (hS : Owns c.res S w) (hSI : ∀ b, S b → b < w.heap.size ∧ ¬ I b) :
    FnS Tryz.prog 26 #[ptrV c.gc, .int .i64 (o : Nat), .int .i64 (k : Nat)] w I S (fun x : Sl => .tuple #[.slice x.1 k x.2, .int .i64 0]) (fun _ => c.res) (fun x W => Sl.ok dByte W x ((c.b.drop o).take k)) := by
  obtain ⟨hl2, hsz, hz⟩ := half_two hf
  have hcap := hf.cap
  refine enterS (svs := [.c (.bp 1000 c.gc 0), .c (.v (.int .i64 (o : Nat))), .c (.v (.int .i64 (k : Nat)))]) tysOk Tryz.func26 rfl Tryz.ntmps26 Tryz.results26 (by kernel_rfl) (by simp) hI c.res hS hSI (fun _ => True) (fun _ _ => trivial) fun C hC hN ok => ?_
  simp [hN]
  refine callS ok rfl rfl rfl [1000] [c.chip] (by simp) rfl (fun _ : Unit => [(1000, c.chip)]) (fun w I S hI hG hO hS' => norAsk0 w I S hI c o k (by omega) (by omega) hO hS') (fun r => by simp) (.inr fun x q hq => by simp at hq; subst hq; simp) fun _ W _ => ?_
  have hask : askE c.b.length o k = 0 := by unfold askE; rw [if_neg (by omega)]
  rw [hask]
  obtain ⟨z, hz'⟩ : ∃ z, z = o + k := ⟨_, rfl⟩
  have e1 : IntKind.i64.wrap ((o : Int) + (k : Nat)) = (z : Nat) := by rw [w64 (by omega) (by omega)]; omega
  have h1 : (o : Int) ≤ (z : Nat) := by omega
  have h2 : (z : Int) ≤ (c.cap : Nat) := by omega
  have h3 : z - o = k := by omega
  have h4 : c.cap ≠ o := by omega
  simp [hN, e1, h1, h2, h3, h4]
  refine callS ok rfl rfl rfl [1002] [c.row] (by simp) rfl (fun _ : Sl => [(1002, c.row)]) (fun w I S hI hG hO hS' => cloneL0 w I S hI c.gb o k (c.cap - o) c.bc c.b h0 ho (by omega) hO hS') (fun r => by simp) (.inr fun x q hq => by simp at hq; subst hq; simp) fun x W hx => ?_
  simp [hN]
  exact retS hC x [1000, 1001, 1002, 1003] rfl (by simp [Cp.map, mapR]) fun W _ hG => hG
theorem halfSz_pos {c : Cp} (hf : c.fit) : 0 < halfSz c := by
  obtain ⟨q0, ⟨q1, q2⟩, ⟨q3, q4⟩, _⟩ := id hf.right
  have h1 : 1 ≤ halfN c := by unfold halfN; omega
  exact Nat.mul_pos h1 (by omega)
/-- A half's bytes. -/
def halfB (c : Cp) (h : Nat) : List Int := (c.b.drop (h * halfSz c)).take (halfSz c)
theorem halfB_length {c : Cp} (hf : c.fit) {h : Nat} (hh : h < 2) : (halfB c h).length = halfSz c := by
  have := half_fits hf hh
  rw [halfB, List.length_take, List.length_drop]
  omega
theorem halfRead0 (w : World) (I S : Nat → Prop) (hI : ∀ b, I b → b < w.heap.size) (c : Cp) (h : Nat) (hh : h < 2) (hf : c.fit) (hS : Owns c.res S w) (hSI : ∀ b, S b → b < w.heap.size ∧ ¬ I b) :
    FnS Tryz.prog 73 #[ptrV c.gc, .int .i64 (h : Nat)] w I S (fun x : Sl => .tuple #[.slice x.1 (halfSz c) x.2, .int .i64 0]) (fun _ => c.res) (fun x W => Sl.ok dByte W x (halfB c h)) := by
  obtain ⟨hl2, hsz, hz⟩ := half_two hf
  have hpos := halfSz_pos hf
  have hfits := half_fits hf hh
  refine enterS (svs := [.c (.v (ptrV c.gc)), .c (.v (.int .i64 (h : Nat)))]) tysOk Tryz.func73 rfl Tryz.ntmps73 Tryz.results73 (by kernel_rfl) (by simp) hI c.res hS hSI (fun _ => True) (fun _ _ => trivial) fun C hC hN ok => ?_
  simp [hN]
  refine call0 ok rfl rfl rfl (fun w I hI hG => halfAsk0 w I hI c.gc h hh) fun _ W _ => ?_
  simp [hN]
  refine callS ok rfl rfl rfl [1000] [c.chip] (by simp) rfl (fun _ : Unit => [(1000, c.chip)]) (fun w I S hI hG hO hS' => norGeo0 w I S hI c hO hS') (fun r => by simp) (.inr fun x q hq => by simp at hq; subst hq; simp) fun _ W _ => ?_
  simp [hN]
  refine call0 ok rfl rfl rfl (fun w I hI hG => halfSize0 w I hI c.g) fun z W hz' => ?_
  rw [if_pos hf.right, hsz] at hz'
  subst hz'
  obtain ⟨m, hmm⟩ : ∃ m, m = h * halfSz c := ⟨_, rfl⟩
  have hmul : h * halfSz c ≤ 1 * halfSz c := Nat.mul_le_mul_right _ (by omega)
  have e2 : IntKind.i64.wrap ((h : Int) * (halfSz c : Nat)) = (m : Nat) := by rw [← Int.natCast_mul, ← hmm, w64 (by omega) (by omega)]
  simp [hN, e2]
  refine callS ok rfl rfl rfl [1000, 1001, 1002, 1003] c.res (by simp [Cp.map, mapR]) rfl (fun _ : Sl => [(1000, c.chip), (1001, c.pow), (1002, c.row), (1003, c.map)]) (fun w I S hI hG hO hS' => norRead0 w I S hI c m (halfSz c) hf hpos (by omega) hO hS') (fun r => by simp [Cp.map, mapR]) (.inr fun x q hq => by simp at hq; rcases hq with rfl | rfl | rfl | rfl <;> simp) fun x W hx => ?_
  simp [hN]
  exact retS hC x [1000, 1001, 1002, 1003] rfl (by simp [Cp.map, mapR]) fun W _ hG => by rw [halfB, ← hmm]; exact hG.1
/-- slices.Clone of bytes that nobody changes. -/
theorem cloneB0 (w : World) (I : Nat → Prop) (hI : ∀ b, I b → b < w.heap.size) {a : Option Addr} {n c : Nat} (xs : List Int) (h : ∀ W, Ext I w W → Sv.ok dByte W (a, n, c) xs) :
    Fn0 Tryz.prog 76 #[.slice a n c] w I Sv.val (fun r W => Sv.ok dByte W r xs) := by
  have h0 := h w (Ext.refl _ _)
  obtain rfl : n = xs.length := h0.1
  cases a with
  | none =>
    have hx : xs = [] := Classical.byContradiction fun hne => by obtain ⟨b, o, e, _⟩ := h0.2.2.2 hne; cases e
    subst hx
    refine enter (svs := [.c (.v (.slice none 0 c))]) tysOk Tryz.func76 rfl Tryz.ntmps76 Tryz.results76 (by kernel_rfl) (by simp) hI (fun _ => True) (fun _ _ => trivial) fun C hC hN ok => ?_
    simp [hN]
    exact ret0 hC (none, 0, 0) rfl fun W _ _ => ⟨rfl, Nat.le_refl _, by simp, rd_nil _ _ _⟩
  | some ad =>
    refine enter (svs := [.c (.v (.slice (some ad) xs.length c))]) tysOk Tryz.func76 rfl Tryz.ntmps76 Tryz.results76 (by kernel_rfl) (by simp) hI (fun W => Sv.ok dByte W (some ad, xs.length, c) xs) h fun C hC hN ok => ?_
    simp [hN]
    intro g
    by_cases hx : xs = []
    · subst hx
      refine app0 ok rfl rfl rfl rfl rfl rfl rfl (Nat.le_refl _) rfl rfl ?_
      simp [hN]
      exact ret0 hC (some ⟨g, 0, none⟩, 0, 0) rfl fun W _ _ => ⟨rfl, Nat.le_refl _, by simp, rd_nil _ _ _⟩
    · have h1 : 0 < xs.length := List.length_pos_iff.2 hx
      obtain ⟨b, o, e⟩ := h0.2.2.2.is_some h1
      cases e
      have h2 := h0.2.2.1
      refine appI ok 5 rfl rfl rfl rfl rfl (by decide) rfl rfl rfl rfl rfl rfl h1 (by simp; omega) (by omega) (fun l W => Rows dByte W xs l) (fun W hW => ?_) fun l g' c' W hq _ => ?_
      · obtain ⟨l, k1, k2, k3⟩ := hW.2.2.2.all_rows
        exact ⟨l, k1.1, k2, k3, k1⟩
      · simp [hN]
        refine ret0 hC (some ⟨g', 0, none⟩, xs.length, c') (by simp) fun W hp hG => ?_
        simp at hp hG
        obtain ⟨k1, k2, k3⟩ := hG.1.rd hp (by decide)
        exact ⟨k1, by simpa using k2, h2, k3⟩
theorem sumOk0 (w : World) (I : Nat → Prop) (hI : ∀ b, I b → b < w.heap.size) {a : Option Addr} {n c : Nat} (l : List Int) (s : Int) (h : ∀ W, Ext I w W → Sv.ok dByte W (a, n, c) l) (hb : ∀ x, x ∈ l → 0 ≤ x ∧ x ≤ 255) :
    Fn0 Tryz.prog 194 #[.slice a n c, .int .u32 s] w I (fun _ : Unit => .bool (decide (sumM l = s))) (fun _ _ => True) := by
  refine enter (svs := [.c (.v (.slice a n c)), .c (.v (.int .u32 s))]) tysOk Tryz.func194 rfl Tryz.ntmps194 Tryz.results194 (by kernel_rfl) (by simp) hI (fun W => Sv.ok dByte W (a, n, c) l) h fun C hC hN ok => ?_
  simp [hN]
  refine call0 ok rfl rfl rfl (fun w I hI hG => sumOf0 w I hI l (fun W e => hG W e) hb) fun z W hz => ?_
  subst hz
  simp [hN]
  exact ret0 hC () rfl fun _ _ _ => trivial
end Go.Proofs.YtbbaoeidobdblaaGreat.Sx

/- frame: next, Scan; bytes.Count of one byte. -/
set_option linter.unusedVariables false
set_option linter.unusedSimpArgs false
namespace Go.Proofs.YtbbaoeidobdblaaGreat.Sx
open Go

attribute [local simp ↓] ifb_true' ifb_false'
attribute [local simp] ifb_true ifb_false ifb_eq sx argsT find ev evOp evs evo evBin evInt evStr evNil evNilA ptrA slcA isNoneA asB evLoad look del cellsB evUn evConv kdec fld evFieldA evField evIdxA evIdx evSlc bndL bndH evLen mmi put resV guardV gvL setO tupV cellsOf ones one upd lits nv exitTo SV.val CV.val TI.agg rdyA allR keepB scan simpO gsp isS subs keepT pickT wr memN pubs Res.fact Region.binds bld rest give delL back Res.eqv vi vb num Sv.val undef
/-- What is in the record at the beginning of bytes, if one that counts stands there. -/
def nextM (b : List Int) : Option (List Int) :=
  if b.length < 2 then none
  else if 65000 < valB (b.take 2) ∨ b.length < (valB (b.take 2)).toNat + 7 then none
  else if sumM (b.take 2 ++ (b.drop 6).take (valB (b.take 2)).toNat) = valB ((b.drop 2).take 4) ∧ b[(valB (b.take 2)).toNat + 6]? = some 0 then some ((b.drop 6).take (valB (b.take 2)).toNat) else none
theorem ctF : ctB Tryz.prog 196 := ⟨_, Tryz.func196, by decide +kernel, rfl, by decide +kernel, by kernel_rfl⟩
theorem bcount0 (w : World) (I : Nat → Prop) (hI : ∀ b, I b → b < w.heap.size) {a : Option Addr} {n c : Nat} (l : List Int) (x : Int) (sa : Option Addr) (sc : Nat) (h : ∀ W, Ext I w W → Sv.ok dByte W (a, n, c) l ∧ Sv.ok dByte W (sa, 1, sc) [x]) (hb : ∀ y, y ∈ l → 0 ≤ y ∧ y ≤ 255) (hx : 0 ≤ x ∧ x ≤ 255) :
    Fn0 Tryz.prog 165 #[.slice a n c, .slice sa 1 sc] w I (fun _ : Unit => .int .i64 (l.count x : Nat)) (fun _ _ => True) := by
  obtain ⟨sb, so, e, _⟩ := byte_get (h w (Ext.refl _ _)).2 (by simp : 0 < [x].length)
  cases e
  refine enter (svs := [.c (.v (.slice a n c)), .c (.v (.slice (some ⟨sb, so, none⟩) 1 sc))]) tysOk Tryz.func165 rfl Tryz.ntmps165 Tryz.results165 (by kernel_rfl) (by simp) hI (fun W => Sv.ok dByte W (a, n, c) l ∧ Sv.ok dByte W (some ⟨sb, so, none⟩, 1, sc) [x]) h fun C hC hN ok => ?_
  simp [hN]
  refine load1 ok rfl rfl rfl rfl (fun v W => v = .int .u8 x) (fun W hW => ?_) ?_
  · obtain ⟨b', o', e, hc⟩ := byte_get hW.2 (by simp : 0 < [x].length)
    cases e
    exact ⟨_, by simpa using hc, by simp⟩
  rintro v W rfl _
  simp [hN]
  refine cntS ok rfl rfl ctF rfl rfl l (fun W hW => hW.1) hb hx ?_
  simp [hN]
  exact ret0 hC () rfl fun _ _ _ => trivial
set_option maxHeartbeats 2000000 in
theorem next0 (w : World) (I : Nat → Prop) (hI : ∀ b, I b → b < w.heap.size) {a : Option Addr} {n c : Nat} (xs : List Int) (h : ∀ W, Ext I w W → Sv.ok dByte W (a, n, c) xs) (hb : ∀ x, x ∈ xs → 0 ≤ x ∧ x ≤ 255) :
    Fn0 Tryz.prog 164 #[.slice a n c] w I (fun y : Sl => .tuple #[.slice y.1 ((nextM xs).getD []).length y.2, .bool (nextM xs).isSome]) (fun y W => y.ok dByte W ((nextM xs).getD [])) := by
  obtain rfl : n = xs.length := (h w (Ext.refl _ _)).1
  have hl := (h w (Ext.refl _ _)).2.2.1
  have hcap : xs.length ≤ c := (h w (Ext.refl _ _)).2.1
  refine enter (svs := [.c (.v (.slice a xs.length c))]) tysOk Tryz.func164 rfl Tryz.ntmps164 Tryz.results164 (by kernel_rfl) (by simp) hI (fun W => Sv.ok dByte W (a, xs.length, c) xs) h fun C hC hN ok => ?_
  simp [hN]
  refine call0 ok rfl rfl rfl (fun w I hI hG => get0 w I hI (a := a) (n := xs.length) (c := c) xs (fun W e => hG W e) hb 0 2 (by omega) (by decide)) fun _ W _ => ?_
  have hM := nextM.eq_1 xs
  have hv := getM_le hb 0 2
  have none_ok : nextM xs = none → ∀ m, RetP C (.tuple #[.slice none 0 0, .bool false]) m := fun hn m => by
    rw [hn] at hC
    exact ret0 hC (none, 0) rfl fun _ _ _ => ⟨Nat.zero_le _, Nat.zero_le _, rd_nil _ _ _⟩
  by_cases h1 : xs.length < 2
  · have hg : getM xs 0 2 = (0, 3) := by rw [getM, if_pos (by omega)]
    rw [if_pos h1] at hM
    simp [hN, hg]
    exact none_ok hM _
  have hg : getM xs 0 2 = (valB (xs.take 2), 0) := by rw [getM, if_neg (by omega)]; rfl
  rw [if_neg h1] at hM
  rw [hg] at hv ⊢
  simp only at hv
  generalize valB (xs.take 2) = v at hM hv ⊢
  obtain ⟨k, rfl⟩ : ∃ k : Nat, v = k := ⟨v.toNat, by omega⟩
  have hk : k < 65536 := by have := hv.2; simp at this; omega
  rw [Int.toNat_natCast] at hM
  have e1 : IntKind.i64.wrap (k : Int) = (k : Nat) := w64 (by omega) (by omega)
  by_cases h2 : 65000 < k
  · rw [if_pos (.inl (by omega))] at hM
    have h2' : (65000 : Int) < (k : Nat) := by omega
    simp [hN, h2, h2']
    exact none_ok hM _
  have h2' : ¬ (65000 : Int) < (k : Nat) := by omega
  simp [hN, h2, h2', e1]
  refine call0 ok rfl rfl rfl (fun w I hI hG => frameSize0 w I hI (k : Nat) (by omega) (by omega)) fun u W hu => ?_
  subst hu
  by_cases h3 : xs.length < k + 7
  · rw [if_pos (.inr h3)] at hM
    have h3' : (xs.length : Int) < (k : Nat) + 7 := by omega
    simp [hN, h3']
    exact none_ok hM _
  rw [if_neg (by omega)] at hM
  have h3' : ¬ (xs.length : Int) < (k : Nat) + 7 := by omega
  simp [hN, h3', e1]
  refine call0 ok rfl rfl rfl (fun w I hI hG => frameSize0 w I hI (k : Nat) (by omega) (by omega)) fun u W hu => ?_
  subst hu
  obtain ⟨z, hz⟩ : ∃ z, z = k + 6 := ⟨_, rfl⟩
  have e2 : IntKind.i64.wrap ((k : Int) + 7 - 1) = (z : Nat) := by rw [w64 (by omega) (by omega)]; omega
  simp [hN, e2]
  refine call0 ok rfl rfl rfl (fun w I hI hG => get0 w I hI (a := a) (n := xs.length) (c := c) xs (fun W e => (hG W e)) hb 2 4 (by omega) (by decide)) fun _ W _ => ?_
  have hg : getM xs 2 4 = (valB ((xs.drop 2).take 4), 0) := by rw [getM, if_neg (by omega)]
  have hv4 := getM_le hb 2 4
  rw [hg] at hv4 ⊢
  simp only at hv4
  generalize valB ((xs.drop 2).take 4) = s at hM hv4 ⊢
  have hz6 : z - 6 = k := by omega
  have hzi : (6 : Int) ≤ (z : Nat) := by omega
  have hzc : z ≤ c := by omega
  have hc2 : (2 : Int) ≤ (c : Nat) := by omega
  simp [hN, hz6, hzi, hzc, hc2]
  intro g
  have hsx : ∀ W, Sv.ok dByte W (a, xs.length, c) xs → Sl.ok dByte W ((if c = 6 then a else addrP a 6), c - 6) ((xs.drop 6).take k) := fun W hW => (sub_ok hW (by omega)).2
  have hsh : ∀ W, Sv.ok dByte W (a, xs.length, c) xs → Sl.ok dByte W (a, c) (xs.take 2) := fun W hW => (Sv.take hW (by omega)).2
  have lx : ((xs.drop 6).take k).length = k := by rw [List.length_take, List.length_drop]; omega
  have lh : (xs.take 2).length = 2 := by rw [List.length_take]; omega
  have bx := byte_sub hb 6 k
  have bh : ∀ x, x ∈ xs.take 2 → 0 ≤ x ∧ x ≤ 255 := fun x hx => hb x (List.mem_of_mem_take hx)
  generalize (if c = 6 then a else addrP a 6) = a' at hsx ⊢
  generalize (xs.drop 6).take k = ys at hsx lx bx hM
  generalize xs.take 2 = hd at hsh lh bh hM
  refine pub 44 rfl (by decide) (call0 ok rfl rfl rfl (fun w I hI hG => concat0 w I hI [hd, ys] (some ⟨g, 0, none⟩, 2) (fun W e => two_ok (hG W e).1 (hsh W (hG W e).2) lh.symm (hsx W (hG W e).2) lx.symm) (by simp; omega) (by simp)) fun y W hy => ?_)
  have w32 : IntKind.u32.wrap s = s := by rw [u32_wrap]; have := hv4.2; simp at this; omega
  simp [hN, w32]
  refine call0 ok rfl rfl rfl (fun w I hI hG => sumOk0 w I hI (a := y.1) (n := hd.length + ys.length) (c := y.2) (hd ++ ys) s (fun W e => ⟨by simp, by simpa using (hG W e).1⟩) (fun z hz => by
    rcases List.mem_append.1 hz with hz | hz
    · exact bh _ hz
    · exact bx _ hz)) fun _ W _ => ?_
  by_cases h5 : sumM (hd ++ ys) = s
  · have hzl : z < xs.length := by omega
    obtain ⟨b, o, e, _⟩ := byte_get (h w (Ext.refl _ _)) hzl
    cases e
    have hget : ∀ W, Sv.ok dByte W (some ⟨b, o, none⟩, xs.length, c) xs → ∃ v, W.cell? ⟨b, o + z, none⟩ = some v ∧ v = .int .u8 xs[z] := fun W hW => by
      obtain ⟨b'', o'', e, hc⟩ := byte_get hW hzl
      cases e
      exact ⟨_, hc, rfl⟩
    have hzx : xs[k + 6]? = some xs[z] := by rw [← hz]; exact List.getElem?_eq_getElem hzl
    rw [hzx] at hM
    simp [hN, h5, hzl]
    refine load1 ok rfl rfl rfl rfl (fun v W => v = .int .u8 xs[z]) (fun W hW => hget W hW.2.2) ?_
    rintro v W rfl _
    simp [hN]
    refine ⟨fun h6 => ?_, fun h6 => ?_⟩
    · rw [if_neg (fun h => h6 (by simpa using h.2))] at hM
      exact none_ok hM _
    · rw [if_pos ⟨h5, by rw [h6]⟩] at hM
      refine call0 ok rfl rfl rfl (fun w I hI hG => cloneB0 w I hI (a := a') (n := k) (c := c - 6) ys (fun W e => ⟨lx.symm, hsx W (hG W e).2.2⟩)) fun y W hy => ?_
      obtain ⟨ya, yn, yc⟩ := y
      obtain rfl : yn = ys.length := hy.1
      rw [hM] at hC
      simp [hN]
      exact ret0 hC (ya, yc) rfl fun W _ hG => hG.1.2
  · rw [if_neg (fun h => h5 h.1)] at hM
    simp [hN, h5]
    exact none_ok hM _
/-- What is in the records from a place on, and where they end. -/
def scanN (b : List Int) : Nat → Nat → List (List Int) × Nat
  | 0, o => ([], o)
  | f + 1, o => match nextM (b.drop o) with | none => ([], o) | some x => (x :: (scanN b f (o + (x.length + 7))).1, (scanN b f (o + (x.length + 7))).2)
def scanM (b : List Int) : List (List Int) × Nat × Bool := ((scanN b b.length 0).1, (scanN b b.length 0).2, decide ((b.drop (scanN b b.length 0).2).count 255 = b.length - (scanN b b.length 0).2))
theorem nextM_le {b x : List Int} (h : nextM b = some x) : x.length + 7 ≤ b.length ∧ x.length ≤ 65000 := by
  unfold nextM at h
  split at h
  · cases h
  · split at h
    · cases h
    · split at h
      · rename_i h1 h2 h3
        cases h
        rw [List.length_take, List.length_drop]
        omega
      · cases h
theorem nextM_byte {b x : List Int} (h : nextM b = some x) (hb : ∀ y, y ∈ b → 0 ≤ y ∧ y ≤ 255) : ∀ y, y ∈ x → 0 ≤ y ∧ y ≤ 255 := by
  unfold nextM at h
  split at h
  · cases h
  · split at h
    · cases h
    · split at h
      · cases h
        exact byte_sub hb 6 _
      · cases h
/-- What comes first, and then the rest. -/
abbrev catS (acc : List (List Int)) (x : List (List Int) × Nat) : List (List Int) × Nat := (acc ++ x.1, x.2)
end Go.Proofs.YtbbaoeidobdblaaGreat.Sx

/- frame.Scan. -/
set_option linter.unusedVariables false
set_option linter.unusedSimpArgs false
namespace Go.Proofs.YtbbaoeidobdblaaGreat.Sx
open Go

attribute [local simp ↓] ifb_true' ifb_false'
attribute [local simp] ifb_true ifb_false ifb_eq sx argsT find ev evOp evs evo evBin evInt evStr evNil evNilA ptrA slcA isNoneA asB evLoad look del cellsB evUn evConv kdec fld evFieldA evField evIdxA evIdx evSlc bndL bndH evLen mmi put resV guardV gvL setO tupV cellsOf ones one upd lits nv exitTo SV.val CV.val TI.agg rdyA allR keepB scan simpO gsp isS subs keepT pickT wr memN pubs Res.fact Region.binds bld rest give delL back Res.eqv vi vb num Sv.val undef
theorem next_nil {b : List Int} {o : Nat} (h : b.length ≤ o) : nextM (b.drop o) = none := by
  unfold nextM
  rw [if_pos (by rw [List.length_drop]; omega)]
theorem scan_fuel (b : List Int) : ∀ (f g o : Nat), b.length - o ≤ f → b.length - o ≤ g → scanN b f o = scanN b g o
  | 0, 0, o, _, _ => rfl
  | 0, g + 1, o, hf, hg => by rw [scanN, scanN, next_nil (by omega)]
  | f + 1, 0, o, hf, hg => by rw [scanN, scanN, next_nil (by omega)]
  | f + 1, g + 1, o, hf, hg => by
    rw [scanN, scanN]
    cases h : nextM (b.drop o) with
    | none => rfl
    | some x =>
      have h1 := (nextM_le h).1
      rw [List.length_drop] at h1
      simp only
      rw [scan_fuel b f g (o + (x.length + 7)) (by omega) (by omega)]
theorem scan_step {b : List Int} {o : Nat} {x : List Int} (h : nextM (b.drop o) = some x) : scanN b (b.length - o) o = (x :: (scanN b (b.length - (o + (x.length + 7))) (o + (x.length + 7))).1, (scanN b (b.length - (o + (x.length + 7))) (o + (x.length + 7))).2) := by
  have h1 := (nextM_le h).1
  rw [List.length_drop] at h1
  rw [show b.length - o = (b.length - o - 1) + 1 by omega, scanN, h]
  simp only
  rw [scan_fuel b (b.length - o - 1) (b.length - (o + (x.length + 7))) _ (by omega) (Nat.le_refl _)]
theorem scan_stop {b : List Int} {o : Nat} (h : nextM (b.drop o) = none) : scanN b (b.length - o) o = ([], o) := by
  cases hf : b.length - o with
  | zero => rfl
  | succ f => rw [scanN, h]
set_option maxRecDepth 10000 in
set_option maxHeartbeats 1000000 in
theorem scan0 (w : World) (I : Nat → Prop) (hI : ∀ b, I b → b < w.heap.size) {a : Option Addr} {n c : Nat} (xs : List Int) (hx10 : xs.length ≤ 10000000000) (h : ∀ W, Ext I w W → Sv.ok dByte W (a, n, c) xs) (hb : ∀ x, x ∈ xs → 0 ≤ x ∧ x ≤ 255) :
    Fn0 Tryz.prog 119 #[.slice a n c] w I (fun y : Sl => .tuple #[.slice y.1 (scanM xs).1.length y.2, .int .i64 ((scanM xs).2.1 : Nat), .bool (scanM xs).2.2]) (fun y W => y.ok dBs W (scanM xs).1) := by
  obtain rfl : n = xs.length := (h w (Ext.refl _ _)).1
  have hl := (h w (Ext.refl _ _)).2.2.1
  have hcap : xs.length ≤ c := (h w (Ext.refl _ _)).2.1
  refine enter (svs := [.c (.v (.slice a xs.length c))]) tysOk Tryz.func119 rfl Tryz.ntmps119 Tryz.results119 (by kernel_rfl) (by simp) hI (fun W => Sv.ok dByte W (a, xs.length, c) xs) h fun C hC hN ok => ?_
  have hsub : ∀ o, o ≤ xs.length → ∀ W, Sv.ok dByte W (a, xs.length, c) xs → Sv.ok dByte W ((if c = o then a else addrP a o), xs.length - o, c - o) (xs.drop o) := fun o ho W hW => by
    have := Sv.drop hW ho
    simpa [dByte, flat] using this
  simp [hN]
  refine nilr 600 57 1 (loopK [0] ok (fun y : Nat × List (List Int) × Sl × List CV => [(6, .c (.v (.int .i64 (y.1 : Nat)))), (5, .c (.rw 600 y.2.2.1.1 y.2.1.length y.2.2.1.2))]) (fun y => [(600, .row y.2.2.1.1 y.2.1.length y.2.2.1.2 57 1 y.2.2.2)]) (fun y W => y.1 ≤ xs.length ∧ y.2.1.length ≤ y.1 ∧ Rows dBs W y.2.1 (y.2.2.2.map CV.val) ∧ scanN xs xs.length 0 = catS y.2.1 (scanN xs (xs.length - y.1) y.1)) (fun y => xs.length - y.1) (0, [], (none, 0), []) ?_ ?_ (fun W hW => ⟨Nat.zero_le _, Nat.le_refl _, rows_nil _ _, by rw [Nat.sub_zero]; rfl⟩) ?_)
  · simp
  · simp
  rintro ⟨o, acc, ⟨ra, rc⟩, cs⟩ W ⟨ho, hacc, hrow, hspec⟩ hG next
  simp only at ho hacc hrow hspec
  have hoc : o ≤ c := by omega
  have hso := hsub o ho
  have hso0 := hsub o ho
  simp [hN, ho, hoc, hcap]
  generalize (if c = o then a else addrP a o) = a' at hso ⊢
  have hby : ∀ y, y ∈ xs.drop o → 0 ≤ y ∧ y ≤ 255 := fun y hy => hb y (List.mem_of_mem_drop hy)
  refine call0 ok rfl rfl rfl (fun w I hI hG => next0 w I hI (a := a') (n := xs.length - o) (c := c - o) (xs.drop o) (fun W e => hso W (hG W e).2) hby) fun y W hy => ?_
  cases hnx : nextM (xs.drop o) with
  | none =>
    rw [scan_stop hnx] at hspec
    have hM : scanM xs = (acc, o, decide ((xs.drop o).count 255 = xs.length - o)) := by
      unfold scanM
      rw [hspec]
      simp [catS]
    rw [hM] at hC
    have e1 : IntKind.i64.wrap ((xs.length : Int) - (o : Nat)) = xs.length - (o : Nat) := w64 (by omega) (by omega)
    simp [hN, ho, hoc, hcap]
    intro g32
    refine pub 32 rfl (by decide) (call0 ok rfl rfl rfl (fun w I hI hG => bcount0 w I hI (n := xs.length - o) (c := c - o) (xs.drop o) 255 (some ⟨g32, 0, none⟩) 1 (fun W e => ⟨hso0 W (hG W e).2.2.2, ⟨rfl, (byte_ok (xs := [255]) (hG W e).1 (by simp)).2⟩⟩) hby (by decide)) fun _ W _ => ?_)
    simp [hN, e1]
    refine ret0 hC (ra, rc) ?_ fun W hp hG => ?_
    · have : (((xs.drop o).count 255 : Int) = xs.length - (o : Nat)) ↔ (xs.drop o).count 255 = xs.length - o := by omega
      simp [this]
    · exact (Rows.sv hG.2.2.1.2.1 (by decide) (by omega) hp.1).2
  | some x =>
    have hle := nextM_le hnx
    rw [List.length_drop] at hle
    rw [scan_step hnx] at hspec
    simp [hN]
    intro g20
    refine appR ok 600 20 rfl rfl rfl rfl rfl (by decide) rfl rfl rfl rfl rfl rfl rfl (by decide) (by simp) (by show (_ + 1) * 24 ≤ _; omega) (by omega) fun g' c' => ?_
    simp [hN]
    refine call0 ok rfl rfl rfl (fun w I hI hG => frameSize0 w I hI (x.length : Nat) (by omega) (by omega)) fun u W hu => ?_
    subst hu
    obtain ⟨z, hz⟩ : ∃ z, z = o + (x.length + 7) := ⟨_, rfl⟩
    have e2 : IntKind.i64.wrap ((o : Int) + ((x.length : Int) + 7)) = (z : Nat) := by rw [w64 (by omega) (by omega)]; omega
    simp [hN, e2]
    refine next (z, acc ++ [x], (some ⟨g', 0, none⟩, c'), cs ++ [.v (.slice y.1 x.length y.2)]) _ _ (by simp only; omega) (fun W hW => ⟨⟨by simp only; omega, by simp only [List.length_append, List.length_singleton]; omega, ?_, ?_⟩, hW.2.2⟩) (by simp)
    · rw [List.map_append]
      exact hW.2.1.2.1.snoc ⟨y, rfl, by have := hW.1; simpa using this⟩
    · rw [hz, hspec]
      simp [catS]
end Go.Proofs.YtbbaoeidobdblaaGreat.Sx

/- journal.read. -/
set_option linter.unusedVariables false
set_option linter.unusedSimpArgs false
namespace Go.Proofs.YtbbaoeidobdblaaGreat.Sx
open Go

attribute [local simp ↓] ifb_true' ifb_false'
attribute [local simp] ifb_true ifb_false ifb_eq sx argsT find ev evOp evs evo evBin evInt evStr evNil evNilA ptrA slcA isNoneA asB evLoad look del cellsB evUn evConv kdec fld evFieldA evField evIdxA evIdx evSlc bndL bndH evLen mmi put resV guardV gvL setO tupV cellsOf ones one upd lits nv exitTo SV.val CV.val TI.agg rdyA allR keepB scan simpO gsp isS subs keepT pickT wr memN pubs Res.fact Region.binds bld rest give delL back Res.eqv vi vb num Sv.val undef
def staZ : Sta := ⟨0, [], []⟩
/-- What records lead to: the state, and how many bytes that took. -/
noncomputable def goP : Sta → Nat → List (List Int × Nat) → Sta × Nat
  | s, u, [] => (s, u)
  | s, u, (y, k) :: r => if (parseM y).2 ≠ 0 then (s, u) else goP (applyL s (parseM y).1) (u + (k + 7)) r
def totP : List (List Int × Nat) → Nat
  | [] => 0
  | (y, k) :: r => k + 7 + totP r
/-- The records, the first one without its epoch. -/
def recL (l : List (List Int)) : List (List Int × Nat) := match l with | [] => [] | x :: r => (x.drop 8, x.length) :: r.map fun y => (y, y.length)
/-- What a half tells: its epoch (0: it does not count), the state, how many bytes that took, and whether more stands behind. -/
structure Fnd where
  ep : Int
  used : Nat
  s : Sta
  more : Bool
def fndZ : Fnd := ⟨0, 0, staZ, false⟩
def epOf (x : List Int) : Int := IntKind.i64.wrap (getM x 0 8).1
noncomputable def readM (b : List Int) : Fnd :=
  match (scanM b).1 with
  | [] => fndZ
  | x :: r =>
    if (getM x 0 8).2 ≠ 0 ∨ epOf x ≤ 0 ∨ 2147483647 < epOf x then fndZ
    else if (parseM (x.drop 8)).2 ≠ 0 then fndZ
    else ⟨epOf x, (goP staZ 0 (recL (x :: r))).2, (goP staZ 0 (recL (x :: r))).1, !(scanM b).2.2 || decide ((goP staZ 0 (recL (x :: r))).2 < (scanM b).2.1)⟩
theorem parseN_len (l : List Int) : ∀ (f o : Nat), (parseN l f o).1.length ≤ l.length - o
  | 0, o => Nat.zero_le _
  | f + 1, o => by
    rw [parseN]
    split
    · exact Nat.zero_le _
    · split
      · exact Nat.zero_le _
      · split
        · exact Nat.zero_le _
        · rename_i h1 h2 h3
          have h4 := deeR_le (l := l) (o := o) (by simpa using h2)
          have ih := parseN_len l f (deeR l o).2.1
          simp only [List.length_cons]
          omega
theorem parse_len (l : List Int) : (parseM l).1.length ≤ l.length := parseN_len l _ 0
theorem scanN_tot (b : List Int) : ∀ (f o : Nat), o ≤ b.length → (scanN b f o).2 ≤ b.length ∧ o + totP ((scanN b f o).1.map fun y => (y, y.length)) = (scanN b f o).2 ∧ ∀ x, x ∈ (scanN b f o).1 → x.length ≤ 65000 ∧ ((∀ y, y ∈ b → 0 ≤ y ∧ y ≤ 255) → ∀ y, y ∈ x → 0 ≤ y ∧ y ≤ 255)
  | 0, o, h => ⟨h, rfl, fun x hx => by cases hx⟩
  | f + 1, o, h => by
    rw [scanN]
    cases hn : nextM (b.drop o) with
    | none => exact ⟨h, rfl, fun x hx => by cases hx⟩
    | some x =>
      have h1 := nextM_le hn
      rw [List.length_drop] at h1
      obtain ⟨i1, i2, i3⟩ := scanN_tot b f (o + (x.length + 7)) (by omega)
      refine ⟨i1, ?_, fun z hz => ?_⟩
      · simp only [List.map_cons, totP]
        omega
      · rcases List.mem_cons.1 hz with rfl | hz
        · exact ⟨h1.2, fun hb => nextM_byte hn fun y hy => hb y (List.mem_of_mem_drop hy)⟩
        · exact i3 z hz
theorem recL_tot (l : List (List Int)) : totP (recL l) = totP (l.map fun y => (y, y.length)) := by cases l <;> rfl
theorem recL_length (l : List (List Int)) : (recL l).length = l.length := by cases l <;> simp [recL]
theorem recL_get {l : List (List Int)} {i : Nat} (h : i < l.length) : (recL l)[i]? = some (if i = 0 then l[i].drop 8 else l[i], l[i].length) := by
  cases l with
  | nil => exact absurd h (Nat.not_lt_zero _)
  | cons x r =>
    cases i with
    | zero => rfl
    | succ i =>
      have h2 : i < r.length := by simpa using h
      simp [recL, h2]
abbrev fndC (ep : Int) (u : Nat) (s : Sta) (si sb : Sl) (m : Bool) : List Value := [.int .i64 ep, .int .i64 (u : Nat), .int .i64 s.next, .slice si.1 s.inos.length si.2, .slice sb.1 s.bad.length sb.2, .bool m]
set_option maxRecDepth 10000 in
set_option maxHeartbeats 2000000 in
theorem read0 (w : World) (I : Nat → Prop) (hI : ∀ b, I b → b < w.heap.size) {a : Option Addr} {n c : Nat} (xs : List Int) (hx10 : xs.length ≤ 100000000) (h : ∀ W, Ext I w W → Sv.ok dByte W (a, n, c) xs) (hb : ∀ x, x ∈ xs → 0 ≤ x ∧ x ≤ 255) :
    Fn0 Tryz.prog 74 #[.slice a n c] w I (fun y : Sl × Sl => .agg (fndC (readM xs).ep (readM xs).used (readM xs).s y.1 y.2 (readM xs).more).toArray) (fun y W => StaR W (readM xs).s y.1 y.2) := by
  refine enter (svs := [.c (.v (.slice a n c))]) tysOk Tryz.func74 rfl Tryz.ntmps74 Tryz.results74 (by kernel_rfl) (by simp) hI (fun W => Sv.ok dByte W (a, n, c) xs) h fun C hC hN ok => ?_
  simp [hN]
  intro g2
  refine call0 ok rfl rfl rfl (fun w I hI hG => scan0 w I hI (a := a) (n := n) (c := c) xs (by omega) (fun W e => (hG W e)) hb) fun y W hy => ?_
  have hM := readM.eq_1 xs
  have hT := scanN_tot xs xs.length 0 (Nat.zero_le _)
  have hT' : (scanM xs).2.1 ≤ xs.length ∧ totP ((scanM xs).1.map fun y => (y, y.length)) = (scanM xs).2.1 ∧ ∀ x, x ∈ (scanM xs).1 → x.length ≤ 65000 ∧ ((∀ y, y ∈ xs → 0 ≤ y ∧ y ≤ 255) → ∀ y, y ∈ x → 0 ≤ y ∧ y ≤ 255) := ⟨hT.1, by have := hT.2.1; rw [Nat.zero_add] at this; exact this, hT.2.2⟩
  clear hT
  generalize scanM xs = S at hM hT' hy ⊢
  obtain ⟨L, at_, cl⟩ := S
  simp only at hM hT' hy ⊢
  obtain ⟨t1, t2, t3⟩ := hT'
  have zero_ok : ∀ m, readM xs = fndZ → RetP C (.agg (fndC 0 0 staZ (none, 0) (none, 0) false).toArray) m := fun m hz => by
    rw [hz] at hC
    exact ret0 hC ((none, 0), (none, 0)) rfl fun W _ _ => ⟨⟨Nat.zero_le _, Nat.zero_le _, rd_nil _ _ _⟩, ⟨Nat.zero_le _, Nat.zero_le _, rd_nil _ _ _⟩⟩
  have hld : ∀ (i : Nat) (hlt : i < L.length) (W : World), Sl.ok dBs W y L → ∃ b off, y.1 = some ⟨b, off, none⟩ ∧ ∃ v, W.cell? ⟨b, off + i, none⟩ = some v ∧ slQ dByte L[i] v W := fun i hlt W hW => by
    obtain ⟨b, off, e⟩ := hW.2.2.is_some (show 0 < L.length by omega)
    obtain ⟨ya, yc⟩ := y
    cases e
    obtain ⟨cs, ⟨s, rfl, hs⟩, _, hc⟩ := hW.2.2.get hlt
    exact ⟨b, off, rfl, _, by simpa [dBs] using hc 0 _ rfl, s, rfl, hs⟩
  obtain ⟨ya, yc⟩ := y
  rcases Nat.eq_zero_or_pos L.length with h0 | hpos
  · have : L = [] := List.length_eq_zero_iff.1 h0
    subst this
    simp only at hM
    simp [hN]
    exact zero_ok _ hM
  obtain ⟨b, off, e, _⟩ := hld 0 hpos W hy
  cases e
  have hld' : ∀ (i : Nat) (hlt : i < L.length) (W : World), Sl.ok dBs W (some ⟨b, off, none⟩, yc) L → ∃ v, W.cell? ⟨b, off + i, none⟩ = some v ∧ slQ dByte L[i] v W := fun i hlt W hW => by
    obtain ⟨b', off', e, hv⟩ := hld i hlt W hW
    cases e
    exact hv
  have hne : ¬ (L.length : Int) = 0 := by omega
  have hne' : ¬ L = [] := fun h => by rw [h] at hpos; cases hpos
  obtain ⟨x0, r, hL⟩ : ∃ x r, L = x :: r := by
    cases L with
    | nil => exact absurd rfl hne'
    | cons x r => exact ⟨x, r, rfl⟩
  have h00 : L[0] = x0 := by simp [hL]
  have hx0 := t3 x0 (by rw [hL]; exact List.mem_cons_self)
  rw [hL] at hM
  simp only at hM
  rw [← hL] at hM
  simp [hN, hne, hne', hpos]
  refine load1 ok rfl rfl rfl rfl (slQ dByte x0) (fun W hW => by have := hld' 0 hpos W hW.1; rw [h00] at this; simpa using this) ?_
  rintro v W ⟨sv, rfl, hsv⟩ _
  simp [hN]
  refine call0 ok rfl rfl rfl (fun w I hI hG => getInt0 w I hI (a := sv.1) (n := x0.length) (c := sv.2) x0 (fun W e => ⟨rfl, (hG W e).1.get.2⟩) (hx0.2 hb) 0 (by omega)) fun _ W _ => ?_
  rw [show IntKind.i64.wrap (getM x0 0 8).1 = epOf x0 from rfl]
  have hlen8 : (getM x0 0 8).2 = 0 → 8 ≤ x0.length := fun h => by
    unfold getM at h
    split at h
    · cases h
    · omega
  generalize epOf x0 = ep at hM ⊢
  generalize (getM x0 0 8).2 = ee at hM hlen8 ⊢
  by_cases hbad : ee ≠ 0 ∨ ep ≤ 0 ∨ 2147483647 < ep
  · rw [if_pos hbad] at hM
    by_cases c1 : ee = 0
    · by_cases c2 : ep ≤ 0
      · simp [hN, c1, c2]
        exact zero_ok _ hM
      · have c3 : 2147483647 < ep := by
          rcases hbad with h | h | h
          · exact absurd c1 h
          · exact absurd h c2
          · exact h
        simp [hN, c1, c2, c3]
        exact zero_ok _ hM
    · simp [hN, c1]
      exact zero_ok _ hM
  rw [if_neg hbad] at hM
  have c1 : ee = 0 := Classical.byContradiction fun h => hbad (.inl h)
  have c2 : ¬ ep ≤ 0 := fun h => hbad (.inr (.inl h))
  have c3 : ¬ 2147483647 < ep := fun h => hbad (.inr (.inr h))
  subst c1
  replace hlen8 := hlen8 rfl
  simp [hN, c2, c3]
  intro g8
  have hrl := recL_length L
  have hLb : L.length ≤ 100000000000 := hy.2.1
  refine loopK [2, 4, 5, 8, 44, 45] ok (fun y : Nat × Sta × Nat × Sl × Sl => [(46, .c (.v (.int .i64 (y.1 : Nat))))]) (fun y => [(2, .box g2 124 [.v (.int .i64 0), .v (.int .i64 0), .v (.int .i64 0), .v (.slice none 0 0), .v (.slice none 0 0), .v (.bool false)]), (8, .box g8 124 [.v (.int .i64 ep), .v (.int .i64 (y.2.2.1 : Nat)), .v (.int .i64 y.2.1.next), .v (.slice y.2.2.2.1.1 y.2.1.inos.length y.2.2.2.1.2), .v (.slice y.2.2.2.2.1 y.2.1.bad.length y.2.2.2.2.2), .v (.bool false)])]) (fun y W => y.1 ≤ L.length ∧ StaR W y.2.1 y.2.2.2.1 y.2.2.2.2 ∧ y.2.1.inos.length ≤ y.2.2.1 ∧ y.2.1.bad.length ≤ y.2.2.1 ∧ y.2.2.1 + totP ((recL L).drop y.1) = at_ ∧ (y.1 = 0 → y.2.1 = staZ ∧ y.2.2.1 = 0) ∧ (0 < y.1 → (parseM (x0.drop 8)).2 = 0) ∧ goP staZ 0 (recL L) = goP y.2.1 y.2.2.1 ((recL L).drop y.1)) (fun y => L.length - y.1) (0, staZ, 0, (none, 0), (none, 0)) ?_ ?_ (fun W hW => ⟨Nat.zero_le _, ⟨⟨Nat.zero_le _, Nat.zero_le _, rd_nil _ _ _⟩, ⟨Nat.zero_le _, Nat.zero_le _, rd_nil _ _ _⟩⟩, Nat.le_refl _, Nat.le_refl _, by rw [List.drop_zero, recL_tot, t2]; exact Nat.zero_add _, fun _ => ⟨rfl, rfl⟩, fun h => absurd h (Nat.lt_irrefl _), by rw [List.drop_zero]⟩) ?_
  · simp
  · simp [staZ]
  rintro ⟨i, s, u, si, sb⟩ W ⟨hi, hS, hu1, hu2, hut, hi0, hi1, hgo⟩ hG next
  simp only at hi hS hu1 hu2 hut hi0 hi1 hgo
  have fin_ok : ∀ m : Mem, goP staZ 0 (recL L) = (s, u) → (parseM (x0.drop 8)).2 = 0 → (∀ W, m.G W → StaR W s si sb) → RetP C (.agg (fndC ep u s si sb (!cl || decide (u < at_))).toArray) m := fun m hg hp hs => by
    rw [if_neg (by simp [hp]), hg] at hM
    rw [hM] at hC
    exact ret0 hC (si, sb) rfl fun W _ hG => hs W hG
  rcases Nat.lt_or_ge i L.length with hlt | hge
  · have hD : (recL L).drop i = (if i = 0 then L[i].drop 8 else L[i], L[i].length) :: (recL L).drop (i + 1) := by
      have h1 := recL_get hlt
      have h2 : i < (recL L).length := by rw [hrl]; exact hlt
      rw [List.drop_eq_getElem_cons h2]
      rw [List.getElem?_eq_getElem h2] at h1
      rw [Option.some.inj h1]
    have hz := t3 _ (List.getElem_mem hlt)
    have hz0 : i = 0 → L[i] = x0 := fun h => by subst h; exact h00
    have hldi := hld' i hlt
    simp [hN, hlt]
    refine load1 ok rfl rfl rfl rfl (slQ dByte L[i]) (fun W hW => hldi W hW.2.2.1) ?_
    generalize L[i] = z at hD hz hz0 hldi
    rintro v W ⟨sz, rfl, hsz⟩ _
    obtain ⟨y, hy'⟩ : ∃ y, y = (if i = 0 then z.drop 8 else z) := ⟨_, rfl⟩
    rw [← hy'] at hD
    have hyl : y.length ≤ z.length := by rw [hy']; split <;> simp
    have hyb : ∀ x, x ∈ y → 0 ≤ x ∧ x ≤ 255 := fun x hx => by
      rw [hy'] at hx
      split at hx
      · exact hz.2 hb x (List.mem_of_mem_drop hx)
      · exact hz.2 hb x hx
    rw [hD] at hut hgo
    have e6 : IntKind.i64.wrap ((i : Int) + 1) = (i + 1 : Nat) := by rw [w64 (by omega) (by omega)]; omega
    refine cutKb ok (p := ?pos) (fun q : Sl => [(57, .c (.v (.slice q.1 y.length q.2))), (10, .c (.v (.slice sz.1 z.length sz.2))), (9, .c (.v (.int .i64 (i : Nat)))), (46, .c (.v (.int .i64 (i : Nat)))), (45, .c (.v (.int .i64 (L.length : Nat)))), (44, .c (.v (.slice (some ⟨b, off, none⟩) L.length yc))), (8, .c (.bp 8 g8 0)), (5, .c (.v (.bool cl))), (4, .c (.v (.int .i64 (at_ : Nat)))), (2, .c (.bp 2 g2 0))]) (fun q W => StaR W s si sb ∧ Sl.ok dByte W q y ∧ (slQ dByte x0 (.slice sv.1 x0.length sv.2) W ∧ Sl.ok dBs W (some ⟨b, off, none⟩, yc) L ∧ Sv.ok dByte W (a, n, c) xs)) [(2, .box g2 124 [.v (.int .i64 0), .v (.int .i64 0), .v (.int .i64 0), .v (.slice none 0 0), .v (.slice none 0 0), .v (.bool false)]), (8, .box g8 124 [.v (.int .i64 ep), .v (.int .i64 (u : Nat)), .v (.int .i64 s.next), .v (.slice si.1 s.inos.length si.2), .v (.slice sb.1 s.bad.length sb.2), .v (.bool false)])] ?rest fun R => ?main
    case main =>
      by_cases h0 : i = 0
      · subst h0
        have hz8 : 8 ≤ z.length := by rw [hz0 rfl]; exact hlen8
        rw [if_pos rfl] at hy'
        have hyl2 : z.length - 8 = y.length := by rw [hy', List.length_drop]
        have hzc : z.length ≤ sz.2 := hsz.1
        have hc8 : (8 : Int) ≤ (z.length : Nat) := by omega
        simp [hN, hc8, hyl2, hzc]
        refine R (if sz.2 = 8 then sz.1 else addrP sz.1 8, sz.2 - 8) _ _ ?_ ?_
        · intro W hW
          refine ⟨hW.2.1.1, ?_, hW.2.2⟩
          have h1 : Sv.ok dByte W (sz.1, z.length, sz.2) z := ⟨rfl, hW.1.get.2⟩
          have h2 := (Sv.drop h1 hz8).2
          rw [← hy'] at h2
          simpa [dByte, flat] using h2
        · simp
      · rw [if_neg h0] at hy'
        subst hy'
        simp [hN, h0]
        refine R sz _ _ ?_ ?_
        · exact fun W hW => ⟨hW.2.1.2.1, hW.1.get.2, hW.2.2⟩
        · simp
    case rest =>
      rintro ⟨qa, qc⟩
      simp [hN]
      have hpl := parse_len y
      refine call0 ok rfl rfl rfl (fun w I hI hG => parse0 w I hI (a := qa) (n := y.length) (c := qc) y (by omega) (fun W e => ⟨rfl, (hG W e).2.1⟩) hyb) fun sd W hsd => ?_
      by_cases he : (parseM y).2 = 0
      · have hpe : (parseM (x0.drop 8)).2 = 0 := by
          by_cases h0 : i = 0
          · rw [if_pos h0, hz0 h0] at hy'
            rw [← hy']
            exact he
          · exact hi1 (by omega)
        have hal := applyL_len s (parseM y).1
        rw [goP, if_neg (by simp [he])] at hgo
        generalize parseM y = P at he hgo hpl hal ⊢
        obtain ⟨ds, er⟩ := P
        simp only at he hgo hpl hal
        subst he
        simp [hN]
        refine call0 ok rfl rfl rfl (fun w I hI hG => apply0 w I hI s si sb (a := sd.1) (n := ds.length) (c := sd.2) ds (fun W e => (hG W e).2.1) (fun W e => ⟨rfl, (hG W e).1⟩) (by simp only [totP] at hut; omega)) fun q W hq => ?_
        simp [hN]
        simp only [totP] at hut
        obtain ⟨u2, hu2'⟩ : ∃ u2, u2 = u + (z.length + 7) := ⟨_, rfl⟩
        have e8 : IntKind.i64.wrap ((u : Int) + ((z.length : Int) + 7)) = (u2 : Nat) := by rw [w64 (by omega) (by omega)]; omega
        refine drawW ok mixed (by kernel_rfl) ?_
        simp (maxSteps := 2000000) -implicitDefEqProofs [hN]
        and_intros
        all_goals
          refine call0 ok rfl rfl rfl (fun w I hI hG => frameSize0 w I hI (z.length : Nat) (by omega) (by omega)) fun v W hv => ?_
          subst hv
          simp (maxSteps := 2000000) -implicitDefEqProofs [hN, e6, e8]
          refine next (i + 1, applyL s ds, u2, q.1, q.2) _ _ (by simp only; omega) (fun W hW => ⟨⟨hlt, hW.1, by simp only; omega, by simp only; omega, by simp only; omega, (fun h => absurd h (Nat.succ_ne_zero _)), (fun _ => hpe), by rw [hgo, hu2']⟩, hW.2.2.2.2⟩) ?_
          simp
      · have hg : goP staZ 0 (recL L) = (s, u) := by rw [hgo, goP, if_pos he]
        have hF := fun hp m hm => fin_ok m hg hp hm
        by_cases h0 : i = 0
        · rw [if_pos h0, hz0 h0] at hy'
          rw [← hy', if_pos he] at hM
          subst h0
          simp [hN, he]
          exact zero_ok _ hM
        · have hp := hi1 (by omega)
          cases cl
          all_goals
            simp [hN, he, h0]
            refine hF hp _ ?_
            exact fun W hW => hW.2.1
  · obtain rfl : i = L.length := by omega
    have hg : goP staZ 0 (recL L) = (s, u) := by rw [hgo, List.drop_eq_nil_of_le (by rw [hrl]; exact Nat.le_refl _)]; rfl
    have hF := fun m hm => fin_ok m hg (hi1 hpos) hm
    cases cl
    all_goals
      simp [hN]
      refine hF _ ?_
      exact fun W hW => hW.1.1
end Go.Proofs.YtbbaoeidobdblaaGreat.Sx

/- Plain: how large states are that are read from bytes. -/
set_option linter.unusedVariables false
set_option linter.unusedSimpArgs false
namespace Go.Proofs.YtbbaoeidobdblaaGreat.Sx
open Go

def sumN (l : List Nat) : Nat := l.foldr (· + ·) 0
@[simp] theorem sumN_nil : sumN [] = 0 := rfl
@[simp] theorem sumN_cons (x : Nat) (l : List Nat) : sumN (x :: l) = x + sumN l := rfl
theorem sumN_app (l k : List Nat) : sumN (l ++ k) = sumN l + sumN k := by
  induction l with
  | nil => simp
  | cons x r ih => simp [ih]; omega
theorem sumN_filter {α : Type} (p : α → Bool) (f : α → Nat) (l : List α) : sumN ((l.filter p).map f) ≤ sumN (l.map f) := by
  induction l with
  | nil => exact Nat.le_refl _
  | cons x r ih =>
    rw [List.filter_cons]
    split <;> simp only [List.map_cons, sumN_cons] <;> omega
theorem fmB_len {α : Type} (f : α → List Int) (l : List α) : (l.flatMap f).length = sumN (l.map fun x => (f x).length) := by
  induction l with
  | nil => rfl
  | cons x r ih => simp [ih]
def wI (x : Ino) : Nat := (deedB ⟨2, 0, x⟩).length
theorem wI_eq (x : Ino) : wI x = 45 + x.target.size + (x.ents.flatMap entB).length + (x.runs.flatMap runB).length := by
  have : tailB ⟨2, 0, x⟩ = inoB x := by unfold tailB; rw [if_neg (by simp), if_pos rfl]
  rw [wI, deedB, List.length_append, lowB_length, this, inoB_length]
  omega
/-- The bytes of a state, less those of its number. -/
def wS (s : Sta) : Nat := sumN (s.inos.map wI) + 9 * s.bad.length
theorem num_len (k n : Int) (i : Ino) (h : k = 1 ∨ k = 3 ∨ k = 4) : (deedB ⟨k, n, i⟩).length = 9 := by
  have : tailB ⟨k, n, i⟩ = intB n := by unfold tailB; rw [if_pos h]
  rw [deedB, List.length_append, lowB_length, this, intB_length]
theorem put_len {d : Dee} (h : d.kind = 2) : (deedB d).length = wI d.ino := by
  have : tailB d = inoB d.ino := by unfold tailB; rw [if_neg (by rw [h]; decide), if_pos h]
  rw [deedB, List.length_append, lowB_length, this, wI_eq, inoB_length]
  omega
theorem deeds_len (l : List Dee) : (deedsB l).length = sumN (l.map fun d => (deedB d).length) := fmB_len deedB l
theorem whole_w (s : Sta) : wholeB s = 9 + wS s := by
  rw [wholeB, deeds_len, wholeL, List.map_append, sumN_app, List.map_cons, sumN_cons, num_len 1 _ _ (.inl rfl), List.map_map, List.map_map, wS]
  have h1 : sumN (s.bad.map ((fun d => (deedB d).length) ∘ fun n => (⟨4, n, inoZ⟩ : Dee))) = 9 * s.bad.length := by
    induction s.bad with
    | nil => rfl
    | cons x r ih =>
      rw [List.map_cons, sumN_cons, ih]
      simp only [Function.comp]
      rw [num_len 4 _ _ (.inr (.inr rfl)), List.length_cons]
      omega
  rw [h1]
  have h2 : s.inos.map ((fun d => (deedB d).length) ∘ fun x => (⟨2, 0, x⟩ : Dee)) = s.inos.map wI := rfl
  rw [h2]
  omega
theorem count_w (s : Sta) : s.inos.length + s.bad.length ≤ wS s := by
  have : ∀ l : List Ino, l.length ≤ sumN (l.map wI) := by
    intro l
    induction l with
    | nil => exact Nat.le_refl _
    | cons x r ih =>
      have := wI_eq x
      simp only [List.length_cons, List.map_cons, sumN_cons]
      omega
  have h := this s.inos
  unfold wS
  omega
theorem putI_w (l : List Ino) (x : Ino) : sumN ((putInoL l x).map wI) ≤ sumN (l.map wI) + wI x := by
  have h1 : ∀ l : List Ino, sumN ((replI l x).map wI) ≤ sumN (l.map wI) + wI x := by
    intro l
    induction l with
    | nil => exact Nat.zero_le _
    | cons y r ih =>
      unfold replI
      split <;> simp only [List.map_cons, sumN_cons] <;> omega
  have h2 : ∀ l : List Ino, sumN ((insI l x).map wI) ≤ sumN (l.map wI) + wI x := by
    intro l
    induction l with
    | nil => simp [insI]
    | cons y r ih =>
      unfold insI
      split <;> simp only [List.map_cons, sumN_cons] <;> omega
  unfold putInoL
  split
  · exact h1 l
  · exact h2 l
theorem applyOne_w (s : Sta) (d : Dee) : wS (applyOne s d) ≤ wS s + (deedB d).length := by
  unfold applyOne
  split
  · exact Nat.le_add_right _ _
  · split
    · rename_i h
      have := putI_w s.inos d.ino
      rw [put_len h]
      simp only [wS]
      omega
    · split
      · have := sumN_filter (fun x : Ino => decide (x.no ≠ d.no)) wI s.inos
        simp only [wS]
        omega
      · split
        · rename_i h
          have := addBadL_len s.bad d.no
          obtain ⟨k, n, i⟩ := d
          simp only at h this ⊢
          rw [num_len _ _ _ (.inr (.inr h))]
          simp only [wS]
          omega
        · exact Nat.le_add_right _ _
theorem applyL_w (s : Sta) (l : List Dee) : wS (applyL s l) ≤ wS s + (deedsB l).length := by
  induction l generalizing s with
  | nil => exact Nat.le_add_right _ _
  | cons d r ih =>
    have h1 := ih (applyOne s d)
    have h2 := applyOne_w s d
    rw [deeds_len] at h1 ⊢
    simp only [applyL, List.foldl_cons, List.map_cons, sumN_cons] at h1 ⊢
    omega
theorem text_w {l : List Int} {r : Rs} (h : (textR l r).2.2 = 0) : r.1 + 4 + (textR l r).1.size ≤ (textR l r).2.1 := by
  have h0 := textR_back h
  unfold textR at h ⊢
  rw [if_neg (by simp [h0])] at h ⊢
  split at h
  · cases h
  · rename_i h3
    rw [if_neg h3]
    split at h
    · cases h
    · rename_i h4
      rw [if_neg h4]
      simp only
      have : (txtOf (List.take (valB ((l.drop r.1).take 4)).toNat (l.drop (r.1 + 4)))).size = (List.take (valB ((l.drop r.1).take 4)).toNat (l.drop (r.1 + 4))).length := by simp [txtOf, ByteArray.size]
      rw [this, List.length_take]
      omega
theorem ent_w {l : List Int} {r : Rs} (h : (entR l r).2.2 = 0) : (entB (entR l r).1).length + r.1 ≤ (entR l r).2.1 := by
  have h1 := intR_le (r := (textR l r).2) h
  have h2 := text_w h1.1
  have h3 : (entR l r).2.1 = (intR l (textR l r).2).2.1 := rfl
  have h4 : (entR l r).1.name = (textR l r).1 := rfl
  rw [entB, List.length_append, textB_length, intB_length, h4]
  omega
theorem rn_w {l : List Int} {r : Rs} (h : (rnR l r).2.2 = 0) : (runB (rnR l r).1).length + r.1 ≤ (rnR l r).2.1 := by
  have h1 := intR_le (r := (intR l (intR l r).2).2) h
  have h2 := intR_le (r := (intR l r).2) h1.1
  have h3 := intR_le h2.1
  have h4 : (rnR l r).2.1 = (intR l (intR l (intR l r).2).2).2.1 := rfl
  rw [runB, List.length_append, List.length_append, intB_length, intB_length, intB_length]
  omega
theorem many_w {α : Type} (f : Rs → α × Rs) (g : α → Nat) (hf : ∀ r, (f r).2.2 = 0 → g (f r).1 + r.1 ≤ (f r).2.1) : ∀ (n : Nat) (r : Rs), (manyR f n r).2.2 = 0 → sumN ((manyR f n r).1.map g) + r.1 ≤ (manyR f n r).2.1
  | 0, r, h => by simp [manyR]
  | n + 1, r, h => by
    have h0 := many_back h
    unfold manyR at h ⊢
    rw [if_neg (by simp [h0])] at h ⊢
    have ih := many_w f g hf n (f r).2 h
    have h1 := hf r (many_back h)
    simp only [List.map_cons, sumN_cons]
    omega
theorem ino_w {l : List Int} {r : Rs} (h : (inoR l r).2.2 = 0) : wI (inoR l r).1 + r.1 ≤ (inoR l r).2.1 + 1 := by
  have hU : (inoU l r).2.2 = 0 := h
  have hM : (inoM l r).2.2 = 0 := many_back hU
  have hE : (inoE l r).2.2 = 0 := getR_back hM
  have hN : (inoN l r).2.2 = 0 := many_back hE
  have hA : (inoA l r).2.2 = 0 := getR_back hN
  have e4 := textR_back hA
  have l4 : (nthR l r 4).1 = r.1 + 32 := by
    have k3 := intR_le (r := nthR l r 3) e4
    have k2 := intR_le (r := nthR l r 2) k3.1
    have k1 := intR_le (r := nthR l r 1) k2.1
    have k0 := intR_le (r := nthR l r 0) k1.1
    have q3 : (nthR l r 4).1 = (nthR l r 3).1 + 8 := k3.2.1
    have q2 : (nthR l r 3).1 = (nthR l r 2).1 + 8 := k2.2.1
    have q1 : (nthR l r 2).1 = (nthR l r 1).1 + 8 := k1.2.1
    have q0 : (nthR l r 1).1 = r.1 + 8 := k0.2.1
    omega
  have lA : _ ≤ (inoA l r).2.1 := text_w hA
  have lN : (inoN l r).2.1 = _ := (getR_le hA hN).1
  have lE : _ ≤ (inoE l r).2.1 := many_w (entR l) (fun e => (entB e).length) (fun r h => ent_w h) _ (inoN l r).2 hE
  have lM : (inoM l r).2.1 = _ := (getR_le hE hM).1
  have lU : _ ≤ (inoU l r).2.1 := many_w (rnR l) (fun e => (runB e).length) (fun r h => rn_w h) _ (inoM l r).2 hU
  have c1 : (inoR l r).1.target = (inoA l r).1 := rfl
  have c2 : (inoR l r).1.ents = (inoE l r).1 := rfl
  have c3 : (inoR l r).1.runs = (inoU l r).1 := rfl
  have c4 : (inoR l r).2.1 = (inoU l r).2.1 := rfl
  rw [wI_eq, fmB_len, fmB_len, c1, c2, c3, c4]
  have d1 : (textR l (nthR l r 4)).1 = (inoA l r).1 := rfl
  rw [d1] at lA
  have d2 : (manyR (entR l) (inoN l r).1.toNat (inoN l r).2).1 = (inoE l r).1 := rfl
  have d3 : (manyR (rnR l) (inoM l r).1.toNat (inoM l r).2).1 = (inoU l r).1 := rfl
  rw [d2] at lE
  rw [d3] at lU
  omega
theorem dee_w {l : List Int} {o : Nat} (h : (deeR l o).2.2 = 0) : (deedB (deeR l o).1).length + o ≤ (deeR l o).2.1 := by
  unfold deeR at h ⊢
  split at h
  · rename_i h1
    rw [if_pos h1]
    have h2 := intR_le (r := (getR l (o, 0) 1).2) h
    have h3 := getR_le (r := (o, 0)) rfl h2.1
    simp only at h2 h3 ⊢
    rw [num_len _ _ _ h1]
    omega
  · rename_i h1
    rw [if_neg h1]
    split at h
    · rename_i h4
      rw [if_pos h4]
      have h2 := ino_w (r := (getR l (o, 0) 1).2) h
      have h5 := inoR_le (r := (getR l (o, 0) 1).2) h
      have h3 := getR_le (r := (o, 0)) rfl h5.1
      simp only at h2 h3 ⊢
      rw [put_len rfl]
      simp only
      omega
    · cases h
theorem parseN_w (l : List Int) : ∀ (f o : Nat), (deedsB (parseN l f o).1).length ≤ l.length - o
  | 0, o => Nat.zero_le _
  | f + 1, o => by
    rw [parseN]
    split
    · exact Nat.zero_le _
    · split
      · exact Nat.zero_le _
      · split
        · exact Nat.zero_le _
        · rename_i h1 h2 h3
          have h4 := deeR_le (l := l) (o := o) (by simpa using h2)
          have h5 := dee_w (l := l) (o := o) (by simpa using h2)
          have ih := parseN_w l f (deeR l o).2.1
          rw [deeds_len] at ih ⊢
          simp only [List.map_cons, sumN_cons]
          omega
theorem parse_w (l : List Int) : (deedsB (parseM l).1).length ≤ l.length := parseN_w l _ 0
theorem goP_w : ∀ (L : List (List Int × Nat)) (s : Sta) (u : Nat), wS (goP s u L).1 ≤ wS s + sumN (L.map fun y => y.1.length) ∧ (goP s u L).2 ≤ u + totP L
  | [], s, u => ⟨Nat.le_refl _, Nat.le_refl _⟩
  | (y, k) :: r, s, u => by
    rw [goP]
    simp only [List.map_cons, sumN_cons, totP]
    split
    · exact ⟨Nat.le_add_right _ _, Nat.le_add_right _ _⟩
    · have h1 := goP_w r (applyL s (parseM y).1) (u + (k + 7))
      have h2 := applyL_w s (parseM y).1
      have h3 := parse_w y
      omega
theorem recL_w (l : List (List Int)) : sumN ((recL l).map fun y => y.1.length) ≤ totP (recL l) := by
  have h : ∀ r : List (List Int), sumN ((r.map fun y => (y, y.length)).map fun y : List Int × Nat => y.1.length) ≤ totP (r.map fun y => (y, y.length)) := by
    intro r
    induction r with
    | nil => exact Nat.le_refl _
    | cons x r ih =>
      simp only [List.map_cons, sumN_cons, totP]
      omega
  cases l with
  | nil => exact Nat.le_refl _
  | cons x r =>
    have := h r
    simp only [recL, List.map_cons, sumN_cons, totP, List.length_drop]
    omega
theorem read_w (b : List Int) : wS (readM b).s ≤ b.length ∧ (readM b).used ≤ b.length ∧ 0 ≤ (readM b).ep ∧ (readM b).ep ≤ 2147483647 ∧ ((readM b).ep = 0 → readM b = fndZ) := by
  have hz : wS fndZ.s ≤ b.length ∧ fndZ.used ≤ b.length ∧ 0 ≤ fndZ.ep ∧ fndZ.ep ≤ 2147483647 ∧ (fndZ.ep = 0 → fndZ = fndZ) := ⟨Nat.zero_le _, Nat.zero_le _, by decide, by decide, fun _ => rfl⟩
  obtain ⟨t1, t2, t3⟩ := scanN_tot b b.length 0 (Nat.zero_le _)
  have hM := readM.eq_1 b
  have hL : (scanM b).1 = (scanN b b.length 0).1 := rfl
  rw [hL] at hM
  cases hS : (scanN b b.length 0).1 with
  | nil =>
    rw [hS] at hM
    rw [hM]
    exact hz
  | cons x r =>
    rw [hS] at hM t2
    simp only at hM
    split at hM
    · rw [hM]; exact hz
    · rename_i h1
      split at hM
      · rw [hM]; exact hz
      · have h2 := goP_w (recL (x :: r)) staZ 0
        have h3 := recL_w (x :: r)
        rw [recL_tot] at h2 h3
        rw [hM]
        have h4 : wS staZ = 0 := rfl
        have h5 : 0 < epOf x ∧ epOf x ≤ 2147483647 := by
          constructor
          · exact Int.not_le.1 fun h => h1 (.inr (.inl h))
          · exact Int.not_lt.1 fun h => h1 (.inr (.inr h))
        refine ⟨?_, ?_, by simp only; omega, by simp only; omega, fun h => by simp only at h; omega⟩
        · simp only; omega
        · simp only; omega
end Go.Proofs.YtbbaoeidobdblaaGreat.Sx

/- journal.Open, Epoch, Half. -/
set_option linter.unusedVariables false
set_option linter.unusedSimpArgs false
namespace Go.Proofs.YtbbaoeidobdblaaGreat.Sx
open Go

attribute [local simp ↓] ifb_true' ifb_false'
attribute [local simp] ifb_true ifb_false ifb_eq sx argsT find ev evOp evs evo evBin evInt evStr evNil evNilA ptrA slcA isNoneA asB evLoad look del cellsB evUn evConv kdec fld evFieldA evField evIdxA evIdx evSlc bndL bndH evLen mmi put resV guardV gvL setO tupV cellsOf ones one upd lits nv exitTo SV.val CV.val TI.agg rdyA allR keepB scan simpO gsp isS subs keepT pickT wr memN pubs Res.fact Region.binds bld rest give delL back Res.eqv vi vb num Sv.val undef
/-- The half that counts: what it tells, and which one it is. -/
noncomputable def best1 (c : Cp) : Fnd := if 0 < (readM (halfB c 0)).ep then readM (halfB c 0) else fndZ
noncomputable def bestM (c : Cp) : Fnd × Nat := if (best1 c).ep < (readM (halfB c 1)).ep then (readM (halfB c 1), 1) else (best1 c, 0)
noncomputable def bestI (c : Cp) : Nat → Fnd × Nat
  | 0 => (fndZ, 0)
  | 1 => (best1 c, 0)
  | _ => bestM c
noncomputable def openJ (c : Cp) (x : Nat × Sl × Sl) : Jn := ⟨c, x.1, (bestM c).2, (bestM c).1.ep, (bestM c).1.used, (bestM c).1.s, x.2.1, x.2.2, false⟩
/-- The error, and the journal behind it. -/
noncomputable def openM (c : Cp) (x : Nat × Sl × Sl) : Int × Jn :=
  if (bestM c).1.ep = 0 then (23, openJ c x) else if (bestM c).1.more = true then anewM (openJ c x) (bestM c).1.s x.2.1 x.2.2 else (0, openJ c x)
noncomputable def openE (c : Cp) : Int := (openM c (0, (none, 0), (none, 0))).1
noncomputable def openC (c : Cp) : Cp := (openM c (0, (none, 0), (none, 0))).2.c
theorem open_e (c : Cp) (x : Nat × Sl × Sl) : (openM c x).1 = openE c ∧ (openM c x).2.c = openC c := by
  unfold openE openC openM anewM openJ
  simp only
  split
  · exact ⟨rfl, rfl⟩
  · split
    · split
      · exact ⟨rfl, rfl⟩
      · split
        · exact ⟨rfl, rfl⟩
        · split <;> exact ⟨rfl, rfl⟩
    · exact ⟨rfl, rfl⟩
theorem best_ok {c : Cp} (hf : c.fit) : wS (bestM c).1.s ≤ halfSz c ∧ (bestM c).1.used ≤ halfSz c ∧ 0 ≤ (bestM c).1.ep ∧ (bestM c).1.ep ≤ 2147483647 ∧ (bestM c).2 < 2 := by
  have h0 := read_w (halfB c 0)
  have h1 := read_w (halfB c 1)
  rw [halfB_length hf (by decide)] at h0 h1
  have hz : wS fndZ.s ≤ halfSz c ∧ fndZ.used ≤ halfSz c ∧ 0 ≤ fndZ.ep ∧ fndZ.ep ≤ 2147483647 := ⟨Nat.zero_le _, Nat.zero_le _, by decide, by decide⟩
  have hb : wS (best1 c).s ≤ halfSz c ∧ (best1 c).used ≤ halfSz c ∧ 0 ≤ (best1 c).ep ∧ (best1 c).ep ≤ 2147483647 := by
    unfold best1
    split
    · exact ⟨h0.1, h0.2.1, h0.2.2.1, h0.2.2.2.1⟩
    · exact hz
  unfold bestM
  split
  · exact ⟨h1.1, h1.2.1, h1.2.2.1, h1.2.2.2.1, Nat.lt_succ_self 1⟩
  · exact ⟨hb.1, hb.2.1, hb.2.2.1, hb.2.2.2, Nat.zero_lt_succ 1⟩
theorem best_step (c : Cp) {i : Nat} (h : i < 2) : bestI c (i + 1) = if (bestI c i).1.ep < (readM (halfB c i)).ep then (readM (halfB c i), i) else bestI c i := by
  match i, h with
  | 0, _ =>
    simp only [bestI, best1]
    have e : fndZ.ep = 0 := rfl
    rw [e]
    split <;> rfl
  | 1, _ => rfl
theorem anew_s (j : Jn) (s : Sta) (si sb : Sl) (h : (anewM j s si sb).1 = 0) : (anewM j s si sb).2.s = s ∧ (anewM j s si sb).2.si = si ∧ (anewM j s si sb).2.sb = sb := by
  unfold anewM at h ⊢
  split at h
  · cases h
  · rename_i h1
    rw [if_neg h1]
    split at h
    · rename_i h2
      exact absurd h h2
    · rename_i h2
      rw [if_neg h2]
      split at h
      · rename_i h3
        exact absurd h h3
      · rename_i h3
        rw [if_neg h3]
        exact ⟨rfl, rfl, rfl⟩
/-- All bytes of a chip are bytes. -/
def Cp.bytes (c : Cp) : Prop := ∀ x, x ∈ c.b → 0 ≤ x ∧ x ≤ 255
theorem halfB_byte {c : Cp} (h : c.bytes) (i : Nat) : ∀ x, x ∈ halfB c i → 0 ≤ x ∧ x ≤ 255 := byte_sub h _ _
set_option maxRecDepth 10000 in
set_option maxHeartbeats 4000000 in
theorem open0 (w : World) (I S : Nat → Prop) (hI : ∀ b, I b → b < w.heap.size) (c : Cp) (hf : c.fit) (hby : c.bytes) (hS : Owns c.res S w) (hSI : ∀ b, S b → b < w.heap.size ∧ ¬ I b) :
    FnS Tryz.prog 22 #[ptrV c.gc] w I S (fun x : Nat × Sl × Sl => .tuple #[if openE c = 0 then ptrV x.1 else .pointer none, .int .i64 (openE c)]) (fun x => if openE c = 0 then (openM c x).2.res else (openC c).res) (fun x W => openE c = 0 → StaR W (openM c x).2.s (openM c x).2.si (openM c x).2.sb) := by
  obtain ⟨hl2, hsz, hz⟩ := half_two hf
  have hhl := half_le hf
  have hbo := best_ok hf
  refine enterS (svs := [.c (.v (ptrV c.gc))]) tysOk Tryz.func22 rfl Tryz.ntmps22 Tryz.results22 (by kernel_rfl) (by simp) hI c.res hS hSI (fun _ => True) (fun _ _ => trivial) fun C hC hN ok => ?_
  simp [hN]
  intro gj
  have nilS : ∀ W, StaR W staZ (none, 0) (none, 0) := fun W => ⟨⟨Nat.zero_le _, Nat.zero_le _, rd_nil _ _ _⟩, ⟨Nat.zero_le _, Nat.zero_le _, rd_nil _ _ _⟩⟩
  refine loopK [0, 4] ok (fun y : Nat × Sl × Sl => [(14, .c (.v (.int .i64 (y.1 : Nat)))), (5, .c (.v (.bool (bestI c y.1).1.more)))]) (fun y => [(1000, c.chip), (1001, c.pow), (1002, c.row), (1003, c.map), (13, .box gj 111 [.v (ptrV c.gc), .v (.int .i64 ((bestI c y.1).2 : Nat)), .v (.int .i64 (bestI c y.1).1.ep), .v (.int .i64 ((bestI c y.1).1.used : Nat)), .v (.int .i64 (bestI c y.1).1.s.next), .v (.slice y.2.1.1 (bestI c y.1).1.s.inos.length y.2.1.2), .v (.slice y.2.2.1 (bestI c y.1).1.s.bad.length y.2.2.2), .v (.bool false)])]) (fun y W => y.1 ≤ 2 ∧ StaR W (bestI c y.1).1.s y.2.1 y.2.2) (fun y => 2 - y.1) (0, (none, 0), (none, 0)) ?_ ?_ (fun W hW => ⟨Nat.zero_le _, nilS W⟩) ?_
  · simp [bestI, fndZ]
  · simp [bestI, fndZ, staZ, Cp.map, mapR]
  rintro ⟨i, si, sb⟩ W ⟨hi, hst⟩ hG next
  simp only at hi hst
  rcases Nat.lt_or_ge i 2 with hlt | hge
  · have e6 : IntKind.i64.wrap ((i : Int) + 1) = (i + 1 : Nat) := by rw [w64 (by omega) (by omega)]; omega
    have hlt' : (i : Int) < 2 := by omega
    simp [hN, hlt']
    refine callS ok rfl rfl rfl [1000, 1001, 1002, 1003] c.res (by simp [Cp.map, mapR]) rfl (fun _ : Sl => [(1000, c.chip), (1001, c.pow), (1002, c.row), (1003, c.map)]) (fun w I S hI hG hO hS' => halfRead0 w I S hI c i hlt hf hO hS') (fun r => by simp [Cp.map, mapR]) (.inr fun x q hq => by simp at hq; rcases hq with rfl | rfl | rfl | rfl <;> simp) fun y W hy => ?_
    simp [hN]
    have hbl := halfB_length hf hlt
    refine call0 ok rfl rfl rfl (fun w I hI hG => read0 w I hI (a := y.1) (n := halfSz c) (c := y.2) (halfB c i) (by omega) (fun W e => ⟨hbl.symm, (hG W e).1⟩) (halfB_byte hby i)) fun z W hz' => ?_
    simp [hN]
    intro g9
    have hstep := best_step c hlt
    generalize readM (halfB c i) = f at hstep ⊢
    refine drawK ok mixed (by kernel_rfl) ?_
    simp (maxSteps := 2000000) -implicitDefEqProofs [hN]
    refine ⟨fun hgt => ?_, fun hle => ?_⟩
    · rw [if_pos hgt] at hstep
      refine draw ok [(9, .box g9 124 [.v (.int .i64 f.ep), .v (.int .i64 (f.used : Nat)), .v (.int .i64 f.s.next), .v (.slice z.1.1 f.s.inos.length z.1.2), .v (.slice z.2.1 f.s.bad.length z.2.2), .v (.bool f.more)])] (by rw [ok.P]; exact mixed) (by kernel_rfl) ?_
      simp (maxSteps := 2000000) -implicitDefEqProofs [hN, e6]
      refine next (i + 1, z.1, z.2) _ _ (by simp only; omega) (fun W h => ⟨⟨hlt, by simp only [hstep]; exact h.1⟩, trivial⟩) ?_
      simp [hstep, Cp.map, mapR]
    · rw [if_neg (by omega)] at hstep
      simp [hN, e6]
      refine next (i + 1, si, sb) _ _ (by simp only; omega) (fun W h => ⟨⟨hlt, by simp only [hstep]; exact h.2.2.2⟩, trivial⟩) ?_
      simp [hstep, Cp.map, mapR]
  · obtain rfl : i = 2 := by omega
    have hE : openE c = (openM c (gj, si, sb)).1 := (open_e c (gj, si, sb)).1.symm
    have hCC := (open_e c (gj, si, sb)).2
    have hO := openM.eq_1 c (gj, si, sb)
    have hbi : bestI c 2 = bestM c := rfl
    rw [hbi] at hst
    simp [hN, hbi]
    refine ⟨fun h0 => ?_, fun hne => ?_⟩
    · rw [if_pos h0] at hO
      have h23 : openE c = 23 := by rw [hE, hO]
      rw [hO] at hCC
      rw [h23] at hC
      exact retS hC (gj, si, sb) [1000, 1001, 1002, 1003] rfl (by simp [← hCC, openJ, Cp.map, mapR]) fun W _ hG h => by cases h
    rw [if_neg hne] at hO
    cases hm : (bestM c).1.more with
    | false =>
      rw [if_neg (by simp [hm])] at hO
      have h0 : openE c = 0 := by rw [hE, hO]
      rw [h0] at hC
      simp [hN]
      exact retS hC (gj, si, sb) [1000, 1001, 1002, 1003, 13] rfl (by simp [hO, openJ, Cp.map, mapR]) fun W _ hG _ => by rw [hO]; exact hG
    | true =>
      rw [if_pos hm] at hO
      simp [hN]
      obtain ⟨J, hJ⟩ : ∃ J, J = openJ c (gj, si, sb) := ⟨_, rfl⟩
      rw [← hJ] at hO
      have hJc : J.c = c ∧ J.gj = gj ∧ J.half = (bestM c).2 ∧ J.ep = (bestM c).1.ep ∧ J.s = (bestM c).1.s ∧ J.si = si ∧ J.sb = sb := by rw [hJ]; exact ⟨rfl, rfl, rfl, rfl, rfl, rfl, rfl⟩
      have hcw := count_w (bestM c).1.s
      have hww := whole_w (bestM c).1.s
      obtain ⟨b1, b2, b3, b4, b5⟩ := hbo
      refine callS ok rfl rfl rfl [1000, 1001, 1002, 1003, 13] J.res (by simp [hJ, openJ, Cp.map, mapR]) rfl (fun _ : Unit => [(1000, (anewM J (bestM c).1.s si sb).2.c.chip), (1001, (anewM J (bestM c).1.s si sb).2.c.pow), (1002, (anewM J (bestM c).1.s si sb).2.c.row), (1003, (anewM J (bestM c).1.s si sb).2.c.map), (1004, (anewM J (bestM c).1.s si sb).2.box)]) (fun w I S hI hG hO hS' => by have := anew0 w I S hI J (bestM c).1.s si sb (by rw [hJc.1]; exact hf) (by rw [hJc.2.2.1]; exact b5) (by rw [hJc.2.2.2.1]; exact ⟨b3, b4⟩) (fun W e => hG W e) (by omega) (by show wholeB _ ≤ _; omega) hO hS'; rw [hJc.2.1] at this; exact this) (fun r => by simp [Cp.map, mapR]) (.inr fun x q hq => by simp at hq; rcases hq with rfl | rfl | rfl | rfl | rfl <;> simp) fun _ W _ => ?_
      rw [← hO]
      have hE' : (openM c (gj, si, sb)).1 = openE c := hE.symm
      rw [hE']
      simp [hN]
      refine ⟨fun hne => ?_, fun h0 => ?_⟩
      · exact retS hC (gj, si, sb) [1000, 1001, 1002, 1003] (by simp [hne]) (by simp [hne, hCC, Cp.map, mapR]) fun W _ hG h => absurd h hne
      · refine retS hC (gj, si, sb) [1000, 1001, 1002, 1003, 1004] (by simp [h0]) (by simp [h0, Cp.map, mapR]) fun W _ hG _ => ?_
        have hs := anew_s J (bestM c).1.s si sb (by rw [← hO, hE', h0])
        rw [hO, hs.1, hs.2.1, hs.2.2]
        exact hG
theorem epoch0 (w : World) (I S : Nat → Prop) (hI : ∀ b, I b → b < w.heap.size) (j : Jn) (hS : Owns [j.box] S w) (hSI : ∀ b, S b → b < w.heap.size ∧ ¬ I b) :
    FnS Tryz.prog 27 #[ptrV j.gj] w I S (fun _ : Unit => .int .i64 j.ep) (fun _ => [j.box]) (fun _ _ => True) := by
  refine enterS (svs := [.c (.bp 1000 j.gj 0)]) tysOk Tryz.func27 rfl Tryz.ntmps27 Tryz.results27 (by kernel_rfl) (by simp) hI [j.box] hS hSI (fun _ => True) (fun _ _ => trivial) fun C hC hN ok => ?_
  simp [hN]
  exact retS hC () [1000] rfl (by simp) fun _ _ _ => trivial
theorem half0 (w : World) (I S : Nat → Prop) (hI : ∀ b, I b → b < w.heap.size) (j : Jn) (hS : Owns [j.box] S w) (hSI : ∀ b, S b → b < w.heap.size ∧ ¬ I b) :
    FnS Tryz.prog 28 #[ptrV j.gj] w I S (fun _ : Unit => .int .i64 (j.half : Nat)) (fun _ => [j.box]) (fun _ _ => True) := by
  refine enterS (svs := [.c (.bp 1000 j.gj 0)]) tysOk Tryz.func28 rfl Tryz.ntmps28 Tryz.results28 (by kernel_rfl) (by simp) hI [j.box] hS hSI (fun _ => True) (fun _ _ => trivial) fun C hC hN ok => ?_
  simp [hN]
  exact retS hC () [1000] rfl (by simp) fun _ _ _ => trivial
end Go.Proofs.YtbbaoeidobdblaaGreat.Sx

/- garrethelp: Same, Plain, Inode, State, Bytes. -/
set_option linter.unusedVariables false
set_option linter.unusedSimpArgs false
namespace Go.Proofs.YtbbaoeidobdblaaGreat.Sx
open Go

attribute [local simp ↓] ifb_true' ifb_false'
attribute [local simp] ifb_true ifb_false ifb_eq sx argsT find ev evOp evs evo evBin evInt evStr evNil evNilA ptrA slcA isNoneA asB evLoad look del cellsB evUn evConv kdec fld evFieldA evField evIdxA evIdx evSlc bndL bndH evLen mmi put resV guardV gvL setO tupV cellsOf ones one upd lits nv exitTo SV.val CV.val TI.agg rdyA allR keepB scan simpO gsp isS subs keepT pickT wr memN pubs Res.fact Region.binds bld rest give delL back Res.eqv vi vb num Sv.val undef
noncomputable def tB (p : Prop) : Bool := @decide p (Classical.propDecidable p)
theorem tB_true {p : Prop} (h : p) : tB p = true := @decide_eq_true p (Classical.propDecidable p) h
theorem tB_false {p : Prop} (h : ¬ p) : tB p = false := @decide_eq_false p (Classical.propDecidable p) h
theorem bytes_toList {a b : ByteArray} (h : a.toList = b.toList) : a = b := by
  rw [ByteArray.toList_eq, ByteArray.toList_eq] at h
  apply ByteArray.ext
  exact Array.ext' h
theorem str_tB (a b : ByteArray) : (a.toList == b.toList) = tB (a = b) := by
  by_cases h : a = b
  · subst h; rw [tB_true rfl]; simp
  · rw [tB_false h, beq_eq_false_iff_ne]
    exact fun e => h (bytes_toList e)
theorem tB_dec {p : Prop} [Decidable p] : tB p = decide p := by
  by_cases h : p
  · rw [tB_true h, decide_eq_true h]
  · rw [tB_false h, decide_eq_false h]
theorem take_step {α : Type} {xs ys : List α} {i : Nat} (h : xs.take i = ys.take i) (h1 : i < xs.length) (h2 : i < ys.length) (e : xs[i] = ys[i]) : xs.take (i + 1) = ys.take (i + 1) := by
  rw [List.take_add_one, List.take_add_one, h, List.getElem?_eq_getElem h1, List.getElem?_eq_getElem h2, e]
theorem rd_get1 {W : World} {α : Type} {d : Dt α} {a : Option Addr} {n c : Nat} {l : List α} (h : Sv.ok d W (a, n, c) l) {i : Nat} (hi : i < l.length) : ∃ b o, a = some ⟨b, o, none⟩ ∧ ∃ cs, d.K W l[i] cs ∧ cs.length = d.sz ∧ ∀ j v, cs[j]? = some v → W.cell? ⟨b, o + i * d.sz + j, none⟩ = some v := by
  obtain ⟨b, o, e⟩ := h.2.2.2.is_some (show 0 < l.length by omega)
  cases e
  exact ⟨b, o, rfl, h.2.2.2.get hi⟩
theorem ent_eq (x y : Operand) (a : ByteArray) (b : Int) (a' : ByteArray) (b' : Int) (w : World) : (do eqGuard .eql 127 x y (.agg #[.string a, .int .i64 b]) (.agg #[.string a', .int .i64 b']); binOp .eql 127 (.agg #[.string a, .int .i64 b]) (.agg #[.string a', .int .i64 b']) : Sem Value).run Tryz.prog w = .ok (.bool (tB ((⟨a, b⟩ : Ent) = ⟨a', b'⟩))) w := by
  have hp : Tryz.prog.stoodInHeld 127 = false := by kernel_rfl
  have hm : Tryz.prog.eqGuardType Tryz.prog.depth 127 = false := by kernel_rfl
  have ht : Tryz.prog.underlying 127 = some (.struct (Tryz.prog.fieldsOf 127)) := by kernel_rfl
  have hi : Tryz.prog.underlying 3 = some (.int .i64) := Tryz.underlying3
  have hs : Tryz.prog.underlying 9 = some .string := Tryz.underlying9
  simp only [Sem.run_bind, run_eqGuard_agg w .eql 127 x y _ _ hm, Result.andThen_ok, run_eql_struct, run_equalIn_agg w 9999 127 _ _ ht hp]
  simp only [Program.fieldsOf, Tryz.underlying127]
  have key : tB ((⟨a, b⟩ : Ent) = ⟨a', b'⟩) = (tB (a = a') && decide (b = b')) := by
    rw [← tB_dec (p := b = b')]
    by_cases h1 : a = a' <;> by_cases h2 : b = b' <;> simp [tB, h1, h2]
  rw [key, ← str_tB]
  simp [Op.eqFields, part, isAgg, underlying, hi, hs, run_equalIn_int, run_equalIn_string]
  by_cases h1 : a.toList = a'.toList <;> by_cases h2 : b = b' <;> simp [h1, h2]
theorem rnEq0 (x y : Operand) (a b c a' b' c' : Int) (w : World) : (do eqGuard .eql 139 x y (.agg #[.int .i64 a, .int .i64 b, .int .i64 c]) (.agg #[.int .i64 a', .int .i64 b', .int .i64 c']); binOp .eql 139 (.agg #[.int .i64 a, .int .i64 b, .int .i64 c]) (.agg #[.int .i64 a', .int .i64 b', .int .i64 c']) : Sem Value).run Tryz.prog w = .ok (.bool (tB ((⟨a, b, c⟩ : Rn) = ⟨a', b', c'⟩))) w := by
  have hp : Tryz.prog.stoodInHeld 139 = false := by kernel_rfl
  have hm : Tryz.prog.eqGuardType Tryz.prog.depth 139 = false := by kernel_rfl
  have ht : Tryz.prog.underlying 139 = some (.struct (Tryz.prog.fieldsOf 139)) := by kernel_rfl
  have hi : Tryz.prog.underlying 3 = some (.int .i64) := Tryz.underlying3
  simp only [Sem.run_bind, run_eqGuard_agg w .eql 139 x y _ _ hm, Result.andThen_ok, run_eql_struct, run_equalIn_agg w 9999 139 _ _ ht hp]
  simp only [Program.fieldsOf, Tryz.underlying139]
  have key : tB ((⟨a, b, c⟩ : Rn) = ⟨a', b', c'⟩) = (decide (a = a') && (decide (b = b') && decide (c = c'))) := by
    by_cases h1 : a = a' <;> by_cases h2 : b = b' <;> by_cases h3 : c = c' <;> simp [tB, h1, h2, h3]
  rw [key]
  simp [Op.eqFields, part, isAgg, underlying, hi, run_equalIn_int]
  by_cases h1 : a = a' <;> by_cases h2 : b = b' <;> by_cases h3 : c = c' <;> simp [h1, h2, h3]
theorem intOne0 (w : World) (I : Nat → Prop) (hI : ∀ b, I b → b < w.heap.size) (x y : Int) :
    Fn0 Tryz.prog 118 #[.int .i64 x, .int .i64 y] w I (fun _ : Unit => .bool (tB (x = y))) (fun _ _ => True) := by
  refine enter (svs := [.c (.v (.int .i64 x)), .c (.v (.int .i64 y))]) tysOk Tryz.func118 rfl Tryz.ntmps118 Tryz.results118 (by kernel_rfl) (by simp) hI (fun _ => True) (fun _ _ => trivial) fun C hC hN ok => ?_
  rw [tB_dec] at hC
  simp [hN]
  exact ret0 hC () rfl fun _ _ _ => trivial
theorem entOne0 (w : World) (I : Nat → Prop) (hI : ∀ b, I b → b < w.heap.size) (x y : Ent) :
    Fn0 Tryz.prog 161 #[.agg (entC x).toArray, .agg (entC y).toArray] w I (fun _ : Unit => .bool (tB (x = y))) (fun _ _ => True) := by
  refine enter (svs := [.ag ((entC x).map .v), .ag ((entC y).map .v)]) tysOk Tryz.func161 rfl Tryz.ntmps161 Tryz.results161 (by kernel_rfl) (by simp) hI (fun _ => True) (fun _ _ => trivial) fun C hC hN ok => ?_
  simp [hN]
  intro g1 g2
  refine binA ok rfl rfl rfl rfl (tB (x = y)) (fun w => ent_eq _ _ x.name x.no y.name y.no w) ?_
  simp [hN]
  exact ret0 hC () rfl fun _ _ _ => trivial
theorem rnOne0 (w : World) (I : Nat → Prop) (hI : ∀ b, I b → b < w.heap.size) (x y : Rn) :
    Fn0 Tryz.prog 163 #[.agg (rnC x).toArray, .agg (rnC y).toArray] w I (fun _ : Unit => .bool (tB (x = y))) (fun _ _ => True) := by
  refine enter (svs := [.ag ((rnC x).map .v), .ag ((rnC y).map .v)]) tysOk Tryz.func163 rfl Tryz.ntmps163 Tryz.results163 (by kernel_rfl) (by simp) hI (fun _ => True) (fun _ _ => trivial) fun C hC hN ok => ?_
  simp [hN]
  intro g1 g2
  refine binA ok rfl rfl rfl rfl (tB (x = y)) (fun w => rnEq0 _ _ x.fr x.at_ x.ct y.fr y.at_ y.ct w) ?_
  simp [hN]
  exact ret0 hC () rfl fun _ _ _ => trivial

set_option maxRecDepth 10000 in
set_option maxHeartbeats 2000000 in
theorem sameI0 (w : World) (I : Nat → Prop) (hI : ∀ b, I b → b < w.heap.size) {a a' : Option Addr} {n c n' c' : Nat} (xs ys : List Int) (h : ∀ W, Ext I w W → Sv.ok dInt W (a, n, c) xs ∧ Sv.ok dInt W (a', n', c') ys) :
    Fn0 Tryz.prog 117 #[.slice a n c, .slice a' n' c', .func (.func 118) #[] #[]] w I (fun _ : Unit => .bool (tB (xs = ys))) (fun _ _ => True) := by
  have hn : n = xs.length := (h w (Ext.refl _ _)).1.1
  have hn' : n' = ys.length := (h w (Ext.refl _ _)).2.1
  have hl1 := (h w (Ext.refl _ _)).1.2.2.1
  refine enter (svs := [.c (.v (.slice a n c)), .c (.v (.slice a' n' c')), .c (.v (.func (.func 118) #[] #[]))]) tysOk Tryz.func117 rfl Tryz.ntmps117 Tryz.results117 (by kernel_rfl) (by simp) hI (fun W => Sv.ok dInt W (a, n, c) xs ∧ Sv.ok dInt W (a', n', c') ys) h fun C hC hN ok => ?_
  by_cases hlen : n = n'
  case neg =>
    have hne : ¬ (n : Int) = n' := by omega
    rw [tB_false (fun e => hlen (by rw [hn, hn', e]))] at hC
    simp [hN, hne]
    exact ret0 hC () rfl fun _ _ _ => trivial
  subst hlen
  simp [hN]
  refine loopK [0, 1, 2] ok (fun i : Nat => [(7, .c (.v (.int .i64 i)))]) (fun _ => []) (fun i W => i ≤ n ∧ xs.take i = ys.take i) (fun i => n - i) 0 ?_ ?_ (fun W hW => ⟨Nat.zero_le _, rfl⟩) ?_
  · simp
  · simp
  rintro i W ⟨hi, hpre⟩ hG next
  rcases Nat.lt_or_ge i n with hltn | hge
  · have hlt : i < xs.length := by omega
    have hlt2 : i < ys.length := by omega
    have e6 : IntKind.i64.wrap ((i : Int) + 1) = (i + 1 : Nat) := by rw [w64 (by omega) (by omega)]; omega
    have hstep := fun e => take_step hpre hlt hlt2 e
    have hno : xs[i] ≠ ys[i] → xs ≠ ys := fun h e => h (by subst e; rfl)
    obtain ⟨b, o, e, _⟩ := int_get (h w (Ext.refl _ _)).1 hlt
    cases e
    obtain ⟨b', o', e, _⟩ := int_get (h w (Ext.refl _ _)).2 hlt2
    cases e
    have g1 : ∀ W, Sv.ok dInt W (some ⟨b, o, none⟩, n, c) xs → ∃ v, W.cell? ⟨b, o + i, none⟩ = some v ∧ v = .int .i64 xs[i] := fun W hW => by
      obtain ⟨b'', o'', e, hc⟩ := int_get hW hlt
      cases e
      exact ⟨_, hc, rfl⟩
    have g2 : ∀ W, Sv.ok dInt W (some ⟨b', o', none⟩, n, c') ys → ∃ v, W.cell? ⟨b', o' + i, none⟩ = some v ∧ v = .int .i64 ys[i] := fun W hW => by
      obtain ⟨b'', o'', e, hc⟩ := int_get hW hlt2
      cases e
      exact ⟨_, hc, rfl⟩
    generalize xs[i] = x at g1 hstep hno
    generalize ys[i] = y at g2 hstep hno
    simp [hN, hltn]
    refine drawK ok mixed (by kernel_rfl) ?_
    simp (maxSteps := 2000000) -implicitDefEqProofs [hN, hltn]
    refine ⟨?_, ?_⟩
    · refine load1 ok rfl rfl rfl rfl (fun v W => v = .int .i64 x) (fun W hW => g1 W hW.2.1) ?_
      rintro v W rfl _
      simp (maxSteps := 2000000) -implicitDefEqProofs [hN, hltn]
      refine load1 ok rfl rfl rfl rfl (fun v W => v = .int .i64 y) (fun W hW => by first | exact g2 W hW.2.2 | exact g2 W hW.2.2.2) ?_
      rintro v W rfl _
      simp (maxSteps := 2000000) -implicitDefEqProofs [hN, hltn]
      focus
        refine call0 ok rfl rfl rfl (fun w I hI hG => intOne0 w I hI x y) fun _ W _ => ?_
        by_cases hxy : x = y
        · rw [tB_true hxy]
          simp (maxSteps := 2000000) -implicitDefEqProofs [hN, e6]
          exact next (i + 1) _ _ (by omega) (fun W h => ⟨⟨hltn, hstep hxy⟩, by first | exact h.2 | exact h.2.2 | exact h.2.2.2 | exact h.2.2.2.2⟩) (by simp)
        · rw [tB_false hxy]
          rw [tB_false (hno hxy)] at hC
          simp (maxSteps := 2000000) -implicitDefEqProofs [hN]
          exact ret0 hC () rfl fun _ _ _ => trivial
    · refine load1 ok rfl rfl rfl rfl (fun v W => v = .int .i64 y) (fun W hW => g2 W hW.2.2) ?_
      rintro v W rfl _
      simp (maxSteps := 2000000) -implicitDefEqProofs [hN, hltn]
      refine load1 ok rfl rfl rfl rfl (fun v W => v = .int .i64 x) (fun W hW => by first | exact g1 W hW.2.1 | exact g1 W hW.2.2.1) ?_
      rintro v W rfl _
      simp (maxSteps := 2000000) -implicitDefEqProofs [hN, hltn]
      focus
        refine call0 ok rfl rfl rfl (fun w I hI hG => intOne0 w I hI x y) fun _ W _ => ?_
        by_cases hxy : x = y
        · rw [tB_true hxy]
          simp (maxSteps := 2000000) -implicitDefEqProofs [hN, e6]
          exact next (i + 1) _ _ (by omega) (fun W h => ⟨⟨hltn, hstep hxy⟩, by first | exact h.2 | exact h.2.2 | exact h.2.2.2 | exact h.2.2.2.2⟩) (by simp)
        · rw [tB_false hxy]
          rw [tB_false (hno hxy)] at hC
          simp (maxSteps := 2000000) -implicitDefEqProofs [hN]
          exact ret0 hC () rfl fun _ _ _ => trivial
  · have e1 : xs = ys := by
      rw [← List.take_of_length_le (l := xs) (i := i) (by omega), hpre, List.take_of_length_le (by omega)]
    rw [tB_true e1] at hC
    have hge2 : ¬ i < n := by omega
    simp [hN, hge2]
    exact ret0 hC () rfl fun _ _ _ => trivial
set_option maxRecDepth 10000 in
set_option maxHeartbeats 2000000 in
theorem sameE0 (w : World) (I : Nat → Prop) (hI : ∀ b, I b → b < w.heap.size) {a a' : Option Addr} {n c n' c' : Nat} (xs ys : List Ent) (h : ∀ W, Ext I w W → Sv.ok dEnt W (a, n, c) xs ∧ Sv.ok dEnt W (a', n', c') ys) :
    Fn0 Tryz.prog 160 #[.slice a n c, .slice a' n' c', .func (.func 161) #[] #[]] w I (fun _ : Unit => .bool (tB (xs = ys))) (fun _ _ => True) := by
  have hn : n = xs.length := (h w (Ext.refl _ _)).1.1
  have hn' : n' = ys.length := (h w (Ext.refl _ _)).2.1
  have hl1 := (h w (Ext.refl _ _)).1.2.2.1
  refine enter (svs := [.c (.v (.slice a n c)), .c (.v (.slice a' n' c')), .c (.v (.func (.func 161) #[] #[]))]) tysOk Tryz.func160 rfl Tryz.ntmps160 Tryz.results160 (by kernel_rfl) (by simp) hI (fun W => Sv.ok dEnt W (a, n, c) xs ∧ Sv.ok dEnt W (a', n', c') ys) h fun C hC hN ok => ?_
  by_cases hlen : n = n'
  case neg =>
    have hne : ¬ (n : Int) = n' := by omega
    rw [tB_false (fun e => hlen (by rw [hn, hn', e]))] at hC
    simp [hN, hne]
    exact ret0 hC () rfl fun _ _ _ => trivial
  subst hlen
  simp [hN]
  refine loopK [0, 1, 2] ok (fun i : Nat => [(7, .c (.v (.int .i64 i)))]) (fun _ => []) (fun i W => i ≤ n ∧ xs.take i = ys.take i) (fun i => n - i) 0 ?_ ?_ (fun W hW => ⟨Nat.zero_le _, rfl⟩) ?_
  · simp
  · simp
  rintro i W ⟨hi, hpre⟩ hG next
  rcases Nat.lt_or_ge i n with hltn | hge
  · have hlt : i < xs.length := by omega
    have hlt2 : i < ys.length := by omega
    have e6 : IntKind.i64.wrap ((i : Int) + 1) = (i + 1 : Nat) := by rw [w64 (by omega) (by omega)]; omega
    have hstep := fun e => take_step hpre hlt hlt2 e
    have hno : xs[i] ≠ ys[i] → xs ≠ ys := fun h e => h (by subst e; rfl)
    obtain ⟨b, o, e, _⟩ := rd_get1 (h w (Ext.refl _ _)).1 hlt
    cases e
    obtain ⟨b', o', e, _⟩ := rd_get1 (h w (Ext.refl _ _)).2 hlt2
    cases e
    have g1 : ∀ W, Sv.ok dEnt W (some ⟨b, o, none⟩, n, c) xs → ∃ l, l.length = 2 ∧ (∀ j v, l[j]? = some v → W.cell? ⟨b, o + i * 2 + j, none⟩ = some v) ∧ l = entC xs[i] := fun W hW => by
      obtain ⟨b'', o'', e, cs, hk, hl, hc⟩ := rd_get1 hW hlt
      cases e
      exact ⟨cs, hl, hc, hk⟩
    have g2 : ∀ W, Sv.ok dEnt W (some ⟨b', o', none⟩, n, c') ys → ∃ l, l.length = 2 ∧ (∀ j v, l[j]? = some v → W.cell? ⟨b', o' + i * 2 + j, none⟩ = some v) ∧ l = entC ys[i] := fun W hW => by
      obtain ⟨b'', o'', e, cs, hk, hl, hc⟩ := rd_get1 hW hlt2
      cases e
      exact ⟨cs, hl, hc, hk⟩
    generalize xs[i] = x at g1 hstep hno
    generalize ys[i] = y at g2 hstep hno
    simp [hN, hltn]
    refine drawK ok mixed (by kernel_rfl) ?_
    simp (maxSteps := 2000000) -implicitDefEqProofs [hN, hltn]
    refine ⟨?_, ?_⟩
    · refine loadA ok rfl rfl rfl rfl (fun l W => l = entC x) (fun W hW => by first | exact g1 W hW.2.1 | exact g1 W hW.2.2.1) ?_
      rintro l W _ rfl _
      simp (maxSteps := 2000000) -implicitDefEqProofs [hN, hltn]
      refine loadA ok rfl rfl rfl rfl (fun l W => l = entC y) (fun W hW => by first | exact g2 W hW.2.2 | exact g2 W hW.2.2.2) ?_
      rintro l W _ rfl _
      simp (maxSteps := 2000000) -implicitDefEqProofs [hN, hltn]
      focus
        refine call0 ok rfl rfl rfl (fun w I hI hG => entOne0 w I hI x y) fun _ W _ => ?_
        by_cases hxy : x = y
        · rw [tB_true hxy]
          simp (maxSteps := 2000000) -implicitDefEqProofs [hN, e6]
          exact next (i + 1) _ _ (by omega) (fun W h => ⟨⟨hltn, hstep hxy⟩, by first | exact h.2 | exact h.2.2 | exact h.2.2.2 | exact h.2.2.2.2⟩) (by simp)
        · rw [tB_false hxy]
          rw [tB_false (hno hxy)] at hC
          simp (maxSteps := 2000000) -implicitDefEqProofs [hN]
          exact ret0 hC () rfl fun _ _ _ => trivial
    · refine loadA ok rfl rfl rfl rfl (fun l W => l = entC y) (fun W hW => by first | exact g2 W hW.2.2 | exact g2 W hW.2.2.2) ?_
      rintro l W _ rfl _
      simp (maxSteps := 2000000) -implicitDefEqProofs [hN, hltn]
      refine loadA ok rfl rfl rfl rfl (fun l W => l = entC x) (fun W hW => by first | exact g1 W hW.2.1 | exact g1 W hW.2.2.1) ?_
      rintro l W _ rfl _
      simp (maxSteps := 2000000) -implicitDefEqProofs [hN, hltn]
      focus
        refine call0 ok rfl rfl rfl (fun w I hI hG => entOne0 w I hI x y) fun _ W _ => ?_
        by_cases hxy : x = y
        · rw [tB_true hxy]
          simp (maxSteps := 2000000) -implicitDefEqProofs [hN, e6]
          exact next (i + 1) _ _ (by omega) (fun W h => ⟨⟨hltn, hstep hxy⟩, by first | exact h.2 | exact h.2.2 | exact h.2.2.2 | exact h.2.2.2.2⟩) (by simp)
        · rw [tB_false hxy]
          rw [tB_false (hno hxy)] at hC
          simp (maxSteps := 2000000) -implicitDefEqProofs [hN]
          exact ret0 hC () rfl fun _ _ _ => trivial
  · have e1 : xs = ys := by
      rw [← List.take_of_length_le (l := xs) (i := i) (by omega), hpre, List.take_of_length_le (by omega)]
    rw [tB_true e1] at hC
    have hge2 : ¬ i < n := by omega
    simp [hN, hge2]
    exact ret0 hC () rfl fun _ _ _ => trivial
set_option maxRecDepth 10000 in
set_option maxHeartbeats 2000000 in
theorem sameR0 (w : World) (I : Nat → Prop) (hI : ∀ b, I b → b < w.heap.size) {a a' : Option Addr} {n c n' c' : Nat} (xs ys : List Rn) (h : ∀ W, Ext I w W → Sv.ok dRn W (a, n, c) xs ∧ Sv.ok dRn W (a', n', c') ys) :
    Fn0 Tryz.prog 162 #[.slice a n c, .slice a' n' c', .func (.func 163) #[] #[]] w I (fun _ : Unit => .bool (tB (xs = ys))) (fun _ _ => True) := by
  have hn : n = xs.length := (h w (Ext.refl _ _)).1.1
  have hn' : n' = ys.length := (h w (Ext.refl _ _)).2.1
  have hl1 := (h w (Ext.refl _ _)).1.2.2.1
  refine enter (svs := [.c (.v (.slice a n c)), .c (.v (.slice a' n' c')), .c (.v (.func (.func 163) #[] #[]))]) tysOk Tryz.func162 rfl Tryz.ntmps162 Tryz.results162 (by kernel_rfl) (by simp) hI (fun W => Sv.ok dRn W (a, n, c) xs ∧ Sv.ok dRn W (a', n', c') ys) h fun C hC hN ok => ?_
  by_cases hlen : n = n'
  case neg =>
    have hne : ¬ (n : Int) = n' := by omega
    rw [tB_false (fun e => hlen (by rw [hn, hn', e]))] at hC
    simp [hN, hne]
    exact ret0 hC () rfl fun _ _ _ => trivial
  subst hlen
  simp [hN]
  refine loopK [0, 1, 2] ok (fun i : Nat => [(7, .c (.v (.int .i64 i)))]) (fun _ => []) (fun i W => i ≤ n ∧ xs.take i = ys.take i) (fun i => n - i) 0 ?_ ?_ (fun W hW => ⟨Nat.zero_le _, rfl⟩) ?_
  · simp
  · simp
  rintro i W ⟨hi, hpre⟩ hG next
  rcases Nat.lt_or_ge i n with hltn | hge
  · have hlt : i < xs.length := by omega
    have hlt2 : i < ys.length := by omega
    have e6 : IntKind.i64.wrap ((i : Int) + 1) = (i + 1 : Nat) := by rw [w64 (by omega) (by omega)]; omega
    have hstep := fun e => take_step hpre hlt hlt2 e
    have hno : xs[i] ≠ ys[i] → xs ≠ ys := fun h e => h (by subst e; rfl)
    obtain ⟨b, o, e, _⟩ := rd_get1 (h w (Ext.refl _ _)).1 hlt
    cases e
    obtain ⟨b', o', e, _⟩ := rd_get1 (h w (Ext.refl _ _)).2 hlt2
    cases e
    have g1 : ∀ W, Sv.ok dRn W (some ⟨b, o, none⟩, n, c) xs → ∃ l, l.length = 3 ∧ (∀ j v, l[j]? = some v → W.cell? ⟨b, o + i * 3 + j, none⟩ = some v) ∧ l = rnC xs[i] := fun W hW => by
      obtain ⟨b'', o'', e, cs, hk, hl, hc⟩ := rd_get1 hW hlt
      cases e
      exact ⟨cs, hl, hc, hk⟩
    have g2 : ∀ W, Sv.ok dRn W (some ⟨b', o', none⟩, n, c') ys → ∃ l, l.length = 3 ∧ (∀ j v, l[j]? = some v → W.cell? ⟨b', o' + i * 3 + j, none⟩ = some v) ∧ l = rnC ys[i] := fun W hW => by
      obtain ⟨b'', o'', e, cs, hk, hl, hc⟩ := rd_get1 hW hlt2
      cases e
      exact ⟨cs, hl, hc, hk⟩
    generalize xs[i] = x at g1 hstep hno
    generalize ys[i] = y at g2 hstep hno
    simp [hN, hltn]
    refine drawK ok mixed (by kernel_rfl) ?_
    simp (maxSteps := 2000000) -implicitDefEqProofs [hN, hltn]
    refine ⟨?_, ?_⟩
    · refine loadA ok rfl rfl rfl rfl (fun l W => l = rnC x) (fun W hW => by first | exact g1 W hW.2.1 | exact g1 W hW.2.2.1) ?_
      rintro l W _ rfl _
      simp (maxSteps := 2000000) -implicitDefEqProofs [hN, hltn]
      refine loadA ok rfl rfl rfl rfl (fun l W => l = rnC y) (fun W hW => by first | exact g2 W hW.2.2 | exact g2 W hW.2.2.2) ?_
      rintro l W _ rfl _
      simp (maxSteps := 2000000) -implicitDefEqProofs [hN, hltn]
      focus
        refine call0 ok rfl rfl rfl (fun w I hI hG => rnOne0 w I hI x y) fun _ W _ => ?_
        by_cases hxy : x = y
        · rw [tB_true hxy]
          simp (maxSteps := 2000000) -implicitDefEqProofs [hN, e6]
          exact next (i + 1) _ _ (by omega) (fun W h => ⟨⟨hltn, hstep hxy⟩, by first | exact h.2 | exact h.2.2 | exact h.2.2.2 | exact h.2.2.2.2⟩) (by simp)
        · rw [tB_false hxy]
          rw [tB_false (hno hxy)] at hC
          simp (maxSteps := 2000000) -implicitDefEqProofs [hN]
          exact ret0 hC () rfl fun _ _ _ => trivial
    · refine loadA ok rfl rfl rfl rfl (fun l W => l = rnC y) (fun W hW => by first | exact g2 W hW.2.2 | exact g2 W hW.2.2.2) ?_
      rintro l W _ rfl _
      simp (maxSteps := 2000000) -implicitDefEqProofs [hN, hltn]
      refine loadA ok rfl rfl rfl rfl (fun l W => l = rnC x) (fun W hW => by first | exact g1 W hW.2.1 | exact g1 W hW.2.2.1) ?_
      rintro l W _ rfl _
      simp (maxSteps := 2000000) -implicitDefEqProofs [hN, hltn]
      focus
        refine call0 ok rfl rfl rfl (fun w I hI hG => rnOne0 w I hI x y) fun _ W _ => ?_
        by_cases hxy : x = y
        · rw [tB_true hxy]
          simp (maxSteps := 2000000) -implicitDefEqProofs [hN, e6]
          exact next (i + 1) _ _ (by omega) (fun W h => ⟨⟨hltn, hstep hxy⟩, by first | exact h.2 | exact h.2.2 | exact h.2.2.2 | exact h.2.2.2.2⟩) (by simp)
        · rw [tB_false hxy]
          rw [tB_false (hno hxy)] at hC
          simp (maxSteps := 2000000) -implicitDefEqProofs [hN]
          exact ret0 hC () rfl fun _ _ _ => trivial
  · have e1 : xs = ys := by
      rw [← List.take_of_length_le (l := xs) (i := i) (by omega), hpre, List.take_of_length_le (by omega)]
    rw [tB_true e1] at hC
    have hge2 : ¬ i < n := by omega
    simp [hN, hge2]
    exact ret0 hC () rfl fun _ _ _ => trivial
end Go.Proofs.YtbbaoeidobdblaaGreat.Sx

/- Sx, part 4: the rest of the simple operations. -/
import Derived.Test.YtfmkpkmhhlakoaaSxc
set_option linter.unusedVariables false
set_option linter.unusedSimpArgs false
namespace Go.Proofs.Ytfmkpkmhhlakoaa.Sx
open Go

/-- The cells that a thing of one's own has. -/
def cellsB : Res → Option (Nat × List CV)
  | .box g _ cs => some (g, cs)
  | .row (some ⟨g, 0, none⟩) _ _ _ _ cs => some (g, cs)
  | _ => none
def CellsOK (rs : List (Nat × Res)) (w : World) : Prop := ∀ k r g cs, look k rs = some r → cellsB r = some (g, cs) → ∀ j, j < cs.length → w.cell? ⟨g, j, none⟩ = some (cs.getD j (.v undef)).val
theorem holds_cells {r : Res} {S : Nat → Prop} {w : World} (h : r.holds S w) {g : Nat} {cs : List CV} (hr : cellsB r = some (g, cs)) (j : Nat) (hj : j < cs.length) : w.cell? ⟨g, j, none⟩ = some (cs.getD j (.v undef)).val := by
  unfold cellsB at hr
  split at hr
  · cases hr
    rw [cell_of_row w g j _ _ _ h.2]
    simp [hj]
  · rename_i n c T sz cs'
    cases hr
    have h1 := h.2
    have h2 : cs.length = n * sz := by simpa using h1.1
    rw [h1.cellAt j (by omega)]
    simp [hj]
  · cases hr
theorem J.ok {C : Ctx} {m : Mem} {w : World} (h : J C m w) : CellsOK m.rs w := by
  obtain ⟨I, F, h⟩ := h
  exact fun k r g cs hl hr j hj => holds_cells (h.own _ (look_mem hl)) hr j hj
def evLoad (i : TI) (g o : Nat) (r : Option Res) : Yl :=
  match r with
  | none => none
  | some r =>
    match cellsB r with
    | none => none
    | some (g', cs) => some (g = g' ∧ o + i.sz ≤ cs.length ∧ (i.agg = true ∨ i.sz = 1), match i.agg with | true => .ag ((cs.drop o).take i.sz) | false => .c (cs.getD o (.v undef)))
theorem evLoad_ok {P : Program} {t : TypeId} {i : TI} (hi : TIok P t i) {rs : List (Nat × Res)} {w : World} (hC : CellsOK rs w) {k g o : Nat} {c : Prop} {x : SV} (h : evLoad i g o (look k rs) = some (c, x)) (hc : c) : (loadVar t ⟨g, o, none⟩).run P w = .ok x.val w := by
  unfold evLoad at h
  split at h
  · cases h
  · rename_i r hr
    split at h
    · cases h
    · rename_i g' cs hb
      simp only [Option.some.injEq, Prod.mk.injEq] at h
      obtain ⟨rfl, rfl⟩ := h
      obtain ⟨rfl, ho, hz⟩ := hc
      have hcl := hC k r g cs hr hb
      cases ha : i.agg with
      | true => exact load_agg hi hcl ho ha
      | false =>
        have h1 : i.sz = 1 := by rcases hz with hz | hz; · rw [ha] at hz; cases hz
                                 · exact hz
        exact load_one hi (hcl o (by omega)) ha
def evUn (op : UnOp) (x : SV) : Yl :=
  match op, x with
  | .not, .c (.b b) => some (True, vb (!b))
  | .not, .c (.v (.bool b)) => some (True, vb (!b))
  | .neg, .c (.v (.int k n)) => some (True, vi k (k.wrap (0 - n)))
  | .xor, .c (.v (.int k n)) => some (True, vi k (k.wrap (BitVec.ofInt k.bits (if k.signed then -1 else k.max) ^^^ BitVec.ofInt k.bits n).toNat))
  | _, _ => none
theorem evUn_ok {P : Program} {op : UnOp} {x s : SV} {c : Prop} (h : evUn op x = some (c, s)) (w : World) : (Op.unary op x.val).run P w = .ok s.val w := by
  unfold evUn at h
  split at h <;> simp only [Option.some.injEq, Prod.mk.injEq, reduceCtorEq] at h <;> obtain ⟨rfl, rfl⟩ := h <;> simp [Op.unary, Op.intArith, Op.intBits, SV.val, CV.val]
def evConv (i : TI) (x : SV) : Yl :=
  match x with
  | .c (.v (.int _ n)) => some (i.kd = 8, vi (kdec i.el) ((kdec i.el).wrap n))
  | .c (.v (.string s)) => (match i.kd with | 4 => some (i.kd = 4, .c (.v (.string s))) | _ => none)
  | _ => none
theorem evConv_ok {P : Program} {src dst : TypeId} {i j : TI} (hi : TIok P dst i) (hj : TIok P src j) {x s : SV} {c : Prop} (h : evConv i x = some (c, s)) (hc : c) (w : World) : (convert src dst x.val).run P w = .ok s.val w := by
  obtain ⟨d, hd, _⟩ := hj.g_under
  unfold evConv at h
  split at h
  · simp only [Option.some.injEq, Prod.mk.injEq, reduceCtorEq] at h
    obtain ⟨rfl, rfl⟩ := h
    have := hi.g_int hc
    unfold convert
    simp [underlying, hd, this, SV.val, CV.val, Conv.intToInt]
  · split at h <;> simp only [Option.some.injEq, Prod.mk.injEq, reduceCtorEq] at h
    obtain ⟨rfl, rfl⟩ := h
    have := hi.g_string hc
    unfold convert
    simp [underlying, hd, this, SV.val, CV.val]
  · cases h
/-- Where a field stands: its offset, how many cells, and whether it is more than one value. -/
def fld (i : TI) (f : Nat) : Option (Nat × Nat × Bool) := i.fl[f]?
theorem fld_ok {P : Program} {t : TypeId} {i : TI} (hi : TIok P t i) (hk : i.kd = 1) {f o z : Nat} {b : Bool} (h : fld i f = some (o, z, b)) : ∃ fs x, P.underlying t = some (.struct fs) ∧ fs[f]? = some x ∧ x.offset = o ∧ szB P x.type = z ∧ aggB P x.type = some b := by
  obtain ⟨fs, hu, hf⟩ := hi.g_struct hk
  unfold fld at h
  have h2 := congrArg (fun l => l[f]?) hf
  simp only [List.getElem?_map, h, Option.map_some] at h2
  cases hx : fs.toList[f]? with
  | none => rw [hx] at h2; cases h2
  | some x =>
    rw [hx] at h2
    simp only [Option.map_some, Option.some.injEq, Prod.mk.injEq] at h2
    exact ⟨fs, x, hu, by simpa using hx, h2.1, h2.2.1, h2.2.2⟩
theorem sz_run {P : Program} {t : TypeId} {z : Nat} (h : szB P t = z) (h0 : z ≠ 0) (w : World) : (sizeOf t).run P w = .ok z w := by
  unfold szB at h
  split at h
  · rename_i x hx
    simp [Go.sizeOf, typeInfo, hx, h]
  · exact absurd h.symm h0
theorem agg_run {P : Program} {t : TypeId} {b : Bool} (h : aggB P t = some b) (w : World) : (isAgg t).run P w = .ok b w := by
  unfold aggB at h
  unfold Go.isAgg
  split at h <;> simp_all [underlying]
theorem part_run {P : Program} {t : TypeId} {b : Bool} {z o : Nat} (hz : szB P t = z) (h0 : z ≠ 0) (ha : aggB P t = some b) (x : SV) {cs : Array Value} (hx : x.val = .agg cs) (ho : o + z ≤ (cellsOf x).length) (h1 : b = true ∨ z = 1) (w : World) :
    (part t cs o).run P w = .ok (match b with | true => SV.ag (((cellsOf x).drop o).take z) | false => .c ((cellsOf x).getD o (.v undef))).val w := by
  have hc := cellsOf_val x
  rw [hx] at hc
  simp only [Value.cells] at hc
  unfold part
  cases b with
  | true =>
    simp only [Sem.run_bind, agg_run ha, Result.andThen_ok, if_true, sz_run hz h0, Sem.run_pure, SV.val]
    congr 2
    apply Array.ext'
    rw [Array.toList_extract, ← hc]
    simp [List.extract, List.map_take, List.map_drop]
  | false =>
    have h2 : z = 1 := by rcases h1 with h | h; · cases h
                          · exact h
    have hlt : o < (cellsOf x).length := by omega
    have : cs[o]? = some ((cellsOf x).getD o (.v undef)).val := by
      rw [← Array.getElem?_toList, ← hc]
      simp [hlt]
    simp only [Sem.run_bind, agg_run ha, Result.andThen_ok, Bool.false_eq_true, if_false, this, Sem.run_pure, SV.val]
def evFieldA (i : TI) (x : SV) (f : Nat) : Yl :=
  match fld i f, x with
  | some (o, z, _), .c (.bp k g off) => some (i.kd = 1 ∧ z ≠ 0, .c (.bp k g (off + o)))
  | some (o, z, _), .c (.v (.pointer (some ⟨b, off, none⟩))) => some (i.kd = 1 ∧ z ≠ 0, .c (.v (.pointer (some ⟨b, off + o, none⟩))))
  | _, _ => none
theorem evFieldA_ok {P : Program} {t : TypeId} {i : TI} (hi : TIok P t i) {x s : SV} {f : Nat} {c : Prop} (h : evFieldA i x f = some (c, s)) (hc : c) (w : World) : (Instr.fieldAt t x.val f).run P w = .ok s.val w := by
  unfold evFieldA at h
  split at h
  · rename_i o z b k g off hf
    simp only [Option.some.injEq, Prod.mk.injEq] at h
    obtain ⟨rfl, rfl⟩ := h
    obtain ⟨fs, y, hu, hy, h1, h2, h3⟩ := fld_ok hi hc.1 hf
    unfold Instr.fieldAt
    simp [underlying, hu, hy, SV.val, CV.val, Instr.sureAddr, fieldPlace, sz_run h2 hc.2, hc.2, addr_add, h1]
  · rename_i o z b g off hf
    simp only [Option.some.injEq, Prod.mk.injEq] at h
    obtain ⟨rfl, rfl⟩ := h
    obtain ⟨fs, y, hu, hy, h1, h2, h3⟩ := fld_ok hi hc.1 hf
    unfold Instr.fieldAt
    simp [underlying, hu, hy, SV.val, CV.val, Instr.sureAddr, fieldPlace, sz_run h2 hc.2, hc.2, addr_add, h1]
  · cases h
def evField (i : TI) (x : SV) (f : Nat) : Yl :=
  match fld i f, x with
  | some (o, z, b), .ag l => some (i.kd = 1 ∧ z ≠ 0 ∧ o + z ≤ l.length ∧ (b = true ∨ z = 1), match b with | true => SV.ag ((l.drop o).take z) | false => .c (l.getD o (.v undef)))
  | some (o, z, b), .c (.v (.agg a)) => some (i.kd = 1 ∧ z ≠ 0 ∧ o + z ≤ (a.toList.map CV.v).length ∧ (b = true ∨ z = 1), match b with | true => SV.ag (((a.toList.map CV.v).drop o).take z) | false => .c ((a.toList.map CV.v).getD o (.v undef)))
  | _, _ => none
theorem evField_ok {P : Program} {t : TypeId} {i : TI} (hi : TIok P t i) {x s : SV} {f : Nat} {c : Prop} (h : evField i x f = some (c, s)) (hc : c) (w : World) : (Instr.field t x.val f).run P w = .ok s.val w := by
  unfold evField at h
  split at h
  · rename_i o z b l hf
    simp only [Option.some.injEq, Prod.mk.injEq] at h
    obtain ⟨rfl, rfl⟩ := h
    obtain ⟨fs, y, hu, hy, rfl, h2, h3⟩ := fld_ok hi hc.1 hf
    unfold Instr.field
    have := part_run h2 hc.2.1 h3 (.ag l) rfl hc.2.2.1 hc.2.2.2 w
    simp only [SV.val, cellsOf] at this ⊢
    simp [underlying, hu, hy, asAgg, this]
  · rename_i o z b a hf
    simp only [Option.some.injEq, Prod.mk.injEq] at h
    obtain ⟨rfl, rfl⟩ := h
    obtain ⟨fs, y, hu, hy, rfl, h2, h3⟩ := fld_ok hi hc.1 hf
    unfold Instr.field
    have := part_run h2 hc.2.1 h3 (.c (.v (.agg a))) rfl hc.2.2.1 hc.2.2.2 w
    simp only [SV.val, CV.val, cellsOf] at this ⊢
    simp [underlying, hu, hy, asAgg, this]
  · cases h
def bts (s : ByteArray) (i : Int) : Int := ((s[i.toNat]?).map (fun b => (b.toNat : Int))).getD 0
def evIdxA (i e : TI) (x y : SV) : Yl :=
  match x, y with
  | .c (.v (.slice (some ⟨b, o, none⟩) n _)), .c (.v (.int _ j)) => some (i.kd = 3 ∧ 0 ≤ j ∧ j < n, .c (.v (.pointer (some ⟨b, o + j.toNat * e.sz, none⟩))))
  | .c (.rw k (some ⟨b, o, none⟩) n _), .c (.v (.int _ j)) => some (i.kd = 3 ∧ 0 ≤ j ∧ j < n, .c (.bp k b (o + j.toNat * e.sz)))
  | .c (.bp k g o), .c (.v (.int _ j)) => some (i.kd = 2 ∧ 0 ≤ j ∧ j < i.n, .c (.bp k g (o + j.toNat * e.sz)))
  | _, _ => none
theorem evIdxA_ok {P : Program} {t : TypeId} {i e : TI} (hi : TIok P t i) (he : TIok P i.el e) {x y s : SV} {c : Prop} (h : evIdxA i e x y = some (c, s)) (hc : c) (w : World) : (Instr.indexAt t x.val y.val).run P w = .ok s.val w := by
  unfold evIdxA at h
  split at h <;> simp only [Option.some.injEq, Prod.mk.injEq, reduceCtorEq] at h <;> obtain ⟨rfl, rfl⟩ := h
  · have hu := hi.g_slice hc.1
    unfold Instr.indexAt
    simp [underlying, hu, SV.val, CV.val, asIntOf, hc.2.1, hc.2.2, he.g_sizeOf, addr_add]
  · have hu := hi.g_slice hc.1
    unfold Instr.indexAt
    simp [underlying, hu, SV.val, CV.val, asIntOf, hc.2.1, hc.2.2, he.g_sizeOf, addr_add]
  · have hu := hi.g_array hc.1
    unfold Instr.indexAt
    simp [underlying, hu, SV.val, CV.val, asIntOf, hc.2.1, hc.2.2, he.g_sizeOf, addr_add, Instr.sureAddr]
def evIdx (i : TI) (x y : SV) : Yl :=
  match x, y with
  | .c (.v (.string s)), .c (.v (.int _ j)) => some (i.kd = 4 ∧ 0 ≤ j ∧ j < s.size, vi .u8 (bts s j))
  | _, _ => none
theorem evIdx_ok {P : Program} {t : TypeId} {i : TI} (hi : TIok P t i) {x y s : SV} {c : Prop} (h : evIdx i x y = some (c, s)) (hc : c) (w : World) : (Instr.index t x.val y.val).run P w = .ok s.val w := by
  unfold evIdx at h
  split at h <;> simp only [Option.some.injEq, Prod.mk.injEq, reduceCtorEq] at h
  rename_i s k j
  obtain ⟨rfl, rfl⟩ := h
  have hu := hi.g_string hc.1
  have hlt : j.toNat < s.size := by omega
  unfold Instr.index
  simp [underlying, hu, SV.val, CV.val, asIntOf, hc.2.1, bts, hlt]
end Go.Proofs.Ytfmkpkmhhlakoaa.Sx

/- Sx, part 2: what single operations yield: those that hang on slots and on blocks of one's own alone. -/
import Derived.Test.YtfmkpkmhhlakoaaSxa
import Derived.Laws.Cells
import Derived.Laws.Tables
import Derived.WalkKit
set_option linter.unusedVariables false
set_option linter.unusedSimpArgs false
namespace Go.Proofs.Ytfmkpkmhhlakoaa.Sx
open Go

/-- What is asked of a type. kd: 0 any, 1 struct, 2 array, 3 slice, 4 string, 5 map, 6 pointer, 7 bool, 8 int. -/
structure TI where
  kd : Nat
  sz : Nat
  bt : Nat
  zero : List Value
  fl : List (Nat × Nat × Bool)
  el : Nat
  n : Nat
inductive Ty where
  | n
  | b (l : Ty) (k : Nat) (x : TI) (r : Ty)
def tf (t : Nat) : Ty → Option TI
  | .n => none
  | .b l k x r => if t = k then some x else if t < k then tf t l else tf t r
def TI.agg (i : TI) : Bool := i.kd == 1 || i.kd == 2
def aggB (P : Program) (t : TypeId) : Option Bool := match P.underlying t with | some (.struct _) | some (.array _ _) => some true | some _ => some false | none => none
def szB (P : Program) (t : TypeId) : Nat := match P.info? t with | some i => i.size | none => 0
def kcode : IntKind → Nat
  | .i8 => 0 | .i16 => 1 | .i32 => 2 | .i64 => 3 | .u8 => 4 | .u16 => 5 | .u32 => 6 | .u64 => 7
def kdec : Nat → IntKind
  | 0 => .i8 | 1 => .i16 | 2 => .i32 | 3 => .i64 | 4 => .u8 | 5 => .u16 | 6 => .u32 | _ => .u64
theorem kdec_code (k : IntKind) : kdec (kcode k) = k := by cases k <;> rfl
def undB (P : Program) (t : TypeId) (i : TI) : Bool :=
  match P.underlying t with
  | some (.struct fs) => i.kd == 1 && (fs.toList.map fun f => (f.offset, szB P f.type, aggB P f.type)) == i.fl.map fun x => (x.1, x.2.1, some x.2.2)
  | some (.array n e) => i.kd == 2 && i.n == n && i.el == e
  | some (.slice e) => i.kd == 3 && i.el == e
  | some .string => i.kd == 4
  | some (.map _ _) => i.kd == 5
  | some (.pointer e) => i.kd == 6 && i.el == e
  | some .bool => i.kd == 7
  | some (.int k) => i.kd == 8 && i.el == kcode k
  | some _ => i.kd == 0
  | none => false
structure TIok (P : Program) (t : TypeId) (i : TI) : Prop where
  info : (P.info? t).map (fun x => (x.size, x.bytes)) = some (i.sz, i.bt)
  zero : ((P.info? t).bind (·.zero)).map (fun z => z.cells.toList) = some i.zero
  und : undB P t i = true
def TyOk (P : Program) : Ty → Prop
  | .n => True
  | .b l k x r => TyOk P l ∧ TIok P k x ∧ TyOk P r
theorem TyOk.get {P : Program} {t : TypeId} {i : TI} : ∀ {T : Ty}, TyOk P T → tf t T = some i → TIok P t i
  | .n, _, h => by cases h
  | .b l k x r, ok, h => by
    simp only [tf] at h
    by_cases e : t = k
    · subst e
      rw [if_pos rfl] at h
      cases h
      exact ok.2.1
    · rw [if_neg e] at h
      split at h
      · exact TyOk.get ok.1 h
      · exact TyOk.get ok.2.2 h
section
variable {P : Program} {t : TypeId} {i : TI}
theorem TIok.g_some (h : TIok P t i) : ∃ x, P.info? t = some x ∧ x.size = i.sz ∧ x.bytes = i.bt ∧ ∃ z, x.zero = some z ∧ z.cells.toList = i.zero := by
  have h1 := h.info
  have h2 := h.zero
  cases hx : P.info? t with
  | none => rw [hx] at h1; cases h1
  | some x =>
    rw [hx] at h1 h2
    simp only [Option.map_some, Option.some.injEq, Prod.mk.injEq] at h1
    cases hz : x.zero with
    | none => simp [hz] at h2
    | some z => exact ⟨x, rfl, h1.1, h1.2, z, hz, by simpa [hz] using h2⟩
theorem TIok.g_sizeOf (h : TIok P t i) (w : World) : (sizeOf t).run P w = .ok i.sz w := by
  obtain ⟨x, hx, hs, _⟩ := h.g_some
  simp [Go.sizeOf, typeInfo, hx, hs]
theorem TIok.g_under (h : TIok P t i) : ∃ d, P.underlying t = some d ∧ (d matches .struct _ | .array _ _) = i.agg := by
  have hu := h.und
  unfold undB at hu
  unfold TI.agg
  cases hd : P.underlying t with
  | none => rw [hd] at hu; cases hu
  | some d =>
    refine ⟨d, rfl, ?_⟩
    rw [hd] at hu
    cases d <;> simp_all
theorem TIok.g_isAgg (h : TIok P t i) (w : World) : (isAgg t).run P w = .ok i.agg w := by
  obtain ⟨d, hd, ha⟩ := h.g_under
  rw [← ha]
  unfold Go.isAgg
  cases d <;> simp [underlying, hd]
theorem TIok.g_zeroValue (h : TIok P t i) (w : World) : ∃ z, (zeroValue t).run P w = .ok z w ∧ z.cells.toList = i.zero := by
  obtain ⟨x, hx, _, _, z, hz, hc⟩ := h.g_some
  exact ⟨z, by simp [Go.zeroValue, typeInfo, hx, hz], hc⟩
theorem TIok.g_struct (h : TIok P t i) (hk : i.kd = 1) : ∃ fs, P.underlying t = some (.struct fs) ∧ (fs.toList.map fun f => (f.offset, szB P f.type, aggB P f.type)) = i.fl.map fun x => (x.1, x.2.1, some x.2.2) := by
  have hu := h.und
  unfold undB at hu
  cases hd : P.underlying t with
  | none => rw [hd] at hu; cases hu
  | some d =>
    rw [hd] at hu
    cases d <;> simp_all
theorem TIok.g_array (h : TIok P t i) (hk : i.kd = 2) : P.underlying t = some (.array i.n i.el) := by
  have hu := h.und
  unfold undB at hu
  cases hd : P.underlying t with
  | none => rw [hd] at hu; cases hu
  | some d =>
    rw [hd] at hu
    cases d <;> simp_all
theorem TIok.g_slice (h : TIok P t i) (hk : i.kd = 3) : P.underlying t = some (.slice i.el) := by
  have hu := h.und
  unfold undB at hu
  cases hd : P.underlying t with
  | none => rw [hd] at hu; cases hu
  | some d =>
    rw [hd] at hu
    cases d <;> simp_all
theorem TIok.g_string (h : TIok P t i) (hk : i.kd = 4) : P.underlying t = some .string := by
  have hu := h.und
  unfold undB at hu
  cases hd : P.underlying t with
  | none => rw [hd] at hu; cases hu
  | some d =>
    rw [hd] at hu
    cases d <;> simp_all
theorem TIok.g_pointer (h : TIok P t i) (hk : i.kd = 6) : P.underlying t = some (.pointer i.el) := by
  have hu := h.und
  unfold undB at hu
  cases hd : P.underlying t with
  | none => rw [hd] at hu; cases hu
  | some d =>
    rw [hd] at hu
    cases d <;> simp_all
theorem TIok.g_bool (h : TIok P t i) (hk : i.kd = 7) : P.underlying t = some .bool := by
  have hu := h.und
  unfold undB at hu
  cases hd : P.underlying t with
  | none => rw [hd] at hu; cases hu
  | some d =>
    rw [hd] at hu
    cases d <;> simp_all
theorem TIok.g_int (h : TIok P t i) (hk : i.kd = 8) : P.underlying t = some (.int (kdec i.el)) := by
  have hu := h.und
  unfold undB at hu
  cases hd : P.underlying t with
  | none => rw [hd] at hu; cases hu
  | some d =>
    rw [hd] at hu
    cases d <;> simp_all [kdec_code]
end

theorem addr_add (g o n : Nat) : (⟨g, o, none⟩ : Addr).add n = ⟨g, o + n, none⟩ := by
  unfold Addr.add
  split
  · rename_i h; subst h; rfl
  · rfl
/-- Cells of a value. -/
def cellsOf : SV → List CV
  | .ag l => l
  | .c (.v (.agg a)) => a.toList.map .v
  | .c x => [x]
theorem cellsOf_val (s : SV) : ((cellsOf s).map CV.val) = s.val.cells.toList := by
  cases s with
  | ag l => simp [cellsOf, SV.val, Value.cells]
  | c x =>
    cases x with
    | v x => cases x <;> simp [cellsOf, SV.val, CV.val, Value.cells, Function.comp_def]
    | b p => rfl
    | bp k g o => rfl
    | rw k a n c => rfl
/-- A variable is loaded. -/
theorem load_agg {P : Program} {t : TypeId} {i : TI} (h : TIok P t i) {w : World} {g o : Nat} {cs : List CV} (hc : ∀ j, j < cs.length → w.cell? ⟨g, j, none⟩ = some (cs.getD j (.v undef)).val) (ho : o + i.sz ≤ cs.length) (ha : i.agg = true) :
    (loadVar t ⟨g, o, none⟩).run P w = .ok (SV.ag ((cs.drop o).take i.sz)).val w := by
  unfold loadVar
  have hr := run_loadCellsFrom (P := P) (w := w) ⟨g, o, none⟩ (fun j => (cs.getD (o + j) (.v undef)).val) i.sz 0 #[] (fun j hj => by
    rw [addr_add]
    simpa using hc (o + j) (by omega))
  have hr' : (loadCells ⟨g, o, none⟩ i.sz).run P w = _ := hr
  simp only [Sem.run_bind, h.g_isAgg, ha, Result.andThen_ok, if_true, h.g_sizeOf, hr', Sem.run_pure]
  simp only [SV.val]
  congr 2
  apply Array.ext
  · simp; omega
  · intro j h1 h2
    simp at h1 h2
    simp [List.getD, show o + j < cs.length by omega]
theorem load_one {P : Program} {t : TypeId} {i : TI} (h : TIok P t i) {w : World} {a : Addr} {v : Value} (hc : w.cell? a = some v) (ha : i.agg = false) : (loadVar t a).run P w = .ok v w := by
  unfold loadVar
  simp only [Sem.run_bind, h.g_isAgg, ha, Result.andThen_ok, Bool.false_eq_true, if_false, load, Sem.run, hc]
/-- Cells are written, one by one. -/
def upd (cs : List CV) (o : Nat) : List CV → List CV
  | [] => cs
  | x :: r => upd (cs.set o x) (o + 1) r
theorem upd_length (o : Nat) (l : List CV) : ∀ cs : List CV, (upd cs o l).length = cs.length := by
  induction l generalizing o with
  | nil => exact fun _ => rfl
  | cons x r ih => intro cs; rw [upd, ih]; simp
def one : Value → Prop
  | .agg _ => False
  | .tuple _ => False
  | _ => True
def ones : List CV → Prop
  | [] => True
  | x :: r => one x.val ∧ ones r
theorem storeCells_run {P : Program} (g o : Nat) (T : TypeId) : ∀ (l : List CV) (j : Nat) (cs : List CV) (w : World), w.heap[g]? = some (.cells (cs.map CV.val).toArray T (0, 0)) → o + j + l.length ≤ cs.length → ones l →
    ∃ w', (storeCells ⟨g, o, none⟩ (l.map CV.val) j).run P w = .ok () w' ∧ Ext (fun b => b ≠ g) w w' ∧ w'.heap[g]? = some (.cells ((upd cs (o + j) l).map CV.val).toArray T (0, 0))
  | [], j, cs, w, hg, ho, h1 => ⟨w, rfl, Ext.refl _ _, hg⟩
  | x :: r, j, cs, w, hg, ho, h1 => by
    have hlen : o + j < cs.length := by simp at ho; omega
    have hc : w.cell? ⟨g, o + j, none⟩ = some (cs.getD (o + j) (.v undef)).val := by
      rw [cell_of_row w g (o + j) _ _ _ hg]
      simp [hlen]
    have hf : w.frozen? ⟨g, o + j, none⟩ = false := by simp [World.frozen?, hg]
    have hst : (w.setCell ⟨g, o + j, none⟩ x.val).heap[g]? = some (.cells ((cs.set (o + j) x).map CV.val).toArray T (0, 0)) := by
      have hgl := (Array.getElem?_eq_some_iff.1 hg).1
      simp only [World.setCell, Array.getElem?_modify, if_true, hg, Option.map_some]
      simp [List.map_set]
    obtain ⟨w', hr, he, hh⟩ := storeCells_run g o T r (j + 1) (cs.set (o + j) x) (w.setCell ⟨g, o + j, none⟩ x.val) hst (by simp at ho ⊢; omega) h1.2
    refine ⟨w', ?_, (Ext.setCell (fun b => b ≠ g) w ⟨g, o + j, none⟩ x.val (fun b hb => hb)).trans he fun _ hx => hx, hh⟩
    have hone := h1.1
    have hs : (store ((⟨g, o, none⟩ : Addr).add j) x.val).run P w = .ok () (w.setCell ⟨g, o + j, none⟩ x.val) := by
      rw [addr_add]
      unfold store
      cases hx : x.val <;> simp_all [one, Sem.run]
    simp only [List.map_cons, storeCells, Sem.run_bind, hs, Result.andThen_ok]
    exact hr
theorem store_run {P : Program} {t : TypeId} {i : TI} (h : TIok P t i) {w : World} {g o : Nat} {T : TypeId} {cs : List CV} (hg : w.heap[g]? = some (.cells (cs.map CV.val).toArray T (0, 0))) (s : SV) (hl : (cellsOf s).length = i.sz) (ho : o + i.sz ≤ cs.length) (h1 : ones (cellsOf s)) :
    ∃ w', (storeVar t ⟨g, o, none⟩ s.val).run P w = .ok () w' ∧ Ext (fun b => b ≠ g) w w' ∧ w'.heap[g]? = some (.cells ((upd cs o (cellsOf s)).map CV.val).toArray T (0, 0)) := by
  obtain ⟨w', hr, he, hh⟩ := storeCells_run (P := P) g o T (cellsOf s) 0 cs w hg (by omega) h1
  rw [cellsOf_val] at hr
  have hsz : s.val.cells.size = i.sz := by
    rw [← hl, ← List.length_map (as := cellsOf s) CV.val, cellsOf_val, Array.length_toList]
  refine ⟨w', ?_, he, hh⟩
  unfold storeVar
  simp only [Sem.run_bind, h.g_sizeOf, Result.andThen_ok, hsz, ne_eq, not_true, if_false, Sem.run_pure]
  exact hr
end Go.Proofs.Ytfmkpkmhhlakoaa.Sx

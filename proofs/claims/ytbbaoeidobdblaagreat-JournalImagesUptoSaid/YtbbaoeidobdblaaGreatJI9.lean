/- Laid together: Rdk, JournalImages. -/
import Derived.Test.YtbbaoeidobdblaaGreatJI8
import Derived.Test.YtbbaoeidobdblaaGreatRows
import Derived.ChangeArms
import Derived.JoinedCond
/- What comes in, read: numbers, texts, bytes, slices of such, entries, runs, inodes, deeds (their bulk is bounded). -/
set_option linter.unusedVariables false
set_option linter.unusedSimpArgs false
namespace Go.Proofs.YtbbaoeidobdblaaGreat.Rdk
open Go Go.Proofs.YtbbaoeidobdblaaGreat.Sx
theorem one_le {H : Type} (d : DataW H) : 1 ≤ Rows.uptoBulk d := by
  cases d with
  | lit l => cases l <;> simp [Rows.uptoBulk]
  | nil => simp [Rows.uptoBulk]
  | ptr d => simp [Rows.uptoBulk]
  | slice elems spare => simp [Rows.uptoBulk]
  | agg parts => simp [Rows.uptoBulk]
  | iface t d => simp [Rows.uptoBulk]
  | map entries => simp [Rows.uptoBulk]
  | held h => simp [Rows.uptoBulk]
theorem part_le {H : Type} {l : List (DataW H)} {i : Nat} {d : DataW H} (h : l[i]? = some d) : Rows.uptoBulk d ≤ Rows.uptoBulkAll l := by
  induction l generalizing i with
  | nil => simp at h
  | cons x r ih =>
    simp only [Rows.uptoBulkAll]
    cases i with
    | zero => simp at h; subst h; omega
    | succ i => have := ih (by simpa using h); omega
/-- Two parts of a whole. -/
theorem part_two {H : Type} {l : List (DataW H)} {i j : Nat} {d e : DataW H} (hij : i < j) (h : l[i]? = some d) (k : l[j]? = some e) : Rows.uptoBulk d + Rows.uptoBulk e ≤ Rows.uptoBulkAll l := by
  induction l generalizing i j with
  | nil => simp at h
  | cons x r ih =>
    obtain ⟨j, rfl⟩ : ∃ q, j = q + 1 := ⟨j - 1, by omega⟩
    simp only [Rows.uptoBulkAll]
    cases i with
    | zero =>
      simp at h
      subst h
      have := part_le (l := r) (i := j) (by simpa using k)
      omega
    | succ i => have := ih (i := i) (j := j) (by omega) (by simpa using h) (by simpa using k); omega
theorem part_three {H : Type} {l : List (DataW H)} {i j k : Nat} {a b c : DataW H} (hij : i < j) (hjk : j < k) (h : l[i]? = some a) (h2 : l[j]? = some b) (h3 : l[k]? = some c) : Rows.uptoBulk a + Rows.uptoBulk b + Rows.uptoBulk c ≤ Rows.uptoBulkAll l := by
  induction l generalizing i j k with
  | nil => simp at h
  | cons x r ih =>
    obtain ⟨j, rfl⟩ : ∃ q, j = q + 1 := ⟨j - 1, by omega⟩
    obtain ⟨k, rfl⟩ : ∃ q, k = q + 1 := ⟨k - 1, by omega⟩
    simp only [Rows.uptoBulkAll]
    cases i with
    | zero =>
      simp at h
      subst h
      have := part_two (l := r) (i := j) (j := k) (by omega) (by simpa using h2) (by simpa using h3)
      omega
    | succ i => have := ih (i := i) (j := j) (k := k) (by omega) (by omega) (by simpa using h) (by simpa using h2) (by simpa using h3); omega
/-- A kind of things can be read off cells of a type. -/
structure RdT (P : Program) (w : World) {α : Type} (t : TypeId) (d : Dt α) (fit : α → Prop) (sz : α → Nat) : Prop where
  get : ∀ {H : Type} {enc : TypeId × Value → H} {base : Nat} {spare : Nat → Bool} {held : Bool} {n : Nat} {cs : List Value} {y : DataW H × List MemPlace}, DataW.trod enc P w base spare held n t cs = some y → Rows.uptoBulk y.1 ≤ 1048576 → ∃ x, d.K w x cs ∧ fit x ∧ sz x ≤ Rows.uptoBulk y.1
theorem wf_fit {n : Int} (h : (Lit.int .i64 n).wf = true) : fitI n := by
  simp [Lit.wf, IntKind.min, IntKind.max, IntKind.signed, IntKind.bits] at h
  unfold fitI
  omega
theorem rdByte {P : Program} {w : World} {t : TypeId} (ht : P.underlying t = some (.int .u8)) : RdT P w t dByte (fun x => 0 ≤ x ∧ x ≤ 255) (fun _ => 1) := ⟨fun {H enc base spare held n cs y} h hb => by
  obtain ⟨x, rfl, e, hw⟩ := DataW.trod_int ht h
  refine ⟨x, rfl, ?_, one_le _⟩
  simp [Lit.wf, IntKind.min, IntKind.max, IntKind.signed, IntKind.bits] at hw
  omega⟩
theorem fold_parts {α : Type} {H : Type} (Q : Nat → α → Prop) (sz : α → Nat) : ∀ (elems : List (DataW H × List MemPlace)) (i0 : Nat), (∀ k y, elems[k]? = some y → ∃ x, Q (i0 + k) x ∧ sz x ≤ Rows.uptoBulk y.1) → ∃ xs : List α, xs.length = elems.length ∧ (∀ k x, xs[k]? = some x → Q (i0 + k) x) ∧ sumN (xs.map sz) ≤ Rows.uptoBulkAll (elems.map (·.1))
  | [], i0, _ => ⟨[], rfl, fun k x h => by simp at h, Nat.le_refl _⟩
  | y :: r, i0, h => by
    obtain ⟨x, h1, h2⟩ := h 0 y rfl
    obtain ⟨xs, h3, h4, h5⟩ := fold_parts Q sz r (i0 + 1) fun k z hz => by
      have := h (k + 1) z (by simpa using hz)
      rw [show i0 + 1 + k = i0 + (k + 1) by omega]
      exact this
    refine ⟨x :: xs, by simp [h3], fun k z hz => ?_, ?_⟩
    · cases k with
      | zero => simp at hz; subst hz; exact h1
      | succ k =>
        have := h4 k z (by simpa using hz)
        rw [show i0 + (k + 1) = i0 + 1 + k by omega]
        exact this
    · simp only [List.map_cons, sumN_cons, Rows.uptoBulkAll]
      omega
theorem len_bulk {H : Type} (l : List (DataW H)) : l.length ≤ Rows.uptoBulkAll l := by
  induction l with
  | nil => simp [Rows.uptoBulkAll]
  | cons x r ih => have := one_le x; simp only [Rows.uptoBulkAll, List.length_cons]; omega
/-- A slice is read. -/
theorem rdSlice {P : Program} {w : World} {α : Type} {t e : TypeId} {d : Dt α} {fit : α → Prop} {sz : α → Nat} (R : RdT P w e d fit sz) (ht : P.underlying t = some (.slice e)) (hc : P.cellsOf e = d.sz) (h0 : 0 < d.sz)
    {H : Type} {enc : TypeId × Value → H} {base : Nat} {spare : Nat → Bool} {held : Bool} {n : Nat} {cs : List Value} {y : DataW H × List MemPlace} (h : DataW.trod enc P w base spare held n t cs = some y) (hb : Rows.uptoBulk y.1 ≤ 1048576) :
    ∃ (s : Sl) (xs : List α), cs = [.slice s.1 xs.length s.2] ∧ Sl.ok d w s xs ∧ (∀ x ∈ xs, fit x) ∧ sumN (xs.map sz) + 1 ≤ Rows.uptoBulk y.1 ∧ xs.length + 1 ≤ Rows.uptoBulk y.1 := by
  rcases DataW.trod_slice ht h with ⟨rfl, rfl⟩ | ⟨a, len, cap, elems, rest, m, rfl, rfl, rfl, h1, h2, h3, h4, h5, _, _⟩
  · exact ⟨(none, 0), [], rfl, ⟨Nat.le_refl _, Nat.zero_le _, rd_nil _ _ _⟩, fun x hx => absurd hx List.not_mem_nil, by simp [Rows.uptoBulk], by simp [Rows.uptoBulk]⟩
  · simp only [Rows.uptoBulk] at hb ⊢
    have hp : ∀ k y, elems[k]? = some y → ∃ x, (fun i x => fit x ∧ ∃ cs, d.K w x cs ∧ ∀ j, j < d.sz → w.cell? ((a.add (i * d.sz)).add j) = cs[j]?) (0 + k) x ∧ sz x ≤ Rows.uptoBulk y.1 := fun k y hy => by
      have hk : k < len := by rw [← h4]; exact (List.getElem?_eq_some_iff.1 hy).1
      have h6 := h5 k hk
      rw [hy, Option.bind_eq_some_iff] at h6
      obtain ⟨cs, h7, h8⟩ := h6
      have hyb : Rows.uptoBulk y.1 ≤ Rows.uptoBulkAll (elems.map (·.1)) := part_le (i := k) (by simp [hy])
      obtain ⟨x, k1, k2, k3⟩ := R.get h8 (by omega)
      obtain ⟨_, c1, c2⟩ := World.cells?_some h7
      rw [hc] at c2
      exact ⟨x, ⟨k2, cs, k1, by rw [Nat.zero_add]; exact c2⟩, k3⟩
    obtain ⟨xs, l1, l2, l3⟩ := fold_parts (fun i x => fit x ∧ ∃ cs, d.K w x cs ∧ ∀ j, j < d.sz → w.cell? ((a.add (i * d.sz)).add j) = cs[j]?) sz elems 0 hp
    have hlen := len_bulk (elems.map (·.1))
    rw [List.length_map] at hlen
    have hxl : xs.length = len := by rw [l1, h4]
    refine ⟨(some a, cap), xs, by rw [hxl], ⟨by simp only; omega, by omega, fun hne => ?_⟩, fun x hx => ?_, by omega, by omega⟩
    · have hpos : 0 < xs.length := List.length_pos_iff.2 hne
      obtain ⟨_, cs, k1, k2⟩ := l2 0 xs[0] (List.getElem?_eq_getElem hpos)
      have hcl := d.len k1
      have hsp : a.spot = none := by
        have := World.cell?_spot (k2 0 h0 |>.trans (List.getElem?_eq_getElem (by omega)))
        simpa [Addr.add] using this
      obtain ⟨b, o, sp⟩ := a
      simp only at hsp
      subst hsp
      refine ⟨b, o, rfl, fun i x hx => ?_⟩
      obtain ⟨_, cs, k1, k2⟩ := l2 i x hx
      refine ⟨cs, k1, fun j v hv => ?_⟩
      have hj : j < d.sz := by rw [← d.len k1]; exact (List.getElem?_eq_some_iff.1 hv).1
      have := k2 j hj
      rw [addr_add, addr_add, Nat.zero_add] at this
      rw [this, hv]
    · obtain ⟨i, hi⟩ := List.mem_iff_getElem?.1 hx
      exact (l2 i x hi).1
/-- The parts of a struct, one by one. -/
theorem rdStruct {P : Program} {w : World} {t : TypeId} {fs : Array Field} (ht : P.underlying t = some (.struct fs)) {H : Type} {enc : TypeId × Value → H} {base : Nat} {spare : Nat → Bool} {held : Bool} {n : Nat} {cs : List Value} {y : DataW H × List MemPlace} (h : DataW.trod enc P w base spare held n t cs = some y) :
    ∃ (l : List (DataW H × List MemPlace)) (m : Nat), Rows.uptoBulk y.1 = Rows.uptoBulkAll (l.map (·.1)) + 1 ∧ cs.length = P.cellsOf t ∧ ∀ (i : Nat) (f : Field), fs.toList[i]? = some f → ∃ z, l[i]? = some z ∧ DataW.trod enc P w base spare held m f.type ((cs.drop f.offset).take (P.cellsOf f.type)) = some z := by
  obtain ⟨xs, m, rfl, rfl, h1, h2, h3⟩ := DataW.trod_struct ht h
  refine ⟨xs, m, by simp [Rows.uptoBulk], h1, fun i f hf => ?_⟩
  rw [Array.getElem?_toList] at hf
  have h4 := h3 i f hf
  have hi : i < xs.length := by rw [h2]; exact (Array.getElem?_eq_some_iff.1 hf).1
  exact ⟨xs[i], List.getElem?_eq_getElem hi, by rw [h4]; exact List.getElem?_eq_getElem hi⟩
theorem len2 {l : List Value} (h : l.length = 2) : ∃ a b, l = [a, b] := by
  match l, h with
  | [a, b], _ => exact ⟨a, b, rfl⟩
theorem len3 {l : List Value} (h : l.length = 3) : ∃ a b c, l = [a, b, c] := by
  match l, h with
  | [a, b, c], _ => exact ⟨a, b, c, rfl⟩
theorem len7 {l : List Value} (h : l.length = 7) : ∃ a b c d e f g, l = [a, b, c, d, e, f, g] := by
  match l, h with
  | [a, b, c, d, e, f, g], _ => exact ⟨a, b, c, d, e, f, g, rfl⟩
theorem len9 {l : List Value} (h : l.length = 9) : ∃ i j a b c d e f g, l = [i, j, a, b, c, d, e, f, g] := by
  match l, h with
  | [i, j, a, b, c, d, e, f, g], _ => exact ⟨i, j, a, b, c, d, e, f, g, rfl⟩
theorem cellInt : Tryz.prog.cellsOf 3 = 1 := by kernel_rfl
theorem cellStr : Tryz.prog.cellsOf 9 = 1 := by kernel_rfl
theorem cellEs : Tryz.prog.cellsOf 41 = 1 := by kernel_rfl
theorem cellRs : Tryz.prog.cellsOf 42 = 1 := by kernel_rfl
theorem cellEnt : Tryz.prog.cellsOf 127 = 2 := by kernel_rfl
theorem cellRun : Tryz.prog.cellsOf 139 = 3 := by kernel_rfl
theorem cellIno : Tryz.prog.cellsOf 44 = 7 := by kernel_rfl
theorem cellDee : Tryz.prog.cellsOf 46 = 9 := by kernel_rfl
theorem rdEnt (w : World) : RdT Tryz.prog w 127 dEnt (fun e => FitE e) (fun e => e.name.size + 1) := ⟨fun {H enc base spare held n cs y} h hb => by
  obtain ⟨l, m, hB, hl, hp⟩ := rdStruct Tryz.underlying127 h
  obtain ⟨z0, e0, t0⟩ := hp 0 _ rfl
  obtain ⟨z1, e1, t1⟩ := hp 1 _ rfl
  simp only [cellStr, cellInt] at t0 t1
  obtain ⟨s, c0, rfl, _⟩ := DataW.trod_string Tryz.underlying9 t0
  obtain ⟨v, c1, rfl, hv⟩ := DataW.trod_int Tryz.underlying3 t1
  rw [cellEnt] at hl
  obtain ⟨a, b, rfl⟩ := len2 hl
  focus
    simp at c0 c1
    subst c0 c1
    have hb0 := part_le (l := l.map (·.1)) (i := 0) (by rw [List.getElem?_map, e0]; rfl)
    simp only [Rows.uptoBulk] at hb0
    have hs : s.data.toList.length = s.size := by simp
    refine ⟨⟨s, v⟩, rfl, ⟨by simp only; omega, wf_fit hv⟩, by simp only; omega⟩⟩
theorem rdRun (w : World) : RdT Tryz.prog w 139 dRn (fun r => FitR r) (fun _ => 1) := ⟨fun {H enc base spare held n cs y} h hb => by
  obtain ⟨l, m, hB, hl, hp⟩ := rdStruct Tryz.underlying139 h
  obtain ⟨z0, e0, t0⟩ := hp 0 _ rfl
  obtain ⟨z1, e1, t1⟩ := hp 1 _ rfl
  obtain ⟨z2, e2, t2⟩ := hp 2 _ rfl
  simp only [cellInt] at t0 t1 t2
  obtain ⟨u, c0, rfl, h0⟩ := DataW.trod_int Tryz.underlying3 t0
  obtain ⟨v, c1, rfl, h1⟩ := DataW.trod_int Tryz.underlying3 t1
  obtain ⟨x, c2, rfl, h2⟩ := DataW.trod_int Tryz.underlying3 t2
  rw [cellRun] at hl
  obtain ⟨a, b, c, rfl⟩ := len3 hl
  focus
    simp at c0 c1 c2
    subst c0 c1 c2
    exact ⟨⟨u, v, x⟩, rfl, ⟨wf_fit h0, wf_fit h1, wf_fit h2⟩, one_le _⟩⟩
/-- The size of an inode. -/
def szI (x : Ino) : Nat := x.target.size + sumN (x.ents.map fun e => e.name.size + 1) + x.runs.length
theorem rdIno (w : World) : RdT Tryz.prog w 44 dIno (fun x => FitN x) szI := ⟨fun {H enc base spare held n cs y} h hb => by
  obtain ⟨l, m, hB, hl, hp⟩ := rdStruct Tryz.underlying44 h
  obtain ⟨z0, e0, t0⟩ := hp 0 _ rfl
  obtain ⟨z1, e1, t1⟩ := hp 1 _ rfl
  obtain ⟨z2, e2, t2⟩ := hp 2 _ rfl
  obtain ⟨z3, e3, t3⟩ := hp 3 _ rfl
  obtain ⟨z4, e4, t4⟩ := hp 4 _ rfl
  obtain ⟨z5, e5, t5⟩ := hp 5 _ rfl
  obtain ⟨z6, e6, t6⟩ := hp 6 _ rfl
  simp only [cellInt, cellStr, cellEs, cellRs] at t0 t1 t2 t3 t4 t5 t6
  obtain ⟨v0, c0, rfl, h0⟩ := DataW.trod_int Tryz.underlying3 t0
  obtain ⟨v1, c1, rfl, h1⟩ := DataW.trod_int Tryz.underlying3 t1
  obtain ⟨v2, c2, rfl, h2⟩ := DataW.trod_int Tryz.underlying3 t2
  obtain ⟨v3, c3, rfl, h3⟩ := DataW.trod_int Tryz.underlying3 t3
  obtain ⟨s, c4, rfl, _⟩ := DataW.trod_string Tryz.underlying9 t4
  have g4 : (l.map (·.1))[4]? = some (.lit (.string s.data.toList)) := by rw [List.getElem?_map, e4]; rfl
  have g5 : (l.map (·.1))[5]? = some z5.1 := by rw [List.getElem?_map, e5]; rfl
  have g6 : (l.map (·.1))[6]? = some z6.1 := by rw [List.getElem?_map, e6]; rfl
  have hbb := part_three (by omega) (by omega) g4 g5 g6
  have hs : s.data.toList.length = s.size := by simp
  simp only [Rows.uptoBulk] at hbb
  obtain ⟨se, xe, c5, ok5, f5, b5, n5⟩ := rdSlice (rdEnt w) Tryz.underlying41 cellEnt (by decide) t5 (by omega)
  obtain ⟨sr, xr, c6, ok6, f6, b6, n6⟩ := rdSlice (rdRun w) Tryz.underlying42 cellRun (by decide) t6 (by omega)
  rw [cellIno] at hl
  obtain ⟨a0, a1, a2, a3, a4, a5, a6, rfl⟩ := len7 hl
  focus
    simp at c0 c1 c2 c3 c4 c5 c6
    subst c0 c1 c2 c3 c4 c5 c6
    refine ⟨⟨v0, v1, v2, v3, s, xe, xr⟩, ⟨se, sr, rfl, ok5, ok6⟩, ⟨wf_fit h0, wf_fit h1, wf_fit h2, wf_fit h3, by simp only; omega, by simp only; omega, by simp only; omega, f5, f6⟩, ?_⟩
    simp only [szI]
    omega⟩
theorem rdDee (w : World) : RdT Tryz.prog w 46 dDee (fun x => fitI x.kind ∧ fitI x.no ∧ FitN x.ino) (fun x => szI x.ino + 1) := ⟨fun {H enc base spare held n cs y} h hb => by
  obtain ⟨l, m, hB, hl, hp⟩ := rdStruct Tryz.underlying46 h
  obtain ⟨z0, e0, t0⟩ := hp 0 _ rfl
  obtain ⟨z1, e1, t1⟩ := hp 1 _ rfl
  obtain ⟨z2, e2, t2⟩ := hp 2 _ rfl
  simp only [cellInt, cellIno] at t0 t1 t2
  obtain ⟨v0, c0, rfl, h0⟩ := DataW.trod_int Tryz.underlying3 t0
  obtain ⟨v1, c1, rfl, h1⟩ := DataW.trod_int Tryz.underlying3 t1
  have hbb := part_le (l := l.map (·.1)) (i := 2) (d := z2.1) (by rw [List.getElem?_map, e2]; rfl)
  obtain ⟨x, ⟨se, sr, c2, ok⟩, hf, hz⟩ := (rdIno w).get t2 (by omega)
  rw [cellDee] at hl
  obtain ⟨a0, a1, b0, b1, b2, b3, b4, b5, b6, rfl⟩ := len9 hl
  focus
    simp at c0 c1 c2
    subst c0 c1
    obtain ⟨rfl, rfl, rfl, rfl, rfl, rfl, rfl⟩ := c2
    exact ⟨⟨v0, v1, x⟩, ⟨se, sr, rfl, ok⟩, ⟨wf_fit h0, wf_fit h1, hf⟩, by simp only; omega⟩⟩
end Go.Proofs.YtbbaoeidobdblaaGreat.Rdk

/- JournalImages, its narrowed form: for every input of bulk at most 1048576 the law returns true, and each argument reads behind the call as it read ahead of it. -/
set_option linter.unusedVariables false
set_option linter.unusedSimpArgs false
namespace Go.Proofs.YtbbaoeidobdblaaGreat.journalImages
open Go.ChangeShapes Go.WideShapes Go.ChangeAt Go.RowKit Go.Deep Go.Proofs.YtbbaoeidobdblaaGreat.Rowl
theorem own : ownKnob Tryz.prog.godebug = none := by kernel_rfl
theorem laidOut : laidOutB Tryz.prog = true := by kernel_rfl

set_option maxRecDepth 100000 in
theorem lifted (os : Os) (started : os.Started) (H : Type) (enc : TypeId × Value → H) (F : Stop.Interp) :
    ReturnsInHanded {} Tryz.checked os 8 .any ((Rows.OpenSpec.upto Rows.journalImagesSpec).pre6 enc Tryz.prog Tryz.f8 Rows.journalImagesUptoRow.domain false) (((Rows.OpenSpec.upto Rows.journalImagesSpec).at F).post enc Tryz.prog Tryz.f8 false true false false) := by
  refine returnsInHanded_of_cond (C := Tryz.checked) (s := Rows.OpenSpec.upto Rows.journalImagesSpec) (k := Rows.uptoSmall) rfl own started (by kernel_rfl) Tryz.func8
    (OpenSpec.witness (enc := enc) (C := Tryz.checked) (s := Rows.OpenSpec.upto Rows.journalImagesSpec) (k := Rows.uptoSmall) rfl false ⟨#[], #[.agg #[.int .i64 0, .int .i64 0, .int .i64 0, .int .i64 0, .int .i64 0], .slice none 0 0, .slice none 0 0, .int .i64 0, .int .i64 0, .slice none 0 0, .int .i64 0], []⟩ 8 (by kernel_rfl) (by kernel_rfl) (by kernel_rfl)
      (x := ([.agg [.lit (.int .i64 0), .lit (.int .i64 0), .lit (.int .i64 0), .lit (.int .i64 0), .lit (.int .i64 0)], .nil, .nil, .lit (.int .i64 0), .lit (.int .i64 0), .nil, .lit (.int .i64 0)], [], [])) (by kernel_rfl) rfl (by kernel_rfl)) ?_
  intro W base args ds gs before hval0 hW hcnd hk0 _
  have hval : ∀ (j : Nat) t v, Tryz.f8.params[j]? = some t → args[j]? = some v → Value.okWide Tryz.prog W .any base t v := hval0
  have hW' := hW
  obtain ⟨p, q, hA0, hV, rfl, hfz, hnd⟩ := hW
  have hA : DataW.TrodAll enc Tryz.prog W 0 (fun _ => true) true Tryz.f8.params.toList args.toList ds p := hA0
  rw [Tryz.params8] at hA hval
  obtain ⟨v0, vs0, d0, ds0, p0, q0, hargs, rfl, rfl, h0, r0⟩ := trodAll_cons hA
  obtain ⟨v1, vs1, d1, ds1, p1, q1, rfl, rfl, rfl, h1, r1⟩ := trodAll_cons r0
  obtain ⟨v2, vs2, d2, ds2, p2, q2, rfl, rfl, rfl, h2, r2⟩ := trodAll_cons r1
  obtain ⟨v3, vs3, d3, ds3, p3, q3, rfl, rfl, rfl, h3, r3⟩ := trodAll_cons r2
  obtain ⟨v4, vs4, d4, ds4, p4, q4, rfl, rfl, rfl, h4, r4⟩ := trodAll_cons r3
  obtain ⟨v5, vs5, d5, ds5, p5, q5, rfl, rfl, rfl, h5, r5⟩ := trodAll_cons r4
  obtain ⟨v6, vs6, d6, ds6, p6, q6, rfl, rfl, rfl, h6, r6⟩ := trodAll_cons r5
  obtain ⟨rfl, rfl, rfl⟩ := trodAll_nil r6
  obtain rfl : args = #[v0, v1, v2, v3, v4, v5, v6] := by cases args; simp_all
  obtain ⟨rfl, rfl⟩ := trodVars_none hV
  have hk : Rows.uptoBulk d0 + Rows.uptoBulk d1 + Rows.uptoBulk d2 + Rows.uptoBulk d3 + Rows.uptoBulk d4 + Rows.uptoBulk d5 + Rows.uptoBulk d6 ≤ 1048576 := by
    have h := of_decide_eq_true hk0
    simp only [Rows.uptoBulkAll, List.append_nil] at h
    omega
  have k0 := h0
  have lt0 : ∀ x ∈ p0, x.block < W.heap.size := by obtain ⟨m, hm⟩ := k0; exact DataW.trod_lt m _ _ _ hm
  obtain ⟨g0a, g0b, g0c, g0d, g0e, rfl⟩ := agg5_in Tryz.underlying23 (by kernel_rfl) (by kernel_rfl) Tryz.underlying3 ⟨rfl, rfl, rfl, rfl, rfl⟩ (hval 0 23 v0 rfl rfl) h0
  have k1 := h1
  have lt1 : ∀ x ∈ p1, x.block < W.heap.size := by obtain ⟨m, hm⟩ := k1; exact DataW.trod_lt m _ _ _ hm
  obtain ⟨b1, len1, cap1, rfl⟩ := okWide_slice Tryz.underlying47 (hval 1 47 v1 rfl rfl)
  obtain ⟨m1, f1⟩ := h1
  obtain ⟨s1, l1, e1, ok1, fit1, sz1, ln1⟩ := Rdk.rdSlice (Rdk.rdDee W) Tryz.underlying47 (by kernel_rfl) (by decide) f1 (by simp only; omega)
  obtain ⟨rfl, rfl, rfl⟩ : b1 = s1.1 ∧ len1 = l1.length ∧ cap1 = s1.2 := by simpa [Value.cells] using e1
  simp only at sz1 ln1
  have k2 := h2
  have lt2 : ∀ x ∈ p2, x.block < W.heap.size := by obtain ⟨m, hm⟩ := k2; exact DataW.trod_lt m _ _ _ hm
  obtain ⟨b2, len2, cap2, rfl⟩ := okWide_slice Tryz.underlying47 (hval 2 47 v2 rfl rfl)
  obtain ⟨m2, f2⟩ := h2
  obtain ⟨s2, l2, e2, ok2, fit2, sz2, ln2⟩ := Rdk.rdSlice (Rdk.rdDee W) Tryz.underlying47 (by kernel_rfl) (by decide) f2 (by simp only; omega)
  obtain ⟨rfl, rfl, rfl⟩ : b2 = s2.1 ∧ len2 = l2.length ∧ cap2 = s2.2 := by simpa [Value.cells] using e2
  simp only at sz2 ln2
  have k3 := h3
  have lt3 : ∀ x ∈ p3, x.block < W.heap.size := by obtain ⟨m, hm⟩ := k3; exact DataW.trod_lt m _ _ _ hm
  obtain ⟨a3, rfl, rfl, rfl, w3⟩ := open_int Tryz.underlying3 (hval 3 3 v3 rfl rfl) h3
  have k4 := h4
  have lt4 : ∀ x ∈ p4, x.block < W.heap.size := by obtain ⟨m, hm⟩ := k4; exact DataW.trod_lt m _ _ _ hm
  obtain ⟨a4, rfl, rfl, rfl, w4⟩ := open_int Tryz.underlying3 (hval 4 3 v4 rfl rfl) h4
  have k5 := h5
  have lt5 : ∀ x ∈ p5, x.block < W.heap.size := by obtain ⟨m, hm⟩ := k5; exact DataW.trod_lt m _ _ _ hm
  obtain ⟨b5, len5, cap5, rfl⟩ := okWide_slice Tryz.underlying57 (hval 5 57 v5 rfl rfl)
  obtain ⟨m5, f5⟩ := h5
  obtain ⟨s5, l5, e5, ok5, fit5, sz5, ln5⟩ := Rdk.rdSlice (Rdk.rdByte Tryz.underlying5) Tryz.underlying57 (by kernel_rfl) (by decide) f5 (by simp only; omega)
  obtain ⟨rfl, rfl, rfl⟩ : b5 = s5.1 ∧ len5 = l5.length ∧ cap5 = s5.2 := by simpa [Value.cells] using e5
  simp only at sz5 ln5
  have k6 := h6
  have lt6 : ∀ x ∈ p6, x.block < W.heap.size := by obtain ⟨m, hm⟩ := k6; exact DataW.trod_lt m _ _ _ hm
  obtain ⟨a6, rfl, rfl, rfl, w6⟩ := open_int Tryz.underlying3 (hval 6 3 v6 rfl rfl) h6
  clear hA0 hval0
  refine (row_calls (Sx.journalImagesLaw0 W ⟨g0a, g0b, g0c, g0d, g0e⟩ l1 l2 l5 a3 a4 a6 (fun W' e => ⟨⟨rfl, Sx.sl_keep Sx.keepDee e ok1⟩, ⟨rfl, Sx.sl_keep Sx.keepDee e ok2⟩, ⟨rfl, Sx.sl_keep Sx.keepByte e ok5⟩⟩) (Nat.le_trans (Sx.dees_raw ⟨fit1, by have h : Sx.sumN (l1.map fun d => Rdk.szI d.ino + 1) ≤ 1048576 := (by omega); exact h⟩) (by decide)) (Nat.le_trans (Sx.dees_raw ⟨fit2, by have h : Sx.sumN (l2.map fun d => Rdk.szI d.ino + 1) ≤ 1048576 := (by omega); exact h⟩) (by decide)) fit5)).mono fun e W' ⟨he, gr⟩ => ?_
  subst he
  have bel : Below W.heap.size W W' := ⟨gr.os, gr.tape, gr.output, gr.size, fun k hk => gr.block k hk (by simp)⟩
  exact ⟨_, rfl, _, _, _, [], _, [], hW', trodAll_mk1 (shut_bool Tryz.underlying4 _), (trodAll_cons_mk (Below.trod laidOut (by kernel_rfl) (of_decide_eq_true (by kernel_rfl)) k0 bel lt0) (trodAll_cons_mk (Below.trod laidOut (by kernel_rfl) (of_decide_eq_true (by kernel_rfl)) k1 bel lt1) (trodAll_cons_mk (Below.trod laidOut (by kernel_rfl) (of_decide_eq_true (by kernel_rfl)) k2 bel lt2) (trodAll_cons_mk (Below.trod laidOut (by kernel_rfl) (of_decide_eq_true (by kernel_rfl)) k3 bel lt3) (trodAll_cons_mk (Below.trod laidOut (by kernel_rfl) (of_decide_eq_true (by kernel_rfl)) k4 bel lt4) (trodAll_cons_mk (Below.trod laidOut (by kernel_rfl) (of_decide_eq_true (by kernel_rfl)) k5 bel lt5) (trodAll_cons_mk (Below.trod laidOut (by kernel_rfl) (of_decide_eq_true (by kernel_rfl)) k6 bel lt6) trodAll_mk0))))))), rfl, bel.frame _, fun h => by cases h⟩

theorem over : Rows.journalImagesUptoRow.holds Tryz.pinned (Rows.OpenSpec.upto Rows.journalImagesSpec) :=
  OpenClaim.holds_of_cond 8 Tryz.f8 rfl rfl rfl rfl rfl rfl rfl ⟨rfl, rfl, rfl, rfl, rfl⟩ rfl rfl rfl rfl rfl (by kernel_rfl) Tryz.func8 (by kernel_rfl)
    (of_decide_eq_true (by kernel_rfl)) (by unfold Func.isWrapper; first | (rw [if_pos (by decide +kernel)]; kernel_rfl) | (rw [if_neg (by decide +kernel)]; exact ⟨rfl, rfl⟩))
    (fun os started H enc _ F => lifted os started H enc F)

/-- The statement. -/
theorem proved : Rows.JournalImagesUptoSaid := over
#print axioms proved
end Go.Proofs.YtbbaoeidobdblaaGreat.journalImages

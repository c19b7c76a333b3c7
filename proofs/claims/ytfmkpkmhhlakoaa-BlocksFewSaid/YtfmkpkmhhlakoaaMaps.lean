/- Laws on a map whose keys are one number each (a struct or an array of one int), kept as a list of keys and values: mget up, store, delete, count, range. No program in sight. -/
import Derived.Maps.RangeWalk
import Derived.Maps.OwnSet
import Derived.Carry
import Derived.OwnWalk
set_option linter.unusedVariables false
set_option linter.unusedSimpArgs false
namespace Go.Proofs.Ytfmkpkmhhlakoaa.Mx
open Go Go.MapKept
open Go.ChangeMaps (setBlock heap_setBlock_same heap_setBlock_other set_perm)
open Go.Maps (Keyed)

/-! ### lists of keys and values -/
def mget {α : Type} (l : List (Int × α)) (k : Int) : Option α := (l.find? (fun p => p.1 == k)).map (·.2)
def mdel {α : Type} (l : List (Int × α)) (k : Int) : List (Int × α) := l.filter (fun p => !(p.1 == k))
def mput {α : Type} (l : List (Int × α)) (k : Int) (v : α) : List (Int × α) := (k, v) :: mdel l k

theorem mget_nil {α : Type} (k : Int) : mget ([] : List (Int × α)) k = none := rfl
theorem mget_cons {α : Type} (p : Int × α) (l : List (Int × α)) (k : Int) : mget (p :: l) k = if p.1 = k then some p.2 else mget l k := by
  unfold mget
  by_cases h : p.1 = k <;> simp [h]
theorem mget_mdel {α : Type} (l : List (Int × α)) (k j : Int) : mget (mdel l k) j = if j = k then none else mget l j := by
  induction l with
  | nil => simp [mdel, mget]
  | cons p l ih =>
    by_cases hp : p.1 = k
    · have : mdel (p :: l) k = mdel l k := by simp [mdel, hp]
      rw [this, ih, mget_cons]
      by_cases hj : j = k
      · simp [hj]
      · rw [if_neg hj, if_neg hj, if_neg (by rw [hp]; exact fun e => hj e.symm)]
    · have : mdel (p :: l) k = p :: mdel l k := by simp [mdel, hp]
      rw [this, mget_cons, mget_cons, ih]
      by_cases hj : j = k
      · subst hj; simp [hp]
      · simp [hj]
theorem mget_mput {α : Type} (l : List (Int × α)) (k : Int) (v : α) (j : Int) : mget (mput l k v) j = if j = k then some v else mget l j := by
  unfold mput
  rw [mget_cons, mget_mdel]
  by_cases hj : j = k
  · subst hj; simp
  · rw [if_neg hj, if_neg (fun e => hj (show j = k from e.symm)), if_neg hj]
theorem mget_mem {α : Type} {l : List (Int × α)} {k : Int} {v : α} (h : mget l k = some v) : (k, v) ∈ l := by
  unfold mget at h
  rw [Option.map_eq_some_iff] at h
  obtain ⟨p, hp, rfl⟩ := h
  have h1 := List.find?_some hp
  have h2 := List.mem_of_find?_eq_some hp
  have : p.1 = k := by simpa using h1
  subst this
  exact h2
theorem mget_of_mem {α : Type} {l : List (Int × α)} (hn : (l.map Prod.fst).Nodup) {k : Int} {v : α} (h : (k, v) ∈ l) : mget l k = some v := by
  induction l with
  | nil => simp at h
  | cons p l ih =>
    rw [mget_cons]
    rw [List.map_cons, List.nodup_cons] at hn
    rcases List.mem_cons.1 h with rfl | h
    · simp
    · have : p.1 ≠ k := fun e => hn.1 (List.mem_map.2 ⟨(k, v), h, e.symm⟩)
      rw [if_neg this]
      exact ih hn.2 h
theorem mget_none {α : Type} {l : List (Int × α)} {k : Int} (h : mget l k = none) : ∀ p ∈ l, p.1 ≠ k := by
  intro p hp e
  unfold mget at h
  rw [Option.map_eq_none_iff, List.find?_eq_none] at h
  have := h p hp
  simp [e] at this
theorem mdel_none {α : Type} {l : List (Int × α)} {k : Int} (h : mget l k = none) : mdel l k = l := by
  unfold mdel
  rw [List.filter_eq_self]
  intro p hp
  simp [mget_none h p hp]
theorem nodup_mdel {α : Type} {l : List (Int × α)} (k : Int) (h : (l.map Prod.fst).Nodup) : ((mdel l k).map Prod.fst).Nodup :=
  List.Nodup.sublist (List.Sublist.map _ List.filter_sublist) h
theorem nodup_mput {α : Type} {l : List (Int × α)} (k : Int) (v : α) (h : (l.map Prod.fst).Nodup) : ((mput l k v).map Prod.fst).Nodup := by
  unfold mput
  rw [List.map_cons, List.nodup_cons]
  refine ⟨?_, nodup_mdel k h⟩
  intro hm
  obtain ⟨p, hp, e⟩ := List.mem_map.1 hm
  have := (List.mem_filter.1 hp).2
  simp at this
  exact this e
theorem length_mdel {α : Type} {l : List (Int × α)} (h : (l.map Prod.fst).Nodup) (k : Int) : (mdel l k).length + (if (mget l k).isSome then 1 else 0) = l.length := by
  induction l with
  | nil => simp [mdel, mget]
  | cons p l ih =>
    rw [List.map_cons, List.nodup_cons] at h
    have ih := ih h.2
    rw [mget_cons]
    by_cases hp : p.1 = k
    · have hn : mget l k = none := by
        cases hl : mget l k with
        | none => rfl
        | some v => exact absurd (List.mem_map.2 ⟨(k, v), mget_mem hl, hp.symm⟩) h.1
      have : mdel (p :: l) k = l := by
        have : mdel (p :: l) k = mdel l k := by simp [mdel, hp]
        rw [this, mdel_none hn]
      rw [this]
      simp [hp]
    · have : mdel (p :: l) k = p :: mdel l k := by simp [mdel, hp]
      rw [this]
      simp only [List.length_cons, if_neg hp]
      omega
theorem length_mput {α : Type} {l : List (Int × α)} (h : (l.map Prod.fst).Nodup) (k : Int) (v : α) : (mput l k v).length = if (mget l k).isSome then l.length else l.length + 1 := by
  have := length_mdel h k
  unfold mput
  simp only [List.length_cons]
  split <;> rename_i hs <;> simp [hs] at this <;> omega
/-- What is looked up does not hang on the order. -/
theorem mget_perm {α : Type} {l l' : List (Int × α)} (hn : (l.map Prod.fst).Nodup) (hp : l.Perm l') (k : Int) : mget l k = mget l' k := by
  have hn' : (l'.map Prod.fst).Nodup := (hp.map Prod.fst).nodup_iff.1 hn
  cases h : mget l k with
  | some v => exact (mget_of_mem hn' (hp.mem_iff.1 (mget_mem h))).symm
  | none =>
    cases h' : mget l' k with
    | none => rfl
    | some v => exact absurd rfl (mget_none h (k, v) (hp.mem_iff.2 (mget_mem h')))

/-! ### the map in memory -/
/-- The keys of type kt are one number each. -/
structure KeyFn (P : Program) (kt : TypeId) (kv : Int → Value) : Prop where
  K : Keyed P kt
  key : ∀ x, (Lit.int .i64 x).wf = true → ∃ l, keyOf P kt (kv x) = some l
  inj : ∀ x y, kv x = kv y → x = y

def pr (kv : Int → Value) (p : Int × Value) : Value × Value := (kv p.1, p.2)
def pe (e : MapEntry) : Value × Value := (e.key, e.val)

/-- Block b is a map that has just these keys and values. -/
def MapAt (kv : Int → Value) (w : World) (b : Nat) (l : List (Int × Value)) : Prop :=
  ∃ es clock, w.heap[b]? = some (.map es clock) ∧ Stamped es clock ∧ (es.toList.map pe).Perm (l.map (pr kv)) ∧ ∀ p ∈ l, (Lit.int .i64 p.1).wf = true

section
variable {P : Program} {kt et t : TypeId} {kv : Int → Value} {w : World} {b : Nat} {l : List (Int × Value)}

theorem MapAt.lt (h : MapAt kv w b l) : b < w.heap.size := by
  obtain ⟨es, clock, hb, _⟩ := h
  exact (Array.getElem?_eq_some_iff.1 hb).1
theorem MapAt.made (kv : Int → Value) (w : World) : MapAt kv (w.alloc (.map #[] 0)) w.heap.size [] :=
  ⟨#[], 0, (MapKept.heap_alloc w _).1, stamped_empty 0, by simp, by simp⟩
theorem MapAt.block {w' : World} (h : MapAt kv w b l) (hb : w'.heap[b]? = w.heap[b]?) : MapAt kv w' b l := by
  obtain ⟨es, clock, h1, r⟩ := h
  exact ⟨es, clock, hb.trans h1, r⟩
theorem MapAt.kept {w' : World} {row : Option Nat} (h : MapAt kv w b l) (hg : w.grownBy w' row) (hne : some b ≠ row) : MapAt kv w' b l := h.block (hg.block b h.lt hne)
theorem MapAt.alloc (h : MapAt kv w b l) (o : Obj) : MapAt kv (w.alloc o) b l := h.kept (World.grownBy_alloc w o none) (by simp)
theorem MapAt.drew (h : MapAt kv w b l) : MapAt kv w.drew b l := h
theorem MapAt.setCell (h : MapAt kv w b l) {a : Addr} (ha : b ≠ a.block) (u : Value) : MapAt kv (w.setCell a u) b l := h.block (RowKit.Below.heap_setCell _ _ _ _ ha)
theorem MapAt.perm {l' : List (Int × Value)} (h : MapAt kv w b l) (hp : l.Perm l') : MapAt kv w b l' := by
  obtain ⟨es, clock, h1, h2, h3, h4⟩ := h
  exact ⟨es, clock, h1, h2, h3.trans (hp.map _), fun p hq => h4 p (hp.mem_iff.2 hq)⟩
theorem MapAt.nodup (h : MapAt kv w b l) : (l.map Prod.fst).Nodup := by
  obtain ⟨es, clock, _, ⟨_, _, hk⟩, hp, _⟩ := h
  have e1 : es.toList.map (·.key) = (es.toList.map pe).map Prod.fst := by simp [pe, Function.comp_def]
  have e2 : (l.map (pr kv)).map Prod.fst = (l.map Prod.fst).map kv := by simp [pr, Function.comp_def]
  rw [e1, (hp.map Prod.fst).nodup_iff, e2] at hk
  exact List.Pairwise.of_map kv (fun a c h e => h (congrArg kv e)) hk

theorem MapAt.keys {es : Array MapEntry} (F : KeyFn P kt kv) (hp : (es.toList.map pe).Perm (l.map (pr kv))) (hw : ∀ p ∈ l, (Lit.int .i64 p.1).wf = true) : ∀ e ∈ es.toList, ∃ x, keyOf P kt e.key = some x := by
  intro e he
  have : pe e ∈ l.map (pr kv) := hp.mem_iff.1 (List.mem_map.2 ⟨e, he, rfl⟩)
  obtain ⟨p, hp1, hp2⟩ := List.mem_map.1 this
  obtain ⟨x, hx⟩ := F.key p.1 (hw p hp1)
  exact ⟨x, by rw [← hx, show e.key = kv p.1 from (congrArg Prod.fst hp2).symm]⟩

/-- Where a key is found, or not. -/
theorem MapAt.find {es : Array MapEntry} (F : KeyFn P kt kv) (hst : (l.map Prod.fst).Nodup) (hp : (es.toList.map pe).Perm (l.map (pr kv))) (hw : ∀ p ∈ l, (Lit.int .i64 p.1).wf = true) (k : Int) (hk : (Lit.int .i64 k).wf = true) (w : World) :
    ((Instr.findKey kt (kv k) es.toList).run P w = .ok none w ∧ (∀ e ∈ es.toList, e.key ≠ kv k) ∧ mget l k = none) ∨
    ∃ j e, (Instr.findKey kt (kv k) es.toList).run P w = .ok (some (j, e.val)) w ∧ es.toList[j]? = some e ∧ e.key = kv k ∧ mget l k = some e.val := by
  obtain ⟨x, hx⟩ := F.key k hk
  rcases F.K.find w hx es.toList (MapAt.keys F hp hw) with ⟨h1, h2⟩ | ⟨j, e, h1, h2, h3⟩
  · refine .inl ⟨h1, h2, ?_⟩
    cases hl : mget l k with
    | none => rfl
    | some v =>
      have : pr kv (k, v) ∈ es.toList.map pe := hp.mem_iff.2 (List.mem_map.2 ⟨_, mget_mem hl, rfl⟩)
      obtain ⟨e, he, e2⟩ := List.mem_map.1 this
      exact absurd (congrArg Prod.fst e2) (h2 e he)
  · refine .inr ⟨j, e, h1, h2, h3, ?_⟩
    have : pe e ∈ l.map (pr kv) := hp.mem_iff.1 (List.mem_map.2 ⟨e, List.mem_of_getElem? h2, rfl⟩)
    obtain ⟨p, hp1, hp2⟩ := List.mem_map.1 this
    have h4 : kv p.1 = kv k := (congrArg Prod.fst hp2).trans h3
    have h5 := F.inj _ _ h4
    have h6 : p.2 = e.val := congrArg Prod.snd hp2
    exact mget_of_mem hst (by rw [← h5, ← h6]; exact hp1)

/-- 'v, is := m[k]' and 'm[k]'. -/
theorem MapAt.lookup (h : MapAt kv w b l) (F : KeyFn P kt kv) (ht : P.underlying t = some (.map kt et)) {z : Value} (hz : (zeroValue et).run P w = .ok z w) (k : Int) (hk : (Lit.int .i64 k).wf = true) (c : Bool) :
    (Instr.lookup t (.map (some b)) (kv k) c).run P w = .ok (if c then .tuple #[(mget l k).getD z, .bool (mget l k).isSome] else (mget l k).getD z) w := by
  have hn := h.nodup
  obtain ⟨es, clock, hb, hs, hp, hw⟩ := h
  obtain ⟨x, hx⟩ := F.key k hk
  rcases MapAt.find F hn hp hw k hk w with ⟨h1, _, h3⟩ | ⟨j, e, h1, _, _, h4⟩
  · simp [Instr.lookup, run_underlying ht, MapKept.run_getObj_map hb, F.K.check w _ hx, h1, hz, Result.andThen, h3]
  · simp [Instr.lookup, run_underlying ht, MapKept.run_getObj_map hb, F.K.check w _ hx, h1, Result.andThen, h4]

theorem perm_erase {es : List MapEntry} {j : Nat} {e : MapEntry} (hj : es[j]? = some e) : es.Perm (e :: es.eraseIdx j) := by
  induction es generalizing j with
  | nil => simp at hj
  | cons a es ih =>
    cases j with
    | zero => simp at hj; subst hj; simp
    | succ j =>
      simp only [List.getElem?_cons_succ] at hj
      have := ih hj
      exact (this.cons a).trans (by simpa using List.Perm.swap e a _)
theorem erase_perm {es : List MapEntry} (hst : (l.map Prod.fst).Nodup) (F : KeyFn P kt kv) (hp : (es.map pe).Perm (l.map (pr kv))) {j : Nat} {e : MapEntry} {k : Int} (hj : es[j]? = some e) (hk : e.key = kv k) :
    ((es.eraseIdx j).map pe).Perm ((mdel l k).map (pr kv)) := by
  have h1 : (pe e :: (es.eraseIdx j).map pe).Perm (l.map (pr kv)) := (((perm_erase hj).map pe).symm).trans hp
  have hm : pe e ∈ l.map (pr kv) := h1.mem_iff.1 (by simp)
  obtain ⟨p, hp1, hp2⟩ := List.mem_map.1 hm
  have h5 : p.1 = k := F.inj _ _ ((congrArg Prod.fst hp2).trans hk)
  have hl : mget l k = some p.2 := mget_of_mem hst (by rw [← h5]; exact hp1)
  have h2 : l.Perm (p :: mdel l k) := by
    clear h1 hm hl hp hp2 hj hk
    induction l with
    | nil => simp at hp1
    | cons q l ih =>
      rw [List.map_cons, List.nodup_cons] at hst
      by_cases hq : q.1 = k
      · have hn : mget l k = none := by
          cases hl : mget l k with
          | none => rfl
          | some v => exact absurd (List.mem_map.2 ⟨(k, v), mget_mem hl, hq.symm⟩) hst.1
        have : mdel (q :: l) k = l := by
          have : mdel (q :: l) k = mdel l k := by simp [mdel, hq]
          rw [this, mdel_none hn]
        rw [this]
        rcases List.mem_cons.1 hp1 with rfl | hp1
        · exact List.Perm.refl _
        · exact absurd h5 (mget_none hn p hp1)
      · have : mdel (q :: l) k = q :: mdel l k := by simp [mdel, hq]
        rw [this]
        rcases List.mem_cons.1 hp1 with rfl | hp1
        · exact absurd h5 hq
        · exact ((ih hst.2 hp1).cons q).trans (List.Perm.swap p q _)
  have h3 : (pe e :: (es.eraseIdx j).map pe).Perm (pe e :: (mdel l k).map (pr kv)) := by
    refine h1.trans ((h2.map (pr kv)).trans ?_)
    rw [List.map_cons, hp2]
  exact h3.cons_inv

theorem grownBy_setBlock (hb : ∃ es clock, w.heap[b]? = some (.map es clock)) (es' : Array MapEntry) (clock' : Nat) : w.grownBy (setBlock w b (.map es' clock')) (some b) := by
  obtain ⟨es, clock, hb⟩ := hb
  exact ⟨rfl, rfl, rfl, by simp [setBlock], fun i _ hi => heap_setBlock_other hb _ (fun e => hi (by rw [e]))⟩

/-- 'm[k] = v'. -/
theorem MapAt.update (h : MapAt kv w b l) (F : KeyFn P kt kv) (ht : P.underlying t = some (.map kt et)) (k : Int) (hk : (Lit.int .i64 k).wf = true) (v : Value) :
    ∃ w', (Instr.mapUpdate t (.map (some b)) (kv k) v).run P w = .ok () w' ∧ MapAt kv w' b (mput l k v) ∧ w.grownBy w' (some b) ∧ w'.heap.size = w.heap.size := by
  have hn := h.nodup
  obtain ⟨es, clock, hb, hs, hp, hw⟩ := h
  obtain ⟨x, hx⟩ := F.key k hk
  have hwd : ∀ p ∈ mput l k v, (Lit.int .i64 p.1).wf = true := by
    intro p hp
    rcases List.mem_cons.1 hp with rfl | hp
    · exact hk
    · exact hw p (List.mem_filter.1 hp).1
  rcases MapAt.find F hn hp hw k hk w with ⟨h1, h2, h3⟩ | ⟨j, e, h1, h2, h3, h4⟩
  · refine ⟨setBlock w b (.map (es.push ⟨kv k, v, clock⟩) (clock + 1)), ?_, ⟨_, _, heap_setBlock_same hb _, stamped_push hs h2, ?_, hwd⟩, grownBy_setBlock ⟨_, _, hb⟩ _ _, by simp [setBlock]⟩
    · simp [Instr.mapUpdate, run_underlying ht, MapKept.run_getObj_map hb, F.K.check w _ hx, h1, MapKept.run_setObj_map _ hb, Result.andThen, setBlock]
    · unfold mput
      rw [mdel_none h3, Array.toList_push, List.map_append, List.map_cons]
      exact (List.perm_append_singleton _ _).trans (by simpa [pe, pr] using hp)
  · have hj : es[j]? = some e := by simpa using h2
    have hlist : (es.modify j (fun e' => { e' with key := kv k, val := v })).toList = es.toList.set j { e with key := kv k, val := v } := by rw [Array.toList_modify, ChangeMaps.modify_eq_set _ _ _ _ h2]
    have hjl : j < es.toList.length := (List.getElem?_eq_some_iff.1 h2).1
    refine ⟨setBlock w b (.map (es.modify j (fun e' => { e' with key := kv k, val := v })) clock), ?_, ⟨_, _, heap_setBlock_same hb _, stamped_modify hs _ _ (fun _ _ => rfl) (fun e' _ he' => by rw [hj] at he'; cases he'; exact h3.symm), ?_, hwd⟩, grownBy_setBlock ⟨_, _, hb⟩ _ _, by simp [setBlock]⟩
    · simp [Instr.mapUpdate, run_underlying ht, MapKept.run_getObj_map hb, F.K.check w _ hx, h1, hj, h3, F.K.stays w hx, MapKept.run_setObj_map _ hb, Result.andThen, setBlock]
    · rw [hlist]
      refine ((set_perm _ _ hjl _).map pe).trans ?_
      unfold mput
      rw [List.map_cons, List.map_cons]
      exact (erase_perm hn F hp h2 h3).cons _

/-- 'delete(m, k)'. -/
theorem MapAt.delete (h : MapAt kv w b l) (F : KeyFn P kt kv) (ht : P.underlying t = some (.map kt et)) (k : Int) (hk : (Lit.int .i64 k).wf = true) (ty : TypeId) :
    ∃ w', (Builtin.delete_ #[t, kt] ty #[.map (some b), kv k]).run P w = .ok (.tuple #[]) w' ∧ MapAt kv w' b (mdel l k) ∧ w.grownBy w' (some b) ∧ w'.heap.size = w.heap.size := by
  have hn := h.nodup
  obtain ⟨es, clock, hb, hs, hp, hw⟩ := h
  obtain ⟨x, hx⟩ := F.key k hk
  have hwd : ∀ p ∈ mdel l k, (Lit.int .i64 p.1).wf = true := fun p hp => hw p (List.mem_filter.1 hp).1
  rcases MapAt.find F hn hp hw k hk w with ⟨h1, h2, h3⟩ | ⟨j, e, h1, h2, h3, h4⟩
  · refine ⟨setBlock w b (.map es clock), ?_, ⟨_, _, heap_setBlock_same hb _, hs, ?_, hwd⟩, grownBy_setBlock ⟨_, _, hb⟩ _ _, by simp [setBlock]⟩
    · simp [Builtin.delete_, run_underlying ht, MapKept.run_getObj_map hb, F.K.check w _ hx, h1, MapKept.run_setObj_map _ hb, Result.andThen, setBlock]
    · rw [mdel_none h3]; exact hp
  · have hjl : j < es.toList.length := (List.getElem?_eq_some_iff.1 h2).1
    have hjs : j < es.size := by simpa using hjl
    have hsub : (es.eraseIdxIfInBounds j).toList = es.toList.eraseIdx j := by
      unfold Array.eraseIdxIfInBounds
      rw [dif_pos hjs]
      simp
    refine ⟨setBlock w b (.map (es.eraseIdxIfInBounds j) clock), ?_, ⟨_, _, heap_setBlock_same hb _, stamped_erase hs j, ?_, hwd⟩, grownBy_setBlock ⟨_, _, hb⟩ _ _, by simp [setBlock]⟩
    · simp [Builtin.delete_, run_underlying ht, MapKept.run_getObj_map hb, F.K.check w _ hx, h1, MapKept.run_setObj_map _ hb, Result.andThen, setBlock]
    · rw [hsub]
      exact erase_perm hn F hp h2 h3

/-- 'len(m)'. -/
theorem MapAt.len (h : MapAt kv w b l) (ht : P.underlying t = some (.map kt et)) (ty : TypeId) : (Builtin.len_ #[t] ty #[.map (some b)]).run P w = .ok (.int .i64 l.length) w := by
  obtain ⟨es, clock, hb, hs, hp, hw⟩ := h
  have : es.size = l.length := by simpa using hp.length_eq
  simp [Builtin.len_, run_underlying ht, MapKept.run_getObj_map hb, Result.andThen, goInt, this]

/-! ### ranging -/
/-- Block r walks over the map in block b; 'todo': what is still to come. -/
def RangeAt (kv : Int → Value) (w : World) (b r : Nat) (l todo : List (Int × Value)) : Prop :=
  ∃ es clock seen c0, w.heap[b]? = some (.map es clock) ∧ Stamped es clock ∧ (es.toList.map pe).Perm (l.map (pr kv)) ∧ (∀ p ∈ l, (Lit.int .i64 p.1).wf = true) ∧
    w.heap[r]? = some (.mapIter (some b) clock seen c0) ∧ clock ≤ c0 ∧ ((leftOf es seen).toList.map pe).Perm (todo.map (pr kv))

theorem RangeAt.map {r : Nat} {todo : List (Int × Value)} (h : RangeAt kv w b r l todo) : MapAt kv w b l := by
  obtain ⟨es, clock, seen, c0, h1, h2, h3, h4, _⟩ := h
  exact ⟨es, clock, h1, h2, h3, h4⟩
theorem RangeAt.lt {r : Nat} {todo : List (Int × Value)} (h : RangeAt kv w b r l todo) : r < w.heap.size := by
  obtain ⟨es, clock, seen, c0, h1, h2, h3, h4, h5, _⟩ := h
  exact (Array.getElem?_eq_some_iff.1 h5).1
theorem RangeAt.ne {r : Nat} {todo : List (Int × Value)} (h : RangeAt kv w b r l todo) : r ≠ b := by
  obtain ⟨es, clock, seen, c0, h1, h2, h3, h4, h5, _⟩ := h
  rintro rfl
  rw [h1] at h5
  cases h5
theorem RangeAt.kept {w' : World} {row : Option Nat} {r : Nat} {todo : List (Int × Value)} (h : RangeAt kv w b r l todo) (hg : w.grownBy w' row) (hb : some b ≠ row) (hr : some r ≠ row) : RangeAt kv w' b r l todo := by
  have h1 := h.lt
  have h2 := h.map.lt
  obtain ⟨es, clock, seen, c0, e1, e2, e3, e4, e5, e6⟩ := h
  exact ⟨es, clock, seen, c0, (hg.block b h2 hb).trans e1, e2, e3, e4, (hg.block r h1 hr).trans e5, e6⟩
theorem RangeAt.alloc {r : Nat} {todo : List (Int × Value)} (h : RangeAt kv w b r l todo) (o : Obj) : RangeAt kv (w.alloc o) b r l todo := h.kept (World.grownBy_alloc w o none) (by simp) (by simp)

theorem RangeAt.left_eq {r : Nat} {todo : List (Int × Value)} (h : RangeAt kv w b r l todo) : w.rangeLeft b r = todo.length := by
  obtain ⟨es, clock, seen, c0, e1, e2, e3, e4, e5, e6, e7⟩ := h
  have := e7.length_eq
  simp only [World.rangeLeft, e1, e5]
  simpa using this
theorem MapAt.range (h : MapAt kv w b l) (ht : P.underlying t = some (.map kt et)) :
    ∃ w', (Instr.range t (.map (some b))).run P w = .ok (.pointer (some ⟨w.heap.size, 0, none⟩)) w' ∧ RangeAt kv w' b w.heap.size l l ∧ w.grownBy w' none ∧ w'.heap.size = w.heap.size + 1 := by
  have hlt := h.lt
  obtain ⟨es, clock, hb, hs, hp, hw⟩ := h
  refine ⟨_, run_range_map w t kt et b es clock ht hb, ⟨es, clock, #[], clock, ((MapKept.heap_alloc w _).2 b hlt).trans hb, hs, hp, hw, (MapKept.heap_alloc w _).1, Nat.le_refl _, ?_⟩, World.grownBy_alloc w _ none, by simp⟩
  have : (leftOf es #[]).toList = es.toList := by simp [leftOf]
  rw [this]; exact hp

theorem left_push {es : List MapEntry} (seen : Array Nat) {e : MapEntry} (hn : (es.map (·.born)).Nodup) (he : e ∈ es) (hs : seen.contains e.born = false) :
    (es.filter fun x => !seen.contains x.born).Perm (e :: es.filter fun x => !(seen.push e.born).contains x.born) := by
  induction es with
  | nil => simp at he
  | cons a es ih =>
    rw [List.map_cons, List.nodup_cons] at hn
    rcases List.mem_cons.1 he with rfl | he
    · have h1 : ∀ x ∈ es, (!(seen.push e.born).contains x.born) = !seen.contains x.born := by
        intro x hx
        rw [contains_push]
        have : (x.born == e.born) = false := by
          rw [beq_eq_false_iff_ne]
          exact fun h => hn.1 (List.mem_map.2 ⟨x, hx, h⟩)
        simp [this]
      rw [List.filter_cons_of_pos (by simp only [hs]; rfl), List.filter_cons_of_neg (by rw [contains_push]; simp), List.filter_congr h1]
    · have h1 : (a.born == e.born) = false := by
        rw [beq_eq_false_iff_ne]
        exact fun h => hn.1 (List.mem_map.2 ⟨e, he, h.symm⟩)
      have ih := ih hn.2 he
      by_cases ha : seen.contains a.born = true
      · rw [List.filter_cons_of_neg (by rw [ha]; simp), List.filter_cons_of_neg (by rw [contains_push, ha]; simp)]
        exact ih
      · have ha' : seen.contains a.born = false := by simpa using ha
        rw [List.filter_cons_of_pos (by rw [ha']; rfl), List.filter_cons_of_pos (by rw [contains_push, ha', h1]; rfl)]
        exact (ih.cons a).trans (List.Perm.swap _ _ _)

/-- A step of the range: nothing is left; or one of those that are left comes, whichever. -/
theorem RangeAt.next {r : Nat} {todo : List (Int × Value)} (h : RangeAt kv w b r l todo) (F : KeyFn P kt kv) (ty : TypeId) :
    (todo = [] ∧ (Instr.next (.pointer (some ⟨r, 0, none⟩)) false ty).run P w = .ok (.tuple #[.bool false]) w) ∨
    ∃ k v todo' w', todo.Perm ((k, v) :: todo') ∧ (k, v) ∈ l ∧ (Instr.next (.pointer (some ⟨r, 0, none⟩)) false ty).run P w = .ok (.tuple #[.bool true, kv k, v]) w' ∧ RangeAt kv w' b r l todo' ∧
      w.grownBy w' (some r) ∧ w'.heap.size = w.heap.size ∧ (Instr.entry (.pointer (some ⟨r, 0, none⟩))).run P w' = .ok (.tuple #[kv k, v]) w' := by
  have hne := h.ne
  obtain ⟨es, clock, seen, c0, hb, hs, hp, hw, hr, hc, hl⟩ := h
  rcases run_next_at (P := P) w ty r b clock c0 seen es clock hr hb hs.1 hc with ⟨h0, hrun⟩ | ⟨e, he, w1, hal, hrun⟩
  · refine .inl ⟨?_, hrun⟩
    have : (leftOf es seen).toList = [] := by simpa using h0
    rw [this] at hl
    have := hl.length_eq
    simpa using this.symm
  · have hm := mem_left he
    have hpm : (leftOf es seen).toList.Perm (e :: (leftOf es (seen.push e.born)).toList) := by
      simp only [leftOf, Array.toList_filter]
      exact left_push seen hs.2.1 hm.1 hm.2
    have hl' : (pe e :: (leftOf es (seen.push e.born)).toList.map pe).Perm (todo.map (pr kv)) := ((hpm.map pe).symm).trans hl
    obtain ⟨q, hq, hqe⟩ := List.mem_map.1 (hl'.mem_iff.1 (List.mem_cons_self ..))
    obtain ⟨s, u, hsu⟩ := List.append_of_mem hq
    have hpq : todo.Perm (q :: (s ++ u)) := by rw [hsu]; exact List.perm_middle
    have hr1 : w1.heap[r]? = some (.mapIter (some b) clock seen c0) := by rcases hal with rfl | rfl <;> exact hr
    have hb1 : w1.heap[b]? = some (.map es clock) := by rcases hal with rfl | rfl <;> exact hb
    have hsz1 : w1.heap.size = w.heap.size := by rcases hal with rfl | rfl <;> rfl
    have hrlt : r < w1.heap.size := (Array.getElem?_eq_some_iff.1 hr1).1
    have hrr : (setBlock w1 r (.mapIter (some b) clock (seen.push e.born) clock)).heap[r]? = some (.mapIter (some b) clock (seen.push e.born) clock) := by simp [setBlock, hrlt]
    have hro : ∀ i, i ≠ r → (setBlock w1 r (.mapIter (some b) clock (seen.push e.born) clock)).heap[i]? = w1.heap[i]? := fun i hi => by simp [setBlock, Ne.symm hi]
    have e1 : e.key = kv q.1 := (congrArg Prod.fst hqe).symm
    have e2 : e.val = q.2 := (congrArg Prod.snd hqe).symm
    have hql : q ∈ l := by
      have : pe e ∈ l.map (pr kv) := hp.mem_iff.1 (List.mem_map.2 ⟨e, hm.1, rfl⟩)
      obtain ⟨q', hq', e'⟩ := List.mem_map.1 this
      have h7 : kv q'.1 = kv q.1 := (congrArg Prod.fst e').trans (congrArg Prod.fst hqe).symm
      have h8 : q'.2 = q.2 := (congrArg Prod.snd e').trans (congrArg Prod.snd hqe).symm
      have : q' = q := Prod.ext (F.inj _ _ h7) h8
      rw [← this]; exact hq'
    refine .inr ⟨q.1, q.2, (s ++ u), _, hpq, hql, by rw [← e1, ← e2]; exact hrun, ⟨es, clock, seen.push e.born, clock, (hro b (fun e => hne e.symm)).trans hb1, hs, hp, hw, hrr, Nat.le_refl _, ?_⟩, ⟨?_, ?_, ?_, ?_, ?_⟩, ?_, ?_⟩
    · have h3 : (pe e :: (leftOf es (seen.push e.born)).toList.map pe).Perm (pe e :: ((s ++ u)).map (pr kv)) := hl'.trans (((hpq.map (pr kv))).trans (by rw [List.map_cons, hqe]))
      exact h3.cons_inv
    · rcases hal with rfl | rfl <;> rfl
    · rcases hal with rfl | rfl <;> rfl
    · rcases hal with rfl | rfl <;> rfl
    · rcases hal with rfl | rfl <;> simp [setBlock]
    · intro k _ hk
      rw [hro k (fun e => hk (by rw [e]))]
      rcases hal with rfl | rfl <;> rfl
    · rcases hal with rfl | rfl <;> simp [setBlock]
    · rw [← e1, ← e2]
      exact run_entry_at _ r b clock seen es clock e hrr ((hro b (fun e => hne e.symm)).trans hb1) hm.1 hs.2.1
end
/-! ### at the operations, for the walk -/
section
variable {P : Program} (w : World) {ops : Array Oper} {rest : List Oper} {o : Oper} {a : Act} {Q : Exit → Act → World → Prop} {kt et t : TypeId} {kv : Int → Value}
theorem wpList_look (hg : o.guard = none) (m x : Operand) (t : TypeId) (c : Bool) (hop : o.op = Op.lookup t m x c) (kt et : TypeId) (kv : Int → Value) (F : KeyFn P kt kv) (ht : P.underlying t = some (.map kt et)) (z : Value) (hz : (zeroValue et).run P w = .ok z w)
    (b : Nat) (l : List (Int × Value)) (hm : a.eval m = .map (some b)) (h : MapAt kv w b l) (k : Int) (hx : a.eval x = kv k) (hk : (Lit.int .i64 k).wf = true) (v : Value) (is : Bool) (hv : (mget l k).getD z = v) (his : (mget l k).isSome = is)
    (hK : wpList P ops Q rest (a.put o.dst (if c then .tuple #[v, .bool is] else v)) w) : wpList P ops Q (o :: rest) a w := by
  refine wpList_plain hg fun K' hK' => ?_
  have hrun := h.lookup F ht hz k hk c
  rw [hv, his] at hrun
  unfold Oper.wp
  simp [execOp, hop, hm, hx, hrun, Result.andThen]
  exact hK' _ _ hK
theorem wpList_store (hg : o.guard = none) (m x v : Operand) (t : TypeId) (hop : o.op = Op.mapUpdate t m x v) (kt et : TypeId) (kv : Int → Value) (F : KeyFn P kt kv) (ht : P.underlying t = some (.map kt et))
    (b : Nat) (l : List (Int × Value)) (hm : a.eval m = .map (some b)) (h : MapAt kv w b l) (k : Int) (hx : a.eval x = kv k) (hk : (Lit.int .i64 k).wf = true) (val : Value) (hv : a.eval v = val)
    (hK : ∀ w', MapAt kv w' b (mput l k val) → w.grownBy w' (some b) → w'.heap.size = w.heap.size → wpList P ops Q rest (a.put o.dst undef) w') : wpList P ops Q (o :: rest) a w := by
  refine wpList_plain hg fun K' hK' => ?_
  obtain ⟨w', hrun, h1, h2, h3⟩ := h.update F ht k hk val
  unfold Oper.wp
  simp [execOp, hop, hm, hx, hv, hrun, Result.andThen]
  exact hK' _ _ (hK w' h1 h2 h3)
theorem wpList_drop (hg : o.guard = none) (m x : Operand) (t kt : TypeId) (hop : o.op = Op.call { callee := Callee.builtin Builtin.delete, args := #[m, x], argTypes := #[t, kt] }) (et : TypeId) (kv : Int → Value) (F : KeyFn P kt kv) (ht : P.underlying t = some (.map kt et))
    (b : Nat) (l : List (Int × Value)) (hm : a.eval m = .map (some b)) (h : MapAt kv w b l) (k : Int) (hx : a.eval x = kv k) (hk : (Lit.int .i64 k).wf = true)
    (hK : ∀ w', MapAt kv w' b (mdel l k) → w.grownBy w' (some b) → w'.heap.size = w.heap.size → wpList P ops Q rest (a.put o.dst (.tuple #[])) w') : wpList P ops Q (o :: rest) a w := by
  refine wpList_plain hg fun K' hK' => ?_
  obtain ⟨w', hrun, h1, h2, h3⟩ := h.delete F ht k hk o.type
  unfold Oper.wp
  simp [execOp, hop, resolve, invoke, builtin, hm, hx, hrun, Result.andThen]
  exact hK' _ _ (hK w' h1 h2 h3)
theorem wpList_count (hg : o.guard = none) (m : Operand) (t : TypeId) (hop : o.op = Op.call { callee := Callee.builtin Builtin.len, args := #[m], argTypes := #[t] }) (kt et : TypeId) (kv : Int → Value) (ht : P.underlying t = some (.map kt et))
    (b : Nat) (l : List (Int × Value)) (hm : a.eval m = .map (some b)) (h : MapAt kv w b l) (n : Nat) (hn : l.length = n)
    (hK : wpList P ops Q rest (a.put o.dst (.int .i64 n)) w) : wpList P ops Q (o :: rest) a w := by
  refine wpList_plain hg fun K' hK' => ?_
  have hrun := h.len ht o.type
  rw [hn] at hrun
  unfold Oper.wp
  simp [execOp, hop, resolve, invoke, builtin, hm, hrun, Result.andThen]
  exact hK' _ _ hK
theorem wpList_range (hg : o.guard = none) (m : Operand) (t : TypeId) (hop : o.op = Op.range t m) (kt et : TypeId) (kv : Int → Value) (ht : P.underlying t = some (.map kt et))
    (b : Nat) (l : List (Int × Value)) (hm : a.eval m = .map (some b)) (h : MapAt kv w b l)
    (hK : ∀ w', RangeAt kv w' b w.heap.size l l → w.grownBy w' none → w'.heap.size = w.heap.size + 1 → wpList P ops Q rest (a.put o.dst (.pointer (some ⟨w.heap.size, 0, none⟩))) w') : wpList P ops Q (o :: rest) a w := by
  refine wpList_plain hg fun K' hK' => ?_
  obtain ⟨w', hrun, h1, h2, h3⟩ := h.range ht
  unfold Oper.wp
  simp [execOp, hop, hm, hrun, Result.andThen]
  exact hK' _ _ (hK w' h1 h2 h3)
/-- 'mk': the elements' shape. -/
theorem wpList_next {α : Type} (hg : o.guard = none) (it : Operand) (hop : o.op = Op.next it false) (kt : TypeId) (kv : Int → Value) (F : KeyFn P kt kv) (mk : α → Value)
    (b r : Nat) (l todo : List (Int × α)) (hit : a.eval it = .pointer (some ⟨r, 0, none⟩)) (h : RangeAt kv w b r (l.map fun p => (p.1, mk p.2)) (todo.map fun p => (p.1, mk p.2)))
    (hDone : todo = [] → wpList P ops Q rest (a.put o.dst (.tuple #[.bool false])) w)
    (hMore : ∀ (k : Int) (v : α) (todo' : List (Int × α)) (w' : World), todo.Perm ((k, v) :: todo') → RangeAt kv w' b r (l.map fun p => (p.1, mk p.2)) (todo'.map fun p => (p.1, mk p.2)) → w.grownBy w' (some r) → w'.heap.size = w.heap.size →
      (Instr.entry (.pointer (some ⟨r, 0, none⟩))).run P w' = .ok (.tuple #[kv k, mk v]) w' → wpList P ops Q rest (a.put o.dst (.tuple #[.bool true, kv k, mk v])) w') : wpList P ops Q (o :: rest) a w := by
  refine wpList_plain hg fun K' hK' => ?_
  unfold Oper.wp
  rcases h.next F o.type with ⟨h0, hrun⟩ | ⟨k, v, todo', w', hp, _, hrun, hr, hg', hs, he⟩
  · simp [execOp, hop, hit, hrun, Result.andThen]
    exact hK' _ _ (hDone (by simpa using h0))
  · have hm : (k, v) ∈ todo.map fun p => (p.1, mk p.2) := hp.mem_iff.2 (by simp)
    obtain ⟨q, hq, hqe⟩ := List.mem_map.1 hm
    obtain ⟨s, u, hsu⟩ := List.append_of_mem hq
    obtain rfl : q.1 = k := congrArg Prod.fst hqe
    obtain rfl : mk q.2 = v := congrArg Prod.snd hqe
    have hpq : todo.Perm (q :: (s ++ u)) := by rw [hsu]; exact List.perm_middle
    have hp2 : todo'.Perm ((s ++ u).map fun p => (p.1, mk p.2)) := by
      have h1 := hp.symm.trans (hpq.map fun p => (p.1, mk p.2))
      rw [List.map_cons] at h1
      exact h1.cons_inv
    have hr' : RangeAt kv w' b r (l.map fun p => (p.1, mk p.2)) ((s ++ u).map fun p => (p.1, mk p.2)) := by
      obtain ⟨es, clock, seen, c0, e1, e2, e3, e4, e5, e6, e7⟩ := hr
      exact ⟨es, clock, seen, c0, e1, e2, e3, e4, e5, e6, e7.trans (hp2.map _)⟩
    simp [execOp, hop, hit, hrun, Result.andThen]
    exact hK' _ _ (hMore q.1 q.2 (s ++ u) w' hpq hr' hg' hs he)
end
/-! ### lists of keys and values of another shape -/
section
variable {α β : Type} (f : α → β)
def mv (l : List (Int × α)) : List (Int × β) := l.map fun p => (p.1, f p.2)
theorem mget_mv (l : List (Int × α)) (k : Int) : mget (mv f l) k = (mget l k).map f := by
  induction l with
  | nil => rfl
  | cons p l ih =>
    show mget ((p.1, f p.2) :: mv f l) k = _
    rw [mget_cons, mget_cons, ih]
    by_cases h : p.1 = k <;> simp [h]
theorem mdel_mv (l : List (Int × α)) (k : Int) : mdel (mv f l) k = mv f (mdel l k) := by
  induction l with
  | nil => rfl
  | cons p l ih =>
    by_cases h : p.1 = k
    · have e1 : mdel (mv f (p :: l)) k = mdel (mv f l) k := by simp [mdel, mv, h]
      have e2 : mdel (p :: l) k = mdel l k := by simp [mdel, h]
      rw [e1, e2, ih]
    · have e1 : mdel (mv f (p :: l)) k = (p.1, f p.2) :: mdel (mv f l) k := by simp [mdel, mv, h]
      have e2 : mdel (p :: l) k = p :: mdel l k := by simp [mdel, h]
      rw [e1, e2, ih]
      rfl
theorem mput_mv (l : List (Int × α)) (k : Int) (v : α) : mput (mv f l) k (f v) = mv f (mput l k v) := by
  unfold mput
  rw [mdel_mv]
  rfl
theorem length_mv (l : List (Int × α)) : (mv f l).length = l.length := by simp [mv]
theorem keys_mv (l : List (Int × α)) : (mv f l).map Prod.fst = l.map Prod.fst := by simp [mv, Function.comp_def]
end
end Go.Proofs.Ytfmkpkmhhlakoaa.Mx

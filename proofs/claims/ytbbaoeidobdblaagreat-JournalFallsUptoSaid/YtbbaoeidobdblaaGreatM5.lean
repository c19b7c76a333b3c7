/- Laid together: Sxn, Keya, Sk33, Sk34, Sk35, Sk36, Sk37, Sk38, Sk39, Sxo, Sk40, Sk41, Sk42, Sk43, Sk44, Sk45, Sk46, Sk47, Sk48, Sk49, Sp4. -/
import Derived.Test.YtbbaoeidobdblaaGreatM4
import Derived.Test.YtbbaoeidobdblaaGreatProg
import Derived.WideKeyArgs
import Derived.DeepKeys4
import Derived.KernelRfl
import Derived.Lib.MakeNoZero
/- Sx, part 14: maps of one's own (keys are one number each). -/
set_option linter.unusedVariables false
set_option linter.unusedSimpArgs false
namespace Go.Proofs.YtbbaoeidobdblaaGreat.Sx
open Go

/-- A map of one's own: these keys, and values. -/
def mapR (kv : Int → Value) (g : Nat) (l : List (Int × Value)) : Res := .usr fun S W => (∀ b, S b ↔ b = g) ∧ Mx.MapAt kv W g l
theorem mapR_get {kv : Int → Value} {g : Nat} {l : List (Int × Value)} {S : Nat → Prop} {w : World} (h : (mapR kv g l).holds S w) : (∀ b, S b ↔ b = g) ∧ Mx.MapAt kv w g l := h w (Ext.refl _ _)
theorem mapR_of {kv : Int → Value} {g : Nat} {l : List (Int × Value)} {S : Nat → Prop} {w : World} (hS : ∀ b, S b ↔ b = g) (h : Mx.MapAt kv w g l) : (mapR kv g l).holds S w := fun W e => ⟨hS, h.block (e.block g ((hS g).2 rfl))⟩
theorem wf64 {x : Int} (h : -9223372036854775808 ≤ x) (k : x ≤ 9223372036854775807) : (Lit.int .i64 x).wf = true := by
  simp [Lit.wf, IntKind.min, IntKind.max, IntKind.signed, IntKind.bits]
  omega
open Go.MapKept Go.ChangeMaps Mx in
/-- An entry of a map: its key, and its stamp. -/
def Born (kv : Int → Value) (w : World) (b : Nat) (k : Int) (s : Nat) : Prop := ∃ (es : Array MapEntry) (clock j : Nat) (e : MapEntry), w.heap[b]? = some (.map es clock) ∧ es.toList[j]? = some e ∧ e.key = kv k ∧ e.born = s
theorem Born.block {kv : Int → Value} {w w' : World} {b : Nat} {k : Int} {s : Nat} (h : Born kv w b k s) (hb : w'.heap[b]? = w.heap[b]?) : Born kv w' b k s := by
  obtain ⟨es, clock, j, e, h1, r⟩ := h
  exact ⟨es, clock, j, e, hb.trans h1, r⟩
theorem mput_mput {α : Type} (l : List (Int × α)) (k : Int) (v u : α) : Mx.mput (Mx.mput l k v) k u = Mx.mput l k u := by
  unfold Mx.mput
  congr 1
  simp [Mx.mdel, List.filter_cons]
section
open Go.MapKept Go.ChangeMaps Mx
variable {P : Program} {kt et t : TypeId} {kv : Int → Value} {w : World} {b : Nat} {l : List (Int × Value)}
theorem mput_self (hn : (l.map Prod.fst).Nodup) (hw : ∀ p ∈ l, (Lit.int .i64 p.1).wf = true) {k : Int} {v : Value} (h : mget l k = some v) : l.Perm (mput l k v) := by
  have hm := mget_mem h
  have : ∀ (l : List (Int × Value)), (l.map Prod.fst).Nodup → (k, v) ∈ l → l.Perm (mput l k v) := by
    intro l
    induction l with
    | nil => intro _ h; cases h
    | cons p l ih =>
      intro hn hm
      rw [List.map_cons, List.nodup_cons] at hn
      by_cases hp : p.1 = k
      · have hno : ∀ q ∈ l, q.1 ≠ k := fun q hq e => hn.1 (List.mem_map.2 ⟨q, hq, by rw [e, hp]⟩)
        have hd : mdel (p :: l) k = l := by
          have : mdel (p :: l) k = mdel l k := by simp [mdel, hp]
          rw [this, mdel, List.filter_eq_self]
          intro q hq
          simp [hno q hq]
        have hpv : p = (k, v) := by
          rcases List.mem_cons.1 hm with e | hm
          · exact e.symm
          · exact absurd rfl (hno _ hm)
        unfold mput
        rw [hd, hpv]
      · have hm' : (k, v) ∈ l := by
          rcases List.mem_cons.1 hm with e | hm
          · exact absurd (by rw [← e]) hp
          · exact hm
        have h1 := ih hn.2 hm'
        have : mdel (p :: l) k = p :: mdel l k := by simp [mdel, hp]
        unfold mput at h1 ⊢
        rw [this]
        exact (h1.cons p).trans (List.Perm.swap _ _ _)
  exact this l hn hm
theorem map_entry (h : MapAt kv w b l) (F : KeyFn P kt kv) (ht : P.underlying t = some (.map kt et)) {z : Value} (hz : (zeroValue et).run P w = .ok z w) (k : Int) (hk : (Lit.int .i64 k).wf = true) :
    ∃ w' s, (Instr.mapEntry t (.map (some b)) (kv k)).run P w = .ok (.tuple #[(mget l k).getD z, .int .i64 (s : Nat)]) w' ∧ MapAt kv w' b (mput l k ((mget l k).getD z)) ∧ Born kv w' b k s ∧ w.grownBy w' (some b) ∧ w'.heap.size = w.heap.size := by
  have hn := h.nodup
  obtain ⟨es, clock, hb, hs, hp, hw⟩ := h
  obtain ⟨x, hx⟩ := F.key k hk
  have hwd : ∀ v, ∀ p ∈ mput l k v, (Lit.int .i64 p.1).wf = true := by
    intro v p hp
    rcases List.mem_cons.1 hp with rfl | hp
    · exact hk
    · exact hw p (List.mem_filter.1 hp).1
  rcases MapAt.find F hn hp hw k hk w with ⟨h1, h2, h3⟩ | ⟨j, e, h1, h2, h3, h4⟩
  · refine ⟨setBlock w b (.map (es.push ⟨kv k, z, clock⟩) (clock + 1)), clock, ?_, ⟨_, _, heap_setBlock_same hb _, stamped_push hs h2, ?_, hwd _⟩, ⟨_, _, es.size, ⟨kv k, z, clock⟩, heap_setBlock_same hb _, by simp, rfl, rfl⟩, grownBy_setBlock ⟨_, _, hb⟩ _ _, by simp [setBlock]⟩
    · simp [Instr.mapEntry, run_underlying ht, MapKept.run_getObj_map hb, F.K.check w _ hx, h1, hz, MapKept.run_setObj_map _ hb, Result.andThen, setBlock, h3, goInt]
    · unfold mput
      rw [mdel_none h3, Array.toList_push, List.map_append, List.map_cons, h3]
      exact (List.perm_append_singleton _ _).trans (by simpa [pe, pr] using hp)
  · have hj : es[j]? = some e := by simpa using h2
    have hlist : (es.modify j (fun e' => { e' with key := kv k })).toList = es.toList.set j { e with key := kv k } := by rw [Array.toList_modify, ChangeMaps.modify_eq_set _ _ _ _ h2]
    have hjl : j < es.toList.length := (List.getElem?_eq_some_iff.1 h2).1
    have hes : es.toList.set j { e with key := kv k } = es.toList := by
      have : ({ e with key := kv k } : MapEntry) = e := by cases e; simp at h3; simp [h3]
      rw [this]
      have he : es.toList[j] = e := by rw [List.getElem?_eq_getElem hjl] at h2; exact Option.some.inj h2
      rw [← he, List.set_getElem_self]
    refine ⟨setBlock w b (.map (es.modify j (fun e' => { e' with key := kv k })) clock), e.born, ?_, ⟨_, _, heap_setBlock_same hb _, stamped_modify hs _ _ (fun _ _ => rfl) (fun e' _ he' => by rw [hj] at he'; cases he'; exact h3.symm), ?_, hwd _⟩, ⟨_, _, j, e, heap_setBlock_same hb _, by rw [hlist, hes]; exact h2, h3, rfl⟩, grownBy_setBlock ⟨_, _, hb⟩ _ _, by simp [setBlock]⟩
    · simp [Instr.mapEntry, run_underlying ht, MapKept.run_getObj_map hb, F.K.check w _ hx, h1, hj, h3, F.K.stays w hx, MapKept.run_setObj_map _ hb, Result.andThen, setBlock, h4, goInt]
    · rw [hlist, hes]
      refine hp.trans ((mput_self hn hw ?_).map _)
      rw [h4]
      rfl
theorem entry_store (h : MapAt kv w b l) {k : Int} {s : Nat} (hB : Born kv w b k s) (F : KeyFn P kt kv) (hk : (Lit.int .i64 k).wf = true) (v : Value) :
    ∃ w', (Instr.entryStore t (.map (some b)) (.int .i64 (s : Nat)) v).run P w = .ok () w' ∧ MapAt kv w' b (mput l k v) ∧ w.grownBy w' (some b) ∧ w'.heap.size = w.heap.size := by
  have hn := h.nodup
  obtain ⟨es, clock, hb, hs, hp, hw⟩ := h
  obtain ⟨es', clock', j, e, hb', h2, h3, h4⟩ := hB
  rw [hb] at hb'
  cases hb'
  have hwd : ∀ p ∈ mput l k v, (Lit.int .i64 p.1).wf = true := by
    intro p hp
    rcases List.mem_cons.1 hp with rfl | hp
    · exact hk
    · exact hw p (List.mem_filter.1 hp).1
  have hj : es[j]? = some e := by simpa using h2
  have hjl : j < es.toList.length := (List.getElem?_eq_some_iff.1 h2).1
  have hfind : es.findIdx? (fun e => (e.born : Int) == (s : Int)) = some j := by
    rw [Array.findIdx?_eq_some_iff_getElem]
    have hjs : j < es.size := by simpa using hjl
    have he : es[j] = e := by rw [Array.getElem?_eq_getElem hjs] at hj; exact Option.some.inj hj
    refine ⟨hjs, by simp only [he]; simp [h4], fun i hi => ?_⟩
    have hil : i < es.toList.length := by omega
    have hnd := ((stamped_iff es clock).1 hs).2.1
    have hne : es.toList[i].born ≠ es.toList[j].born := by
      have := List.pairwise_iff_getElem.1 hnd i j (by simpa using hil) (by simpa using hjl) hi
      simpa using this
    simp only [Array.getElem_toList] at hne ⊢
    rw [he, h4] at hne
    simp only [beq_iff_eq]
    exact fun e => hne (by exact_mod_cast e)
  have hlist : (es.modify j (fun e' => { e' with val := v })).toList = es.toList.set j { e with val := v } := by rw [Array.toList_modify, ChangeMaps.modify_eq_set _ _ _ _ h2]
  refine ⟨setBlock w b (.map (es.modify j (fun e' => { e' with val := v })) clock), ?_, ⟨_, _, heap_setBlock_same hb _, stamped_modify hs _ _ (fun _ _ => rfl) (fun e' _ _ => rfl), ?_, hwd⟩, grownBy_setBlock ⟨_, _, hb⟩ _ _, by simp [setBlock]⟩
  · simp only [Instr.entryStore, Sem.run_bind, MapKept.run_getObj_map hb, Result.andThen_ok]
    simp [asInt, asIntOf, hfind, MapKept.run_setObj_map _ hb, setBlock]
  · rw [hlist]
    refine ((set_perm _ _ hjl _).map pe).trans ?_
    unfold mput
    rw [List.map_cons, List.map_cons]
    have he : pe { e with val := v } = pr kv (k, v) := by simp [pe, pr, h3]
    rw [he]
    exact (erase_perm hn F hp h2 h3).cons _
end
section
variable {P : Program} {C : Ctx} {T : Ty} {res : List ResultVar} {p : Pos} {tm : Tm} {m : Mem}
theorem mapMk (ok : Okc P T C res) {o : Oper} {t d : Nat} (ho : o.op = .makeMap t none) (hd : o.dst = some d) (kv : Int → Value)
    (kk : ∀ g, sx T C res 1000 p (put C.n (some d) (.c (.v (.map (some g)))) tm) ⟨m.B, m.G, (d, mapR kv g []) :: del d (del d m.rs)⟩) : At C (.op o p) tm m := by
  rintro act w cs0 hR ⟨I, F, hJ⟩
  have hrun : (execOp act.eval o).run C.P w = .ok (.value (.map (some w.heap.size))) (w.alloc (.map #[] 0)) := by
    simp [execOp, ho, Instr.makeMap, newObj, Sem.run]
  have hup := hJ.upd d d (mapR kv w.heap.size []) noS (fun b => b = w.heap.size) (fun b hb => hb.elim) (Ext.alloc _ w _ fun b hb => hb.1) (mapR_of (fun b => Iff.rfl) (Mx.MapAt.made kv w)) (fun b hb => ⟨by simp [hb], .inr (by omega)⟩) id
  have hRp := hR.put (some d) (.c (.v (.map (some w.heap.size))))
  exact op_value (ok.sx (kk w.heap.size)) hrun (by rw [hd]; exact hRp) ⟨I, _, hup⟩
theorem mapLook (ok : Okc P T C res) (k : Nat) {o : Oper} {t : Nat} {om ox : Operand} {c : Bool} (ho : o.op = .lookup t om ox c) {kt et : TypeId} {kv : Int → Value} (F : Mx.KeyFn P kt kv) (ht : P.underlying t = some (.map kt et)) {z : Value} (hz : ∀ w, (zeroValue et).run P w = .ok z w)
    {g : Nat} {l : List (Int × Value)} {u : SV} {key : Int} (hk : look k m.rs = some (mapR kv g l)) (hm : ev tm om = some (.c (.v (.map (some g))))) (hx : ev tm ox = some u) (hu : u.val = kv key) (hw : (Lit.int .i64 key).wf = true)
    (kk : sx T C res 1000 p (put C.n o.dst (.c (nv (if c then .tuple #[(Mx.mget l key).getD z, .bool (Mx.mget l key).isSome] else (Mx.mget l key).getD z))) tm) m) : At C (.op o p) tm m := by
  obtain rfl := ok.P
  intro act w cs0 hR hJ
  have hM : Mx.MapAt kv w g l := by
    obtain ⟨I, Fo, hi⟩ := hJ
    exact (mapR_get (hi.own _ (look_mem hk))).2
  have e1 : act.eval om = .map (some g) := hR.eval hm
  have e2 : act.eval ox = kv key := by rw [hR.eval hx, hu]
  have hl := hM.lookup F ht (hz w) key hw c
  have hrun : (execOp act.eval o).run C.P w = .ok (.value (if c then .tuple #[(Mx.mget l key).getD z, .bool (Mx.mget l key).isSome] else (Mx.mget l key).getD z)) w := by
    simp only [execOp, ho, e1, e2]
    simp [hl, Result.andThen]
  have hRp := hR.put o.dst (.c (nv (if c then .tuple #[(Mx.mget l key).getD z, .bool (Mx.mget l key).isSome] else (Mx.mget l key).getD z)))
  simp only [SV.val, nv_val] at hRp
  exact op_value (ok.sx kk) hrun hRp hJ
theorem mapSet (ok : Okc P T C res) (k : Nat) {o : Oper} {t : Nat} {om ox ov : Operand} (ho : o.op = .mapUpdate t om ox ov) (hd : o.dst = none) {kt et : TypeId} {kv : Int → Value} (F : Mx.KeyFn P kt kv) (ht : P.underlying t = some (.map kt et))
    {g : Nat} {l : List (Int × Value)} {u v : SV} {key : Int} (hk : look k m.rs = some (mapR kv g l)) (hm : ev tm om = some (.c (.v (.map (some g))))) (hx : ev tm ox = some u) (hu : u.val = kv key) (hv : ev tm ov = some v) (hw : (Lit.int .i64 key).wf = true)
    (kk : sx T C res 1000 p tm ⟨m.B, m.G, (k, mapR kv g (Mx.mput l key v.val)) :: del k (del k m.rs)⟩) : At C (.op o p) tm m := by
  obtain rfl := ok.P
  rintro act w cs0 hR ⟨I, Fo, hJ⟩
  have h0 := mapR_get (hJ.own _ (look_mem hk))
  have e1 : act.eval om = .map (some g) := hR.eval hm
  have e2 : act.eval ox = kv key := by rw [hR.eval hx, hu]
  have e3 : act.eval ov = v.val := hR.eval hv
  obtain ⟨w', hr, hM, hg, hs⟩ := h0.2.update F ht key hw v.val
  have hrun : (execOp act.eval o).run C.P w = .ok .skip w' := by
    simp only [execOp, ho, e1, e2, e3]
    simp [hr, Result.andThen]
  have hup := hJ.upd k k (mapR kv g (Mx.mput l key v.val)) (fun b => b = g) (fun b => b = g) (fun b hb => ⟨(h0.1 b).2 hb, _, look_mem hk⟩) ⟨hg.os, hg.tape, hg.output, hg.size, fun b hb => hg.block b hb.1 (fun e => hb.2 (by simpa using e))⟩ (mapR_of (fun b => Iff.rfl) hM) (fun b hb => by subst hb; exact ⟨hM.lt, .inl rfl⟩) id
  exact op_skip (ok.sx kk) hrun (by rw [hd]; exact hR) ⟨I, _, hup⟩
/-- A map of one's own, with an entry whose stamp is known. -/
def mapE (kv : Int → Value) (g : Nat) (l : List (Int × Value)) (k : Int) (s : Nat) : Res := .usr fun S W => (∀ b, S b ↔ b = g) ∧ Mx.MapAt kv W g l ∧ Born kv W g k s
theorem mapE_get {kv : Int → Value} {g : Nat} {l : List (Int × Value)} {key : Int} {s : Nat} {S : Nat → Prop} {w : World} (h : (mapE kv g l key s).holds S w) : (∀ b, S b ↔ b = g) ∧ Mx.MapAt kv w g l ∧ Born kv w g key s := h w (Ext.refl _ _)
theorem mapE_of {kv : Int → Value} {g : Nat} {l : List (Int × Value)} {key : Int} {s : Nat} {S : Nat → Prop} {w : World} (hS : ∀ b, S b ↔ b = g) (h : Mx.MapAt kv w g l) (h2 : Born kv w g key s) : (mapE kv g l key s).holds S w := fun W e => ⟨hS, h.block (e.block g ((hS g).2 rfl)), h2.block (e.block g ((hS g).2 rfl))⟩
theorem mapEnt (ok : Okc P T C res) (k : Nat) {o : Oper} {t : Nat} {om ox : Operand} (ho : o.op = .mapEntry t om ox) {kt et : TypeId} {kv : Int → Value} (F : Mx.KeyFn P kt kv) (ht : P.underlying t = some (.map kt et)) {z : Value} (hz : ∀ w, (zeroValue et).run P w = .ok z w)
    {g : Nat} {l : List (Int × Value)} {u : SV} {key : Int} (hk : look k m.rs = some (mapR kv g l)) (hm : ev tm om = some (.c (.v (.map (some g))))) (hx : ev tm ox = some u) (hu : u.val = kv key) (hw : (Lit.int .i64 key).wf = true)
    (kk : ∀ s : Nat, sx T C res 1000 p (put C.n o.dst (.c (.v (.tuple #[(Mx.mget l key).getD z, .int .i64 (s : Nat)]))) tm) ⟨m.B, m.G, (k, mapE kv g (Mx.mput l key ((Mx.mget l key).getD z)) key s) :: del k (del k m.rs)⟩) : At C (.op o p) tm m := by
  obtain rfl := ok.P
  rintro act w cs0 hR ⟨I, Fo, hJ⟩
  have h0 := mapR_get (hJ.own _ (look_mem hk))
  have e1 : act.eval om = .map (some g) := hR.eval hm
  have e2 : act.eval ox = kv key := by rw [hR.eval hx, hu]
  obtain ⟨w', s, hr, hM, hB, hg, hs⟩ := map_entry h0.2 F ht (hz w) key hw
  have hrun : (execOp act.eval o).run C.P w = .ok (.value (.tuple #[(Mx.mget l key).getD z, .int .i64 (s : Nat)])) w' := by
    simp only [execOp, ho, e1, e2]
    simp [hr, Result.andThen]
  have hup := hJ.upd k k (mapE kv g (Mx.mput l key ((Mx.mget l key).getD z)) key s) (fun b => b = g) (fun b => b = g) (fun b hb => ⟨(h0.1 b).2 hb, _, look_mem hk⟩) ⟨hg.os, hg.tape, hg.output, hg.size, fun b hb => hg.block b hb.1 (fun e => hb.2 (by simpa using e))⟩ (mapE_of (fun b => Iff.rfl) hM hB) (fun b hb => by subst hb; exact ⟨hM.lt, .inl rfl⟩) id
  have hRp := hR.put o.dst (.c (.v (.tuple #[(Mx.mget l key).getD z, .int .i64 (s : Nat)])))
  exact op_value (ok.sx (kk s)) hrun hRp ⟨I, _, hup⟩
theorem mapSto (ok : Okc P T C res) (k : Nat) {o : Oper} {t : Nat} {om os ov : Operand} (ho : o.op = .entryStore t om os ov) (hd : o.dst = none) {kt : TypeId} {kv : Int → Value} (F : Mx.KeyFn P kt kv)
    {g : Nat} {l : List (Int × Value)} {v : SV} {key : Int} {s : Nat} (hk : look k m.rs = some (mapE kv g l key s)) (hm : ev tm om = some (.c (.v (.map (some g))))) (hx : ev tm os = some (.c (.v (.int .i64 (s : Nat))))) (hv : ev tm ov = some v) (hw : (Lit.int .i64 key).wf = true)
    (kk : sx T C res 1000 p tm ⟨m.B, m.G, (k, mapR kv g (Mx.mput l key v.val)) :: del k (del k m.rs)⟩) : At C (.op o p) tm m := by
  obtain rfl := ok.P
  rintro act w cs0 hR ⟨I, Fo, hJ⟩
  have h0 := mapE_get (hJ.own _ (look_mem hk))
  have e1 : act.eval om = .map (some g) := hR.eval hm
  have e2 : act.eval os = .int .i64 (s : Nat) := hR.eval hx
  have e3 : act.eval ov = v.val := hR.eval hv
  obtain ⟨w', hr, hM, hg, hs⟩ := entry_store (t := t) h0.2.1 h0.2.2 F hw v.val
  have hrun : (execOp act.eval o).run C.P w = .ok .skip w' := by
    simp only [execOp, ho, e1, e2, e3]
    simp [hr, Result.andThen]
  have hup := hJ.upd k k (mapR kv g (Mx.mput l key v.val)) (fun b => b = g) (fun b => b = g) (fun b hb => ⟨(h0.1 b).2 hb, _, look_mem hk⟩) ⟨hg.os, hg.tape, hg.output, hg.size, fun b hb => hg.block b hb.1 (fun e => hb.2 (by simpa using e))⟩ (mapR_of (fun b => Iff.rfl) hM) (fun b hb => by subst hb; exact ⟨hM.lt, .inl rfl⟩) id
  exact op_skip (ok.sx kk) hrun (by rw [hd]; exact hR) ⟨I, _, hup⟩
/-- A value of one part is built, by whatever law. -/
theorem bld1 (ok : Okc P T C res) {o : Oper} {t d : Nat} {x : Operand} (ho : o.op = .build t #[(0, x)]) (hd : o.dst = some d) {u : SV} (hx : ev tm x = some u) (v : Value) (h : ∀ w, (Instr.build t #[(0, u.val)]).run P w = .ok v w)
    (kk : sx T C res 1000 p (put C.n (some d) (.c (.v v)) tm) m) : At C (.op o p) tm m := by
  obtain rfl := ok.P
  intro act w cs0 hR hJ
  have e1 := hR.eval hx
  have hrun : (execOp act.eval o).run C.P w = .ok (.value v) w := by
    have := h w
    simp [execOp, ho, e1, this]
  have hRp := hR.put (some d) (.c (.v v))
  exact op_value (ok.sx kk) hrun (by rw [hd]; exact hRp) hJ
theorem mapLookE (ok : Okc P T C res) (k : Nat) {o : Oper} {t : Nat} {om ox : Operand} {c : Bool} (ho : o.op = .lookup t om ox c) {kt et : TypeId} {kv : Int → Value} (F : Mx.KeyFn P kt kv) (ht : P.underlying t = some (.map kt et)) {z : Value} (hz : ∀ w, (zeroValue et).run P w = .ok z w)
    {g : Nat} {l : List (Int × Value)} {u : SV} {key key' : Int} {st : Nat} (hk : look k m.rs = some (mapE kv g l key' st)) (hm : ev tm om = some (.c (.v (.map (some g))))) (hx : ev tm ox = some u) (hu : u.val = kv key) (hw : (Lit.int .i64 key).wf = true)
    (kk : sx T C res 1000 p (put C.n o.dst (.c (nv (if c then .tuple #[(Mx.mget l key).getD z, .bool (Mx.mget l key).isSome] else (Mx.mget l key).getD z))) tm) m) : At C (.op o p) tm m := by
  obtain rfl := ok.P
  intro act w cs0 hR hJ
  have hM : Mx.MapAt kv w g l := by
    obtain ⟨I, Fo, hi⟩ := hJ
    exact (mapE_get (hi.own _ (look_mem hk))).2.1
  have e1 : act.eval om = .map (some g) := hR.eval hm
  have e2 : act.eval ox = kv key := by rw [hR.eval hx, hu]
  have hl := hM.lookup F ht (hz w) key hw c
  have hrun : (execOp act.eval o).run C.P w = .ok (.value (if c then .tuple #[(Mx.mget l key).getD z, .bool (Mx.mget l key).isSome] else (Mx.mget l key).getD z)) w := by
    simp only [execOp, ho, e1, e2]
    simp [hl, Result.andThen]
  have hRp := hR.put o.dst (.c (nv (if c then .tuple #[(Mx.mget l key).getD z, .bool (Mx.mget l key).isSome] else (Mx.mget l key).getD z)))
  simp only [SV.val, nv_val] at hRp
  exact op_value (ok.sx kk) hrun hRp hJ
end
end Go.Proofs.YtbbaoeidobdblaaGreat.Sx

/- That an array of one int is a key that the laws on maps take. -/
set_option linter.unusedVariables false
set_option linter.unusedSimpArgs false
namespace Go.Proofs.YtbbaoeidobdblaaGreat.Keya
open Go.WideMaps Go.Maps

theorem laidOut : laidOutB Tryz.prog = true := by kernel_rfl
def kv1 (x : Int) : Value := .agg #[.int .i64 x]
theorem kv1_inj (x y : Int) (h : kv1 x = kv1 y) : x = y := by
  unfold kv1 at h
  simpa using h
theorem keyLits_arr {P : Program} {k e : TypeId} (hk : P.underlying k = some (.array 1 e)) (he : P.underlying e = some (.int .i64))
    (hc : P.cellsOf k = 1) (hce : P.cellsOf e = 1) (hsz : ∃ m, P.types.size = m + 1) (x : Int) (hw : (Lit.int .i64 x).wf = true) : ∃ l, P.keyLits (P.types.size + 1) k [.int .i64 x] = some l := by
  obtain ⟨m, hm⟩ := hsz
  rw [hm]
  simp [Program.keyLits, hk, hc, hce, he, hw]
theorem keyOf_arr {P : Program} {k e : TypeId} (hk : P.underlying k = some (.array 1 e)) (he : P.underlying e = some (.int .i64))
    (hc : P.cellsOf k = 1) (hce : P.cellsOf e = 1) (hsz : ∃ m, P.types.size = m + 1) (hkt : P.keyType k = true) (x : Int) (hw : (Lit.int .i64 x).wf = true) : ∃ l, keyOf P k (kv1 x) = some l := by
  obtain ⟨l, hl⟩ := keyLits_arr hk he hc hce hsz x hw
  refine ⟨.string (keyBytes l), ?_⟩
  simp [keyOf, hk, hkt, kv1, Value.formed, hc, Value.cells, hl]
theorem size_types : ∃ m, Tryz.prog.types.size = m + 1 := ⟨Tryz.prog.types.size - 1, by have : 0 < Tryz.prog.types.size := of_decide_eq_true (by kernel_rfl); omega⟩
theorem key_one : Mx.KeyFn Tryz.prog 130 kv1 := ⟨Keyed.of_law (deep_law_laid laidOut (m := 2) (by omega) (of_decide_eq_true (by kernel_rfl)) (by kernel_rfl) (by kernel_rfl)), keyOf_arr Tryz.underlying130 Tryz.underlying3 (by kernel_rfl) (by kernel_rfl) size_types (by kernel_rfl), kv1_inj⟩
end Go.Proofs.YtbbaoeidobdblaaGreat.Keya

/- power: New, Step, Mask; nor.Chip: Geometry, ask. -/
set_option linter.unusedVariables false
set_option linter.unusedSimpArgs false
namespace Go.Proofs.YtbbaoeidobdblaaGreat.Sx
open Go

attribute [local simp ↓] ifb_true' ifb_false'
attribute [local simp] ifb_true ifb_false ifb_eq sx argsT find ev evOp evs evo evBin evInt evStr evNil evNilA ptrA slcA isNoneA asB evLoad look del cellsB evUn evConv kdec fld evFieldA evField evIdxA evIdx evSlc bndL bndH evLen mmi put resV guardV gvL setO tupV cellsOf ones one upd lits nv exitTo SV.val CV.val TI.agg rdyA allR keepB scan simpO gsp isS subs keepT pickT wr memN pubs Res.fact Region.binds bld rest give delL back Res.eqv vi vb num Sv.val undef
abbrev powB (p : Pw) (fl : Value) : List CV := [.v (.int .i64 p.left), .v (.int .u8 p.mask), .b p.off, .v fl, .v (.int .i64 p.done)]
/-- A chip: its form, where its parts stand, its power, its bytes, how often each sector was erased. -/
structure Cp where
  g : Geo
  gc : Nat
  gp : Nat
  gb : Nat
  gm : Nat
  cap : Nat
  bc : Nat
  p : Pw
  fl : Value
  b : List Int
  er : List (Int × Int)
abbrev kv1 := Keya.kv1
abbrev Cp.chip (c : Cp) : Res := .box c.gc 105 [.v (.int .i64 c.g.sectors), .v (.int .i64 c.g.sector), .v (.int .i64 c.g.blocks), .v (.int .i64 c.g.pages), .v (.int .i64 c.g.page), .bp 1001 c.gp 0, .rw 1002 (some ⟨c.gb, 0, none⟩) c.b.length c.cap, .v (.map (some c.gm))]
abbrev Cp.pow (c : Cp) : Res := .box c.gp 108 (powB c.p c.fl)
abbrev Cp.row (c : Cp) : Res := .row (some ⟨c.gb, 0, none⟩) c.b.length c.bc 5 1 (bC c.b)
abbrev Cp.map (c : Cp) : Res := mapR kv1 c.gm (Mx.mv (Value.int .i64) c.er)
abbrev Cp.res (c : Cp) : List Res := [c.chip, c.pow, c.row, c.map]
abbrev ptrV (g : Nat) : Value := .pointer (some ⟨g, 0, none⟩)
theorem powNew0 (w : World) (I : Nat → Prop) (hI : ∀ b, I b → b < w.heap.size) :
    FnS Tryz.prog 13 #[] w I noS ptrV (fun g => [.box g 108 (powB ⟨-1, 0, false, 0⟩ (.map none))]) (fun _ _ => True) := by
  refine enterS (svs := []) tysOk Tryz.func13 rfl Tryz.ntmps13 Tryz.results13 (by kernel_rfl) (by simp) hI [] (owns_nil w) (fun b hb => hb.elim) (fun _ => True) (fun _ _ => trivial) fun C hC hN ok => ?_
  simp [hN]
  exact fun g => retS hC g [2] rfl (by simp) fun _ _ _ => trivial
theorem step0 (w : World) (I S : Nat → Prop) (hI : ∀ b, I b → b < w.heap.size) (gp : Nat) (p : Pw) (fl : Value) (hp : p.left ≤ 9223372036854775807) (hS : Owns [.box gp 108 (powB p fl)] S w) (hSI : ∀ b, S b → b < w.heap.size ∧ ¬ I b) :
    FnS Tryz.prog 145 #[ptrV gp] w I S (fun _ : Unit => .tuple #[.bool p.step.1, .bool p.step.2.1]) (fun _ => [.box gp 108 (powB p.step.2.2 fl)]) (fun _ _ => True) := by
  refine enterS (svs := [.c (.bp 1000 gp 0)]) tysOk Tryz.func145 rfl Tryz.ntmps145 Tryz.results145 (by kernel_rfl) (by simp) hI [.box gp 108 (powB p fl)] hS hSI (fun _ => True) (fun _ _ => trivial) fun C hC hN ok => ?_
  obtain ⟨left, mask, off, done⟩ := p
  simp only at hp
  cases off with
  | true =>
    simp [hN]
    exact retS hC () [1000] (by simp [Pw.step]) (by simp [Pw.step]) fun _ _ _ => trivial
  | false =>
    by_cases h0 : left = 0
    · subst h0
      simp [hN]
      exact retS hC () [1000] (by simp [Pw.step]) (by simp [Pw.step]) fun _ _ _ => trivial
    · by_cases h1 : 0 < left
      · have e1 : IntKind.i64.wrap (left - 1) = left - 1 := w64 (by omega) (by omega)
        simp [hN, h0, h1, e1]
        exact retS hC () [1000] (by simp [Pw.step, h0, h1]) (by simp [Pw.step, h0, h1]) fun _ _ _ => trivial
      · simp [hN, h0, h1]
        exact retS hC () [1000] (by simp [Pw.step, h0, h1]) (by simp [Pw.step, h0, h1]) fun _ _ _ => trivial
theorem mask0 (w : World) (I S : Nat → Prop) (hI : ∀ b, I b → b < w.heap.size) (gp : Nat) (p : Pw) (fl : Value) (hS : Owns [.box gp 108 (powB p fl)] S w) (hSI : ∀ b, S b → b < w.heap.size ∧ ¬ I b) :
    FnS Tryz.prog 147 #[ptrV gp] w I S (fun _ : Unit => .int .u8 p.mask) (fun _ => [.box gp 108 (powB p fl)]) (fun _ _ => True) := by
  refine enterS (svs := [.c (.bp 1000 gp 0)]) tysOk Tryz.func147 rfl Tryz.ntmps147 Tryz.results147 (by kernel_rfl) (by simp) hI [.box gp 108 (powB p fl)] hS hSI (fun _ => True) (fun _ _ => trivial) fun C hC hN ok => ?_
  simp [hN]
  exact retS hC () [1000] rfl (by simp) fun _ _ _ => trivial
theorem norGeo0 (w : World) (I S : Nat → Prop) (hI : ∀ b, I b → b < w.heap.size) (c : Cp) (hS : Owns [c.chip] S w) (hSI : ∀ b, S b → b < w.heap.size ∧ ¬ I b) :
    FnS Tryz.prog 99 #[ptrV c.gc] w I S (fun _ : Unit => .agg (geoC c.g).toArray) (fun _ => [c.chip]) (fun _ _ => True) := by
  refine enterS (svs := [.c (.bp 1000 c.gc 0)]) tysOk Tryz.func99 rfl Tryz.ntmps99 Tryz.results99 (by kernel_rfl) (by simp) hI [c.chip] hS hSI (fun _ => True) (fun _ _ => trivial) fun C hC hN ok => ?_
  simp [hN]
  exact fun g2 => retS hC () [1000] rfl (by simp) fun _ _ _ => trivial
def askE (n : Nat) (x k : Int) : Int := if x < 0 ∨ k < 0 ∨ (n : Int) - k < x then 1 else 0
theorem norAsk0 (w : World) (I S : Nat → Prop) (hI : ∀ b, I b → b < w.heap.size) (c : Cp) (x k : Int) (hk : k ≤ 4611686018427387904) (hn : c.b.length ≤ 100000000000) (hS : Owns [c.chip] S w) (hSI : ∀ b, S b → b < w.heap.size ∧ ¬ I b) :
    FnS Tryz.prog 75 #[ptrV c.gc, .int .i64 x, .int .i64 k] w I S (fun _ : Unit => .int .i64 (askE c.b.length x k)) (fun _ => [c.chip]) (fun _ _ => True) := by
  refine enterS (svs := [.c (.bp 1000 c.gc 0), .c (.v (.int .i64 x)), .c (.v (.int .i64 k))]) tysOk Tryz.func75 rfl Tryz.ntmps75 Tryz.results75 (by kernel_rfl) (by simp) hI [c.chip] hS hSI (fun _ => True) (fun _ _ => trivial) fun C hC hN ok => ?_
  have hr : ∀ e, e = askE c.b.length x k → RetP C (.int .i64 e) ⟨fun _ => True, fun _ => True, [(1000, c.chip)]⟩ := fun e he => retS hC () [1000] (by rw [he]) (by simp) fun _ _ _ => trivial
  by_cases h1 : x < 0
  · simp [hN, h1]
    exact hr _ (by simp [askE, h1])
  · by_cases h2 : k < 0
    · simp [hN, h1, h2]
      exact hr _ (by simp [askE, h2])
    · have e1 : IntKind.i64.wrap ((c.b.length : Int) - k) = c.b.length - k := w64 (by omega) (by omega)
      simp [hN, h1, h2, e1]
      exact ⟨fun h3 => hr _ (by simp [askE, h3]), fun h3 => hr _ (by simp [askE, h1, h2]; omega)⟩
end Go.Proofs.YtbbaoeidobdblaaGreat.Sx

/- nor: set, Chip.sector, Chip.Erase. -/
set_option linter.unusedVariables false
set_option linter.unusedSimpArgs false
namespace Go.Proofs.YtbbaoeidobdblaaGreat.Sx
open Go

attribute [local simp ↓] ifb_true' ifb_false'
attribute [local simp] ifb_true ifb_false ifb_eq sx argsT find ev evOp evs evo evBin evInt evStr evNil evNilA ptrA slcA isNoneA asB evLoad look del cellsB evUn evConv kdec fld evFieldA evField evIdxA evIdx evSlc bndL bndH evLen mmi put resV guardV gvL setO tupV cellsOf ones one upd lits nv exitTo SV.val CV.val TI.agg rdyA allR keepB scan simpO gsp isS subs keepT pickT wr memN pubs Res.fact Region.binds bld rest give delL back Res.eqv vi vb num Sv.val undef
def setM (b : List Int) (off len : Nat) (bits : Int) : List Int := b.take off ++ ((b.drop off).take len).map (fun x => bor x bits) ++ b.drop (off + len)
theorem setM_len (b : List Int) (off len : Nat) (bits : Int) (h : off + len ≤ b.length) : (setM b off len bits).length = b.length := by simp [setM]; omega
theorem setM_zero (b : List Int) (off : Nat) (bits : Int) : setM b off 0 bits = b := by simp [setM]
theorem setM_at (b : List Int) (off i : Nat) (bits : Int) (h : off + i < b.length) : (setM b off i bits)[off + i]? = some b[off + i] := by
  have h1 : (b.take off ++ ((b.drop off).take i).map (fun x => bor x bits)).length = off + i := by simp; omega
  rw [setM, List.getElem?_append_right (by omega), h1, Nat.sub_self, List.getElem?_drop, Nat.add_zero, List.getElem?_eq_getElem h]
theorem setM_succ (b : List Int) (off i : Nat) (bits : Int) (h : off + i < b.length) : (setM b off i bits).set (off + i) (bor b[off + i] bits) = setM b off (i + 1) bits := by
  have h1 : (b.take off ++ ((b.drop off).take i).map (fun x => bor x bits)).length = off + i := by simp; omega
  have h2 : b.drop (off + i) = b[off + i] :: b.drop (off + i + 1) := List.drop_eq_getElem_cons h
  have h3 : (b.drop off).take (i + 1) = (b.drop off).take i ++ [b[off + i]] := by
    rw [List.take_add_one, List.getElem?_drop, List.getElem?_eq_getElem h]
    rfl
  rw [setM, List.set_append_right _ _ (by omega), h1, Nat.sub_self, h2, setM, h3]
  simp [Nat.add_assoc]
theorem bC_len (l : List Int) : (bC l).length = l.length := by simp [bC]
theorem bC_at {l : List Int} {i : Nat} {x : Int} (h : l[i]? = some x) : (bC l)[i]? = some (.v (.int .u8 x)) := by simp [bC, h]
theorem bor_eq (a b : Int) : IntKind.u8.wrap (((a % 2 ^ IntKind.u8.bits).toNat ||| (b % 2 ^ IntKind.u8.bits).toNat : Nat) : Int) = bor a b := by simp [bor]
theorem band_eq (a b : Int) : IntKind.u8.wrap (((a % 2 ^ IntKind.u8.bits).toNat &&& (b % 2 ^ IntKind.u8.bits).toNat : Nat) : Int) = band a b := by simp [band]
set_option maxHeartbeats 1000000 in
theorem norSet0 (w : World) (I S : Nat → Prop) (hI : ∀ b, I b → b < w.heap.size) (gb off len cap' n cap : Nat) (b : List Int) (bits : Int) (hf : off + len ≤ b.length) (hl : b.length ≤ 100000000000) (hn : n = b.length)
    (hS : Owns [.row (some ⟨gb, 0, none⟩) n cap 5 1 (bC b)] S w) (hSI : ∀ b, S b → b < w.heap.size ∧ ¬ I b) :
    FnS Tryz.prog 146 #[.slice (some ⟨gb, off, none⟩) len cap', .int .u8 bits] w I S (fun _ : Unit => .tuple #[]) (fun _ => [.row (some ⟨gb, 0, none⟩) n cap 5 1 (bC (setM b off len bits))]) (fun _ _ => True) := by
  subst hn
  refine enterS (svs := [.c (.rw 1000 (some ⟨gb, off, none⟩) len cap'), .c (.v (.int .u8 bits))]) tysOk Tryz.func146 rfl Tryz.ntmps146 Tryz.results146 (by kernel_rfl) (by simp) hI [.row (some ⟨gb, 0, none⟩) b.length cap 5 1 (bC b)] hS hSI (fun _ => True) (fun _ _ => trivial) fun C hC hN ok => ?_
  simp [hN]
  refine loopK [0, 1, 5, 6] ok (fun i : Nat => [(7, .c (.v (.int .i64 i)))]) (fun i => [(1000, .row (some ⟨gb, 0, none⟩) b.length cap 5 1 (bC (setM b off i bits)))]) (fun i W => i ≤ len) (fun i => len - i) 0 ?_ ?_ (fun W hW => Nat.zero_le _) ?_
  · simp
  · simp [setM_zero]
  rintro i W hi hG next
  rcases Nat.lt_or_ge i len with hlt | hge
  · have e6 : IntKind.i64.wrap ((i : Int) + 1) = (i + 1 : Nat) := by rw [w64 (by omega) (by omega)]; omega
    have hat := bC_at (setM_at b off i bits (by omega))
    have hsl := setM_len b off i bits (by omega)
    have hsu := setM_succ b off i bits (by omega)
    have hbl := bC_len (setM b off i bits)
    have hs2 : (bC (setM b off i bits)).set (off + i) (.v (.int .u8 (bor b[off + i] bits))) = bC (setM b off (i + 1) bits) := by rw [bC_set, hsu]
    have hat2 : ∀ h : off + i < (bC (setM b off i bits)).length, (bC (setM b off i bits))[off + i]'h = .v (.int .u8 b[off + i]) := fun h => by rw [List.getElem?_eq_getElem h] at hat; exact Option.some.inj hat
    rw [hsl] at hbl
    simp [hN, hlt, hat, hat2, hbl, e6, bor_eq, hs2]
    exact ⟨by omega, next (i + 1) _ _ (by omega) (fun W h => ⟨hlt, trivial⟩) (by simp)⟩
  · obtain rfl : i = len := by omega
    simp [hN]
    exact retS hC () [1000] rfl (by simp) fun _ _ _ => trivial
theorem sector0 (w : World) (I S : Nat → Prop) (hI : ∀ b, I b → b < w.heap.size) (c : Cp) (i : Nat) (hi : (i : Int) < c.g.sectors) (hs : c.g.right) (hn : (c.b.length : Int) = c.g.sectors * c.g.sector) (hc : c.b.length ≤ c.cap) (hS : Owns [c.chip] S w) (hSI : ∀ b, S b → b < w.heap.size ∧ ¬ I b) :
    FnS Tryz.prog 144 #[ptrV c.gc, .int .i64 (i : Nat)] w I S (fun _ : Unit => .slice (some ⟨c.gb, i * c.g.sector.toNat, none⟩) c.g.sector.toNat (c.cap - i * c.g.sector.toNat)) (fun _ => [c.chip]) (fun _ _ => True) := by
  obtain ⟨q0, ⟨q1, q2⟩, ⟨q3, q4⟩, ⟨q5, q6⟩, ⟨q7, q8⟩, ⟨q9, q10⟩⟩ := id hs
  refine enterS (svs := [.c (.bp 1000 c.gc 0), .c (.v (.int .i64 (i : Nat)))]) tysOk Tryz.func144 rfl Tryz.ntmps144 Tryz.results144 (by kernel_rfl) (by simp) hI [c.chip] hS hSI (fun _ => True) (fun _ _ => trivial) fun C hC hN ok => ?_
  obtain ⟨s, hs'⟩ : ∃ s : Nat, c.g.sector = s := ⟨c.g.sector.toNat, by omega⟩
  have hst : c.g.sector.toNat = s := by omega
  rw [hst] at hC
  have hle : (i + 1) * s ≤ c.b.length := by
    have h1 : ((i : Int) + 1) * s ≤ c.g.sectors * s := Int.mul_le_mul_of_nonneg_right (by omega) (by omega)
    rw [← hs', ← hn, hs'] at h1
    exact_mod_cast h1
  have hsm : (i + 1) * s = i * s + s := Nat.succ_mul i s
  have hb : i * s ≤ 16 * 4096 := Nat.mul_le_mul (by omega) (by omega)
  have w1 : IntKind.i64.wrap ((i : Int) * s) = (i * s : Nat) := by rw [w64 (by omega) (by omega)]; push_cast; rfl
  have w2 : IntKind.i64.wrap ((i : Int) + 1) = (i + 1 : Nat) := by rw [w64 (by omega) (by omega)]; omega
  have w3 : IntKind.i64.wrap (((i + 1 : Nat) : Int) * s) = ((i + 1) * s : Nat) := by rw [← Int.natCast_mul, w64 (by omega) (by omega)]
  have hni : ¬ ((i : Nat) : Int) < 0 := by omega
  simp [hN, hni, hi]
  refine ⟨fun h => absurd h (by omega), ?_⟩
  have w4 : IntKind.i64.wrap (((i : Int) + 1) * s) = ((i + 1) * s : Nat) := by rw [← w3]; push_cast; rfl
  refine drawK ok mixed (by kernel_rfl) ?_
  simp (maxSteps := 2000000) -implicitDefEqProofs [hN, hs', w1, w2, w3, w4]
  have p1 : (i : Int) * s = ((i * s : Nat) : Int) := by push_cast; rfl
  have p2 : ((i : Int) + 1) * s = (((i + 1) * s : Nat) : Int) := by push_cast; rfl
  rw [p1, p2, Int.toNat_natCast, Int.toNat_natCast, if_neg (by omega), show (i + 1) * s - i * s = s by omega]
  exact ⟨⟨by omega, by omega, by omega⟩, retS hC () [1000] rfl (by simp) fun _ _ _ => trivial⟩
def eraseM (c : Cp) (i : Nat) : Int × Cp :=
  match c.p.step with
  | (true, _, q) => (0, { c with p := q, b := setM c.b (i * c.g.sector.toNat) c.g.sector.toNat 255, er := Mx.mput c.er i (IntKind.i64.wrap ((Mx.mget c.er i).getD 0 + 1)) })
  | (false, true, q) => (6, { c with p := q, b := setM c.b (i * c.g.sector.toNat) c.g.sector.toNat q.mask })
  | (false, false, q) => (6, { c with p := q })
theorem zero_int (w : World) : (zeroValue 3).run Tryz.prog w = .ok (.int .i64 0) w := by
  kernel_rfl
theorem key_build (x : Int) (w : World) : (Instr.build 130 #[(0, .int .i64 x)]).run Tryz.prog w = .ok (kv1 x) w := by
  have hz : (zeroValue 130).run Tryz.prog w = .ok (.agg #[.int .i64 0]) w := by kernel_rfl
  have hs : (sizeOf 3).run Tryz.prog w = .ok 1 w := by kernel_rfl
  simp [Instr.build, hz, run_underlying Tryz.underlying130, hs, Instr.fill, kv1, Keya.kv1, Value.cells]
set_option maxHeartbeats 1000000 in
theorem erase0 (w : World) (I S : Nat → Prop) (hI : ∀ b, I b → b < w.heap.size) (c : Cp) (i : Nat) (hi : (i : Int) < c.g.sectors) (hs : c.g.right) (hn : (c.b.length : Int) = c.g.sectors * c.g.sector) (hc : c.b.length ≤ c.cap) (hp : c.p.left ≤ 9223372036854775807) (hS : Owns c.res S w) (hSI : ∀ b, S b → b < w.heap.size ∧ ¬ I b) :
    FnS Tryz.prog 100 #[ptrV c.gc, .int .i64 (i : Nat)] w I S (fun _ : Unit => .int .i64 (eraseM c i).1) (fun _ => (eraseM c i).2.res) (fun _ _ => True) := by
  obtain ⟨q0, ⟨q1, q2⟩, ⟨q3, q4⟩, ⟨q5, q6⟩, ⟨q7, q8⟩, ⟨q9, q10⟩⟩ := id hs
  refine enterS (svs := [.c (.bp 1000 c.gc 0), .c (.v (.int .i64 (i : Nat)))]) tysOk Tryz.func100 rfl Tryz.ntmps100 Tryz.results100 (by kernel_rfl) (by simp) hI c.res hS hSI (fun _ => True) (fun _ _ => trivial) fun C hC hN ok => ?_
  obtain ⟨s, hs'⟩ : ∃ s : Nat, c.g.sector = s := ⟨c.g.sector.toNat, by omega⟩
  have hst : c.g.sector.toNat = s := by omega
  have hle : (i + 1) * s ≤ c.b.length := by
    have h1 : ((i : Int) + 1) * s ≤ c.g.sectors * s := Int.mul_le_mul_of_nonneg_right (by omega) (by omega)
    rw [← hs', ← hn, hs'] at h1
    exact_mod_cast h1
  have hsm : (i + 1) * s = i * s + s := Nat.succ_mul i s
  have hbl : (c.b.length : Int) ≤ 16 * 4096 := by rw [hn]; exact Int.mul_le_mul (by omega) (by omega) (by omega) (by omega)
  simp [hN]
  refine callS ok rfl rfl rfl [1000] [c.chip] (by simp) rfl (fun _ : Unit => [(1000, c.chip)]) (fun w I S hI hG hO hS' => sector0 w I S hI c i hi hs hn hc hO hS') (fun r => by simp) (.inr fun x q hq => by simp at hq; rw [hq]; exact Nat.le_refl _) fun _ W _ => ?_
  simp [hN]
  refine callS ok rfl rfl rfl [1001] [c.pow] (by simp) rfl (fun _ : Unit => [(1001, .box c.gp 108 (powB c.p.step.2.2 c.fl))]) (fun w I S hI hG hO hS' => step0 w I S hI c.gp c.p c.fl hp hO hS') (fun r => by simp) (.inr fun x q hq => by simp at hq; subst hq; simp) fun _ W _ => ?_
  unfold eraseM at hC
  generalize c.p.step = r at *
  obtain ⟨d, t, q⟩ := r
  have hsl := setM_len c.b (i * s) s
  cases d with
  | true =>
    simp only [hst] at hC ⊢
    simp [hN]
    refine callS ok rfl rfl rfl [1002] [c.row] (by simp) rfl (fun _ : Unit => [(1002, .row (some ⟨c.gb, 0, none⟩) c.b.length c.bc 5 1 (bC (setM c.b (i * s) s 255)))]) (fun w I S hI hG hO hS' => norSet0 w I S hI c.gb (i * s) s (c.cap - i * s) c.b.length c.bc c.b 255 (by omega) (by omega) rfl hO hS') (fun r => by simp) (.inr fun x q hq => by simp at hq; subst hq; simp) fun _ W _ => ?_
    simp [hN]
    have hwf : (Lit.int .i64 (i : Nat)).wf = true := wf64 (by omega) (by omega)
    have hgl : (Mx.mget (Mx.mv (Value.int .i64) c.er) i).getD (.int .i64 0) = .int .i64 ((Mx.mget c.er i).getD 0) := by rw [Mx.mget_mv]; cases Mx.mget c.er i <;> rfl
    refine draw ok [(1000, c.chip)] (by rw [ok.P]; exact mixed) (by kernel_rfl) ?_
    simp (maxSteps := 2000000) -implicitDefEqProofs [hN]
    refine bld1 ok rfl rfl rfl (kv1 i) (fun w => key_build _ w) ?_
    simp (maxSteps := 2000000) -implicitDefEqProofs [hN]
    have hgm : (Mx.mget (Mx.mput (Mx.mv (Value.int .i64) c.er) i (.int .i64 ((Mx.mget c.er i).getD 0))) i).getD (.int .i64 0) = .int .i64 ((Mx.mget c.er i).getD 0) := by rw [Mx.mget_mput]; simp
    have hfin : ∀ x : Int, Mx.mput (Mx.mput (Mx.mv (Value.int .i64) c.er) i (.int .i64 ((Mx.mget c.er i).getD 0))) i (.int .i64 x) = Mx.mv (Value.int .i64) (Mx.mput c.er i x) := fun x => by rw [mput_mput, Mx.mput_mv]
    refine ⟨?_, ?_⟩
    · refine mapLook ok 1003 rfl Keya.key_one Tryz.underlying103 (fun w => zero_int w) rfl rfl rfl rfl hwf ?_
      simp (maxSteps := 2000000) -implicitDefEqProofs [hN, hgl, hgm]
      refine mapEnt ok 1003 rfl Keya.key_one Tryz.underlying103 (fun w => zero_int w) rfl rfl rfl rfl hwf fun st => ?_
      simp only [hgl]
      simp (maxSteps := 2000000) -implicitDefEqProofs [hN, hgl, hgm]
      refine mapSto ok 1003 rfl rfl Keya.key_one rfl rfl rfl rfl hwf ?_
      simp only [SV.val, CV.val, hfin]
      simp (maxSteps := 2000000) -implicitDefEqProofs [hN, hgl, hgm]
      exact retS hC () [1000, 1001, 1002, 1003] rfl (by simp [Cp.map, mapR, hsl 255 (by omega)]) fun _ _ _ => trivial
    · refine mapEnt ok 1003 rfl Keya.key_one Tryz.underlying103 (fun w => zero_int w) rfl rfl rfl rfl hwf fun st => ?_
      simp only [hgl]
      simp (maxSteps := 2000000) -implicitDefEqProofs [hN, hgl, hgm]
      refine mapLookE ok 1003 rfl Keya.key_one Tryz.underlying103 (fun w => zero_int w) rfl rfl rfl rfl hwf ?_
      simp (maxSteps := 2000000) -implicitDefEqProofs [hN, hgl, hgm]
      refine mapSto ok 1003 rfl rfl Keya.key_one rfl rfl rfl rfl hwf ?_
      simp only [SV.val, CV.val, hfin]
      simp (maxSteps := 2000000) -implicitDefEqProofs [hN, hgl, hgm]
      exact retS hC () [1000, 1001, 1002, 1003] rfl (by simp [Cp.map, mapR, hsl 255 (by omega)]) fun _ _ _ => trivial
  | false =>
    cases t with
    | true =>
      simp only [hst] at hC ⊢
      simp [hN]
      refine callS ok rfl rfl rfl [1001] [.box c.gp 108 (powB q c.fl)] (by simp) rfl (fun _ : Unit => [(1001, .box c.gp 108 (powB q c.fl))]) (fun w I S hI hG hO hS' => mask0 w I S hI c.gp q c.fl hO hS') (fun r => by simp) (.inr fun x q hq => by simp at hq; subst hq; simp) fun _ W _ => ?_
      simp [hN]
      refine callS ok rfl rfl rfl [1002] [c.row] (by simp) rfl (fun _ : Unit => [(1002, .row (some ⟨c.gb, 0, none⟩) c.b.length c.bc 5 1 (bC (setM c.b (i * s) s q.mask)))]) (fun w I S hI hG hO hS' => norSet0 w I S hI c.gb (i * s) s (c.cap - i * s) c.b.length c.bc c.b q.mask (by omega) (by omega) rfl hO hS') (fun r => by simp) (.inr fun x q hq => by simp at hq; subst hq; simp) fun _ W _ => ?_
      simp [hN]
      exact retS hC () [1000, 1001, 1002, 1003] rfl (by simp [Cp.map, mapR, hsl q.mask (by omega)]) fun _ _ _ => trivial
    | false =>
      simp [hN]
      exact retS hC () [1000, 1001, 1002, 1003] rfl (by simp [Cp.map, mapR]) fun _ _ _ => trivial
end Go.Proofs.YtbbaoeidobdblaaGreat.Sx

/- nor.Chip.Program. -/
set_option linter.unusedVariables false
set_option linter.unusedSimpArgs false
namespace Go.Proofs.YtbbaoeidobdblaaGreat.Sx
open Go

attribute [local simp ↓] ifb_true' ifb_false'
attribute [local simp] ifb_true ifb_false ifb_eq sx argsT find ev evOp evs evo evBin evInt evStr evNil evNilA ptrA slcA isNoneA asB evLoad look del cellsB evUn evConv kdec fld evFieldA evField evIdxA evIdx evSlc bndL bndH evLen mmi put resV guardV gvL setO tupV cellsOf ones one upd lits nv exitTo SV.val CV.val TI.agg rdyA allR keepB scan simpO gsp isS subs keepT pickT wr memN pubs Res.fact Region.binds bld rest give delL back Res.eqv vi vb num Sv.val undef
/-- Bytes are programmed from a place on. -/
def layI (b : List Int) (o : Nat) (xs : List Int) : List Int := b.take o ++ xs ++ b.drop (o + xs.length)
theorem layI_len (b : List Int) (o : Nat) (xs : List Int) (h : o + xs.length ≤ b.length) : (layI b o xs).length = b.length := by simp [layI]; omega
def progM (c : Cp) (at_ : Nat) (xs : List Int) : Int × Cp :=
  if fitsM (c.b.drop at_) xs then (if (writeM c.p ((c.b.drop at_).take xs.length) xs).1 then 0 else 6, { c with p := (writeM c.p ((c.b.drop at_).take xs.length) xs).2.2, b := layI c.b at_ (writeM c.p ((c.b.drop at_).take xs.length) xs).2.1 }) else (9, c)
theorem writeM_len : ∀ (p : Pw) (os xs : List Int), os.length = xs.length → (writeM p os xs).2.1.length = xs.length
  | p, [], [], _ => rfl
  | p, o :: os, x :: xs, h => by
    have h' : os.length = xs.length := by simpa using h
    unfold writeM
    rcases p.step with ⟨d, t, q⟩
    cases d with
    | true => simp [writeM_len q os xs h']
    | false => cases t <;> simp [h']
theorem fitsM_no : ∀ (os xs : List Int) (i : Nat) (h1 : i < os.length) (h2 : i < xs.length), bandn xs[i] os[i] ≠ 0 → fitsM os xs = false
  | [], _, i, h1, _, _ => by simp at h1
  | _ :: _, [], i, _, h2, _ => by simp at h2
  | o :: os, x :: xs, 0, _, _, h => by
    simp only [List.getElem_cons_zero] at h
    simp [fitsM, h]
  | o :: os, x :: xs, i + 1, h1, h2, h => by
    simp only [List.getElem_cons_succ] at h
    simp [fitsM, fitsM_no os xs i (by simpa using h1) (by simpa using h2) h]
theorem fitsM_yes : ∀ (os xs : List Int), (∀ i (h1 : i < os.length) (h2 : i < xs.length), bandn xs[i] os[i] = 0) → fitsM os xs = true
  | [], _, _ => by simp [fitsM]
  | _ :: _, [], _ => by simp [fitsM]
  | o :: os, x :: xs, h => by
    have h0 := h 0 (by simp) (by simp)
    simp only [List.getElem_cons_zero] at h0
    simp only [fitsM, h0, Bool.and_eq_true, beq_iff_eq, true_and]
    exact fitsM_yes os xs fun i h1 h2 => by
      have := h (i + 1) (by simpa using h1) (by simpa using h2)
      simpa using this
theorem byte_get {W : World} {a : Option Addr} {n c : Nat} {l : List Int} (h : Sv.ok dByte W (a, n, c) l) {i : Nat} (hi : i < l.length) : ∃ b o, a = some ⟨b, o, none⟩ ∧ W.cell? ⟨b, o + i, none⟩ = some (.int .u8 l[i]) := by
  obtain ⟨b, o, e⟩ := h.2.2.2.is_some (show 0 < l.length by omega)
  cases e
  obtain ⟨cs, hk, _, hc⟩ := h.2.2.2.get hi
  exact ⟨b, o, rfl, by simpa [dByte, flat] using hc 0 (.int .u8 l[i]) (by rw [hk]; rfl)⟩
theorem layI_set (b : List Int) (o : Nat) (xs : List Int) (y : Int) (h : o + xs.length < b.length) : (layI b o xs).set (o + xs.length) y = layI b o (xs ++ [y]) := by
  have h1 : (b.take o ++ xs).length = o + xs.length := by simp; omega
  rw [layI, List.set_append_right _ _ (by omega), h1, Nat.sub_self, List.drop_eq_getElem_cons h, layI]
  simp [Nat.add_assoc]
theorem layI_at (b : List Int) (o : Nat) (xs : List Int) (h : o + xs.length < b.length) : (layI b o xs)[o + xs.length]? = some b[o + xs.length] := by
  have h1 : (b.take o ++ xs).length = o + xs.length := by simp; omega
  rw [layI, List.getElem?_append_right (by omega), h1, Nat.sub_self, List.getElem?_drop, Nat.add_zero, List.getElem?_eq_getElem h]
theorem bandn_eq (a b : Int) : IntKind.u8.wrap (((a % 2 ^ IntKind.u8.bits).toNat &&& (2 ^ IntKind.u8.bits - 1 - (b % 2 ^ IntKind.u8.bits).toNat) : Nat) : Int) = bandn a b := by simp [bandn]
theorem layI_old (b : List Int) (o n : Nat) (A : List Int) (hA : A.length ≤ n) (h : o + n ≤ b.length) : layI b o (A ++ ((b.drop o).take n).drop A.length) = layI b o A := by
  have h1 : ((b.drop o).take n).drop A.length = (b.drop (o + A.length)).take (n - A.length) := by rw [List.drop_take, List.drop_drop]
  have h2 : ((b.drop (o + A.length)).take (n - A.length)).length = n - A.length := by simp; omega
  rw [h1, layI, layI, List.length_append, h2, List.append_assoc, List.append_assoc, List.append_assoc]
  congr 2
  have e3 : b.drop (o + (A.length + (n - A.length))) = (b.drop (o + A.length)).drop (n - A.length) := by
    rw [List.drop_drop]
    congr 1
    omega
  rw [e3, List.take_append_drop]
set_option maxHeartbeats 2000000 in
theorem program0 (w : World) (I S : Nat → Prop) (hI : ∀ b, I b → b < w.heap.size) (c : Cp) (o : Nat) {a : Option Addr} {n cp : Nat} (xs : List Int) (hx : ∀ W, Ext I w W → Sv.ok dByte W (a, n, cp) xs) (ho : o + xs.length ≤ c.b.length) (hb : c.b.length ≤ 1000000000) (hp : c.p.left ≤ 9223372036854775807) (hS : Owns c.res S w) (hSI : ∀ b, S b → b < w.heap.size ∧ ¬ I b) :
    FnS Tryz.prog 104 #[ptrV c.gc, .int .i64 (o : Nat), .slice a n cp] w I S (fun _ : Unit => .int .i64 (progM c o xs).1) (fun _ => (progM c o xs).2.res) (fun _ _ => True) := by
  obtain rfl : n = xs.length := (hx w (Ext.refl _ _)).1
  refine enterS (svs := [.c (.bp 1000 c.gc 0), .c (.v (.int .i64 (o : Nat))), .c (.v (.slice a xs.length cp))]) tysOk Tryz.func104 rfl Tryz.ntmps104 Tryz.results104 (by kernel_rfl) (by simp) hI c.res hS hSI (fun W => Sv.ok dByte W (a, xs.length, cp) xs) hx fun C hC hN ok => ?_
  have hask : askE c.b.length o xs.length = 0 := by unfold askE; rw [if_neg (by omega)]
  simp [hN]
  refine callS ok rfl rfl rfl [1000] [c.chip] (by simp) rfl (fun _ : Unit => [(1000, c.chip)]) (fun w I S hI hG hO hS' => norAsk0 w I S hI c o xs.length (by omega) (by omega) hO hS') (fun r => by simp) (.inr fun x q hq => by simp at hq; subst hq; simp) fun _ W _ => ?_
  simp [hN, hask]
  refine loopK [0, 1, 2, 22, 23] ok (fun i : Nat => [(24, .c (.v (.int .i64 i)))]) (fun _ => [(1000, c.chip), (1001, c.pow), (1002, c.row), (1003, c.map)]) (fun i W => i ≤ xs.length ∧ ∀ j (h1 : j < xs.length) (h2 : o + j < c.b.length), j < i → bandn xs[j] c.b[o + j] = 0) (fun i => xs.length - i) 0 ?_ ?_ (fun W hW => ⟨Nat.zero_le _, fun j _ _ h => absurd h (Nat.not_lt_zero _)⟩) ?_
  · simp
  · simp
  rintro i W ⟨hi, hfit⟩ hG next
  rcases Nat.lt_or_ge i xs.length with hlt | hge
  · obtain ⟨b', o', e, _⟩ := byte_get (show Sv.ok dByte W (a, xs.length, cp) xs from hG) hlt
    cases e
    have e6 : IntKind.i64.wrap ((i : Int) + 1) = (i + 1 : Nat) := by rw [w64 (by omega) (by omega)]; omega
    obtain ⟨z, hz⟩ : ∃ z, z = o + i := ⟨_, rfl⟩
    have e7 : IntKind.i64.wrap ((o : Int) + i) = (z : Nat) := by rw [w64 (by omega) (by omega)]; omega
    have hoi : z < c.b.length := by omega
    have hat := bC_at (List.getElem?_eq_getElem hoi)
    have hbl := bC_len c.b
    have hat2 : ∀ h : z < (bC c.b).length, (bC c.b)[z]'h = .v (.int .u8 c.b[z]) := fun h => by rw [List.getElem?_eq_getElem h] at hat; exact Option.some.inj hat
    simp [hN, hlt]
    refine load1 ok rfl rfl rfl rfl (fun v W => v = .int .u8 xs[i]) (fun W hW => ?_) ?_
    · obtain ⟨b'', o'', e, hc⟩ := byte_get hW.2 hlt
      cases e
      exact ⟨_, hc, rfl⟩
    rintro v W rfl _
    simp [hN, e6, e7, hat, hat2, hoi, hbl, bandn_eq]
    refine ⟨by omega, fun hbad => ?_, fun hok => next (i + 1) _ _ (by omega) (fun W h => ⟨⟨hlt, fun j h1 h2 h3 => ?_⟩, h.2⟩) (by simp)⟩
    · have hpm : progM c o xs = (9, c) := by
        rw [progM, if_neg]
        rw [fitsM_no (c.b.drop o) xs i (by simp; omega) hlt (by rw [List.getElem_drop]; simpa [hz] using hbad)]
        decide
      rw [hpm] at hC
      exact retS hC () [1000, 1001, 1002, 1003] rfl (by simp [Cp.map, mapR]) fun _ _ _ => trivial
    · rcases Nat.lt_or_ge j i with h4 | h4
      · exact hfit j h1 h2 h4
      · obtain rfl : j = i := by omega
        simpa [hz] using hok
  have hfits : fitsM (c.b.drop o) xs = true := fitsM_yes _ _ fun j h1 h2 => by
    rw [List.getElem_drop]
    exact hfit j h2 (by simp at h1; omega) (by omega)
  clear next
  have hpm : progM c o xs = (if (writeM c.p ((c.b.drop o).take xs.length) xs).1 then 0 else 6, { c with p := (writeM c.p ((c.b.drop o).take xs.length) xs).2.2, b := layI c.b o (writeM c.p ((c.b.drop o).take xs.length) xs).2.1 }) := by rw [progM, if_pos hfits]
  rw [hpm] at hC
  have hol : ((c.b.drop o).take xs.length).length = xs.length := by simp; omega
  obtain ⟨old, hold⟩ : ∃ old, old = (c.b.drop o).take xs.length := ⟨_, rfl⟩
  have hoat : ∀ j (h : j < old.length) (h2 : o + j < c.b.length), old[j] = c.b[o + j] := fun j h h2 => by
    subst hold
    rw [List.getElem_take, List.getElem_drop]
  rw [← hold] at hC hol
  simp [hN, Nat.not_lt.2 hge]
  refine loopK [0, 1, 2, 42, 43] ok (fun y : Nat × Pw => [(44, .c (.v (.int .i64 (y.1 : Nat))))]) (fun y => [(1000, c.chip), (1001, .box c.gp 108 (powB y.2 c.fl)), (1002, .row (some ⟨c.gb, 0, none⟩) c.b.length c.bc 5 1 (bC (layI c.b o (xs.take y.1)))), (1003, c.map)]) (fun y W => y.1 ≤ xs.length ∧ y.2.left ≤ 9223372036854775807 ∧ writeM c.p old xs = ((writeM y.2 (old.drop y.1) (xs.drop y.1)).1, xs.take y.1 ++ (writeM y.2 (old.drop y.1) (xs.drop y.1)).2.1, (writeM y.2 (old.drop y.1) (xs.drop y.1)).2.2)) (fun y => xs.length - y.1) (0, c.p) ?_ ?_ (fun W hW => ⟨Nat.zero_le _, hp, by simp⟩) ?_
  · simp
  · simp [layI]
  rintro ⟨k, p⟩ W ⟨hk, hpl, hwm⟩ hG2 next
  simp only at hk hpl hwm
  rcases Nat.lt_or_ge k xs.length with hlt | hge2
  · obtain ⟨b', o', e, _⟩ := byte_get (show Sv.ok dByte W (a, xs.length, cp) xs from hG2.2) hlt
    cases e
    have e6 : IntKind.i64.wrap ((k : Int) + 1) = (k + 1 : Nat) := by rw [w64 (by omega) (by omega)]; omega
    obtain ⟨z, hz⟩ : ∃ z, z = o + k := ⟨_, rfl⟩
    have e7 : IntKind.i64.wrap ((o : Int) + k) = (z : Nat) := by rw [w64 (by omega) (by omega)]; omega
    simp [hN, hlt]
    refine load1 ok rfl rfl rfl rfl (fun v W => v = .int .u8 xs[k]) (fun W hW => ?_) ?_
    · obtain ⟨b'', o'', e, hc⟩ := byte_get hW.2.2 hlt
      cases e
      exact ⟨_, hc, rfl⟩
    rintro v W rfl _
    simp [hN]
    refine callS ok rfl rfl rfl [1001] [.box c.gp 108 (powB p c.fl)] (by simp) rfl (fun _ : Unit => [(1001, .box c.gp 108 (powB p.step.2.2 c.fl))]) (fun w I S hI hG hO hS' => step0 w I S hI c.gp p c.fl hpl hO hS') (fun r => by simp) (.inr fun x q hq => by simp at hq; subst hq; simp) fun _ W _ => ?_
    have hw1 : writeM p (old.drop k) (xs.drop k) = match p.step with
      | (true, _, q) => ((writeM q (old.drop (k + 1)) (xs.drop (k + 1))).1, xs[k] :: (writeM q (old.drop (k + 1)) (xs.drop (k + 1))).2.1, (writeM q (old.drop (k + 1)) (xs.drop (k + 1))).2.2)
      | (false, true, q) => (false, bor xs[k] (band c.b[o + k] q.mask) :: old.drop (k + 1), q)
      | (false, false, q) => (false, c.b[o + k] :: old.drop (k + 1), q) := by
      rw [List.drop_eq_getElem_cons (show k < old.length by omega), List.drop_eq_getElem_cons hlt, writeM, hoat k (by omega) (by omega)]
      rcases p.step with ⟨d, t, q⟩
      cases d <;> cases t <;> rfl
    have hsl : p.step.2.2.left ≤ 9223372036854775807 := by
      unfold Pw.step
      split
      · exact hpl
      · split
        · exact hpl
        · simp only
          split <;> omega
    have hdt : p.step.1 = true → p.step.2.1 = false := by
      unfold Pw.step
      split
      · intro h; rfl
      · split
        · intro h; cases h
        · intro h; rfl
    generalize p.step = r at *
    obtain ⟨d, t, q⟩ := r
    have htk : (xs.take k).length = k := by simp; omega
    have hrl : (layI c.b o (xs.take k)).length = c.b.length := layI_len _ _ _ (by rw [htk]; omega)
    have hbl := bC_len (layI c.b o (xs.take k))
    rw [hrl] at hbl
    have hset : ∀ y, (bC (layI c.b o (xs.take k))).set z (.v (.int .u8 y)) = bC (layI c.b o (xs.take k ++ [y])) := fun y => by
      rw [bC_set, hz]
      have := layI_set c.b o (xs.take k) y (by rw [htk]; omega)
      rw [htk] at this
      rw [this]
    have hat := bC_at (show (layI c.b o (xs.take k))[z]? = some (c.b[o + k]'(by omega)) by have := layI_at c.b o (xs.take k) (by rw [htk]; omega); simp only [htk] at this; subst hz; exact this)
    have hat2 : ∀ h : z < (bC (layI c.b o (xs.take k))).length, (bC (layI c.b o (xs.take k)))[z]'h = .v (.int .u8 (c.b[o + k]'(by omega))) := fun h => by rw [List.getElem?_eq_getElem h] at hat; exact Option.some.inj hat
    cases d with
    | true =>
      obtain rfl : t = false := hdt rfl
      simp [hN, e6, e7, hbl, hset]
      have hf3 : writeM c.p old xs = ((writeM q (old.drop (k + 1)) (xs.drop (k + 1))).1, xs.take (k + 1) ++ (writeM q (old.drop (k + 1)) (xs.drop (k + 1))).2.1, (writeM q (old.drop (k + 1)) (xs.drop (k + 1))).2.2) := by
        have hft : xs.take (k + 1) = xs.take k ++ [xs[k]] := by rw [List.take_add_one, List.getElem?_eq_getElem hlt]; rfl
        rw [hwm, hw1, hft, List.append_assoc]
        rfl
      exact ⟨by omega, by omega, next (k + 1, q) _ _ (by simp; omega) (fun W h => ⟨⟨hlt, hsl, hf3⟩, h.2⟩) (by simp)⟩
    | false =>
      cases t with
      | true =>
        simp [hN]
        refine draw ok [(1000, c.chip), (1002, .row (some ⟨c.gb, 0, none⟩) c.b.length c.bc 5 1 (bC (layI c.b o (xs.take k))))] (by rw [ok.P]; exact mixed) (by kernel_rfl) ?_
        simp (maxSteps := 2000000) -implicitDefEqProofs [hN, e7, hat, hat2, hbl]
        and_intros
        all_goals try omega
        refine callS ok rfl rfl rfl [1001] [.box c.gp 108 (powB q c.fl)] (by simp) rfl (fun _ : Unit => [(1001, .box c.gp 108 (powB q c.fl))]) (fun w I S hI hG hO hS' => mask0 w I S hI c.gp q c.fl hO hS') (fun r => by simp) (.inr fun x q hq => by simp at hq; subst hq; simp) fun _ W _ => ?_
        simp (maxSteps := 2000000) -implicitDefEqProofs [hN, e7, hbl, band_eq, bor_eq]
        have hf3 : writeM c.p old xs = (false, xs.take k ++ bor xs[k] (band c.b[o + k] q.mask) :: old.drop (k + 1), q) := by rw [hwm, hw1]
        have hf4 : layI c.b o (xs.take k ++ bor xs[k] (band c.b[o + k] q.mask) :: old.drop (k + 1)) = layI c.b o (xs.take k ++ [bor xs[k] (band c.b[o + k] q.mask)]) := by
          have := layI_old c.b o xs.length (xs.take k ++ [bor xs[k] (band c.b[o + k] q.mask)]) (by simp; omega) ho
          rw [← hold] at this
          simpa [htk] using this
        rw [hf3] at hC
        simp only [hset, hf4] at hC ⊢
        have hl2 : (layI c.b o (xs.take k ++ [bor xs[k] (band c.b[o + k] q.mask)])).length = c.b.length := layI_len _ _ _ (by simp; omega)
        and_intros
        all_goals try omega
        exact retS hC () [1000, 1001, 1002, 1003] rfl (by simp [Cp.map, mapR, hl2]) fun _ _ _ => trivial
      | false =>
        simp [hN]
        have hf3 : writeM c.p old xs = (false, xs.take k ++ old.drop k, q) := by
          rw [hwm, hw1, List.drop_eq_getElem_cons (show k < old.length by omega), hoat k (by omega) (by omega)]
        have hf4 : layI c.b o (xs.take k ++ old.drop k) = layI c.b o (xs.take k) := by
          have := layI_old c.b o xs.length (xs.take k) (by simp; omega) ho
          rw [← hold, htk] at this
          exact this
        rw [hf3] at hC
        simp only [hf4] at hC
        exact retS hC () [1000, 1001, 1002, 1003] rfl (by simp [Cp.map, mapR, hrl]) fun _ _ _ => trivial
  · have hkn : k = xs.length := by omega
    have hf3 : writeM c.p old xs = (true, xs, p) := by
      rw [hwm, hkn, List.drop_eq_nil_of_le (by omega), List.drop_eq_nil_of_le (Nat.le_refl _), List.take_length]
      simp [writeM]
    have hTk : xs.take k = xs := List.take_of_length_le hge2
    have hrl : (layI c.b o xs).length = c.b.length := layI_len _ _ _ ho
    rw [hf3] at hC
    simp only [hTk]
    simp [hN, Nat.not_lt.2 hge2]
    exact retS hC () [1000, 1001, 1002, 1003] rfl (by simp [Cp.map, mapR, hrl]) fun _ _ _ => trivial
end Go.Proofs.YtbbaoeidobdblaaGreat.Sx

/- half.ask, half.Wipe. -/
set_option linter.unusedVariables false
set_option linter.unusedSimpArgs false
namespace Go.Proofs.YtbbaoeidobdblaaGreat.Sx
open Go

attribute [local simp ↓] ifb_true' ifb_false'
attribute [local simp] ifb_true ifb_false ifb_eq sx argsT find ev evOp evs evo evBin evInt evStr evNil evNilA ptrA slcA isNoneA asB evLoad look del cellsB evUn evConv kdec fld evFieldA evField evIdxA evIdx evSlc bndL bndH evLen mmi put resV guardV gvL setO tupV cellsOf ones one upd lits nv exitTo SV.val CV.val TI.agg rdyA allR keepB scan simpO gsp isS subs keepT pickT wr memN pubs Res.fact Region.binds bld rest give delL back Res.eqv vi vb num Sv.val undef
theorem halfAsk0 (w : World) (I : Nat → Prop) (hI : ∀ b, I b → b < w.heap.size) (gc : Nat) (h : Nat) (hh : h < 2) :
    Fn0 Tryz.prog 98 #[ptrV gc, .int .i64 (h : Nat)] w I (fun _ : Unit => .int .i64 0) (fun _ _ => True) := by
  refine enter (svs := [.c (.v (ptrV gc)), .c (.v (.int .i64 (h : Nat)))]) tysOk Tryz.func98 rfl Tryz.ntmps98 Tryz.results98 (by kernel_rfl) (by simp) hI (fun _ => True) (fun _ _ => trivial) fun C hC hN ok => ?_
  have h1 : ¬ ((h : Nat) : Int) < 0 := by omega
  have h2 : ¬ 2 ≤ ((h : Nat) : Int) := by omega
  simp [hN, h1, h2]
  exact ret0 hC () rfl fun _ _ _ => trivial
/-- What a chip is like that is used. -/
structure Cp.fit (c : Cp) : Prop where
  right : c.g.right
  len : (c.b.length : Int) = c.g.sectors * c.g.sector
  cap : c.b.length ≤ c.cap
  left : c.p.left ≤ 9223372036854775807
/-- The same chip, later on. -/
structure Cp.same (c d : Cp) : Prop where
  g : d.g = c.g
  gc : d.gc = c.gc
  gp : d.gp = c.gp
  gb : d.gb = c.gb
  gm : d.gm = c.gm
  cap : d.cap = c.cap
  bc : d.bc = c.bc
  fl : d.fl = c.fl
  len : d.b.length = c.b.length
theorem Cp.same.refl (c : Cp) : c.same c := ⟨rfl, rfl, rfl, rfl, rfl, rfl, rfl, rfl, rfl⟩
theorem Cp.same.trans {a b c : Cp} (h : a.same b) (k : b.same c) : a.same c := ⟨k.g.trans h.g, k.gc.trans h.gc, k.gp.trans h.gp, k.gb.trans h.gb, k.gm.trans h.gm, k.cap.trans h.cap, k.bc.trans h.bc, k.fl.trans h.fl, k.len.trans h.len⟩
theorem step_left {p : Pw} (h : p.left ≤ 9223372036854775807) : p.step.2.2.left ≤ 9223372036854775807 := by
  unfold Pw.step
  split
  · exact h
  · split
    · exact h
    · simp only
      split <;> omega
theorem sec_le {c : Cp} (h : c.fit) {i : Nat} (hi : (i : Int) < c.g.sectors) : i * c.g.sector.toNat + c.g.sector.toNat ≤ c.b.length := by
  obtain ⟨q0, ⟨q1, q2⟩, ⟨q3, q4⟩, _⟩ := id h.right
  obtain ⟨s, hs'⟩ : ∃ s : Nat, c.g.sector = s := ⟨c.g.sector.toNat, by omega⟩
  have h1 : ((i : Int) + 1) * s ≤ c.g.sectors * s := Int.mul_le_mul_of_nonneg_right (by omega) (by omega)
  rw [← hs', ← h.len, hs'] at h1
  have h2 : (i + 1) * s ≤ c.b.length := by exact_mod_cast h1
  have h3 : (i + 1) * s = i * s + s := Nat.succ_mul i s
  rw [show c.g.sector.toNat = s by omega]
  omega
theorem erase_same {c : Cp} (h : c.fit) {i : Nat} (hi : (i : Int) < c.g.sectors) : c.same (eraseM c i).2 ∧ (eraseM c i).2.fit := by
  have h1 := sec_le h hi
  have h2 := step_left h.left
  have h3 := fun bits => setM_len c.b (i * c.g.sector.toNat) c.g.sector.toNat bits h1
  unfold eraseM
  generalize c.p.step = r at h2 ⊢
  obtain ⟨d, t, q⟩ := r
  replace h2 : q.left ≤ 9223372036854775807 := h2
  cases d with
  | true => exact ⟨⟨rfl, rfl, rfl, rfl, rfl, rfl, rfl, rfl, h3 255⟩, h.right, by simp only [h3]; exact h.len, by simp only [h3]; exact h.cap, h2⟩
  | false =>
    cases t with
    | true => exact ⟨⟨rfl, rfl, rfl, rfl, rfl, rfl, rfl, rfl, h3 _⟩, h.right, by simp only [h3]; exact h.len, by simp only [h3]; exact h.cap, h2⟩
    | false => exact ⟨⟨rfl, rfl, rfl, rfl, rfl, rfl, rfl, rfl, rfl⟩, h.right, h.len, h.cap, h2⟩
def wipeN (c : Cp) (base : Nat) : Nat → Int × Cp
  | 0 => (0, c)
  | k + 1 => if (eraseM c (base + k)).1 ≠ 0 then eraseM c (base + k) else wipeN (eraseM c (base + k)).2 base k
def halfN (c : Cp) : Nat := (c.g.sectors / 2).toNat
def wipeM (c : Cp) (h : Nat) : Int × Cp := wipeN c (h * halfN c) (halfN c)
theorem wipe_same {c : Cp} {base : Nat} : ∀ (k : Nat) {d : Cp}, d.fit → c.same d → ((base + k : Nat) : Int) ≤ c.g.sectors → c.same (wipeN d base k).2 ∧ (wipeN d base k).2.fit
  | 0, d, h, s, _ => ⟨s, h⟩
  | k + 1, d, h, s, hb => by
    have he := erase_same h (i := base + k) (by rw [s.g]; omega)
    unfold wipeN
    split
    · exact ⟨s.trans he.1, he.2⟩
    · exact wipe_same k he.2 (s.trans he.1) (by omega)
set_option maxHeartbeats 1000000 in
theorem wipe0 (w : World) (I S : Nat → Prop) (hI : ∀ b, I b → b < w.heap.size) (c : Cp) (h : Nat) (hh : h < 2) (hf : c.fit) (hS : Owns c.res S w) (hSI : ∀ b, S b → b < w.heap.size ∧ ¬ I b) :
    FnS Tryz.prog 55 #[ptrV c.gc, .int .i64 (h : Nat)] w I S (fun _ : Unit => .int .i64 (wipeM c h).1) (fun _ => (wipeM c h).2.res) (fun _ _ => True) := by
  obtain ⟨q0, ⟨q1, q2⟩, ⟨q3, q4⟩, ⟨q5, q6⟩, ⟨q7, q8⟩, ⟨q9, q10⟩⟩ := id hf.right
  refine enterS (svs := [.c (.v (ptrV c.gc)), .c (.v (.int .i64 (h : Nat)))]) tysOk Tryz.func55 rfl Tryz.ntmps55 Tryz.results55 (by kernel_rfl) (by simp) hI c.res hS hSI (fun _ => True) (fun _ _ => trivial) fun C hC hN ok => ?_
  simp [hN]
  refine call0 ok rfl rfl rfl (fun w I hI hG => halfAsk0 w I hI c.gc h hh) fun _ W _ => ?_
  simp [hN]
  refine callS ok rfl rfl rfl [1000] [c.chip] (by simp) rfl (fun _ : Unit => [(1000, c.chip)]) (fun w I S hI hG hO hS' => norGeo0 w I S hI c hO hS') (fun r => by simp) (.inr fun x q hq => by simp at hq; subst hq; simp) fun _ W _ => ?_
  obtain ⟨n, hn⟩ : ∃ n, n = halfN c := ⟨_, rfl⟩
  have hn2 : c.g.sectors.fdiv (2 ^ min 1 IntKind.i64.bits) = (n : Nat) := by
    rw [show ((2 : Int) ^ min 1 IntKind.i64.bits) = 2 by decide, Int.fdiv_eq_ediv_of_nonneg _ (by decide), hn]; unfold halfN; omega
  have hev : c.g.sectors = 2 * (n : Nat) := by
    have h0 : c.g.sectors % 2 = 0 := by rw [← Int.tmod_eq_emod_of_nonneg (by omega)]; exact q0
    rw [hn]; unfold halfN; omega
  have hw : wipeM c h = wipeN c (h * n) n := by rw [wipeM, ← hn]
  rw [hw] at hC
  have e1 : IntKind.i64.wrap ((n : Int) - 1) = (n : Nat) - 1 := w64 (by omega) (by omega)
  have hhn : h * n ≤ n := by
    have : h * n ≤ 1 * n := Nat.mul_le_mul_right _ (by omega)
    omega
  obtain ⟨m, hm⟩ : ∃ m, m = h * n := ⟨_, rfl⟩
  have e2 : IntKind.i64.wrap ((h : Int) * (n : Nat)) = (m : Nat) := by rw [← Int.natCast_mul, ← hm, w64 (by omega) (by omega)]
  rw [← hm] at hC hw
  simp [hN, hn2, e1]
  refine loopK [0, 1, 6] ok (fun y : Nat × Cp => [(7, .c (.v (.int .i64 ((y.1 : Nat) - 1))))]) (fun y => [(1000, y.2.chip), (1001, y.2.pow), (1002, y.2.row), (1003, y.2.map)]) (fun y W => y.1 ≤ n ∧ c.same y.2 ∧ y.2.fit ∧ wipeN c m n = wipeN y.2 m y.1) (fun y => y.1) (n, c) ?_ ?_ (fun W hW => ⟨Nat.le_refl _, Cp.same.refl _, hf, rfl⟩) ?_
  · simp
  · simp
  rintro ⟨k, d⟩ W ⟨hk, hsm, hdf, hwn⟩ hG next
  simp only at hk hsm hdf hwn
  rw [hwn] at hC
  cases k with
  | zero =>
    simp [hN]
    exact retS hC () [1000, 1001, 1002, 1003] rfl (by simp [wipeN, Cp.map, mapR]) fun _ _ _ => trivial
  | succ k =>
    obtain ⟨z, hz⟩ : ∃ z, z = m + k := ⟨_, rfl⟩
    have e3 : IntKind.i64.wrap ((m : Int) + k) = (z : Nat) := by rw [w64 (by omega) (by omega)]; omega
    have e4 : IntKind.i64.wrap ((k : Int) - 1) = (k : Nat) - 1 := w64 (by omega) (by omega)
    have hkn : ¬ ((k : Nat) : Int) < 0 := by omega
    have hzs : (z : Int) < d.g.sectors := by rw [hsm.g]; omega
    have he := erase_same hdf hzs
    simp [hN, e2, e3]
    have hwk : wipeN d m (k + 1) = if (eraseM d z).1 ≠ 0 then eraseM d z else wipeN (eraseM d z).2 m k := by rw [wipeN, ← hz]
    refine callS ok rfl rfl rfl [1000, 1001, 1002, 1003] d.res (by simp [Cp.map, mapR]) rfl (fun _ : Unit => [(1000, (eraseM d z).2.chip), (1001, (eraseM d z).2.pow), (1002, (eraseM d z).2.row), (1003, (eraseM d z).2.map)]) (fun w I S hI hG hO hS' => by have := erase0 w I S hI d z hzs hdf.right hdf.len hdf.cap hdf.left hO hS'; rw [hsm.gc] at this; exact this) (fun r => by simp [Cp.map, mapR]) (.inr fun x q hq => by simp at hq; rcases hq with rfl | rfl | rfl | rfl <;> simp) fun _ W _ => ?_
    simp [hN, e4]
    rw [hwk] at hC
    refine ⟨fun hne => ?_, fun h0 => next (k, (eraseM d z).2) _ _ (by simp) (fun W hW => ⟨⟨by simp only; omega, hsm.trans he.1, he.2, ?_⟩, trivial⟩) (by simp [Cp.map, mapR])⟩
    · rw [if_pos hne] at hC
      exact retS hC () [1000, 1001, 1002, 1003] rfl (by simp [Cp.map, mapR]) fun _ _ _ => trivial
    · rw [hwn, hwk, if_neg (by simp [h0])]
end Go.Proofs.YtbbaoeidobdblaaGreat.Sx

/- sum.Of, frame.Body. -/
set_option linter.unusedVariables false
set_option linter.unusedSimpArgs false
namespace Go.Proofs.YtbbaoeidobdblaaGreat.Sx
open Go

attribute [local simp ↓] ifb_true' ifb_false'
attribute [local simp] ifb_true ifb_false ifb_eq sx argsT find ev evOp evs evo evBin evInt evStr evNil evNilA ptrA slcA isNoneA asB evLoad look del cellsB evUn evConv kdec fld evFieldA evField evIdxA evIdx evSlc bndL bndH evLen mmi put resV guardV gvL setO tupV cellsOf ones one upd lits nv exitTo SV.val CV.val TI.agg rdyA allR keepB scan simpO gsp isS subs keepT pickT wr memN pubs Res.fact Region.binds bld rest give delL back Res.eqv vi vb num Sv.val undef
/-- The sum over bytes: its two parts. -/
def sumP (l : List Int) : Int × Int := l.foldl (fun s x => ((s.1 + x) % 65521, (s.2 + (s.1 + x) % 65521) % 65521)) (1, 0)
def sumM (l : List Int) : Int := IntKind.u32.wrap (((IntKind.u32.wrap ((sumP l).2 * 2 ^ min 16 IntKind.u32.bits) % 2 ^ IntKind.u32.bits).toNat ||| ((sumP l).1 % 2 ^ IntKind.u32.bits).toNat : Nat) : Int)
theorem sumP_snoc (l : List Int) (x : Int) : sumP (l ++ [x]) = (((sumP l).1 + x) % 65521, ((sumP l).2 + ((sumP l).1 + x) % 65521) % 65521) := by simp [sumP]
theorem sumP_le (l : List Int) : 0 ≤ (sumP l).1 ∧ (sumP l).1 < 65521 ∧ 0 ≤ (sumP l).2 ∧ (sumP l).2 < 65521 := by
  have key : ∀ (l : List Int) (s : Int × Int), (0 ≤ s.1 ∧ s.1 < 65521 ∧ 0 ≤ s.2 ∧ s.2 < 65521) → 0 ≤ (l.foldl (fun s x => ((s.1 + x) % 65521, (s.2 + (s.1 + x) % 65521) % 65521)) s).1 ∧ (l.foldl (fun s x => ((s.1 + x) % 65521, (s.2 + (s.1 + x) % 65521) % 65521)) s).1 < 65521 ∧ 0 ≤ (l.foldl (fun s x => ((s.1 + x) % 65521, (s.2 + (s.1 + x) % 65521) % 65521)) s).2 ∧ (l.foldl (fun s x => ((s.1 + x) % 65521, (s.2 + (s.1 + x) % 65521) % 65521)) s).2 < 65521 := by
    intro l
    induction l with
    | nil => exact fun s h => h
    | cons x r ih => exact fun s h => ih _ ⟨Int.emod_nonneg _ (by decide), Int.emod_lt_of_pos _ (by decide), Int.emod_nonneg _ (by decide), Int.emod_lt_of_pos _ (by decide)⟩
  exact key l (1, 0) (by decide)
theorem u32_wrap (x : Int) : IntKind.u32.wrap x = x % 4294967296 := IntKind.wrap_u32 x
set_option maxHeartbeats 1000000 in
theorem sumOf0 (w : World) (I : Nat → Prop) (hI : ∀ b, I b → b < w.heap.size) {a : Option Addr} {n c : Nat} (l : List Int) (h : ∀ W, Ext I w W → Sv.ok dByte W (a, n, c) l) (hb : ∀ x, x ∈ l → 0 ≤ x ∧ x ≤ 255) :
    Fn0 Tryz.prog 149 #[.slice a n c] w I (fun z : Int => .int .u32 z) (fun z _ => z = sumM l) := by
  obtain rfl : n = l.length := (h w (Ext.refl _ _)).1
  have hl := (h w (Ext.refl _ _)).2.2.1
  refine enter (svs := [.c (.v (.slice a l.length c))]) tysOk Tryz.func149 rfl Tryz.ntmps149 Tryz.results149 (by kernel_rfl) (by simp) hI (fun W => Sv.ok dByte W (a, l.length, c) l) h fun C hC hN ok => ?_
  simp [hN]
  refine loopK [0, 7, 8] ok (fun i : Nat => [(9, .c (.v (.int .i64 i))), (3, .c (.v (.int .u32 (sumP (l.take i)).1))), (4, .c (.v (.int .u32 (sumP (l.take i)).2)))]) (fun _ => []) (fun i W => i ≤ l.length) (fun i => l.length - i) 0 ?_ ?_ (fun W hW => Nat.zero_le _) ?_
  · simp [sumP]
  · simp
  rintro i W hi hG next
  have hs := sumP_le (l.take i)
  rcases Nat.lt_or_ge i l.length with hlt | hge
  · obtain ⟨b, o, e, _⟩ := byte_get (show Sv.ok dByte W (a, l.length, c) l from hG) hlt
    cases e
    have e6 : IntKind.i64.wrap ((i : Int) + 1) = (i + 1 : Nat) := by rw [w64 (by omega) (by omega)]; omega
    have ft : sumP (l.take (i + 1)) = (((sumP (l.take i)).1 + l[i]) % 65521, ((sumP (l.take i)).2 + ((sumP (l.take i)).1 + l[i]) % 65521) % 65521) := by
      rw [List.take_add_one, List.getElem?_eq_getElem hlt]
      exact sumP_snoc _ _
    have hx := hb _ (List.getElem_mem hlt)
    have hget : ∀ W, Sv.ok dByte W (some ⟨b, o, none⟩, l.length, c) l → ∃ v, W.cell? ⟨b, o + i, none⟩ = some v ∧ v = .int .u8 l[i] := fun W hW => by
      obtain ⟨b'', o'', e, hc⟩ := byte_get hW hlt
      cases e
      exact ⟨_, hc, rfl⟩
    generalize sumP (l.take i) = s at hs ft
    obtain ⟨p, q⟩ := s
    simp only at hs ft
    generalize l[i] = x at hx hget ft
    have w1 : IntKind.u32.wrap x = x := by rw [u32_wrap]; omega
    have w2 : IntKind.u32.wrap (p + x) = p + x := by rw [u32_wrap]; omega
    have w3 : (p + x).tmod 65521 = (p + x) % 65521 := Int.tmod_eq_emod_of_nonneg (by omega)
    have w4 : IntKind.u32.wrap (q + (p + x) % 65521) = q + (p + x) % 65521 := by rw [u32_wrap]; omega
    have w5 : (q + (p + x) % 65521).tmod 65521 = (q + (p + x) % 65521) % 65521 := Int.tmod_eq_emod_of_nonneg (by omega)
    simp [hN, hlt]
    refine load1 ok rfl rfl rfl rfl (fun v W => v = .int .u8 x) (fun W hW => hget W hW.2) ?_
    rintro v W rfl _
    simp [hN, e6, w1, w2, w3, w4, w5]
    exact next (i + 1) _ _ (by omega) (fun W h => ⟨hlt, h.2⟩) (by simp [ft])
  · have hT : l.take i = l := List.take_of_length_le hge
    rw [hT] at hs
    simp only [hT]
    simp [hN, Nat.not_lt.2 hge]
    exact ret0 hC _ rfl fun _ _ _ => rfl
theorem sumM_le (l : List Int) : 0 ≤ sumM l ∧ sumM l < 4294967296 := by
  unfold sumM
  rw [u32_wrap]
  exact ⟨Int.emod_nonneg _ (by decide), Int.emod_lt_of_pos _ (by decide)⟩
/-- A record without its flag. -/
def bodyB (l : List Int) : List Int := lowB l.length 2 ++ lowB (sumM (lowB l.length 2 ++ l)) 4 ++ l
end Go.Proofs.YtbbaoeidobdblaaGreat.Sx

/- frame.Body. -/
set_option linter.unusedVariables false
set_option linter.unusedSimpArgs false
namespace Go.Proofs.YtbbaoeidobdblaaGreat.Sx
open Go

attribute [local simp ↓] ifb_true' ifb_false'
attribute [local simp] ifb_true ifb_false ifb_eq sx argsT find ev evOp evs evo evBin evInt evStr evNil evNilA ptrA slcA isNoneA asB evLoad look del cellsB evUn evConv kdec fld evFieldA evField evIdxA evIdx evSlc bndL bndH evLen mmi put resV guardV gvL setO tupV cellsOf ones one upd lits nv exitTo SV.val CV.val TI.agg rdyA allR keepB scan simpO gsp isS subs keepT pickT wr memN pubs Res.fact Region.binds bld rest give delL back Res.eqv vi vb num Sv.val undef
theorem lowB_byte (v : Int) (n : Nat) : ∀ x, x ∈ lowB v n → 0 ≤ x ∧ x ≤ 255 := by
  intro x hx
  simp only [lowB, List.mem_map] at hx
  obtain ⟨i, _, rfl⟩ := hx
  omega
theorem bodyB_length (l : List Int) : (bodyB l).length = 6 + l.length := by simp [bodyB, lowB_length]; omega
theorem bodyB_byte (l : List Int) (h : ∀ x, x ∈ l → 0 ≤ x ∧ x ≤ 255) : ∀ x, x ∈ bodyB l → 0 ≤ x ∧ x ≤ 255 := by
  intro x hx
  simp only [bodyB, List.mem_append] at hx
  rcases hx with (hx | hx) | hx
  · exact lowB_byte _ _ _ hx
  · exact lowB_byte _ _ _ hx
  · exact h _ hx
set_option maxHeartbeats 1000000 in
theorem body0 (w : World) (I : Nat → Prop) (hI : ∀ b, I b → b < w.heap.size) (l : List Int) (s : Sl) (h : ∀ W, Ext I w W → s.ok dByte W l) (hb : ∀ x, x ∈ l → 0 ≤ x ∧ x ≤ 255) (hl : l.length ≤ 65000) :
    Fn0 Tryz.prog 103 #[.slice s.1 l.length s.2] w I (fun r : Sl => .tuple #[.slice r.1 (6 + l.length) r.2, .int .i64 0]) (fun r W => r.ok dByte W (bodyB l)) := by
  obtain ⟨a, c⟩ := s
  refine enter (svs := [.c (.v (.slice a l.length c))]) tysOk Tryz.func103 rfl Tryz.ntmps103 Tryz.results103 (by kernel_rfl) (by simp) hI (fun W => Sl.ok dByte W (a, c) l) h fun C hC hN ok => ?_
  have h1 : ¬ (65000 : Int) < l.length := by omega
  have e1 : IntKind.u64.wrap (l.length : Int) = l.length := by rw [u64_wrap]; omega
  simp [hN, h1, e1]
  refine call0 ok rfl rfl rfl (fun w I hI hG => put0 w I hI [] (none, 0) _ 2 (fun W _ => by simp [Sl.ok, Rd]) (by simp) (by omega) (by omega)) fun x W hx => ?_
  simp [hN]
  intro g2
  refine pub 15 rfl (by decide) (call0 ok rfl rfl rfl (fun w I hI hG => concat0 w I hI [lowB l.length 2, l] (some ⟨g2, 0, none⟩, 2) (fun W e => two_ok (hG W e).1 (by have := (hG W e).2.1; simpa using this) (by simp [lowB_length]) (hG W e).2.2 rfl) (by simp [lowB_length]; omega) (by simp)) fun y W hy => ?_)
  simp [hN]
  have hm := sumM_le (lowB l.length 2 ++ l)
  obtain ⟨m, hm'⟩ : ∃ m, m = sumM (lowB l.length 2 ++ l) := ⟨_, rfl⟩
  have e2 : IntKind.u64.wrap m = m := by rw [u64_wrap]; omega
  have hlen : (lowB l.length 2 ++ l).length = 2 + l.length := by simp [lowB_length]
  refine call0 ok rfl rfl rfl (fun w I hI hG => sumOf0 w I hI (lowB l.length 2 ++ l) (fun W e => ⟨by simp [lowB_length], by simpa using (hG W e).1⟩) (fun z hz => by
    rcases List.mem_append.1 hz with hz | hz
    · exact lowB_byte _ _ _ hz
    · exact hb _ hz)) fun z W hz => ?_
  simp only [← hm'] at hz
  subst hz
  simp [hN, e2]
  refine call0 ok rfl rfl rfl (fun w I hI hG => put0 w I hI (lowB l.length 2) x z 4 (fun W e => by simpa using (hG W e).2.2.2.1) (by simp [lowB_length]) (by omega) (by omega)) fun u W hu => ?_
  simp [hN]
  intro g3
  refine pub 21 rfl (by decide) (call0 ok rfl rfl rfl (fun w I hI hG => concat0 w I hI [lowB l.length 2 ++ lowB z 4, l] (some ⟨g3, 0, none⟩, 2) (fun W e => two_ok (hG W e).1 (by have := (hG W e).2.1; simpa using this) (by simp [lowB_length]) (hG W e).2.2.2.2.2.2 rfl) (by simp [lowB_length]; omega) (by simp)) fun v W hv => ?_)
  simp [hN]
  exact ret0 hC v (by simp [lowB_length]; omega) fun W _ hG => by have := hG.1; simpa [bodyB, ← hm'] using this
end Go.Proofs.YtbbaoeidobdblaaGreat.Sx

/- half.Append. -/
set_option linter.unusedVariables false
set_option linter.unusedSimpArgs false
namespace Go.Proofs.YtbbaoeidobdblaaGreat.Sx
open Go

attribute [local simp ↓] ifb_true' ifb_false'
attribute [local simp] ifb_true ifb_false ifb_eq sx argsT find ev evOp evs evo evBin evInt evStr evNil evNilA ptrA slcA isNoneA asB evLoad look del cellsB evUn evConv kdec fld evFieldA evField evIdxA evIdx evSlc bndL bndH evLen mmi put resV guardV gvL setO tupV cellsOf ones one upd lits nv exitTo SV.val CV.val TI.agg rdyA allR keepB scan simpO gsp isS subs keepT pickT wr memN pubs Res.fact Region.binds bld rest give delL back Res.eqv vi vb num Sv.val undef
theorem writeM_left : ∀ (p : Pw) (os xs : List Int), p.left ≤ 9223372036854775807 → (writeM p os xs).2.2.left ≤ 9223372036854775807
  | p, [], [], h => h
  | p, [], _ :: _, h => h
  | p, _ :: _, [], h => h
  | p, o :: os, x :: xs, h => by
    have h2 := step_left h
    unfold writeM
    generalize p.step = r at h2
    obtain ⟨d, t, q⟩ := r
    cases d with
    | true => exact writeM_left q os xs h2
    | false => cases t <;> exact h2
theorem prog_same {c : Cp} (h : c.fit) {o : Nat} {xs : List Int} (ho : o + xs.length ≤ c.b.length) : c.same (progM c o xs).2 ∧ (progM c o xs).2.fit := by
  have hl : (layI c.b o (writeM c.p ((c.b.drop o).take xs.length) xs).2.1).length = c.b.length := by
    have := writeM_len c.p ((c.b.drop o).take xs.length) xs (by simp; omega)
    exact layI_len _ _ _ (by omega)
  unfold progM
  split
  · exact ⟨⟨rfl, rfl, rfl, rfl, rfl, rfl, rfl, rfl, hl⟩, h.right, by simp only [hl]; exact h.len, by simp only [hl]; exact h.cap, writeM_left _ _ _ h.left⟩
  · exact ⟨Cp.same.refl _, h⟩
/-- How many bytes a half has. -/
def halfSz (c : Cp) : Nat := halfN c * c.g.sector.toNat
def appendM (c : Cp) (h o : Nat) (b : List Int) : Int × Cp :=
  if halfSz c < o + (b.length + 7) then (10, c)
  else if (progM c (h * halfSz c + o) (bodyB b)).1 ≠ 0 then progM c (h * halfSz c + o) (bodyB b) else progM (progM c (h * halfSz c + o) (bodyB b)).2 (h * halfSz c + o + (6 + b.length)) [0]
theorem Cp.same.halfN {c d : Cp} (h : c.same d) : halfN d = halfN c := by unfold Sx.halfN; rw [h.g]
theorem Cp.same.halfSz {c d : Cp} (h : c.same d) : halfSz d = halfSz c := by unfold Sx.halfSz; rw [h.halfN, h.g]
theorem half_two {c : Cp} (h : c.fit) : c.b.length = 2 * halfSz c ∧ c.g.sectors / 2 * c.g.sector = (halfSz c : Nat) ∧ halfSz c ≤ 50000000 := by
  obtain ⟨q0, ⟨q1, q2⟩, ⟨q3, q4⟩, _⟩ := id h.right
  obtain ⟨s, hs⟩ : ∃ s : Nat, c.g.sector = s := ⟨c.g.sector.toNat, by omega⟩
  have h0 : c.g.sectors % 2 = 0 := by rw [← Int.tmod_eq_emod_of_nonneg (by omega)]; exact q0
  obtain ⟨n, hn⟩ : ∃ n, n = halfN c := ⟨_, rfl⟩
  have hev : c.g.sectors = 2 * (n : Nat) := by rw [hn]; unfold halfN; omega
  have hz : halfSz c = n * s := by unfold halfSz; rw [← hn, hs]; rfl
  have hl := h.len
  rw [hev, hs] at hl
  have hl2 : c.b.length = 2 * n * s := by exact_mod_cast hl
  rw [hz]
  refine ⟨by rw [hl2, Nat.mul_assoc], by rw [hev, hs]; simp, ?_⟩
  have : n * s ≤ n * 4096 := Nat.mul_le_mul_left _ (by omega)
  omega
theorem append_same {c : Cp} (hf : c.fit) {h o : Nat} (hh : h < 2) {b : List Int} : c.same (appendM c h o b).2 ∧ (appendM c h o b).2.fit := by
  obtain ⟨h2, _, h3⟩ := half_two hf
  unfold appendM
  split
  · exact ⟨Cp.same.refl _, hf⟩
  · rename_i hle
    have hm : h * halfSz c ≤ 1 * halfSz c := Nat.mul_le_mul_right _ (by omega)
    have h4 := prog_same hf (o := h * halfSz c + o) (xs := bodyB b) (by rw [bodyB_length]; omega)
    split
    · exact h4
    · have h5 := prog_same h4.2 (o := h * halfSz c + o + (6 + b.length)) (xs := [0]) (by rw [h4.1.len]; simp; omega)
      exact ⟨h4.1.trans h5.1, h5.2⟩
set_option maxHeartbeats 2000000 in
theorem append0 (w : World) (I S : Nat → Prop) (hI : ∀ b, I b → b < w.heap.size) (c : Cp) (h o : Nat) (hh : h < 2) (hf : c.fit) (ho : o ≤ 1000000000) (l : List Int) (s : Sl) (hs : ∀ W, Ext I w W → s.ok dByte W l) (hb : ∀ x, x ∈ l → 0 ≤ x ∧ x ≤ 255) (hl : l.length ≤ 65000) (hS : Owns c.res S w) (hSI : ∀ b, S b → b < w.heap.size ∧ ¬ I b) :
    FnS Tryz.prog 58 #[ptrV c.gc, .int .i64 (h : Nat), .int .i64 (o : Nat), .slice s.1 l.length s.2] w I S (fun _ : Unit => .int .i64 (appendM c h o l).1) (fun _ => (appendM c h o l).2.res) (fun _ _ => True) := by
  obtain ⟨a, cp⟩ := s
  obtain ⟨hl2, hsz, hz⟩ := half_two hf
  refine enterS (svs := [.c (.v (ptrV c.gc)), .c (.v (.int .i64 (h : Nat))), .c (.v (.int .i64 (o : Nat))), .c (.v (.slice a l.length cp))]) tysOk Tryz.func58 rfl Tryz.ntmps58 Tryz.results58 (by kernel_rfl) (by simp) hI c.res hS hSI (fun W => Sl.ok dByte W (a, cp) l) hs fun C hC hN ok => ?_
  simp [hN]
  refine call0 ok rfl rfl rfl (fun w I hI hG => halfAsk0 w I hI c.gc h hh) fun _ W _ => ?_
  have ho' : ¬ ((o : Nat) : Int) < 0 := by omega
  simp [hN, ho']
  refine call0 ok rfl rfl rfl (fun w I hI hG => body0 w I hI l (a, cp) (fun W e => hG W e) hb hl) fun r W hr => ?_
  simp [hN]
  refine callS ok rfl rfl rfl [1000] [c.chip] (by simp) rfl (fun _ : Unit => [(1000, c.chip)]) (fun w I S hI hG hO hS' => norGeo0 w I S hI c hO hS') (fun r => by simp) (.inr fun x q hq => by simp at hq; subst hq; simp) fun _ W _ => ?_
  simp [hN]
  refine call0 ok rfl rfl rfl (fun w I hI hG => halfSize0 w I hI c.g) fun z W hz' => ?_
  rw [if_pos hf.right, hsz] at hz'
  subst hz'
  simp [hN]
  refine call0 ok rfl rfl rfl (fun w I hI hG => frameSize0 w I hI (l.length : Nat) (by omega) (by omega)) fun u W hu => ?_
  subst hu
  have e1 : IntKind.i64.wrap ((halfSz c : Int) - ((l.length : Int) + 7)) = halfSz c - (l.length + 7) := w64 (by omega) (by omega)
  simp [hN, e1]
  refine ⟨fun hgt => ?_, fun hle => ?_⟩
  · have hm : appendM c h o l = (10, c) := by rw [appendM, if_pos (by omega)]
    rw [hm] at hC
    exact retS hC () [1000, 1001, 1002, 1003] rfl (by simp [Cp.map, mapR]) fun _ _ _ => trivial
  have hm := appendM.eq_1 c h o l
  rw [if_neg (by omega)] at hm
  rw [hm] at hC
  have hmul : h * halfSz c ≤ 1 * halfSz c := Nat.mul_le_mul_right _ (by omega)
  obtain ⟨m, hmm⟩ : ∃ m, m = h * halfSz c := ⟨_, rfl⟩
  have e2 : IntKind.i64.wrap ((h : Int) * (halfSz c : Nat)) = (m : Nat) := by rw [← Int.natCast_mul, ← hmm, w64 (by omega) (by omega)]
  obtain ⟨y, hy⟩ : ∃ y, y = m + o := ⟨_, rfl⟩
  have e3 : IntKind.i64.wrap ((o : Int) + m) = (y : Nat) := by rw [w64 (by omega) (by omega)]; omega
  simp [hN, e2, e3]
  rw [← hmm, ← hy] at hC
  have hB := bodyB_length l
  have hfit := prog_same hf (o := y) (xs := bodyB l) (by rw [hB]; omega)
  refine callS ok rfl rfl rfl [1000, 1001, 1002, 1003] c.res (by simp [Cp.map, mapR]) rfl (fun _ : Unit => [(1000, (progM c y (bodyB l)).2.chip), (1001, (progM c y (bodyB l)).2.pow), (1002, (progM c y (bodyB l)).2.row), (1003, (progM c y (bodyB l)).2.map)]) (fun w I S hI hG hO hS' => program0 w I S hI c y (bodyB l) (fun W e => ⟨by rw [hB], (hG W e).2.1⟩) (by rw [hB]; omega) (by omega) hf.left hO hS') (fun r => by simp [Cp.map, mapR]) (.inr fun x q hq => by simp at hq; rcases hq with rfl | rfl | rfl | rfl <;> simp) fun _ W _ => ?_
  simp [hN]
  generalize progM c y (bodyB l) = R at hC hfit ⊢
  obtain ⟨e, d⟩ := R
  simp only at hC hfit ⊢
  refine ⟨fun hne => ?_, fun h0 => ?_⟩
  · rw [if_pos hne] at hC
    exact retS hC () [1000, 1001, 1002, 1003] rfl (by simp [Cp.map, mapR]) fun _ _ _ => trivial
  subst h0
  rw [if_neg (by simp)] at hC
  obtain ⟨z, hz⟩ : ∃ z, z = y + (6 + l.length) := ⟨_, rfl⟩
  have e4 : IntKind.i64.wrap ((y : Int) + (6 + (l.length : Int))) = (z : Nat) := by rw [w64 (by omega) (by omega)]; omega
  rw [← hz] at hC
  simp [hN, e4]
  intro g
  refine pub 58 rfl (by decide) (callS ok rfl rfl rfl [1000, 1001, 1002, 1003] d.res (by simp [Cp.map, mapR]) rfl (fun _ : Unit => [(1000, (progM d z [0]).2.chip), (1001, (progM d z [0]).2.pow), (1002, (progM d z [0]).2.row), (1003, (progM d z [0]).2.map)]) (fun w I S hI hG hO hS' => by have := program0 w I S hI d z (a := some ⟨g, 0, none⟩) (n := 1) (cp := 1) [0] (fun W e => ⟨rfl, (byte_ok (xs := [0]) (hG W e).1 (by simp)).2⟩) (by rw [hfit.1.len]; simp; omega) (by rw [hfit.1.len]; omega) hfit.2.left hO hS'; rw [hfit.1.gc] at this; exact this) (fun r => by simp [Cp.map, mapR]) (.inr fun x q hq => by simp at hq; rcases hq with rfl | rfl | rfl | rfl <;> simp) fun _ W _ => ?_)
  simp [hN]
  exact retS hC () [1000, 1001, 1002, 1003] rfl (by simp [Cp.map, mapR]) fun _ _ _ => trivial
end Go.Proofs.YtbbaoeidobdblaaGreat.Sx

/- Sx, part 15: bytes that nobody has written (bytealg.MakeNoZero). -/
set_option linter.unusedVariables false
set_option linter.unusedSimpArgs false
namespace Go.Proofs.YtbbaoeidobdblaaGreat.Sx
open Go

section
variable {P : Program} {C : Ctx} {T : Ty} {res : List ResultVar} {p : Pos} {tm : Tm} {m : Mem}
def mnB (P : Program) (f : FuncId) (t r : TypeId) : Prop := ∃ fn, P.funcs[f]? = some fn ∧ (fn.name == "runtime.NumGoroutine") = false ∧ fn.body.isNone = true ∧ Extern.findNext fn = none ∧ Extern.find fn = some (Extern.BytealgMakeNoZero.makeNoZero #[t] #[r])
/-- A new row of bytes of one's own, whatever they are. -/
theorem mkNZ (ok : Okc P T C res) (k : Nat) {o : Oper} {fo a : Operand} {tys : Array TypeId} {d : Nat} (ho : o.op = .call ⟨.value fo, #[a], tys⟩) (hd : o.dst = some d) {f : FuncId} (hf : ev tm fo = some (.c (.v (.func (.func f) #[] #[])))) {t r : TypeId} (hF : mnB P f t r) {i ie : TI} (hi : tf r T = some i) (hik : i.kd = 3) (hie : tf i.el T = some ie) (hsz : ie.sz = 1)
    {n : Nat} (ha : ev tm a = some (.c (.v (.int .i64 (n : Nat))))) (hn : n ≤ 100000000000)
    (kk : ∀ g c (cs : List CV), cs.length = n → n ≤ c → sx T C res 1000 p (put C.n (some d) (.c (.rw k (some ⟨g, 0, none⟩) n c)) tm) ⟨m.B, m.G, (k, .row (some ⟨g, 0, none⟩) n c i.el 1 cs) :: del k (del k m.rs)⟩) : At C (.op o p) tm m := by
  obtain rfl := ok.P
  intro act w cs0 hR hJ
  obtain ⟨I, F, hi0⟩ := hJ
  have e0 : act.eval fo = .func (.func f) #[] #[] := hR.eval hf
  have e1 : act.eval a = .int .i64 (n : Nat) := hR.eval ha
  have hu := (ok.ty.get hi).g_slice hik
  obtain ⟨fn, h1, h2, h3, h4, h5⟩ := hF
  obtain ⟨cs, hr, hc1, hc2⟩ := Lib.run_makeNoZero (P := C.P) w #[t] r i.el hu n (by omega)
  have hcm := hc2 (by unfold maxLen; omega)
  have hrun : (execOp act.eval o).run C.P w = .ok (.value (.slice (some ⟨w.heap.size, 0, none⟩) n cs.size)) (w.drew.drew.alloc (.cells cs i.el)) := by
    have hc := run_callFunc_extern h1 h2 h3 h4 h5 #[.int .i64 (n : Nat)] w
    rw [hr] at hc
    simp [execOp, ho, resolve, e0, e1, Deferred.ofValue, invoke, hc]
  have hRp := hR.put (some d) (.c (.rw k (some ⟨w.heap.size, 0, none⟩) n cs.size))
  have hext : Ext (fun b => b < w.heap.size ∧ ¬ noS b) w (w.drew.drew.alloc (.cells cs i.el)) := ((Ext.drew _ w).trans (Ext.drew _ _) fun _ hx => hx).trans (Ext.alloc _ w.drew.drew _ fun b hb => hb.1) fun _ hx => hx
  have hl : (((cs.toList.take n).map CV.v).map CV.val) = cs.toList.take n := by simp [Function.comp_def, CV.val]
  have hll : (cs.toList.take n).length = n := by simp; omega
  have hown : (w.drew.drew.alloc (.cells cs i.el)).ownsRow 0 i.el 1 (.slice (some ⟨w.heap.size, 0, none⟩) n cs.size) n (((cs.toList.take n).map CV.v).map CV.val) := by
    rw [hl]
    exact ⟨by rw [hll, Nat.mul_one], .inr ⟨w.heap.size, _, _, rfl, Nat.zero_le _, heap_alloc_new w.drew.drew _, hc1, hcm, by rw [Nat.mul_one], by rw [Nat.mul_one]⟩⟩
  have hup := hi0.upd k k (.row (some ⟨w.heap.size, 0, none⟩) n cs.size i.el 1 ((cs.toList.take n).map CV.v)) noS (fun b => b = w.heap.size) (fun b hb => hb.elim) hext ⟨fun b => by simp [Value.ownBlock]; exact ⟨fun h => h.symm, fun h => h.symm⟩, hown⟩ (fun b hb => by subst hb; exact ⟨by simp, .inr (Nat.le_refl _)⟩) id
  exact op_value (ok.sx (kk w.heap.size _ _ (by rw [List.length_map, hll]) hc1)) hrun (by rw [hd]; exact hRp) ⟨I, _, hup⟩
end
end Go.Proofs.YtbbaoeidobdblaaGreat.Sx

/- bits.Mul, bytes.Repeat of one byte. -/
set_option linter.unusedVariables false
set_option linter.unusedSimpArgs false
namespace Go.Proofs.YtbbaoeidobdblaaGreat.Sx
open Go

attribute [local simp ↓] ifb_true' ifb_false'
attribute [local simp] ifb_true ifb_false ifb_eq sx argsT find ev evOp evs evo evBin evInt evStr evNil evNilA ptrA slcA isNoneA asB evLoad look del cellsB evUn evConv kdec fld evFieldA evField evIdxA evIdx evSlc bndL bndH evLen mmi put resV guardV gvL setO tupV cellsOf ones one upd lits nv exitTo SV.val CV.val TI.agg rdyA allR keepB scan simpO gsp isS subs keepT pickT wr memN pubs Res.fact Region.binds bld rest give delL back Res.eqv vi vb num Sv.val undef
theorem mask32 (n : Nat) (h : n < 4294967296) : IntKind.u64.wrap ((n % 2 ^ IntKind.u64.bits &&& 4294967295 % 2 ^ IntKind.u64.bits : Nat) : Int) = (n : Nat) := by
  have h2 : n % 2 ^ IntKind.u64.bits = n := Nat.mod_eq_of_lt (by simp [IntKind.bits]; omega)
  have h3 : 4294967295 % 2 ^ IntKind.u64.bits = 2 ^ 32 - 1 := by decide
  rw [h2, h3, Nat.and_two_pow_sub_one_eq_mod, Nat.mod_eq_of_lt (by omega), u64_wrap]
  omega
set_option maxRecDepth 20000 in
theorem mul64 (w : World) (I : Nat → Prop) (hI : ∀ b, I b → b < w.heap.size) (n : Nat) (h : n < 4294967296) :
    Fn0 Tryz.prog 143 #[.int .u64 1, .int .u64 (n : Nat)] w I (fun _ : Unit => .tuple #[.int .u64 0, .int .u64 (n : Nat)]) (fun _ _ => True) := by
  refine enter (svs := [.c (.v (.int .u64 1)), .c (.v (.int .u64 (n : Nat)))]) tysOk Tryz.func143 rfl Tryz.ntmps143 Tryz.results143 (by kernel_rfl) (by simp) hI (fun _ => True) (fun _ _ => trivial) fun C hC hN ok => ?_
  have h1 := mask32 n h
  have h0 : IntKind.u64.wrap ((1 % 2 ^ IntKind.u64.bits &&& 4294967295 % 2 ^ IntKind.u64.bits : Nat) : Int) = 1 := mask32 1 (by decide)
  have h2 : IntKind.u64.wrap ((n : Nat) : Int) = (n : Nat) := by rw [u64_wrap]; omega
  have h4 : ((n : Nat) : Int).fdiv (2 ^ min 32 IntKind.u64.bits) = 0 := by
    rw [show ((2 : Int) ^ min 32 IntKind.u64.bits) = 4294967296 by decide, Int.fdiv_eq_ediv_of_nonneg _ (by decide)]; omega
  have h5 : (1 : Int).fdiv (2 ^ min 32 IntKind.u64.bits) = 0 := by decide
  have h6 : (0 : Int).fdiv (2 ^ min 32 IntKind.u64.bits) = 0 := by decide
  have h7 : IntKind.u64.wrap 0 = 0 := by decide
  simp [hN, h0, h1, h2, h4, h5, h6, h7]
  exact ret0 hC () rfl fun _ _ _ => trivial
theorem mul0 (w : World) (I : Nat → Prop) (hI : ∀ b, I b → b < w.heap.size) (n : Nat) (h : n < 4294967296) :
    Fn0 Tryz.prog 96 #[.int .u64 1, .int .u64 (n : Nat)] w I (fun _ : Unit => .tuple #[.int .u64 0, .int .u64 (n : Nat)]) (fun _ _ => True) := by
  refine enter (svs := [.c (.v (.int .u64 1)), .c (.v (.int .u64 (n : Nat)))]) tysOk Tryz.func96 rfl Tryz.ntmps96 Tryz.results96 (by kernel_rfl) (by simp) hI (fun _ => True) (fun _ _ => trivial) fun C hC hN ok => ?_
  simp [hN]
  refine call0 ok rfl rfl rfl (fun w I hI hG => mul64 w I hI n h) fun _ W _ => ?_
  simp [hN]
  exact ret0 hC () rfl fun _ _ _ => trivial
theorem ones_bC (l : List Int) : ones (bC l) := by
  induction l with
  | nil => exact trivial
  | cons x r ih => exact ⟨trivial, ih⟩
def fRep (cs : List CV) (i : Nat) : List CV := bC (List.replicate i 255) ++ cs.drop i
theorem fRep_len (cs : List CV) (i : Nat) (h : i ≤ cs.length) : (fRep cs i).length = cs.length := by simp [fRep, bC]; omega
theorem fRep_step (cs : List CV) (i k : Nat) (hk : k ≤ i) (h : i + k ≤ cs.length) : lay (fRep cs i) i ((fRep cs i).take k) = fRep cs (i + k) := by
  have h1 : (bC (List.replicate i 255)).length = i := by simp [bC]
  have h2 : (fRep cs i).take i = bC (List.replicate i 255) := by rw [fRep, List.take_left' h1]
  have h3 : (fRep cs i).take k = bC (List.replicate k 255) := by
    rw [fRep, List.take_append_of_le_length (by omega)]
    simp [bC, List.map_replicate, Nat.min_eq_left hk]
  have h4 : (fRep cs i).drop (i + k) = cs.drop (i + k) := by
    rw [fRep, List.drop_append, h1, List.drop_eq_nil_of_le (by omega), List.drop_drop, List.nil_append]
    congr 1
    omega
  have h5 : (bC (List.replicate k 255)).length = k := by simp [bC]
  rw [lay, h2, h3, h5, h4]
  simp [fRep, bC, List.map_replicate, ← List.replicate_append_replicate]
set_option maxHeartbeats 1000000 in
theorem repeat0 (w : World) (I S : Nat → Prop) (hI : ∀ b, I b → b < w.heap.size) (g0 n : Nat) (hn : 0 < n) (hn2 : n ≤ 1000000000) (hS : Owns [.row (some ⟨g0, 0, none⟩) 1 1 5 1 (bC [255])] S w) (hSI : ∀ b, S b → b < w.heap.size ∧ ¬ I b) :
    FnS Tryz.prog 54 #[.slice (some ⟨g0, 0, none⟩) 1 1, .int .i64 (n : Nat)] w I S (fun x : Nat × Nat => .slice (some ⟨x.1, 0, none⟩) n n) (fun x => [.row (some ⟨x.1, 0, none⟩) n x.2 5 1 (bC (List.replicate n 255))]) (fun _ _ => True) := by
  refine enterS (svs := [.c (.rw 1000 (some ⟨g0, 0, none⟩) 1 1), .c (.v (.int .i64 (n : Nat)))]) tysOk Tryz.func54 rfl Tryz.ntmps54 Tryz.results54 (by kernel_rfl) (by simp) hI [.row (some ⟨g0, 0, none⟩) 1 1 5 1 (bC [255])] hS hSI (fun _ => True) (fun _ _ => trivial) fun C hC hN ok => ?_
  have n0 : ¬ ((n : Nat) : Int) = 0 := by omega
  have n0' : ¬ n = 0 := by omega
  have n1 : ¬ ((n : Nat) : Int) < 0 := by omega
  have n2 : IntKind.u64.wrap ((n : Nat) : Int) = (n : Nat) := by rw [u64_wrap]; omega
  have n3 : IntKind.i64.wrap ((n : Nat) : Int) = (n : Nat) := w64 (by omega) (by omega)
  have n4 : ¬ (9223372036854775807 : Int) < (n : Nat) := by omega
  have c1 : IntKind.u64.wrap 1 = 1 := by decide
  simp [hN, n0, n0', n1, n2, c1]
  refine call0 ok rfl rfl rfl (fun w I hI hG => mul0 w I hI n (by omega)) fun _ W _ => ?_
  simp [hN, n3, n4]
  have d1 : IntKind.i64.wrap ((8192 : Int).tdiv 1) = 8192 := by decide
  have hm1 : Nat.min 1 n = 1 := Nat.min_eq_left hn
  have d2 : IntKind.i64.wrap 8192 = 8192 := by decide
  have hmn : mnB Tryz.prog 97 3 57 := ⟨_, Tryz.func97, by kernel_rfl, by kernel_rfl, by kernel_rfl, by kernel_rfl⟩
  refine ⟨fun hb => ?a, fun hb => ?b⟩
  case' a =>
    simp [hN, d1, d2]
    obtain ⟨cm, hcm⟩ : ∃ cm : Nat, cm = 8192 := ⟨_, rfl⟩
    refine tagA 8 (.c (.v (.int .i64 (cm : Nat)))) rfl (by rw [hcm]; rfl) ?_
    have hc0 : 0 < cm := by omega
  case' b =>
    obtain ⟨cm, hcm⟩ : ∃ cm : Nat, cm = n := ⟨_, rfl⟩
    refine tagA 8 (.c (.v (.int .i64 (cm : Nat)))) rfl (by rw [hcm]) ?_
    have hc0 : 0 < cm := by omega
  all_goals
    refine mkNZ ok 54 rfl rfl rfl hmn rfl rfl rfl rfl (n := n) rfl (by omega) fun g c cs hl hc => ?_
    simp [hN]
    refine slc3 ok rfl rfl rfl rfl rfl rfl rfl rfl rfl (by omega) (by omega) (by omega) ?_
    simp [hN]
    refine copyR ok 54 1000 rfl rfl rfl rfl (g := g) (n := n) (c := c) (cs := cs) (g' := g0) (n' := 1) (c' := 1) (off := 0) (soff := 0) (cs' := bC [255]) rfl rfl rfl rfl rfl rfl ?_ ?_ ?_ ?_
    · rw [hm1]; simp; omega
    · rw [hm1]; simp
    · rw [hm1]; simp [bC, ones, one]
    simp [hN, hm1]
    refine loopK [7, 9] ok (fun i : Nat => [(10, .c (.v (.int .i64 (i : Nat)))), (8, .c (.v (.int .i64 (cm : Nat))))]) (fun i => [(1000, .row (some ⟨g0, 0, none⟩) 1 1 5 1 (bC [255])), (54, .row (some ⟨g, 0, none⟩) n c 5 1 (fRep cs i))]) (fun i W => 1 ≤ i ∧ i ≤ n) (fun i => n - i) 1 ?_ ?_ (fun W hW => ⟨Nat.le_refl _, hn⟩) ?_
    · simp
    · simp [lay, fRep, bC]
    rintro i W ⟨hi1, hi⟩ hG next
    rcases Nat.lt_or_ge i n with hlt | hge
    · obtain ⟨k, hk⟩ : ∃ k : Nat, k = if cm < i then cm else i := ⟨_, rfl⟩
      have hk0 : 0 < k ∧ k ≤ i := by rw [hk]; split <;> omega
      have hni : ¬ n = i := by omega
      have k1 : (0 : Int) ≤ (k : Nat) := by omega
      have k2 : k ≤ n := by omega
      simp [hN, hlt]
      refine tagA 11 (.c (.v (.int .i64 (k : Nat)))) rfl (by rw [hk]; split <;> rfl) ?_
      refine drawW ok mixed (by kernel_rfl) ?_
      simp (maxSteps := 2000000) -implicitDefEqProofs [hN, hni, k1, k2, hi]
      obtain ⟨q, hq⟩ : ∃ q, q = Nat.min k (n - i) := ⟨_, rfl⟩
      have hq1 : 0 < q ∧ q ≤ k ∧ q ≤ n - i := by
        have h1 : q ≤ k := hq ▸ Nat.min_le_left _ _
        have h2 : q ≤ n - i := hq ▸ Nat.min_le_right _ _
        have h3 : 0 < q := by rw [hq]; exact Nat.lt_min.2 ⟨hk0.1, by omega⟩
        exact ⟨h3, h1, h2⟩
      have hfl := fRep_len cs i (by omega)
      have hst := fRep_step cs i q (by omega) (by omega)
      have e1 : IntKind.i64.wrap ((i : Int) + (q : Nat)) = (i + q : Nat) := by rw [w64 (by omega) (by omega)]; omega
      refine copyR ok 54 54 rfl rfl rfl rfl (g := g) (n := n) (c := c) (cs := fRep cs i) (g' := g) (n' := n) (c' := c) (off := i) (soff := 0) (dLen := n - i) (sLen := k) (cs' := fRep cs i) rfl rfl rfl rfl rfl rfl ?_ ?_ ?_ ?_
      · rw [← hq]; simp; omega
      · rw [← hq]; simp; omega
      · rw [← hq]
        have : ((fRep cs i).drop 0).take (q * 1) = bC (List.replicate q 255) := by
          rw [List.drop_zero, Nat.mul_one, fRep, List.take_append_of_le_length (by simp [bC]; omega)]
          simp [bC, List.map_replicate]
          omega
        rw [this]
        exact ones_bC _
      rw [← hq]
      simp (maxSteps := 2000000) -implicitDefEqProofs [hN, e1, hst]
      exact next (i + q) _ _ (by omega) (fun W h => ⟨⟨by omega, by omega⟩, by and_intros <;> trivial⟩) (by simp)
    · obtain rfl : i = n := by omega
      simp [hN]
      have hf : fRep cs i = bC (List.replicate i 255) := by rw [fRep, List.drop_eq_nil_of_le (by omega), List.append_nil]
      rw [hf]
      exact retS hC (g, c) [54] rfl (by simp) fun _ _ _ => trivial
end Go.Proofs.YtbbaoeidobdblaaGreat.Sx

/- nor.New. -/
set_option linter.unusedVariables false
set_option linter.unusedSimpArgs false
namespace Go.Proofs.YtbbaoeidobdblaaGreat.Sx
open Go

attribute [local simp ↓] ifb_true' ifb_false'
attribute [local simp] ifb_true ifb_false ifb_eq sx argsT find ev evOp evs evo evBin evInt evStr evNil evNilA ptrA slcA isNoneA asB evLoad look del cellsB evUn evConv kdec fld evFieldA evField evIdxA evIdx evSlc bndL bndH evLen mmi put resV guardV gvL setO tupV cellsOf ones one upd lits nv exitTo SV.val CV.val TI.agg rdyA allR keepB scan simpO gsp isS subs keepT pickT wr memN pubs Res.fact Region.binds bld rest give delL back Res.eqv vi vb num Sv.val undef
/-- A new chip: where its parts stand; the power it hangs on. -/
def newCp (g : Geo) (gp : Nat) (p : Pw) (fl : Value) (x : Nat × Nat × Nat × Nat) (n : Nat) : Cp := ⟨g, x.1, gp, x.2.1, x.2.2.1, n, x.2.2.2, p, fl, List.replicate n 255, []⟩
set_option maxHeartbeats 1000000 in
theorem norNew0 (w : World) (I : Nat → Prop) (hI : ∀ b, I b → b < w.heap.size) (g : Geo) (gp n : Nat) (p : Pw) (fl : Value) (hg : g.right) (hn : g.sectors * g.sector = (n : Nat)) (h0 : 0 < n) (hn2 : n ≤ 100000) :
    FnS Tryz.prog 12 #[.agg (geoC g).toArray, ptrV gp] w I noS (fun x : Nat × Nat × Nat × Nat => .tuple #[ptrV x.1, .int .i64 0]) (fun x => [(newCp g gp p fl x n).chip, (newCp g gp p fl x n).row, (newCp g gp p fl x n).map]) (fun _ _ => True) := by
  refine enterS (svs := [.ag ((geoC g).map .v), .c (.v (ptrV gp))]) tysOk Tryz.func12 rfl Tryz.ntmps12 Tryz.results12 (by kernel_rfl) (by simp) hI [] (owns_nil w) (fun b hb => hb.elim) (fun _ => True) (fun _ _ => trivial) fun C hC hN ok => ?_
  simp [hN]
  intro g1
  refine call0 ok rfl rfl rfl (fun w I hI hG => norRight0 w I hI g) fun y W hy => ?_
  rw [decide_eq_true hg] at hy
  subst hy
  simp [hN]
  have e1 : IntKind.i64.wrap (g.sectors * g.sector) = (n : Nat) := by rw [hn, w64 (by omega) (by omega)]
  refine drawK ok mixed (by kernel_rfl) ?_
  simp (maxSteps := 2000000) -implicitDefEqProofs [hN, e1]
  and_intros
  · intro gr
    and_intros
    · refine callS ok rfl rfl rfl [11] [.row (some ⟨gr, 0, none⟩) 1 1 5 1 (bC [255])] (by simp [bC]) rfl (fun x : Nat × Nat => [(600, .row (some ⟨x.1, 0, none⟩) n x.2 5 1 (bC (List.replicate n 255)))]) (fun w I S hI hG hO hS' => repeat0 w I S hI gr n h0 (by omega) hO hS') (fun r => by simp) (.inl fun k hk => by simp at hk; omega) fun x W _ => ?_
      simp (maxSteps := 2000000) -implicitDefEqProofs [hN]
      refine mapMk ok rfl rfl kv1 fun gm => ?_
      simp (maxSteps := 2000000) -implicitDefEqProofs [hN]
      intro gc
      exact retS hC (gc, x.1, gm, x.2) [20, 600, 18] rfl (by simp [newCp, Cp.map, mapR, Mx.mv]) fun _ _ _ => trivial
    · refine mapMk ok rfl rfl kv1 fun gm => ?_
      simp (maxSteps := 2000000) -implicitDefEqProofs [hN, e1]
      refine callS ok rfl rfl rfl [11] [.row (some ⟨gr, 0, none⟩) 1 1 5 1 (bC [255])] (by simp [bC]) rfl (fun x : Nat × Nat => [(600, .row (some ⟨x.1, 0, none⟩) n x.2 5 1 (bC (List.replicate n 255)))]) (fun w I S hI hG hO hS' => repeat0 w I S hI gr n h0 (by omega) hO hS') (fun r => by simp) (.inl fun k hk => by simp at hk; omega) fun x W _ => ?_
      simp (maxSteps := 2000000) -implicitDefEqProofs [hN]
      intro gc
      exact retS hC (gc, x.1, gm, x.2) [20, 600, 18] rfl (by simp [newCp, Cp.map, mapR, Mx.mv]) fun _ _ _ => trivial
  · refine mapMk ok rfl rfl kv1 fun gm => ?_
    simp (maxSteps := 2000000) -implicitDefEqProofs [hN, e1]
    intro gr
    refine callS ok rfl rfl rfl [11] [.row (some ⟨gr, 0, none⟩) 1 1 5 1 (bC [255])] (by simp [bC]) rfl (fun x : Nat × Nat => [(600, .row (some ⟨x.1, 0, none⟩) n x.2 5 1 (bC (List.replicate n 255)))]) (fun w I S hI hG hO hS' => repeat0 w I S hI gr n h0 (by omega) hO hS') (fun r => by simp) (.inl fun k hk => by simp at hk; omega) fun x W _ => ?_
    simp (maxSteps := 2000000) -implicitDefEqProofs [hN]
    intro gc
    exact retS hC (gc, x.1, gm, x.2) [20, 600, 18] rfl (by simp [newCp, Cp.map, mapR, Mx.mv]) fun _ _ _ => trivial
end Go.Proofs.YtbbaoeidobdblaaGreat.Sx

/- Concat, Put, PutInt: what they hand back is one's own. -/
set_option linter.unusedVariables false
set_option linter.unusedSimpArgs false
namespace Go.Proofs.YtbbaoeidobdblaaGreat.Sx
open Go

attribute [local simp ↓] ifb_true' ifb_false'
attribute [local simp] ifb_true ifb_false ifb_eq sx argsT find ev evOp evs evo evBin evInt evStr evNil evNilA ptrA slcA isNoneA asB evLoad look del cellsB evUn evConv kdec fld evFieldA evField evIdxA evIdx evSlc bndL bndH evLen mmi put resV guardV gvL setO tupV cellsOf ones one upd lits nv exitTo SV.val CV.val TI.agg rdyA allR keepB scan simpO gsp isS subs keepT pickT wr memN pubs Res.fact Region.binds bld rest give delL back Res.eqv vi vb num Sv.val undef
theorem concatS (w : World) (I : Nat → Prop) (hI : ∀ b, I b → b < w.heap.size) (xss : List (List Int)) (s : Sl) (h : ∀ W, Ext I w W → s.ok dBs W xss) (hN : xss.flatten.length ≤ 100000000000) (h0 : 0 < xss.length) :
    FnS Tryz.prog 148 #[.slice s.1 xss.length s.2] w I noS (fun x : Sl => .slice x.1 xss.flatten.length x.2) (fun x => [.row x.1 xss.flatten.length x.2 5 1 (bC xss.flatten)]) (fun _ _ => True) := by
  obtain ⟨b, off, e⟩ := (h w (Ext.refl _ _)).2.2.is_some h0
  have hk := (h w (Ext.refl _ _)).2.1
  obtain ⟨a, c⟩ := s
  cases e
  refine enterS (svs := [.c (.v (.slice (some ⟨b, off, none⟩) xss.length c))]) tysOk Tryz.func148 rfl Tryz.ntmps148 Tryz.results148 (by kernel_rfl) (by simp) hI [] (owns_nil w) (fun b hb => hb.elim) (fun W => Sl.ok dBs W (some ⟨b, off, none⟩, c) xss) h fun C hC hn ok => ?_
  simp [hn]
  have ld : ∀ (i : Nat) (hlt : i < xss.length) (W : World), Sl.ok dBs W (some ⟨b, off, none⟩, c) xss → ∃ v, W.cell? ⟨b, off + i, none⟩ = some v ∧ slQ dByte xss[i] v W := fun i hlt W hW => by
    obtain ⟨cs, ⟨s, rfl, hs⟩, _, hc⟩ := hW.2.2.get hlt
    exact ⟨_, by simpa [dBs] using hc 0 _ rfl, s, rfl, hs⟩
  have e2 : ∀ i, i < xss.length → IntKind.i64.wrap ((i : Int) + 1) = (i + 1 : Nat) := fun i h => by rw [w64 (by omega) (by omega)]; omega
  have ht : ∀ i (hlt : i < xss.length), (xss.take (i + 1)).flatten = (xss.take i).flatten ++ xss[i] := fun i hlt => by
    rw [List.take_add_one, List.getElem?_eq_getElem hlt, List.flatten_append]
    simp only [Option.toList, List.flatten_cons, List.flatten_nil, List.append_nil]
  refine loop ok (fun i => [(11, .c (.v (.int .i64 (i : Nat)))), (3, .c (.v (.int .i64 (sumL xss i))))]) (fun _ => []) (fun i W => i ≤ xss.length) (fun i => xss.length - i) 0 ?_ ?_ (fun W _ => Nat.zero_le _) fun i W hi hG next => ?_
  · simp [sumL]
  · simp
  simp [hn]
  refine ⟨fun hlt => ?_, fun hge => ?_⟩
  · refine ⟨hlt, load1 ok rfl rfl rfl rfl (slQ dByte xss[i]) (fun W hW => ld i hlt W hW.2) ?_⟩
    · rintro v W ⟨s, rfl, hs⟩ hG
      have e1 : IntKind.i64.wrap ((sumL xss i : Int) + xss[i].length) = sumL xss (i + 1) := by
        have h1 := sumL_succ xss i hlt
        have h2 := sumL_le xss (i + 1)
        rw [w64 (by omega) (by omega)]
        omega
      simp [hn, e1, e2 i hlt]
      refine ⟨fun h => absurd h (by omega), next (i + 1) _ _ (by omega) (fun W h => ⟨hlt, h.2.2⟩) ?_⟩
      simp
  · have hi' : i = xss.length := by omega
    subst hi'
    refine callS ok rfl rfl rfl [] [] trivial rfl (fun x : Sl => [(600, .row x.1 0 x.2 5 1 [])]) (fun w I S hI hG hO hS => (grow0 w I hI (sumL xss xss.length) (Nat.le_trans (sumL_le _ _) hN)).lone hO) ?_ (.inl fun k hk => by cases hk) fun x W _ => ?_
    · simp
    · simp [hn]
      refine loop ok (fun a : Nat × Sl => [(27, .c (.v (.int .i64 (a.1 : Nat)))), (6, .c (.v (.slice a.2.1 (sumL xss a.1) a.2.2)))]) (fun a => [(600, .row a.2.1 (sumL xss a.1) a.2.2 5 1 (bC (xss.take a.1).flatten))]) (fun a W => a.1 ≤ xss.length) (fun a => xss.length - a.1) (0, x) ?_ ?_ (fun W _ => Nat.zero_le _) ?_
      · simp [sumL]
      · simp [sumL, bC]
      · rintro ⟨i, r⟩ W hi2 hG2 next2
        simp [hn]
        refine ⟨fun hlt => ?_, fun hge => ?_⟩
        · refine ⟨hlt, load1 ok rfl rfl rfl rfl (slQ dByte xss[i]) (fun W hW => ld i hlt W hW.2) ?_⟩
          rintro v W ⟨⟨a', c'⟩, rfl, hs⟩ hG
          have hu := sumL_succ xss i hlt
          have hm := sumL_le xss (i + 1)
          by_cases hx : xss[i] = []
          · simp [hn, hx]
            refine rowLe 600 rfl fun hle => app0 ok rfl rfl rfl rfl rfl rfl rfl hle rfl rfl ?_
            simp [hn, e2 i hlt]
            refine next2 (i + 1, r) _ _ (by simp; omega) (fun W h => ⟨hlt, h.2.2⟩) ?_
            simp [hu, ht i hlt, hx]
          · have h1 : 0 < xss[i].length := List.length_pos_iff.2 hx
            obtain ⟨b', o', e'⟩ := hs.2.2.is_some h1
            cases e'
            simp [hn]
            refine appI ok 600 rfl rfl rfl rfl rfl (by decide) rfl rfl rfl rfl rfl rfl h1 (by show _ * 1 ≤ _; omega) (by omega) (fun l W => l = xss[i].map (.int .u8)) (fun W hW => ?_) fun l g' c'' W hq _ => ?_
            · obtain ⟨l, k1, k2, k3⟩ := hW.1.get.2.2.2.all_rows
              exact ⟨l, k1.1, k2, k3, rows_byte.1 k1⟩
            · subst hq
              simp [hn, e2 i hlt]
              refine next2 (i + 1, (some ⟨g', 0, none⟩, c'')) _ _ (by simp; omega) (fun W h => ⟨hlt, h.2.2⟩) ?_
              simp [hu, ht i hlt, ← bC_nv]
        · have hi' : i = xss.length := by simp only at hi2; omega
          subst hi'
          have hfl : (xss.take xss.length).flatten = xss.flatten := by rw [List.take_length]
          exact retS hC r [600] (by simp [sumL, hfl]) (by simp [sumL, hfl]) fun _ _ _ => trivial
theorem putS (w : World) (I : Nat → Prop) (hI : ∀ b, I b → b < w.heap.size) (xs : List Int) (s : Sl) (v : Int) (n : Nat) (h : ∀ W, Ext I w W → s.ok dByte W xs) (hl : xs.length + n ≤ 100000000000) (hn : n ≤ 8) (hv : 0 ≤ v) :
    FnS Tryz.prog 105 #[.slice s.1 xs.length s.2, .int .u64 v, .int .i64 n] w I noS (fun r : Sl => .slice r.1 (xs.length + n) r.2) (fun r => [.row r.1 (xs.length + n) r.2 5 1 (bC (xs ++ lowB v n))]) (fun _ _ => True) := by
  refine enterS (svs := [.c (.v (.slice s.1 xs.length s.2)), .c (.v (.int .u64 v)), .c (.v (.int .i64 n))]) tysOk Tryz.func105 rfl Tryz.ntmps105 Tryz.results105 (by kernel_rfl) (by simp) hI [] (owns_nil w) (fun b hb => hb.elim) (fun W => s.ok dByte W xs) h fun C hC hN ok => ?_
  have e1 : ¬ ((n : Int) < 0) := by omega
  have e2 : ¬ ((8 : Int) < n) := by omega
  simp [hN, e1, e2]
  refine mksl ok rfl rfl rfl rfl rfl rfl rfl rfl rfl (by omega) (by show (1 : Int) * n ≤ _; omega) (by omega) fun g => ?_
  simp [hN]
  refine loop ok (fun i : Nat => [(15, .c (.v (.int .i64 i)))]) (fun i => [(12, .row (some ⟨g, 0, none⟩) n n 5 1 (bC (fillB v n i)))]) (fun i W => i ≤ n) (fun i => n - i) 0 ?_ ?_ (fun W _ => Nat.zero_le _) fun i W hi hG next => ?_
  · simp
  · simp [fillB_none, bC]
  simp [hN]
  refine ⟨fun hlt => ?_, fun hge => ?_⟩
  · have e3 : IntKind.i64.wrap (8 * (i : Int)) = (8 * i : Nat) := by rw [w64 (by omega) (by omega)]; omega
    have e4 : min (8 * i) IntKind.u64.bits = 8 * i := by simp [IntKind.bits]; omega
    have e5 : v.fdiv (2 ^ (8 * i)) = v / 2 ^ (8 * i) := Int.fdiv_eq_ediv_of_nonneg _ (Int.le_of_lt (Int.pow_pos (by decide)))
    have e6 : IntKind.i64.wrap ((i : Int) + 1) = (i + 1 : Nat) := by rw [w64 (by omega) (by omega)]; omega
    rw [e3, e6, Int.toNat_natCast, e4, e5, u8_wrap, bC_set, fillB_set v n i hlt]
    refine ⟨by omega, hlt, by rw [bC_length, fillB_length v n i hi]; omega, next (i + 1) _ _ (by omega) (fun W h => ⟨hlt, h.2⟩) ?_⟩
    simp
  · have hi' : i = n := by omega
    subst hi'
    intro g2
    rw [fillB_full]
    refine pub 12 rfl (by decide) (pub 29 rfl (by decide) (callS ok rfl rfl rfl [] [] trivial rfl (fun x : Sl => [(600, .row x.1 ([xs, lowB v i].flatten.length) x.2 5 1 (bC [xs, lowB v i].flatten))]) (fun w I S hI hG hO hS => (concatS w I hI [xs, lowB v i] (some ⟨g2, 0, none⟩, 2) (fun W e => two_ok (hG W e).1 (hG W e).2.2.2 rfl (byte_ok (hG W e).2.1 (by rw [lowB_length]; omega)).2 (lowB_length v i).symm) (by simp [lowB_length]; omega) (by simp)).lone hO) (fun r => by simp) (.inl fun k hk => by cases hk) fun x W _ => ?_))
    simp [hN]
    exact retS hC x [600] (by simp [lowB_length]) (by simp [lowB_length]) fun W _ hG => trivial
theorem putIntS (w : World) (I : Nat → Prop) (hI : ∀ b, I b → b < w.heap.size) (xs : List Int) (s : Sl) (v : Int) (h : ∀ W, Ext I w W → s.ok dByte W xs) (hl : xs.length + 8 ≤ 100000000000) :
    FnS Tryz.prog 102 #[.slice s.1 xs.length s.2, .int .i64 v] w I noS (fun r : Sl => .slice r.1 (xs.length + 8) r.2) (fun r => [.row r.1 (xs.length + 8) r.2 5 1 (bC (xs ++ intB v))]) (fun _ _ => True) := by
  refine enterS (svs := [.c (.v (.slice s.1 xs.length s.2)), .c (.v (.int .i64 v))]) tysOk Tryz.func102 rfl Tryz.ntmps102 Tryz.results102 (by kernel_rfl) (by simp) hI [] (owns_nil w) (fun b hb => hb.elim) (fun W => s.ok dByte W xs) h fun C hC hN ok => ?_
  simp [hN, u64_wrap]
  refine callS ok rfl rfl rfl [] [] trivial rfl (fun x : Sl => [(600, .row x.1 (xs.length + 8) x.2 5 1 (bC (xs ++ intB v)))]) (fun w I S hI hG hO hS => (putS w I hI xs s _ 8 hG hl (by omega) (Int.emod_nonneg _ (by decide))).lone hO) (fun r => by simp [intB]) (.inl fun k hk => by cases hk) fun x W _ => ?_
  simp [hN]
  exact retS hC x [600] rfl (by simp) fun W _ hG => trivial
end Go.Proofs.YtbbaoeidobdblaaGreat.Sx

/- journal.first. -/
set_option linter.unusedVariables false
set_option linter.unusedSimpArgs false
namespace Go.Proofs.YtbbaoeidobdblaaGreat.Sx
open Go

attribute [local simp ↓] ifb_true' ifb_false'
attribute [local simp] ifb_true ifb_false ifb_eq sx argsT find ev evOp evs evo evBin evInt evStr evNil evNilA ptrA slcA isNoneA asB evLoad look del cellsB evUn evConv kdec fld evFieldA evField evIdxA evIdx evSlc bndL bndH evLen mmi put resV guardV gvL setO tupV cellsOf ones one upd lits nv exitTo SV.val CV.val TI.agg rdyA allR keepB scan simpO gsp isS subs keepT pickT wr memN pubs Res.fact Region.binds bld rest give delL back Res.eqv vi vb num Sv.val undef
def firstB (e : Int) (s : Sta) : List Int := intB e ++ deedsB (wholeL s)
theorem firstB_length (e : Int) (s : Sta) : (firstB e s).length = 8 + (deedsB (wholeL s)).length := by simp [firstB, intB_length]
set_option maxHeartbeats 1000000 in
theorem first0 (w : World) (I : Nat → Prop) (hI : ∀ b, I b → b < w.heap.size) (e : Int) (s : Sta) (si sb : Sl) (h : ∀ W, Ext I w W → StaR W s si sb) (hl : s.inos.length + s.bad.length ≤ 1000000000) (hl2 : (deedsB (wholeL s)).length ≤ 10000000000) :
    Fn0 Tryz.prog 57 #[.int .i64 e, .agg (staC s si sb).toArray] w I (fun r : Sl => .slice r.1 (firstB e s).length r.2) (fun r W => r.ok dByte W (firstB e s)) := by
  obtain ⟨ia, ic⟩ := si
  obtain ⟨ba, bc⟩ := sb
  refine enter (svs := [.c (.v (.int .i64 e)), .ag ((staC s (ia, ic) (ba, bc)).map .v)]) tysOk Tryz.func57 rfl Tryz.ntmps57 Tryz.results57 (by kernel_rfl) (by simp) hI (fun W => StaR W s (ia, ic) (ba, bc)) h fun C hC hN ok => ?_
  simp [hN]
  intro g1
  refine drawK ok mixed (by kernel_rfl) ?_
  simp (maxSteps := 2000000) -implicitDefEqProofs [hN]
  refine callS ok rfl rfl rfl [] [] trivial rfl (fun x : Sl => [(600, .row x.1 8 x.2 5 1 (bC (intB e)))]) (fun w I S hI hG hO hS => (putIntS w I hI [] (none, 0) e (fun W _ => by simp [Sl.ok, Rd]) (by simp)).lone hO) (fun r => by simp) (.inl fun k hk => by cases hk) fun x W _ => ?_
  simp (maxSteps := 2000000) -implicitDefEqProofs [hN]
  refine call0 ok rfl rfl rfl (fun w I hI hG => whole0 w I hI s (ia, ic) (ba, bc) (fun W e => hG W e) hl) fun y W hy => ?_
  simp (maxSteps := 2000000) -implicitDefEqProofs [hN]
  refine call0 ok rfl rfl rfl (fun w I hI hG => deeds0 w I hI (wholeL s) y (fun W e => (hG W e).1) (by omega)) fun z W hz => ?_
  simp (maxSteps := 2000000) -implicitDefEqProofs [hN]
  obtain ⟨za, zn, zc⟩ := z
  have hzn : zn = (deedsB (wholeL s)).length := hz.1
  refine appV ok 600 rfl rfl rfl rfl rfl (by decide) rfl rfl rfl rfl rfl rfl dByte (deedsB (wholeL s)) rfl (by show (8 + _) * 1 ≤ _; omega) (by omega) (fun W hW => hW.1) fun l a' c'' W hl hr _ => ?_
  simp (maxSteps := 2000000) -implicitDefEqProofs [hN]
  have hll : l = (deedsB (wholeL s)).map (Value.int .u8) := rows_byte.1 hr
  have hrow : bC (intB e) ++ l.map nv = bC (firstB e s) := by rw [hll, bC_nv, bC_app, firstB]
  rw [hrow]
  refine ret0 hC (a', c'') (by simp [firstB_length]) fun W hp hG => ?_
  simp only [pubs, Res.fact] at hp
  exact (byte_ok (xs := firstB e s) hp.1 (by rw [firstB_length]; omega)).2
end Go.Proofs.YtbbaoeidobdblaaGreat.Sx

/- journal.Journal: room, State. -/
set_option linter.unusedVariables false
set_option linter.unusedSimpArgs false
namespace Go.Proofs.YtbbaoeidobdblaaGreat.Sx
open Go

attribute [local simp ↓] ifb_true' ifb_false'
attribute [local simp] ifb_true ifb_false ifb_eq sx argsT find ev evOp evs evo evBin evInt evStr evNil evNilA ptrA slcA isNoneA asB evLoad look del cellsB evUn evConv kdec fld evFieldA evField evIdxA evIdx evSlc bndL bndH evLen mmi put resV guardV gvL setO tupV cellsOf ones one upd lits nv exitTo SV.val CV.val TI.agg rdyA allR keepB scan simpO gsp isS subs keepT pickT wr memN pubs Res.fact Region.binds bld rest give delL back Res.eqv vi vb num Sv.val undef
/-- A journal: its chip, where it stands, the half in use, the epoch, how much is used, the state, whether it ended. -/
structure Jn where
  c : Cp
  gj : Nat
  half : Nat
  ep : Int
  used : Nat
  s : Sta
  si : Sl
  sb : Sl
  ended : Bool
abbrev jnC (j : Jn) : List CV := [.v (ptrV j.c.gc), .v (.int .i64 (j.half : Nat)), .v (.int .i64 j.ep), .v (.int .i64 (j.used : Nat)), .v (.int .i64 j.s.next), .v (.slice j.si.1 j.s.inos.length j.si.2), .v (.slice j.sb.1 j.s.bad.length j.sb.2), .b j.ended]
abbrev Jn.box (j : Jn) : Res := .box j.gj 111 (jnC j)
abbrev Jn.res (j : Jn) : List Res := [j.c.chip, j.c.pow, j.c.row, j.c.map, j.box]
theorem room0 (w : World) (I S : Nat → Prop) (hI : ∀ b, I b → b < w.heap.size) (j : Jn) (hf : j.c.fit) (hS : Owns [j.c.chip, j.box] S w) (hSI : ∀ b, S b → b < w.heap.size ∧ ¬ I b) :
    FnS Tryz.prog 63 #[ptrV j.gj] w I S (fun _ : Unit => .int .i64 (halfSz j.c : Nat)) (fun _ => [j.c.chip, j.box]) (fun _ _ => True) := by
  obtain ⟨hl2, hsz, hz⟩ := half_two hf
  refine enterS (svs := [.c (.bp 1001 j.gj 0)]) tysOk Tryz.func63 rfl Tryz.ntmps63 Tryz.results63 (by kernel_rfl) (by simp) hI [j.c.chip, j.box] hS hSI (fun _ => True) (fun _ _ => trivial) fun C hC hN ok => ?_
  simp [hN]
  refine callS ok rfl rfl rfl [1000] [j.c.chip] (by simp) rfl (fun _ : Unit => [(1000, j.c.chip)]) (fun w I S hI hG hO hS' => norGeo0 w I S hI j.c hO hS') (fun r => by simp) (.inr fun x q hq => by simp at hq; subst hq; simp) fun _ W _ => ?_
  simp [hN]
  refine call0 ok rfl rfl rfl (fun w I hI hG => halfSize0 w I hI j.c.g) fun z W hz' => ?_
  rw [if_pos hf.right, hsz] at hz'
  subst hz'
  simp [hN]
  exact retS hC () [1000, 1001] rfl (by simp) fun _ _ _ => trivial
theorem state0 (w : World) (I S : Nat → Prop) (hI : ∀ b, I b → b < w.heap.size) (j : Jn) (h : ∀ W, Ext I w W → StaR W j.s j.si j.sb) (hl : j.s.inos.length ≤ 1000000000 ∧ j.s.bad.length ≤ 1000000000) (hS : Owns [j.box] S w) (hSI : ∀ b, S b → b < w.heap.size ∧ ¬ I b) :
    FnS Tryz.prog 21 #[ptrV j.gj] w I S (fun y : Sl × Sl => .agg (staC (applyL j.s []) y.1 y.2).toArray) (fun _ => [j.box]) (fun y W => StaR W (applyL j.s []) y.1 y.2) := by
  refine enterS (svs := [.c (.bp 1000 j.gj 0)]) tysOk Tryz.func21 rfl Tryz.ntmps21 Tryz.results21 (by kernel_rfl) (by simp) hI [j.box] hS hSI (fun W => StaR W j.s j.si j.sb) h fun C hC hN ok => ?_
  simp [hN]
  intro g
  refine call0 ok rfl rfl rfl (fun w I hI hG => apply0 w I hI j.s j.si j.sb (a := none) (n := 0) (c := 0) [] (fun W e => hG W e) (fun W e => Sv.nil none 0) (by simpa using hl)) fun y W hy => ?_
  simp [hN]
  exact retS hC y [1000] rfl (by simp) fun W hp hG => hG.1
end Go.Proofs.YtbbaoeidobdblaaGreat.Sx

/- journal.Journal: anew. -/
set_option linter.unusedVariables false
set_option linter.unusedSimpArgs false
namespace Go.Proofs.YtbbaoeidobdblaaGreat.Sx
open Go

attribute [local simp ↓] ifb_true' ifb_false'
attribute [local simp] ifb_true ifb_false ifb_eq sx argsT find ev evOp evs evo evBin evInt evStr evNil evNilA ptrA slcA isNoneA asB evLoad look del cellsB evUn evConv kdec fld evFieldA evField evIdxA evIdx evSlc bndL bndH evLen mmi put resV guardV gvL setO tupV cellsOf ones one upd lits nv exitTo SV.val CV.val TI.agg rdyA allR keepB scan simpO gsp isS subs keepT pickT wr memN pubs Res.fact Region.binds bld rest give delL back Res.eqv vi vb num Sv.val undef
theorem intB_byte (v : Int) : ∀ x, x ∈ intB v → 0 ≤ x ∧ x ≤ 255 := lowB_byte _ _
theorem bytesOf_byte (s : ByteArray) : ∀ x, x ∈ bytesOf s → 0 ≤ x ∧ x ≤ 255 := by
  intro x hx
  simp only [bytesOf, List.mem_map] at hx
  obtain ⟨b, _, rfl⟩ := hx
  have := b.toNat_lt
  omega
theorem textB_byte (s : ByteArray) : ∀ x, x ∈ textB s → 0 ≤ x ∧ x ≤ 255 := fun x hx => by
  rcases List.mem_append.1 hx with h | h
  · exact lowB_byte _ _ _ h
  · exact bytesOf_byte _ _ h
theorem inoB_byte (i : Ino) : ∀ x, x ∈ inoB i → 0 ≤ x ∧ x ≤ 255 := fun x hx => by
  simp only [inoB, headB, List.mem_append, List.mem_flatMap, entB, runB] at hx
  rcases hx with ((((((((h | h) | h) | h) | h) | h) | ⟨y, _, h⟩) | h) | ⟨y, _, h⟩)
  · exact intB_byte _ _ h
  · exact intB_byte _ _ h
  · exact intB_byte _ _ h
  · exact intB_byte _ _ h
  · exact textB_byte _ _ h
  · exact lowB_byte _ _ _ h
  · rcases h with h | h
    · exact textB_byte _ _ h
    · exact intB_byte _ _ h
  · exact lowB_byte _ _ _ h
  · rcases h with (h | h) | h
    · exact intB_byte _ _ h
    · exact intB_byte _ _ h
    · exact intB_byte _ _ h
theorem deedsB_byte (l : List Dee) : ∀ x, x ∈ deedsB l → 0 ≤ x ∧ x ≤ 255 := fun x hx => by
  simp only [deedsB, List.mem_flatMap, deedB, List.mem_append, tailB] at hx
  obtain ⟨d, _, h | h⟩ := hx
  · exact lowB_byte _ _ _ h
  · split at h
    · exact intB_byte _ _ h
    · split at h
      · exact inoB_byte _ _ h
      · cases h
theorem firstB_byte (e : Int) (s : Sta) : ∀ x, x ∈ firstB e s → 0 ≤ x ∧ x ≤ 255 := fun x hx => by
  rcases List.mem_append.1 hx with h | h
  · exact intB_byte _ _ h
  · exact deedsB_byte _ _ h
theorem half_le {c : Cp} (h : c.fit) : halfSz c ≤ 32768 := by
  obtain ⟨q0, ⟨q1, q2⟩, ⟨q3, q4⟩, _⟩ := id h.right
  have h1 : halfN c ≤ 8 := by unfold halfN; omega
  have h2 : c.g.sector.toNat ≤ 4096 := by omega
  exact Nat.mul_le_mul h1 h2
def anewM (j : Jn) (s : Sta) (si sb : Sl) : Int × Jn :=
  if halfSz j.c < (firstB (j.ep + 1) s).length + 7 ∨ 2147483647 ≤ j.ep then (10, j)
  else if (wipeM j.c (1 - j.half)).1 ≠ 0 then ((wipeM j.c (1 - j.half)).1, { j with c := (wipeM j.c (1 - j.half)).2, ended := true })
  else if (appendM (wipeM j.c (1 - j.half)).2 (1 - j.half) 0 (firstB (j.ep + 1) s)).1 ≠ 0 then ((appendM (wipeM j.c (1 - j.half)).2 (1 - j.half) 0 (firstB (j.ep + 1) s)).1, { j with c := (appendM (wipeM j.c (1 - j.half)).2 (1 - j.half) 0 (firstB (j.ep + 1) s)).2, ended := true })
  else (0, { j with c := (appendM (wipeM j.c (1 - j.half)).2 (1 - j.half) 0 (firstB (j.ep + 1) s)).2, half := 1 - j.half, ep := j.ep + 1, used := (firstB (j.ep + 1) s).length + 7, s := s, si := si, sb := sb })
theorem wipe_same' {c : Cp} (h : c.fit) {i : Nat} (hi : i < 2) : c.same (wipeM c i).2 ∧ (wipeM c i).2.fit := by
  obtain ⟨q0, ⟨q1, q2⟩, _⟩ := id h.right
  have h1 : halfN c ≤ 8 ∧ 2 * (halfN c : Int) ≤ c.g.sectors := by unfold halfN; omega
  have h2 : i * halfN c ≤ 1 * halfN c := Nat.mul_le_mul_right _ (by omega)
  exact wipe_same (halfN c) h (Cp.same.refl c) (by omega)
set_option maxHeartbeats 2000000 in
theorem anew0 (w : World) (I S : Nat → Prop) (hI : ∀ b, I b → b < w.heap.size) (j : Jn) (s : Sta) (si sb : Sl) (hf : j.c.fit) (hh : j.half < 2) (he : 0 ≤ j.ep ∧ j.ep ≤ 2147483647) (h : ∀ W, Ext I w W → StaR W s si sb) (hl : s.inos.length + s.bad.length ≤ 1000000000) (hl2 : (deedsB (wholeL s)).length ≤ 10000000000) (hS : Owns j.res S w) (hSI : ∀ b, S b → b < w.heap.size ∧ ¬ I b) :
    FnS Tryz.prog 64 #[ptrV j.gj, .agg (staC s si sb).toArray] w I S (fun _ : Unit => .int .i64 (anewM j s si sb).1) (fun _ => (anewM j s si sb).2.res) (fun _ _ => True) := by
  obtain ⟨ia, ic⟩ := si
  obtain ⟨ba, bc⟩ := sb
  obtain ⟨hl3, hsz, hz⟩ := half_two hf
  have hhl := half_le hf
  refine enterS (svs := [.c (.bp 1004 j.gj 0), .ag ((staC s (ia, ic) (ba, bc)).map .v)]) tysOk Tryz.func64 rfl Tryz.ntmps64 Tryz.results64 (by kernel_rfl) (by simp) hI j.res hS hSI (fun W => StaR W s (ia, ic) (ba, bc)) h fun C hC hN ok => ?_
  simp [hN]
  intro g1
  obtain ⟨to, hto⟩ : ∃ to, to = 1 - j.half := ⟨_, rfl⟩
  have e1 : IntKind.i64.wrap (1 - (j.half : Int)) = (to : Nat) := by rw [w64 (by omega) (by omega)]; omega
  have e2 : IntKind.i64.wrap (j.ep + 1) = j.ep + 1 := w64 (by omega) (by omega)
  refine drawK ok mixed (by kernel_rfl) ?_
  simp (maxSteps := 2000000) -implicitDefEqProofs [hN, e1, e2]
  refine call0 ok rfl rfl rfl (fun w I hI hG => first0 w I hI (j.ep + 1) s (ia, ic) (ba, bc) (fun W e => hG W e) hl hl2) fun b W hb => ?_
  have hbl := firstB_length (j.ep + 1) s
  have hbb := firstB_byte (j.ep + 1) s
  obtain ⟨fb, hfb⟩ : ∃ fb, fb = firstB (j.ep + 1) s := ⟨_, rfl⟩
  rw [← hfb] at hbl hbb
  simp only [← hfb]
  simp (maxSteps := 2000000) -implicitDefEqProofs [hN, e1, e2]
  refine call0 ok rfl rfl rfl (fun w I hI hG => frameSize0 w I hI (fb.length : Nat) (by omega) (by omega)) fun u W hu => ?_
  subst hu
  simp [hN]
  refine callS ok rfl rfl rfl [1000, 1004] [j.c.chip, j.box] (by simp) rfl (fun _ : Unit => [(1000, j.c.chip), (1004, j.box)]) (fun w I S hI hG hO hS' => room0 w I S hI j hf hO hS') (fun r => by simp) (.inr fun x q hq => by simp at hq; rcases hq with rfl | rfl <;> simp) fun _ W _ => ?_
  simp [hN]
  have hA := anewM.eq_1 j s (ia, ic) (ba, bc)
  simp only [← hfb, ← hto] at hA
  have hw := wipe_same' hf (i := to) (by omega)
  refine ⟨fun hle => ⟨fun hep => ?_, fun hep => ?_⟩, fun hgt => ?_⟩
  · rw [if_pos (.inr hep)] at hA
    rw [hA] at hC
    exact retS hC () [1000, 1001, 1002, 1003, 1004] rfl (by simp [Cp.map, mapR]) fun _ _ _ => trivial
  · rw [if_neg (by omega)] at hA
    refine callS ok rfl rfl rfl [1000, 1001, 1002, 1003] j.c.res (by simp [Cp.map, mapR]) rfl (fun _ : Unit => [(1000, (wipeM j.c to).2.chip), (1001, (wipeM j.c to).2.pow), (1002, (wipeM j.c to).2.row), (1003, (wipeM j.c to).2.map)]) (fun w I S hI hG hO hS' => wipe0 w I S hI j.c to (by omega) hf hO hS') (fun r => by simp [Cp.map, mapR]) (.inr fun x q hq => by simp at hq; rcases hq with rfl | rfl | rfl | rfl <;> simp) fun _ W _ => ?_
    generalize wipeM j.c to = r at hA hw ⊢
    obtain ⟨e, d⟩ := r
    simp only at hA hw
    simp [hN]
    refine ⟨fun h0 => ?_, fun hne => ?_⟩
    · subst h0
      rw [if_neg (by simp)] at hA
      have hap := append_same hw.2 (h := to) (o := 0) (by omega) (b := fb)
      refine callS ok rfl rfl rfl [1000, 1001, 1002, 1003] d.res (by simp [Cp.map, mapR]) rfl (fun _ : Unit => [(1000, (appendM d to 0 fb).2.chip), (1001, (appendM d to 0 fb).2.pow), (1002, (appendM d to 0 fb).2.row), (1003, (appendM d to 0 fb).2.map)]) (fun w I S hI hG hO hS' => by have := append0 w I S hI d to 0 (by omega) hw.2 (by omega) fb b (fun W e => (hG W e).1) hbb (by omega) hO hS'; rw [hw.1.gc] at this; exact this) (fun r => by simp [Cp.map, mapR]) (.inr fun x q hq => by simp at hq; rcases hq with rfl | rfl | rfl | rfl <;> simp) fun _ W _ => ?_
      generalize appendM d to 0 fb = r at hA hap ⊢
      obtain ⟨e2', d2⟩ := r
      simp only at hA hap
      have hgc : d2.gc = j.c.gc := by rw [hap.1.gc, hw.1.gc]
      simp [hN]
      refine ⟨fun hne => ?_, fun h0 => ?_⟩
      · rw [if_pos hne] at hA
        rw [hA] at hC
        exact retS hC () [1000, 1001, 1002, 1003, 1004] rfl (by simp [Cp.map, mapR, hgc]) fun _ _ _ => trivial
      · rw [if_neg (by simp [h0])] at hA
        rw [hA] at hC
        refine draw ok [(3, .box g1 39 ((staC s (ia, ic) (ba, bc)).map .v))] (by rw [ok.P]; exact mixed) (by kernel_rfl) ?_
        simp (maxSteps := 2000000) -implicitDefEqProofs [hN, e2]
        and_intros
        all_goals try omega
        all_goals refine call0 ok rfl rfl rfl (fun w I hI hG => frameSize0 w I hI (fb.length : Nat) (by omega) (by omega)) fun u W hu => ?_
        all_goals subst hu
        all_goals simp (maxSteps := 2000000) -implicitDefEqProofs [hN, e2]
        all_goals exact retS hC () [1000, 1001, 1002, 1003, 1004] rfl (by simp [Cp.map, mapR, hgc]) fun _ _ _ => trivial
    · rw [if_pos hne] at hA
      simp [hN, hne]
      rw [hA] at hC
      exact retS hC () [1000, 1001, 1002, 1003, 1004] rfl (by simp [Cp.map, mapR, hw.1.gc]) fun _ _ _ => trivial
  · rw [if_pos (.inl (by omega))] at hA
    rw [hA] at hC
    exact retS hC () [1000, 1001, 1002, 1003, 1004] rfl (by simp [Cp.map, mapR]) fun _ _ _ => trivial
end Go.Proofs.YtbbaoeidobdblaaGreat.Sx

/- journal.Journal: Commit. -/
set_option linter.unusedVariables false
set_option linter.unusedSimpArgs false
namespace Go.Proofs.YtbbaoeidobdblaaGreat.Sx
open Go

attribute [local simp ↓] ifb_true' ifb_false'
attribute [local simp] ifb_true ifb_false ifb_eq sx argsT find ev evOp evs evo evBin evInt evStr evNil evNilA ptrA slcA isNoneA asB evLoad look del cellsB evUn evConv kdec fld evFieldA evField evIdxA evIdx evSlc bndL bndH evLen mmi put resV guardV gvL setO tupV cellsOf ones one upd lits nv exitTo SV.val CV.val TI.agg rdyA allR keepB scan simpO gsp isS subs keepT pickT wr memN pubs Res.fact Region.binds bld rest give delL back Res.eqv vi vb num Sv.val undef
noncomputable def commitM (j : Jn) (l : List Dee) (x : Sl × Sl) : Int × Jn :=
  if j.ended = true then (6, j)
  else if halfSz j.c < j.used + ((deedsB l).length + 7) then anewM j (applyL j.s l) x.1 x.2
  else if (appendM j.c j.half j.used (deedsB l)).1 ≠ 0 then ((appendM j.c j.half j.used (deedsB l)).1, { j with c := (appendM j.c j.half j.used (deedsB l)).2, ended := true })
  else (0, { j with c := (appendM j.c j.half j.used (deedsB l)).2, used := j.used + ((deedsB l).length + 7), s := applyL j.s l, si := x.1, sb := x.2 })
set_option maxHeartbeats 2000000 in
theorem commit0 (w : World) (I S : Nat → Prop) (hI : ∀ b, I b → b < w.heap.size) (j : Jn) {a : Option Addr} {n c : Nat} (l : List Dee) (hf : j.c.fit) (hh : j.half < 2) (he : 0 ≤ j.ep ∧ j.ep ≤ 2147483647) (hu : j.used ≤ 1000000000) (h : ∀ W, Ext I w W → StaR W j.s j.si j.sb) (hd : ∀ W, Ext I w W → Sv.ok dDee W (a, n, c) l) (hl : j.s.inos.length + l.length ≤ 1000000000 ∧ j.s.bad.length + l.length ≤ 1000000000) (hl1 : (applyL j.s l).inos.length + (applyL j.s l).bad.length ≤ 1000000000) (hl2 : (deedsB (wholeL (applyL j.s l))).length ≤ 10000000000) (hl3 : (deedsB l).length ≤ 10000000000) (hS : Owns j.res S w) (hSI : ∀ b, S b → b < w.heap.size ∧ ¬ I b) :
    FnS Tryz.prog 17 #[ptrV j.gj, .slice a n c] w I S (fun x : Sl × Sl => .int .i64 (commitM j l x).1) (fun x => (commitM j l x).2.res) (fun x W => j.ended = false → StaR W (applyL j.s l) x.1 x.2) := by
  obtain rfl : n = l.length := (hd w (Ext.refl _ _)).1
  obtain ⟨hl4, hsz, hz⟩ := half_two hf
  have hhl := half_le hf
  refine enterS (svs := [.c (.bp 1004 j.gj 0), .c (.v (.slice a l.length c))]) tysOk Tryz.func17 rfl Tryz.ntmps17 Tryz.results17 (by kernel_rfl) (by simp) hI j.res hS hSI (fun W => StaR W j.s j.si j.sb ∧ Sv.ok dDee W (a, l.length, c) l) (fun W e => ⟨h W e, hd W e⟩) fun C hC hN ok => ?_
  cases hend : j.ended with
  | true =>
    simp [hN, hend]
    exact retS hC (((none, 0), (none, 0)) : Sl × Sl) [1000, 1001, 1002, 1003, 1004] (by simp [commitM, hend]) (by simp [commitM, hend, Cp.map, mapR]) fun W _ _ h => by rw [hend] at h; cases h
  | false =>
    simp [hN, hend]
    refine draw ok [(1004, j.box)] (by rw [ok.P]; exact mixed) (by kernel_rfl) ?_
    simp (maxSteps := 2000000) -implicitDefEqProofs [hN]
    have hd1 : (deedsB l).length ≤ 100000000000 := by omega
    refine ⟨?a, fun g => ?b⟩
    case' a =>
      refine call0 ok rfl rfl rfl (fun w I hI hG => deeds0 w I hI l (a, l.length, c) (fun W e => (hG W e).2) hd1) fun b W hb => ?_
      simp (maxSteps := 2000000) -implicitDefEqProofs [hN]
      refine ⟨?a1, fun g => ?a2⟩
      case' a1 =>
        refine call0 ok rfl rfl rfl (fun w I hI hG => apply0 w I hI j.s j.si j.sb (a := a) (n := l.length) (c := c) l (fun W e => (hG W e).2.1) (fun W e => (hG W e).2.2) hl) fun y W hy => ?_
        simp (maxSteps := 2000000) -implicitDefEqProofs [hN]
        intro g
      case' a2 =>
        refine call0 ok rfl rfl rfl (fun w I hI hG => apply0 w I hI j.s j.si j.sb (a := a) (n := l.length) (c := c) l (fun W e => (hG W e).2.1) (fun W e => (hG W e).2.2) hl) fun y W hy => ?_
        simp (maxSteps := 2000000) -implicitDefEqProofs [hN]
    case' b =>
      refine call0 ok rfl rfl rfl (fun w I hI hG => deeds0 w I hI l (a, l.length, c) (fun W e => (hG W e).2) hd1) fun b W hb => ?_
      simp (maxSteps := 2000000) -implicitDefEqProofs [hN]
      refine call0 ok rfl rfl rfl (fun w I hI hG => apply0 w I hI j.s j.si j.sb (a := a) (n := l.length) (c := c) l (fun W e => (hG W e).2.1) (fun W e => (hG W e).2.2) hl) fun y W hy => ?_
      simp (maxSteps := 2000000) -implicitDefEqProofs [hN]
    all_goals obtain ⟨ba, bn, bc⟩ := b
    all_goals obtain rfl : bn = (deedsB l).length := hb.1
    all_goals refine call0 ok rfl rfl rfl (fun w I hI hG => frameSize0 w I hI ((deedsB l).length : Nat) (by omega) (by omega)) fun u W hu => ?_
    all_goals subst hu
    all_goals simp [hN]
    all_goals have e1 : IntKind.i64.wrap ((halfSz j.c : Int) - j.used) = halfSz j.c - j.used := w64 (by omega) (by omega)
    all_goals refine drawW ok mixed (by kernel_rfl) ?_
    all_goals simp (maxSteps := 2000000) -implicitDefEqProofs [hN, e1]
    all_goals and_intros
    all_goals try omega
    all_goals refine callS ok rfl rfl rfl [1000, 1004] [j.c.chip, j.box] (by simp) rfl (fun _ : Unit => [(1000, j.c.chip), (1004, j.box)]) (fun w I S hI hG hO hS' => room0 w I S hI j hf hO hS') (fun r => by simp) (.inr fun x q hq => by simp at hq; rcases hq with rfl | rfl <;> simp) fun _ W _ => ?_
    all_goals simp (maxSteps := 2000000) -implicitDefEqProofs [hN, e1]
    all_goals have hA := commitM.eq_1 j l y
    all_goals rw [hend, if_neg (by simp)] at hA
    all_goals
      refine ⟨fun hgt => ?_, fun hle => ?_⟩
      · rw [if_pos (by omega)] at hA
        refine callS ok rfl rfl rfl [1000, 1001, 1002, 1003, 1004] j.res (by simp [Cp.map, mapR]) rfl (fun _ : Unit => [(1000, (anewM j (applyL j.s l) y.1 y.2).2.c.chip), (1001, (anewM j (applyL j.s l) y.1 y.2).2.c.pow), (1002, (anewM j (applyL j.s l) y.1 y.2).2.c.row), (1003, (anewM j (applyL j.s l) y.1 y.2).2.c.map), (1004, (anewM j (applyL j.s l) y.1 y.2).2.box)]) (fun w I S hI hG hO hS' => anew0 w I S hI j (applyL j.s l) y.1 y.2 hf hh he (fun W e => (hG W e).1) hl1 hl2 hO hS') (fun r => by simp [Cp.map, mapR]) (.inr fun x q hq => by simp at hq; rcases hq with rfl | rfl | rfl | rfl | rfl <;> simp) fun _ W _ => ?_
        simp [hN]
        refine retS hC y [1000, 1001, 1002, 1003, 1004] (by rw [hA]) (by simp [hA, Cp.map, mapR]) fun W _ hG _ => hG.1
      · rw [if_neg (by omega)] at hA
        refine draw ok [(1004, j.box)] (by rw [ok.P]; exact mixed) (by kernel_rfl) ?_
        simp (maxSteps := 2000000) -implicitDefEqProofs [hN]
        have hap := append_same hf (h := j.half) (o := j.used) hh (b := deedsB l)
        refine callS ok rfl rfl rfl [1000, 1001, 1002, 1003] j.c.res (by simp [Cp.map, mapR]) rfl (fun _ : Unit => [(1000, (appendM j.c j.half j.used (deedsB l)).2.chip), (1001, (appendM j.c j.half j.used (deedsB l)).2.pow), (1002, (appendM j.c j.half j.used (deedsB l)).2.row), (1003, (appendM j.c j.half j.used (deedsB l)).2.map)]) (fun w I S hI hG hO hS' => append0 w I S hI j.c j.half j.used hh hf hu (deedsB l) (ba, bc) (fun W e => (hG W e).2.1.2) (deedsB_byte l) (by omega) hO hS') (fun r => by simp [Cp.map, mapR]) (.inr fun x q hq => by simp at hq; rcases hq with rfl | rfl | rfl | rfl <;> simp) fun _ W _ => ?_
        generalize appendM j.c j.half j.used (deedsB l) = r at hA hap ⊢
        obtain ⟨e2', d2⟩ := r
        simp only at hA hap
        have e3 : IntKind.i64.wrap ((j.used : Int) + ((deedsB l).length + 7)) = j.used + ((deedsB l).length + 7) := w64 (by omega) (by omega)
        simp (maxSteps := 2000000) -implicitDefEqProofs [hN, e3]
        refine ⟨fun hne => ?_, fun h0 => ?_⟩
        · rw [if_pos hne] at hA
          exact retS hC y [1000, 1001, 1002, 1003, 1004] (by rw [hA]) (by simp [hA, Cp.map, mapR, hap.1.gc]) fun W _ hG _ => hG.1
        · rw [if_neg (by simp [h0])] at hA
          exact retS hC y [1000, 1001, 1002, 1003, 1004] (by rw [hA]) (by simp [hA, Cp.map, mapR, hap.1.gc, hend]) fun W _ hG _ => hG.1
end Go.Proofs.YtbbaoeidobdblaaGreat.Sx

/- inode.New, state.New. -/
set_option linter.unusedVariables false
set_option linter.unusedSimpArgs false
namespace Go.Proofs.YtbbaoeidobdblaaGreat.Sx
open Go

attribute [local simp ↓] ifb_true' ifb_false'
attribute [local simp] ifb_true ifb_false ifb_eq sx argsT find ev evOp evs evo evBin evInt evStr evNil evNilA ptrA slcA isNoneA asB evLoad look del cellsB evUn evConv kdec fld evFieldA evField evIdxA evIdx evSlc bndL bndH evLen mmi put resV guardV gvL setO tupV cellsOf ones one upd lits nv exitTo SV.val CV.val TI.agg rdyA allR keepB scan simpO gsp isS subs keepT pickT wr memN pubs Res.fact Region.binds bld rest give delL back Res.eqv vi vb num Sv.val undef
section
variable {P : Program} {C : Ctx} {T : Ty} {res : List ResultVar} {p : Pos} {tm : Tm} {m : Mem}
/-- A value of parts that are constants is built, by whatever law. -/
theorem bldK (ok : Okc P T C res) {o : Oper} {t d : Nat} {parts : Array (Nat × Operand)} {vals : Array (Nat × Value)} (ho : o.op = .build t parts) (hd : o.dst = some d) (hv : ∀ act : Act, parts.map (fun x => (x.1, act.eval x.2)) = vals) (v : Value) (h : ∀ w, (Instr.build t vals).run P w = .ok v w)
    (kk : sx T C res 1000 p (put C.n (some d) (.c (.v v)) tm) m) : At C (.op o p) tm m := by
  obtain rfl := ok.P
  intro act w cs0 hR hJ
  have e1 := hv act
  have hrun : (execOp act.eval o).run C.P w = .ok (.value v) w := by
    have := h w
    simp [execOp, ho, e1, this]
  have hRp := hR.put (some d) (.c (.v v))
  exact op_value (ok.sx kk) hrun (by rw [hd]; exact hRp) hJ
end
theorem links_build (w : World) : (Instr.build 197 #[(1, .int .i64 1), (2, .int .i64 2), (3, .int .i64 1)]).run Tryz.prog w = .ok (.agg #[.int .i64 0, .int .i64 1, .int .i64 2, .int .i64 1]) w := by
  have hz : (zeroValue 197).run Tryz.prog w = .ok (.agg #[.int .i64 0, .int .i64 0, .int .i64 0, .int .i64 0]) w := by kernel_rfl
  have hs : (sizeOf 3).run Tryz.prog w = .ok 1 w := by kernel_rfl
  simp [Instr.build, hz, run_underlying Tryz.underlying197, hs, Instr.fill, Value.cells]
theorem inoNewRoot0 (w : World) (I : Nat → Prop) (hI : ∀ b, I b → b < w.heap.size) :
    Fn0 Tryz.prog 101 #[.int .i64 1, .int .i64 2, .string emp] w I (fun _ : Unit => .agg (inoC (newIno 1 2 emp) (none, 0) (none, 0)).toArray) (fun y W => True) := by
  refine enter (svs := [.c (.v (.int .i64 1)), .c (.v (.int .i64 2)), .c (.v (.string emp))]) tysOk Tryz.func101 rfl Tryz.ntmps101 Tryz.results101 (by kernel_rfl) (by simp) hI (fun _ => True) (fun _ _ => trivial) fun C hC hN ok => ?_
  simp [hN]
  intro g1
  refine bldK ok rfl rfl (vals := #[(1, .int .i64 1), (2, .int .i64 2), (3, .int .i64 1)]) (fun _ => by simp [Act.eval]) _ (fun w => links_build w) ?_
  simp [hN]
  exact fun g2 g3 => ret0 hC () (by simp [newIno, emp, inoC]) fun _ _ _ => trivial
theorem staNew0 (w : World) (I : Nat → Prop) (hI : ∀ b, I b → b < w.heap.size) :
    Fn0 Tryz.prog 56 #[] w I (fun y : Sl => .agg (staC newSta y (none, 0)).toArray) (fun y W => StaR W newSta y (none, 0)) := by
  refine enter (svs := []) tysOk Tryz.func56 rfl Tryz.ntmps56 Tryz.results56 (by kernel_rfl) (by simp) hI (fun _ => True) (fun _ _ => trivial) fun C hC hN ok => ?_
  simp [hN]
  intro g1
  refine call0 ok rfl rfl rfl (fun w I hI hG => inoNewRoot0 w I hI) fun y W _ => ?_
  simp [hN]
  intro g2
  refine ret0 hC (some ⟨g2, 0, none⟩, 1) rfl fun W hp _ => ?_
  have h1 : Rows dIno W [newIno 1 2 emp] (inoC (newIno 1 2 emp) (none, 0) (none, 0)) := by
    refine Rows.cons_iff.2 ⟨_, [], (List.append_nil _).symm, ⟨(none, 0), (none, 0), rfl, ⟨Nat.le_refl _, by simp [newIno], rd_nil _ _ _⟩, ⟨Nat.le_refl _, by simp [newIno], rd_nil _ _ _⟩⟩, rows_nil _ _⟩
  have h2 : W.ownsRow 0 44 7 (.slice (some ⟨g2, 0, none⟩) 1 1) 1 (inoC (newIno 1 2 emp) (none, 0) (none, 0)) := by simpa [newIno, emp, inoC] using hp.2.1
  obtain ⟨k1, k2, k3⟩ := h1.rd h2 (by decide)
  exact ⟨⟨by simp [newSta], by simp [newSta], k3⟩, ⟨Nat.le_refl _, by simp [newSta], rd_nil _ _ _⟩⟩
end Go.Proofs.YtbbaoeidobdblaaGreat.Sx

/- journal.Format. -/
set_option linter.unusedVariables false
set_option linter.unusedSimpArgs false
namespace Go.Proofs.YtbbaoeidobdblaaGreat.Sx
open Go

attribute [local simp ↓] ifb_true' ifb_false'
attribute [local simp] ifb_true ifb_false ifb_eq sx argsT find ev evOp evs evo evBin evInt evStr evNil evNilA ptrA slcA isNoneA asB evLoad look del cellsB evUn evConv kdec fld evFieldA evField evIdxA evIdx evSlc bndL bndH evLen mmi put resV guardV gvL setO tupV cellsOf ones one upd lits nv exitTo SV.val CV.val TI.agg rdyA allR keepB scan simpO gsp isS subs keepT pickT wr memN pubs Res.fact Region.binds bld rest give delL back Res.eqv vi vb num Sv.val undef
def wks (c : Cp) : Nat → Cp
  | 0 => c
  | 1 => (wipeM c 0).2
  | _ => (wipeM (wipeM c 0).2 1).2
def formC (c : Cp) : Int × Cp := appendM (wks c 2) 0 0 (firstB 1 newSta)
def formJ (c : Cp) (x : Nat × Sl) : Jn := ⟨(formC c).2, x.1, 0, 1, (firstB 1 newSta).length + 7, newSta, x.2, (none, 0), false⟩
theorem wks_same {c : Cp} (h : c.fit) (i : Nat) : c.same (wks c i) ∧ (wks c i).fit := by
  have h1 := wipe_same' h (i := 0) (by omega)
  have h2 := wipe_same' h1.2 (i := 1) (by omega)
  match i with
  | 0 => exact ⟨Cp.same.refl c, h⟩
  | 1 => exact h1
  | i + 2 => exact ⟨h1.1.trans h2.1, h2.2⟩
theorem first_new : (firstB 1 newSta).length = 62 := by
  simp [firstB, wholeL, newSta, deedsB, deedB, tailB, lowB_length, intB_length, inoB_length, newIno, emp]
  rfl
set_option maxHeartbeats 2000000 in
theorem format0 (w : World) (I S : Nat → Prop) (hI : ∀ b, I b → b < w.heap.size) (c : Cp) (hf : c.fit) (h0 : (wipeM c 0).1 = 0) (h1 : (wipeM (wipeM c 0).2 1).1 = 0) (h2 : (formC c).1 = 0) (hS : Owns c.res S w) (hSI : ∀ b, S b → b < w.heap.size ∧ ¬ I b) :
    FnS Tryz.prog 15 #[ptrV c.gc] w I S (fun x : Nat × Sl => .tuple #[ptrV x.1, .int .i64 0]) (fun x => (formJ c x).res) (fun x W => StaR W newSta x.2 (none, 0)) := by
  refine enterS (svs := [.c (.v (ptrV c.gc))]) tysOk Tryz.func15 rfl Tryz.ntmps15 Tryz.results15 (by kernel_rfl) (by simp) hI c.res hS hSI (fun _ => True) (fun _ _ => trivial) fun C hC hN ok => ?_
  simp [hN]
  refine loopK [0] ok (fun i : Nat => [(9, .c (.v (.int .i64 (i : Nat))))]) (fun i => [(1000, (wks c i).chip), (1001, (wks c i).pow), (1002, (wks c i).row), (1003, (wks c i).map)]) (fun i W => i ≤ 2) (fun i => 2 - i) 0 ?_ ?_ (fun W hW => Nat.zero_le _) ?_
  · simp
  · simp [wks, Cp.map, mapR]
  rintro i W hi hG next
  rcases Nat.lt_or_ge i 2 with hlt | hge
  · have e1 : IntKind.i64.wrap ((i : Int) + 1) = (i + 1 : Nat) := by rw [w64 (by omega) (by omega)]; omega
    have hs := wks_same hf i
    have hlt' : (i : Int) < 2 := by omega
    simp [hN, hlt']
    refine callS ok rfl rfl rfl [1000, 1001, 1002, 1003] (wks c i).res (by simp [Cp.map, mapR]) rfl (fun _ : Unit => [(1000, (wipeM (wks c i) i).2.chip), (1001, (wipeM (wks c i) i).2.pow), (1002, (wipeM (wks c i) i).2.row), (1003, (wipeM (wks c i) i).2.map)]) (fun w I S hI hG hO hS' => by have := wipe0 w I S hI (wks c i) i hlt hs.2 hO hS'; rw [hs.1.gc] at this; exact this) (fun r => by simp [Cp.map, mapR]) (.inr fun x q hq => by simp at hq; rcases hq with rfl | rfl | rfl | rfl <;> simp) fun _ W _ => ?_
    have hz : (wipeM (wks c i) i).1 = 0 ∧ (wipeM (wks c i) i).2 = wks c (i + 1) := by
      match i, hlt with
      | 0, _ => exact ⟨h0, rfl⟩
      | 1, _ => exact ⟨h1, rfl⟩
    rw [hz.2]
    simp [hN, hz.1, e1]
    exact next (i + 1) _ _ (by omega) (fun W h => ⟨by omega, trivial⟩) (by simp [Cp.map, mapR])
  · obtain rfl : i = 2 := by omega
    have hs := wks_same hf 2
    simp [hN]
    refine call0 ok rfl rfl rfl (fun w I hI hG => staNew0 w I hI) fun y W hy => ?_
    simp [hN]
    intro gj
    refine drawK ok mixed (by kernel_rfl) ?_
    simp (maxSteps := 2000000) -implicitDefEqProofs [hN]
    refine call0 ok rfl rfl rfl (fun w I hI hG => first0 w I hI 1 newSta y (none, 0) (fun W e => hG W e) (by decide) (by have := firstB_length 1 newSta; rw [first_new] at this; omega)) fun b W hb => ?_
    have hbl := first_new
    have hbb := firstB_byte 1 newSta
    have hFC : formC c = appendM (wks c 2) 0 0 (firstB 1 newSta) := rfl
    obtain ⟨fb, hfb⟩ : ∃ fb, fb = firstB 1 newSta := ⟨_, rfl⟩
    rw [← hfb] at hbl hbb hFC
    simp only [← hfb]
    simp (maxSteps := 2000000) -implicitDefEqProofs [hN]
    refine callS ok rfl rfl rfl [1000, 1001, 1002, 1003] (wks c 2).res (by simp [Cp.map, mapR]) rfl (fun _ : Unit => [(1000, (formC c).2.chip), (1001, (formC c).2.pow), (1002, (formC c).2.row), (1003, (formC c).2.map)]) (fun w I S hI hG hO hS' => by have := append0 w I S hI (wks c 2) 0 0 (by omega) hs.2 (by omega) fb b (fun W e => (hG W e).1) hbb (by omega) hO hS'; rw [hs.1.gc, ← hFC] at this; exact this) (fun r => by simp [Cp.map, mapR]) (.inr fun x q hq => by simp at hq; rcases hq with rfl | rfl | rfl | rfl <;> simp) fun _ W _ => ?_
    simp [hN, h2]
    refine call0 ok rfl rfl rfl (fun w I hI hG => frameSize0 w I hI (fb.length : Nat) (by omega) (by omega)) fun u W hu => ?_
    subst hu
    simp [hN]
    have hap := append_same hs.2 (h := 0) (o := 0) (by omega) (b := fb)
    rw [← hFC] at hap
    exact retS hC (gj, y) [1000, 1001, 1002, 1003, 22] rfl (by simp [formJ, Cp.map, mapR, hap.1.gc, hs.1.gc, ← hfb]) fun W _ hG => hG.2
end Go.Proofs.YtbbaoeidobdblaaGreat.Sx

/- space.Journal of deeds. -/
set_option linter.unusedVariables false
set_option linter.unusedSimpArgs false
namespace Go.Proofs.YtbbaoeidobdblaaGreat.Sx
open Go

attribute [local simp ↓] ifb_true' ifb_false'
attribute [local simp] ifb_true ifb_false ifb_eq sx argsT find ev evOp evs evo evBin evInt evStr evNil evNilA ptrA slcA isNoneA asB evLoad look del cellsB evUn evConv kdec fld evFieldA evField evIdxA evIdx evSlc bndL bndH evLen mmi put resV guardV gvL setO tupV cellsOf ones one upd lits nv exitTo SV.val CV.val TI.agg rdyA allR keepB scan simpO gsp isS subs keepT pickT wr memN pubs Res.fact Region.binds bld rest give delL back Res.eqv vi vb num Sv.val undef
set_option maxRecDepth 100000 in
set_option maxHeartbeats 4000000 in
theorem spaceJournal0 (w : World) (I : Nat → Prop) (hI : ∀ b, I b → b < w.heap.size) (s : Sta) (si sb : Sl) (g : Geo) {a : Option Addr} {n c : Nat} (l : List Dee) (h : ∀ W, Ext I w W → StaR W s si sb) (hd : ∀ W, Ext I w W → Sv.ok dDee W (a, n, c) l) (hl : s.inos.length + l.length ≤ 1000000000 ∧ s.bad.length + l.length ≤ 1000000000) (hl1 : (applyL s l).inos.length + (applyL s l).bad.length ≤ 1000000000) (hl2 : wholeB (applyL s l) ≤ 100000000000) :
    Fn0 Tryz.prog 51 #[.agg (staC s si sb).toArray, .agg (geoC g).toArray, .slice a n c] w I (fun b : Bool => .bool b) (fun y W => y = decide ((wholeB (applyL s l) : Int) + 15 ≤ if g.right then g.sectors / 2 * g.sector else 0)) := by
  obtain ⟨ia, ic⟩ := si
  obtain ⟨ba, bc⟩ := sb
  refine enter (svs := [.ag ((staC s (ia, ic) (ba, bc)).map .v), .ag ((geoC g).map .v), .c (.v (.slice a n c))]) tysOk Tryz.func51 rfl Tryz.ntmps51 Tryz.results51 (by kernel_rfl) (by simp) hI (fun W => StaR W s (ia, ic) (ba, bc) ∧ Sv.ok dDee W (a, n, c) l) (fun W e => ⟨h W e, hd W e⟩) fun C hC hN ok => ?_
  simp [hN]
  intro g1 g2
  refine call0 ok rfl rfl rfl (fun w I hI hG => apply0 w I hI s (ia, ic) (ba, bc) (a := a) (n := n) (c := c) l (fun W e => (hG W e).1) (fun W e => (hG W e).2) hl) fun y W _ => ?_
  obtain ⟨⟨ja, jc⟩, ⟨ca, cc⟩⟩ := y
  obtain ⟨s2, hs2⟩ : ∃ s2, s2 = applyL s l := ⟨_, rfl⟩
  rw [← hs2] at hl1 hl2 hC
  simp only [← hs2]
  simp [hN]
  refine call0 ok rfl rfl rfl (fun w I hI hG => whole0 w I hI s2 (ja, jc) (ca, cc) (fun W e => (hG W e).1) hl1) fun y W _ => ?_
  obtain ⟨la, ln, lc⟩ := y
  simp [hN]
  refine call0 ok rfl rfl rfl (fun w I hI hG => deeds0 w I hI (wholeL s2) (la, ln, lc) (fun W e => (hG W e).1) hl2) fun y W hy => ?_
  obtain ⟨da, dn, dc⟩ := y
  obtain rfl : dn = wholeB s2 := hy.1
  have e1 : IntKind.i64.wrap (8 + (wholeB s2 : Int)) = 8 + wholeB s2 := w64 (by omega) (by omega)
  simp [hN, e1]
  refine drawK ok mixed (by kernel_rfl) ?_
  simp (maxSteps := 2000000) -implicitDefEqProofs [hN]
  refine call0 ok rfl rfl rfl (fun w I hI hG => frameSize0 w I hI (8 + (wholeB s2 : Int)) (by omega) (by omega)) fun y W hy => ?_
  subst hy
  simp (maxSteps := 2000000) -implicitDefEqProofs [hN]
  refine call0 ok rfl rfl rfl (fun w I hI hG => halfSize0 w I hI g) fun y W hy => ?_
  subst hy
  simp (maxSteps := 2000000) -implicitDefEqProofs [hN]
  have e2 : 8 + (wholeB s2 : Int) + 7 = wholeB s2 + 15 := by omega
  exact ret0 hC _ rfl fun W _ _ => by rw [e2]
end Go.Proofs.YtbbaoeidobdblaaGreat.Sx

/- Plain: chips whose power stays. -/
set_option linter.unusedVariables false
set_option linter.unusedSimpArgs false
namespace Go.Proofs.YtbbaoeidobdblaaGreat.Sx
open Go

/-- Power that stays. -/
def live (p : Pw) : Prop := p.left < 0 ∧ p.off = false
theorem live_step {p : Pw} (h : live p) : ∃ q, p.step = (true, false, q) ∧ live q := by
  obtain ⟨h1, h2⟩ := h
  exact ⟨{ p with left := p.left, done := IntKind.i64.wrap (p.done + 1) }, by rw [Pw.step, if_neg (by simp [h2]), if_neg (by omega), if_neg (by omega)], h1, h2⟩
theorem bor_full (x : Int) : bor x 255 = 255 := by
  have h1 : BitVec.ofInt IntKind.u8.bits 255 = BitVec.allOnes IntKind.u8.bits := by decide
  unfold bor
  rw [h1, BitVec.or_allOnes]
  decide
theorem bandn_full (x : Int) : bandn x 255 = 0 := by
  have h1 : ~~~BitVec.ofInt IntKind.u8.bits 255 = 0#IntKind.u8.bits := by decide
  unfold bandn
  rw [h1, BitVec.and_zero]
  decide
theorem layI_get (b : List Int) (o : Nat) (xs : List Int) (h : o + xs.length ≤ b.length) (i : Nat) : (layI b o xs)[i]? = if i < o then b[i]? else if i < o + xs.length then xs[i - o]? else b[i]? := by
  have h1 : (b.take o).length = o := by simp; omega
  unfold layI
  rw [List.append_assoc]
  split
  · rename_i h2
    rw [List.getElem?_append_left (by omega), List.getElem?_take, if_pos h2]
  · rw [List.getElem?_append_right (by omega), h1]
    split
    · rw [List.getElem?_append_left (by omega)]
    · rw [List.getElem?_append_right (by omega), List.getElem?_drop]
      congr 1
      omega
theorem setM_full (b : List Int) (o n : Nat) (h : o + n ≤ b.length) : setM b o n 255 = layI b o (List.replicate n 255) := by
  have h1 : ((b.drop o).take n).map (fun x => bor x 255) = List.replicate n 255 := by
    apply List.ext_getElem?
    intro i
    rw [List.getElem?_map, List.getElem?_replicate, List.getElem?_take, List.getElem?_drop]
    split
    · rw [List.getElem?_eq_getElem (by omega)]
      simp [bor_full]
    · rfl
  rw [setM, h1, layI, List.length_replicate]
theorem writeM_live : ∀ (p : Pw) (os xs : List Int), live p → os.length = xs.length → ∃ q, writeM p os xs = (true, xs, q) ∧ live q
  | p, [], [], hp, _ => ⟨p, rfl, hp⟩
  | p, [], x :: xs, hp, h => by simp at h
  | p, o :: os, [], hp, h => by simp at h
  | p, o :: os, x :: xs, hp, h => by
    obtain ⟨q, h1, h2⟩ := live_step hp
    obtain ⟨r, h3, h4⟩ := writeM_live q os xs h2 (by simpa using h)
    exact ⟨r, by rw [writeM, h1]; simp only [h3], h4⟩
/-- So many bytes are clean, from somewhere on. -/
def clean (b : List Int) (o n : Nat) : Prop := ∀ i, o ≤ i → i < o + n → b[i]? = some 255
theorem clean.mono {b : List Int} {o n o' n' : Nat} (h : clean b o n) (h1 : o ≤ o') (h2 : o' + n' ≤ o + n) : clean b o' n' := fun i h3 h4 => h i (by omega) (by omega)
theorem prog_live {c : Cp} (hp : live c.p) {o : Nat} {xs : List Int} (ho : o + xs.length ≤ c.b.length) (hc : clean c.b o xs.length) : ∃ q, progM c o xs = (0, { c with p := q, b := layI c.b o xs }) ∧ live q := by
  have hl : ((c.b.drop o).take xs.length).length = xs.length := by simp; omega
  obtain ⟨q, h1, h2⟩ := writeM_live c.p _ xs hp hl
  have hfit : fitsM (c.b.drop o) xs = true := fitsM_yes _ _ fun i h3 h4 => by
    rw [List.getElem_drop]
    have := hc (o + i) (by omega) (by omega)
    rw [List.getElem?_eq_getElem (by omega)] at this
    rw [Option.some.inj this, bandn_full]
  exact ⟨q, by rw [progM, if_pos hfit, h1]; rfl, h2⟩
theorem layI_app (b : List Int) (o : Nat) (xs ys : List Int) (h : o + xs.length + ys.length ≤ b.length) : layI (layI b o xs) (o + xs.length) ys = layI b o (xs ++ ys) := by
  have hl := layI_len b o xs (by omega)
  apply List.ext_getElem?
  intro i
  rw [layI_get _ _ _ (by omega), layI_get _ _ _ (by omega), layI_get _ _ _ (by simp; omega)]
  simp only [List.length_append]
  by_cases h1 : i < o
  · simp [h1, show i < o + xs.length by omega]
  · by_cases h2 : i < o + xs.length
    · simp [h1, h2, show i < o + (xs.length + ys.length) by omega, List.getElem?_append_left (show i - o < xs.length by omega)]
    · by_cases h3 : i < o + xs.length + ys.length
      · simp only [if_neg h1, if_neg h2, if_pos h3, if_pos (show i < o + (xs.length + ys.length) by omega)]
        rw [List.getElem?_append_right (by omega)]
        congr 1
        omega
      · simp only [if_neg h1, if_neg h2, if_neg h3, if_neg (show ¬ i < o + (xs.length + ys.length) by omega)]
/-- A record: its body, and its flag. -/
def recB (l : List Int) : List Int := bodyB l ++ [0]
theorem recB_length (l : List Int) : (recB l).length = l.length + 7 := by rw [recB, List.length_append, bodyB_length]; simp; omega
theorem append_live {c : Cp} (hf : c.fit) (hp : live c.p) {h o : Nat} (hh : h < 2) {l : List Int} (hr : o + (l.length + 7) ≤ halfSz c) (hc : clean c.b (h * halfSz c + o) (l.length + 7)) : ∃ q, appendM c h o l = (0, { c with p := q, b := layI c.b (h * halfSz c + o) (recB l) }) ∧ live q := by
  obtain ⟨h2, _, h3⟩ := half_two hf
  have hm : h * halfSz c ≤ 1 * halfSz c := Nat.mul_le_mul_right _ (by omega)
  have hB := bodyB_length l
  obtain ⟨q, h4, h5⟩ := prog_live hp (o := h * halfSz c + o) (xs := bodyB l) (by omega) (hc.mono (Nat.le_refl _) (by omega))
  have hl := layI_len c.b (h * halfSz c + o) (bodyB l) (by omega)
  have hc2 : clean (layI c.b (h * halfSz c + o) (bodyB l)) (h * halfSz c + o + (6 + l.length)) 1 := fun i h6 h7 => by
    rw [layI_get _ _ _ (by omega), if_neg (by omega), if_neg (by omega)]
    exact hc i (by omega) (by omega)
  obtain ⟨r, h8, h9⟩ := prog_live (c := { c with p := q, b := layI c.b (h * halfSz c + o) (bodyB l) }) h5 (o := h * halfSz c + o + (6 + l.length)) (xs := [0]) (by simp only [hl]; simp; omega) hc2
  refine ⟨r, ?_, h9⟩
  rw [appendM, if_neg (by omega), h4, if_neg (by simp)]
  rw [h8]
  simp only [recB]
  rw [← hB, layI_app _ _ _ _ (by simp; omega)]
/-- A sector is erased once more. -/
def erM (er : List (Int × Int)) (i : Nat) : List (Int × Int) := Mx.mput er i (IntKind.i64.wrap ((Mx.mget er i).getD 0 + 1))
def erN (er : List (Int × Int)) (base : Nat) : Nat → List (Int × Int)
  | 0 => er
  | k + 1 => erN (erM er (base + k)) base k
theorem erase_live {c : Cp} (hf : c.fit) (hp : live c.p) {i : Nat} (hi : (i : Int) < c.g.sectors) : ∃ q, eraseM c i = (0, { c with p := q, b := layI c.b (i * c.g.sector.toNat) (List.replicate c.g.sector.toNat 255), er := erM c.er i }) ∧ live q := by
  obtain ⟨q, h1, h2⟩ := live_step hp
  refine ⟨q, ?_, h2⟩
  rw [eraseM, h1]
  simp only
  rw [setM_full _ _ _ (sec_le hf hi)]
  rfl
theorem layI_twice (b : List Int) (o n k : Nat) (h : o + n + k ≤ b.length) : layI (layI b (o + n) (List.replicate k 255)) o (List.replicate n 255) = layI b o (List.replicate (n + k) 255) := by
  have hl := layI_len b (o + n) (List.replicate k 255) (by simp; omega)
  apply List.ext_getElem?
  intro i
  rw [layI_get _ _ _ (by simp; omega), layI_get _ _ _ (by simp; omega), layI_get _ _ _ (by simp; omega)]
  simp only [List.length_replicate, List.getElem?_replicate]
  by_cases h1 : i < o
  · simp [h1, show i < o + n by omega]
  · by_cases h2 : i < o + n
    · simp [h1, h2, show i < o + (n + k) by omega, show i - o < n by omega, show i - o < n + k by omega]
    · by_cases h3 : i < o + n + k
      · simp [h1, h2, h3, show i < o + (n + k) by omega, show i - (o + n) < k by omega, show i - o < n + k by omega]
      · simp [h1, h2, h3, show ¬ i < o + (n + k) by omega]
theorem wipeN_live {base : Nat} : ∀ (k : Nat) {c : Cp}, c.fit → live c.p → ((base + k : Nat) : Int) ≤ c.g.sectors → ∃ q, wipeN c base k = (0, { c with p := q, b := layI c.b (base * c.g.sector.toNat) (List.replicate (k * c.g.sector.toNat) 255), er := erN c.er base k }) ∧ live q
  | 0, c, hf, hp, hb => ⟨c.p, by simp [wipeN, layI, erN], hp⟩
  | k + 1, c, hf, hp, hb => by
    obtain ⟨q, h1, h2⟩ := erase_live hf hp (i := base + k) (by omega)
    have he := erase_same hf (i := base + k) (by omega)
    have hs := sec_le hf (i := base + k) (by omega)
    rw [h1] at he
    obtain ⟨r, h3, h4⟩ := wipeN_live (base := base) k he.2 h2 (by simp only; omega)
    refine ⟨r, ?_, h4⟩
    rw [wipeN, h1, if_neg (by simp), h3]
    simp only [erN]
    rw [show (base + k) * c.g.sector.toNat = base * c.g.sector.toNat + k * c.g.sector.toNat from Nat.add_mul _ _ _] at hs ⊢
    rw [layI_twice _ _ _ _ (by omega), show k * c.g.sector.toNat + c.g.sector.toNat = (k + 1) * c.g.sector.toNat from (Nat.succ_mul _ _).symm]
theorem wipe_live {c : Cp} (hf : c.fit) (hp : live c.p) {h : Nat} (hh : h < 2) : ∃ q, wipeM c h = (0, { c with p := q, b := layI c.b (h * halfSz c) (List.replicate (halfSz c) 255), er := erN c.er (h * halfN c) (halfN c) }) ∧ live q := by
  obtain ⟨q0, ⟨q1, q2⟩, _⟩ := id hf.right
  have h1 : 2 * (halfN c : Int) ≤ c.g.sectors := by unfold halfN; omega
  have h2 : h * halfN c ≤ 1 * halfN c := Nat.mul_le_mul_right _ (by omega)
  obtain ⟨q, h3, h4⟩ := wipeN_live (base := h * halfN c) (halfN c) hf hp (by omega)
  refine ⟨q, ?_, h4⟩
  rw [wipeM, h3]
  simp only [halfSz, Nat.mul_assoc]
end Go.Proofs.YtbbaoeidobdblaaGreat.Sx

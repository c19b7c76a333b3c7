/- Sx, part 10: s[:h:m], appending to what has no room, and structs held against each other. -/
import Derived.Test.YtfmkpkmhhlakoaaSxi
import Derived.Laws.StructEq
set_option linter.unusedVariables false
set_option linter.unusedSimpArgs false
namespace Go.Proofs.Ytfmkpkmhhlakoaa.Sx
open Go

theorem sb3_run {P : Program} {n c : Nat} {kh km : IntKind} {H M : Int} (h0 : 0 ≤ H) (h1 : H ≤ M) (h2 : M ≤ c) (w : World) :
    (Instr.sliceBounds true n c none (some (.int kh H)) (some (.int km M))).run P w = .ok (0, H.toNat, M.toNat) w := by
  unfold Instr.sliceBounds
  have hM : 0 ≤ M := by omega
  have hH : H ≤ (M.toNat : Int) := by omega
  have a1 := fun code w => sb_run (P := P) (k := km) (code := code) hM h2 w
  have a2 := fun code w => sb_run (P := P) (k := kh) (code := code) h0 hH w
  simp [a1, a2]
section
variable {P : Program} {C : Ctx} {T : Ty} {res : List ResultVar} {p : Pos} {tm : Tm} {m : Mem}
/-- s[:h:m]. -/
theorem slc3 (ok : Okc P T C res) {o : Oper} {t d : Nat} {x oh om : Operand} (ho : o.op = .slice t x none (some oh) (some om)) (hd : o.dst = some d) {i ie : TI} (hi : tf t T = some i) (hik : i.kd = 3) (hie : tf i.el T = some ie)
    {a : Option Addr} {n c : Nat} {u : SV} {kh km : IntKind} {H M : Int} (hx : ev tm x = some u) (hu : u.val = .slice a n c) (hh : ev tm oh = some (.c (.v (.int kh H)))) (hm : ev tm om = some (.c (.v (.int km M)))) (h0 : 0 ≤ H) (h1 : H ≤ M) (h2 : M ≤ c)
    (kk : sx T C res 1000 p (put C.n (some d) (.c (.v (.slice a H.toNat M.toNat))) tm) m) : At C (.op o p) tm m := by
  intro act w cs0 hR hJ
  have e1 : act.eval x = .slice a n c := by rw [hR.eval hx, hu]
  have e2 : act.eval oh = .int kh H := hR.eval hh
  have e3 : act.eval om = .int km M := hR.eval hm
  have hu2 := (ok.ty.get hi).g_slice hik
  have hz := (ok.ty.get hie).g_sizeOf (P := C.P)
  have hb := fun w => sb3_run (P := C.P) (n := n) (c := c) (kh := kh) (km := km) h0 h1 h2 w
  have hrun : (execOp act.eval o).run C.P w = .ok (.value (.slice a H.toNat M.toNat)) w := by
    simp [execOp, ho, e1, e2, e3, Instr.sliceAt, run_underlying hu2, Instr.slice, hb, hz]
    intro _
    cases a <;> simp [Addr.add]
  have hRp := hR.put (some d) (.c (.v (.slice a H.toNat M.toNat)))
  exact op_value (ok.sx kk) hrun (by rw [hd]; exact hRp) hJ
/-- What has no room left, and is in memory that nobody changes, is appended to: a new row (k). -/
theorem appC (ok : Okc P T C res) (k k' : Nat) {o : Oper} {s x : Operand} {t d : Nat} (ho : o.op = .call ⟨.builtin .append, #[s, x], #[t, t]⟩) (hd : o.dst = some d) {i ie : TI} (hi : tf t T = some i) (hik : i.kd = 3) (hie : tf i.el T = some ie) (h0 : 0 < ie.sz) (hzl : ie.zero.length = ie.sz)
    {b off n c g m' c' : Nat} {cs' : List CV} {u v : SV} (hnk : look k m.rs = some (.row none 0 0 i.el ie.sz [])) (hs : ev tm s = some u) (hu : u.val = .slice (some ⟨b, off, none⟩) n c) (hk' : look k' m.rs = some (.row (some ⟨g, 0, none⟩) m' c' i.el ie.sz cs')) (hx : ev tm x = some v) (hv : v.val = .slice (some ⟨g, 0, none⟩) m' c')
    (hm : 0 < m') (hfull : c < n + m') (hb : (n + m') * ie.bt ≤ 140737488355328) (hmx : n + m' ≤ 140737488355328) (Q : List Value → World → Prop)
    (h : ∀ W, m.G W → ∃ l, l.length = n * ie.sz ∧ (∀ u ∈ l, u.oneCell' = true) ∧ (∀ j v, l[j]? = some v → W.cell? ⟨b, off + j, none⟩ = some v) ∧ Q l W)
    (kk : ∀ l g' c'' W, Q l W → m.G W → sx T C res 1000 p (put C.n (some d) (.c (.rw k (some ⟨g', 0, none⟩) (n + m') c'')) tm) ⟨m.B, fun W => Q l W ∧ m.G W, (k, .row (some ⟨g', 0, none⟩) (n + m') c'' i.el ie.sz (l.map nv ++ cs')) :: del k (del k m.rs)⟩) : At C (.op o p) tm m := by
  rintro act w cs0 hR ⟨I, F, hJ⟩
  have hw : m.G w := hJ.know w (Ext.refl _ _)
  obtain ⟨l, hl, h1, hc, hq⟩ := h w hw
  have hq' : ∀ W, Ext I w W → Q l W := fun W e => by
    obtain ⟨l2, hl2, _, hc2, hq2⟩ := h W (hJ.know W e)
    have : l2 = l := by
      apply List.ext_getElem?
      intro j
      rcases Nat.lt_or_ge j (n * ie.sz) with hj | hj
      · have e1 : l2[j]? = some (l2[j]'(by omega)) := List.getElem?_eq_getElem _
        have e2 : l[j]? = some (l[j]'(by omega)) := List.getElem?_eq_getElem _
        have hst : I b := stays (w := w) (ad := ⟨b, off + j, none⟩) fun W' e' => by
          obtain ⟨l3, hl3, _, hc3, _⟩ := h W' (hJ.know W' e')
          exact ⟨_, hc3 j _ (List.getElem?_eq_getElem (by omega))⟩
        have e3 := e.cell (a := ⟨b, off + j, none⟩) hst
        rw [hc j _ e2, hc2 j _ e1] at e3
        rw [e1, e2, e3]
      · rw [List.getElem?_eq_none (by omega), List.getElem?_eq_none (by omega)]
    subst this
    exact hq2
  have o2 := hJ.own _ (look_mem hk')
  have o1 := hJ.own _ (look_mem hnk)
  have hcl : cs'.length = m' * ie.sz := by simpa using o2.2.1
  have he := ok.ty.get hie
  have hu2 := (ok.ty.get hi).g_slice hik
  obtain ⟨ii, hii, hsz, hbt, z, hz, hzc⟩ := he.g_some
  have hzs : z.cells.size = ie.sz := by rw [← Array.length_toList, hzc, hzl]
  have hml : n + m' ≤ maxLen := by unfold maxLen; omega
  have hnl : (cs'.map CV.val).length = m' * ie.sz := by simpa using hcl
  have hr := run_append_grow (P := C.P) w t o.type i.el ii z hu2 hii hz ⟨b, off, none⟩ n c l (by rw [hsz]; exact hl) (fun j z hz => by rw [addr_add]; exact hc j z hz) ⟨g, 0, none⟩ m' c' (cs'.map CV.val) (by rw [hsz]; exact hnl) (fun j z hz => by
    rw [addr_add, Nat.zero_add]
    have hj : j < cs'.length := by have := (List.getElem?_eq_some_iff.1 hz).1; simpa using this
    rw [holds_cells o2 (g := g) (cs := cs') rfl j hj]
    simp only [List.getElem?_map] at hz
    simp only [List.getD, List.getElem?_eq_getElem hj, Option.map_some, Option.some.injEq] at hz ⊢
    rw [← hz]
    rfl) hfull (by omega) (growslice_fits (by omega) (by rw [hbt]; exact hb))
  have hge := grownCap_ge w (n + m') c i.el
  have hcm : grownCap w (n + m') c i.el ≤ maxLen := grownCap_le_maxLen w (n + m') c i.el hml
  have hlen : (l ++ cs'.map CV.val).length = (n + m') * ie.sz := by rw [List.length_append, hl, hnl, Nat.add_mul]
  have e1 : act.eval s = .slice (some ⟨b, off, none⟩) n c := by rw [hR.eval hs, hu]
  have e2 : act.eval x = .slice (some ⟨g, 0, none⟩) m' c' := by rw [hR.eval hx, hv]
  have hlv : (l.map nv).map CV.val = l := by simp [Function.comp_def, nv_val]
  have hown : (w.drew.alloc (.cells (l.toArray ++ (cs'.map CV.val).toArray ++ Builtin.zeroCells z.cells (grownCap w (n + m') c i.el - (n + m'))) i.el)).ownsRow 0 i.el ie.sz (.slice (some ⟨w.heap.size, 0, none⟩) (n + m') (grownCap w (n + m') c i.el)) (n + m') (l ++ cs'.map CV.val) := by
    refine ⟨hlen, .inr ⟨w.heap.size, _, _, rfl, Nat.zero_le _, heap_alloc_new w.drew _, hge, hcm, ?_, ?_⟩⟩
    · simp only [Array.size_append, List.size_toArray, size_zeroCells, hzs, hl, hnl, ← Nat.add_mul]
      congr 1
      omega
    · simp only [Array.toList_append, List.append_assoc]
      rw [← List.append_assoc, ← hlen]
      exact List.take_left
  have hrun : (execOp act.eval o).run C.P w = .ok (.value (.slice (some ⟨w.heap.size, 0, none⟩) (n + m') (grownCap w (n + m') c i.el))) (w.drew.alloc (.cells (l.toArray ++ (cs'.map CV.val).toArray ++ Builtin.zeroCells z.cells (grownCap w (n + m') c i.el - (n + m'))) i.el)) := by
    simp [execOp, ho, resolve, invoke, builtin, e1, e2, hr]
  have hext : Ext (fun b => b < w.heap.size ∧ ¬ noS b) w (w.drew.alloc (.cells (l.toArray ++ (cs'.map CV.val).toArray ++ Builtin.zeroCells z.cells (grownCap w (n + m') c i.el - (n + m'))) i.el)) := (Ext.drew _ w).trans (Ext.alloc _ w.drew _ fun b hb => hb.1) fun _ hx => hx
  have hup := hJ.upd k k (.row (some ⟨w.heap.size, 0, none⟩) (n + m') (grownCap w (n + m') c i.el) i.el ie.sz (l.map nv ++ cs')) noS (fun b => b = w.heap.size) (fun b hb => hb.elim) hext ⟨fun b => by simp [Value.ownBlock]; exact ⟨fun h => h.symm, fun h => h.symm⟩, by rw [List.map_append, hlv]; exact hown⟩ (fun b hb => by subst hb; exact ⟨by simp, .inr (Nat.le_refl _)⟩) id
  have hRp := hR.put (some d) (.c (.rw k (some ⟨w.heap.size, 0, none⟩) (n + m') (grownCap w (n + m') c i.el)))
  have hI : Ext I w (w.drew.alloc (.cells (l.toArray ++ (cs'.map CV.val).toArray ++ Builtin.zeroCells z.cells (grownCap w (n + m') c i.el - (n + m'))) i.el)) := hext.mono fun b hb => ⟨hJ.Isz b hb, fun e => e⟩
  exact op_value (ok.sx (kk l w.heap.size _ w hq hw)) hrun (by rw [hd]; exact hRp) ⟨I, _, hup.learn fun W e => hq' W (hI.trans e fun _ hx => hx)⟩
/-- Two values are held against each other, by whatever law. -/
theorem binA (ok : Okc P T C res) {o : Oper} {op : BinOp} {t d ty : Nat} {x y : Operand} (ho : o.op = .binOp op t x y ty) (hd : o.dst = some d) {u v : SV} (hx : ev tm x = some u) (hy : ev tm y = some v) (b : Bool)
    (h : ∀ w, (do eqGuard op t x y u.val v.val; binOp op t u.val v.val : Sem Value).run P w = .ok (.bool b) w)
    (kk : sx T C res 1000 p (put C.n (some d) (.c (.b b)) tm) m) : At C (.op o p) tm m := by
  obtain rfl := ok.P
  intro act w cs0 hR hJ
  have e1 := hR.eval hx
  have e2 := hR.eval hy
  have hrun : (execOp act.eval o).run C.P w = .ok (.value (.bool b)) w := by
    have := h w
    simp only [execOp, ho, e1, e2]
    simp only [Sem.run_bind] at this ⊢
    rw [this]
    rfl
  have hRp := hR.put (some d) (.c (.b b))
  exact op_value (ok.sx kk) hrun (by rw [hd]; exact hRp) hJ
end
end Go.Proofs.Ytfmkpkmhhlakoaa.Sx

/- Laid together: Sxq, Sk64, Sk65, Sk66, Sxr, Sk67, Sk68, Sk69, Sk70, JournalRoom. -/
import Derived.Test.YtbbaoeidobdblaaGreatK2
import Derived.Lib.AppendStr
import Derived.Test.YtbbaoeidobdblaaGreatRows
/- Sx, part 17: bytes that nobody changes are copied into a row of one's own; what reads goes on reading. -/
set_option linter.unusedVariables false
set_option linter.unusedSimpArgs false
namespace Go.Proofs.YtbbaoeidobdblaaGreat.Sx
open Go

section
variable {P : Program} {C : Ctx} {T : Ty} {res : List ResultVar} {p : Pos} {tm : Tm} {m : Mem}
/-- Many ends have one road on, which hangs on something. -/
theorem cutKc {Goal : Prop} {p : Pos} {β : Type} (ok : Okc P T C res) (tm0 : β → Tm) (G0 : β → World → Prop) (rs0 : β → List (Nat × Res)) (rest : ∀ x, sx T C res 1000 p (tm0 x) ⟨fun _ => True, G0 x, rs0 x⟩) (main : (∀ x tm m, (∀ W, m.G W → G0 x W) → subs tm (tm0 x) ∧ keepB m.rs (rs0 x) → At C p tm m) → Goal) : Goal := main fun x => cutAt ok (tm0 x) (G0 x) (rs0 x) (rest x)
/-- Nothing is copied. -/
theorem copy0 (ok : Okc P T C res) {o : Oper} {d s : Operand} {dT sT : Nat} (ho : o.op = .call ⟨.builtin .copy, #[d, s], #[dT, sT]⟩) {i ie : TI} (hi : tf dT T = some i) (hik : i.kd = 3) (hie : tf i.el T = some ie)
    {da sa : Option Addr} {dLen dCap sCap : Nat} {u v : SV} (hd : ev tm d = some u) (hu : u.val = .slice da dLen dCap) (hs : ev tm s = some v) (hv : v.val = .slice sa 0 sCap)
    (kk : sx T C res 1000 p (put C.n o.dst (.c (.v (.int .i64 0))) tm) m) : At C (.op o p) tm m := by
  intro act w cs0 hR hJ
  have e1 : act.eval d = .slice da dLen dCap := by rw [hR.eval hd, hu]
  have e2 : act.eval s = .slice sa 0 sCap := by rw [hR.eval hs, hv]
  have hun := (ok.ty.get hi).g_slice hik
  have hz := (ok.ty.get hie).g_sizeOf (P := C.P)
  have hm : Nat.min 0 dLen = 0 := Nat.zero_min _
  have hr : (Builtin.copy_ #[dT, sT] o.type #[.slice da dLen dCap, .slice sa 0 sCap]).run C.P w = .ok (goInt 0) w := by
    cases sa with
    | none => cases da <;> simp [Builtin.copy_, run_underlying hun, Builtin.lenOf, Builtin.firstCells, hz, hm, storeCells]
    | some ad => cases da <;> simp [Builtin.copy_, run_underlying hun, Builtin.lenOf, Builtin.firstCells, hz, hm, loadCells, loadCellsFrom, storeCells]
  have hrun : (execOp act.eval o).run C.P w = .ok (.value (goInt 0)) w := by
    simp [execOp, ho, resolve, invoke, builtin, e1, e2, hr]
  have hRp := hR.put o.dst (.c (.v (.int .i64 0)))
  exact op_value (ok.sx kk) hrun hRp hJ
/-- Bytes that nobody changes are copied into a row of one's own. -/
theorem copyM (ok : Okc P T C res) (k : Nat) {o : Oper} {d s : Operand} {dT sT : Nat} (ho : o.op = .call ⟨.builtin .copy, #[d, s], #[dT, sT]⟩) {i ie : TI} (hi : tf dT T = some i) (hik : i.kd = 3) (hie : tf i.el T = some ie) (hsz1 : ie.sz = 1)
    {g n c off dLen dCap sLen sCap : Nat} {a : Option Addr} {cs : List CV} {u v : SV} (hk : look k m.rs = some (.row (some ⟨g, 0, none⟩) n c i.el 1 cs))
    (hd : ev tm d = some u) (hu : u.val = .slice (some ⟨g, off, none⟩) dLen dCap) (hs : ev tm s = some v) (hv : v.val = .slice a sLen sCap) (l : List Int) (hl : ∀ W, m.G W → Sv.ok dByte W (a, sLen, sCap) l) (hpos : 0 < l.length)
    (hf : off + Nat.min sLen dLen ≤ n)
    (kk : sx T C res 1000 p (put C.n o.dst (.c (.v (.int .i64 (Nat.min sLen dLen)))) tm) ⟨m.B, m.G, (k, .row (some ⟨g, 0, none⟩) n c i.el 1 (lay cs off (bC (l.take (Nat.min sLen dLen))))) :: del k (del k m.rs)⟩) : At C (.op o p) tm m := by
  intro act w cs0 hR hJ
  obtain ⟨cur, hg, hnc, hsz, htk, hcl⟩ := hJ.rowAt hk
  have hok := hl w hJ.atG
  obtain rfl : sLen = l.length := hok.1
  obtain ⟨b, so, e, hc⟩ := bytes_cells hok hpos
  cases e
  have e1 : act.eval d = .slice (some ⟨g, off, none⟩) dLen dCap := by rw [hR.eval hd, hu]
  have e2 : act.eval s = .slice (some ⟨b, so, none⟩) l.length sCap := by rw [hR.eval hs, hv]
  obtain ⟨K, hK⟩ : ∃ K, K = Nat.min l.length dLen := ⟨_, rfl⟩
  have hKl : K ≤ l.length := by rw [hK]; exact Nat.min_le_left _ _
  rw [← hK] at hf kk
  have hsl : ((bC (l.take K)).map CV.val).length = K := by rw [List.length_map, bC_len, List.length_take, Nat.min_eq_left hKl]
  have hr := copyRun (P := C.P) w dT sT o.type i.el (ie := ie) g off dLen dCap (some ⟨b, so, none⟩) l.length sCap cur _ ((bC (l.take K)).map CV.val) ((ok.ty.get hi).g_slice hik) (ok.ty.get hie) hg (by rw [hsl, hK, hsz1, Nat.mul_one]) (fun j v hv => ⟨b, so, rfl, by
    have hj : j < K := by have := (List.getElem?_eq_some_iff.1 hv).1; rwa [hsl] at this
    rw [hc j (by omega)]
    rw [bC_val, List.getElem?_map, List.getElem?_take, if_pos hj, List.getElem?_eq_getElem (show j < l.length by omega)] at hv
    simp only [Option.map_some, Option.some.injEq] at hv
    rw [← hv, List.getD_eq_getElem?_getD, List.getElem?_eq_getElem (by omega)]
    rfl⟩) ⟨_, _, rfl⟩ (by rw [hsl, hsz]; omega) (ones_cells (ones_bC _))
  rw [← hK, hsl] at hr
  have hrun : (execOp act.eval o).run C.P w = .ok (.value (goInt K)) (w.setRow g (cur.toList.take off ++ (bC (l.take K)).map CV.val ++ cur.toList.drop (off + K)).toArray) := by
    simp [execOp, ho, resolve, invoke, builtin, e1, e2, hr]
  have hRp := hR.put o.dst (.c (.v (.int .i64 K)))
  have hbl : (bC (l.take K)).length = K := by rw [← List.length_map (f := CV.val), hsl]
  refine op_value (ok.sx kk) hrun hRp (hJ.setRow k hk hg ?_ hnc ?_ ?_)
  · simp only [List.size_toArray, List.length_append, List.length_take, List.length_drop, Array.length_toList, hsl]
    omega
  · rw [lay_len _ _ _ (by rw [hbl]; omega), hcl]
  · have e3 : cs.map CV.val = cur.toList.take (n * 1) := htk.symm
    simp only [lay, List.map_append, List.map_take, List.map_drop, e3, hbl]
    simp only [List.append_assoc]
    rw [List.take_append, List.length_take, Array.length_toList, Nat.min_eq_left (by omega), List.take_take, Nat.min_eq_right (by omega), List.take_take, Nat.min_eq_left (by omega)]
    congr 1
    rw [List.take_append, hsl, List.take_of_length_le (by rw [hsl]; omega)]
    congr 1
    rw [List.drop_take]
    congr 1
    omega
end
/-- What is there stays there. -/
theorem cell_keep {w W : World} (h : Ext (fun b => b < w.heap.size) w W) {a : Addr} {v : Value} (hc : w.cell? a = some v) : W.cell? a = some v := by
  have hb : a.block < w.heap.size := by
    rcases Nat.lt_or_ge a.block w.heap.size with hb | hb
    · exact hb
    · simp only [World.cell?, Array.getElem?_eq_none hb] at hc
      simp at hc
  rw [h.cell hb, hc]
def Keeps {α : Type} (d : Dt α) : Prop := ∀ {w W : World} {x : α} {cs : List Value}, Ext (fun b => b < w.heap.size) w W → d.K w x cs → d.K W x cs
theorem rd_keep {α : Type} {d : Dt α} (hd : Keeps d) {w W : World} (h : Ext (fun b => b < w.heap.size) w W) {a : Option Addr} {xs : List α} (hr : Rd d w a xs) : Rd d W a xs := fun hne => by
  obtain ⟨b, o, e, hc⟩ := hr hne
  exact ⟨b, o, e, fun i x hx => by
    obtain ⟨cs, k1, k2⟩ := hc i x hx
    exact ⟨cs, hd h k1, fun j v hv => cell_keep h (k2 j v hv)⟩⟩
theorem sl_keep {α : Type} {d : Dt α} (hd : Keeps d) {w W : World} (h : Ext (fun b => b < w.heap.size) w W) {s : Sl} {xs : List α} (hr : Sl.ok d w s xs) : Sl.ok d W s xs := ⟨hr.1, hr.2.1, rd_keep hd h hr.2.2⟩
theorem keepByte : Keeps dByte := fun _ h => h
theorem keepInt : Keeps dInt := fun _ h => h
theorem keepEnt : Keeps dEnt := fun _ h => h
theorem keepRn : Keeps dRn := fun _ h => h
theorem keepIno : Keeps dIno := fun h k => by
  obtain ⟨e, r, hc, h1, h2⟩ := k
  exact ⟨e, r, hc, sl_keep keepEnt h h1, sl_keep keepRn h h2⟩
theorem keepDee : Keeps dDee := fun h k => by
  obtain ⟨e, r, hc, h1, h2⟩ := k
  exact ⟨e, r, hc, sl_keep keepEnt h h1, sl_keep keepRn h h2⟩
end Go.Proofs.YtbbaoeidobdblaaGreat.Sx

/- garretlaw17: few, clean; nor.Chip.Load. -/
set_option linter.unusedVariables false
set_option linter.unusedSimpArgs false
namespace Go.Proofs.YtbbaoeidobdblaaGreat.Sx
open Go

attribute [local simp ↓] ifb_true' ifb_false'
attribute [local simp] ifb_true ifb_false ifb_eq sx argsT find ev evOp evs evo evBin evInt evStr evNil evNilA ptrA slcA isNoneA asB evLoad look del cellsB evUn evConv kdec fld evFieldA evField evIdxA evIdx evSlc bndL bndH evLen mmi put resV guardV gvL setO tupV cellsOf ones one upd lits nv exitTo SV.val CV.val TI.agg rdyA allR keepB scan simpO gsp isS subs keepT pickT wr memN pubs Res.fact Region.binds bld rest give delL back Res.eqv vi vb num Sv.val undef
theorem dee_ino {W : World} {a : Option Addr} {n c : Nat} {l : List Dee} (h : Sv.ok dDee W (a, n, c) l) {i : Nat} (hi : i < l.length) : ∃ b o, a = some ⟨b, o, none⟩ ∧ ∃ cs : List Value, cs.length = 7 ∧ (∀ j v, cs[j]? = some v → W.cell? ⟨b, o + i * 9 + 2 + j, none⟩ = some v) ∧ ∃ e r, cs = inoC l[i].ino e r ∧ InoR W l[i].ino e r := by
  obtain ⟨b, o, e, cs, ⟨es, rs, rfl, hr⟩, hl, hc⟩ := rd_get1 h hi
  refine ⟨b, o, e, inoC l[i].ino es rs, rfl, fun j v hv => ?_, es, rs, rfl, hr⟩
  have := hc (2 + j) v (by rw [Nat.add_comm]; exact hv)
  rw [← Nat.add_assoc] at this
  exact this
theorem dee_at {W : World} {a : Option Addr} {n c : Nat} {l : List Dee} (h : Sv.ok dDee W (a, n, c) l) {i : Nat} (hi : i < l.length) : ∃ b o, a = some ⟨b, o, none⟩ ∧ W.cell? ⟨b, o + i * 9, none⟩ = some (.int .i64 l[i].kind) ∧ W.cell? ⟨b, o + i * 9 + 1, none⟩ = some (.int .i64 l[i].no) := by
  obtain ⟨b, o, e, cs, ⟨es, rs, rfl, hr⟩, hl, hc⟩ := rd_get1 h hi
  exact ⟨b, o, e, hc 0 _ rfl, hc 1 _ rfl⟩
theorem ent_name {W : World} {a : Option Addr} {n c : Nat} {l : List Ent} (h : Sv.ok dEnt W (a, n, c) l) {i : Nat} (hi : i < l.length) : ∃ b o, a = some ⟨b, o, none⟩ ∧ W.cell? ⟨b, o + i * 2, none⟩ = some (.string l[i].name) := by
  obtain ⟨b, o, e, cs, hk, hl, hc⟩ := rd_get1 h hi
  have hk : cs = [.string l[i].name, .int .i64 l[i].no] := hk
  subst hk
  exact ⟨b, o, e, hc 0 _ rfl⟩
set_option maxRecDepth 10000 in
set_option maxHeartbeats 2000000 in
theorem few0 (w : World) (I : Nat → Prop) (hI : ∀ b, I b → b < w.heap.size) {a : Option Addr} {n c : Nat} (l : List Dee) (h : ∀ W, Ext I w W → Sv.ok dDee W (a, n, c) l) :
    Fn0 Tryz.prog 24 #[.slice a n c] w I (fun b : Bool => .bool b) (fun _ _ => True) := by
  obtain rfl : n = l.length := (h w (Ext.refl _ _)).1
  have hl := (h w (Ext.refl _ _)).2.2.1
  refine enter (svs := [.c (.v (.slice a l.length c))]) tysOk Tryz.func24 rfl Tryz.ntmps24 Tryz.results24 (by kernel_rfl) (by simp) hI (fun W => Sv.ok dDee W (a, l.length, c) l) h fun C hC hN ok => ?_
  simp [hN]
  refine loopK [0] ok (fun y : Nat × Int => [(4, .c (.v (.int .i64 (y.1 : Nat)))), (3, .c (.v (.int .i64 y.2)))]) (fun _ => []) (fun y W => y.1 ≤ l.length) (fun y => l.length - y.1) (0, 0) ?_ ?_ (fun W hW => Nat.zero_le _) ?_
  · simp
  · simp
  rintro ⟨i, z⟩ W hi hG next
  simp only at hi
  rcases Nat.lt_or_ge i l.length with hlt | hge
  · have e6 : IntKind.i64.wrap ((i : Int) + 1) = (i + 1 : Nat) := by rw [w64 (by omega) (by omega)]; omega
    obtain ⟨b, o, e, _⟩ := dee_ino (show Sv.ok dDee W (a, l.length, c) l from hG) hlt
    cases e
    have hget : ∀ W, Sv.ok dDee W (some ⟨b, o, none⟩, l.length, c) l → ∃ cs : List Value, cs.length = 7 ∧ (∀ j v, cs[j]? = some v → W.cell? ⟨b, o + i * 9 + 2 + j, none⟩ = some v) ∧ ∃ e r, cs = inoC l[i].ino e r ∧ InoR W l[i].ino e r := fun W hW => by
      obtain ⟨b', o', e, hc⟩ := dee_ino hW hlt
      cases e
      exact hc
    generalize l[i].ino = x at hget
    simp [hN, hlt]
    refine loadA ok rfl rfl rfl rfl (fun q W => ∃ e r, q = inoC x e r ∧ InoR W x e r) (fun W hW => hget W hW.2) ?_
    rintro q W _ ⟨es, rs, rfl, hx⟩ _
    have hel := hx.1.2.1
    simp [hN]
    intro g5
    refine loopK [0, 4, 5] ok (fun y : Nat × Int => [(6, .c (.v (.int .i64 (y.1 : Nat)))), (3, .c (.v (.int .i64 y.2)))]) (fun _ => [(5, .box g5 44 ((inoC x es rs).map .v))]) (fun y W => y.1 ≤ x.ents.length ∧ InoR W x es rs) (fun y => x.ents.length - y.1) (0, IntKind.i64.wrap (IntKind.i64.wrap (IntKind.i64.wrap (z + 10) + x.target.size) + x.runs.length)) ?_ ?_ (fun W hW => ⟨Nat.zero_le _, ?_⟩) ?_
    · simp
    · simp
    · obtain ⟨⟨_, _, _, _, ⟨⟨rfl, rfl⟩, rfl, rfl⟩, k⟩, _⟩ := hW
      exact k
    rintro ⟨k, z2⟩ W ⟨hk, hx2⟩ hG2 next2
    simp only at hk
    rcases Nat.lt_or_ge k x.ents.length with hlt2 | hge2
    · have e7 : IntKind.i64.wrap ((k : Int) + 1) = (k + 1 : Nat) := by rw [w64 (by omega) (by omega)]; omega
      obtain ⟨b2, o2, e, _⟩ := ent_name (n := x.ents.length) (show Sv.ok dEnt W (es.1, x.ents.length, es.2) x.ents from ⟨rfl, hx2.1⟩) hlt2
      obtain ⟨ea, ec⟩ := es
      cases e
      have hnm : ∀ W, Sl.ok dEnt W (some ⟨b2, o2, none⟩, ec) x.ents → ∃ v, W.cell? ⟨b2, o2 + k * 2, none⟩ = some v ∧ v = .string x.ents[k].name := fun W hW => by
        obtain ⟨b', o', e, hc⟩ := ent_name (n := x.ents.length) (show Sv.ok dEnt W (some ⟨b2, o2, none⟩, x.ents.length, ec) x.ents from ⟨rfl, hW⟩) hlt2
        cases e
        exact ⟨_, hc, rfl⟩
      simp [hN, hlt2]
      refine load1 ok rfl rfl rfl rfl (fun v W => v = .string x.ents[k].name) (fun W hW => hnm W hW.1.2.1) ?_
      rintro v W rfl _
      simp [hN, e7]
      exact next2 (k + 1, IntKind.i64.wrap (IntKind.i64.wrap (z2 + 10) + x.ents[k].name.size)) _ _ (by simp only; omega) (fun W hW => ⟨⟨hlt2, hW.1.2⟩, hW.2⟩) (by simp)
    · simp [hN, Nat.not_lt.2 hge2, e6]
      exact next (i + 1, z2) _ _ (by simp only; omega) (fun W hW => ⟨hlt, hW.2.2.2⟩) (by simp)
  · simp [hN, Nat.not_lt.2 hge]
    exact ret0 hC _ rfl fun _ _ _ => trivial
/-- A deed of a kind that is, with what its kind has alone. -/
def cleanD (d : Dee) : Dee := if 1 + d.kind % 4 = 2 then ⟨2, 0, d.ino⟩ else ⟨1 + d.kind % 4, d.no, inoZ⟩
theorem clean_fit {d : Dee} (h : fitI d.no ∧ FitN d.ino) : FitD (cleanD d) := by
  unfold cleanD
  split
  · exact ⟨.inr (.inl rfl), fun e => absurd rfl e, fun _ => h.2⟩
  · rename_i hne
    refine ⟨?_, fun _ => h.1, fun e => absurd e hne⟩
    simp only
    omega
theorem nil_inoR (W : World) : InoR W inoZ (none, 0) (none, 0) := ⟨⟨Nat.zero_le _, Nat.zero_le _, rd_nil _ _ _⟩, ⟨Nat.zero_le _, Nat.zero_le _, rd_nil _ _ _⟩⟩
set_option maxRecDepth 10000 in
set_option maxHeartbeats 2000000 in
theorem clean0 (w : World) (I : Nat → Prop) (hI : ∀ b, I b → b < w.heap.size) {a : Option Addr} {n c : Nat} (l : List Dee) (hl1 : l.length ≤ 1000000000) (h : ∀ W, Ext I w W → Sv.ok dDee W (a, n, c) l) :
    Fn0 Tryz.prog 25 #[.slice a n c] w I (fun s : Sl => .slice s.1 l.length s.2) (fun s W => s.ok dDee W (l.map cleanD)) := by
  obtain rfl : n = l.length := (h w (Ext.refl _ _)).1
  refine enter (svs := [.c (.v (.slice a l.length c))]) tysOk Tryz.func25 rfl Tryz.ntmps25 Tryz.results25 (by kernel_rfl) (by simp) hI (fun W => Sv.ok dDee W (a, l.length, c) l) h fun C hC hN ok => ?_
  simp [hN]
  refine nilr 600 46 9 (loopK [0] ok (fun y : Nat × Sl × List CV => [(4, .c (.v (.int .i64 (y.1 : Nat)))), (3, .c (.rw 600 y.2.1.1 y.1 y.2.1.2))]) (fun y => [(600, .row y.2.1.1 y.1 y.2.1.2 46 9 y.2.2)]) (fun y W => y.1 ≤ l.length ∧ Rows dDee W ((l.map cleanD).take y.1) (y.2.2.map CV.val)) (fun y => l.length - y.1) (0, (none, 0), []) ?_ ?_ (fun W hW => ⟨Nat.zero_le _, rows_nil _ _⟩) ?_)
  · simp
  · simp
  rintro ⟨i, ⟨ra, rc⟩, cs⟩ W ⟨hi, hrow⟩ hG next
  simp only at hi
  rcases Nat.lt_or_ge i l.length with hlt | hge
  · have e6 : IntKind.i64.wrap ((i : Int) + 1) = (i + 1 : Nat) := by rw [w64 (by omega) (by omega)]; omega
    obtain ⟨b, o, e, _⟩ := dee_ino (show Sv.ok dDee W (a, l.length, c) l from hG) hlt
    cases e
    have hget : ∀ W, Sv.ok dDee W (some ⟨b, o, none⟩, l.length, c) l → ∃ cs : List Value, cs.length = 7 ∧ (∀ j v, cs[j]? = some v → W.cell? ⟨b, o + i * 9 + 2 + j, none⟩ = some v) ∧ ∃ e r, cs = inoC l[i].ino e r ∧ InoR W l[i].ino e r := fun W hW => by
      obtain ⟨b', o', e, hc⟩ := dee_ino hW hlt
      cases e
      exact hc
    have hnum : ∀ W, Sv.ok dDee W (some ⟨b, o, none⟩, l.length, c) l → (∃ v, W.cell? ⟨b, o + i * 9, none⟩ = some v ∧ v = .int .i64 l[i].kind) ∧ ∃ v, W.cell? ⟨b, o + i * 9 + 1, none⟩ = some v ∧ v = .int .i64 l[i].no := fun W hW => by
      obtain ⟨b', o', e, h1, h2⟩ := dee_at hW hlt
      cases e
      exact ⟨⟨_, h1, rfl⟩, ⟨_, h2, rfl⟩⟩
    have ht : (l.map cleanD).take (i + 1) = (l.map cleanD).take i ++ [cleanD l[i]] := by
      rw [List.take_add_one, List.getElem?_map, List.getElem?_eq_getElem hlt]
      rfl
    generalize l[i] = d at hget hnum ht
    obtain ⟨kd, no, x⟩ := d
    simp only at hget hnum
    have hu : IntKind.i64.wrap ((IntKind.u64.wrap kd).tmod 4) = kd % 4 := by
      rw [u64_wrap, Int.tmod_eq_emod_of_nonneg (by omega), w64 (by omega) (by omega)]
      omega
    have hu2 : IntKind.i64.wrap (1 + kd % 4) = 1 + kd % 4 := w64 (by omega) (by omega)
    simp [hN, hlt]
    refine load1 ok rfl rfl rfl rfl (fun v W => v = .int .i64 kd) (fun W hW => (hnum W hW.2).1) ?_
    rintro v W rfl _
    simp [hN, hu, hu2, hlt]
    intro g5
    refine ⟨fun h2 => ?_, fun h2 => ?_⟩
    · have hcl : cleanD ⟨kd, no, x⟩ = ⟨2, 0, x⟩ := by unfold cleanD; rw [if_pos h2]
      refine loadA ok rfl rfl rfl rfl (fun q W => ∃ e r, q = inoC x e r ∧ InoR W x e r) (fun W hW => hget W hW.2) ?_
      rintro q W _ ⟨es, rs, rfl, hx⟩ _
      simp [hN]
      intro g39
      refine appR ok 600 39 rfl rfl rfl rfl rfl (by decide) rfl rfl rfl rfl rfl rfl rfl (by decide) (by simp) (by show (_ + 1) * 112 ≤ _; omega) (by omega) fun g' c' => ?_
      simp [hN, e6]
      refine next (i + 1, (some ⟨g', 0, none⟩, c'), cs ++ (deeC ⟨1 + kd % 4, 0, x⟩ es rs).map .v) _ _ (by simp only; omega) (fun W hW => ⟨⟨hlt, ?_⟩, hW.2.2⟩) (by simp)
      simp only
      rw [ht, hcl, List.map_append]
      obtain ⟨⟨_, _, _, _, ⟨⟨rfl, rfl⟩, rfl, rfl⟩, k⟩, k2, _⟩ := hW
      exact k2.2.snoc ⟨es, rs, by rw [h2]; simp [Function.comp_def, CV.val], k⟩
    · have hcl : cleanD ⟨kd, no, x⟩ = ⟨1 + kd % 4, no, inoZ⟩ := by unfold cleanD; rw [if_neg h2]
      refine load1 ok rfl rfl rfl rfl (fun v W => v = .int .i64 no) (fun W hW => (hnum W hW.2).2) ?_
      rintro v W rfl _
      simp [hN]
      intro g39
      refine appR ok 600 39 rfl rfl rfl rfl rfl (by decide) rfl rfl rfl rfl rfl rfl rfl (by decide) (by simp) (by show (_ + 1) * 112 ≤ _; omega) (by omega) fun g' c' => ?_
      simp [hN, e6]
      refine next (i + 1, (some ⟨g', 0, none⟩, c'), cs ++ (deeC ⟨1 + kd % 4, no, inoZ⟩ (none, 0) (none, 0)).map .v) _ _ (by simp only; omega) (fun W hW => ⟨⟨hlt, ?_⟩, hW.2⟩) (by simp [inoZ])
      simp only
      rw [ht, hcl, List.map_append]
      exact hW.1.2.snoc ⟨(none, 0), (none, 0), by simp [Function.comp_def, CV.val], nil_inoR W⟩
  · obtain rfl : i = l.length := by omega
    simp [hN]
    refine ret0 hC (ra, rc) rfl fun W hp hG => ?_
    have h1 : Rows dDee W (l.map cleanD) (cs.map CV.val) := by
      have := hG.1
      rw [List.take_of_length_le (by simp)] at this
      exact this
    have := (Rows.sv h1 (by decide) (by rw [List.length_map]; omega) hp.1).2
    exact this
/-- A chip is given other bytes. -/
theorem load0 (w : World) (I S : Nat → Prop) (hI : ∀ b, I b → b < w.heap.size) (c : Cp) (xs : List Int) (g cap : Nat) (hf : c.fit) (hx : xs.length = c.b.length) (h0 : 0 < c.b.length) (hS : Owns (c.res ++ [.row (some ⟨g, 0, none⟩) xs.length cap 5 1 (bC xs)]) S w) (hSI : ∀ b, S b → b < w.heap.size ∧ ¬ I b) :
    FnS Tryz.prog 43 #[ptrV c.gc, .slice (some ⟨g, 0, none⟩) xs.length cap] w I S (fun _ : Unit => .int .i64 0) (fun _ => Cp.res { c with b := xs }) (fun _ _ => True) := by
  refine enterS (svs := [.c (.bp 1000 c.gc 0), .c (.rw 1004 (some ⟨g, 0, none⟩) xs.length cap)]) tysOk Tryz.func43 rfl Tryz.ntmps43 Tryz.results43 (by kernel_rfl) (by simp) hI (c.res ++ [.row (some ⟨g, 0, none⟩) xs.length cap 5 1 (bC xs)]) hS hSI (fun _ => True) (fun _ _ => trivial) fun C hC hN ok => ?_
  have hmin : Nat.min xs.length c.b.length = xs.length := by rw [hx]; exact Nat.min_self _
  simp [hN, hx]
  refine copyR ok 1002 1004 rfl rfl rfl rfl rfl rfl rfl rfl rfl rfl ?_ ?_ ?_ ?_
  · simp
  · simp [hx]
  · rw [bC_sub]
    exact ones_bC _
  · have hlay : lay (bC c.b) 0 (List.take c.b.length (bC xs)) = bC xs := by
      have e1 : List.take c.b.length (bC xs) = bC xs := List.take_of_length_le (by rw [bC_len, hx]; exact Nat.le_refl _)
      rw [e1]
      unfold lay
      rw [List.take_zero, List.nil_append, Nat.zero_add, List.drop_of_length_le (by rw [bC_len, bC_len, hx]; exact Nat.le_refl _), List.append_nil]
    simp [hN, hlay]
    exact retS hC () [1000, 1001, 1002, 1003] rfl (by simp [Cp.map, mapR, hx]) fun _ _ _ => trivial
end Go.Proofs.YtbbaoeidobdblaaGreat.Sx

/- garretlaw17.JournalNew. -/
set_option linter.unusedVariables false
set_option linter.unusedSimpArgs false
namespace Go.Proofs.YtbbaoeidobdblaaGreat.Sx
open Go

attribute [local simp ↓] ifb_true' ifb_false'
attribute [local simp] ifb_true ifb_false ifb_eq sx argsT find ev evOp evs evo evBin evInt evStr evNil evNilA ptrA slcA isNoneA asB evLoad look del cellsB evUn evConv kdec fld evFieldA evField evIdxA evIdx evSlc bndL bndH evLen mmi put resV guardV gvL setO tupV cellsOf ones one upd lits nv exitTo SV.val CV.val TI.agg rdyA allR keepB scan simpO gsp isS subs keepT pickT wr memN pubs Res.fact Region.binds bld rest give delL back Res.eqv vi vb num Sv.val undef
/-- The size of an inode that came in. -/
def szN (x : Ino) : Nat := x.target.size + sumN (x.ents.map fun e => e.name.size + 1) + x.runs.length
theorem wI_sz (x : Ino) : wI x ≤ 45 + 24 * szN x := by
  rw [wI_eq, fmB_len, fmB_len]
  have h1 : ∀ l : List Ent, sumN (l.map fun e => (entB e).length) ≤ 24 * sumN (l.map fun e => e.name.size + 1) := by
    intro l
    induction l with
    | nil => exact Nat.le_refl _
    | cons e r ih =>
      have he : (entB e).length = e.name.size + 12 := by rw [entB, List.length_append, textB_length, intB_length]
      simp only [List.map_cons, sumN_cons]
      rw [he]
      omega
  have h2 : ∀ l : List Rn, sumN (l.map fun e => (runB e).length) ≤ 24 * l.length := by
    intro l
    induction l with
    | nil => exact Nat.le_refl _
    | cons e r ih =>
      have he : (runB e).length = 24 := by rw [runB, List.length_append, List.length_append, intB_length, intB_length, intB_length]
      simp only [List.map_cons, sumN_cons, List.length_cons]
      rw [he]
      omega
  have := h1 x.ents
  have := h2 x.runs
  unfold szN
  omega
/-- Deeds that came in. -/
structure DeesIn (ds : List Dee) : Prop where
  fit : ∀ d ∈ ds, fitI d.kind ∧ fitI d.no ∧ FitN d.ino
  size : sumN (ds.map fun d => szN d.ino + 1) ≤ 1048576
theorem DeesIn.len {ds : List Dee} (h : DeesIn ds) : ds.length ≤ 1048576 := by
  have : ∀ l : List Dee, l.length ≤ sumN (l.map fun d => szN d.ino + 1) := by
    intro l
    induction l with
    | nil => exact Nat.le_refl _
    | cons e r ih => simp only [List.map_cons, sumN_cons, List.length_cons]; omega
  exact Nat.le_trans (this ds) h.size
theorem DeesIn.clean {ds : List Dee} (h : DeesIn ds) : FitL (ds.map cleanD) ∧ (deedsB (ds.map cleanD)).length ≤ 100000000 := by
  refine ⟨⟨fun d hd => ?_⟩, ?_⟩
  · obtain ⟨x, hx, rfl⟩ := List.mem_map.1 hd
    exact clean_fit (h.fit x hx).2
  · have : ∀ l : List Dee, (deedsB (l.map cleanD)).length ≤ 69 * sumN (l.map fun d => szN d.ino + 1) := by
      intro l
      induction l with
      | nil => exact Nat.zero_le _
      | cons e r ih =>
        have h1 : (deedB (cleanD e)).length ≤ 69 * (szN e.ino + 1) := by
          unfold cleanD
          split
          · rw [put_len rfl]
            have := wI_sz e.ino
            simp only
            omega
          · rw [num_len _ _ _ (by omega)]
            omega
        rw [deeds_len] at ih ⊢
        simp only [List.map_cons, sumN_cons]
        omega
    have := this ds
    have := h.size
    omega
set_option maxRecDepth 100000 in
set_option maxHeartbeats 2000000 in
theorem journalNewLaw0 (w : World) (g : Geo) {ba la : Option Addr} {bn bc ln lc : Nat} (bs : List Int) (ds : List Dee) (h : ∀ W, Ext (fun b => b < w.heap.size) w W → Sv.ok dByte W (ba, bn, bc) bs ∧ Sv.ok dDee W (la, ln, lc) ds) (hbb : isB bs) (hds : DeesIn ds) :
    Fn0 Tryz.prog 9 #[.agg (geoC g).toArray, .slice ba bn bc, .slice la ln lc] w (fun b => b < w.heap.size) (fun b : Bool => .bool b) (fun y W => y = true) := by
  have hI : ∀ b, b < w.heap.size → b < w.heap.size := fun b h => h
  have hbn : bn = bs.length := (h w (Ext.refl _ _)).1.1
  have hln : ln = ds.length := (h w (Ext.refl _ _)).2.1
  have hdl := hds.len
  refine enter (svs := [.ag ((geoC g).map .v), .c (.v (.slice ba bn bc)), .c (.v (.slice la ln lc))]) tysOk Tryz.func9 rfl Tryz.ntmps9 Tryz.results9 (by kernel_rfl) (by simp) hI (fun W => Sv.ok dByte W (ba, bn, bc) bs ∧ Sv.ok dDee W (la, ln, lc) ds) h fun C hC hN ok => ?_
  simp [hN]
  intro g3
  refine call0 ok rfl rfl rfl (fun w I hI hG => few0 w I hI (n := ln) ds (fun W e => (hG W e).2)) fun few W _ => ?_
  cases few with
  | false =>
    simp [hN]
    refine call0 ok rfl rfl rfl (fun w I hI hG => awake17 w I hI) fun _ W _ => ?_
    simp [hN]
    exact ret0 hC true rfl fun _ _ _ => rfl
  | true =>
  simp [hN]
  refine call0 ok rfl rfl rfl (fun w I hI hG => geometry0 w I hI g) fun y W _ => ?_
  have hgr := geoP_right g
  generalize geoP g = G at hgr
  obtain ⟨q0, ⟨q1, q2⟩, ⟨q3, q4⟩, ⟨q5, q6⟩, ⟨q7, q8⟩, ⟨q9, q10⟩⟩ := id hgr
  simp [hN]
  refine draw ok [(3, .box g3 23 ((geoC G).map .v))] (by rw [ok.P]; exact mixed) (by kernel_rfl) ?_
  simp (maxSteps := 2000000) -implicitDefEqProofs [hN]
  refine callS ok rfl rfl rfl [] [] trivial rfl (fun gp : Nat => [(1001, .box gp 108 (powB ⟨-1, 0, false, 0⟩ (.map none)))]) (fun w I S hI hG hO hS => (powNew0 w I hI).lone hO) (fun r => by simp) (.inl fun k hk => by cases hk) fun gp W _ => ?_
  simp (maxSteps := 2000000) -implicitDefEqProofs [hN]
  obtain ⟨nb, hnb, hnb0, hnb1⟩ : ∃ nb : Nat, G.sectors * G.sector = (nb : Nat) ∧ 0 < nb ∧ nb ≤ 100000 := by
    obtain ⟨a, ha⟩ : ∃ a : Nat, G.sectors = a := ⟨G.sectors.toNat, by omega⟩
    obtain ⟨b, hb⟩ : ∃ b : Nat, G.sector = b := ⟨G.sector.toNat, by omega⟩
    refine ⟨a * b, by rw [ha, hb]; simp, Nat.mul_pos (by omega) (by omega), ?_⟩
    have : a * b ≤ 16 * 4096 := Nat.mul_le_mul (by omega) (by omega)
    omega
  refine callS ok rfl rfl rfl [] [] trivial rfl (fun x : Nat × Nat × Nat × Nat => [(1000, (newCp G gp ⟨-1, 0, false, 0⟩ (.map none) x nb).chip), (1002, (newCp G gp ⟨-1, 0, false, 0⟩ (.map none) x nb).row), (1003, (newCp G gp ⟨-1, 0, false, 0⟩ (.map none) x nb).map)]) (fun w I S hI hG hO hS => (norNew0 w I hI G gp nb ⟨-1, 0, false, 0⟩ (.map none) hgr hnb hnb0 hnb1).lone hO) (fun r => by simp [Cp.map, mapR]) (.inl fun k hk => by cases hk) fun x W _ => ?_
  obtain ⟨c0, hc0⟩ : ∃ c0, c0 = newCp G gp ⟨-1, 0, false, 0⟩ (.map none) x nb := ⟨_, rfl⟩
  have hfit : c0.fit := by
    rw [hc0]
    exact ⟨hgr, by simp only [newCp, List.length_replicate]; exact hnb.symm, by simp [newCp], by simp [newCp]⟩
  have hlive : live c0.p := by rw [hc0]; exact ⟨(by decide : (-1 : Int) < 0), rfl⟩
  have hgc : c0.gc = x.1 := by rw [hc0]; rfl
  have hpw : (.box gp 108 (powB ⟨-1, 0, false, 0⟩ (.map none)) : Res) = c0.pow := by rw [hc0]; rfl
  have hG0 : c0.g = G := by rw [hc0]; rfl
  have her : c0.er = [] := by rw [hc0]; rfl
  rw [hpw]
  simp only [← hc0, ← hgc]
  clear hpw hc0
  simp (maxSteps := 2000000) -implicitDefEqProofs [hN]
  refine call0 ok rfl rfl rfl (fun w I hI hG => awake17 w I hI) fun _ W _ => ?_
  have enb : IntKind.i64.wrap ((nb : Nat) : Int) = (nb : Nat) := w64 (by omega) (by omega)
  simp [hN, hnb, enb]
  refine mksl ok rfl rfl rfl rfl rfl rfl rfl rfl rfl (by omega) (by show (1 : Int) * _ ≤ _; omega) (by omega) fun g39 => ?_
  simp [hN]
  have hzr : (List.replicate nb (CV.v (.int .u8 0))) = bC (List.replicate nb 0) := by simp [bC]
  rw [hzr]
  have hlb : c0.b.length = nb := by have := hfit.len; rw [hG0, hnb] at this; exact_mod_cast this
  refine cutKc ok (p := ?pos) (fun _ : {xs : List Int // xs.length = nb ∧ isB xs} => [(44, .c (.rw 39 (some ⟨g39, 0, none⟩) nb nb)), (43, .c (.v (ptrV c0.gc))), (7, .c (.v (ptrV c0.gc))), (3, .c (.bp 3 g3 0)), (2, .c (.v (.slice la ln lc)))]) (fun _ W => Sv.ok dDee W (la, ln, lc) ds) (fun xs => [(39, .row (some ⟨g39, 0, none⟩) nb nb 5 1 (bC xs.1)), (1000, c0.chip), (1002, c0.row), (1003, c0.map), (1001, c0.pow), (3, .box g3 23 ((geoC G).map .v))]) ?rest fun R => ?main
  case main =>
    rcases Nat.eq_zero_or_pos bs.length with h0 | hpos
    · obtain rfl : bn = 0 := by omega
      refine copy0 ok rfl rfl rfl rfl rfl rfl rfl rfl ?_
      simp [hN]
      refine R ⟨List.replicate nb 0, by simp, fun x hx => by rw [(List.mem_replicate.1 hx).2]; decide⟩ _ _ ?_ ?_
      · exact fun W hW => hW.2
      · simp [Cp.map, mapR]
    · refine copyM ok 39 rfl rfl rfl rfl rfl rfl rfl rfl rfl rfl bs (fun W hW => hW.1) hpos (by rw [Nat.zero_add]; exact Nat.min_le_right _ _) ?_
      obtain ⟨K, hK⟩ : ∃ K, K = Nat.min bn nb := ⟨_, rfl⟩
      have hKb : K ≤ nb := by rw [hK]; exact Nat.min_le_right _ _
      have hKl : K ≤ bs.length := by rw [hK, hbn]; exact Nat.min_le_left _ _
      have hlay : lay (bC (List.replicate nb 0)) 0 (bC (bs.take K)) = bC (layI (List.replicate nb 0) 0 (bs.take K)) := by
        unfold lay layI
        simp [bC, List.map_take, List.map_drop]
      rw [← hK, hlay]
      simp [hN]
      refine R ⟨layI (List.replicate nb 0) 0 (bs.take K), ?_, ?_⟩ _ _ ?_ ?_
      · rw [layI_len _ _ _ (by rw [List.length_take, List.length_replicate]; omega), List.length_replicate]
      · exact isB_lay (fun x hx => by rw [(List.mem_replicate.1 hx).2]; decide) (fun x hx => hbb x (List.mem_of_mem_take hx)) _
      · exact fun W hW => hW.2
      · simp [Cp.map, mapR]
  case rest =>
  rintro ⟨xs, hxl, hxb⟩
  simp [hN]
  refine callS ok rfl rfl rfl [1000, 1001, 1002, 1003, 39] (c0.res ++ [.row (some ⟨g39, 0, none⟩) xs.length nb 5 1 (bC xs)]) (by simp [Cp.map, mapR, hxl]) rfl (fun _ : Unit => [(1000, (Cp.chip { c0 with b := xs })), (1001, (Cp.pow { c0 with b := xs })), (1002, (Cp.row { c0 with b := xs })), (1003, (Cp.map { c0 with b := xs }))]) (fun w I S hI hG hO hS' => by have := load0 w I S hI c0 xs g39 nb hfit (by omega) (by omega) hO hS'; rw [hxl] at this; exact this) (fun r => by simp [Cp.map, mapR]) (.inr fun x q hq => by simp at hq; rcases hq with rfl | rfl | rfl | rfl <;> simp) fun _ W _ => ?_
  obtain ⟨c1, hc1⟩ : ∃ c1 : Cp, c1 = { c0 with b := xs } := ⟨_, rfl⟩
  have hfit1 : c1.fit := by rw [hc1]; exact ⟨hfit.right, by simp only; rw [hxl, ← hlb]; exact hfit.len, by simp only; rw [hxl, ← hlb]; exact hfit.cap, hfit.left⟩
  have hlive1 : live c1.p := by rw [hc1]; exact hlive
  have hgc1 : c0.gc = c1.gc := by rw [hc1]
  simp only [← hc1]
  rw [hgc1]
  simp [hN]
  have hform1 := form_live hfit1 hlive1
  refine callS ok rfl rfl rfl [1000, 1001, 1002, 1003] c1.res (by simp [Cp.map, mapR]) rfl (fun x : Nat × Sl => [(1000, (formJ c1 x).c.chip), (1001, (formJ c1 x).c.pow), (1002, (formJ c1 x).c.row), (1003, (formJ c1 x).c.map), (1004, (formJ c1 x).box)]) (fun w I S hI hG hO hS' => format0 w I S hI c1 hfit1 hform1.1 hform1.2.1 hform1.2.2.1 hO hS') (fun r => by simp [Cp.map, mapR]) (.inr fun x q hq => by simp at hq; rcases hq with rfl | rfl | rfl | rfl | rfl <;> simp) fun y W hy => ?_
  have hJ0 := jon_form hfit1 hlive1 y
  have hj0 : (formJ c1 y).gj = y.1 ∧ (formJ c1 y).s = newSta ∧ (formJ c1 y).si = y.2 ∧ (formJ c1 y).sb = (none, 0) ∧ (formJ c1 y).ep = 1 ∧ (formJ c1 y).half = 0 := ⟨rfl, rfl, rfl, rfl, rfl, rfl⟩
  obtain ⟨j, hj⟩ : ∃ j, j = formJ c1 y := ⟨_, rfl⟩
  simp only [← hj] at hJ0 hj0
  simp only [← hj]
  rw [← hj0.1]
  simp [hN]
  refine call0 ok rfl rfl rfl (fun w I hI hG => clean0 w I hI (n := ln) ds (by omega) (fun W e => (hG W e).2)) fun sl W _ => ?_
  obtain ⟨L, hL⟩ : ∃ L, L = ds.map cleanD := ⟨_, rfl⟩
  have hcl := hds.clean
  rw [← hL] at hcl
  have hLl : L.length = ds.length := by rw [hL, List.length_map]
  simp only [← hL]
  simp [hN]
  have haw := applyL_w newSta L
  have hcw := count_w (applyL newSta L)
  have hww := whole_w (applyL newSta L)
  have hnw : wS newSta = 45 := by have := whole_w newSta; rw [new_whole] at this; omega
  have hjc := jon_commit hJ0.1 hcl.1
  have hhl := half_le hJ0.1.fit
  have hus := hJ0.1.used
  refine callS ok rfl rfl rfl [1000, 1001, 1002, 1003, 1004] j.res (by simp [Cp.map, mapR]) rfl (fun v : Sl × Sl => [(1000, (commitM j L v).2.c.chip), (1001, (commitM j L v).2.c.pow), (1002, (commitM j L v).2.c.row), (1003, (commitM j L v).2.c.map), (1004, (commitM j L v).2.box)]) (fun w I S hI hG hO hS' => commit0 w I S hI j (a := sl.1) (n := ds.length) (c := sl.2) L hJ0.1.fit hJ0.1.half (by have := hJ0.1.ep; omega) (by omega) (fun W e => by rw [hj0.2.1, hj0.2.2.1, hj0.2.2.2.1]; exact (hG W e).2.1) (fun W e => ⟨by simp only; omega, (hG W e).1⟩) (by rw [hj0.2.1]; simp [newSta]; omega) (by rw [hj0.2.1]; omega) (by rw [hj0.2.1]; show wholeB _ ≤ _; omega) (by omega) hO hS') (fun r => by simp [Cp.map, mapR]) (.inr fun x q hq => by simp at hq; rcases hq with rfl | rfl | rfl | rfl | rfl <;> simp) fun v W hv => ?_
  have hjc := hjc v (by rw [hj0.2.2.2.2.1]; decide)
  rw [hj0.2.1] at hjc hv
  have hsm := hJ0.2
  have hend := hJ0.1.ended
  refine cutKc ok (p := ?pos2) (fun y : {y : Int × Jn × Nat × Sl × Sl // (y.1 = 0 ∨ y.1 = 10) ∧ Jon y.2.1 ∧ y.2.1.gj = j.gj ∧ y.2.1.c.gc = c1.gc ∧ wS y.2.1.s ≤ 1000000000} => [(70, .c (.v (ptrV c1.gc))), (13, .c (.bp 13 y.1.2.2.1 0)), (12, .c (.v (.int .i64 y.1.1))), (10, .c (.v (ptrV j.gj)))]) (fun y W => StaR W y.1.2.1.s y.1.2.1.si y.1.2.1.sb ∧ StaR W y.1.2.1.s y.1.2.2.2.1 y.1.2.2.2.2) (fun y => [(1000, y.1.2.1.c.chip), (1001, y.1.2.1.c.pow), (1002, y.1.2.1.c.row), (1003, y.1.2.1.c.map), (1004, y.1.2.1.box), (13, .box y.1.2.2.1 39 ((staC y.1.2.1.s y.1.2.2.2.1 y.1.2.2.2.2).map .v))]) ?rest2 fun R => ?main2
  case main2 =>
    rcases hjc with h | h
    · obtain ⟨h1, h2, h3, h4, h5, h6, h7, _⟩ := h
      rw [h1]
      obtain ⟨j2, hj2⟩ : ∃ j2, (commitM j L v).2 = j2 := ⟨_, rfl⟩
      rw [hj2] at h2 h3 h4 h5 h6 h7
      simp only [hj2]
      simp [hN]
      refine call0 ok rfl rfl rfl (fun w I hI hG => newSta0 w I hI) fun ns W _ => ?_
      simp [hN]
      intro g13
      refine call0 ok rfl rfl rfl (fun w I hI hG => refApply0 w I hI newSta ns (none, 0) (a := sl.1) (n := ds.length) (c := sl.2) L (fun W e => (hG W e).1) (fun W e => ⟨by simp only; omega, (hG W e).2.2.1⟩) (by simp [newSta]; omega)) fun u W _ => ?_
      simp [hN]
      refine R ⟨(0, j2, g13, u.1, u.2), .inl rfl, h2, h6, by rw [h7.gc, hsm.gc], by rw [h3]; omega⟩ _ _ ?_ ?_
      · intro W hW
        exact ⟨by simp only [h3, h4, h5]; have := hW.2.2.1 hend; rw [hj0.2.1] at this; exact this, by simp only [h3]; exact hW.1⟩
      · simp [Cp.map, mapR, h3]
    · obtain ⟨h1, _, _⟩ := h
      rw [h1]
      simp [hN]
      refine call0 ok rfl rfl rfl (fun w I hI hG => newSta0 w I hI) fun ns W _ => ?_
      simp [hN]
      intro g13
      refine R ⟨(10, j, g13, ns, (none, 0)), .inr rfl, hJ0.1, rfl, by rw [hsm.gc], by rw [hj0.2.1]; omega⟩ _ _ ?_ ?_
      · intro W hW
        exact ⟨by simp only [hj0.2.1, hj0.2.2.1, hj0.2.2.2.1]; exact hW.2.2.2.1, by simp only [hj0.2.1]; exact hW.1⟩
      · simp [Cp.map, mapR, hj0.2.1]
  case rest2 =>
  rintro ⟨⟨f, j2, g13, si, sb⟩, hf, hjn2, hgj2, hgc2, hws⟩
  simp only at hf hjn2 hgj2 hgc2 hws
  have hcw2 := count_w j2.s
  simp [hN]
  refine callS ok rfl rfl rfl [1000, 1001, 1002, 1003] j2.c.res (by simp [Cp.map, mapR]) rfl (fun x : Nat × Sl × Sl => [(1000, j2.c.chip), (1001, j2.c.pow), (1002, j2.c.row), (1003, j2.c.map), (1005, (reJ j2 x).box)]) (fun w I S hI hG hO hS' => by have := openOk0 w I S hI j2 hjn2 hO hS'; rw [hgc2] at this; exact this) (fun r => by simp [reJ, Cp.map, mapR]) (.inr fun x q hq => by simp at hq; rcases hq with rfl | rfl | rfl | rfl | rfl <;> simp) fun x W hx => ?_
  simp [hN]
  have hh2 := hjn2.half
  refine draw ok [(13, .box g13 39 ((staC j2.s si sb).map .v))] (by rw [ok.P]; exact mixed) (by kernel_rfl) ?_
  have hle1 : ((j2.half : Nat) : Int) ≤ 1 := by omega
  rcases hf with rfl | rfl
  all_goals
    simp (maxSteps := 2000000) -implicitDefEqProofs [hN, hle1]
    refine callS ok rfl rfl rfl [1004] [j2.box] (by simp) rfl (fun _ : Unit => [(1004, j2.box)]) (fun w I S hI hG hO hS' => by have := half0 w I S hI j2 hO hS'; rw [hgj2] at this; exact this) (fun r => by simp) (.inr fun x q hq => by simp at hq; subst hq; simp) fun _ W _ => ?_
    simp (maxSteps := 2000000) -implicitDefEqProofs [hN, hle1]
    refine callS ok rfl rfl rfl [1004] [j2.box] (by simp) rfl (fun _ : Sl × Sl => [(1004, j2.box)]) (fun w I S hI hG hO hS' => by have := state0 w I S hI j2 (fun W e => (hG W e).2.1) (by omega) hO hS'; rw [hgj2] at this; exact this) (fun r => by simp) (.inr fun x q hq => by simp at hq; subst hq; simp) fun z1 W _ => ?_
    simp (maxSteps := 2000000) -implicitDefEqProofs [hN, hle1]
    refine call0 ok rfl rfl rfl (fun w I hI hG => sameSta0 w I hI (applyL j2.s []) j2.s z1.1 z1.2 si sb (fun W e => ⟨(hG W e).1, (hG W e).2.2.2⟩)) fun _ W _ => ?_
    rw [tB_true (show applyL j2.s [] = j2.s from rfl)]
    simp (maxSteps := 2000000) -implicitDefEqProofs [hN, hle1]
    refine callS ok rfl rfl rfl [1005] [(reJ j2 x).box] (by simp) rfl (fun _ : Sl × Sl => [(1005, (reJ j2 x).box)]) (fun w I S hI hG hO hS' => state0 w I S hI (reJ j2 x) (fun W e => (hG W e).2.1) (by show j2.s.inos.length ≤ _ ∧ j2.s.bad.length ≤ _; omega) hO hS') (fun r => by simp) (.inr fun x q hq => by simp at hq; subst hq; simp) fun z2 W _ => ?_
    simp (maxSteps := 2000000) -implicitDefEqProofs [hN, hle1]
    refine call0 ok rfl rfl rfl (fun w I hI hG => sameSta0 w I hI (applyL (reJ j2 x).s []) j2.s z2.1 z2.2 si sb (fun W e => ⟨(hG W e).1, (hG W e).2.2.2.2⟩)) fun _ W _ => ?_
    rw [tB_true (show applyL (reJ j2 x).s [] = j2.s from rfl)]
    simp (maxSteps := 2000000) -implicitDefEqProofs [hN, hle1]
    exact ret0 hC true rfl fun _ _ _ => rfl
end Go.Proofs.YtbbaoeidobdblaaGreat.Sx

/- garretlaw17.JournalAgain. -/
set_option linter.unusedVariables false
set_option linter.unusedSimpArgs false
namespace Go.Proofs.YtbbaoeidobdblaaGreat.Sx
open Go

attribute [local simp ↓] ifb_true' ifb_false'
attribute [local simp] ifb_true ifb_false ifb_eq sx argsT find ev evOp evs evo evBin evInt evStr evNil evNilA ptrA slcA isNoneA asB evLoad look del cellsB evUn evConv kdec fld evFieldA evField evIdxA evIdx evSlc bndL bndH evLen mmi put resV guardV gvL setO tupV cellsOf ones one upd lits nv exitTo SV.val CV.val TI.agg rdyA allR keepB scan simpO gsp isS subs keepT pickT wr memN pubs Res.fact Region.binds bld rest give delL back Res.eqv vi vb num Sv.val undef
/-- Lists of deeds. -/
def dDs : Dt (List Dee) := ⟨1, fun W x cs => ∃ s : Sl, cs = [.slice s.1 x.length s.2] ∧ s.ok dDee W x, fun h => by obtain ⟨s, rfl, _⟩ := h; rfl, fun h u hu => by
  obtain ⟨s, rfl, _⟩ := h
  simp at hu
  subst hu
  rfl⟩
theorem keepDs : Keeps dDs := fun h k => by
  obtain ⟨s, hc, h1⟩ := k
  exact ⟨s, hc, sl_keep keepDee h h1⟩
theorem ds_get {W : World} {a : Option Addr} {n c : Nat} {l : List (List Dee)} (h : Sv.ok dDs W (a, n, c) l) {i : Nat} (hi : i < l.length) : ∃ b o, a = some ⟨b, o, none⟩ ∧ ∃ v, W.cell? ⟨b, o + i, none⟩ = some v ∧ slQ dDee l[i] v W := by
  obtain ⟨b, o, e, cs, ⟨s, rfl, hs⟩, hl, hc⟩ := rd_get1 h hi
  exact ⟨b, o, e, _, by have := hc 0 _ rfl; simpa [dDs] using this, s, rfl, hs⟩
theorem stateL_w : ∀ (ds : List (List Dee)) (s : Sta), wS (stateL s ds) ≤ wS s + totP ((ds.map deedsB).map fun y => (y, y.length))
  | [], s => by simp [stateL, totP]
  | d :: r, s => by
    have h1 := stateL_w r (applyL s d)
    have h2 := applyL_w s d
    simp only [stateL, List.foldl_cons, List.map_cons, totP] at h1 ⊢
    omega
theorem jon_w {j : Jn} (h : Jon j) : wS j.s ≤ j.used := by
  obtain ⟨s0, ds, _, _, h3, h4, _⟩ := h.on
  have h5 := stateL_w ds s0
  have h6 := firstB_length j.ep s0
  have h7 := whole_w s0
  have h8 : (deedsB (wholeL s0)).length = wholeB s0 := rfl
  rw [h3, h4, halfL, recsB_length, List.map_cons, totP]
  omega
/-- Bytes that are the same. -/
theorem sameB0 (w : World) (I : Nat → Prop) (hI : ∀ b, I b → b < w.heap.size) {a a' : Option Addr} {n c n' c' : Nat} (xs : List Int) (h : ∀ W, Ext I w W → Sv.ok dByte W (a, n, c) xs ∧ Sv.ok dByte W (a', n', c') xs) :
    Fn0 Tryz.prog 29 #[.slice a n c, .slice a' n' c'] w I (fun _ : Unit => .bool true) (fun _ _ => True) := by
  refine enter (svs := [.c (.v (.slice a n c)), .c (.v (.slice a' n' c'))]) tysOk Tryz.func29 rfl Tryz.ntmps29 Tryz.results29 (by kernel_rfl) (by simp) hI (fun W => Sv.ok dByte W (a, n, c) xs ∧ Sv.ok dByte W (a', n', c') xs) h fun C hC hN ok => ?_
  simp [hN]
  refine strS ok rfl rfl rfl rfl rfl rfl rfl rfl rfl xs (fun W hW => hW.1) ?_
  simp [hN]
  refine strS ok rfl rfl rfl rfl rfl rfl rfl rfl rfl xs (fun W hW => hW.2) ?_
  simp [hN]
  exact ret0 hC () rfl fun _ _ _ => trivial
set_option maxRecDepth 100000 in
set_option maxHeartbeats 2000000 in
theorem journalAgainLaw0 (w : World) {la : Option Addr} {ln lc : Nat} (ls : List (List Dee)) (n : Int) (h : ∀ W, Ext (fun b => b < w.heap.size) w W → Sv.ok dDs W (la, ln, lc) ls) (hds : ∀ ds ∈ ls, DeesIn ds) :
    Fn0 Tryz.prog 4 #[.slice la ln lc, .int .i64 n] w (fun b => b < w.heap.size) (fun b : Bool => .bool b) (fun y W => y = true) := by
  have hI : ∀ b, b < w.heap.size → b < w.heap.size := fun b h => h
  have hln : ln = ls.length := (h w (Ext.refl _ _)).1
  have hlb : ls.length ≤ 100000000000 := (h w (Ext.refl _ _)).2.2.1
  refine enter (svs := [.c (.v (.slice la ln lc)), .c (.v (.int .i64 n))]) tysOk Tryz.func4 rfl Tryz.ntmps4 Tryz.results4 (by kernel_rfl) (by simp) hI (fun W => Sv.ok dDs W (la, ln, lc) ls) h fun C hC hN ok => ?_
  simp [hN]
  refine call0 ok rfl rfl rfl (fun w I hI hG => wide0 w I hI) fun _ W _ => ?_
  simp [hN]
  refine callS ok rfl rfl rfl [] [] trivial rfl (fun gp : Nat => [(1001, .box gp 108 (powB ⟨-1, 0, false, 0⟩ (.map none)))]) (fun w I S hI hG hO hS => (powNew0 w I hI).lone hO) (fun r => by simp) (.inl fun k hk => by cases hk) fun gp W _ => ?_
  simp [hN]
  obtain ⟨nb, hnb, hnb0, hnb1, hnb2⟩ : ∃ nb : Nat, wideG.sectors * wideG.sector = (nb : Nat) ∧ 0 < nb ∧ nb ≤ 100000 ∧ nb = 16384 := ⟨16384, by decide, by decide, by decide, rfl⟩
  refine callS ok rfl rfl rfl [] [] trivial rfl (fun x : Nat × Nat × Nat × Nat => [(1000, (newCp wideG gp ⟨-1, 0, false, 0⟩ (.map none) x nb).chip), (1002, (newCp wideG gp ⟨-1, 0, false, 0⟩ (.map none) x nb).row), (1003, (newCp wideG gp ⟨-1, 0, false, 0⟩ (.map none) x nb).map)]) (fun w I S hI hG hO hS => (norNew0 w I hI wideG gp nb ⟨-1, 0, false, 0⟩ (.map none) wide_right hnb hnb0 hnb1).lone hO) (fun r => by simp [Cp.map, mapR]) (.inl fun k hk => by cases hk) fun x W _ => ?_
  obtain ⟨c0, hc0⟩ : ∃ c0, c0 = newCp wideG gp ⟨-1, 0, false, 0⟩ (.map none) x nb := ⟨_, rfl⟩
  have hfit : c0.fit := by
    rw [hc0]
    exact ⟨wide_right, by simp only [newCp, List.length_replicate]; exact hnb.symm, by simp [newCp], by simp [newCp]⟩
  have hlive : live c0.p := by rw [hc0]; exact ⟨(by decide : (-1 : Int) < 0), rfl⟩
  have hgc : c0.gc = x.1 := by rw [hc0]; rfl
  have hpw : (.box gp 108 (powB ⟨-1, 0, false, 0⟩ (.map none)) : Res) = c0.pow := by rw [hc0]; rfl
  have hG0 : c0.g = wideG := by rw [hc0]; rfl
  have her : c0.er = [] := by rw [hc0]; rfl
  rw [hpw]
  simp only [← hc0, ← hgc]
  clear hpw hc0
  simp [hN]
  refine call0 ok rfl rfl rfl (fun w I hI hG => awake17 w I hI) fun _ W _ => ?_
  simp [hN]
  have hlb2 : c0.b.length = 16384 := by have := hfit.len; rw [hG0, hnb, hnb2] at this; exact_mod_cast this
  have hform := form_live hfit hlive
  refine callS ok rfl rfl rfl [1000, 1001, 1002, 1003] c0.res (by simp [Cp.map, mapR]) rfl (fun x : Nat × Sl => [(1000, (formJ c0 x).c.chip), (1001, (formJ c0 x).c.pow), (1002, (formJ c0 x).c.row), (1003, (formJ c0 x).c.map), (1004, (formJ c0 x).box)]) (fun w I S hI hG hO hS' => format0 w I S hI c0 hfit hform.1 hform.2.1 hform.2.2.1 hO hS') (fun r => by simp [Cp.map, mapR]) (.inr fun x q hq => by simp at hq; rcases hq with rfl | rfl | rfl | rfl | rfl <;> simp) fun y W hy => ?_
  have hJ0 := jon_form hfit hlive y
  have hj0 : (formJ c0 y).gj = y.1 ∧ (formJ c0 y).s = newSta ∧ (formJ c0 y).si = y.2 ∧ (formJ c0 y).sb = (none, 0) ∧ (formJ c0 y).ep = 1 ∧ (formJ c0 y).half = 0 := ⟨rfl, rfl, rfl, rfl, rfl, rfl⟩
  obtain ⟨j, hj⟩ : ∃ j, j = formJ c0 y := ⟨_, rfl⟩
  simp only [← hj] at hJ0 hj0
  simp only [← hj]
  rw [← hj0.1]
  simp [hN]
  refine loopK [0, 1, 5, 7] ok (fun y : Nat × Jn => [(9, .c (.v (.int .i64 (y.1 : Nat))))]) (fun y => [(1000, y.2.c.chip), (1001, y.2.c.pow), (1002, y.2.c.row), (1003, y.2.c.map), (1004, y.2.box)]) (fun z W => z.1 ≤ ls.length ∧ Jon z.2 ∧ z.2.ep ≤ 1 + z.1 ∧ z.1 ≤ 10 ∧ z.2.gj = j.gj ∧ z.2.c.gc = c0.gc ∧ z.2.c.b.length = 16384 ∧ StaR W z.2.s z.2.si z.2.sb) (fun y => ls.length - y.1) (0, j) ?_ ?_ (fun W hW => ⟨Nat.zero_le _, hJ0.1, by rw [hj0.2.2.2.2.1]; show (1 : Int) ≤ 1 + (0 : Nat); decide, Nat.zero_le _, rfl, hJ0.2.gc, by rw [hJ0.2.len, hlb2], by rw [hj0.2.1, hj0.2.2.1, hj0.2.2.2.1]; exact hW.1⟩) ?_
  · simp
  · simp [Cp.map, mapR]
  obtain ⟨gj, hgj⟩ : ∃ gj, gj = j.gj := ⟨_, rfl⟩
  rw [← hgj]
  rintro ⟨i, j⟩ W ⟨hi, hjn, hje, hi10, hjp, hjc, hjl, hS⟩ hG2 next
  simp only at hi hjn hje hi10 hjp hjc hjl hS
  have hjw := jon_w hjn
  have hju := hjn.used
  have hjh := half_le hjn.fit
  by_cases hgo : i < ls.length ∧ i < 10
  · obtain ⟨hlt, hlt10⟩ := hgo
    have e6 : IntKind.i64.wrap ((i : Int) + 1) = (i + 1 : Nat) := by rw [w64 (by omega) (by omega)]; omega
    have hltn : i < ln := by omega
    have hlt10' : (i : Int) < 10 := by omega
    obtain ⟨b, off, e, _⟩ := ds_get (h w (Ext.refl _ _)) hlt
    cases e
    have hget : ∀ W, Sv.ok dDs W (some ⟨b, off, none⟩, ln, lc) ls → ∃ v, W.cell? ⟨b, off + i, none⟩ = some v ∧ slQ dDee ls[i] v W := fun W hW => by
      obtain ⟨b', o', e, hc⟩ := ds_get hW hlt
      cases e
      exact hc
    have hdi := hds _ (List.getElem_mem hlt)
    generalize ls[i] = ds at hget hdi
    have hdl := hdi.len
    have hcl := hdi.clean
    simp [hN, hltn, hlt10']
    refine load1 ok rfl rfl rfl rfl (slQ dDee ds) (fun W hW => hget W hW.2.2) ?_
    rintro v W ⟨sv, rfl, hsv⟩ _
    simp [hN]
    refine call0 ok rfl rfl rfl (fun w I hI hG => few0 w I hI (n := ds.length) ds (fun W e => ⟨rfl, (hG W e).1.get.2⟩)) fun few W _ => ?_
    cases few with
    | false =>
      simp [hN]
      exact ret0 hC true rfl fun _ _ _ => rfl
    | true =>
    simp [hN, hltn]
    refine load1 ok rfl rfl rfl rfl (slQ dDee ds) (fun W hW => hget W (by first | exact hW.2.2.2 | exact hW.2.2.2.2)) ?_
    rintro v W ⟨sv2, rfl, hsv2⟩ _
    simp [hN]
    refine call0 ok rfl rfl rfl (fun w I hI hG => clean0 w I hI (n := ds.length) ds (by omega) (fun W e => ⟨rfl, (hG W e).1.get.2⟩)) fun sl W _ => ?_
    obtain ⟨L, hL⟩ : ∃ L, L = ds.map cleanD := ⟨_, rfl⟩
    rw [← hL] at hcl
    have hLl : L.length = ds.length := by rw [hL, List.length_map]
    simp only [← hL]
    simp [hN]
    have haw := applyL_w j.s L
    have hcw := count_w (applyL j.s L)
    have hcw0 := count_w j.s
    have hww := whole_w (applyL j.s L)
    have hjcm := jon_commit hjn hcl.1
    refine callS ok rfl rfl rfl [1000, 1001, 1002, 1003, 1004] j.res (by simp [Cp.map, mapR]) rfl (fun v : Sl × Sl => [(1000, (commitM j L v).2.c.chip), (1001, (commitM j L v).2.c.pow), (1002, (commitM j L v).2.c.row), (1003, (commitM j L v).2.c.map), (1004, (commitM j L v).2.box)]) (fun w I S hI hG hO hS' => by have := commit0 w I S hI j (a := sl.1) (n := ds.length) (c := sl.2) L hjn.fit hjn.half (by have := hjn.ep; omega) (by omega) (fun W e => (hG W e).2.2.2.1.2.2.2.2.2.2.2) (fun W e => ⟨by simp only; omega, (hG W e).1⟩) (by omega) (by omega) (by show wholeB _ ≤ _; omega) (by omega) hO hS'; rw [hjp] at this; exact this) (fun r => by simp [Cp.map, mapR]) (.inr fun x q hq => by simp at hq; rcases hq with rfl | rfl | rfl | rfl | rfl <;> simp) fun v W hv => ?_
    have hjcm := hjcm v (by omega)
    rcases hjcm with hh | hh
    · obtain ⟨h1, h2, h3, h4, h5, h6, h7, h8⟩ := hh
      have hep2 : (commitM j L v).2.ep ≤ j.ep + 1 := by rcases h8 with h | h <;> omega
      rw [h1]
      obtain ⟨j2, hj2⟩ : ∃ j2, (commitM j L v).2 = j2 := ⟨_, rfl⟩
      rw [hj2] at h2 h3 h4 h5 h6 h7 hep2
      simp only [hj2]
      simp [hN, e6]
      exact next (i + 1, j2) _ _ (by simp only; omega) (fun W hW => ⟨⟨hlt, h2, by simp only; omega, hlt10, by rw [h6, hjp], by rw [h7.gc, hjc], by rw [h7.len, hjl], by simp only [h3, h4, h5]; exact hW.1 hjn.ended⟩, hW.2.2.2.2.2⟩) (by simp [Cp.map, mapR])
    · obtain ⟨h1, _, _⟩ := hh
      rw [h1]
      simp [hN, e6]
      exact next (i + 1, j) _ _ (by simp only; omega) (fun W hW => ⟨⟨hlt, hjn, by simp only; omega, hlt10, hjp, hjc, hjl, hW.2.2.2.2.1.2.2.2.2.2.2.2⟩, hW.2.2.2.2.2⟩) (by simp [Cp.map, mapR])
  clear next
  refine cutK ok (p := ?pos) [(73, .c (.v (.int .i64 16384))), (72, .c (.v (ptrV c0.gc))), (11, .c (.v (.int .i64 16384))), (7, .c (.v (ptrV gj))), (5, .c (.v (ptrV c0.gc))), (1, .c (.v (.int .i64 n)))] (fun W => StaR W j.s j.si j.sb) [(1000, j.c.chip), (1001, j.c.pow), (1002, j.c.row), (1003, j.c.map), (1004, j.box)] ?rest fun R => ?main
  case main =>
    by_cases hlt : i < ls.length
    · have hi10' : ¬ (i : Int) < 10 := by omega
      have hltn : i < ln := by omega
      simp [hN, hltn, hi10']
      refine R _ _ ?_ ?_
      · exact fun W hW => hW.1.2.2.2.2.2.2.2
      · simp [Cp.map, mapR]
    · have hltn : ¬ i < ln := by omega
      simp [hN, hltn]
      refine R _ _ ?_ ?_
      · exact fun W hW => hW.1.2.2.2.2.2.2.2
      · simp [Cp.map, mapR]
  case rest =>
  simp [hN]
  refine callS ok rfl rfl rfl [1000, 1001, 1002, 1003] j.c.res (by simp [Cp.map, mapR]) rfl (fun _ : Sl => [(1000, j.c.chip), (1001, j.c.pow), (1002, j.c.row), (1003, j.c.map)]) (fun w I S hI hG hO hS' => by have := norRead0 w I S hI j.c 0 16384 hjn.fit (by decide) (by omega) hO hS'; rw [hjc] at this; exact this) (fun r => by simp [Cp.map, mapR]) (.inr fun x q hq => by simp at hq; rcases hq with rfl | rfl | rfl | rfl <;> simp) fun wa W _ => ?_
  simp [hN]
  obtain ⟨K, hKK, hK1⟩ : ∃ K : Nat, IntKind.i64.wrap (1 + IntKind.i64.wrap ((IntKind.u64.wrap n).tmod 4)) = (K : Nat) ∧ K ≤ 4 := by
    have h1 := modP_le n 4 (by decide)
    have h2 : IntKind.i64.wrap ((IntKind.u64.wrap n).tmod 4) = modP n 4 := by
      rw [u64_wrap, Int.tmod_eq_emod_of_nonneg (by omega), w64 (by omega) (by omega)]
      unfold modP
      omega
    rw [h2]
    exact ⟨(1 + modP n 4).toNat, by rw [w64 (by omega) (by omega)]; omega, by omega⟩
  refine loopK [1, 5, 7, 11, 12] ok (fun i : Nat => [(14, .c (.v (.int .i64 (i : Nat))))]) (fun _ => [(1000, j.c.chip), (1001, j.c.pow), (1002, j.c.row), (1003, j.c.map), (1004, j.box)]) (fun i W => i ≤ K ∨ i = 0) (fun i => K - i) 0 ?_ ?_ (fun W hW => .inr rfl) ?_
  · simp
  · simp [Cp.map, mapR]
  rintro k W hk hG3 next
  rcases Nat.lt_or_ge k K with hlt | hge
  · have e6 : IntKind.i64.wrap ((k : Int) + 1) = (k + 1 : Nat) := by rw [w64 (by omega) (by omega)]; omega
    simp [hN, hKK, hlt]
    refine callS ok rfl rfl rfl [1000, 1001, 1002, 1003] j.c.res (by simp [Cp.map, mapR]) rfl (fun x : Nat × Sl × Sl => [(1000, j.c.chip), (1001, j.c.pow), (1002, j.c.row), (1003, j.c.map), (1005, (reJ j x).box)]) (fun w I S hI hG hO hS' => by have := openOk0 w I S hI j hjn hO hS'; rw [hjc] at this; exact this) (fun r => by simp [reJ, Cp.map, mapR]) (.inr fun x q hq => by simp at hq; rcases hq with rfl | rfl | rfl | rfl | rfl <;> simp) fun x W hx => ?_
    simp [hN]
    refine callS ok rfl rfl rfl [1005] [(reJ j x).box] (by simp) rfl (fun _ : Sl × Sl => [(1005, (reJ j x).box)]) (fun w I S hI hG hO hS' => state0 w I S hI (reJ j x) (fun W e => (hG W e).1) (by show j.s.inos.length ≤ _ ∧ j.s.bad.length ≤ _; have := count_w j.s; omega) hO hS') (fun r => by simp) (.inr fun x q hq => by simp at hq; subst hq; simp) fun z1 W _ => ?_
    simp [hN]
    refine callS ok rfl rfl rfl [1004] [j.box] (by simp) rfl (fun _ : Sl × Sl => [(1004, j.box)]) (fun w I S hI hG hO hS' => by have := state0 w I S hI j (fun W e => (hG W e).2.2.2.2) (by have := count_w j.s; omega) hO hS'; rw [hjp] at this; exact this) (fun r => by simp) (.inr fun x q hq => by simp at hq; subst hq; simp) fun z2 W _ => ?_
    simp [hN]
    refine call0 ok rfl rfl rfl (fun w I hI hG => sameSta0 w I hI (applyL (reJ j x).s []) (applyL j.s []) z1.1 z1.2 z2.1 z2.2 (fun W e => ⟨(hG W e).2.1, (hG W e).1⟩)) fun _ W _ => ?_
    rw [tB_true (show applyL (reJ j x).s [] = applyL j.s [] from rfl)]
    simp [hN]
    refine callS ok rfl rfl rfl [1005] [(reJ j x).box] (by simp) rfl (fun _ : Unit => [(1005, (reJ j x).box)]) (fun w I S hI hG hO hS' => epoch0 w I S hI (reJ j x) hO hS') (fun r => by simp) (.inr fun x q hq => by simp at hq; subst hq; simp) fun _ W _ => ?_
    simp [hN]
    refine callS ok rfl rfl rfl [1004] [j.box] (by simp) rfl (fun _ : Unit => [(1004, j.box)]) (fun w I S hI hG hO hS' => by have := epoch0 w I S hI j hO hS'; rw [hjp] at this; exact this) (fun r => by simp) (.inr fun x q hq => by simp at hq; subst hq; simp) fun _ W _ => ?_
    have hre : (reJ j x).ep = j.ep ∧ (reJ j x).half = j.half := ⟨rfl, rfl⟩
    simp [hN, hre]
    refine callS ok rfl rfl rfl [1005] [(reJ j x).box] (by simp) rfl (fun _ : Unit => [(1005, (reJ j x).box)]) (fun w I S hI hG hO hS' => half0 w I S hI (reJ j x) hO hS') (fun r => by simp) (.inr fun x q hq => by simp at hq; subst hq; simp) fun _ W _ => ?_
    simp [hN]
    refine callS ok rfl rfl rfl [1004] [j.box] (by simp) rfl (fun _ : Unit => [(1004, j.box)]) (fun w I S hI hG hO hS' => by have := half0 w I S hI j hO hS'; rw [hjp] at this; exact this) (fun r => by simp) (.inr fun x q hq => by simp at hq; subst hq; simp) fun _ W _ => ?_
    simp [hN, hre, e6]
    exact next (k + 1) _ _ (by omega) (fun W hW => ⟨.inl hlt, hW.2.2.2.2⟩) (by simp [Cp.map, mapR])
  · simp [hN, hKK, Nat.not_lt.2 hge]
    refine callS ok rfl rfl rfl [1000, 1001, 1002, 1003] j.c.res (by simp [Cp.map, mapR]) rfl (fun _ : Sl => [(1000, j.c.chip), (1001, j.c.pow), (1002, j.c.row), (1003, j.c.map)]) (fun w I S hI hG hO hS' => by have := norRead0 w I S hI j.c 0 16384 hjn.fit (by decide) (by omega) hO hS'; rw [hjc] at this; exact this) (fun r => by simp [Cp.map, mapR]) (.inr fun x q hq => by simp at hq; rcases hq with rfl | rfl | rfl | rfl <;> simp) fun wb W _ => ?_
    simp [hN]
    obtain ⟨xs, hxs, hxl⟩ : ∃ xs : List Int, j.c.b.take 16384 = xs ∧ xs.length = 16384 := ⟨_, rfl, by rw [List.length_take, hjl, Nat.min_self]⟩
    simp only [hxs]
    refine call0 ok rfl rfl rfl (fun w I hI hG => sameB0 w I hI (a := wa.1) (n := 16384) (c := wa.2) (a' := wb.1) (n' := 16384) (c' := wb.2) xs (fun W e => ⟨⟨hxl.symm, (hG W e).2.2.1⟩, ⟨hxl.symm, (hG W e).1⟩⟩)) fun _ W _ => ?_
    simp [hN]
    exact ret0 hC true rfl fun _ _ _ => rfl
end Go.Proofs.YtbbaoeidobdblaaGreat.Sx

/- Sx, part 18: a text is appended to bytes of one's own. -/
set_option linter.unusedVariables false
set_option linter.unusedSimpArgs false
namespace Go.Proofs.YtbbaoeidobdblaaGreat.Sx
open Go

section
variable {P : Program} {C : Ctx} {T : Ty} {res : List ResultVar} {p : Pos} {tm : Tm} {m : Mem}
theorem grow_text {P : Program} {w : World} {t tu ty e : TypeId} {ie : TI} (hu : P.underlying t = some (.slice e)) (htu : P.underlying tu = some .string) (he : TIok P e ie) (hs1 : ie.sz = 1) {g n c : Nat} {xs : List Value} (hown : w.ownsRow 0 e 1 (.slice (some ⟨g, 0, none⟩) n c) n xs) (s : ByteArray)
    (hzl : ie.zero.length = 1) (hb : (n + s.size) * ie.bt ≤ 140737488355328) (hmx : n + s.size ≤ 140737488355328) :
    ∃ g' c' w', (Builtin.append_ #[t, tu] ty #[.slice (some ⟨g, 0, none⟩) n c, .string s]).run P w = .ok (.slice (some ⟨g', 0, none⟩) (n + s.size) c') w' ∧ w'.ownsRow 0 e 1 (.slice (some ⟨g', 0, none⟩) (n + s.size) c') (n + s.size) (xs ++ Lib.strCells s) ∧
      Ext (fun b => b < w.heap.size ∧ (Value.slice (some ⟨g, 0, none⟩) n c).ownBlock ≠ some b) w w' ∧ ((Value.slice (some ⟨g, 0, none⟩) n c).ownBlock = some g' ∨ w.heap.size ≤ g') ∧ g' < w'.heap.size := by
  obtain ⟨i, hi, hsz, hbt, z, hz, hzc⟩ := he.g_some
  have hzs : z.cells.size = 1 := by rw [← Array.length_toList, hzc, hzl]
  have hml : n + s.size ≤ maxLen := by unfold maxLen; omega
  have hxl : xs.length = n := by simpa using hown.1
  have hlen : (xs ++ Lib.strCells s).length = (n + s.size) * 1 := by rw [List.length_append, hxl, Lib.strCells_length, Nat.mul_one]
  rcases hown.2 with ⟨hv, hn⟩ | ⟨g1, cap, cur, hv, _, hg, hnc, hcm, hcs, htake⟩
  · cases hv
  · obtain ⟨rfl, rfl⟩ : g = g1 ∧ c = cap := by simpa using hv
    by_cases hroom : n + s.size ≤ c
    · have hr := Lib.run_append_room_string (P := P) w t tu ty e i hu htu hi (by omega) g n c cur hg s hroom (by rw [hcs]; omega)
      have hlt := (Array.getElem?_eq_some_iff.1 hg).1
      refine ⟨g, c, _, hr, ⟨hlen, .inr ⟨g, c, _, rfl, Nat.zero_le _, setRow_heap w g cur _ e _ hg, hroom, hcm, ?_, ?_⟩⟩, ⟨rfl, rfl, rfl, by simp, fun k hk => setRow_other w g k _ (fun e => hk.2 (by simp [Value.ownBlock, e]))⟩, .inl (by simp [Value.ownBlock]), by simp [hlt]⟩
      · simp only [List.size_toArray, List.length_append, List.length_take, List.length_drop, Array.length_toList, Lib.strCells_length]
        omega
      · rw [Nat.mul_one] at htake
        rw [htake, ← hlen]
        exact List.take_left
    · have holds : ∀ j u, xs[j]? = some u → w.cell? ((⟨g, 0, none⟩ : Addr).add j) = some u := hown.cells (g := g) rfl
      have hr := Lib.run_append_grow_string (P := P) w t tu ty e i z hu htu hi hz ⟨g, 0, none⟩ n c xs (by rw [hsz, hs1]; omega) holds s (by omega) (by omega) (growslice_fits (by omega) (by rw [hbt]; exact hb))
      have hge := grownCap_ge w (n + s.size) c e
      have hcm : grownCap w (n + s.size) c e ≤ maxLen := grownCap_le_maxLen w (n + s.size) c e hml
      refine ⟨_, _, _, hr, ⟨hlen, .inr ⟨w.heap.size, _, _, rfl, Nat.zero_le _, heap_alloc_new w.drew _, hge, hcm, ?_, ?_⟩⟩, (Ext.drew _ w).trans (Ext.alloc _ w.drew _ fun b hb => hb.1) fun _ hx => hx, .inr (Nat.le_refl _), by simp⟩
      · simp only [Array.size_append, List.size_toArray, size_zeroCells, hzs, hxl, Lib.strCells_length]
        omega
      · simp only [Array.toList_append, List.append_assoc]
        rw [← List.append_assoc, ← hlen]
        exact List.take_left
/-- A text is appended to bytes of one's own. -/
theorem appT (ok : Okc P T C res) (k : Nat) {o : Oper} {s x : Operand} {t tu d : Nat} (ho : o.op = .call ⟨.builtin .append, #[s, x], #[t, tu]⟩) (hd : o.dst = some d) {i ie iu : TI} (hi : tf t T = some i) (hik : i.kd = 3) (hie : tf i.el T = some ie) (hs1 : ie.sz = 1) (hzl : ie.zero.length = 1) (hiu : tf tu T = some iu) (huk : iu.kd = 4)
    {g n c : Nat} {cs : List CV} {u : SV} {st : ByteArray} (hk : look k m.rs = some (.row (some ⟨g, 0, none⟩) n c i.el 1 cs)) (hs : ev tm s = some u) (hu : u.val = .slice (some ⟨g, 0, none⟩) n c) (hx : ev tm x = some (.c (.v (.string st))))
    (hb : (n + st.size) * ie.bt ≤ 140737488355328) (hmx : n + st.size ≤ 140737488355328)
    (kk : ∀ g' c'', sx T C res 1000 p (put C.n (some d) (.c (.rw k (some ⟨g', 0, none⟩) (n + st.size) c'')) tm) ⟨m.B, m.G, (k, .row (some ⟨g', 0, none⟩) (n + st.size) c'' i.el 1 (cs ++ bC (bytesOf st))) :: del k (del k m.rs)⟩) : At C (.op o p) tm m := by
  rintro act w cs0 hR ⟨I, F, hJ⟩
  have o1 := hJ.own _ (look_mem hk)
  obtain ⟨g', c'', w', hr, hown, hext, hblk, hlt⟩ := grow_text (P := C.P) (t := t) (tu := tu) (ty := o.type) (ok.ty.get hi |>.g_slice hik) (ok.ty.get hiu |>.g_string huk) (ok.ty.get hie) hs1 o1.2 st hzl hb hmx
  have e1 : act.eval s = .slice (some ⟨g, 0, none⟩) n c := by rw [hR.eval hs, hu]
  have e2 : act.eval x = .string st := hR.eval hx
  have hrun : (execOp act.eval o).run C.P w = .ok (.value (.slice (some ⟨g', 0, none⟩) (n + st.size) c'')) w' := by
    simp [execOp, ho, resolve, invoke, builtin, e1, e2, hr]
  have hlv : (bC (bytesOf st)).map CV.val = Lib.strCells st := by simp [bC, bytesOf, Lib.strCells, Function.comp_def, CV.val]
  have hup := hJ.upd k k (.row (some ⟨g', 0, none⟩) (n + st.size) c'' i.el 1 (cs ++ bC (bytesOf st))) (fun b => (Value.slice (some ⟨g, 0, none⟩) n c).ownBlock = some b) (fun b => b = g') (fun b hb => ⟨(o1.1 b).2 hb, _, look_mem hk⟩) hext ⟨fun b => by simp [Value.ownBlock]; exact ⟨fun h => h.symm, fun h => h.symm⟩, by rw [List.map_append, hlv]; exact hown⟩ (fun b hb => by subst hb; exact ⟨hlt, hblk⟩) id
  have hRp := hR.put (some d) (.c (.rw k (some ⟨g', 0, none⟩) (n + st.size) c''))
  exact op_value (ok.sx (kk g' c'')) hrun (by rw [hd]; exact hRp) ⟨I, _, hup⟩
end
end Go.Proofs.YtbbaoeidobdblaaGreat.Sx

/- ref01.Put, PutText, number: what they hand back is one's own. -/
set_option linter.unusedVariables false
set_option linter.unusedSimpArgs false
namespace Go.Proofs.YtbbaoeidobdblaaGreat.Sx
open Go

attribute [local simp ↓] ifb_true' ifb_false'
attribute [local simp] ifb_true ifb_false ifb_eq sx argsT find ev evOp evs evo evBin evInt evStr evNil evNilA ptrA slcA isNoneA asB evLoad look del cellsB evUn evConv kdec fld evFieldA evField evIdxA evIdx evSlc bndL bndH evLen mmi put resV guardV gvL setO tupV cellsOf ones one upd lits nv exitTo SV.val CV.val TI.agg rdyA allR keepB scan simpO gsp isS subs keepT pickT wr memN pubs Res.fact Region.binds bld rest give delL back Res.eqv vi vb num Sv.val undef
theorem refPutS (w : World) (I : Nat → Prop) (hI : ∀ b, I b → b < w.heap.size) (xs : List Int) (s : Sl) (v : Int) (n : Nat) (h : ∀ W, Ext I w W → s.ok dByte W xs) (hl : xs.length + n ≤ 100000000000) (hn : n ≤ 8) (hv : 0 ≤ v) :
    FnS Tryz.prog 40 #[.slice s.1 xs.length s.2, .int .u64 v, .int .i64 n] w I noS (fun r : Sl => .slice r.1 (xs.length + n) r.2) (fun r => [.row r.1 (xs.length + n) r.2 5 1 (bC (xs ++ lowB v n))]) (fun _ _ => True) := by
  refine enterS (svs := [.c (.v (.slice s.1 xs.length s.2)), .c (.v (.int .u64 v)), .c (.v (.int .i64 n))]) tysOk Tryz.func40 rfl Tryz.ntmps40 Tryz.results40 (by kernel_rfl) (by simp) hI [] (owns_nil w) (fun b hb => hb.elim) (fun W => s.ok dByte W xs) h fun C hC hN ok => ?_
  have e1 : ¬ ((n : Int) < 0) := by omega
  have e2 : ¬ ((8 : Int) < n) := by omega
  simp [hN]
  refine nilr 600 5 1 (appV ok 600 rfl rfl rfl rfl rfl (by decide) rfl rfl rfl rfl rfl rfl dByte xs rfl (by show (0 + _) * 1 ≤ _; omega) (by omega) (fun W hW => ⟨rfl, hW⟩) fun l a' c'' W hll hr _ => ?_)
  have hx : l = xs.map (Value.int .u8) := rows_byte.1 hr
  subst hx
  simp [hN]
  refine loop ok (fun y : Nat × Sl => [(8, .c (.v (.int .i64 (y.1 : Nat)))), (7, .c (.v (.slice y.2.1 (xs.length + y.1) y.2.2)))]) (fun y => [(600, .row y.2.1 (xs.length + y.1) y.2.2 5 1 (bC (xs ++ (lowB v n).take y.1)))]) (fun y W => y.1 ≤ n) (fun y => n - y.1) (0, (a', c'')) ?_ ?_ (fun W _ => Nat.zero_le _) ?_
  · simp
  · simp [← bC_nv]
  rintro ⟨i, ra, rc⟩ W hi hG next
  simp only at hi
  simp [hN, e1, e2]
  refine ⟨fun hlt => ?_, fun hge => ?_⟩
  · have e3 : IntKind.i64.wrap (8 * (i : Int)) = (8 * i : Nat) := by rw [w64 (by omega) (by omega)]; omega
    have e4 : IntKind.u64.wrap ((8 * i : Nat) : Int) = (8 * i : Nat) := by rw [u64_wrap]; omega
    have e5 : min (8 * i) IntKind.u64.bits = 8 * i := by simp [IntKind.bits]; omega
    have e6 : v.fdiv (2 ^ (8 * i)) = v / 2 ^ (8 * i) := Int.fdiv_eq_ediv_of_nonneg _ (Int.le_of_lt (Int.pow_pos (by decide)))
    have e7 : IntKind.i64.wrap ((i : Int) + 1) = (i + 1 : Nat) := by rw [w64 (by omega) (by omega)]; omega
    have e8 : IntKind.u8.wrap (v.fdiv (2 ^ (8 * i))) = v / 2 ^ (8 * i) % 256 := by rw [e6, u8_wrap]
    have e9 : (lowB v n).take (i + 1) = (lowB v n).take i ++ [v / 2 ^ (8 * i) % 256] := by
      have : i < (lowB v n).length := by rw [lowB_length]; omega
      rw [List.take_add_one, List.getElem?_eq_getElem this]
      simp [lowB]
    rw [e3, e4, Int.toNat_natCast, e5, e8]
    refine ⟨by omega, fun g => appR ok 600 25 rfl rfl rfl rfl rfl (by decide) rfl rfl rfl rfl rfl rfl rfl (by decide) (by simp) (by show (_ + 1) * 1 ≤ _; omega) (by omega) fun g' c'' => ?_⟩
    simp [hN, e7]
    refine next (i + 1, some ⟨g', 0, none⟩, c'') _ _ (by simp; omega) (fun W h => ⟨by omega, h.2⟩) ?_
    simp [e9, bC, Nat.add_assoc]
  · obtain rfl : i = n := by omega
    have e10 : (lowB v i).take i = lowB v i := by rw [List.take_of_length_le]; rw [lowB_length]; omega
    rw [e10]
    exact retS hC (ra, rc) [600] (by simp) (by simp) fun _ _ _ => trivial
theorem refNumS (w : World) (I : Nat → Prop) (hI : ∀ b, I b → b < w.heap.size) (xs : List Int) (s : Sl) (v : Int) (h : ∀ W, Ext I w W → s.ok dByte W xs) (hl : xs.length + 8 ≤ 100000000000) :
    FnS Tryz.prog 83 #[.slice s.1 xs.length s.2, .int .i64 v] w I noS (fun r : Sl => .slice r.1 (xs.length + 8) r.2) (fun r => [.row r.1 (xs.length + 8) r.2 5 1 (bC (xs ++ intB v))]) (fun _ _ => True) := by
  refine enterS (svs := [.c (.v (.slice s.1 xs.length s.2)), .c (.v (.int .i64 v))]) tysOk Tryz.func83 rfl Tryz.ntmps83 Tryz.results83 (by kernel_rfl) (by simp) hI [] (owns_nil w) (fun b hb => hb.elim) (fun W => s.ok dByte W xs) h fun C hC hN ok => ?_
  simp [hN, u64_wrap]
  refine callS ok rfl rfl rfl [] [] trivial rfl (fun x : Sl => [(600, .row x.1 (xs.length + 8) x.2 5 1 (bC (xs ++ intB v)))]) (fun w I S hI hG hO hS => (refPutS w I hI xs s _ 8 hG hl (by omega) (Int.emod_nonneg _ (by decide))).lone hO) (fun r => by simp [intB]) (.inl fun k hk => by cases hk) fun x W _ => ?_
  simp [hN]
  exact retS hC x [600] rfl (by simp) fun W _ hG => trivial
theorem refTextS (w : World) (I : Nat → Prop) (hI : ∀ b, I b → b < w.heap.size) (xs : List Int) (s : Sl) (t : ByteArray) (h : ∀ W, Ext I w W → s.ok dByte W xs) (hl : xs.length + (4 + t.size) ≤ 100000000000) :
    FnS Tryz.prog 84 #[.slice s.1 xs.length s.2, .string t] w I noS (fun r : Sl => .slice r.1 (xs.length + (4 + t.size)) r.2) (fun r => [.row r.1 (xs.length + (4 + t.size)) r.2 5 1 (bC (xs ++ textB t))]) (fun _ _ => True) := by
  refine enterS (svs := [.c (.v (.slice s.1 xs.length s.2)), .c (.v (.string t))]) tysOk Tryz.func84 rfl Tryz.ntmps84 Tryz.results84 (by kernel_rfl) (by simp) hI [] (owns_nil w) (fun b hb => hb.elim) (fun W => s.ok dByte W xs) h fun C hC hN ok => ?_
  have e1 : IntKind.u64.wrap (t.size : Int) = (t.size : Int) := by rw [u64_wrap]; omega
  simp [hN, e1]
  refine callS ok rfl rfl rfl [] [] trivial rfl (fun x : Sl => [(600, .row x.1 (xs.length + 4) x.2 5 1 (bC (xs ++ lowB t.size 4)))]) (fun w I S hI hG hO hS => (refPutS w I hI xs s _ 4 hG (by omega) (by omega) (by omega)).lone hO) (fun r => by simp) (.inl fun k hk => by cases hk) fun x W _ => ?_
  simp [hN]
  refine rowSome 600 rfl (by omega) fun g e => ?_
  obtain ⟨xa, xc⟩ := x
  simp only at e
  subst e
  refine appT ok 600 rfl rfl rfl rfl rfl rfl rfl rfl rfl rfl rfl rfl rfl (by show _ * 1 ≤ _; omega) (by omega) fun g' c'' => ?_
  simp [hN]
  exact retS hC (some ⟨g', 0, none⟩, c'') [600] (by simp [Nat.add_assoc]) (by simp [Nat.add_assoc, textB, bC]) fun W _ hG => trivial
end Go.Proofs.YtbbaoeidobdblaaGreat.Sx

/- ref09.Pack. -/
set_option linter.unusedVariables false
set_option linter.unusedSimpArgs false
namespace Go.Proofs.YtbbaoeidobdblaaGreat.Sx
open Go

attribute [local simp ↓] ifb_true' ifb_false'
attribute [local simp] ifb_true ifb_false ifb_eq sx argsT find ev evOp evs evo evBin evInt evStr evNil evNilA ptrA slcA isNoneA asB evLoad look del cellsB evUn evConv kdec fld evFieldA evField evIdxA evIdx evSlc bndL bndH evLen mmi put resV guardV gvL setO tupV cellsOf ones one upd lits nv exitTo SV.val CV.val TI.agg rdyA allR keepB scan simpO gsp isS subs keepT pickT wr memN pubs Res.fact Region.binds bld rest give delL back Res.eqv vi vb num Sv.val undef
theorem refPut1 {w : World} {I : Nat → Prop} (hI : ∀ b, I b → b < w.heap.size) {a : Option Addr} {m c : Nat} (xs : List Int) (v : Int) (n : Nat) (h : ∀ W, Ext I w W → Sv.ok dByte W (a, m, c) xs) (hl : m + n ≤ 100000000000) (hn : n ≤ 8) (hv : 0 ≤ v) :
    FnS Tryz.prog 40 #[.slice a m c, .int .u64 v, .int .i64 n] w I noS (fun r : Sl => .slice r.1 (m + n) r.2) (fun r => [.row r.1 (m + n) r.2 5 1 (bC (xs ++ lowB v n))]) (fun _ _ => True) := by
  obtain rfl : m = xs.length := (h w (Ext.refl _ _)).1
  exact refPutS w I hI xs (a, c) v n (fun W e => (h W e).2) hl hn hv
theorem refNum1 {w : World} {I : Nat → Prop} (hI : ∀ b, I b → b < w.heap.size) {a : Option Addr} {m c : Nat} (xs : List Int) (v : Int) (h : ∀ W, Ext I w W → Sv.ok dByte W (a, m, c) xs) (hl : m + 8 ≤ 100000000000) :
    FnS Tryz.prog 83 #[.slice a m c, .int .i64 v] w I noS (fun r : Sl => .slice r.1 (m + 8) r.2) (fun r => [.row r.1 (m + 8) r.2 5 1 (bC (xs ++ intB v))]) (fun _ _ => True) := by
  obtain rfl : m = xs.length := (h w (Ext.refl _ _)).1
  exact refNumS w I hI xs (a, c) v (fun W e => (h W e).2) hl
theorem refText1 {w : World} {I : Nat → Prop} (hI : ∀ b, I b → b < w.heap.size) {a : Option Addr} {m c : Nat} (xs : List Int) (t : ByteArray) (h : ∀ W, Ext I w W → Sv.ok dByte W (a, m, c) xs) (hl : m + (4 + t.size) ≤ 100000000000) :
    FnS Tryz.prog 84 #[.slice a m c, .string t] w I noS (fun r : Sl => .slice r.1 (m + (4 + t.size)) r.2) (fun r => [.row r.1 (m + (4 + t.size)) r.2 5 1 (bC (xs ++ textB t))]) (fun _ _ => True) := by
  obtain rfl : m = xs.length := (h w (Ext.refl _ _)).1
  exact refTextS w I hI xs (a, c) t (fun W e => (h W e).2) hl
theorem row_ok {W : World} {a : Option Addr} {n c : Nat} {xs : List Int} (h : W.ownsRow 0 5 1 (.slice a n c) n ((bC xs).map CV.val)) (hn : n = xs.length) (hl : n ≤ 100000000000) : Sv.ok dByte W (a, n, c) xs := by
  subst hn
  exact byte_ok (by simpa [bC_val] using h) hl
set_option maxHeartbeats 2000000 in
theorem refPack0 (w : World) (I : Nat → Prop) (hI : ∀ b, I b → b < w.heap.size) (l : List Dee) (s : Sv) (h : ∀ W, Ext I w W → s.ok dDee W l) (hl : (deedsB l).length ≤ 10000000000) (hp : ∀ d ∈ l, d.ino.ents = [] ∧ d.ino.runs = []) :
    Fn0 Tryz.prog 42 #[s.val] w I Sv.val (fun r W => Sv.ok dByte W r (deedsB l)) := by
  obtain ⟨sa, sn, sc⟩ := s
  obtain rfl : sn = l.length := (h w (Ext.refl _ _)).1
  have hx := (h w (Ext.refl _ _)).2.2.1
  refine enter (svs := [.c (.v (.slice sa l.length sc))]) tysOk Tryz.func42 rfl Tryz.ntmps42 Tryz.results42 (by kernel_rfl) (by simp) hI (fun W => Sv.ok dDee W (sa, l.length, sc) l) h fun C hC hN ok => ?_
  simp [hN]
  have b1 := fm_le deedB l
  refine nilr 600 5 1 (loop ok (fun a : Nat × Nat × Sl => [(4, .c (.v (.int .i64 (a.1 : Nat)))), (3, .c (.v (.slice a.2.2.1 a.2.1 a.2.2.2)))]) (fun a => [(600, .row a.2.2.1 a.2.1 a.2.2.2 5 1 (bC ((l.take a.1).flatMap deedB)))]) (fun a W => a.1 ≤ l.length ∧ a.2.1 = ((l.take a.1).flatMap deedB).length) (fun a => l.length - a.1) (0, 0, (none, 0)) ?_ ?_ (fun W hW => ⟨Nat.zero_le _, rfl⟩) ?_)
  · simp
  · simp [bC]
  rintro ⟨i, yn, ya, yc⟩ W ⟨hi, hr⟩ hG next
  simp only at hi hr
  simp [hN]
  refine ⟨fun hlt => ?_, fun hge => ?_⟩
  · have hG' : Sv.ok dDee W (sa, l.length, sc) l := hG
    obtain ⟨b, o, e⟩ := hG'.2.2.2.is_some (Nat.lt_of_le_of_lt (Nat.zero_le _) hlt)
    cases e
    simp [hN]
    have hb := b1 (i + 1)
    rw [fm_take _ _ _ hlt, List.length_append] at hb
    have hb2 : yn + (deedB l[i]).length ≤ 10000000000 := by rw [hr]; exact Nat.le_trans hb hl
    have e6 : IntKind.i64.wrap ((i : Int) + 1) = (i + 1 : Nat) := by rw [w64 (by omega) (by omega)]; omega
    have ft := fm_take deedB _ _ hlt
    have hpi := hp _ (List.getElem_mem hlt)
    generalize hd : l[i] = d at hb2 ft hpi
    obtain ⟨X, hX⟩ : ∃ X, X = (l.take i).flatMap deedB := ⟨_, rfl⟩
    rw [← hX] at ft hr ⊢
    refine ⟨hlt, loadA ok rfl rfl rfl rfl (fun c W => dDee.K W d c) (fun W hW => ?_) ?_⟩
    · obtain ⟨cs, hk, hl, hc⟩ := hW.2.2.2.2.get hlt
      rw [hd] at hk
      exact ⟨cs, hl, hc, hk⟩
    · rintro v W _ ⟨⟨ea, ec⟩, ⟨ra, rc⟩, rfl, hR⟩ hG2
      simp [hN]
      have hd1 : 1 ≤ (deedB d).length := by simp only [deedB, List.length_append, lowB_length]; omega
      have k0 : lowB (d.kind % 18446744073709551616) 1 = [d.kind % 256] := by simp [lowB]
      intro g5 g6
      refine appR ok 600 23 rfl rfl rfl rfl rfl (by decide) rfl rfl rfl rfl rfl rfl rfl (by decide) (by simp) (by show (_ + 1) * 1 ≤ _; omega) (by omega) fun g7 c7 => ?_
      have hbs : ∀ v : Int, bC X ++ [CV.v (.int .u8 v)] = bC (X ++ [v]) := fun v => by simp [bC]
      simp [hN, u8_wrap, hbs]
      obtain ⟨Y, hY⟩ : ∃ Y, Y = X ++ [d.kind % 256] := ⟨_, rfl⟩
      rw [← hY]
      have hYl : yn + 1 = Y.length := by rw [hY, List.length_append, ← hr]; rfl
      refine ⟨fun k1 => ?_, fun k1 => ⟨fun k2 => ?_, fun k2 => ⟨fun k3 => ?_, fun k3 => ⟨fun k4 => ?_, fun k4 => ?_⟩⟩⟩⟩
      · have td : deedB d = lowB (d.kind % 18446744073709551616) 1 ++ intB d.no := by simp [deedB, tailB, k1]
        rw [td, k0] at hb2 ft
        simp only [List.length_append, List.length_cons, List.length_nil, intB_length] at hb2
        refine pub 600 rfl (by decide) (callS ok rfl rfl rfl [] [] trivial rfl (fun x : Sl => [(600, .row x.1 (yn + 1 + 8) x.2 5 1 (bC (Y ++ intB d.no)))]) (fun w I S hI hG hO hS => (refNum1 hI Y d.no (fun W e => row_ok (hG W e).1 hYl (by omega)) (by omega)).lone hO) (fun r => by simp) (.inl fun k hk => by cases hk) fun x W _ => ?_)
        simp [hN, e6]
        refine next (i + 1, yn + 1 + 8, x) _ _ (by simp; omega) (fun W h => ⟨⟨hlt, by rw [ft, List.length_append, List.length_append, ← hr]; simp [intB_length]⟩, h.2.2.2⟩) ?_
        simp [ft, hY]
      · have td : deedB d = lowB (d.kind % 18446744073709551616) 1 ++ intB d.no := by simp [deedB, tailB, k2]
        rw [td, k0] at hb2 ft
        simp only [List.length_append, List.length_cons, List.length_nil, intB_length] at hb2
        refine pub 600 rfl (by decide) (callS ok rfl rfl rfl [] [] trivial rfl (fun x : Sl => [(600, .row x.1 (yn + 1 + 8) x.2 5 1 (bC (Y ++ intB d.no)))]) (fun w I S hI hG hO hS => (refNum1 hI Y d.no (fun W e => row_ok (hG W e).1 hYl (by omega)) (by omega)).lone hO) (fun r => by simp) (.inl fun k hk => by cases hk) fun x W _ => ?_)
        simp [hN, e6]
        refine next (i + 1, yn + 1 + 8, x) _ _ (by simp; omega) (fun W h => ⟨⟨hlt, by rw [ft, List.length_append, List.length_append, ← hr]; simp [intB_length]⟩, h.2.2.2⟩) ?_
        simp [ft, hY]
      · have td : deedB d = lowB (d.kind % 18446744073709551616) 1 ++ intB d.no := by simp [deedB, tailB, k3]
        rw [td, k0] at hb2 ft
        simp only [List.length_append, List.length_cons, List.length_nil, intB_length] at hb2
        refine pub 600 rfl (by decide) (callS ok rfl rfl rfl [] [] trivial rfl (fun x : Sl => [(600, .row x.1 (yn + 1 + 8) x.2 5 1 (bC (Y ++ intB d.no)))]) (fun w I S hI hG hO hS => (refNum1 hI Y d.no (fun W e => row_ok (hG W e).1 hYl (by omega)) (by omega)).lone hO) (fun r => by simp) (.inl fun k hk => by cases hk) fun x W _ => ?_)
        simp [hN, e6]
        refine next (i + 1, yn + 1 + 8, x) _ _ (by simp; omega) (fun W h => ⟨⟨hlt, by rw [ft, List.length_append, List.length_append, ← hr]; simp [intB_length]⟩, h.2.2.2⟩) ?_
        simp [ft, hY]
      · have td : deedB d = lowB (d.kind % 18446744073709551616) 1 ++ inoB d.ino := by simp [deedB, tailB, k4]
        rw [td, k0] at hb2 ft
        have hx1 := hR.1.2.1
        have hx2 := hR.2.2.1
        obtain ⟨he, hr2⟩ := hpi
        generalize hx : d.ino = x at *
        simp only [List.length_append, List.length_cons, List.length_nil, inoB_length] at hb2
        intro g8
        refine pub 600 rfl (by decide) (drawK ok mixed (by kernel_rfl) ?_)
        simp [hN]
        refine callS ok rfl rfl rfl [] [] trivial rfl (fun r : Sl => [(600, .row r.1 (yn + 1 + 8) r.2 5 1 (bC (Y ++ intB x.no)))]) (fun w I S hI hG hO hS => (refNum1 hI (Y) x.no (fun W e => row_ok (hG W e).1 hYl (by omega)) (by omega)).lone hO) (fun r => by simp) (.inl fun k hk => by cases hk) fun r0 W _ => ?_
        obtain ⟨Y0, hY0⟩ : ∃ Z, Z = Y ++ intB x.no := ⟨_, rfl⟩
        obtain ⟨n0, hn0⟩ : ∃ n, n = yn + 1 + 8 := ⟨_, rfl⟩
        have hl0 : n0 = Y0.length := by rw [hY0, List.length_append, ← hYl, hn0, intB_length]
        rw [← hY0, ← hn0]
        obtain ⟨ra0, rc0⟩ := r0
        simp [hN]
        refine pub 600 rfl (by decide) (callS ok rfl rfl rfl [] [] trivial rfl (fun r : Sl => [(600, .row r.1 (n0 + 8) r.2 5 1 (bC (Y0 ++ intB x.kind)))]) (fun w I S hI hG hO hS => (refNum1 hI (Y0) x.kind (fun W e => row_ok (hG W e).1 hl0 (by omega)) (by omega)).lone hO) (fun r => by simp) (.inl fun k hk => by cases hk) fun r1 W _ => ?_)
        obtain ⟨Y1, hY1⟩ : ∃ Z, Z = Y0 ++ intB x.kind := ⟨_, rfl⟩
        obtain ⟨n1, hn1⟩ : ∃ n, n = n0 + 8 := ⟨_, rfl⟩
        have hl1 : n1 = Y1.length := by rw [hY1, List.length_append, ← hl0, hn1, intB_length]
        rw [← hY1, ← hn1]
        obtain ⟨ra1, rc1⟩ := r1
        simp [hN]
        refine pub 600 rfl (by decide) (callS ok rfl rfl rfl [] [] trivial rfl (fun r : Sl => [(600, .row r.1 (n1 + 8) r.2 5 1 (bC (Y1 ++ intB x.links)))]) (fun w I S hI hG hO hS => (refNum1 hI (Y1) x.links (fun W e => row_ok (hG W e).1 hl1 (by omega)) (by omega)).lone hO) (fun r => by simp) (.inl fun k hk => by cases hk) fun r2 W _ => ?_)
        obtain ⟨Y2, hY2⟩ : ∃ Z, Z = Y1 ++ intB x.links := ⟨_, rfl⟩
        obtain ⟨n2, hn2⟩ : ∃ n, n = n1 + 8 := ⟨_, rfl⟩
        have hl2 : n2 = Y2.length := by rw [hY2, List.length_append, ← hl1, hn2, intB_length]
        rw [← hY2, ← hn2]
        obtain ⟨ra2, rc2⟩ := r2
        simp [hN]
        refine pub 600 rfl (by decide) (callS ok rfl rfl rfl [] [] trivial rfl (fun r : Sl => [(600, .row r.1 (n2 + 8) r.2 5 1 (bC (Y2 ++ intB x.size)))]) (fun w I S hI hG hO hS => (refNum1 hI (Y2) x.size (fun W e => row_ok (hG W e).1 hl2 (by omega)) (by omega)).lone hO) (fun r => by simp) (.inl fun k hk => by cases hk) fun r3 W _ => ?_)
        obtain ⟨Y3, hY3⟩ : ∃ Z, Z = Y2 ++ intB x.size := ⟨_, rfl⟩
        obtain ⟨n3, hn3⟩ : ∃ n, n = n2 + 8 := ⟨_, rfl⟩
        have hl3 : n3 = Y3.length := by rw [hY3, List.length_append, ← hl2, hn3, intB_length]
        rw [← hY3, ← hn3]
        obtain ⟨ra3, rc3⟩ := r3
        simp [hN]
        have e1 : IntKind.u64.wrap (x.ents.length : Int) = x.ents.length := by rw [u64_wrap]; omega
        have e2 : IntKind.u64.wrap (x.runs.length : Int) = x.runs.length := by rw [u64_wrap]; omega
        refine pub 600 rfl (by decide) (drawK ok mixed (by kernel_rfl) ?_)
        simp [hN]
        refine callS ok rfl rfl rfl [] [] trivial rfl (fun r : Sl => [(600, .row r.1 (n3 + (4 + x.target.size)) r.2 5 1 (bC (Y3 ++ textB x.target)))]) (fun w I S hI hG hO hS => (refText1 hI (Y3) x.target (fun W e => row_ok (hG W e).1 hl3 (by omega)) (by omega)).lone hO) (fun r => by simp) (.inl fun k hk => by cases hk) fun r4 W _ => ?_
        obtain ⟨Y4, hY4⟩ : ∃ Z, Z = Y3 ++ textB x.target := ⟨_, rfl⟩
        obtain ⟨n4, hn4⟩ : ∃ n, n = n3 + (4 + x.target.size) := ⟨_, rfl⟩
        have hl4 : n4 = Y4.length := by rw [hY4, List.length_append, ← hl3, hn4, textB_length]; omega
        rw [← hY4, ← hn4]
        obtain ⟨ra4, rc4⟩ := r4
        simp [hN, e1]
        refine pub 600 rfl (by decide) (callS ok rfl rfl rfl [] [] trivial rfl (fun r : Sl => [(600, .row r.1 (n4 + 4) r.2 5 1 (bC (Y4 ++ lowB x.ents.length 4)))]) (fun w I S hI hG hO hS => (refPut1 hI (Y4) x.ents.length 4 (fun W e => row_ok (hG W e).1 hl4 (by omega)) (by omega) (by omega) (by omega)).lone hO) (fun r => by simp) (.inl fun k hk => by cases hk) fun r5 W _ => ?_)
        obtain ⟨Y5, hY5⟩ : ∃ Z, Z = Y4 ++ lowB x.ents.length 4 := ⟨_, rfl⟩
        obtain ⟨n5, hn5⟩ : ∃ n, n = n4 + 4 := ⟨_, rfl⟩
        have hl5 : n5 = Y5.length := by rw [hY5, List.length_append, ← hl4, hn5, lowB_length]
        rw [← hY5, ← hn5]
        obtain ⟨ra5, rc5⟩ := r5
        simp [hN]
        refine loop ok (fun _ : Unit => [(7, .c (.v (.int .i64 0))), (3, .c (.v (.slice ra5 n5 rc5)))]) (fun _ => [(600, .row ra5 n5 rc5 5 1 (bC Y5)), (6, .box g8 44 [.v (.int .i64 x.no), .v (.int .i64 x.kind), .v (.int .i64 x.links), .v (.int .i64 x.size), .v (.string x.target), .v (.slice ea x.ents.length ec), .v (.slice ra x.runs.length rc)])]) (fun _ W => True) (fun _ => 0) () ?_ ?_ (fun W hW => trivial) ?_
        · simp
        · simp
        rintro _ W _ hG3 next2
        simp [hN, he, e2]
        refine pub 600 rfl (by decide) (callS ok rfl rfl rfl [] [] trivial rfl (fun r : Sl => [(600, .row r.1 (n5 + 4) r.2 5 1 (bC (Y5 ++ lowB x.runs.length 4)))]) (fun w I S hI hG hO hS => (refPut1 hI (Y5) x.runs.length 4 (fun W e => row_ok (hG W e).1 hl5 (by omega)) (by omega) (by omega) (by omega)).lone hO) (fun r => by simp) (.inl fun k hk => by cases hk) fun r6 W _ => ?_)
        obtain ⟨Y6, hY6⟩ : ∃ Z, Z = Y5 ++ lowB x.runs.length 4 := ⟨_, rfl⟩
        obtain ⟨n6, hn6⟩ : ∃ n, n = n5 + 4 := ⟨_, rfl⟩
        have hl6 : n6 = Y6.length := by rw [hY6, List.length_append, ← hl5, hn6, lowB_length]
        rw [← hY6, ← hn6]
        obtain ⟨ra6, rc6⟩ := r6
        simp [hN]
        refine loop ok (fun _ : Unit => [(8, .c (.v (.int .i64 0))), (3, .c (.v (.slice ra6 n6 rc6)))]) (fun _ => [(600, .row ra6 n6 rc6 5 1 (bC Y6)), (6, .box g8 44 [.v (.int .i64 x.no), .v (.int .i64 x.kind), .v (.int .i64 x.links), .v (.int .i64 x.size), .v (.string x.target), .v (.slice ea x.ents.length ec), .v (.slice ra x.runs.length rc)])]) (fun _ W => True) (fun _ => 0) () ?_ ?_ (fun W hW => trivial) ?_
        · simp [he, hr2]
        · simp [he, hr2]
        rintro _ W _ hG4 next3
        simp [hN, hr2, e6]
        have hY6' : X ++ (d.kind % 256 :: inoB x) = Y6 := by
          rw [hY6, hY5, hY4, hY3, hY2, hY1, hY0, hY]
          simp [inoB, headB, he, hr2]
        refine next (i + 1, n6, ra6, rc6) _ _ (by simp; omega) (fun W h => ⟨⟨hlt, by rw [ft, hl6, ← hY6']; simp⟩, by
          show Sv.ok dDee W (some ⟨b, o, none⟩, l.length, sc) l
          repeat (first | with_reducible exact h | replace h := h.2)⟩) ?_
        simp [ft, ← hY6']
      · have td : deedB d = lowB (d.kind % 18446744073709551616) 1 := by simp [deedB, tailB, k1, k2, k3, k4]
        rw [td, k0] at ft
        simp [hN, e6]
        refine next (i + 1, yn + 1, some ⟨g7, 0, none⟩, c7) _ _ (by simp; omega) (fun W h => ⟨⟨hlt, by rw [ft, List.length_append, ← hr]; rfl⟩, h.2.2⟩) ?_
        simp [ft, hY]
  · have hi' : i = l.length := by omega
    subst hi'
    rw [List.take_length] at hr ⊢
    refine ret0 hC (ya, yn, yc) rfl fun W hp hG => ?_
    simp only [pubs, Res.fact] at hp
    have hl' : (l.flatMap deedB).length ≤ 10000000000 := hl
    exact row_ok hp.1 hr (by rw [hr]; exact Nat.le_trans hl' (by omega))
end Go.Proofs.YtbbaoeidobdblaaGreat.Sx

/- ref09.Whole, ref17.first, Fits. -/
set_option linter.unusedVariables false
set_option linter.unusedSimpArgs false
namespace Go.Proofs.YtbbaoeidobdblaaGreat.Sx
open Go

attribute [local simp ↓] ifb_true' ifb_false'
attribute [local simp] ifb_true ifb_false ifb_eq sx argsT find ev evOp evs evo evBin evInt evStr evNil evNilA ptrA slcA isNoneA asB evLoad look del cellsB evUn evConv kdec fld evFieldA evField evIdxA evIdx evSlc bndL bndH evLen mmi put resV guardV gvL setO tupV cellsOf ones one upd lits nv exitTo SV.val CV.val TI.agg rdyA allR keepB scan simpO gsp isS subs keepT pickT wr memN pubs Res.fact Region.binds bld rest give delL back Res.eqv vi vb num Sv.val undef
theorem refWhole0 (w : World) (I : Nat → Prop) (hI : ∀ b, I b → b < w.heap.size) (s : Sta) (si sb : Sl) (h : ∀ W, Ext I w W → StaR W s si sb) (hl : s.inos.length + s.bad.length ≤ 1000000000) :
    Fn0 Tryz.prog 113 #[.agg (staC s si sb).toArray] w I Sv.val (fun r W => Sv.ok dDee W r (wholeL s)) := by
  obtain ⟨ia, ic⟩ := si
  obtain ⟨ba, bc⟩ := sb
  refine enter (svs := [.ag ((staC s (ia, ic) (ba, bc)).map .v)]) tysOk Tryz.func113 rfl Tryz.ntmps113 Tryz.results113 (by kernel_rfl) (by simp) hI (fun W => StaR W s (ia, ic) (ba, bc)) h fun C hC hN ok => ?_
  simp [hN]
  intro g1 g2
  have z0 : ∀ W, InoR W inoZ (none, 0) (none, 0) := fun W => ⟨⟨Nat.le_refl _, by simp [inoZ], rd_nil _ _ _⟩, ⟨Nat.le_refl _, by simp [inoZ], rd_nil _ _ _⟩⟩
  refine loop ok (fun y : Nat × Option Addr × Nat × List Dx => [(4, .c (.v (.int .i64 (y.1 : Nat)))), (3, .c (.v (.slice y.2.1 (y.1 + 1) y.2.2.1)))]) (fun y => [(9, .row y.2.1 (y.1 + 1) y.2.2.1 46 9 (deesC y.2.2.2)), (1, .box g1 39 ((staC s (ia, ic) (ba, bc)).map .v))]) (fun y W => y.1 ≤ s.inos.length ∧ y.2.2.2.map Prod.fst = ⟨1, s.next, inoZ⟩ :: ((s.inos.take y.1).map fun x => ⟨2, 0, x⟩) ∧ DeesR W y.2.2.2) (fun y => s.inos.length - y.1) (0, some ⟨g2, 0, none⟩, 1, [(⟨1, s.next, inoZ⟩, (none, 0), (none, 0))]) ?_ ?_ (fun W hW => ⟨Nat.zero_le _, by simp, fun y hy => by rw [List.mem_singleton.1 hy]; exact z0 W⟩) ?_
  · simp
  · simp [deesC, inoZ]
  rintro ⟨i, ya, yc, l⟩ W ⟨hi, hm, hr⟩ hG next
  simp [hN]
  refine ⟨fun hlt => ?_, fun hge => ?_⟩
  · obtain ⟨b, o, e⟩ := (sta_get (show StaR W s (ia, ic) (ba, bc) from hG)).1.2.2.2.is_some (Nat.lt_of_le_of_lt (Nat.zero_le _) hlt)
    cases e
    simp [hN]
    have e6 : IntKind.i64.wrap ((i : Int) + 1) = (i + 1 : Nat) := by rw [w64 (by omega) (by omega)]; omega
    have ft : s.inos.take (i + 1) = s.inos.take i ++ [s.inos[i]] := by rw [List.take_add_one, List.getElem?_eq_getElem hlt]; rfl
    generalize hd : s.inos[i] = d at ft
    refine ⟨hlt, loadA ok rfl rfl rfl rfl (fun c W => dIno.K W d c) (fun W hW => ?_) ?_⟩
    · obtain ⟨cs, hk, hl, hc⟩ := (sta_get hW.2).1.2.2.2.get hlt
      rw [hd] at hk
      exact ⟨cs, hl, hc, hk⟩
    · rintro v W _ ⟨⟨ea, ec⟩, ⟨ra, rc⟩, rfl, hR⟩ hG2
      simp [hN]
      intro g5
      refine appR ok 9 24 rfl rfl rfl rfl rfl (by decide) rfl rfl rfl rfl rfl rfl rfl (by decide) (by simp) (by show (i + 1 + 1) * 112 ≤ _; omega) (by omega) fun g' c' => ?_
      simp [hN, e6]
      refine next (i + 1, some ⟨g', 0, none⟩, c', l ++ [(⟨2, 0, d⟩, (ea, ec), (ra, rc))]) _ _ (by simp; omega) (fun W h => ⟨⟨hlt, by simp [hm, ft], fun y hy => ?_⟩, h.2.2⟩) ?_
      · rcases List.mem_append.1 hy with hy | hy
        · exact h.2.1.2.2 y hy
        · rw [List.mem_singleton.1 hy]
          exact ino_get h.1
      · simp [deesC_snoc]
  · have hi' : i = s.inos.length := by simp only at hi; omega
    subst hi'
    have hT : s.inos.take s.inos.length = s.inos := List.take_length
    rw [hT] at *
    simp [hN]
    refine loop ok (fun y : Nat × Option Addr × Nat × List Dx => [(5, .c (.v (.int .i64 (y.1 : Nat)))), (3, .c (.v (.slice y.2.1 (s.inos.length + 1 + y.1) y.2.2.1)))]) (fun y => [(9, .row y.2.1 (s.inos.length + 1 + y.1) y.2.2.1 46 9 (deesC y.2.2.2)), (1, .box g1 39 ((staC s (ia, ic) (ba, bc)).map .v))]) (fun y W => y.1 ≤ s.bad.length ∧ y.2.2.2.map Prod.fst = ⟨1, s.next, inoZ⟩ :: (s.inos.map fun x => ⟨2, 0, x⟩) ++ ((s.bad.take y.1).map fun n => ⟨4, n, inoZ⟩) ∧ DeesR W y.2.2.2) (fun y => s.bad.length - y.1) (0, ya, yc, l) ?_ ?_ (fun W hW => ⟨Nat.zero_le _, by simpa using hm, hW.1.2⟩) ?_
    · simp
    · simp
    rintro ⟨i, za, zc, k⟩ W ⟨hi2, hm2, hr2⟩ hG3 next2
    simp [hN]
    refine ⟨fun hlt => ?_, fun hge => ?_⟩
    · obtain ⟨b, o, e⟩ := (sta_get (show StaR W s (ia, ic) (ba, bc) from hG3.2)).2.2.2.2.is_some (Nat.lt_of_le_of_lt (Nat.zero_le _) hlt)
      cases e
      simp [hN]
      have e6 : IntKind.i64.wrap ((i : Int) + 1) = (i + 1 : Nat) := by rw [w64 (by omega) (by omega)]; omega
      have ft : s.bad.take (i + 1) = s.bad.take i ++ [s.bad[i]] := by rw [List.take_add_one, List.getElem?_eq_getElem hlt]; rfl
      generalize hd : s.bad[i] = d at ft
      refine ⟨hlt, load1 ok rfl rfl rfl rfl (fun v W => v = .int .i64 d) (fun W hW => ?_) ?_⟩
      · obtain ⟨cs, hk, _, hc⟩ := (sta_get hW.2.2).2.2.2.2.get hlt
        rw [hd] at hk
        exact ⟨_, by simpa [dInt, flat] using hc 0 (.int .i64 d) (by rw [hk]; rfl), rfl⟩
      · rintro v W rfl hG4
        simp [hN]
        intro g15
        refine appR ok 9 40 rfl rfl rfl rfl rfl (by decide) rfl rfl rfl rfl rfl rfl rfl (by decide) (by simp) (by show (s.inos.length + 1 + i + 1) * 112 ≤ _; omega) (by omega) fun g' c' => ?_
        simp [hN, e6]
        refine next2 (i + 1, some ⟨g', 0, none⟩, c', k ++ [(⟨4, d, inoZ⟩, (none, 0), (none, 0))]) _ _ (by simp; omega) (fun W h => ⟨⟨hlt, by simp [hm2, ft], fun y hy => ?_⟩, h.2⟩) ?_
        · rcases List.mem_append.1 hy with hy | hy
          · exact h.1.2.2 y hy
          · rw [List.mem_singleton.1 hy]
            exact z0 W
        · simp [deesC_snoc, inoZ, Nat.add_assoc]
    · have hi' : i = s.bad.length := by simp only at hi2; omega
      subst hi'
      have hT2 : s.bad.take s.bad.length = s.bad := List.take_length
      have hm3 : k.map Prod.fst = wholeL s := by rw [hm2, hT2]; rfl
      have hkl : (wholeL s).length = s.inos.length + 1 + s.bad.length := by simp [wholeL]; omega
      refine ret0 hC (za, s.inos.length + 1 + s.bad.length, zc) rfl fun W hp hG => ?_
      have hrw := dees_rows k hG.1.2.2
      rw [hm3] at hrw
      obtain ⟨k1, k2, k3⟩ := hrw.rd hp.1 (by decide)
      exact ⟨k1, by simp; omega, by omega, k3⟩
set_option maxHeartbeats 1000000 in
theorem first17_0 (w : World) (I : Nat → Prop) (hI : ∀ b, I b → b < w.heap.size) (e : Int) (s : Sta) (si sb : Sl) (h : ∀ W, Ext I w W → StaR W s si sb) (hl : s.inos.length + s.bad.length ≤ 1000000000) (hl2 : (deedsB (wholeL s)).length ≤ 10000000000) (hp : ∀ x ∈ s.inos, x.ents = [] ∧ x.runs = []) :
    Fn0 Tryz.prog 65 #[.int .i64 e, .agg (staC s si sb).toArray] w I (fun r : Sl => .slice r.1 (firstB e s).length r.2) (fun r W => r.ok dByte W (firstB e s)) := by
  obtain ⟨ia, ic⟩ := si
  obtain ⟨ba, bc⟩ := sb
  refine enter (svs := [.c (.v (.int .i64 e)), .ag ((staC s (ia, ic) (ba, bc)).map .v)]) tysOk Tryz.func65 rfl Tryz.ntmps65 Tryz.results65 (by kernel_rfl) (by simp) hI (fun W => StaR W s (ia, ic) (ba, bc)) h fun C hC hN ok => ?_
  simp [hN]
  intro g1
  refine drawK ok mixed (by kernel_rfl) ?_
  simp (maxSteps := 2000000) -implicitDefEqProofs [hN, u64_wrap]
  refine callS ok rfl rfl rfl [] [] trivial rfl (fun x : Sl => [(600, .row x.1 8 x.2 5 1 (bC (intB e)))]) (fun w I S hI hG hO hS => (refPutS w I hI [] (none, 0) _ 8 (fun W _ => by simp [Sl.ok, Rd]) (by simp) (by omega) (Int.emod_nonneg _ (by decide))).lone hO) (fun r => by simp [intB]) (.inl fun k hk => by cases hk) fun x W _ => ?_
  simp (maxSteps := 2000000) -implicitDefEqProofs [hN]
  refine call0 ok rfl rfl rfl (fun w I hI hG => refWhole0 w I hI s (ia, ic) (ba, bc) (fun W e => hG W e) hl) fun y W hy => ?_
  simp (maxSteps := 2000000) -implicitDefEqProofs [hN]
  refine call0 ok rfl rfl rfl (fun w I hI hG => refPack0 w I hI (wholeL s) y (fun W e => (hG W e).1) hl2 (fun d hd => ?_)) fun z W hz => ?_
  · simp only [wholeL, List.mem_cons, List.cons_append, List.mem_append, List.mem_map] at hd
    rcases hd with rfl | ⟨x, hx, rfl⟩ | ⟨n, _, rfl⟩
    · exact ⟨rfl, rfl⟩
    · exact hp x hx
    · exact ⟨rfl, rfl⟩
  simp (maxSteps := 2000000) -implicitDefEqProofs [hN]
  obtain ⟨za, zn, zc⟩ := z
  have hzn : zn = (deedsB (wholeL s)).length := hz.1
  refine appV ok 600 rfl rfl rfl rfl rfl (by decide) rfl rfl rfl rfl rfl rfl dByte (deedsB (wholeL s)) rfl (by show (8 + _) * 1 ≤ _; omega) (by omega) (fun W hW => hW.1) fun l a' c'' W hl hr _ => ?_
  simp (maxSteps := 2000000) -implicitDefEqProofs [hN]
  have hll : l = (deedsB (wholeL s)).map (Value.int .u8) := rows_byte.1 hr
  have hrow : bC (intB e) ++ l.map nv = bC (firstB e s) := by rw [hll, bC_nv, bC_app, firstB]
  rw [hrow]
  refine ret0 hC (a', c'') (by simp [firstB_length]) fun W hp hG => ?_
  simp only [pubs, Res.fact] at hp
  exact (byte_ok (xs := firstB e s) hp.1 (by rw [firstB_length]; omega)).2
set_option maxRecDepth 100000 in
set_option maxHeartbeats 1000000 in
theorem refRight0 (w : World) (I : Nat → Prop) (hI : ∀ b, I b → b < w.heap.size) (g : Geo) (hg : g.right) :
    Fn0 Tryz.prog 66 #[.agg (geoC g).toArray] w I (fun b : Bool => .bool b) (fun y W => y = true) := by
  refine enter (svs := [.ag ((geoC g).map .v)]) tysOk Tryz.func66 rfl Tryz.ntmps66 Tryz.results66 (by kernel_rfl) (by simp) hI (fun _ => True) (fun _ _ => trivial) fun C hC hN ok => ?_
  obtain ⟨q0, ⟨q1, q2⟩, ⟨q3, q4⟩, ⟨q5, q6⟩, ⟨q7, q8⟩, ⟨q9, q10⟩⟩ := id hg
  simp (maxSteps := 2000000) -implicitDefEqProofs [hN, q0, q1, q2, q3, q4, q5, q6, q7, q8, q9, q10]
  intro g1
  exact ret0 hC true rfl fun _ _ _ => rfl
/-- How many bytes a half has. -/
def hS (g : Geo) : Nat := g.sectors.toNat / 2 * g.sector.toNat
theorem hS_le {g : Geo} (hg : g.right) : (hS g : Int) = g.sectors / 2 * g.sector ∧ hS g ≤ 32768 := by
  obtain ⟨q0, ⟨q1, q2⟩, ⟨q3, q4⟩, _⟩ := id hg
  have h2 : (g.sectors.toNat : Int) = g.sectors := by omega
  have h3 : (g.sector.toNat : Int) = g.sector := by omega
  refine ⟨by unfold hS; rw [Int.natCast_mul, Int.natCast_ediv, h2, h3]; rfl, ?_⟩
  have h5 : g.sectors.toNat / 2 ≤ 8 := by omega
  exact Nat.mul_le_mul h5 (show g.sector.toNat ≤ 4096 by omega)
theorem refHalf0 (w : World) (I : Nat → Prop) (hI : ∀ b, I b → b < w.heap.size) (g : Geo) (hg : g.right) :
    Fn0 Tryz.prog 67 #[.agg (geoC g).toArray] w I (fun v : Int => .int .i64 v) (fun y W => y = hS g) := by
  refine enter (svs := [.ag ((geoC g).map .v)]) tysOk Tryz.func67 rfl Tryz.ntmps67 Tryz.results67 (by kernel_rfl) (by simp) hI (fun _ => True) (fun _ _ => trivial) fun C hC hN ok => ?_
  obtain ⟨q0, ⟨q1, q2⟩, ⟨q3, q4⟩, ⟨q5, q6⟩, ⟨q7, q8⟩, ⟨q9, q10⟩⟩ := id hg
  obtain ⟨k1, k2⟩ := hS_le hg
  have e1 : g.sectors.tdiv 2 = g.sectors / 2 := Int.tdiv_eq_ediv_of_nonneg (by omega)
  have e2 : IntKind.i64.wrap (g.sectors / 2) = g.sectors / 2 := w64 (by omega) (by omega)
  have e3 : IntKind.i64.wrap (g.sectors / 2 * g.sector) = hS g := by rw [← k1]; exact w64 (by omega) (by omega)
  simp [hN]
  intro g1
  refine call0 ok rfl rfl rfl (fun w I hI hG => refRight0 w I hI g hg) fun y W hy => ?_
  subst hy
  simp [hN, e1, e2, e3]
  exact ret0 hC _ rfl fun W _ _ => rfl
set_option maxRecDepth 100000 in
set_option maxHeartbeats 2000000 in
theorem fits0 (w : World) (I : Nat → Prop) (hI : ∀ b, I b → b < w.heap.size) (s : Sta) (si sb : Sl) (g : Geo) {a : Option Addr} {n c : Nat} (l : List Dee) (hg : g.right) (h : ∀ W, Ext I w W → StaR W s si sb) (hd : ∀ W, Ext I w W → Sv.ok dDee W (a, n, c) l) (hl : s.inos.length + l.length ≤ 1000000000 ∧ s.bad.length + l.length ≤ 1000000000)
    (hl2 : (applyL s l).inos.length + (applyL s l).bad.length ≤ 1000000000) (hl3 : (deedsB (wholeL (applyL s l))).length ≤ 1000000000) (hp : ∀ x ∈ (applyL s l).inos, x.ents = [] ∧ x.runs = []) :
    Fn0 Tryz.prog 18 #[.agg (staC s si sb).toArray, .agg (geoC g).toArray, .slice a n c] w I (fun b : Bool => .bool b) (fun y W => y = decide (wholeB (applyL s l) + 15 ≤ hS g)) := by
  obtain ⟨ia, ic⟩ := si
  obtain ⟨ba, bc⟩ := sb
  refine enter (svs := [.ag ((staC s (ia, ic) (ba, bc)).map .v), .ag ((geoC g).map .v), .c (.v (.slice a n c))]) tysOk Tryz.func18 rfl Tryz.ntmps18 Tryz.results18 (by kernel_rfl) (by simp) hI (fun W => StaR W s (ia, ic) (ba, bc) ∧ Sv.ok dDee W (a, n, c) l) (fun W e => ⟨h W e, hd W e⟩) fun C hC hN ok => ?_
  obtain ⟨k1, k2⟩ := hS_le hg
  have hB : wholeB (applyL s l) = (deedsB (wholeL (applyL s l))).length := rfl
  simp [hN]
  intro g1 g2
  refine call0 ok rfl rfl rfl (fun w I hI hG => refApply0 w I hI s (ia, ic) (ba, bc) l (fun W e => (hG W e).1) (fun W e => (hG W e).2) hl) fun y W _ => ?_
  obtain ⟨⟨ya, yc⟩, ⟨za, zc⟩⟩ := y
  simp [hN]
  refine call0 ok rfl rfl rfl (fun w I hI hG => first17_0 w I hI 1 (applyL s l) (ya, yc) (za, zc) (fun W e => (hG W e).1) hl2 (by omega) hp) fun y W _ => ?_
  have hfl : (firstB 1 (applyL s l)).length = 8 + wholeB (applyL s l) := firstB_length _ _
  rw [hfl]
  obtain ⟨K, hK⟩ : ∃ K, K = wholeB (applyL s l) := ⟨_, rfl⟩
  rw [← hK] at hB ⊢
  have e1 : IntKind.i64.wrap (8 + (K : Int) + 7) = 8 + K + 7 := w64 (by omega) (by omega)
  simp [hN]
  refine call0 ok rfl rfl rfl (fun w I hI hG => refRight0 w I hI g hg) fun y W hy => ?_
  subst hy
  simp (maxSteps := 2000000) -implicitDefEqProofs [hN]
  refine ⟨fun h1 => ?_, fun h1 => ret0 hC false rfl fun W _ _ => by rw [decide_eq_false (by omega)]⟩
  refine call0 ok rfl rfl rfl (fun w I hI hG => refHalf0 w I hI g hg) fun y W hy => ?_
  subst hy
  simp (maxSteps := 2000000) -implicitDefEqProofs [hN, e1]
  exact ret0 hC _ rfl fun W _ _ => by congr 1; exact propext ⟨fun h => by omega, fun h => by omega⟩
end Go.Proofs.YtbbaoeidobdblaaGreat.Sx

/- garretlaw17.JournalRoom. -/
set_option linter.unusedVariables false
set_option linter.unusedSimpArgs false
namespace Go.Proofs.YtbbaoeidobdblaaGreat.Sx
open Go

attribute [local simp ↓] ifb_true' ifb_false'
attribute [local simp] ifb_true ifb_false ifb_eq sx argsT find ev evOp evs evo evBin evInt evStr evNil evNilA ptrA slcA isNoneA asB evLoad look del cellsB evUn evConv kdec fld evFieldA evField evIdxA evIdx evSlc bndL bndH evLen mmi put resV guardV gvL setO tupV cellsOf ones one upd lits nv exitTo SV.val CV.val TI.agg rdyA allR keepB scan simpO gsp isS subs keepT pickT wr memN pubs Res.fact Region.binds bld rest give delL back Res.eqv vi vb num Sv.val undef
/-- So many letters t. -/
def tM (n : Nat) : ByteArray := ⟨(List.replicate n 116).toArray⟩
theorem tM_size (n : Nat) : (tM n).size = n := by simp [tM, ByteArray.size]
theorem tM_succ (n : Nat) : tM n ++ ⟨#[116]⟩ = tM (n + 1) := by
  apply ByteArray.ext
  simp only [tM, ByteArray.data_append]
  apply Array.ext'
  rw [List.replicate_succ']
  simp
theorem jon_w24 {j : Jn} (h : Jon j) : wS j.s + 24 ≤ j.used := by
  obtain ⟨s0, ds, _, _, h3, h4, _⟩ := h.on
  have h5 := stateL_w ds s0
  have h6 := firstB_length j.ep s0
  have h7 := whole_w s0
  have h8 : (deedsB (wholeL s0)).length = wholeB s0 := rfl
  rw [h3, h4, halfL, recsB_length, List.map_cons, totP]
  omega
def lnkN (t : ByteArray) (v : Int) : Ino := ⟨v, 3, 0, 0, t, [], []⟩
def roomD (t : ByteArray) (v : Int) : List Dee := [⟨2, 0, lnkN t v⟩]
theorem room_len (t : ByteArray) (v : Int) : (deedsB (roomD t v)).length = 45 + t.size := by
  rw [deeds_len]
  show wI (lnkN t v) + 0 = _
  rw [wI_eq]; simp [lnkN]
theorem room_fit {t : ByteArray} {v : Int} (h : t.size ≤ 1000) (hv : 0 ≤ v ∧ v ≤ 1000) : FitL (roomD t v) := ⟨fun d hd => by
  rw [List.mem_singleton.1 hd]
  exact ⟨.inr (.inl rfl), fun e => absurd rfl e, fun _ => ⟨by unfold fitI; simp [lnkN]; omega, by unfold fitI; simp [lnkN], by unfold fitI; simp [lnkN], by unfold fitI; simp [lnkN], by show t.size < _; omega, by simp [lnkN], by simp [lnkN], fun e he => absurd he List.not_mem_nil, fun e he => absurd he List.not_mem_nil⟩⟩⟩
theorem room_row {W : World} {g : Nat} {t : ByteArray} {v : Int} (h : W.ownsRow 0 46 9 (.slice (some ⟨g, 0, none⟩) 1 1) 1 [.int .i64 2, .int .i64 0, .int .i64 v, .int .i64 3, .int .i64 0, .int .i64 0, .string t, .slice none 0 0, .slice none 0 0]) : Sv.ok dDee W (some ⟨g, 0, none⟩, 1, 1) (roomD t v) := by
  refine Rows.sv (d := dDee) (xs := roomD t v) (Rows.sole ⟨(none, 0), (none, 0), rfl, ⟨Nat.zero_le _, Nat.zero_le _, rd_nil _ _ _⟩, ⟨Nat.zero_le _, Nat.zero_le _, rd_nil _ _ _⟩⟩) (by decide) (by simp [roomD]) h
def lnkS (s : Sta) : Prop := s.bad = [] ∧ ∀ x ∈ s.inos, x.ents = [] ∧ x.runs = []
theorem lnk_apply {s : Sta} (h : lnkS s) (t : ByteArray) (v : Int) : lnkS (applyL s (roomD t v)) := by
  have e : applyL s (roomD t v) = { s with inos := putInoL s.inos (lnkN t v) } := by
    have h1 : applyL s (roomD t v) = applyOne s ⟨2, 0, lnkN t v⟩ := rfl
    rw [h1]
    unfold applyOne
    rw [if_neg (by simp), if_pos rfl]
  rw [e]
  refine ⟨h.1, fun x hx => ?_⟩
  rcases mem_put hx with h1 | h1
  · exact h.2 x h1
  · rw [h1]; exact ⟨rfl, rfl⟩
theorem halfSz_hS {c : Cp} (h : c.fit) : halfSz c = hS c.g := by
  obtain ⟨q0, ⟨q1, q2⟩, _⟩ := id h.right
  unfold halfSz hS halfN
  have : (c.g.sectors / 2).toNat = c.g.sectors.toNat / 2 := by omega
  rw [this]
set_option maxRecDepth 100000 in
set_option maxHeartbeats 2000000 in
theorem journalRoomLaw0 (w : World) (g : Geo) (n : Int) :
    Fn0 Tryz.prog 3 #[.agg (geoC g).toArray, .int .i64 n] w (fun _ => False) (fun b : Bool => .bool b) (fun y W => y = true) := by
  have hI : ∀ b, False → b < w.heap.size := fun b h => h.elim
  refine enter (svs := [.ag ((geoC g).map .v), .c (.v (.int .i64 n))]) tysOk Tryz.func3 rfl Tryz.ntmps3 Tryz.results3 (by kernel_rfl) (by simp) hI (fun _ => True) (fun _ _ => trivial) fun C hC hN ok => ?_
  simp [hN]
  intro g2
  refine call0 ok rfl rfl rfl (fun w I hI hG => geometry0 w I hI g) fun y W _ => ?_
  have hgr := geoP_right g
  generalize geoP g = G at hgr
  obtain ⟨q0, ⟨q1, q2⟩, ⟨q3, q4⟩, ⟨q5, q6⟩, ⟨q7, q8⟩, ⟨q9, q10⟩⟩ := id hgr
  obtain ⟨N, hNN, hN30⟩ : ∃ N : Nat, IntKind.i64.wrap ((IntKind.u64.wrap n).tmod 40) = N ∧ N < 40 := by
    have h1 := modP_le n 40 (by decide)
    refine ⟨(modP n 40).toNat, ?_, by omega⟩
    rw [u64_wrap, Int.tmod_eq_emod_of_nonneg (by omega), w64 (by unfold modP at h1; omega) (by unfold modP at h1; omega)]
    unfold modP at *
    omega
  simp [hN, hNN]
  refine draw ok [(2, .box g2 23 ((geoC G).map .v))] (by rw [ok.P]; exact mixed) (by kernel_rfl) ?_
  simp (maxSteps := 2000000) -implicitDefEqProofs [hN]
  refine callS ok rfl rfl rfl [] [] trivial rfl (fun gp : Nat => [(1001, .box gp 108 (powB ⟨-1, 0, false, 0⟩ (.map none)))]) (fun w I S hI hG hO hS => (powNew0 w I hI).lone hO) (fun r => by simp) (.inl fun k hk => by cases hk) fun gp W _ => ?_
  simp (maxSteps := 2000000) -implicitDefEqProofs [hN]
  obtain ⟨nb, hnb, hnb0, hnb1⟩ : ∃ nb : Nat, G.sectors * G.sector = (nb : Nat) ∧ 0 < nb ∧ nb ≤ 100000 := by
    obtain ⟨a, ha⟩ : ∃ a : Nat, G.sectors = a := ⟨G.sectors.toNat, by omega⟩
    obtain ⟨b, hb⟩ : ∃ b : Nat, G.sector = b := ⟨G.sector.toNat, by omega⟩
    refine ⟨a * b, by rw [ha, hb]; simp, Nat.mul_pos (by omega) (by omega), ?_⟩
    have : a * b ≤ 16 * 4096 := Nat.mul_le_mul (by omega) (by omega)
    omega
  refine callS ok rfl rfl rfl [] [] trivial rfl (fun x : Nat × Nat × Nat × Nat => [(1000, (newCp G gp ⟨-1, 0, false, 0⟩ (.map none) x nb).chip), (1002, (newCp G gp ⟨-1, 0, false, 0⟩ (.map none) x nb).row), (1003, (newCp G gp ⟨-1, 0, false, 0⟩ (.map none) x nb).map)]) (fun w I S hI hG hO hS => (norNew0 w I hI G gp nb ⟨-1, 0, false, 0⟩ (.map none) hgr hnb hnb0 hnb1).lone hO) (fun r => by simp [Cp.map, mapR]) (.inl fun k hk => by cases hk) fun x W _ => ?_
  obtain ⟨c0, hc0⟩ : ∃ c0, c0 = newCp G gp ⟨-1, 0, false, 0⟩ (.map none) x nb := ⟨_, rfl⟩
  have hfit : c0.fit := by
    rw [hc0]
    exact ⟨hgr, by simp only [newCp, List.length_replicate]; exact hnb.symm, by simp [newCp], by simp [newCp]⟩
  have hlive : live c0.p := by rw [hc0]; exact ⟨(by decide : (-1 : Int) < 0), rfl⟩
  have hgc : c0.gc = x.1 := by rw [hc0]; rfl
  have hpw : (.box gp 108 (powB ⟨-1, 0, false, 0⟩ (.map none)) : Res) = c0.pow := by rw [hc0]; rfl
  have hG0 : c0.g = G := by rw [hc0]; rfl
  have her : c0.er = [] := by rw [hc0]; rfl
  rw [hpw]
  simp only [← hc0, ← hgc]
  clear hpw hc0
  simp (maxSteps := 2000000) -implicitDefEqProofs [hN]
  refine call0 ok rfl rfl rfl (fun w I hI hG => awake17 w I hI) fun _ W _ => ?_
  simp [hN, hNN]
  have hform := form_live hfit hlive
  refine callS ok rfl rfl rfl [1000, 1001, 1002, 1003] c0.res (by simp [Cp.map, mapR]) rfl (fun x : Nat × Sl => [(1000, (formJ c0 x).c.chip), (1001, (formJ c0 x).c.pow), (1002, (formJ c0 x).c.row), (1003, (formJ c0 x).c.map), (1004, (formJ c0 x).box)]) (fun w I S hI hG hO hS' => format0 w I S hI c0 hfit hform.1 hform.2.1 hform.2.2.1 hO hS') (fun r => by simp [Cp.map, mapR]) (.inr fun x q hq => by simp at hq; rcases hq with rfl | rfl | rfl | rfl | rfl <;> simp) fun y W hy => ?_
  have hJ0 := jon_form hfit hlive y
  have hj0 : (formJ c0 y).gj = y.1 ∧ (formJ c0 y).s = newSta ∧ (formJ c0 y).si = y.2 ∧ (formJ c0 y).sb = (none, 0) ∧ (formJ c0 y).ep = 1 ∧ (formJ c0 y).half = 0 := ⟨rfl, rfl, rfl, rfl, rfl, rfl⟩
  obtain ⟨j, hj⟩ : ∃ j, j = formJ c0 y := ⟨_, rfl⟩
  simp only [← hj] at hJ0 hj0
  simp only [← hj]
  rw [← hj0.1]
  simp [hN, hNN]
  refine loopK [2, 5, 7] ok (fun i : Nat => [(10, .c (.v (.int .i64 (i : Nat)))), (9, .c (.v (.string (tM i)))), (1, .c (.v (.int .i64 (N : Nat))))]) (fun i => [(1000, j.c.chip), (1001, j.c.pow), (1002, j.c.row), (1003, j.c.map), (1004, j.box), (2, .box g2 23 ((geoC G).map .v))]) (fun i W => i ≤ 100) (fun i => 100 - i) 0 ?_ ?_ (fun W hW => Nat.zero_le _) ?_
  · simp [tM]
  · simp [Cp.map, mapR]
  rintro i W hi hG next
  rcases Nat.lt_or_ge i 100 with hlt | hge
  · have e6 : IntKind.i64.wrap ((i : Int) + 1) = (i + 1 : Nat) := by rw [w64 (by omega) (by omega)]; omega
    have hs1 : (⟨#[116]⟩ : ByteArray).size = 1 := rfl
    have hlt' : (i : Int) < 100 := by omega
    simp [hN, hlt', tM_size, e6, hs1]
    exact ⟨by omega, next (i + 1) _ _ (by omega) (fun W h => ⟨hlt, h.2⟩) (by simp [tM_succ, Cp.map, mapR])⟩
  obtain rfl : i = 100 := by omega
  clear next
  simp [hN]
  have hts : (tM 100).size = 100 := tM_size 100
  generalize tM 100 = t at hts
  refine call0 ok rfl rfl rfl (fun w I hI hG => newSta0 w I hI) fun ns W _ => ?_
  simp [hN]
  intro g11
  have hjg : j.c.g = G := by rw [hJ0.2.g, hG0]
  have hjc : j.c.gc = c0.gc := hJ0.2.gc
  have hl0 : lnkS j.s := by
    rw [hj0.2.1]
    refine ⟨rfl, fun x hx => ?_⟩
    rw [show newSta.inos = [newIno 1 2 emp] from rfl, List.mem_singleton] at hx
    rw [hx]
    exact ⟨rfl, rfl⟩
  refine loopK [2, 5, 7, 11] ok (fun y : Nat × Jn × Sl × Sl => [(12, .c (.v (.int .i64 (y.1 : Nat)))), (9, .c (.v (.string t))), (1, .c (.v (.int .i64 (N : Nat))))]) (fun y => [(1000, y.2.1.c.chip), (1001, y.2.1.c.pow), (1002, y.2.1.c.row), (1003, y.2.1.c.map), (1004, y.2.1.box), (2, .box g2 23 ((geoC G).map .v)), (11, .box g11 39 ((staC y.2.1.s y.2.2.1 y.2.2.2).map .v))]) (fun z W => z.1 ≤ N ∧ Jon z.2.1 ∧ z.2.1.ep ≤ 1 + z.1 ∧ z.2.1.gj = j.gj ∧ z.2.1.c.g = G ∧ z.2.1.c.gc = c0.gc ∧ lnkS z.2.1.s ∧ StaR W z.2.1.s z.2.1.si z.2.1.sb ∧ StaR W z.2.1.s z.2.2.1 z.2.2.2) (fun y => N - y.1) (0, j, ns, (none, 0)) ?_ ?_ (fun W hW => ⟨Nat.zero_le _, hJ0.1, by rw [hj0.2.2.2.2.1]; show (1 : Int) ≤ 1 + (0 : Nat); decide, rfl, hjg, hjc, hl0, by rw [hj0.2.1, hj0.2.2.1, hj0.2.2.2.1]; exact hW.2, by rw [hj0.2.1]; exact hW.1⟩) ?_
  · simp
  · simp [Cp.map, mapR, hj0.2.1]
  obtain ⟨gj, hgj⟩ : ∃ gj, gj = j.gj := ⟨_, rfl⟩
  rw [← hgj]
  clear hJ0 hj0 hform hjg hjc hj hgj hG0 hnb hl0
  rintro ⟨k, j, ⟨pa, pc⟩, ⟨qa, qc⟩⟩ W ⟨hk, hjn, hje, hjp, hjg, hjc, hlk, hS1, hS2⟩ hG2 next
  simp only at hk hjn hje hjp hjg hjc hlk hS1 hS2
  have hw24 := jon_w24 hjn
  have huz := hjn.used
  have hhl := half_le hjn.fit
  have hcw := count_w j.s
  have hhS : halfSz j.c = hS G := by rw [halfSz_hS hjn.fit, hjg]
  rcases Nat.lt_or_ge k N with hlt | hge2
  · have e6 : IntKind.i64.wrap ((k : Int) + 1) = (k + 1 : Nat) := by rw [w64 (by omega) (by omega)]; omega
    have e5 : IntKind.i64.wrap (2 + (k : Int)) = 2 + (k : Int) := w64 (by omega) (by omega)
    obtain ⟨D, hD⟩ : ∃ D, D = roomD t (2 + (k : Int)) := ⟨_, rfl⟩
    have hDl : D.length = 1 := by rw [hD]; rfl
    have hDb : (deedsB D).length = 145 := by rw [hD, room_len, hts]
    have hDf : FitL D := by rw [hD]; exact room_fit (by omega) ⟨by omega, by omega⟩
    have hDs : lnkS (applyL j.s D) := by rw [hD]; exact lnk_apply hlk _ _
    have haw := applyL_w j.s D
    have hww := whole_w (applyL j.s D)
    have hcw2 := count_w (applyL j.s D)
    have hcm := jon_commit hjn hDf
    simp [hN, hlt, e5]
    intro gd
    refine pub 63 rfl (by decide) (callS ok rfl rfl rfl [1000, 1001, 1002, 1003, 1004] j.res (by simp [Cp.map, mapR]) rfl (fun v : Sl × Sl => [(1000, (commitM j D v).2.c.chip), (1001, (commitM j D v).2.c.pow), (1002, (commitM j D v).2.c.row), (1003, (commitM j D v).2.c.map), (1004, (commitM j D v).2.box)]) (fun w I S hI hG hO hS' => by have := commit0 w I S hI j (a := some ⟨gd, 0, none⟩) (n := 1) (c := 1) D hjn.fit hjn.half (by have := hjn.ep; omega) (by omega) (fun W e => (hG W e).2.1.2.2.2.2.2.2.2.1) (fun W e => by rw [hD]; exact room_row (hG W e).1) (by omega) (by omega) (by show wholeB _ ≤ _; omega) (by omega) hO hS'; rw [hjp] at this; exact this) (fun r => by simp [Cp.map, mapR]) (.inr fun x q hq => by simp at hq; rcases hq with rfl | rfl | rfl | rfl | rfl <;> simp) fun v W hv => ?_)
    have hcm := hcm v (by omega)
    rcases hcm with h | h
    · obtain ⟨h1, h2, h3, h4, h5, h6, h7, h8⟩ := h
      rw [h1]
      obtain ⟨j2, hj2⟩ : ∃ j2, (commitM j D v).2 = j2 := ⟨_, rfl⟩
      rw [hj2] at h2 h3 h4 h5 h6 h7 h8
      simp only [hj2]
      have hft : wholeB (applyL j.s D) + 15 ≤ hS G := by
        have k1 := jon_w24 h2
        have k2 := h2.used
        have k3 := halfSz_hS h2.fit
        rw [h3] at k1
        rw [h7.g, hjg] at k3
        omega
      have hep2 : j2.ep ≤ j.ep + 1 := by rcases h8 with h | h <;> omega
      simp [hN]
      refine call0 ok rfl rfl rfl (fun w I hI hG => fits0 w I hI j.s (pa, pc) (qa, qc) G (a := some ⟨gd, 0, none⟩) (n := 1) (c := 1) D hgr (fun W e => (hG W e).2.2.1.2.2.2.2.2.2.2.2) (fun W e => by rw [hD]; exact room_row (hG W e).2.1) (by omega) (by omega) (by show wholeB _ ≤ _; omega) hDs.2) fun fb W hfb => ?_
      subst hfb
      rw [decide_eq_true hft]
      simp [hN]
      refine call0 ok rfl rfl rfl (fun w I hI hG => refApply0 w I hI j.s (pa, pc) (qa, qc) (a := some ⟨gd, 0, none⟩) (n := 1) (c := 1) D (fun W e => (hG W e).2.2.1.2.2.2.2.2.2.2.2) (fun W e => by rw [hD]; exact room_row (hG W e).2.1) (by omega)) fun u W _ => ?_
      simp [hN]
      rw [← h3]
      refine draw ok [(11, .box g11 39 ((staC j2.s u.1 u.2).map .v))] (by rw [ok.P]; exact mixed) (by kernel_rfl) ?_
      simp (maxSteps := 2000000) -implicitDefEqProofs [hN]
      refine callS ok rfl rfl rfl [1004] [j2.box] (by simp) rfl (fun _ : Sl × Sl => [(1004, j2.box)]) (fun w I S hI hG hO hS' => by have := state0 w I S hI j2 (fun W e => by rw [h4, h5]; exact (hG W e).2.1 hjn.ended) (by rw [h3]; omega) hO hS'; rw [h6, hjp] at this; exact this) (fun r => by simp) (.inr fun x q hq => by simp at hq; subst hq; simp) fun z W _ => ?_
      simp (maxSteps := 2000000) -implicitDefEqProofs [hN]
      refine call0 ok rfl rfl rfl (fun w I hI hG => sameSta0 w I hI (applyL j2.s []) j2.s z.1 z.2 u.1 u.2 (fun W e => ⟨(hG W e).1, (hG W e).2.1⟩)) fun _ W _ => ?_
      rw [tB_true (show applyL j2.s [] = j2.s from rfl)]
      simp (maxSteps := 2000000) -implicitDefEqProofs [hN, e6]
      exact next (k + 1, j2, u.1, u.2) _ _ (by simp only; omega) (fun W hW => ⟨⟨hlt, h2, by simp only; omega, by rw [h6, hjp], by rw [h7.g, hjg], by rw [h7.gc, hjc], by rw [h3]; exact hDs, by simp only [h4, h5]; exact hW.2.2.1 hjn.ended, hW.2.1⟩, hW.2.2.2.2.2⟩) (by simp [Cp.map, mapR])
    · obtain ⟨h1, h2, h3⟩ := h
      rw [h1]
      have hft : ¬ wholeB (applyL j.s D) + 15 ≤ hS G := by omega
      simp [hN]
      refine call0 ok rfl rfl rfl (fun w I hI hG => fits0 w I hI j.s (pa, pc) (qa, qc) G (a := some ⟨gd, 0, none⟩) (n := 1) (c := 1) D hgr (fun W e => (hG W e).2.2.1.2.2.2.2.2.2.2.2) (fun W e => by rw [hD]; exact room_row (hG W e).2.1) (by omega) (by omega) (by show wholeB _ ≤ _; omega) hDs.2) fun fb W hfb => ?_
      subst hfb
      rw [decide_eq_false hft]
      simp [hN]
      refine draw ok [(11, .box g11 39 ((staC j.s (pa, pc) (qa, qc)).map .v))] (by rw [ok.P]; exact mixed) (by kernel_rfl) ?_
      simp (maxSteps := 2000000) -implicitDefEqProofs [hN]
      refine callS ok rfl rfl rfl [1004] [j.box] (by simp) rfl (fun _ : Sl × Sl => [(1004, j.box)]) (fun w I S hI hG hO hS' => by have := state0 w I S hI j (fun W e => (hG W e).2.2.1.2.2.2.2.2.2.2.1) (by omega) hO hS'; rw [hjp] at this; exact this) (fun r => by simp) (.inr fun x q hq => by simp at hq; subst hq; simp) fun z W _ => ?_
      simp (maxSteps := 2000000) -implicitDefEqProofs [hN]
      refine call0 ok rfl rfl rfl (fun w I hI hG => sameSta0 w I hI (applyL j.s []) j.s z.1 z.2 (pa, pc) (qa, qc) (fun W e => ⟨(hG W e).1, (hG W e).2.2.2.1.2.2.2.2.2.2.2.2⟩)) fun _ W _ => ?_
      rw [tB_true (show applyL j.s [] = j.s from rfl)]
      simp (maxSteps := 2000000) -implicitDefEqProofs [hN, e6]
      exact next (k + 1, j, (pa, pc), (qa, qc)) _ _ (by simp only; omega) (fun W hW => ⟨⟨hlt, hjn, by simp only; omega, hjp, hjg, hjc, hlk, hW.2.2.2.1.2.2.2.2.2.2.2.1, hW.2.2.2.1.2.2.2.2.2.2.2.2⟩, hW.2.2.2.2⟩) (by simp [Cp.map, mapR])
  · obtain rfl : k = N := by omega
    clear next
    have hf3 : FitL [nextD 3] := nextD_fit (by unfold fitI; omega)
    have hl3 := nextD_len 3
    have ha3 : applyL j.s [nextD 3] = { j.s with next := 3 } := next_apply j.s 3
    have hw3 : wholeB (applyL j.s [nextD 3]) = wholeB j.s := by rw [ha3, whole_w, whole_w]; rfl
    have hww := whole_w j.s
    simp [hN]
    refine callS ok rfl rfl rfl [1000, 1001, 1002, 1003] j.c.res (by simp [Cp.map, mapR]) rfl (fun x : Nat × Sl × Sl => [(1000, j.c.chip), (1001, j.c.pow), (1002, j.c.row), (1003, j.c.map), (1005, (reJ j x).box)]) (fun w I S hI hG hO hS' => by have := openOk0 w I S hI j hjn hO hS'; rw [hjc] at this; exact this) (fun r => by simp [reJ, Cp.map, mapR]) (.inr fun x q hq => by simp at hq; rcases hq with rfl | rfl | rfl | rfl | rfl <;> simp) fun x W hx => ?_
    simp [hN]
    refine draw ok [(11, .box g11 39 ((staC j.s (pa, pc) (qa, qc)).map .v))] (by rw [ok.P]; exact mixed) (by kernel_rfl) ?_
    simp (maxSteps := 2000000) -implicitDefEqProofs [hN]
    refine callS ok rfl rfl rfl [1005] [(reJ j x).box] (by simp) rfl (fun _ : Sl × Sl => [(1005, (reJ j x).box)]) (fun w I S hI hG hO hS' => state0 w I S hI (reJ j x) (fun W e => (hG W e).1) (by show j.s.inos.length ≤ _ ∧ j.s.bad.length ≤ _; omega) hO hS') (fun r => by simp) (.inr fun x q hq => by simp at hq; subst hq; simp) fun z2 W _ => ?_
    simp (maxSteps := 2000000) -implicitDefEqProofs [hN]
    refine call0 ok rfl rfl rfl (fun w I hI hG => sameSta0 w I hI (applyL (reJ j x).s []) j.s z2.1 z2.2 (pa, pc) (qa, qc) (fun W e => ⟨(hG W e).1, (hG W e).2.2.1.2.2.2.2.2.2.2⟩)) fun _ W _ => ?_
    rw [tB_true (show applyL (reJ j x).s [] = j.s from rfl)]
    simp (maxSteps := 2000000) -implicitDefEqProofs [hN]
    intro gd
    have hjr : Jon (reJ j x) := jon_re hjn x
    have hcm : ∀ v : Sl × Sl, (commitM (reJ j x) [nextD 3] v).1 = 0 := fun v => by
      rcases jon_commit hjr hf3 v (by show j.ep < _; omega) with h | h
      · exact h.1
      · have h2 : halfSz j.c < wholeB (applyL j.s [nextD 3]) + 15 := h.2.1
        omega
    have hcw3 := count_w (applyL j.s [nextD 3])
    have hww3 := whole_w (applyL j.s [nextD 3])
    refine pub 112 rfl (by decide) (callS ok rfl rfl rfl [1000, 1001, 1002, 1003, 1005] (reJ j x).res (by simp [reJ, Cp.map, mapR]) rfl (fun v : Sl × Sl => [(1000, (commitM (reJ j x) [nextD 3] v).2.c.chip), (1001, (commitM (reJ j x) [nextD 3] v).2.c.pow), (1002, (commitM (reJ j x) [nextD 3] v).2.c.row), (1003, (commitM (reJ j x) [nextD 3] v).2.c.map), (1005, (commitM (reJ j x) [nextD 3] v).2.box)]) (fun w I S hI hG hO hS' => commit0 w I S hI (reJ j x) (a := some ⟨gd, 0, none⟩) (n := 1) (c := 1) [nextD 3] hjr.fit hjr.half (by have := hjr.ep; omega) (by show j.used ≤ _; omega) (fun W e => (hG W e).2.2.1) (fun W e => nextD_row (hG W e).1) (by show j.s.inos.length + 1 ≤ _ ∧ j.s.bad.length + 1 ≤ _; omega) (by show (applyL j.s [nextD 3]).inos.length + (applyL j.s [nextD 3]).bad.length ≤ _; omega) (by show wholeB (applyL j.s [nextD 3]) ≤ _; omega) (by omega) hO hS') (fun r => by simp [Cp.map, mapR]) (.inr fun x q hq => by simp at hq; rcases hq with rfl | rfl | rfl | rfl | rfl <;> simp) fun v W hv => ?_)
    rw [hcm v]
    simp (maxSteps := 2000000) -implicitDefEqProofs [hN]
    exact ret0 hC true rfl fun _ _ _ => rfl
end Go.Proofs.YtbbaoeidobdblaaGreat.Sx

/- JournalRoom: for every input the law returns true, and each argument reads behind the call as it read ahead of it; no conditions. -/
set_option linter.unusedVariables false
set_option linter.unusedSimpArgs false
namespace Go.Proofs.YtbbaoeidobdblaaGreat.journalRoom
open Go.ChangeShapes Go.WideShapes Go.ChangeAt Go.RowKit Go.Deep Go.Proofs.YtbbaoeidobdblaaGreat.Rowl

theorem own : ownKnob Tryz.prog.godebug = none := by kernel_rfl
theorem laidOut : laidOutB Tryz.prog = true := by kernel_rfl

set_option maxRecDepth 100000 in
theorem lifted (os : Os) (started : os.Started) (H : Type) (enc : TypeId × Value → H) :
    ReturnsInHanded {} Tryz.checked os 3 .any (Rows.journalRoomSpec.pre6 enc Tryz.prog Tryz.f3 Rows.journalRoomRow.domain false) (Rows.journalRoomSpec.post enc Tryz.prog Tryz.f3 false true false false) := by
  refine returnsInHanded_of_change (C := Tryz.checked) own started (by kernel_rfl) Tryz.func3
    (ChangeSpec.witness6 (enc := enc) (C := Tryz.checked) false ⟨#[], #[.agg #[.int .i64 0, .int .i64 0, .int .i64 0, .int .i64 0, .int .i64 0], .int .i64 0], []⟩ 8 (by kernel_rfl) (by kernel_rfl) (by kernel_rfl) (by kernel_rfl)) ?_
  intro W base args ds gs before hval0 hW hcnd _
  have hval : ∀ (j : Nat) t v, Tryz.f3.params[j]? = some t → args[j]? = some v → Value.okWide Tryz.prog W .any base t v := hval0
  have hW' := hW
  obtain ⟨p, q, hA0, hV, rfl, hfz, hnd⟩ := hW
  have hA : DataW.TrodAll enc Tryz.prog W 0 (fun _ => true) true Tryz.f3.params.toList args.toList ds p := hA0
  rw [Tryz.params3] at hA hval
  obtain ⟨v0, vs0, d0, ds0, p0, q0, hargs, rfl, rfl, h0, r0⟩ := trodAll_cons hA
  obtain ⟨v1, vs1, d1, ds1, p1, q1, rfl, rfl, rfl, h1, r1⟩ := trodAll_cons r0
  obtain ⟨rfl, rfl, rfl⟩ := trodAll_nil r1
  obtain rfl : args = #[v0, v1] := by cases args; simp_all
  obtain ⟨rfl, rfl⟩ := trodVars_none hV
  have k0 := h0
  have lt0 : ∀ x ∈ p0, x.block < W.heap.size := by obtain ⟨m, hm⟩ := k0; exact DataW.trod_lt m _ _ _ hm
  obtain ⟨g0a, g0b, g0c, g0d, g0e, rfl⟩ := agg5_in Tryz.underlying23 (by kernel_rfl) (by kernel_rfl) Tryz.underlying3 ⟨rfl, rfl, rfl, rfl, rfl⟩ (hval 0 23 v0 rfl rfl) h0
  have k1 := h1
  have lt1 : ∀ x ∈ p1, x.block < W.heap.size := by obtain ⟨m, hm⟩ := k1; exact DataW.trod_lt m _ _ _ hm
  obtain ⟨a1, rfl, rfl, rfl, w1⟩ := open_int Tryz.underlying3 (hval 1 3 v1 rfl rfl) h1
  clear hA0 hval0
  refine (row_calls (Sx.journalRoomLaw0 W ⟨g0a, g0b, g0c, g0d, g0e⟩ a1)).mono fun e W' ⟨he, gr⟩ => ?_
  subst he
  have bel : Below W.heap.size W W' := ⟨gr.os, gr.tape, gr.output, gr.size, fun k hk => gr.block k hk (by simp)⟩
  exact ⟨_, rfl, _, _, _, [], _, [], hW', trodAll_mk1 (shut_bool Tryz.underlying4 _), (trodAll_cons_mk (Below.trod laidOut (by kernel_rfl) (of_decide_eq_true (by kernel_rfl)) k0 bel lt0) (trodAll_cons_mk (Below.trod laidOut (by kernel_rfl) (of_decide_eq_true (by kernel_rfl)) k1 bel lt1) trodAll_mk0)), rfl, bel.frame _, fun h => by cases h⟩

theorem over : Rows.journalRoomRow.holds Tryz.pinned (OpenSpec.ofChange Rows.journalRoomSpec) :=
  OpenClaim.holds_of_wide 3 Tryz.f3 rfl rfl rfl rfl rfl rfl rfl ⟨rfl, rfl, rfl, rfl, rfl⟩ rfl rfl rfl rfl rfl (by kernel_rfl) Tryz.func3 (by kernel_rfl)
    (of_decide_eq_true (by kernel_rfl)) (by unfold Func.isWrapper; first | (rw [if_pos (by decide +kernel)]; kernel_rfl) | (rw [if_neg (by decide +kernel)]; exact ⟨rfl, rfl⟩))
    (fun os started H enc _ => lifted os started H enc)

/-- The statement. -/
theorem proved : Rows.JournalRoomSaid := over
#print axioms proved
end Go.Proofs.YtbbaoeidobdblaaGreat.journalRoom

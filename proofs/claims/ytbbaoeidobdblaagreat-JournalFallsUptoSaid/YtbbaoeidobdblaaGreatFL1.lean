/- Laid together: Sxq, Sk64, Sk65, Sk66, Sp12, Sp13, Sp14, Sp15, Sk71, Sk72, Rdk, Rdk2, JournalFalls. -/
import Derived.Test.YtbbaoeidobdblaaGreatK2
import Derived.Test.YtbbaoeidobdblaaGreatRows
import Derived.ChangeArms
import Derived.JoinedCond
/- Sx, part 17: bytes that nobody changes are copied into a row of one's own; what reads goes on reading. -/
set_option linter.unusedVariables false
set_option linter.unusedSimpArgs false
namespace Go.Proofs.YtbbaoeidobdblaaGreat.Sx
open Go

section
variable {P : Program} {C : Ctx} {T : Ty} {res : List ResultVar} {p : Pos} {tm : Tm} {m : Mem}
/-- Many ends have one road on, which hangs on something. -/
theorem cutKc {Goal : Prop} {p : Pos} {β : Type} (ok : Okc P T C res) (tm0 : β → Tm) (G0 : β → World → Prop) (rs0 : β → List (Nat × Res)) (rest : ∀ x, sx T C res 1000 p (tm0 x) ⟨fun _ => True, G0 x, rs0 x⟩) (main : (∀ x tm m, (∀ W, m.G W → G0 x W) → subs tm (tm0 x) ∧ keepB m.rs (rs0 x) → At C p tm m) → Goal) : Goal := main fun x => cutAt ok (tm0 x) (G0 x) (rs0 x) (rest x)
/-- Nothing is copied. -/
theorem copy0 (ok : Okc P T C res) {o : Oper} {d s : Operand} {dT sT : Nat} (ho : o.op = .call ⟨.builtin .copy, #[d, s], #[dT, sT]⟩) {i ie : TI} (hi : tf dT T = some i) (hik : i.kd = 3) (hie : tf i.el T = some ie)
    {da sa : Option Addr} {dLen dCap sCap : Nat} {u v : SV} (hd : ev tm d = some u) (hu : u.val = .slice da dLen dCap) (hs : ev tm s = some v) (hv : v.val = .slice sa 0 sCap)
    (kk : sx T C res 1000 p (put C.n o.dst (.c (.v (.int .i64 0))) tm) m) : At C (.op o p) tm m := by
  intro act w cs0 hR hJ
  have e1 : act.eval d = .slice da dLen dCap := by rw [hR.eval hd, hu]
  have e2 : act.eval s = .slice sa 0 sCap := by rw [hR.eval hs, hv]
  have hun := (ok.ty.get hi).g_slice hik
  have hz := (ok.ty.get hie).g_sizeOf (P := C.P)
  have hm : Nat.min 0 dLen = 0 := Nat.zero_min _
  have hr : (Builtin.copy_ #[dT, sT] o.type #[.slice da dLen dCap, .slice sa 0 sCap]).run C.P w = .ok (goInt 0) w := by
    cases sa with
    | none => cases da <;> simp [Builtin.copy_, run_underlying hun, Builtin.lenOf, Builtin.firstCells, hz, hm, storeCells]
    | some ad => cases da <;> simp [Builtin.copy_, run_underlying hun, Builtin.lenOf, Builtin.firstCells, hz, hm, loadCells, loadCellsFrom, storeCells]
  have hrun : (execOp act.eval o).run C.P w = .ok (.value (goInt 0)) w := by
    simp [execOp, ho, resolve, invoke, builtin, e1, e2, hr]
  have hRp := hR.put o.dst (.c (.v (.int .i64 0)))
  exact op_value (ok.sx kk) hrun hRp hJ
/-- Bytes that nobody changes are copied into a row of one's own. -/
theorem copyM (ok : Okc P T C res) (k : Nat) {o : Oper} {d s : Operand} {dT sT : Nat} (ho : o.op = .call ⟨.builtin .copy, #[d, s], #[dT, sT]⟩) {i ie : TI} (hi : tf dT T = some i) (hik : i.kd = 3) (hie : tf i.el T = some ie) (hsz1 : ie.sz = 1)
    {g n c off dLen dCap sLen sCap : Nat} {a : Option Addr} {cs : List CV} {u v : SV} (hk : look k m.rs = some (.row (some ⟨g, 0, none⟩) n c i.el 1 cs))
    (hd : ev tm d = some u) (hu : u.val = .slice (some ⟨g, off, none⟩) dLen dCap) (hs : ev tm s = some v) (hv : v.val = .slice a sLen sCap) (l : List Int) (hl : ∀ W, m.G W → Sv.ok dByte W (a, sLen, sCap) l) (hpos : 0 < l.length)
    (hf : off + Nat.min sLen dLen ≤ n)
    (kk : sx T C res 1000 p (put C.n o.dst (.c (.v (.int .i64 (Nat.min sLen dLen)))) tm) ⟨m.B, m.G, (k, .row (some ⟨g, 0, none⟩) n c i.el 1 (lay cs off (bC (l.take (Nat.min sLen dLen))))) :: del k (del k m.rs)⟩) : At C (.op o p) tm m := by
  intro act w cs0 hR hJ
  obtain ⟨cur, hg, hnc, hsz, htk, hcl⟩ := hJ.rowAt hk
  have hok := hl w hJ.atG
  obtain rfl : sLen = l.length := hok.1
  obtain ⟨b, so, e, hc⟩ := bytes_cells hok hpos
  cases e
  have e1 : act.eval d = .slice (some ⟨g, off, none⟩) dLen dCap := by rw [hR.eval hd, hu]
  have e2 : act.eval s = .slice (some ⟨b, so, none⟩) l.length sCap := by rw [hR.eval hs, hv]
  obtain ⟨K, hK⟩ : ∃ K, K = Nat.min l.length dLen := ⟨_, rfl⟩
  have hKl : K ≤ l.length := by rw [hK]; exact Nat.min_le_left _ _
  rw [← hK] at hf kk
  have hsl : ((bC (l.take K)).map CV.val).length = K := by rw [List.length_map, bC_len, List.length_take, Nat.min_eq_left hKl]
  have hr := copyRun (P := C.P) w dT sT o.type i.el (ie := ie) g off dLen dCap (some ⟨b, so, none⟩) l.length sCap cur _ ((bC (l.take K)).map CV.val) ((ok.ty.get hi).g_slice hik) (ok.ty.get hie) hg (by rw [hsl, hK, hsz1, Nat.mul_one]) (fun j v hv => ⟨b, so, rfl, by
    have hj : j < K := by have := (List.getElem?_eq_some_iff.1 hv).1; rwa [hsl] at this
    rw [hc j (by omega)]
    rw [bC_val, List.getElem?_map, List.getElem?_take, if_pos hj, List.getElem?_eq_getElem (show j < l.length by omega)] at hv
    simp only [Option.map_some, Option.some.injEq] at hv
    rw [← hv, List.getD_eq_getElem?_getD, List.getElem?_eq_getElem (by omega)]
    rfl⟩) ⟨_, _, rfl⟩ (by rw [hsl, hsz]; omega) (ones_cells (ones_bC _))
  rw [← hK, hsl] at hr
  have hrun : (execOp act.eval o).run C.P w = .ok (.value (goInt K)) (w.setRow g (cur.toList.take off ++ (bC (l.take K)).map CV.val ++ cur.toList.drop (off + K)).toArray) := by
    simp [execOp, ho, resolve, invoke, builtin, e1, e2, hr]
  have hRp := hR.put o.dst (.c (.v (.int .i64 K)))
  have hbl : (bC (l.take K)).length = K := by rw [← List.length_map (f := CV.val), hsl]
  refine op_value (ok.sx kk) hrun hRp (hJ.setRow k hk hg ?_ hnc ?_ ?_)
  · simp only [List.size_toArray, List.length_append, List.length_take, List.length_drop, Array.length_toList, hsl]
    omega
  · rw [lay_len _ _ _ (by rw [hbl]; omega), hcl]
  · have e3 : cs.map CV.val = cur.toList.take (n * 1) := htk.symm
    simp only [lay, List.map_append, List.map_take, List.map_drop, e3, hbl]
    simp only [List.append_assoc]
    rw [List.take_append, List.length_take, Array.length_toList, Nat.min_eq_left (by omega), List.take_take, Nat.min_eq_right (by omega), List.take_take, Nat.min_eq_left (by omega)]
    congr 1
    rw [List.take_append, hsl, List.take_of_length_le (by rw [hsl]; omega)]
    congr 1
    rw [List.drop_take]
    congr 1
    omega
end
/-- What is there stays there. -/
theorem cell_keep {w W : World} (h : Ext (fun b => b < w.heap.size) w W) {a : Addr} {v : Value} (hc : w.cell? a = some v) : W.cell? a = some v := by
  have hb : a.block < w.heap.size := by
    rcases Nat.lt_or_ge a.block w.heap.size with hb | hb
    · exact hb
    · simp only [World.cell?, Array.getElem?_eq_none hb] at hc
      simp at hc
  rw [h.cell hb, hc]
def Keeps {α : Type} (d : Dt α) : Prop := ∀ {w W : World} {x : α} {cs : List Value}, Ext (fun b => b < w.heap.size) w W → d.K w x cs → d.K W x cs
theorem rd_keep {α : Type} {d : Dt α} (hd : Keeps d) {w W : World} (h : Ext (fun b => b < w.heap.size) w W) {a : Option Addr} {xs : List α} (hr : Rd d w a xs) : Rd d W a xs := fun hne => by
  obtain ⟨b, o, e, hc⟩ := hr hne
  exact ⟨b, o, e, fun i x hx => by
    obtain ⟨cs, k1, k2⟩ := hc i x hx
    exact ⟨cs, hd h k1, fun j v hv => cell_keep h (k2 j v hv)⟩⟩
theorem sl_keep {α : Type} {d : Dt α} (hd : Keeps d) {w W : World} (h : Ext (fun b => b < w.heap.size) w W) {s : Sl} {xs : List α} (hr : Sl.ok d w s xs) : Sl.ok d W s xs := ⟨hr.1, hr.2.1, rd_keep hd h hr.2.2⟩
theorem keepByte : Keeps dByte := fun _ h => h
theorem keepInt : Keeps dInt := fun _ h => h
theorem keepEnt : Keeps dEnt := fun _ h => h
theorem keepRn : Keeps dRn := fun _ h => h
theorem keepIno : Keeps dIno := fun h k => by
  obtain ⟨e, r, hc, h1, h2⟩ := k
  exact ⟨e, r, hc, sl_keep keepEnt h h1, sl_keep keepRn h h2⟩
theorem keepDee : Keeps dDee := fun h k => by
  obtain ⟨e, r, hc, h1, h2⟩ := k
  exact ⟨e, r, hc, sl_keep keepEnt h h1, sl_keep keepRn h h2⟩
end Go.Proofs.YtbbaoeidobdblaaGreat.Sx

/- garretlaw17: few, clean; nor.Chip.Load. -/
set_option linter.unusedVariables false
set_option linter.unusedSimpArgs false
namespace Go.Proofs.YtbbaoeidobdblaaGreat.Sx
open Go

attribute [local simp ↓] ifb_true' ifb_false'
attribute [local simp] ifb_true ifb_false ifb_eq sx argsT find ev evOp evs evo evBin evInt evStr evNil evNilA ptrA slcA isNoneA asB evLoad look del cellsB evUn evConv kdec fld evFieldA evField evIdxA evIdx evSlc bndL bndH evLen mmi put resV guardV gvL setO tupV cellsOf ones one upd lits nv exitTo SV.val CV.val TI.agg rdyA allR keepB scan simpO gsp isS subs keepT pickT wr memN pubs Res.fact Region.binds bld rest give delL back Res.eqv vi vb num Sv.val undef
theorem dee_ino {W : World} {a : Option Addr} {n c : Nat} {l : List Dee} (h : Sv.ok dDee W (a, n, c) l) {i : Nat} (hi : i < l.length) : ∃ b o, a = some ⟨b, o, none⟩ ∧ ∃ cs : List Value, cs.length = 7 ∧ (∀ j v, cs[j]? = some v → W.cell? ⟨b, o + i * 9 + 2 + j, none⟩ = some v) ∧ ∃ e r, cs = inoC l[i].ino e r ∧ InoR W l[i].ino e r := by
  obtain ⟨b, o, e, cs, ⟨es, rs, rfl, hr⟩, hl, hc⟩ := rd_get1 h hi
  refine ⟨b, o, e, inoC l[i].ino es rs, rfl, fun j v hv => ?_, es, rs, rfl, hr⟩
  have := hc (2 + j) v (by rw [Nat.add_comm]; exact hv)
  rw [← Nat.add_assoc] at this
  exact this
theorem dee_at {W : World} {a : Option Addr} {n c : Nat} {l : List Dee} (h : Sv.ok dDee W (a, n, c) l) {i : Nat} (hi : i < l.length) : ∃ b o, a = some ⟨b, o, none⟩ ∧ W.cell? ⟨b, o + i * 9, none⟩ = some (.int .i64 l[i].kind) ∧ W.cell? ⟨b, o + i * 9 + 1, none⟩ = some (.int .i64 l[i].no) := by
  obtain ⟨b, o, e, cs, ⟨es, rs, rfl, hr⟩, hl, hc⟩ := rd_get1 h hi
  exact ⟨b, o, e, hc 0 _ rfl, hc 1 _ rfl⟩
theorem ent_name {W : World} {a : Option Addr} {n c : Nat} {l : List Ent} (h : Sv.ok dEnt W (a, n, c) l) {i : Nat} (hi : i < l.length) : ∃ b o, a = some ⟨b, o, none⟩ ∧ W.cell? ⟨b, o + i * 2, none⟩ = some (.string l[i].name) := by
  obtain ⟨b, o, e, cs, hk, hl, hc⟩ := rd_get1 h hi
  have hk : cs = [.string l[i].name, .int .i64 l[i].no] := hk
  subst hk
  exact ⟨b, o, e, hc 0 _ rfl⟩
set_option maxRecDepth 10000 in
set_option maxHeartbeats 2000000 in
theorem few0 (w : World) (I : Nat → Prop) (hI : ∀ b, I b → b < w.heap.size) {a : Option Addr} {n c : Nat} (l : List Dee) (h : ∀ W, Ext I w W → Sv.ok dDee W (a, n, c) l) :
    Fn0 Tryz.prog 24 #[.slice a n c] w I (fun b : Bool => .bool b) (fun _ _ => True) := by
  obtain rfl : n = l.length := (h w (Ext.refl _ _)).1
  have hl := (h w (Ext.refl _ _)).2.2.1
  refine enter (svs := [.c (.v (.slice a l.length c))]) tysOk Tryz.func24 rfl Tryz.ntmps24 Tryz.results24 (by kernel_rfl) (by simp) hI (fun W => Sv.ok dDee W (a, l.length, c) l) h fun C hC hN ok => ?_
  simp [hN]
  refine loopK [0] ok (fun y : Nat × Int => [(4, .c (.v (.int .i64 (y.1 : Nat)))), (3, .c (.v (.int .i64 y.2)))]) (fun _ => []) (fun y W => y.1 ≤ l.length) (fun y => l.length - y.1) (0, 0) ?_ ?_ (fun W hW => Nat.zero_le _) ?_
  · simp
  · simp
  rintro ⟨i, z⟩ W hi hG next
  simp only at hi
  rcases Nat.lt_or_ge i l.length with hlt | hge
  · have e6 : IntKind.i64.wrap ((i : Int) + 1) = (i + 1 : Nat) := by rw [w64 (by omega) (by omega)]; omega
    obtain ⟨b, o, e, _⟩ := dee_ino (show Sv.ok dDee W (a, l.length, c) l from hG) hlt
    cases e
    have hget : ∀ W, Sv.ok dDee W (some ⟨b, o, none⟩, l.length, c) l → ∃ cs : List Value, cs.length = 7 ∧ (∀ j v, cs[j]? = some v → W.cell? ⟨b, o + i * 9 + 2 + j, none⟩ = some v) ∧ ∃ e r, cs = inoC l[i].ino e r ∧ InoR W l[i].ino e r := fun W hW => by
      obtain ⟨b', o', e, hc⟩ := dee_ino hW hlt
      cases e
      exact hc
    generalize l[i].ino = x at hget
    simp [hN, hlt]
    refine loadA ok rfl rfl rfl rfl (fun q W => ∃ e r, q = inoC x e r ∧ InoR W x e r) (fun W hW => hget W hW.2) ?_
    rintro q W _ ⟨es, rs, rfl, hx⟩ _
    have hel := hx.1.2.1
    simp [hN]
    intro g5
    refine loopK [0, 4, 5] ok (fun y : Nat × Int => [(6, .c (.v (.int .i64 (y.1 : Nat)))), (3, .c (.v (.int .i64 y.2)))]) (fun _ => [(5, .box g5 44 ((inoC x es rs).map .v))]) (fun y W => y.1 ≤ x.ents.length ∧ InoR W x es rs) (fun y => x.ents.length - y.1) (0, IntKind.i64.wrap (IntKind.i64.wrap (IntKind.i64.wrap (z + 10) + x.target.size) + x.runs.length)) ?_ ?_ (fun W hW => ⟨Nat.zero_le _, ?_⟩) ?_
    · simp
    · simp
    · obtain ⟨⟨_, _, _, _, ⟨⟨rfl, rfl⟩, rfl, rfl⟩, k⟩, _⟩ := hW
      exact k
    rintro ⟨k, z2⟩ W ⟨hk, hx2⟩ hG2 next2
    simp only at hk
    rcases Nat.lt_or_ge k x.ents.length with hlt2 | hge2
    · have e7 : IntKind.i64.wrap ((k : Int) + 1) = (k + 1 : Nat) := by rw [w64 (by omega) (by omega)]; omega
      obtain ⟨b2, o2, e, _⟩ := ent_name (n := x.ents.length) (show Sv.ok dEnt W (es.1, x.ents.length, es.2) x.ents from ⟨rfl, hx2.1⟩) hlt2
      obtain ⟨ea, ec⟩ := es
      cases e
      have hnm : ∀ W, Sl.ok dEnt W (some ⟨b2, o2, none⟩, ec) x.ents → ∃ v, W.cell? ⟨b2, o2 + k * 2, none⟩ = some v ∧ v = .string x.ents[k].name := fun W hW => by
        obtain ⟨b', o', e, hc⟩ := ent_name (n := x.ents.length) (show Sv.ok dEnt W (some ⟨b2, o2, none⟩, x.ents.length, ec) x.ents from ⟨rfl, hW⟩) hlt2
        cases e
        exact ⟨_, hc, rfl⟩
      simp [hN, hlt2]
      refine load1 ok rfl rfl rfl rfl (fun v W => v = .string x.ents[k].name) (fun W hW => hnm W hW.1.2.1) ?_
      rintro v W rfl _
      simp [hN, e7]
      exact next2 (k + 1, IntKind.i64.wrap (IntKind.i64.wrap (z2 + 10) + x.ents[k].name.size)) _ _ (by simp only; omega) (fun W hW => ⟨⟨hlt2, hW.1.2⟩, hW.2⟩) (by simp)
    · simp [hN, Nat.not_lt.2 hge2, e6]
      exact next (i + 1, z2) _ _ (by simp only; omega) (fun W hW => ⟨hlt, hW.2.2.2⟩) (by simp)
  · simp [hN, Nat.not_lt.2 hge]
    exact ret0 hC _ rfl fun _ _ _ => trivial
/-- A deed of a kind that is, with what its kind has alone. -/
def cleanD (d : Dee) : Dee := if 1 + d.kind % 4 = 2 then ⟨2, 0, d.ino⟩ else ⟨1 + d.kind % 4, d.no, inoZ⟩
theorem clean_fit {d : Dee} (h : fitI d.no ∧ FitN d.ino) : FitD (cleanD d) := by
  unfold cleanD
  split
  · exact ⟨.inr (.inl rfl), fun e => absurd rfl e, fun _ => h.2⟩
  · rename_i hne
    refine ⟨?_, fun _ => h.1, fun e => absurd e hne⟩
    simp only
    omega
theorem nil_inoR (W : World) : InoR W inoZ (none, 0) (none, 0) := ⟨⟨Nat.zero_le _, Nat.zero_le _, rd_nil _ _ _⟩, ⟨Nat.zero_le _, Nat.zero_le _, rd_nil _ _ _⟩⟩
set_option maxRecDepth 10000 in
set_option maxHeartbeats 2000000 in
theorem clean0 (w : World) (I : Nat → Prop) (hI : ∀ b, I b → b < w.heap.size) {a : Option Addr} {n c : Nat} (l : List Dee) (hl1 : l.length ≤ 1000000000) (h : ∀ W, Ext I w W → Sv.ok dDee W (a, n, c) l) :
    Fn0 Tryz.prog 25 #[.slice a n c] w I (fun s : Sl => .slice s.1 l.length s.2) (fun s W => s.ok dDee W (l.map cleanD)) := by
  obtain rfl : n = l.length := (h w (Ext.refl _ _)).1
  refine enter (svs := [.c (.v (.slice a l.length c))]) tysOk Tryz.func25 rfl Tryz.ntmps25 Tryz.results25 (by kernel_rfl) (by simp) hI (fun W => Sv.ok dDee W (a, l.length, c) l) h fun C hC hN ok => ?_
  simp [hN]
  refine nilr 600 46 9 (loopK [0] ok (fun y : Nat × Sl × List CV => [(4, .c (.v (.int .i64 (y.1 : Nat)))), (3, .c (.rw 600 y.2.1.1 y.1 y.2.1.2))]) (fun y => [(600, .row y.2.1.1 y.1 y.2.1.2 46 9 y.2.2)]) (fun y W => y.1 ≤ l.length ∧ Rows dDee W ((l.map cleanD).take y.1) (y.2.2.map CV.val)) (fun y => l.length - y.1) (0, (none, 0), []) ?_ ?_ (fun W hW => ⟨Nat.zero_le _, rows_nil _ _⟩) ?_)
  · simp
  · simp
  rintro ⟨i, ⟨ra, rc⟩, cs⟩ W ⟨hi, hrow⟩ hG next
  simp only at hi
  rcases Nat.lt_or_ge i l.length with hlt | hge
  · have e6 : IntKind.i64.wrap ((i : Int) + 1) = (i + 1 : Nat) := by rw [w64 (by omega) (by omega)]; omega
    obtain ⟨b, o, e, _⟩ := dee_ino (show Sv.ok dDee W (a, l.length, c) l from hG) hlt
    cases e
    have hget : ∀ W, Sv.ok dDee W (some ⟨b, o, none⟩, l.length, c) l → ∃ cs : List Value, cs.length = 7 ∧ (∀ j v, cs[j]? = some v → W.cell? ⟨b, o + i * 9 + 2 + j, none⟩ = some v) ∧ ∃ e r, cs = inoC l[i].ino e r ∧ InoR W l[i].ino e r := fun W hW => by
      obtain ⟨b', o', e, hc⟩ := dee_ino hW hlt
      cases e
      exact hc
    have hnum : ∀ W, Sv.ok dDee W (some ⟨b, o, none⟩, l.length, c) l → (∃ v, W.cell? ⟨b, o + i * 9, none⟩ = some v ∧ v = .int .i64 l[i].kind) ∧ ∃ v, W.cell? ⟨b, o + i * 9 + 1, none⟩ = some v ∧ v = .int .i64 l[i].no := fun W hW => by
      obtain ⟨b', o', e, h1, h2⟩ := dee_at hW hlt
      cases e
      exact ⟨⟨_, h1, rfl⟩, ⟨_, h2, rfl⟩⟩
    have ht : (l.map cleanD).take (i + 1) = (l.map cleanD).take i ++ [cleanD l[i]] := by
      rw [List.take_add_one, List.getElem?_map, List.getElem?_eq_getElem hlt]
      rfl
    generalize l[i] = d at hget hnum ht
    obtain ⟨kd, no, x⟩ := d
    simp only at hget hnum
    have hu : IntKind.i64.wrap ((IntKind.u64.wrap kd).tmod 4) = kd % 4 := by
      rw [u64_wrap, Int.tmod_eq_emod_of_nonneg (by omega), w64 (by omega) (by omega)]
      omega
    have hu2 : IntKind.i64.wrap (1 + kd % 4) = 1 + kd % 4 := w64 (by omega) (by omega)
    simp [hN, hlt]
    refine load1 ok rfl rfl rfl rfl (fun v W => v = .int .i64 kd) (fun W hW => (hnum W hW.2).1) ?_
    rintro v W rfl _
    simp [hN, hu, hu2, hlt]
    intro g5
    refine ⟨fun h2 => ?_, fun h2 => ?_⟩
    · have hcl : cleanD ⟨kd, no, x⟩ = ⟨2, 0, x⟩ := by unfold cleanD; rw [if_pos h2]
      refine loadA ok rfl rfl rfl rfl (fun q W => ∃ e r, q = inoC x e r ∧ InoR W x e r) (fun W hW => hget W hW.2) ?_
      rintro q W _ ⟨es, rs, rfl, hx⟩ _
      simp [hN]
      intro g39
      refine appR ok 600 39 rfl rfl rfl rfl rfl (by decide) rfl rfl rfl rfl rfl rfl rfl (by decide) (by simp) (by show (_ + 1) * 112 ≤ _; omega) (by omega) fun g' c' => ?_
      simp [hN, e6]
      refine next (i + 1, (some ⟨g', 0, none⟩, c'), cs ++ (deeC ⟨1 + kd % 4, 0, x⟩ es rs).map .v) _ _ (by simp only; omega) (fun W hW => ⟨⟨hlt, ?_⟩, hW.2.2⟩) (by simp)
      simp only
      rw [ht, hcl, List.map_append]
      obtain ⟨⟨_, _, _, _, ⟨⟨rfl, rfl⟩, rfl, rfl⟩, k⟩, k2, _⟩ := hW
      exact k2.2.snoc ⟨es, rs, by rw [h2]; simp [Function.comp_def, CV.val], k⟩
    · have hcl : cleanD ⟨kd, no, x⟩ = ⟨1 + kd % 4, no, inoZ⟩ := by unfold cleanD; rw [if_neg h2]
      refine load1 ok rfl rfl rfl rfl (fun v W => v = .int .i64 no) (fun W hW => (hnum W hW.2).2) ?_
      rintro v W rfl _
      simp [hN]
      intro g39
      refine appR ok 600 39 rfl rfl rfl rfl rfl (by decide) rfl rfl rfl rfl rfl rfl rfl (by decide) (by simp) (by show (_ + 1) * 112 ≤ _; omega) (by omega) fun g' c' => ?_
      simp [hN, e6]
      refine next (i + 1, (some ⟨g', 0, none⟩, c'), cs ++ (deeC ⟨1 + kd % 4, no, inoZ⟩ (none, 0) (none, 0)).map .v) _ _ (by simp only; omega) (fun W hW => ⟨⟨hlt, ?_⟩, hW.2⟩) (by simp [inoZ])
      simp only
      rw [ht, hcl, List.map_append]
      exact hW.1.2.snoc ⟨(none, 0), (none, 0), by simp [Function.comp_def, CV.val], nil_inoR W⟩
  · obtain rfl : i = l.length := by omega
    simp [hN]
    refine ret0 hC (ra, rc) rfl fun W hp hG => ?_
    have h1 : Rows dDee W (l.map cleanD) (cs.map CV.val) := by
      have := hG.1
      rw [List.take_of_length_le (by simp)] at this
      exact this
    have := (Rows.sv h1 (by decide) (by rw [List.length_map]; omega) hp.1).2
    exact this
/-- A chip is given other bytes. -/
theorem load0 (w : World) (I S : Nat → Prop) (hI : ∀ b, I b → b < w.heap.size) (c : Cp) (xs : List Int) (g cap : Nat) (hf : c.fit) (hx : xs.length = c.b.length) (h0 : 0 < c.b.length) (hS : Owns (c.res ++ [.row (some ⟨g, 0, none⟩) xs.length cap 5 1 (bC xs)]) S w) (hSI : ∀ b, S b → b < w.heap.size ∧ ¬ I b) :
    FnS Tryz.prog 43 #[ptrV c.gc, .slice (some ⟨g, 0, none⟩) xs.length cap] w I S (fun _ : Unit => .int .i64 0) (fun _ => Cp.res { c with b := xs }) (fun _ _ => True) := by
  refine enterS (svs := [.c (.bp 1000 c.gc 0), .c (.rw 1004 (some ⟨g, 0, none⟩) xs.length cap)]) tysOk Tryz.func43 rfl Tryz.ntmps43 Tryz.results43 (by kernel_rfl) (by simp) hI (c.res ++ [.row (some ⟨g, 0, none⟩) xs.length cap 5 1 (bC xs)]) hS hSI (fun _ => True) (fun _ _ => trivial) fun C hC hN ok => ?_
  have hmin : Nat.min xs.length c.b.length = xs.length := by rw [hx]; exact Nat.min_self _
  simp [hN, hx]
  refine copyR ok 1002 1004 rfl rfl rfl rfl rfl rfl rfl rfl rfl rfl ?_ ?_ ?_ ?_
  · simp
  · simp [hx]
  · rw [bC_sub]
    exact ones_bC _
  · have hlay : lay (bC c.b) 0 (List.take c.b.length (bC xs)) = bC xs := by
      have e1 : List.take c.b.length (bC xs) = bC xs := List.take_of_length_le (by rw [bC_len, hx]; exact Nat.le_refl _)
      rw [e1]
      unfold lay
      rw [List.take_zero, List.nil_append, Nat.zero_add, List.drop_of_length_le (by rw [bC_len, bC_len, hx]; exact Nat.le_refl _), List.append_nil]
    simp [hN, hlay]
    exact retS hC () [1000, 1001, 1002, 1003] rfl (by simp [Cp.map, mapR, hx]) fun _ _ _ => trivial
end Go.Proofs.YtbbaoeidobdblaaGreat.Sx

/- garretlaw17.JournalNew. -/
set_option linter.unusedVariables false
set_option linter.unusedSimpArgs false
namespace Go.Proofs.YtbbaoeidobdblaaGreat.Sx
open Go

attribute [local simp ↓] ifb_true' ifb_false'
attribute [local simp] ifb_true ifb_false ifb_eq sx argsT find ev evOp evs evo evBin evInt evStr evNil evNilA ptrA slcA isNoneA asB evLoad look del cellsB evUn evConv kdec fld evFieldA evField evIdxA evIdx evSlc bndL bndH evLen mmi put resV guardV gvL setO tupV cellsOf ones one upd lits nv exitTo SV.val CV.val TI.agg rdyA allR keepB scan simpO gsp isS subs keepT pickT wr memN pubs Res.fact Region.binds bld rest give delL back Res.eqv vi vb num Sv.val undef
/-- The size of an inode that came in. -/
def szN (x : Ino) : Nat := x.target.size + sumN (x.ents.map fun e => e.name.size + 1) + x.runs.length
theorem wI_sz (x : Ino) : wI x ≤ 45 + 24 * szN x := by
  rw [wI_eq, fmB_len, fmB_len]
  have h1 : ∀ l : List Ent, sumN (l.map fun e => (entB e).length) ≤ 24 * sumN (l.map fun e => e.name.size + 1) := by
    intro l
    induction l with
    | nil => exact Nat.le_refl _
    | cons e r ih =>
      have he : (entB e).length = e.name.size + 12 := by rw [entB, List.length_append, textB_length, intB_length]
      simp only [List.map_cons, sumN_cons]
      rw [he]
      omega
  have h2 : ∀ l : List Rn, sumN (l.map fun e => (runB e).length) ≤ 24 * l.length := by
    intro l
    induction l with
    | nil => exact Nat.le_refl _
    | cons e r ih =>
      have he : (runB e).length = 24 := by rw [runB, List.length_append, List.length_append, intB_length, intB_length, intB_length]
      simp only [List.map_cons, sumN_cons, List.length_cons]
      rw [he]
      omega
  have := h1 x.ents
  have := h2 x.runs
  unfold szN
  omega
/-- Deeds that came in. -/
structure DeesIn (ds : List Dee) : Prop where
  fit : ∀ d ∈ ds, fitI d.kind ∧ fitI d.no ∧ FitN d.ino
  size : sumN (ds.map fun d => szN d.ino + 1) ≤ 1048576
theorem DeesIn.len {ds : List Dee} (h : DeesIn ds) : ds.length ≤ 1048576 := by
  have : ∀ l : List Dee, l.length ≤ sumN (l.map fun d => szN d.ino + 1) := by
    intro l
    induction l with
    | nil => exact Nat.le_refl _
    | cons e r ih => simp only [List.map_cons, sumN_cons, List.length_cons]; omega
  exact Nat.le_trans (this ds) h.size
theorem DeesIn.clean {ds : List Dee} (h : DeesIn ds) : FitL (ds.map cleanD) ∧ (deedsB (ds.map cleanD)).length ≤ 100000000 := by
  refine ⟨⟨fun d hd => ?_⟩, ?_⟩
  · obtain ⟨x, hx, rfl⟩ := List.mem_map.1 hd
    exact clean_fit (h.fit x hx).2
  · have : ∀ l : List Dee, (deedsB (l.map cleanD)).length ≤ 69 * sumN (l.map fun d => szN d.ino + 1) := by
      intro l
      induction l with
      | nil => exact Nat.zero_le _
      | cons e r ih =>
        have h1 : (deedB (cleanD e)).length ≤ 69 * (szN e.ino + 1) := by
          unfold cleanD
          split
          · rw [put_len rfl]
            have := wI_sz e.ino
            simp only
            omega
          · rw [num_len _ _ _ (by omega)]
            omega
        rw [deeds_len] at ih ⊢
        simp only [List.map_cons, sumN_cons]
        omega
    have := this ds
    have := h.size
    omega
set_option maxRecDepth 100000 in
set_option maxHeartbeats 2000000 in
theorem journalNewLaw0 (w : World) (g : Geo) {ba la : Option Addr} {bn bc ln lc : Nat} (bs : List Int) (ds : List Dee) (h : ∀ W, Ext (fun b => b < w.heap.size) w W → Sv.ok dByte W (ba, bn, bc) bs ∧ Sv.ok dDee W (la, ln, lc) ds) (hbb : isB bs) (hds : DeesIn ds) :
    Fn0 Tryz.prog 9 #[.agg (geoC g).toArray, .slice ba bn bc, .slice la ln lc] w (fun b => b < w.heap.size) (fun b : Bool => .bool b) (fun y W => y = true) := by
  have hI : ∀ b, b < w.heap.size → b < w.heap.size := fun b h => h
  have hbn : bn = bs.length := (h w (Ext.refl _ _)).1.1
  have hln : ln = ds.length := (h w (Ext.refl _ _)).2.1
  have hdl := hds.len
  refine enter (svs := [.ag ((geoC g).map .v), .c (.v (.slice ba bn bc)), .c (.v (.slice la ln lc))]) tysOk Tryz.func9 rfl Tryz.ntmps9 Tryz.results9 (by kernel_rfl) (by simp) hI (fun W => Sv.ok dByte W (ba, bn, bc) bs ∧ Sv.ok dDee W (la, ln, lc) ds) h fun C hC hN ok => ?_
  simp [hN]
  intro g3
  refine call0 ok rfl rfl rfl (fun w I hI hG => few0 w I hI (n := ln) ds (fun W e => (hG W e).2)) fun few W _ => ?_
  cases few with
  | false =>
    simp [hN]
    refine call0 ok rfl rfl rfl (fun w I hI hG => awake17 w I hI) fun _ W _ => ?_
    simp [hN]
    exact ret0 hC true rfl fun _ _ _ => rfl
  | true =>
  simp [hN]
  refine call0 ok rfl rfl rfl (fun w I hI hG => geometry0 w I hI g) fun y W _ => ?_
  have hgr := geoP_right g
  generalize geoP g = G at hgr
  obtain ⟨q0, ⟨q1, q2⟩, ⟨q3, q4⟩, ⟨q5, q6⟩, ⟨q7, q8⟩, ⟨q9, q10⟩⟩ := id hgr
  simp [hN]
  refine draw ok [(3, .box g3 23 ((geoC G).map .v))] (by rw [ok.P]; exact mixed) (by kernel_rfl) ?_
  simp (maxSteps := 2000000) -implicitDefEqProofs [hN]
  refine callS ok rfl rfl rfl [] [] trivial rfl (fun gp : Nat => [(1001, .box gp 108 (powB ⟨-1, 0, false, 0⟩ (.map none)))]) (fun w I S hI hG hO hS => (powNew0 w I hI).lone hO) (fun r => by simp) (.inl fun k hk => by cases hk) fun gp W _ => ?_
  simp (maxSteps := 2000000) -implicitDefEqProofs [hN]
  obtain ⟨nb, hnb, hnb0, hnb1⟩ : ∃ nb : Nat, G.sectors * G.sector = (nb : Nat) ∧ 0 < nb ∧ nb ≤ 100000 := by
    obtain ⟨a, ha⟩ : ∃ a : Nat, G.sectors = a := ⟨G.sectors.toNat, by omega⟩
    obtain ⟨b, hb⟩ : ∃ b : Nat, G.sector = b := ⟨G.sector.toNat, by omega⟩
    refine ⟨a * b, by rw [ha, hb]; simp, Nat.mul_pos (by omega) (by omega), ?_⟩
    have : a * b ≤ 16 * 4096 := Nat.mul_le_mul (by omega) (by omega)
    omega
  refine callS ok rfl rfl rfl [] [] trivial rfl (fun x : Nat × Nat × Nat × Nat => [(1000, (newCp G gp ⟨-1, 0, false, 0⟩ (.map none) x nb).chip), (1002, (newCp G gp ⟨-1, 0, false, 0⟩ (.map none) x nb).row), (1003, (newCp G gp ⟨-1, 0, false, 0⟩ (.map none) x nb).map)]) (fun w I S hI hG hO hS => (norNew0 w I hI G gp nb ⟨-1, 0, false, 0⟩ (.map none) hgr hnb hnb0 hnb1).lone hO) (fun r => by simp [Cp.map, mapR]) (.inl fun k hk => by cases hk) fun x W _ => ?_
  obtain ⟨c0, hc0⟩ : ∃ c0, c0 = newCp G gp ⟨-1, 0, false, 0⟩ (.map none) x nb := ⟨_, rfl⟩
  have hfit : c0.fit := by
    rw [hc0]
    exact ⟨hgr, by simp only [newCp, List.length_replicate]; exact hnb.symm, by simp [newCp], by simp [newCp]⟩
  have hlive : live c0.p := by rw [hc0]; exact ⟨(by decide : (-1 : Int) < 0), rfl⟩
  have hgc : c0.gc = x.1 := by rw [hc0]; rfl
  have hpw : (.box gp 108 (powB ⟨-1, 0, false, 0⟩ (.map none)) : Res) = c0.pow := by rw [hc0]; rfl
  have hG0 : c0.g = G := by rw [hc0]; rfl
  have her : c0.er = [] := by rw [hc0]; rfl
  rw [hpw]
  simp only [← hc0, ← hgc]
  clear hpw hc0
  simp (maxSteps := 2000000) -implicitDefEqProofs [hN]
  refine call0 ok rfl rfl rfl (fun w I hI hG => awake17 w I hI) fun _ W _ => ?_
  have enb : IntKind.i64.wrap ((nb : Nat) : Int) = (nb : Nat) := w64 (by omega) (by omega)
  simp [hN, hnb, enb]
  refine mksl ok rfl rfl rfl rfl rfl rfl rfl rfl rfl (by omega) (by show (1 : Int) * _ ≤ _; omega) (by omega) fun g39 => ?_
  simp [hN]
  have hzr : (List.replicate nb (CV.v (.int .u8 0))) = bC (List.replicate nb 0) := by simp [bC]
  rw [hzr]
  have hlb : c0.b.length = nb := by have := hfit.len; rw [hG0, hnb] at this; exact_mod_cast this
  refine cutKc ok (p := ?pos) (fun _ : {xs : List Int // xs.length = nb ∧ isB xs} => [(44, .c (.rw 39 (some ⟨g39, 0, none⟩) nb nb)), (43, .c (.v (ptrV c0.gc))), (7, .c (.v (ptrV c0.gc))), (3, .c (.bp 3 g3 0)), (2, .c (.v (.slice la ln lc)))]) (fun _ W => Sv.ok dDee W (la, ln, lc) ds) (fun xs => [(39, .row (some ⟨g39, 0, none⟩) nb nb 5 1 (bC xs.1)), (1000, c0.chip), (1002, c0.row), (1003, c0.map), (1001, c0.pow), (3, .box g3 23 ((geoC G).map .v))]) ?rest fun R => ?main
  case main =>
    rcases Nat.eq_zero_or_pos bs.length with h0 | hpos
    · obtain rfl : bn = 0 := by omega
      refine copy0 ok rfl rfl rfl rfl rfl rfl rfl rfl ?_
      simp [hN]
      refine R ⟨List.replicate nb 0, by simp, fun x hx => by rw [(List.mem_replicate.1 hx).2]; decide⟩ _ _ ?_ ?_
      · exact fun W hW => hW.2
      · simp [Cp.map, mapR]
    · refine copyM ok 39 rfl rfl rfl rfl rfl rfl rfl rfl rfl rfl bs (fun W hW => hW.1) hpos (by rw [Nat.zero_add]; exact Nat.min_le_right _ _) ?_
      obtain ⟨K, hK⟩ : ∃ K, K = Nat.min bn nb := ⟨_, rfl⟩
      have hKb : K ≤ nb := by rw [hK]; exact Nat.min_le_right _ _
      have hKl : K ≤ bs.length := by rw [hK, hbn]; exact Nat.min_le_left _ _
      have hlay : lay (bC (List.replicate nb 0)) 0 (bC (bs.take K)) = bC (layI (List.replicate nb 0) 0 (bs.take K)) := by
        unfold lay layI
        simp [bC, List.map_take, List.map_drop]
      rw [← hK, hlay]
      simp [hN]
      refine R ⟨layI (List.replicate nb 0) 0 (bs.take K), ?_, ?_⟩ _ _ ?_ ?_
      · rw [layI_len _ _ _ (by rw [List.length_take, List.length_replicate]; omega), List.length_replicate]
      · exact isB_lay (fun x hx => by rw [(List.mem_replicate.1 hx).2]; decide) (fun x hx => hbb x (List.mem_of_mem_take hx)) _
      · exact fun W hW => hW.2
      · simp [Cp.map, mapR]
  case rest =>
  rintro ⟨xs, hxl, hxb⟩
  simp [hN]
  refine callS ok rfl rfl rfl [1000, 1001, 1002, 1003, 39] (c0.res ++ [.row (some ⟨g39, 0, none⟩) xs.length nb 5 1 (bC xs)]) (by simp [Cp.map, mapR, hxl]) rfl (fun _ : Unit => [(1000, (Cp.chip { c0 with b := xs })), (1001, (Cp.pow { c0 with b := xs })), (1002, (Cp.row { c0 with b := xs })), (1003, (Cp.map { c0 with b := xs }))]) (fun w I S hI hG hO hS' => by have := load0 w I S hI c0 xs g39 nb hfit (by omega) (by omega) hO hS'; rw [hxl] at this; exact this) (fun r => by simp [Cp.map, mapR]) (.inr fun x q hq => by simp at hq; rcases hq with rfl | rfl | rfl | rfl <;> simp) fun _ W _ => ?_
  obtain ⟨c1, hc1⟩ : ∃ c1 : Cp, c1 = { c0 with b := xs } := ⟨_, rfl⟩
  have hfit1 : c1.fit := by rw [hc1]; exact ⟨hfit.right, by simp only; rw [hxl, ← hlb]; exact hfit.len, by simp only; rw [hxl, ← hlb]; exact hfit.cap, hfit.left⟩
  have hlive1 : live c1.p := by rw [hc1]; exact hlive
  have hgc1 : c0.gc = c1.gc := by rw [hc1]
  simp only [← hc1]
  rw [hgc1]
  simp [hN]
  have hform1 := form_live hfit1 hlive1
  refine callS ok rfl rfl rfl [1000, 1001, 1002, 1003] c1.res (by simp [Cp.map, mapR]) rfl (fun x : Nat × Sl => [(1000, (formJ c1 x).c.chip), (1001, (formJ c1 x).c.pow), (1002, (formJ c1 x).c.row), (1003, (formJ c1 x).c.map), (1004, (formJ c1 x).box)]) (fun w I S hI hG hO hS' => format0 w I S hI c1 hfit1 hform1.1 hform1.2.1 hform1.2.2.1 hO hS') (fun r => by simp [Cp.map, mapR]) (.inr fun x q hq => by simp at hq; rcases hq with rfl | rfl | rfl | rfl | rfl <;> simp) fun y W hy => ?_
  have hJ0 := jon_form hfit1 hlive1 y
  have hj0 : (formJ c1 y).gj = y.1 ∧ (formJ c1 y).s = newSta ∧ (formJ c1 y).si = y.2 ∧ (formJ c1 y).sb = (none, 0) ∧ (formJ c1 y).ep = 1 ∧ (formJ c1 y).half = 0 := ⟨rfl, rfl, rfl, rfl, rfl, rfl⟩
  obtain ⟨j, hj⟩ : ∃ j, j = formJ c1 y := ⟨_, rfl⟩
  simp only [← hj] at hJ0 hj0
  simp only [← hj]
  rw [← hj0.1]
  simp [hN]
  refine call0 ok rfl rfl rfl (fun w I hI hG => clean0 w I hI (n := ln) ds (by omega) (fun W e => (hG W e).2)) fun sl W _ => ?_
  obtain ⟨L, hL⟩ : ∃ L, L = ds.map cleanD := ⟨_, rfl⟩
  have hcl := hds.clean
  rw [← hL] at hcl
  have hLl : L.length = ds.length := by rw [hL, List.length_map]
  simp only [← hL]
  simp [hN]
  have haw := applyL_w newSta L
  have hcw := count_w (applyL newSta L)
  have hww := whole_w (applyL newSta L)
  have hnw : wS newSta = 45 := by have := whole_w newSta; rw [new_whole] at this; omega
  have hjc := jon_commit hJ0.1 hcl.1
  have hhl := half_le hJ0.1.fit
  have hus := hJ0.1.used
  refine callS ok rfl rfl rfl [1000, 1001, 1002, 1003, 1004] j.res (by simp [Cp.map, mapR]) rfl (fun v : Sl × Sl => [(1000, (commitM j L v).2.c.chip), (1001, (commitM j L v).2.c.pow), (1002, (commitM j L v).2.c.row), (1003, (commitM j L v).2.c.map), (1004, (commitM j L v).2.box)]) (fun w I S hI hG hO hS' => commit0 w I S hI j (a := sl.1) (n := ds.length) (c := sl.2) L hJ0.1.fit hJ0.1.half (by have := hJ0.1.ep; omega) (by omega) (fun W e => by rw [hj0.2.1, hj0.2.2.1, hj0.2.2.2.1]; exact (hG W e).2.1) (fun W e => ⟨by simp only; omega, (hG W e).1⟩) (by rw [hj0.2.1]; simp [newSta]; omega) (by rw [hj0.2.1]; omega) (by rw [hj0.2.1]; show wholeB _ ≤ _; omega) (by omega) hO hS') (fun r => by simp [Cp.map, mapR]) (.inr fun x q hq => by simp at hq; rcases hq with rfl | rfl | rfl | rfl | rfl <;> simp) fun v W hv => ?_
  have hjc := hjc v (by rw [hj0.2.2.2.2.1]; decide)
  rw [hj0.2.1] at hjc hv
  have hsm := hJ0.2
  have hend := hJ0.1.ended
  refine cutKc ok (p := ?pos2) (fun y : {y : Int × Jn × Nat × Sl × Sl // (y.1 = 0 ∨ y.1 = 10) ∧ Jon y.2.1 ∧ y.2.1.gj = j.gj ∧ y.2.1.c.gc = c1.gc ∧ wS y.2.1.s ≤ 1000000000} => [(70, .c (.v (ptrV c1.gc))), (13, .c (.bp 13 y.1.2.2.1 0)), (12, .c (.v (.int .i64 y.1.1))), (10, .c (.v (ptrV j.gj)))]) (fun y W => StaR W y.1.2.1.s y.1.2.1.si y.1.2.1.sb ∧ StaR W y.1.2.1.s y.1.2.2.2.1 y.1.2.2.2.2) (fun y => [(1000, y.1.2.1.c.chip), (1001, y.1.2.1.c.pow), (1002, y.1.2.1.c.row), (1003, y.1.2.1.c.map), (1004, y.1.2.1.box), (13, .box y.1.2.2.1 39 ((staC y.1.2.1.s y.1.2.2.2.1 y.1.2.2.2.2).map .v))]) ?rest2 fun R => ?main2
  case main2 =>
    rcases hjc with h | h
    · obtain ⟨h1, h2, h3, h4, h5, h6, h7, _⟩ := h
      rw [h1]
      obtain ⟨j2, hj2⟩ : ∃ j2, (commitM j L v).2 = j2 := ⟨_, rfl⟩
      rw [hj2] at h2 h3 h4 h5 h6 h7
      simp only [hj2]
      simp [hN]
      refine call0 ok rfl rfl rfl (fun w I hI hG => newSta0 w I hI) fun ns W _ => ?_
      simp [hN]
      intro g13
      refine call0 ok rfl rfl rfl (fun w I hI hG => refApply0 w I hI newSta ns (none, 0) (a := sl.1) (n := ds.length) (c := sl.2) L (fun W e => (hG W e).1) (fun W e => ⟨by simp only; omega, (hG W e).2.2.1⟩) (by simp [newSta]; omega)) fun u W _ => ?_
      simp [hN]
      refine R ⟨(0, j2, g13, u.1, u.2), .inl rfl, h2, h6, by rw [h7.gc, hsm.gc], by rw [h3]; omega⟩ _ _ ?_ ?_
      · intro W hW
        exact ⟨by simp only [h3, h4, h5]; have := hW.2.2.1 hend; rw [hj0.2.1] at this; exact this, by simp only [h3]; exact hW.1⟩
      · simp [Cp.map, mapR, h3]
    · obtain ⟨h1, _, _⟩ := h
      rw [h1]
      simp [hN]
      refine call0 ok rfl rfl rfl (fun w I hI hG => newSta0 w I hI) fun ns W _ => ?_
      simp [hN]
      intro g13
      refine R ⟨(10, j, g13, ns, (none, 0)), .inr rfl, hJ0.1, rfl, by rw [hsm.gc], by rw [hj0.2.1]; omega⟩ _ _ ?_ ?_
      · intro W hW
        exact ⟨by simp only [hj0.2.1, hj0.2.2.1, hj0.2.2.2.1]; exact hW.2.2.2.1, by simp only [hj0.2.1]; exact hW.1⟩
      · simp [Cp.map, mapR, hj0.2.1]
  case rest2 =>
  rintro ⟨⟨f, j2, g13, si, sb⟩, hf, hjn2, hgj2, hgc2, hws⟩
  simp only at hf hjn2 hgj2 hgc2 hws
  have hcw2 := count_w j2.s
  simp [hN]
  refine callS ok rfl rfl rfl [1000, 1001, 1002, 1003] j2.c.res (by simp [Cp.map, mapR]) rfl (fun x : Nat × Sl × Sl => [(1000, j2.c.chip), (1001, j2.c.pow), (1002, j2.c.row), (1003, j2.c.map), (1005, (reJ j2 x).box)]) (fun w I S hI hG hO hS' => by have := openOk0 w I S hI j2 hjn2 hO hS'; rw [hgc2] at this; exact this) (fun r => by simp [reJ, Cp.map, mapR]) (.inr fun x q hq => by simp at hq; rcases hq with rfl | rfl | rfl | rfl | rfl <;> simp) fun x W hx => ?_
  simp [hN]
  have hh2 := hjn2.half
  refine draw ok [(13, .box g13 39 ((staC j2.s si sb).map .v))] (by rw [ok.P]; exact mixed) (by kernel_rfl) ?_
  have hle1 : ((j2.half : Nat) : Int) ≤ 1 := by omega
  rcases hf with rfl | rfl
  all_goals
    simp (maxSteps := 2000000) -implicitDefEqProofs [hN, hle1]
    refine callS ok rfl rfl rfl [1004] [j2.box] (by simp) rfl (fun _ : Unit => [(1004, j2.box)]) (fun w I S hI hG hO hS' => by have := half0 w I S hI j2 hO hS'; rw [hgj2] at this; exact this) (fun r => by simp) (.inr fun x q hq => by simp at hq; subst hq; simp) fun _ W _ => ?_
    simp (maxSteps := 2000000) -implicitDefEqProofs [hN, hle1]
    refine callS ok rfl rfl rfl [1004] [j2.box] (by simp) rfl (fun _ : Sl × Sl => [(1004, j2.box)]) (fun w I S hI hG hO hS' => by have := state0 w I S hI j2 (fun W e => (hG W e).2.1) (by omega) hO hS'; rw [hgj2] at this; exact this) (fun r => by simp) (.inr fun x q hq => by simp at hq; subst hq; simp) fun z1 W _ => ?_
    simp (maxSteps := 2000000) -implicitDefEqProofs [hN, hle1]
    refine call0 ok rfl rfl rfl (fun w I hI hG => sameSta0 w I hI (applyL j2.s []) j2.s z1.1 z1.2 si sb (fun W e => ⟨(hG W e).1, (hG W e).2.2.2⟩)) fun _ W _ => ?_
    rw [tB_true (show applyL j2.s [] = j2.s from rfl)]
    simp (maxSteps := 2000000) -implicitDefEqProofs [hN, hle1]
    refine callS ok rfl rfl rfl [1005] [(reJ j2 x).box] (by simp) rfl (fun _ : Sl × Sl => [(1005, (reJ j2 x).box)]) (fun w I S hI hG hO hS' => state0 w I S hI (reJ j2 x) (fun W e => (hG W e).2.1) (by show j2.s.inos.length ≤ _ ∧ j2.s.bad.length ≤ _; omega) hO hS') (fun r => by simp) (.inr fun x q hq => by simp at hq; subst hq; simp) fun z2 W _ => ?_
    simp (maxSteps := 2000000) -implicitDefEqProofs [hN, hle1]
    refine call0 ok rfl rfl rfl (fun w I hI hG => sameSta0 w I hI (applyL (reJ j2 x).s []) j2.s z2.1 z2.2 si sb (fun W e => ⟨(hG W e).1, (hG W e).2.2.2.2⟩)) fun _ W _ => ?_
    rw [tB_true (show applyL (reJ j2 x).s [] = j2.s from rfl)]
    simp (maxSteps := 2000000) -implicitDefEqProofs [hN, hle1]
    exact ret0 hC true rfl fun _ _ _ => rfl
end Go.Proofs.YtbbaoeidobdblaaGreat.Sx

/- garretlaw17.JournalAgain. -/
set_option linter.unusedVariables false
set_option linter.unusedSimpArgs false
namespace Go.Proofs.YtbbaoeidobdblaaGreat.Sx
open Go

attribute [local simp ↓] ifb_true' ifb_false'
attribute [local simp] ifb_true ifb_false ifb_eq sx argsT find ev evOp evs evo evBin evInt evStr evNil evNilA ptrA slcA isNoneA asB evLoad look del cellsB evUn evConv kdec fld evFieldA evField evIdxA evIdx evSlc bndL bndH evLen mmi put resV guardV gvL setO tupV cellsOf ones one upd lits nv exitTo SV.val CV.val TI.agg rdyA allR keepB scan simpO gsp isS subs keepT pickT wr memN pubs Res.fact Region.binds bld rest give delL back Res.eqv vi vb num Sv.val undef
/-- Lists of deeds. -/
def dDs : Dt (List Dee) := ⟨1, fun W x cs => ∃ s : Sl, cs = [.slice s.1 x.length s.2] ∧ s.ok dDee W x, fun h => by obtain ⟨s, rfl, _⟩ := h; rfl, fun h u hu => by
  obtain ⟨s, rfl, _⟩ := h
  simp at hu
  subst hu
  rfl⟩
theorem keepDs : Keeps dDs := fun h k => by
  obtain ⟨s, hc, h1⟩ := k
  exact ⟨s, hc, sl_keep keepDee h h1⟩
theorem ds_get {W : World} {a : Option Addr} {n c : Nat} {l : List (List Dee)} (h : Sv.ok dDs W (a, n, c) l) {i : Nat} (hi : i < l.length) : ∃ b o, a = some ⟨b, o, none⟩ ∧ ∃ v, W.cell? ⟨b, o + i, none⟩ = some v ∧ slQ dDee l[i] v W := by
  obtain ⟨b, o, e, cs, ⟨s, rfl, hs⟩, hl, hc⟩ := rd_get1 h hi
  exact ⟨b, o, e, _, by have := hc 0 _ rfl; simpa [dDs] using this, s, rfl, hs⟩
theorem stateL_w : ∀ (ds : List (List Dee)) (s : Sta), wS (stateL s ds) ≤ wS s + totP ((ds.map deedsB).map fun y => (y, y.length))
  | [], s => by simp [stateL, totP]
  | d :: r, s => by
    have h1 := stateL_w r (applyL s d)
    have h2 := applyL_w s d
    simp only [stateL, List.foldl_cons, List.map_cons, totP] at h1 ⊢
    omega
theorem jon_w {j : Jn} (h : Jon j) : wS j.s ≤ j.used := by
  obtain ⟨s0, ds, _, _, h3, h4, _⟩ := h.on
  have h5 := stateL_w ds s0
  have h6 := firstB_length j.ep s0
  have h7 := whole_w s0
  have h8 : (deedsB (wholeL s0)).length = wholeB s0 := rfl
  rw [h3, h4, halfL, recsB_length, List.map_cons, totP]
  omega
/-- Bytes that are the same. -/
theorem sameB0 (w : World) (I : Nat → Prop) (hI : ∀ b, I b → b < w.heap.size) {a a' : Option Addr} {n c n' c' : Nat} (xs : List Int) (h : ∀ W, Ext I w W → Sv.ok dByte W (a, n, c) xs ∧ Sv.ok dByte W (a', n', c') xs) :
    Fn0 Tryz.prog 29 #[.slice a n c, .slice a' n' c'] w I (fun _ : Unit => .bool true) (fun _ _ => True) := by
  refine enter (svs := [.c (.v (.slice a n c)), .c (.v (.slice a' n' c'))]) tysOk Tryz.func29 rfl Tryz.ntmps29 Tryz.results29 (by kernel_rfl) (by simp) hI (fun W => Sv.ok dByte W (a, n, c) xs ∧ Sv.ok dByte W (a', n', c') xs) h fun C hC hN ok => ?_
  simp [hN]
  refine strS ok rfl rfl rfl rfl rfl rfl rfl rfl rfl xs (fun W hW => hW.1) ?_
  simp [hN]
  refine strS ok rfl rfl rfl rfl rfl rfl rfl rfl rfl xs (fun W hW => hW.2) ?_
  simp [hN]
  exact ret0 hC () rfl fun _ _ _ => trivial
set_option maxRecDepth 100000 in
set_option maxHeartbeats 2000000 in
theorem journalAgainLaw0 (w : World) {la : Option Addr} {ln lc : Nat} (ls : List (List Dee)) (n : Int) (h : ∀ W, Ext (fun b => b < w.heap.size) w W → Sv.ok dDs W (la, ln, lc) ls) (hds : ∀ ds ∈ ls, DeesIn ds) :
    Fn0 Tryz.prog 4 #[.slice la ln lc, .int .i64 n] w (fun b => b < w.heap.size) (fun b : Bool => .bool b) (fun y W => y = true) := by
  have hI : ∀ b, b < w.heap.size → b < w.heap.size := fun b h => h
  have hln : ln = ls.length := (h w (Ext.refl _ _)).1
  have hlb : ls.length ≤ 100000000000 := (h w (Ext.refl _ _)).2.2.1
  refine enter (svs := [.c (.v (.slice la ln lc)), .c (.v (.int .i64 n))]) tysOk Tryz.func4 rfl Tryz.ntmps4 Tryz.results4 (by kernel_rfl) (by simp) hI (fun W => Sv.ok dDs W (la, ln, lc) ls) h fun C hC hN ok => ?_
  simp [hN]
  refine call0 ok rfl rfl rfl (fun w I hI hG => wide0 w I hI) fun _ W _ => ?_
  simp [hN]
  refine callS ok rfl rfl rfl [] [] trivial rfl (fun gp : Nat => [(1001, .box gp 108 (powB ⟨-1, 0, false, 0⟩ (.map none)))]) (fun w I S hI hG hO hS => (powNew0 w I hI).lone hO) (fun r => by simp) (.inl fun k hk => by cases hk) fun gp W _ => ?_
  simp [hN]
  obtain ⟨nb, hnb, hnb0, hnb1, hnb2⟩ : ∃ nb : Nat, wideG.sectors * wideG.sector = (nb : Nat) ∧ 0 < nb ∧ nb ≤ 100000 ∧ nb = 16384 := ⟨16384, by decide, by decide, by decide, rfl⟩
  refine callS ok rfl rfl rfl [] [] trivial rfl (fun x : Nat × Nat × Nat × Nat => [(1000, (newCp wideG gp ⟨-1, 0, false, 0⟩ (.map none) x nb).chip), (1002, (newCp wideG gp ⟨-1, 0, false, 0⟩ (.map none) x nb).row), (1003, (newCp wideG gp ⟨-1, 0, false, 0⟩ (.map none) x nb).map)]) (fun w I S hI hG hO hS => (norNew0 w I hI wideG gp nb ⟨-1, 0, false, 0⟩ (.map none) wide_right hnb hnb0 hnb1).lone hO) (fun r => by simp [Cp.map, mapR]) (.inl fun k hk => by cases hk) fun x W _ => ?_
  obtain ⟨c0, hc0⟩ : ∃ c0, c0 = newCp wideG gp ⟨-1, 0, false, 0⟩ (.map none) x nb := ⟨_, rfl⟩
  have hfit : c0.fit := by
    rw [hc0]
    exact ⟨wide_right, by simp only [newCp, List.length_replicate]; exact hnb.symm, by simp [newCp], by simp [newCp]⟩
  have hlive : live c0.p := by rw [hc0]; exact ⟨(by decide : (-1 : Int) < 0), rfl⟩
  have hgc : c0.gc = x.1 := by rw [hc0]; rfl
  have hpw : (.box gp 108 (powB ⟨-1, 0, false, 0⟩ (.map none)) : Res) = c0.pow := by rw [hc0]; rfl
  have hG0 : c0.g = wideG := by rw [hc0]; rfl
  have her : c0.er = [] := by rw [hc0]; rfl
  rw [hpw]
  simp only [← hc0, ← hgc]
  clear hpw hc0
  simp [hN]
  refine call0 ok rfl rfl rfl (fun w I hI hG => awake17 w I hI) fun _ W _ => ?_
  simp [hN]
  have hlb2 : c0.b.length = 16384 := by have := hfit.len; rw [hG0, hnb, hnb2] at this; exact_mod_cast this
  have hform := form_live hfit hlive
  refine callS ok rfl rfl rfl [1000, 1001, 1002, 1003] c0.res (by simp [Cp.map, mapR]) rfl (fun x : Nat × Sl => [(1000, (formJ c0 x).c.chip), (1001, (formJ c0 x).c.pow), (1002, (formJ c0 x).c.row), (1003, (formJ c0 x).c.map), (1004, (formJ c0 x).box)]) (fun w I S hI hG hO hS' => format0 w I S hI c0 hfit hform.1 hform.2.1 hform.2.2.1 hO hS') (fun r => by simp [Cp.map, mapR]) (.inr fun x q hq => by simp at hq; rcases hq with rfl | rfl | rfl | rfl | rfl <;> simp) fun y W hy => ?_
  have hJ0 := jon_form hfit hlive y
  have hj0 : (formJ c0 y).gj = y.1 ∧ (formJ c0 y).s = newSta ∧ (formJ c0 y).si = y.2 ∧ (formJ c0 y).sb = (none, 0) ∧ (formJ c0 y).ep = 1 ∧ (formJ c0 y).half = 0 := ⟨rfl, rfl, rfl, rfl, rfl, rfl⟩
  obtain ⟨j, hj⟩ : ∃ j, j = formJ c0 y := ⟨_, rfl⟩
  simp only [← hj] at hJ0 hj0
  simp only [← hj]
  rw [← hj0.1]
  simp [hN]
  refine loopK [0, 1, 5, 7] ok (fun y : Nat × Jn => [(9, .c (.v (.int .i64 (y.1 : Nat))))]) (fun y => [(1000, y.2.c.chip), (1001, y.2.c.pow), (1002, y.2.c.row), (1003, y.2.c.map), (1004, y.2.box)]) (fun z W => z.1 ≤ ls.length ∧ Jon z.2 ∧ z.2.ep ≤ 1 + z.1 ∧ z.1 ≤ 10 ∧ z.2.gj = j.gj ∧ z.2.c.gc = c0.gc ∧ z.2.c.b.length = 16384 ∧ StaR W z.2.s z.2.si z.2.sb) (fun y => ls.length - y.1) (0, j) ?_ ?_ (fun W hW => ⟨Nat.zero_le _, hJ0.1, by rw [hj0.2.2.2.2.1]; show (1 : Int) ≤ 1 + (0 : Nat); decide, Nat.zero_le _, rfl, hJ0.2.gc, by rw [hJ0.2.len, hlb2], by rw [hj0.2.1, hj0.2.2.1, hj0.2.2.2.1]; exact hW.1⟩) ?_
  · simp
  · simp [Cp.map, mapR]
  obtain ⟨gj, hgj⟩ : ∃ gj, gj = j.gj := ⟨_, rfl⟩
  rw [← hgj]
  rintro ⟨i, j⟩ W ⟨hi, hjn, hje, hi10, hjp, hjc, hjl, hS⟩ hG2 next
  simp only at hi hjn hje hi10 hjp hjc hjl hS
  have hjw := jon_w hjn
  have hju := hjn.used
  have hjh := half_le hjn.fit
  by_cases hgo : i < ls.length ∧ i < 10
  · obtain ⟨hlt, hlt10⟩ := hgo
    have e6 : IntKind.i64.wrap ((i : Int) + 1) = (i + 1 : Nat) := by rw [w64 (by omega) (by omega)]; omega
    have hltn : i < ln := by omega
    have hlt10' : (i : Int) < 10 := by omega
    obtain ⟨b, off, e, _⟩ := ds_get (h w (Ext.refl _ _)) hlt
    cases e
    have hget : ∀ W, Sv.ok dDs W (some ⟨b, off, none⟩, ln, lc) ls → ∃ v, W.cell? ⟨b, off + i, none⟩ = some v ∧ slQ dDee ls[i] v W := fun W hW => by
      obtain ⟨b', o', e, hc⟩ := ds_get hW hlt
      cases e
      exact hc
    have hdi := hds _ (List.getElem_mem hlt)
    generalize ls[i] = ds at hget hdi
    have hdl := hdi.len
    have hcl := hdi.clean
    simp [hN, hltn, hlt10']
    refine load1 ok rfl rfl rfl rfl (slQ dDee ds) (fun W hW => hget W hW.2.2) ?_
    rintro v W ⟨sv, rfl, hsv⟩ _
    simp [hN]
    refine call0 ok rfl rfl rfl (fun w I hI hG => few0 w I hI (n := ds.length) ds (fun W e => ⟨rfl, (hG W e).1.get.2⟩)) fun few W _ => ?_
    cases few with
    | false =>
      simp [hN]
      exact ret0 hC true rfl fun _ _ _ => rfl
    | true =>
    simp [hN, hltn]
    refine load1 ok rfl rfl rfl rfl (slQ dDee ds) (fun W hW => hget W (by first | exact hW.2.2.2 | exact hW.2.2.2.2)) ?_
    rintro v W ⟨sv2, rfl, hsv2⟩ _
    simp [hN]
    refine call0 ok rfl rfl rfl (fun w I hI hG => clean0 w I hI (n := ds.length) ds (by omega) (fun W e => ⟨rfl, (hG W e).1.get.2⟩)) fun sl W _ => ?_
    obtain ⟨L, hL⟩ : ∃ L, L = ds.map cleanD := ⟨_, rfl⟩
    rw [← hL] at hcl
    have hLl : L.length = ds.length := by rw [hL, List.length_map]
    simp only [← hL]
    simp [hN]
    have haw := applyL_w j.s L
    have hcw := count_w (applyL j.s L)
    have hcw0 := count_w j.s
    have hww := whole_w (applyL j.s L)
    have hjcm := jon_commit hjn hcl.1
    refine callS ok rfl rfl rfl [1000, 1001, 1002, 1003, 1004] j.res (by simp [Cp.map, mapR]) rfl (fun v : Sl × Sl => [(1000, (commitM j L v).2.c.chip), (1001, (commitM j L v).2.c.pow), (1002, (commitM j L v).2.c.row), (1003, (commitM j L v).2.c.map), (1004, (commitM j L v).2.box)]) (fun w I S hI hG hO hS' => by have := commit0 w I S hI j (a := sl.1) (n := ds.length) (c := sl.2) L hjn.fit hjn.half (by have := hjn.ep; omega) (by omega) (fun W e => (hG W e).2.2.2.1.2.2.2.2.2.2.2) (fun W e => ⟨by simp only; omega, (hG W e).1⟩) (by omega) (by omega) (by show wholeB _ ≤ _; omega) (by omega) hO hS'; rw [hjp] at this; exact this) (fun r => by simp [Cp.map, mapR]) (.inr fun x q hq => by simp at hq; rcases hq with rfl | rfl | rfl | rfl | rfl <;> simp) fun v W hv => ?_
    have hjcm := hjcm v (by omega)
    rcases hjcm with hh | hh
    · obtain ⟨h1, h2, h3, h4, h5, h6, h7, h8⟩ := hh
      have hep2 : (commitM j L v).2.ep ≤ j.ep + 1 := by rcases h8 with h | h <;> omega
      rw [h1]
      obtain ⟨j2, hj2⟩ : ∃ j2, (commitM j L v).2 = j2 := ⟨_, rfl⟩
      rw [hj2] at h2 h3 h4 h5 h6 h7 hep2
      simp only [hj2]
      simp [hN, e6]
      exact next (i + 1, j2) _ _ (by simp only; omega) (fun W hW => ⟨⟨hlt, h2, by simp only; omega, hlt10, by rw [h6, hjp], by rw [h7.gc, hjc], by rw [h7.len, hjl], by simp only [h3, h4, h5]; exact hW.1 hjn.ended⟩, hW.2.2.2.2.2⟩) (by simp [Cp.map, mapR])
    · obtain ⟨h1, _, _⟩ := hh
      rw [h1]
      simp [hN, e6]
      exact next (i + 1, j) _ _ (by simp only; omega) (fun W hW => ⟨⟨hlt, hjn, by simp only; omega, hlt10, hjp, hjc, hjl, hW.2.2.2.2.1.2.2.2.2.2.2.2⟩, hW.2.2.2.2.2⟩) (by simp [Cp.map, mapR])
  clear next
  refine cutK ok (p := ?pos) [(73, .c (.v (.int .i64 16384))), (72, .c (.v (ptrV c0.gc))), (11, .c (.v (.int .i64 16384))), (7, .c (.v (ptrV gj))), (5, .c (.v (ptrV c0.gc))), (1, .c (.v (.int .i64 n)))] (fun W => StaR W j.s j.si j.sb) [(1000, j.c.chip), (1001, j.c.pow), (1002, j.c.row), (1003, j.c.map), (1004, j.box)] ?rest fun R => ?main
  case main =>
    by_cases hlt : i < ls.length
    · have hi10' : ¬ (i : Int) < 10 := by omega
      have hltn : i < ln := by omega
      simp [hN, hltn, hi10']
      refine R _ _ ?_ ?_
      · exact fun W hW => hW.1.2.2.2.2.2.2.2
      · simp [Cp.map, mapR]
    · have hltn : ¬ i < ln := by omega
      simp [hN, hltn]
      refine R _ _ ?_ ?_
      · exact fun W hW => hW.1.2.2.2.2.2.2.2
      · simp [Cp.map, mapR]
  case rest =>
  simp [hN]
  refine callS ok rfl rfl rfl [1000, 1001, 1002, 1003] j.c.res (by simp [Cp.map, mapR]) rfl (fun _ : Sl => [(1000, j.c.chip), (1001, j.c.pow), (1002, j.c.row), (1003, j.c.map)]) (fun w I S hI hG hO hS' => by have := norRead0 w I S hI j.c 0 16384 hjn.fit (by decide) (by omega) hO hS'; rw [hjc] at this; exact this) (fun r => by simp [Cp.map, mapR]) (.inr fun x q hq => by simp at hq; rcases hq with rfl | rfl | rfl | rfl <;> simp) fun wa W _ => ?_
  simp [hN]
  obtain ⟨K, hKK, hK1⟩ : ∃ K : Nat, IntKind.i64.wrap (1 + IntKind.i64.wrap ((IntKind.u64.wrap n).tmod 4)) = (K : Nat) ∧ K ≤ 4 := by
    have h1 := modP_le n 4 (by decide)
    have h2 : IntKind.i64.wrap ((IntKind.u64.wrap n).tmod 4) = modP n 4 := by
      rw [u64_wrap, Int.tmod_eq_emod_of_nonneg (by omega), w64 (by omega) (by omega)]
      unfold modP
      omega
    rw [h2]
    exact ⟨(1 + modP n 4).toNat, by rw [w64 (by omega) (by omega)]; omega, by omega⟩
  refine loopK [1, 5, 7, 11, 12] ok (fun i : Nat => [(14, .c (.v (.int .i64 (i : Nat))))]) (fun _ => [(1000, j.c.chip), (1001, j.c.pow), (1002, j.c.row), (1003, j.c.map), (1004, j.box)]) (fun i W => i ≤ K ∨ i = 0) (fun i => K - i) 0 ?_ ?_ (fun W hW => .inr rfl) ?_
  · simp
  · simp [Cp.map, mapR]
  rintro k W hk hG3 next
  rcases Nat.lt_or_ge k K with hlt | hge
  · have e6 : IntKind.i64.wrap ((k : Int) + 1) = (k + 1 : Nat) := by rw [w64 (by omega) (by omega)]; omega
    simp [hN, hKK, hlt]
    refine callS ok rfl rfl rfl [1000, 1001, 1002, 1003] j.c.res (by simp [Cp.map, mapR]) rfl (fun x : Nat × Sl × Sl => [(1000, j.c.chip), (1001, j.c.pow), (1002, j.c.row), (1003, j.c.map), (1005, (reJ j x).box)]) (fun w I S hI hG hO hS' => by have := openOk0 w I S hI j hjn hO hS'; rw [hjc] at this; exact this) (fun r => by simp [reJ, Cp.map, mapR]) (.inr fun x q hq => by simp at hq; rcases hq with rfl | rfl | rfl | rfl | rfl <;> simp) fun x W hx => ?_
    simp [hN]
    refine callS ok rfl rfl rfl [1005] [(reJ j x).box] (by simp) rfl (fun _ : Sl × Sl => [(1005, (reJ j x).box)]) (fun w I S hI hG hO hS' => state0 w I S hI (reJ j x) (fun W e => (hG W e).1) (by show j.s.inos.length ≤ _ ∧ j.s.bad.length ≤ _; have := count_w j.s; omega) hO hS') (fun r => by simp) (.inr fun x q hq => by simp at hq; subst hq; simp) fun z1 W _ => ?_
    simp [hN]
    refine callS ok rfl rfl rfl [1004] [j.box] (by simp) rfl (fun _ : Sl × Sl => [(1004, j.box)]) (fun w I S hI hG hO hS' => by have := state0 w I S hI j (fun W e => (hG W e).2.2.2.2) (by have := count_w j.s; omega) hO hS'; rw [hjp] at this; exact this) (fun r => by simp) (.inr fun x q hq => by simp at hq; subst hq; simp) fun z2 W _ => ?_
    simp [hN]
    refine call0 ok rfl rfl rfl (fun w I hI hG => sameSta0 w I hI (applyL (reJ j x).s []) (applyL j.s []) z1.1 z1.2 z2.1 z2.2 (fun W e => ⟨(hG W e).2.1, (hG W e).1⟩)) fun _ W _ => ?_
    rw [tB_true (show applyL (reJ j x).s [] = applyL j.s [] from rfl)]
    simp [hN]
    refine callS ok rfl rfl rfl [1005] [(reJ j x).box] (by simp) rfl (fun _ : Unit => [(1005, (reJ j x).box)]) (fun w I S hI hG hO hS' => epoch0 w I S hI (reJ j x) hO hS') (fun r => by simp) (.inr fun x q hq => by simp at hq; subst hq; simp) fun _ W _ => ?_
    simp [hN]
    refine callS ok rfl rfl rfl [1004] [j.box] (by simp) rfl (fun _ : Unit => [(1004, j.box)]) (fun w I S hI hG hO hS' => by have := epoch0 w I S hI j hO hS'; rw [hjp] at this; exact this) (fun r => by simp) (.inr fun x q hq => by simp at hq; subst hq; simp) fun _ W _ => ?_
    have hre : (reJ j x).ep = j.ep ∧ (reJ j x).half = j.half := ⟨rfl, rfl⟩
    simp [hN, hre]
    refine callS ok rfl rfl rfl [1005] [(reJ j x).box] (by simp) rfl (fun _ : Unit => [(1005, (reJ j x).box)]) (fun w I S hI hG hO hS' => half0 w I S hI (reJ j x) hO hS') (fun r => by simp) (.inr fun x q hq => by simp at hq; subst hq; simp) fun _ W _ => ?_
    simp [hN]
    refine callS ok rfl rfl rfl [1004] [j.box] (by simp) rfl (fun _ : Unit => [(1004, j.box)]) (fun w I S hI hG hO hS' => by have := half0 w I S hI j hO hS'; rw [hjp] at this; exact this) (fun r => by simp) (.inr fun x q hq => by simp at hq; subst hq; simp) fun _ W _ => ?_
    simp [hN, hre, e6]
    exact next (k + 1) _ _ (by omega) (fun W hW => ⟨.inl hlt, hW.2.2.2.2⟩) (by simp [Cp.map, mapR])
  · simp [hN, hKK, Nat.not_lt.2 hge]
    refine callS ok rfl rfl rfl [1000, 1001, 1002, 1003] j.c.res (by simp [Cp.map, mapR]) rfl (fun _ : Sl => [(1000, j.c.chip), (1001, j.c.pow), (1002, j.c.row), (1003, j.c.map)]) (fun w I S hI hG hO hS' => by have := norRead0 w I S hI j.c 0 16384 hjn.fit (by decide) (by omega) hO hS'; rw [hjc] at this; exact this) (fun r => by simp [Cp.map, mapR]) (.inr fun x q hq => by simp at hq; rcases hq with rfl | rfl | rfl | rfl <;> simp) fun wb W _ => ?_
    simp [hN]
    obtain ⟨xs, hxs, hxl⟩ : ∃ xs : List Int, j.c.b.take 16384 = xs ∧ xs.length = 16384 := ⟨_, rfl, by rw [List.length_take, hjl, Nat.min_self]⟩
    simp only [hxs]
    refine call0 ok rfl rfl rfl (fun w I hI hG => sameB0 w I hI (a := wa.1) (n := 16384) (c := wa.2) (a' := wb.1) (n' := 16384) (c' := wb.2) xs (fun W e => ⟨⟨hxl.symm, (hG W e).2.2.1⟩, ⟨hxl.symm, (hG W e).1⟩⟩)) fun _ W _ => ?_
    simp [hN]
    exact ret0 hC true rfl fun _ _ _ => rfl
end Go.Proofs.YtbbaoeidobdblaaGreat.Sx

/- Plain: power goes while something is written. -/
set_option linter.unusedVariables false
set_option linter.unusedSimpArgs false
namespace Go.Proofs.YtbbaoeidobdblaaGreat.Sx
open Go

theorem bor_byte (a b : Int) : 0 ≤ bor a b ∧ bor a b ≤ 255 := by unfold bor; rw [u8_wrap]; omega
/-- What stands there when power goes: some of it, one byte of whatever kind, and what is erased. -/
def torn (xs ys : List Int) : Prop := ∃ i y, i < xs.length ∧ (0 ≤ y ∧ y ≤ 255) ∧ ys = xs.take i ++ y :: List.replicate (xs.length - i - 1) 255
theorem torn.len {xs ys : List Int} (h : torn xs ys) : ys.length = xs.length := by
  obtain ⟨i, y, h1, _, rfl⟩ := h
  simp
  omega
theorem torn.isB {xs ys : List Int} (h : torn xs ys) (hx : isB xs) : isB ys := by
  obtain ⟨i, y, h1, h2, rfl⟩ := h
  refine isB_app.2 ⟨fun x h => hx x (List.mem_of_mem_take h), fun x h => ?_⟩
  rcases List.mem_cons.1 h with rfl | h
  · exact h2
  · rw [(List.mem_replicate.1 h).2]; decide
theorem torn.cons {xs ys : List Int} (x : Int) (h : torn xs ys) : torn (x :: xs) (x :: ys) := by
  obtain ⟨i, y, h1, h2, rfl⟩ := h
  exact ⟨i + 1, y, by simpa using h1, h2, by simp⟩
theorem writeM_any : ∀ (xs : List Int) (p : Pw), (writeM p (List.replicate xs.length 255) xs).1 = true ∧ (writeM p (List.replicate xs.length 255) xs).2.1 = xs ∨ (writeM p (List.replicate xs.length 255) xs).1 = false ∧ torn xs (writeM p (List.replicate xs.length 255) xs).2.1
  | [], p => .inl ⟨rfl, rfl⟩
  | x :: xs, p => by
    rw [List.length_cons, List.replicate_succ, writeM]
    rcases p.step with ⟨d, t, q⟩
    cases d with
    | true =>
      simp only
      rcases writeM_any xs q with ⟨h1, h2⟩ | ⟨h1, h2⟩
      · exact .inl ⟨h1, by rw [h2]⟩
      · exact .inr ⟨h1, h2.cons x⟩
    | false =>
      cases t with
      | true => exact .inr ⟨rfl, 0, bor x (band 255 q.mask), by simp, bor_byte _ _, by simp⟩
      | false => exact .inr ⟨rfl, 0, 255, by simp, by decide, by simp⟩
theorem prog_any {c : Cp} {o : Nat} {xs : List Int} (ho : o + xs.length ≤ c.b.length) (hc : clean c.b o xs.length) : ∃ e q ys, progM c o xs = (e, { c with p := q, b := layI c.b o ys }) ∧ ys.length = xs.length ∧ (e = 0 ∧ ys = xs ∨ e = 6 ∧ torn xs ys) := by
  have hos : (c.b.drop o).take xs.length = List.replicate xs.length 255 := by
    apply List.ext_getElem?
    intro i
    rw [List.getElem?_take, List.getElem?_drop, List.getElem?_replicate]
    by_cases h : i < xs.length
    · rw [if_pos h, if_pos h]; exact hc _ (by omega) (by omega)
    · rw [if_neg h, if_neg h]
  have hfit : fitsM (c.b.drop o) xs = true := fitsM_yes _ _ fun i h3 h4 => by
    rw [List.getElem_drop]
    have := hc (o + i) (by omega) (by omega)
    rw [List.getElem?_eq_getElem (by omega)] at this
    rw [Option.some.inj this, bandn_full]
  rw [progM, if_pos hfit, hos]
  rcases writeM_any xs c.p with ⟨h1, h2⟩ | ⟨h1, h2⟩
  · exact ⟨0, _, xs, by rw [h1, h2]; rfl, rfl, .inl ⟨rfl, rfl⟩⟩
  · exact ⟨6, _, _, by rw [h1]; rfl, h2.len, .inr ⟨rfl, h2⟩⟩
theorem lay_clean {b : List Int} {o : Nat} {ys : List Int} (h : o + ys.length + 1 ≤ b.length) (hc : clean b (o + ys.length) 1) : layI b o ys = layI b o (ys ++ [255]) := by
  apply List.ext_getElem?
  intro i
  rw [layI_get _ _ _ (by omega), layI_get _ _ _ (by simp; omega)]
  simp only [List.length_append, List.length_cons, List.length_nil]
  by_cases h1 : i < o
  · rw [if_pos h1, if_pos h1]
  · rw [if_neg h1, if_neg h1]
    by_cases h2 : i < o + ys.length
    · rw [if_pos h2, if_pos (by omega), List.getElem?_append_left (by omega)]
    · rw [if_neg h2]
      by_cases h3 : i < o + (ys.length + 1)
      · rw [if_pos (by omega), List.getElem?_append_right (by omega), show i - o - ys.length = 0 by omega, hc i (by omega) (by omega)]
        rfl
      · rw [if_neg (by omega)]
theorem torn.snoc {xs ys : List Int} (x : Int) (h : torn xs ys) : torn (xs ++ [x]) (ys ++ [255]) := by
  obtain ⟨i, y, h1, h2, rfl⟩ := h
  refine ⟨i, y, by simp; omega, h2, ?_⟩
  rw [List.take_append_of_le_length (by omega), List.append_assoc, List.cons_append]
  congr 2
  rw [show [(255 : Int)] = List.replicate 1 255 from rfl, List.replicate_append_replicate]
  congr 1
  simp
  omega
theorem append_any {c : Cp} (hf : c.fit) {h o : Nat} (hh : h < 2) {l : List Int} (hr : o + (l.length + 7) ≤ halfSz c) (hc : clean c.b (h * halfSz c + o) (l.length + 7)) : ∃ e q ys, appendM c h o l = (e, { c with p := q, b := layI c.b (h * halfSz c + o) ys }) ∧ ys.length = l.length + 7 ∧ (e = 0 ∧ ys = recB l ∨ e = 6 ∧ torn (recB l) ys) := by
  obtain ⟨h2, _, h3⟩ := half_two hf
  have hm : h * halfSz c ≤ 1 * halfSz c := Nat.mul_le_mul_right _ (by omega)
  have hB := bodyB_length l
  obtain ⟨e, q, ys, h4, h5, h6⟩ := prog_any (c := c) (o := h * halfSz c + o) (xs := bodyB l) (by omega) (hc.mono (Nat.le_refl _) (by omega))
  rw [appendM, if_neg (by omega), h4]
  rcases h6 with ⟨rfl, rfl⟩ | ⟨rfl, h6⟩
  · rw [if_neg (by simp)]
    have hl := layI_len c.b (h * halfSz c + o) (bodyB l) (by omega)
    have hc2 : clean (layI c.b (h * halfSz c + o) (bodyB l)) (h * halfSz c + o + (6 + l.length)) 1 := fun i h6 h7 => by
      rw [layI_get _ _ _ (by omega), if_neg (by omega), if_neg (by omega)]
      exact hc i (by omega) (by omega)
    obtain ⟨e, r, zs, h8, h9, h10⟩ := prog_any (c := { c with p := q, b := layI c.b (h * halfSz c + o) (bodyB l) }) (o := h * halfSz c + o + (6 + l.length)) (xs := [0]) (by simp only [hl]; simp; omega) hc2
    simp only
    rw [h8]
    have hz : zs.length = 1 := h9
    refine ⟨e, r, bodyB l ++ zs, ?_, by rw [List.length_append]; omega, ?_⟩
    · simp only
      rw [← hB, layI_app _ _ _ _ (by omega)]
    · rcases h10 with ⟨rfl, rfl⟩ | ⟨rfl, i, y, g1, g2, rfl⟩
      · exact .inl ⟨rfl, rfl⟩
      · simp at g1
        subst g1
        refine .inr ⟨rfl, (bodyB l).length, y, by simp [recB], g2, ?_⟩
        simp [recB]
  · rw [if_pos (by simp)]
    refine ⟨6, q, ys ++ [255], ?_, by simp; omega, .inr ⟨rfl, h6.snoc 0⟩⟩
    rw [lay_clean (by omega) (hc.mono (by omega) (by omega))]
end Go.Proofs.YtbbaoeidobdblaaGreat.Sx

/- Plain: what is found behind a write that was torn, and behind a half that was wiped in part. -/
set_option linter.unusedVariables false
set_option linter.unusedSimpArgs false
namespace Go.Proofs.YtbbaoeidobdblaaGreat.Sx
open Go

theorem next_flag {b : List Int} (h : b[(valB (b.take 2)).toNat + 6]? ≠ some 0) : nextM b = none := by
  unfold nextM
  split
  · rfl
  · split
    · rfl
    · rw [if_neg (fun h2 => h h2.2)]
theorem next_big {b : List Int} (h : 65000 < valB (b.take 2)) : nextM b = none := by
  unfold nextM
  split
  · rfl
  · rw [if_pos (.inl h)]
theorem next_torn {l ys : List Int} (k : Nat) (hl : l.length ≤ 65000) (h : torn (recB l) ys) : nextM (ys ++ List.replicate k 255) = none ∨ ys = recB l := by
  obtain ⟨i, y, h1, h2, rfl⟩ := h
  have hrl := recB_length l
  obtain ⟨m, hm⟩ : ∃ m, m = (recB l).length - i - 1 := ⟨_, rfl⟩
  rw [← hm]
  have hB : ((recB l).take i ++ y :: List.replicate m 255) ++ List.replicate k 255 = (recB l).take i ++ (y :: List.replicate (m + k) 255) := by
    rw [List.append_assoc, List.cons_append, List.replicate_append_replicate]
  rw [hB]
  have hti : ((recB l).take i).length = i := by rw [List.length_take]; omega
  have hget : ∀ j, i < j → ((recB l).take i ++ (y :: List.replicate (m + k) 255))[j]? ≠ some 0 := fun j hj => by
    rw [List.getElem?_append_right (by omega), hti]
    obtain ⟨d, hd⟩ : ∃ d, j - i = d + 1 := ⟨j - i - 1, by omega⟩
    rw [hd, List.getElem?_cons_succ, List.getElem?_replicate]
    split <;> simp
  rcases Nat.eq_zero_or_pos i with rfl | hi
  · left
    apply next_big
    rw [List.take_zero, List.nil_append, show m + k = (m + k - 1) + 1 by omega, List.replicate_succ]
    show 65000 < valB [y, 255]
    simp only [valB]
    omega
  · by_cases h3 : i < 6
    · exact .inl (next_flag (hget _ (by omega)))
    · have ht2 : ((recB l).take i ++ (y :: List.replicate (m + k) 255)).take 2 = lowB l.length 2 := by
        rw [List.take_append_of_le_length (by omega), List.take_take, Nat.min_eq_left (by omega)]
        simp only [recB, bodyB, List.append_assoc]
        rw [List.take_append_of_le_length (by rw [lowB_length]; exact Nat.le_refl _), List.take_of_length_le (by rw [lowB_length]; exact Nat.le_refl _)]
      have hv : valB (lowB l.length 2) = l.length := by rw [valB_lowB]; exact Int.emod_eq_of_lt (by omega) (by simp; omega)
      by_cases h4 : i < l.length + 6
      · left
        apply next_flag
        rw [ht2, hv, Int.toNat_natCast]
        exact hget _ h4
      · obtain rfl : i = l.length + 6 := by omega
        have hm0 : m = 0 := by omega
        subst hm0
        have htk : (recB l).take (l.length + 6) = bodyB l := by
          have := bodyB_length l
          rw [recB, List.take_append_of_le_length (by omega), List.take_of_length_le (by omega)]
        by_cases h5 : y = 0
        · right
          rw [h5, htk]
          rfl
        · left
          apply next_flag
          rw [ht2, hv, Int.toNat_natCast, List.getElem?_append_right (by omega), hti, Nat.sub_self]
          simpa using h5
/-- Records, and what is none behind them. -/
theorem scan_tail (b : List Int) : ∀ (ls : List (List Int)) (t : List Int) (o f : Nat), (∀ l ∈ ls, isB l ∧ l.length ≤ 65000) → nextM t = none → b.drop o = recsB ls ++ t → b.length - o ≤ f → scanN b f o = (ls, o + (recsB ls).length)
  | [], t, o, f, _, ht, h, hf => by
    have h1 : nextM (b.drop o) = none := by rw [h]; exact ht
    cases f with
    | zero => simp [scanN, recsB]
    | succ f => rw [scanN, h1]; simp [recsB]
  | l :: ls, t, o, f, hl, ht, h, hf => by
    have h0 := hl l List.mem_cons_self
    rw [recsB_cons, List.append_assoc] at h
    have hlen := congrArg List.length h
    rw [List.length_drop, List.length_append, recB_length] at hlen
    obtain ⟨f, rfl⟩ : ∃ g, f = g + 1 := ⟨f - 1, by omega⟩
    have h1 : nextM (b.drop o) = some l := by rw [h]; exact next_rec h0.1 h0.2
    have h2 : b.drop (o + (l.length + 7)) = recsB ls ++ t := by
      rw [← List.drop_drop, h, ← recB_length, List.drop_append_of_le_length (Nat.le_refl _), List.drop_of_length_le (Nat.le_refl _), List.nil_append]
    have ih := scan_tail b ls t (o + (l.length + 7)) f (fun x hx => hl x (List.mem_cons_of_mem _ hx)) ht h2 (by omega)
    rw [scanN, h1]
    simp only
    rw [ih, recsB_cons, List.length_append, recB_length, Nat.add_assoc]
theorem read_tail {e : Int} {s : Sta} {ds : List (List Dee)} {t : List Int} (ht : nextM t = none) (he : 1 ≤ e ∧ e ≤ 2147483647) (hs : StaOk s) (hd : ∀ d ∈ ds, FitL d) (hl : ∀ l ∈ halfL e s ds, l.length ≤ 65000) :
    ∃ m, readM (recsB (halfL e s ds) ++ t) = ⟨e, (recsB (halfL e s ds)).length, stateL s ds, m⟩ := by
  have hsc := scan_tail (recsB (halfL e s ds) ++ t) (halfL e s ds) t 0 _ (fun l h => ⟨by
    rcases List.mem_cons.1 h with rfl | h
    · exact firstB_isB e s
    · obtain ⟨d, _, rfl⟩ := List.mem_map.1 h
      exact deedsB_isB d, hl l h⟩) ht (List.drop_zero ..) (Nat.le_refl _)
  rw [Nat.sub_zero, Nat.zero_add] at hsc
  obtain ⟨e1, e2, e3⟩ := ep_first s he
  have hp := parse_deeds (whole_fit hs)
  have hg : goP staZ 0 (recL (halfL e s ds)) = (stateL s ds, (recsB (halfL e s ds)).length) := by
    show goP staZ 0 (((firstB e s).drop 8, (firstB e s).length) :: (ds.map deedsB).map fun y => (y, y.length)) = _
    rw [goP, e3, hp]
    simp only [ne_eq, not_true, if_false]
    rw [apply_canon, whole_apply hs, goP_deeds ds s _ hd, recsB_length]
    simp only [halfL, List.map_cons, totP, Nat.zero_add]
  unfold readM scanM
  rw [hsc]
  simp only [halfL]
  rw [if_neg (by rw [e1, e2]; omega), e3, hp]
  simp only [ne_eq, not_true, if_false]
  have hg' := hg
  simp only [halfL] at hg'
  rw [hg', e2]
  exact ⟨_, rfl⟩
theorem read_none {b : List Int} (h : nextM b = none) : readM b = fndZ := by
  have h1 : (scanM b).1 = [] := by
    unfold scanM
    simp only
    cases hb : b.length with
    | zero => rfl
    | succ n => rw [scanN, List.drop_zero, h]
  unfold readM
  rw [h1]
/-- The epoch hangs on the first record alone. -/
theorem read_ep {b b' : List Int} (h : nextM b' = none ∨ nextM b' = nextM b) : (readM b').ep = 0 ∨ (readM b').ep = (readM b).ep := by
  rcases h with h | h
  · exact .inl (by rw [read_none h]; rfl)
  · cases hx : nextM b with
    | none => exact .inl (by rw [read_none (h.trans hx)]; rfl)
    | some x =>
      have hs : ∀ b : List Int, nextM b = some x → ∃ r, (scanM b).1 = x :: r := fun b hb => by
        have := (nextM_le hb).1
        obtain ⟨n, hn⟩ : ∃ n, b.length = n + 1 := ⟨b.length - 1, by omega⟩
        unfold scanM
        simp only
        rw [hn, scanN, List.drop_zero, hb]
        exact ⟨_, rfl⟩
      obtain ⟨r, h1⟩ := hs b hx
      obtain ⟨r', h2⟩ := hs b' (h.trans hx)
      unfold readM
      rw [h1, h2]
      simp only
      split
      · exact .inl rfl
      · split
        · exact .inl rfl
        · exact .inr rfl
theorem next_pre {b b' : List Int} {p : Nat} (hl : b'.length = b.length) (h1 : ∀ j, j < p → b'[j]? = b[j]?) (h2 : ∀ j, p ≤ j → b'[j]? ≠ some 0) : nextM b' = none ∨ nextM b' = nextM b := by
  cases hx : nextM b' with
  | none => exact .inl rfl
  | some x =>
    right
    have hf : b'[(valB (b'.take 2)).toNat + 6]? = some 0 := by
      by_cases hf : b'[(valB (b'.take 2)).toNat + 6]? = some 0
      · exact hf
      · rw [next_flag hf] at hx; cases hx
    have hp : (valB (b'.take 2)).toNat + 6 < p := by
      rcases Nat.lt_or_ge ((valB (b'.take 2)).toNat + 6) p with h | h
      · exact h
      · exact absurd hf (h2 _ h)
    have ht : ∀ n, n ≤ p → b'.take n = b.take n := fun n hn => by
      apply List.ext_getElem?
      intro j
      rw [List.getElem?_take, List.getElem?_take]
      split
      · exact h1 j (by omega)
      · rfl
    have hd : ∀ o n, o + n ≤ p → (b'.drop o).take n = (b.drop o).take n := fun o n hn => by
      apply List.ext_getElem?
      intro j
      rw [List.getElem?_take, List.getElem?_take, List.getElem?_drop, List.getElem?_drop]
      split
      · exact h1 _ (by omega)
      · rfl
    rw [← hx]
    have h2' := ht 2 (by omega)
    obtain ⟨n, hn⟩ : ∃ n, n = (valB (b'.take 2)).toNat := ⟨_, rfl⟩
    unfold nextM
    rw [hl, ← h2', hd 6 _ (show 6 + (valB (b'.take 2)).toNat ≤ p by omega), hd 2 4 (by omega), h1 _ hp]
end Go.Proofs.YtbbaoeidobdblaaGreat.Sx

/- Plain: power goes while a half is wiped. -/
set_option linter.unusedVariables false
set_option linter.unusedSimpArgs false
namespace Go.Proofs.YtbbaoeidobdblaaGreat.Sx
open Go

theorem bor_mask (m : Int) : (∀ x, 0 ≤ x ∧ x ≤ 255 → bor x m = x) ∨ ∀ x, bor x m ≠ 0 := by
  by_cases h : BitVec.ofInt IntKind.u8.bits m = 0#IntKind.u8.bits
  · left
    intro x hx
    unfold bor
    rw [h, BitVec.or_zero, BitVec.toNat_ofInt, u8_wrap]
    simp [IntKind.bits]
    omega
  · right
    intro x hx
    unfold bor at hx
    rw [u8_wrap] at hx
    have h1 : (BitVec.ofInt IntKind.u8.bits x ||| BitVec.ofInt IntKind.u8.bits m).toNat < 2 ^ IntKind.u8.bits := BitVec.isLt _
    have h2 : (2 : Nat) ^ IntKind.u8.bits = 256 := by decide
    have h3 : (BitVec.ofInt IntKind.u8.bits x ||| BitVec.ofInt IntKind.u8.bits m).toNat = 0 := by omega
    have h4 : BitVec.ofInt IntKind.u8.bits x ||| BitVec.ofInt IntKind.u8.bits m = 0#IntKind.u8.bits := BitVec.eq_of_toNat_eq (by rw [h3]; rfl)
    exact h (BitVec.or_eq_zero_iff.1 h4).2
/-- Bytes that were wiped in part, from the last one on. -/
structure part (b b' : List Int) (lo hi : Nat) : Prop where
  len : b'.length = b.length
  byte : isB b'
  out : ∀ j, j < lo ∨ hi ≤ j → b'[j]? = b[j]?
  on : ∃ p, p ≤ hi ∧ (∀ j, j < p → b'[j]? = b[j]?) ∧ ∀ j, p ≤ j → j < hi → b'[j]? ≠ some 0
theorem part.refl {b : List Int} (hb : isB b) (lo hi : Nat) : part b b lo hi := ⟨rfl, hb, fun _ _ => rfl, hi, Nat.le_refl _, fun _ _ => rfl, fun j h1 h2 => by omega⟩
theorem setM_get (b : List Int) (o n : Nat) (m : Int) (h : o + n ≤ b.length) (j : Nat) : (setM b o n m)[j]? = if j < o then b[j]? else if j < o + n then b[j]?.map (fun x => bor x m) else b[j]? := by
  have hl : (((b.drop o).take n).map fun x => bor x m).length = n := by simp; omega
  have e : setM b o n m = layI b o (((b.drop o).take n).map fun x => bor x m) := by rw [layI, hl, setM]
  rw [e, layI_get _ _ _ (by omega), hl]
  split
  · rfl
  · split
    · rw [List.getElem?_map, List.getElem?_take, if_pos (by omega), List.getElem?_drop, show o + (j - o) = j by omega]
    · rfl
theorem wipeN_any {base : Nat} : ∀ (k : Nat) {c : Cp}, c.fit → isB c.b → ((base + k : Nat) : Int) ≤ c.g.sectors → ∃ e q b' er, wipeN c base k = (e, { c with p := q, b := b', er := er }) ∧ (e = 0 ∧ b' = layI c.b (base * c.g.sector.toNat) (List.replicate (k * c.g.sector.toNat) 255) ∨ e = 6 ∧ part c.b b' (base * c.g.sector.toNat) ((base + k) * c.g.sector.toNat))
  | 0, c, hf, hb, hk => ⟨0, c.p, c.b, c.er, by simp [wipeN], .inl ⟨rfl, by simp [layI]⟩⟩
  | k + 1, c, hf, hb, hk => by
    have hs := sec_le hf (i := base + k) (by omega)
    have he := erase_same hf (i := base + k) (by omega)
    obtain ⟨S, hS⟩ : ∃ S, S = c.g.sector.toNat := ⟨_, rfl⟩
    rw [← hS] at hs ⊢
    have e1 : (base + (k + 1)) * S = (base + k) * S + S := by rw [← Nat.add_assoc, Nat.succ_mul]
    have e2 : base * S ≤ (base + k) * S := Nat.mul_le_mul_right _ (by omega)
    rw [wipeN]
    unfold eraseM at he ⊢
    generalize c.p.step = r at he ⊢
    obtain ⟨d, t, q⟩ := r
    cases d with
    | true =>
      simp only [← hS] at he ⊢
      rw [if_neg (by simp), setM_full _ _ _ hs] at *
      have hlen := layI_len c.b ((base + k) * S) (List.replicate S 255) (by simp; omega)
      have hb1 : isB (layI c.b ((base + k) * S) (List.replicate S 255)) := isB_lay hb (isB_rep S) _
      have hgt : ∀ j, (layI c.b ((base + k) * S) (List.replicate S 255))[j]? = if j < (base + k) * S then c.b[j]? else if j < (base + k) * S + S then some 255 else c.b[j]? := fun j => by
        rw [layI_get _ _ _ (by simp; omega), List.length_replicate]
        split
        · rfl
        · split
          · rw [List.getElem?_replicate, if_pos (by omega)]
          · rfl
      obtain ⟨e, r, b', er, h1, h2⟩ := wipeN_any (base := base) k he.2 hb1 (by simp only; omega)
      simp only [← hS] at h1 h2
      refine ⟨e, r, b', er, h1, ?_⟩
      rcases h2 with ⟨rfl, h2⟩ | ⟨rfl, h2⟩
      · refine .inl ⟨rfl, ?_⟩
        rw [h2, show (base + k) * S = base * S + k * S from Nat.add_mul _ _ _] at *
        rw [layI_twice _ _ _ _ (by omega), Nat.succ_mul]
      · refine .inr ⟨rfl, by rw [h2.len, hlen], h2.byte, fun j hj => ?_, ?_⟩
        · rw [h2.out j (by omega), hgt]
          rcases hj with hj | hj
          · rw [if_pos (by omega)]
          · rw [if_neg (by omega), if_neg (by omega)]
        · obtain ⟨p, p1, p2, p3⟩ := h2.on
          refine ⟨p, by omega, fun j hj => ?_, fun j h3 h4 => ?_⟩
          · rw [p2 j hj, hgt, if_pos (by omega)]
          · rcases Nat.lt_or_ge j ((base + k) * S) with h5 | h5
            · exact p3 j h3 h5
            · rw [h2.out j (.inr h5), hgt, if_neg (by omega), if_pos (by omega)]
              simp
    | false =>
      cases t with
      | true =>
        simp only [← hS] at he ⊢
        rw [if_pos (by simp)]
        refine ⟨6, q, _, c.er, rfl, .inr ⟨rfl, ?_⟩⟩
        have hgt := setM_get c.b ((base + k) * S) S q.mask hs
        have hln := setM_len c.b ((base + k) * S) S q.mask hs
        have hby : isB (setM c.b ((base + k) * S) S q.mask) := fun x hx => by
          unfold setM at hx
          rcases List.mem_append.1 hx with hx | hx
          · rcases List.mem_append.1 hx with hx | hx
            · exact hb x (List.mem_of_mem_take hx)
            · obtain ⟨y, _, rfl⟩ := List.mem_map.1 hx
              exact bor_byte _ _
          · exact hb x (List.mem_of_mem_drop hx)
        refine ⟨hln, hby, fun j hj => ?_, ?_⟩
        · rw [hgt]
          rcases hj with hj | hj
          · rw [if_pos (by omega)]
          · rw [if_neg (by omega), if_neg (by omega)]
        · rcases bor_mask q.mask with hm | hm
          · refine ⟨(base + (k + 1)) * S, Nat.le_refl _, fun j hj => ?_, fun j h1 h2 => by omega⟩
            rw [hgt]
            split
            · rfl
            · split
              · cases hx : c.b[j]? with
                | none => rfl
                | some x =>
                  simp only [Option.map_some]
                  rw [hm x (hb x (List.mem_of_getElem? hx))]
              · rfl
          · refine ⟨(base + k) * S, by omega, fun j hj => by rw [hgt, if_pos hj], fun j h1 h2 => ?_⟩
            rw [hgt, if_neg (by omega), if_pos (by omega)]
            cases hx : c.b[j]? with
            | none => simp
            | some x => simp [hm x]
      | false =>
        simp only at he ⊢
        rw [if_pos (by simp)]
        exact ⟨6, q, c.b, c.er, rfl, .inr ⟨rfl, part.refl hb _ _⟩⟩
theorem wipe_any {c : Cp} (hf : c.fit) (hb : isB c.b) {h : Nat} (hh : h < 2) : ∃ e q b' er, wipeM c h = (e, { c with p := q, b := b', er := er }) ∧ (e = 0 ∧ b' = layI c.b (h * halfSz c) (List.replicate (halfSz c) 255) ∨ e = 6 ∧ part c.b b' (h * halfSz c) (h * halfSz c + halfSz c)) := by
  obtain ⟨q0, ⟨q1, q2⟩, _⟩ := id hf.right
  have h1 : 2 * (halfN c : Int) ≤ c.g.sectors := by unfold halfN; omega
  have h2 : h * halfN c ≤ 1 * halfN c := Nat.mul_le_mul_right _ (by omega)
  obtain ⟨e, q, b', er, h3, h4⟩ := wipeN_any (base := h * halfN c) (halfN c) hf hb (by omega)
  refine ⟨e, q, b', er, h3, ?_⟩
  rw [Nat.add_mul, Nat.mul_assoc] at h4
  exact h4
/-- What a half that was wiped in part tells, and the other one. -/
theorem part_half {c : Cp} (hf : c.fit) {b' : List Int} {h : Nat} (hh : h < 2) (hp : part c.b b' (h * halfSz c) (h * halfSz c + halfSz c)) : hB b' (halfSz c) (1 - h) = hB c.b (halfSz c) (1 - h) ∧ ((readM (hB b' (halfSz c) h)).ep = 0 ∨ (readM (hB b' (halfSz c) h)).ep = (readM (hB c.b (halfSz c) h)).ep) := by
  have hl := (half_two hf).1
  generalize halfSz c = H at *
  have h01 : h = 0 ∨ h = 1 := by omega
  constructor
  · apply List.ext_getElem?
    intro i
    rw [hB_get, hB_get]
    split
    · rename_i hi
      rw [hp.out]
      rcases h01 with rfl | rfl <;> omega
    · rfl
  · obtain ⟨p, p1, p2, p3⟩ := hp.on
    refine read_ep (next_pre (p := p - h * H) (by rw [hB_length (by rw [hp.len]; exact hl) hh, hB_length hl hh]) (fun j hj => ?_) (fun j hj => ?_))
    · rw [hB_get, hB_get]
      split
      · exact p2 _ (by omega)
      · rfl
    · rw [hB_get]
      split
      · rename_i h5
        exact p3 _ (by omega) (by omega)
      · simp
end Go.Proofs.YtbbaoeidobdblaaGreat.Sx

/- Plain: what a chip tells wherever power goes. -/
set_option linter.unusedVariables false
set_option linter.unusedSimpArgs false
namespace Go.Proofs.YtbbaoeidobdblaaGreat.Sx
open Go

/-- A half tells a state, of an epoch; the other one is older. -/
def tells (c : Cp) (h : Nat) (s : Sta) (e : Int) : Prop := (∃ u m, readM (halfB c h) = ⟨e, u, s, m⟩) ∧ (readM (halfB c (1 - h))).ep < e
/-- A chip tells a state, of an epoch. -/
structure Gd (c : Cp) (s : Sta) (e : Int) : Prop where
  fit : c.fit
  bytes : isB c.b
  sok : StaOk s
  fits : wholeB s + 15 ≤ halfSz c
  ep : 1 ≤ e
  on : ∃ h, h < 2 ∧ tells c h s e
theorem tells_best {c : Cp} {h : Nat} {s : Sta} {e : Int} (hh : h < 2) (ht : tells c h s e) (he : 1 ≤ e) : ∃ u m, bestM c = (⟨e, u, s, m⟩, h) := by
  obtain ⟨⟨u, m, h1⟩, h2⟩ := ht
  have h4 := read_w (halfB c (1 - h))
  have h01 : h = 0 ∨ h = 1 := by omega
  refine ⟨u, m, ?_⟩
  unfold bestM best1
  rcases h01 with rfl | rfl
  · rw [Nat.sub_zero] at h2 h4
    have e5 : (if 0 < (⟨e, u, s, m⟩ : Fnd).ep then (⟨e, u, s, m⟩ : Fnd) else fndZ) = ⟨e, u, s, m⟩ := if_pos (by simp only; omega)
    rw [h1, e5, if_neg (by simp only; omega)]
  · rw [Nat.sub_self] at h2 h4
    have e6 : (if 0 < (readM (halfB c 0)).ep then readM (halfB c 0) else fndZ).ep < e := by
      split
      · exact h2
      · show (0 : Int) < e; omega
    rw [h1, if_pos e6]
/-- Power plays no part. -/
theorem Gd.pow {c : Cp} {s : Sta} {e : Int} (h : Gd c s e) (q : Pw) (hq : q.left ≤ 9223372036854775807) : Gd { c with p := q } s e :=
  ⟨⟨h.fit.right, h.fit.len, h.fit.cap, hq⟩, h.bytes, h.sok, h.fits, h.ep, h.on⟩
theorem first_fit {s : Sta} (e : Int) {H : Nat} (h : wholeB s + 15 ≤ H) : (firstB e s).length + 7 ≤ H := by
  have := firstB_length e s
  unfold wholeB at h
  omega
theorem tells_new {c : Cp} {h : Nat} {s s0 : Sta} {e : Int} {k : Nat} (hh : h < 2) (hs : StaOk s) (he : 1 ≤ e ∧ e + 1 ≤ 2147483647) (hl : (firstB (e + 1) s).length ≤ 65000) (h1 : halfB c (1 - h) = recB (firstB (e + 1) s) ++ List.replicate k 255) (h2 : ∃ u m, readM (halfB c h) = ⟨e, u, s0, m⟩) : tells c (1 - h) s (e + 1) := by
  have hr := read_half (e := e + 1) (s := s) (ds := []) (k := k) ⟨by omega, he.2⟩ hs (fun d hd => by cases hd) (fun l hl' => by
    rcases List.mem_cons.1 hl' with rfl | hl'
    · exact hl
    · cases hl')
  have e1 : recsB (halfL (e + 1) s []) = recB (firstB (e + 1) s) := by simp [halfL, recsB]
  rw [e1] at hr
  have e2 : 1 - (1 - h) = h := by omega
  obtain ⟨u, m, h2⟩ := h2
  refine ⟨⟨_, _, by rw [h1, hr]; rfl⟩, ?_⟩
  rw [e2, h2]
  show e < e + 1
  omega
theorem anew_any {j : Jn} {s s0 : Sta} (si sb : Sl) (hf : j.c.fit) (hb : isB j.c.b) (hh : j.half < 2) (ht : tells j.c j.half s0 j.ep) (he : 1 ≤ j.ep ∧ j.ep < 2147483647) (hs0 : StaOk s0) (hs : StaOk s) (w0 : wholeB s0 + 15 ≤ halfSz j.c) (w1 : wholeB s + 15 ≤ halfSz j.c) :
    (((anewM j s si sb).1 = 0 ∧ Gd (anewM j s si sb).2.c s (j.ep + 1)) ∨ ((anewM j s si sb).1 = 6 ∧ (Gd (anewM j s si sb).2.c s0 j.ep ∨ Gd (anewM j s si sb).2.c s (j.ep + 1)))) ∧ j.c.same (anewM j s si sb).2.c ∧ (anewM j s si sb).2.gj = j.gj := by
  have hl7 := first_fit (j.ep + 1) w1
  have hH := half_le hf
  have hh1 : 1 - j.half < 2 := by omega
  have e11 : 1 - (1 - j.half) = j.half := by omega
  have hlen := (half_two hf).1
  obtain ⟨e1, q1, b1, er1, hw, hcase⟩ := wipe_any hf hb hh1
  have hws := wipe_same' hf hh1
  rw [hw] at hws
  have hz := hws.1.halfSz
  rw [anewM, if_neg (by omega), hw]
  rcases hcase with ⟨rfl, hb1⟩ | ⟨rfl, hp⟩
  · rw [if_neg (by simp)]
    simp only at hws hz ⊢
    obtain ⟨c1, hc1⟩ : ∃ c1 : Cp, c1 = { j.c with p := q1, b := b1, er := er1 } := ⟨_, rfl⟩
    have hcb : c1.b = b1 := by rw [hc1]
    rw [← hc1] at hws hz ⊢
    have hfull := hB_full hlen hh1
    rw [e11, ← hb1] at hfull
    have hl1 : b1.length = 2 * halfSz j.c := by rw [hb1, layI_len _ _ _ (by simp; exact half_fits hf hh1)]; exact hlen
    have hcl : clean b1 ((1 - j.half) * halfSz j.c) (halfSz j.c) := by rw [hb1]; exact clean_full _ _ _ (half_fits hf hh1)
    obtain ⟨e2, q2, ys, ha, hyl, hy⟩ := append_any hws.2 (h := 1 - j.half) (o := 0) hh1 (l := firstB (j.ep + 1) s) (by rw [hz]; omega) (by rw [hz, hcb, Nat.add_zero]; exact hcl.mono (Nat.le_refl _) (by omega))
    rw [hz, hcb] at ha
    have hlay := hB_lay (o := 0) hl1 hh1 ys (by omega)
    rw [e11, hfull.1, hfull.2] at hlay
    have htl : layI (List.replicate (halfSz j.c) 255) 0 ys = ys ++ List.replicate (halfSz j.c - ys.length) 255 := by
      have := lay_tail [] (halfSz j.c) ys (by omega)
      simpa using this
    rw [htl] at hlay
    obtain ⟨c2, hc2⟩ : ∃ c2 : Cp, c2 = { c1 with p := q2, b := layI b1 ((1 - j.half) * halfSz j.c + 0) ys } := ⟨_, rfl⟩
    have has := append_same hws.2 (h := 1 - j.half) (o := 0) hh1 (b := firstB (j.ep + 1) s)
    rw [ha]
    rw [ha] at has
    simp only at has ⊢
    rw [← hc2] at has ⊢
    have hz2 : halfSz c2 = halfSz j.c := has.1.halfSz.trans hz
    have hb2 : c2.b = layI b1 ((1 - j.half) * halfSz j.c + 0) ys := by rw [hc2]
    have hh2 : halfB c2 (1 - j.half) = ys ++ List.replicate (halfSz j.c - ys.length) 255 := by rw [halfB_eq, hz2, hb2]; exact hlay.1
    have hh3 : halfB c2 j.half = halfB j.c j.half := by rw [halfB_eq, hz2, hb2, halfB_eq]; exact hlay.2
    have hyb : isB ys := by
      have h0 := isB_rec (firstB_isB (j.ep + 1) s)
      rcases hy with ⟨_, rfl⟩ | ⟨_, hy⟩
      · exact h0
      · exact hy.isB h0
    have hbb : isB c2.b := by rw [hb2]; exact isB_lay (by rw [hb1]; exact isB_lay hb (isB_rep _) _) hyb _
    have hnew : ys = recB (firstB (j.ep + 1) s) → Gd c2 s (j.ep + 1) := fun e => ⟨has.2, hbb, hs, by rw [hz2]; exact w1, by omega, 1 - j.half, hh1, tells_new (k := halfSz j.c - ys.length) (s0 := s0) hh hs ⟨he.1, by omega⟩ (by omega) (by rw [hh2, e]) (by rw [hh3]; exact ht.1)⟩
    rcases hy with ⟨rfl, hy⟩ | ⟨rfl, hy⟩
    · rw [if_neg (by simp)]
      exact ⟨.inl ⟨rfl, hnew hy⟩, hws.1.trans has.1, rfl⟩
    · rw [if_pos (by simp)]
      refine ⟨.inr ⟨rfl, ?_⟩, hws.1.trans has.1, rfl⟩
      rcases next_torn (halfSz j.c - ys.length) (by omega) hy with h | h
      · refine .inl ⟨has.2, hbb, hs0, by rw [hz2]; exact w0, he.1, j.half, hh, by rw [hh3]; exact ht.1, ?_⟩
        rw [hh2, read_none h]
        show (0 : Int) < j.ep
        omega
      · exact .inr (hnew h)
  · rw [if_pos (by simp)]
    simp only at hws hz ⊢
    have hph := part_half hf hh1 hp
    rw [e11] at hph
    refine ⟨.inr ⟨trivial, .inl ⟨hws.2, hp.byte, hs0, by rw [hz]; exact w0, he.1, j.half, hh, ?_, ?_⟩⟩, hws.1, trivial⟩
    · rw [halfB_eq, hz]
      simp only
      rw [hph.1]
      exact ht.1
    · rw [halfB_eq, hz]
      simp only
      have := ht.2
      rw [halfB_eq] at this
      rcases hph.2 with h | h
      · rw [h]; omega
      · rw [h]; exact this
theorem anew_liv {j : Jn} {s : Sta} (si sb : Sl) (hf : j.c.fit) (hp : live j.c.p) (he : j.ep < 2147483647) (w1 : wholeB s + 15 ≤ halfSz j.c) : (anewM j s si sb).1 = 0 := by
  have hl7 := first_fit (j.ep + 1) w1
  have hh1 : 1 - j.half < 2 := by omega
  obtain ⟨q, _, h1, h2, _⟩ := start_live hf hp hh1 hl7
  rw [anewM, if_neg (by omega), if_neg (by rw [h1]; simp), h2, if_neg (by simp)]
theorem open_any {c : Cp} {s : Sta} {e : Int} (h : Gd c s e) (he : e < 2147483647) (x : Nat × Sl × Sl) : (∃ e', e' ≤ e + 1 ∧ Gd (openM c x).2.c s e') ∧ c.same (openM c x).2.c ∧ ((openM c x).1 = 0 → (openM c x).2.s = s) ∧ (live c.p → (openM c x).1 = 0) := by
  obtain ⟨hh, hl, ht⟩ := h.on
  obtain ⟨u, m, hb⟩ := tells_best hl ht h.ep
  have h1 := h.ep
  unfold openM
  rw [hb]
  simp only
  rw [if_neg (by omega)]
  by_cases hm : m = true
  · rw [if_pos hm]
    have hJc : (openJ c x).c = c := rfl
    have hJh : (openJ c x).half = hh := by show (bestM c).2 = hh; rw [hb]
    have hJe : (openJ c x).ep = e := by show (bestM c).1.ep = e; rw [hb]
    have ha := anew_any (j := openJ c x) (s := s) (s0 := s) x.2.1 x.2.2 h.fit h.bytes (by rw [hJh]; exact hl) (by rw [hJc, hJh, hJe]; exact ht) (by rw [hJe]; omega) h.sok h.sok h.fits h.fits
    rw [hJe] at ha
    refine ⟨?_, ha.2.1, fun h0 => (anew_s _ _ _ _ h0).1, fun hp => anew_liv _ _ h.fit hp (by rw [hJe]; exact he) h.fits⟩
    rcases ha.1 with h | h
    · exact ⟨e + 1, Int.le_refl _, h.2⟩
    · rcases h.2 with h | h
      · exact ⟨e, by omega, h⟩
      · exact ⟨e + 1, Int.le_refl _, h⟩
  · rw [if_neg hm]
    exact ⟨⟨e, by omega, h⟩, Cp.same.refl c, fun _ => by show (bestM c).1.s = s; rw [hb], fun _ => rfl⟩
theorem jon_w25 {j : Jn} (h : Jon j) : wS j.s + 24 ≤ j.used := by
  obtain ⟨s0, ds, _, _, h3, h4, _⟩ := h.on
  have h5 := stateL_w ds s0
  have h6 := firstB_length j.ep s0
  have h7 := whole_w s0
  have h8 : (deedsB (wholeL s0)).length = wholeB s0 := rfl
  rw [h3, h4, halfL, recsB_length, List.map_cons, totP]
  omega
theorem jon_gd {j : Jn} (h : Jon j) : Gd j.c j.s j.ep := by
  have h1 := jon_w25 h
  have h2 := whole_w j.s
  have h3 := h.used
  exact ⟨h.fit, h.bytes, h.sok, by omega, h.ep.1, j.half, h.half, ⟨_, _, jon_read h⟩, h.other⟩
/-- A journal whose power may go. -/
def Jn.at (j : Jn) (q : Pw) : Jn := { j with c := { j.c with p := q } }
theorem commit_any {j : Jn} (h : Jon j) {l : List Dee} (hl : FitL l) (q : Pw) (hq : q.left ≤ 9223372036854775807) (x : Sl × Sl) (he : j.ep < 2147483647) :
    (((commitM (j.at q) l x).1 = 0 ∧ ∃ e', e' ≤ j.ep + 1 ∧ Gd (commitM (j.at q) l x).2.c (applyL j.s l) e') ∨ ((commitM (j.at q) l x).1 = 10 ∧ ∃ e', e' ≤ j.ep + 1 ∧ Gd (commitM (j.at q) l x).2.c j.s e') ∨ ((commitM (j.at q) l x).1 = 6 ∧ ∃ e', e' ≤ j.ep + 1 ∧ (Gd (commitM (j.at q) l x).2.c j.s e' ∨ Gd (commitM (j.at q) l x).2.c (applyL j.s l) e'))) ∧ j.c.same (commitM (j.at q) l x).2.c ∧ (commitM (j.at q) l x).2.gj = j.gj := by
  obtain ⟨c, hc⟩ : ∃ c : Cp, c = { j.c with p := q } := ⟨_, rfl⟩
  have hJ : j.at q = { j with c := c } := by rw [hc]; rfl
  have hsm : j.c.same c := by rw [hc]; exact ⟨rfl, rfl, rfl, rfl, rfl, rfl, rfl, rfl, rfl⟩
  have hfit : c.fit := by rw [hc]; exact ⟨h.fit.right, h.fit.len, h.fit.cap, hq⟩
  have hcb : c.b = j.c.b := by rw [hc]
  have hz : halfSz c = halfSz j.c := hsm.halfSz
  have hH := half_le h.fit
  have hlen := (half_two h.fit).1
  have hu := h.used
  have hw := jon_w25 h
  have hww := whole_w j.s
  have hw2 := whole_w (applyL j.s l)
  have haw := applyL_w j.s l
  have hsok := apply_ok h.sok hl.each
  have hgd : Gd c j.s j.ep := by rw [hc]; exact (jon_gd h).pow q hq
  have hhb : ∀ i, halfB c i = halfB j.c i := fun i => by rw [halfB_eq, halfB_eq, hz, hcb]
  rw [hJ, commitM, if_neg (by simp [h.ended])]
  simp only [hz]
  by_cases hsz : halfSz j.c < j.used + ((deedsB l).length + 7)
  · rw [if_pos hsz]
    by_cases hft : wholeB (applyL j.s l) + 15 ≤ halfSz j.c
    · have ha := anew_any (j := { j with c := c }) (s := applyL j.s l) (s0 := j.s) x.1 x.2 hfit (by rw [show ({ j with c := c } : Jn).c = c from rfl, hcb]; exact h.bytes) h.half (by
        refine ⟨⟨j.used, false, ?_⟩, ?_⟩
        · show readM (halfB c j.half) = _
          rw [hhb, jon_read h]
        · show (readM (halfB c (1 - j.half))).ep < _
          rw [hhb]; exact h.other) ⟨h.ep.1, he⟩ h.sok hsok (by show _ ≤ halfSz c; omega) (by show _ ≤ halfSz c; omega)
      refine ⟨?_, hsm.trans ha.2.1, ha.2.2⟩
      rcases ha.1 with g | g
      · exact .inl ⟨g.1, _, Int.le_refl _, g.2⟩
      · refine .inr (.inr ⟨g.1, ?_⟩)
        rcases g.2 with g | g
        · exact ⟨j.ep, by omega, .inl g⟩
        · exact ⟨j.ep + 1, Int.le_refl _, .inr g⟩
    · rw [anew_no _ _ _ (.inl (by show halfSz c < _; omega))]
      exact ⟨.inr (.inl ⟨rfl, j.ep, by omega, hgd⟩), hsm, rfl⟩
  · rw [if_neg hsz]
    obtain ⟨s0, ds, g1, g2, g3, g4, g5⟩ := h.on
    obtain ⟨e2, q2, ys, ha, hyl, hy⟩ := append_any hfit (h := j.half) (o := j.used) h.half (l := deedsB l) (by omega) (by rw [hz, hcb]; exact h.clean.mono (Nat.le_refl _) (by omega))
    have has := append_same hfit (h := j.half) (o := j.used) h.half (b := deedsB l)
    rw [hz, hcb] at ha
    have hlay := hB_lay (o := j.used) hlen h.half ys (by omega)
    rw [ha]
    rw [ha] at has
    obtain ⟨c2, hc2⟩ : ∃ c2 : Cp, c2 = { c with p := q2, b := layI j.c.b (j.half * halfSz j.c + j.used) ys } := ⟨_, rfl⟩
    simp only at has ⊢
    rw [← hc2] at has ⊢
    have hz2 : halfSz c2 = halfSz j.c := has.1.halfSz.trans hz
    have hb2 : c2.b = layI j.c.b (j.half * halfSz j.c + j.used) ys := by rw [hc2]
    have hg5 : hB j.c.b (halfSz j.c) j.half = recsB (halfL j.ep s0 ds) ++ List.replicate (halfSz j.c - j.used) 255 := g5
    have hh2 : halfB c2 j.half = recsB (halfL j.ep s0 ds) ++ (ys ++ List.replicate (halfSz j.c - j.used - ys.length) 255) := by
      rw [halfB_eq, hz2, hb2, hlay.1, hg5, g4, lay_tail _ _ _ (by omega), List.append_assoc]
    have hh3 : halfB c2 (1 - j.half) = halfB j.c (1 - j.half) := by rw [halfB_eq, hz2, hb2, hlay.2, halfB_eq]
    have hyb : isB ys := by
      have h0 := isB_rec (deedsB_isB l)
      rcases hy with ⟨_, rfl⟩ | ⟨_, hy⟩
      · exact h0
      · exact hy.isB h0
    have hbb : isB c2.b := by rw [hb2]; exact isB_lay h.bytes hyb _
    have hoth : (readM (halfB c2 (1 - j.half))).ep < j.ep := by rw [hh3]; exact h.other
    have hsl : stateL s0 (ds ++ [l]) = applyL j.s l := by rw [stateL_snoc, g3]
    have hnew : ys = recB (deedsB l) → Gd c2 (applyL j.s l) j.ep := fun e => by
      have hrl : halfL j.ep s0 (ds ++ [l]) = halfL j.ep s0 ds ++ [deedsB l] := by simp [halfL]
      have hd2 : ∀ d ∈ ds ++ [l], FitL d := fun d hd => by
        rcases List.mem_append.1 hd with hd | hd
        · exact g2 d hd
        · rw [List.mem_singleton.1 hd]; exact hl
      have hr := read_half (e := j.ep) (s := s0) (ds := ds ++ [l]) (k := halfSz j.c - j.used - ys.length) h.ep g1 hd2 (fun l' hl' => by
        have t1 := totP_le hl'
        rw [hrl, recsB_snoc, List.length_append, recB_length, ← g4] at t1
        omega)
      have hfin : readM (halfB c2 j.half) = ⟨j.ep, (recsB (halfL j.ep s0 (ds ++ [l]))).length, applyL j.s l, false⟩ := by
        rw [hh2, e, ← List.append_assoc, ← recsB_snoc, ← hrl]
        rw [e] at hr
        rw [hr, hsl]
      exact ⟨has.2, hbb, hsok, by rw [hz2]; omega, h.ep.1, j.half, h.half, ⟨_, _, hfin⟩, hoth⟩
    rcases hy with ⟨rfl, hy⟩ | ⟨rfl, hy⟩
    · rw [if_neg (by simp)]
      exact ⟨.inl ⟨rfl, j.ep, by omega, hnew hy⟩, hsm.trans has.1, rfl⟩
    · rw [if_pos (by simp)]
      refine ⟨.inr (.inr ⟨rfl, j.ep, by omega, ?_⟩), hsm.trans has.1, rfl⟩
      rcases next_torn (halfSz j.c - j.used - ys.length) (by omega) hy with g | g
      · obtain ⟨m, hr⟩ := read_tail (e := j.ep) (s := s0) (ds := ds) g h.ep g1 g2 (fun l' hl' => by
          have t1 := totP_le hl'
          rw [← g4] at t1
          omega)
        exact .inl ⟨has.2, hbb, h.sok, by rw [hz2]; omega, h.ep.1, j.half, h.half, ⟨_, m, by rw [hh2, hr, ← g3]⟩, hoth⟩
      · exact .inr (hnew g)
end Go.Proofs.YtbbaoeidobdblaaGreat.Sx

/- power.Cut, On. -/
set_option linter.unusedVariables false
set_option linter.unusedSimpArgs false
namespace Go.Proofs.YtbbaoeidobdblaaGreat.Sx
open Go

attribute [local simp ↓] ifb_true' ifb_false'
attribute [local simp] ifb_true ifb_false ifb_eq sx argsT find ev evOp evs evo evBin evInt evStr evNil evNilA ptrA slcA isNoneA asB evLoad look del cellsB evUn evConv kdec fld evFieldA evField evIdxA evIdx evSlc bndL bndH evLen mmi put resV guardV gvL setO tupV cellsOf ones one upd lits nv exitTo SV.val CV.val TI.agg rdyA allR keepB scan simpO gsp isS subs keepT pickT wr memN pubs Res.fact Region.binds bld rest give delL back Res.eqv vi vb num Sv.val undef
def Pw.cut (p : Pw) (left mask : Int) : Pw := { p with left := if left < -1 then -1 else left, mask := mask }
def Pw.on (p : Pw) : Pw := { p with left := -1, off := false }
theorem cut0 (w : World) (I S : Nat → Prop) (hI : ∀ b, I b → b < w.heap.size) (gp : Nat) (p : Pw) (fl : Value) (left mask : Int) (hS : Owns [.box gp 108 (powB p fl)] S w) (hSI : ∀ b, S b → b < w.heap.size ∧ ¬ I b) :
    FnS Tryz.prog 30 #[ptrV gp, .int .i64 left, .int .u8 mask] w I S (fun _ : Unit => .tuple #[]) (fun _ => [.box gp 108 (powB (p.cut left mask) fl)]) (fun _ _ => True) := by
  refine enterS (svs := [.c (.bp 1000 gp 0), .c (.v (.int .i64 left)), .c (.v (.int .u8 mask))]) tysOk Tryz.func30 rfl Tryz.ntmps30 Tryz.results30 (by kernel_rfl) (by simp) hI [.box gp 108 (powB p fl)] hS hSI (fun _ => True) (fun _ _ => trivial) fun C hC hN ok => ?_
  obtain ⟨l0, m0, off, done⟩ := p
  simp [hN]
  exact retS hC () [1000] rfl (by simp [Pw.cut]) fun _ _ _ => trivial
theorem on0 (w : World) (I S : Nat → Prop) (hI : ∀ b, I b → b < w.heap.size) (gp : Nat) (p : Pw) (fl : Value) (hS : Owns [.box gp 108 (powB p fl)] S w) (hSI : ∀ b, S b → b < w.heap.size ∧ ¬ I b) :
    FnS Tryz.prog 31 #[ptrV gp] w I S (fun _ : Unit => .tuple #[]) (fun _ => [.box gp 108 (powB p.on fl)]) (fun _ _ => True) := by
  refine enterS (svs := [.c (.bp 1000 gp 0)]) tysOk Tryz.func31 rfl Tryz.ntmps31 Tryz.results31 (by kernel_rfl) (by simp) hI [.box gp 108 (powB p fl)] hS hSI (fun _ => True) (fun _ _ => trivial) fun C hC hN ok => ?_
  obtain ⟨l0, m0, off, done⟩ := p
  simp [hN]
  exact retS hC () [1000] rfl (by simp [Pw.on]) fun _ _ _ => trivial
end Go.Proofs.YtbbaoeidobdblaaGreat.Sx

/- garretlaw17.JournalFalls. -/
set_option linter.unusedVariables false
set_option linter.unusedSimpArgs false
namespace Go.Proofs.YtbbaoeidobdblaaGreat.Sx
open Go

attribute [local simp ↓] ifb_true' ifb_false'
attribute [local simp] ifb_true ifb_false ifb_eq sx argsT find ev evOp evs evo evBin evInt evStr evNil evNilA ptrA slcA isNoneA asB evLoad look del cellsB evUn evConv kdec fld evFieldA evField evIdxA evIdx evSlc bndL bndH evLen mmi put resV guardV gvL setO tupV cellsOf ones one upd lits nv exitTo SV.val CV.val TI.agg rdyA allR keepB scan simpO gsp isS subs keepT pickT wr memN pubs Res.fact Region.binds bld rest give delL back Res.eqv vi vb num Sv.val undef
theorem open_gj (c : Cp) (x : Nat × Sl × Sl) : (openM c x).2.gj = x.1 := by
  unfold openM anewM openJ
  simp only
  split
  · rfl
  · split
    · split
      · rfl
      · split
        · rfl
        · split <;> rfl
    · rfl
def Cp.at (c : Cp) (q : Pw) : Cp := { c with p := q }
theorem onC0 (w : World) (I S : Nat → Prop) (hI : ∀ b, I b → b < w.heap.size) (c : Cp) (hS : Owns [c.pow] S w) (hSI : ∀ b, S b → b < w.heap.size ∧ ¬ I b) :
    FnS Tryz.prog 31 #[ptrV c.gp] w I S (fun _ : Unit => .tuple #[]) (fun _ => [(c.at c.p.on).pow]) (fun _ _ => True) := on0 w I S hI c.gp c.p c.fl hS hSI
theorem cutC0 (w : World) (I S : Nat → Prop) (hI : ∀ b, I b → b < w.heap.size) (c : Cp) (l m : Int) (hS : Owns [c.pow] S w) (hSI : ∀ b, S b → b < w.heap.size ∧ ¬ I b) :
    FnS Tryz.prog 30 #[ptrV c.gp, .int .i64 l, .int .u8 m] w I S (fun _ : Unit => .tuple #[]) (fun _ => [(c.at (c.p.cut l m)).pow]) (fun _ _ => True) := cut0 w I S hI c.gp c.p c.fl l m hS hSI
theorem cut_left {p : Pw} {l m : Int} (h : l ≤ 1000) : (p.cut l m).left ≤ 9223372036854775807 := by
  unfold Pw.cut
  simp only
  split <;> omega
set_option maxRecDepth 100000 in
set_option maxHeartbeats 2000000 in
theorem journalFallsLaw0 (w : World) (g : Geo) {la sa : Option Addr} {ln lc sn sc : Nat} (ls : List (List Dee)) (last : List Dee) (cut again mask : Int) (h : ∀ W, Ext (fun b => b < w.heap.size) w W → Sv.ok dDs W (la, ln, lc) ls ∧ Sv.ok dDee W (sa, sn, sc) last) (hds : ∀ ds ∈ ls, DeesIn ds) (hlast : DeesIn last) :
    Fn0 Tryz.prog 5 #[.agg (geoC g).toArray, .slice la ln lc, .slice sa sn sc, .int .i64 cut, .int .i64 again, .int .u8 mask] w (fun b => b < w.heap.size) (fun b : Bool => .bool b) (fun y W => y = true) := by
  have hI : ∀ b, b < w.heap.size → b < w.heap.size := fun b h => h
  have hln : ln = ls.length := (h w (Ext.refl _ _)).1.1
  have hlb : ls.length ≤ 100000000000 := (h w (Ext.refl _ _)).1.2.2.1
  have hsn : sn = last.length := (h w (Ext.refl _ _)).2.1
  have hll := hlast.len
  refine enter (svs := [.ag ((geoC g).map .v), .c (.v (.slice la ln lc)), .c (.v (.slice sa sn sc)), .c (.v (.int .i64 cut)), .c (.v (.int .i64 again)), .c (.v (.int .u8 mask))]) tysOk Tryz.func5 rfl Tryz.ntmps5 Tryz.results5 (by kernel_rfl) (by simp) hI (fun W => Sv.ok dDs W (la, ln, lc) ls ∧ Sv.ok dDee W (sa, sn, sc) last) h fun C hC hN ok => ?_
  simp [hN]
  intro g6
  refine call0 ok rfl rfl rfl (fun w I hI hG => geometry0 w I hI g) fun y W _ => ?_
  have hgr := geoP_right g
  generalize geoP g = G at hgr
  obtain ⟨q0, ⟨q1, q2⟩, ⟨q3, q4⟩, ⟨q5, q6⟩, ⟨q7, q8⟩, ⟨q9, q10⟩⟩ := id hgr
  have hmod : ∀ v : Int, ∃ N : Int, IntKind.i64.wrap ((IntKind.u64.wrap v).tmod 800) = N ∧ 0 ≤ N ∧ N < 800 := fun v => by
    have h1 := modP_le v 800 (by decide)
    refine ⟨modP v 800, ?_, by omega, by omega⟩
    rw [u64_wrap, Int.tmod_eq_emod_of_nonneg (by omega), w64 (by unfold modP at h1; omega) (by unfold modP at h1; omega)]
    rfl
  obtain ⟨N1, hN1, hN1a, hN1b⟩ := hmod cut
  obtain ⟨N2, hN2, hN2a, hN2b⟩ := hmod again
  simp [hN]
  refine callS ok rfl rfl rfl [] [] trivial rfl (fun gp : Nat => [(1001, .box gp 108 (powB ⟨-1, 0, false, 0⟩ (.map none)))]) (fun w I S hI hG hO hS => (powNew0 w I hI).lone hO) (fun r => by simp) (.inl fun k hk => by cases hk) fun gp W _ => ?_
  simp [hN]
  obtain ⟨nb, hnb, hnb0, hnb1⟩ : ∃ nb : Nat, G.sectors * G.sector = (nb : Nat) ∧ 0 < nb ∧ nb ≤ 100000 := by
    obtain ⟨a, ha⟩ : ∃ a : Nat, G.sectors = a := ⟨G.sectors.toNat, by omega⟩
    obtain ⟨b, hb⟩ : ∃ b : Nat, G.sector = b := ⟨G.sector.toNat, by omega⟩
    refine ⟨a * b, by rw [ha, hb]; simp, Nat.mul_pos (by omega) (by omega), ?_⟩
    have : a * b ≤ 16 * 4096 := Nat.mul_le_mul (by omega) (by omega)
    omega
  refine callS ok rfl rfl rfl [] [] trivial rfl (fun x : Nat × Nat × Nat × Nat => [(1000, (newCp G gp ⟨-1, 0, false, 0⟩ (.map none) x nb).chip), (1002, (newCp G gp ⟨-1, 0, false, 0⟩ (.map none) x nb).row), (1003, (newCp G gp ⟨-1, 0, false, 0⟩ (.map none) x nb).map)]) (fun w I S hI hG hO hS => (norNew0 w I hI G gp nb ⟨-1, 0, false, 0⟩ (.map none) hgr hnb hnb0 hnb1).lone hO) (fun r => by simp [Cp.map, mapR]) (.inl fun k hk => by cases hk) fun x W _ => ?_
  obtain ⟨c0, hc0⟩ : ∃ c0, c0 = newCp G gp ⟨-1, 0, false, 0⟩ (.map none) x nb := ⟨_, rfl⟩
  have hfit : c0.fit := by
    rw [hc0]
    exact ⟨hgr, by simp only [newCp, List.length_replicate]; exact hnb.symm, by simp [newCp], by simp [newCp]⟩
  have hlive : live c0.p := by rw [hc0]; exact ⟨(by decide : (-1 : Int) < 0), rfl⟩
  have hgc : c0.gc = x.1 := by rw [hc0]; rfl
  have hpw : (.box gp 108 (powB ⟨-1, 0, false, 0⟩ (.map none)) : Res) = c0.pow := by rw [hc0]; rfl
  have hG0 : c0.g = G := by rw [hc0]; rfl
  have her : c0.er = [] := by rw [hc0]; rfl
  rw [hpw]
  simp only [← hc0, ← hgc]
  have hgp : c0.gp = gp := by rw [hc0]; rfl
  clear hpw hc0
  rw [← hgp]
  simp [hN]
  refine call0 ok rfl rfl rfl (fun w I hI hG => awake17 w I hI) fun _ W _ => ?_
  simp [hN]
  refine call0 ok rfl rfl rfl (fun w I hI hG => few0 w I hI (n := sn) last (fun W e => (hG W e).2)) fun few W _ => ?_
  cases few with
  | false =>
    simp [hN]
    refine call0 ok rfl rfl rfl (fun w I hI hG => awake17 w I hI) fun _ W _ => ?_
    simp [hN]
    exact ret0 hC true rfl fun _ _ _ => rfl
  | true =>
  simp [hN]
  have hform := form_live hfit hlive
  refine callS ok rfl rfl rfl [1000, 1001, 1002, 1003] c0.res (by simp [Cp.map, mapR]) rfl (fun x : Nat × Sl => [(1000, (formJ c0 x).c.chip), (1001, (formJ c0 x).c.pow), (1002, (formJ c0 x).c.row), (1003, (formJ c0 x).c.map), (1004, (formJ c0 x).box)]) (fun w I S hI hG hO hS' => format0 w I S hI c0 hfit hform.1 hform.2.1 hform.2.2.1 hO hS') (fun r => by simp [Cp.map, mapR]) (.inr fun x q hq => by simp at hq; rcases hq with rfl | rfl | rfl | rfl | rfl <;> simp) fun y W hy => ?_
  have hJ0 := jon_form hfit hlive y
  have hj0 : (formJ c0 y).gj = y.1 ∧ (formJ c0 y).s = newSta ∧ (formJ c0 y).si = y.2 ∧ (formJ c0 y).sb = (none, 0) ∧ (formJ c0 y).ep = 1 ∧ (formJ c0 y).half = 0 := ⟨rfl, rfl, rfl, rfl, rfl, rfl⟩
  obtain ⟨j, hj⟩ : ∃ j, j = formJ c0 y := ⟨_, rfl⟩
  simp only [← hj] at hJ0 hj0
  simp only [← hj]
  rw [← hj0.1]
  simp [hN]
  refine call0 ok rfl rfl rfl (fun w I hI hG => newSta0 w I hI) fun ns W _ => ?_
  simp [hN]
  intro g18
  refine call0 ok rfl rfl rfl (fun w I hI hG => clean0 w I hI (n := sn) last (by omega) (fun W e => (hG W e).2.2.2)) fun sl W _ => ?_
  obtain ⟨L, hL⟩ : ∃ L, L = last.map cleanD := ⟨_, rfl⟩
  have hcl := hlast.clean
  rw [← hL] at hcl
  have hLl : L.length = last.length := by rw [hL, List.length_map]
  simp only [← hL]
  simp [hN]
  have hjgc : j.c.gc = c0.gc := hJ0.2.gc
  have hjgp : j.c.gp = c0.gp := hJ0.2.gp
  refine loopK [1, 3, 4, 5, 13, 14, 16, 18] ok (fun y : Nat × Jn × Sl × Sl => [(19, .c (.v (.int .i64 (y.1 : Nat)))), (2, .c (.v (.slice sl.1 last.length sl.2)))]) (fun y => [(1000, y.2.1.c.chip), (1001, y.2.1.c.pow), (1002, y.2.1.c.row), (1003, y.2.1.c.map), (1004, y.2.1.box), (18, .box g18 39 ((staC y.2.1.s y.2.2.1 y.2.2.2).map .v))]) (fun z W => z.1 ≤ ls.length ∧ Jon z.2.1 ∧ z.2.1.ep ≤ 1 + z.1 ∧ z.1 ≤ 8 ∧ z.2.1.gj = j.gj ∧ z.2.1.c.gc = c0.gc ∧ z.2.1.c.gp = c0.gp ∧ StaR W z.2.1.s z.2.1.si z.2.1.sb ∧ StaR W z.2.1.s z.2.2.1 z.2.2.2) (fun y => ls.length - y.1) (0, j, ns, (none, 0)) ?_ ?_ (fun W hW => ⟨Nat.zero_le _, hJ0.1, by rw [hj0.2.2.2.2.1]; show (1 : Int) ≤ 1 + (0 : Nat); decide, Nat.zero_le _, rfl, hjgc, hjgp, by rw [hj0.2.1, hj0.2.2.1, hj0.2.2.2.1]; exact hW.2.2.1, by rw [hj0.2.1]; exact hW.2.1⟩) ?_
  · simp
  · simp [Cp.map, mapR, hj0.2.1]
  obtain ⟨gj, hgj⟩ : ∃ gj, gj = j.gj := ⟨_, rfl⟩
  rw [← hgj]
  clear hJ0 hj0 hform hjgc hjgp hj hgj hG0 hnb
  rintro ⟨i, j, ⟨pa, pc⟩, ⟨qa, qc⟩⟩ W ⟨hi, hjn, hje, hi8, hjp, hjc, hjq, hS1, hS2⟩ hG2 next
  simp only at hi hjn hje hi8 hjp hjc hjq hS1 hS2
  have hw25 := jon_w25 hjn
  have hju := hjn.used
  have hjh := half_le hjn.fit
  have hcw0 := count_w j.s
  by_cases hgo : i < ls.length ∧ i < 8
  · obtain ⟨hlt, hlt8⟩ := hgo
    have e6 : IntKind.i64.wrap ((i : Int) + 1) = (i + 1 : Nat) := by rw [w64 (by omega) (by omega)]; omega
    have hltn : i < ln := by omega
    have hlt8' : (i : Int) < 8 := by omega
    obtain ⟨b, off, e, _⟩ := ds_get (h w (Ext.refl _ _)).1 hlt
    cases e
    have hget : ∀ W, Sv.ok dDs W (some ⟨b, off, none⟩, ln, lc) ls → ∃ v, W.cell? ⟨b, off + i, none⟩ = some v ∧ slQ dDee ls[i] v W := fun W hW => by
      obtain ⟨b', o', e, hc⟩ := ds_get hW hlt
      cases e
      exact hc
    have hdi := hds _ (List.getElem_mem hlt)
    generalize ls[i] = ds at hget hdi
    have hdl := hdi.len
    have hdc := hdi.clean
    simp [hN, hltn, hlt8']
    refine load1 ok rfl rfl rfl rfl (slQ dDee ds) (fun W hW => hget W hW.2.2.2.2.1) ?_
    rintro v W ⟨sv, rfl, hsv⟩ _
    simp [hN]
    refine call0 ok rfl rfl rfl (fun w I hI hG => few0 w I hI (n := ds.length) ds (fun W e => ⟨rfl, (hG W e).1.get.2⟩)) fun few W _ => ?_
    cases few with
    | false =>
      simp [hN]
      exact ret0 hC true rfl fun _ _ _ => rfl
    | true =>
    simp [hN, hltn]
    refine load1 ok rfl rfl rfl rfl (slQ dDee ds) (fun W hW => hget W (by first | exact hW.2.2.2.2.2.1 | exact hW.2.2.2.2.2.2.1)) ?_
    rintro v W ⟨sv2, rfl, hsv2⟩ _
    simp [hN]
    refine call0 ok rfl rfl rfl (fun w I hI hG => clean0 w I hI (n := ds.length) ds (by omega) (fun W e => ⟨rfl, (hG W e).1.get.2⟩)) fun s2 W _ => ?_
    obtain ⟨D, hD⟩ : ∃ D, D = ds.map cleanD := ⟨_, rfl⟩
    rw [← hD] at hdc
    have hDl : D.length = ds.length := by rw [hD, List.length_map]
    simp only [← hD]
    simp [hN]
    have haw := applyL_w j.s D
    have hcw := count_w (applyL j.s D)
    have hww := whole_w (applyL j.s D)
    have hjcm := jon_commit hjn hdc.1
    refine callS ok rfl rfl rfl [1000, 1001, 1002, 1003, 1004] j.res (by simp [Cp.map, mapR]) rfl (fun v : Sl × Sl => [(1000, (commitM j D v).2.c.chip), (1001, (commitM j D v).2.c.pow), (1002, (commitM j D v).2.c.row), (1003, (commitM j D v).2.c.map), (1004, (commitM j D v).2.box)]) (fun w I S hI hG hO hS' => by have := commit0 w I S hI j (a := s2.1) (n := ds.length) (c := s2.2) D hjn.fit hjn.half (by have := hjn.ep; omega) (by omega) (fun W e => (hG W e).2.2.2.1.2.2.2.2.2.2.2.1) (fun W e => ⟨by simp only; omega, (hG W e).1⟩) (by omega) (by omega) (by show wholeB _ ≤ _; omega) (by omega) hO hS'; rw [hjp] at this; exact this) (fun r => by simp [Cp.map, mapR]) (.inr fun x q hq => by simp at hq; rcases hq with rfl | rfl | rfl | rfl | rfl <;> simp) fun v W hv => ?_
    have hjcm := hjcm v (by omega)
    rcases hjcm with hh | hh
    · obtain ⟨h1, h2, h3, h4, h5, h6, h7, h8⟩ := hh
      have hep2 : (commitM j D v).2.ep ≤ j.ep + 1 := by rcases h8 with h | h <;> omega
      rw [h1]
      obtain ⟨j2, hj2⟩ : ∃ j2, (commitM j D v).2 = j2 := ⟨_, rfl⟩
      rw [hj2] at h2 h3 h4 h5 h6 h7 hep2
      simp only [hj2]
      simp [hN]
      refine call0 ok rfl rfl rfl (fun w I hI hG => refApply0 w I hI j.s (pa, pc) (qa, qc) (a := s2.1) (n := ds.length) (c := s2.2) D (fun W e => (hG W e).2.2.2.2.1.2.2.2.2.2.2.2.2) (fun W e => ⟨by simp only; omega, (hG W e).2.1⟩) (by omega)) fun u W _ => ?_
      simp [hN, e6]
      exact next (i + 1, j2, u.1, u.2) _ _ (by simp only; omega) (fun W hW => ⟨⟨hlt, h2, by simp only; omega, hlt8, by rw [h6, hjp], by rw [h7.gc, hjc], by rw [h7.gp, hjq], by simp only [h3, h4, h5]; exact hW.2.1 hjn.ended, by simp only [h3]; exact hW.1⟩, hW.2.2.2.2.2.2⟩) (by simp [Cp.map, mapR, h3])
    · obtain ⟨h1, _, _⟩ := hh
      rw [h1]
      simp [hN, e6]
      exact next (i + 1, j, (pa, pc), (qa, qc)) _ _ (by simp only; omega) (fun W hW => ⟨⟨hlt, hjn, by simp only; omega, hlt8, hjp, hjc, hjq, hW.2.2.2.2.1.2.2.2.2.2.2.2.1, hW.2.2.2.2.1.2.2.2.2.2.2.2.2⟩, hW.2.2.2.2.2⟩) (by simp [Cp.map, mapR])
  clear next
  refine cutK ok (p := ?pos) [(99, .c (.v (.int .u8 mask))), (98, .c (.v (.int .i64 N1))), (94, .c (.v (ptrV c0.gp))), (2, .c (.v (.slice sl.1 last.length sl.2))), (4, .c (.v (.int .i64 again))), (5, .c (.v (.int .u8 mask))), (13, .c (.v (ptrV c0.gp))), (14, .c (.v (ptrV c0.gc))), (16, .c (.v (ptrV gj))), (18, .c (.bp 18 g18 0))] (fun W => StaR W j.s j.si j.sb ∧ StaR W j.s (pa, pc) (qa, qc) ∧ Sl.ok dDee W sl L) [(1000, j.c.chip), (1001, j.c.pow), (1002, j.c.row), (1003, j.c.map), (1004, j.box), (18, .box g18 39 ((staC j.s (pa, pc) (qa, qc)).map .v))] ?rest fun R => ?main
  case main =>
    by_cases hlt : i < ls.length
    · have hi8' : ¬ (i : Int) < 8 := by omega
      have hltn : i < ln := by omega
      simp [hN, hltn, hi8', hN1]
      refine R _ _ ?_ ?_
      · exact fun W hW => ⟨hW.1.2.2.2.2.2.2.2.1, hW.1.2.2.2.2.2.2.2.2, hW.2.1⟩
      · simp [Cp.map, mapR]
    · have hltn : ¬ i < ln := by omega
      simp [hN, hltn, hN1]
      refine R _ _ ?_ ?_
      · exact fun W hW => ⟨hW.1.2.2.2.2.2.2.2.1, hW.1.2.2.2.2.2.2.2.2, hW.2.1⟩
      · simp [Cp.map, mapR]
  case rest =>
  simp [hN]
  obtain ⟨jq, hJ⟩ : ∃ jq, jq = j.at (j.c.p.cut N1 mask) := ⟨_, rfl⟩
  have hql := cut_left (p := j.c.p) (l := N1) (m := mask) (by omega)
  have hqf : jq.c.fit := by rw [hJ]; exact ⟨hjn.fit.right, hjn.fit.len, hjn.fit.cap, hql⟩
  have hq0 : jq.gj = j.gj ∧ jq.half = j.half ∧ jq.ep = j.ep ∧ jq.used = j.used ∧ jq.s = j.s ∧ jq.si = j.si ∧ jq.sb = j.sb ∧ jq.ended = j.ended := by rw [hJ]; exact ⟨rfl, rfl, rfl, rfl, rfl, rfl, rfl, rfl⟩
  have hpq : (j.c.at (j.c.p.cut N1 mask)).pow = jq.c.pow := by rw [hJ]; rfl
  have hch : j.c.chip = jq.c.chip := by rw [hJ]; rfl
  have hrw : j.c.row = jq.c.row := by rw [hJ]; rfl
  have hmp : j.c.map = jq.c.map := by rw [hJ]; rfl
  have hbx : j.box = jq.box := by rw [hJ]; rfl
  refine callS ok rfl rfl rfl [1001] [j.c.pow] (by simp) rfl (fun _ : Unit => [(1001, (j.c.at (j.c.p.cut N1 mask)).pow)]) (fun w I S hI hG hO hS' => by have := cutC0 w I S hI j.c N1 mask hO hS'; rw [hjq] at this; exact this) (fun r => by simp) (.inr fun x q hq => by simp at hq; subst hq; simp) fun _ W _ => ?_
  rw [hpq, hch, hrw, hmp, hbx]
  simp [hN]
  have haw := applyL_w j.s L
  have hcw := count_w (applyL j.s L)
  have hww := whole_w (applyL j.s L)
  refine callS ok rfl rfl rfl [1000, 1001, 1002, 1003, 1004] jq.res (by simp [Cp.map, mapR]) rfl (fun v : Sl × Sl => [(1000, (commitM jq L v).2.c.chip), (1001, (commitM jq L v).2.c.pow), (1002, (commitM jq L v).2.c.row), (1003, (commitM jq L v).2.c.map), (1004, (commitM jq L v).2.box)]) (fun w I S hI hG hO hS' => by have := commit0 w I S hI jq (a := sl.1) (n := last.length) (c := sl.2) L hqf (by rw [hq0.2.1]; exact hjn.half) (by rw [hq0.2.2.1]; have := hjn.ep; omega) (by rw [hq0.2.2.2.1]; omega) (fun W e => by rw [hq0.2.2.2.2.1, hq0.2.2.2.2.2.1, hq0.2.2.2.2.2.2.1]; exact (hG W e).1) (fun W e => ⟨by simp only; omega, (hG W e).2.2⟩) (by rw [hq0.2.2.2.2.1]; omega) (by rw [hq0.2.2.2.2.1]; omega) (by rw [hq0.2.2.2.2.1]; show wholeB _ ≤ _; omega) (by omega) hO hS'; rw [hq0.1, hjp] at this; exact this) (fun r => by simp [Cp.map, mapR]) (.inr fun x q hq => by simp at hq; rcases hq with rfl | rfl | rfl | rfl | rfl <;> simp) fun v W hv => ?_
  have hca := commit_any hjn hcl.1 (j.c.p.cut N1 mask) hql v (by omega)
  rw [← hJ] at hca
  obtain ⟨f, hf⟩ : ∃ f, (commitM jq L v).1 = f := ⟨_, rfl⟩
  obtain ⟨j3, hj3⟩ : ∃ j3, (commitM jq L v).2 = j3 := ⟨_, rfl⟩
  rw [hf, hj3] at hca
  rw [hf]
  simp only [hj3]
  obtain ⟨s', e', hs', hee, hgd⟩ : ∃ s' e', (f = 0 ∧ s' = applyL j.s L ∨ f = 10 ∧ s' = j.s ∨ f = 6 ∧ (s' = j.s ∨ s' = applyL j.s L)) ∧ e' ≤ j.ep + 1 ∧ Gd j3.c s' e' := by
    rcases hca.1 with ⟨h1, e', h2, h3⟩ | ⟨h1, e', h2, h3⟩ | ⟨h1, e', h2, h3⟩
    · exact ⟨_, e', .inl ⟨h1, rfl⟩, h2, h3⟩
    · exact ⟨_, e', .inr (.inl ⟨h1, rfl⟩), h2, h3⟩
    · rcases h3 with h3 | h3
      · exact ⟨_, e', .inr (.inr ⟨h1, .inl rfl⟩), h2, h3⟩
      · exact ⟨_, e', .inr (.inr ⟨h1, .inr rfl⟩), h2, h3⟩
  have h3c : j3.c.gc = c0.gc ∧ j3.c.gp = c0.gp := ⟨by rw [hca.2.1.gc, hjc], by rw [hca.2.1.gp, hjq]⟩
  clear hca hf hj3 hv
  simp [hN]
  refine callS ok rfl rfl rfl [1001] [j3.c.pow] (by simp) rfl (fun _ : Unit => [(1001, (j3.c.at j3.c.p.on).pow)]) (fun w I S hI hG hO hS' => by have := onC0 w I S hI j3.c hO hS'; rw [h3c.2] at this; exact this) (fun r => by simp) (.inr fun x q hq => by simp at hq; subst hq; simp) fun _ W _ => ?_
  simp [hN]
  have hch4 : j3.c.chip = (j3.c.at (j3.c.p.on)).chip := rfl
  have hrw4 : j3.c.row = (j3.c.at (j3.c.p.on)).row := rfl
  have hmp4 : j3.c.map = (j3.c.at (j3.c.p.on)).map := rfl
  have hgd4 : Gd (j3.c.at (j3.c.p.on)) s' e' := hgd.pow _ (by show (-1 : Int) ≤ _; decide)
  have hcc4 : (j3.c.at (j3.c.p.on)).gc = c0.gc ∧ (j3.c.at (j3.c.p.on)).gp = c0.gp := h3c
  rw [hch4, hrw4, hmp4]
  obtain ⟨c4, hc4⟩ : ∃ c4, c4 = j3.c.at (j3.c.p.on) := ⟨_, rfl⟩
  rw [← hc4] at hgd4 hcc4 ⊢
  clear hch4 hrw4 hmp4 hc4
  refine call0 ok rfl rfl rfl (fun w I hI hG => refApply0 w I hI j.s (pa, pc) (qa, qc) (a := sl.1) (n := last.length) (c := sl.2) L (fun W e => (hG W e).2.2.1) (fun W e => ⟨by simp only; omega, (hG W e).2.2.2⟩) (by omega)) fun u W _ => ?_
  simp [hN]
  intro g23
  simp [hN2]
  refine callS ok rfl rfl rfl [1001] [c4.pow] (by simp) rfl (fun _ : Unit => [(1001, (c4.at (c4.p.cut N2 mask)).pow)]) (fun w I S hI hG hO hS' => by have := cutC0 w I S hI c4 N2 mask hO hS'; rw [hcc4.2] at this; exact this) (fun r => by simp) (.inr fun x q hq => by simp at hq; subst hq; simp) fun _ W _ => ?_
  have hch5 : c4.chip = (c4.at (c4.p.cut N2 mask)).chip := rfl
  have hrw5 : c4.row = (c4.at (c4.p.cut N2 mask)).row := rfl
  have hmp5 : c4.map = (c4.at (c4.p.cut N2 mask)).map := rfl
  have hgd5 : Gd (c4.at (c4.p.cut N2 mask)) s' e' := hgd4.pow _ (cut_left (by omega))
  have hcc5 : (c4.at (c4.p.cut N2 mask)).gc = c0.gc ∧ (c4.at (c4.p.cut N2 mask)).gp = c0.gp := hcc4
  rw [hch5, hrw5, hmp5]
  obtain ⟨c5, hc5⟩ : ∃ c5, c5 = c4.at (c4.p.cut N2 mask) := ⟨_, rfl⟩
  rw [← hc5] at hgd5 hcc5 ⊢
  clear hch5 hrw5 hmp5 hc5
  simp [hN]
  have hE := jon_gd hjn
  have hop := open_any hgd5 (by omega) (0, (none, 0), (none, 0))
  obtain ⟨⟨e2, he2, hgd6⟩, hsm6, _, _⟩ := hop
  have hgd6 : Gd (openC c5) s' e2 := hgd6
  have hcc6 : (openC c5).gc = c0.gc ∧ (openC c5).gp = c0.gp := ⟨hsm6.gc.trans hcc5.1, hsm6.gp.trans hcc5.2⟩
  obtain ⟨c6, hc6⟩ : ∃ c6, c6 = openC c5 := ⟨_, rfl⟩
  rw [← hc6] at hgd6 hcc6
  refine cutK ok (p := ?pos2) [(118, .c (.v (ptrV c0.gp))), (22, .c (.v (.int .i64 f))), (13, .c (.v (ptrV c0.gp))), (14, .c (.v (ptrV c0.gc))), (18, .c (.bp 18 g18 0)), (23, .c (.bp 23 g23 0))] (fun W => StaR W (applyL j.s L) u.1 u.2 ∧ StaR W j.s (pa, pc) (qa, qc)) [(1000, c6.chip), (1001, c6.pow), (1002, c6.row), (1003, c6.map), (18, .box g18 39 ((staC j.s (pa, pc) (qa, qc)).map .v)), (23, .box g23 39 ((staC (applyL j.s L) u.1 u.2).map .v))] ?rest2 fun R => ?main2
  case main2 =>
    have hopn := fun (w : World) (I S : Nat → Prop) (hI : ∀ b, I b → b < w.heap.size) (hO : Owns c5.res S w) (hS' : ∀ b, S b → b < w.heap.size ∧ ¬ I b) => open0 w I S hI c5 hgd5.fit hgd5.bytes hO hS'
    by_cases ho : openE c5 = 0
    · simp only [ho, if_true, hcc5.1] at hopn
      refine callS ok rfl rfl rfl [1000, 1001, 1002, 1003] c5.res (by simp [Cp.map, mapR]) rfl (fun x : Nat × Sl × Sl => [(1000, (openM c5 x).2.c.chip), (1001, (openM c5 x).2.c.pow), (1002, (openM c5 x).2.c.row), (1003, (openM c5 x).2.c.map), (1005, (openM c5 x).2.box)]) (fun w I S hI hG hO hS' => hopn w I S hI hO hS') (fun r => by simp [Cp.map, mapR]) (.inr fun x q hq => by simp at hq; rcases hq with rfl | rfl | rfl | rfl | rfl <;> simp) fun x W _ => ?_
      rw [(open_e c5 x).2, ← hc6]
      simp [hN]
      refine R _ _ ?_ ?_
      · exact fun W hW => ⟨hW.2.1, hW.2.2.2.2.1⟩
      · simp [Cp.map, mapR]
    · simp only [ho, if_false, hcc5.1] at hopn
      refine callS ok rfl rfl rfl [1000, 1001, 1002, 1003] c5.res (by simp [Cp.map, mapR]) rfl (fun x : Nat × Sl × Sl => [(1000, (openC c5).chip), (1001, (openC c5).pow), (1002, (openC c5).row), (1003, (openC c5).map)]) (fun w I S hI hG hO hS' => hopn w I S hI hO hS') (fun r => by simp [Cp.map, mapR]) (.inr fun x q hq => by simp at hq; rcases hq with rfl | rfl | rfl | rfl <;> simp) fun x W _ => ?_
      rw [← hc6]
      simp [hN]
      refine R _ _ ?_ ?_
      · exact fun W hW => ⟨hW.1, hW.2.2.2.1⟩
      · simp [Cp.map, mapR]
  case rest2 =>
  simp [hN]
  have hlv7 : live (c6.at (c6.p.on)).p := ⟨show (-1 : Int) < 0 by decide, rfl⟩
  refine callS ok rfl rfl rfl [1001] [c6.pow] (by simp) rfl (fun _ : Unit => [(1001, (c6.at (c6.p.on)).pow)]) (fun w I S hI hG hO hS' => by have := onC0 w I S hI c6 hO hS'; rw [hcc6.2] at this; exact this) (fun r => by simp) (.inr fun x q hq => by simp at hq; subst hq; simp) fun _ W _ => ?_
  have hch7 : c6.chip = (c6.at (c6.p.on)).chip := rfl
  have hrw7 : c6.row = (c6.at (c6.p.on)).row := rfl
  have hmp7 : c6.map = (c6.at (c6.p.on)).map := rfl
  have hgd7 : Gd (c6.at (c6.p.on)) s' e2 := hgd6.pow _ (by show (-1 : Int) ≤ _; decide)
  have hcc7 : (c6.at (c6.p.on)).gc = c0.gc ∧ (c6.at (c6.p.on)).gp = c0.gp := hcc6
  rw [hch7, hrw7, hmp7]
  obtain ⟨c7, hc7⟩ : ∃ c7, c7 = c6.at (c6.p.on) := ⟨_, rfl⟩
  rw [← hc7] at hlv7
  rw [← hc7] at hgd7 hcc7 ⊢
  clear hch7 hrw7 hmp7 hc7
  simp [hN]
  have hop7 := fun x : Nat × Sl × Sl => open_any hgd7 (by omega) x
  have ho7 : openE c7 = 0 := (hop7 (0, (none, 0), (none, 0))).2.2.2 hlv7
  have hopn := fun (w : World) (I S : Nat → Prop) (hI : ∀ b, I b → b < w.heap.size) (hO : Owns c7.res S w) (hS' : ∀ b, S b → b < w.heap.size ∧ ¬ I b) => open0 w I S hI c7 hgd7.fit hgd7.bytes hO hS'
  simp only [ho7, if_true, hcc7.1] at hopn
  refine callS ok rfl rfl rfl [1000, 1001, 1002, 1003] c7.res (by simp [Cp.map, mapR]) rfl (fun x : Nat × Sl × Sl => [(1000, (openM c7 x).2.c.chip), (1001, (openM c7 x).2.c.pow), (1002, (openM c7 x).2.c.row), (1003, (openM c7 x).2.c.map), (1006, (openM c7 x).2.box)]) (fun w I S hI hG hO hS' => hopn w I S hI hO hS') (fun r => by simp [Cp.map, mapR]) (.inr fun x q hq => by simp at hq; rcases hq with rfl | rfl | rfl | rfl | rfl <;> simp) fun x W _ => ?_
  have hs8 : (openM c7 x).2.s = s' := (hop7 x).2.2.1 (by rw [(open_e c7 x).1]; exact ho7)
  have hgj8 := open_gj c7 x
  obtain ⟨j8, hj8⟩ : ∃ j8, (openM c7 x).2 = j8 := ⟨_, rfl⟩
  rw [hj8] at hs8 hgj8
  rw [hj8]
  clear hop7 hopn hj8
  have hsb : s'.inos.length ≤ 1000000000 ∧ s'.bad.length ≤ 1000000000 := by
    rcases hs' with ⟨_, rfl⟩ | ⟨_, rfl⟩ | ⟨_, rfl | rfl⟩ <;> omega
  rcases hs' with ⟨rfl, rfl⟩ | ⟨rfl, rfl⟩ | ⟨rfl, hs'⟩
  · simp [hN]
    refine draw ok [(18, .box g18 39 ((staC j.s (pa, pc) (qa, qc)).map .v)), (23, .box g23 39 ((staC (applyL j.s L) u.1 u.2).map .v))] (by rw [ok.P]; exact mixed) (by kernel_rfl) ?_
    simp (maxSteps := 2000000) -implicitDefEqProofs [hN]
    refine callS ok rfl rfl rfl [1006] [j8.box] (by simp) rfl (fun _ : Sl × Sl => [(1006, j8.box)]) (fun w I S hI hG hO hS' => by have := state0 w I S hI j8 (fun W e => (hG W e).1) (by rw [hs8]; exact hsb) hO hS'; rw [hgj8] at this; exact this) (fun r => by simp) (.inr fun x q hq => by simp at hq; subst hq; simp) fun z1 W _ => ?_
    simp (maxSteps := 2000000) -implicitDefEqProofs [hN]
    refine call0 ok rfl rfl rfl (fun w I hI hG => sameSta0 w I hI (applyL j8.s []) (applyL j.s L) z1.1 z1.2 u.1 u.2 (fun W e => ⟨(hG W e).1, (hG W e).2.2.1⟩)) fun _ W _ => ?_
    rw [tB_true (show applyL j8.s [] = applyL j.s L from hs8)]
    simp (maxSteps := 2000000) -implicitDefEqProofs [hN]
    exact ret0 hC true rfl fun _ _ _ => rfl
  · simp [hN]
    refine draw ok [(18, .box g18 39 ((staC j.s (pa, pc) (qa, qc)).map .v)), (23, .box g23 39 ((staC (applyL j.s L) u.1 u.2).map .v))] (by rw [ok.P]; exact mixed) (by kernel_rfl) ?_
    simp (maxSteps := 2000000) -implicitDefEqProofs [hN]
    refine callS ok rfl rfl rfl [1006] [j8.box] (by simp) rfl (fun _ : Sl × Sl => [(1006, j8.box)]) (fun w I S hI hG hO hS' => by have := state0 w I S hI j8 (fun W e => (hG W e).1) (by rw [hs8]; exact hsb) hO hS'; rw [hgj8] at this; exact this) (fun r => by simp) (.inr fun x q hq => by simp at hq; subst hq; simp) fun z1 W _ => ?_
    simp (maxSteps := 2000000) -implicitDefEqProofs [hN]
    refine call0 ok rfl rfl rfl (fun w I hI hG => sameSta0 w I hI (applyL j8.s []) (j.s) z1.1 z1.2 (pa, pc) (qa, qc) (fun W e => ⟨(hG W e).1, (hG W e).2.2.2⟩)) fun _ W _ => ?_
    rw [tB_true (show applyL j8.s [] = j.s from hs8)]
    simp (maxSteps := 2000000) -implicitDefEqProofs [hN]
    exact ret0 hC true rfl fun _ _ _ => rfl
  · simp [hN]
    refine draw ok [(18, .box g18 39 ((staC j.s (pa, pc) (qa, qc)).map .v)), (23, .box g23 39 ((staC (applyL j.s L) u.1 u.2).map .v))] (by rw [ok.P]; exact mixed) (by kernel_rfl) ?_
    simp (maxSteps := 2000000) -implicitDefEqProofs [hN]
    refine callS ok rfl rfl rfl [1006] [j8.box] (by simp) rfl (fun _ : Sl × Sl => [(1006, j8.box)]) (fun w I S hI hG hO hS' => by have := state0 w I S hI j8 (fun W e => (hG W e).1) (by rw [hs8]; exact hsb) hO hS'; rw [hgj8] at this; exact this) (fun r => by simp) (.inr fun x q hq => by simp at hq; subst hq; simp) fun z1 W _ => ?_
    simp (maxSteps := 2000000) -implicitDefEqProofs [hN]
    refine call0 ok rfl rfl rfl (fun w I hI hG => sameSta0 w I hI (applyL j8.s []) j.s z1.1 z1.2 (pa, pc) (qa, qc) (fun W e => ⟨(hG W e).1, (hG W e).2.2.2⟩)) fun _ W _ => ?_
    by_cases hq : applyL j8.s [] = j.s
    · rw [tB_true hq]
      simp (maxSteps := 2000000) -implicitDefEqProofs [hN]
      exact ret0 hC true rfl fun _ _ _ => rfl
    · rw [tB_false hq]
      have hq2 : s' = applyL j.s L := by
        rcases hs' with e | e
        · exact absurd (show applyL j8.s [] = j.s from hs8.trans e) hq
        · exact e
      simp (maxSteps := 2000000) -implicitDefEqProofs [hN]
      refine callS ok rfl rfl rfl [1006] [j8.box] (by simp) rfl (fun _ : Sl × Sl => [(1006, j8.box)]) (fun w I S hI hG hO hS' => by have := state0 w I S hI j8 (fun W e => (hG W e).2.1) (by rw [hs8]; exact hsb) hO hS'; rw [hgj8] at this; exact this) (fun r => by simp) (.inr fun x q hq => by simp at hq; subst hq; simp) fun z2 W _ => ?_
      simp (maxSteps := 2000000) -implicitDefEqProofs [hN]
      refine call0 ok rfl rfl rfl (fun w I hI hG => sameSta0 w I hI (applyL j8.s []) (applyL j.s L) z2.1 z2.2 u.1 u.2 (fun W e => ⟨(hG W e).1, (hG W e).2.2.2.1⟩)) fun _ W _ => ?_
      rw [tB_true (show applyL j8.s [] = applyL j.s L from hs8.trans hq2)]
      simp (maxSteps := 2000000) -implicitDefEqProofs [hN]
      exact ret0 hC true rfl fun _ _ _ => rfl
end Go.Proofs.YtbbaoeidobdblaaGreat.Sx

/- What comes in, read: numbers, texts, bytes, slices of such, entries, runs, inodes, deeds (their bulk is bounded). -/
set_option linter.unusedVariables false
set_option linter.unusedSimpArgs false
namespace Go.Proofs.YtbbaoeidobdblaaGreat.Rdk
open Go Go.Proofs.YtbbaoeidobdblaaGreat.Sx

theorem one_le {H : Type} (d : DataW H) : 1 ≤ Rows.uptoBulk d := by
  cases d with
  | lit l => cases l <;> simp [Rows.uptoBulk]
  | nil => simp [Rows.uptoBulk]
  | ptr d => simp [Rows.uptoBulk]
  | slice elems spare => simp [Rows.uptoBulk]
  | agg parts => simp [Rows.uptoBulk]
  | iface t d => simp [Rows.uptoBulk]
  | map entries => simp [Rows.uptoBulk]
  | held h => simp [Rows.uptoBulk]
theorem part_le {H : Type} {l : List (DataW H)} {i : Nat} {d : DataW H} (h : l[i]? = some d) : Rows.uptoBulk d ≤ Rows.uptoBulkAll l := by
  induction l generalizing i with
  | nil => simp at h
  | cons x r ih =>
    simp only [Rows.uptoBulkAll]
    cases i with
    | zero => simp at h; subst h; omega
    | succ i => have := ih (by simpa using h); omega
/-- Two parts of a whole. -/
theorem part_two {H : Type} {l : List (DataW H)} {i j : Nat} {d e : DataW H} (hij : i < j) (h : l[i]? = some d) (k : l[j]? = some e) : Rows.uptoBulk d + Rows.uptoBulk e ≤ Rows.uptoBulkAll l := by
  induction l generalizing i j with
  | nil => simp at h
  | cons x r ih =>
    obtain ⟨j, rfl⟩ : ∃ q, j = q + 1 := ⟨j - 1, by omega⟩
    simp only [Rows.uptoBulkAll]
    cases i with
    | zero =>
      simp at h
      subst h
      have := part_le (l := r) (i := j) (by simpa using k)
      omega
    | succ i => have := ih (i := i) (j := j) (by omega) (by simpa using h) (by simpa using k); omega
theorem part_three {H : Type} {l : List (DataW H)} {i j k : Nat} {a b c : DataW H} (hij : i < j) (hjk : j < k) (h : l[i]? = some a) (h2 : l[j]? = some b) (h3 : l[k]? = some c) : Rows.uptoBulk a + Rows.uptoBulk b + Rows.uptoBulk c ≤ Rows.uptoBulkAll l := by
  induction l generalizing i j k with
  | nil => simp at h
  | cons x r ih =>
    obtain ⟨j, rfl⟩ : ∃ q, j = q + 1 := ⟨j - 1, by omega⟩
    obtain ⟨k, rfl⟩ : ∃ q, k = q + 1 := ⟨k - 1, by omega⟩
    simp only [Rows.uptoBulkAll]
    cases i with
    | zero =>
      simp at h
      subst h
      have := part_two (l := r) (i := j) (j := k) (by omega) (by simpa using h2) (by simpa using h3)
      omega
    | succ i => have := ih (i := i) (j := j) (k := k) (by omega) (by omega) (by simpa using h) (by simpa using h2) (by simpa using h3); omega
/-- How large what is asked of a reading may be. -/
abbrev lim : Nat := 1048576
/-- A kind of things can be read off cells of a type. -/
structure RdT (P : Program) (w : World) {α : Type} (t : TypeId) (d : Dt α) (fit : α → Prop) (sz : α → Nat) : Prop where
  get : ∀ {H : Type} {enc : TypeId × Value → H} {base : Nat} {spare : Nat → Bool} {held : Bool} {n : Nat} {cs : List Value} {y : DataW H × List MemPlace}, DataW.trod enc P w base spare held n t cs = some y → Rows.uptoBulk y.1 ≤ 1048576 → ∃ x, d.K w x cs ∧ fit x ∧ sz x ≤ Rows.uptoBulk y.1
theorem wf_fit {n : Int} (h : (Lit.int .i64 n).wf = true) : fitI n := by
  simp [Lit.wf, IntKind.min, IntKind.max, IntKind.signed, IntKind.bits] at h
  unfold fitI
  omega
theorem rdInt {P : Program} {w : World} {t : TypeId} (ht : P.underlying t = some (.int .i64)) : RdT P w t dInt fitI (fun _ => 1) := ⟨fun {H enc base spare held n cs y} h hb => by
  obtain ⟨x, rfl, e, hw⟩ := DataW.trod_int ht h
  exact ⟨x, rfl, wf_fit hw, one_le _⟩⟩
theorem rdByte {P : Program} {w : World} {t : TypeId} (ht : P.underlying t = some (.int .u8)) : RdT P w t dByte (fun x => 0 ≤ x ∧ x ≤ 255) (fun _ => 1) := ⟨fun {H enc base spare held n cs y} h hb => by
  obtain ⟨x, rfl, e, hw⟩ := DataW.trod_int ht h
  refine ⟨x, rfl, ?_, one_le _⟩
  simp [Lit.wf, IntKind.min, IntKind.max, IntKind.signed, IntKind.bits] at hw
  omega⟩
theorem fold_parts {α : Type} {H : Type} (Q : Nat → α → Prop) (sz : α → Nat) : ∀ (elems : List (DataW H × List MemPlace)) (i0 : Nat), (∀ k y, elems[k]? = some y → ∃ x, Q (i0 + k) x ∧ sz x ≤ Rows.uptoBulk y.1) → ∃ xs : List α, xs.length = elems.length ∧ (∀ k x, xs[k]? = some x → Q (i0 + k) x) ∧ sumN (xs.map sz) ≤ Rows.uptoBulkAll (elems.map (·.1))
  | [], i0, _ => ⟨[], rfl, fun k x h => by simp at h, Nat.le_refl _⟩
  | y :: r, i0, h => by
    obtain ⟨x, h1, h2⟩ := h 0 y rfl
    obtain ⟨xs, h3, h4, h5⟩ := fold_parts Q sz r (i0 + 1) fun k z hz => by
      have := h (k + 1) z (by simpa using hz)
      rw [show i0 + 1 + k = i0 + (k + 1) by omega]
      exact this
    refine ⟨x :: xs, by simp [h3], fun k z hz => ?_, ?_⟩
    · cases k with
      | zero => simp at hz; subst hz; exact h1
      | succ k =>
        have := h4 k z (by simpa using hz)
        rw [show i0 + (k + 1) = i0 + 1 + k by omega]
        exact this
    · simp only [List.map_cons, sumN_cons, Rows.uptoBulkAll]
      omega
theorem len_bulk {H : Type} (l : List (DataW H)) : l.length ≤ Rows.uptoBulkAll l := by
  induction l with
  | nil => simp [Rows.uptoBulkAll]
  | cons x r ih => have := one_le x; simp only [Rows.uptoBulkAll, List.length_cons]; omega
/-- A slice is read. -/
theorem rdSlice {P : Program} {w : World} {α : Type} {t e : TypeId} {d : Dt α} {fit : α → Prop} {sz : α → Nat} (R : RdT P w e d fit sz) (ht : P.underlying t = some (.slice e)) (hc : P.cellsOf e = d.sz) (h0 : 0 < d.sz)
    {H : Type} {enc : TypeId × Value → H} {base : Nat} {spare : Nat → Bool} {held : Bool} {n : Nat} {cs : List Value} {y : DataW H × List MemPlace} (h : DataW.trod enc P w base spare held n t cs = some y) (hb : Rows.uptoBulk y.1 ≤ 1048576) :
    ∃ (s : Sl) (xs : List α), cs = [.slice s.1 xs.length s.2] ∧ Sl.ok d w s xs ∧ (∀ x ∈ xs, fit x) ∧ sumN (xs.map sz) + 1 ≤ Rows.uptoBulk y.1 ∧ xs.length + 1 ≤ Rows.uptoBulk y.1 := by
  rcases DataW.trod_slice ht h with ⟨rfl, rfl⟩ | ⟨a, len, cap, elems, rest, m, rfl, rfl, rfl, h1, h2, h3, h4, h5, _, _⟩
  · exact ⟨(none, 0), [], rfl, ⟨Nat.le_refl _, Nat.zero_le _, rd_nil _ _ _⟩, fun x hx => absurd hx List.not_mem_nil, by simp [Rows.uptoBulk], by simp [Rows.uptoBulk]⟩
  · simp only [Rows.uptoBulk] at hb ⊢
    have hp : ∀ k y, elems[k]? = some y → ∃ x, (fun i x => fit x ∧ ∃ cs, d.K w x cs ∧ ∀ j, j < d.sz → w.cell? ((a.add (i * d.sz)).add j) = cs[j]?) (0 + k) x ∧ sz x ≤ Rows.uptoBulk y.1 := fun k y hy => by
      have hk : k < len := by rw [← h4]; exact (List.getElem?_eq_some_iff.1 hy).1
      have h6 := h5 k hk
      rw [hy, Option.bind_eq_some_iff] at h6
      obtain ⟨cs, h7, h8⟩ := h6
      have hyb : Rows.uptoBulk y.1 ≤ Rows.uptoBulkAll (elems.map (·.1)) := part_le (i := k) (by simp [hy])
      obtain ⟨x, k1, k2, k3⟩ := R.get h8 (by omega)
      obtain ⟨_, c1, c2⟩ := World.cells?_some h7
      rw [hc] at c2
      exact ⟨x, ⟨k2, cs, k1, by rw [Nat.zero_add]; exact c2⟩, k3⟩
    obtain ⟨xs, l1, l2, l3⟩ := fold_parts (fun i x => fit x ∧ ∃ cs, d.K w x cs ∧ ∀ j, j < d.sz → w.cell? ((a.add (i * d.sz)).add j) = cs[j]?) sz elems 0 hp
    have hlen := len_bulk (elems.map (·.1))
    rw [List.length_map] at hlen
    have hxl : xs.length = len := by rw [l1, h4]
    refine ⟨(some a, cap), xs, by rw [hxl], ⟨by simp only; omega, by omega, fun hne => ?_⟩, fun x hx => ?_, by omega, by omega⟩
    · have hpos : 0 < xs.length := List.length_pos_iff.2 hne
      obtain ⟨_, cs, k1, k2⟩ := l2 0 xs[0] (List.getElem?_eq_getElem hpos)
      have hcl := d.len k1
      have hsp : a.spot = none := by
        have := World.cell?_spot (k2 0 h0 |>.trans (List.getElem?_eq_getElem (by omega)))
        simpa [Addr.add] using this
      obtain ⟨b, o, sp⟩ := a
      simp only at hsp
      subst hsp
      refine ⟨b, o, rfl, fun i x hx => ?_⟩
      obtain ⟨_, cs, k1, k2⟩ := l2 i x hx
      refine ⟨cs, k1, fun j v hv => ?_⟩
      have hj : j < d.sz := by rw [← d.len k1]; exact (List.getElem?_eq_some_iff.1 hv).1
      have := k2 j hj
      rw [addr_add, addr_add, Nat.zero_add] at this
      rw [this, hv]
    · obtain ⟨i, hi⟩ := List.mem_iff_getElem?.1 hx
      exact (l2 i x hi).1
/-- The parts of a struct, one by one. -/
theorem rdStruct {P : Program} {w : World} {t : TypeId} {fs : Array Field} (ht : P.underlying t = some (.struct fs)) {H : Type} {enc : TypeId × Value → H} {base : Nat} {spare : Nat → Bool} {held : Bool} {n : Nat} {cs : List Value} {y : DataW H × List MemPlace} (h : DataW.trod enc P w base spare held n t cs = some y) :
    ∃ (l : List (DataW H × List MemPlace)) (m : Nat), Rows.uptoBulk y.1 = Rows.uptoBulkAll (l.map (·.1)) + 1 ∧ cs.length = P.cellsOf t ∧ ∀ (i : Nat) (f : Field), fs.toList[i]? = some f → ∃ z, l[i]? = some z ∧ DataW.trod enc P w base spare held m f.type ((cs.drop f.offset).take (P.cellsOf f.type)) = some z := by
  obtain ⟨xs, m, rfl, rfl, h1, h2, h3⟩ := DataW.trod_struct ht h
  refine ⟨xs, m, by simp [Rows.uptoBulk], h1, fun i f hf => ?_⟩
  rw [Array.getElem?_toList] at hf
  have h4 := h3 i f hf
  have hi : i < xs.length := by rw [h2]; exact (Array.getElem?_eq_some_iff.1 hf).1
  exact ⟨xs[i], List.getElem?_eq_getElem hi, by rw [h4]; exact List.getElem?_eq_getElem hi⟩
theorem len2 {l : List Value} (h : l.length = 2) : ∃ a b, l = [a, b] := by
  match l, h with
  | [a, b], _ => exact ⟨a, b, rfl⟩
theorem len3 {l : List Value} (h : l.length = 3) : ∃ a b c, l = [a, b, c] := by
  match l, h with
  | [a, b, c], _ => exact ⟨a, b, c, rfl⟩
theorem len7 {l : List Value} (h : l.length = 7) : ∃ a b c d e f g, l = [a, b, c, d, e, f, g] := by
  match l, h with
  | [a, b, c, d, e, f, g], _ => exact ⟨a, b, c, d, e, f, g, rfl⟩
theorem len9 {l : List Value} (h : l.length = 9) : ∃ i j a b c d e f g, l = [i, j, a, b, c, d, e, f, g] := by
  match l, h with
  | [i, j, a, b, c, d, e, f, g], _ => exact ⟨i, j, a, b, c, d, e, f, g, rfl⟩
theorem cellInt : Tryz.prog.cellsOf 3 = 1 := by kernel_rfl
theorem cellStr : Tryz.prog.cellsOf 9 = 1 := by kernel_rfl
theorem cellEs : Tryz.prog.cellsOf 41 = 1 := by kernel_rfl
theorem cellRs : Tryz.prog.cellsOf 42 = 1 := by kernel_rfl
theorem cellEnt : Tryz.prog.cellsOf 127 = 2 := by kernel_rfl
theorem cellRun : Tryz.prog.cellsOf 139 = 3 := by kernel_rfl
theorem cellIno : Tryz.prog.cellsOf 44 = 7 := by kernel_rfl
theorem cellDee : Tryz.prog.cellsOf 46 = 9 := by kernel_rfl
theorem rdEnt (w : World) : RdT Tryz.prog w 127 dEnt (fun e => FitE e) (fun e => e.name.size + 1) := ⟨fun {H enc base spare held n cs y} h hb => by
  obtain ⟨l, m, hB, hl, hp⟩ := rdStruct Tryz.underlying127 h
  obtain ⟨z0, e0, t0⟩ := hp 0 _ rfl
  obtain ⟨z1, e1, t1⟩ := hp 1 _ rfl
  simp only [cellStr, cellInt] at t0 t1
  obtain ⟨s, c0, rfl, _⟩ := DataW.trod_string Tryz.underlying9 t0
  obtain ⟨v, c1, rfl, hv⟩ := DataW.trod_int Tryz.underlying3 t1
  rw [cellEnt] at hl
  obtain ⟨a, b, rfl⟩ := len2 hl
  focus
    simp at c0 c1
    subst c0 c1
    have hb0 := part_le (l := l.map (·.1)) (i := 0) (by rw [List.getElem?_map, e0]; rfl)
    simp only [Rows.uptoBulk] at hb0
    have hs : s.data.toList.length = s.size := by simp
    refine ⟨⟨s, v⟩, rfl, ⟨by simp only; omega, wf_fit hv⟩, by simp only; omega⟩⟩
theorem rdRun (w : World) : RdT Tryz.prog w 139 dRn (fun r => FitR r) (fun _ => 1) := ⟨fun {H enc base spare held n cs y} h hb => by
  obtain ⟨l, m, hB, hl, hp⟩ := rdStruct Tryz.underlying139 h
  obtain ⟨z0, e0, t0⟩ := hp 0 _ rfl
  obtain ⟨z1, e1, t1⟩ := hp 1 _ rfl
  obtain ⟨z2, e2, t2⟩ := hp 2 _ rfl
  simp only [cellInt] at t0 t1 t2
  obtain ⟨u, c0, rfl, h0⟩ := DataW.trod_int Tryz.underlying3 t0
  obtain ⟨v, c1, rfl, h1⟩ := DataW.trod_int Tryz.underlying3 t1
  obtain ⟨x, c2, rfl, h2⟩ := DataW.trod_int Tryz.underlying3 t2
  rw [cellRun] at hl
  obtain ⟨a, b, c, rfl⟩ := len3 hl
  focus
    simp at c0 c1 c2
    subst c0 c1 c2
    exact ⟨⟨u, v, x⟩, rfl, ⟨wf_fit h0, wf_fit h1, wf_fit h2⟩, one_le _⟩⟩
/-- The size of an inode. -/
def szI (x : Ino) : Nat := x.target.size + sumN (x.ents.map fun e => e.name.size + 1) + x.runs.length
theorem rdIno (w : World) : RdT Tryz.prog w 44 dIno (fun x => FitN x) szI := ⟨fun {H enc base spare held n cs y} h hb => by
  obtain ⟨l, m, hB, hl, hp⟩ := rdStruct Tryz.underlying44 h
  obtain ⟨z0, e0, t0⟩ := hp 0 _ rfl
  obtain ⟨z1, e1, t1⟩ := hp 1 _ rfl
  obtain ⟨z2, e2, t2⟩ := hp 2 _ rfl
  obtain ⟨z3, e3, t3⟩ := hp 3 _ rfl
  obtain ⟨z4, e4, t4⟩ := hp 4 _ rfl
  obtain ⟨z5, e5, t5⟩ := hp 5 _ rfl
  obtain ⟨z6, e6, t6⟩ := hp 6 _ rfl
  simp only [cellInt, cellStr, cellEs, cellRs] at t0 t1 t2 t3 t4 t5 t6
  obtain ⟨v0, c0, rfl, h0⟩ := DataW.trod_int Tryz.underlying3 t0
  obtain ⟨v1, c1, rfl, h1⟩ := DataW.trod_int Tryz.underlying3 t1
  obtain ⟨v2, c2, rfl, h2⟩ := DataW.trod_int Tryz.underlying3 t2
  obtain ⟨v3, c3, rfl, h3⟩ := DataW.trod_int Tryz.underlying3 t3
  obtain ⟨s, c4, rfl, _⟩ := DataW.trod_string Tryz.underlying9 t4
  have g4 : (l.map (·.1))[4]? = some (.lit (.string s.data.toList)) := by rw [List.getElem?_map, e4]; rfl
  have g5 : (l.map (·.1))[5]? = some z5.1 := by rw [List.getElem?_map, e5]; rfl
  have g6 : (l.map (·.1))[6]? = some z6.1 := by rw [List.getElem?_map, e6]; rfl
  have hbb := part_three (by omega) (by omega) g4 g5 g6
  have hs : s.data.toList.length = s.size := by simp
  simp only [Rows.uptoBulk] at hbb
  obtain ⟨se, xe, c5, ok5, f5, b5, n5⟩ := rdSlice (rdEnt w) Tryz.underlying41 cellEnt (by decide) t5 (by omega)
  obtain ⟨sr, xr, c6, ok6, f6, b6, n6⟩ := rdSlice (rdRun w) Tryz.underlying42 cellRun (by decide) t6 (by omega)
  rw [cellIno] at hl
  obtain ⟨a0, a1, a2, a3, a4, a5, a6, rfl⟩ := len7 hl
  focus
    simp at c0 c1 c2 c3 c4 c5 c6
    subst c0 c1 c2 c3 c4 c5 c6
    refine ⟨⟨v0, v1, v2, v3, s, xe, xr⟩, ⟨se, sr, rfl, ok5, ok6⟩, ⟨wf_fit h0, wf_fit h1, wf_fit h2, wf_fit h3, by simp only; omega, by simp only; omega, by simp only; omega, f5, f6⟩, ?_⟩
    simp only [szI]
    omega⟩
theorem rdDee (w : World) : RdT Tryz.prog w 46 dDee (fun x => fitI x.kind ∧ fitI x.no ∧ FitN x.ino) (fun x => szI x.ino + 1) := ⟨fun {H enc base spare held n cs y} h hb => by
  obtain ⟨l, m, hB, hl, hp⟩ := rdStruct Tryz.underlying46 h
  obtain ⟨z0, e0, t0⟩ := hp 0 _ rfl
  obtain ⟨z1, e1, t1⟩ := hp 1 _ rfl
  obtain ⟨z2, e2, t2⟩ := hp 2 _ rfl
  simp only [cellInt, cellIno] at t0 t1 t2
  obtain ⟨v0, c0, rfl, h0⟩ := DataW.trod_int Tryz.underlying3 t0
  obtain ⟨v1, c1, rfl, h1⟩ := DataW.trod_int Tryz.underlying3 t1
  have hbb := part_le (l := l.map (·.1)) (i := 2) (d := z2.1) (by rw [List.getElem?_map, e2]; rfl)
  obtain ⟨x, ⟨se, sr, c2, ok⟩, hf, hz⟩ := (rdIno w).get t2 (by omega)
  rw [cellDee] at hl
  obtain ⟨a0, a1, b0, b1, b2, b3, b4, b5, b6, rfl⟩ := len9 hl
  focus
    simp at c0 c1 c2
    subst c0 c1
    obtain ⟨rfl, rfl, rfl, rfl, rfl, rfl, rfl⟩ := c2
    exact ⟨⟨v0, v1, x⟩, ⟨se, sr, rfl, ok⟩, ⟨wf_fit h0, wf_fit h1, hf⟩, by simp only; omega⟩⟩
end Go.Proofs.YtbbaoeidobdblaaGreat.Rdk

/- What comes in, read: lists of lists of deeds. -/
set_option linter.unusedVariables false
set_option linter.unusedSimpArgs false
namespace Go.Proofs.YtbbaoeidobdblaaGreat.Rdk
open Go Go.Proofs.YtbbaoeidobdblaaGreat.Sx

theorem rdDees (w : World) : RdT Tryz.prog w 47 dDs (fun ds => DeesIn ds) (fun _ => 1) := ⟨fun {H enc base spare held n cs y} h hb => by
  obtain ⟨s, xs, hc, ok, hf, hs, hl⟩ := rdSlice (rdDee w) Tryz.underlying47 cellDee (by decide) h hb
  exact ⟨xs, ⟨s, hc, ok⟩, ⟨hf, by have h : sumN (xs.map fun d => szI d.ino + 1) ≤ 1048576 := (by omega); exact h⟩, one_le _⟩⟩
end Go.Proofs.YtbbaoeidobdblaaGreat.Rdk

/- JournalFalls, its narrowed form: for every input of bulk at most 1048576 the law returns true, and each argument reads behind the call as it read ahead of it. -/
set_option linter.unusedVariables false
set_option linter.unusedSimpArgs false
namespace Go.Proofs.YtbbaoeidobdblaaGreat.journalFalls
open Go.ChangeShapes Go.WideShapes Go.ChangeAt Go.RowKit Go.Deep Go.Proofs.YtbbaoeidobdblaaGreat.Rowl

theorem own : ownKnob Tryz.prog.godebug = none := by kernel_rfl
theorem laidOut : laidOutB Tryz.prog = true := by kernel_rfl

set_option maxRecDepth 100000 in
theorem lifted (os : Os) (started : os.Started) (H : Type) (enc : TypeId × Value → H) (F : Stop.Interp) :
    ReturnsInHanded {} Tryz.checked os 5 .any ((Rows.OpenSpec.upto Rows.journalFallsSpec).pre6 enc Tryz.prog Tryz.f5 Rows.journalFallsUptoRow.domain false) (((Rows.OpenSpec.upto Rows.journalFallsSpec).at F).post enc Tryz.prog Tryz.f5 false true false false) := by
  refine returnsInHanded_of_cond (C := Tryz.checked) (s := Rows.OpenSpec.upto Rows.journalFallsSpec) (k := Rows.uptoSmall) rfl own started (by kernel_rfl) Tryz.func5
    (OpenSpec.witness (enc := enc) (C := Tryz.checked) (s := Rows.OpenSpec.upto Rows.journalFallsSpec) (k := Rows.uptoSmall) rfl false ⟨#[], #[.agg #[.int .i64 0, .int .i64 0, .int .i64 0, .int .i64 0, .int .i64 0], .slice none 0 0, .slice none 0 0, .int .i64 0, .int .i64 0, .int .u8 0], []⟩ 8 (by kernel_rfl) (by kernel_rfl) (by kernel_rfl)
      (x := ([.agg [.lit (.int .i64 0), .lit (.int .i64 0), .lit (.int .i64 0), .lit (.int .i64 0), .lit (.int .i64 0)], .nil, .nil, .lit (.int .i64 0), .lit (.int .i64 0), .lit (.int .u8 0)], [], [])) (by kernel_rfl) rfl (by kernel_rfl)) ?_
  intro W base args ds gs before hval0 hW hcnd hk0 _
  have hval : ∀ (j : Nat) t v, Tryz.f5.params[j]? = some t → args[j]? = some v → Value.okWide Tryz.prog W .any base t v := hval0
  have hW' := hW
  obtain ⟨p, q, hA0, hV, rfl, hfz, hnd⟩ := hW
  have hA : DataW.TrodAll enc Tryz.prog W 0 (fun _ => true) true Tryz.f5.params.toList args.toList ds p := hA0
  rw [Tryz.params5] at hA hval
  obtain ⟨v0, vs0, d0, ds0, p0, q0, hargs, rfl, rfl, h0, r0⟩ := trodAll_cons hA
  obtain ⟨v1, vs1, d1, ds1, p1, q1, rfl, rfl, rfl, h1, r1⟩ := trodAll_cons r0
  obtain ⟨v2, vs2, d2, ds2, p2, q2, rfl, rfl, rfl, h2, r2⟩ := trodAll_cons r1
  obtain ⟨v3, vs3, d3, ds3, p3, q3, rfl, rfl, rfl, h3, r3⟩ := trodAll_cons r2
  obtain ⟨v4, vs4, d4, ds4, p4, q4, rfl, rfl, rfl, h4, r4⟩ := trodAll_cons r3
  obtain ⟨v5, vs5, d5, ds5, p5, q5, rfl, rfl, rfl, h5, r5⟩ := trodAll_cons r4
  obtain ⟨rfl, rfl, rfl⟩ := trodAll_nil r5
  obtain rfl : args = #[v0, v1, v2, v3, v4, v5] := by cases args; simp_all
  obtain ⟨rfl, rfl⟩ := trodVars_none hV
  have hk : Rows.uptoBulk d0 + Rows.uptoBulk d1 + Rows.uptoBulk d2 + Rows.uptoBulk d3 + Rows.uptoBulk d4 + Rows.uptoBulk d5 ≤ 1048576 := by
    have h := of_decide_eq_true hk0
    simp only [Rows.uptoBulkAll, List.append_nil] at h
    omega
  have k0 := h0
  have lt0 : ∀ x ∈ p0, x.block < W.heap.size := by obtain ⟨m, hm⟩ := k0; exact DataW.trod_lt m _ _ _ hm
  obtain ⟨g0a, g0b, g0c, g0d, g0e, rfl⟩ := agg5_in Tryz.underlying23 (by kernel_rfl) (by kernel_rfl) Tryz.underlying3 ⟨rfl, rfl, rfl, rfl, rfl⟩ (hval 0 23 v0 rfl rfl) h0
  have k1 := h1
  have lt1 : ∀ x ∈ p1, x.block < W.heap.size := by obtain ⟨m, hm⟩ := k1; exact DataW.trod_lt m _ _ _ hm
  obtain ⟨b1, len1, cap1, rfl⟩ := okWide_slice Tryz.underlying53 (hval 1 53 v1 rfl rfl)
  obtain ⟨m1, f1⟩ := h1
  obtain ⟨s1, l1, e1, ok1, fit1, sz1, ln1⟩ := Rdk.rdSlice (Rdk.rdDees W) Tryz.underlying53 (by kernel_rfl) (by decide) f1 (by simp only; omega)
  obtain ⟨rfl, rfl, rfl⟩ : b1 = s1.1 ∧ len1 = l1.length ∧ cap1 = s1.2 := by simpa [Value.cells] using e1
  simp only at sz1 ln1
  have k2 := h2
  have lt2 : ∀ x ∈ p2, x.block < W.heap.size := by obtain ⟨m, hm⟩ := k2; exact DataW.trod_lt m _ _ _ hm
  obtain ⟨b2, len2, cap2, rfl⟩ := okWide_slice Tryz.underlying47 (hval 2 47 v2 rfl rfl)
  obtain ⟨m2, f2⟩ := h2
  obtain ⟨s2, l2, e2, ok2, fit2, sz2, ln2⟩ := Rdk.rdSlice (Rdk.rdDee W) Tryz.underlying47 (by kernel_rfl) (by decide) f2 (by simp only; omega)
  obtain ⟨rfl, rfl, rfl⟩ : b2 = s2.1 ∧ len2 = l2.length ∧ cap2 = s2.2 := by simpa [Value.cells] using e2
  simp only at sz2 ln2
  have k3 := h3
  have lt3 : ∀ x ∈ p3, x.block < W.heap.size := by obtain ⟨m, hm⟩ := k3; exact DataW.trod_lt m _ _ _ hm
  obtain ⟨a3, rfl, rfl, rfl, w3⟩ := open_int Tryz.underlying3 (hval 3 3 v3 rfl rfl) h3
  have k4 := h4
  have lt4 : ∀ x ∈ p4, x.block < W.heap.size := by obtain ⟨m, hm⟩ := k4; exact DataW.trod_lt m _ _ _ hm
  obtain ⟨a4, rfl, rfl, rfl, w4⟩ := open_int Tryz.underlying3 (hval 4 3 v4 rfl rfl) h4
  have k5 := h5
  have lt5 : ∀ x ∈ p5, x.block < W.heap.size := by obtain ⟨m, hm⟩ := k5; exact DataW.trod_lt m _ _ _ hm
  obtain ⟨a5, rfl, rfl, rfl, w5⟩ := open_int Tryz.underlying5 (hval 5 5 v5 rfl rfl) h5
  clear hA0 hval0
  refine (row_calls (Sx.journalFallsLaw0 W ⟨g0a, g0b, g0c, g0d, g0e⟩ l1 l2 a3 a4 a5 (fun W' e => ⟨⟨rfl, Sx.sl_keep Sx.keepDs e ok1⟩, ⟨rfl, Sx.sl_keep Sx.keepDee e ok2⟩⟩) fit1 ⟨fit2, by have h : Sx.sumN (l2.map fun d => Rdk.szI d.ino + 1) ≤ 1048576 := (by omega); exact h⟩)).mono fun e W' ⟨he, gr⟩ => ?_
  subst he
  have bel : Below W.heap.size W W' := ⟨gr.os, gr.tape, gr.output, gr.size, fun k hk => gr.block k hk (by simp)⟩
  exact ⟨_, rfl, _, _, _, [], _, [], hW', trodAll_mk1 (shut_bool Tryz.underlying4 _), (trodAll_cons_mk (Below.trod laidOut (by kernel_rfl) (of_decide_eq_true (by kernel_rfl)) k0 bel lt0) (trodAll_cons_mk (Below.trod laidOut (by kernel_rfl) (of_decide_eq_true (by kernel_rfl)) k1 bel lt1) (trodAll_cons_mk (Below.trod laidOut (by kernel_rfl) (of_decide_eq_true (by kernel_rfl)) k2 bel lt2) (trodAll_cons_mk (Below.trod laidOut (by kernel_rfl) (of_decide_eq_true (by kernel_rfl)) k3 bel lt3) (trodAll_cons_mk (Below.trod laidOut (by kernel_rfl) (of_decide_eq_true (by kernel_rfl)) k4 bel lt4) (trodAll_cons_mk (Below.trod laidOut (by kernel_rfl) (of_decide_eq_true (by kernel_rfl)) k5 bel lt5) trodAll_mk0)))))), rfl, bel.frame _, fun h => by cases h⟩

theorem over : Rows.journalFallsUptoRow.holds Tryz.pinned (Rows.OpenSpec.upto Rows.journalFallsSpec) :=
  OpenClaim.holds_of_cond 5 Tryz.f5 rfl rfl rfl rfl rfl rfl rfl ⟨rfl, rfl, rfl, rfl, rfl⟩ rfl rfl rfl rfl rfl (by kernel_rfl) Tryz.func5 (by kernel_rfl)
    (of_decide_eq_true (by kernel_rfl)) (by unfold Func.isWrapper; first | (rw [if_pos (by decide +kernel)]; kernel_rfl) | (rw [if_neg (by decide +kernel)]; exact ⟨rfl, rfl⟩))
    (fun os started H enc _ F => lifted os started H enc F)

/-- The statement. -/
theorem proved : Rows.JournalFallsUptoSaid := over
#print axioms proved
end Go.Proofs.YtbbaoeidobdblaaGreat.journalFalls

/- Laid together: Sxq, Sk64, Sk65, Sk66, Rdk, Rdk2, JournalAgain. -/
import Derived.Test.YtbbaoeidobdblaaGreatK2
import Derived.Test.YtbbaoeidobdblaaGreatRows
import Derived.ChangeArms
import Derived.JoinedCond
/- Sx, part 17: bytes that nobody changes are copied into a row of one's own; what reads goes on reading. -/
set_option linter.unusedVariables false
set_option linter.unusedSimpArgs false
namespace Go.Proofs.YtbbaoeidobdblaaGreat.Sx
open Go

section
variable {P : Program} {C : Ctx} {T : Ty} {res : List ResultVar} {p : Pos} {tm : Tm} {m : Mem}
/-- Many ends have one road on, which hangs on something. -/
theorem cutKc {Goal : Prop} {p : Pos} {β : Type} (ok : Okc P T C res) (tm0 : β → Tm) (G0 : β → World → Prop) (rs0 : β → List (Nat × Res)) (rest : ∀ x, sx T C res 1000 p (tm0 x) ⟨fun _ => True, G0 x, rs0 x⟩) (main : (∀ x tm m, (∀ W, m.G W → G0 x W) → subs tm (tm0 x) ∧ keepB m.rs (rs0 x) → At C p tm m) → Goal) : Goal := main fun x => cutAt ok (tm0 x) (G0 x) (rs0 x) (rest x)
/-- Nothing is copied. -/
theorem copy0 (ok : Okc P T C res) {o : Oper} {d s : Operand} {dT sT : Nat} (ho : o.op = .call ⟨.builtin .copy, #[d, s], #[dT, sT]⟩) {i ie : TI} (hi : tf dT T = some i) (hik : i.kd = 3) (hie : tf i.el T = some ie)
    {da sa : Option Addr} {dLen dCap sCap : Nat} {u v : SV} (hd : ev tm d = some u) (hu : u.val = .slice da dLen dCap) (hs : ev tm s = some v) (hv : v.val = .slice sa 0 sCap)
    (kk : sx T C res 1000 p (put C.n o.dst (.c (.v (.int .i64 0))) tm) m) : At C (.op o p) tm m := by
  intro act w cs0 hR hJ
  have e1 : act.eval d = .slice da dLen dCap := by rw [hR.eval hd, hu]
  have e2 : act.eval s = .slice sa 0 sCap := by rw [hR.eval hs, hv]
  have hun := (ok.ty.get hi).g_slice hik
  have hz := (ok.ty.get hie).g_sizeOf (P := C.P)
  have hm : Nat.min 0 dLen = 0 := Nat.zero_min _
  have hr : (Builtin.copy_ #[dT, sT] o.type #[.slice da dLen dCap, .slice sa 0 sCap]).run C.P w = .ok (goInt 0) w := by
    cases sa with
    | none => cases da <;> simp [Builtin.copy_, run_underlying hun, Builtin.lenOf, Builtin.firstCells, hz, hm, storeCells]
    | some ad => cases da <;> simp [Builtin.copy_, run_underlying hun, Builtin.lenOf, Builtin.firstCells, hz, hm, loadCells, loadCellsFrom, storeCells]
  have hrun : (execOp act.eval o).run C.P w = .ok (.value (goInt 0)) w := by
    simp [execOp, ho, resolve, invoke, builtin, e1, e2, hr]
  have hRp := hR.put o.dst (.c (.v (.int .i64 0)))
  exact op_value (ok.sx kk) hrun hRp hJ
/-- Bytes that nobody changes are copied into a row of one's own. -/
theorem copyM (ok : Okc P T C res) (k : Nat) {o : Oper} {d s : Operand} {dT sT : Nat} (ho : o.op = .call ⟨.builtin .copy, #[d, s], #[dT, sT]⟩) {i ie : TI} (hi : tf dT T = some i) (hik : i.kd = 3) (hie : tf i.el T = some ie) (hsz1 : ie.sz = 1)
    {g n c off dLen dCap sLen sCap : Nat} {a : Option Addr} {cs : List CV} {u v : SV} (hk : look k m.rs = some (.row (some ⟨g, 0, none⟩) n c i.el 1 cs))
    (hd : ev tm d = some u) (hu : u.val = .slice (some ⟨g, off, none⟩) dLen dCap) (hs : ev tm s = some v) (hv : v.val = .slice a sLen sCap) (l : List Int) (hl : ∀ W, m.G W → Sv.ok dByte W (a, sLen, sCap) l) (hpos : 0 < l.length)
    (hf : off + Nat.min sLen dLen ≤ n)
    (kk : sx T C res 1000 p (put C.n o.dst (.c (.v (.int .i64 (Nat.min sLen dLen)))) tm) ⟨m.B, m.G, (k, .row (some ⟨g, 0, none⟩) n c i.el 1 (lay cs off (bC (l.take (Nat.min sLen dLen))))) :: del k (del k m.rs)⟩) : At C (.op o p) tm m := by
  intro act w cs0 hR hJ
  obtain ⟨cur, hg, hnc, hsz, htk, hcl⟩ := hJ.rowAt hk
  have hok := hl w hJ.atG
  obtain rfl : sLen = l.length := hok.1
  obtain ⟨b, so, e, hc⟩ := bytes_cells hok hpos
  cases e
  have e1 : act.eval d = .slice (some ⟨g, off, none⟩) dLen dCap := by rw [hR.eval hd, hu]
  have e2 : act.eval s = .slice (some ⟨b, so, none⟩) l.length sCap := by rw [hR.eval hs, hv]
  obtain ⟨K, hK⟩ : ∃ K, K = Nat.min l.length dLen := ⟨_, rfl⟩
  have hKl : K ≤ l.length := by rw [hK]; exact Nat.min_le_left _ _
  rw [← hK] at hf kk
  have hsl : ((bC (l.take K)).map CV.val).length = K := by rw [List.length_map, bC_len, List.length_take, Nat.min_eq_left hKl]
  have hr := copyRun (P := C.P) w dT sT o.type i.el (ie := ie) g off dLen dCap (some ⟨b, so, none⟩) l.length sCap cur _ ((bC (l.take K)).map CV.val) ((ok.ty.get hi).g_slice hik) (ok.ty.get hie) hg (by rw [hsl, hK, hsz1, Nat.mul_one]) (fun j v hv => ⟨b, so, rfl, by
    have hj : j < K := by have := (List.getElem?_eq_some_iff.1 hv).1; rwa [hsl] at this
    rw [hc j (by omega)]
    rw [bC_val, List.getElem?_map, List.getElem?_take, if_pos hj, List.getElem?_eq_getElem (show j < l.length by omega)] at hv
    simp only [Option.map_some, Option.some.injEq] at hv
    rw [← hv, List.getD_eq_getElem?_getD, List.getElem?_eq_getElem (by omega)]
    rfl⟩) ⟨_, _, rfl⟩ (by rw [hsl, hsz]; omega) (ones_cells (ones_bC _))
  rw [← hK, hsl] at hr
  have hrun : (execOp act.eval o).run C.P w = .ok (.value (goInt K)) (w.setRow g (cur.toList.take off ++ (bC (l.take K)).map CV.val ++ cur.toList.drop (off + K)).toArray) := by
    simp [execOp, ho, resolve, invoke, builtin, e1, e2, hr]
  have hRp := hR.put o.dst (.c (.v (.int .i64 K)))
  have hbl : (bC (l.take K)).length = K := by rw [← List.length_map (f := CV.val), hsl]
  refine op_value (ok.sx kk) hrun hRp (hJ.setRow k hk hg ?_ hnc ?_ ?_)
  · simp only [List.size_toArray, List.length_append, List.length_take, List.length_drop, Array.length_toList, hsl]
    omega
  · rw [lay_len _ _ _ (by rw [hbl]; omega), hcl]
  · have e3 : cs.map CV.val = cur.toList.take (n * 1) := htk.symm
    simp only [lay, List.map_append, List.map_take, List.map_drop, e3, hbl]
    simp only [List.append_assoc]
    rw [List.take_append, List.length_take, Array.length_toList, Nat.min_eq_left (by omega), List.take_take, Nat.min_eq_right (by omega), List.take_take, Nat.min_eq_left (by omega)]
    congr 1
    rw [List.take_append, hsl, List.take_of_length_le (by rw [hsl]; omega)]
    congr 1
    rw [List.drop_take]
    congr 1
    omega
end
/-- What is there stays there. -/
theorem cell_keep {w W : World} (h : Ext (fun b => b < w.heap.size) w W) {a : Addr} {v : Value} (hc : w.cell? a = some v) : W.cell? a = some v := by
  have hb : a.block < w.heap.size := by
    rcases Nat.lt_or_ge a.block w.heap.size with hb | hb
    · exact hb
    · simp only [World.cell?, Array.getElem?_eq_none hb] at hc
      simp at hc
  rw [h.cell hb, hc]
def Keeps {α : Type} (d : Dt α) : Prop := ∀ {w W : World} {x : α} {cs : List Value}, Ext (fun b => b < w.heap.size) w W → d.K w x cs → d.K W x cs
theorem rd_keep {α : Type} {d : Dt α} (hd : Keeps d) {w W : World} (h : Ext (fun b => b < w.heap.size) w W) {a : Option Addr} {xs : List α} (hr : Rd d w a xs) : Rd d W a xs := fun hne => by
  obtain ⟨b, o, e, hc⟩ := hr hne
  exact ⟨b, o, e, fun i x hx => by
    obtain ⟨cs, k1, k2⟩ := hc i x hx
    exact ⟨cs, hd h k1, fun j v hv => cell_keep h (k2 j v hv)⟩⟩
theorem sl_keep {α : Type} {d : Dt α} (hd : Keeps d) {w W : World} (h : Ext (fun b => b < w.heap.size) w W) {s : Sl} {xs : List α} (hr : Sl.ok d w s xs) : Sl.ok d W s xs := ⟨hr.1, hr.2.1, rd_keep hd h hr.2.2⟩
theorem keepByte : Keeps dByte := fun _ h => h
theorem keepInt : Keeps dInt := fun _ h => h
theorem keepEnt : Keeps dEnt := fun _ h => h
theorem keepRn : Keeps dRn := fun _ h => h
theorem keepIno : Keeps dIno := fun h k => by
  obtain ⟨e, r, hc, h1, h2⟩ := k
  exact ⟨e, r, hc, sl_keep keepEnt h h1, sl_keep keepRn h h2⟩
theorem keepDee : Keeps dDee := fun h k => by
  obtain ⟨e, r, hc, h1, h2⟩ := k
  exact ⟨e, r, hc, sl_keep keepEnt h h1, sl_keep keepRn h h2⟩
end Go.Proofs.YtbbaoeidobdblaaGreat.Sx

/- garretlaw17: few, clean; nor.Chip.Load. -/
set_option linter.unusedVariables false
set_option linter.unusedSimpArgs false
namespace Go.Proofs.YtbbaoeidobdblaaGreat.Sx
open Go

attribute [local simp ↓] ifb_true' ifb_false'
attribute [local simp] ifb_true ifb_false ifb_eq sx argsT find ev evOp evs evo evBin evInt evStr evNil evNilA ptrA slcA isNoneA asB evLoad look del cellsB evUn evConv kdec fld evFieldA evField evIdxA evIdx evSlc bndL bndH evLen mmi put resV guardV gvL setO tupV cellsOf ones one upd lits nv exitTo SV.val CV.val TI.agg rdyA allR keepB scan simpO gsp isS subs keepT pickT wr memN pubs Res.fact Region.binds bld rest give delL back Res.eqv vi vb num Sv.val undef
theorem dee_ino {W : World} {a : Option Addr} {n c : Nat} {l : List Dee} (h : Sv.ok dDee W (a, n, c) l) {i : Nat} (hi : i < l.length) : ∃ b o, a = some ⟨b, o, none⟩ ∧ ∃ cs : List Value, cs.length = 7 ∧ (∀ j v, cs[j]? = some v → W.cell? ⟨b, o + i * 9 + 2 + j, none⟩ = some v) ∧ ∃ e r, cs = inoC l[i].ino e r ∧ InoR W l[i].ino e r := by
  obtain ⟨b, o, e, cs, ⟨es, rs, rfl, hr⟩, hl, hc⟩ := rd_get1 h hi
  refine ⟨b, o, e, inoC l[i].ino es rs, rfl, fun j v hv => ?_, es, rs, rfl, hr⟩
  have := hc (2 + j) v (by rw [Nat.add_comm]; exact hv)
  rw [← Nat.add_assoc] at this
  exact this
theorem dee_at {W : World} {a : Option Addr} {n c : Nat} {l : List Dee} (h : Sv.ok dDee W (a, n, c) l) {i : Nat} (hi : i < l.length) : ∃ b o, a = some ⟨b, o, none⟩ ∧ W.cell? ⟨b, o + i * 9, none⟩ = some (.int .i64 l[i].kind) ∧ W.cell? ⟨b, o + i * 9 + 1, none⟩ = some (.int .i64 l[i].no) := by
  obtain ⟨b, o, e, cs, ⟨es, rs, rfl, hr⟩, hl, hc⟩ := rd_get1 h hi
  exact ⟨b, o, e, hc 0 _ rfl, hc 1 _ rfl⟩
theorem ent_name {W : World} {a : Option Addr} {n c : Nat} {l : List Ent} (h : Sv.ok dEnt W (a, n, c) l) {i : Nat} (hi : i < l.length) : ∃ b o, a = some ⟨b, o, none⟩ ∧ W.cell? ⟨b, o + i * 2, none⟩ = some (.string l[i].name) := by
  obtain ⟨b, o, e, cs, hk, hl, hc⟩ := rd_get1 h hi
  have hk : cs = [.string l[i].name, .int .i64 l[i].no] := hk
  subst hk
  exact ⟨b, o, e, hc 0 _ rfl⟩
set_option maxRecDepth 10000 in
set_option maxHeartbeats 2000000 in
theorem few0 (w : World) (I : Nat → Prop) (hI : ∀ b, I b → b < w.heap.size) {a : Option Addr} {n c : Nat} (l : List Dee) (h : ∀ W, Ext I w W → Sv.ok dDee W (a, n, c) l) :
    Fn0 Tryz.prog 24 #[.slice a n c] w I (fun b : Bool => .bool b) (fun _ _ => True) := by
  obtain rfl : n = l.length := (h w (Ext.refl _ _)).1
  have hl := (h w (Ext.refl _ _)).2.2.1
  refine enter (svs := [.c (.v (.slice a l.length c))]) tysOk Tryz.func24 rfl Tryz.ntmps24 Tryz.results24 (by kernel_rfl) (by simp) hI (fun W => Sv.ok dDee W (a, l.length, c) l) h fun C hC hN ok => ?_
  simp [hN]
  refine loopK [0] ok (fun y : Nat × Int => [(4, .c (.v (.int .i64 (y.1 : Nat)))), (3, .c (.v (.int .i64 y.2)))]) (fun _ => []) (fun y W => y.1 ≤ l.length) (fun y => l.length - y.1) (0, 0) ?_ ?_ (fun W hW => Nat.zero_le _) ?_
  · simp
  · simp
  rintro ⟨i, z⟩ W hi hG next
  simp only at hi
  rcases Nat.lt_or_ge i l.length with hlt | hge
  · have e6 : IntKind.i64.wrap ((i : Int) + 1) = (i + 1 : Nat) := by rw [w64 (by omega) (by omega)]; omega
    obtain ⟨b, o, e, _⟩ := dee_ino (show Sv.ok dDee W (a, l.length, c) l from hG) hlt
    cases e
    have hget : ∀ W, Sv.ok dDee W (some ⟨b, o, none⟩, l.length, c) l → ∃ cs : List Value, cs.length = 7 ∧ (∀ j v, cs[j]? = some v → W.cell? ⟨b, o + i * 9 + 2 + j, none⟩ = some v) ∧ ∃ e r, cs = inoC l[i].ino e r ∧ InoR W l[i].ino e r := fun W hW => by
      obtain ⟨b', o', e, hc⟩ := dee_ino hW hlt
      cases e
      exact hc
    generalize l[i].ino = x at hget
    simp [hN, hlt]
    refine loadA ok rfl rfl rfl rfl (fun q W => ∃ e r, q = inoC x e r ∧ InoR W x e r) (fun W hW => hget W hW.2) ?_
    rintro q W _ ⟨es, rs, rfl, hx⟩ _
    have hel := hx.1.2.1
    simp [hN]
    intro g5
    refine loopK [0, 4, 5] ok (fun y : Nat × Int => [(6, .c (.v (.int .i64 (y.1 : Nat)))), (3, .c (.v (.int .i64 y.2)))]) (fun _ => [(5, .box g5 44 ((inoC x es rs).map .v))]) (fun y W => y.1 ≤ x.ents.length ∧ InoR W x es rs) (fun y => x.ents.length - y.1) (0, IntKind.i64.wrap (IntKind.i64.wrap (IntKind.i64.wrap (z + 10) + x.target.size) + x.runs.length)) ?_ ?_ (fun W hW => ⟨Nat.zero_le _, ?_⟩) ?_
    · simp
    · simp
    · obtain ⟨⟨_, _, _, _, ⟨⟨rfl, rfl⟩, rfl, rfl⟩, k⟩, _⟩ := hW
      exact k
    rintro ⟨k, z2⟩ W ⟨hk, hx2⟩ hG2 next2
    simp only at hk
    rcases Nat.lt_or_ge k x.ents.length with hlt2 | hge2
    · have e7 : IntKind.i64.wrap ((k : Int) + 1) = (k + 1 : Nat) := by rw [w64 (by omega) (by omega)]; omega
      obtain ⟨b2, o2, e, _⟩ := ent_name (n := x.ents.length) (show Sv.ok dEnt W (es.1, x.ents.length, es.2) x.ents from ⟨rfl, hx2.1⟩) hlt2
      obtain ⟨ea, ec⟩ := es
      cases e
      have hnm : ∀ W, Sl.ok dEnt W (some ⟨b2, o2, none⟩, ec) x.ents → ∃ v, W.cell? ⟨b2, o2 + k * 2, none⟩ = some v ∧ v = .string x.ents[k].name := fun W hW => by
        obtain ⟨b', o', e, hc⟩ := ent_name (n := x.ents.length) (show Sv.ok dEnt W (some ⟨b2, o2, none⟩, x.ents.length, ec) x.ents from ⟨rfl, hW⟩) hlt2
        cases e
        exact ⟨_, hc, rfl⟩
      simp [hN, hlt2]
      refine load1 ok rfl rfl rfl rfl (fun v W => v = .string x.ents[k].name) (fun W hW => hnm W hW.1.2.1) ?_
      rintro v W rfl _
      simp [hN, e7]
      exact next2 (k + 1, IntKind.i64.wrap (IntKind.i64.wrap (z2 + 10) + x.ents[k].name.size)) _ _ (by simp only; omega) (fun W hW => ⟨⟨hlt2, hW.1.2⟩, hW.2⟩) (by simp)
    · simp [hN, Nat.not_lt.2 hge2, e6]
      exact next (i + 1, z2) _ _ (by simp only; omega) (fun W hW => ⟨hlt, hW.2.2.2⟩) (by simp)
  · simp [hN, Nat.not_lt.2 hge]
    exact ret0 hC _ rfl fun _ _ _ => trivial
/-- A deed of a kind that is, with what its kind has alone. -/
def cleanD (d : Dee) : Dee := if 1 + d.kind % 4 = 2 then ⟨2, 0, d.ino⟩ else ⟨1 + d.kind % 4, d.no, inoZ⟩
theorem clean_fit {d : Dee} (h : fitI d.no ∧ FitN d.ino) : FitD (cleanD d) := by
  unfold cleanD
  split
  · exact ⟨.inr (.inl rfl), fun e => absurd rfl e, fun _ => h.2⟩
  · rename_i hne
    refine ⟨?_, fun _ => h.1, fun e => absurd e hne⟩
    simp only
    omega
theorem nil_inoR (W : World) : InoR W inoZ (none, 0) (none, 0) := ⟨⟨Nat.zero_le _, Nat.zero_le _, rd_nil _ _ _⟩, ⟨Nat.zero_le _, Nat.zero_le _, rd_nil _ _ _⟩⟩
set_option maxRecDepth 10000 in
set_option maxHeartbeats 2000000 in
theorem clean0 (w : World) (I : Nat → Prop) (hI : ∀ b, I b → b < w.heap.size) {a : Option Addr} {n c : Nat} (l : List Dee) (hl1 : l.length ≤ 1000000000) (h : ∀ W, Ext I w W → Sv.ok dDee W (a, n, c) l) :
    Fn0 Tryz.prog 25 #[.slice a n c] w I (fun s : Sl => .slice s.1 l.length s.2) (fun s W => s.ok dDee W (l.map cleanD)) := by
  obtain rfl : n = l.length := (h w (Ext.refl _ _)).1
  refine enter (svs := [.c (.v (.slice a l.length c))]) tysOk Tryz.func25 rfl Tryz.ntmps25 Tryz.results25 (by kernel_rfl) (by simp) hI (fun W => Sv.ok dDee W (a, l.length, c) l) h fun C hC hN ok => ?_
  simp [hN]
  refine nilr 600 46 9 (loopK [0] ok (fun y : Nat × Sl × List CV => [(4, .c (.v (.int .i64 (y.1 : Nat)))), (3, .c (.rw 600 y.2.1.1 y.1 y.2.1.2))]) (fun y => [(600, .row y.2.1.1 y.1 y.2.1.2 46 9 y.2.2)]) (fun y W => y.1 ≤ l.length ∧ Rows dDee W ((l.map cleanD).take y.1) (y.2.2.map CV.val)) (fun y => l.length - y.1) (0, (none, 0), []) ?_ ?_ (fun W hW => ⟨Nat.zero_le _, rows_nil _ _⟩) ?_)
  · simp
  · simp
  rintro ⟨i, ⟨ra, rc⟩, cs⟩ W ⟨hi, hrow⟩ hG next
  simp only at hi
  rcases Nat.lt_or_ge i l.length with hlt | hge
  · have e6 : IntKind.i64.wrap ((i : Int) + 1) = (i + 1 : Nat) := by rw [w64 (by omega) (by omega)]; omega
    obtain ⟨b, o, e, _⟩ := dee_ino (show Sv.ok dDee W (a, l.length, c) l from hG) hlt
    cases e
    have hget : ∀ W, Sv.ok dDee W (some ⟨b, o, none⟩, l.length, c) l → ∃ cs : List Value, cs.length = 7 ∧ (∀ j v, cs[j]? = some v → W.cell? ⟨b, o + i * 9 + 2 + j, none⟩ = some v) ∧ ∃ e r, cs = inoC l[i].ino e r ∧ InoR W l[i].ino e r := fun W hW => by
      obtain ⟨b', o', e, hc⟩ := dee_ino hW hlt
      cases e
      exact hc
    have hnum : ∀ W, Sv.ok dDee W (some ⟨b, o, none⟩, l.length, c) l → (∃ v, W.cell? ⟨b, o + i * 9, none⟩ = some v ∧ v = .int .i64 l[i].kind) ∧ ∃ v, W.cell? ⟨b, o + i * 9 + 1, none⟩ = some v ∧ v = .int .i64 l[i].no := fun W hW => by
      obtain ⟨b', o', e, h1, h2⟩ := dee_at hW hlt
      cases e
      exact ⟨⟨_, h1, rfl⟩, ⟨_, h2, rfl⟩⟩
    have ht : (l.map cleanD).take (i + 1) = (l.map cleanD).take i ++ [cleanD l[i]] := by
      rw [List.take_add_one, List.getElem?_map, List.getElem?_eq_getElem hlt]
      rfl
    generalize l[i] = d at hget hnum ht
    obtain ⟨kd, no, x⟩ := d
    simp only at hget hnum
    have hu : IntKind.i64.wrap ((IntKind.u64.wrap kd).tmod 4) = kd % 4 := by
      rw [u64_wrap, Int.tmod_eq_emod_of_nonneg (by omega), w64 (by omega) (by omega)]
      omega
    have hu2 : IntKind.i64.wrap (1 + kd % 4) = 1 + kd % 4 := w64 (by omega) (by omega)
    simp [hN, hlt]
    refine load1 ok rfl rfl rfl rfl (fun v W => v = .int .i64 kd) (fun W hW => (hnum W hW.2).1) ?_
    rintro v W rfl _
    simp [hN, hu, hu2, hlt]
    intro g5
    refine ⟨fun h2 => ?_, fun h2 => ?_⟩
    · have hcl : cleanD ⟨kd, no, x⟩ = ⟨2, 0, x⟩ := by unfold cleanD; rw [if_pos h2]
      refine loadA ok rfl rfl rfl rfl (fun q W => ∃ e r, q = inoC x e r ∧ InoR W x e r) (fun W hW => hget W hW.2) ?_
      rintro q W _ ⟨es, rs, rfl, hx⟩ _
      simp [hN]
      intro g39
      refine appR ok 600 39 rfl rfl rfl rfl rfl (by decide) rfl rfl rfl rfl rfl rfl rfl (by decide) (by simp) (by show (_ + 1) * 112 ≤ _; omega) (by omega) fun g' c' => ?_
      simp [hN, e6]
      refine next (i + 1, (some ⟨g', 0, none⟩, c'), cs ++ (deeC ⟨1 + kd % 4, 0, x⟩ es rs).map .v) _ _ (by simp only; omega) (fun W hW => ⟨⟨hlt, ?_⟩, hW.2.2⟩) (by simp)
      simp only
      rw [ht, hcl, List.map_append]
      obtain ⟨⟨_, _, _, _, ⟨⟨rfl, rfl⟩, rfl, rfl⟩, k⟩, k2, _⟩ := hW
      exact k2.2.snoc ⟨es, rs, by rw [h2]; simp [Function.comp_def, CV.val], k⟩
    · have hcl : cleanD ⟨kd, no, x⟩ = ⟨1 + kd % 4, no, inoZ⟩ := by unfold cleanD; rw [if_neg h2]
      refine load1 ok rfl rfl rfl rfl (fun v W => v = .int .i64 no) (fun W hW => (hnum W hW.2).2) ?_
      rintro v W rfl _
      simp [hN]
      intro g39
      refine appR ok 600 39 rfl rfl rfl rfl rfl (by decide) rfl rfl rfl rfl rfl rfl rfl (by decide) (by simp) (by show (_ + 1) * 112 ≤ _; omega) (by omega) fun g' c' => ?_
      simp [hN, e6]
      refine next (i + 1, (some ⟨g', 0, none⟩, c'), cs ++ (deeC ⟨1 + kd % 4, no, inoZ⟩ (none, 0) (none, 0)).map .v) _ _ (by simp only; omega) (fun W hW => ⟨⟨hlt, ?_⟩, hW.2⟩) (by simp [inoZ])
      simp only
      rw [ht, hcl, List.map_append]
      exact hW.1.2.snoc ⟨(none, 0), (none, 0), by simp [Function.comp_def, CV.val], nil_inoR W⟩
  · obtain rfl : i = l.length := by omega
    simp [hN]
    refine ret0 hC (ra, rc) rfl fun W hp hG => ?_
    have h1 : Rows dDee W (l.map cleanD) (cs.map CV.val) := by
      have := hG.1
      rw [List.take_of_length_le (by simp)] at this
      exact this
    have := (Rows.sv h1 (by decide) (by rw [List.length_map]; omega) hp.1).2
    exact this
/-- A chip is given other bytes. -/
theorem load0 (w : World) (I S : Nat → Prop) (hI : ∀ b, I b → b < w.heap.size) (c : Cp) (xs : List Int) (g cap : Nat) (hf : c.fit) (hx : xs.length = c.b.length) (h0 : 0 < c.b.length) (hS : Owns (c.res ++ [.row (some ⟨g, 0, none⟩) xs.length cap 5 1 (bC xs)]) S w) (hSI : ∀ b, S b → b < w.heap.size ∧ ¬ I b) :
    FnS Tryz.prog 43 #[ptrV c.gc, .slice (some ⟨g, 0, none⟩) xs.length cap] w I S (fun _ : Unit => .int .i64 0) (fun _ => Cp.res { c with b := xs }) (fun _ _ => True) := by
  refine enterS (svs := [.c (.bp 1000 c.gc 0), .c (.rw 1004 (some ⟨g, 0, none⟩) xs.length cap)]) tysOk Tryz.func43 rfl Tryz.ntmps43 Tryz.results43 (by kernel_rfl) (by simp) hI (c.res ++ [.row (some ⟨g, 0, none⟩) xs.length cap 5 1 (bC xs)]) hS hSI (fun _ => True) (fun _ _ => trivial) fun C hC hN ok => ?_
  have hmin : Nat.min xs.length c.b.length = xs.length := by rw [hx]; exact Nat.min_self _
  simp [hN, hx]
  refine copyR ok 1002 1004 rfl rfl rfl rfl rfl rfl rfl rfl rfl rfl ?_ ?_ ?_ ?_
  · simp
  · simp [hx]
  · rw [bC_sub]
    exact ones_bC _
  · have hlay : lay (bC c.b) 0 (List.take c.b.length (bC xs)) = bC xs := by
      have e1 : List.take c.b.length (bC xs) = bC xs := List.take_of_length_le (by rw [bC_len, hx]; exact Nat.le_refl _)
      rw [e1]
      unfold lay
      rw [List.take_zero, List.nil_append, Nat.zero_add, List.drop_of_length_le (by rw [bC_len, bC_len, hx]; exact Nat.le_refl _), List.append_nil]
    simp [hN, hlay]
    exact retS hC () [1000, 1001, 1002, 1003] rfl (by simp [Cp.map, mapR, hx]) fun _ _ _ => trivial
end Go.Proofs.YtbbaoeidobdblaaGreat.Sx

/- garretlaw17.JournalNew. -/
set_option linter.unusedVariables false
set_option linter.unusedSimpArgs false
namespace Go.Proofs.YtbbaoeidobdblaaGreat.Sx
open Go

attribute [local simp ↓] ifb_true' ifb_false'
attribute [local simp] ifb_true ifb_false ifb_eq sx argsT find ev evOp evs evo evBin evInt evStr evNil evNilA ptrA slcA isNoneA asB evLoad look del cellsB evUn evConv kdec fld evFieldA evField evIdxA evIdx evSlc bndL bndH evLen mmi put resV guardV gvL setO tupV cellsOf ones one upd lits nv exitTo SV.val CV.val TI.agg rdyA allR keepB scan simpO gsp isS subs keepT pickT wr memN pubs Res.fact Region.binds bld rest give delL back Res.eqv vi vb num Sv.val undef
/-- The size of an inode that came in. -/
def szN (x : Ino) : Nat := x.target.size + sumN (x.ents.map fun e => e.name.size + 1) + x.runs.length
theorem wI_sz (x : Ino) : wI x ≤ 45 + 24 * szN x := by
  rw [wI_eq, fmB_len, fmB_len]
  have h1 : ∀ l : List Ent, sumN (l.map fun e => (entB e).length) ≤ 24 * sumN (l.map fun e => e.name.size + 1) := by
    intro l
    induction l with
    | nil => exact Nat.le_refl _
    | cons e r ih =>
      have he : (entB e).length = e.name.size + 12 := by rw [entB, List.length_append, textB_length, intB_length]
      simp only [List.map_cons, sumN_cons]
      rw [he]
      omega
  have h2 : ∀ l : List Rn, sumN (l.map fun e => (runB e).length) ≤ 24 * l.length := by
    intro l
    induction l with
    | nil => exact Nat.le_refl _
    | cons e r ih =>
      have he : (runB e).length = 24 := by rw [runB, List.length_append, List.length_append, intB_length, intB_length, intB_length]
      simp only [List.map_cons, sumN_cons, List.length_cons]
      rw [he]
      omega
  have := h1 x.ents
  have := h2 x.runs
  unfold szN
  omega
/-- Deeds that came in. -/
structure DeesIn (ds : List Dee) : Prop where
  fit : ∀ d ∈ ds, fitI d.kind ∧ fitI d.no ∧ FitN d.ino
  size : sumN (ds.map fun d => szN d.ino + 1) ≤ 1048576
theorem DeesIn.len {ds : List Dee} (h : DeesIn ds) : ds.length ≤ 1048576 := by
  have : ∀ l : List Dee, l.length ≤ sumN (l.map fun d => szN d.ino + 1) := by
    intro l
    induction l with
    | nil => exact Nat.le_refl _
    | cons e r ih => simp only [List.map_cons, sumN_cons, List.length_cons]; omega
  exact Nat.le_trans (this ds) h.size
theorem DeesIn.clean {ds : List Dee} (h : DeesIn ds) : FitL (ds.map cleanD) ∧ (deedsB (ds.map cleanD)).length ≤ 100000000 := by
  refine ⟨⟨fun d hd => ?_⟩, ?_⟩
  · obtain ⟨x, hx, rfl⟩ := List.mem_map.1 hd
    exact clean_fit (h.fit x hx).2
  · have : ∀ l : List Dee, (deedsB (l.map cleanD)).length ≤ 69 * sumN (l.map fun d => szN d.ino + 1) := by
      intro l
      induction l with
      | nil => exact Nat.zero_le _
      | cons e r ih =>
        have h1 : (deedB (cleanD e)).length ≤ 69 * (szN e.ino + 1) := by
          unfold cleanD
          split
          · rw [put_len rfl]
            have := wI_sz e.ino
            simp only
            omega
          · rw [num_len _ _ _ (by omega)]
            omega
        rw [deeds_len] at ih ⊢
        simp only [List.map_cons, sumN_cons]
        omega
    have := this ds
    have := h.size
    omega
set_option maxRecDepth 100000 in
set_option maxHeartbeats 2000000 in
theorem journalNewLaw0 (w : World) (g : Geo) {ba la : Option Addr} {bn bc ln lc : Nat} (bs : List Int) (ds : List Dee) (h : ∀ W, Ext (fun b => b < w.heap.size) w W → Sv.ok dByte W (ba, bn, bc) bs ∧ Sv.ok dDee W (la, ln, lc) ds) (hbb : isB bs) (hds : DeesIn ds) :
    Fn0 Tryz.prog 9 #[.agg (geoC g).toArray, .slice ba bn bc, .slice la ln lc] w (fun b => b < w.heap.size) (fun b : Bool => .bool b) (fun y W => y = true) := by
  have hI : ∀ b, b < w.heap.size → b < w.heap.size := fun b h => h
  have hbn : bn = bs.length := (h w (Ext.refl _ _)).1.1
  have hln : ln = ds.length := (h w (Ext.refl _ _)).2.1
  have hdl := hds.len
  refine enter (svs := [.ag ((geoC g).map .v), .c (.v (.slice ba bn bc)), .c (.v (.slice la ln lc))]) tysOk Tryz.func9 rfl Tryz.ntmps9 Tryz.results9 (by kernel_rfl) (by simp) hI (fun W => Sv.ok dByte W (ba, bn, bc) bs ∧ Sv.ok dDee W (la, ln, lc) ds) h fun C hC hN ok => ?_
  simp [hN]
  intro g3
  refine call0 ok rfl rfl rfl (fun w I hI hG => few0 w I hI (n := ln) ds (fun W e => (hG W e).2)) fun few W _ => ?_
  cases few with
  | false =>
    simp [hN]
    refine call0 ok rfl rfl rfl (fun w I hI hG => awake17 w I hI) fun _ W _ => ?_
    simp [hN]
    exact ret0 hC true rfl fun _ _ _ => rfl
  | true =>
  simp [hN]
  refine call0 ok rfl rfl rfl (fun w I hI hG => geometry0 w I hI g) fun y W _ => ?_
  have hgr := geoP_right g
  generalize geoP g = G at hgr
  obtain ⟨q0, ⟨q1, q2⟩, ⟨q3, q4⟩, ⟨q5, q6⟩, ⟨q7, q8⟩, ⟨q9, q10⟩⟩ := id hgr
  simp [hN]
  refine draw ok [(3, .box g3 23 ((geoC G).map .v))] (by rw [ok.P]; exact mixed) (by kernel_rfl) ?_
  simp (maxSteps := 2000000) -implicitDefEqProofs [hN]
  refine callS ok rfl rfl rfl [] [] trivial rfl (fun gp : Nat => [(1001, .box gp 108 (powB ⟨-1, 0, false, 0⟩ (.map none)))]) (fun w I S hI hG hO hS => (powNew0 w I hI).lone hO) (fun r => by simp) (.inl fun k hk => by cases hk) fun gp W _ => ?_
  simp (maxSteps := 2000000) -implicitDefEqProofs [hN]
  obtain ⟨nb, hnb, hnb0, hnb1⟩ : ∃ nb : Nat, G.sectors * G.sector = (nb : Nat) ∧ 0 < nb ∧ nb ≤ 100000 := by
    obtain ⟨a, ha⟩ : ∃ a : Nat, G.sectors = a := ⟨G.sectors.toNat, by omega⟩
    obtain ⟨b, hb⟩ : ∃ b : Nat, G.sector = b := ⟨G.sector.toNat, by omega⟩
    refine ⟨a * b, by rw [ha, hb]; simp, Nat.mul_pos (by omega) (by omega), ?_⟩
    have : a * b ≤ 16 * 4096 := Nat.mul_le_mul (by omega) (by omega)
    omega
  refine callS ok rfl rfl rfl [] [] trivial rfl (fun x : Nat × Nat × Nat × Nat => [(1000, (newCp G gp ⟨-1, 0, false, 0⟩ (.map none) x nb).chip), (1002, (newCp G gp ⟨-1, 0, false, 0⟩ (.map none) x nb).row), (1003, (newCp G gp ⟨-1, 0, false, 0⟩ (.map none) x nb).map)]) (fun w I S hI hG hO hS => (norNew0 w I hI G gp nb ⟨-1, 0, false, 0⟩ (.map none) hgr hnb hnb0 hnb1).lone hO) (fun r => by simp [Cp.map, mapR]) (.inl fun k hk => by cases hk) fun x W _ => ?_
  obtain ⟨c0, hc0⟩ : ∃ c0, c0 = newCp G gp ⟨-1, 0, false, 0⟩ (.map none) x nb := ⟨_, rfl⟩
  have hfit : c0.fit := by
    rw [hc0]
    exact ⟨hgr, by simp only [newCp, List.length_replicate]; exact hnb.symm, by simp [newCp], by simp [newCp]⟩
  have hlive : live c0.p := by rw [hc0]; exact ⟨(by decide : (-1 : Int) < 0), rfl⟩
  have hgc : c0.gc = x.1 := by rw [hc0]; rfl
  have hpw : (.box gp 108 (powB ⟨-1, 0, false, 0⟩ (.map none)) : Res) = c0.pow := by rw [hc0]; rfl
  have hG0 : c0.g = G := by rw [hc0]; rfl
  have her : c0.er = [] := by rw [hc0]; rfl
  rw [hpw]
  simp only [← hc0, ← hgc]
  clear hpw hc0
  simp (maxSteps := 2000000) -implicitDefEqProofs [hN]
  refine call0 ok rfl rfl rfl (fun w I hI hG => awake17 w I hI) fun _ W _ => ?_
  have enb : IntKind.i64.wrap ((nb : Nat) : Int) = (nb : Nat) := w64 (by omega) (by omega)
  simp [hN, hnb, enb]
  refine mksl ok rfl rfl rfl rfl rfl rfl rfl rfl rfl (by omega) (by show (1 : Int) * _ ≤ _; omega) (by omega) fun g39 => ?_
  simp [hN]
  have hzr : (List.replicate nb (CV.v (.int .u8 0))) = bC (List.replicate nb 0) := by simp [bC]
  rw [hzr]
  have hlb : c0.b.length = nb := by have := hfit.len; rw [hG0, hnb] at this; exact_mod_cast this
  refine cutKc ok (p := ?pos) (fun _ : {xs : List Int // xs.length = nb ∧ isB xs} => [(44, .c (.rw 39 (some ⟨g39, 0, none⟩) nb nb)), (43, .c (.v (ptrV c0.gc))), (7, .c (.v (ptrV c0.gc))), (3, .c (.bp 3 g3 0)), (2, .c (.v (.slice la ln lc)))]) (fun _ W => Sv.ok dDee W (la, ln, lc) ds) (fun xs => [(39, .row (some ⟨g39, 0, none⟩) nb nb 5 1 (bC xs.1)), (1000, c0.chip), (1002, c0.row), (1003, c0.map), (1001, c0.pow), (3, .box g3 23 ((geoC G).map .v))]) ?rest fun R => ?main
  case main =>
    rcases Nat.eq_zero_or_pos bs.length with h0 | hpos
    · obtain rfl : bn = 0 := by omega
      refine copy0 ok rfl rfl rfl rfl rfl rfl rfl rfl ?_
      simp [hN]
      refine R ⟨List.replicate nb 0, by simp, fun x hx => by rw [(List.mem_replicate.1 hx).2]; decide⟩ _ _ ?_ ?_
      · exact fun W hW => hW.2
      · simp [Cp.map, mapR]
    · refine copyM ok 39 rfl rfl rfl rfl rfl rfl rfl rfl rfl rfl bs (fun W hW => hW.1) hpos (by rw [Nat.zero_add]; exact Nat.min_le_right _ _) ?_
      obtain ⟨K, hK⟩ : ∃ K, K = Nat.min bn nb := ⟨_, rfl⟩
      have hKb : K ≤ nb := by rw [hK]; exact Nat.min_le_right _ _
      have hKl : K ≤ bs.length := by rw [hK, hbn]; exact Nat.min_le_left _ _
      have hlay : lay (bC (List.replicate nb 0)) 0 (bC (bs.take K)) = bC (layI (List.replicate nb 0) 0 (bs.take K)) := by
        unfold lay layI
        simp [bC, List.map_take, List.map_drop]
      rw [← hK, hlay]
      simp [hN]
      refine R ⟨layI (List.replicate nb 0) 0 (bs.take K), ?_, ?_⟩ _ _ ?_ ?_
      · rw [layI_len _ _ _ (by rw [List.length_take, List.length_replicate]; omega), List.length_replicate]
      · exact isB_lay (fun x hx => by rw [(List.mem_replicate.1 hx).2]; decide) (fun x hx => hbb x (List.mem_of_mem_take hx)) _
      · exact fun W hW => hW.2
      · simp [Cp.map, mapR]
  case rest =>
  rintro ⟨xs, hxl, hxb⟩
  simp [hN]
  refine callS ok rfl rfl rfl [1000, 1001, 1002, 1003, 39] (c0.res ++ [.row (some ⟨g39, 0, none⟩) xs.length nb 5 1 (bC xs)]) (by simp [Cp.map, mapR, hxl]) rfl (fun _ : Unit => [(1000, (Cp.chip { c0 with b := xs })), (1001, (Cp.pow { c0 with b := xs })), (1002, (Cp.row { c0 with b := xs })), (1003, (Cp.map { c0 with b := xs }))]) (fun w I S hI hG hO hS' => by have := load0 w I S hI c0 xs g39 nb hfit (by omega) (by omega) hO hS'; rw [hxl] at this; exact this) (fun r => by simp [Cp.map, mapR]) (.inr fun x q hq => by simp at hq; rcases hq with rfl | rfl | rfl | rfl <;> simp) fun _ W _ => ?_
  obtain ⟨c1, hc1⟩ : ∃ c1 : Cp, c1 = { c0 with b := xs } := ⟨_, rfl⟩
  have hfit1 : c1.fit := by rw [hc1]; exact ⟨hfit.right, by simp only; rw [hxl, ← hlb]; exact hfit.len, by simp only; rw [hxl, ← hlb]; exact hfit.cap, hfit.left⟩
  have hlive1 : live c1.p := by rw [hc1]; exact hlive
  have hgc1 : c0.gc = c1.gc := by rw [hc1]
  simp only [← hc1]
  rw [hgc1]
  simp [hN]
  have hform1 := form_live hfit1 hlive1
  refine callS ok rfl rfl rfl [1000, 1001, 1002, 1003] c1.res (by simp [Cp.map, mapR]) rfl (fun x : Nat × Sl => [(1000, (formJ c1 x).c.chip), (1001, (formJ c1 x).c.pow), (1002, (formJ c1 x).c.row), (1003, (formJ c1 x).c.map), (1004, (formJ c1 x).box)]) (fun w I S hI hG hO hS' => format0 w I S hI c1 hfit1 hform1.1 hform1.2.1 hform1.2.2.1 hO hS') (fun r => by simp [Cp.map, mapR]) (.inr fun x q hq => by simp at hq; rcases hq with rfl | rfl | rfl | rfl | rfl <;> simp) fun y W hy => ?_
  have hJ0 := jon_form hfit1 hlive1 y
  have hj0 : (formJ c1 y).gj = y.1 ∧ (formJ c1 y).s = newSta ∧ (formJ c1 y).si = y.2 ∧ (formJ c1 y).sb = (none, 0) ∧ (formJ c1 y).ep = 1 ∧ (formJ c1 y).half = 0 := ⟨rfl, rfl, rfl, rfl, rfl, rfl⟩
  obtain ⟨j, hj⟩ : ∃ j, j = formJ c1 y := ⟨_, rfl⟩
  simp only [← hj] at hJ0 hj0
  simp only [← hj]
  rw [← hj0.1]
  simp [hN]
  refine call0 ok rfl rfl rfl (fun w I hI hG => clean0 w I hI (n := ln) ds (by omega) (fun W e => (hG W e).2)) fun sl W _ => ?_
  obtain ⟨L, hL⟩ : ∃ L, L = ds.map cleanD := ⟨_, rfl⟩
  have hcl := hds.clean
  rw [← hL] at hcl
  have hLl : L.length = ds.length := by rw [hL, List.length_map]
  simp only [← hL]
  simp [hN]
  have haw := applyL_w newSta L
  have hcw := count_w (applyL newSta L)
  have hww := whole_w (applyL newSta L)
  have hnw : wS newSta = 45 := by have := whole_w newSta; rw [new_whole] at this; omega
  have hjc := jon_commit hJ0.1 hcl.1
  have hhl := half_le hJ0.1.fit
  have hus := hJ0.1.used
  refine callS ok rfl rfl rfl [1000, 1001, 1002, 1003, 1004] j.res (by simp [Cp.map, mapR]) rfl (fun v : Sl × Sl => [(1000, (commitM j L v).2.c.chip), (1001, (commitM j L v).2.c.pow), (1002, (commitM j L v).2.c.row), (1003, (commitM j L v).2.c.map), (1004, (commitM j L v).2.box)]) (fun w I S hI hG hO hS' => commit0 w I S hI j (a := sl.1) (n := ds.length) (c := sl.2) L hJ0.1.fit hJ0.1.half (by have := hJ0.1.ep; omega) (by omega) (fun W e => by rw [hj0.2.1, hj0.2.2.1, hj0.2.2.2.1]; exact (hG W e).2.1) (fun W e => ⟨by simp only; omega, (hG W e).1⟩) (by rw [hj0.2.1]; simp [newSta]; omega) (by rw [hj0.2.1]; omega) (by rw [hj0.2.1]; show wholeB _ ≤ _; omega) (by omega) hO hS') (fun r => by simp [Cp.map, mapR]) (.inr fun x q hq => by simp at hq; rcases hq with rfl | rfl | rfl | rfl | rfl <;> simp) fun v W hv => ?_
  have hjc := hjc v (by rw [hj0.2.2.2.2.1]; decide)
  rw [hj0.2.1] at hjc hv
  have hsm := hJ0.2
  have hend := hJ0.1.ended
  refine cutKc ok (p := ?pos2) (fun y : {y : Int × Jn × Nat × Sl × Sl // (y.1 = 0 ∨ y.1 = 10) ∧ Jon y.2.1 ∧ y.2.1.gj = j.gj ∧ y.2.1.c.gc = c1.gc ∧ wS y.2.1.s ≤ 1000000000} => [(70, .c (.v (ptrV c1.gc))), (13, .c (.bp 13 y.1.2.2.1 0)), (12, .c (.v (.int .i64 y.1.1))), (10, .c (.v (ptrV j.gj)))]) (fun y W => StaR W y.1.2.1.s y.1.2.1.si y.1.2.1.sb ∧ StaR W y.1.2.1.s y.1.2.2.2.1 y.1.2.2.2.2) (fun y => [(1000, y.1.2.1.c.chip), (1001, y.1.2.1.c.pow), (1002, y.1.2.1.c.row), (1003, y.1.2.1.c.map), (1004, y.1.2.1.box), (13, .box y.1.2.2.1 39 ((staC y.1.2.1.s y.1.2.2.2.1 y.1.2.2.2.2).map .v))]) ?rest2 fun R => ?main2
  case main2 =>
    rcases hjc with h | h
    · obtain ⟨h1, h2, h3, h4, h5, h6, h7, _⟩ := h
      rw [h1]
      obtain ⟨j2, hj2⟩ : ∃ j2, (commitM j L v).2 = j2 := ⟨_, rfl⟩
      rw [hj2] at h2 h3 h4 h5 h6 h7
      simp only [hj2]
      simp [hN]
      refine call0 ok rfl rfl rfl (fun w I hI hG => newSta0 w I hI) fun ns W _ => ?_
      simp [hN]
      intro g13
      refine call0 ok rfl rfl rfl (fun w I hI hG => refApply0 w I hI newSta ns (none, 0) (a := sl.1) (n := ds.length) (c := sl.2) L (fun W e => (hG W e).1) (fun W e => ⟨by simp only; omega, (hG W e).2.2.1⟩) (by simp [newSta]; omega)) fun u W _ => ?_
      simp [hN]
      refine R ⟨(0, j2, g13, u.1, u.2), .inl rfl, h2, h6, by rw [h7.gc, hsm.gc], by rw [h3]; omega⟩ _ _ ?_ ?_
      · intro W hW
        exact ⟨by simp only [h3, h4, h5]; have := hW.2.2.1 hend; rw [hj0.2.1] at this; exact this, by simp only [h3]; exact hW.1⟩
      · simp [Cp.map, mapR, h3]
    · obtain ⟨h1, _, _⟩ := h
      rw [h1]
      simp [hN]
      refine call0 ok rfl rfl rfl (fun w I hI hG => newSta0 w I hI) fun ns W _ => ?_
      simp [hN]
      intro g13
      refine R ⟨(10, j, g13, ns, (none, 0)), .inr rfl, hJ0.1, rfl, by rw [hsm.gc], by rw [hj0.2.1]; omega⟩ _ _ ?_ ?_
      · intro W hW
        exact ⟨by simp only [hj0.2.1, hj0.2.2.1, hj0.2.2.2.1]; exact hW.2.2.2.1, by simp only [hj0.2.1]; exact hW.1⟩
      · simp [Cp.map, mapR, hj0.2.1]
  case rest2 =>
  rintro ⟨⟨f, j2, g13, si, sb⟩, hf, hjn2, hgj2, hgc2, hws⟩
  simp only at hf hjn2 hgj2 hgc2 hws
  have hcw2 := count_w j2.s
  simp [hN]
  refine callS ok rfl rfl rfl [1000, 1001, 1002, 1003] j2.c.res (by simp [Cp.map, mapR]) rfl (fun x : Nat × Sl × Sl => [(1000, j2.c.chip), (1001, j2.c.pow), (1002, j2.c.row), (1003, j2.c.map), (1005, (reJ j2 x).box)]) (fun w I S hI hG hO hS' => by have := openOk0 w I S hI j2 hjn2 hO hS'; rw [hgc2] at this; exact this) (fun r => by simp [reJ, Cp.map, mapR]) (.inr fun x q hq => by simp at hq; rcases hq with rfl | rfl | rfl | rfl | rfl <;> simp) fun x W hx => ?_
  simp [hN]
  have hh2 := hjn2.half
  refine draw ok [(13, .box g13 39 ((staC j2.s si sb).map .v))] (by rw [ok.P]; exact mixed) (by kernel_rfl) ?_
  have hle1 : ((j2.half : Nat) : Int) ≤ 1 := by omega
  rcases hf with rfl | rfl
  all_goals
    simp (maxSteps := 2000000) -implicitDefEqProofs [hN, hle1]
    refine callS ok rfl rfl rfl [1004] [j2.box] (by simp) rfl (fun _ : Unit => [(1004, j2.box)]) (fun w I S hI hG hO hS' => by have := half0 w I S hI j2 hO hS'; rw [hgj2] at this; exact this) (fun r => by simp) (.inr fun x q hq => by simp at hq; subst hq; simp) fun _ W _ => ?_
    simp (maxSteps := 2000000) -implicitDefEqProofs [hN, hle1]
    refine callS ok rfl rfl rfl [1004] [j2.box] (by simp) rfl (fun _ : Sl × Sl => [(1004, j2.box)]) (fun w I S hI hG hO hS' => by have := state0 w I S hI j2 (fun W e => (hG W e).2.1) (by omega) hO hS'; rw [hgj2] at this; exact this) (fun r => by simp) (.inr fun x q hq => by simp at hq; subst hq; simp) fun z1 W _ => ?_
    simp (maxSteps := 2000000) -implicitDefEqProofs [hN, hle1]
    refine call0 ok rfl rfl rfl (fun w I hI hG => sameSta0 w I hI (applyL j2.s []) j2.s z1.1 z1.2 si sb (fun W e => ⟨(hG W e).1, (hG W e).2.2.2⟩)) fun _ W _ => ?_
    rw [tB_true (show applyL j2.s [] = j2.s from rfl)]
    simp (maxSteps := 2000000) -implicitDefEqProofs [hN, hle1]
    refine callS ok rfl rfl rfl [1005] [(reJ j2 x).box] (by simp) rfl (fun _ : Sl × Sl => [(1005, (reJ j2 x).box)]) (fun w I S hI hG hO hS' => state0 w I S hI (reJ j2 x) (fun W e => (hG W e).2.1) (by show j2.s.inos.length ≤ _ ∧ j2.s.bad.length ≤ _; omega) hO hS') (fun r => by simp) (.inr fun x q hq => by simp at hq; subst hq; simp) fun z2 W _ => ?_
    simp (maxSteps := 2000000) -implicitDefEqProofs [hN, hle1]
    refine call0 ok rfl rfl rfl (fun w I hI hG => sameSta0 w I hI (applyL (reJ j2 x).s []) j2.s z2.1 z2.2 si sb (fun W e => ⟨(hG W e).1, (hG W e).2.2.2.2⟩)) fun _ W _ => ?_
    rw [tB_true (show applyL (reJ j2 x).s [] = j2.s from rfl)]
    simp (maxSteps := 2000000) -implicitDefEqProofs [hN, hle1]
    exact ret0 hC true rfl fun _ _ _ => rfl
end Go.Proofs.YtbbaoeidobdblaaGreat.Sx

/- garretlaw17.JournalAgain. -/
set_option linter.unusedVariables false
set_option linter.unusedSimpArgs false
namespace Go.Proofs.YtbbaoeidobdblaaGreat.Sx
open Go

attribute [local simp ↓] ifb_true' ifb_false'
attribute [local simp] ifb_true ifb_false ifb_eq sx argsT find ev evOp evs evo evBin evInt evStr evNil evNilA ptrA slcA isNoneA asB evLoad look del cellsB evUn evConv kdec fld evFieldA evField evIdxA evIdx evSlc bndL bndH evLen mmi put resV guardV gvL setO tupV cellsOf ones one upd lits nv exitTo SV.val CV.val TI.agg rdyA allR keepB scan simpO gsp isS subs keepT pickT wr memN pubs Res.fact Region.binds bld rest give delL back Res.eqv vi vb num Sv.val undef
/-- Lists of deeds. -/
def dDs : Dt (List Dee) := ⟨1, fun W x cs => ∃ s : Sl, cs = [.slice s.1 x.length s.2] ∧ s.ok dDee W x, fun h => by obtain ⟨s, rfl, _⟩ := h; rfl, fun h u hu => by
  obtain ⟨s, rfl, _⟩ := h
  simp at hu
  subst hu
  rfl⟩
theorem keepDs : Keeps dDs := fun h k => by
  obtain ⟨s, hc, h1⟩ := k
  exact ⟨s, hc, sl_keep keepDee h h1⟩
theorem ds_get {W : World} {a : Option Addr} {n c : Nat} {l : List (List Dee)} (h : Sv.ok dDs W (a, n, c) l) {i : Nat} (hi : i < l.length) : ∃ b o, a = some ⟨b, o, none⟩ ∧ ∃ v, W.cell? ⟨b, o + i, none⟩ = some v ∧ slQ dDee l[i] v W := by
  obtain ⟨b, o, e, cs, ⟨s, rfl, hs⟩, hl, hc⟩ := rd_get1 h hi
  exact ⟨b, o, e, _, by have := hc 0 _ rfl; simpa [dDs] using this, s, rfl, hs⟩
theorem stateL_w : ∀ (ds : List (List Dee)) (s : Sta), wS (stateL s ds) ≤ wS s + totP ((ds.map deedsB).map fun y => (y, y.length))
  | [], s => by simp [stateL, totP]
  | d :: r, s => by
    have h1 := stateL_w r (applyL s d)
    have h2 := applyL_w s d
    simp only [stateL, List.foldl_cons, List.map_cons, totP] at h1 ⊢
    omega
theorem jon_w {j : Jn} (h : Jon j) : wS j.s ≤ j.used := by
  obtain ⟨s0, ds, _, _, h3, h4, _⟩ := h.on
  have h5 := stateL_w ds s0
  have h6 := firstB_length j.ep s0
  have h7 := whole_w s0
  have h8 : (deedsB (wholeL s0)).length = wholeB s0 := rfl
  rw [h3, h4, halfL, recsB_length, List.map_cons, totP]
  omega
/-- Bytes that are the same. -/
theorem sameB0 (w : World) (I : Nat → Prop) (hI : ∀ b, I b → b < w.heap.size) {a a' : Option Addr} {n c n' c' : Nat} (xs : List Int) (h : ∀ W, Ext I w W → Sv.ok dByte W (a, n, c) xs ∧ Sv.ok dByte W (a', n', c') xs) :
    Fn0 Tryz.prog 29 #[.slice a n c, .slice a' n' c'] w I (fun _ : Unit => .bool true) (fun _ _ => True) := by
  refine enter (svs := [.c (.v (.slice a n c)), .c (.v (.slice a' n' c'))]) tysOk Tryz.func29 rfl Tryz.ntmps29 Tryz.results29 (by kernel_rfl) (by simp) hI (fun W => Sv.ok dByte W (a, n, c) xs ∧ Sv.ok dByte W (a', n', c') xs) h fun C hC hN ok => ?_
  simp [hN]
  refine strS ok rfl rfl rfl rfl rfl rfl rfl rfl rfl xs (fun W hW => hW.1) ?_
  simp [hN]
  refine strS ok rfl rfl rfl rfl rfl rfl rfl rfl rfl xs (fun W hW => hW.2) ?_
  simp [hN]
  exact ret0 hC () rfl fun _ _ _ => trivial
set_option maxRecDepth 100000 in
set_option maxHeartbeats 2000000 in
theorem journalAgainLaw0 (w : World) {la : Option Addr} {ln lc : Nat} (ls : List (List Dee)) (n : Int) (h : ∀ W, Ext (fun b => b < w.heap.size) w W → Sv.ok dDs W (la, ln, lc) ls) (hds : ∀ ds ∈ ls, DeesIn ds) :
    Fn0 Tryz.prog 4 #[.slice la ln lc, .int .i64 n] w (fun b => b < w.heap.size) (fun b : Bool => .bool b) (fun y W => y = true) := by
  have hI : ∀ b, b < w.heap.size → b < w.heap.size := fun b h => h
  have hln : ln = ls.length := (h w (Ext.refl _ _)).1
  have hlb : ls.length ≤ 100000000000 := (h w (Ext.refl _ _)).2.2.1
  refine enter (svs := [.c (.v (.slice la ln lc)), .c (.v (.int .i64 n))]) tysOk Tryz.func4 rfl Tryz.ntmps4 Tryz.results4 (by kernel_rfl) (by simp) hI (fun W => Sv.ok dDs W (la, ln, lc) ls) h fun C hC hN ok => ?_
  simp [hN]
  refine call0 ok rfl rfl rfl (fun w I hI hG => wide0 w I hI) fun _ W _ => ?_
  simp [hN]
  refine callS ok rfl rfl rfl [] [] trivial rfl (fun gp : Nat => [(1001, .box gp 108 (powB ⟨-1, 0, false, 0⟩ (.map none)))]) (fun w I S hI hG hO hS => (powNew0 w I hI).lone hO) (fun r => by simp) (.inl fun k hk => by cases hk) fun gp W _ => ?_
  simp [hN]
  obtain ⟨nb, hnb, hnb0, hnb1, hnb2⟩ : ∃ nb : Nat, wideG.sectors * wideG.sector = (nb : Nat) ∧ 0 < nb ∧ nb ≤ 100000 ∧ nb = 16384 := ⟨16384, by decide, by decide, by decide, rfl⟩
  refine callS ok rfl rfl rfl [] [] trivial rfl (fun x : Nat × Nat × Nat × Nat => [(1000, (newCp wideG gp ⟨-1, 0, false, 0⟩ (.map none) x nb).chip), (1002, (newCp wideG gp ⟨-1, 0, false, 0⟩ (.map none) x nb).row), (1003, (newCp wideG gp ⟨-1, 0, false, 0⟩ (.map none) x nb).map)]) (fun w I S hI hG hO hS => (norNew0 w I hI wideG gp nb ⟨-1, 0, false, 0⟩ (.map none) wide_right hnb hnb0 hnb1).lone hO) (fun r => by simp [Cp.map, mapR]) (.inl fun k hk => by cases hk) fun x W _ => ?_
  obtain ⟨c0, hc0⟩ : ∃ c0, c0 = newCp wideG gp ⟨-1, 0, false, 0⟩ (.map none) x nb := ⟨_, rfl⟩
  have hfit : c0.fit := by
    rw [hc0]
    exact ⟨wide_right, by simp only [newCp, List.length_replicate]; exact hnb.symm, by simp [newCp], by simp [newCp]⟩
  have hlive : live c0.p := by rw [hc0]; exact ⟨(by decide : (-1 : Int) < 0), rfl⟩
  have hgc : c0.gc = x.1 := by rw [hc0]; rfl
  have hpw : (.box gp 108 (powB ⟨-1, 0, false, 0⟩ (.map none)) : Res) = c0.pow := by rw [hc0]; rfl
  have hG0 : c0.g = wideG := by rw [hc0]; rfl
  have her : c0.er = [] := by rw [hc0]; rfl
  rw [hpw]
  simp only [← hc0, ← hgc]
  clear hpw hc0
  simp [hN]
  refine call0 ok rfl rfl rfl (fun w I hI hG => awake17 w I hI) fun _ W _ => ?_
  simp [hN]
  have hlb2 : c0.b.length = 16384 := by have := hfit.len; rw [hG0, hnb, hnb2] at this; exact_mod_cast this
  have hform := form_live hfit hlive
  refine callS ok rfl rfl rfl [1000, 1001, 1002, 1003] c0.res (by simp [Cp.map, mapR]) rfl (fun x : Nat × Sl => [(1000, (formJ c0 x).c.chip), (1001, (formJ c0 x).c.pow), (1002, (formJ c0 x).c.row), (1003, (formJ c0 x).c.map), (1004, (formJ c0 x).box)]) (fun w I S hI hG hO hS' => format0 w I S hI c0 hfit hform.1 hform.2.1 hform.2.2.1 hO hS') (fun r => by simp [Cp.map, mapR]) (.inr fun x q hq => by simp at hq; rcases hq with rfl | rfl | rfl | rfl | rfl <;> simp) fun y W hy => ?_
  have hJ0 := jon_form hfit hlive y
  have hj0 : (formJ c0 y).gj = y.1 ∧ (formJ c0 y).s = newSta ∧ (formJ c0 y).si = y.2 ∧ (formJ c0 y).sb = (none, 0) ∧ (formJ c0 y).ep = 1 ∧ (formJ c0 y).half = 0 := ⟨rfl, rfl, rfl, rfl, rfl, rfl⟩
  obtain ⟨j, hj⟩ : ∃ j, j = formJ c0 y := ⟨_, rfl⟩
  simp only [← hj] at hJ0 hj0
  simp only [← hj]
  rw [← hj0.1]
  simp [hN]
  refine loopK [0, 1, 5, 7] ok (fun y : Nat × Jn => [(9, .c (.v (.int .i64 (y.1 : Nat))))]) (fun y => [(1000, y.2.c.chip), (1001, y.2.c.pow), (1002, y.2.c.row), (1003, y.2.c.map), (1004, y.2.box)]) (fun z W => z.1 ≤ ls.length ∧ Jon z.2 ∧ z.2.ep ≤ 1 + z.1 ∧ z.1 ≤ 10 ∧ z.2.gj = j.gj ∧ z.2.c.gc = c0.gc ∧ z.2.c.b.length = 16384 ∧ StaR W z.2.s z.2.si z.2.sb) (fun y => ls.length - y.1) (0, j) ?_ ?_ (fun W hW => ⟨Nat.zero_le _, hJ0.1, by rw [hj0.2.2.2.2.1]; show (1 : Int) ≤ 1 + (0 : Nat); decide, Nat.zero_le _, rfl, hJ0.2.gc, by rw [hJ0.2.len, hlb2], by rw [hj0.2.1, hj0.2.2.1, hj0.2.2.2.1]; exact hW.1⟩) ?_
  · simp
  · simp [Cp.map, mapR]
  obtain ⟨gj, hgj⟩ : ∃ gj, gj = j.gj := ⟨_, rfl⟩
  rw [← hgj]
  rintro ⟨i, j⟩ W ⟨hi, hjn, hje, hi10, hjp, hjc, hjl, hS⟩ hG2 next
  simp only at hi hjn hje hi10 hjp hjc hjl hS
  have hjw := jon_w hjn
  have hju := hjn.used
  have hjh := half_le hjn.fit
  by_cases hgo : i < ls.length ∧ i < 10
  · obtain ⟨hlt, hlt10⟩ := hgo
    have e6 : IntKind.i64.wrap ((i : Int) + 1) = (i + 1 : Nat) := by rw [w64 (by omega) (by omega)]; omega
    have hltn : i < ln := by omega
    have hlt10' : (i : Int) < 10 := by omega
    obtain ⟨b, off, e, _⟩ := ds_get (h w (Ext.refl _ _)) hlt
    cases e
    have hget : ∀ W, Sv.ok dDs W (some ⟨b, off, none⟩, ln, lc) ls → ∃ v, W.cell? ⟨b, off + i, none⟩ = some v ∧ slQ dDee ls[i] v W := fun W hW => by
      obtain ⟨b', o', e, hc⟩ := ds_get hW hlt
      cases e
      exact hc
    have hdi := hds _ (List.getElem_mem hlt)
    generalize ls[i] = ds at hget hdi
    have hdl := hdi.len
    have hcl := hdi.clean
    simp [hN, hltn, hlt10']
    refine load1 ok rfl rfl rfl rfl (slQ dDee ds) (fun W hW => hget W hW.2.2) ?_
    rintro v W ⟨sv, rfl, hsv⟩ _
    simp [hN]
    refine call0 ok rfl rfl rfl (fun w I hI hG => few0 w I hI (n := ds.length) ds (fun W e => ⟨rfl, (hG W e).1.get.2⟩)) fun few W _ => ?_
    cases few with
    | false =>
      simp [hN]
      exact ret0 hC true rfl fun _ _ _ => rfl
    | true =>
    simp [hN, hltn]
    refine load1 ok rfl rfl rfl rfl (slQ dDee ds) (fun W hW => hget W (by first | exact hW.2.2.2 | exact hW.2.2.2.2)) ?_
    rintro v W ⟨sv2, rfl, hsv2⟩ _
    simp [hN]
    refine call0 ok rfl rfl rfl (fun w I hI hG => clean0 w I hI (n := ds.length) ds (by omega) (fun W e => ⟨rfl, (hG W e).1.get.2⟩)) fun sl W _ => ?_
    obtain ⟨L, hL⟩ : ∃ L, L = ds.map cleanD := ⟨_, rfl⟩
    rw [← hL] at hcl
    have hLl : L.length = ds.length := by rw [hL, List.length_map]
    simp only [← hL]
    simp [hN]
    have haw := applyL_w j.s L
    have hcw := count_w (applyL j.s L)
    have hcw0 := count_w j.s
    have hww := whole_w (applyL j.s L)
    have hjcm := jon_commit hjn hcl.1
    refine callS ok rfl rfl rfl [1000, 1001, 1002, 1003, 1004] j.res (by simp [Cp.map, mapR]) rfl (fun v : Sl × Sl => [(1000, (commitM j L v).2.c.chip), (1001, (commitM j L v).2.c.pow), (1002, (commitM j L v).2.c.row), (1003, (commitM j L v).2.c.map), (1004, (commitM j L v).2.box)]) (fun w I S hI hG hO hS' => by have := commit0 w I S hI j (a := sl.1) (n := ds.length) (c := sl.2) L hjn.fit hjn.half (by have := hjn.ep; omega) (by omega) (fun W e => (hG W e).2.2.2.1.2.2.2.2.2.2.2) (fun W e => ⟨by simp only; omega, (hG W e).1⟩) (by omega) (by omega) (by show wholeB _ ≤ _; omega) (by omega) hO hS'; rw [hjp] at this; exact this) (fun r => by simp [Cp.map, mapR]) (.inr fun x q hq => by simp at hq; rcases hq with rfl | rfl | rfl | rfl | rfl <;> simp) fun v W hv => ?_
    have hjcm := hjcm v (by omega)
    rcases hjcm with hh | hh
    · obtain ⟨h1, h2, h3, h4, h5, h6, h7, h8⟩ := hh
      have hep2 : (commitM j L v).2.ep ≤ j.ep + 1 := by rcases h8 with h | h <;> omega
      rw [h1]
      obtain ⟨j2, hj2⟩ : ∃ j2, (commitM j L v).2 = j2 := ⟨_, rfl⟩
      rw [hj2] at h2 h3 h4 h5 h6 h7 hep2
      simp only [hj2]
      simp [hN, e6]
      exact next (i + 1, j2) _ _ (by simp only; omega) (fun W hW => ⟨⟨hlt, h2, by simp only; omega, hlt10, by rw [h6, hjp], by rw [h7.gc, hjc], by rw [h7.len, hjl], by simp only [h3, h4, h5]; exact hW.1 hjn.ended⟩, hW.2.2.2.2.2⟩) (by simp [Cp.map, mapR])
    · obtain ⟨h1, _, _⟩ := hh
      rw [h1]
      simp [hN, e6]
      exact next (i + 1, j) _ _ (by simp only; omega) (fun W hW => ⟨⟨hlt, hjn, by simp only; omega, hlt10, hjp, hjc, hjl, hW.2.2.2.2.1.2.2.2.2.2.2.2⟩, hW.2.2.2.2.2⟩) (by simp [Cp.map, mapR])
  clear next
  refine cutK ok (p := ?pos) [(73, .c (.v (.int .i64 16384))), (72, .c (.v (ptrV c0.gc))), (11, .c (.v (.int .i64 16384))), (7, .c (.v (ptrV gj))), (5, .c (.v (ptrV c0.gc))), (1, .c (.v (.int .i64 n)))] (fun W => StaR W j.s j.si j.sb) [(1000, j.c.chip), (1001, j.c.pow), (1002, j.c.row), (1003, j.c.map), (1004, j.box)] ?rest fun R => ?main
  case main =>
    by_cases hlt : i < ls.length
    · have hi10' : ¬ (i : Int) < 10 := by omega
      have hltn : i < ln := by omega
      simp [hN, hltn, hi10']
      refine R _ _ ?_ ?_
      · exact fun W hW => hW.1.2.2.2.2.2.2.2
      · simp [Cp.map, mapR]
    · have hltn : ¬ i < ln := by omega
      simp [hN, hltn]
      refine R _ _ ?_ ?_
      · exact fun W hW => hW.1.2.2.2.2.2.2.2
      · simp [Cp.map, mapR]
  case rest =>
  simp [hN]
  refine callS ok rfl rfl rfl [1000, 1001, 1002, 1003] j.c.res (by simp [Cp.map, mapR]) rfl (fun _ : Sl => [(1000, j.c.chip), (1001, j.c.pow), (1002, j.c.row), (1003, j.c.map)]) (fun w I S hI hG hO hS' => by have := norRead0 w I S hI j.c 0 16384 hjn.fit (by decide) (by omega) hO hS'; rw [hjc] at this; exact this) (fun r => by simp [Cp.map, mapR]) (.inr fun x q hq => by simp at hq; rcases hq with rfl | rfl | rfl | rfl <;> simp) fun wa W _ => ?_
  simp [hN]
  obtain ⟨K, hKK, hK1⟩ : ∃ K : Nat, IntKind.i64.wrap (1 + IntKind.i64.wrap ((IntKind.u64.wrap n).tmod 4)) = (K : Nat) ∧ K ≤ 4 := by
    have h1 := modP_le n 4 (by decide)
    have h2 : IntKind.i64.wrap ((IntKind.u64.wrap n).tmod 4) = modP n 4 := by
      rw [u64_wrap, Int.tmod_eq_emod_of_nonneg (by omega), w64 (by omega) (by omega)]
      unfold modP
      omega
    rw [h2]
    exact ⟨(1 + modP n 4).toNat, by rw [w64 (by omega) (by omega)]; omega, by omega⟩
  refine loopK [1, 5, 7, 11, 12] ok (fun i : Nat => [(14, .c (.v (.int .i64 (i : Nat))))]) (fun _ => [(1000, j.c.chip), (1001, j.c.pow), (1002, j.c.row), (1003, j.c.map), (1004, j.box)]) (fun i W => i ≤ K ∨ i = 0) (fun i => K - i) 0 ?_ ?_ (fun W hW => .inr rfl) ?_
  · simp
  · simp [Cp.map, mapR]
  rintro k W hk hG3 next
  rcases Nat.lt_or_ge k K with hlt | hge
  · have e6 : IntKind.i64.wrap ((k : Int) + 1) = (k + 1 : Nat) := by rw [w64 (by omega) (by omega)]; omega
    simp [hN, hKK, hlt]
    refine callS ok rfl rfl rfl [1000, 1001, 1002, 1003] j.c.res (by simp [Cp.map, mapR]) rfl (fun x : Nat × Sl × Sl => [(1000, j.c.chip), (1001, j.c.pow), (1002, j.c.row), (1003, j.c.map), (1005, (reJ j x).box)]) (fun w I S hI hG hO hS' => by have := openOk0 w I S hI j hjn hO hS'; rw [hjc] at this; exact this) (fun r => by simp [reJ, Cp.map, mapR]) (.inr fun x q hq => by simp at hq; rcases hq with rfl | rfl | rfl | rfl | rfl <;> simp) fun x W hx => ?_
    simp [hN]
    refine callS ok rfl rfl rfl [1005] [(reJ j x).box] (by simp) rfl (fun _ : Sl × Sl => [(1005, (reJ j x).box)]) (fun w I S hI hG hO hS' => state0 w I S hI (reJ j x) (fun W e => (hG W e).1) (by show j.s.inos.length ≤ _ ∧ j.s.bad.length ≤ _; have := count_w j.s; omega) hO hS') (fun r => by simp) (.inr fun x q hq => by simp at hq; subst hq; simp) fun z1 W _ => ?_
    simp [hN]
    refine callS ok rfl rfl rfl [1004] [j.box] (by simp) rfl (fun _ : Sl × Sl => [(1004, j.box)]) (fun w I S hI hG hO hS' => by have := state0 w I S hI j (fun W e => (hG W e).2.2.2.2) (by have := count_w j.s; omega) hO hS'; rw [hjp] at this; exact this) (fun r => by simp) (.inr fun x q hq => by simp at hq; subst hq; simp) fun z2 W _ => ?_
    simp [hN]
    refine call0 ok rfl rfl rfl (fun w I hI hG => sameSta0 w I hI (applyL (reJ j x).s []) (applyL j.s []) z1.1 z1.2 z2.1 z2.2 (fun W e => ⟨(hG W e).2.1, (hG W e).1⟩)) fun _ W _ => ?_
    rw [tB_true (show applyL (reJ j x).s [] = applyL j.s [] from rfl)]
    simp [hN]
    refine callS ok rfl rfl rfl [1005] [(reJ j x).box] (by simp) rfl (fun _ : Unit => [(1005, (reJ j x).box)]) (fun w I S hI hG hO hS' => epoch0 w I S hI (reJ j x) hO hS') (fun r => by simp) (.inr fun x q hq => by simp at hq; subst hq; simp) fun _ W _ => ?_
    simp [hN]
    refine callS ok rfl rfl rfl [1004] [j.box] (by simp) rfl (fun _ : Unit => [(1004, j.box)]) (fun w I S hI hG hO hS' => by have := epoch0 w I S hI j hO hS'; rw [hjp] at this; exact this) (fun r => by simp) (.inr fun x q hq => by simp at hq; subst hq; simp) fun _ W _ => ?_
    have hre : (reJ j x).ep = j.ep ∧ (reJ j x).half = j.half := ⟨rfl, rfl⟩
    simp [hN, hre]
    refine callS ok rfl rfl rfl [1005] [(reJ j x).box] (by simp) rfl (fun _ : Unit => [(1005, (reJ j x).box)]) (fun w I S hI hG hO hS' => half0 w I S hI (reJ j x) hO hS') (fun r => by simp) (.inr fun x q hq => by simp at hq; subst hq; simp) fun _ W _ => ?_
    simp [hN]
    refine callS ok rfl rfl rfl [1004] [j.box] (by simp) rfl (fun _ : Unit => [(1004, j.box)]) (fun w I S hI hG hO hS' => by have := half0 w I S hI j hO hS'; rw [hjp] at this; exact this) (fun r => by simp) (.inr fun x q hq => by simp at hq; subst hq; simp) fun _ W _ => ?_
    simp [hN, hre, e6]
    exact next (k + 1) _ _ (by omega) (fun W hW => ⟨.inl hlt, hW.2.2.2.2⟩) (by simp [Cp.map, mapR])
  · simp [hN, hKK, Nat.not_lt.2 hge]
    refine callS ok rfl rfl rfl [1000, 1001, 1002, 1003] j.c.res (by simp [Cp.map, mapR]) rfl (fun _ : Sl => [(1000, j.c.chip), (1001, j.c.pow), (1002, j.c.row), (1003, j.c.map)]) (fun w I S hI hG hO hS' => by have := norRead0 w I S hI j.c 0 16384 hjn.fit (by decide) (by omega) hO hS'; rw [hjc] at this; exact this) (fun r => by simp [Cp.map, mapR]) (.inr fun x q hq => by simp at hq; rcases hq with rfl | rfl | rfl | rfl <;> simp) fun wb W _ => ?_
    simp [hN]
    obtain ⟨xs, hxs, hxl⟩ : ∃ xs : List Int, j.c.b.take 16384 = xs ∧ xs.length = 16384 := ⟨_, rfl, by rw [List.length_take, hjl, Nat.min_self]⟩
    simp only [hxs]
    refine call0 ok rfl rfl rfl (fun w I hI hG => sameB0 w I hI (a := wa.1) (n := 16384) (c := wa.2) (a' := wb.1) (n' := 16384) (c' := wb.2) xs (fun W e => ⟨⟨hxl.symm, (hG W e).2.2.1⟩, ⟨hxl.symm, (hG W e).1⟩⟩)) fun _ W _ => ?_
    simp [hN]
    exact ret0 hC true rfl fun _ _ _ => rfl
end Go.Proofs.YtbbaoeidobdblaaGreat.Sx

/- What comes in, read: numbers, texts, bytes, slices of such, entries, runs, inodes, deeds (their bulk is bounded). -/
set_option linter.unusedVariables false
set_option linter.unusedSimpArgs false
namespace Go.Proofs.YtbbaoeidobdblaaGreat.Rdk
open Go Go.Proofs.YtbbaoeidobdblaaGreat.Sx

theorem one_le {H : Type} (d : DataW H) : 1 ≤ Rows.uptoBulk d := by
  cases d with
  | lit l => cases l <;> simp [Rows.uptoBulk]
  | nil => simp [Rows.uptoBulk]
  | ptr d => simp [Rows.uptoBulk]
  | slice elems spare => simp [Rows.uptoBulk]
  | agg parts => simp [Rows.uptoBulk]
  | iface t d => simp [Rows.uptoBulk]
  | map entries => simp [Rows.uptoBulk]
  | held h => simp [Rows.uptoBulk]
theorem part_le {H : Type} {l : List (DataW H)} {i : Nat} {d : DataW H} (h : l[i]? = some d) : Rows.uptoBulk d ≤ Rows.uptoBulkAll l := by
  induction l generalizing i with
  | nil => simp at h
  | cons x r ih =>
    simp only [Rows.uptoBulkAll]
    cases i with
    | zero => simp at h; subst h; omega
    | succ i => have := ih (by simpa using h); omega
/-- Two parts of a whole. -/
theorem part_two {H : Type} {l : List (DataW H)} {i j : Nat} {d e : DataW H} (hij : i < j) (h : l[i]? = some d) (k : l[j]? = some e) : Rows.uptoBulk d + Rows.uptoBulk e ≤ Rows.uptoBulkAll l := by
  induction l generalizing i j with
  | nil => simp at h
  | cons x r ih =>
    obtain ⟨j, rfl⟩ : ∃ q, j = q + 1 := ⟨j - 1, by omega⟩
    simp only [Rows.uptoBulkAll]
    cases i with
    | zero =>
      simp at h
      subst h
      have := part_le (l := r) (i := j) (by simpa using k)
      omega
    | succ i => have := ih (i := i) (j := j) (by omega) (by simpa using h) (by simpa using k); omega
theorem part_three {H : Type} {l : List (DataW H)} {i j k : Nat} {a b c : DataW H} (hij : i < j) (hjk : j < k) (h : l[i]? = some a) (h2 : l[j]? = some b) (h3 : l[k]? = some c) : Rows.uptoBulk a + Rows.uptoBulk b + Rows.uptoBulk c ≤ Rows.uptoBulkAll l := by
  induction l generalizing i j k with
  | nil => simp at h
  | cons x r ih =>
    obtain ⟨j, rfl⟩ : ∃ q, j = q + 1 := ⟨j - 1, by omega⟩
    obtain ⟨k, rfl⟩ : ∃ q, k = q + 1 := ⟨k - 1, by omega⟩
    simp only [Rows.uptoBulkAll]
    cases i with
    | zero =>
      simp at h
      subst h
      have := part_two (l := r) (i := j) (j := k) (by omega) (by simpa using h2) (by simpa using h3)
      omega
    | succ i => have := ih (i := i) (j := j) (k := k) (by omega) (by omega) (by simpa using h) (by simpa using h2) (by simpa using h3); omega
/-- How large what is asked of a reading may be. -/
abbrev lim : Nat := 1048576
/-- A kind of things can be read off cells of a type. -/
structure RdT (P : Program) (w : World) {α : Type} (t : TypeId) (d : Dt α) (fit : α → Prop) (sz : α → Nat) : Prop where
  get : ∀ {H : Type} {enc : TypeId × Value → H} {base : Nat} {spare : Nat → Bool} {held : Bool} {n : Nat} {cs : List Value} {y : DataW H × List MemPlace}, DataW.trod enc P w base spare held n t cs = some y → Rows.uptoBulk y.1 ≤ 1048576 → ∃ x, d.K w x cs ∧ fit x ∧ sz x ≤ Rows.uptoBulk y.1
theorem wf_fit {n : Int} (h : (Lit.int .i64 n).wf = true) : fitI n := by
  simp [Lit.wf, IntKind.min, IntKind.max, IntKind.signed, IntKind.bits] at h
  unfold fitI
  omega
theorem rdInt {P : Program} {w : World} {t : TypeId} (ht : P.underlying t = some (.int .i64)) : RdT P w t dInt fitI (fun _ => 1) := ⟨fun {H enc base spare held n cs y} h hb => by
  obtain ⟨x, rfl, e, hw⟩ := DataW.trod_int ht h
  exact ⟨x, rfl, wf_fit hw, one_le _⟩⟩
theorem rdByte {P : Program} {w : World} {t : TypeId} (ht : P.underlying t = some (.int .u8)) : RdT P w t dByte (fun x => 0 ≤ x ∧ x ≤ 255) (fun _ => 1) := ⟨fun {H enc base spare held n cs y} h hb => by
  obtain ⟨x, rfl, e, hw⟩ := DataW.trod_int ht h
  refine ⟨x, rfl, ?_, one_le _⟩
  simp [Lit.wf, IntKind.min, IntKind.max, IntKind.signed, IntKind.bits] at hw
  omega⟩
theorem fold_parts {α : Type} {H : Type} (Q : Nat → α → Prop) (sz : α → Nat) : ∀ (elems : List (DataW H × List MemPlace)) (i0 : Nat), (∀ k y, elems[k]? = some y → ∃ x, Q (i0 + k) x ∧ sz x ≤ Rows.uptoBulk y.1) → ∃ xs : List α, xs.length = elems.length ∧ (∀ k x, xs[k]? = some x → Q (i0 + k) x) ∧ sumN (xs.map sz) ≤ Rows.uptoBulkAll (elems.map (·.1))
  | [], i0, _ => ⟨[], rfl, fun k x h => by simp at h, Nat.le_refl _⟩
  | y :: r, i0, h => by
    obtain ⟨x, h1, h2⟩ := h 0 y rfl
    obtain ⟨xs, h3, h4, h5⟩ := fold_parts Q sz r (i0 + 1) fun k z hz => by
      have := h (k + 1) z (by simpa using hz)
      rw [show i0 + 1 + k = i0 + (k + 1) by omega]
      exact this
    refine ⟨x :: xs, by simp [h3], fun k z hz => ?_, ?_⟩
    · cases k with
      | zero => simp at hz; subst hz; exact h1
      | succ k =>
        have := h4 k z (by simpa using hz)
        rw [show i0 + (k + 1) = i0 + 1 + k by omega]
        exact this
    · simp only [List.map_cons, sumN_cons, Rows.uptoBulkAll]
      omega
theorem len_bulk {H : Type} (l : List (DataW H)) : l.length ≤ Rows.uptoBulkAll l := by
  induction l with
  | nil => simp [Rows.uptoBulkAll]
  | cons x r ih => have := one_le x; simp only [Rows.uptoBulkAll, List.length_cons]; omega
/-- A slice is read. -/
theorem rdSlice {P : Program} {w : World} {α : Type} {t e : TypeId} {d : Dt α} {fit : α → Prop} {sz : α → Nat} (R : RdT P w e d fit sz) (ht : P.underlying t = some (.slice e)) (hc : P.cellsOf e = d.sz) (h0 : 0 < d.sz)
    {H : Type} {enc : TypeId × Value → H} {base : Nat} {spare : Nat → Bool} {held : Bool} {n : Nat} {cs : List Value} {y : DataW H × List MemPlace} (h : DataW.trod enc P w base spare held n t cs = some y) (hb : Rows.uptoBulk y.1 ≤ 1048576) :
    ∃ (s : Sl) (xs : List α), cs = [.slice s.1 xs.length s.2] ∧ Sl.ok d w s xs ∧ (∀ x ∈ xs, fit x) ∧ sumN (xs.map sz) + 1 ≤ Rows.uptoBulk y.1 ∧ xs.length + 1 ≤ Rows.uptoBulk y.1 := by
  rcases DataW.trod_slice ht h with ⟨rfl, rfl⟩ | ⟨a, len, cap, elems, rest, m, rfl, rfl, rfl, h1, h2, h3, h4, h5, _, _⟩
  · exact ⟨(none, 0), [], rfl, ⟨Nat.le_refl _, Nat.zero_le _, rd_nil _ _ _⟩, fun x hx => absurd hx List.not_mem_nil, by simp [Rows.uptoBulk], by simp [Rows.uptoBulk]⟩
  · simp only [Rows.uptoBulk] at hb ⊢
    have hp : ∀ k y, elems[k]? = some y → ∃ x, (fun i x => fit x ∧ ∃ cs, d.K w x cs ∧ ∀ j, j < d.sz → w.cell? ((a.add (i * d.sz)).add j) = cs[j]?) (0 + k) x ∧ sz x ≤ Rows.uptoBulk y.1 := fun k y hy => by
      have hk : k < len := by rw [← h4]; exact (List.getElem?_eq_some_iff.1 hy).1
      have h6 := h5 k hk
      rw [hy, Option.bind_eq_some_iff] at h6
      obtain ⟨cs, h7, h8⟩ := h6
      have hyb : Rows.uptoBulk y.1 ≤ Rows.uptoBulkAll (elems.map (·.1)) := part_le (i := k) (by simp [hy])
      obtain ⟨x, k1, k2, k3⟩ := R.get h8 (by omega)
      obtain ⟨_, c1, c2⟩ := World.cells?_some h7
      rw [hc] at c2
      exact ⟨x, ⟨k2, cs, k1, by rw [Nat.zero_add]; exact c2⟩, k3⟩
    obtain ⟨xs, l1, l2, l3⟩ := fold_parts (fun i x => fit x ∧ ∃ cs, d.K w x cs ∧ ∀ j, j < d.sz → w.cell? ((a.add (i * d.sz)).add j) = cs[j]?) sz elems 0 hp
    have hlen := len_bulk (elems.map (·.1))
    rw [List.length_map] at hlen
    have hxl : xs.length = len := by rw [l1, h4]
    refine ⟨(some a, cap), xs, by rw [hxl], ⟨by simp only; omega, by omega, fun hne => ?_⟩, fun x hx => ?_, by omega, by omega⟩
    · have hpos : 0 < xs.length := List.length_pos_iff.2 hne
      obtain ⟨_, cs, k1, k2⟩ := l2 0 xs[0] (List.getElem?_eq_getElem hpos)
      have hcl := d.len k1
      have hsp : a.spot = none := by
        have := World.cell?_spot (k2 0 h0 |>.trans (List.getElem?_eq_getElem (by omega)))
        simpa [Addr.add] using this
      obtain ⟨b, o, sp⟩ := a
      simp only at hsp
      subst hsp
      refine ⟨b, o, rfl, fun i x hx => ?_⟩
      obtain ⟨_, cs, k1, k2⟩ := l2 i x hx
      refine ⟨cs, k1, fun j v hv => ?_⟩
      have hj : j < d.sz := by rw [← d.len k1]; exact (List.getElem?_eq_some_iff.1 hv).1
      have := k2 j hj
      rw [addr_add, addr_add, Nat.zero_add] at this
      rw [this, hv]
    · obtain ⟨i, hi⟩ := List.mem_iff_getElem?.1 hx
      exact (l2 i x hi).1
/-- The parts of a struct, one by one. -/
theorem rdStruct {P : Program} {w : World} {t : TypeId} {fs : Array Field} (ht : P.underlying t = some (.struct fs)) {H : Type} {enc : TypeId × Value → H} {base : Nat} {spare : Nat → Bool} {held : Bool} {n : Nat} {cs : List Value} {y : DataW H × List MemPlace} (h : DataW.trod enc P w base spare held n t cs = some y) :
    ∃ (l : List (DataW H × List MemPlace)) (m : Nat), Rows.uptoBulk y.1 = Rows.uptoBulkAll (l.map (·.1)) + 1 ∧ cs.length = P.cellsOf t ∧ ∀ (i : Nat) (f : Field), fs.toList[i]? = some f → ∃ z, l[i]? = some z ∧ DataW.trod enc P w base spare held m f.type ((cs.drop f.offset).take (P.cellsOf f.type)) = some z := by
  obtain ⟨xs, m, rfl, rfl, h1, h2, h3⟩ := DataW.trod_struct ht h
  refine ⟨xs, m, by simp [Rows.uptoBulk], h1, fun i f hf => ?_⟩
  rw [Array.getElem?_toList] at hf
  have h4 := h3 i f hf
  have hi : i < xs.length := by rw [h2]; exact (Array.getElem?_eq_some_iff.1 hf).1
  exact ⟨xs[i], List.getElem?_eq_getElem hi, by rw [h4]; exact List.getElem?_eq_getElem hi⟩
theorem len2 {l : List Value} (h : l.length = 2) : ∃ a b, l = [a, b] := by
  match l, h with
  | [a, b], _ => exact ⟨a, b, rfl⟩
theorem len3 {l : List Value} (h : l.length = 3) : ∃ a b c, l = [a, b, c] := by
  match l, h with
  | [a, b, c], _ => exact ⟨a, b, c, rfl⟩
theorem len7 {l : List Value} (h : l.length = 7) : ∃ a b c d e f g, l = [a, b, c, d, e, f, g] := by
  match l, h with
  | [a, b, c, d, e, f, g], _ => exact ⟨a, b, c, d, e, f, g, rfl⟩
theorem len9 {l : List Value} (h : l.length = 9) : ∃ i j a b c d e f g, l = [i, j, a, b, c, d, e, f, g] := by
  match l, h with
  | [i, j, a, b, c, d, e, f, g], _ => exact ⟨i, j, a, b, c, d, e, f, g, rfl⟩
theorem cellInt : Tryz.prog.cellsOf 3 = 1 := by kernel_rfl
theorem cellStr : Tryz.prog.cellsOf 9 = 1 := by kernel_rfl
theorem cellEs : Tryz.prog.cellsOf 41 = 1 := by kernel_rfl
theorem cellRs : Tryz.prog.cellsOf 42 = 1 := by kernel_rfl
theorem cellEnt : Tryz.prog.cellsOf 127 = 2 := by kernel_rfl
theorem cellRun : Tryz.prog.cellsOf 139 = 3 := by kernel_rfl
theorem cellIno : Tryz.prog.cellsOf 44 = 7 := by kernel_rfl
theorem cellDee : Tryz.prog.cellsOf 46 = 9 := by kernel_rfl
theorem rdEnt (w : World) : RdT Tryz.prog w 127 dEnt (fun e => FitE e) (fun e => e.name.size + 1) := ⟨fun {H enc base spare held n cs y} h hb => by
  obtain ⟨l, m, hB, hl, hp⟩ := rdStruct Tryz.underlying127 h
  obtain ⟨z0, e0, t0⟩ := hp 0 _ rfl
  obtain ⟨z1, e1, t1⟩ := hp 1 _ rfl
  simp only [cellStr, cellInt] at t0 t1
  obtain ⟨s, c0, rfl, _⟩ := DataW.trod_string Tryz.underlying9 t0
  obtain ⟨v, c1, rfl, hv⟩ := DataW.trod_int Tryz.underlying3 t1
  rw [cellEnt] at hl
  obtain ⟨a, b, rfl⟩ := len2 hl
  focus
    simp at c0 c1
    subst c0 c1
    have hb0 := part_le (l := l.map (·.1)) (i := 0) (by rw [List.getElem?_map, e0]; rfl)
    simp only [Rows.uptoBulk] at hb0
    have hs : s.data.toList.length = s.size := by simp
    refine ⟨⟨s, v⟩, rfl, ⟨by simp only; omega, wf_fit hv⟩, by simp only; omega⟩⟩
theorem rdRun (w : World) : RdT Tryz.prog w 139 dRn (fun r => FitR r) (fun _ => 1) := ⟨fun {H enc base spare held n cs y} h hb => by
  obtain ⟨l, m, hB, hl, hp⟩ := rdStruct Tryz.underlying139 h
  obtain ⟨z0, e0, t0⟩ := hp 0 _ rfl
  obtain ⟨z1, e1, t1⟩ := hp 1 _ rfl
  obtain ⟨z2, e2, t2⟩ := hp 2 _ rfl
  simp only [cellInt] at t0 t1 t2
  obtain ⟨u, c0, rfl, h0⟩ := DataW.trod_int Tryz.underlying3 t0
  obtain ⟨v, c1, rfl, h1⟩ := DataW.trod_int Tryz.underlying3 t1
  obtain ⟨x, c2, rfl, h2⟩ := DataW.trod_int Tryz.underlying3 t2
  rw [cellRun] at hl
  obtain ⟨a, b, c, rfl⟩ := len3 hl
  focus
    simp at c0 c1 c2
    subst c0 c1 c2
    exact ⟨⟨u, v, x⟩, rfl, ⟨wf_fit h0, wf_fit h1, wf_fit h2⟩, one_le _⟩⟩
/-- The size of an inode. -/
def szI (x : Ino) : Nat := x.target.size + sumN (x.ents.map fun e => e.name.size + 1) + x.runs.length
theorem rdIno (w : World) : RdT Tryz.prog w 44 dIno (fun x => FitN x) szI := ⟨fun {H enc base spare held n cs y} h hb => by
  obtain ⟨l, m, hB, hl, hp⟩ := rdStruct Tryz.underlying44 h
  obtain ⟨z0, e0, t0⟩ := hp 0 _ rfl
  obtain ⟨z1, e1, t1⟩ := hp 1 _ rfl
  obtain ⟨z2, e2, t2⟩ := hp 2 _ rfl
  obtain ⟨z3, e3, t3⟩ := hp 3 _ rfl
  obtain ⟨z4, e4, t4⟩ := hp 4 _ rfl
  obtain ⟨z5, e5, t5⟩ := hp 5 _ rfl
  obtain ⟨z6, e6, t6⟩ := hp 6 _ rfl
  simp only [cellInt, cellStr, cellEs, cellRs] at t0 t1 t2 t3 t4 t5 t6
  obtain ⟨v0, c0, rfl, h0⟩ := DataW.trod_int Tryz.underlying3 t0
  obtain ⟨v1, c1, rfl, h1⟩ := DataW.trod_int Tryz.underlying3 t1
  obtain ⟨v2, c2, rfl, h2⟩ := DataW.trod_int Tryz.underlying3 t2
  obtain ⟨v3, c3, rfl, h3⟩ := DataW.trod_int Tryz.underlying3 t3
  obtain ⟨s, c4, rfl, _⟩ := DataW.trod_string Tryz.underlying9 t4
  have g4 : (l.map (·.1))[4]? = some (.lit (.string s.data.toList)) := by rw [List.getElem?_map, e4]; rfl
  have g5 : (l.map (·.1))[5]? = some z5.1 := by rw [List.getElem?_map, e5]; rfl
  have g6 : (l.map (·.1))[6]? = some z6.1 := by rw [List.getElem?_map, e6]; rfl
  have hbb := part_three (by omega) (by omega) g4 g5 g6
  have hs : s.data.toList.length = s.size := by simp
  simp only [Rows.uptoBulk] at hbb
  obtain ⟨se, xe, c5, ok5, f5, b5, n5⟩ := rdSlice (rdEnt w) Tryz.underlying41 cellEnt (by decide) t5 (by omega)
  obtain ⟨sr, xr, c6, ok6, f6, b6, n6⟩ := rdSlice (rdRun w) Tryz.underlying42 cellRun (by decide) t6 (by omega)
  rw [cellIno] at hl
  obtain ⟨a0, a1, a2, a3, a4, a5, a6, rfl⟩ := len7 hl
  focus
    simp at c0 c1 c2 c3 c4 c5 c6
    subst c0 c1 c2 c3 c4 c5 c6
    refine ⟨⟨v0, v1, v2, v3, s, xe, xr⟩, ⟨se, sr, rfl, ok5, ok6⟩, ⟨wf_fit h0, wf_fit h1, wf_fit h2, wf_fit h3, by simp only; omega, by simp only; omega, by simp only; omega, f5, f6⟩, ?_⟩
    simp only [szI]
    omega⟩
theorem rdDee (w : World) : RdT Tryz.prog w 46 dDee (fun x => fitI x.kind ∧ fitI x.no ∧ FitN x.ino) (fun x => szI x.ino + 1) := ⟨fun {H enc base spare held n cs y} h hb => by
  obtain ⟨l, m, hB, hl, hp⟩ := rdStruct Tryz.underlying46 h
  obtain ⟨z0, e0, t0⟩ := hp 0 _ rfl
  obtain ⟨z1, e1, t1⟩ := hp 1 _ rfl
  obtain ⟨z2, e2, t2⟩ := hp 2 _ rfl
  simp only [cellInt, cellIno] at t0 t1 t2
  obtain ⟨v0, c0, rfl, h0⟩ := DataW.trod_int Tryz.underlying3 t0
  obtain ⟨v1, c1, rfl, h1⟩ := DataW.trod_int Tryz.underlying3 t1
  have hbb := part_le (l := l.map (·.1)) (i := 2) (d := z2.1) (by rw [List.getElem?_map, e2]; rfl)
  obtain ⟨x, ⟨se, sr, c2, ok⟩, hf, hz⟩ := (rdIno w).get t2 (by omega)
  rw [cellDee] at hl
  obtain ⟨a0, a1, b0, b1, b2, b3, b4, b5, b6, rfl⟩ := len9 hl
  focus
    simp at c0 c1 c2
    subst c0 c1
    obtain ⟨rfl, rfl, rfl, rfl, rfl, rfl, rfl⟩ := c2
    exact ⟨⟨v0, v1, x⟩, ⟨se, sr, rfl, ok⟩, ⟨wf_fit h0, wf_fit h1, hf⟩, by simp only; omega⟩⟩
end Go.Proofs.YtbbaoeidobdblaaGreat.Rdk

/- What comes in, read: lists of lists of deeds. -/
set_option linter.unusedVariables false
set_option linter.unusedSimpArgs false
namespace Go.Proofs.YtbbaoeidobdblaaGreat.Rdk
open Go Go.Proofs.YtbbaoeidobdblaaGreat.Sx

theorem rdDees (w : World) : RdT Tryz.prog w 47 dDs (fun ds => DeesIn ds) (fun _ => 1) := ⟨fun {H enc base spare held n cs y} h hb => by
  obtain ⟨s, xs, hc, ok, hf, hs, hl⟩ := rdSlice (rdDee w) Tryz.underlying47 cellDee (by decide) h hb
  exact ⟨xs, ⟨s, hc, ok⟩, ⟨hf, by have h : sumN (xs.map fun d => szI d.ino + 1) ≤ 1048576 := (by omega); exact h⟩, one_le _⟩⟩
end Go.Proofs.YtbbaoeidobdblaaGreat.Rdk

/- JournalAgain, its narrowed form: for every input of bulk at most 1048576 the law returns true, and each argument reads behind the call as it read ahead of it. -/
set_option linter.unusedVariables false
set_option linter.unusedSimpArgs false
namespace Go.Proofs.YtbbaoeidobdblaaGreat.journalAgain
open Go.ChangeShapes Go.WideShapes Go.ChangeAt Go.RowKit Go.Deep Go.Proofs.YtbbaoeidobdblaaGreat.Rowl

theorem own : ownKnob Tryz.prog.godebug = none := by kernel_rfl
theorem laidOut : laidOutB Tryz.prog = true := by kernel_rfl

set_option maxRecDepth 100000 in
theorem lifted (os : Os) (started : os.Started) (H : Type) (enc : TypeId × Value → H) (F : Stop.Interp) :
    ReturnsInHanded {} Tryz.checked os 4 .any ((Rows.OpenSpec.upto Rows.journalAgainSpec).pre6 enc Tryz.prog Tryz.f4 Rows.journalAgainUptoRow.domain false) (((Rows.OpenSpec.upto Rows.journalAgainSpec).at F).post enc Tryz.prog Tryz.f4 false true false false) := by
  refine returnsInHanded_of_cond (C := Tryz.checked) (s := Rows.OpenSpec.upto Rows.journalAgainSpec) (k := Rows.uptoSmall) rfl own started (by kernel_rfl) Tryz.func4
    (OpenSpec.witness (enc := enc) (C := Tryz.checked) (s := Rows.OpenSpec.upto Rows.journalAgainSpec) (k := Rows.uptoSmall) rfl false ⟨#[], #[.slice none 0 0, .int .i64 0], []⟩ 8 (by kernel_rfl) (by kernel_rfl) (by kernel_rfl)
      (x := ([.nil, .lit (.int .i64 0)], [], [])) (by kernel_rfl) rfl (by kernel_rfl)) ?_
  intro W base args ds gs before hval0 hW hcnd hk0 _
  have hval : ∀ (j : Nat) t v, Tryz.f4.params[j]? = some t → args[j]? = some v → Value.okWide Tryz.prog W .any base t v := hval0
  have hW' := hW
  obtain ⟨p, q, hA0, hV, rfl, hfz, hnd⟩ := hW
  have hA : DataW.TrodAll enc Tryz.prog W 0 (fun _ => true) true Tryz.f4.params.toList args.toList ds p := hA0
  rw [Tryz.params4] at hA hval
  obtain ⟨v0, vs0, d0, ds0, p0, q0, hargs, rfl, rfl, h0, r0⟩ := trodAll_cons hA
  obtain ⟨v1, vs1, d1, ds1, p1, q1, rfl, rfl, rfl, h1, r1⟩ := trodAll_cons r0
  obtain ⟨rfl, rfl, rfl⟩ := trodAll_nil r1
  obtain rfl : args = #[v0, v1] := by cases args; simp_all
  obtain ⟨rfl, rfl⟩ := trodVars_none hV
  have hk : Rows.uptoBulk d0 + Rows.uptoBulk d1 ≤ 1048576 := by
    have h := of_decide_eq_true hk0
    simp only [Rows.uptoBulkAll, List.append_nil] at h
    omega
  have k0 := h0
  have lt0 : ∀ x ∈ p0, x.block < W.heap.size := by obtain ⟨m, hm⟩ := k0; exact DataW.trod_lt m _ _ _ hm
  obtain ⟨b0, len0, cap0, rfl⟩ := okWide_slice Tryz.underlying53 (hval 0 53 v0 rfl rfl)
  obtain ⟨m0, f0⟩ := h0
  obtain ⟨s0, l0, e0, ok0, fit0, sz0, ln0⟩ := Rdk.rdSlice (Rdk.rdDees W) Tryz.underlying53 (by kernel_rfl) (by decide) f0 (by simp only; omega)
  obtain ⟨rfl, rfl, rfl⟩ : b0 = s0.1 ∧ len0 = l0.length ∧ cap0 = s0.2 := by simpa [Value.cells] using e0
  simp only at sz0 ln0
  have k1 := h1
  have lt1 : ∀ x ∈ p1, x.block < W.heap.size := by obtain ⟨m, hm⟩ := k1; exact DataW.trod_lt m _ _ _ hm
  obtain ⟨a1, rfl, rfl, rfl, w1⟩ := open_int Tryz.underlying3 (hval 1 3 v1 rfl rfl) h1
  clear hA0 hval0
  refine (row_calls (Sx.journalAgainLaw0 W l0 a1 (fun W' e => ⟨rfl, Sx.sl_keep Sx.keepDs e ok0⟩) fit0)).mono fun e W' ⟨he, gr⟩ => ?_
  subst he
  have bel : Below W.heap.size W W' := ⟨gr.os, gr.tape, gr.output, gr.size, fun k hk => gr.block k hk (by simp)⟩
  exact ⟨_, rfl, _, _, _, [], _, [], hW', trodAll_mk1 (shut_bool Tryz.underlying4 _), (trodAll_cons_mk (Below.trod laidOut (by kernel_rfl) (of_decide_eq_true (by kernel_rfl)) k0 bel lt0) (trodAll_cons_mk (Below.trod laidOut (by kernel_rfl) (of_decide_eq_true (by kernel_rfl)) k1 bel lt1) trodAll_mk0)), rfl, bel.frame _, fun h => by cases h⟩

theorem over : Rows.journalAgainUptoRow.holds Tryz.pinned (Rows.OpenSpec.upto Rows.journalAgainSpec) :=
  OpenClaim.holds_of_cond 4 Tryz.f4 rfl rfl rfl rfl rfl rfl rfl ⟨rfl, rfl, rfl, rfl, rfl⟩ rfl rfl rfl rfl rfl (by kernel_rfl) Tryz.func4 (by kernel_rfl)
    (of_decide_eq_true (by kernel_rfl)) (by unfold Func.isWrapper; first | (rw [if_pos (by decide +kernel)]; kernel_rfl) | (rw [if_neg (by decide +kernel)]; exact ⟨rfl, rfl⟩))
    (fun os started H enc _ F => lifted os started H enc F)

/-- The statement. -/
theorem proved : Rows.JournalAgainUptoSaid := over
#print axioms proved
end Go.Proofs.YtbbaoeidobdblaaGreat.journalAgain

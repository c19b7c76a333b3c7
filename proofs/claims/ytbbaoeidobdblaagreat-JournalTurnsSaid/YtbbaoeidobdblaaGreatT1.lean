/- Laid together: Sk63, JournalTurns. -/
import Derived.Test.YtbbaoeidobdblaaGreatK2
import Derived.Test.YtbbaoeidobdblaaGreatRows
/- garretlaw17.JournalTurns. -/
set_option linter.unusedVariables false
set_option linter.unusedSimpArgs false
namespace Go.Proofs.YtbbaoeidobdblaaGreat.Sx
open Go

attribute [local simp ↓] ifb_true' ifb_false'
attribute [local simp] ifb_true ifb_false ifb_eq sx argsT find ev evOp evs evo evBin evInt evStr evNil evNilA ptrA slcA isNoneA asB evLoad look del cellsB evUn evConv kdec fld evFieldA evField evIdxA evIdx evSlc bndL bndH evLen mmi put resV guardV gvL setO tupV cellsOf ones one upd lits nv exitTo SV.val CV.val TI.agg rdyA allR keepB scan simpO gsp isS subs keepT pickT wr memN pubs Res.fact Region.binds bld rest give delL back Res.eqv vi vb num Sv.val undef
/-- So many letters t. -/
def tN (n : Nat) : ByteArray := ⟨(List.replicate n 116).toArray⟩
theorem tN_size (n : Nat) : (tN n).size = n := by simp [tN, ByteArray.size]
theorem tN_succ (n : Nat) : tN n ++ ⟨#[116]⟩ = tN (n + 1) := by
  apply ByteArray.ext
  simp only [tN, ByteArray.data_append]
  apply Array.ext'
  rw [List.replicate_succ']
  simp
/-- How often a sector was erased. -/
def cnt (er : List (Int × Int)) (i : Nat) : Int := (Mx.mget er i).getD 0
theorem cnt_erM (er : List (Int × Int)) (i j : Nat) : cnt (erM er i) j = if j = i then IntKind.i64.wrap (cnt er i + 1) else cnt er j := by
  unfold cnt erM
  rw [Mx.mget_mput]
  by_cases h : j = i
  · subst h; simp
  · have : ¬ (j : Int) = i := by omega
    simp [h, this]
theorem cnt_erN (base : Nat) : ∀ (k : Nat) (er : List (Int × Int)) (j : Nat), cnt (erN er base k) j = if base ≤ j ∧ j < base + k then IntKind.i64.wrap (cnt er j + 1) else cnt er j
  | 0, er, j => by rw [erN, if_neg (by omega)]
  | k + 1, er, j => by
    rw [erN, cnt_erN base k, cnt_erM]
    by_cases h : j = base + k
    · subst h
      rw [if_neg (by omega), if_pos rfl, if_pos (by omega)]
    · rw [if_neg h]
      by_cases h2 : base ≤ j ∧ j < base + k
      · rw [if_pos h2, if_pos (by omega)]
      · rw [if_neg h2, if_neg (by omega)]
/-- The halves' sectors were erased so often. -/
structure Ev (er : List (Int × Int)) (n : Nat) (a0 a1 : Nat) : Prop where
  lo : ∀ j, j < n → cnt er j = a0
  hi : ∀ j, n ≤ j → j < 2 * n → cnt er j = a1
theorem ev_half {er : List (Int × Int)} {n a0 a1 : Nat} (h : Ev er n a0 a1) (hb : a0 ≤ 1000000 ∧ a1 ≤ 1000000) : Ev (erN er (0 * n) n) n (a0 + 1) a1 ∧ Ev (erN er (1 * n) n) n a0 (a1 + 1) := by
  refine ⟨⟨fun j hj => ?_, fun j h1 h2 => ?_⟩, ⟨fun j hj => ?_, fun j h1 h2 => ?_⟩⟩
  · rw [cnt_erN, if_pos (by omega), h.lo j hj, w64 (by omega) (by omega)]; omega
  · rw [cnt_erN, if_neg (by omega), h.hi j h1 h2]
  · rw [cnt_erN, if_neg (by omega), h.lo j hj]
  · rw [cnt_erN, if_pos (by omega), h.hi j h1 h2, w64 (by omega) (by omega)]; omega
theorem ev_none (n : Nat) : Ev [] n 0 0 := ⟨fun _ _ => rfl, fun _ _ _ => rfl⟩
theorem form_er {c : Cp} (hf : c.fit) (hp : live c.p) (x : Nat × Sl) : (formJ c x).c.er = erN (erN c.er (0 * halfN c) (halfN c)) (1 * halfN c) (halfN c) := by
  obtain ⟨_, _, _, _, _, q, h1, h2⟩ := form_live hf hp
  show (formC c).2.er = _
  rw [h2]
theorem erases0 (w : World) (I S : Nat → Prop) (hI : ∀ b, I b → b < w.heap.size) (c : Cp) (i : Nat) (hi : i ≤ 1000000) (hS : Owns c.res S w) (hSI : ∀ b, S b → b < w.heap.size ∧ ¬ I b) :
    FnS Tryz.prog 32 #[ptrV c.gc, .int .i64 (i : Nat)] w I S (fun _ : Unit => .int .i64 (cnt c.er i)) (fun _ => c.res) (fun _ _ => True) := by
  refine enterS (svs := [.c (.bp 1000 c.gc 0), .c (.v (.int .i64 (i : Nat)))]) tysOk Tryz.func32 rfl Tryz.ntmps32 Tryz.results32 (by kernel_rfl) (by simp) hI c.res hS hSI (fun _ => True) (fun _ _ => trivial) fun C hC hN ok => ?_
  have hwf : (Lit.int .i64 (i : Nat)).wf = true := wf64 (by omega) (by omega)
  have hgl : (Mx.mget (Mx.mv (Value.int .i64) c.er) i).getD (.int .i64 0) = .int .i64 ((Mx.mget c.er i).getD 0) := by rw [Mx.mget_mv]; cases Mx.mget c.er i <;> rfl
  simp [hN]
  refine bld1 ok rfl rfl rfl (kv1 i) (fun w => key_build _ w) ?_
  simp [hN]
  refine mapLook ok 1003 rfl Keya.key_one Tryz.underlying103 (fun w => zero_int w) rfl rfl rfl rfl hwf ?_
  simp [hN, hgl]
  exact retS hC () [1000, 1001, 1002, 1003] rfl (by simp [Cp.map, mapR]) fun _ _ _ => trivial
/-- What stands there behind so many commits. -/
def lnkI (t : ByteArray) : Ino := ⟨3, 3, 0, 0, t, [], []⟩
def stT (t : ByteArray) : Nat → Sta
  | 0 => newSta
  | k + 1 => ⟨k + 5, [newIno 1 2 emp, lnkI t], []⟩
def turnD (t : ByteArray) (k : Nat) : List Dee := [nextD (k + 5), ⟨2, 0, lnkI t⟩]
theorem turn_apply (t : ByteArray) (k : Nat) : applyL (stT t k) (turnD t k) = stT t (k + 1) := by
  have h1 : applyL (stT t k) (turnD t k) = applyOne (applyL (stT t k) [nextD (k + 5)]) ⟨2, 0, lnkI t⟩ := rfl
  rw [h1, next_apply]
  unfold applyOne
  rw [if_neg (by simp), if_pos rfl]
  cases k with
  | zero =>
    show (⟨_, putInoL [newIno 1 2 emp] (lnkI t), []⟩ : Sta) = _
    rw [put_last _ _ (fun y hy => by rw [List.mem_singleton.1 hy]; simp [newIno, lnkI])]
    rfl
  | succ k =>
    show (⟨_, putInoL [newIno 1 2 emp, lnkI t] (lnkI t), []⟩ : Sta) = _
    have : putInoL [newIno 1 2 emp, lnkI t] (lnkI t) = [newIno 1 2 emp, lnkI t] := by
      unfold putInoL
      rw [if_pos ⟨lnkI t, by simp, rfl⟩]
      unfold replI
      simp [newIno, lnkI, replI]
    rw [this]
    rfl
theorem lnk_w (t : ByteArray) : wI (lnkI t) = 45 + t.size := by rw [wI_eq]; simp [lnkI]
theorem root_w : wI (newIno 1 2 emp) = 45 := by rw [wI_eq]; simp [newIno, emp]; rfl
theorem stT_w (t : ByteArray) (k : Nat) : wholeB (stT t k) ≤ 99 + t.size := by
  rw [whole_w]
  cases k with
  | zero => show 9 + (sumN [wI (newIno 1 2 emp)] + 0) ≤ _; rw [sumN_cons, root_w]; simp; omega
  | succ k => show 9 + (sumN [wI (newIno 1 2 emp), wI (lnkI t)] + 0) ≤ _; rw [sumN_cons, sumN_cons, root_w, lnk_w]; simp; omega
theorem stT_len (t : ByteArray) (k : Nat) : (stT t k).inos.length ≤ 2 ∧ (stT t k).bad = [] := by
  cases k with
  | zero => exact ⟨by simp [stT, newSta], rfl⟩
  | succ k => exact ⟨Nat.le_refl _, rfl⟩
theorem turn_len (t : ByteArray) (k : Nat) : (deedsB (turnD t k)).length = 54 + t.size := by
  rw [deeds_len]
  show (deedB (nextD _)).length + ((deedB ⟨2, 0, lnkI t⟩).length + 0) = _
  have h1 : (deedB (nextD ((k : Int) + 5))).length = 9 := num_len 1 _ _ (.inl rfl)
  have h2 : (deedB ⟨2, 0, lnkI t⟩).length = 45 + t.size := lnk_w t
  omega
theorem lnk_fit {t : ByteArray} (h : t.size ≤ 1000) : FitN (lnkI t) := ⟨by unfold fitI; simp [lnkI], by unfold fitI; simp [lnkI], by unfold fitI; simp [lnkI], by unfold fitI; simp [lnkI], by show t.size < _; omega, by simp [lnkI], by simp [lnkI], fun e he => absurd he List.not_mem_nil, fun e he => absurd he List.not_mem_nil⟩
theorem turn_fit {t : ByteArray} {k : Nat} (h : t.size ≤ 1000) (hk : k ≤ 1000) : FitL (turnD t k) := ⟨fun d hd => by
  rcases List.mem_cons.1 hd with rfl | hd
  · exact ⟨.inl rfl, fun _ => by unfold fitI; simp only [nextD]; omega, fun e => absurd e (by simp [nextD])⟩
  · rw [List.mem_singleton.1 hd]
    exact ⟨.inr (.inl rfl), fun e => absurd rfl e, fun _ => lnk_fit h⟩⟩
theorem turn_row {W : World} {g : Nat} {t : ByteArray} {k : Nat} (h : W.ownsRow 0 46 9 (.slice (some ⟨g, 0, none⟩) 2 2) 2 [.int .i64 1, .int .i64 ((k : Int) + 5), .int .i64 0, .int .i64 0, .int .i64 0, .int .i64 0, .string ⟨#[]⟩, .slice none 0 0, .slice none 0 0, .int .i64 2, .int .i64 0, .int .i64 3, .int .i64 3, .int .i64 0, .int .i64 0, .string t, .slice none 0 0, .slice none 0 0]) : Sv.ok dDee W (some ⟨g, 0, none⟩, 2, 2) (turnD t k) := by
  refine Rows.sv (d := dDee) (xs := turnD t k) (Rows.cons_iff.2 ⟨_, _, rfl, ⟨(none, 0), (none, 0), rfl, ⟨Nat.zero_le _, Nat.zero_le _, rd_nil _ _ _⟩, ⟨Nat.zero_le _, Nat.zero_le _, rd_nil _ _ _⟩⟩, Rows.sole ⟨(none, 0), (none, 0), rfl, ⟨Nat.zero_le _, Nat.zero_le _, rd_nil _ _ _⟩, ⟨Nat.zero_le _, Nat.zero_le _, rd_nil _ _ _⟩⟩⟩) (by decide) (by simp [turnD]) h
set_option maxRecDepth 100000 in
set_option maxHeartbeats 8000000 in
theorem journalTurnsLaw0 (w : World) (g : Geo) (n size : Int) :
    Fn0 Tryz.prog 6 #[.agg (geoC g).toArray, .int .i64 n, .int .i64 size] w (fun _ => False) (fun b : Bool => .bool b) (fun y W => y = true) := by
  have hI : ∀ b, False → b < w.heap.size := fun b h => h.elim
  refine enter (svs := [.ag ((geoC g).map .v), .c (.v (.int .i64 n)), .c (.v (.int .i64 size))]) tysOk Tryz.func6 rfl Tryz.ntmps6 Tryz.results6 (by kernel_rfl) (by simp) hI (fun _ => True) (fun _ _ => trivial) fun C hC hN ok => ?_
  simp [hN]
  intro g3
  refine call0 ok rfl rfl rfl (fun w I hI hG => geometry0 w I hI g) fun y W _ => ?_
  have hgr := geoP_right g
  generalize geoP g = G at hgr
  obtain ⟨q0, ⟨q1, q2⟩, ⟨q3, q4⟩, ⟨q5, q6⟩, ⟨q7, q8⟩, ⟨q9, q10⟩⟩ := id hgr
  obtain ⟨N, hNN, hN30⟩ : ∃ N : Nat, IntKind.i64.wrap ((IntKind.u64.wrap n).tmod 80) = N ∧ N < 80 := by
    have h1 := modP_le n 80 (by decide)
    refine ⟨(modP n 80).toNat, ?_, by omega⟩
    rw [u64_wrap, Int.tmod_eq_emod_of_nonneg (by omega), w64 (by unfold modP at h1; omega) (by unfold modP at h1; omega)]
    unfold modP at *
    omega
  obtain ⟨Z, hZZ, hZ1⟩ : ∃ Z : Nat, IntKind.i64.wrap ((IntKind.u64.wrap size).tmod 60) = Z ∧ Z < 60 := by
    have h1 := modP_le size 60 (by decide)
    refine ⟨(modP size 60).toNat, ?_, by omega⟩
    rw [u64_wrap, Int.tmod_eq_emod_of_nonneg (by omega), w64 (by unfold modP at h1; omega) (by unfold modP at h1; omega)]
    unfold modP at *
    omega
  simp [hN, hNN, hZZ]
  refine draw ok [(3, .box g3 23 ((geoC G).map .v))] (by rw [ok.P]; exact mixed) (by kernel_rfl) ?_
  simp (maxSteps := 2000000) -implicitDefEqProofs [hN]
  refine callS ok rfl rfl rfl [] [] trivial rfl (fun gp : Nat => [(1001, .box gp 108 (powB ⟨-1, 0, false, 0⟩ (.map none)))]) (fun w I S hI hG hO hS => (powNew0 w I hI).lone hO) (fun r => by simp) (.inl fun k hk => by cases hk) fun gp W _ => ?_
  simp (maxSteps := 2000000) -implicitDefEqProofs [hN]
  obtain ⟨nb, hnb, hnb0, hnb1⟩ : ∃ nb : Nat, G.sectors * G.sector = (nb : Nat) ∧ 0 < nb ∧ nb ≤ 100000 := by
    obtain ⟨a, ha⟩ : ∃ a : Nat, G.sectors = a := ⟨G.sectors.toNat, by omega⟩
    obtain ⟨b, hb⟩ : ∃ b : Nat, G.sector = b := ⟨G.sector.toNat, by omega⟩
    refine ⟨a * b, by rw [ha, hb]; simp, Nat.mul_pos (by omega) (by omega), ?_⟩
    have : a * b ≤ 16 * 4096 := Nat.mul_le_mul (by omega) (by omega)
    omega
  refine callS ok rfl rfl rfl [] [] trivial rfl (fun x : Nat × Nat × Nat × Nat => [(1000, (newCp G gp ⟨-1, 0, false, 0⟩ (.map none) x nb).chip), (1002, (newCp G gp ⟨-1, 0, false, 0⟩ (.map none) x nb).row), (1003, (newCp G gp ⟨-1, 0, false, 0⟩ (.map none) x nb).map)]) (fun w I S hI hG hO hS => (norNew0 w I hI G gp nb ⟨-1, 0, false, 0⟩ (.map none) hgr hnb hnb0 hnb1).lone hO) (fun r => by simp [Cp.map, mapR]) (.inl fun k hk => by cases hk) fun x W _ => ?_
  obtain ⟨c0, hc0⟩ : ∃ c0, c0 = newCp G gp ⟨-1, 0, false, 0⟩ (.map none) x nb := ⟨_, rfl⟩
  have hfit : c0.fit := by
    rw [hc0]
    exact ⟨hgr, by simp only [newCp, List.length_replicate]; exact hnb.symm, by simp [newCp], by simp [newCp]⟩
  have hlive : live c0.p := by rw [hc0]; exact ⟨(by decide : (-1 : Int) < 0), rfl⟩
  have hgc : c0.gc = x.1 := by rw [hc0]; rfl
  have hpw : (.box gp 108 (powB ⟨-1, 0, false, 0⟩ (.map none)) : Res) = c0.pow := by rw [hc0]; rfl
  have hG0 : c0.g = G := by rw [hc0]; rfl
  have her : c0.er = [] := by rw [hc0]; rfl
  rw [hpw]
  simp only [← hc0, ← hgc]
  clear hpw hc0
  simp (maxSteps := 2000000) -implicitDefEqProofs [hN]
  refine call0 ok rfl rfl rfl (fun w I hI hG => awake17 w I hI) fun _ W _ => ?_
  simp [hN]
  have hform := form_live hfit hlive
  refine callS ok rfl rfl rfl [1000, 1001, 1002, 1003] c0.res (by simp [Cp.map, mapR]) rfl (fun x : Nat × Sl => [(1000, (formJ c0 x).c.chip), (1001, (formJ c0 x).c.pow), (1002, (formJ c0 x).c.row), (1003, (formJ c0 x).c.map), (1004, (formJ c0 x).box)]) (fun w I S hI hG hO hS' => format0 w I S hI c0 hfit hform.1 hform.2.1 hform.2.2.1 hO hS') (fun r => by simp [Cp.map, mapR]) (.inr fun x q hq => by simp at hq; rcases hq with rfl | rfl | rfl | rfl | rfl <;> simp) fun y W hy => ?_
  have hJ0 := jon_form hfit hlive y
  have hj0 : (formJ c0 y).gj = y.1 ∧ (formJ c0 y).s = newSta ∧ (formJ c0 y).si = y.2 ∧ (formJ c0 y).sb = (none, 0) ∧ (formJ c0 y).ep = 1 ∧ (formJ c0 y).half = 0 := ⟨rfl, rfl, rfl, rfl, rfl, rfl⟩
  obtain ⟨j, hj⟩ : ∃ j, j = formJ c0 y := ⟨_, rfl⟩
  simp only [← hj] at hJ0 hj0
  simp only [← hj]
  rw [← hj0.1]
  simp [hN]
  refine loopK [3, 7, 9] ok (fun i : Nat => [(12, .c (.v (.int .i64 (i : Nat)))), (11, .c (.v (.string (tN i)))), (1, .c (.v (.int .i64 (N : Nat)))), (2, .c (.v (.int .i64 (Z : Nat))))]) (fun i => [(1000, j.c.chip), (1001, j.c.pow), (1002, j.c.row), (1003, j.c.map), (1004, j.box), (3, .box g3 23 ((geoC G).map .v))]) (fun i W => i ≤ Z) (fun i => Z - i) 0 ?_ ?_ (fun W hW => Nat.zero_le _) ?_
  · simp [tN]
  · simp [Cp.map, mapR]
  rintro i W hi hG next
  rcases Nat.lt_or_ge i Z with hlt | hge
  · have e6 : IntKind.i64.wrap ((i : Int) + 1) = (i + 1 : Nat) := by rw [w64 (by omega) (by omega)]; omega
    have hs1 : (⟨#[116]⟩ : ByteArray).size = 1 := rfl
    simp [hN, hlt, tN_size, e6, hs1]
    exact ⟨by omega, next (i + 1) _ _ (by omega) (fun W h => ⟨hlt, h.2⟩) (by simp [tN_succ, Cp.map, mapR])⟩
  obtain rfl : i = Z := by omega
  clear next
  simp [hN]
  have hts : (tN i).size ≤ 59 := by rw [tN_size]; omega
  generalize tN i = t at hts
  have hn0 : halfN c0 = (G.sectors / 2).toNat := by unfold halfN; rw [hG0]
  obtain ⟨hn, hhn⟩ : ∃ hn, hn = (G.sectors / 2).toNat := ⟨_, rfl⟩
  rw [← hhn] at hn0
  have hev0 : Ev j.c.er hn 1 1 := by
    have h1 := form_er hfit hlive y
    rw [← hj, hn0, her] at h1
    rw [h1]
    exact (ev_half (ev_half (ev_none hn) (by decide)).1 (by decide)).2
  have hjg : j.c.g = G := by rw [hJ0.2.g, hG0]
  have hjc : j.c.gc = c0.gc := hJ0.2.gc
  refine loopK [3, 7, 9] ok (fun y : Nat × Jn => [(13, .c (.v (.int .i64 (y.1 : Nat)))), (11, .c (.v (.string t))), (1, .c (.v (.int .i64 (N : Nat))))]) (fun y => [(1000, y.2.c.chip), (1001, y.2.c.pow), (1002, y.2.c.row), (1003, y.2.c.map), (1004, y.2.box), (3, .box g3 23 ((geoC G).map .v))]) (fun z W => z.1 ≤ N ∧ Jon z.2 ∧ z.2.s = stT t z.1 ∧ z.2.ep ≤ 1 + z.1 ∧ z.2.gj = j.gj ∧ z.2.c.g = G ∧ z.2.c.gc = c0.gc ∧ (∃ m, m ≤ 1 + z.1 ∧ (z.2.half = 0 ∧ Ev z.2.c.er hn m m ∨ z.2.half = 1 ∧ Ev z.2.c.er hn m (m + 1))) ∧ StaR W z.2.s z.2.si z.2.sb) (fun y => N - y.1) (0, j) ?_ ?_ (fun W hW => ⟨Nat.zero_le _, hJ0.1, hj0.2.1, by rw [hj0.2.2.2.2.1]; show (1 : Int) ≤ 1 + (0 : Nat); decide, rfl, hjg, hjc, ⟨1, Nat.le_refl _, .inl ⟨hj0.2.2.2.2.2, hev0⟩⟩, by rw [hj0.2.1, hj0.2.2.1, hj0.2.2.2.1]; exact hW⟩) ?_
  · simp
  · simp [Cp.map, mapR]
  obtain ⟨gj, hgj⟩ : ∃ gj, gj = j.gj := ⟨_, rfl⟩
  rw [← hgj]
  clear hJ0 hj0 hform hev0 hjg hjc hj hgj hG hn0 hnb
  rintro ⟨k, j⟩ W ⟨hk, hjn, hjs, hje, hjp, hjg, hjc, hjm, hS⟩ hG2 next
  simp only at hk hjn hjs hje hjp hjg hjc hjm hS
  rcases Nat.lt_or_ge k N with hlt | hge2
  · have e6 : IntKind.i64.wrap ((k : Int) + 1) = (k + 1 : Nat) := by rw [w64 (by omega) (by omega)]; omega
    have e5 : IntKind.i64.wrap ((k : Int) + 5) = (k : Int) + 5 := w64 (by omega) (by omega)
    have eE : IntKind.i64.wrap (j.ep + 1) = j.ep + 1 := w64 (by have := hjn.ep; omega) (by omega)
    simp [hN, hlt]
    refine callS ok rfl rfl rfl [1004] [j.box] (by simp) rfl (fun _ : Unit => [(1004, j.box)]) (fun w I S hI hG hO hS' => by have := half0 w I S hI j hO hS'; rw [hjp] at this; exact this) (fun r => by simp) (.inr fun x q hq => by simp at hq; subst hq; simp) fun _ W _ => ?_
    simp [hN]
    refine callS ok rfl rfl rfl [1004] [j.box] (by simp) rfl (fun _ : Unit => [(1004, j.box)]) (fun w I S hI hG hO hS' => by have := epoch0 w I S hI j hO hS'; rw [hjp] at this; exact this) (fun r => by simp) (.inr fun x q hq => by simp at hq; subst hq; simp) fun _ W _ => ?_
    simp [hN, e5]
    intro gd
    have hge := halfSz_ge hjn.fit
    have hlen := stT_len t k
    have hw2 := stT_w t (k + 1)
    have hlen2 := stT_len t (k + 1)
    have hap := turn_apply t k
    have htl := turn_len t k
    have hcm : ∀ v : Sl × Sl, (commitM j (turnD t k) v).1 = 0 ∧ Jon (commitM j (turnD t k) v).2 ∧ (commitM j (turnD t k) v).2.s = stT t (k + 1) ∧ (commitM j (turnD t k) v).2.si = v.1 ∧ (commitM j (turnD t k) v).2.sb = v.2 ∧ (commitM j (turnD t k) v).2.gj = gj ∧ j.c.same (commitM j (turnD t k) v).2.c ∧ ((commitM j (turnD t k) v).2.ep = j.ep ∧ (commitM j (turnD t k) v).2.half = j.half ∧ (commitM j (turnD t k) v).2.c.er = j.c.er ∨ (commitM j (turnD t k) v).2.ep = j.ep + 1 ∧ (commitM j (turnD t k) v).2.half = 1 - j.half ∧ (commitM j (turnD t k) v).2.c.er = erN j.c.er ((1 - j.half) * halfN j.c) (halfN j.c)) := fun v => by
      rcases jon_commit hjn (turn_fit (t := t) (k := k) (by omega) (by omega)) v (by omega) with h | h
      · refine ⟨h.1, h.2.1, by rw [h.2.2.1, hjs, hap], h.2.2.2.1, h.2.2.2.2.1, by rw [h.2.2.2.2.2.1, hjp], h.2.2.2.2.2.2.1, ?_⟩
        rcases h.2.2.2.2.2.2.2 with h | h
        · exact .inl ⟨h.1, h.2.1, h.2.2.1⟩
        · exact .inr ⟨h.1, h.2.1, h.2.2.1⟩
      · have := h.2.1
        rw [hjs, hap] at this
        omega
    refine pub 77 rfl (by decide) (callS ok rfl rfl rfl [1000, 1001, 1002, 1003, 1004] j.res (by simp [Cp.map, mapR]) rfl (fun v : Sl × Sl => [(1000, (commitM j (turnD t k) v).2.c.chip), (1001, (commitM j (turnD t k) v).2.c.pow), (1002, (commitM j (turnD t k) v).2.c.row), (1003, (commitM j (turnD t k) v).2.c.map), (1004, (commitM j (turnD t k) v).2.box)]) (fun w I S hI hG hO hS' => by have := commit0 w I S hI j (a := some ⟨gd, 0, none⟩) (n := 2) (c := 2) (turnD t k) hjn.fit hjn.half (by have := hjn.ep; omega) (by have := hjn.used; have := half_le hjn.fit; omega) (fun W e => (hG W e).2.1.2.2.2.2.2.2.2.2) (fun W e => turn_row (hG W e).1) (by rw [hjs, hlen.2]; simp [turnD]; omega) (by rw [hjs, hap, hlen2.2]; simp; omega) (by rw [hjs, hap]; show wholeB _ ≤ _; omega) (by omega) hO hS'; rw [hjp] at this; exact this) (fun r => by simp [Cp.map, mapR]) (.inr fun x q hq => by simp at hq; rcases hq with rfl | rfl | rfl | rfl | rfl <;> simp) fun v W hv => ?_)
    obtain ⟨h1, h2, h3, h4, h5, h6, h7, h8⟩ := hcm v
    rw [h1]
    rw [hjs, hap] at hv
    simp only [hjs, hap]
    generalize (commitM j (turnD t k) v).2 = j2 at h2 h3 h4 h5 h6 h7 h8 ⊢
    simp [hN]
    refine callS ok rfl rfl rfl [1004] [j2.box] (by simp) rfl (fun _ : Sl × Sl => [(1004, j2.box)]) (fun w I S hI hG hO hS' => by have := state0 w I S hI j2 (fun W e => by rw [h3, h4, h5]; exact (hG W e).1 hjn.ended) (by rw [h3, hlen2.2]; simp; omega) hO hS'; rw [h6] at this; exact this) (fun r => by simp) (.inr fun x q hq => by simp at hq; subst hq; simp) fun z W _ => ?_
    have hnx : (applyL j2.s []).next = (k : Int) + 5 := by show j2.s.next = _; rw [h3]; rfl
    simp [hN, e5, hnx]
    refine callS ok rfl rfl rfl [1004] [j2.box] (by simp) rfl (fun _ : Unit => [(1004, j2.box)]) (fun w I S hI hG hO hS' => by have := epoch0 w I S hI j2 hO hS'; rw [h6] at this; exact this) (fun r => by simp) (.inr fun x q hq => by simp at hq; subst hq; simp) fun _ W _ => ?_
    have hm2 : ∃ m, m ≤ 1 + (k + 1) ∧ (j2.half = 0 ∧ Ev j2.c.er hn m m ∨ j2.half = 1 ∧ Ev j2.c.er hn m (m + 1)) := by
      obtain ⟨m, hm1, hm2⟩ := hjm
      have hnn : halfN j.c = hn := by unfold halfN; rw [hjg, hhn]
      rcases h8 with ⟨_, g2, g3'⟩ | ⟨_, g2, g3'⟩
      · exact ⟨m, by omega, by rw [g2, g3']; exact hm2⟩
      · rw [hnn] at g3'
        rcases hm2 with ⟨e1, e2⟩ | ⟨e1, e2⟩
        · rw [e1] at g2 g3'
          exact ⟨m, by omega, .inr ⟨g2, by rw [g3']; exact (ev_half e2 ⟨by omega, by omega⟩).2⟩⟩
        · rw [e1] at g2 g3'
          exact ⟨m + 1, by omega, .inl ⟨g2, by rw [g3']; exact (ev_half e2 ⟨by omega, by omega⟩).1⟩⟩
    have hep2 : j2.ep ≤ j.ep + 1 := by rcases h8 with h | h <;> omega
    rcases h8 with ⟨g1, g2, g3'⟩ | ⟨g1, g2, g3'⟩
    case' inl =>
      have hgt : ¬ j.ep + 1 < j.ep := by omega
      rw [g1]
      simp [hN, eE, hgt]
    case' inr =>
      have hne : ¬ j.ep + 1 = j.ep := by omega
      have hhf : ¬ ((1 - j.half : Nat) : Int) = (j.half : Nat) := by have := hjn.half; omega
      rw [g1]
      simp [hN, eE]
    all_goals refine callS ok rfl rfl rfl [1004] [j2.box] (by simp) rfl (fun _ : Unit => [(1004, j2.box)]) (fun w I S hI hG hO hS' => by have := epoch0 w I S hI j2 hO hS'; rw [h6] at this; exact this) (fun r => by simp) (.inr fun x q hq => by simp at hq; subst hq; simp) fun _ W _ => ?_
    case' inl =>
      rw [g1]
      simp [hN, eE, hgt]
    case' inr =>
      rw [g1]
      simp [hN, eE, hne]
    all_goals refine callS ok rfl rfl rfl [1004] [j2.box] (by simp) rfl (fun _ : Unit => [(1004, j2.box)]) (fun w I S hI hG hO hS' => by have := half0 w I S hI j2 hO hS'; rw [h6] at this; exact this) (fun r => by simp) (.inr fun x q hq => by simp at hq; subst hq; simp) fun _ W _ => ?_
    case' inl =>
      rw [g2]
      simp [hN, e6]
    case' inr =>
      rw [g2]
      simp [hN, e6, hhf]
    all_goals exact next (k + 1, j2) _ _ (by simp only; omega) (fun W hW => ⟨⟨hlt, h2, h3, by simp only; omega, h6, by rw [h7.g, hjg], by rw [h7.gc, hjc], hm2, by simp only [h3, h4, h5]; exact hW.2.1 hjn.ended⟩, hW.2.2.2.2⟩) (by simp [Cp.map, mapR])
  · obtain rfl : k = N := by omega
    clear next
    have hec : ∀ i, i ≤ 1000000 → ∀ (w : World) (I S : Nat → Prop), (∀ b, I b → b < w.heap.size) → Owns j.c.res S w → (∀ b, S b → b < w.heap.size ∧ ¬ I b) → FnS Tryz.prog 32 #[ptrV c0.gc, .int .i64 (i : Nat)] w I S (fun _ : Unit => .int .i64 (cnt j.c.er i)) (fun _ => j.c.res) (fun _ _ => True) := fun i hi w I S hI hO hS' => by
      have := erases0 w I S hI j.c i hi hO hS'
      rw [hjc] at this
      exact this
    obtain ⟨m, hm1, hm2⟩ := hjm
    have h2n : G.sectors = 2 * (hn : Nat) := by
      have h0 : G.sectors % 2 = 0 := by rw [← Int.tmod_eq_emod_of_nonneg (by omega)]; exact q0
      rw [hhn]; omega
    have hcn : ∀ i, i < 2 * hn → (m : Int) ≤ cnt j.c.er i ∧ cnt j.c.er i ≤ m + 1 := fun i hi => by
      rcases hm2 with ⟨_, e⟩ | ⟨_, e⟩
      · rcases Nat.lt_or_ge i hn with h | h
        · rw [e.lo i h]; omega
        · rw [e.hi i h hi]; omega
      · rcases Nat.lt_or_ge i hn with h | h
        · rw [e.lo i h]; omega
        · rw [e.hi i h hi]; omega
    have hc0 := hcn 0 (by omega)
    simp [hN]
    refine callS ok rfl rfl rfl [1000, 1001, 1002, 1003] j.c.res (by simp [Cp.map, mapR]) rfl (fun _ : Unit => [(1000, j.c.chip), (1001, j.c.pow), (1002, j.c.row), (1003, j.c.map)]) (fun w I S hI hG hO hS' => hec 0 (by omega) w I S hI hO hS') (fun r => by simp [Cp.map, mapR]) (.inr fun x q hq => by simp at hq; rcases hq with rfl | rfl | rfl | rfl <;> simp) fun _ W _ => ?_
    simp [hN]
    refine callS ok rfl rfl rfl [1000, 1001, 1002, 1003] j.c.res (by simp [Cp.map, mapR]) rfl (fun _ : Unit => [(1000, j.c.chip), (1001, j.c.pow), (1002, j.c.row), (1003, j.c.map)]) (fun w I S hI hG hO hS' => hec 0 (by omega) w I S hI hO hS') (fun r => by simp [Cp.map, mapR]) (.inr fun x q hq => by simp at hq; rcases hq with rfl | rfl | rfl | rfl <;> simp) fun _ W _ => ?_
    simp [hN]
    refine loopK [3, 7, 9] ok (fun y : Nat × Int × Int => [(19, .c (.v (.int .i64 (y.1 : Nat)))), (17, .c (.v (.int .i64 y.2.1))), (18, .c (.v (.int .i64 y.2.2)))]) (fun _ => [(1000, j.c.chip), (1001, j.c.pow), (1002, j.c.row), (1003, j.c.map), (1004, j.box), (3, .box g3 23 ((geoC G).map .v))]) (fun y W => y.1 ≤ 2 * hn ∧ (m : Int) ≤ y.2.1 ∧ y.2.1 ≤ m + 1 ∧ (m : Int) ≤ y.2.2 ∧ y.2.2 ≤ m + 1) (fun y => 2 * hn - y.1) (0, cnt j.c.er 0, cnt j.c.er 0) ?_ ?_ (fun W hW => ⟨Nat.zero_le _, hc0.1, hc0.2, hc0.1, hc0.2⟩) ?_
    · simp
    · simp [Cp.map, mapR]
    rintro ⟨i, lo, hi⟩ W ⟨hi1, hi2, hi3, hi4, hi5⟩ hG3 next
    simp only at hi1 hi2 hi3 hi4 hi5
    rcases Nat.lt_or_ge i (2 * hn) with hlt | hge3
    · have e6 : IntKind.i64.wrap ((i : Int) + 1) = (i + 1 : Nat) := by rw [w64 (by omega) (by omega)]; omega
      have hc1 := hcn i hlt
      have hlt' : (i : Int) < G.sectors := by omega
      simp [hN, hlt']
      refine callS ok rfl rfl rfl [1000, 1001, 1002, 1003] j.c.res (by simp [Cp.map, mapR]) rfl (fun _ : Unit => [(1000, j.c.chip), (1001, j.c.pow), (1002, j.c.row), (1003, j.c.map)]) (fun w I S hI hG hO hS' => hec i (by omega) w I S hI hO hS') (fun r => by simp [Cp.map, mapR]) (.inr fun x q hq => by simp at hq; rcases hq with rfl | rfl | rfl | rfl <;> simp) fun _ W _ => ?_
      simp [hN]
      refine callS ok rfl rfl rfl [1000, 1001, 1002, 1003] j.c.res (by simp [Cp.map, mapR]) rfl (fun _ : Unit => [(1000, j.c.chip), (1001, j.c.pow), (1002, j.c.row), (1003, j.c.map)]) (fun w I S hI hG hO hS' => hec i (by omega) w I S hI hO hS') (fun r => by simp [Cp.map, mapR]) (.inr fun x q hq => by simp at hq; rcases hq with rfl | rfl | rfl | rfl <;> simp) fun _ W _ => ?_
      simp [hN, e6]
      refine next (i + 1, (if cnt j.c.er i < lo then cnt j.c.er i else lo), (if hi < cnt j.c.er i then cnt j.c.er i else hi)) _ _ (by simp only; omega) (fun W hW => ⟨⟨hlt, ?_, ?_, ?_, ?_⟩, hW.2⟩) (by simp [Cp.map, mapR])
      all_goals
        simp only
        split <;> omega
    · have hge' : ¬ (i : Int) < G.sectors := by omega
      have hlen := stT_len t k
      have hw1 : IntKind.i64.wrap (hi - lo) = hi - lo := w64 (by omega) (by omega)
      have hle1 : hi - lo ≤ 1 := by omega
      simp [hN, hge']
      refine callS ok rfl rfl rfl [1000, 1001, 1002, 1003] j.c.res (by simp [Cp.map, mapR]) rfl (fun x : Nat × Sl × Sl => [(1000, j.c.chip), (1001, j.c.pow), (1002, j.c.row), (1003, j.c.map), (1005, (reJ j x).box)]) (fun w I S hI hG hO hS' => by have := openOk0 w I S hI j hjn hO hS'; rw [hjc] at this; exact this) (fun r => by simp [reJ, Cp.map, mapR]) (.inr fun x q hq => by simp at hq; rcases hq with rfl | rfl | rfl | rfl | rfl <;> simp) fun x W hx => ?_
      simp [hN, hw1, hle1]
      refine callS ok rfl rfl rfl [1005] [(reJ j x).box] (by simp) rfl (fun _ : Sl × Sl => [(1005, (reJ j x).box)]) (fun w I S hI hG hO hS' => state0 w I S hI (reJ j x) (fun W e => (hG W e).1) (by show j.s.inos.length ≤ _ ∧ j.s.bad.length ≤ _; rw [hjs, hlen.2]; simp; omega) hO hS') (fun r => by simp) (.inr fun x q hq => by simp at hq; subst hq; simp) fun z1 W _ => ?_
      simp [hN]
      refine callS ok rfl rfl rfl [1004] [j.box] (by simp) rfl (fun _ : Sl × Sl => [(1004, j.box)]) (fun w I S hI hG hO hS' => by have := state0 w I S hI j (fun W e => (hG W e).2.2.2.1.2.2.2.2.2.2.2) (by rw [hjs, hlen.2]; simp; omega) hO hS'; rw [hjp] at this; exact this) (fun r => by simp) (.inr fun x q hq => by simp at hq; subst hq; simp) fun z2 W _ => ?_
      simp [hN]
      refine call0 ok rfl rfl rfl (fun w I hI hG => sameSta0 w I hI (applyL (reJ j x).s []) (applyL j.s []) z1.1 z1.2 z2.1 z2.2 (fun W e => ⟨(hG W e).2.1, (hG W e).1⟩)) fun _ W _ => ?_
      rw [tB_true (show applyL (reJ j x).s [] = applyL j.s [] from rfl)]
      simp [hN]
      refine callS ok rfl rfl rfl [1005] [(reJ j x).box] (by simp) rfl (fun _ : Unit => [(1005, (reJ j x).box)]) (fun w I S hI hG hO hS' => epoch0 w I S hI (reJ j x) hO hS') (fun r => by simp) (.inr fun x q hq => by simp at hq; subst hq; simp) fun _ W _ => ?_
      simp [hN]
      refine callS ok rfl rfl rfl [1004] [j.box] (by simp) rfl (fun _ : Unit => [(1004, j.box)]) (fun w I S hI hG hO hS' => by have := epoch0 w I S hI j hO hS'; rw [hjp] at this; exact this) (fun r => by simp) (.inr fun x q hq => by simp at hq; subst hq; simp) fun _ W _ => ?_
      simp [hN, reJ]
      exact ret0 hC true rfl fun _ _ _ => rfl
end Go.Proofs.YtbbaoeidobdblaaGreat.Sx

/- JournalTurns: for every input the law returns true, and each argument reads behind the call as it read ahead of it; no conditions. -/
set_option linter.unusedVariables false
set_option linter.unusedSimpArgs false
namespace Go.Proofs.YtbbaoeidobdblaaGreat.journalTurns
open Go.ChangeShapes Go.WideShapes Go.ChangeAt Go.RowKit Go.Deep Go.Proofs.YtbbaoeidobdblaaGreat.Rowl

theorem own : ownKnob Tryz.prog.godebug = none := by kernel_rfl
theorem laidOut : laidOutB Tryz.prog = true := by kernel_rfl

set_option maxRecDepth 100000 in
theorem lifted (os : Os) (started : os.Started) (H : Type) (enc : TypeId × Value → H) :
    ReturnsInHanded {} Tryz.checked os 6 .any (Rows.journalTurnsSpec.pre6 enc Tryz.prog Tryz.f6 Rows.journalTurnsRow.domain false) (Rows.journalTurnsSpec.post enc Tryz.prog Tryz.f6 false true false false) := by
  refine returnsInHanded_of_change (C := Tryz.checked) own started (by kernel_rfl) Tryz.func6
    (ChangeSpec.witness6 (enc := enc) (C := Tryz.checked) false ⟨#[], #[.agg #[.int .i64 0, .int .i64 0, .int .i64 0, .int .i64 0, .int .i64 0], .int .i64 0, .int .i64 0], []⟩ 8 (by kernel_rfl) (by kernel_rfl) (by kernel_rfl) (by kernel_rfl)) ?_
  intro W base args ds gs before hval0 hW hcnd _
  have hval : ∀ (j : Nat) t v, Tryz.f6.params[j]? = some t → args[j]? = some v → Value.okWide Tryz.prog W .any base t v := hval0
  have hW' := hW
  obtain ⟨p, q, hA0, hV, rfl, hfz, hnd⟩ := hW
  have hA : DataW.TrodAll enc Tryz.prog W 0 (fun _ => true) true Tryz.f6.params.toList args.toList ds p := hA0
  rw [Tryz.params6] at hA hval
  obtain ⟨v0, vs0, d0, ds0, p0, q0, hargs, rfl, rfl, h0, r0⟩ := trodAll_cons hA
  obtain ⟨v1, vs1, d1, ds1, p1, q1, rfl, rfl, rfl, h1, r1⟩ := trodAll_cons r0
  obtain ⟨v2, vs2, d2, ds2, p2, q2, rfl, rfl, rfl, h2, r2⟩ := trodAll_cons r1
  obtain ⟨rfl, rfl, rfl⟩ := trodAll_nil r2
  obtain rfl : args = #[v0, v1, v2] := by cases args; simp_all
  obtain ⟨rfl, rfl⟩ := trodVars_none hV
  have k0 := h0
  have lt0 : ∀ x ∈ p0, x.block < W.heap.size := by obtain ⟨m, hm⟩ := k0; exact DataW.trod_lt m _ _ _ hm
  obtain ⟨g0a, g0b, g0c, g0d, g0e, rfl⟩ := agg5_in Tryz.underlying23 (by kernel_rfl) (by kernel_rfl) Tryz.underlying3 ⟨rfl, rfl, rfl, rfl, rfl⟩ (hval 0 23 v0 rfl rfl) h0
  have k1 := h1
  have lt1 : ∀ x ∈ p1, x.block < W.heap.size := by obtain ⟨m, hm⟩ := k1; exact DataW.trod_lt m _ _ _ hm
  obtain ⟨a1, rfl, rfl, rfl, w1⟩ := open_int Tryz.underlying3 (hval 1 3 v1 rfl rfl) h1
  have k2 := h2
  have lt2 : ∀ x ∈ p2, x.block < W.heap.size := by obtain ⟨m, hm⟩ := k2; exact DataW.trod_lt m _ _ _ hm
  obtain ⟨a2, rfl, rfl, rfl, w2⟩ := open_int Tryz.underlying3 (hval 2 3 v2 rfl rfl) h2
  clear hA0 hval0
  refine (row_calls (Sx.journalTurnsLaw0 W ⟨g0a, g0b, g0c, g0d, g0e⟩ a1 a2)).mono fun e W' ⟨he, gr⟩ => ?_
  subst he
  have bel : Below W.heap.size W W' := ⟨gr.os, gr.tape, gr.output, gr.size, fun k hk => gr.block k hk (by simp)⟩
  exact ⟨_, rfl, _, _, _, [], _, [], hW', trodAll_mk1 (shut_bool Tryz.underlying4 _), (trodAll_cons_mk (Below.trod laidOut (by kernel_rfl) (of_decide_eq_true (by kernel_rfl)) k0 bel lt0) (trodAll_cons_mk (Below.trod laidOut (by kernel_rfl) (of_decide_eq_true (by kernel_rfl)) k1 bel lt1) (trodAll_cons_mk (Below.trod laidOut (by kernel_rfl) (of_decide_eq_true (by kernel_rfl)) k2 bel lt2) trodAll_mk0))), rfl, bel.frame _, fun h => by cases h⟩

theorem over : Rows.journalTurnsRow.holds Tryz.pinned (OpenSpec.ofChange Rows.journalTurnsSpec) :=
  OpenClaim.holds_of_wide 6 Tryz.f6 rfl rfl rfl rfl rfl rfl rfl ⟨rfl, rfl, rfl, rfl, rfl⟩ rfl rfl rfl rfl rfl (by kernel_rfl) Tryz.func6 (by kernel_rfl)
    (of_decide_eq_true (by kernel_rfl)) (by unfold Func.isWrapper; first | (rw [if_pos (by decide +kernel)]; kernel_rfl) | (rw [if_neg (by decide +kernel)]; exact ⟨rfl, rfl⟩))
    (fun os started H enc _ => lifted os started H enc)

/-- The statement. -/
theorem proved : Rows.JournalTurnsSaid := over
#print axioms proved
end Go.Proofs.YtbbaoeidobdblaaGreat.journalTurns

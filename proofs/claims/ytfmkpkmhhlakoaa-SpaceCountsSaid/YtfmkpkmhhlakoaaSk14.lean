/- References: new inodes and states; geometries. -/
import Derived.Test.YtfmkpkmhhlakoaaSk13
set_option linter.unusedVariables false
set_option linter.unusedSimpArgs false
namespace Go.Proofs.Ytfmkpkmhhlakoaa.Sx
open Go

attribute [local simp ↓] ifb_true' ifb_false'
attribute [local simp] ifb_true ifb_false ifb_eq sx argsT find ev evOp evs evo evBin evInt evStr evNil evNilA ptrA slcA isNoneA asB evLoad look del cellsB evUn evConv kdec fld evFieldA evField evIdxA evIdx evSlc bndL bndH evLen mmi put resV guardV gvL setO tupV cellsOf ones one upd lits nv exitTo SV.val CV.val TI.agg rdyA allR keepB scan simpO gsp isS subs keepT pickT wr memN pubs Res.fact Region.binds bld rest give delL back Res.eqv vi vb num Sv.val undef
def emp : ByteArray := ⟨#[]⟩
def newIno (no kind : Int) (t : ByteArray) : Ino := ⟨no, kind, if kind = 2 then 2 else 1, if kind = 3 then t.size else 0, if kind = 3 then t else emp, [], []⟩
theorem newIno0 (w : World) (I : Nat → Prop) (hI : ∀ b, I b → b < w.heap.size) (no kind : Int) (t : ByteArray) :
    Fn0 Try.prog 35 #[.int .i64 no, .int .i64 kind, .string t] w I (fun _ : Unit => .agg (inoC (newIno no kind t) (none, 0) (none, 0)).toArray) (fun y W => True) := by
  refine enter (svs := [.c (.v (.int .i64 no)), .c (.v (.int .i64 kind)), .c (.v (.string t))]) tysOk Try.func35 rfl Try.ntmps35 Try.results35 (by kernel_rfl) (by simp) hI (fun _ => True) (fun _ _ => trivial) fun C hC hN ok => ?_
  by_cases k2 : kind = 2
  · subst k2
    simp [hN]
    exact fun g1 g2 => ret0 hC () rfl fun _ _ _ => trivial
  · by_cases k3 : kind = 3
    · subst k3
      simp [hN]
      exact fun g1 g2 => ret0 hC () rfl fun _ _ _ => trivial
    · simp [hN, k2, k3]
      exact fun g1 g2 => ret0 hC () (by simp [newIno, k2, k3, emp]) fun _ _ _ => trivial
def newSta : Sta := ⟨2, [newIno 1 2 emp], []⟩
theorem newSta0 (w : World) (I : Nat → Prop) (hI : ∀ b, I b → b < w.heap.size) :
    Fn0 Try.prog 34 #[] w I (fun y : Sl => .agg (staC newSta y (none, 0)).toArray) (fun y W => StaR W newSta y (none, 0)) := by
  refine enter (svs := []) tysOk Try.func34 rfl Try.ntmps34 Try.results34 (by kernel_rfl) (by simp) hI (fun _ => True) (fun _ _ => trivial) fun C hC hN ok => ?_
  simp [hN]
  intro g1
  refine call0 ok rfl rfl rfl (fun w I hI hG => newIno0 w I hI 1 2 emp) fun y W _ => ?_
  simp [hN]
  intro g2
  refine ret0 hC (some ⟨g2, 0, none⟩, 1) rfl fun W hp _ => ?_
  have h1 : Rows dIno W [newIno 1 2 emp] (inoC (newIno 1 2 emp) (none, 0) (none, 0)) := by
    refine Rows.cons_iff.2 ⟨_, [], (List.append_nil _).symm, ⟨(none, 0), (none, 0), rfl, ⟨Nat.le_refl _, by simp [newIno], rd_nil _ _ _⟩, ⟨Nat.le_refl _, by simp [newIno], rd_nil _ _ _⟩⟩, rows_nil _ _⟩
  have h2 : W.ownsRow 0 63 7 (.slice (some ⟨g2, 0, none⟩) 1 1) 1 (inoC (newIno 1 2 emp) (none, 0) (none, 0)) := by simpa [newIno, emp, inoC] using hp.2.1
  obtain ⟨k1, k2, k3⟩ := h1.rd h2 (by decide)
  exact ⟨⟨by simp [newSta], by simp [newSta], k3⟩, ⟨Nat.le_refl _, by simp [newSta], rd_nil _ _ _⟩⟩
def modP (v n : Int) : Int := (v % 18446744073709551616) % n
theorem mod0 (w : World) (I : Nat → Prop) (hI : ∀ b, I b → b < w.heap.size) (v n : Int) (h0 : 0 < n) (h1 : n ≤ 1000000000) :
    Fn0 Try.prog 51 #[.int .i64 v, .int .i64 n] w I (fun z : Int => .int .i64 z) (fun y W => y = modP v n) := by
  refine enter (svs := [.c (.v (.int .i64 v)), .c (.v (.int .i64 n))]) tysOk Try.func51 rfl Try.ntmps51 Try.results51 (by kernel_rfl) (by simp) hI (fun _ => True) (fun _ _ => trivial) fun C hC hN ok => ?_
  have e1 : n % 18446744073709551616 = n := by omega
  simp [hN, u64_wrap, e1]
  have e2 : 0 ≤ v % 18446744073709551616 := by omega
  have e3 : (v % 18446744073709551616).tmod n = modP v n := Int.tmod_eq_emod_of_nonneg e2
  have e4 : 0 ≤ modP v n := Int.emod_nonneg _ (by omega)
  have e5 : modP v n < n := Int.emod_lt_of_pos _ h0
  rw [e3, w64 (by omega) (by omega)]
  exact ⟨by omega, ret0 hC _ rfl fun _ _ _ => rfl⟩
theorem wide0 (w : World) (I : Nat → Prop) (hI : ∀ b, I b → b < w.heap.size) :
    Fn0 Try.prog 29 #[] w I (fun _ : Unit => .agg (geoC ⟨8, 2048, 12, 8, 32⟩).toArray) (fun y W => True) := by
  refine enter (svs := []) tysOk Try.func29 rfl Try.ntmps29 Try.results29 (by kernel_rfl) (by simp) hI (fun _ => True) (fun _ _ => trivial) fun C hC hN ok => ?_
  simp [hN]
  exact fun g1 => ret0 hC () rfl fun _ _ _ => trivial
def geoP (g : Geo) : Geo := ⟨2 + 2 * modP g.sectors 3, 256 + 64 * modP g.sector 12, 4 + modP g.blocks 5, 2 + modP g.pages 5, 16 + 4 * modP g.page 6⟩
theorem modP_le (v n : Int) (h : 0 < n) : 0 ≤ modP v n ∧ modP v n < n := ⟨Int.emod_nonneg _ (by omega), Int.emod_lt_of_pos _ h⟩
theorem geoP_right (g : Geo) : (geoP g).right := by
  have h1 := modP_le g.sectors 3 (by decide)
  have h2 := modP_le g.sector 12 (by decide)
  have h3 := modP_le g.blocks 5 (by decide)
  have h4 := modP_le g.pages 5 (by decide)
  have h5 := modP_le g.page 6 (by decide)
  have h0 : (2 + 2 * modP g.sectors 3).tmod 2 = 0 := by rw [Int.tmod_eq_emod_of_nonneg (by omega)]; omega
  simp only [Geo.right, geoP]
  exact ⟨h0, by omega, by omega, by omega, by omega, by omega⟩
set_option maxRecDepth 100000 in
set_option maxHeartbeats 4000000 in
theorem geometry0 (w : World) (I : Nat → Prop) (hI : ∀ b, I b → b < w.heap.size) (g : Geo) :
    Fn0 Try.prog 21 #[.agg (geoC g).toArray] w I (fun _ : Unit => .agg (geoC (geoP g)).toArray) (fun y W => True) := by
  refine enter (svs := [.ag ((geoC g).map .v)]) tysOk Try.func21 rfl Try.ntmps21 Try.results21 (by kernel_rfl) (by simp) hI (fun _ => True) (fun _ _ => trivial) fun C hC hN ok => ?_
  have h1 := modP_le g.sectors 3 (by decide)
  have h2 := modP_le g.sector 12 (by decide)
  have h3 := modP_le g.blocks 5 (by decide)
  have h4 := modP_le g.pages 5 (by decide)
  have h5 := modP_le g.page 6 (by decide)
  simp [hN]
  intro g1 g2
  refine draw ok [(1, .box g1 39 ((geoC g).map .v))] (by rw [ok.P]; exact mixed) (by kernel_rfl) ?_
  simp (maxSteps := 2000000) -implicitDefEqProofs [hN]
  refine call0 ok rfl rfl rfl (fun w I hI hG => mod0 w I hI _ 3 (by decide) (by decide)) fun y W hy => ?_
  subst hy
  simp (maxSteps := 2000000) -implicitDefEqProofs [hN, w64 (x := 2 * modP g.sectors 3) (by omega) (by omega), w64 (x := 2 + 2 * modP g.sectors 3) (by omega) (by omega)]
  refine call0 ok rfl rfl rfl (fun w I hI hG => mod0 w I hI _ 12 (by decide) (by decide)) fun y W hy => ?_
  subst hy
  simp (maxSteps := 2000000) -implicitDefEqProofs [hN, w64 (x := 64 * modP g.sector 12) (by omega) (by omega), w64 (x := 256 + 64 * modP g.sector 12) (by omega) (by omega)]
  refine call0 ok rfl rfl rfl (fun w I hI hG => mod0 w I hI _ 5 (by decide) (by decide)) fun y W hy => ?_
  subst hy
  simp (maxSteps := 2000000) -implicitDefEqProofs [hN, w64 (x := 4 + modP g.blocks 5) (by omega) (by omega)]
  refine call0 ok rfl rfl rfl (fun w I hI hG => mod0 w I hI _ 5 (by decide) (by decide)) fun y W hy => ?_
  subst hy
  simp (maxSteps := 2000000) -implicitDefEqProofs [hN, w64 (x := 2 + modP g.pages 5) (by omega) (by omega)]
  refine call0 ok rfl rfl rfl (fun w I hI hG => mod0 w I hI _ 6 (by decide) (by decide)) fun y W hy => ?_
  subst hy
  simp (maxSteps := 2000000) -implicitDefEqProofs [hN, w64 (x := 4 * modP g.page 6) (by omega) (by omega), w64 (x := 16 + 4 * modP g.page 6) (by omega) (by omega)]
  exact ret0 hC () rfl fun _ _ _ => trivial
end Go.Proofs.Ytfmkpkmhhlakoaa.Sx

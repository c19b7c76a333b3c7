/- Laid together: Sk29, Sk27n, Sk30, Sk31, Sk32, Sp3, Maps, Sxn, Keya, Sk33, Sk34, Sk35, Sk36, Sk37, Sk38, Sk39, Sxo, Sk40, Sk41. -/
import Derived.Test.YtbbaoeidobdblaaGreatJI3
import Derived.Maps.RangeWalk
import Derived.Maps.OwnSet
import Derived.Carry
import Derived.OwnWalk
import Derived.Test.YtbbaoeidobdblaaGreatProg
import Derived.WideKeyArgs
import Derived.DeepKeys4
import Derived.KernelRfl
import Derived.Lib.MakeNoZero
/- state.put. -/
set_option linter.unusedVariables false
set_option linter.unusedSimpArgs false
namespace Go.Proofs.YtbbaoeidobdblaaGreat.Sx
open Go
attribute [local simp ↓] ifb_true' ifb_false'
attribute [local simp] ifb_true ifb_false ifb_eq sx argsT find ev evOp evs evo evBin evInt evStr evNil evNilA ptrA slcA isNoneA asB evLoad look del cellsB evUn evConv kdec fld evFieldA evField evIdxA evIdx evSlc bndL bndH evLen mmi put resV guardV gvL setO tupV cellsOf ones one upd lits nv exitTo SV.val CV.val TI.agg rdyA allR keepB scan simpO gsp isS subs keepT pickT wr memN pubs Res.fact Region.binds bld rest give delL back Res.eqv vi vb num Sv.val undef
theorem inosC_len' (l : List Ix) (i : Nat) (x : Ix) : (inosC l).take (i * 7) ++ (inoC x.1 x.2.1 x.2.2).map .v ++ (inosC l).drop (i * 7) = inosC (l.take i ++ x :: l.drop i) := by
  rw [inosC_take, inosC_drop]
  simp [inosC]
theorem box_cell {W : World} {g : Nat} {T : TypeId} {l : List Value} (h : W.heap[g]? = some (.cells l.toArray T (0, 0))) {j : Nat} {v : Value} (hv : l[j]? = some v) : W.cell? ⟨g, j, none⟩ = some v := by
  rw [cell_of_row W g j _ _ _ h]
  simpa using hv
theorem ones_append : ∀ {l k : List CV}, ones l → ones k → ones (l ++ k)
  | [], k, _, h => h
  | x :: r, k, h, h2 => ⟨h.1, ones_append h.2 h2⟩
theorem inosC_ones : ∀ l : List Ix, ones (inosC l)
  | [] => trivial
  | x :: r => by
    have : inosC (x :: r) = (inoC x.1 x.2.1 x.2.2).map .v ++ inosC r := by simp [inosC]
    rw [this]
    exact ones_append (by simp) (inosC_ones r)
set_option maxHeartbeats 2000000 in
theorem statePut0 (w : World) (I S : Nat → Prop) (hI : ∀ b, I b → b < w.heap.size) (q : Inos) (x : Ino) (e r : Sl) (hq : ∀ W, Ext I w W → InosR W q.2.2) (hx : ∀ W, Ext I w W → InoR W x e r) (hl : q.2.2.length ≤ 1000000000)
    (hS : Owns [Inos.res q] S w) (hSI : ∀ b, S b → b < w.heap.size ∧ ¬ I b) :
    FnS Tryz.prog 109 #[Inos.val q, .agg (inoC x e r).toArray] w I S Inos.val (fun t => [Inos.res t]) (fun t W => t.2.2.map Prod.fst = putInoL (q.2.2.map Prod.fst) x ∧ InosR W t.2.2) := by
  obtain ⟨a, c, l⟩ := q
  obtain ⟨ea, ec⟩ := e
  obtain ⟨ra, rc⟩ := r
  replace hl : l.length ≤ 1000000000 := hl
  have hnc : l.length ≤ c := by
    obtain ⟨F, hF, _⟩ := hS
    exact owns_le (hF 0 _ rfl).2
  refine enterS (svs := [.c (.rw 1000 a l.length c), .ag ((inoC x (ea, ec) (ra, rc)).map .v)]) tysOk Tryz.func109 rfl Tryz.ntmps109 Tryz.results109 (by kernel_rfl) (by simp) hI [Inos.res (a, c, l)] hS hSI (fun W => InosR W l ∧ InoR W x (ea, ec) (ra, rc)) (fun W e => ⟨hq W e, hx W e⟩) fun C hC hN ok => ?_
  simp [hN]
  intro g3
  refine call0 ok rfl rfl rfl (fun w I hI hG => own0 w I hI x (ea, ec) (ra, rc) fun W e => ⟨_, _, rfl, (hG W e).2⟩) fun y W _ => ?_
  obtain ⟨⟨ea2, ec2⟩, ⟨ra2, rc2⟩⟩ := y
  simp [hN]
  have hno : ∀ W, Res.fact (.box g3 44 ((inoC x (ea2, ec2) (ra2, rc2)).map .v)) W → ∀ (j : Nat) v, (inoC x (ea2, ec2) (ra2, rc2))[j]? = some v → W.cell? ⟨g3, j, none⟩ = some v := fun W h j v hv => by
    simp only [Res.fact, map_nv, List.map_map] at h
    refine box_cell (T := 44) (l := inoC x (ea2, ec2) (ra2, rc2)) ?_ hv
    simpa [Function.comp_def, CV.val] using h
  refine pub 3 rfl (by decide) (tagA 3 (.c (.v (.pointer (some ⟨g3, 0, none⟩)))) rfl rfl (rowWhere 1000 rfl fun hwh => ?_))
  refine callS ok rfl rfl rfl [1000] [Inos.res (a, c, l)] (by simp) rfl (fun z : Int => [(1000, Inos.res (a, c, l))]) (fun w I S hI hG hO hS => indexI0 w I S hI (a, c, l) 153 (.pointer (some ⟨g3, 0, none⟩)) (fun y => decide (y.no = x.no)) (fun W => W.cell? ⟨g3, 0, none⟩ = some (.int .i64 x.no)) (fun W e => hno W (hG W e).1 0 _ rfl) (fun w I y e r hI hK => putSame0 w I hI y e r g3 x.no hK) (by show l.length ≤ _; omega) hO hS) (fun r => by simp) (.inr fun x q hq => by simp at hq; rw [hq]; exact Nat.le_refl _) fun z W hz => ?_
  rcases idx_cases (fun y : Ino => decide (y.no = x.no)) (l.map Prod.fst) 0 with ⟨h1, h2⟩ | ⟨i, hi, h1, h2, h3⟩
  rotate_left 1
  · rw [h1, Nat.zero_add] at hz
    subst hz
    have hi' : i < l.length := by rwa [List.length_map] at hi
    have hup := inosC_upd l i (x, (ea2, ec2), (ra2, rc2)) hi'
    have hil := inosC_length l
    have h3' : (l.map Prod.fst)[i].no = x.no := of_decide_eq_true h3
    have hpl : putInoL (l.map Prod.fst) x = (l.map Prod.fst).set i x := by
      rw [putInoL, if_pos ⟨_, List.getElem_mem hi, h3'⟩]
      exact replI_at _ x i hi (fun y hy => of_decide_eq_false (h2 y hy)) h3'
    obtain ⟨g, rfl⟩ : ∃ g, a = some ⟨g, 0, none⟩ := by
      rcases hwh with ⟨_, h, _⟩ | h
      · have h' : l.length = 0 := h
        omega
      · exact h
    simp [hN]
    refine loadA ok rfl rfl rfl rfl (fun v W => v = inoC x (ea2, ec2) (ra2, rc2)) (fun W hW => ⟨_, rfl, by simpa using hno W hW.2.1, rfl⟩) ?_
    rintro v W _ rfl _
    simp [hN, -upd]
    refine ⟨hi', by omega, retS hC (some ⟨g, 0, none⟩, c, l.set i (x, (ea2, ec2), (ra2, rc2))) [1000] (by simp) (by simp [← hup, -upd]) fun W _ hG => ⟨?_, fun y hy => ?_⟩⟩
    · rw [hpl, List.map_set]
    · rcases List.mem_or_eq_of_mem_set hy with hy | rfl
      · exact hG.2.2.2.1 y hy
      · exact hG.2.2.1
  · rw [h1] at hz
    subst hz
    have hnh : ¬ hasI (l.map Prod.fst) x.no := by
      rintro ⟨y, hy, e⟩
      exact of_decide_eq_false (h2 y hy) e
    have hpl : putInoL (l.map Prod.fst) x = insI (l.map Prod.fst) x := by rw [putInoL, if_neg hnh]
    simp [hN]
    refine callS ok rfl rfl rfl [1000] [Inos.res (a, c, l)] (by simp) rfl (fun z : Int => [(1000, Inos.res (a, c, l))]) (fun w I S hI hG hO hS => indexI0 w I S hI (a, c, l) 154 (.pointer (some ⟨g3, 0, none⟩)) (fun y => decide (x.no < y.no)) (fun W => W.cell? ⟨g3, 0, none⟩ = some (.int .i64 x.no)) (fun W e => hno W (by have := (hG W e).2.1; simpa [Res.fact, Function.comp_def, CV.val] using this) 0 _ rfl) (fun w I y e r hI hK => putMore0 w I hI y e r g3 x.no hK) (by show l.length ≤ _; omega) hO hS) (fun r => by simp) (.inr fun x q hq => by simp at hq; rw [hq]; exact Nat.le_refl _) fun z2 W hz2 => ?_
    obtain ⟨i, hi, hzi, hb, hm⟩ : ∃ i : Nat, i ≤ l.length ∧ (z2 = i ∧ i < l.length ∨ z2 = -1 ∧ i = l.length) ∧ (∀ y, y ∈ (l.map Prod.fst).take i → y.no ≤ x.no) ∧ ∀ h : i < (l.map Prod.fst).length, x.no < (l.map Prod.fst)[i].no := by
      rcases idx_cases (fun y : Ino => decide (x.no < y.no)) (l.map Prod.fst) 0 with ⟨k1, k2⟩ | ⟨i, k0, k1, k2, k3⟩
      · refine ⟨l.length, Nat.le_refl _, .inr ⟨by rw [hz2, k1], rfl⟩, fun y hy => ?_, fun h => absurd h (by simp)⟩
        have := of_decide_eq_false (k2 y (List.mem_of_mem_take hy))
        omega
      · refine ⟨i, by rw [List.length_map] at k0; omega, .inl ⟨by rw [hz2, k1, Nat.zero_add], by rwa [List.length_map] at k0⟩, fun y hy => ?_, fun _ => of_decide_eq_true k3⟩
        have := of_decide_eq_false (k2 y hy)
        omega
    have hins : insI (l.map Prod.fst) x = ((l.take i ++ (x, (ea2, ec2), (ra2, rc2)) :: l.drop i).map Prod.fst) := by
      rw [insI_at _ x i (by simpa using hi) hb hm]
      simp
    rw [hins] at hpl
    have hx7 : ones ((inoC x (ea2, ec2) (ra2, rc2)).map .v) := by simp
    have hlen : (l.take i ++ (x, (ea2, ec2), (ra2, rc2)) :: l.drop i).length = l.length + 1 := by simp; omega
    rcases hzi with ⟨rfl, hi2⟩ | ⟨rfl, rfl⟩
    · have hnn : ∀ k : Nat, ¬ ((k : Nat) : Int) < 0 := fun k => by omega
      simp [hN, hnn]
      refine loadA ok rfl rfl rfl rfl (fun v W => v = inoC x (ea2, ec2) (ra2, rc2)) (fun W hW => ⟨_, rfl, fun j v hv => ?_, rfl⟩) ?_
      · rw [Nat.zero_add]
        refine hno W ?_ j v hv
        have h1 := hW.2.2.1
        simpa [Res.fact, Function.comp_def, CV.val] using h1
      rintro v W _ rfl _
      simp [hN]
      intro g29
      refine callS ok rfl rfl rfl [1000, 29] [.row a l.length c 44 7 (inosC l), .row (some ⟨g29, 0, none⟩) 1 1 44 7 ((inoC x (ea2, ec2) (ra2, rc2)).map .v)] (by simp) rfl (fun r : Option Addr × Nat => [(1000, .row r.1 (l.length + 1) r.2 44 7 ((inosC l).take (i * 7) ++ (inoC x (ea2, ec2) (ra2, rc2)).map .v ++ (inosC l).drop (i * 7)))]) (fun w I S hI hG hO hS => insertI0 w I S hI i (inosC l) ((inoC x (ea2, ec2) (ra2, rc2)).map .v) g29 (inosC_length l) rfl (inosC_ones l) hx7 hi hl hO hS) (fun r => by simp) (.inr fun x q hq => by simp at hq; rw [hq]; exact Nat.le_refl _) fun r W _ => ?_
      obtain ⟨ua, uc⟩ := r
      have hcl := inosC_len' l i (x, (ea2, ec2), (ra2, rc2))
      simp only [hcl]
      simp [hN]
      refine retS hC (ua, uc, l.take i ++ (x, (ea2, ec2), (ra2, rc2)) :: l.drop i) [1000] (by simp [hlen]) (by simp [hlen]) fun W _ hG => ⟨hpl.symm, fun y hy => ?_⟩
      rcases List.mem_append.1 hy with hy | hy
      · exact hG.2.2.2.2.1 y (List.mem_of_mem_take hy)
      · rcases List.mem_cons.1 hy with rfl | hy
        · exact hG.2.2.2.1
        · exact hG.2.2.2.2.1 y (List.mem_of_mem_drop hy)
    · have hnn : ∀ k : Nat, ¬ ((k : Nat) : Int) < 0 := fun k => by omega
      simp [hN, hnn]
      refine loadA ok rfl rfl rfl rfl (fun v W => v = inoC x (ea2, ec2) (ra2, rc2)) (fun W hW => ⟨_, rfl, fun j v hv => ?_, rfl⟩) ?_
      · rw [Nat.zero_add]
        refine hno W ?_ j v hv
        have h1 := hW.2.2.1
        simpa [Res.fact, Function.comp_def, CV.val] using h1
      rintro v W _ rfl _
      simp [hN]
      intro g29
      refine callS ok rfl rfl rfl [1000, 29] [.row a l.length c 44 7 (inosC l), .row (some ⟨g29, 0, none⟩) 1 1 44 7 ((inoC x (ea2, ec2) (ra2, rc2)).map .v)] (by simp) rfl (fun r : Option Addr × Nat => [(1000, .row r.1 (l.length + 1) r.2 44 7 ((inosC l).take (l.length * 7) ++ (inoC x (ea2, ec2) (ra2, rc2)).map .v ++ (inosC l).drop (l.length * 7)))]) (fun w I S hI hG hO hS => insertI0 w I S hI l.length (inosC l) ((inoC x (ea2, ec2) (ra2, rc2)).map .v) g29 (inosC_length l) rfl (inosC_ones l) hx7 hi hl hO hS) (fun r => by simp) (.inr fun x q hq => by simp at hq; rw [hq]; exact Nat.le_refl _) fun r W _ => ?_
      obtain ⟨ua, uc⟩ := r
      have hcl := inosC_len' l l.length (x, (ea2, ec2), (ra2, rc2))
      simp only [hcl]
      simp [hN]
      refine retS hC (ua, uc, l.take l.length ++ (x, (ea2, ec2), (ra2, rc2)) :: l.drop l.length) [1000] (by simp [hlen]) (by simp [hlen]) fun W _ hG => ⟨hpl.symm, fun y hy => ?_⟩
      rcases List.mem_append.1 hy with hy | hy
      · exact hG.2.2.2.2.1 y (List.mem_of_mem_take hy)
      · rcases List.mem_cons.1 hy with rfl | hy
        · exact hG.2.2.2.1
        · exact hG.2.2.2.2.1 y (List.mem_of_mem_drop hy)
end Go.Proofs.YtbbaoeidobdblaaGreat.Sx

/- slices.Insert of numbers. -/
set_option linter.unusedVariables false
set_option linter.unusedSimpArgs false
namespace Go.Proofs.YtbbaoeidobdblaaGreat.Sx
open Go
attribute [local simp ↓] ifb_true' ifb_false'
attribute [local simp] ifb_true ifb_false ifb_eq sx argsT find ev evOp evs evo evBin evInt evStr evNil evNilA ptrA slcA isNoneA asB evLoad look del cellsB evUn evConv kdec fld evFieldA evField evIdxA evIdx evSlc bndL bndH evLen mmi put resV guardV gvL setO tupV cellsOf ones one upd lits nv exitTo SV.val CV.val TI.agg rdyA allR keepB scan simpO gsp isS subs keepT pickT wr memN pubs Res.fact Region.binds bld rest give delL back Res.eqv vi vb num Sv.val undef
set_option maxHeartbeats 1000000 in
theorem insertN0 (w : World) (I S : Nat → Prop) (hI : ∀ b, I b → b < w.heap.size) {a : Option Addr} {n c : Nat} (i : Nat) (cs x : List CV) (gv : Nat) (hcs : cs.length = n) (hx : x.length = 1) (h1 : ones cs) (h2 : ones x) (hi : i ≤ n) (hn : n ≤ 1000000000)
    (hS : Owns [.row a n c 3 1 cs, .row (some ⟨gv, 0, none⟩) 1 1 3 1 x] S w) (hSI : ∀ b, S b → b < w.heap.size ∧ ¬ I b) :
    FnS Tryz.prog 159 #[.slice a n c, .int .i64 (i : Nat), .slice (some ⟨gv, 0, none⟩) 1 1] w I S (fun r : Option Addr × Nat => .slice r.1 (n + 1) r.2) (fun r => [.row r.1 (n + 1) r.2 3 1 (cs.take (i) ++ x ++ cs.drop (i))]) (fun _ _ => True) := by
  have hnc : n ≤ c := by
    obtain ⟨F, hF, _⟩ := hS
    exact owns_le (hF 0 _ rfl).2
  refine enterS (svs := [.c (.rw 1000 a n c), .c (.v (.int .i64 (i : Nat))), .c (.rw 1001 (some ⟨gv, 0, none⟩) 1 1)]) tysOk Tryz.func159 rfl Tryz.ntmps159 Tryz.results159 (by kernel_rfl) (by simp) hI [.row a n c 3 1 cs, .row (some ⟨gv, 0, none⟩) 1 1 3 1 x] hS hSI (fun _ => True) (fun _ _ => trivial) fun C hC hN ok => ?_
  have w1 : IntKind.i64.wrap ((n : Int) + 1) = (n + 1 : Nat) := by rw [w64 (by omega) (by omega)]; omega
  have w2 : IntKind.i64.wrap ((i : Int) + 1) = (i + 1 : Nat) := by rw [w64 (by omega) (by omega)]; omega
  obtain ⟨z, hz⟩ : ∃ z : Nat, i + z = n + 1 := ⟨n + 1 - i, by omega⟩
  have w3 : IntKind.i64.wrap ((n : Int) + 1 - i) = (z : Nat) := by rw [w64 (by omega) (by omega)]; omega
  simp [hN, hi, hnc, w1, w2, w3]
  refine ⟨fun hin => ?_, fun hin => ?_⟩
  · have hin' : i = n := by omega
    subst hin'
    refine appR ok 1000 1001 rfl rfl rfl rfl rfl (by decide) rfl rfl rfl rfl rfl rfl rfl (by decide) h2 (by show (_ + 1) * 8 ≤ _; omega) (by omega) fun g' c' => ?_
    simp [hN]
    refine retS hC (some ⟨g', 0, none⟩, c') [1000] rfl ?_ fun W _ _ => trivial
    simp [← hcs]
  · have hlt : i < n := by omega
    refine ⟨fun hful => ⟨by omega, ?_⟩, fun hroom => ?_⟩
    · refine rowSome 1000 rfl (by omega) fun g e => ?_
      subst e
      refine nilr 600 3 1 (appZp ok 1000 600 rfl rfl rfl rfl rfl (by decide) rfl rfl rfl rfl rfl rfl rfl rfl rfl hi (show 0 < z by omega) (by omega) (by show (i + z) * 8 ≤ _; omega) (by omega) (by decide) fun g' c' zs hzs hc' => ?_)
      have hci : ¬ c' = i := by omega
      have hci2 : ¬ c' = i + 1 := by omega
      have hci3 : ¬ c = i := by omega
      simp only [hz] at hc' ⊢
      have hzs' : zs.length = (n + 1 - i) := by rw [hzs]; show z * 1 = _; omega
      have hm1 : Nat.min 1 (n + 1 - i) = 1 := Nat.min_eq_left (by omega)
      have hm2 : Nat.min (n - i) (n - i) = n - i := Nat.min_self _
      have htx : x.take 1 = x := List.take_of_length_le (by omega)
      have htd : (cs.drop (i)).take ((n - i)) = cs.drop (i) := List.take_of_length_le (by simp; omega)
      have hil : i ≤ n + 1 := by omega
      have hil1 : i + 1 ≤ n + 1 := by omega
      have hfin := ins_grow cs x zs i n 1 (by omega) hx (by omega) hi
      simp only [Nat.mul_one] at hfin
      have hod : ones (cs.drop (i)) := ones_drop h1 _
      simp [hN, hci, w2, hci2, hci3, hil, hc']
      and_intros
      all_goals try omega
      refine copyR ok 600 1001 rfl rfl rfl rfl rfl rfl rfl rfl rfl rfl (by dsimp only; rw [hm1]; omega) (by dsimp only; rw [hm1]; omega) (by show ones ((x.drop 0).take (Nat.min 1 (n + 1 - i) * 1)); rw [hm1, List.drop_zero, Nat.mul_one, htx]; exact h2) ?_
      simp [hN, w2, hci2, hci3, hm1, htx, hci]
      refine drawW ok mixed (by kernel_rfl) ?_
      simp (maxSteps := 2000000) -implicitDefEqProofs [hN, w2, hci2, hci3, hci]
      and_intros
      all_goals try omega
      refine copyR ok 600 1000 rfl rfl rfl rfl rfl rfl rfl rfl rfl rfl (by dsimp only; rw [hm2]; omega) (by dsimp only; rw [hm2]; omega) (by show ones ((cs.drop (i)).take (Nat.min (n - i) (n - i) * 1)); rw [hm2, Nat.mul_one, htd]; exact hod) ?_
      simp (maxSteps := 2000000) -implicitDefEqProofs [hN, hm2, htd]
      exact retS hC (some ⟨g', 0, none⟩, c') [600] rfl (by simp [hfin]) fun W _ _ => trivial
    · have hci : ¬ c = i := by omega
      have hci2 : ¬ c = i + 1 := by omega
      simp only [hci2, if_false]
      and_intros
      all_goals try omega
      refine rowSome 1000 rfl (by omega) fun g e => ?_
      subst e
      refine extend 1000 (n + 1) rfl (by omega) (by omega) fun junk hj => ?_
      simp only [addrP_some, Nat.zero_add]
      have hov : ovB Tryz.prog 192 37 4 := ⟨_, Tryz.func192, by kernel_rfl, by kernel_rfl, by kernel_rfl, by kernel_rfl⟩
      refine ovl ok 1001 1000 rfl rfl hov rfl rfl rfl rfl rfl (by decide) rfl rfl rfl rfl (by exact (show 0 < c by omega)) (by decide) ?_
      simp [hN]
      have hjl : (junk.map CV.v).length = 1 := by rw [List.length_map, hj]; show (n + 1 - n) * 1 = 1; omega
      have hm1 : Nat.min 1 (n + 1 - i) = 1 := Nat.min_eq_left (by omega)
      have hm3 : Nat.min (n + 1 - i) (n - i) = n - i := Nat.min_eq_right (by omega)
      have htx : x.take 1 = x := List.take_of_length_le (by omega)
      have hdl : (cs.drop (i)).length = (n - i) := by simp; omega
      have htj : ((cs ++ junk.map CV.v).drop (i)).take ((n - i)) = cs.drop (i) := by
        rw [List.drop_append, show i - cs.length = 0 by omega, List.drop_zero, ← hdl, List.take_left]
      have hod : ones (cs.drop (i)) := ones_drop h1 _
      have hfin := ins_place cs x (junk.map CV.v) i n 1 (by omega) hx hjl hlt
      simp only [Nat.mul_one] at hfin
      refine drawW ok mixed (by kernel_rfl) ?_
      generalize junk.map CV.v = J at *
      simp (maxSteps := 2000000) -implicitDefEqProofs [hN, w2, hci, hci2, hlt, hm1, hm3, htx, htj]
      and_intros
      all_goals try omega
      refine copyR ok 1000 1000 rfl rfl rfl rfl rfl rfl rfl rfl rfl rfl (by dsimp only; rw [hm3]; omega) (by dsimp only; rw [hm3]; omega) (by show ones (((cs ++ J).drop (i)).take (Nat.min (n + 1 - i) (n - i) * 1)); rw [hm3, Nat.mul_one, htj]; exact hod) ?_
      simp (maxSteps := 2000000) -implicitDefEqProofs [hN, w2, hci, hci2, hlt, hm1, hm3, htx, htj]
      and_intros
      all_goals try omega
      refine copyR ok 1000 1001 rfl rfl rfl rfl rfl rfl rfl rfl rfl rfl (by dsimp only; rw [hm1]; omega) (by dsimp only; rw [hm1]; omega) (by show ones ((x.drop 0).take (Nat.min 1 (n + 1 - i) * 1)); rw [hm1, List.drop_zero, Nat.mul_one, htx]; exact h2) ?_
      simp (maxSteps := 2000000) -implicitDefEqProofs [hN, w2, hci, hci2, hlt, hm1, hm3, htx, htj]
      exact retS hC (some ⟨g, 0, none⟩, c) [1000] rfl (by simp [hfin]) fun W _ _ => trivial
end Go.Proofs.YtbbaoeidobdblaaGreat.Sx

/- Owned numbers: Clone, Index, Contains, IndexFunc, state.bad. -/
set_option linter.unusedVariables false
set_option linter.unusedSimpArgs false
namespace Go.Proofs.YtbbaoeidobdblaaGreat.Sx
open Go
attribute [local simp ↓] ifb_true' ifb_false'
attribute [local simp] ifb_true ifb_false ifb_eq sx argsT find ev evOp evs evo evBin evInt evStr evNil evNilA ptrA slcA isNoneA asB evLoad look del cellsB evUn evConv kdec fld evFieldA evField evIdxA evIdx evSlc bndL bndH evLen mmi put resV guardV gvL setO tupV cellsOf ones one upd lits nv exitTo SV.val CV.val TI.agg rdyA allR keepB scan simpO gsp isS subs keepT pickT wr memN pubs Res.fact Region.binds bld rest give delL back Res.eqv vi vb num Sv.val undef
/-- Slices of one's own that hold numbers. -/
abbrev Nums := Option Addr × Nat × List Int
abbrev Nums.val (r : Nums) : Value := .slice r.1 r.2.2.length r.2.1
abbrev Nums.res (r : Nums) : Res := .row r.1 r.2.2.length r.2.1 3 1 (iC r.2.2)
theorem iC_at (l : List Int) {i : Nat} (hi : i < l.length) : (iC l)[i]? = some (.v (.int .i64 l[i])) := by simp [iC, hi]
theorem iC_at' (l : List Int) {i : Nat} (h : i < (iC l).length) : (iC l)[i]'h = .v (.int .i64 (l[i]'(by rwa [iC_len] at h))) := by simp [iC]
theorem cloneN (w : World) (I : Nat → Prop) (hI : ∀ b, I b → b < w.heap.size) {a : Option Addr} {n c : Nat} (xs : List Int) (h : ∀ W, Ext I w W → Sv.ok dInt W (a, n, c) xs) :
    FnS Tryz.prog 108 #[.slice a n c] w I noS Nums.val (fun r => [Nums.res r]) (fun r W => r.2.2 = xs) := by
  have h0 := h w (Ext.refl _ _)
  obtain rfl : n = xs.length := h0.1
  cases a with
  | none =>
    have hx : xs = [] := Classical.byContradiction fun hne => by obtain ⟨b, o, e, _⟩ := h0.2.2.2 hne; cases e
    subst hx
    refine enterS (svs := [.c (.v (.slice none 0 c))]) tysOk Tryz.func108 rfl Tryz.ntmps108 Tryz.results108 (by kernel_rfl) (by simp) hI [] (owns_nil w) (fun b hb => hb.elim) (fun _ => True) (fun _ _ => trivial) fun C hC hN ok => ?_
    simp [hN]
    exact nilR 600 3 1 (retS hC (none, 0, []) [600] rfl (by simp [iC]) fun W _ _ => rfl)
  | some ad =>
    refine enterS (svs := [.c (.v (.slice (some ad) xs.length c))]) tysOk Tryz.func108 rfl Tryz.ntmps108 Tryz.results108 (by kernel_rfl) (by simp) hI [] (owns_nil w) (fun b hb => hb.elim) (fun W => Sv.ok dInt W (some ad, xs.length, c) xs) h fun C hC hN ok => ?_
    have h2 := h0.2.2.1
    simp [hN]
    intro g
    refine appV ok 5 rfl rfl rfl rfl rfl (by decide) rfl rfl rfl rfl rfl rfl dInt xs rfl (by show (0 + _) * 8 ≤ _; omega) (by omega) (fun W hW => hW) fun q a2 c2 W _ hq _ => ?_
    obtain rfl := rowsI.1 hq
    simp [hN]
    exact retS hC (a2, c2, xs) [5] (by simp) (by simp [iC]) fun W _ _ => rfl
theorem indexN0 (w : World) (I S : Nat → Prop) (hI : ∀ b, I b → b < w.heap.size) (q : Nums) (x : Int) (hl : q.2.2.length ≤ 2000000000) (hS : Owns [Nums.res q] S w) (hSI : ∀ b, S b → b < w.heap.size ∧ ¬ I b) :
    FnS Tryz.prog 191 #[Nums.val q, .int .i64 x] w I S (fun z : Int => .int .i64 z) (fun _ => [Nums.res q]) (fun z W => z = idxF (fun y => decide (x = y)) q.2.2 0) := by
  obtain ⟨a, c, l⟩ := q
  replace hl : l.length ≤ 2000000000 := hl
  refine enterS (svs := [.c (.rw 1000 a l.length c), .c (.v (.int .i64 x))]) tysOk Tryz.func191 rfl Tryz.ntmps191 Tryz.results191 (by kernel_rfl) (by simp) hI [Nums.res (a, c, l)] hS hSI (fun _ => True) (fun _ _ => trivial) fun C hC hN ok => ?_
  simp [hN]
  refine loopKA [0, 1, 7] ok (fun i : Nat => [(8, .c (.v (.int .i64 i)))]) (fun _ => [(1000, Nums.res (a, c, l))]) (fun i W => i ≤ l.length ∧ ∀ y, y ∈ l.take i → decide (x = y) = false) (fun i => l.length - i) 0 ?_ ?_ (fun W hW => ⟨Nat.zero_le _, by simp⟩) ?_
  · simp
  · simp
  rintro i W ⟨hi, hne⟩ hG next
  rcases Nat.lt_or_ge i l.length with hlt | hge
  · have e6 : IntKind.i64.wrap ((i : Int) + 1) = (i + 1 : Nat) := by rw [w64 (by omega) (by omega)]; omega
    have ft : l.take (i + 1) = l.take i ++ [l[i]] := by rw [List.take_add_one, List.getElem?_eq_getElem hlt]; simp
    have hat := iC_at l hlt
    have hat' := @iC_at' l i
    have hgo := idxF_at (fun y => decide (x = y)) l 0 i hlt hne
    simp only [Nat.zero_add] at hgo
    refine rowSome 1000 rfl (by exact (show 0 < l.length by omega)) fun g e => ?_
    subst e
    refine goon ok ?_
    simp [hN, hat, hat', hlt, e6, iC_len]
    refine ⟨hlt, fun h => retS hC (i : Nat) [1000] rfl (by simp) fun W _ _ => (hgo (by simp [h])).symm, fun h => next (i + 1) _ _ (by omega) (fun W h2 => ⟨⟨hlt, fun z hz => ?_⟩, trivial⟩) (by simp)⟩
    rw [ft] at hz
    rcases List.mem_append.1 hz with hz | hz
    · exact hne z hz
    · rw [List.mem_singleton.1 hz]
      simp [h]
  · refine goon ok ?_
    simp [hN, Nat.not_lt.2 hge]
    refine retS hC (-1) [1000] rfl (by simp) fun W _ _ => ?_
    rw [idxF_none]
    rwa [List.take_of_length_le hge] at hne
theorem containsN0 (w : World) (I S : Nat → Prop) (hI : ∀ b, I b → b < w.heap.size) (q : Nums) (x : Int) (hl : q.2.2.length ≤ 2000000000) (hS : Owns [Nums.res q] S w) (hSI : ∀ b, S b → b < w.heap.size ∧ ¬ I b) :
    FnS Tryz.prog 156 #[Nums.val q, .int .i64 x] w I S (fun b : Bool => .bool b) (fun _ => [Nums.res q]) (fun b W => b = decide (x ∈ q.2.2)) := by
  obtain ⟨a, c, l⟩ := q
  replace hl : l.length ≤ 2000000000 := hl
  refine enterS (svs := [.c (.rw 1000 a l.length c), .c (.v (.int .i64 x))]) tysOk Tryz.func156 rfl Tryz.ntmps156 Tryz.results156 (by kernel_rfl) (by simp) hI [Nums.res (a, c, l)] hS hSI (fun _ => True) (fun _ _ => trivial) fun C hC hN ok => ?_
  simp [hN]
  refine callS ok rfl rfl rfl [1000] [Nums.res (a, c, l)] (by simp) rfl (fun z : Int => [(1000, Nums.res (a, c, l))]) (fun w I S hI hG hO hS => indexN0 w I S hI (a, c, l) x hl hO hS) (fun r => by simp) (.inr fun x q hq => by simp at hq; rw [hq]; exact Nat.le_refl _) fun z W hz => ?_
  simp [hN]
  refine retS hC _ [1000] rfl (by simp) fun W _ _ => ?_
  rw [hz]
  simp only
  rcases idx_cases (fun y => decide (x = y)) l 0 with ⟨h1, h2⟩ | ⟨i, hi, h1, h2, h3⟩
  · rw [h1, decide_eq_false (by decide), decide_eq_false]
    intro hx
    have := h2 x hx
    simp at this
  · rw [h1, decide_eq_true (by omega), decide_eq_true]
    have h3' : x = l[i] := of_decide_eq_true h3
    rw [h3']
    exact List.getElem_mem hi
theorem indexFN0 (w : World) (I S : Nat → Prop) (hI : ∀ b, I b → b < w.heap.size) (q : Nums) (f : FuncId) (cap : Value) (p : Int → Bool) (K : World → Prop) (hK : ∀ W, Ext I w W → K W)
    (Hf : ∀ w I (y : Int), (∀ b, I b → b < w.heap.size) → (∀ W, Ext I w W → K W) → Fn0 Tryz.prog f #[.int .i64 y, cap] w I (fun b : Bool => .bool b) (fun b W => b = p y)) (hl : q.2.2.length ≤ 2000000000)
    (hS : Owns [Nums.res q] S w) (hSI : ∀ b, S b → b < w.heap.size ∧ ¬ I b) :
    FnS Tryz.prog 157 #[Nums.val q, .func (.func f) #[] #[cap]] w I S (fun z : Int => .int .i64 z) (fun _ => [Nums.res q]) (fun z W => z = idxF p q.2.2 0) := by
  obtain ⟨a, c, l⟩ := q
  replace hl : l.length ≤ 2000000000 := hl
  refine enterS (svs := [.c (.rw 1000 a l.length c), .c (.v (.func (.func f) #[] #[cap]))]) tysOk Tryz.func157 rfl Tryz.ntmps157 Tryz.results157 (by kernel_rfl) (by simp) hI [Nums.res (a, c, l)] hS hSI K hK fun C hC hN ok => ?_
  simp [hN]
  refine loopKA [0, 1, 7] ok (fun i : Nat => [(8, .c (.v (.int .i64 i)))]) (fun _ => [(1000, Nums.res (a, c, l))]) (fun i W => i ≤ l.length ∧ ∀ y, y ∈ l.take i → p y = false) (fun i => l.length - i) 0 ?_ ?_ (fun W hW => ⟨Nat.zero_le _, by simp⟩) ?_
  · simp
  · simp
  rintro i W ⟨hi, hne⟩ hG next
  rcases Nat.lt_or_ge i l.length with hlt | hge
  · have e6 : IntKind.i64.wrap ((i : Int) + 1) = (i + 1 : Nat) := by rw [w64 (by omega) (by omega)]; omega
    have ft : l.take (i + 1) = l.take i ++ [l[i]] := by rw [List.take_add_one, List.getElem?_eq_getElem hlt]; simp
    have hat := iC_at l hlt
    have hat' := @iC_at' l i
    have hgo := idxF_at p l 0 i hlt hne
    simp only [Nat.zero_add] at hgo
    refine rowSome 1000 rfl (by exact (show 0 < l.length by omega)) fun g e => ?_
    subst e
    refine goon ok ?_
    simp [hN, hat, hat', hlt, iC_len]
    refine ⟨hlt, callF ok rfl rfl rfl (V := #[.int .i64 l[i], cap]) (by simp) (fun w I hI hG => Hf w I l[i] hI fun W e => (hG W e).2) fun b W hb => ?_⟩
    subst hb
    simp [hN, e6]
    refine ⟨fun h => retS hC (i : Nat) [1000] rfl (by simp) fun W _ _ => (hgo h).symm, fun h => next (i + 1) _ _ (by omega) (fun W h2 => ⟨⟨hlt, fun z hz => ?_⟩, h2.2⟩) (by simp)⟩
    rw [ft] at hz
    rcases List.mem_append.1 hz with hz | hz
    · exact hne z hz
    · rw [List.mem_singleton.1 hz]
      exact h
  · refine goon ok ?_
    simp [hN, Nat.not_lt.2 hge]
    refine retS hC (-1) [1000] rfl (by simp) fun W _ _ => ?_
    rw [idxF_none]
    rwa [List.take_of_length_le hge] at hne
end Go.Proofs.YtbbaoeidobdblaaGreat.Sx

/- state.bad. -/
set_option linter.unusedVariables false
set_option linter.unusedSimpArgs false
namespace Go.Proofs.YtbbaoeidobdblaaGreat.Sx
open Go
attribute [local simp ↓] ifb_true' ifb_false'
attribute [local simp] ifb_true ifb_false ifb_eq sx argsT find ev evOp evs evo evBin evInt evStr evNil evNilA ptrA slcA isNoneA asB evLoad look del cellsB evUn evConv kdec fld evFieldA evField evIdxA evIdx evSlc bndL bndH evLen mmi put resV guardV gvL setO tupV cellsOf ones one upd lits nv exitTo SV.val CV.val TI.agg rdyA allR keepB scan simpO gsp isS subs keepT pickT wr memN pubs Res.fact Region.binds bld rest give delL back Res.eqv vi vb num Sv.val undef
theorem iC_ones : ∀ l : List Int, ones (iC l)
  | [] => trivial
  | x :: r => ⟨trivial, iC_ones r⟩
set_option maxHeartbeats 1000000 in
theorem stateBad0 (w : World) (I S : Nat → Prop) (hI : ∀ b, I b → b < w.heap.size) (q : Nums) (x : Int) (hl : q.2.2.length ≤ 1000000000) (hS : Owns [Nums.res q] S w) (hSI : ∀ b, S b → b < w.heap.size ∧ ¬ I b) :
    FnS Tryz.prog 112 #[Nums.val q, .int .i64 x] w I S Nums.val (fun t => [Nums.res t]) (fun t W => t.2.2 = addBadL q.2.2 x) := by
  obtain ⟨a, c, l⟩ := q
  replace hl : l.length ≤ 1000000000 := hl
  refine enterS (svs := [.c (.rw 1000 a l.length c), .c (.v (.int .i64 x))]) tysOk Tryz.func112 rfl Tryz.ntmps112 Tryz.results112 (by kernel_rfl) (by simp) hI [Nums.res (a, c, l)] hS hSI (fun _ => True) (fun _ _ => trivial) fun C hC hN ok => ?_
  simp [hN]
  intro g3
  have hno : ∀ W, Res.fact (.box g3 3 [.v (.int .i64 x)]) W → W.cell? ⟨g3, 0, none⟩ = some (.int .i64 x) := fun W h => by
    simp only [Res.fact] at h
    exact box_cell (T := 3) (l := [.int .i64 x]) h rfl
  refine callS ok rfl rfl rfl [1000] [Nums.res (a, c, l)] (by simp) rfl (fun z : Bool => [(1000, Nums.res (a, c, l))]) (fun w I S hI hG hO hS => containsN0 w I S hI (a, c, l) x (by show l.length ≤ _; omega) hO hS) (fun r => by simp) (.inr fun x q hq => by simp at hq; rw [hq]; exact Nat.le_refl _) fun z W hz => ?_
  simp [hN]
  refine ⟨fun hyes => ?_, fun hnot => ?_⟩
  · rw [hz] at hyes
    exact retS hC (a, c, l) [1000] rfl (by simp) fun W _ _ => by rw [addBadL, if_pos (of_decide_eq_true hyes)]
  rw [hz] at hnot
  have hm : addBadL l x = insL l x := by rw [addBadL, if_neg (of_decide_eq_false hnot)]
  refine pub 3 rfl (by decide) (tagA 3 (.c (.v (.pointer (some ⟨g3, 0, none⟩)))) rfl rfl ?_)
  refine callS ok rfl rfl rfl [1000] [Nums.res (a, c, l)] (by simp) rfl (fun z : Int => [(1000, Nums.res (a, c, l))]) (fun w I S hI hG hO hS => indexFN0 w I S hI (a, c, l) 158 (.pointer (some ⟨g3, 0, none⟩)) (fun y => decide (x < y)) (fun W => W.cell? ⟨g3, 0, none⟩ = some (.int .i64 x)) (fun W e => hno W (hG W e).1) (fun w I y hI hK => badMore0 w I hI y g3 x hK) (by show l.length ≤ _; omega) hO hS) (fun r => by simp) (.inr fun x q hq => by simp at hq; rw [hq]; exact Nat.le_refl _) fun z2 W hz2 => ?_
  obtain ⟨i, hi, hzi, hins⟩ : ∃ i : Nat, i ≤ l.length ∧ (z2 = i ∧ i < l.length ∨ z2 = -1 ∧ i = l.length) ∧ insL l x = l.take i ++ x :: l.drop i := by
    rcases idx_cases (fun y : Int => decide (x < y)) l 0 with ⟨k1, k2⟩ | ⟨i, k0, k1, k2, k3⟩
    · refine ⟨l.length, Nat.le_refl _, .inr ⟨by rw [hz2, k1], rfl⟩, insL_at l x _ (Nat.le_refl _) (fun y hy => ?_) (fun h => absurd h (Nat.lt_irrefl _))⟩
      have := of_decide_eq_false (k2 y (List.mem_of_mem_take hy))
      omega
    · refine ⟨i, by omega, .inl ⟨by rw [hz2, k1, Nat.zero_add], k0⟩, insL_at l x _ (by omega) (fun y hy => ?_) (fun _ => of_decide_eq_true k3)⟩
      have := of_decide_eq_false (k2 y hy)
      omega
  have hlen : (l.take i ++ x :: l.drop i).length = l.length + 1 := by simp; omega
  have hcl : (iC l).take i ++ [.v (.int .i64 x)] ++ (iC l).drop i = iC (l.take i ++ x :: l.drop i) := by simp [iC]
  have hnn : ∀ k : Nat, ¬ ((k : Nat) : Int) < 0 := fun k => by omega
  rcases hzi with ⟨rfl, hi2⟩ | ⟨rfl, rfl⟩
  · simp [hN, hnn]
    refine load1 ok rfl rfl rfl rfl (fun v W => v = .int .i64 x) (fun W hW => ⟨_, hno W (by have h1 := hW.2.1; simpa [Res.fact] using h1), rfl⟩) ?_
    rintro v W rfl _
    simp [hN]
    intro g20
    refine callS ok rfl rfl rfl [1000, 20] [.row a l.length c 3 1 (iC l), .row (some ⟨g20, 0, none⟩) 1 1 3 1 [.v (.int .i64 x)]] (by simp) rfl (fun r : Option Addr × Nat => [(1000, .row r.1 (l.length + 1) r.2 3 1 ((iC l).take i ++ [.v (.int .i64 x)] ++ (iC l).drop i))]) (fun w I S hI hG hO hS => insertN0 w I S hI i (iC l) [.v (.int .i64 x)] g20 (iC_len l) rfl (iC_ones l) (by simp) hi hl hO hS) (fun r => by simp) (.inr fun x q hq => by simp at hq; rw [hq]; exact Nat.le_refl _) fun r W _ => ?_
    obtain ⟨ua, uc⟩ := r
    simp only [hcl]
    simp [hN]
    exact retS hC (ua, uc, l.take i ++ x :: l.drop i) [1000] (by simp [hlen]) (by simp [hlen]) fun W _ _ => by rw [hm, hins]
  · simp [hN, hnn]
    refine load1 ok rfl rfl rfl rfl (fun v W => v = .int .i64 x) (fun W hW => ⟨_, hno W (by have h1 := hW.2.1; simpa [Res.fact] using h1), rfl⟩) ?_
    rintro v W rfl _
    simp [hN]
    intro g20
    refine callS ok rfl rfl rfl [1000, 20] [.row a l.length c 3 1 (iC l), .row (some ⟨g20, 0, none⟩) 1 1 3 1 [.v (.int .i64 x)]] (by simp) rfl (fun r : Option Addr × Nat => [(1000, .row r.1 (l.length + 1) r.2 3 1 ((iC l).take l.length ++ [.v (.int .i64 x)] ++ (iC l).drop l.length))]) (fun w I S hI hG hO hS => insertN0 w I S hI l.length (iC l) [.v (.int .i64 x)] g20 (iC_len l) rfl (iC_ones l) (by simp) hi hl hO hS) (fun r => by simp) (.inr fun x q hq => by simp at hq; rw [hq]; exact Nat.le_refl _) fun r W _ => ?_
    obtain ⟨ua, uc⟩ := r
    simp only [hcl]
    simp [hN]
    exact retS hC (ua, uc, l.take l.length ++ x :: l.drop l.length) [1000] (by simp [hlen]) (by simp [hlen]) fun W _ _ => by rw [hm, hins]
end Go.Proofs.YtbbaoeidobdblaaGreat.Sx

/- state.Apply. -/
set_option linter.unusedVariables false
set_option linter.unusedSimpArgs false
namespace Go.Proofs.YtbbaoeidobdblaaGreat.Sx
open Go
attribute [local simp ↓] ifb_true' ifb_false'
attribute [local simp] ifb_true ifb_false ifb_eq sx argsT find ev evOp evs evo evBin evInt evStr evNil evNilA ptrA slcA isNoneA asB evLoad look del cellsB evUn evConv kdec fld evFieldA evField evIdxA evIdx evSlc bndL bndH evLen mmi put resV guardV gvL setO tupV cellsOf ones one upd lits nv exitTo SV.val CV.val TI.agg rdyA allR keepB scan simpO gsp isS subs keepT pickT wr memN pubs Res.fact Region.binds bld rest give delL back Res.eqv vi vb num Sv.val undef
theorem applyL_take {s : Sta} {l : List Dee} {i : Nat} (h : i < l.length) : applyL s (l.take (i + 1)) = applyOne (applyL s (l.take i)) l[i] := by
  rw [List.take_add_one, List.getElem?_eq_getElem h]
  exact applyL_snoc _ _ _
set_option maxRecDepth 100000 in
set_option maxHeartbeats 4000000 in
theorem apply0 (w : World) (I : Nat → Prop) (hI : ∀ b, I b → b < w.heap.size) (s : Sta) (si sb : Sl) {a : Option Addr} {n c : Nat} (l : List Dee) (h : ∀ W, Ext I w W → StaR W s si sb) (hd : ∀ W, Ext I w W → Sv.ok dDee W (a, n, c) l) (hl : s.inos.length + l.length ≤ 1000000000 ∧ s.bad.length + l.length ≤ 1000000000) :
    Fn0 Tryz.prog 62 #[.agg (staC s si sb).toArray, .slice a n c] w I (fun y : Sl × Sl => .agg (staC (applyL s l) y.1 y.2).toArray) (fun y W => StaR W (applyL s l) y.1 y.2) := by
  obtain rfl : n = l.length := (hd w (Ext.refl _ _)).1
  obtain ⟨ia, ic⟩ := si
  obtain ⟨ba, bc⟩ := sb
  refine enter (svs := [.ag ((staC s (ia, ic) (ba, bc)).map .v), .c (.v (.slice a l.length c))]) tysOk Tryz.func62 rfl Tryz.ntmps62 Tryz.results62 (by kernel_rfl) (by simp) hI (fun W => StaR W s (ia, ic) (ba, bc) ∧ Sv.ok dDee W (a, l.length, c) l) (fun W e => ⟨h W e, hd W e⟩) fun C hC hN ok => ?_
  simp [hN]
  intro g2 g4
  refine drawW ok mixed (by kernel_rfl) ?_
  have k1 : ∀ w I, (∀ b, I b → b < w.heap.size) → (∀ W, Ext I w W → StaR W s (ia, ic) (ba, bc) ∧ Sv.ok dDee W (a, l.length, c) l) → FnS Tryz.prog 107 #[.slice ia s.inos.length ic] w I noS Inos.val (fun r => [Inos.res r]) (fun r W => r.2.2.map Prod.fst = s.inos ∧ InosR W r.2.2) := fun w I hI h => copied0 w I hI s.inos (fun W e => (sta_get (h W e).1).1) (by omega)
  have k2 : ∀ w I, (∀ b, I b → b < w.heap.size) → (∀ W, Ext I w W → StaR W s (ia, ic) (ba, bc) ∧ Sv.ok dDee W (a, l.length, c) l) → FnS Tryz.prog 108 #[.slice ba s.bad.length bc] w I noS Nums.val (fun r => [Nums.res r]) (fun r W => r.2.2 = s.bad) := fun w I hI h => cloneN w I hI s.bad fun W e => (sta_get (h W e).1).2
  simp (maxSteps := 2000000) -implicitDefEqProofs [hN]
  and_intros
  all_goals
    refine callS ok rfl rfl rfl [] [] trivial rfl (fun r : Inos => [(600, Inos.res r)]) (fun w I S hI hG hO hS => (k1 w I hI hG).lone hO) (fun r => by simp [back, memN, Res.eqv]) (.inl fun k hk => by cases hk) fun r W hr => ?_
    obtain ⟨ra, rc, L⟩ := r
    have hll : L.length = s.inos.length := by have := congrArg List.length hr.1; simpa using this
    simp (maxSteps := 2000000) -implicitDefEqProofs [hN, Inos.val, Inos.res]
    refine callS ok rfl rfl rfl [] [] trivial rfl (fun r : Nums => [(601, Nums.res r)]) (fun w I S hI hG hO hS => (k2 w I hI fun W e => (hG W e).2).lone hO) (fun r => by simp [back, memN, Res.eqv]) (.inl fun k hk => by cases hk) fun q W hq => ?_
    obtain ⟨qa, qc, B⟩ := q
    obtain rfl : B = s.bad := hq
    simp (maxSteps := 2000000) -implicitDefEqProofs [hN, Inos.val, Inos.res]
    refine loopK [0, 1, 2, 4, 15, 16] ok (fun y : Nat × Inos × Nums => [(17, .c (.v (.int .i64 (y.1 : Nat))))]) (fun y => [(600, Inos.res y.2.1), (601, Nums.res y.2.2), (4, .box g4 39 [.v (.int .i64 0), .v (.slice none 0 0), .v (.slice none 0 0)]), (2, .box g2 39 [.v (.int .i64 (applyL s (l.take y.1)).next), .v (Inos.val y.2.1), .v (Nums.val y.2.2)])]) (fun y W => y.1 ≤ l.length ∧ y.2.1.2.2.map Prod.fst = (applyL s (l.take y.1)).inos ∧ InosR W y.2.1.2.2 ∧ y.2.2.2.2 = (applyL s (l.take y.1)).bad) (fun y => l.length - y.1) (0, (ra, rc, L), (qa, qc, s.bad)) ?_ ?_ (fun W hW => ⟨Nat.zero_le _, ?_, ?_, rfl⟩) ?_
    · simp
    · simp [applyL]
    · show L.map Prod.fst = (applyL s (l.take 0)).inos
      exact hr.1
    · exact hW.1.2
    rintro ⟨i, ⟨pa, pc, L2⟩, ⟨va, vc, B2⟩⟩ W ⟨hi, hm, hR, hB⟩ hG next
    have hlen := applyL_len s (l.take i)
    rw [List.length_take] at hlen
    simp only at hi hm hR hB
    have hSa : ∀ h : i < l.length, applyL s (l.take (i + 1)) = applyOne (applyL s (l.take i)) l[i] := fun h => applyL_take h
    generalize hSe : applyL s (l.take i) = S at next hlen hm hB hSa
    have hL2 : L2.length = S.inos.length := by rw [← hm]; simp
    subst hB
    rcases Nat.lt_or_ge i l.length with hlt | hge
    · obtain ⟨b, o, e⟩ := (show Sv.ok dDee W (_, l.length, c) l from hG.2.2).2.2.2.is_some (show 0 < l.length by omega)
      cases e
      have e6 : IntKind.i64.wrap ((i : Int) + 1) = (i + 1 : Nat) := by rw [w64 (by omega) (by omega)]; omega
      have fa := hSa hlt
      have hget : ∀ W, Sv.ok dDee W (some ⟨b, o, none⟩, l.length, c) l → ∃ cs, cs.length = 9 ∧ (∀ j v, cs[j]? = some v → W.cell? ⟨b, o + i * 9 + j, none⟩ = some v) ∧ dDee.K W l[i] cs := fun W hW => by
        obtain ⟨cs, hk, hcl, hc⟩ := hW.2.2.2.get hlt
        exact ⟨cs, hcl, hc, hk⟩
      generalize l[i] = d at fa hget
      simp [hN, hlt]
      refine loadA ok rfl rfl rfl rfl (fun q W => dDee.K W d q) (fun W hW => hget W hW.2.2.2) ?_
      rintro v W _ ⟨⟨ea, ec⟩, ⟨xa, xc⟩, rfl, hdR⟩ hG2
      simp [hN]
      intro g6
      refine ⟨fun k1 => ?_, fun k1 => ⟨fun k2 => ?_, fun k2 => ⟨fun k3 => ?_, fun k3 => ⟨fun k4 => ?_, fun k4 => ?_⟩⟩⟩⟩
      · have fo : applyOne S d = { S with next := d.no } := by simp [applyOne, k1]
        refine next (i + 1, (pa, pc, L2), (va, vc, S.bad)) _ _ (by simp; omega) (fun W h => ⟨⟨hlt, by simp only [fa, fo]; exact hm, h.2.1.2.2, by simp only [fa, fo]⟩, h.2.2⟩) ?_
        simp [e6, fa, fo]
      · have fo : applyOne S d = { S with inos := putInoL S.inos d.ino } := by simp [applyOne, k2]
        refine callS ok rfl rfl rfl [600] [Inos.res (pa, pc, L2)] (by simp) rfl (fun t : Inos => [(600, Inos.res t)]) (fun w I S' hI hG hO hS => statePut0 w I S' hI (pa, pc, L2) d.ino (ea, ec) (xa, xc) (fun W e => (hG W e).2.1.2.2) (fun W e => dee_get (hG W e).1) (by show L2.length ≤ _; omega) hO hS) (fun r => by simp [back, memN, Res.eqv]) (.inl fun k hk => by simp at hk; omega) fun t W ht => ?_
        obtain ⟨ta, tc, L3⟩ := t
        have ht1 : L3.map Prod.fst = putInoL S.inos d.ino := by rw [← hm]; exact ht.1
        simp [hN]
        refine next (i + 1, (ta, tc, L3), (va, vc, S.bad)) _ _ (by simp; omega) (fun W h => ⟨⟨hlt, by simp only [fa, fo]; exact ht1, h.1.2, by simp only [fa, fo]⟩, h.2.2.2⟩) ?_
        simp [e6, fa, fo]
      · have fo : applyOne S d = { S with inos := S.inos.filter fun x => decide (x.no ≠ d.no) } := by simp [applyOne, k3]
        have hno : ∀ W, Res.fact (.box g6 46 ((deeC d (ea, ec) (xa, xc)).map .v)) W → W.cell? ⟨g6, 1, none⟩ = some (.int .i64 d.no) := fun W h => by
          refine box_cell (T := 46) (l := deeC d (ea, ec) (xa, xc)) ?_ rfl
          simp only [Res.fact, List.map_map] at h
          simpa [Function.comp_def, CV.val] using h
        refine pub 6 rfl (by decide) ?_
        refine callS ok rfl rfl rfl [600] [Inos.res (pa, pc, L2)] (by simp) rfl (fun t : Inos => [(600, Inos.res t)]) (fun w I S' hI hG hO hS => delete0 w I S' hI (pa, pc, L2) 111 (.pointer (some ⟨g6, 0, none⟩)) (fun y => decide (y.no = d.no)) (fun W => W.cell? ⟨g6, 1, none⟩ = some (.int .i64 d.no)) (fun W e => hno W (hG W e).1) (fun w I y e r hI hK => dropSame0 w I hI y e r g6 d.no hK) (by show L2.length ≤ _; omega) hO hS) (fun r => by simp [back, memN, Res.eqv]) (.inl fun k hk => by simp at hk; omega) fun t W ht => ?_
        obtain ⟨ta, tc, L3⟩ := t
        replace ht : L3 = L2.filter fun y => !decide (y.1.no = d.no) := ht
        have ht1 : L3.map Prod.fst = S.inos.filter fun x => decide (x.no ≠ d.no) := by
          rw [ht, ← hm, List.filter_map]
          congr 1
          apply List.filter_congr
          intro y _
          simp
        simp [hN]
        refine next (i + 1, (ta, tc, L3), (va, vc, S.bad)) _ _ (by simp; omega) (fun W h => ⟨⟨hlt, by simp only [fa, fo]; exact ht1, fun y hy => ?_, by simp only [fa, fo]⟩, h.2.2.2.2⟩) ?_
        · have hy' : y ∈ L3 := hy
          rw [ht] at hy'
          exact h.2.2.2.1.2.2 y (List.mem_filter.1 hy').1
        · simp [e6, fa, fo]
      · have fo : applyOne S d = { S with bad := addBadL S.bad d.no } := by simp [applyOne, k4]
        refine callS ok rfl rfl rfl [601] [Nums.res (va, vc, S.bad)] (by simp) rfl (fun t : Nums => [(601, Nums.res t)]) (fun w I S' hI hG hO hS => stateBad0 w I S' hI (va, vc, S.bad) d.no (by show S.bad.length ≤ _; omega) hO hS) (fun r => by simp [back, memN, Res.eqv]) (.inl fun k hk => by simp at hk; omega) fun t W ht => ?_
        obtain ⟨ta, tc, B3⟩ := t
        replace ht : B3 = addBadL S.bad d.no := ht
        subst ht
        simp [hN]
        refine next (i + 1, (pa, pc, L2), (ta, tc, addBadL S.bad d.no)) _ _ (by simp; omega) (fun W h => ⟨⟨hlt, by simp only [fa, fo]; exact hm, h.2.1.2.2, by simp only [fa, fo]⟩, h.2.2⟩) ?_
        simp [e6, fa, fo]
      · have fo : applyOne S d = S := by simp [applyOne, k1, k2, k3, k4]
        refine next (i + 1, (pa, pc, L2), (va, vc, S.bad)) _ _ (by simp; omega) (fun W h => ⟨⟨hlt, by simp only [fa, fo]; exact hm, h.2.1.2.2, by simp only [fa, fo]⟩, h.2.2⟩) ?_
        simp [e6, fa, fo]
    · have hT : l.take i = l := List.take_of_length_le hge
      rw [hT] at hSe
      subst hSe
      simp [hN, Nat.not_lt.2 hge]
      refine ret0 hC ((pa, pc), (va, vc)) (by simp [hL2]) fun W hp hG => ?_
      have h1 : W.ownsRow 0 44 7 (.slice pa L2.length pc) L2.length ((inosC L2).map CV.val) := by simpa using hp.2.1
      have h2 : W.ownsRow 0 3 1 (.slice va (applyL s l).bad.length vc) (applyL s l).bad.length ((iC (applyL s l).bad).map CV.val) := by simpa using hp.2.2.1
      have h3 := (inos_rows L2 (show InosR W L2 from hG.1.2.2)).sv (by decide) (by simp; omega) h1
      rw [show L2.map Prod.fst = (applyL s l).inos from hG.1.2.1] at h3
      rw [iC_val] at h2
      have h4 := (rowsI.2 rfl : Rows dInt W (applyL s l).bad _).sv (by decide) (by omega) h2
      exact ⟨h3.2, h4.2⟩
end Go.Proofs.YtbbaoeidobdblaaGreat.Sx

/- Models of power, and of a chip whose bits are cleared one by one. -/
set_option linter.unusedVariables false
set_option linter.unusedSimpArgs false
namespace Go.Proofs.YtbbaoeidobdblaaGreat.Sx
open Go
/-- Power: steps left (below 0: as many as may be), the mask, whether it is off, steps done. -/
structure Pw where
  left : Int
  mask : Int
  off : Bool
  done : Int
/-- A step: whether it is done, whether it is torn, and power behind it. -/
def Pw.step (p : Pw) : Bool × Bool × Pw :=
  if p.off then (false, false, p) else if p.left = 0 then (false, true, { p with off := true }) else (true, false, { p with left := if 0 < p.left then p.left - 1 else p.left, done := IntKind.i64.wrap (p.done + 1) })
def bor (a b : Int) : Int := IntKind.u8.wrap (BitVec.ofInt IntKind.u8.bits a ||| BitVec.ofInt IntKind.u8.bits b).toNat
def band (a b : Int) : Int := IntKind.u8.wrap (BitVec.ofInt IntKind.u8.bits a &&& BitVec.ofInt IntKind.u8.bits b).toNat
def bandn (a b : Int) : Int := IntKind.u8.wrap (BitVec.ofInt IntKind.u8.bits a &&& ~~~BitVec.ofInt IntKind.u8.bits b).toNat
/-- Bytes are written over others, one by one: the error (0: none), the bytes, and power. -/
def writeM : Pw → List Int → List Int → Bool × List Int × Pw
  | p, o :: os, x :: xs =>
    match p.step with
    | (true, _, q) => ((writeM q os xs).1, x :: (writeM q os xs).2.1, (writeM q os xs).2.2)
    | (false, true, q) => (false, bor x (band o q.mask) :: os, q)
    | (false, false, q) => (false, o :: os, q)
  | p, os, _ => (true, os, p)
/-- May bytes be written over others? -/
def fitsM : List Int → List Int → Bool
  | o :: os, x :: xs => (bandn x o == 0) && fitsM os xs
  | _, _ => true
end Go.Proofs.YtbbaoeidobdblaaGreat.Sx

/- Laws on a map whose keys are one number each (a struct or an array of one int), kept as a list of keys and values: mget up, store, delete, count, range. No program in sight. -/
set_option linter.unusedVariables false
set_option linter.unusedSimpArgs false
namespace Go.Proofs.YtbbaoeidobdblaaGreat.Mx
open Go Go.MapKept
open Go.ChangeMaps (setBlock heap_setBlock_same heap_setBlock_other set_perm)
open Go.Maps (Keyed)
/-! ### lists of keys and values -/
def mget {α : Type} (l : List (Int × α)) (k : Int) : Option α := (l.find? (fun p => p.1 == k)).map (·.2)
def mdel {α : Type} (l : List (Int × α)) (k : Int) : List (Int × α) := l.filter (fun p => !(p.1 == k))
def mput {α : Type} (l : List (Int × α)) (k : Int) (v : α) : List (Int × α) := (k, v) :: mdel l k

theorem mget_cons {α : Type} (p : Int × α) (l : List (Int × α)) (k : Int) : mget (p :: l) k = if p.1 = k then some p.2 else mget l k := by
  unfold mget
  by_cases h : p.1 = k <;> simp [h]
theorem mget_mdel {α : Type} (l : List (Int × α)) (k j : Int) : mget (mdel l k) j = if j = k then none else mget l j := by
  induction l with
  | nil => simp [mdel, mget]
  | cons p l ih =>
    by_cases hp : p.1 = k
    · have : mdel (p :: l) k = mdel l k := by simp [mdel, hp]
      rw [this, ih, mget_cons]
      by_cases hj : j = k
      · simp [hj]
      · rw [if_neg hj, if_neg hj, if_neg (by rw [hp]; exact fun e => hj e.symm)]
    · have : mdel (p :: l) k = p :: mdel l k := by simp [mdel, hp]
      rw [this, mget_cons, mget_cons, ih]
      by_cases hj : j = k
      · subst hj; simp [hp]
      · simp [hj]
theorem mget_mput {α : Type} (l : List (Int × α)) (k : Int) (v : α) (j : Int) : mget (mput l k v) j = if j = k then some v else mget l j := by
  unfold mput
  rw [mget_cons, mget_mdel]
  by_cases hj : j = k
  · subst hj; simp
  · rw [if_neg hj, if_neg (fun e => hj (show j = k from e.symm)), if_neg hj]
theorem mget_mem {α : Type} {l : List (Int × α)} {k : Int} {v : α} (h : mget l k = some v) : (k, v) ∈ l := by
  unfold mget at h
  rw [Option.map_eq_some_iff] at h
  obtain ⟨p, hp, rfl⟩ := h
  have h1 := List.find?_some hp
  have h2 := List.mem_of_find?_eq_some hp
  have : p.1 = k := by simpa using h1
  subst this
  exact h2
theorem mget_of_mem {α : Type} {l : List (Int × α)} (hn : (l.map Prod.fst).Nodup) {k : Int} {v : α} (h : (k, v) ∈ l) : mget l k = some v := by
  induction l with
  | nil => simp at h
  | cons p l ih =>
    rw [mget_cons]
    rw [List.map_cons, List.nodup_cons] at hn
    rcases List.mem_cons.1 h with rfl | h
    · simp
    · have : p.1 ≠ k := fun e => hn.1 (List.mem_map.2 ⟨(k, v), h, e.symm⟩)
      rw [if_neg this]
      exact ih hn.2 h
theorem mget_none {α : Type} {l : List (Int × α)} {k : Int} (h : mget l k = none) : ∀ p ∈ l, p.1 ≠ k := by
  intro p hp e
  unfold mget at h
  rw [Option.map_eq_none_iff, List.find?_eq_none] at h
  have := h p hp
  simp [e] at this
theorem mdel_none {α : Type} {l : List (Int × α)} {k : Int} (h : mget l k = none) : mdel l k = l := by
  unfold mdel
  rw [List.filter_eq_self]
  intro p hp
  simp [mget_none h p hp]
/-! ### the map in memory -/
/-- The keys of type kt are one number each. -/
structure KeyFn (P : Program) (kt : TypeId) (kv : Int → Value) : Prop where
  K : Keyed P kt
  key : ∀ x, (Lit.int .i64 x).wf = true → ∃ l, keyOf P kt (kv x) = some l
  inj : ∀ x y, kv x = kv y → x = y

def pr (kv : Int → Value) (p : Int × Value) : Value × Value := (kv p.1, p.2)
def pe (e : MapEntry) : Value × Value := (e.key, e.val)

/-- Block b is a map that has just these keys and values. -/
def MapAt (kv : Int → Value) (w : World) (b : Nat) (l : List (Int × Value)) : Prop :=
  ∃ es clock, w.heap[b]? = some (.map es clock) ∧ Stamped es clock ∧ (es.toList.map pe).Perm (l.map (pr kv)) ∧ ∀ p ∈ l, (Lit.int .i64 p.1).wf = true

section
variable {P : Program} {kt et t : TypeId} {kv : Int → Value} {w : World} {b : Nat} {l : List (Int × Value)}
theorem MapAt.lt (h : MapAt kv w b l) : b < w.heap.size := by
  obtain ⟨es, clock, hb, _⟩ := h
  exact (Array.getElem?_eq_some_iff.1 hb).1
theorem MapAt.made (kv : Int → Value) (w : World) : MapAt kv (w.alloc (.map #[] 0)) w.heap.size [] :=
  ⟨#[], 0, (MapKept.heap_alloc w _).1, stamped_empty 0, by simp, by simp⟩
theorem MapAt.block {w' : World} (h : MapAt kv w b l) (hb : w'.heap[b]? = w.heap[b]?) : MapAt kv w' b l := by
  obtain ⟨es, clock, h1, r⟩ := h
  exact ⟨es, clock, hb.trans h1, r⟩
theorem MapAt.kept {w' : World} {row : Option Nat} (h : MapAt kv w b l) (hg : w.grownBy w' row) (hne : some b ≠ row) : MapAt kv w' b l := h.block (hg.block b h.lt hne)
theorem MapAt.alloc (h : MapAt kv w b l) (o : Obj) : MapAt kv (w.alloc o) b l := h.kept (World.grownBy_alloc w o none) (by simp)
theorem MapAt.drew (h : MapAt kv w b l) : MapAt kv w.drew b l := h
theorem MapAt.setCell (h : MapAt kv w b l) {a : Addr} (ha : b ≠ a.block) (u : Value) : MapAt kv (w.setCell a u) b l := h.block (RowKit.Below.heap_setCell _ _ _ _ ha)
theorem MapAt.nodup (h : MapAt kv w b l) : (l.map Prod.fst).Nodup := by
  obtain ⟨es, clock, _, ⟨_, _, hk⟩, hp, _⟩ := h
  have e1 : es.toList.map (·.key) = (es.toList.map pe).map Prod.fst := by simp [pe, Function.comp_def]
  have e2 : (l.map (pr kv)).map Prod.fst = (l.map Prod.fst).map kv := by simp [pr, Function.comp_def]
  rw [e1, (hp.map Prod.fst).nodup_iff, e2] at hk
  exact List.Pairwise.of_map kv (fun a c h e => h (congrArg kv e)) hk

theorem MapAt.keys {es : Array MapEntry} (F : KeyFn P kt kv) (hp : (es.toList.map pe).Perm (l.map (pr kv))) (hw : ∀ p ∈ l, (Lit.int .i64 p.1).wf = true) : ∀ e ∈ es.toList, ∃ x, keyOf P kt e.key = some x := by
  intro e he
  have : pe e ∈ l.map (pr kv) := hp.mem_iff.1 (List.mem_map.2 ⟨e, he, rfl⟩)
  obtain ⟨p, hp1, hp2⟩ := List.mem_map.1 this
  obtain ⟨x, hx⟩ := F.key p.1 (hw p hp1)
  exact ⟨x, by rw [← hx, show e.key = kv p.1 from (congrArg Prod.fst hp2).symm]⟩

/-- Where a key is found, or not. -/
theorem MapAt.find {es : Array MapEntry} (F : KeyFn P kt kv) (hst : (l.map Prod.fst).Nodup) (hp : (es.toList.map pe).Perm (l.map (pr kv))) (hw : ∀ p ∈ l, (Lit.int .i64 p.1).wf = true) (k : Int) (hk : (Lit.int .i64 k).wf = true) (w : World) :
    ((Instr.findKey kt (kv k) es.toList).run P w = .ok none w ∧ (∀ e ∈ es.toList, e.key ≠ kv k) ∧ mget l k = none) ∨
    ∃ j e, (Instr.findKey kt (kv k) es.toList).run P w = .ok (some (j, e.val)) w ∧ es.toList[j]? = some e ∧ e.key = kv k ∧ mget l k = some e.val := by
  obtain ⟨x, hx⟩ := F.key k hk
  rcases F.K.find w hx es.toList (MapAt.keys F hp hw) with ⟨h1, h2⟩ | ⟨j, e, h1, h2, h3⟩
  · refine .inl ⟨h1, h2, ?_⟩
    cases hl : mget l k with
    | none => rfl
    | some v =>
      have : pr kv (k, v) ∈ es.toList.map pe := hp.mem_iff.2 (List.mem_map.2 ⟨_, mget_mem hl, rfl⟩)
      obtain ⟨e, he, e2⟩ := List.mem_map.1 this
      exact absurd (congrArg Prod.fst e2) (h2 e he)
  · refine .inr ⟨j, e, h1, h2, h3, ?_⟩
    have : pe e ∈ l.map (pr kv) := hp.mem_iff.1 (List.mem_map.2 ⟨e, List.mem_of_getElem? h2, rfl⟩)
    obtain ⟨p, hp1, hp2⟩ := List.mem_map.1 this
    have h4 : kv p.1 = kv k := (congrArg Prod.fst hp2).trans h3
    have h5 := F.inj _ _ h4
    have h6 : p.2 = e.val := congrArg Prod.snd hp2
    exact mget_of_mem hst (by rw [← h5, ← h6]; exact hp1)

/-- 'v, is := m[k]' and 'm[k]'. -/
theorem MapAt.lookup (h : MapAt kv w b l) (F : KeyFn P kt kv) (ht : P.underlying t = some (.map kt et)) {z : Value} (hz : (zeroValue et).run P w = .ok z w) (k : Int) (hk : (Lit.int .i64 k).wf = true) (c : Bool) :
    (Instr.lookup t (.map (some b)) (kv k) c).run P w = .ok (if c then .tuple #[(mget l k).getD z, .bool (mget l k).isSome] else (mget l k).getD z) w := by
  have hn := h.nodup
  obtain ⟨es, clock, hb, hs, hp, hw⟩ := h
  obtain ⟨x, hx⟩ := F.key k hk
  rcases MapAt.find F hn hp hw k hk w with ⟨h1, _, h3⟩ | ⟨j, e, h1, _, _, h4⟩
  · simp [Instr.lookup, run_underlying ht, MapKept.run_getObj_map hb, F.K.check w _ hx, h1, hz, Result.andThen, h3]
  · simp [Instr.lookup, run_underlying ht, MapKept.run_getObj_map hb, F.K.check w _ hx, h1, Result.andThen, h4]

theorem perm_erase {es : List MapEntry} {j : Nat} {e : MapEntry} (hj : es[j]? = some e) : es.Perm (e :: es.eraseIdx j) := by
  induction es generalizing j with
  | nil => simp at hj
  | cons a es ih =>
    cases j with
    | zero => simp at hj; subst hj; simp
    | succ j =>
      simp only [List.getElem?_cons_succ] at hj
      have := ih hj
      exact (this.cons a).trans (by simpa using List.Perm.swap e a _)
theorem erase_perm {es : List MapEntry} (hst : (l.map Prod.fst).Nodup) (F : KeyFn P kt kv) (hp : (es.map pe).Perm (l.map (pr kv))) {j : Nat} {e : MapEntry} {k : Int} (hj : es[j]? = some e) (hk : e.key = kv k) :
    ((es.eraseIdx j).map pe).Perm ((mdel l k).map (pr kv)) := by
  have h1 : (pe e :: (es.eraseIdx j).map pe).Perm (l.map (pr kv)) := (((perm_erase hj).map pe).symm).trans hp
  have hm : pe e ∈ l.map (pr kv) := h1.mem_iff.1 (by simp)
  obtain ⟨p, hp1, hp2⟩ := List.mem_map.1 hm
  have h5 : p.1 = k := F.inj _ _ ((congrArg Prod.fst hp2).trans hk)
  have hl : mget l k = some p.2 := mget_of_mem hst (by rw [← h5]; exact hp1)
  have h2 : l.Perm (p :: mdel l k) := by
    clear h1 hm hl hp hp2 hj hk
    induction l with
    | nil => simp at hp1
    | cons q l ih =>
      rw [List.map_cons, List.nodup_cons] at hst
      by_cases hq : q.1 = k
      · have hn : mget l k = none := by
          cases hl : mget l k with
          | none => rfl
          | some v => exact absurd (List.mem_map.2 ⟨(k, v), mget_mem hl, hq.symm⟩) hst.1
        have : mdel (q :: l) k = l := by
          have : mdel (q :: l) k = mdel l k := by simp [mdel, hq]
          rw [this, mdel_none hn]
        rw [this]
        rcases List.mem_cons.1 hp1 with rfl | hp1
        · exact List.Perm.refl _
        · exact absurd h5 (mget_none hn p hp1)
      · have : mdel (q :: l) k = q :: mdel l k := by simp [mdel, hq]
        rw [this]
        rcases List.mem_cons.1 hp1 with rfl | hp1
        · exact absurd h5 hq
        · exact ((ih hst.2 hp1).cons q).trans (List.Perm.swap p q _)
  have h3 : (pe e :: (es.eraseIdx j).map pe).Perm (pe e :: (mdel l k).map (pr kv)) := by
    refine h1.trans ((h2.map (pr kv)).trans ?_)
    rw [List.map_cons, hp2]
  exact h3.cons_inv

theorem grownBy_setBlock (hb : ∃ es clock, w.heap[b]? = some (.map es clock)) (es' : Array MapEntry) (clock' : Nat) : w.grownBy (setBlock w b (.map es' clock')) (some b) := by
  obtain ⟨es, clock, hb⟩ := hb
  exact ⟨rfl, rfl, rfl, by simp [setBlock], fun i _ hi => heap_setBlock_other hb _ (fun e => hi (by rw [e]))⟩

/-- 'len(m)'. -/
theorem MapAt.len (h : MapAt kv w b l) (ht : P.underlying t = some (.map kt et)) (ty : TypeId) : (Builtin.len_ #[t] ty #[.map (some b)]).run P w = .ok (.int .i64 l.length) w := by
  obtain ⟨es, clock, hb, hs, hp, hw⟩ := h
  have : es.size = l.length := by simpa using hp.length_eq
  simp [Builtin.len_, run_underlying ht, MapKept.run_getObj_map hb, Result.andThen, goInt, this]

/-! ### ranging -/
/-- Block r walks over the map in block b; 'todo': what is still to come. -/
def RangeAt (kv : Int → Value) (w : World) (b r : Nat) (l todo : List (Int × Value)) : Prop :=
  ∃ es clock seen c0, w.heap[b]? = some (.map es clock) ∧ Stamped es clock ∧ (es.toList.map pe).Perm (l.map (pr kv)) ∧ (∀ p ∈ l, (Lit.int .i64 p.1).wf = true) ∧
    w.heap[r]? = some (.mapIter (some b) clock seen c0) ∧ clock ≤ c0 ∧ ((leftOf es seen).toList.map pe).Perm (todo.map (pr kv))

theorem RangeAt.map {r : Nat} {todo : List (Int × Value)} (h : RangeAt kv w b r l todo) : MapAt kv w b l := by
  obtain ⟨es, clock, seen, c0, h1, h2, h3, h4, _⟩ := h
  exact ⟨es, clock, h1, h2, h3, h4⟩
theorem RangeAt.lt {r : Nat} {todo : List (Int × Value)} (h : RangeAt kv w b r l todo) : r < w.heap.size := by
  obtain ⟨es, clock, seen, c0, h1, h2, h3, h4, h5, _⟩ := h
  exact (Array.getElem?_eq_some_iff.1 h5).1
theorem RangeAt.ne {r : Nat} {todo : List (Int × Value)} (h : RangeAt kv w b r l todo) : r ≠ b := by
  obtain ⟨es, clock, seen, c0, h1, h2, h3, h4, h5, _⟩ := h
  rintro rfl
  rw [h1] at h5
  cases h5
theorem RangeAt.kept {w' : World} {row : Option Nat} {r : Nat} {todo : List (Int × Value)} (h : RangeAt kv w b r l todo) (hg : w.grownBy w' row) (hb : some b ≠ row) (hr : some r ≠ row) : RangeAt kv w' b r l todo := by
  have h1 := h.lt
  have h2 := h.map.lt
  obtain ⟨es, clock, seen, c0, e1, e2, e3, e4, e5, e6⟩ := h
  exact ⟨es, clock, seen, c0, (hg.block b h2 hb).trans e1, e2, e3, e4, (hg.block r h1 hr).trans e5, e6⟩
theorem RangeAt.alloc {r : Nat} {todo : List (Int × Value)} (h : RangeAt kv w b r l todo) (o : Obj) : RangeAt kv (w.alloc o) b r l todo := h.kept (World.grownBy_alloc w o none) (by simp) (by simp)

theorem MapAt.range (h : MapAt kv w b l) (ht : P.underlying t = some (.map kt et)) :
    ∃ w', (Instr.range t (.map (some b))).run P w = .ok (.pointer (some ⟨w.heap.size, 0, none⟩)) w' ∧ RangeAt kv w' b w.heap.size l l ∧ w.grownBy w' none ∧ w'.heap.size = w.heap.size + 1 := by
  have hlt := h.lt
  obtain ⟨es, clock, hb, hs, hp, hw⟩ := h
  refine ⟨_, run_range_map w t kt et b es clock ht hb, ⟨es, clock, #[], clock, ((MapKept.heap_alloc w _).2 b hlt).trans hb, hs, hp, hw, (MapKept.heap_alloc w _).1, Nat.le_refl _, ?_⟩, World.grownBy_alloc w _ none, by simp⟩
  have : (leftOf es #[]).toList = es.toList := by simp [leftOf]
  rw [this]; exact hp

theorem left_push {es : List MapEntry} (seen : Array Nat) {e : MapEntry} (hn : (es.map (·.born)).Nodup) (he : e ∈ es) (hs : seen.contains e.born = false) :
    (es.filter fun x => !seen.contains x.born).Perm (e :: es.filter fun x => !(seen.push e.born).contains x.born) := by
  induction es with
  | nil => simp at he
  | cons a es ih =>
    rw [List.map_cons, List.nodup_cons] at hn
    rcases List.mem_cons.1 he with rfl | he
    · have h1 : ∀ x ∈ es, (!(seen.push e.born).contains x.born) = !seen.contains x.born := by
        intro x hx
        rw [contains_push]
        have : (x.born == e.born) = false := by
          rw [beq_eq_false_iff_ne]
          exact fun h => hn.1 (List.mem_map.2 ⟨x, hx, h⟩)
        simp [this]
      rw [List.filter_cons_of_pos (by simp only [hs]; rfl), List.filter_cons_of_neg (by rw [contains_push]; simp), List.filter_congr h1]
    · have h1 : (a.born == e.born) = false := by
        rw [beq_eq_false_iff_ne]
        exact fun h => hn.1 (List.mem_map.2 ⟨e, he, h.symm⟩)
      have ih := ih hn.2 he
      by_cases ha : seen.contains a.born = true
      · rw [List.filter_cons_of_neg (by rw [ha]; simp), List.filter_cons_of_neg (by rw [contains_push, ha]; simp)]
        exact ih
      · have ha' : seen.contains a.born = false := by simpa using ha
        rw [List.filter_cons_of_pos (by rw [ha']; rfl), List.filter_cons_of_pos (by rw [contains_push, ha', h1]; rfl)]
        exact (ih.cons a).trans (List.Perm.swap _ _ _)

/-- A step of the range: nothing is left; or one of those that are left comes, whichever. -/
theorem RangeAt.next {r : Nat} {todo : List (Int × Value)} (h : RangeAt kv w b r l todo) (F : KeyFn P kt kv) (ty : TypeId) :
    (todo = [] ∧ (Instr.next (.pointer (some ⟨r, 0, none⟩)) false ty).run P w = .ok (.tuple #[.bool false]) w) ∨
    ∃ k v todo' w', todo.Perm ((k, v) :: todo') ∧ (k, v) ∈ l ∧ (Instr.next (.pointer (some ⟨r, 0, none⟩)) false ty).run P w = .ok (.tuple #[.bool true, kv k, v]) w' ∧ RangeAt kv w' b r l todo' ∧
      w.grownBy w' (some r) ∧ w'.heap.size = w.heap.size ∧ (Instr.entry (.pointer (some ⟨r, 0, none⟩))).run P w' = .ok (.tuple #[kv k, v]) w' := by
  have hne := h.ne
  obtain ⟨es, clock, seen, c0, hb, hs, hp, hw, hr, hc, hl⟩ := h
  rcases run_next_at (P := P) w ty r b clock c0 seen es clock hr hb hs.1 hc with ⟨h0, hrun⟩ | ⟨e, he, w1, hal, hrun⟩
  · refine .inl ⟨?_, hrun⟩
    have : (leftOf es seen).toList = [] := by simpa using h0
    rw [this] at hl
    have := hl.length_eq
    simpa using this.symm
  · have hm := mem_left he
    have hpm : (leftOf es seen).toList.Perm (e :: (leftOf es (seen.push e.born)).toList) := by
      simp only [leftOf, Array.toList_filter]
      exact left_push seen hs.2.1 hm.1 hm.2
    have hl' : (pe e :: (leftOf es (seen.push e.born)).toList.map pe).Perm (todo.map (pr kv)) := ((hpm.map pe).symm).trans hl
    obtain ⟨q, hq, hqe⟩ := List.mem_map.1 (hl'.mem_iff.1 (List.mem_cons_self ..))
    obtain ⟨s, u, hsu⟩ := List.append_of_mem hq
    have hpq : todo.Perm (q :: (s ++ u)) := by rw [hsu]; exact List.perm_middle
    have hr1 : w1.heap[r]? = some (.mapIter (some b) clock seen c0) := by rcases hal with rfl | rfl <;> exact hr
    have hb1 : w1.heap[b]? = some (.map es clock) := by rcases hal with rfl | rfl <;> exact hb
    have hsz1 : w1.heap.size = w.heap.size := by rcases hal with rfl | rfl <;> rfl
    have hrlt : r < w1.heap.size := (Array.getElem?_eq_some_iff.1 hr1).1
    have hrr : (setBlock w1 r (.mapIter (some b) clock (seen.push e.born) clock)).heap[r]? = some (.mapIter (some b) clock (seen.push e.born) clock) := by simp [setBlock, hrlt]
    have hro : ∀ i, i ≠ r → (setBlock w1 r (.mapIter (some b) clock (seen.push e.born) clock)).heap[i]? = w1.heap[i]? := fun i hi => by simp [setBlock, Ne.symm hi]
    have e1 : e.key = kv q.1 := (congrArg Prod.fst hqe).symm
    have e2 : e.val = q.2 := (congrArg Prod.snd hqe).symm
    have hql : q ∈ l := by
      have : pe e ∈ l.map (pr kv) := hp.mem_iff.1 (List.mem_map.2 ⟨e, hm.1, rfl⟩)
      obtain ⟨q', hq', e'⟩ := List.mem_map.1 this
      have h7 : kv q'.1 = kv q.1 := (congrArg Prod.fst e').trans (congrArg Prod.fst hqe).symm
      have h8 : q'.2 = q.2 := (congrArg Prod.snd e').trans (congrArg Prod.snd hqe).symm
      have : q' = q := Prod.ext (F.inj _ _ h7) h8
      rw [← this]; exact hq'
    refine .inr ⟨q.1, q.2, (s ++ u), _, hpq, hql, by rw [← e1, ← e2]; exact hrun, ⟨es, clock, seen.push e.born, clock, (hro b (fun e => hne e.symm)).trans hb1, hs, hp, hw, hrr, Nat.le_refl _, ?_⟩, ⟨?_, ?_, ?_, ?_, ?_⟩, ?_, ?_⟩
    · have h3 : (pe e :: (leftOf es (seen.push e.born)).toList.map pe).Perm (pe e :: ((s ++ u)).map (pr kv)) := hl'.trans (((hpq.map (pr kv))).trans (by rw [List.map_cons, hqe]))
      exact h3.cons_inv
    · rcases hal with rfl | rfl <;> rfl
    · rcases hal with rfl | rfl <;> rfl
    · rcases hal with rfl | rfl <;> rfl
    · rcases hal with rfl | rfl <;> simp [setBlock]
    · intro k _ hk
      rw [hro k (fun e => hk (by rw [e]))]
      rcases hal with rfl | rfl <;> rfl
    · rcases hal with rfl | rfl <;> simp [setBlock]
    · rw [← e1, ← e2]
      exact run_entry_at _ r b clock seen es clock e hrr ((hro b (fun e => hne e.symm)).trans hb1) hm.1 hs.2.1
end
/-! ### at the operations, for the walk -/
section
variable {P : Program} (w : World) {ops : Array Oper} {rest : List Oper} {o : Oper} {a : Act} {Q : Exit → Act → World → Prop} {kt et t : TypeId} {kv : Int → Value}
end
/-! ### lists of keys and values of another shape -/
section
variable {α β : Type} (f : α → β)
def mv (l : List (Int × α)) : List (Int × β) := l.map fun p => (p.1, f p.2)
theorem mget_mv (l : List (Int × α)) (k : Int) : mget (mv f l) k = (mget l k).map f := by
  induction l with
  | nil => rfl
  | cons p l ih =>
    show mget ((p.1, f p.2) :: mv f l) k = _
    rw [mget_cons, mget_cons, ih]
    by_cases h : p.1 = k <;> simp [h]
theorem mdel_mv (l : List (Int × α)) (k : Int) : mdel (mv f l) k = mv f (mdel l k) := by
  induction l with
  | nil => rfl
  | cons p l ih =>
    by_cases h : p.1 = k
    · have e1 : mdel (mv f (p :: l)) k = mdel (mv f l) k := by simp [mdel, mv, h]
      have e2 : mdel (p :: l) k = mdel l k := by simp [mdel, h]
      rw [e1, e2, ih]
    · have e1 : mdel (mv f (p :: l)) k = (p.1, f p.2) :: mdel (mv f l) k := by simp [mdel, mv, h]
      have e2 : mdel (p :: l) k = p :: mdel l k := by simp [mdel, h]
      rw [e1, e2, ih]
      rfl
theorem mput_mv (l : List (Int × α)) (k : Int) (v : α) : mput (mv f l) k (f v) = mv f (mput l k v) := by
  unfold mput
  rw [mdel_mv]
  rfl
end
end Go.Proofs.YtbbaoeidobdblaaGreat.Mx

/- Sx, part 14: maps of one's own (keys are one number each). -/
set_option linter.unusedVariables false
set_option linter.unusedSimpArgs false
namespace Go.Proofs.YtbbaoeidobdblaaGreat.Sx
open Go
/-- A map of one's own: these keys, and values. -/
def mapR (kv : Int → Value) (g : Nat) (l : List (Int × Value)) : Res := .usr fun S W => (∀ b, S b ↔ b = g) ∧ Mx.MapAt kv W g l
theorem mapR_get {kv : Int → Value} {g : Nat} {l : List (Int × Value)} {S : Nat → Prop} {w : World} (h : (mapR kv g l).holds S w) : (∀ b, S b ↔ b = g) ∧ Mx.MapAt kv w g l := h w (Ext.refl _ _)
theorem mapR_of {kv : Int → Value} {g : Nat} {l : List (Int × Value)} {S : Nat → Prop} {w : World} (hS : ∀ b, S b ↔ b = g) (h : Mx.MapAt kv w g l) : (mapR kv g l).holds S w := fun W e => ⟨hS, h.block (e.block g ((hS g).2 rfl))⟩
theorem wf64 {x : Int} (h : -9223372036854775808 ≤ x) (k : x ≤ 9223372036854775807) : (Lit.int .i64 x).wf = true := by
  simp [Lit.wf, IntKind.min, IntKind.max, IntKind.signed, IntKind.bits]
  omega
open Go.MapKept Go.ChangeMaps Mx in
/-- An entry of a map: its key, and its stamp. -/
def Born (kv : Int → Value) (w : World) (b : Nat) (k : Int) (s : Nat) : Prop := ∃ (es : Array MapEntry) (clock j : Nat) (e : MapEntry), w.heap[b]? = some (.map es clock) ∧ es.toList[j]? = some e ∧ e.key = kv k ∧ e.born = s
theorem Born.block {kv : Int → Value} {w w' : World} {b : Nat} {k : Int} {s : Nat} (h : Born kv w b k s) (hb : w'.heap[b]? = w.heap[b]?) : Born kv w' b k s := by
  obtain ⟨es, clock, j, e, h1, r⟩ := h
  exact ⟨es, clock, j, e, hb.trans h1, r⟩
theorem mput_mput {α : Type} (l : List (Int × α)) (k : Int) (v u : α) : Mx.mput (Mx.mput l k v) k u = Mx.mput l k u := by
  unfold Mx.mput
  congr 1
  simp [Mx.mdel, List.filter_cons]
section
open Go.MapKept Go.ChangeMaps Mx
variable {P : Program} {kt et t : TypeId} {kv : Int → Value} {w : World} {b : Nat} {l : List (Int × Value)}
theorem mput_self (hn : (l.map Prod.fst).Nodup) (hw : ∀ p ∈ l, (Lit.int .i64 p.1).wf = true) {k : Int} {v : Value} (h : mget l k = some v) : l.Perm (mput l k v) := by
  have hm := mget_mem h
  have : ∀ (l : List (Int × Value)), (l.map Prod.fst).Nodup → (k, v) ∈ l → l.Perm (mput l k v) := by
    intro l
    induction l with
    | nil => intro _ h; cases h
    | cons p l ih =>
      intro hn hm
      rw [List.map_cons, List.nodup_cons] at hn
      by_cases hp : p.1 = k
      · have hno : ∀ q ∈ l, q.1 ≠ k := fun q hq e => hn.1 (List.mem_map.2 ⟨q, hq, by rw [e, hp]⟩)
        have hd : mdel (p :: l) k = l := by
          have : mdel (p :: l) k = mdel l k := by simp [mdel, hp]
          rw [this, mdel, List.filter_eq_self]
          intro q hq
          simp [hno q hq]
        have hpv : p = (k, v) := by
          rcases List.mem_cons.1 hm with e | hm
          · exact e.symm
          · exact absurd rfl (hno _ hm)
        unfold mput
        rw [hd, hpv]
      · have hm' : (k, v) ∈ l := by
          rcases List.mem_cons.1 hm with e | hm
          · exact absurd (by rw [← e]) hp
          · exact hm
        have h1 := ih hn.2 hm'
        have : mdel (p :: l) k = p :: mdel l k := by simp [mdel, hp]
        unfold mput at h1 ⊢
        rw [this]
        exact (h1.cons p).trans (List.Perm.swap _ _ _)
  exact this l hn hm
theorem map_entry (h : MapAt kv w b l) (F : KeyFn P kt kv) (ht : P.underlying t = some (.map kt et)) {z : Value} (hz : (zeroValue et).run P w = .ok z w) (k : Int) (hk : (Lit.int .i64 k).wf = true) :
    ∃ w' s, (Instr.mapEntry t (.map (some b)) (kv k)).run P w = .ok (.tuple #[(mget l k).getD z, .int .i64 (s : Nat)]) w' ∧ MapAt kv w' b (mput l k ((mget l k).getD z)) ∧ Born kv w' b k s ∧ w.grownBy w' (some b) ∧ w'.heap.size = w.heap.size := by
  have hn := h.nodup
  obtain ⟨es, clock, hb, hs, hp, hw⟩ := h
  obtain ⟨x, hx⟩ := F.key k hk
  have hwd : ∀ v, ∀ p ∈ mput l k v, (Lit.int .i64 p.1).wf = true := by
    intro v p hp
    rcases List.mem_cons.1 hp with rfl | hp
    · exact hk
    · exact hw p (List.mem_filter.1 hp).1
  rcases MapAt.find F hn hp hw k hk w with ⟨h1, h2, h3⟩ | ⟨j, e, h1, h2, h3, h4⟩
  · refine ⟨setBlock w b (.map (es.push ⟨kv k, z, clock⟩) (clock + 1)), clock, ?_, ⟨_, _, heap_setBlock_same hb _, stamped_push hs h2, ?_, hwd _⟩, ⟨_, _, es.size, ⟨kv k, z, clock⟩, heap_setBlock_same hb _, by simp, rfl, rfl⟩, grownBy_setBlock ⟨_, _, hb⟩ _ _, by simp [setBlock]⟩
    · simp [Instr.mapEntry, run_underlying ht, MapKept.run_getObj_map hb, F.K.check w _ hx, h1, hz, MapKept.run_setObj_map _ hb, Result.andThen, setBlock, h3, goInt]
    · unfold mput
      rw [mdel_none h3, Array.toList_push, List.map_append, List.map_cons, h3]
      exact (List.perm_append_singleton _ _).trans (by simpa [pe, pr] using hp)
  · have hj : es[j]? = some e := by simpa using h2
    have hlist : (es.modify j (fun e' => { e' with key := kv k })).toList = es.toList.set j { e with key := kv k } := by rw [Array.toList_modify, ChangeMaps.modify_eq_set _ _ _ _ h2]
    have hjl : j < es.toList.length := (List.getElem?_eq_some_iff.1 h2).1
    have hes : es.toList.set j { e with key := kv k } = es.toList := by
      have : ({ e with key := kv k } : MapEntry) = e := by cases e; simp at h3; simp [h3]
      rw [this]
      have he : es.toList[j] = e := by rw [List.getElem?_eq_getElem hjl] at h2; exact Option.some.inj h2
      rw [← he, List.set_getElem_self]
    refine ⟨setBlock w b (.map (es.modify j (fun e' => { e' with key := kv k })) clock), e.born, ?_, ⟨_, _, heap_setBlock_same hb _, stamped_modify hs _ _ (fun _ _ => rfl) (fun e' _ he' => by rw [hj] at he'; cases he'; exact h3.symm), ?_, hwd _⟩, ⟨_, _, j, e, heap_setBlock_same hb _, by rw [hlist, hes]; exact h2, h3, rfl⟩, grownBy_setBlock ⟨_, _, hb⟩ _ _, by simp [setBlock]⟩
    · simp [Instr.mapEntry, run_underlying ht, MapKept.run_getObj_map hb, F.K.check w _ hx, h1, hj, h3, F.K.stays w hx, MapKept.run_setObj_map _ hb, Result.andThen, setBlock, h4, goInt]
    · rw [hlist, hes]
      refine hp.trans ((mput_self hn hw ?_).map _)
      rw [h4]
      rfl
theorem entry_store (h : MapAt kv w b l) {k : Int} {s : Nat} (hB : Born kv w b k s) (F : KeyFn P kt kv) (hk : (Lit.int .i64 k).wf = true) (v : Value) :
    ∃ w', (Instr.entryStore t (.map (some b)) (.int .i64 (s : Nat)) v).run P w = .ok () w' ∧ MapAt kv w' b (mput l k v) ∧ w.grownBy w' (some b) ∧ w'.heap.size = w.heap.size := by
  have hn := h.nodup
  obtain ⟨es, clock, hb, hs, hp, hw⟩ := h
  obtain ⟨es', clock', j, e, hb', h2, h3, h4⟩ := hB
  rw [hb] at hb'
  cases hb'
  have hwd : ∀ p ∈ mput l k v, (Lit.int .i64 p.1).wf = true := by
    intro p hp
    rcases List.mem_cons.1 hp with rfl | hp
    · exact hk
    · exact hw p (List.mem_filter.1 hp).1
  have hj : es[j]? = some e := by simpa using h2
  have hjl : j < es.toList.length := (List.getElem?_eq_some_iff.1 h2).1
  have hfind : es.findIdx? (fun e => (e.born : Int) == (s : Int)) = some j := by
    rw [Array.findIdx?_eq_some_iff_getElem]
    have hjs : j < es.size := by simpa using hjl
    have he : es[j] = e := by rw [Array.getElem?_eq_getElem hjs] at hj; exact Option.some.inj hj
    refine ⟨hjs, by simp only [he]; simp [h4], fun i hi => ?_⟩
    have hil : i < es.toList.length := by omega
    have hnd := ((stamped_iff es clock).1 hs).2.1
    have hne : es.toList[i].born ≠ es.toList[j].born := by
      have := List.pairwise_iff_getElem.1 hnd i j (by simpa using hil) (by simpa using hjl) hi
      simpa using this
    simp only [Array.getElem_toList] at hne ⊢
    rw [he, h4] at hne
    simp only [beq_iff_eq]
    exact fun e => hne (by exact_mod_cast e)
  have hlist : (es.modify j (fun e' => { e' with val := v })).toList = es.toList.set j { e with val := v } := by rw [Array.toList_modify, ChangeMaps.modify_eq_set _ _ _ _ h2]
  refine ⟨setBlock w b (.map (es.modify j (fun e' => { e' with val := v })) clock), ?_, ⟨_, _, heap_setBlock_same hb _, stamped_modify hs _ _ (fun _ _ => rfl) (fun e' _ _ => rfl), ?_, hwd⟩, grownBy_setBlock ⟨_, _, hb⟩ _ _, by simp [setBlock]⟩
  · simp only [Instr.entryStore, Sem.run_bind, MapKept.run_getObj_map hb, Result.andThen_ok]
    simp [asInt, asIntOf, hfind, MapKept.run_setObj_map _ hb, setBlock]
  · rw [hlist]
    refine ((set_perm _ _ hjl _).map pe).trans ?_
    unfold mput
    rw [List.map_cons, List.map_cons]
    have he : pe { e with val := v } = pr kv (k, v) := by simp [pe, pr, h3]
    rw [he]
    exact (erase_perm hn F hp h2 h3).cons _
end
section
variable {P : Program} {C : Ctx} {T : Ty} {res : List ResultVar} {p : Pos} {tm : Tm} {m : Mem}
theorem mapMk (ok : Okc P T C res) {o : Oper} {t d : Nat} (ho : o.op = .makeMap t none) (hd : o.dst = some d) (kv : Int → Value)
    (kk : ∀ g, sx T C res 1000 p (put C.n (some d) (.c (.v (.map (some g)))) tm) ⟨m.B, m.G, (d, mapR kv g []) :: del d (del d m.rs)⟩) : At C (.op o p) tm m := by
  rintro act w cs0 hR ⟨I, F, hJ⟩
  have hrun : (execOp act.eval o).run C.P w = .ok (.value (.map (some w.heap.size))) (w.alloc (.map #[] 0)) := by
    simp [execOp, ho, Instr.makeMap, newObj, Sem.run]
  have hup := hJ.upd d d (mapR kv w.heap.size []) noS (fun b => b = w.heap.size) (fun b hb => hb.elim) (Ext.alloc _ w _ fun b hb => hb.1) (mapR_of (fun b => Iff.rfl) (Mx.MapAt.made kv w)) (fun b hb => ⟨by simp [hb], .inr (by omega)⟩) id
  have hRp := hR.put (some d) (.c (.v (.map (some w.heap.size))))
  exact op_value (ok.sx (kk w.heap.size)) hrun (by rw [hd]; exact hRp) ⟨I, _, hup⟩
theorem mapLook (ok : Okc P T C res) (k : Nat) {o : Oper} {t : Nat} {om ox : Operand} {c : Bool} (ho : o.op = .lookup t om ox c) {kt et : TypeId} {kv : Int → Value} (F : Mx.KeyFn P kt kv) (ht : P.underlying t = some (.map kt et)) {z : Value} (hz : ∀ w, (zeroValue et).run P w = .ok z w)
    {g : Nat} {l : List (Int × Value)} {u : SV} {key : Int} (hk : look k m.rs = some (mapR kv g l)) (hm : ev tm om = some (.c (.v (.map (some g))))) (hx : ev tm ox = some u) (hu : u.val = kv key) (hw : (Lit.int .i64 key).wf = true)
    (kk : sx T C res 1000 p (put C.n o.dst (.c (nv (if c then .tuple #[(Mx.mget l key).getD z, .bool (Mx.mget l key).isSome] else (Mx.mget l key).getD z))) tm) m) : At C (.op o p) tm m := by
  obtain rfl := ok.P
  intro act w cs0 hR hJ
  have hM : Mx.MapAt kv w g l := by
    obtain ⟨I, Fo, hi⟩ := hJ
    exact (mapR_get (hi.own _ (look_mem hk))).2
  have e1 : act.eval om = .map (some g) := hR.eval hm
  have e2 : act.eval ox = kv key := by rw [hR.eval hx, hu]
  have hl := hM.lookup F ht (hz w) key hw c
  have hrun : (execOp act.eval o).run C.P w = .ok (.value (if c then .tuple #[(Mx.mget l key).getD z, .bool (Mx.mget l key).isSome] else (Mx.mget l key).getD z)) w := by
    simp only [execOp, ho, e1, e2]
    simp [hl, Result.andThen]
  have hRp := hR.put o.dst (.c (nv (if c then .tuple #[(Mx.mget l key).getD z, .bool (Mx.mget l key).isSome] else (Mx.mget l key).getD z)))
  simp only [SV.val, nv_val] at hRp
  exact op_value (ok.sx kk) hrun hRp hJ
/-- A map of one's own, with an entry whose stamp is known. -/
def mapE (kv : Int → Value) (g : Nat) (l : List (Int × Value)) (k : Int) (s : Nat) : Res := .usr fun S W => (∀ b, S b ↔ b = g) ∧ Mx.MapAt kv W g l ∧ Born kv W g k s
theorem mapE_get {kv : Int → Value} {g : Nat} {l : List (Int × Value)} {key : Int} {s : Nat} {S : Nat → Prop} {w : World} (h : (mapE kv g l key s).holds S w) : (∀ b, S b ↔ b = g) ∧ Mx.MapAt kv w g l ∧ Born kv w g key s := h w (Ext.refl _ _)
theorem mapE_of {kv : Int → Value} {g : Nat} {l : List (Int × Value)} {key : Int} {s : Nat} {S : Nat → Prop} {w : World} (hS : ∀ b, S b ↔ b = g) (h : Mx.MapAt kv w g l) (h2 : Born kv w g key s) : (mapE kv g l key s).holds S w := fun W e => ⟨hS, h.block (e.block g ((hS g).2 rfl)), h2.block (e.block g ((hS g).2 rfl))⟩
theorem mapEnt (ok : Okc P T C res) (k : Nat) {o : Oper} {t : Nat} {om ox : Operand} (ho : o.op = .mapEntry t om ox) {kt et : TypeId} {kv : Int → Value} (F : Mx.KeyFn P kt kv) (ht : P.underlying t = some (.map kt et)) {z : Value} (hz : ∀ w, (zeroValue et).run P w = .ok z w)
    {g : Nat} {l : List (Int × Value)} {u : SV} {key : Int} (hk : look k m.rs = some (mapR kv g l)) (hm : ev tm om = some (.c (.v (.map (some g))))) (hx : ev tm ox = some u) (hu : u.val = kv key) (hw : (Lit.int .i64 key).wf = true)
    (kk : ∀ s : Nat, sx T C res 1000 p (put C.n o.dst (.c (.v (.tuple #[(Mx.mget l key).getD z, .int .i64 (s : Nat)]))) tm) ⟨m.B, m.G, (k, mapE kv g (Mx.mput l key ((Mx.mget l key).getD z)) key s) :: del k (del k m.rs)⟩) : At C (.op o p) tm m := by
  obtain rfl := ok.P
  rintro act w cs0 hR ⟨I, Fo, hJ⟩
  have h0 := mapR_get (hJ.own _ (look_mem hk))
  have e1 : act.eval om = .map (some g) := hR.eval hm
  have e2 : act.eval ox = kv key := by rw [hR.eval hx, hu]
  obtain ⟨w', s, hr, hM, hB, hg, hs⟩ := map_entry h0.2 F ht (hz w) key hw
  have hrun : (execOp act.eval o).run C.P w = .ok (.value (.tuple #[(Mx.mget l key).getD z, .int .i64 (s : Nat)])) w' := by
    simp only [execOp, ho, e1, e2]
    simp [hr, Result.andThen]
  have hup := hJ.upd k k (mapE kv g (Mx.mput l key ((Mx.mget l key).getD z)) key s) (fun b => b = g) (fun b => b = g) (fun b hb => ⟨(h0.1 b).2 hb, _, look_mem hk⟩) ⟨hg.os, hg.tape, hg.output, hg.size, fun b hb => hg.block b hb.1 (fun e => hb.2 (by simpa using e))⟩ (mapE_of (fun b => Iff.rfl) hM hB) (fun b hb => by subst hb; exact ⟨hM.lt, .inl rfl⟩) id
  have hRp := hR.put o.dst (.c (.v (.tuple #[(Mx.mget l key).getD z, .int .i64 (s : Nat)])))
  exact op_value (ok.sx (kk s)) hrun hRp ⟨I, _, hup⟩
theorem mapSto (ok : Okc P T C res) (k : Nat) {o : Oper} {t : Nat} {om os ov : Operand} (ho : o.op = .entryStore t om os ov) (hd : o.dst = none) {kt : TypeId} {kv : Int → Value} (F : Mx.KeyFn P kt kv)
    {g : Nat} {l : List (Int × Value)} {v : SV} {key : Int} {s : Nat} (hk : look k m.rs = some (mapE kv g l key s)) (hm : ev tm om = some (.c (.v (.map (some g))))) (hx : ev tm os = some (.c (.v (.int .i64 (s : Nat))))) (hv : ev tm ov = some v) (hw : (Lit.int .i64 key).wf = true)
    (kk : sx T C res 1000 p tm ⟨m.B, m.G, (k, mapR kv g (Mx.mput l key v.val)) :: del k (del k m.rs)⟩) : At C (.op o p) tm m := by
  obtain rfl := ok.P
  rintro act w cs0 hR ⟨I, Fo, hJ⟩
  have h0 := mapE_get (hJ.own _ (look_mem hk))
  have e1 : act.eval om = .map (some g) := hR.eval hm
  have e2 : act.eval os = .int .i64 (s : Nat) := hR.eval hx
  have e3 : act.eval ov = v.val := hR.eval hv
  obtain ⟨w', hr, hM, hg, hs⟩ := entry_store (t := t) h0.2.1 h0.2.2 F hw v.val
  have hrun : (execOp act.eval o).run C.P w = .ok .skip w' := by
    simp only [execOp, ho, e1, e2, e3]
    simp [hr, Result.andThen]
  have hup := hJ.upd k k (mapR kv g (Mx.mput l key v.val)) (fun b => b = g) (fun b => b = g) (fun b hb => ⟨(h0.1 b).2 hb, _, look_mem hk⟩) ⟨hg.os, hg.tape, hg.output, hg.size, fun b hb => hg.block b hb.1 (fun e => hb.2 (by simpa using e))⟩ (mapR_of (fun b => Iff.rfl) hM) (fun b hb => by subst hb; exact ⟨hM.lt, .inl rfl⟩) id
  exact op_skip (ok.sx kk) hrun (by rw [hd]; exact hR) ⟨I, _, hup⟩
/-- A value of one part is built, by whatever law. -/
theorem bld1 (ok : Okc P T C res) {o : Oper} {t d : Nat} {x : Operand} (ho : o.op = .build t #[(0, x)]) (hd : o.dst = some d) {u : SV} (hx : ev tm x = some u) (v : Value) (h : ∀ w, (Instr.build t #[(0, u.val)]).run P w = .ok v w)
    (kk : sx T C res 1000 p (put C.n (some d) (.c (.v v)) tm) m) : At C (.op o p) tm m := by
  obtain rfl := ok.P
  intro act w cs0 hR hJ
  have e1 := hR.eval hx
  have hrun : (execOp act.eval o).run C.P w = .ok (.value v) w := by
    have := h w
    simp [execOp, ho, e1, this]
  have hRp := hR.put (some d) (.c (.v v))
  exact op_value (ok.sx kk) hrun (by rw [hd]; exact hRp) hJ
theorem mapLookE (ok : Okc P T C res) (k : Nat) {o : Oper} {t : Nat} {om ox : Operand} {c : Bool} (ho : o.op = .lookup t om ox c) {kt et : TypeId} {kv : Int → Value} (F : Mx.KeyFn P kt kv) (ht : P.underlying t = some (.map kt et)) {z : Value} (hz : ∀ w, (zeroValue et).run P w = .ok z w)
    {g : Nat} {l : List (Int × Value)} {u : SV} {key key' : Int} {st : Nat} (hk : look k m.rs = some (mapE kv g l key' st)) (hm : ev tm om = some (.c (.v (.map (some g))))) (hx : ev tm ox = some u) (hu : u.val = kv key) (hw : (Lit.int .i64 key).wf = true)
    (kk : sx T C res 1000 p (put C.n o.dst (.c (nv (if c then .tuple #[(Mx.mget l key).getD z, .bool (Mx.mget l key).isSome] else (Mx.mget l key).getD z))) tm) m) : At C (.op o p) tm m := by
  obtain rfl := ok.P
  intro act w cs0 hR hJ
  have hM : Mx.MapAt kv w g l := by
    obtain ⟨I, Fo, hi⟩ := hJ
    exact (mapE_get (hi.own _ (look_mem hk))).2.1
  have e1 : act.eval om = .map (some g) := hR.eval hm
  have e2 : act.eval ox = kv key := by rw [hR.eval hx, hu]
  have hl := hM.lookup F ht (hz w) key hw c
  have hrun : (execOp act.eval o).run C.P w = .ok (.value (if c then .tuple #[(Mx.mget l key).getD z, .bool (Mx.mget l key).isSome] else (Mx.mget l key).getD z)) w := by
    simp only [execOp, ho, e1, e2]
    simp [hl, Result.andThen]
  have hRp := hR.put o.dst (.c (nv (if c then .tuple #[(Mx.mget l key).getD z, .bool (Mx.mget l key).isSome] else (Mx.mget l key).getD z)))
  simp only [SV.val, nv_val] at hRp
  exact op_value (ok.sx kk) hrun hRp hJ
end
end Go.Proofs.YtbbaoeidobdblaaGreat.Sx

/- That an array of one int is a key that the laws on maps take. -/
set_option linter.unusedVariables false
set_option linter.unusedSimpArgs false
namespace Go.Proofs.YtbbaoeidobdblaaGreat.Keya
open Go.WideMaps Go.Maps
theorem laidOut : laidOutB Tryz.prog = true := by kernel_rfl
def kv1 (x : Int) : Value := .agg #[.int .i64 x]
theorem kv1_inj (x y : Int) (h : kv1 x = kv1 y) : x = y := by
  unfold kv1 at h
  simpa using h
theorem keyLits_arr {P : Program} {k e : TypeId} (hk : P.underlying k = some (.array 1 e)) (he : P.underlying e = some (.int .i64))
    (hc : P.cellsOf k = 1) (hce : P.cellsOf e = 1) (hsz : ∃ m, P.types.size = m + 1) (x : Int) (hw : (Lit.int .i64 x).wf = true) : ∃ l, P.keyLits (P.types.size + 1) k [.int .i64 x] = some l := by
  obtain ⟨m, hm⟩ := hsz
  rw [hm]
  simp [Program.keyLits, hk, hc, hce, he, hw]
theorem keyOf_arr {P : Program} {k e : TypeId} (hk : P.underlying k = some (.array 1 e)) (he : P.underlying e = some (.int .i64))
    (hc : P.cellsOf k = 1) (hce : P.cellsOf e = 1) (hsz : ∃ m, P.types.size = m + 1) (hkt : P.keyType k = true) (x : Int) (hw : (Lit.int .i64 x).wf = true) : ∃ l, keyOf P k (kv1 x) = some l := by
  obtain ⟨l, hl⟩ := keyLits_arr hk he hc hce hsz x hw
  refine ⟨.string (keyBytes l), ?_⟩
  simp [keyOf, hk, hkt, kv1, Value.formed, hc, Value.cells, hl]
theorem size_types : ∃ m, Tryz.prog.types.size = m + 1 := ⟨Tryz.prog.types.size - 1, by have : 0 < Tryz.prog.types.size := of_decide_eq_true (by kernel_rfl); omega⟩
theorem key_one : Mx.KeyFn Tryz.prog 130 kv1 := ⟨Keyed.of_law (deep_law_laid laidOut (m := 2) (by omega) (of_decide_eq_true (by kernel_rfl)) (by kernel_rfl) (by kernel_rfl)), keyOf_arr Tryz.underlying130 Tryz.underlying3 (by kernel_rfl) (by kernel_rfl) size_types (by kernel_rfl), kv1_inj⟩
end Go.Proofs.YtbbaoeidobdblaaGreat.Keya

/- power: New, Step, Mask; nor.Chip: Geometry, ask. -/
set_option linter.unusedVariables false
set_option linter.unusedSimpArgs false
namespace Go.Proofs.YtbbaoeidobdblaaGreat.Sx
open Go
attribute [local simp ↓] ifb_true' ifb_false'
attribute [local simp] ifb_true ifb_false ifb_eq sx argsT find ev evOp evs evo evBin evInt evStr evNil evNilA ptrA slcA isNoneA asB evLoad look del cellsB evUn evConv kdec fld evFieldA evField evIdxA evIdx evSlc bndL bndH evLen mmi put resV guardV gvL setO tupV cellsOf ones one upd lits nv exitTo SV.val CV.val TI.agg rdyA allR keepB scan simpO gsp isS subs keepT pickT wr memN pubs Res.fact Region.binds bld rest give delL back Res.eqv vi vb num Sv.val undef
abbrev powB (p : Pw) (fl : Value) : List CV := [.v (.int .i64 p.left), .v (.int .u8 p.mask), .b p.off, .v fl, .v (.int .i64 p.done)]
/-- A chip: its form, where its parts stand, its power, its bytes, how often each sector was erased. -/
structure Cp where
  g : Geo
  gc : Nat
  gp : Nat
  gb : Nat
  gm : Nat
  cap : Nat
  bc : Nat
  p : Pw
  fl : Value
  b : List Int
  er : List (Int × Int)
abbrev kv1 := Keya.kv1
abbrev Cp.chip (c : Cp) : Res := .box c.gc 105 [.v (.int .i64 c.g.sectors), .v (.int .i64 c.g.sector), .v (.int .i64 c.g.blocks), .v (.int .i64 c.g.pages), .v (.int .i64 c.g.page), .bp 1001 c.gp 0, .rw 1002 (some ⟨c.gb, 0, none⟩) c.b.length c.cap, .v (.map (some c.gm))]
abbrev Cp.pow (c : Cp) : Res := .box c.gp 108 (powB c.p c.fl)
abbrev Cp.row (c : Cp) : Res := .row (some ⟨c.gb, 0, none⟩) c.b.length c.bc 5 1 (bC c.b)
abbrev Cp.map (c : Cp) : Res := mapR kv1 c.gm (Mx.mv (Value.int .i64) c.er)
abbrev Cp.res (c : Cp) : List Res := [c.chip, c.pow, c.row, c.map]
abbrev ptrV (g : Nat) : Value := .pointer (some ⟨g, 0, none⟩)
theorem powNew0 (w : World) (I : Nat → Prop) (hI : ∀ b, I b → b < w.heap.size) :
    FnS Tryz.prog 13 #[] w I noS ptrV (fun g => [.box g 108 (powB ⟨-1, 0, false, 0⟩ (.map none))]) (fun _ _ => True) := by
  refine enterS (svs := []) tysOk Tryz.func13 rfl Tryz.ntmps13 Tryz.results13 (by kernel_rfl) (by simp) hI [] (owns_nil w) (fun b hb => hb.elim) (fun _ => True) (fun _ _ => trivial) fun C hC hN ok => ?_
  simp [hN]
  exact fun g => retS hC g [2] rfl (by simp) fun _ _ _ => trivial
theorem step0 (w : World) (I S : Nat → Prop) (hI : ∀ b, I b → b < w.heap.size) (gp : Nat) (p : Pw) (fl : Value) (hp : p.left ≤ 9223372036854775807) (hS : Owns [.box gp 108 (powB p fl)] S w) (hSI : ∀ b, S b → b < w.heap.size ∧ ¬ I b) :
    FnS Tryz.prog 145 #[ptrV gp] w I S (fun _ : Unit => .tuple #[.bool p.step.1, .bool p.step.2.1]) (fun _ => [.box gp 108 (powB p.step.2.2 fl)]) (fun _ _ => True) := by
  refine enterS (svs := [.c (.bp 1000 gp 0)]) tysOk Tryz.func145 rfl Tryz.ntmps145 Tryz.results145 (by kernel_rfl) (by simp) hI [.box gp 108 (powB p fl)] hS hSI (fun _ => True) (fun _ _ => trivial) fun C hC hN ok => ?_
  obtain ⟨left, mask, off, done⟩ := p
  simp only at hp
  cases off with
  | true =>
    simp [hN]
    exact retS hC () [1000] (by simp [Pw.step]) (by simp [Pw.step]) fun _ _ _ => trivial
  | false =>
    by_cases h0 : left = 0
    · subst h0
      simp [hN]
      exact retS hC () [1000] (by simp [Pw.step]) (by simp [Pw.step]) fun _ _ _ => trivial
    · by_cases h1 : 0 < left
      · have e1 : IntKind.i64.wrap (left - 1) = left - 1 := w64 (by omega) (by omega)
        simp [hN, h0, h1, e1]
        exact retS hC () [1000] (by simp [Pw.step, h0, h1]) (by simp [Pw.step, h0, h1]) fun _ _ _ => trivial
      · simp [hN, h0, h1]
        exact retS hC () [1000] (by simp [Pw.step, h0, h1]) (by simp [Pw.step, h0, h1]) fun _ _ _ => trivial
theorem mask0 (w : World) (I S : Nat → Prop) (hI : ∀ b, I b → b < w.heap.size) (gp : Nat) (p : Pw) (fl : Value) (hS : Owns [.box gp 108 (powB p fl)] S w) (hSI : ∀ b, S b → b < w.heap.size ∧ ¬ I b) :
    FnS Tryz.prog 147 #[ptrV gp] w I S (fun _ : Unit => .int .u8 p.mask) (fun _ => [.box gp 108 (powB p fl)]) (fun _ _ => True) := by
  refine enterS (svs := [.c (.bp 1000 gp 0)]) tysOk Tryz.func147 rfl Tryz.ntmps147 Tryz.results147 (by kernel_rfl) (by simp) hI [.box gp 108 (powB p fl)] hS hSI (fun _ => True) (fun _ _ => trivial) fun C hC hN ok => ?_
  simp [hN]
  exact retS hC () [1000] rfl (by simp) fun _ _ _ => trivial
theorem norGeo0 (w : World) (I S : Nat → Prop) (hI : ∀ b, I b → b < w.heap.size) (c : Cp) (hS : Owns [c.chip] S w) (hSI : ∀ b, S b → b < w.heap.size ∧ ¬ I b) :
    FnS Tryz.prog 99 #[ptrV c.gc] w I S (fun _ : Unit => .agg (geoC c.g).toArray) (fun _ => [c.chip]) (fun _ _ => True) := by
  refine enterS (svs := [.c (.bp 1000 c.gc 0)]) tysOk Tryz.func99 rfl Tryz.ntmps99 Tryz.results99 (by kernel_rfl) (by simp) hI [c.chip] hS hSI (fun _ => True) (fun _ _ => trivial) fun C hC hN ok => ?_
  simp [hN]
  exact fun g2 => retS hC () [1000] rfl (by simp) fun _ _ _ => trivial
def askE (n : Nat) (x k : Int) : Int := if x < 0 ∨ k < 0 ∨ (n : Int) - k < x then 1 else 0
theorem norAsk0 (w : World) (I S : Nat → Prop) (hI : ∀ b, I b → b < w.heap.size) (c : Cp) (x k : Int) (hk : k ≤ 4611686018427387904) (hn : c.b.length ≤ 100000000000) (hS : Owns [c.chip] S w) (hSI : ∀ b, S b → b < w.heap.size ∧ ¬ I b) :
    FnS Tryz.prog 75 #[ptrV c.gc, .int .i64 x, .int .i64 k] w I S (fun _ : Unit => .int .i64 (askE c.b.length x k)) (fun _ => [c.chip]) (fun _ _ => True) := by
  refine enterS (svs := [.c (.bp 1000 c.gc 0), .c (.v (.int .i64 x)), .c (.v (.int .i64 k))]) tysOk Tryz.func75 rfl Tryz.ntmps75 Tryz.results75 (by kernel_rfl) (by simp) hI [c.chip] hS hSI (fun _ => True) (fun _ _ => trivial) fun C hC hN ok => ?_
  have hr : ∀ e, e = askE c.b.length x k → RetP C (.int .i64 e) ⟨fun _ => True, fun _ => True, [(1000, c.chip)]⟩ := fun e he => retS hC () [1000] (by rw [he]) (by simp) fun _ _ _ => trivial
  by_cases h1 : x < 0
  · simp [hN, h1]
    exact hr _ (by simp [askE, h1])
  · by_cases h2 : k < 0
    · simp [hN, h1, h2]
      exact hr _ (by simp [askE, h2])
    · have e1 : IntKind.i64.wrap ((c.b.length : Int) - k) = c.b.length - k := w64 (by omega) (by omega)
      simp [hN, h1, h2, e1]
      exact ⟨fun h3 => hr _ (by simp [askE, h3]), fun h3 => hr _ (by simp [askE, h1, h2]; omega)⟩
end Go.Proofs.YtbbaoeidobdblaaGreat.Sx

/- nor: set, Chip.sector, Chip.Erase. -/
set_option linter.unusedVariables false
set_option linter.unusedSimpArgs false
namespace Go.Proofs.YtbbaoeidobdblaaGreat.Sx
open Go
attribute [local simp ↓] ifb_true' ifb_false'
attribute [local simp] ifb_true ifb_false ifb_eq sx argsT find ev evOp evs evo evBin evInt evStr evNil evNilA ptrA slcA isNoneA asB evLoad look del cellsB evUn evConv kdec fld evFieldA evField evIdxA evIdx evSlc bndL bndH evLen mmi put resV guardV gvL setO tupV cellsOf ones one upd lits nv exitTo SV.val CV.val TI.agg rdyA allR keepB scan simpO gsp isS subs keepT pickT wr memN pubs Res.fact Region.binds bld rest give delL back Res.eqv vi vb num Sv.val undef
def setM (b : List Int) (off len : Nat) (bits : Int) : List Int := b.take off ++ ((b.drop off).take len).map (fun x => bor x bits) ++ b.drop (off + len)
theorem setM_len (b : List Int) (off len : Nat) (bits : Int) (h : off + len ≤ b.length) : (setM b off len bits).length = b.length := by simp [setM]; omega
theorem setM_zero (b : List Int) (off : Nat) (bits : Int) : setM b off 0 bits = b := by simp [setM]
theorem setM_at (b : List Int) (off i : Nat) (bits : Int) (h : off + i < b.length) : (setM b off i bits)[off + i]? = some b[off + i] := by
  have h1 : (b.take off ++ ((b.drop off).take i).map (fun x => bor x bits)).length = off + i := by simp; omega
  rw [setM, List.getElem?_append_right (by omega), h1, Nat.sub_self, List.getElem?_drop, Nat.add_zero, List.getElem?_eq_getElem h]
theorem setM_succ (b : List Int) (off i : Nat) (bits : Int) (h : off + i < b.length) : (setM b off i bits).set (off + i) (bor b[off + i] bits) = setM b off (i + 1) bits := by
  have h1 : (b.take off ++ ((b.drop off).take i).map (fun x => bor x bits)).length = off + i := by simp; omega
  have h2 : b.drop (off + i) = b[off + i] :: b.drop (off + i + 1) := List.drop_eq_getElem_cons h
  have h3 : (b.drop off).take (i + 1) = (b.drop off).take i ++ [b[off + i]] := by
    rw [List.take_add_one, List.getElem?_drop, List.getElem?_eq_getElem h]
    rfl
  rw [setM, List.set_append_right _ _ (by omega), h1, Nat.sub_self, h2, setM, h3]
  simp [Nat.add_assoc]
theorem bC_len (l : List Int) : (bC l).length = l.length := by simp [bC]
theorem bC_at {l : List Int} {i : Nat} {x : Int} (h : l[i]? = some x) : (bC l)[i]? = some (.v (.int .u8 x)) := by simp [bC, h]
theorem bor_eq (a b : Int) : IntKind.u8.wrap (((a % 2 ^ IntKind.u8.bits).toNat ||| (b % 2 ^ IntKind.u8.bits).toNat : Nat) : Int) = bor a b := by simp [bor]
theorem band_eq (a b : Int) : IntKind.u8.wrap (((a % 2 ^ IntKind.u8.bits).toNat &&& (b % 2 ^ IntKind.u8.bits).toNat : Nat) : Int) = band a b := by simp [band]
set_option maxHeartbeats 1000000 in
theorem norSet0 (w : World) (I S : Nat → Prop) (hI : ∀ b, I b → b < w.heap.size) (gb off len cap' n cap : Nat) (b : List Int) (bits : Int) (hf : off + len ≤ b.length) (hl : b.length ≤ 100000000000) (hn : n = b.length)
    (hS : Owns [.row (some ⟨gb, 0, none⟩) n cap 5 1 (bC b)] S w) (hSI : ∀ b, S b → b < w.heap.size ∧ ¬ I b) :
    FnS Tryz.prog 146 #[.slice (some ⟨gb, off, none⟩) len cap', .int .u8 bits] w I S (fun _ : Unit => .tuple #[]) (fun _ => [.row (some ⟨gb, 0, none⟩) n cap 5 1 (bC (setM b off len bits))]) (fun _ _ => True) := by
  subst hn
  refine enterS (svs := [.c (.rw 1000 (some ⟨gb, off, none⟩) len cap'), .c (.v (.int .u8 bits))]) tysOk Tryz.func146 rfl Tryz.ntmps146 Tryz.results146 (by kernel_rfl) (by simp) hI [.row (some ⟨gb, 0, none⟩) b.length cap 5 1 (bC b)] hS hSI (fun _ => True) (fun _ _ => trivial) fun C hC hN ok => ?_
  simp [hN]
  refine loopK [0, 1, 5, 6] ok (fun i : Nat => [(7, .c (.v (.int .i64 i)))]) (fun i => [(1000, .row (some ⟨gb, 0, none⟩) b.length cap 5 1 (bC (setM b off i bits)))]) (fun i W => i ≤ len) (fun i => len - i) 0 ?_ ?_ (fun W hW => Nat.zero_le _) ?_
  · simp
  · simp [setM_zero]
  rintro i W hi hG next
  rcases Nat.lt_or_ge i len with hlt | hge
  · have e6 : IntKind.i64.wrap ((i : Int) + 1) = (i + 1 : Nat) := by rw [w64 (by omega) (by omega)]; omega
    have hat := bC_at (setM_at b off i bits (by omega))
    have hsl := setM_len b off i bits (by omega)
    have hsu := setM_succ b off i bits (by omega)
    have hbl := bC_len (setM b off i bits)
    have hs2 : (bC (setM b off i bits)).set (off + i) (.v (.int .u8 (bor b[off + i] bits))) = bC (setM b off (i + 1) bits) := by rw [bC_set, hsu]
    have hat2 : ∀ h : off + i < (bC (setM b off i bits)).length, (bC (setM b off i bits))[off + i]'h = .v (.int .u8 b[off + i]) := fun h => by rw [List.getElem?_eq_getElem h] at hat; exact Option.some.inj hat
    rw [hsl] at hbl
    simp [hN, hlt, hat, hat2, hbl, e6, bor_eq, hs2]
    exact ⟨by omega, next (i + 1) _ _ (by omega) (fun W h => ⟨hlt, trivial⟩) (by simp)⟩
  · obtain rfl : i = len := by omega
    simp [hN]
    exact retS hC () [1000] rfl (by simp) fun _ _ _ => trivial
theorem sector0 (w : World) (I S : Nat → Prop) (hI : ∀ b, I b → b < w.heap.size) (c : Cp) (i : Nat) (hi : (i : Int) < c.g.sectors) (hs : c.g.right) (hn : (c.b.length : Int) = c.g.sectors * c.g.sector) (hc : c.b.length ≤ c.cap) (hS : Owns [c.chip] S w) (hSI : ∀ b, S b → b < w.heap.size ∧ ¬ I b) :
    FnS Tryz.prog 144 #[ptrV c.gc, .int .i64 (i : Nat)] w I S (fun _ : Unit => .slice (some ⟨c.gb, i * c.g.sector.toNat, none⟩) c.g.sector.toNat (c.cap - i * c.g.sector.toNat)) (fun _ => [c.chip]) (fun _ _ => True) := by
  obtain ⟨q0, ⟨q1, q2⟩, ⟨q3, q4⟩, ⟨q5, q6⟩, ⟨q7, q8⟩, ⟨q9, q10⟩⟩ := id hs
  refine enterS (svs := [.c (.bp 1000 c.gc 0), .c (.v (.int .i64 (i : Nat)))]) tysOk Tryz.func144 rfl Tryz.ntmps144 Tryz.results144 (by kernel_rfl) (by simp) hI [c.chip] hS hSI (fun _ => True) (fun _ _ => trivial) fun C hC hN ok => ?_
  obtain ⟨s, hs'⟩ : ∃ s : Nat, c.g.sector = s := ⟨c.g.sector.toNat, by omega⟩
  have hst : c.g.sector.toNat = s := by omega
  rw [hst] at hC
  have hle : (i + 1) * s ≤ c.b.length := by
    have h1 : ((i : Int) + 1) * s ≤ c.g.sectors * s := Int.mul_le_mul_of_nonneg_right (by omega) (by omega)
    rw [← hs', ← hn, hs'] at h1
    exact_mod_cast h1
  have hsm : (i + 1) * s = i * s + s := Nat.succ_mul i s
  have hb : i * s ≤ 16 * 4096 := Nat.mul_le_mul (by omega) (by omega)
  have w1 : IntKind.i64.wrap ((i : Int) * s) = (i * s : Nat) := by rw [w64 (by omega) (by omega)]; push_cast; rfl
  have w2 : IntKind.i64.wrap ((i : Int) + 1) = (i + 1 : Nat) := by rw [w64 (by omega) (by omega)]; omega
  have w3 : IntKind.i64.wrap (((i + 1 : Nat) : Int) * s) = ((i + 1) * s : Nat) := by rw [← Int.natCast_mul, w64 (by omega) (by omega)]
  have hni : ¬ ((i : Nat) : Int) < 0 := by omega
  simp [hN, hni, hi]
  refine ⟨fun h => absurd h (by omega), ?_⟩
  have w4 : IntKind.i64.wrap (((i : Int) + 1) * s) = ((i + 1) * s : Nat) := by rw [← w3]; push_cast; rfl
  refine drawK ok mixed (by kernel_rfl) ?_
  simp (maxSteps := 2000000) -implicitDefEqProofs [hN, hs', w1, w2, w3, w4]
  have p1 : (i : Int) * s = ((i * s : Nat) : Int) := by push_cast; rfl
  have p2 : ((i : Int) + 1) * s = (((i + 1) * s : Nat) : Int) := by push_cast; rfl
  rw [p1, p2, Int.toNat_natCast, Int.toNat_natCast, if_neg (by omega), show (i + 1) * s - i * s = s by omega]
  exact ⟨⟨by omega, by omega, by omega⟩, retS hC () [1000] rfl (by simp) fun _ _ _ => trivial⟩
def eraseM (c : Cp) (i : Nat) : Int × Cp :=
  match c.p.step with
  | (true, _, q) => (0, { c with p := q, b := setM c.b (i * c.g.sector.toNat) c.g.sector.toNat 255, er := Mx.mput c.er i (IntKind.i64.wrap ((Mx.mget c.er i).getD 0 + 1)) })
  | (false, true, q) => (6, { c with p := q, b := setM c.b (i * c.g.sector.toNat) c.g.sector.toNat q.mask })
  | (false, false, q) => (6, { c with p := q })
theorem zero_int (w : World) : (zeroValue 3).run Tryz.prog w = .ok (.int .i64 0) w := by
  kernel_rfl
theorem key_build (x : Int) (w : World) : (Instr.build 130 #[(0, .int .i64 x)]).run Tryz.prog w = .ok (kv1 x) w := by
  have hz : (zeroValue 130).run Tryz.prog w = .ok (.agg #[.int .i64 0]) w := by kernel_rfl
  have hs : (sizeOf 3).run Tryz.prog w = .ok 1 w := by kernel_rfl
  simp [Instr.build, hz, run_underlying Tryz.underlying130, hs, Instr.fill, kv1, Keya.kv1, Value.cells]
set_option maxHeartbeats 1000000 in
theorem erase0 (w : World) (I S : Nat → Prop) (hI : ∀ b, I b → b < w.heap.size) (c : Cp) (i : Nat) (hi : (i : Int) < c.g.sectors) (hs : c.g.right) (hn : (c.b.length : Int) = c.g.sectors * c.g.sector) (hc : c.b.length ≤ c.cap) (hp : c.p.left ≤ 9223372036854775807) (hS : Owns c.res S w) (hSI : ∀ b, S b → b < w.heap.size ∧ ¬ I b) :
    FnS Tryz.prog 100 #[ptrV c.gc, .int .i64 (i : Nat)] w I S (fun _ : Unit => .int .i64 (eraseM c i).1) (fun _ => (eraseM c i).2.res) (fun _ _ => True) := by
  obtain ⟨q0, ⟨q1, q2⟩, ⟨q3, q4⟩, ⟨q5, q6⟩, ⟨q7, q8⟩, ⟨q9, q10⟩⟩ := id hs
  refine enterS (svs := [.c (.bp 1000 c.gc 0), .c (.v (.int .i64 (i : Nat)))]) tysOk Tryz.func100 rfl Tryz.ntmps100 Tryz.results100 (by kernel_rfl) (by simp) hI c.res hS hSI (fun _ => True) (fun _ _ => trivial) fun C hC hN ok => ?_
  obtain ⟨s, hs'⟩ : ∃ s : Nat, c.g.sector = s := ⟨c.g.sector.toNat, by omega⟩
  have hst : c.g.sector.toNat = s := by omega
  have hle : (i + 1) * s ≤ c.b.length := by
    have h1 : ((i : Int) + 1) * s ≤ c.g.sectors * s := Int.mul_le_mul_of_nonneg_right (by omega) (by omega)
    rw [← hs', ← hn, hs'] at h1
    exact_mod_cast h1
  have hsm : (i + 1) * s = i * s + s := Nat.succ_mul i s
  have hbl : (c.b.length : Int) ≤ 16 * 4096 := by rw [hn]; exact Int.mul_le_mul (by omega) (by omega) (by omega) (by omega)
  simp [hN]
  refine callS ok rfl rfl rfl [1000] [c.chip] (by simp) rfl (fun _ : Unit => [(1000, c.chip)]) (fun w I S hI hG hO hS' => sector0 w I S hI c i hi hs hn hc hO hS') (fun r => by simp) (.inr fun x q hq => by simp at hq; rw [hq]; exact Nat.le_refl _) fun _ W _ => ?_
  simp [hN]
  refine callS ok rfl rfl rfl [1001] [c.pow] (by simp) rfl (fun _ : Unit => [(1001, .box c.gp 108 (powB c.p.step.2.2 c.fl))]) (fun w I S hI hG hO hS' => step0 w I S hI c.gp c.p c.fl hp hO hS') (fun r => by simp) (.inr fun x q hq => by simp at hq; subst hq; simp) fun _ W _ => ?_
  unfold eraseM at hC
  generalize c.p.step = r at *
  obtain ⟨d, t, q⟩ := r
  have hsl := setM_len c.b (i * s) s
  cases d with
  | true =>
    simp only [hst] at hC ⊢
    simp [hN]
    refine callS ok rfl rfl rfl [1002] [c.row] (by simp) rfl (fun _ : Unit => [(1002, .row (some ⟨c.gb, 0, none⟩) c.b.length c.bc 5 1 (bC (setM c.b (i * s) s 255)))]) (fun w I S hI hG hO hS' => norSet0 w I S hI c.gb (i * s) s (c.cap - i * s) c.b.length c.bc c.b 255 (by omega) (by omega) rfl hO hS') (fun r => by simp) (.inr fun x q hq => by simp at hq; subst hq; simp) fun _ W _ => ?_
    simp [hN]
    have hwf : (Lit.int .i64 (i : Nat)).wf = true := wf64 (by omega) (by omega)
    have hgl : (Mx.mget (Mx.mv (Value.int .i64) c.er) i).getD (.int .i64 0) = .int .i64 ((Mx.mget c.er i).getD 0) := by rw [Mx.mget_mv]; cases Mx.mget c.er i <;> rfl
    refine draw ok [(1000, c.chip)] (by rw [ok.P]; exact mixed) (by kernel_rfl) ?_
    simp (maxSteps := 2000000) -implicitDefEqProofs [hN]
    refine bld1 ok rfl rfl rfl (kv1 i) (fun w => key_build _ w) ?_
    simp (maxSteps := 2000000) -implicitDefEqProofs [hN]
    have hgm : (Mx.mget (Mx.mput (Mx.mv (Value.int .i64) c.er) i (.int .i64 ((Mx.mget c.er i).getD 0))) i).getD (.int .i64 0) = .int .i64 ((Mx.mget c.er i).getD 0) := by rw [Mx.mget_mput]; simp
    have hfin : ∀ x : Int, Mx.mput (Mx.mput (Mx.mv (Value.int .i64) c.er) i (.int .i64 ((Mx.mget c.er i).getD 0))) i (.int .i64 x) = Mx.mv (Value.int .i64) (Mx.mput c.er i x) := fun x => by rw [mput_mput, Mx.mput_mv]
    refine ⟨?_, ?_⟩
    · refine mapLook ok 1003 rfl Keya.key_one Tryz.underlying103 (fun w => zero_int w) rfl rfl rfl rfl hwf ?_
      simp (maxSteps := 2000000) -implicitDefEqProofs [hN, hgl, hgm]
      refine mapEnt ok 1003 rfl Keya.key_one Tryz.underlying103 (fun w => zero_int w) rfl rfl rfl rfl hwf fun st => ?_
      simp only [hgl]
      simp (maxSteps := 2000000) -implicitDefEqProofs [hN, hgl, hgm]
      refine mapSto ok 1003 rfl rfl Keya.key_one rfl rfl rfl rfl hwf ?_
      simp only [SV.val, CV.val, hfin]
      simp (maxSteps := 2000000) -implicitDefEqProofs [hN, hgl, hgm]
      exact retS hC () [1000, 1001, 1002, 1003] rfl (by simp [Cp.map, mapR, hsl 255 (by omega)]) fun _ _ _ => trivial
    · refine mapEnt ok 1003 rfl Keya.key_one Tryz.underlying103 (fun w => zero_int w) rfl rfl rfl rfl hwf fun st => ?_
      simp only [hgl]
      simp (maxSteps := 2000000) -implicitDefEqProofs [hN, hgl, hgm]
      refine mapLookE ok 1003 rfl Keya.key_one Tryz.underlying103 (fun w => zero_int w) rfl rfl rfl rfl hwf ?_
      simp (maxSteps := 2000000) -implicitDefEqProofs [hN, hgl, hgm]
      refine mapSto ok 1003 rfl rfl Keya.key_one rfl rfl rfl rfl hwf ?_
      simp only [SV.val, CV.val, hfin]
      simp (maxSteps := 2000000) -implicitDefEqProofs [hN, hgl, hgm]
      exact retS hC () [1000, 1001, 1002, 1003] rfl (by simp [Cp.map, mapR, hsl 255 (by omega)]) fun _ _ _ => trivial
  | false =>
    cases t with
    | true =>
      simp only [hst] at hC ⊢
      simp [hN]
      refine callS ok rfl rfl rfl [1001] [.box c.gp 108 (powB q c.fl)] (by simp) rfl (fun _ : Unit => [(1001, .box c.gp 108 (powB q c.fl))]) (fun w I S hI hG hO hS' => mask0 w I S hI c.gp q c.fl hO hS') (fun r => by simp) (.inr fun x q hq => by simp at hq; subst hq; simp) fun _ W _ => ?_
      simp [hN]
      refine callS ok rfl rfl rfl [1002] [c.row] (by simp) rfl (fun _ : Unit => [(1002, .row (some ⟨c.gb, 0, none⟩) c.b.length c.bc 5 1 (bC (setM c.b (i * s) s q.mask)))]) (fun w I S hI hG hO hS' => norSet0 w I S hI c.gb (i * s) s (c.cap - i * s) c.b.length c.bc c.b q.mask (by omega) (by omega) rfl hO hS') (fun r => by simp) (.inr fun x q hq => by simp at hq; subst hq; simp) fun _ W _ => ?_
      simp [hN]
      exact retS hC () [1000, 1001, 1002, 1003] rfl (by simp [Cp.map, mapR, hsl q.mask (by omega)]) fun _ _ _ => trivial
    | false =>
      simp [hN]
      exact retS hC () [1000, 1001, 1002, 1003] rfl (by simp [Cp.map, mapR]) fun _ _ _ => trivial
end Go.Proofs.YtbbaoeidobdblaaGreat.Sx

/- nor.Chip.Program. -/
set_option linter.unusedVariables false
set_option linter.unusedSimpArgs false
namespace Go.Proofs.YtbbaoeidobdblaaGreat.Sx
open Go
attribute [local simp ↓] ifb_true' ifb_false'
attribute [local simp] ifb_true ifb_false ifb_eq sx argsT find ev evOp evs evo evBin evInt evStr evNil evNilA ptrA slcA isNoneA asB evLoad look del cellsB evUn evConv kdec fld evFieldA evField evIdxA evIdx evSlc bndL bndH evLen mmi put resV guardV gvL setO tupV cellsOf ones one upd lits nv exitTo SV.val CV.val TI.agg rdyA allR keepB scan simpO gsp isS subs keepT pickT wr memN pubs Res.fact Region.binds bld rest give delL back Res.eqv vi vb num Sv.val undef
/-- Bytes are programmed from a place on. -/
def layI (b : List Int) (o : Nat) (xs : List Int) : List Int := b.take o ++ xs ++ b.drop (o + xs.length)
theorem layI_len (b : List Int) (o : Nat) (xs : List Int) (h : o + xs.length ≤ b.length) : (layI b o xs).length = b.length := by simp [layI]; omega
def progM (c : Cp) (at_ : Nat) (xs : List Int) : Int × Cp :=
  if fitsM (c.b.drop at_) xs then (if (writeM c.p ((c.b.drop at_).take xs.length) xs).1 then 0 else 6, { c with p := (writeM c.p ((c.b.drop at_).take xs.length) xs).2.2, b := layI c.b at_ (writeM c.p ((c.b.drop at_).take xs.length) xs).2.1 }) else (9, c)
theorem writeM_len : ∀ (p : Pw) (os xs : List Int), os.length = xs.length → (writeM p os xs).2.1.length = xs.length
  | p, [], [], _ => rfl
  | p, o :: os, x :: xs, h => by
    have h' : os.length = xs.length := by simpa using h
    unfold writeM
    rcases p.step with ⟨d, t, q⟩
    cases d with
    | true => simp [writeM_len q os xs h']
    | false => cases t <;> simp [h']
theorem fitsM_no : ∀ (os xs : List Int) (i : Nat) (h1 : i < os.length) (h2 : i < xs.length), bandn xs[i] os[i] ≠ 0 → fitsM os xs = false
  | [], _, i, h1, _, _ => by simp at h1
  | _ :: _, [], i, _, h2, _ => by simp at h2
  | o :: os, x :: xs, 0, _, _, h => by
    simp only [List.getElem_cons_zero] at h
    simp [fitsM, h]
  | o :: os, x :: xs, i + 1, h1, h2, h => by
    simp only [List.getElem_cons_succ] at h
    simp [fitsM, fitsM_no os xs i (by simpa using h1) (by simpa using h2) h]
theorem fitsM_yes : ∀ (os xs : List Int), (∀ i (h1 : i < os.length) (h2 : i < xs.length), bandn xs[i] os[i] = 0) → fitsM os xs = true
  | [], _, _ => by simp [fitsM]
  | _ :: _, [], _ => by simp [fitsM]
  | o :: os, x :: xs, h => by
    have h0 := h 0 (by simp) (by simp)
    simp only [List.getElem_cons_zero] at h0
    simp only [fitsM, h0, Bool.and_eq_true, beq_iff_eq, true_and]
    exact fitsM_yes os xs fun i h1 h2 => by
      have := h (i + 1) (by simpa using h1) (by simpa using h2)
      simpa using this
theorem byte_get {W : World} {a : Option Addr} {n c : Nat} {l : List Int} (h : Sv.ok dByte W (a, n, c) l) {i : Nat} (hi : i < l.length) : ∃ b o, a = some ⟨b, o, none⟩ ∧ W.cell? ⟨b, o + i, none⟩ = some (.int .u8 l[i]) := by
  obtain ⟨b, o, e⟩ := h.2.2.2.is_some (show 0 < l.length by omega)
  cases e
  obtain ⟨cs, hk, _, hc⟩ := h.2.2.2.get hi
  exact ⟨b, o, rfl, by simpa [dByte, flat] using hc 0 (.int .u8 l[i]) (by rw [hk]; rfl)⟩
theorem layI_set (b : List Int) (o : Nat) (xs : List Int) (y : Int) (h : o + xs.length < b.length) : (layI b o xs).set (o + xs.length) y = layI b o (xs ++ [y]) := by
  have h1 : (b.take o ++ xs).length = o + xs.length := by simp; omega
  rw [layI, List.set_append_right _ _ (by omega), h1, Nat.sub_self, List.drop_eq_getElem_cons h, layI]
  simp [Nat.add_assoc]
theorem layI_at (b : List Int) (o : Nat) (xs : List Int) (h : o + xs.length < b.length) : (layI b o xs)[o + xs.length]? = some b[o + xs.length] := by
  have h1 : (b.take o ++ xs).length = o + xs.length := by simp; omega
  rw [layI, List.getElem?_append_right (by omega), h1, Nat.sub_self, List.getElem?_drop, Nat.add_zero, List.getElem?_eq_getElem h]
theorem bandn_eq (a b : Int) : IntKind.u8.wrap (((a % 2 ^ IntKind.u8.bits).toNat &&& (2 ^ IntKind.u8.bits - 1 - (b % 2 ^ IntKind.u8.bits).toNat) : Nat) : Int) = bandn a b := by simp [bandn]
theorem layI_old (b : List Int) (o n : Nat) (A : List Int) (hA : A.length ≤ n) (h : o + n ≤ b.length) : layI b o (A ++ ((b.drop o).take n).drop A.length) = layI b o A := by
  have h1 : ((b.drop o).take n).drop A.length = (b.drop (o + A.length)).take (n - A.length) := by rw [List.drop_take, List.drop_drop]
  have h2 : ((b.drop (o + A.length)).take (n - A.length)).length = n - A.length := by simp; omega
  rw [h1, layI, layI, List.length_append, h2, List.append_assoc, List.append_assoc, List.append_assoc]
  congr 2
  have e3 : b.drop (o + (A.length + (n - A.length))) = (b.drop (o + A.length)).drop (n - A.length) := by
    rw [List.drop_drop]
    congr 1
    omega
  rw [e3, List.take_append_drop]
set_option maxHeartbeats 2000000 in
theorem program0 (w : World) (I S : Nat → Prop) (hI : ∀ b, I b → b < w.heap.size) (c : Cp) (o : Nat) {a : Option Addr} {n cp : Nat} (xs : List Int) (hx : ∀ W, Ext I w W → Sv.ok dByte W (a, n, cp) xs) (ho : o + xs.length ≤ c.b.length) (hb : c.b.length ≤ 1000000000) (hp : c.p.left ≤ 9223372036854775807) (hS : Owns c.res S w) (hSI : ∀ b, S b → b < w.heap.size ∧ ¬ I b) :
    FnS Tryz.prog 104 #[ptrV c.gc, .int .i64 (o : Nat), .slice a n cp] w I S (fun _ : Unit => .int .i64 (progM c o xs).1) (fun _ => (progM c o xs).2.res) (fun _ _ => True) := by
  obtain rfl : n = xs.length := (hx w (Ext.refl _ _)).1
  refine enterS (svs := [.c (.bp 1000 c.gc 0), .c (.v (.int .i64 (o : Nat))), .c (.v (.slice a xs.length cp))]) tysOk Tryz.func104 rfl Tryz.ntmps104 Tryz.results104 (by kernel_rfl) (by simp) hI c.res hS hSI (fun W => Sv.ok dByte W (a, xs.length, cp) xs) hx fun C hC hN ok => ?_
  have hask : askE c.b.length o xs.length = 0 := by unfold askE; rw [if_neg (by omega)]
  simp [hN]
  refine callS ok rfl rfl rfl [1000] [c.chip] (by simp) rfl (fun _ : Unit => [(1000, c.chip)]) (fun w I S hI hG hO hS' => norAsk0 w I S hI c o xs.length (by omega) (by omega) hO hS') (fun r => by simp) (.inr fun x q hq => by simp at hq; subst hq; simp) fun _ W _ => ?_
  simp [hN, hask]
  refine loopK [0, 1, 2, 22, 23] ok (fun i : Nat => [(24, .c (.v (.int .i64 i)))]) (fun _ => [(1000, c.chip), (1001, c.pow), (1002, c.row), (1003, c.map)]) (fun i W => i ≤ xs.length ∧ ∀ j (h1 : j < xs.length) (h2 : o + j < c.b.length), j < i → bandn xs[j] c.b[o + j] = 0) (fun i => xs.length - i) 0 ?_ ?_ (fun W hW => ⟨Nat.zero_le _, fun j _ _ h => absurd h (Nat.not_lt_zero _)⟩) ?_
  · simp
  · simp
  rintro i W ⟨hi, hfit⟩ hG next
  rcases Nat.lt_or_ge i xs.length with hlt | hge
  · obtain ⟨b', o', e, _⟩ := byte_get (show Sv.ok dByte W (a, xs.length, cp) xs from hG) hlt
    cases e
    have e6 : IntKind.i64.wrap ((i : Int) + 1) = (i + 1 : Nat) := by rw [w64 (by omega) (by omega)]; omega
    obtain ⟨z, hz⟩ : ∃ z, z = o + i := ⟨_, rfl⟩
    have e7 : IntKind.i64.wrap ((o : Int) + i) = (z : Nat) := by rw [w64 (by omega) (by omega)]; omega
    have hoi : z < c.b.length := by omega
    have hat := bC_at (List.getElem?_eq_getElem hoi)
    have hbl := bC_len c.b
    have hat2 : ∀ h : z < (bC c.b).length, (bC c.b)[z]'h = .v (.int .u8 c.b[z]) := fun h => by rw [List.getElem?_eq_getElem h] at hat; exact Option.some.inj hat
    simp [hN, hlt]
    refine load1 ok rfl rfl rfl rfl (fun v W => v = .int .u8 xs[i]) (fun W hW => ?_) ?_
    · obtain ⟨b'', o'', e, hc⟩ := byte_get hW.2 hlt
      cases e
      exact ⟨_, hc, rfl⟩
    rintro v W rfl _
    simp [hN, e6, e7, hat, hat2, hoi, hbl, bandn_eq]
    refine ⟨by omega, fun hbad => ?_, fun hok => next (i + 1) _ _ (by omega) (fun W h => ⟨⟨hlt, fun j h1 h2 h3 => ?_⟩, h.2⟩) (by simp)⟩
    · have hpm : progM c o xs = (9, c) := by
        rw [progM, if_neg]
        rw [fitsM_no (c.b.drop o) xs i (by simp; omega) hlt (by rw [List.getElem_drop]; simpa [hz] using hbad)]
        decide
      rw [hpm] at hC
      exact retS hC () [1000, 1001, 1002, 1003] rfl (by simp [Cp.map, mapR]) fun _ _ _ => trivial
    · rcases Nat.lt_or_ge j i with h4 | h4
      · exact hfit j h1 h2 h4
      · obtain rfl : j = i := by omega
        simpa [hz] using hok
  have hfits : fitsM (c.b.drop o) xs = true := fitsM_yes _ _ fun j h1 h2 => by
    rw [List.getElem_drop]
    exact hfit j h2 (by simp at h1; omega) (by omega)
  clear next
  have hpm : progM c o xs = (if (writeM c.p ((c.b.drop o).take xs.length) xs).1 then 0 else 6, { c with p := (writeM c.p ((c.b.drop o).take xs.length) xs).2.2, b := layI c.b o (writeM c.p ((c.b.drop o).take xs.length) xs).2.1 }) := by rw [progM, if_pos hfits]
  rw [hpm] at hC
  have hol : ((c.b.drop o).take xs.length).length = xs.length := by simp; omega
  obtain ⟨old, hold⟩ : ∃ old, old = (c.b.drop o).take xs.length := ⟨_, rfl⟩
  have hoat : ∀ j (h : j < old.length) (h2 : o + j < c.b.length), old[j] = c.b[o + j] := fun j h h2 => by
    subst hold
    rw [List.getElem_take, List.getElem_drop]
  rw [← hold] at hC hol
  simp [hN, Nat.not_lt.2 hge]
  refine loopK [0, 1, 2, 42, 43] ok (fun y : Nat × Pw => [(44, .c (.v (.int .i64 (y.1 : Nat))))]) (fun y => [(1000, c.chip), (1001, .box c.gp 108 (powB y.2 c.fl)), (1002, .row (some ⟨c.gb, 0, none⟩) c.b.length c.bc 5 1 (bC (layI c.b o (xs.take y.1)))), (1003, c.map)]) (fun y W => y.1 ≤ xs.length ∧ y.2.left ≤ 9223372036854775807 ∧ writeM c.p old xs = ((writeM y.2 (old.drop y.1) (xs.drop y.1)).1, xs.take y.1 ++ (writeM y.2 (old.drop y.1) (xs.drop y.1)).2.1, (writeM y.2 (old.drop y.1) (xs.drop y.1)).2.2)) (fun y => xs.length - y.1) (0, c.p) ?_ ?_ (fun W hW => ⟨Nat.zero_le _, hp, by simp⟩) ?_
  · simp
  · simp [layI]
  rintro ⟨k, p⟩ W ⟨hk, hpl, hwm⟩ hG2 next
  simp only at hk hpl hwm
  rcases Nat.lt_or_ge k xs.length with hlt | hge2
  · obtain ⟨b', o', e, _⟩ := byte_get (show Sv.ok dByte W (a, xs.length, cp) xs from hG2.2) hlt
    cases e
    have e6 : IntKind.i64.wrap ((k : Int) + 1) = (k + 1 : Nat) := by rw [w64 (by omega) (by omega)]; omega
    obtain ⟨z, hz⟩ : ∃ z, z = o + k := ⟨_, rfl⟩
    have e7 : IntKind.i64.wrap ((o : Int) + k) = (z : Nat) := by rw [w64 (by omega) (by omega)]; omega
    simp [hN, hlt]
    refine load1 ok rfl rfl rfl rfl (fun v W => v = .int .u8 xs[k]) (fun W hW => ?_) ?_
    · obtain ⟨b'', o'', e, hc⟩ := byte_get hW.2.2 hlt
      cases e
      exact ⟨_, hc, rfl⟩
    rintro v W rfl _
    simp [hN]
    refine callS ok rfl rfl rfl [1001] [.box c.gp 108 (powB p c.fl)] (by simp) rfl (fun _ : Unit => [(1001, .box c.gp 108 (powB p.step.2.2 c.fl))]) (fun w I S hI hG hO hS' => step0 w I S hI c.gp p c.fl hpl hO hS') (fun r => by simp) (.inr fun x q hq => by simp at hq; subst hq; simp) fun _ W _ => ?_
    have hw1 : writeM p (old.drop k) (xs.drop k) = match p.step with
      | (true, _, q) => ((writeM q (old.drop (k + 1)) (xs.drop (k + 1))).1, xs[k] :: (writeM q (old.drop (k + 1)) (xs.drop (k + 1))).2.1, (writeM q (old.drop (k + 1)) (xs.drop (k + 1))).2.2)
      | (false, true, q) => (false, bor xs[k] (band c.b[o + k] q.mask) :: old.drop (k + 1), q)
      | (false, false, q) => (false, c.b[o + k] :: old.drop (k + 1), q) := by
      rw [List.drop_eq_getElem_cons (show k < old.length by omega), List.drop_eq_getElem_cons hlt, writeM, hoat k (by omega) (by omega)]
      all_goals
        rcases p.step with ⟨d, t, q⟩
        cases d <;> cases t <;> rfl
    have hsl : p.step.2.2.left ≤ 9223372036854775807 := by
      unfold Pw.step
      split
      · exact hpl
      · split
        · exact hpl
        · simp only
          split <;> omega
    have hdt : p.step.1 = true → p.step.2.1 = false := by
      unfold Pw.step
      split
      · intro h; rfl
      · split
        · intro h; cases h
        · intro h; rfl
    generalize p.step = r at *
    obtain ⟨d, t, q⟩ := r
    have htk : (xs.take k).length = k := by simp; omega
    have hrl : (layI c.b o (xs.take k)).length = c.b.length := layI_len _ _ _ (by rw [htk]; omega)
    have hbl := bC_len (layI c.b o (xs.take k))
    rw [hrl] at hbl
    have hset : ∀ y, (bC (layI c.b o (xs.take k))).set z (.v (.int .u8 y)) = bC (layI c.b o (xs.take k ++ [y])) := fun y => by
      rw [bC_set, hz]
      have := layI_set c.b o (xs.take k) y (by rw [htk]; omega)
      rw [htk] at this
      rw [this]
    have hat := bC_at (show (layI c.b o (xs.take k))[z]? = some (c.b[o + k]'(by omega)) by have := layI_at c.b o (xs.take k) (by rw [htk]; omega); simp only [htk] at this; subst hz; exact this)
    have hat2 : ∀ h : z < (bC (layI c.b o (xs.take k))).length, (bC (layI c.b o (xs.take k)))[z]'h = .v (.int .u8 (c.b[o + k]'(by omega))) := fun h => by rw [List.getElem?_eq_getElem h] at hat; exact Option.some.inj hat
    cases d with
    | true =>
      obtain rfl : t = false := hdt rfl
      simp [hN, e6, e7, hbl, hset]
      have hf3 : writeM c.p old xs = ((writeM q (old.drop (k + 1)) (xs.drop (k + 1))).1, xs.take (k + 1) ++ (writeM q (old.drop (k + 1)) (xs.drop (k + 1))).2.1, (writeM q (old.drop (k + 1)) (xs.drop (k + 1))).2.2) := by
        have hft : xs.take (k + 1) = xs.take k ++ [xs[k]] := by rw [List.take_add_one, List.getElem?_eq_getElem hlt]; rfl
        rw [hwm, hw1, hft, List.append_assoc]
        rfl
      exact ⟨by omega, by omega, next (k + 1, q) _ _ (by simp; omega) (fun W h => ⟨⟨hlt, hsl, hf3⟩, h.2⟩) (by simp)⟩
    | false =>
      cases t with
      | true =>
        simp [hN]
        refine draw ok [(1000, c.chip), (1002, .row (some ⟨c.gb, 0, none⟩) c.b.length c.bc 5 1 (bC (layI c.b o (xs.take k))))] (by rw [ok.P]; exact mixed) (by kernel_rfl) ?_
        simp (maxSteps := 2000000) -implicitDefEqProofs [hN, e7, hat, hat2, hbl]
        and_intros
        all_goals try omega
        refine callS ok rfl rfl rfl [1001] [.box c.gp 108 (powB q c.fl)] (by simp) rfl (fun _ : Unit => [(1001, .box c.gp 108 (powB q c.fl))]) (fun w I S hI hG hO hS' => mask0 w I S hI c.gp q c.fl hO hS') (fun r => by simp) (.inr fun x q hq => by simp at hq; subst hq; simp) fun _ W _ => ?_
        simp (maxSteps := 2000000) -implicitDefEqProofs [hN, e7, hbl, band_eq, bor_eq]
        have hf3 : writeM c.p old xs = (false, xs.take k ++ bor xs[k] (band c.b[o + k] q.mask) :: old.drop (k + 1), q) := by rw [hwm, hw1]
        have hf4 : layI c.b o (xs.take k ++ bor xs[k] (band c.b[o + k] q.mask) :: old.drop (k + 1)) = layI c.b o (xs.take k ++ [bor xs[k] (band c.b[o + k] q.mask)]) := by
          have := layI_old c.b o xs.length (xs.take k ++ [bor xs[k] (band c.b[o + k] q.mask)]) (by simp; omega) ho
          rw [← hold] at this
          simpa [htk] using this
        rw [hf3] at hC
        simp only [hset, hf4] at hC ⊢
        have hl2 : (layI c.b o (xs.take k ++ [bor xs[k] (band c.b[o + k] q.mask)])).length = c.b.length := layI_len _ _ _ (by simp; omega)
        and_intros
        all_goals try omega
        exact retS hC () [1000, 1001, 1002, 1003] rfl (by simp [Cp.map, mapR, hl2]) fun _ _ _ => trivial
      | false =>
        simp [hN]
        have hf3 : writeM c.p old xs = (false, xs.take k ++ old.drop k, q) := by
          rw [hwm, hw1, List.drop_eq_getElem_cons (show k < old.length by omega), hoat k (by omega) (by omega)]
        have hf4 : layI c.b o (xs.take k ++ old.drop k) = layI c.b o (xs.take k) := by
          have := layI_old c.b o xs.length (xs.take k) (by simp; omega) ho
          rw [← hold, htk] at this
          exact this
        rw [hf3] at hC
        simp only [hf4] at hC
        exact retS hC () [1000, 1001, 1002, 1003] rfl (by simp [Cp.map, mapR, hrl]) fun _ _ _ => trivial
  · have hkn : k = xs.length := by omega
    have hf3 : writeM c.p old xs = (true, xs, p) := by
      rw [hwm, hkn, List.drop_eq_nil_of_le (by omega), List.drop_eq_nil_of_le (Nat.le_refl _), List.take_length]
      simp [writeM]
    have hTk : xs.take k = xs := List.take_of_length_le hge2
    have hrl : (layI c.b o xs).length = c.b.length := layI_len _ _ _ ho
    rw [hf3] at hC
    simp only [hTk]
    simp [hN, Nat.not_lt.2 hge2]
    exact retS hC () [1000, 1001, 1002, 1003] rfl (by simp [Cp.map, mapR, hrl]) fun _ _ _ => trivial
end Go.Proofs.YtbbaoeidobdblaaGreat.Sx

/- half.ask, half.Wipe. -/
set_option linter.unusedVariables false
set_option linter.unusedSimpArgs false
namespace Go.Proofs.YtbbaoeidobdblaaGreat.Sx
open Go
attribute [local simp ↓] ifb_true' ifb_false'
attribute [local simp] ifb_true ifb_false ifb_eq sx argsT find ev evOp evs evo evBin evInt evStr evNil evNilA ptrA slcA isNoneA asB evLoad look del cellsB evUn evConv kdec fld evFieldA evField evIdxA evIdx evSlc bndL bndH evLen mmi put resV guardV gvL setO tupV cellsOf ones one upd lits nv exitTo SV.val CV.val TI.agg rdyA allR keepB scan simpO gsp isS subs keepT pickT wr memN pubs Res.fact Region.binds bld rest give delL back Res.eqv vi vb num Sv.val undef
theorem halfAsk0 (w : World) (I : Nat → Prop) (hI : ∀ b, I b → b < w.heap.size) (gc : Nat) (h : Nat) (hh : h < 2) :
    Fn0 Tryz.prog 98 #[ptrV gc, .int .i64 (h : Nat)] w I (fun _ : Unit => .int .i64 0) (fun _ _ => True) := by
  refine enter (svs := [.c (.v (ptrV gc)), .c (.v (.int .i64 (h : Nat)))]) tysOk Tryz.func98 rfl Tryz.ntmps98 Tryz.results98 (by kernel_rfl) (by simp) hI (fun _ => True) (fun _ _ => trivial) fun C hC hN ok => ?_
  have h1 : ¬ ((h : Nat) : Int) < 0 := by omega
  have h2 : ¬ 2 ≤ ((h : Nat) : Int) := by omega
  simp [hN, h1, h2]
  exact ret0 hC () rfl fun _ _ _ => trivial
/-- What a chip is like that is used. -/
structure Cp.fit (c : Cp) : Prop where
  right : c.g.right
  len : (c.b.length : Int) = c.g.sectors * c.g.sector
  cap : c.b.length ≤ c.cap
  left : c.p.left ≤ 9223372036854775807
/-- The same chip, later on. -/
structure Cp.same (c d : Cp) : Prop where
  g : d.g = c.g
  gc : d.gc = c.gc
  gp : d.gp = c.gp
  gb : d.gb = c.gb
  gm : d.gm = c.gm
  cap : d.cap = c.cap
  bc : d.bc = c.bc
  fl : d.fl = c.fl
  len : d.b.length = c.b.length
theorem Cp.same.refl (c : Cp) : c.same c := ⟨rfl, rfl, rfl, rfl, rfl, rfl, rfl, rfl, rfl⟩
theorem Cp.same.trans {a b c : Cp} (h : a.same b) (k : b.same c) : a.same c := ⟨k.g.trans h.g, k.gc.trans h.gc, k.gp.trans h.gp, k.gb.trans h.gb, k.gm.trans h.gm, k.cap.trans h.cap, k.bc.trans h.bc, k.fl.trans h.fl, k.len.trans h.len⟩
theorem step_left {p : Pw} (h : p.left ≤ 9223372036854775807) : p.step.2.2.left ≤ 9223372036854775807 := by
  unfold Pw.step
  split
  · exact h
  · split
    · exact h
    · simp only
      split <;> omega
theorem sec_le {c : Cp} (h : c.fit) {i : Nat} (hi : (i : Int) < c.g.sectors) : i * c.g.sector.toNat + c.g.sector.toNat ≤ c.b.length := by
  obtain ⟨q0, ⟨q1, q2⟩, ⟨q3, q4⟩, _⟩ := id h.right
  obtain ⟨s, hs'⟩ : ∃ s : Nat, c.g.sector = s := ⟨c.g.sector.toNat, by omega⟩
  have h1 : ((i : Int) + 1) * s ≤ c.g.sectors * s := Int.mul_le_mul_of_nonneg_right (by omega) (by omega)
  rw [← hs', ← h.len, hs'] at h1
  have h2 : (i + 1) * s ≤ c.b.length := by exact_mod_cast h1
  have h3 : (i + 1) * s = i * s + s := Nat.succ_mul i s
  rw [show c.g.sector.toNat = s by omega]
  omega
theorem erase_same {c : Cp} (h : c.fit) {i : Nat} (hi : (i : Int) < c.g.sectors) : c.same (eraseM c i).2 ∧ (eraseM c i).2.fit := by
  have h1 := sec_le h hi
  have h2 := step_left h.left
  have h3 := fun bits => setM_len c.b (i * c.g.sector.toNat) c.g.sector.toNat bits h1
  unfold eraseM
  generalize c.p.step = r at h2 ⊢
  obtain ⟨d, t, q⟩ := r
  replace h2 : q.left ≤ 9223372036854775807 := h2
  cases d with
  | true => exact ⟨⟨rfl, rfl, rfl, rfl, rfl, rfl, rfl, rfl, h3 255⟩, h.right, by simp only [h3]; exact h.len, by simp only [h3]; exact h.cap, h2⟩
  | false =>
    cases t with
    | true => exact ⟨⟨rfl, rfl, rfl, rfl, rfl, rfl, rfl, rfl, h3 _⟩, h.right, by simp only [h3]; exact h.len, by simp only [h3]; exact h.cap, h2⟩
    | false => exact ⟨⟨rfl, rfl, rfl, rfl, rfl, rfl, rfl, rfl, rfl⟩, h.right, h.len, h.cap, h2⟩
def wipeN (c : Cp) (base : Nat) : Nat → Int × Cp
  | 0 => (0, c)
  | k + 1 => if (eraseM c (base + k)).1 ≠ 0 then eraseM c (base + k) else wipeN (eraseM c (base + k)).2 base k
def halfN (c : Cp) : Nat := (c.g.sectors / 2).toNat
def wipeM (c : Cp) (h : Nat) : Int × Cp := wipeN c (h * halfN c) (halfN c)
theorem wipe_same {c : Cp} {base : Nat} : ∀ (k : Nat) {d : Cp}, d.fit → c.same d → ((base + k : Nat) : Int) ≤ c.g.sectors → c.same (wipeN d base k).2 ∧ (wipeN d base k).2.fit
  | 0, d, h, s, _ => ⟨s, h⟩
  | k + 1, d, h, s, hb => by
    have he := erase_same h (i := base + k) (by rw [s.g]; omega)
    unfold wipeN
    split
    · exact ⟨s.trans he.1, he.2⟩
    · exact wipe_same k he.2 (s.trans he.1) (by omega)
set_option maxHeartbeats 1000000 in
theorem wipe0 (w : World) (I S : Nat → Prop) (hI : ∀ b, I b → b < w.heap.size) (c : Cp) (h : Nat) (hh : h < 2) (hf : c.fit) (hS : Owns c.res S w) (hSI : ∀ b, S b → b < w.heap.size ∧ ¬ I b) :
    FnS Tryz.prog 55 #[ptrV c.gc, .int .i64 (h : Nat)] w I S (fun _ : Unit => .int .i64 (wipeM c h).1) (fun _ => (wipeM c h).2.res) (fun _ _ => True) := by
  obtain ⟨q0, ⟨q1, q2⟩, ⟨q3, q4⟩, ⟨q5, q6⟩, ⟨q7, q8⟩, ⟨q9, q10⟩⟩ := id hf.right
  refine enterS (svs := [.c (.v (ptrV c.gc)), .c (.v (.int .i64 (h : Nat)))]) tysOk Tryz.func55 rfl Tryz.ntmps55 Tryz.results55 (by kernel_rfl) (by simp) hI c.res hS hSI (fun _ => True) (fun _ _ => trivial) fun C hC hN ok => ?_
  simp [hN]
  refine call0 ok rfl rfl rfl (fun w I hI hG => halfAsk0 w I hI c.gc h hh) fun _ W _ => ?_
  simp [hN]
  refine callS ok rfl rfl rfl [1000] [c.chip] (by simp) rfl (fun _ : Unit => [(1000, c.chip)]) (fun w I S hI hG hO hS' => norGeo0 w I S hI c hO hS') (fun r => by simp) (.inr fun x q hq => by simp at hq; subst hq; simp) fun _ W _ => ?_
  obtain ⟨n, hn⟩ : ∃ n, n = halfN c := ⟨_, rfl⟩
  have hn2 : c.g.sectors.fdiv (2 ^ min 1 IntKind.i64.bits) = (n : Nat) := by
    rw [show ((2 : Int) ^ min 1 IntKind.i64.bits) = 2 by decide, Int.fdiv_eq_ediv_of_nonneg _ (by decide), hn]; unfold halfN; omega
  have hev : c.g.sectors = 2 * (n : Nat) := by
    have h0 : c.g.sectors % 2 = 0 := by rw [← Int.tmod_eq_emod_of_nonneg (by omega)]; exact q0
    rw [hn]; unfold halfN; omega
  have hw : wipeM c h = wipeN c (h * n) n := by rw [wipeM, ← hn]
  rw [hw] at hC
  have e1 : IntKind.i64.wrap ((n : Int) - 1) = (n : Nat) - 1 := w64 (by omega) (by omega)
  have hhn : h * n ≤ n := by
    have : h * n ≤ 1 * n := Nat.mul_le_mul_right _ (by omega)
    omega
  obtain ⟨m, hm⟩ : ∃ m, m = h * n := ⟨_, rfl⟩
  have e2 : IntKind.i64.wrap ((h : Int) * (n : Nat)) = (m : Nat) := by rw [← Int.natCast_mul, ← hm, w64 (by omega) (by omega)]
  rw [← hm] at hC hw
  simp [hN, hn2, e1]
  refine loopK [0, 1, 6] ok (fun y : Nat × Cp => [(7, .c (.v (.int .i64 ((y.1 : Nat) - 1))))]) (fun y => [(1000, y.2.chip), (1001, y.2.pow), (1002, y.2.row), (1003, y.2.map)]) (fun y W => y.1 ≤ n ∧ c.same y.2 ∧ y.2.fit ∧ wipeN c m n = wipeN y.2 m y.1) (fun y => y.1) (n, c) ?_ ?_ (fun W hW => ⟨Nat.le_refl _, Cp.same.refl _, hf, rfl⟩) ?_
  · simp
  · simp
  rintro ⟨k, d⟩ W ⟨hk, hsm, hdf, hwn⟩ hG next
  simp only at hk hsm hdf hwn
  rw [hwn] at hC
  cases k with
  | zero =>
    simp [hN]
    exact retS hC () [1000, 1001, 1002, 1003] rfl (by simp [wipeN, Cp.map, mapR]) fun _ _ _ => trivial
  | succ k =>
    obtain ⟨z, hz⟩ : ∃ z, z = m + k := ⟨_, rfl⟩
    have e3 : IntKind.i64.wrap ((m : Int) + k) = (z : Nat) := by rw [w64 (by omega) (by omega)]; omega
    have e4 : IntKind.i64.wrap ((k : Int) - 1) = (k : Nat) - 1 := w64 (by omega) (by omega)
    have hkn : ¬ ((k : Nat) : Int) < 0 := by omega
    have hzs : (z : Int) < d.g.sectors := by rw [hsm.g]; omega
    have he := erase_same hdf hzs
    simp [hN, e2, e3]
    have hwk : wipeN d m (k + 1) = if (eraseM d z).1 ≠ 0 then eraseM d z else wipeN (eraseM d z).2 m k := by rw [wipeN, ← hz]
    refine callS ok rfl rfl rfl [1000, 1001, 1002, 1003] d.res (by simp [Cp.map, mapR]) rfl (fun _ : Unit => [(1000, (eraseM d z).2.chip), (1001, (eraseM d z).2.pow), (1002, (eraseM d z).2.row), (1003, (eraseM d z).2.map)]) (fun w I S hI hG hO hS' => by have := erase0 w I S hI d z hzs hdf.right hdf.len hdf.cap hdf.left hO hS'; rw [hsm.gc] at this; exact this) (fun r => by simp [Cp.map, mapR]) (.inr fun x q hq => by simp at hq; rcases hq with rfl | rfl | rfl | rfl <;> simp) fun _ W _ => ?_
    simp [hN, e4]
    rw [hwk] at hC
    refine ⟨fun hne => ?_, fun h0 => next (k, (eraseM d z).2) _ _ (by simp) (fun W hW => ⟨⟨by simp only; omega, hsm.trans he.1, he.2, ?_⟩, trivial⟩) (by simp [Cp.map, mapR])⟩
    · rw [if_pos hne] at hC
      exact retS hC () [1000, 1001, 1002, 1003] rfl (by simp [Cp.map, mapR]) fun _ _ _ => trivial
    · rw [hwn, hwk, if_neg (by simp [h0])]
end Go.Proofs.YtbbaoeidobdblaaGreat.Sx

/- sum.Of, frame.Body. -/
set_option linter.unusedVariables false
set_option linter.unusedSimpArgs false
namespace Go.Proofs.YtbbaoeidobdblaaGreat.Sx
open Go
attribute [local simp ↓] ifb_true' ifb_false'
attribute [local simp] ifb_true ifb_false ifb_eq sx argsT find ev evOp evs evo evBin evInt evStr evNil evNilA ptrA slcA isNoneA asB evLoad look del cellsB evUn evConv kdec fld evFieldA evField evIdxA evIdx evSlc bndL bndH evLen mmi put resV guardV gvL setO tupV cellsOf ones one upd lits nv exitTo SV.val CV.val TI.agg rdyA allR keepB scan simpO gsp isS subs keepT pickT wr memN pubs Res.fact Region.binds bld rest give delL back Res.eqv vi vb num Sv.val undef
/-- The sum over bytes: its two parts. -/
def sumP (l : List Int) : Int × Int := l.foldl (fun s x => ((s.1 + x) % 65521, (s.2 + (s.1 + x) % 65521) % 65521)) (1, 0)
def sumM (l : List Int) : Int := IntKind.u32.wrap (((IntKind.u32.wrap ((sumP l).2 * 2 ^ min 16 IntKind.u32.bits) % 2 ^ IntKind.u32.bits).toNat ||| ((sumP l).1 % 2 ^ IntKind.u32.bits).toNat : Nat) : Int)
theorem sumP_snoc (l : List Int) (x : Int) : sumP (l ++ [x]) = (((sumP l).1 + x) % 65521, ((sumP l).2 + ((sumP l).1 + x) % 65521) % 65521) := by simp [sumP]
theorem sumP_le (l : List Int) : 0 ≤ (sumP l).1 ∧ (sumP l).1 < 65521 ∧ 0 ≤ (sumP l).2 ∧ (sumP l).2 < 65521 := by
  have key : ∀ (l : List Int) (s : Int × Int), (0 ≤ s.1 ∧ s.1 < 65521 ∧ 0 ≤ s.2 ∧ s.2 < 65521) → 0 ≤ (l.foldl (fun s x => ((s.1 + x) % 65521, (s.2 + (s.1 + x) % 65521) % 65521)) s).1 ∧ (l.foldl (fun s x => ((s.1 + x) % 65521, (s.2 + (s.1 + x) % 65521) % 65521)) s).1 < 65521 ∧ 0 ≤ (l.foldl (fun s x => ((s.1 + x) % 65521, (s.2 + (s.1 + x) % 65521) % 65521)) s).2 ∧ (l.foldl (fun s x => ((s.1 + x) % 65521, (s.2 + (s.1 + x) % 65521) % 65521)) s).2 < 65521 := by
    intro l
    induction l with
    | nil => exact fun s h => h
    | cons x r ih => exact fun s h => ih _ ⟨Int.emod_nonneg _ (by decide), Int.emod_lt_of_pos _ (by decide), Int.emod_nonneg _ (by decide), Int.emod_lt_of_pos _ (by decide)⟩
  exact key l (1, 0) (by decide)
theorem u32_wrap (x : Int) : IntKind.u32.wrap x = x % 4294967296 := IntKind.wrap_u32 x
set_option maxHeartbeats 1000000 in
theorem sumOf0 (w : World) (I : Nat → Prop) (hI : ∀ b, I b → b < w.heap.size) {a : Option Addr} {n c : Nat} (l : List Int) (h : ∀ W, Ext I w W → Sv.ok dByte W (a, n, c) l) (hb : ∀ x, x ∈ l → 0 ≤ x ∧ x ≤ 255) :
    Fn0 Tryz.prog 149 #[.slice a n c] w I (fun z : Int => .int .u32 z) (fun z _ => z = sumM l) := by
  obtain rfl : n = l.length := (h w (Ext.refl _ _)).1
  have hl := (h w (Ext.refl _ _)).2.2.1
  refine enter (svs := [.c (.v (.slice a l.length c))]) tysOk Tryz.func149 rfl Tryz.ntmps149 Tryz.results149 (by kernel_rfl) (by simp) hI (fun W => Sv.ok dByte W (a, l.length, c) l) h fun C hC hN ok => ?_
  simp [hN]
  refine loopK [0, 7, 8] ok (fun i : Nat => [(9, .c (.v (.int .i64 i))), (3, .c (.v (.int .u32 (sumP (l.take i)).1))), (4, .c (.v (.int .u32 (sumP (l.take i)).2)))]) (fun _ => []) (fun i W => i ≤ l.length) (fun i => l.length - i) 0 ?_ ?_ (fun W hW => Nat.zero_le _) ?_
  · simp [sumP]
  · simp
  rintro i W hi hG next
  have hs := sumP_le (l.take i)
  rcases Nat.lt_or_ge i l.length with hlt | hge
  · obtain ⟨b, o, e, _⟩ := byte_get (show Sv.ok dByte W (a, l.length, c) l from hG) hlt
    cases e
    have e6 : IntKind.i64.wrap ((i : Int) + 1) = (i + 1 : Nat) := by rw [w64 (by omega) (by omega)]; omega
    have ft : sumP (l.take (i + 1)) = (((sumP (l.take i)).1 + l[i]) % 65521, ((sumP (l.take i)).2 + ((sumP (l.take i)).1 + l[i]) % 65521) % 65521) := by
      rw [List.take_add_one, List.getElem?_eq_getElem hlt]
      exact sumP_snoc _ _
    have hx := hb _ (List.getElem_mem hlt)
    have hget : ∀ W, Sv.ok dByte W (some ⟨b, o, none⟩, l.length, c) l → ∃ v, W.cell? ⟨b, o + i, none⟩ = some v ∧ v = .int .u8 l[i] := fun W hW => by
      obtain ⟨b'', o'', e, hc⟩ := byte_get hW hlt
      cases e
      exact ⟨_, hc, rfl⟩
    generalize sumP (l.take i) = s at hs ft
    obtain ⟨p, q⟩ := s
    simp only at hs ft
    generalize l[i] = x at hx hget ft
    have w1 : IntKind.u32.wrap x = x := by rw [u32_wrap]; omega
    have w2 : IntKind.u32.wrap (p + x) = p + x := by rw [u32_wrap]; omega
    have w3 : (p + x).tmod 65521 = (p + x) % 65521 := Int.tmod_eq_emod_of_nonneg (by omega)
    have w4 : IntKind.u32.wrap (q + (p + x) % 65521) = q + (p + x) % 65521 := by rw [u32_wrap]; omega
    have w5 : (q + (p + x) % 65521).tmod 65521 = (q + (p + x) % 65521) % 65521 := Int.tmod_eq_emod_of_nonneg (by omega)
    simp [hN, hlt]
    refine load1 ok rfl rfl rfl rfl (fun v W => v = .int .u8 x) (fun W hW => hget W hW.2) ?_
    rintro v W rfl _
    simp [hN, e6, w1, w2, w3, w4, w5]
    exact next (i + 1) _ _ (by omega) (fun W h => ⟨hlt, h.2⟩) (by simp [ft])
  · have hT : l.take i = l := List.take_of_length_le hge
    rw [hT] at hs
    simp only [hT]
    simp [hN, Nat.not_lt.2 hge]
    exact ret0 hC _ rfl fun _ _ _ => rfl
theorem sumM_le (l : List Int) : 0 ≤ sumM l ∧ sumM l < 4294967296 := by
  unfold sumM
  rw [u32_wrap]
  exact ⟨Int.emod_nonneg _ (by decide), Int.emod_lt_of_pos _ (by decide)⟩
/-- A record without its flag. -/
def bodyB (l : List Int) : List Int := lowB l.length 2 ++ lowB (sumM (lowB l.length 2 ++ l)) 4 ++ l
end Go.Proofs.YtbbaoeidobdblaaGreat.Sx

/- frame.Body. -/
set_option linter.unusedVariables false
set_option linter.unusedSimpArgs false
namespace Go.Proofs.YtbbaoeidobdblaaGreat.Sx
open Go
attribute [local simp ↓] ifb_true' ifb_false'
attribute [local simp] ifb_true ifb_false ifb_eq sx argsT find ev evOp evs evo evBin evInt evStr evNil evNilA ptrA slcA isNoneA asB evLoad look del cellsB evUn evConv kdec fld evFieldA evField evIdxA evIdx evSlc bndL bndH evLen mmi put resV guardV gvL setO tupV cellsOf ones one upd lits nv exitTo SV.val CV.val TI.agg rdyA allR keepB scan simpO gsp isS subs keepT pickT wr memN pubs Res.fact Region.binds bld rest give delL back Res.eqv vi vb num Sv.val undef
theorem lowB_byte (v : Int) (n : Nat) : ∀ x, x ∈ lowB v n → 0 ≤ x ∧ x ≤ 255 := by
  intro x hx
  simp only [lowB, List.mem_map] at hx
  obtain ⟨i, _, rfl⟩ := hx
  omega
theorem bodyB_length (l : List Int) : (bodyB l).length = 6 + l.length := by simp [bodyB, lowB_length]; omega
theorem bodyB_byte (l : List Int) (h : ∀ x, x ∈ l → 0 ≤ x ∧ x ≤ 255) : ∀ x, x ∈ bodyB l → 0 ≤ x ∧ x ≤ 255 := by
  intro x hx
  simp only [bodyB, List.mem_append] at hx
  rcases hx with (hx | hx) | hx
  · exact lowB_byte _ _ _ hx
  · exact lowB_byte _ _ _ hx
  · exact h _ hx
set_option maxHeartbeats 1000000 in
theorem body0 (w : World) (I : Nat → Prop) (hI : ∀ b, I b → b < w.heap.size) (l : List Int) (s : Sl) (h : ∀ W, Ext I w W → s.ok dByte W l) (hb : ∀ x, x ∈ l → 0 ≤ x ∧ x ≤ 255) (hl : l.length ≤ 65000) :
    Fn0 Tryz.prog 103 #[.slice s.1 l.length s.2] w I (fun r : Sl => .tuple #[.slice r.1 (6 + l.length) r.2, .int .i64 0]) (fun r W => r.ok dByte W (bodyB l)) := by
  obtain ⟨a, c⟩ := s
  refine enter (svs := [.c (.v (.slice a l.length c))]) tysOk Tryz.func103 rfl Tryz.ntmps103 Tryz.results103 (by kernel_rfl) (by simp) hI (fun W => Sl.ok dByte W (a, c) l) h fun C hC hN ok => ?_
  have h1 : ¬ (65000 : Int) < l.length := by omega
  have e1 : IntKind.u64.wrap (l.length : Int) = l.length := by rw [u64_wrap]; omega
  simp [hN, h1, e1]
  refine call0 ok rfl rfl rfl (fun w I hI hG => put0 w I hI [] (none, 0) _ 2 (fun W _ => by simp [Sl.ok, Rd]) (by simp) (by omega) (by omega)) fun x W hx => ?_
  simp [hN]
  intro g2
  refine pub 15 rfl (by decide) (call0 ok rfl rfl rfl (fun w I hI hG => concat0 w I hI [lowB l.length 2, l] (some ⟨g2, 0, none⟩, 2) (fun W e => two_ok (hG W e).1 (by have := (hG W e).2.1; simpa using this) (by simp [lowB_length]) (hG W e).2.2 rfl) (by simp [lowB_length]; omega) (by simp)) fun y W hy => ?_)
  simp [hN]
  have hm := sumM_le (lowB l.length 2 ++ l)
  obtain ⟨m, hm'⟩ : ∃ m, m = sumM (lowB l.length 2 ++ l) := ⟨_, rfl⟩
  have e2 : IntKind.u64.wrap m = m := by rw [u64_wrap]; omega
  have hlen : (lowB l.length 2 ++ l).length = 2 + l.length := by simp [lowB_length]
  refine call0 ok rfl rfl rfl (fun w I hI hG => sumOf0 w I hI (lowB l.length 2 ++ l) (fun W e => ⟨by simp [lowB_length], by simpa using (hG W e).1⟩) (fun z hz => by
    rcases List.mem_append.1 hz with hz | hz
    · exact lowB_byte _ _ _ hz
    · exact hb _ hz)) fun z W hz => ?_
  simp only [← hm'] at hz
  subst hz
  simp [hN, e2]
  refine call0 ok rfl rfl rfl (fun w I hI hG => put0 w I hI (lowB l.length 2) x z 4 (fun W e => by simpa using (hG W e).2.2.2.1) (by simp [lowB_length]) (by omega) (by omega)) fun u W hu => ?_
  simp [hN]
  intro g3
  refine pub 21 rfl (by decide) (call0 ok rfl rfl rfl (fun w I hI hG => concat0 w I hI [lowB l.length 2 ++ lowB z 4, l] (some ⟨g3, 0, none⟩, 2) (fun W e => two_ok (hG W e).1 (by have := (hG W e).2.1; simpa using this) (by simp [lowB_length]) (hG W e).2.2.2.2.2.2 rfl) (by simp [lowB_length]; omega) (by simp)) fun v W hv => ?_)
  simp [hN]
  exact ret0 hC v (by simp [lowB_length]; omega) fun W _ hG => by have := hG.1; simpa [bodyB, ← hm'] using this
end Go.Proofs.YtbbaoeidobdblaaGreat.Sx

/- half.Append. -/
set_option linter.unusedVariables false
set_option linter.unusedSimpArgs false
namespace Go.Proofs.YtbbaoeidobdblaaGreat.Sx
open Go
attribute [local simp ↓] ifb_true' ifb_false'
attribute [local simp] ifb_true ifb_false ifb_eq sx argsT find ev evOp evs evo evBin evInt evStr evNil evNilA ptrA slcA isNoneA asB evLoad look del cellsB evUn evConv kdec fld evFieldA evField evIdxA evIdx evSlc bndL bndH evLen mmi put resV guardV gvL setO tupV cellsOf ones one upd lits nv exitTo SV.val CV.val TI.agg rdyA allR keepB scan simpO gsp isS subs keepT pickT wr memN pubs Res.fact Region.binds bld rest give delL back Res.eqv vi vb num Sv.val undef
theorem writeM_left : ∀ (p : Pw) (os xs : List Int), p.left ≤ 9223372036854775807 → (writeM p os xs).2.2.left ≤ 9223372036854775807
  | p, [], [], h => h
  | p, [], _ :: _, h => h
  | p, _ :: _, [], h => h
  | p, o :: os, x :: xs, h => by
    have h2 := step_left h
    unfold writeM
    generalize p.step = r at h2
    obtain ⟨d, t, q⟩ := r
    cases d with
    | true => exact writeM_left q os xs h2
    | false => cases t <;> exact h2
theorem prog_same {c : Cp} (h : c.fit) {o : Nat} {xs : List Int} (ho : o + xs.length ≤ c.b.length) : c.same (progM c o xs).2 ∧ (progM c o xs).2.fit := by
  have hl : (layI c.b o (writeM c.p ((c.b.drop o).take xs.length) xs).2.1).length = c.b.length := by
    have := writeM_len c.p ((c.b.drop o).take xs.length) xs (by simp; omega)
    exact layI_len _ _ _ (by omega)
  unfold progM
  split
  · exact ⟨⟨rfl, rfl, rfl, rfl, rfl, rfl, rfl, rfl, hl⟩, h.right, by simp only [hl]; exact h.len, by simp only [hl]; exact h.cap, writeM_left _ _ _ h.left⟩
  · exact ⟨Cp.same.refl _, h⟩
/-- How many bytes a half has. -/
def halfSz (c : Cp) : Nat := halfN c * c.g.sector.toNat
def appendM (c : Cp) (h o : Nat) (b : List Int) : Int × Cp :=
  if halfSz c < o + (b.length + 7) then (10, c)
  else if (progM c (h * halfSz c + o) (bodyB b)).1 ≠ 0 then progM c (h * halfSz c + o) (bodyB b) else progM (progM c (h * halfSz c + o) (bodyB b)).2 (h * halfSz c + o + (6 + b.length)) [0]
theorem Cp.same.halfN {c d : Cp} (h : c.same d) : halfN d = halfN c := by unfold Sx.halfN; rw [h.g]
theorem Cp.same.halfSz {c d : Cp} (h : c.same d) : halfSz d = halfSz c := by unfold Sx.halfSz; rw [h.halfN, h.g]
theorem half_two {c : Cp} (h : c.fit) : c.b.length = 2 * halfSz c ∧ c.g.sectors / 2 * c.g.sector = (halfSz c : Nat) ∧ halfSz c ≤ 50000000 := by
  obtain ⟨q0, ⟨q1, q2⟩, ⟨q3, q4⟩, _⟩ := id h.right
  obtain ⟨s, hs⟩ : ∃ s : Nat, c.g.sector = s := ⟨c.g.sector.toNat, by omega⟩
  have h0 : c.g.sectors % 2 = 0 := by rw [← Int.tmod_eq_emod_of_nonneg (by omega)]; exact q0
  obtain ⟨n, hn⟩ : ∃ n, n = halfN c := ⟨_, rfl⟩
  have hev : c.g.sectors = 2 * (n : Nat) := by rw [hn]; unfold halfN; omega
  have hz : halfSz c = n * s := by unfold halfSz; rw [← hn, hs]; rfl
  have hl := h.len
  rw [hev, hs] at hl
  have hl2 : c.b.length = 2 * n * s := by exact_mod_cast hl
  rw [hz]
  refine ⟨by rw [hl2, Nat.mul_assoc], by rw [hev, hs]; simp, ?_⟩
  have : n * s ≤ n * 4096 := Nat.mul_le_mul_left _ (by omega)
  omega
theorem append_same {c : Cp} (hf : c.fit) {h o : Nat} (hh : h < 2) {b : List Int} : c.same (appendM c h o b).2 ∧ (appendM c h o b).2.fit := by
  obtain ⟨h2, _, h3⟩ := half_two hf
  unfold appendM
  split
  · exact ⟨Cp.same.refl _, hf⟩
  · rename_i hle
    have hm : h * halfSz c ≤ 1 * halfSz c := Nat.mul_le_mul_right _ (by omega)
    have h4 := prog_same hf (o := h * halfSz c + o) (xs := bodyB b) (by rw [bodyB_length]; omega)
    split
    · exact h4
    · have h5 := prog_same h4.2 (o := h * halfSz c + o + (6 + b.length)) (xs := [0]) (by rw [h4.1.len]; simp; omega)
      exact ⟨h4.1.trans h5.1, h5.2⟩
set_option maxHeartbeats 2000000 in
theorem append0 (w : World) (I S : Nat → Prop) (hI : ∀ b, I b → b < w.heap.size) (c : Cp) (h o : Nat) (hh : h < 2) (hf : c.fit) (ho : o ≤ 1000000000) (l : List Int) (s : Sl) (hs : ∀ W, Ext I w W → s.ok dByte W l) (hb : ∀ x, x ∈ l → 0 ≤ x ∧ x ≤ 255) (hl : l.length ≤ 65000) (hS : Owns c.res S w) (hSI : ∀ b, S b → b < w.heap.size ∧ ¬ I b) :
    FnS Tryz.prog 58 #[ptrV c.gc, .int .i64 (h : Nat), .int .i64 (o : Nat), .slice s.1 l.length s.2] w I S (fun _ : Unit => .int .i64 (appendM c h o l).1) (fun _ => (appendM c h o l).2.res) (fun _ _ => True) := by
  obtain ⟨a, cp⟩ := s
  obtain ⟨hl2, hsz, hz⟩ := half_two hf
  refine enterS (svs := [.c (.v (ptrV c.gc)), .c (.v (.int .i64 (h : Nat))), .c (.v (.int .i64 (o : Nat))), .c (.v (.slice a l.length cp))]) tysOk Tryz.func58 rfl Tryz.ntmps58 Tryz.results58 (by kernel_rfl) (by simp) hI c.res hS hSI (fun W => Sl.ok dByte W (a, cp) l) hs fun C hC hN ok => ?_
  simp [hN]
  refine call0 ok rfl rfl rfl (fun w I hI hG => halfAsk0 w I hI c.gc h hh) fun _ W _ => ?_
  have ho' : ¬ ((o : Nat) : Int) < 0 := by omega
  simp [hN, ho']
  refine call0 ok rfl rfl rfl (fun w I hI hG => body0 w I hI l (a, cp) (fun W e => hG W e) hb hl) fun r W hr => ?_
  simp [hN]
  refine callS ok rfl rfl rfl [1000] [c.chip] (by simp) rfl (fun _ : Unit => [(1000, c.chip)]) (fun w I S hI hG hO hS' => norGeo0 w I S hI c hO hS') (fun r => by simp) (.inr fun x q hq => by simp at hq; subst hq; simp) fun _ W _ => ?_
  simp [hN]
  refine call0 ok rfl rfl rfl (fun w I hI hG => halfSize0 w I hI c.g) fun z W hz' => ?_
  rw [if_pos hf.right, hsz] at hz'
  subst hz'
  simp [hN]
  refine call0 ok rfl rfl rfl (fun w I hI hG => frameSize0 w I hI (l.length : Nat) (by omega) (by omega)) fun u W hu => ?_
  subst hu
  have e1 : IntKind.i64.wrap ((halfSz c : Int) - ((l.length : Int) + 7)) = halfSz c - (l.length + 7) := w64 (by omega) (by omega)
  simp [hN, e1]
  refine ⟨fun hgt => ?_, fun hle => ?_⟩
  · have hm : appendM c h o l = (10, c) := by rw [appendM, if_pos (by omega)]
    rw [hm] at hC
    exact retS hC () [1000, 1001, 1002, 1003] rfl (by simp [Cp.map, mapR]) fun _ _ _ => trivial
  have hm := appendM.eq_1 c h o l
  rw [if_neg (by omega)] at hm
  rw [hm] at hC
  have hmul : h * halfSz c ≤ 1 * halfSz c := Nat.mul_le_mul_right _ (by omega)
  obtain ⟨m, hmm⟩ : ∃ m, m = h * halfSz c := ⟨_, rfl⟩
  have e2 : IntKind.i64.wrap ((h : Int) * (halfSz c : Nat)) = (m : Nat) := by rw [← Int.natCast_mul, ← hmm, w64 (by omega) (by omega)]
  obtain ⟨y, hy⟩ : ∃ y, y = m + o := ⟨_, rfl⟩
  have e3 : IntKind.i64.wrap ((o : Int) + m) = (y : Nat) := by rw [w64 (by omega) (by omega)]; omega
  simp [hN, e2, e3]
  rw [← hmm, ← hy] at hC
  have hB := bodyB_length l
  have hfit := prog_same hf (o := y) (xs := bodyB l) (by rw [hB]; omega)
  refine callS ok rfl rfl rfl [1000, 1001, 1002, 1003] c.res (by simp [Cp.map, mapR]) rfl (fun _ : Unit => [(1000, (progM c y (bodyB l)).2.chip), (1001, (progM c y (bodyB l)).2.pow), (1002, (progM c y (bodyB l)).2.row), (1003, (progM c y (bodyB l)).2.map)]) (fun w I S hI hG hO hS' => program0 w I S hI c y (bodyB l) (fun W e => ⟨by rw [hB], (hG W e).2.1⟩) (by rw [hB]; omega) (by omega) hf.left hO hS') (fun r => by simp [Cp.map, mapR]) (.inr fun x q hq => by simp at hq; rcases hq with rfl | rfl | rfl | rfl <;> simp) fun _ W _ => ?_
  simp [hN]
  generalize progM c y (bodyB l) = R at hC hfit ⊢
  obtain ⟨e, d⟩ := R
  simp only at hC hfit ⊢
  refine ⟨fun hne => ?_, fun h0 => ?_⟩
  · rw [if_pos hne] at hC
    exact retS hC () [1000, 1001, 1002, 1003] rfl (by simp [Cp.map, mapR]) fun _ _ _ => trivial
  subst h0
  rw [if_neg (by simp)] at hC
  obtain ⟨z, hz⟩ : ∃ z, z = y + (6 + l.length) := ⟨_, rfl⟩
  have e4 : IntKind.i64.wrap ((y : Int) + (6 + (l.length : Int))) = (z : Nat) := by rw [w64 (by omega) (by omega)]; omega
  rw [← hz] at hC
  simp [hN, e4]
  intro g
  refine pub 58 rfl (by decide) (callS ok rfl rfl rfl [1000, 1001, 1002, 1003] d.res (by simp [Cp.map, mapR]) rfl (fun _ : Unit => [(1000, (progM d z [0]).2.chip), (1001, (progM d z [0]).2.pow), (1002, (progM d z [0]).2.row), (1003, (progM d z [0]).2.map)]) (fun w I S hI hG hO hS' => by have := program0 w I S hI d z (a := some ⟨g, 0, none⟩) (n := 1) (cp := 1) [0] (fun W e => ⟨rfl, (byte_ok (xs := [0]) (hG W e).1 (by simp)).2⟩) (by rw [hfit.1.len]; simp; omega) (by rw [hfit.1.len]; omega) hfit.2.left hO hS'; rw [hfit.1.gc] at this; exact this) (fun r => by simp [Cp.map, mapR]) (.inr fun x q hq => by simp at hq; rcases hq with rfl | rfl | rfl | rfl <;> simp) fun _ W _ => ?_)
  simp [hN]
  exact retS hC () [1000, 1001, 1002, 1003] rfl (by simp [Cp.map, mapR]) fun _ _ _ => trivial
end Go.Proofs.YtbbaoeidobdblaaGreat.Sx

/- Sx, part 15: bytes that nobody has written (bytealg.MakeNoZero). -/
set_option linter.unusedVariables false
set_option linter.unusedSimpArgs false
namespace Go.Proofs.YtbbaoeidobdblaaGreat.Sx
open Go
section
variable {P : Program} {C : Ctx} {T : Ty} {res : List ResultVar} {p : Pos} {tm : Tm} {m : Mem}
def mnB (P : Program) (f : FuncId) (t r : TypeId) : Prop := ∃ fn, P.funcs[f]? = some fn ∧ (fn.name == "runtime.NumGoroutine") = false ∧ fn.body.isNone = true ∧ Extern.findNext fn = none ∧ Extern.find fn = some (Extern.BytealgMakeNoZero.makeNoZero #[t] #[r])
/-- A new row of bytes of one's own, whatever they are. -/
theorem mkNZ (ok : Okc P T C res) (k : Nat) {o : Oper} {fo a : Operand} {tys : Array TypeId} {d : Nat} (ho : o.op = .call ⟨.value fo, #[a], tys⟩) (hd : o.dst = some d) {f : FuncId} (hf : ev tm fo = some (.c (.v (.func (.func f) #[] #[])))) {t r : TypeId} (hF : mnB P f t r) {i ie : TI} (hi : tf r T = some i) (hik : i.kd = 3) (hie : tf i.el T = some ie) (hsz : ie.sz = 1)
    {n : Nat} (ha : ev tm a = some (.c (.v (.int .i64 (n : Nat))))) (hn : n ≤ 100000000000)
    (kk : ∀ g c (cs : List CV), cs.length = n → n ≤ c → sx T C res 1000 p (put C.n (some d) (.c (.rw k (some ⟨g, 0, none⟩) n c)) tm) ⟨m.B, m.G, (k, .row (some ⟨g, 0, none⟩) n c i.el 1 cs) :: del k (del k m.rs)⟩) : At C (.op o p) tm m := by
  obtain rfl := ok.P
  intro act w cs0 hR hJ
  obtain ⟨I, F, hi0⟩ := hJ
  have e0 : act.eval fo = .func (.func f) #[] #[] := hR.eval hf
  have e1 : act.eval a = .int .i64 (n : Nat) := hR.eval ha
  have hu := (ok.ty.get hi).g_slice hik
  obtain ⟨fn, h1, h2, h3, h4, h5⟩ := hF
  obtain ⟨cs, hr, hc1, hc2⟩ := Lib.run_makeNoZero (P := C.P) w #[t] r i.el hu n (by omega)
  have hcm := hc2 (by unfold maxLen; omega)
  have hrun : (execOp act.eval o).run C.P w = .ok (.value (.slice (some ⟨w.heap.size, 0, none⟩) n cs.size)) (w.drew.drew.alloc (.cells cs i.el)) := by
    have hc := run_callFunc_extern h1 h2 h3 h4 h5 #[.int .i64 (n : Nat)] w
    rw [hr] at hc
    simp [execOp, ho, resolve, e0, e1, Deferred.ofValue, invoke, hc]
  have hRp := hR.put (some d) (.c (.rw k (some ⟨w.heap.size, 0, none⟩) n cs.size))
  have hext : Ext (fun b => b < w.heap.size ∧ ¬ noS b) w (w.drew.drew.alloc (.cells cs i.el)) := ((Ext.drew _ w).trans (Ext.drew _ _) fun _ hx => hx).trans (Ext.alloc _ w.drew.drew _ fun b hb => hb.1) fun _ hx => hx
  have hl : (((cs.toList.take n).map CV.v).map CV.val) = cs.toList.take n := by simp [Function.comp_def, CV.val]
  have hll : (cs.toList.take n).length = n := by simp; omega
  have hown : (w.drew.drew.alloc (.cells cs i.el)).ownsRow 0 i.el 1 (.slice (some ⟨w.heap.size, 0, none⟩) n cs.size) n (((cs.toList.take n).map CV.v).map CV.val) := by
    rw [hl]
    exact ⟨by rw [hll, Nat.mul_one], .inr ⟨w.heap.size, _, _, rfl, Nat.zero_le _, heap_alloc_new w.drew.drew _, hc1, hcm, by rw [Nat.mul_one], by rw [Nat.mul_one]⟩⟩
  have hup := hi0.upd k k (.row (some ⟨w.heap.size, 0, none⟩) n cs.size i.el 1 ((cs.toList.take n).map CV.v)) noS (fun b => b = w.heap.size) (fun b hb => hb.elim) hext ⟨fun b => by simp [Value.ownBlock]; exact ⟨fun h => h.symm, fun h => h.symm⟩, hown⟩ (fun b hb => by subst hb; exact ⟨by simp, .inr (Nat.le_refl _)⟩) id
  exact op_value (ok.sx (kk w.heap.size _ _ (by rw [List.length_map, hll]) hc1)) hrun (by rw [hd]; exact hRp) ⟨I, _, hup⟩
end
end Go.Proofs.YtbbaoeidobdblaaGreat.Sx

/- bits.Mul, bytes.Repeat of one byte. -/
set_option linter.unusedVariables false
set_option linter.unusedSimpArgs false
namespace Go.Proofs.YtbbaoeidobdblaaGreat.Sx
open Go
attribute [local simp ↓] ifb_true' ifb_false'
attribute [local simp] ifb_true ifb_false ifb_eq sx argsT find ev evOp evs evo evBin evInt evStr evNil evNilA ptrA slcA isNoneA asB evLoad look del cellsB evUn evConv kdec fld evFieldA evField evIdxA evIdx evSlc bndL bndH evLen mmi put resV guardV gvL setO tupV cellsOf ones one upd lits nv exitTo SV.val CV.val TI.agg rdyA allR keepB scan simpO gsp isS subs keepT pickT wr memN pubs Res.fact Region.binds bld rest give delL back Res.eqv vi vb num Sv.val undef
theorem mask32 (n : Nat) (h : n < 4294967296) : IntKind.u64.wrap ((n % 2 ^ IntKind.u64.bits &&& 4294967295 % 2 ^ IntKind.u64.bits : Nat) : Int) = (n : Nat) := by
  have h2 : n % 2 ^ IntKind.u64.bits = n := Nat.mod_eq_of_lt (by simp [IntKind.bits]; omega)
  have h3 : 4294967295 % 2 ^ IntKind.u64.bits = 2 ^ 32 - 1 := by decide
  rw [h2, h3, Nat.and_two_pow_sub_one_eq_mod, Nat.mod_eq_of_lt (by omega), u64_wrap]
  omega
set_option maxRecDepth 20000 in
theorem mul64 (w : World) (I : Nat → Prop) (hI : ∀ b, I b → b < w.heap.size) (n : Nat) (h : n < 4294967296) :
    Fn0 Tryz.prog 143 #[.int .u64 1, .int .u64 (n : Nat)] w I (fun _ : Unit => .tuple #[.int .u64 0, .int .u64 (n : Nat)]) (fun _ _ => True) := by
  refine enter (svs := [.c (.v (.int .u64 1)), .c (.v (.int .u64 (n : Nat)))]) tysOk Tryz.func143 rfl Tryz.ntmps143 Tryz.results143 (by kernel_rfl) (by simp) hI (fun _ => True) (fun _ _ => trivial) fun C hC hN ok => ?_
  have h1 := mask32 n h
  have h0 : IntKind.u64.wrap ((1 % 2 ^ IntKind.u64.bits &&& 4294967295 % 2 ^ IntKind.u64.bits : Nat) : Int) = 1 := mask32 1 (by decide)
  have h2 : IntKind.u64.wrap ((n : Nat) : Int) = (n : Nat) := by rw [u64_wrap]; omega
  have h4 : ((n : Nat) : Int).fdiv (2 ^ min 32 IntKind.u64.bits) = 0 := by
    rw [show ((2 : Int) ^ min 32 IntKind.u64.bits) = 4294967296 by decide, Int.fdiv_eq_ediv_of_nonneg _ (by decide)]; omega
  have h5 : (1 : Int).fdiv (2 ^ min 32 IntKind.u64.bits) = 0 := by decide
  have h6 : (0 : Int).fdiv (2 ^ min 32 IntKind.u64.bits) = 0 := by decide
  have h7 : IntKind.u64.wrap 0 = 0 := by decide
  simp [hN, h0, h1, h2, h4, h5, h6, h7]
  exact ret0 hC () rfl fun _ _ _ => trivial
theorem mul0 (w : World) (I : Nat → Prop) (hI : ∀ b, I b → b < w.heap.size) (n : Nat) (h : n < 4294967296) :
    Fn0 Tryz.prog 96 #[.int .u64 1, .int .u64 (n : Nat)] w I (fun _ : Unit => .tuple #[.int .u64 0, .int .u64 (n : Nat)]) (fun _ _ => True) := by
  refine enter (svs := [.c (.v (.int .u64 1)), .c (.v (.int .u64 (n : Nat)))]) tysOk Tryz.func96 rfl Tryz.ntmps96 Tryz.results96 (by kernel_rfl) (by simp) hI (fun _ => True) (fun _ _ => trivial) fun C hC hN ok => ?_
  simp [hN]
  refine call0 ok rfl rfl rfl (fun w I hI hG => mul64 w I hI n h) fun _ W _ => ?_
  simp [hN]
  exact ret0 hC () rfl fun _ _ _ => trivial
theorem ones_bC (l : List Int) : ones (bC l) := by
  induction l with
  | nil => exact trivial
  | cons x r ih => exact ⟨trivial, ih⟩
def fRep (cs : List CV) (i : Nat) : List CV := bC (List.replicate i 255) ++ cs.drop i
theorem fRep_len (cs : List CV) (i : Nat) (h : i ≤ cs.length) : (fRep cs i).length = cs.length := by simp [fRep, bC]; omega
theorem fRep_step (cs : List CV) (i k : Nat) (hk : k ≤ i) (h : i + k ≤ cs.length) : lay (fRep cs i) i ((fRep cs i).take k) = fRep cs (i + k) := by
  have h1 : (bC (List.replicate i 255)).length = i := by simp [bC]
  have h2 : (fRep cs i).take i = bC (List.replicate i 255) := by rw [fRep, List.take_left' h1]
  have h3 : (fRep cs i).take k = bC (List.replicate k 255) := by
    rw [fRep, List.take_append_of_le_length (by omega)]
    simp [bC, List.map_replicate, Nat.min_eq_left hk]
  have h4 : (fRep cs i).drop (i + k) = cs.drop (i + k) := by
    rw [fRep, List.drop_append, h1, List.drop_eq_nil_of_le (by omega), List.drop_drop, List.nil_append]
    congr 1
    omega
  have h5 : (bC (List.replicate k 255)).length = k := by simp [bC]
  rw [lay, h2, h3, h5, h4]
  simp [fRep, bC, List.map_replicate, ← List.replicate_append_replicate]
set_option maxHeartbeats 1000000 in
theorem repeat0 (w : World) (I S : Nat → Prop) (hI : ∀ b, I b → b < w.heap.size) (g0 n : Nat) (hn : 0 < n) (hn2 : n ≤ 1000000000) (hS : Owns [.row (some ⟨g0, 0, none⟩) 1 1 5 1 (bC [255])] S w) (hSI : ∀ b, S b → b < w.heap.size ∧ ¬ I b) :
    FnS Tryz.prog 54 #[.slice (some ⟨g0, 0, none⟩) 1 1, .int .i64 (n : Nat)] w I S (fun x : Nat × Nat => .slice (some ⟨x.1, 0, none⟩) n n) (fun x => [.row (some ⟨x.1, 0, none⟩) n x.2 5 1 (bC (List.replicate n 255))]) (fun _ _ => True) := by
  refine enterS (svs := [.c (.rw 1000 (some ⟨g0, 0, none⟩) 1 1), .c (.v (.int .i64 (n : Nat)))]) tysOk Tryz.func54 rfl Tryz.ntmps54 Tryz.results54 (by kernel_rfl) (by simp) hI [.row (some ⟨g0, 0, none⟩) 1 1 5 1 (bC [255])] hS hSI (fun _ => True) (fun _ _ => trivial) fun C hC hN ok => ?_
  have n0 : ¬ ((n : Nat) : Int) = 0 := by omega
  have n0' : ¬ n = 0 := by omega
  have n1 : ¬ ((n : Nat) : Int) < 0 := by omega
  have n2 : IntKind.u64.wrap ((n : Nat) : Int) = (n : Nat) := by rw [u64_wrap]; omega
  have n3 : IntKind.i64.wrap ((n : Nat) : Int) = (n : Nat) := w64 (by omega) (by omega)
  have n4 : ¬ (9223372036854775807 : Int) < (n : Nat) := by omega
  have c1 : IntKind.u64.wrap 1 = 1 := by decide
  simp [hN, n0, n0', n1, n2, c1]
  refine call0 ok rfl rfl rfl (fun w I hI hG => mul0 w I hI n (by omega)) fun _ W _ => ?_
  simp [hN, n3, n4]
  have d1 : IntKind.i64.wrap ((8192 : Int).tdiv 1) = 8192 := by decide
  have hm1 : Nat.min 1 n = 1 := Nat.min_eq_left hn
  have d2 : IntKind.i64.wrap 8192 = 8192 := by decide
  have hmn : mnB Tryz.prog 97 3 57 := ⟨_, Tryz.func97, by kernel_rfl, by kernel_rfl, by kernel_rfl, by kernel_rfl⟩
  refine ⟨fun hb => ?a, fun hb => ?b⟩
  case' a =>
    simp [hN, d1, d2]
    obtain ⟨cm, hcm⟩ : ∃ cm : Nat, cm = 8192 := ⟨_, rfl⟩
    refine tagA 8 (.c (.v (.int .i64 (cm : Nat)))) rfl (by rw [hcm]; rfl) ?_
    have hc0 : 0 < cm := by omega
  case' b =>
    obtain ⟨cm, hcm⟩ : ∃ cm : Nat, cm = n := ⟨_, rfl⟩
    refine tagA 8 (.c (.v (.int .i64 (cm : Nat)))) rfl (by rw [hcm]) ?_
    have hc0 : 0 < cm := by omega
  all_goals
    refine mkNZ ok 54 rfl rfl rfl hmn rfl rfl rfl rfl (n := n) rfl (by omega) fun g c cs hl hc => ?_
    simp [hN]
    refine slc3 ok rfl rfl rfl rfl rfl rfl rfl rfl rfl (by omega) (by omega) (by omega) ?_
    simp [hN]
    refine copyR ok 54 1000 rfl rfl rfl rfl (g := g) (n := n) (c := c) (cs := cs) (g' := g0) (n' := 1) (c' := 1) (off := 0) (soff := 0) (cs' := bC [255]) rfl rfl rfl rfl rfl rfl ?_ ?_ ?_ ?_
    · rw [hm1]; simp; omega
    · rw [hm1]; simp
    · rw [hm1]; simp [bC, ones, one]
    simp [hN, hm1]
    refine loopK [7, 9] ok (fun i : Nat => [(10, .c (.v (.int .i64 (i : Nat)))), (8, .c (.v (.int .i64 (cm : Nat))))]) (fun i => [(1000, .row (some ⟨g0, 0, none⟩) 1 1 5 1 (bC [255])), (54, .row (some ⟨g, 0, none⟩) n c 5 1 (fRep cs i))]) (fun i W => 1 ≤ i ∧ i ≤ n) (fun i => n - i) 1 ?_ ?_ (fun W hW => ⟨Nat.le_refl _, hn⟩) ?_
    · simp
    · simp [lay, fRep, bC]
    rintro i W ⟨hi1, hi⟩ hG next
    rcases Nat.lt_or_ge i n with hlt | hge
    · obtain ⟨k, hk⟩ : ∃ k : Nat, k = if cm < i then cm else i := ⟨_, rfl⟩
      have hk0 : 0 < k ∧ k ≤ i := by rw [hk]; split <;> omega
      have hni : ¬ n = i := by omega
      have k1 : (0 : Int) ≤ (k : Nat) := by omega
      have k2 : k ≤ n := by omega
      simp [hN, hlt]
      refine tagA 11 (.c (.v (.int .i64 (k : Nat)))) rfl (by rw [hk]; split <;> rfl) ?_
      refine drawW ok mixed (by kernel_rfl) ?_
      simp (maxSteps := 2000000) -implicitDefEqProofs [hN, hni, k1, k2, hi]
      obtain ⟨q, hq⟩ : ∃ q, q = Nat.min k (n - i) := ⟨_, rfl⟩
      have hq1 : 0 < q ∧ q ≤ k ∧ q ≤ n - i := by
        have h1 : q ≤ k := hq ▸ Nat.min_le_left _ _
        have h2 : q ≤ n - i := hq ▸ Nat.min_le_right _ _
        have h3 : 0 < q := by rw [hq]; exact Nat.lt_min.2 ⟨hk0.1, by omega⟩
        exact ⟨h3, h1, h2⟩
      have hfl := fRep_len cs i (by omega)
      have hst := fRep_step cs i q (by omega) (by omega)
      have e1 : IntKind.i64.wrap ((i : Int) + (q : Nat)) = (i + q : Nat) := by rw [w64 (by omega) (by omega)]; omega
      refine copyR ok 54 54 rfl rfl rfl rfl (g := g) (n := n) (c := c) (cs := fRep cs i) (g' := g) (n' := n) (c' := c) (off := i) (soff := 0) (dLen := n - i) (sLen := k) (cs' := fRep cs i) rfl rfl rfl rfl rfl rfl ?_ ?_ ?_ ?_
      · rw [← hq]; simp; omega
      · rw [← hq]; simp; omega
      · rw [← hq]
        have : ((fRep cs i).drop 0).take (q * 1) = bC (List.replicate q 255) := by
          rw [List.drop_zero, Nat.mul_one, fRep, List.take_append_of_le_length (by simp [bC]; omega)]
          simp [bC, List.map_replicate]
          omega
        rw [this]
        exact ones_bC _
      rw [← hq]
      simp (maxSteps := 2000000) -implicitDefEqProofs [hN, e1, hst]
      exact next (i + q) _ _ (by omega) (fun W h => ⟨⟨by omega, by omega⟩, by and_intros <;> trivial⟩) (by simp)
    · obtain rfl : i = n := by omega
      simp [hN]
      have hf : fRep cs i = bC (List.replicate i 255) := by rw [fRep, List.drop_eq_nil_of_le (by omega), List.append_nil]
      rw [hf]
      exact retS hC (g, c) [54] rfl (by simp) fun _ _ _ => trivial
end Go.Proofs.YtbbaoeidobdblaaGreat.Sx

/- nor.New. -/
set_option linter.unusedVariables false
set_option linter.unusedSimpArgs false
namespace Go.Proofs.YtbbaoeidobdblaaGreat.Sx
open Go
attribute [local simp ↓] ifb_true' ifb_false'
attribute [local simp] ifb_true ifb_false ifb_eq sx argsT find ev evOp evs evo evBin evInt evStr evNil evNilA ptrA slcA isNoneA asB evLoad look del cellsB evUn evConv kdec fld evFieldA evField evIdxA evIdx evSlc bndL bndH evLen mmi put resV guardV gvL setO tupV cellsOf ones one upd lits nv exitTo SV.val CV.val TI.agg rdyA allR keepB scan simpO gsp isS subs keepT pickT wr memN pubs Res.fact Region.binds bld rest give delL back Res.eqv vi vb num Sv.val undef
/-- A new chip: where its parts stand; the power it hangs on. -/
def newCp (g : Geo) (gp : Nat) (p : Pw) (fl : Value) (x : Nat × Nat × Nat × Nat) (n : Nat) : Cp := ⟨g, x.1, gp, x.2.1, x.2.2.1, n, x.2.2.2, p, fl, List.replicate n 255, []⟩
set_option maxHeartbeats 1000000 in
theorem norNew0 (w : World) (I : Nat → Prop) (hI : ∀ b, I b → b < w.heap.size) (g : Geo) (gp n : Nat) (p : Pw) (fl : Value) (hg : g.right) (hn : g.sectors * g.sector = (n : Nat)) (h0 : 0 < n) (hn2 : n ≤ 100000) :
    FnS Tryz.prog 12 #[.agg (geoC g).toArray, ptrV gp] w I noS (fun x : Nat × Nat × Nat × Nat => .tuple #[ptrV x.1, .int .i64 0]) (fun x => [(newCp g gp p fl x n).chip, (newCp g gp p fl x n).row, (newCp g gp p fl x n).map]) (fun _ _ => True) := by
  refine enterS (svs := [.ag ((geoC g).map .v), .c (.v (ptrV gp))]) tysOk Tryz.func12 rfl Tryz.ntmps12 Tryz.results12 (by kernel_rfl) (by simp) hI [] (owns_nil w) (fun b hb => hb.elim) (fun _ => True) (fun _ _ => trivial) fun C hC hN ok => ?_
  simp [hN]
  intro g1
  refine call0 ok rfl rfl rfl (fun w I hI hG => norRight0 w I hI g) fun y W hy => ?_
  rw [decide_eq_true hg] at hy
  subst hy
  simp [hN]
  have e1 : IntKind.i64.wrap (g.sectors * g.sector) = (n : Nat) := by rw [hn, w64 (by omega) (by omega)]
  refine drawK ok mixed (by kernel_rfl) ?_
  simp (maxSteps := 2000000) -implicitDefEqProofs [hN, e1]
  and_intros
  · intro gr
    and_intros
    · refine callS ok rfl rfl rfl [11] [.row (some ⟨gr, 0, none⟩) 1 1 5 1 (bC [255])] (by simp [bC]) rfl (fun x : Nat × Nat => [(600, .row (some ⟨x.1, 0, none⟩) n x.2 5 1 (bC (List.replicate n 255)))]) (fun w I S hI hG hO hS' => repeat0 w I S hI gr n h0 (by omega) hO hS') (fun r => by simp) (.inl fun k hk => by simp at hk; omega) fun x W _ => ?_
      simp (maxSteps := 2000000) -implicitDefEqProofs [hN]
      refine mapMk ok rfl rfl kv1 fun gm => ?_
      simp (maxSteps := 2000000) -implicitDefEqProofs [hN]
      intro gc
      exact retS hC (gc, x.1, gm, x.2) [20, 600, 18] rfl (by simp [newCp, Cp.map, mapR, Mx.mv]) fun _ _ _ => trivial
    · refine mapMk ok rfl rfl kv1 fun gm => ?_
      simp (maxSteps := 2000000) -implicitDefEqProofs [hN, e1]
      refine callS ok rfl rfl rfl [11] [.row (some ⟨gr, 0, none⟩) 1 1 5 1 (bC [255])] (by simp [bC]) rfl (fun x : Nat × Nat => [(600, .row (some ⟨x.1, 0, none⟩) n x.2 5 1 (bC (List.replicate n 255)))]) (fun w I S hI hG hO hS' => repeat0 w I S hI gr n h0 (by omega) hO hS') (fun r => by simp) (.inl fun k hk => by simp at hk; omega) fun x W _ => ?_
      simp (maxSteps := 2000000) -implicitDefEqProofs [hN]
      intro gc
      exact retS hC (gc, x.1, gm, x.2) [20, 600, 18] rfl (by simp [newCp, Cp.map, mapR, Mx.mv]) fun _ _ _ => trivial
  · refine mapMk ok rfl rfl kv1 fun gm => ?_
    simp (maxSteps := 2000000) -implicitDefEqProofs [hN, e1]
    intro gr
    refine callS ok rfl rfl rfl [11] [.row (some ⟨gr, 0, none⟩) 1 1 5 1 (bC [255])] (by simp [bC]) rfl (fun x : Nat × Nat => [(600, .row (some ⟨x.1, 0, none⟩) n x.2 5 1 (bC (List.replicate n 255)))]) (fun w I S hI hG hO hS' => repeat0 w I S hI gr n h0 (by omega) hO hS') (fun r => by simp) (.inl fun k hk => by simp at hk; omega) fun x W _ => ?_
    simp (maxSteps := 2000000) -implicitDefEqProofs [hN]
    intro gc
    exact retS hC (gc, x.1, gm, x.2) [20, 600, 18] rfl (by simp [newCp, Cp.map, mapR, Mx.mv]) fun _ _ _ => trivial
end Go.Proofs.YtbbaoeidobdblaaGreat.Sx

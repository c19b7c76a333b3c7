/- Laid together: Sk58, Sp7, Sk59, Sk60, Sk61, Sp8, Sp9, Sp10, Sp11, Sk62, Rowl, Sxq, Sk64, Sk65, Sxr, Sk67, Sk68, Sk69, Sp12, Sp13. -/
import Derived.Test.YtbbaoeidobdblaaGreatJI5
import Derived.WalkKit
import Derived.ProofKit
import Derived.OpenShut
import Derived.ShutString
import Derived.ChangeOld
import Derived.Below
import Derived.Lib.SmallJoins
import Derived.Lib.AppendStr
/- journal.read. -/
set_option linter.unusedVariables false
set_option linter.unusedSimpArgs false
namespace Go.Proofs.YtbbaoeidobdblaaGreat.Sx
open Go
attribute [local simp ↓] ifb_true' ifb_false'
attribute [local simp] ifb_true ifb_false ifb_eq sx argsT find ev evOp evs evo evBin evInt evStr evNil evNilA ptrA slcA isNoneA asB evLoad look del cellsB evUn evConv kdec fld evFieldA evField evIdxA evIdx evSlc bndL bndH evLen mmi put resV guardV gvL setO tupV cellsOf ones one upd lits nv exitTo SV.val CV.val TI.agg rdyA allR keepB scan simpO gsp isS subs keepT pickT wr memN pubs Res.fact Region.binds bld rest give delL back Res.eqv vi vb num Sv.val undef
def staZ : Sta := ⟨0, [], []⟩
/-- What records lead to: the state, and how many bytes that took. -/
noncomputable def goP : Sta → Nat → List (List Int × Nat) → Sta × Nat
  | s, u, [] => (s, u)
  | s, u, (y, k) :: r => if (parseM y).2 ≠ 0 then (s, u) else goP (applyL s (parseM y).1) (u + (k + 7)) r
def totP : List (List Int × Nat) → Nat
  | [] => 0
  | (y, k) :: r => k + 7 + totP r
/-- The records, the first one without its epoch. -/
def recL (l : List (List Int)) : List (List Int × Nat) := match l with | [] => [] | x :: r => (x.drop 8, x.length) :: r.map fun y => (y, y.length)
/-- What a half tells: its epoch (0: it does not count), the state, how many bytes that took, and whether more stands behind. -/
structure Fnd where
  ep : Int
  used : Nat
  s : Sta
  more : Bool
def fndZ : Fnd := ⟨0, 0, staZ, false⟩
def epOf (x : List Int) : Int := IntKind.i64.wrap (getM x 0 8).1
noncomputable def readM (b : List Int) : Fnd :=
  match (scanM b).1 with
  | [] => fndZ
  | x :: r =>
    if (getM x 0 8).2 ≠ 0 ∨ epOf x ≤ 0 ∨ 2147483647 < epOf x then fndZ
    else if (parseM (x.drop 8)).2 ≠ 0 then fndZ
    else ⟨epOf x, (goP staZ 0 (recL (x :: r))).2, (goP staZ 0 (recL (x :: r))).1, !(scanM b).2.2 || decide ((goP staZ 0 (recL (x :: r))).2 < (scanM b).2.1)⟩
theorem parseN_len (l : List Int) : ∀ (f o : Nat), (parseN l f o).1.length ≤ l.length - o
  | 0, o => Nat.zero_le _
  | f + 1, o => by
    rw [parseN]
    split
    · exact Nat.zero_le _
    · split
      · exact Nat.zero_le _
      · split
        · exact Nat.zero_le _
        · rename_i h1 h2 h3
          have h4 := deeR_le (l := l) (o := o) (by simpa using h2)
          have ih := parseN_len l f (deeR l o).2.1
          simp only [List.length_cons]
          omega
theorem parse_len (l : List Int) : (parseM l).1.length ≤ l.length := parseN_len l _ 0
theorem scanN_tot (b : List Int) : ∀ (f o : Nat), o ≤ b.length → (scanN b f o).2 ≤ b.length ∧ o + totP ((scanN b f o).1.map fun y => (y, y.length)) = (scanN b f o).2 ∧ ∀ x, x ∈ (scanN b f o).1 → x.length ≤ 65000 ∧ ((∀ y, y ∈ b → 0 ≤ y ∧ y ≤ 255) → ∀ y, y ∈ x → 0 ≤ y ∧ y ≤ 255)
  | 0, o, h => ⟨h, rfl, fun x hx => by cases hx⟩
  | f + 1, o, h => by
    rw [scanN]
    cases hn : nextM (b.drop o) with
    | none => exact ⟨h, rfl, fun x hx => by cases hx⟩
    | some x =>
      have h1 := nextM_le hn
      rw [List.length_drop] at h1
      obtain ⟨i1, i2, i3⟩ := scanN_tot b f (o + (x.length + 7)) (by omega)
      refine ⟨i1, ?_, fun z hz => ?_⟩
      · simp only [List.map_cons, totP]
        omega
      · rcases List.mem_cons.1 hz with rfl | hz
        · exact ⟨h1.2, fun hb => nextM_byte hn fun y hy => hb y (List.mem_of_mem_drop hy)⟩
        · exact i3 z hz
theorem recL_tot (l : List (List Int)) : totP (recL l) = totP (l.map fun y => (y, y.length)) := by cases l <;> rfl
theorem recL_length (l : List (List Int)) : (recL l).length = l.length := by cases l <;> simp [recL]
theorem recL_get {l : List (List Int)} {i : Nat} (h : i < l.length) : (recL l)[i]? = some (if i = 0 then l[i].drop 8 else l[i], l[i].length) := by
  cases l with
  | nil => exact absurd h (Nat.not_lt_zero _)
  | cons x r =>
    cases i with
    | zero => rfl
    | succ i =>
      have h2 : i < r.length := by simpa using h
      simp [recL, h2]
abbrev fndC (ep : Int) (u : Nat) (s : Sta) (si sb : Sl) (m : Bool) : List Value := [.int .i64 ep, .int .i64 (u : Nat), .int .i64 s.next, .slice si.1 s.inos.length si.2, .slice sb.1 s.bad.length sb.2, .bool m]
set_option maxRecDepth 10000 in
set_option maxHeartbeats 2000000 in
theorem read0 (w : World) (I : Nat → Prop) (hI : ∀ b, I b → b < w.heap.size) {a : Option Addr} {n c : Nat} (xs : List Int) (hx10 : xs.length ≤ 100000000) (h : ∀ W, Ext I w W → Sv.ok dByte W (a, n, c) xs) (hb : ∀ x, x ∈ xs → 0 ≤ x ∧ x ≤ 255) :
    Fn0 Tryz.prog 74 #[.slice a n c] w I (fun y : Sl × Sl => .agg (fndC (readM xs).ep (readM xs).used (readM xs).s y.1 y.2 (readM xs).more).toArray) (fun y W => StaR W (readM xs).s y.1 y.2) := by
  refine enter (svs := [.c (.v (.slice a n c))]) tysOk Tryz.func74 rfl Tryz.ntmps74 Tryz.results74 (by kernel_rfl) (by simp) hI (fun W => Sv.ok dByte W (a, n, c) xs) h fun C hC hN ok => ?_
  simp [hN]
  intro g2
  refine call0 ok rfl rfl rfl (fun w I hI hG => scan0 w I hI (a := a) (n := n) (c := c) xs (by omega) (fun W e => (hG W e)) hb) fun y W hy => ?_
  have hM := readM.eq_1 xs
  have hT := scanN_tot xs xs.length 0 (Nat.zero_le _)
  have hT' : (scanM xs).2.1 ≤ xs.length ∧ totP ((scanM xs).1.map fun y => (y, y.length)) = (scanM xs).2.1 ∧ ∀ x, x ∈ (scanM xs).1 → x.length ≤ 65000 ∧ ((∀ y, y ∈ xs → 0 ≤ y ∧ y ≤ 255) → ∀ y, y ∈ x → 0 ≤ y ∧ y ≤ 255) := ⟨hT.1, by have := hT.2.1; rw [Nat.zero_add] at this; exact this, hT.2.2⟩
  clear hT
  generalize scanM xs = S at hM hT' hy ⊢
  obtain ⟨L, at_, cl⟩ := S
  simp only at hM hT' hy ⊢
  obtain ⟨t1, t2, t3⟩ := hT'
  have zero_ok : ∀ m, readM xs = fndZ → RetP C (.agg (fndC 0 0 staZ (none, 0) (none, 0) false).toArray) m := fun m hz => by
    rw [hz] at hC
    exact ret0 hC ((none, 0), (none, 0)) rfl fun W _ _ => ⟨⟨Nat.zero_le _, Nat.zero_le _, rd_nil _ _ _⟩, ⟨Nat.zero_le _, Nat.zero_le _, rd_nil _ _ _⟩⟩
  have hld : ∀ (i : Nat) (hlt : i < L.length) (W : World), Sl.ok dBs W y L → ∃ b off, y.1 = some ⟨b, off, none⟩ ∧ ∃ v, W.cell? ⟨b, off + i, none⟩ = some v ∧ slQ dByte L[i] v W := fun i hlt W hW => by
    obtain ⟨b, off, e⟩ := hW.2.2.is_some (show 0 < L.length by omega)
    obtain ⟨ya, yc⟩ := y
    cases e
    obtain ⟨cs, ⟨s, rfl, hs⟩, _, hc⟩ := hW.2.2.get hlt
    exact ⟨b, off, rfl, _, by simpa [dBs] using hc 0 _ rfl, s, rfl, hs⟩
  obtain ⟨ya, yc⟩ := y
  rcases Nat.eq_zero_or_pos L.length with h0 | hpos
  · have : L = [] := List.length_eq_zero_iff.1 h0
    subst this
    simp only at hM
    simp [hN]
    exact zero_ok _ hM
  obtain ⟨b, off, e, _⟩ := hld 0 hpos W hy
  cases e
  have hld' : ∀ (i : Nat) (hlt : i < L.length) (W : World), Sl.ok dBs W (some ⟨b, off, none⟩, yc) L → ∃ v, W.cell? ⟨b, off + i, none⟩ = some v ∧ slQ dByte L[i] v W := fun i hlt W hW => by
    obtain ⟨b', off', e, hv⟩ := hld i hlt W hW
    cases e
    exact hv
  have hne : ¬ (L.length : Int) = 0 := by omega
  have hne' : ¬ L = [] := fun h => by rw [h] at hpos; cases hpos
  obtain ⟨x0, r, hL⟩ : ∃ x r, L = x :: r := by
    cases L with
    | nil => exact absurd rfl hne'
    | cons x r => exact ⟨x, r, rfl⟩
  have h00 : L[0] = x0 := by simp [hL]
  have hx0 := t3 x0 (by rw [hL]; exact List.mem_cons_self)
  rw [hL] at hM
  simp only at hM
  rw [← hL] at hM
  simp [hN, hne, hne', hpos]
  refine load1 ok rfl rfl rfl rfl (slQ dByte x0) (fun W hW => by have := hld' 0 hpos W hW.1; rw [h00] at this; simpa using this) ?_
  rintro v W ⟨sv, rfl, hsv⟩ _
  simp [hN]
  refine call0 ok rfl rfl rfl (fun w I hI hG => getInt0 w I hI (a := sv.1) (n := x0.length) (c := sv.2) x0 (fun W e => ⟨rfl, (hG W e).1.get.2⟩) (hx0.2 hb) 0 (by omega)) fun _ W _ => ?_
  rw [show IntKind.i64.wrap (getM x0 0 8).1 = epOf x0 from rfl]
  have hlen8 : (getM x0 0 8).2 = 0 → 8 ≤ x0.length := fun h => by
    unfold getM at h
    split at h
    · cases h
    · omega
  generalize epOf x0 = ep at hM ⊢
  generalize (getM x0 0 8).2 = ee at hM hlen8 ⊢
  by_cases hbad : ee ≠ 0 ∨ ep ≤ 0 ∨ 2147483647 < ep
  · rw [if_pos hbad] at hM
    by_cases c1 : ee = 0
    · by_cases c2 : ep ≤ 0
      · simp [hN, c1, c2]
        exact zero_ok _ hM
      · have c3 : 2147483647 < ep := by
          rcases hbad with h | h | h
          · exact absurd c1 h
          · exact absurd h c2
          · exact h
        simp [hN, c1, c2, c3]
        exact zero_ok _ hM
    · simp [hN, c1]
      exact zero_ok _ hM
  rw [if_neg hbad] at hM
  have c1 : ee = 0 := Classical.byContradiction fun h => hbad (.inl h)
  have c2 : ¬ ep ≤ 0 := fun h => hbad (.inr (.inl h))
  have c3 : ¬ 2147483647 < ep := fun h => hbad (.inr (.inr h))
  subst c1
  replace hlen8 := hlen8 rfl
  simp [hN, c2, c3]
  intro g8
  have hrl := recL_length L
  have hLb : L.length ≤ 100000000000 := hy.2.1
  refine loopK [2, 4, 5, 8, 44, 45] ok (fun y : Nat × Sta × Nat × Sl × Sl => [(46, .c (.v (.int .i64 (y.1 : Nat))))]) (fun y => [(2, .box g2 124 [.v (.int .i64 0), .v (.int .i64 0), .v (.int .i64 0), .v (.slice none 0 0), .v (.slice none 0 0), .v (.bool false)]), (8, .box g8 124 [.v (.int .i64 ep), .v (.int .i64 (y.2.2.1 : Nat)), .v (.int .i64 y.2.1.next), .v (.slice y.2.2.2.1.1 y.2.1.inos.length y.2.2.2.1.2), .v (.slice y.2.2.2.2.1 y.2.1.bad.length y.2.2.2.2.2), .v (.bool false)])]) (fun y W => y.1 ≤ L.length ∧ StaR W y.2.1 y.2.2.2.1 y.2.2.2.2 ∧ y.2.1.inos.length ≤ y.2.2.1 ∧ y.2.1.bad.length ≤ y.2.2.1 ∧ y.2.2.1 + totP ((recL L).drop y.1) = at_ ∧ (y.1 = 0 → y.2.1 = staZ ∧ y.2.2.1 = 0) ∧ (0 < y.1 → (parseM (x0.drop 8)).2 = 0) ∧ goP staZ 0 (recL L) = goP y.2.1 y.2.2.1 ((recL L).drop y.1)) (fun y => L.length - y.1) (0, staZ, 0, (none, 0), (none, 0)) ?_ ?_ (fun W hW => ⟨Nat.zero_le _, ⟨⟨Nat.zero_le _, Nat.zero_le _, rd_nil _ _ _⟩, ⟨Nat.zero_le _, Nat.zero_le _, rd_nil _ _ _⟩⟩, Nat.le_refl _, Nat.le_refl _, by rw [List.drop_zero, recL_tot, t2]; exact Nat.zero_add _, fun _ => ⟨rfl, rfl⟩, fun h => absurd h (Nat.lt_irrefl _), by rw [List.drop_zero]⟩) ?_
  · simp
  · simp [staZ]
  rintro ⟨i, s, u, si, sb⟩ W ⟨hi, hS, hu1, hu2, hut, hi0, hi1, hgo⟩ hG next
  simp only at hi hS hu1 hu2 hut hi0 hi1 hgo
  have fin_ok : ∀ m : Mem, goP staZ 0 (recL L) = (s, u) → (parseM (x0.drop 8)).2 = 0 → (∀ W, m.G W → StaR W s si sb) → RetP C (.agg (fndC ep u s si sb (!cl || decide (u < at_))).toArray) m := fun m hg hp hs => by
    rw [if_neg (by simp [hp]), hg] at hM
    rw [hM] at hC
    exact ret0 hC (si, sb) rfl fun W _ hG => hs W hG
  rcases Nat.lt_or_ge i L.length with hlt | hge
  · have hD : (recL L).drop i = (if i = 0 then L[i].drop 8 else L[i], L[i].length) :: (recL L).drop (i + 1) := by
      have h1 := recL_get hlt
      have h2 : i < (recL L).length := by rw [hrl]; exact hlt
      rw [List.drop_eq_getElem_cons h2]
      rw [List.getElem?_eq_getElem h2] at h1
      rw [Option.some.inj h1]
    have hz := t3 _ (List.getElem_mem hlt)
    have hz0 : i = 0 → L[i] = x0 := fun h => by subst h; exact h00
    have hldi := hld' i hlt
    simp [hN, hlt]
    refine load1 ok rfl rfl rfl rfl (slQ dByte L[i]) (fun W hW => hldi W hW.2.2.1) ?_
    generalize L[i] = z at hD hz hz0 hldi
    rintro v W ⟨sz, rfl, hsz⟩ _
    obtain ⟨y, hy'⟩ : ∃ y, y = (if i = 0 then z.drop 8 else z) := ⟨_, rfl⟩
    rw [← hy'] at hD
    have hyl : y.length ≤ z.length := by rw [hy']; split <;> simp
    have hyb : ∀ x, x ∈ y → 0 ≤ x ∧ x ≤ 255 := fun x hx => by
      rw [hy'] at hx
      split at hx
      · exact hz.2 hb x (List.mem_of_mem_drop hx)
      · exact hz.2 hb x hx
    rw [hD] at hut hgo
    have e6 : IntKind.i64.wrap ((i : Int) + 1) = (i + 1 : Nat) := by rw [w64 (by omega) (by omega)]; omega
    refine cutKb ok (p := ?pos) (fun q : Sl => [(57, .c (.v (.slice q.1 y.length q.2))), (10, .c (.v (.slice sz.1 z.length sz.2))), (9, .c (.v (.int .i64 (i : Nat)))), (46, .c (.v (.int .i64 (i : Nat)))), (45, .c (.v (.int .i64 (L.length : Nat)))), (44, .c (.v (.slice (some ⟨b, off, none⟩) L.length yc))), (8, .c (.bp 8 g8 0)), (5, .c (.v (.bool cl))), (4, .c (.v (.int .i64 (at_ : Nat)))), (2, .c (.bp 2 g2 0))]) (fun q W => StaR W s si sb ∧ Sl.ok dByte W q y ∧ (slQ dByte x0 (.slice sv.1 x0.length sv.2) W ∧ Sl.ok dBs W (some ⟨b, off, none⟩, yc) L ∧ Sv.ok dByte W (a, n, c) xs)) [(2, .box g2 124 [.v (.int .i64 0), .v (.int .i64 0), .v (.int .i64 0), .v (.slice none 0 0), .v (.slice none 0 0), .v (.bool false)]), (8, .box g8 124 [.v (.int .i64 ep), .v (.int .i64 (u : Nat)), .v (.int .i64 s.next), .v (.slice si.1 s.inos.length si.2), .v (.slice sb.1 s.bad.length sb.2), .v (.bool false)])] ?rest fun R => ?main
    case main =>
      by_cases h0 : i = 0
      · subst h0
        have hz8 : 8 ≤ z.length := by rw [hz0 rfl]; exact hlen8
        rw [if_pos rfl] at hy'
        have hyl2 : z.length - 8 = y.length := by rw [hy', List.length_drop]
        have hzc : z.length ≤ sz.2 := hsz.1
        have hc8 : (8 : Int) ≤ (z.length : Nat) := by omega
        simp [hN, hc8, hyl2, hzc]
        refine R (if sz.2 = 8 then sz.1 else addrP sz.1 8, sz.2 - 8) _ _ ?_ ?_
        · intro W hW
          refine ⟨hW.2.1.1, ?_, hW.2.2⟩
          have h1 : Sv.ok dByte W (sz.1, z.length, sz.2) z := ⟨rfl, hW.1.get.2⟩
          have h2 := (Sv.drop h1 hz8).2
          rw [← hy'] at h2
          simpa [dByte, flat] using h2
        · simp
      · rw [if_neg h0] at hy'
        subst hy'
        simp [hN, h0]
        refine R sz _ _ ?_ ?_
        · exact fun W hW => ⟨hW.2.1.2.1, hW.1.get.2, hW.2.2⟩
        · simp
    case rest =>
      rintro ⟨qa, qc⟩
      simp [hN]
      have hpl := parse_len y
      refine call0 ok rfl rfl rfl (fun w I hI hG => parse0 w I hI (a := qa) (n := y.length) (c := qc) y (by omega) (fun W e => ⟨rfl, (hG W e).2.1⟩) hyb) fun sd W hsd => ?_
      by_cases he : (parseM y).2 = 0
      · have hpe : (parseM (x0.drop 8)).2 = 0 := by
          by_cases h0 : i = 0
          · rw [if_pos h0, hz0 h0] at hy'
            rw [← hy']
            exact he
          · exact hi1 (by omega)
        have hal := applyL_len s (parseM y).1
        rw [goP, if_neg (by simp [he])] at hgo
        generalize parseM y = P at he hgo hpl hal ⊢
        obtain ⟨ds, er⟩ := P
        simp only at he hgo hpl hal
        subst he
        simp [hN]
        refine call0 ok rfl rfl rfl (fun w I hI hG => apply0 w I hI s si sb (a := sd.1) (n := ds.length) (c := sd.2) ds (fun W e => (hG W e).2.1) (fun W e => ⟨rfl, (hG W e).1⟩) (by simp only [totP] at hut; omega)) fun q W hq => ?_
        simp [hN]
        simp only [totP] at hut
        obtain ⟨u2, hu2'⟩ : ∃ u2, u2 = u + (z.length + 7) := ⟨_, rfl⟩
        have e8 : IntKind.i64.wrap ((u : Int) + ((z.length : Int) + 7)) = (u2 : Nat) := by rw [w64 (by omega) (by omega)]; omega
        refine drawW ok mixed (by kernel_rfl) ?_
        simp (maxSteps := 2000000) -implicitDefEqProofs [hN]
        and_intros
        all_goals
          refine call0 ok rfl rfl rfl (fun w I hI hG => frameSize0 w I hI (z.length : Nat) (by omega) (by omega)) fun v W hv => ?_
          subst hv
          simp (maxSteps := 2000000) -implicitDefEqProofs [hN, e6, e8]
          refine next (i + 1, applyL s ds, u2, q.1, q.2) _ _ (by simp only; omega) (fun W hW => ⟨⟨hlt, hW.1, by simp only; omega, by simp only; omega, by simp only; omega, (fun h => absurd h (Nat.succ_ne_zero _)), (fun _ => hpe), by rw [hgo, hu2']⟩, hW.2.2.2.2⟩) ?_
          simp
      · have hg : goP staZ 0 (recL L) = (s, u) := by rw [hgo, goP, if_pos he]
        have hF := fun hp m hm => fin_ok m hg hp hm
        by_cases h0 : i = 0
        · rw [if_pos h0, hz0 h0] at hy'
          rw [← hy', if_pos he] at hM
          subst h0
          simp [hN, he]
          exact zero_ok _ hM
        · have hp := hi1 (by omega)
          cases cl
          all_goals
            simp [hN, he, h0]
            refine hF hp _ ?_
            exact fun W hW => hW.2.1
  · obtain rfl : i = L.length := by omega
    have hg : goP staZ 0 (recL L) = (s, u) := by rw [hgo, List.drop_eq_nil_of_le (by rw [hrl]; exact Nat.le_refl _)]; rfl
    have hF := fun m hm => fin_ok m hg (hi1 hpos) hm
    cases cl
    all_goals
      simp [hN]
      refine hF _ ?_
      exact fun W hW => hW.1.1
end Go.Proofs.YtbbaoeidobdblaaGreat.Sx

/- Plain: how large states are that are read from bytes. -/
set_option linter.unusedVariables false
set_option linter.unusedSimpArgs false
namespace Go.Proofs.YtbbaoeidobdblaaGreat.Sx
open Go
def sumN (l : List Nat) : Nat := l.foldr (· + ·) 0
@[simp] theorem sumN_nil : sumN [] = 0 := rfl
@[simp] theorem sumN_cons (x : Nat) (l : List Nat) : sumN (x :: l) = x + sumN l := rfl
theorem sumN_app (l k : List Nat) : sumN (l ++ k) = sumN l + sumN k := by
  induction l with
  | nil => simp
  | cons x r ih => simp [ih]; omega
theorem sumN_filter {α : Type} (p : α → Bool) (f : α → Nat) (l : List α) : sumN ((l.filter p).map f) ≤ sumN (l.map f) := by
  induction l with
  | nil => exact Nat.le_refl _
  | cons x r ih =>
    rw [List.filter_cons]
    split <;> simp only [List.map_cons, sumN_cons] <;> omega
theorem fmB_len {α : Type} (f : α → List Int) (l : List α) : (l.flatMap f).length = sumN (l.map fun x => (f x).length) := by
  induction l with
  | nil => rfl
  | cons x r ih => simp [ih]
def wI (x : Ino) : Nat := (deedB ⟨2, 0, x⟩).length
theorem wI_eq (x : Ino) : wI x = 45 + x.target.size + (x.ents.flatMap entB).length + (x.runs.flatMap runB).length := by
  have : tailB ⟨2, 0, x⟩ = inoB x := by unfold tailB; rw [if_neg (by simp), if_pos rfl]
  rw [wI, deedB, List.length_append, lowB_length, this, inoB_length]
  omega
/-- The bytes of a state, less those of its number. -/
def wS (s : Sta) : Nat := sumN (s.inos.map wI) + 9 * s.bad.length
theorem num_len (k n : Int) (i : Ino) (h : k = 1 ∨ k = 3 ∨ k = 4) : (deedB ⟨k, n, i⟩).length = 9 := by
  have : tailB ⟨k, n, i⟩ = intB n := by unfold tailB; rw [if_pos h]
  rw [deedB, List.length_append, lowB_length, this, intB_length]
theorem put_len {d : Dee} (h : d.kind = 2) : (deedB d).length = wI d.ino := by
  have : tailB d = inoB d.ino := by unfold tailB; rw [if_neg (by rw [h]; decide), if_pos h]
  rw [deedB, List.length_append, lowB_length, this, wI_eq, inoB_length]
  omega
theorem deeds_len (l : List Dee) : (deedsB l).length = sumN (l.map fun d => (deedB d).length) := fmB_len deedB l
theorem whole_w (s : Sta) : wholeB s = 9 + wS s := by
  rw [wholeB, deeds_len, wholeL, List.map_append, sumN_app, List.map_cons, sumN_cons, num_len 1 _ _ (.inl rfl), List.map_map, List.map_map, wS]
  have h1 : sumN (s.bad.map ((fun d => (deedB d).length) ∘ fun n => (⟨4, n, inoZ⟩ : Dee))) = 9 * s.bad.length := by
    induction s.bad with
    | nil => rfl
    | cons x r ih =>
      rw [List.map_cons, sumN_cons, ih]
      simp only [Function.comp]
      rw [num_len 4 _ _ (.inr (.inr rfl)), List.length_cons]
      omega
  rw [h1]
  have h2 : s.inos.map ((fun d => (deedB d).length) ∘ fun x => (⟨2, 0, x⟩ : Dee)) = s.inos.map wI := rfl
  rw [h2]
  omega
theorem count_w (s : Sta) : s.inos.length + s.bad.length ≤ wS s := by
  have : ∀ l : List Ino, l.length ≤ sumN (l.map wI) := by
    intro l
    induction l with
    | nil => exact Nat.le_refl _
    | cons x r ih =>
      have := wI_eq x
      simp only [List.length_cons, List.map_cons, sumN_cons]
      omega
  have h := this s.inos
  unfold wS
  omega
theorem putI_w (l : List Ino) (x : Ino) : sumN ((putInoL l x).map wI) ≤ sumN (l.map wI) + wI x := by
  have h1 : ∀ l : List Ino, sumN ((replI l x).map wI) ≤ sumN (l.map wI) + wI x := by
    intro l
    induction l with
    | nil => exact Nat.zero_le _
    | cons y r ih =>
      unfold replI
      split <;> simp only [List.map_cons, sumN_cons] <;> omega
  have h2 : ∀ l : List Ino, sumN ((insI l x).map wI) ≤ sumN (l.map wI) + wI x := by
    intro l
    induction l with
    | nil => simp [insI]
    | cons y r ih =>
      unfold insI
      split <;> simp only [List.map_cons, sumN_cons] <;> omega
  unfold putInoL
  split
  · exact h1 l
  · exact h2 l
theorem applyOne_w (s : Sta) (d : Dee) : wS (applyOne s d) ≤ wS s + (deedB d).length := by
  unfold applyOne
  split
  · exact Nat.le_add_right _ _
  · split
    · rename_i h
      have := putI_w s.inos d.ino
      rw [put_len h]
      simp only [wS]
      omega
    · split
      · have := sumN_filter (fun x : Ino => decide (x.no ≠ d.no)) wI s.inos
        simp only [wS]
        omega
      · split
        · rename_i h
          have := addBadL_len s.bad d.no
          obtain ⟨k, n, i⟩ := d
          simp only at h this ⊢
          rw [num_len _ _ _ (.inr (.inr h))]
          simp only [wS]
          omega
        · exact Nat.le_add_right _ _
theorem applyL_w (s : Sta) (l : List Dee) : wS (applyL s l) ≤ wS s + (deedsB l).length := by
  induction l generalizing s with
  | nil => exact Nat.le_add_right _ _
  | cons d r ih =>
    have h1 := ih (applyOne s d)
    have h2 := applyOne_w s d
    rw [deeds_len] at h1 ⊢
    simp only [applyL, List.foldl_cons, List.map_cons, sumN_cons] at h1 ⊢
    omega
theorem text_w {l : List Int} {r : Rs} (h : (textR l r).2.2 = 0) : r.1 + 4 + (textR l r).1.size ≤ (textR l r).2.1 := by
  have h0 := textR_back h
  unfold textR at h ⊢
  rw [if_neg (by simp [h0])] at h ⊢
  split at h
  · cases h
  · rename_i h3
    rw [if_neg h3]
    split at h
    · cases h
    · rename_i h4
      rw [if_neg h4]
      simp only
      have : (txtOf (List.take (valB ((l.drop r.1).take 4)).toNat (l.drop (r.1 + 4)))).size = (List.take (valB ((l.drop r.1).take 4)).toNat (l.drop (r.1 + 4))).length := by simp [txtOf, ByteArray.size]
      rw [this, List.length_take]
      omega
theorem ent_w {l : List Int} {r : Rs} (h : (entR l r).2.2 = 0) : (entB (entR l r).1).length + r.1 ≤ (entR l r).2.1 := by
  have h1 := intR_le (r := (textR l r).2) h
  have h2 := text_w h1.1
  have h3 : (entR l r).2.1 = (intR l (textR l r).2).2.1 := rfl
  have h4 : (entR l r).1.name = (textR l r).1 := rfl
  rw [entB, List.length_append, textB_length, intB_length, h4]
  omega
theorem rn_w {l : List Int} {r : Rs} (h : (rnR l r).2.2 = 0) : (runB (rnR l r).1).length + r.1 ≤ (rnR l r).2.1 := by
  have h1 := intR_le (r := (intR l (intR l r).2).2) h
  have h2 := intR_le (r := (intR l r).2) h1.1
  have h3 := intR_le h2.1
  have h4 : (rnR l r).2.1 = (intR l (intR l (intR l r).2).2).2.1 := rfl
  rw [runB, List.length_append, List.length_append, intB_length, intB_length, intB_length]
  omega
theorem many_w {α : Type} (f : Rs → α × Rs) (g : α → Nat) (hf : ∀ r, (f r).2.2 = 0 → g (f r).1 + r.1 ≤ (f r).2.1) : ∀ (n : Nat) (r : Rs), (manyR f n r).2.2 = 0 → sumN ((manyR f n r).1.map g) + r.1 ≤ (manyR f n r).2.1
  | 0, r, h => by simp [manyR]
  | n + 1, r, h => by
    have h0 := many_back h
    unfold manyR at h ⊢
    rw [if_neg (by simp [h0])] at h ⊢
    have ih := many_w f g hf n (f r).2 h
    have h1 := hf r (many_back h)
    simp only [List.map_cons, sumN_cons]
    omega
theorem ino_w {l : List Int} {r : Rs} (h : (inoR l r).2.2 = 0) : wI (inoR l r).1 + r.1 ≤ (inoR l r).2.1 + 1 := by
  have hU : (inoU l r).2.2 = 0 := h
  have hM : (inoM l r).2.2 = 0 := many_back hU
  have hE : (inoE l r).2.2 = 0 := getR_back hM
  have hN : (inoN l r).2.2 = 0 := many_back hE
  have hA : (inoA l r).2.2 = 0 := getR_back hN
  have e4 := textR_back hA
  have l4 : (nthR l r 4).1 = r.1 + 32 := by
    have k3 := intR_le (r := nthR l r 3) e4
    have k2 := intR_le (r := nthR l r 2) k3.1
    have k1 := intR_le (r := nthR l r 1) k2.1
    have k0 := intR_le (r := nthR l r 0) k1.1
    have q3 : (nthR l r 4).1 = (nthR l r 3).1 + 8 := k3.2.1
    have q2 : (nthR l r 3).1 = (nthR l r 2).1 + 8 := k2.2.1
    have q1 : (nthR l r 2).1 = (nthR l r 1).1 + 8 := k1.2.1
    have q0 : (nthR l r 1).1 = r.1 + 8 := k0.2.1
    omega
  have lA : _ ≤ (inoA l r).2.1 := text_w hA
  have lN : (inoN l r).2.1 = _ := (getR_le hA hN).1
  have lE : _ ≤ (inoE l r).2.1 := many_w (entR l) (fun e => (entB e).length) (fun r h => ent_w h) _ (inoN l r).2 hE
  have lM : (inoM l r).2.1 = _ := (getR_le hE hM).1
  have lU : _ ≤ (inoU l r).2.1 := many_w (rnR l) (fun e => (runB e).length) (fun r h => rn_w h) _ (inoM l r).2 hU
  have c1 : (inoR l r).1.target = (inoA l r).1 := rfl
  have c2 : (inoR l r).1.ents = (inoE l r).1 := rfl
  have c3 : (inoR l r).1.runs = (inoU l r).1 := rfl
  have c4 : (inoR l r).2.1 = (inoU l r).2.1 := rfl
  rw [wI_eq, fmB_len, fmB_len, c1, c2, c3, c4]
  have d1 : (textR l (nthR l r 4)).1 = (inoA l r).1 := rfl
  rw [d1] at lA
  have d2 : (manyR (entR l) (inoN l r).1.toNat (inoN l r).2).1 = (inoE l r).1 := rfl
  have d3 : (manyR (rnR l) (inoM l r).1.toNat (inoM l r).2).1 = (inoU l r).1 := rfl
  rw [d2] at lE
  rw [d3] at lU
  omega
theorem dee_w {l : List Int} {o : Nat} (h : (deeR l o).2.2 = 0) : (deedB (deeR l o).1).length + o ≤ (deeR l o).2.1 := by
  unfold deeR at h ⊢
  split at h
  · rename_i h1
    rw [if_pos h1]
    have h2 := intR_le (r := (getR l (o, 0) 1).2) h
    have h3 := getR_le (r := (o, 0)) rfl h2.1
    simp only at h2 h3 ⊢
    rw [num_len _ _ _ h1]
    omega
  · rename_i h1
    rw [if_neg h1]
    split at h
    · rename_i h4
      rw [if_pos h4]
      have h2 := ino_w (r := (getR l (o, 0) 1).2) h
      have h5 := inoR_le (r := (getR l (o, 0) 1).2) h
      have h3 := getR_le (r := (o, 0)) rfl h5.1
      simp only at h2 h3 ⊢
      rw [put_len rfl]
      simp only
      omega
    · cases h
theorem parseN_w (l : List Int) : ∀ (f o : Nat), (deedsB (parseN l f o).1).length ≤ l.length - o
  | 0, o => Nat.zero_le _
  | f + 1, o => by
    rw [parseN]
    split
    · exact Nat.zero_le _
    · split
      · exact Nat.zero_le _
      · split
        · exact Nat.zero_le _
        · rename_i h1 h2 h3
          have h4 := deeR_le (l := l) (o := o) (by simpa using h2)
          have h5 := dee_w (l := l) (o := o) (by simpa using h2)
          have ih := parseN_w l f (deeR l o).2.1
          rw [deeds_len] at ih ⊢
          simp only [List.map_cons, sumN_cons]
          omega
theorem parse_w (l : List Int) : (deedsB (parseM l).1).length ≤ l.length := parseN_w l _ 0
theorem goP_w : ∀ (L : List (List Int × Nat)) (s : Sta) (u : Nat), wS (goP s u L).1 ≤ wS s + sumN (L.map fun y => y.1.length) ∧ (goP s u L).2 ≤ u + totP L
  | [], s, u => ⟨Nat.le_refl _, Nat.le_refl _⟩
  | (y, k) :: r, s, u => by
    rw [goP]
    simp only [List.map_cons, sumN_cons, totP]
    split
    · exact ⟨Nat.le_add_right _ _, Nat.le_add_right _ _⟩
    · have h1 := goP_w r (applyL s (parseM y).1) (u + (k + 7))
      have h2 := applyL_w s (parseM y).1
      have h3 := parse_w y
      omega
theorem recL_w (l : List (List Int)) : sumN ((recL l).map fun y => y.1.length) ≤ totP (recL l) := by
  have h : ∀ r : List (List Int), sumN ((r.map fun y => (y, y.length)).map fun y : List Int × Nat => y.1.length) ≤ totP (r.map fun y => (y, y.length)) := by
    intro r
    induction r with
    | nil => exact Nat.le_refl _
    | cons x r ih =>
      simp only [List.map_cons, sumN_cons, totP]
      omega
  cases l with
  | nil => exact Nat.le_refl _
  | cons x r =>
    have := h r
    simp only [recL, List.map_cons, sumN_cons, totP, List.length_drop]
    omega
theorem read_w (b : List Int) : wS (readM b).s ≤ b.length ∧ (readM b).used ≤ b.length ∧ 0 ≤ (readM b).ep ∧ (readM b).ep ≤ 2147483647 ∧ ((readM b).ep = 0 → readM b = fndZ) := by
  have hz : wS fndZ.s ≤ b.length ∧ fndZ.used ≤ b.length ∧ 0 ≤ fndZ.ep ∧ fndZ.ep ≤ 2147483647 ∧ (fndZ.ep = 0 → fndZ = fndZ) := ⟨Nat.zero_le _, Nat.zero_le _, by decide, by decide, fun _ => rfl⟩
  obtain ⟨t1, t2, t3⟩ := scanN_tot b b.length 0 (Nat.zero_le _)
  have hM := readM.eq_1 b
  have hL : (scanM b).1 = (scanN b b.length 0).1 := rfl
  rw [hL] at hM
  cases hS : (scanN b b.length 0).1 with
  | nil =>
    rw [hS] at hM
    rw [hM]
    exact hz
  | cons x r =>
    rw [hS] at hM t2
    simp only at hM
    split at hM
    · rw [hM]; exact hz
    · rename_i h1
      split at hM
      · rw [hM]; exact hz
      · have h2 := goP_w (recL (x :: r)) staZ 0
        have h3 := recL_w (x :: r)
        rw [recL_tot] at h2 h3
        rw [hM]
        have h4 : wS staZ = 0 := rfl
        have h5 : 0 < epOf x ∧ epOf x ≤ 2147483647 := by
          constructor
          · exact Int.not_le.1 fun h => h1 (.inr (.inl h))
          · exact Int.not_lt.1 fun h => h1 (.inr (.inr h))
        refine ⟨?_, ?_, by simp only; omega, by simp only; omega, fun h => by simp only at h; omega⟩
        · simp only; omega
        · simp only; omega
end Go.Proofs.YtbbaoeidobdblaaGreat.Sx

/- journal.Open, Epoch, Half. -/
set_option linter.unusedVariables false
set_option linter.unusedSimpArgs false
namespace Go.Proofs.YtbbaoeidobdblaaGreat.Sx
open Go
attribute [local simp ↓] ifb_true' ifb_false'
attribute [local simp] ifb_true ifb_false ifb_eq sx argsT find ev evOp evs evo evBin evInt evStr evNil evNilA ptrA slcA isNoneA asB evLoad look del cellsB evUn evConv kdec fld evFieldA evField evIdxA evIdx evSlc bndL bndH evLen mmi put resV guardV gvL setO tupV cellsOf ones one upd lits nv exitTo SV.val CV.val TI.agg rdyA allR keepB scan simpO gsp isS subs keepT pickT wr memN pubs Res.fact Region.binds bld rest give delL back Res.eqv vi vb num Sv.val undef
/-- The half that counts: what it tells, and which one it is. -/
noncomputable def best1 (c : Cp) : Fnd := if 0 < (readM (halfB c 0)).ep then readM (halfB c 0) else fndZ
noncomputable def bestM (c : Cp) : Fnd × Nat := if (best1 c).ep < (readM (halfB c 1)).ep then (readM (halfB c 1), 1) else (best1 c, 0)
noncomputable def bestI (c : Cp) : Nat → Fnd × Nat
  | 0 => (fndZ, 0)
  | 1 => (best1 c, 0)
  | _ => bestM c
noncomputable def openJ (c : Cp) (x : Nat × Sl × Sl) : Jn := ⟨c, x.1, (bestM c).2, (bestM c).1.ep, (bestM c).1.used, (bestM c).1.s, x.2.1, x.2.2, false⟩
/-- The error, and the journal behind it. -/
noncomputable def openM (c : Cp) (x : Nat × Sl × Sl) : Int × Jn :=
  if (bestM c).1.ep = 0 then (23, openJ c x) else if (bestM c).1.more = true then anewM (openJ c x) (bestM c).1.s x.2.1 x.2.2 else (0, openJ c x)
noncomputable def openE (c : Cp) : Int := (openM c (0, (none, 0), (none, 0))).1
noncomputable def openC (c : Cp) : Cp := (openM c (0, (none, 0), (none, 0))).2.c
theorem open_e (c : Cp) (x : Nat × Sl × Sl) : (openM c x).1 = openE c ∧ (openM c x).2.c = openC c := by
  unfold openE openC openM anewM openJ
  simp only
  split
  · exact ⟨rfl, rfl⟩
  · split
    · split
      · exact ⟨rfl, rfl⟩
      · split
        · exact ⟨rfl, rfl⟩
        · split <;> exact ⟨rfl, rfl⟩
    · exact ⟨rfl, rfl⟩
theorem best_ok {c : Cp} (hf : c.fit) : wS (bestM c).1.s ≤ halfSz c ∧ (bestM c).1.used ≤ halfSz c ∧ 0 ≤ (bestM c).1.ep ∧ (bestM c).1.ep ≤ 2147483647 ∧ (bestM c).2 < 2 := by
  have h0 := read_w (halfB c 0)
  have h1 := read_w (halfB c 1)
  rw [halfB_length hf (by decide)] at h0 h1
  have hz : wS fndZ.s ≤ halfSz c ∧ fndZ.used ≤ halfSz c ∧ 0 ≤ fndZ.ep ∧ fndZ.ep ≤ 2147483647 := ⟨Nat.zero_le _, Nat.zero_le _, by decide, by decide⟩
  have hb : wS (best1 c).s ≤ halfSz c ∧ (best1 c).used ≤ halfSz c ∧ 0 ≤ (best1 c).ep ∧ (best1 c).ep ≤ 2147483647 := by
    unfold best1
    split
    · exact ⟨h0.1, h0.2.1, h0.2.2.1, h0.2.2.2.1⟩
    · exact hz
  unfold bestM
  split
  · exact ⟨h1.1, h1.2.1, h1.2.2.1, h1.2.2.2.1, Nat.lt_succ_self 1⟩
  · exact ⟨hb.1, hb.2.1, hb.2.2.1, hb.2.2.2, Nat.zero_lt_succ 1⟩
theorem best_step (c : Cp) {i : Nat} (h : i < 2) : bestI c (i + 1) = if (bestI c i).1.ep < (readM (halfB c i)).ep then (readM (halfB c i), i) else bestI c i := by
  match i, h with
  | 0, _ =>
    simp only [bestI, best1]
    have e : fndZ.ep = 0 := rfl
    rw [e]
    split <;> rfl
  | 1, _ => rfl
theorem anew_s (j : Jn) (s : Sta) (si sb : Sl) (h : (anewM j s si sb).1 = 0) : (anewM j s si sb).2.s = s ∧ (anewM j s si sb).2.si = si ∧ (anewM j s si sb).2.sb = sb := by
  unfold anewM at h ⊢
  split at h
  · cases h
  · rename_i h1
    rw [if_neg h1]
    split at h
    · rename_i h2
      exact absurd h h2
    · rename_i h2
      rw [if_neg h2]
      split at h
      · rename_i h3
        exact absurd h h3
      · rename_i h3
        rw [if_neg h3]
        exact ⟨rfl, rfl, rfl⟩
/-- All bytes of a chip are bytes. -/
def Cp.bytes (c : Cp) : Prop := ∀ x, x ∈ c.b → 0 ≤ x ∧ x ≤ 255
theorem halfB_byte {c : Cp} (h : c.bytes) (i : Nat) : ∀ x, x ∈ halfB c i → 0 ≤ x ∧ x ≤ 255 := byte_sub h _ _
set_option maxRecDepth 10000 in
set_option maxHeartbeats 4000000 in
theorem open0 (w : World) (I S : Nat → Prop) (hI : ∀ b, I b → b < w.heap.size) (c : Cp) (hf : c.fit) (hby : c.bytes) (hS : Owns c.res S w) (hSI : ∀ b, S b → b < w.heap.size ∧ ¬ I b) :
    FnS Tryz.prog 22 #[ptrV c.gc] w I S (fun x : Nat × Sl × Sl => .tuple #[if openE c = 0 then ptrV x.1 else .pointer none, .int .i64 (openE c)]) (fun x => if openE c = 0 then (openM c x).2.res else (openC c).res) (fun x W => openE c = 0 → StaR W (openM c x).2.s (openM c x).2.si (openM c x).2.sb) := by
  obtain ⟨hl2, hsz, hz⟩ := half_two hf
  have hhl := half_le hf
  have hbo := best_ok hf
  refine enterS (svs := [.c (.v (ptrV c.gc))]) tysOk Tryz.func22 rfl Tryz.ntmps22 Tryz.results22 (by kernel_rfl) (by simp) hI c.res hS hSI (fun _ => True) (fun _ _ => trivial) fun C hC hN ok => ?_
  simp [hN]
  intro gj
  have nilS : ∀ W, StaR W staZ (none, 0) (none, 0) := fun W => ⟨⟨Nat.zero_le _, Nat.zero_le _, rd_nil _ _ _⟩, ⟨Nat.zero_le _, Nat.zero_le _, rd_nil _ _ _⟩⟩
  refine loopK [0, 4] ok (fun y : Nat × Sl × Sl => [(14, .c (.v (.int .i64 (y.1 : Nat)))), (5, .c (.v (.bool (bestI c y.1).1.more)))]) (fun y => [(1000, c.chip), (1001, c.pow), (1002, c.row), (1003, c.map), (13, .box gj 111 [.v (ptrV c.gc), .v (.int .i64 ((bestI c y.1).2 : Nat)), .v (.int .i64 (bestI c y.1).1.ep), .v (.int .i64 ((bestI c y.1).1.used : Nat)), .v (.int .i64 (bestI c y.1).1.s.next), .v (.slice y.2.1.1 (bestI c y.1).1.s.inos.length y.2.1.2), .v (.slice y.2.2.1 (bestI c y.1).1.s.bad.length y.2.2.2), .v (.bool false)])]) (fun y W => y.1 ≤ 2 ∧ StaR W (bestI c y.1).1.s y.2.1 y.2.2) (fun y => 2 - y.1) (0, (none, 0), (none, 0)) ?_ ?_ (fun W hW => ⟨Nat.zero_le _, nilS W⟩) ?_
  · simp [bestI, fndZ]
  · simp [bestI, fndZ, staZ, Cp.map, mapR]
  rintro ⟨i, si, sb⟩ W ⟨hi, hst⟩ hG next
  simp only at hi hst
  rcases Nat.lt_or_ge i 2 with hlt | hge
  · have e6 : IntKind.i64.wrap ((i : Int) + 1) = (i + 1 : Nat) := by rw [w64 (by omega) (by omega)]; omega
    have hlt' : (i : Int) < 2 := by omega
    simp [hN, hlt']
    refine callS ok rfl rfl rfl [1000, 1001, 1002, 1003] c.res (by simp [Cp.map, mapR]) rfl (fun _ : Sl => [(1000, c.chip), (1001, c.pow), (1002, c.row), (1003, c.map)]) (fun w I S hI hG hO hS' => halfRead0 w I S hI c i hlt hf hO hS') (fun r => by simp [Cp.map, mapR]) (.inr fun x q hq => by simp at hq; rcases hq with rfl | rfl | rfl | rfl <;> simp) fun y W hy => ?_
    simp [hN]
    have hbl := halfB_length hf hlt
    refine call0 ok rfl rfl rfl (fun w I hI hG => read0 w I hI (a := y.1) (n := halfSz c) (c := y.2) (halfB c i) (by omega) (fun W e => ⟨hbl.symm, (hG W e).1⟩) (halfB_byte hby i)) fun z W hz' => ?_
    simp [hN]
    intro g9
    have hstep := best_step c hlt
    generalize readM (halfB c i) = f at hstep ⊢
    refine drawK ok mixed (by kernel_rfl) ?_
    simp (maxSteps := 2000000) -implicitDefEqProofs [hN]
    refine ⟨fun hgt => ?_, fun hle => ?_⟩
    · rw [if_pos hgt] at hstep
      refine draw ok [(9, .box g9 124 [.v (.int .i64 f.ep), .v (.int .i64 (f.used : Nat)), .v (.int .i64 f.s.next), .v (.slice z.1.1 f.s.inos.length z.1.2), .v (.slice z.2.1 f.s.bad.length z.2.2), .v (.bool f.more)])] (by rw [ok.P]; exact mixed) (by kernel_rfl) ?_
      simp (maxSteps := 2000000) -implicitDefEqProofs [hN, e6]
      refine next (i + 1, z.1, z.2) _ _ (by simp only; omega) (fun W h => ⟨⟨hlt, by simp only [hstep]; exact h.1⟩, trivial⟩) ?_
      simp [hstep, Cp.map, mapR]
    · rw [if_neg (by omega)] at hstep
      simp [hN, e6]
      refine next (i + 1, si, sb) _ _ (by simp only; omega) (fun W h => ⟨⟨hlt, by simp only [hstep]; exact h.2.2.2⟩, trivial⟩) ?_
      simp [hstep, Cp.map, mapR]
  · obtain rfl : i = 2 := by omega
    have hE : openE c = (openM c (gj, si, sb)).1 := (open_e c (gj, si, sb)).1.symm
    have hCC := (open_e c (gj, si, sb)).2
    have hO := openM.eq_1 c (gj, si, sb)
    have hbi : bestI c 2 = bestM c := rfl
    rw [hbi] at hst
    simp [hN, hbi]
    refine ⟨fun h0 => ?_, fun hne => ?_⟩
    · rw [if_pos h0] at hO
      have h23 : openE c = 23 := by rw [hE, hO]
      rw [hO] at hCC
      rw [h23] at hC
      exact retS hC (gj, si, sb) [1000, 1001, 1002, 1003] rfl (by simp [← hCC, openJ, Cp.map, mapR]) fun W _ hG h => by cases h
    rw [if_neg hne] at hO
    cases hm : (bestM c).1.more with
    | false =>
      rw [if_neg (by simp [hm])] at hO
      have h0 : openE c = 0 := by rw [hE, hO]
      rw [h0] at hC
      simp [hN]
      exact retS hC (gj, si, sb) [1000, 1001, 1002, 1003, 13] rfl (by simp [hO, openJ, Cp.map, mapR]) fun W _ hG _ => by rw [hO]; exact hG
    | true =>
      rw [if_pos hm] at hO
      simp [hN]
      obtain ⟨J, hJ⟩ : ∃ J, J = openJ c (gj, si, sb) := ⟨_, rfl⟩
      rw [← hJ] at hO
      have hJc : J.c = c ∧ J.gj = gj ∧ J.half = (bestM c).2 ∧ J.ep = (bestM c).1.ep ∧ J.s = (bestM c).1.s ∧ J.si = si ∧ J.sb = sb := by rw [hJ]; exact ⟨rfl, rfl, rfl, rfl, rfl, rfl, rfl⟩
      have hcw := count_w (bestM c).1.s
      have hww := whole_w (bestM c).1.s
      obtain ⟨b1, b2, b3, b4, b5⟩ := hbo
      refine callS ok rfl rfl rfl [1000, 1001, 1002, 1003, 13] J.res (by simp [hJ, openJ, Cp.map, mapR]) rfl (fun _ : Unit => [(1000, (anewM J (bestM c).1.s si sb).2.c.chip), (1001, (anewM J (bestM c).1.s si sb).2.c.pow), (1002, (anewM J (bestM c).1.s si sb).2.c.row), (1003, (anewM J (bestM c).1.s si sb).2.c.map), (1004, (anewM J (bestM c).1.s si sb).2.box)]) (fun w I S hI hG hO hS' => by have := anew0 w I S hI J (bestM c).1.s si sb (by rw [hJc.1]; exact hf) (by rw [hJc.2.2.1]; exact b5) (by rw [hJc.2.2.2.1]; exact ⟨b3, b4⟩) (fun W e => hG W e) (by omega) (by show wholeB _ ≤ _; omega) hO hS'; rw [hJc.2.1] at this; exact this) (fun r => by simp [Cp.map, mapR]) (.inr fun x q hq => by simp at hq; rcases hq with rfl | rfl | rfl | rfl | rfl <;> simp) fun _ W _ => ?_
      rw [← hO]
      have hE' : (openM c (gj, si, sb)).1 = openE c := hE.symm
      rw [hE']
      simp [hN]
      refine ⟨fun hne => ?_, fun h0 => ?_⟩
      · exact retS hC (gj, si, sb) [1000, 1001, 1002, 1003] (by simp [hne]) (by simp [hne, hCC, Cp.map, mapR]) fun W _ hG h => absurd h hne
      · refine retS hC (gj, si, sb) [1000, 1001, 1002, 1003, 1004] (by simp [h0]) (by simp [h0, Cp.map, mapR]) fun W _ hG _ => ?_
        have hs := anew_s J (bestM c).1.s si sb (by rw [← hO, hE', h0])
        rw [hO, hs.1, hs.2.1, hs.2.2]
        exact hG
theorem epoch0 (w : World) (I S : Nat → Prop) (hI : ∀ b, I b → b < w.heap.size) (j : Jn) (hS : Owns [j.box] S w) (hSI : ∀ b, S b → b < w.heap.size ∧ ¬ I b) :
    FnS Tryz.prog 27 #[ptrV j.gj] w I S (fun _ : Unit => .int .i64 j.ep) (fun _ => [j.box]) (fun _ _ => True) := by
  refine enterS (svs := [.c (.bp 1000 j.gj 0)]) tysOk Tryz.func27 rfl Tryz.ntmps27 Tryz.results27 (by kernel_rfl) (by simp) hI [j.box] hS hSI (fun _ => True) (fun _ _ => trivial) fun C hC hN ok => ?_
  simp [hN]
  exact retS hC () [1000] rfl (by simp) fun _ _ _ => trivial
theorem half0 (w : World) (I S : Nat → Prop) (hI : ∀ b, I b → b < w.heap.size) (j : Jn) (hS : Owns [j.box] S w) (hSI : ∀ b, S b → b < w.heap.size ∧ ¬ I b) :
    FnS Tryz.prog 28 #[ptrV j.gj] w I S (fun _ : Unit => .int .i64 (j.half : Nat)) (fun _ => [j.box]) (fun _ _ => True) := by
  refine enterS (svs := [.c (.bp 1000 j.gj 0)]) tysOk Tryz.func28 rfl Tryz.ntmps28 Tryz.results28 (by kernel_rfl) (by simp) hI [j.box] hS hSI (fun _ => True) (fun _ _ => trivial) fun C hC hN ok => ?_
  simp [hN]
  exact retS hC () [1000] rfl (by simp) fun _ _ _ => trivial
end Go.Proofs.YtbbaoeidobdblaaGreat.Sx

/- garrethelp: Same, Plain, Inode, State, Bytes. -/
set_option linter.unusedVariables false
set_option linter.unusedSimpArgs false
namespace Go.Proofs.YtbbaoeidobdblaaGreat.Sx
open Go
attribute [local simp ↓] ifb_true' ifb_false'
attribute [local simp] ifb_true ifb_false ifb_eq sx argsT find ev evOp evs evo evBin evInt evStr evNil evNilA ptrA slcA isNoneA asB evLoad look del cellsB evUn evConv kdec fld evFieldA evField evIdxA evIdx evSlc bndL bndH evLen mmi put resV guardV gvL setO tupV cellsOf ones one upd lits nv exitTo SV.val CV.val TI.agg rdyA allR keepB scan simpO gsp isS subs keepT pickT wr memN pubs Res.fact Region.binds bld rest give delL back Res.eqv vi vb num Sv.val undef
noncomputable def tB (p : Prop) : Bool := @decide p (Classical.propDecidable p)
theorem tB_true {p : Prop} (h : p) : tB p = true := @decide_eq_true p (Classical.propDecidable p) h
theorem tB_false {p : Prop} (h : ¬ p) : tB p = false := @decide_eq_false p (Classical.propDecidable p) h
theorem bytes_toList {a b : ByteArray} (h : a.toList = b.toList) : a = b := by
  rw [ByteArray.toList_eq, ByteArray.toList_eq] at h
  apply ByteArray.ext
  exact Array.ext' h
theorem str_tB (a b : ByteArray) : (a.toList == b.toList) = tB (a = b) := by
  by_cases h : a = b
  · subst h; rw [tB_true rfl]; simp
  · rw [tB_false h, beq_eq_false_iff_ne]
    exact fun e => h (bytes_toList e)
theorem tB_dec {p : Prop} [Decidable p] : tB p = decide p := by
  by_cases h : p
  · rw [tB_true h, decide_eq_true h]
  · rw [tB_false h, decide_eq_false h]
theorem take_step {α : Type} {xs ys : List α} {i : Nat} (h : xs.take i = ys.take i) (h1 : i < xs.length) (h2 : i < ys.length) (e : xs[i] = ys[i]) : xs.take (i + 1) = ys.take (i + 1) := by
  rw [List.take_add_one, List.take_add_one, h, List.getElem?_eq_getElem h1, List.getElem?_eq_getElem h2, e]
theorem rd_get1 {W : World} {α : Type} {d : Dt α} {a : Option Addr} {n c : Nat} {l : List α} (h : Sv.ok d W (a, n, c) l) {i : Nat} (hi : i < l.length) : ∃ b o, a = some ⟨b, o, none⟩ ∧ ∃ cs, d.K W l[i] cs ∧ cs.length = d.sz ∧ ∀ j v, cs[j]? = some v → W.cell? ⟨b, o + i * d.sz + j, none⟩ = some v := by
  obtain ⟨b, o, e⟩ := h.2.2.2.is_some (show 0 < l.length by omega)
  cases e
  exact ⟨b, o, rfl, h.2.2.2.get hi⟩
theorem ent_eq (x y : Operand) (a : ByteArray) (b : Int) (a' : ByteArray) (b' : Int) (w : World) : (do eqGuard .eql 127 x y (.agg #[.string a, .int .i64 b]) (.agg #[.string a', .int .i64 b']); binOp .eql 127 (.agg #[.string a, .int .i64 b]) (.agg #[.string a', .int .i64 b']) : Sem Value).run Tryz.prog w = .ok (.bool (tB ((⟨a, b⟩ : Ent) = ⟨a', b'⟩))) w := by
  have hp : Tryz.prog.stoodInHeld 127 = false := by kernel_rfl
  have hm : Tryz.prog.eqGuardType Tryz.prog.depth 127 = false := by kernel_rfl
  have ht : Tryz.prog.underlying 127 = some (.struct (Tryz.prog.fieldsOf 127)) := by kernel_rfl
  have hi : Tryz.prog.underlying 3 = some (.int .i64) := Tryz.underlying3
  have hs : Tryz.prog.underlying 9 = some .string := Tryz.underlying9
  simp only [Sem.run_bind, run_eqGuard_agg w .eql 127 x y _ _ hm, Result.andThen_ok, run_eql_struct, run_equalIn_agg w 9999 127 _ _ ht hp]
  simp only [Program.fieldsOf, Tryz.underlying127]
  have key : tB ((⟨a, b⟩ : Ent) = ⟨a', b'⟩) = (tB (a = a') && decide (b = b')) := by
    rw [← tB_dec (p := b = b')]
    by_cases h1 : a = a' <;> by_cases h2 : b = b' <;> simp [tB, h1, h2]
  rw [key, ← str_tB]
  simp [Op.eqFields, part, isAgg, underlying, hi, hs, run_equalIn_int, run_equalIn_string]
  by_cases h1 : a.toList = a'.toList <;> by_cases h2 : b = b' <;> simp [h1, h2]
theorem rnEq0 (x y : Operand) (a b c a' b' c' : Int) (w : World) : (do eqGuard .eql 139 x y (.agg #[.int .i64 a, .int .i64 b, .int .i64 c]) (.agg #[.int .i64 a', .int .i64 b', .int .i64 c']); binOp .eql 139 (.agg #[.int .i64 a, .int .i64 b, .int .i64 c]) (.agg #[.int .i64 a', .int .i64 b', .int .i64 c']) : Sem Value).run Tryz.prog w = .ok (.bool (tB ((⟨a, b, c⟩ : Rn) = ⟨a', b', c'⟩))) w := by
  have hp : Tryz.prog.stoodInHeld 139 = false := by kernel_rfl
  have hm : Tryz.prog.eqGuardType Tryz.prog.depth 139 = false := by kernel_rfl
  have ht : Tryz.prog.underlying 139 = some (.struct (Tryz.prog.fieldsOf 139)) := by kernel_rfl
  have hi : Tryz.prog.underlying 3 = some (.int .i64) := Tryz.underlying3
  simp only [Sem.run_bind, run_eqGuard_agg w .eql 139 x y _ _ hm, Result.andThen_ok, run_eql_struct, run_equalIn_agg w 9999 139 _ _ ht hp]
  simp only [Program.fieldsOf, Tryz.underlying139]
  have key : tB ((⟨a, b, c⟩ : Rn) = ⟨a', b', c'⟩) = (decide (a = a') && (decide (b = b') && decide (c = c'))) := by
    by_cases h1 : a = a' <;> by_cases h2 : b = b' <;> by_cases h3 : c = c' <;> simp [tB, h1, h2, h3]
  rw [key]
  simp [Op.eqFields, part, isAgg, underlying, hi, run_equalIn_int]
  by_cases h1 : a = a' <;> by_cases h2 : b = b' <;> by_cases h3 : c = c' <;> simp [h1, h2, h3]
theorem intOne0 (w : World) (I : Nat → Prop) (hI : ∀ b, I b → b < w.heap.size) (x y : Int) :
    Fn0 Tryz.prog 118 #[.int .i64 x, .int .i64 y] w I (fun _ : Unit => .bool (tB (x = y))) (fun _ _ => True) := by
  refine enter (svs := [.c (.v (.int .i64 x)), .c (.v (.int .i64 y))]) tysOk Tryz.func118 rfl Tryz.ntmps118 Tryz.results118 (by kernel_rfl) (by simp) hI (fun _ => True) (fun _ _ => trivial) fun C hC hN ok => ?_
  rw [tB_dec] at hC
  simp [hN]
  exact ret0 hC () rfl fun _ _ _ => trivial
theorem entOne0 (w : World) (I : Nat → Prop) (hI : ∀ b, I b → b < w.heap.size) (x y : Ent) :
    Fn0 Tryz.prog 161 #[.agg (entC x).toArray, .agg (entC y).toArray] w I (fun _ : Unit => .bool (tB (x = y))) (fun _ _ => True) := by
  refine enter (svs := [.ag ((entC x).map .v), .ag ((entC y).map .v)]) tysOk Tryz.func161 rfl Tryz.ntmps161 Tryz.results161 (by kernel_rfl) (by simp) hI (fun _ => True) (fun _ _ => trivial) fun C hC hN ok => ?_
  simp [hN]
  intro g1 g2
  refine binA ok rfl rfl rfl rfl (tB (x = y)) (fun w => ent_eq _ _ x.name x.no y.name y.no w) ?_
  simp [hN]
  exact ret0 hC () rfl fun _ _ _ => trivial
theorem rnOne0 (w : World) (I : Nat → Prop) (hI : ∀ b, I b → b < w.heap.size) (x y : Rn) :
    Fn0 Tryz.prog 163 #[.agg (rnC x).toArray, .agg (rnC y).toArray] w I (fun _ : Unit => .bool (tB (x = y))) (fun _ _ => True) := by
  refine enter (svs := [.ag ((rnC x).map .v), .ag ((rnC y).map .v)]) tysOk Tryz.func163 rfl Tryz.ntmps163 Tryz.results163 (by kernel_rfl) (by simp) hI (fun _ => True) (fun _ _ => trivial) fun C hC hN ok => ?_
  simp [hN]
  intro g1 g2
  refine binA ok rfl rfl rfl rfl (tB (x = y)) (fun w => rnEq0 _ _ x.fr x.at_ x.ct y.fr y.at_ y.ct w) ?_
  simp [hN]
  exact ret0 hC () rfl fun _ _ _ => trivial

set_option maxRecDepth 10000 in
set_option maxHeartbeats 2000000 in
theorem sameI0 (w : World) (I : Nat → Prop) (hI : ∀ b, I b → b < w.heap.size) {a a' : Option Addr} {n c n' c' : Nat} (xs ys : List Int) (h : ∀ W, Ext I w W → Sv.ok dInt W (a, n, c) xs ∧ Sv.ok dInt W (a', n', c') ys) :
    Fn0 Tryz.prog 117 #[.slice a n c, .slice a' n' c', .func (.func 118) #[] #[]] w I (fun _ : Unit => .bool (tB (xs = ys))) (fun _ _ => True) := by
  have hn : n = xs.length := (h w (Ext.refl _ _)).1.1
  have hn' : n' = ys.length := (h w (Ext.refl _ _)).2.1
  have hl1 := (h w (Ext.refl _ _)).1.2.2.1
  refine enter (svs := [.c (.v (.slice a n c)), .c (.v (.slice a' n' c')), .c (.v (.func (.func 118) #[] #[]))]) tysOk Tryz.func117 rfl Tryz.ntmps117 Tryz.results117 (by kernel_rfl) (by simp) hI (fun W => Sv.ok dInt W (a, n, c) xs ∧ Sv.ok dInt W (a', n', c') ys) h fun C hC hN ok => ?_
  by_cases hlen : n = n'
  case neg =>
    have hne : ¬ (n : Int) = n' := by omega
    rw [tB_false (fun e => hlen (by rw [hn, hn', e]))] at hC
    simp [hN, hne]
    exact ret0 hC () rfl fun _ _ _ => trivial
  subst hlen
  simp [hN]
  refine loopK [0, 1, 2] ok (fun i : Nat => [(7, .c (.v (.int .i64 i)))]) (fun _ => []) (fun i W => i ≤ n ∧ xs.take i = ys.take i) (fun i => n - i) 0 ?_ ?_ (fun W hW => ⟨Nat.zero_le _, rfl⟩) ?_
  · simp
  · simp
  rintro i W ⟨hi, hpre⟩ hG next
  rcases Nat.lt_or_ge i n with hltn | hge
  · have hlt : i < xs.length := by omega
    have hlt2 : i < ys.length := by omega
    have e6 : IntKind.i64.wrap ((i : Int) + 1) = (i + 1 : Nat) := by rw [w64 (by omega) (by omega)]; omega
    have hstep := fun e => take_step hpre hlt hlt2 e
    have hno : xs[i] ≠ ys[i] → xs ≠ ys := fun h e => h (by subst e; rfl)
    obtain ⟨b, o, e, _⟩ := int_get (h w (Ext.refl _ _)).1 hlt
    cases e
    obtain ⟨b', o', e, _⟩ := int_get (h w (Ext.refl _ _)).2 hlt2
    cases e
    have g1 : ∀ W, Sv.ok dInt W (some ⟨b, o, none⟩, n, c) xs → ∃ v, W.cell? ⟨b, o + i, none⟩ = some v ∧ v = .int .i64 xs[i] := fun W hW => by
      obtain ⟨b'', o'', e, hc⟩ := int_get hW hlt
      cases e
      exact ⟨_, hc, rfl⟩
    have g2 : ∀ W, Sv.ok dInt W (some ⟨b', o', none⟩, n, c') ys → ∃ v, W.cell? ⟨b', o' + i, none⟩ = some v ∧ v = .int .i64 ys[i] := fun W hW => by
      obtain ⟨b'', o'', e, hc⟩ := int_get hW hlt2
      cases e
      exact ⟨_, hc, rfl⟩
    generalize xs[i] = x at g1 hstep hno
    generalize ys[i] = y at g2 hstep hno
    simp [hN, hltn]
    refine drawK ok mixed (by kernel_rfl) ?_
    simp (maxSteps := 2000000) -implicitDefEqProofs [hN, hltn]
    refine ⟨?_, ?_⟩
    · refine load1 ok rfl rfl rfl rfl (fun v W => v = .int .i64 x) (fun W hW => g1 W hW.2.1) ?_
      rintro v W rfl _
      simp (maxSteps := 2000000) -implicitDefEqProofs [hN, hltn]
      refine load1 ok rfl rfl rfl rfl (fun v W => v = .int .i64 y) (fun W hW => by first | exact g2 W hW.2.2 | exact g2 W hW.2.2.2) ?_
      rintro v W rfl _
      simp (maxSteps := 2000000) -implicitDefEqProofs [hN, hltn]
      focus
        refine call0 ok rfl rfl rfl (fun w I hI hG => intOne0 w I hI x y) fun _ W _ => ?_
        by_cases hxy : x = y
        · rw [tB_true hxy]
          simp (maxSteps := 2000000) -implicitDefEqProofs [hN, e6]
          exact next (i + 1) _ _ (by omega) (fun W h => ⟨⟨hltn, hstep hxy⟩, by first | exact h.2 | exact h.2.2 | exact h.2.2.2 | exact h.2.2.2.2⟩) (by simp)
        · rw [tB_false hxy]
          rw [tB_false (hno hxy)] at hC
          simp (maxSteps := 2000000) -implicitDefEqProofs [hN]
          exact ret0 hC () rfl fun _ _ _ => trivial
    · refine load1 ok rfl rfl rfl rfl (fun v W => v = .int .i64 y) (fun W hW => g2 W hW.2.2) ?_
      rintro v W rfl _
      simp (maxSteps := 2000000) -implicitDefEqProofs [hN, hltn]
      refine load1 ok rfl rfl rfl rfl (fun v W => v = .int .i64 x) (fun W hW => by first | exact g1 W hW.2.1 | exact g1 W hW.2.2.1) ?_
      rintro v W rfl _
      simp (maxSteps := 2000000) -implicitDefEqProofs [hN, hltn]
      focus
        refine call0 ok rfl rfl rfl (fun w I hI hG => intOne0 w I hI x y) fun _ W _ => ?_
        by_cases hxy : x = y
        · rw [tB_true hxy]
          simp (maxSteps := 2000000) -implicitDefEqProofs [hN, e6]
          exact next (i + 1) _ _ (by omega) (fun W h => ⟨⟨hltn, hstep hxy⟩, by first | exact h.2 | exact h.2.2 | exact h.2.2.2 | exact h.2.2.2.2⟩) (by simp)
        · rw [tB_false hxy]
          rw [tB_false (hno hxy)] at hC
          simp (maxSteps := 2000000) -implicitDefEqProofs [hN]
          exact ret0 hC () rfl fun _ _ _ => trivial
  · have e1 : xs = ys := by
      rw [← List.take_of_length_le (l := xs) (i := i) (by omega), hpre, List.take_of_length_le (by omega)]
    rw [tB_true e1] at hC
    have hge2 : ¬ i < n := by omega
    simp [hN, hge2]
    exact ret0 hC () rfl fun _ _ _ => trivial
set_option maxRecDepth 10000 in
set_option maxHeartbeats 2000000 in
theorem sameE0 (w : World) (I : Nat → Prop) (hI : ∀ b, I b → b < w.heap.size) {a a' : Option Addr} {n c n' c' : Nat} (xs ys : List Ent) (h : ∀ W, Ext I w W → Sv.ok dEnt W (a, n, c) xs ∧ Sv.ok dEnt W (a', n', c') ys) :
    Fn0 Tryz.prog 160 #[.slice a n c, .slice a' n' c', .func (.func 161) #[] #[]] w I (fun _ : Unit => .bool (tB (xs = ys))) (fun _ _ => True) := by
  have hn : n = xs.length := (h w (Ext.refl _ _)).1.1
  have hn' : n' = ys.length := (h w (Ext.refl _ _)).2.1
  have hl1 := (h w (Ext.refl _ _)).1.2.2.1
  refine enter (svs := [.c (.v (.slice a n c)), .c (.v (.slice a' n' c')), .c (.v (.func (.func 161) #[] #[]))]) tysOk Tryz.func160 rfl Tryz.ntmps160 Tryz.results160 (by kernel_rfl) (by simp) hI (fun W => Sv.ok dEnt W (a, n, c) xs ∧ Sv.ok dEnt W (a', n', c') ys) h fun C hC hN ok => ?_
  by_cases hlen : n = n'
  case neg =>
    have hne : ¬ (n : Int) = n' := by omega
    rw [tB_false (fun e => hlen (by rw [hn, hn', e]))] at hC
    simp [hN, hne]
    exact ret0 hC () rfl fun _ _ _ => trivial
  subst hlen
  simp [hN]
  refine loopK [0, 1, 2] ok (fun i : Nat => [(7, .c (.v (.int .i64 i)))]) (fun _ => []) (fun i W => i ≤ n ∧ xs.take i = ys.take i) (fun i => n - i) 0 ?_ ?_ (fun W hW => ⟨Nat.zero_le _, rfl⟩) ?_
  · simp
  · simp
  rintro i W ⟨hi, hpre⟩ hG next
  rcases Nat.lt_or_ge i n with hltn | hge
  · have hlt : i < xs.length := by omega
    have hlt2 : i < ys.length := by omega
    have e6 : IntKind.i64.wrap ((i : Int) + 1) = (i + 1 : Nat) := by rw [w64 (by omega) (by omega)]; omega
    have hstep := fun e => take_step hpre hlt hlt2 e
    have hno : xs[i] ≠ ys[i] → xs ≠ ys := fun h e => h (by subst e; rfl)
    obtain ⟨b, o, e, _⟩ := rd_get1 (h w (Ext.refl _ _)).1 hlt
    cases e
    obtain ⟨b', o', e, _⟩ := rd_get1 (h w (Ext.refl _ _)).2 hlt2
    cases e
    have g1 : ∀ W, Sv.ok dEnt W (some ⟨b, o, none⟩, n, c) xs → ∃ l, l.length = 2 ∧ (∀ j v, l[j]? = some v → W.cell? ⟨b, o + i * 2 + j, none⟩ = some v) ∧ l = entC xs[i] := fun W hW => by
      obtain ⟨b'', o'', e, cs, hk, hl, hc⟩ := rd_get1 hW hlt
      cases e
      exact ⟨cs, hl, hc, hk⟩
    have g2 : ∀ W, Sv.ok dEnt W (some ⟨b', o', none⟩, n, c') ys → ∃ l, l.length = 2 ∧ (∀ j v, l[j]? = some v → W.cell? ⟨b', o' + i * 2 + j, none⟩ = some v) ∧ l = entC ys[i] := fun W hW => by
      obtain ⟨b'', o'', e, cs, hk, hl, hc⟩ := rd_get1 hW hlt2
      cases e
      exact ⟨cs, hl, hc, hk⟩
    generalize xs[i] = x at g1 hstep hno
    generalize ys[i] = y at g2 hstep hno
    simp [hN, hltn]
    refine drawK ok mixed (by kernel_rfl) ?_
    simp (maxSteps := 2000000) -implicitDefEqProofs [hN, hltn]
    refine ⟨?_, ?_⟩
    · refine loadA ok rfl rfl rfl rfl (fun l W => l = entC x) (fun W hW => by first | exact g1 W hW.2.1 | exact g1 W hW.2.2.1) ?_
      rintro l W _ rfl _
      simp (maxSteps := 2000000) -implicitDefEqProofs [hN, hltn]
      refine loadA ok rfl rfl rfl rfl (fun l W => l = entC y) (fun W hW => by first | exact g2 W hW.2.2 | exact g2 W hW.2.2.2) ?_
      rintro l W _ rfl _
      simp (maxSteps := 2000000) -implicitDefEqProofs [hN, hltn]
      focus
        refine call0 ok rfl rfl rfl (fun w I hI hG => entOne0 w I hI x y) fun _ W _ => ?_
        by_cases hxy : x = y
        · rw [tB_true hxy]
          simp (maxSteps := 2000000) -implicitDefEqProofs [hN, e6]
          exact next (i + 1) _ _ (by omega) (fun W h => ⟨⟨hltn, hstep hxy⟩, by first | exact h.2 | exact h.2.2 | exact h.2.2.2 | exact h.2.2.2.2⟩) (by simp)
        · rw [tB_false hxy]
          rw [tB_false (hno hxy)] at hC
          simp (maxSteps := 2000000) -implicitDefEqProofs [hN]
          exact ret0 hC () rfl fun _ _ _ => trivial
    · refine loadA ok rfl rfl rfl rfl (fun l W => l = entC y) (fun W hW => by first | exact g2 W hW.2.2 | exact g2 W hW.2.2.2) ?_
      rintro l W _ rfl _
      simp (maxSteps := 2000000) -implicitDefEqProofs [hN, hltn]
      refine loadA ok rfl rfl rfl rfl (fun l W => l = entC x) (fun W hW => by first | exact g1 W hW.2.1 | exact g1 W hW.2.2.1) ?_
      rintro l W _ rfl _
      simp (maxSteps := 2000000) -implicitDefEqProofs [hN, hltn]
      focus
        refine call0 ok rfl rfl rfl (fun w I hI hG => entOne0 w I hI x y) fun _ W _ => ?_
        by_cases hxy : x = y
        · rw [tB_true hxy]
          simp (maxSteps := 2000000) -implicitDefEqProofs [hN, e6]
          exact next (i + 1) _ _ (by omega) (fun W h => ⟨⟨hltn, hstep hxy⟩, by first | exact h.2 | exact h.2.2 | exact h.2.2.2 | exact h.2.2.2.2⟩) (by simp)
        · rw [tB_false hxy]
          rw [tB_false (hno hxy)] at hC
          simp (maxSteps := 2000000) -implicitDefEqProofs [hN]
          exact ret0 hC () rfl fun _ _ _ => trivial
  · have e1 : xs = ys := by
      rw [← List.take_of_length_le (l := xs) (i := i) (by omega), hpre, List.take_of_length_le (by omega)]
    rw [tB_true e1] at hC
    have hge2 : ¬ i < n := by omega
    simp [hN, hge2]
    exact ret0 hC () rfl fun _ _ _ => trivial
set_option maxRecDepth 10000 in
set_option maxHeartbeats 2000000 in
theorem sameR0 (w : World) (I : Nat → Prop) (hI : ∀ b, I b → b < w.heap.size) {a a' : Option Addr} {n c n' c' : Nat} (xs ys : List Rn) (h : ∀ W, Ext I w W → Sv.ok dRn W (a, n, c) xs ∧ Sv.ok dRn W (a', n', c') ys) :
    Fn0 Tryz.prog 162 #[.slice a n c, .slice a' n' c', .func (.func 163) #[] #[]] w I (fun _ : Unit => .bool (tB (xs = ys))) (fun _ _ => True) := by
  have hn : n = xs.length := (h w (Ext.refl _ _)).1.1
  have hn' : n' = ys.length := (h w (Ext.refl _ _)).2.1
  have hl1 := (h w (Ext.refl _ _)).1.2.2.1
  refine enter (svs := [.c (.v (.slice a n c)), .c (.v (.slice a' n' c')), .c (.v (.func (.func 163) #[] #[]))]) tysOk Tryz.func162 rfl Tryz.ntmps162 Tryz.results162 (by kernel_rfl) (by simp) hI (fun W => Sv.ok dRn W (a, n, c) xs ∧ Sv.ok dRn W (a', n', c') ys) h fun C hC hN ok => ?_
  by_cases hlen : n = n'
  case neg =>
    have hne : ¬ (n : Int) = n' := by omega
    rw [tB_false (fun e => hlen (by rw [hn, hn', e]))] at hC
    simp [hN, hne]
    exact ret0 hC () rfl fun _ _ _ => trivial
  subst hlen
  simp [hN]
  refine loopK [0, 1, 2] ok (fun i : Nat => [(7, .c (.v (.int .i64 i)))]) (fun _ => []) (fun i W => i ≤ n ∧ xs.take i = ys.take i) (fun i => n - i) 0 ?_ ?_ (fun W hW => ⟨Nat.zero_le _, rfl⟩) ?_
  · simp
  · simp
  rintro i W ⟨hi, hpre⟩ hG next
  rcases Nat.lt_or_ge i n with hltn | hge
  · have hlt : i < xs.length := by omega
    have hlt2 : i < ys.length := by omega
    have e6 : IntKind.i64.wrap ((i : Int) + 1) = (i + 1 : Nat) := by rw [w64 (by omega) (by omega)]; omega
    have hstep := fun e => take_step hpre hlt hlt2 e
    have hno : xs[i] ≠ ys[i] → xs ≠ ys := fun h e => h (by subst e; rfl)
    obtain ⟨b, o, e, _⟩ := rd_get1 (h w (Ext.refl _ _)).1 hlt
    cases e
    obtain ⟨b', o', e, _⟩ := rd_get1 (h w (Ext.refl _ _)).2 hlt2
    cases e
    have g1 : ∀ W, Sv.ok dRn W (some ⟨b, o, none⟩, n, c) xs → ∃ l, l.length = 3 ∧ (∀ j v, l[j]? = some v → W.cell? ⟨b, o + i * 3 + j, none⟩ = some v) ∧ l = rnC xs[i] := fun W hW => by
      obtain ⟨b'', o'', e, cs, hk, hl, hc⟩ := rd_get1 hW hlt
      cases e
      exact ⟨cs, hl, hc, hk⟩
    have g2 : ∀ W, Sv.ok dRn W (some ⟨b', o', none⟩, n, c') ys → ∃ l, l.length = 3 ∧ (∀ j v, l[j]? = some v → W.cell? ⟨b', o' + i * 3 + j, none⟩ = some v) ∧ l = rnC ys[i] := fun W hW => by
      obtain ⟨b'', o'', e, cs, hk, hl, hc⟩ := rd_get1 hW hlt2
      cases e
      exact ⟨cs, hl, hc, hk⟩
    generalize xs[i] = x at g1 hstep hno
    generalize ys[i] = y at g2 hstep hno
    simp [hN, hltn]
    refine drawK ok mixed (by kernel_rfl) ?_
    simp (maxSteps := 2000000) -implicitDefEqProofs [hN, hltn]
    refine ⟨?_, ?_⟩
    · refine loadA ok rfl rfl rfl rfl (fun l W => l = rnC x) (fun W hW => by first | exact g1 W hW.2.1 | exact g1 W hW.2.2.1) ?_
      rintro l W _ rfl _
      simp (maxSteps := 2000000) -implicitDefEqProofs [hN, hltn]
      refine loadA ok rfl rfl rfl rfl (fun l W => l = rnC y) (fun W hW => by first | exact g2 W hW.2.2 | exact g2 W hW.2.2.2) ?_
      rintro l W _ rfl _
      simp (maxSteps := 2000000) -implicitDefEqProofs [hN, hltn]
      focus
        refine call0 ok rfl rfl rfl (fun w I hI hG => rnOne0 w I hI x y) fun _ W _ => ?_
        by_cases hxy : x = y
        · rw [tB_true hxy]
          simp (maxSteps := 2000000) -implicitDefEqProofs [hN, e6]
          exact next (i + 1) _ _ (by omega) (fun W h => ⟨⟨hltn, hstep hxy⟩, by first | exact h.2 | exact h.2.2 | exact h.2.2.2 | exact h.2.2.2.2⟩) (by simp)
        · rw [tB_false hxy]
          rw [tB_false (hno hxy)] at hC
          simp (maxSteps := 2000000) -implicitDefEqProofs [hN]
          exact ret0 hC () rfl fun _ _ _ => trivial
    · refine loadA ok rfl rfl rfl rfl (fun l W => l = rnC y) (fun W hW => by first | exact g2 W hW.2.2 | exact g2 W hW.2.2.2) ?_
      rintro l W _ rfl _
      simp (maxSteps := 2000000) -implicitDefEqProofs [hN, hltn]
      refine loadA ok rfl rfl rfl rfl (fun l W => l = rnC x) (fun W hW => by first | exact g1 W hW.2.1 | exact g1 W hW.2.2.1) ?_
      rintro l W _ rfl _
      simp (maxSteps := 2000000) -implicitDefEqProofs [hN, hltn]
      focus
        refine call0 ok rfl rfl rfl (fun w I hI hG => rnOne0 w I hI x y) fun _ W _ => ?_
        by_cases hxy : x = y
        · rw [tB_true hxy]
          simp (maxSteps := 2000000) -implicitDefEqProofs [hN, e6]
          exact next (i + 1) _ _ (by omega) (fun W h => ⟨⟨hltn, hstep hxy⟩, by first | exact h.2 | exact h.2.2 | exact h.2.2.2 | exact h.2.2.2.2⟩) (by simp)
        · rw [tB_false hxy]
          rw [tB_false (hno hxy)] at hC
          simp (maxSteps := 2000000) -implicitDefEqProofs [hN]
          exact ret0 hC () rfl fun _ _ _ => trivial
  · have e1 : xs = ys := by
      rw [← List.take_of_length_le (l := xs) (i := i) (by omega), hpre, List.take_of_length_le (by omega)]
    rw [tB_true e1] at hC
    have hge2 : ¬ i < n := by omega
    simp [hN, hge2]
    exact ret0 hC () rfl fun _ _ _ => trivial
end Go.Proofs.YtbbaoeidobdblaaGreat.Sx

/- garrethelp: Plain, Inode, State, Bytes. -/
set_option linter.unusedVariables false
set_option linter.unusedSimpArgs false
namespace Go.Proofs.YtbbaoeidobdblaaGreat.Sx
open Go
attribute [local simp ↓] ifb_true' ifb_false'
attribute [local simp] ifb_true ifb_false ifb_eq sx argsT find ev evOp evs evo evBin evInt evStr evNil evNilA ptrA slcA isNoneA asB evLoad look del cellsB evUn evConv kdec fld evFieldA evField evIdxA evIdx evSlc bndL bndH evLen mmi put resV guardV gvL setO tupV cellsOf ones one upd lits nv exitTo SV.val CV.val TI.agg rdyA allR keepB scan simpO gsp isS subs keepT pickT wr memN pubs Res.fact Region.binds bld rest give delL back Res.eqv vi vb num Sv.val undef
theorem plainI0 (w : World) (I : Nat → Prop) (hI : ∀ b, I b → b < w.heap.size) {a a' : Option Addr} {n c n' c' : Nat} (xs ys : List Int) (h : ∀ W, Ext I w W → Sv.ok dInt W (a, n, c) xs ∧ Sv.ok dInt W (a', n', c') ys) :
    Fn0 Tryz.prog 72 #[.slice a n c, .slice a' n' c'] w I (fun _ : Unit => .bool (tB (xs = ys))) (fun _ _ => True) := by
  refine enter (svs := [.c (.v (.slice a n c)), .c (.v (.slice a' n' c'))]) tysOk Tryz.func72 rfl Tryz.ntmps72 Tryz.results72 (by kernel_rfl) (by simp) hI (fun W => Sv.ok dInt W (a, n, c) xs ∧ Sv.ok dInt W (a', n', c') ys) h fun C hC hN ok => ?_
  simp [hN]
  refine call0 ok rfl rfl rfl (fun w I hI hG => sameI0 w I hI xs ys (fun W e => hG W e)) fun _ W _ => ?_
  simp [hN]
  exact ret0 hC () rfl fun _ _ _ => trivial
theorem plainE0 (w : World) (I : Nat → Prop) (hI : ∀ b, I b → b < w.heap.size) {a a' : Option Addr} {n c n' c' : Nat} (xs ys : List Ent) (h : ∀ W, Ext I w W → Sv.ok dEnt W (a, n, c) xs ∧ Sv.ok dEnt W (a', n', c') ys) :
    Fn0 Tryz.prog 115 #[.slice a n c, .slice a' n' c'] w I (fun _ : Unit => .bool (tB (xs = ys))) (fun _ _ => True) := by
  refine enter (svs := [.c (.v (.slice a n c)), .c (.v (.slice a' n' c'))]) tysOk Tryz.func115 rfl Tryz.ntmps115 Tryz.results115 (by kernel_rfl) (by simp) hI (fun W => Sv.ok dEnt W (a, n, c) xs ∧ Sv.ok dEnt W (a', n', c') ys) h fun C hC hN ok => ?_
  simp [hN]
  refine call0 ok rfl rfl rfl (fun w I hI hG => sameE0 w I hI xs ys (fun W e => hG W e)) fun _ W _ => ?_
  simp [hN]
  exact ret0 hC () rfl fun _ _ _ => trivial
theorem plainR0 (w : World) (I : Nat → Prop) (hI : ∀ b, I b → b < w.heap.size) {a a' : Option Addr} {n c n' c' : Nat} (xs ys : List Rn) (h : ∀ W, Ext I w W → Sv.ok dRn W (a, n, c) xs ∧ Sv.ok dRn W (a', n', c') ys) :
    Fn0 Tryz.prog 116 #[.slice a n c, .slice a' n' c'] w I (fun _ : Unit => .bool (tB (xs = ys))) (fun _ _ => True) := by
  refine enter (svs := [.c (.v (.slice a n c)), .c (.v (.slice a' n' c'))]) tysOk Tryz.func116 rfl Tryz.ntmps116 Tryz.results116 (by kernel_rfl) (by simp) hI (fun W => Sv.ok dRn W (a, n, c) xs ∧ Sv.ok dRn W (a', n', c') ys) h fun C hC hN ok => ?_
  simp [hN]
  refine call0 ok rfl rfl rfl (fun w I hI hG => sameR0 w I hI xs ys (fun W e => hG W e)) fun _ W _ => ?_
  simp [hN]
  exact ret0 hC () rfl fun _ _ _ => trivial
set_option maxRecDepth 10000 in
set_option maxHeartbeats 4000000 in
theorem sameIno0 (w : World) (I : Nat → Prop) (hI : ∀ b, I b → b < w.heap.size) (x y : Ino) (e r e' r' : Sl) (h : ∀ W, Ext I w W → InoR W x e r ∧ InoR W y e' r') :
    Fn0 Tryz.prog 71 #[.agg (inoC x e r).toArray, .agg (inoC y e' r').toArray] w I (fun _ : Unit => .bool (tB (x = y))) (fun _ _ => True) := by
  refine enter (svs := [.ag ((inoC x e r).map .v), .ag ((inoC y e' r').map .v)]) tysOk Tryz.func71 rfl Tryz.ntmps71 Tryz.results71 (by kernel_rfl) (by simp) hI (fun W => InoR W x e r ∧ InoR W y e' r') h fun C hC hN ok => ?_
  obtain ⟨no, kd, lk, sz, tg, es, rs⟩ := x
  obtain ⟨no', kd', lk', sz', tg', es', rs'⟩ := y
  have no_ok : ∀ m, ¬ ((⟨no, kd, lk, sz, tg, es, rs⟩ : Ino) = ⟨no', kd', lk', sz', tg', es', rs'⟩) → RetP C (.bool false) m := fun m hne => by
    rw [tB_false hne] at hC
    exact ret0 hC () rfl fun _ _ _ => trivial
  by_cases h1 : no = no'
  case neg => simp [hN, h1]; exact fun g1 g2 => no_ok _ (by simp [h1])
  subst h1
  by_cases h2 : kd = kd'
  case neg => simp [hN, h2]; exact fun g1 g2 => no_ok _ (by simp [h2])
  subst h2
  by_cases h3 : lk = lk'
  case neg => simp [hN, h3]; exact fun g1 g2 => no_ok _ (by simp [h3])
  subst h3
  by_cases h4 : sz = sz'
  case neg => simp [hN, h4]; exact fun g1 g2 => no_ok _ (by simp [h4])
  subst h4
  by_cases h5 : tg = tg'
  case neg =>
    have h5' : ¬ tg.toList = tg'.toList := fun e => h5 (bytes_toList e)
    simp [hN, h5']
    exact fun g1 g2 => no_ok _ (by simp [h5])
  subst h5
  simp [hN]
  intro g1 g2
  refine call0 ok rfl rfl rfl (fun w I hI hG => plainE0 w I hI (a := e.1) (n := es.length) (c := e.2) (a' := e'.1) (n' := es'.length) (c' := e'.2) es es' (fun W e => ⟨⟨rfl, (hG W e).1.1⟩, ⟨rfl, (hG W e).2.1⟩⟩)) fun _ W _ => ?_
  by_cases h6 : es = es'
  case neg =>
    rw [tB_false h6]
    simp [hN]
    exact no_ok _ (by simp [h6])
  rw [tB_true h6]
  simp [hN]
  refine call0 ok rfl rfl rfl (fun w I hI hG => plainR0 w I hI (a := r.1) (n := rs.length) (c := r.2) (a' := r'.1) (n' := rs'.length) (c' := r'.2) rs rs' (fun W e => by have := hG W e; first | exact ⟨⟨rfl, this.1.2⟩, ⟨rfl, this.2.2⟩⟩ | exact ⟨⟨rfl, this.2.1.2⟩, ⟨rfl, this.2.2.2⟩⟩)) fun _ W _ => ?_
  by_cases h7 : rs = rs'
  case neg =>
    rw [tB_false h7]
    simp [hN]
    exact no_ok _ (by simp [h7])
  rw [tB_true h7]
  rw [tB_true (by rw [h6, h7])] at hC
  simp [hN]
  exact ret0 hC () rfl fun _ _ _ => trivial
set_option maxRecDepth 10000 in
set_option maxHeartbeats 2000000 in
theorem sameN0 (w : World) (I : Nat → Prop) (hI : ∀ b, I b → b < w.heap.size) {a a' : Option Addr} {n c n' c' : Nat} (xs ys : List Ino) (h : ∀ W, Ext I w W → Sv.ok dIno W (a, n, c) xs ∧ Sv.ok dIno W (a', n', c') ys) :
    Fn0 Tryz.prog 70 #[.slice a n c, .slice a' n' c', .func (.func 71) #[] #[]] w I (fun _ : Unit => .bool (tB (xs = ys))) (fun _ _ => True) := by
  have hn : n = xs.length := (h w (Ext.refl _ _)).1.1
  have hn' : n' = ys.length := (h w (Ext.refl _ _)).2.1
  have hl1 := (h w (Ext.refl _ _)).1.2.2.1
  refine enter (svs := [.c (.v (.slice a n c)), .c (.v (.slice a' n' c')), .c (.v (.func (.func 71) #[] #[]))]) tysOk Tryz.func70 rfl Tryz.ntmps70 Tryz.results70 (by kernel_rfl) (by simp) hI (fun W => Sv.ok dIno W (a, n, c) xs ∧ Sv.ok dIno W (a', n', c') ys) h fun C hC hN ok => ?_
  by_cases hlen : n = n'
  case neg =>
    have hne : ¬ (n : Int) = n' := by omega
    rw [tB_false (fun e => hlen (by rw [hn, hn', e]))] at hC
    simp [hN, hne]
    exact ret0 hC () rfl fun _ _ _ => trivial
  subst hlen
  simp [hN]
  refine loopK [0, 1, 2] ok (fun i : Nat => [(7, .c (.v (.int .i64 i)))]) (fun _ => []) (fun i W => i ≤ n ∧ xs.take i = ys.take i) (fun i => n - i) 0 ?_ ?_ (fun W hW => ⟨Nat.zero_le _, rfl⟩) ?_
  · simp
  · simp
  rintro i W ⟨hi, hpre⟩ hG next
  rcases Nat.lt_or_ge i n with hltn | hge
  · have hlt : i < xs.length := by omega
    have hlt2 : i < ys.length := by omega
    have e6 : IntKind.i64.wrap ((i : Int) + 1) = (i + 1 : Nat) := by rw [w64 (by omega) (by omega)]; omega
    have hstep := fun e => take_step hpre hlt hlt2 e
    have hno : xs[i] ≠ ys[i] → xs ≠ ys := fun h e => h (by subst e; rfl)
    obtain ⟨b, o, e, _⟩ := rd_get1 (h w (Ext.refl _ _)).1 hlt
    cases e
    obtain ⟨b', o', e, _⟩ := rd_get1 (h w (Ext.refl _ _)).2 hlt2
    cases e
    have g1 : ∀ W, Sv.ok dIno W (some ⟨b, o, none⟩, n, c) xs → ∃ l, l.length = 7 ∧ (∀ j v, l[j]? = some v → W.cell? ⟨b, o + i * 7 + j, none⟩ = some v) ∧ ∃ e r, l = inoC xs[i] e r ∧ InoR W xs[i] e r := fun W hW => by
      obtain ⟨b'', o'', e, cs, hk, hl, hc⟩ := rd_get1 hW hlt
      cases e
      exact ⟨cs, hl, hc, hk⟩
    have g2 : ∀ W, Sv.ok dIno W (some ⟨b', o', none⟩, n, c') ys → ∃ l, l.length = 7 ∧ (∀ j v, l[j]? = some v → W.cell? ⟨b', o' + i * 7 + j, none⟩ = some v) ∧ ∃ e r, l = inoC ys[i] e r ∧ InoR W ys[i] e r := fun W hW => by
      obtain ⟨b'', o'', e, cs, hk, hl, hc⟩ := rd_get1 hW hlt2
      cases e
      exact ⟨cs, hl, hc, hk⟩
    generalize xs[i] = x at g1 hstep hno
    generalize ys[i] = y at g2 hstep hno
    simp [hN, hltn]
    refine drawK ok mixed (by kernel_rfl) ?_
    simp (maxSteps := 2000000) -implicitDefEqProofs [hN, hltn]
    refine ⟨?_, ?_⟩
    · refine loadA ok rfl rfl rfl rfl (fun l W => ∃ e r, l = inoC x e r ∧ InoR W x e r) (fun W hW => by first | exact g1 W hW.2.1 | exact g1 W hW.2.2.1) ?_
      rintro l W _ ⟨e1, r1, rfl, q1⟩ _
      simp (maxSteps := 2000000) -implicitDefEqProofs [hN, hltn]
      refine loadA ok rfl rfl rfl rfl (fun l W => ∃ e r, l = inoC y e r ∧ InoR W y e r) (fun W hW => by first | exact g2 W hW.2.2 | exact g2 W hW.2.2.2) ?_
      rintro l W _ ⟨e2, r2, rfl, q2⟩ _
      simp (maxSteps := 2000000) -implicitDefEqProofs [hN, hltn]
      focus
        refine call0 ok rfl rfl rfl (fun w I hI hG => sameIno0 w I hI x y e1 r1 e2 r2 (fun W e => by obtain ⟨⟨_, _, _, _, ⟨⟨rfl, rfl⟩, rfl, rfl⟩, k1⟩, ⟨_, _, _, _, ⟨⟨rfl, rfl⟩, rfl, rfl⟩, k2⟩, _⟩ := hG W e; first | exact ⟨k1, k2⟩ | exact ⟨k2, k1⟩)) fun _ W _ => ?_
        by_cases hxy : x = y
        · rw [tB_true hxy]
          simp (maxSteps := 2000000) -implicitDefEqProofs [hN, e6]
          exact next (i + 1) _ _ (by omega) (fun W h => ⟨⟨hltn, hstep hxy⟩, by first | exact h.2 | exact h.2.2 | exact h.2.2.2 | exact h.2.2.2.2⟩) (by simp)
        · rw [tB_false hxy]
          rw [tB_false (hno hxy)] at hC
          simp (maxSteps := 2000000) -implicitDefEqProofs [hN]
          exact ret0 hC () rfl fun _ _ _ => trivial
    · refine loadA ok rfl rfl rfl rfl (fun l W => ∃ e r, l = inoC y e r ∧ InoR W y e r) (fun W hW => by first | exact g2 W hW.2.2 | exact g2 W hW.2.2.2) ?_
      rintro l W _ ⟨e2, r2, rfl, q2⟩ _
      simp (maxSteps := 2000000) -implicitDefEqProofs [hN, hltn]
      refine loadA ok rfl rfl rfl rfl (fun l W => ∃ e r, l = inoC x e r ∧ InoR W x e r) (fun W hW => by first | exact g1 W hW.2.1 | exact g1 W hW.2.2.1) ?_
      rintro l W _ ⟨e1, r1, rfl, q1⟩ _
      simp (maxSteps := 2000000) -implicitDefEqProofs [hN, hltn]
      focus
        refine call0 ok rfl rfl rfl (fun w I hI hG => sameIno0 w I hI x y e1 r1 e2 r2 (fun W e => by obtain ⟨⟨_, _, _, _, ⟨⟨rfl, rfl⟩, rfl, rfl⟩, k1⟩, ⟨_, _, _, _, ⟨⟨rfl, rfl⟩, rfl, rfl⟩, k2⟩, _⟩ := hG W e; first | exact ⟨k1, k2⟩ | exact ⟨k2, k1⟩)) fun _ W _ => ?_
        by_cases hxy : x = y
        · rw [tB_true hxy]
          simp (maxSteps := 2000000) -implicitDefEqProofs [hN, e6]
          exact next (i + 1) _ _ (by omega) (fun W h => ⟨⟨hltn, hstep hxy⟩, by first | exact h.2 | exact h.2.2 | exact h.2.2.2 | exact h.2.2.2.2⟩) (by simp)
        · rw [tB_false hxy]
          rw [tB_false (hno hxy)] at hC
          simp (maxSteps := 2000000) -implicitDefEqProofs [hN]
          exact ret0 hC () rfl fun _ _ _ => trivial
  · have e1 : xs = ys := by
      rw [← List.take_of_length_le (l := xs) (i := i) (by omega), hpre, List.take_of_length_le (by omega)]
    rw [tB_true e1] at hC
    have hge2 : ¬ i < n := by omega
    simp [hN, hge2]
    exact ret0 hC () rfl fun _ _ _ => trivial
theorem sameSta0 (w : World) (I : Nat → Prop) (hI : ∀ b, I b → b < w.heap.size) (x y : Sta) (i b i' b' : Sl) (h : ∀ W, Ext I w W → StaR W x i b ∧ StaR W y i' b') :
    Fn0 Tryz.prog 20 #[.agg (staC x i b).toArray, .agg (staC y i' b').toArray] w I (fun _ : Unit => .bool (tB (x = y))) (fun _ _ => True) := by
  refine enter (svs := [.ag ((staC x i b).map .v), .ag ((staC y i' b').map .v)]) tysOk Tryz.func20 rfl Tryz.ntmps20 Tryz.results20 (by kernel_rfl) (by simp) hI (fun W => StaR W x i b ∧ StaR W y i' b') h fun C hC hN ok => ?_
  obtain ⟨nx, ns, bs⟩ := x
  obtain ⟨nx', ns', bs'⟩ := y
  have no_ok : ∀ m, ¬ ((⟨nx, ns, bs⟩ : Sta) = ⟨nx', ns', bs'⟩) → RetP C (.bool false) m := fun m hne => by
    rw [tB_false hne] at hC
    exact ret0 hC () rfl fun _ _ _ => trivial
  by_cases h1 : nx = nx'
  case neg => simp [hN, h1]; exact fun g1 g2 => no_ok _ (by simp [h1])
  subst h1
  simp [hN]
  intro g1 g2
  refine call0 ok rfl rfl rfl (fun w I hI hG => sameN0 w I hI (a := i.1) (n := ns.length) (c := i.2) (a' := i'.1) (n' := ns'.length) (c' := i'.2) ns ns' (fun W e => ⟨⟨rfl, (hG W e).1.1⟩, ⟨rfl, (hG W e).2.1⟩⟩)) fun _ W _ => ?_
  by_cases h6 : ns = ns'
  case neg =>
    rw [tB_false h6]
    simp [hN]
    exact no_ok _ (by simp [h6])
  rw [tB_true h6]
  simp [hN]
  refine call0 ok rfl rfl rfl (fun w I hI hG => plainI0 w I hI (a := b.1) (n := bs.length) (c := b.2) (a' := b'.1) (n' := bs'.length) (c' := b'.2) bs bs' (fun W e => by have := hG W e; first | exact ⟨⟨rfl, this.1.2⟩, ⟨rfl, this.2.2⟩⟩ | exact ⟨⟨rfl, this.2.1.2⟩, ⟨rfl, this.2.2.2⟩⟩)) fun _ W _ => ?_
  by_cases h7 : bs = bs'
  case neg =>
    rw [tB_false h7]
    simp [hN]
    exact no_ok _ (by simp [h7])
  rw [tB_true h7]
  rw [tB_true (by rw [h6, h7])] at hC
  simp [hN]
  exact ret0 hC () rfl fun _ _ _ => trivial
end Go.Proofs.YtbbaoeidobdblaaGreat.Sx

/- Plain: what was packed is parsed. -/
set_option linter.unusedVariables false
set_option linter.unusedSimpArgs false
namespace Go.Proofs.YtbbaoeidobdblaaGreat.Sx
open Go
def fitI (v : Int) : Prop := -9223372036854775808 ≤ v ∧ v ≤ 9223372036854775807
theorem wrap_mod {v : Int} (h : fitI v) : IntKind.i64.wrap (v % 18446744073709551616) = v := by
  rw [IntKind.wrap_i64]
  obtain ⟨h1, h2⟩ := h
  omega
/-- Bytes have others at a place. -/
def has (l : List Int) (o : Nat) (x : List Int) : Prop := (l.drop o).take x.length = x ∧ o + x.length ≤ l.length
theorem has_all (l : List Int) : has l 0 l := ⟨by simp, by simp⟩
theorem has_app {l : List Int} {o : Nat} {x y : List Int} : has l o (x ++ y) ↔ has l o x ∧ has l (o + x.length) y := by
  unfold has
  constructor
  · rintro ⟨h1, h2⟩
    rw [List.length_append] at h1 h2
    rw [List.take_add] at h1
    have hl : ((l.drop o).take x.length).length = x.length := by rw [List.length_take, List.length_drop]; omega
    have h3 := List.append_inj h1 hl
    refine ⟨⟨h3.1, by omega⟩, ?_, by omega⟩
    rw [← List.drop_drop]
    exact h3.2
  · rintro ⟨⟨h1, h2⟩, h3, h4⟩
    rw [List.length_append]
    refine ⟨?_, by omega⟩
    rw [List.take_add, h1, List.drop_drop, h3]
theorem get_has {l : List Int} {o n : Nat} {v : Int} (h : has l o (lowB v n)) (hv : 0 ≤ v ∧ v < 256 ^ n) : getR l (o, 0) n = (v, (o + n, 0)) := by
  obtain ⟨h1, h2⟩ := h
  rw [lowB_length] at h1 h2
  unfold getR
  rw [if_neg (by simp), if_neg (by simp only; omega)]
  simp only
  rw [h1, valB_lowB, Int.emod_eq_of_lt hv.1 hv.2]
theorem p256_8 : (256 : Int) ^ 8 = 18446744073709551616 := by decide
theorem p256_4 : (256 : Int) ^ 4 = 4294967296 := by decide
theorem int_has {l : List Int} {o : Nat} {v : Int} (h : has l o (intB v)) (hv : fitI v) : intR l (o, 0) = (v, (o + 8, 0)) := by
  have h1 := get_has (v := v % 18446744073709551616) h (by rw [p256_8]; omega)
  unfold intR
  rw [h1]
  simp only
  rw [wrap_mod hv]
theorem txt_bytes (s : ByteArray) : txtOf (bytesOf s) = s := by
  apply ByteArray.ext
  apply Array.ext'
  simp only [txtOf, bytesOf, List.map_map]
  rw [show ((fun x : Int => UInt8.ofNat x.toNat) ∘ fun b : UInt8 => (b.toNat : Int)) = id from funext fun b => by simp]
  simp
theorem text_has {l : List Int} {o : Nat} {s : ByteArray} (h : has l o (textB s)) (hs : s.size < 4294967296) : textR l (o, 0) = (s, (o + (textB s).length, 0)) := by
  obtain ⟨h1, h2⟩ := has_app.1 h
  have h3 := get_has h1 (by rw [p256_4]; omega)
  unfold getR at h3
  rw [if_neg (by simp)] at h3
  have hl : ¬ l.length < o + 4 := by have := h1.2; rw [lowB_length] at this; omega
  simp only [hl, if_false] at h3
  have hv : valB ((l.drop o).take 4) = s.size := (Prod.mk.inj h3).1
  obtain ⟨h4, h5⟩ := h2
  rw [lowB_length, bytesOf_length] at h4 h5
  unfold textR
  rw [if_neg (by simp), if_neg (by simp only; omega)]
  simp only
  rw [hv, Int.toNat_natCast, if_neg (by omega), h4, txt_bytes, textB_length]
  congr 2
  omega
structure FitE (e : Ent) : Prop where
  name : e.name.size < 4294967296
  no : fitI e.no
structure FitR (r : Rn) : Prop where
  fr : fitI r.fr
  at_ : fitI r.at_
  ct : fitI r.ct
structure FitN (x : Ino) : Prop where
  no : fitI x.no
  kind : fitI x.kind
  links : fitI x.links
  size : fitI x.size
  target : x.target.size < 4294967296
  ents : x.ents.length < 4294967296
  runs : x.runs.length < 4294967296
  ent : ∀ e ∈ x.ents, FitE e
  run : ∀ r ∈ x.runs, FitR r
structure FitD (d : Dee) : Prop where
  kind : d.kind = 1 ∨ d.kind = 2 ∨ d.kind = 3 ∨ d.kind = 4
  no : d.kind ≠ 2 → fitI d.no
  ino : d.kind = 2 → FitN d.ino
theorem ent_has {l : List Int} {o : Nat} {e : Ent} (h : has l o (entB e)) (hf : FitE e) : entR l (o, 0) = (e, (o + (entB e).length, 0)) := by
  obtain ⟨h1, h2⟩ := has_app.1 h
  have h3 := text_has h1 hf.name
  have h4 := int_has h2 hf.no
  unfold entR
  rw [h3]
  simp only
  rw [h4, entB, List.length_append, intB_length, Nat.add_assoc]
theorem rn_has {l : List Int} {o : Nat} {e : Rn} (h : has l o (runB e)) (hf : FitR e) : rnR l (o, 0) = (e, (o + (runB e).length, 0)) := by
  obtain ⟨h0, h3⟩ := has_app.1 h
  obtain ⟨h1, h2⟩ := has_app.1 h0
  have e1 := int_has h1 hf.fr
  have e2 := int_has h2 hf.at_
  have e3 := int_has h3 hf.ct
  rw [intB_length] at e2
  rw [List.length_append, intB_length, intB_length, ← Nat.add_assoc] at e3
  unfold rnR
  rw [e1]
  simp only
  rw [e2]
  simp only
  rw [e3, runB, List.length_append, List.length_append, intB_length, intB_length, intB_length]
theorem many_has {α : Type} (l : List Int) (f : Rs → α × Rs) (g : α → List Int) : ∀ (es : List α) (o : Nat), (∀ e ∈ es, ∀ o, has l o (g e) → f (o, 0) = (e, (o + (g e).length, 0))) → has l o (es.flatMap g) → manyR f es.length (o, 0) = (es, (o + (es.flatMap g).length, 0))
  | [], o, _, _ => by simp [manyR]
  | e :: r, o, hf, h => by
    rw [List.flatMap_cons] at h
    obtain ⟨h1, h2⟩ := has_app.1 h
    have h3 := hf e List.mem_cons_self o h1
    have h4 := many_has l f g r (o + (g e).length) (fun x hx => hf x (List.mem_cons_of_mem _ hx)) h2
    rw [List.length_cons, manyR, if_neg (by simp), h3]
    simp only
    rw [h4, List.flatMap_cons, List.length_append, Nat.add_assoc]
theorem ino_has {l : List Int} {o : Nat} {x : Ino} (h : has l o (inoB x)) (hf : FitN x) : inoR l (o, 0) = (x, (o + (inoB x).length, 0)) := by
  obtain ⟨h4, h5⟩ := has_app.1 h
  obtain ⟨h3, hm⟩ := has_app.1 h4
  obtain ⟨h2, he⟩ := has_app.1 h3
  obtain ⟨h1, hn⟩ := has_app.1 h2
  obtain ⟨g4, gt⟩ := has_app.1 h1
  obtain ⟨g3, gs⟩ := has_app.1 g4
  obtain ⟨g2, gl⟩ := has_app.1 g3
  obtain ⟨g1, gk⟩ := has_app.1 g2
  simp only [List.length_append, intB_length] at gk gl gs gt
  have e1 := int_has g1 hf.no
  have e2 := int_has gk hf.kind
  have e3 := int_has gl hf.links
  have e4 := int_has gs hf.size
  have e5 := text_has gt hf.target
  have e6 := get_has hn (by rw [p256_4]; have := hf.ents; omega)
  have e7 := many_has l (entR l) entB x.ents _ (fun e he' o h => ent_has h (hf.ent e he')) he
  have e8 := get_has hm (by rw [p256_4]; have := hf.runs; omega)
  have e9 := many_has l (rnR l) runB x.runs _ (fun e he' o h => rn_has h (hf.run e he')) h5
  have n1 : nthR l (o, 0) 1 = (o + 8, 0) := by show (intR l (o, 0)).2 = _; rw [e1]
  have n2 : nthR l (o, 0) 2 = (o + (8 + 8), 0) := by show (intR l (nthR l (o, 0) 1)).2 = _; rw [n1, e2, Nat.add_assoc]
  have n3 : nthR l (o, 0) 3 = (o + (8 + 8 + 8), 0) := by show (intR l (nthR l (o, 0) 2)).2 = _; rw [n2, e3, Nat.add_assoc]
  have n4 : nthR l (o, 0) 4 = (o + (8 + 8 + 8 + 8), 0) := by show (intR l (nthR l (o, 0) 3)).2 = _; rw [n3, e4, Nat.add_assoc]
  have hh : (headB x).length = 8 + 8 + 8 + 8 + (textB x.target).length := by rw [headB_length, textB_length]; omega
  have a1 : inoA l (o, 0) = (x.target, (o + (headB x).length, 0)) := by rw [inoA, n4, e5, hh]; congr 2; omega
  have a2 : inoN l (o, 0) = (((x.ents.length : Nat) : Int), (o + (headB x).length + 4, 0)) := by rw [inoN, a1]; exact e6
  simp only [List.length_append, lowB_length] at e7 e8 e9
  have a3 : inoE l (o, 0) = (x.ents, (o + ((headB x).length + 4) + (x.ents.flatMap entB).length, 0)) := by
    rw [inoE, a2]
    simp only [Int.toNat_natCast]
    rw [Nat.add_assoc]
    exact e7
  have a4 : inoM l (o, 0) = (((x.runs.length : Nat) : Int), (o + ((headB x).length + 4 + (x.ents.flatMap entB).length) + 4, 0)) := by
    rw [inoM, a3, ← e8]
    simp only [Nat.add_assoc]
  have a5 : inoU l (o, 0) = (x.runs, (o + ((headB x).length + 4 + (x.ents.flatMap entB).length + 4) + (x.runs.flatMap runB).length, 0)) := by
    rw [inoU, a4]
    simp only [Int.toNat_natCast]
    rw [← e9]
    simp only [Nat.add_assoc]
  unfold inoR
  rw [n1, n2, n3, e1, e2, e3, e4, a1, a3, a5]
  simp only
  congr 2
  simp only [inoB, List.length_append, lowB_length]
  omega
/-- A deed with what its kind has alone. -/
def canon (d : Dee) : Dee := if d.kind = 2 then ⟨2, 0, d.ino⟩ else ⟨d.kind, d.no, inoZ⟩
theorem dee_has {l : List Int} {o : Nat} {d : Dee} (h : has l o (deedB d)) (hf : FitD d) : deeR l o = (canon d, (o + (deedB d).length, 0)) := by
  have hk := hf.kind
  obtain ⟨h1, h2⟩ := has_app.1 h
  have hm : d.kind % 18446744073709551616 = d.kind := by omega
  have e1 := get_has h1 (by rw [hm]; simp; omega)
  rw [hm] at e1
  rw [lowB_length] at h2
  unfold deeR
  rw [e1]
  simp only
  by_cases h3 : d.kind = 2
  · have ht : tailB d = inoB d.ino := by unfold tailB; rw [if_neg (by rw [h3]; decide), if_pos h3]
    rw [ht] at h2
    have e2 := ino_has h2 (hf.ino h3)
    rw [if_neg (by rw [h3]; decide), if_pos h3, e2, canon, if_pos h3, deedB, List.length_append, lowB_length, ht, Nat.add_assoc]
  · have h4 : d.kind = 1 ∨ d.kind = 3 ∨ d.kind = 4 := by omega
    have ht : tailB d = intB d.no := by unfold tailB; rw [if_pos h4]
    rw [ht] at h2
    have e2 := int_has h2 (hf.no h3)
    rw [if_pos h4, e2, canon, if_neg h3, deedB, List.length_append, lowB_length, ht, intB_length, Nat.add_assoc]
theorem parse_has (l : List Int) : ∀ (ds : List Dee) (o f : Nat), (∀ d ∈ ds, FitD d) → has l o (deedsB ds) → o + (deedsB ds).length = l.length → l.length - o ≤ f → parseN l f o = (ds.map canon, 0)
  | [], o, f, _, _, h2, _ => by
    have h2' : l.length ≤ o := by simp [deedsB] at h2; omega
    cases f with
    | zero => rfl
    | succ f => rw [parseN, if_pos h2']; rfl
  | d :: r, o, f, hf, h, h2, h3 => by
    have hc : deedsB (d :: r) = deedB d ++ deedsB r := rfl
    rw [hc] at h h2
    rw [List.length_append] at h2
    obtain ⟨h4, h5⟩ := has_app.1 h
    have e1 := dee_has h4 (hf d List.mem_cons_self)
    have hpos : 0 < (deedB d).length := by rw [deedB, List.length_append, lowB_length]; omega
    obtain ⟨f, rfl⟩ : ∃ g, f = g + 1 := ⟨f - 1, by omega⟩
    have ih := parse_has l r (o + (deedB d).length) f (fun x hx => hf x (List.mem_cons_of_mem _ hx)) h5 (by omega) (by omega)
    rw [parseN, if_neg (by omega), e1]
    simp only [ne_eq, not_true, if_false]
    rw [ih]
    simp
theorem parse_deeds {ds : List Dee} (hf : ∀ d ∈ ds, FitD d) : parseM (deedsB ds) = (ds.map canon, 0) := parse_has _ ds 0 _ hf (has_all _) (by simp) (Nat.le_refl _)
theorem one_canon (s : Sta) (d : Dee) : applyOne s (canon d) = applyOne s d := by
  unfold canon
  by_cases h : d.kind = 2
  · rw [if_pos h]
    unfold applyOne
    simp [h]
  · rw [if_neg h]
    unfold applyOne
    simp [h]
theorem apply_canon (s : Sta) (ds : List Dee) : applyL s (ds.map canon) = applyL s ds := by
  induction ds generalizing s with
  | nil => rfl
  | cons d r ih =>
    show applyL (applyOne s (canon d)) (r.map canon) = applyL (applyOne s d) r
    rw [one_canon, ih]
end Go.Proofs.YtbbaoeidobdblaaGreat.Sx

/- Plain: states that are sorted are built anew of their deeds; records, one behind the other. -/
set_option linter.unusedVariables false
set_option linter.unusedSimpArgs false
namespace Go.Proofs.YtbbaoeidobdblaaGreat.Sx
open Go
structure StaOk (s : Sta) : Prop where
  next : fitI s.next
  inos : s.inos.Pairwise fun x y => x.no < y.no
  bad : s.bad.Pairwise fun x y => x < y
  fit : ∀ x ∈ s.inos, FitN x
  fitb : ∀ x ∈ s.bad, fitI x
theorem hasI_iff (l : List Ino) (n : Int) : hasI l n ↔ ∃ x ∈ l, x.no = n := Iff.rfl
theorem insI_last (l : List Ino) (x : Ino) (h : ∀ y ∈ l, y.no < x.no) : insI l x = l ++ [x] := by
  induction l with
  | nil => rfl
  | cons y r ih =>
    have h1 := h y List.mem_cons_self
    rw [insI, if_pos (by omega), ih fun z hz => h z (List.mem_cons_of_mem _ hz)]
    rfl
theorem put_last (l : List Ino) (x : Ino) (h : ∀ y ∈ l, y.no < x.no) : putInoL l x = l ++ [x] := by
  unfold putInoL
  rw [if_neg, insI_last l x h]
  intro e
  obtain ⟨y, hy, e⟩ := (hasI_iff l x.no).1 e
  have := h y hy
  omega
theorem insL_last (l : List Int) (x : Int) (h : ∀ y ∈ l, y < x) : insL l x = l ++ [x] := by
  induction l with
  | nil => rfl
  | cons y r ih =>
    have h1 := h y List.mem_cons_self
    rw [insL, if_pos (by omega), ih fun z hz => h z (List.mem_cons_of_mem _ hz)]
    rfl
theorem addBad_last (l : List Int) (x : Int) (h : ∀ y ∈ l, y < x) : addBadL l x = l ++ [x] := by
  unfold addBadL
  rw [if_neg, insL_last l x h]
  intro e
  have := h x (by simpa using e)
  omega
theorem fold_inos (next : Int) : ∀ (l acc : List Ino), (acc ++ l).Pairwise (fun x y => x.no < y.no) → applyL ⟨next, acc, []⟩ (l.map fun x => ⟨2, 0, x⟩) = ⟨next, acc ++ l, []⟩
  | [], acc, _ => by simp [applyL]
  | x :: r, acc, h => by
    have h1 : ∀ y ∈ acc, y.no < x.no := fun y hy => (List.pairwise_append.1 h).2.2 y hy x List.mem_cons_self
    have h2 : applyOne ⟨next, acc, []⟩ ⟨2, 0, x⟩ = ⟨next, acc ++ [x], []⟩ := by
      unfold applyOne
      rw [if_neg (by simp), if_pos rfl]
      simp only
      rw [put_last acc x h1]
    show applyL (applyOne ⟨next, acc, []⟩ ⟨2, 0, x⟩) (r.map fun x => ⟨2, 0, x⟩) = _
    rw [h2, fold_inos next r (acc ++ [x]) (by simpa using h)]
    simp
theorem fold_bad (next : Int) (ns : List Ino) : ∀ (l acc : List Int), (acc ++ l).Pairwise (fun x y => x < y) → applyL ⟨next, ns, acc⟩ (l.map fun n => ⟨4, n, inoZ⟩) = ⟨next, ns, acc ++ l⟩
  | [], acc, _ => by simp [applyL]
  | x :: r, acc, h => by
    have h1 : ∀ y ∈ acc, y < x := fun y hy => (List.pairwise_append.1 h).2.2 y hy x List.mem_cons_self
    have h2 : applyOne ⟨next, ns, acc⟩ ⟨4, x, inoZ⟩ = ⟨next, ns, acc ++ [x]⟩ := by
      unfold applyOne
      rw [if_neg (by simp), if_neg (by simp), if_neg (by simp), if_pos rfl]
      simp only
      rw [addBad_last acc x h1]
    show applyL (applyOne ⟨next, ns, acc⟩ ⟨4, x, inoZ⟩) (r.map fun n => ⟨4, n, inoZ⟩) = _
    rw [h2, fold_bad next ns r (acc ++ [x]) (by simpa using h)]
    simp
theorem applyL_append (s : Sta) (a b : List Dee) : applyL s (a ++ b) = applyL (applyL s a) b := by simp [applyL]
/-- A state that is sorted is what its deeds lead to. -/
theorem whole_apply {s : Sta} (h : StaOk s) : applyL staZ (wholeL s) = s := by
  have h1 : applyOne staZ ⟨1, s.next, inoZ⟩ = ⟨s.next, [], []⟩ := by
    unfold applyOne
    rw [if_pos rfl]
    rfl
  have h2 : wholeL s = [⟨1, s.next, inoZ⟩] ++ ((s.inos.map fun x => ⟨2, 0, x⟩) ++ s.bad.map fun n => ⟨4, n, inoZ⟩) := by simp [wholeL]
  rw [h2, applyL_append]
  show applyL (applyOne staZ ⟨1, s.next, inoZ⟩) _ = _
  rw [h1, applyL_append, fold_inos s.next s.inos [] (by simpa using h.inos), fold_bad s.next _ s.bad [] (by simpa using h.bad)]
  simp
theorem whole_fit {s : Sta} (h : StaOk s) : ∀ d ∈ wholeL s, FitD d := by
  intro d hd
  simp only [wholeL, List.cons_append, List.mem_cons, List.mem_append, List.mem_map] at hd
  rcases hd with rfl | ⟨x, hx, rfl⟩ | ⟨x, hx, rfl⟩
  · exact ⟨.inl rfl, fun _ => h.next, fun e => absurd e (by simp)⟩
  · exact ⟨.inr (.inl rfl), fun e => absurd rfl e, fun _ => h.fit x hx⟩
  · exact ⟨.inr (.inr (.inr rfl)), fun _ => h.fitb x hx, fun e => absurd e (by simp)⟩
theorem repl_no (l : List Ino) (x : Ino) : (replI l x).map (·.no) = l.map (·.no) := by
  induction l with
  | nil => rfl
  | cons y r ih =>
    unfold replI
    split
    · rename_i h
      have : y.no = x.no := by simpa using h
      simp [this]
    · simp [ih]
theorem pw_map {l : List Ino} : l.Pairwise (fun x y => x.no < y.no) ↔ (l.map (·.no)).Pairwise (· < ·) := by rw [List.pairwise_map]
theorem mem_ins {l : List Ino} {x y : Ino} (h : y ∈ insI l x) : y ∈ l ∨ y = x := by
  induction l with
  | nil => exact .inr (List.mem_singleton.1 h)
  | cons z r ih =>
    unfold insI at h
    split at h
    · rcases List.mem_cons.1 h with rfl | h
      · exact .inl List.mem_cons_self
      · rcases ih h with h | h
        · exact .inl (List.mem_cons_of_mem _ h)
        · exact .inr h
    · rcases List.mem_cons.1 h with rfl | h
      · exact .inr rfl
      · exact .inl h
theorem mem_repl {l : List Ino} {x y : Ino} (h : y ∈ replI l x) : y ∈ l ∨ y = x := by
  induction l with
  | nil => cases h
  | cons z r ih =>
    unfold replI at h
    split at h
    · rcases List.mem_cons.1 h with rfl | h
      · exact .inr rfl
      · exact .inl (List.mem_cons_of_mem _ h)
    · rcases List.mem_cons.1 h with rfl | h
      · exact .inl List.mem_cons_self
      · rcases ih h with h | h
        · exact .inl (List.mem_cons_of_mem _ h)
        · exact .inr h
theorem mem_put {l : List Ino} {x y : Ino} (h : y ∈ putInoL l x) : y ∈ l ∨ y = x := by
  unfold putInoL at h
  split at h
  · exact mem_repl h
  · exact mem_ins h
theorem ins_sorted {l : List Ino} {x : Ino} (h : l.Pairwise fun x y => x.no < y.no) (hn : ∀ y ∈ l, y.no ≠ x.no) : (insI l x).Pairwise fun x y => x.no < y.no := by
  induction l with
  | nil => exact List.pairwise_singleton _ _
  | cons z r ih =>
    have h1 := List.pairwise_cons.1 h
    have hz := hn z List.mem_cons_self
    unfold insI
    split
    · refine List.pairwise_cons.2 ⟨fun y hy => ?_, ih h1.2 fun y hy => hn y (List.mem_cons_of_mem _ hy)⟩
      rcases mem_ins hy with hy | rfl
      · exact h1.1 y hy
      · omega
    · refine List.pairwise_cons.2 ⟨fun y hy => ?_, h⟩
      rcases List.mem_cons.1 hy with rfl | hy
      · omega
      · have := h1.1 y hy
        omega
theorem put_sorted {l : List Ino} (x : Ino) (h : l.Pairwise fun x y => x.no < y.no) : (putInoL l x).Pairwise fun x y => x.no < y.no := by
  unfold putInoL
  split
  · rw [pw_map, repl_no, ← pw_map]
    exact h
  · rename_i hn
    exact ins_sorted h fun y hy e => hn ((hasI_iff l x.no).2 ⟨y, hy, e⟩)
theorem memL_ins {l : List Int} {x y : Int} (h : y ∈ insL l x) : y ∈ l ∨ y = x := by
  induction l with
  | nil => exact .inr (List.mem_singleton.1 h)
  | cons z r ih =>
    unfold insL at h
    split at h
    · rcases List.mem_cons.1 h with rfl | h
      · exact .inl List.mem_cons_self
      · rcases ih h with h | h
        · exact .inl (List.mem_cons_of_mem _ h)
        · exact .inr h
    · rcases List.mem_cons.1 h with rfl | h
      · exact .inr rfl
      · exact .inl h
theorem insL_sorted {l : List Int} {x : Int} (h : l.Pairwise fun x y => x < y) (hn : ¬ x ∈ l) : (insL l x).Pairwise fun x y => x < y := by
  induction l with
  | nil => exact List.pairwise_singleton _ _
  | cons z r ih =>
    have h1 := List.pairwise_cons.1 h
    have hz : z ≠ x := fun e => hn (by rw [e]; exact List.mem_cons_self)
    unfold insL
    split
    · refine List.pairwise_cons.2 ⟨fun y hy => ?_, ih h1.2 fun hy => hn (List.mem_cons_of_mem _ hy)⟩
      rcases memL_ins hy with hy | rfl
      · exact h1.1 y hy
      · omega
    · refine List.pairwise_cons.2 ⟨fun y hy => ?_, h⟩
      rcases List.mem_cons.1 hy with rfl | hy
      · omega
      · have := h1.1 y hy
        omega
theorem apply_ok1 {s : Sta} {d : Dee} (h : StaOk s) (hd : FitD d) : StaOk (applyOne s d) := by
  unfold applyOne
  split
  · rename_i e
    exact ⟨hd.no (by rw [e]; decide), h.inos, h.bad, h.fit, h.fitb⟩
  · split
    · rename_i e
      refine ⟨h.next, put_sorted _ h.inos, h.bad, fun x hx => ?_, h.fitb⟩
      rcases mem_put hx with hx | rfl
      · exact h.fit x hx
      · exact hd.ino e
    · split
      · exact ⟨h.next, h.inos.filter _, h.bad, fun x hx => h.fit x (List.mem_filter.1 hx).1, h.fitb⟩
      · split
        · rename_i e
          refine ⟨h.next, h.inos, ?_, h.fit, fun x hx => ?_⟩
          · simp only [addBadL]
            split
            · exact h.bad
            · rename_i hn
              exact insL_sorted h.bad (by simpa using hn)
          · simp only [addBadL] at hx
            split at hx
            · exact h.fitb x hx
            · rcases memL_ins hx with hx | rfl
              · exact h.fitb x hx
              · exact hd.no (by rw [e]; decide)
        · exact h
theorem apply_ok {s : Sta} {l : List Dee} (h : StaOk s) (hd : ∀ d ∈ l, FitD d) : StaOk (applyL s l) := by
  induction l generalizing s with
  | nil => exact h
  | cons d r ih => exact ih (apply_ok1 h (hd d List.mem_cons_self)) fun x hx => hd x (List.mem_cons_of_mem _ hx)
theorem new_ok : StaOk newSta := by
  refine ⟨by unfold fitI; decide, List.pairwise_singleton _ _, List.Pairwise.nil, fun x hx => ?_, fun x hx => by cases hx⟩
  rw [List.mem_singleton.1 hx]
  exact ⟨by unfold fitI; decide, by unfold fitI; decide, by unfold fitI; decide, by unfold fitI; decide, by decide, by decide, by decide, fun e he => (by cases he), fun e he => (by cases he)⟩
end Go.Proofs.YtbbaoeidobdblaaGreat.Sx

/- Plain: what a journal's chip has, and what is found on it. -/
set_option linter.unusedVariables false
set_option linter.unusedSimpArgs false
namespace Go.Proofs.YtbbaoeidobdblaaGreat.Sx
open Go
def isB (l : List Int) : Prop := ∀ x, x ∈ l → 0 ≤ x ∧ x ≤ 255
theorem isB_app {a b : List Int} : isB (a ++ b) ↔ isB a ∧ isB b := by
  unfold isB
  constructor
  · exact fun h => ⟨fun x hx => h x (List.mem_append_left _ hx), fun x hx => h x (List.mem_append_right _ hx)⟩
  · rintro ⟨h1, h2⟩ x hx
    rcases List.mem_append.1 hx with h | h
    · exact h1 x h
    · exact h2 x h
theorem isB_rep (k : Nat) : isB (List.replicate k 255) := fun x hx => by rw [(List.mem_replicate.1 hx).2]; decide
theorem isB_rec {l : List Int} (h : isB l) : isB (recB l) := isB_app.2 ⟨bodyB_byte l h, fun x hx => by rw [List.mem_singleton.1 hx]; decide⟩
/-- The first record is found. -/
theorem next_rec {l rest : List Int} (hb : isB l) (hl : l.length ≤ 65000) : nextM (recB l ++ rest) = some l := by
  have hs := sumM_le (lowB l.length 2 ++ l)
  have h2 : (recB l ++ rest).take 2 = lowB l.length 2 := by
    simp only [recB, bodyB, List.append_assoc]
    rw [List.take_append_of_le_length (by rw [lowB_length]; exact Nat.le_refl _), List.take_of_length_le (by rw [lowB_length]; exact Nat.le_refl _)]
  have h6 : (recB l ++ rest).drop 2 = lowB (sumM (lowB l.length 2 ++ l)) 4 ++ (l ++ ([0] ++ rest)) := by
    simp only [recB, bodyB, List.append_assoc]
    rw [List.drop_append_of_le_length (by rw [lowB_length]; exact Nat.le_refl _), List.drop_of_length_le (by rw [lowB_length]; exact Nat.le_refl _), List.nil_append]
  have h4 : ((recB l ++ rest).drop 2).take 4 = lowB (sumM (lowB l.length 2 ++ l)) 4 := by
    rw [h6, List.take_append_of_le_length (by rw [lowB_length]; exact Nat.le_refl _), List.take_of_length_le (by rw [lowB_length]; exact Nat.le_refl _)]
  have h7 : (recB l ++ rest).drop 6 = l ++ ([0] ++ rest) := by
    have : (recB l ++ rest).drop 6 = ((recB l ++ rest).drop 2).drop 4 := by rw [List.drop_drop]
    rw [this, h6, List.drop_append_of_le_length (by rw [lowB_length]; exact Nat.le_refl _), List.drop_of_length_le (by rw [lowB_length]; exact Nat.le_refl _), List.nil_append]
  have hv : valB (lowB l.length 2) = l.length := by rw [valB_lowB]; exact Int.emod_eq_of_lt (by omega) (by simp; omega)
  have hx : ((recB l ++ rest).drop 6).take l.length = l := by rw [h7, List.take_append_of_le_length (Nat.le_refl _), List.take_of_length_le (Nat.le_refl _)]
  have hf : (recB l ++ rest)[l.length + 6]? = some 0 := by
    have : (recB l ++ rest)[l.length + 6]? = ((recB l ++ rest).drop 6)[l.length]? := by rw [List.getElem?_drop, Nat.add_comm]
    rw [this, h7, List.getElem?_append_right (Nat.le_refl _)]
    simp
  unfold nextM
  rw [if_neg (by rw [List.length_append, recB_length]; omega), h2, hv, if_neg (by rw [List.length_append, recB_length]; omega)]
  rw [Int.toNat_natCast, hx, h4, if_pos]
  refine ⟨?_, hf⟩
  rw [valB_lowB]
  exact (Int.emod_eq_of_lt hs.1 (by rw [p256_4]; exact hs.2)).symm
theorem next_clean (k : Nat) : nextM (List.replicate k 255) = none := by
  unfold nextM
  by_cases h : k < 2
  · rw [if_pos (by simpa using h)]
  · rw [if_neg (by simpa using h)]
    have e : (List.replicate k (255 : Int)).take 2 = [255, 255] := by
      rw [List.take_replicate, Nat.min_eq_left (by omega)]
      rfl
    rw [e]
    have : valB [255, 255] = 65535 := by decide
    rw [this, if_pos (.inl (by decide))]
def recsB (ls : List (List Int)) : List Int := ls.flatMap recB
theorem recsB_cons (l : List Int) (ls : List (List Int)) : recsB (l :: ls) = recB l ++ recsB ls := rfl
theorem recsB_snoc (ls : List (List Int)) (l : List Int) : recsB (ls ++ [l]) = recsB ls ++ recB l := by simp [recsB]
theorem recsB_length (ls : List (List Int)) : (recsB ls).length = totP (ls.map fun y => (y, y.length)) := by
  induction ls with
  | nil => rfl
  | cons x r ih => rw [recsB_cons, List.length_append, recB_length, ih]; rfl
theorem scan_recs (b : List Int) : ∀ (ls : List (List Int)) (k o f : Nat), (∀ l ∈ ls, isB l ∧ l.length ≤ 65000) → b.drop o = recsB ls ++ List.replicate k 255 → b.length - o ≤ f → scanN b f o = (ls, o + (recsB ls).length)
  | [], k, o, f, _, h, hf => by
    have h1 : nextM (b.drop o) = none := by rw [h]; exact next_clean k
    cases f with
    | zero => simp [scanN, recsB]
    | succ f => rw [scanN, h1]; simp [recsB]
  | l :: ls, k, o, f, hl, h, hf => by
    have h0 := hl l List.mem_cons_self
    rw [recsB_cons, List.append_assoc] at h
    have hlen := congrArg List.length h
    rw [List.length_drop, List.length_append, recB_length] at hlen
    obtain ⟨f, rfl⟩ : ∃ g, f = g + 1 := ⟨f - 1, by omega⟩
    have h1 : nextM (b.drop o) = some l := by rw [h]; exact next_rec h0.1 h0.2
    have h2 : b.drop (o + (l.length + 7)) = recsB ls ++ List.replicate k 255 := by
      rw [← List.drop_drop, h, ← recB_length, List.drop_append_of_le_length (Nat.le_refl _), List.drop_of_length_le (Nat.le_refl _), List.nil_append]
    have ih := scan_recs b ls k (o + (l.length + 7)) f (fun x hx => hl x (List.mem_cons_of_mem _ hx)) h2 (by omega)
    rw [scanN, h1]
    simp only
    rw [ih, recsB_cons, List.length_append, recB_length, Nat.add_assoc]
theorem scan_clean {ls : List (List Int)} {k : Nat} (hl : ∀ l ∈ ls, isB l ∧ l.length ≤ 65000) : scanM (recsB ls ++ List.replicate k 255) = (ls, (recsB ls).length, true) := by
  have h := scan_recs (recsB ls ++ List.replicate k 255) ls k 0 _ hl (List.drop_zero ..) (Nat.le_refl _)
  rw [Nat.zero_add, Nat.sub_zero] at h
  unfold scanM
  rw [h]
  simp only
  rw [List.drop_append_of_le_length (Nat.le_refl _), List.drop_of_length_le (Nat.le_refl _), List.nil_append]
  simp
/-- Deeds that may be packed into one record. -/
structure FitL (l : List Dee) : Prop where
  each : ∀ d ∈ l, FitD d
theorem deedsB_isB (l : List Dee) : isB (deedsB l) := deedsB_byte l
theorem firstB_isB (e : Int) (s : Sta) : isB (firstB e s) := firstB_byte e s
theorem ep_first {e : Int} (s : Sta) (h : 1 ≤ e ∧ e ≤ 2147483647) : (getM (firstB e s) 0 8).2 = 0 ∧ epOf (firstB e s) = e ∧ (firstB e s).drop 8 = deedsB (wholeL s) := by
  have hl := firstB_length e s
  have h1 : getM (firstB e s) 0 8 = (e % 18446744073709551616, 0) := by
    unfold getM
    rw [if_neg (by omega), List.drop_zero]
    have : (firstB e s).take 8 = intB e := by
      unfold firstB
      rw [List.take_append_of_le_length (by rw [intB_length]; exact Nat.le_refl _), List.take_of_length_le (by rw [intB_length]; exact Nat.le_refl _)]
    rw [this, intB, valB_lowB, p256_8]
    congr 1
    omega
  refine ⟨by rw [h1], ?_, ?_⟩
  · unfold epOf
    rw [h1]
    exact wrap_mod ⟨by omega, by omega⟩
  · unfold firstB
    rw [List.drop_append_of_le_length (by rw [intB_length]; exact Nat.le_refl _), List.drop_of_length_le (by rw [intB_length]; exact Nat.le_refl _), List.nil_append]
/-- The records of a half: the state at its begin, and deeds. -/
def halfL (e : Int) (s : Sta) (ds : List (List Dee)) : List (List Int) := firstB e s :: ds.map deedsB
noncomputable def stateL (s : Sta) (ds : List (List Dee)) : Sta := ds.foldl applyL s
theorem stateL_snoc (s : Sta) (ds : List (List Dee)) (d : List Dee) : stateL s (ds ++ [d]) = applyL (stateL s ds) d := by simp [stateL]
theorem goP_deeds : ∀ (ds : List (List Dee)) (s : Sta) (u : Nat), (∀ d ∈ ds, FitL d) → goP s u ((ds.map deedsB).map fun y => (y, y.length)) = (stateL s ds, u + totP ((ds.map deedsB).map fun y => (y, y.length)))
  | [], s, u, _ => by simp [goP, stateL, totP]
  | d :: r, s, u, h => by
    have h1 := parse_deeds (h d List.mem_cons_self).each
    have ih := goP_deeds r (applyL s d) (u + ((deedsB d).length + 7)) fun x hx => h x (List.mem_cons_of_mem _ hx)
    simp only [List.map_cons, goP, h1, ne_eq, not_true, if_false, totP]
    rw [apply_canon, ih]
    simp only [stateL, List.foldl_cons]
    rw [Nat.add_assoc]
theorem read_half {e : Int} {s : Sta} {ds : List (List Dee)} {k : Nat} (he : 1 ≤ e ∧ e ≤ 2147483647) (hs : StaOk s) (hd : ∀ d ∈ ds, FitL d) (hl : ∀ l ∈ halfL e s ds, l.length ≤ 65000) :
    readM (recsB (halfL e s ds) ++ List.replicate k 255) = ⟨e, (recsB (halfL e s ds)).length, stateL s ds, false⟩ := by
  have hsc := scan_clean (ls := halfL e s ds) (k := k) fun l h => ⟨by
    rcases List.mem_cons.1 h with rfl | h
    · exact firstB_isB e s
    · obtain ⟨d, _, rfl⟩ := List.mem_map.1 h
      exact deedsB_isB d, hl l h⟩
  obtain ⟨e1, e2, e3⟩ := ep_first s he
  have hp := parse_deeds (whole_fit hs)
  have hg : goP staZ 0 (recL (halfL e s ds)) = (stateL s ds, (recsB (halfL e s ds)).length) := by
    show goP staZ 0 (((firstB e s).drop 8, (firstB e s).length) :: (ds.map deedsB).map fun y => (y, y.length)) = _
    rw [goP, e3, hp]
    simp only [ne_eq, not_true, if_false]
    rw [apply_canon, whole_apply hs, goP_deeds ds s _ hd, recsB_length]
    simp only [halfL, List.map_cons, totP, Nat.zero_add]
  unfold readM
  rw [hsc]
  simp only [halfL]
  rw [if_neg (by rw [e1, e2]; omega), e3, hp]
  simp only [ne_eq, not_true, if_false]
  have hg' := hg
  simp only [halfL] at hg'
  rw [hg', e2]
  simp
theorem read_clean (k : Nat) : readM (List.replicate k 255) = fndZ := by
  have h := scan_clean (ls := []) (k := k) fun l h => by cases h
  have e : recsB [] ++ List.replicate k (255 : Int) = List.replicate k 255 := rfl
  rw [e] at h
  unfold readM
  rw [h]
/-- A half of bytes. -/
def hB (b : List Int) (H h : Nat) : List Int := (b.drop (h * H)).take H
theorem halfB_eq (c : Cp) (h : Nat) : halfB c h = hB c.b (halfSz c) h := rfl
theorem hB_length {b : List Int} {H h : Nat} (hb : b.length = 2 * H) (hh : h < 2) : (hB b H h).length = H := by
  have : h = 0 ∨ h = 1 := by omega
  rw [hB, List.length_take, List.length_drop]
  rcases this with rfl | rfl <;> omega
theorem hB_get (b : List Int) (H h i : Nat) : (hB b H h)[i]? = if i < H then b[h * H + i]? else none := by
  unfold hB
  rw [List.getElem?_take, List.getElem?_drop]
theorem hB_lay {b : List Int} {H h o : Nat} (hb : b.length = 2 * H) (hh : h < 2) (xs : List Int) (ho : o + xs.length ≤ H) : hB (layI b (h * H + o) xs) H h = layI (hB b H h) o xs ∧ hB (layI b (h * H + o) xs) H (1 - h) = hB b H (1 - h) := by
  have hl := hB_length hb hh
  have h01 : h = 0 ∨ h = 1 := by omega
  have hm : h * H + o + xs.length ≤ b.length := by rcases h01 with rfl | rfl <;> omega
  constructor
  · apply List.ext_getElem?
    intro i
    rw [layI_get _ _ _ (by omega), hB_get, hB_get, layI_get _ _ _ hm]
    by_cases h1 : i < H
    · rw [if_pos h1, if_pos h1]
      by_cases h2 : i < o
      · rw [if_pos (by omega), if_pos h2]
      · rw [if_neg (by omega), if_neg h2]
        by_cases h3 : i < o + xs.length
        · rw [if_pos (by omega), if_pos h3]
          congr 1
          omega
        · rw [if_neg (by omega), if_neg h3]
    · rw [if_neg h1, if_neg h1, if_neg (by omega), if_neg (by omega)]
  · apply List.ext_getElem?
    intro i
    rw [hB_get, hB_get, layI_get _ _ _ hm]
    by_cases h1 : i < H
    · rw [if_pos h1, if_pos h1]
      rcases h01 with rfl | rfl
      · rw [if_neg (by omega), if_neg (by omega)]
      · rw [if_pos (by omega)]
    · rw [if_neg h1, if_neg h1]
theorem hB_full {b : List Int} {H h : Nat} (hb : b.length = 2 * H) (hh : h < 2) : hB (layI b (h * H) (List.replicate H 255)) H h = List.replicate H 255 ∧ hB (layI b (h * H) (List.replicate H 255)) H (1 - h) = hB b H (1 - h) := by
  have h1 := hB_lay (o := 0) hb hh (List.replicate H 255) (by simp)
  rw [Nat.add_zero] at h1
  refine ⟨?_, h1.2⟩
  rw [h1.1]
  have := hB_length hb hh
  unfold layI
  rw [List.take_zero, List.nil_append, Nat.zero_add, List.length_replicate, List.drop_of_length_le (by omega), List.append_nil]
theorem lay_tail (a : List Int) (k : Nat) (xs : List Int) (h : xs.length ≤ k) : layI (a ++ List.replicate k 255) a.length xs = a ++ xs ++ List.replicate (k - xs.length) 255 := by
  unfold layI
  rw [List.take_append_of_le_length (Nat.le_refl _), List.take_of_length_le (Nat.le_refl _), ← List.drop_drop, List.drop_append_of_le_length (Nat.le_refl _), List.drop_of_length_le (Nat.le_refl _), List.nil_append, List.drop_replicate]
/-- A journal whose chip has what it is. -/
structure Jon (j : Jn) : Prop extends Jok j where
  bytes : j.c.bytes
  sok : StaOk j.s
  on : ∃ s0 ds, StaOk s0 ∧ (∀ d ∈ ds, FitL d) ∧ j.s = stateL s0 ds ∧ j.used = (recsB (halfL j.ep s0 ds)).length ∧ halfB j.c j.half = recsB (halfL j.ep s0 ds) ++ List.replicate (halfSz j.c - j.used) 255
  other : (readM (halfB j.c (1 - j.half))).ep < j.ep
theorem totP_le {ls : List (List Int)} {l : List Int} (h : l ∈ ls) : l.length + 7 ≤ (recsB ls).length := by
  induction ls with
  | nil => cases h
  | cons x r ih =>
    rw [recsB_cons, List.length_append, recB_length]
    rcases List.mem_cons.1 h with rfl | h
    · omega
    · have := ih h
      omega
theorem jon_read {j : Jn} (h : Jon j) : readM (halfB j.c j.half) = ⟨j.ep, j.used, j.s, false⟩ := by
  obtain ⟨s0, ds, h1, h2, h3, h4, h5⟩ := h.on
  have hz := half_le h.fit
  have hu := h.used
  rw [h5, read_half h.ep h1 h2 fun l hl => by have := totP_le hl; omega, h3, h4]
end Go.Proofs.YtbbaoeidobdblaaGreat.Sx

/- Plain: journals go on being what their chips have. -/
set_option linter.unusedVariables false
set_option linter.unusedSimpArgs false
namespace Go.Proofs.YtbbaoeidobdblaaGreat.Sx
open Go
theorem isB_lay {b : List Int} (hb : isB b) {xs : List Int} (hx : isB xs) (o : Nat) : isB (layI b o xs) := by
  unfold layI
  exact isB_app.2 ⟨isB_app.2 ⟨fun x h => hb x (List.mem_of_mem_take h), hx⟩, fun x h => hb x (List.mem_of_mem_drop h)⟩
theorem rep_lay (H : Nat) (xs : List Int) (h : xs.length ≤ H) : layI (List.replicate H 255) 0 xs = xs ++ List.replicate (H - xs.length) 255 := by
  have := lay_tail [] H xs h
  simpa using this
theorem halfSz_ge {c : Cp} (hf : c.fit) : 256 ≤ halfSz c := by
  obtain ⟨q0, ⟨q1, q2⟩, ⟨q3, q4⟩, _⟩ := id hf.right
  have h5 : 1 ≤ halfN c := by unfold halfN; omega
  have h6 : 256 ≤ c.g.sector.toNat := by omega
  have := Nat.mul_le_mul h5 h6
  unfold halfSz
  omega
theorem jon_form {c : Cp} (hf : c.fit) (hp : live c.p) (x : Nat × Sl) : Jon (formJ c x) ∧ c.same (formJ c x).c := by
  obtain ⟨hj, hs⟩ := form_ok hf hp x
  obtain ⟨_, _, _, _, _, q, h1, h2⟩ := form_live hf hp
  have hlen := (half_two hf).1
  have hge := halfSz_ge hf
  have hr : (firstB 1 newSta).length + 7 ≤ halfSz c := by rw [first_new]; omega
  have hz := hs.halfSz
  have hb : (formJ c x).c.b = layI (List.replicate c.b.length 255) 0 (recB (firstB 1 newSta)) := by
    show (formC c).2.b = _
    rw [h2]
  have hbl : (List.replicate c.b.length (255 : Int)).length = 2 * halfSz c := by rw [List.length_replicate]; exact hlen
  have hlay := hB_lay (o := 0) (h := 0) hbl (by decide) (recB (firstB 1 newSta)) (by rw [recB_length]; omega)
  have hrep : ∀ h, h < 2 → hB (List.replicate c.b.length 255) (halfSz c) h = List.replicate (halfSz c) 255 := fun h hh => by
    have : h = 0 ∨ h = 1 := by omega
    unfold hB
    rw [List.drop_replicate, List.take_replicate]
    congr 1
    rcases this with rfl | rfl <;> omega
  rw [hrep 0 (by decide), hrep 1 (by decide), Nat.zero_mul, Nat.zero_add] at hlay
  refine ⟨⟨hj, ?_, new_ok, ⟨newSta, [], new_ok, (fun d hd => absurd hd List.not_mem_nil), rfl, ?_, ?_⟩, ?_⟩, hs⟩
  · show isB _
    rw [hb]
    exact isB_lay (isB_rep _) (isB_rec (firstB_isB _ _)) _
  · show (firstB 1 newSta).length + 7 = (recB (firstB 1 newSta) ++ []).length
    rw [List.append_nil, recB_length]
  · show halfB (formJ c x).c 0 = (recB (firstB 1 newSta) ++ []) ++ List.replicate (halfSz (formJ c x).c - ((firstB 1 newSta).length + 7)) 255
    rw [halfB_eq, hz, hb, hlay.1, rep_lay _ _ (by rw [recB_length]; exact hr), List.append_nil, recB_length]
  · show (readM (halfB (formJ c x).c 1)).ep < 1
    rw [halfB_eq, hz, hb, hlay.2, read_clean]
    decide
theorem jon_more {j : Jn} (h : Jon j) {l : List Dee} (hl : FitL l) (x : Sl × Sl) (hle : j.used + ((deedsB l).length + 7) ≤ halfSz j.c) : ∃ q, commitM j l x = (0, ⟨{ j.c with p := q, b := layI j.c.b (j.half * halfSz j.c + j.used) (recB (deedsB l)) }, j.gj, j.half, j.ep, j.used + ((deedsB l).length + 7), applyL j.s l, x.1, x.2, false⟩) ∧ Jon (commitM j l x).2 ∧ j.c.same (commitM j l x).2.c := by
  obtain ⟨q, h1, h2, h3⟩ := commit_more h.toJok l x hle
  refine ⟨q, h1, ?_, h3⟩
  have hlen := (half_two h.fit).1
  have hz := h3.halfSz
  have hlay := hB_lay (o := j.used) hlen h.half (recB (deedsB l)) (by rw [recB_length]; exact hle)
  obtain ⟨s0, ds, g1, g2, g3, g4, g5⟩ := h.on
  rw [halfB_eq] at g5
  rw [h1] at h2 hz ⊢
  have hrl : halfL j.ep s0 (ds ++ [l]) = halfL j.ep s0 ds ++ [deedsB l] := by simp [halfL]
  refine ⟨h2, isB_lay h.bytes (isB_rec (deedsB_isB l)) _, apply_ok h.sok hl.each, ⟨s0, ds ++ [l], g1, ?_, ?_, ?_, ?_⟩, ?_⟩
  · intro d hd
    rcases List.mem_append.1 hd with hd | hd
    · exact g2 d hd
    · rw [List.mem_singleton.1 hd]; exact hl
  · rw [stateL_snoc, ← g3]
  · simp only
    rw [hrl, recsB_snoc, List.length_append, recB_length, g4]
  · simp only at hz ⊢
    rw [halfB_eq, hz, hlay.1, g5, g4, lay_tail _ _ _ (by rw [recB_length, ← g4]; omega), hrl, recsB_snoc, recB_length, Nat.sub_sub]
  · simp only at hz ⊢
    rw [halfB_eq, hz, hlay.2, ← halfB_eq]
    exact h.other
theorem jon_anew {j : Jn} (h : Jon j) {s : Sta} (hs : StaOk s) (si sb : Sl) (h1 : wholeB s + 15 ≤ halfSz j.c) (h2 : j.ep < 2147483647) : ∃ q, anewM j s si sb = (0, ⟨{ j.c with p := q, b := anewB j.c (1 - j.half) (firstB (j.ep + 1) s), er := erN j.c.er ((1 - j.half) * halfN j.c) (halfN j.c) }, j.gj, 1 - j.half, j.ep + 1, wholeB s + 15, s, si, sb, false⟩) ∧ Jon (anewM j s si sb).2 ∧ j.c.same (anewM j s si sb).2.c := by
  obtain ⟨q, e1, e2, e3⟩ := anew_yes h.toJok s si sb h1 h2
  refine ⟨q, e1, ?_, e3⟩
  have hlen := (half_two h.fit).1
  have hz := e3.halfSz
  have hh : 1 - j.half < 2 := by omega
  have hfl : (firstB (j.ep + 1) s).length = 8 + wholeB s := firstB_length _ _
  have hbl : (layI j.c.b ((1 - j.half) * halfSz j.c) (List.replicate (halfSz j.c) 255)).length = 2 * halfSz j.c := by
    rw [layI_len, hlen]
    rw [List.length_replicate]
    exact half_fits h.fit hh
  have hlay := hB_lay (o := 0) hbl hh (recB (firstB (j.ep + 1) s)) (by rw [recB_length]; omega)
  have hful := hB_full hlen hh
  rw [hful.1, hful.2, Nat.add_zero] at hlay
  rw [e1] at e2 hz ⊢
  simp only at hz
  have hoh : 1 - (1 - j.half) = j.half := by have := h.half; omega
  refine ⟨e2, isB_lay (isB_lay h.bytes (isB_rep _) _) (isB_rec (firstB_isB _ _)) _, hs, ⟨s, [], hs, (fun d hd => absurd hd List.not_mem_nil), rfl, ?_, ?_⟩, ?_⟩
  · show wholeB s + 15 = (recB (firstB (j.ep + 1) s) ++ []).length
    rw [List.append_nil, recB_length]
    omega
  · show halfB _ (1 - j.half) = (recB (firstB (j.ep + 1) s) ++ []) ++ List.replicate (_ - (wholeB s + 15)) 255
    rw [halfB_eq]
    simp only
    rw [hz, anewB, hlay.1, rep_lay _ _ (by rw [recB_length]; omega), List.append_nil, recB_length, show (firstB (j.ep + 1) s).length + 7 = wholeB s + 15 by omega]
  · show (readM (halfB _ (1 - (1 - j.half)))).ep < j.ep + 1
    rw [hoh, halfB_eq]
    simp only
    rw [hz, anewB]
    have := hlay.2
    rw [hoh] at this
    rw [this, ← halfB_eq, jon_read h]
    simp only
    omega
/-- What becomes of a commit. -/
theorem jon_commit {j : Jn} (h : Jon j) {l : List Dee} (hl : FitL l) (x : Sl × Sl) (he : j.ep < 2147483647) :
    ((commitM j l x).1 = 0 ∧ Jon (commitM j l x).2 ∧ (commitM j l x).2.s = applyL j.s l ∧ (commitM j l x).2.si = x.1 ∧ (commitM j l x).2.sb = x.2 ∧ (commitM j l x).2.gj = j.gj ∧ j.c.same (commitM j l x).2.c ∧ ((commitM j l x).2.ep = j.ep ∧ (commitM j l x).2.half = j.half ∧ (commitM j l x).2.c.er = j.c.er ∧ j.used + ((deedsB l).length + 7) ≤ halfSz j.c ∨ (commitM j l x).2.ep = j.ep + 1 ∧ (commitM j l x).2.half = 1 - j.half ∧ (commitM j l x).2.c.er = erN j.c.er ((1 - j.half) * halfN j.c) (halfN j.c) ∧ wholeB (applyL j.s l) + 15 ≤ halfSz j.c ∧ halfSz j.c < j.used + ((deedsB l).length + 7))) ∨
    (commitM j l x = (10, j) ∧ halfSz j.c < wholeB (applyL j.s l) + 15 ∧ halfSz j.c < j.used + ((deedsB l).length + 7)) := by
  rcases Nat.lt_or_ge (halfSz j.c) (j.used + ((deedsB l).length + 7)) with h1 | h1
  · rw [commit_anew h.toJok _ _ h1]
    rcases Nat.lt_or_ge (halfSz j.c) (wholeB (applyL j.s l) + 15) with h2 | h2
    · exact .inr ⟨anew_no _ _ _ (.inl h2), h2, h1⟩
    · obtain ⟨q, e1, e2, e3⟩ := jon_anew h (apply_ok h.sok hl.each) x.1 x.2 h2 he
      exact .inl ⟨by rw [e1], e2, by rw [e1], by rw [e1], by rw [e1], by rw [e1], e3, .inr ⟨by rw [e1], by rw [e1], by rw [e1], h2, h1⟩⟩
  · obtain ⟨q, e1, e2, e3⟩ := jon_more h hl x h1
    exact .inl ⟨by rw [e1], e2, by rw [e1], by rw [e1], by rw [e1], by rw [e1], e3, .inl ⟨by rw [e1], by rw [e1], by rw [e1], h1⟩⟩
end Go.Proofs.YtbbaoeidobdblaaGreat.Sx

/- garretlaw17.awake. -/
set_option linter.unusedVariables false
set_option linter.unusedSimpArgs false
namespace Go.Proofs.YtbbaoeidobdblaaGreat.Sx
open Go
attribute [local simp ↓] ifb_true' ifb_false'
attribute [local simp] ifb_true ifb_false ifb_eq sx argsT find ev evOp evs evo evBin evInt evStr evNil evNilA ptrA slcA isNoneA asB evLoad look del cellsB evUn evConv kdec fld evFieldA evField evIdxA evIdx evSlc bndL bndH evLen mmi put resV guardV gvL setO tupV cellsOf ones one upd lits nv exitTo SV.val CV.val TI.agg rdyA allR keepB scan simpO gsp isS subs keepT pickT wr memN pubs Res.fact Region.binds bld rest give delL back Res.eqv vi vb num Sv.val undef
/-- One deed that tells the next number. -/
def nextD (v : Int) : Dee := ⟨1, v, inoZ⟩
theorem nextD_fit {v : Int} (h : fitI v) : FitL [nextD v] := ⟨fun d hd => by
  rw [List.mem_singleton.1 hd]
  exact ⟨.inl rfl, fun _ => h, fun e => absurd e (by simp [nextD])⟩⟩
theorem nextD_len (v : Int) : (deedsB [nextD v]).length = 9 := by
  simp only [deedsB, List.flatMap_cons, List.flatMap_nil, List.append_nil, nextD]
  exact num_len 1 _ _ (.inl rfl)
theorem nextD_row {W : World} {g : Nat} {v : Int} (h : W.ownsRow 0 46 9 (.slice (some ⟨g, 0, none⟩) 1 1) 1 [.int .i64 1, .int .i64 v, .int .i64 0, .int .i64 0, .int .i64 0, .int .i64 0, .string ⟨#[]⟩, .slice none 0 0, .slice none 0 0]) : Sv.ok dDee W (some ⟨g, 0, none⟩, 1, 1) [nextD v] :=
  (Rows.sole (d := dDee) (x := nextD v) ⟨(none, 0), (none, 0), rfl, ⟨Nat.zero_le _, Nat.zero_le _, rd_nil _ _ _⟩, ⟨Nat.zero_le _, Nat.zero_le _, rd_nil _ _ _⟩⟩).sv (by decide) (by simp) h
theorem next_apply (s : Sta) (v : Int) : applyL s [nextD v] = { s with next := v } := by
  show applyOne s (nextD v) = _
  unfold applyOne
  rw [if_pos (show (nextD v).kind = 1 from rfl)]
  rfl
theorem new_whole : wholeB newSta = 54 := by
  have h := firstB_length 1 newSta
  rw [first_new] at h
  show (deedsB (wholeL newSta)).length = 54
  omega
set_option maxRecDepth 100000 in
set_option maxHeartbeats 4000000 in
theorem awake17 (w : World) (I : Nat → Prop) (hI : ∀ b, I b → b < w.heap.size) :
    Fn0 Tryz.prog 14 #[] w I (fun _ : Unit => .bool true) (fun _ _ => True) := by
  refine enter (svs := []) tysOk Tryz.func14 rfl Tryz.ntmps14 Tryz.results14 (by kernel_rfl) (by simp) hI (fun _ => True) (fun _ _ => trivial) fun C hC hN ok => ?_
  simp [hN]
  refine call0 ok rfl rfl rfl (fun w I hI hG => wide0 w I hI) fun _ W _ => ?_
  simp [hN]
  refine callS ok rfl rfl rfl [] [] trivial rfl (fun gp : Nat => [(1001, .box gp 108 (powB ⟨-1, 0, false, 0⟩ (.map none)))]) (fun w I S hI hG hO hS => (powNew0 w I hI).lone hO) (fun r => by simp) (.inl fun k hk => by cases hk) fun gp W _ => ?_
  simp [hN]
  obtain ⟨nb, hnb, hnb0, hnb1⟩ : ∃ nb : Nat, wideG.sectors * wideG.sector = (nb : Nat) ∧ 0 < nb ∧ nb ≤ 100000 := ⟨16384, by decide, by decide, by decide⟩
  refine callS ok rfl rfl rfl [] [] trivial rfl (fun x : Nat × Nat × Nat × Nat => [(1000, (newCp wideG gp ⟨-1, 0, false, 0⟩ (.map none) x nb).chip), (1002, (newCp wideG gp ⟨-1, 0, false, 0⟩ (.map none) x nb).row), (1003, (newCp wideG gp ⟨-1, 0, false, 0⟩ (.map none) x nb).map)]) (fun w I S hI hG hO hS => (norNew0 w I hI wideG gp nb ⟨-1, 0, false, 0⟩ (.map none) wide_right hnb hnb0 hnb1).lone hO) (fun r => by simp [Cp.map, mapR]) (.inl fun k hk => by cases hk) fun x W _ => ?_
  obtain ⟨c0, hc0⟩ : ∃ c0, c0 = newCp wideG gp ⟨-1, 0, false, 0⟩ (.map none) x nb := ⟨_, rfl⟩
  have hfit : c0.fit := by
    rw [hc0]
    exact ⟨wide_right, by simp only [newCp, List.length_replicate]; exact hnb.symm, by simp [newCp], by simp [newCp]⟩
  have hlive : live c0.p := by rw [hc0]; exact ⟨(by decide : (-1 : Int) < 0), rfl⟩
  have hgc : c0.gc = x.1 := by rw [hc0]; rfl
  have hpw : (.box gp 108 (powB ⟨-1, 0, false, 0⟩ (.map none)) : Res) = c0.pow := by rw [hc0]; rfl
  have hG0 : c0.g = wideG := by rw [hc0]; rfl
  have her : c0.er = [] := by rw [hc0]; rfl
  rw [hpw]
  simp only [← hc0, ← hgc]
  clear hpw hc0
  simp [hN]
  have hform := form_live hfit hlive
  refine callS ok rfl rfl rfl [1000, 1001, 1002, 1003] c0.res (by simp [Cp.map, mapR]) rfl (fun x : Nat × Sl => [(1000, (formJ c0 x).c.chip), (1001, (formJ c0 x).c.pow), (1002, (formJ c0 x).c.row), (1003, (formJ c0 x).c.map), (1004, (formJ c0 x).box)]) (fun w I S hI hG hO hS' => format0 w I S hI c0 hfit hform.1 hform.2.1 hform.2.2.1 hO hS') (fun r => by simp [Cp.map, mapR]) (.inr fun x q hq => by simp at hq; rcases hq with rfl | rfl | rfl | rfl | rfl <;> simp) fun y W hy => ?_
  have hJ0 := jon_form hfit hlive y
  have hj0 : (formJ c0 y).gj = y.1 ∧ (formJ c0 y).s = newSta ∧ (formJ c0 y).si = y.2 ∧ (formJ c0 y).sb = (none, 0) ∧ (formJ c0 y).ep = 1 ∧ (formJ c0 y).half = 0 := ⟨rfl, rfl, rfl, rfl, rfl, rfl⟩
  obtain ⟨j, hj⟩ : ∃ j, j = formJ c0 y := ⟨_, rfl⟩
  simp only [← hj] at hJ0 hj0
  simp only [← hj]
  rw [← hj0.1]
  simp [hN]
  refine callS ok rfl rfl rfl [1004] [j.box] (by simp) rfl (fun _ : Unit => [(1004, j.box)]) (fun w I S hI hG hO hS' => epoch0 w I S hI j hO hS') (fun r => by simp) (.inr fun x q hq => by simp at hq; subst hq; simp) fun _ W _ => ?_
  rw [hj0.2.2.2.2.1]
  simp [hN]
  intro gd
  have hge := halfSz_ge hJ0.1.fit
  have hused : j.used = 69 := by rw [hj]; show (firstB 1 newSta).length + 7 = 69; rw [first_new]
  have hcm : ∀ v : Sl × Sl, (commitM j [nextD 9] v).1 = 0 ∧ (commitM j [nextD 9] v).2.s.next = 9 ∧ (commitM j [nextD 9] v).2.gj = j.gj ∧ (commitM j [nextD 9] v).2.s = applyL j.s [nextD 9] ∧ (commitM j [nextD 9] v).2.si = v.1 ∧ (commitM j [nextD 9] v).2.sb = v.2 := fun v => by
    rcases jon_commit hJ0.1 (nextD_fit (v := 9) (by unfold fitI; decide)) v (by rw [hj0.2.2.2.2.1]; decide) with h | h
    · exact ⟨h.1, by rw [h.2.2.1, next_apply], h.2.2.2.2.2.1, h.2.2.1, h.2.2.2.1, h.2.2.2.2.1⟩
    · have := h.2.2
      rw [nextD_len, hused] at this
      omega
  have hap := next_apply newSta 9
  refine pub 36 rfl (by decide) (callS ok rfl rfl rfl [1000, 1001, 1002, 1003, 1004] j.res (by simp [Cp.map, mapR]) rfl (fun v : Sl × Sl => [(1000, (commitM j [nextD 9] v).2.c.chip), (1001, (commitM j [nextD 9] v).2.c.pow), (1002, (commitM j [nextD 9] v).2.c.row), (1003, (commitM j [nextD 9] v).2.c.map), (1004, (commitM j [nextD 9] v).2.box)]) (fun w I S hI hG hO hS' => commit0 w I S hI j (a := some ⟨gd, 0, none⟩) (n := 1) (c := 1) [nextD 9] hJ0.1.fit hJ0.1.half (by have := hJ0.1.ep; omega) (by omega) (fun W e => by rw [hj0.2.1, hj0.2.2.1, hj0.2.2.2.1]; exact (hG W e).2) (fun W e => nextD_row (hG W e).1) (by rw [hj0.2.1]; decide) (by rw [hj0.2.1, hap]; decide) (by rw [hj0.2.1, hap]; show wholeB _ ≤ _; rw [whole_w]; have := whole_w newSta; rw [new_whole] at this; show 9 + wS newSta ≤ _; omega) (by rw [nextD_len]; decide) hO hS') (fun r => by simp [Cp.map, mapR]) (.inr fun x q hq => by simp at hq; rcases hq with rfl | rfl | rfl | rfl | rfl <;> simp) fun v W hv => ?_)
  obtain ⟨h1, h2, h3, h4, h5, h6⟩ := hcm v
  rw [h1]
  simp [hN]
  generalize (commitM j [nextD 9] v).2 = j2 at h2 h3 h4 h5 h6 ⊢
  refine callS ok rfl rfl rfl [1004] [j2.box] (by simp) rfl (fun _ : Sl × Sl => [(1004, j2.box)]) (fun w I S hI hG hO hS' => by have := state0 w I S hI j2 (fun W e => by rw [h4, h5, h6]; exact (hG W e).1 hJ0.1.ended) (by rw [h4, hj0.2.1, hap]; decide) hO hS'; rw [h3] at this; exact this) (fun r => by simp) (.inr fun x q hq => by simp at hq; subst hq; simp) fun z W _ => ?_
  have hn : (applyL j2.s []).next = 9 := h2
  simp [hN, hn]
  exact ret0 hC () rfl fun _ _ _ => trivial
end Go.Proofs.YtbbaoeidobdblaaGreat.Sx

/- What the rows share: structs of ints that came in, opened; contracts, as a row wants them. -/
set_option linter.unusedVariables false
set_option linter.unusedSimpArgs false
namespace Go.Proofs.YtbbaoeidobdblaaGreat.Rowl
open Go.ChangeShapes Go.WideShapes Go.ChangeAt Go.RowKit Go.Joins Go.Deep
section
variable {H : Type} {enc : TypeId × Value → H} {P : Program} {w : World} {base : Nat} {spare : Nat → Bool} {held : Bool}
theorem agg5_in {r : Reach} {b0 : Nat} {t e : TypeId} {f0 f1 f2 f3 f4 : Field} {v : Value} {d : DataW H} {p : List MemPlace} (hs : P.underlying t = some (.struct #[f0, f1, f2, f3, f4])) (hone : oneCellFields P #[f0, f1, f2, f3, f4] = true) (hC : P.cellsOf t = 5)
    (he : P.underlying e = some (.int .i64)) (ht : f0.type = e ∧ f1.type = e ∧ f2.type = e ∧ f3.type = e ∧ f4.type = e)
    (hv : Value.okWide P w r b0 t v) (h : DataW.Trod enc P w base spare held t v d p) :
    ∃ a b c x y : Int, v = .agg #[.int .i64 a, .int .i64 b, .int .i64 c, .int .i64 x, .int .i64 y] := by
  obtain ⟨cs, rfl, hsz⟩ := okWide_struct hs hv
  obtain ⟨l⟩ := cs
  match l, hsz.trans hC with
  | [c0, c1, c2, c3, c4], _ =>
    obtain ⟨fuel, hf⟩ := h
    obtain ⟨xs, n, _, hx, _, hlen, hg⟩ := DataW.trod_struct hs hf
    obtain ⟨o0, k0⟩ := hone_of hone 0 f0 rfl
    obtain ⟨o1, k1⟩ := hone_of hone 1 f1 rfl
    obtain ⟨o2, k2⟩ := hone_of hone 2 f2 rfl
    obtain ⟨o3, k3⟩ := hone_of hone 3 f3 rfl
    obtain ⟨o4, k4⟩ := hone_of hone 4 f4 rfl
    match xs, hlen with
    | [y0, y1, y2, y3, y4], _ =>
      have g0 : DataW.trod enc P w base spare held n f0.type [c0] = some y0 := by simpa [Value.cells, o0, k0] using hg 0 f0 rfl
      have g1 : DataW.trod enc P w base spare held n f1.type [c1] = some y1 := by simpa [Value.cells, o1, k1] using hg 1 f1 rfl
      have g2 : DataW.trod enc P w base spare held n f2.type [c2] = some y2 := by simpa [Value.cells, o2, k2] using hg 2 f2 rfl
      have g3 : DataW.trod enc P w base spare held n f3.type [c3] = some y3 := by simpa [Value.cells, o3, k3] using hg 3 f3 rfl
      have g4 : DataW.trod enc P w base spare held n f4.type [c4] = some y4 := by simpa [Value.cells, o4, k4] using hg 4 f4 rfl
      obtain ⟨t0, t1, t2, t3, t4⟩ := ht
      rw [t0] at g0
      rw [t1] at g1
      rw [t2] at g2
      rw [t3] at g3
      rw [t4] at g4
      obtain ⟨z0, e0, _, _⟩ := DataW.trod_int he g0
      obtain ⟨z1, e1, _, _⟩ := DataW.trod_int he g1
      obtain ⟨z2, e2, _, _⟩ := DataW.trod_int he g2
      obtain ⟨z3, e3, _, _⟩ := DataW.trod_int he g3
      obtain ⟨z4, e4, _, _⟩ := DataW.trod_int he g4
      cases e0
      cases e1
      cases e2
      cases e3
      cases e4
      exact ⟨z0, z1, z2, z3, z4, rfl⟩
end
theorem row_calls {P : Program} {f : FuncId} {args : Array Value} {w : World} {I : Nat → Prop} (h : Sx.Fn0 P f args w I (fun b : Bool => .bool b) (fun y _ => y = true)) : Calls P f args w fun e w' => e = .returned (.bool true) ∧ w.grownBy w' none :=
  Calls.mono h.2 (by
    rintro e w' ⟨x, S', rfl, hg, _, _, hR⟩
    have := hR w' (Sx.Ext.refl _ _)
    simp only at this
    subst this
    exact ⟨rfl, ⟨hg.os, hg.tape, hg.output, hg.size, fun k hk _ => hg.block k ⟨hk, fun h => h⟩⟩⟩)
end Go.Proofs.YtbbaoeidobdblaaGreat.Rowl

/- Sx, part 17: bytes that nobody changes are copied into a row of one's own; what reads goes on reading. -/
set_option linter.unusedVariables false
set_option linter.unusedSimpArgs false
namespace Go.Proofs.YtbbaoeidobdblaaGreat.Sx
open Go
section
variable {P : Program} {C : Ctx} {T : Ty} {res : List ResultVar} {p : Pos} {tm : Tm} {m : Mem}
end
/-- What is there stays there. -/
theorem cell_keep {w W : World} (h : Ext (fun b => b < w.heap.size) w W) {a : Addr} {v : Value} (hc : w.cell? a = some v) : W.cell? a = some v := by
  have hb : a.block < w.heap.size := by
    rcases Nat.lt_or_ge a.block w.heap.size with hb | hb
    · exact hb
    · simp only [World.cell?, Array.getElem?_eq_none hb] at hc
      simp at hc
  rw [h.cell hb, hc]
def Keeps {α : Type} (d : Dt α) : Prop := ∀ {w W : World} {x : α} {cs : List Value}, Ext (fun b => b < w.heap.size) w W → d.K w x cs → d.K W x cs
theorem rd_keep {α : Type} {d : Dt α} (hd : Keeps d) {w W : World} (h : Ext (fun b => b < w.heap.size) w W) {a : Option Addr} {xs : List α} (hr : Rd d w a xs) : Rd d W a xs := fun hne => by
  obtain ⟨b, o, e, hc⟩ := hr hne
  exact ⟨b, o, e, fun i x hx => by
    obtain ⟨cs, k1, k2⟩ := hc i x hx
    exact ⟨cs, hd h k1, fun j v hv => cell_keep h (k2 j v hv)⟩⟩
theorem sl_keep {α : Type} {d : Dt α} (hd : Keeps d) {w W : World} (h : Ext (fun b => b < w.heap.size) w W) {s : Sl} {xs : List α} (hr : Sl.ok d w s xs) : Sl.ok d W s xs := ⟨hr.1, hr.2.1, rd_keep hd h hr.2.2⟩
theorem keepByte : Keeps dByte := fun _ h => h
theorem keepEnt : Keeps dEnt := fun _ h => h
theorem keepRn : Keeps dRn := fun _ h => h
theorem keepDee : Keeps dDee := fun h k => by
  obtain ⟨e, r, hc, h1, h2⟩ := k
  exact ⟨e, r, hc, sl_keep keepEnt h h1, sl_keep keepRn h h2⟩
end Go.Proofs.YtbbaoeidobdblaaGreat.Sx

/- garretlaw17: few, clean; nor.Chip.Load. -/
set_option linter.unusedVariables false
set_option linter.unusedSimpArgs false
namespace Go.Proofs.YtbbaoeidobdblaaGreat.Sx
open Go
attribute [local simp ↓] ifb_true' ifb_false'
attribute [local simp] ifb_true ifb_false ifb_eq sx argsT find ev evOp evs evo evBin evInt evStr evNil evNilA ptrA slcA isNoneA asB evLoad look del cellsB evUn evConv kdec fld evFieldA evField evIdxA evIdx evSlc bndL bndH evLen mmi put resV guardV gvL setO tupV cellsOf ones one upd lits nv exitTo SV.val CV.val TI.agg rdyA allR keepB scan simpO gsp isS subs keepT pickT wr memN pubs Res.fact Region.binds bld rest give delL back Res.eqv vi vb num Sv.val undef
theorem dee_ino {W : World} {a : Option Addr} {n c : Nat} {l : List Dee} (h : Sv.ok dDee W (a, n, c) l) {i : Nat} (hi : i < l.length) : ∃ b o, a = some ⟨b, o, none⟩ ∧ ∃ cs : List Value, cs.length = 7 ∧ (∀ j v, cs[j]? = some v → W.cell? ⟨b, o + i * 9 + 2 + j, none⟩ = some v) ∧ ∃ e r, cs = inoC l[i].ino e r ∧ InoR W l[i].ino e r := by
  obtain ⟨b, o, e, cs, ⟨es, rs, rfl, hr⟩, hl, hc⟩ := rd_get1 h hi
  refine ⟨b, o, e, inoC l[i].ino es rs, rfl, fun j v hv => ?_, es, rs, rfl, hr⟩
  have := hc (2 + j) v (by rw [Nat.add_comm]; exact hv)
  rw [← Nat.add_assoc] at this
  exact this
theorem ent_name {W : World} {a : Option Addr} {n c : Nat} {l : List Ent} (h : Sv.ok dEnt W (a, n, c) l) {i : Nat} (hi : i < l.length) : ∃ b o, a = some ⟨b, o, none⟩ ∧ W.cell? ⟨b, o + i * 2, none⟩ = some (.string l[i].name) := by
  obtain ⟨b, o, e, cs, hk, hl, hc⟩ := rd_get1 h hi
  have hk : cs = [.string l[i].name, .int .i64 l[i].no] := hk
  subst hk
  exact ⟨b, o, e, hc 0 _ rfl⟩
set_option maxRecDepth 10000 in
set_option maxHeartbeats 2000000 in
theorem few0 (w : World) (I : Nat → Prop) (hI : ∀ b, I b → b < w.heap.size) {a : Option Addr} {n c : Nat} (l : List Dee) (h : ∀ W, Ext I w W → Sv.ok dDee W (a, n, c) l) :
    Fn0 Tryz.prog 24 #[.slice a n c] w I (fun b : Bool => .bool b) (fun _ _ => True) := by
  obtain rfl : n = l.length := (h w (Ext.refl _ _)).1
  have hl := (h w (Ext.refl _ _)).2.2.1
  refine enter (svs := [.c (.v (.slice a l.length c))]) tysOk Tryz.func24 rfl Tryz.ntmps24 Tryz.results24 (by kernel_rfl) (by simp) hI (fun W => Sv.ok dDee W (a, l.length, c) l) h fun C hC hN ok => ?_
  simp [hN]
  refine loopK [0] ok (fun y : Nat × Int => [(4, .c (.v (.int .i64 (y.1 : Nat)))), (3, .c (.v (.int .i64 y.2)))]) (fun _ => []) (fun y W => y.1 ≤ l.length) (fun y => l.length - y.1) (0, 0) ?_ ?_ (fun W hW => Nat.zero_le _) ?_
  · simp
  · simp
  rintro ⟨i, z⟩ W hi hG next
  simp only at hi
  rcases Nat.lt_or_ge i l.length with hlt | hge
  · have e6 : IntKind.i64.wrap ((i : Int) + 1) = (i + 1 : Nat) := by rw [w64 (by omega) (by omega)]; omega
    obtain ⟨b, o, e, _⟩ := dee_ino (show Sv.ok dDee W (a, l.length, c) l from hG) hlt
    cases e
    have hget : ∀ W, Sv.ok dDee W (some ⟨b, o, none⟩, l.length, c) l → ∃ cs : List Value, cs.length = 7 ∧ (∀ j v, cs[j]? = some v → W.cell? ⟨b, o + i * 9 + 2 + j, none⟩ = some v) ∧ ∃ e r, cs = inoC l[i].ino e r ∧ InoR W l[i].ino e r := fun W hW => by
      obtain ⟨b', o', e, hc⟩ := dee_ino hW hlt
      cases e
      exact hc
    generalize l[i].ino = x at hget
    simp [hN, hlt]
    refine loadA ok rfl rfl rfl rfl (fun q W => ∃ e r, q = inoC x e r ∧ InoR W x e r) (fun W hW => hget W hW.2) ?_
    rintro q W _ ⟨es, rs, rfl, hx⟩ _
    have hel := hx.1.2.1
    simp [hN]
    intro g5
    refine loopK [0, 4, 5] ok (fun y : Nat × Int => [(6, .c (.v (.int .i64 (y.1 : Nat)))), (3, .c (.v (.int .i64 y.2)))]) (fun _ => [(5, .box g5 44 ((inoC x es rs).map .v))]) (fun y W => y.1 ≤ x.ents.length ∧ InoR W x es rs) (fun y => x.ents.length - y.1) (0, IntKind.i64.wrap (IntKind.i64.wrap (IntKind.i64.wrap (z + 10) + x.target.size) + x.runs.length)) ?_ ?_ (fun W hW => ⟨Nat.zero_le _, ?_⟩) ?_
    · simp
    · simp
    · obtain ⟨⟨_, _, _, _, ⟨⟨rfl, rfl⟩, rfl, rfl⟩, k⟩, _⟩ := hW
      exact k
    rintro ⟨k, z2⟩ W ⟨hk, hx2⟩ hG2 next2
    simp only at hk
    rcases Nat.lt_or_ge k x.ents.length with hlt2 | hge2
    · have e7 : IntKind.i64.wrap ((k : Int) + 1) = (k + 1 : Nat) := by rw [w64 (by omega) (by omega)]; omega
      obtain ⟨b2, o2, e, _⟩ := ent_name (n := x.ents.length) (show Sv.ok dEnt W (es.1, x.ents.length, es.2) x.ents from ⟨rfl, hx2.1⟩) hlt2
      obtain ⟨ea, ec⟩ := es
      cases e
      have hnm : ∀ W, Sl.ok dEnt W (some ⟨b2, o2, none⟩, ec) x.ents → ∃ v, W.cell? ⟨b2, o2 + k * 2, none⟩ = some v ∧ v = .string x.ents[k].name := fun W hW => by
        obtain ⟨b', o', e, hc⟩ := ent_name (n := x.ents.length) (show Sv.ok dEnt W (some ⟨b2, o2, none⟩, x.ents.length, ec) x.ents from ⟨rfl, hW⟩) hlt2
        cases e
        exact ⟨_, hc, rfl⟩
      simp [hN, hlt2]
      refine load1 ok rfl rfl rfl rfl (fun v W => v = .string x.ents[k].name) (fun W hW => hnm W hW.1.2.1) ?_
      rintro v W rfl _
      simp [hN, e7]
      exact next2 (k + 1, IntKind.i64.wrap (IntKind.i64.wrap (z2 + 10) + x.ents[k].name.size)) _ _ (by simp only; omega) (fun W hW => ⟨⟨hlt2, hW.1.2⟩, hW.2⟩) (by simp)
    · simp [hN, Nat.not_lt.2 hge2, e6]
      exact next (i + 1, z2) _ _ (by simp only; omega) (fun W hW => ⟨hlt, hW.2.2.2⟩) (by simp)
  · simp [hN, Nat.not_lt.2 hge]
    exact ret0 hC _ rfl fun _ _ _ => trivial
/-- A deed of a kind that is, with what its kind has alone. -/
def cleanD (d : Dee) : Dee := if 1 + d.kind % 4 = 2 then ⟨2, 0, d.ino⟩ else ⟨1 + d.kind % 4, d.no, inoZ⟩
theorem clean_fit {d : Dee} (h : fitI d.no ∧ FitN d.ino) : FitD (cleanD d) := by
  unfold cleanD
  split
  · exact ⟨.inr (.inl rfl), fun e => absurd rfl e, fun _ => h.2⟩
  · rename_i hne
    refine ⟨?_, fun _ => h.1, fun e => absurd e hne⟩
    simp only
    omega
end Go.Proofs.YtbbaoeidobdblaaGreat.Sx

/- garretlaw17.JournalNew. -/
set_option linter.unusedVariables false
set_option linter.unusedSimpArgs false
namespace Go.Proofs.YtbbaoeidobdblaaGreat.Sx
open Go
attribute [local simp ↓] ifb_true' ifb_false'
attribute [local simp] ifb_true ifb_false ifb_eq sx argsT find ev evOp evs evo evBin evInt evStr evNil evNilA ptrA slcA isNoneA asB evLoad look del cellsB evUn evConv kdec fld evFieldA evField evIdxA evIdx evSlc bndL bndH evLen mmi put resV guardV gvL setO tupV cellsOf ones one upd lits nv exitTo SV.val CV.val TI.agg rdyA allR keepB scan simpO gsp isS subs keepT pickT wr memN pubs Res.fact Region.binds bld rest give delL back Res.eqv vi vb num Sv.val undef
/-- The size of an inode that came in. -/
def szN (x : Ino) : Nat := x.target.size + sumN (x.ents.map fun e => e.name.size + 1) + x.runs.length
theorem wI_sz (x : Ino) : wI x ≤ 45 + 24 * szN x := by
  rw [wI_eq, fmB_len, fmB_len]
  have h1 : ∀ l : List Ent, sumN (l.map fun e => (entB e).length) ≤ 24 * sumN (l.map fun e => e.name.size + 1) := by
    intro l
    induction l with
    | nil => exact Nat.le_refl _
    | cons e r ih =>
      have he : (entB e).length = e.name.size + 12 := by rw [entB, List.length_append, textB_length, intB_length]
      simp only [List.map_cons, sumN_cons]
      rw [he]
      omega
  have h2 : ∀ l : List Rn, sumN (l.map fun e => (runB e).length) ≤ 24 * l.length := by
    intro l
    induction l with
    | nil => exact Nat.le_refl _
    | cons e r ih =>
      have he : (runB e).length = 24 := by rw [runB, List.length_append, List.length_append, intB_length, intB_length, intB_length]
      simp only [List.map_cons, sumN_cons, List.length_cons]
      rw [he]
      omega
  have := h1 x.ents
  have := h2 x.runs
  unfold szN
  omega
/-- Deeds that came in. -/
structure DeesIn (ds : List Dee) : Prop where
  fit : ∀ d ∈ ds, fitI d.kind ∧ fitI d.no ∧ FitN d.ino
  size : sumN (ds.map fun d => szN d.ino + 1) ≤ 1048576
theorem DeesIn.len {ds : List Dee} (h : DeesIn ds) : ds.length ≤ 1048576 := by
  have : ∀ l : List Dee, l.length ≤ sumN (l.map fun d => szN d.ino + 1) := by
    intro l
    induction l with
    | nil => exact Nat.le_refl _
    | cons e r ih => simp only [List.map_cons, sumN_cons, List.length_cons]; omega
  exact Nat.le_trans (this ds) h.size
theorem DeesIn.clean {ds : List Dee} (h : DeesIn ds) : FitL (ds.map cleanD) ∧ (deedsB (ds.map cleanD)).length ≤ 100000000 := by
  refine ⟨⟨fun d hd => ?_⟩, ?_⟩
  · obtain ⟨x, hx, rfl⟩ := List.mem_map.1 hd
    exact clean_fit (h.fit x hx).2
  · have : ∀ l : List Dee, (deedsB (l.map cleanD)).length ≤ 69 * sumN (l.map fun d => szN d.ino + 1) := by
      intro l
      induction l with
      | nil => exact Nat.zero_le _
      | cons e r ih =>
        have h1 : (deedB (cleanD e)).length ≤ 69 * (szN e.ino + 1) := by
          unfold cleanD
          split
          · rw [put_len rfl]
            have := wI_sz e.ino
            simp only
            omega
          · rw [num_len _ _ _ (by omega)]
            omega
        rw [deeds_len] at ih ⊢
        simp only [List.map_cons, sumN_cons]
        omega
    have := this ds
    have := h.size
    omega
end Go.Proofs.YtbbaoeidobdblaaGreat.Sx

/- Sx, part 18: a text is appended to bytes of one's own. -/
set_option linter.unusedVariables false
set_option linter.unusedSimpArgs false
namespace Go.Proofs.YtbbaoeidobdblaaGreat.Sx
open Go
section
variable {P : Program} {C : Ctx} {T : Ty} {res : List ResultVar} {p : Pos} {tm : Tm} {m : Mem}
theorem grow_text {P : Program} {w : World} {t tu ty e : TypeId} {ie : TI} (hu : P.underlying t = some (.slice e)) (htu : P.underlying tu = some .string) (he : TIok P e ie) (hs1 : ie.sz = 1) {g n c : Nat} {xs : List Value} (hown : w.ownsRow 0 e 1 (.slice (some ⟨g, 0, none⟩) n c) n xs) (s : ByteArray)
    (hzl : ie.zero.length = 1) (hb : (n + s.size) * ie.bt ≤ 140737488355328) (hmx : n + s.size ≤ 140737488355328) :
    ∃ g' c' w', (Builtin.append_ #[t, tu] ty #[.slice (some ⟨g, 0, none⟩) n c, .string s]).run P w = .ok (.slice (some ⟨g', 0, none⟩) (n + s.size) c') w' ∧ w'.ownsRow 0 e 1 (.slice (some ⟨g', 0, none⟩) (n + s.size) c') (n + s.size) (xs ++ Lib.strCells s) ∧
      Ext (fun b => b < w.heap.size ∧ (Value.slice (some ⟨g, 0, none⟩) n c).ownBlock ≠ some b) w w' ∧ ((Value.slice (some ⟨g, 0, none⟩) n c).ownBlock = some g' ∨ w.heap.size ≤ g') ∧ g' < w'.heap.size := by
  obtain ⟨i, hi, hsz, hbt, z, hz, hzc⟩ := he.g_some
  have hzs : z.cells.size = 1 := by rw [← Array.length_toList, hzc, hzl]
  have hml : n + s.size ≤ maxLen := by unfold maxLen; omega
  have hxl : xs.length = n := by simpa using hown.1
  have hlen : (xs ++ Lib.strCells s).length = (n + s.size) * 1 := by rw [List.length_append, hxl, Lib.strCells_length, Nat.mul_one]
  rcases hown.2 with ⟨hv, hn⟩ | ⟨g1, cap, cur, hv, _, hg, hnc, hcm, hcs, htake⟩
  · cases hv
  · obtain ⟨rfl, rfl⟩ : g = g1 ∧ c = cap := by simpa using hv
    by_cases hroom : n + s.size ≤ c
    · have hr := Lib.run_append_room_string (P := P) w t tu ty e i hu htu hi (by omega) g n c cur hg s hroom (by rw [hcs]; omega)
      have hlt := (Array.getElem?_eq_some_iff.1 hg).1
      refine ⟨g, c, _, hr, ⟨hlen, .inr ⟨g, c, _, rfl, Nat.zero_le _, setRow_heap w g cur _ e _ hg, hroom, hcm, ?_, ?_⟩⟩, ⟨rfl, rfl, rfl, by simp, fun k hk => setRow_other w g k _ (fun e => hk.2 (by simp [Value.ownBlock, e]))⟩, .inl (by simp [Value.ownBlock]), by simp [hlt]⟩
      · simp only [List.size_toArray, List.length_append, List.length_take, List.length_drop, Array.length_toList, Lib.strCells_length]
        omega
      · rw [Nat.mul_one] at htake
        rw [htake, ← hlen]
        exact List.take_left
    · have holds : ∀ j u, xs[j]? = some u → w.cell? ((⟨g, 0, none⟩ : Addr).add j) = some u := hown.cells (g := g) rfl
      have hr := Lib.run_append_grow_string (P := P) w t tu ty e i z hu htu hi hz ⟨g, 0, none⟩ n c xs (by rw [hsz, hs1]; omega) holds s (by omega) (by omega) (growslice_fits (by omega) (by rw [hbt]; exact hb))
      have hge := grownCap_ge w (n + s.size) c e
      have hcm : grownCap w (n + s.size) c e ≤ maxLen := grownCap_le_maxLen w (n + s.size) c e hml
      refine ⟨_, _, _, hr, ⟨hlen, .inr ⟨w.heap.size, _, _, rfl, Nat.zero_le _, heap_alloc_new w.drew _, hge, hcm, ?_, ?_⟩⟩, (Ext.drew _ w).trans (Ext.alloc _ w.drew _ fun b hb => hb.1) fun _ hx => hx, .inr (Nat.le_refl _), by simp⟩
      · simp only [Array.size_append, List.size_toArray, size_zeroCells, hzs, hxl, Lib.strCells_length]
        omega
      · simp only [Array.toList_append, List.append_assoc]
        rw [← List.append_assoc, ← hlen]
        exact List.take_left
/-- A text is appended to bytes of one's own. -/
theorem appT (ok : Okc P T C res) (k : Nat) {o : Oper} {s x : Operand} {t tu d : Nat} (ho : o.op = .call ⟨.builtin .append, #[s, x], #[t, tu]⟩) (hd : o.dst = some d) {i ie iu : TI} (hi : tf t T = some i) (hik : i.kd = 3) (hie : tf i.el T = some ie) (hs1 : ie.sz = 1) (hzl : ie.zero.length = 1) (hiu : tf tu T = some iu) (huk : iu.kd = 4)
    {g n c : Nat} {cs : List CV} {u : SV} {st : ByteArray} (hk : look k m.rs = some (.row (some ⟨g, 0, none⟩) n c i.el 1 cs)) (hs : ev tm s = some u) (hu : u.val = .slice (some ⟨g, 0, none⟩) n c) (hx : ev tm x = some (.c (.v (.string st))))
    (hb : (n + st.size) * ie.bt ≤ 140737488355328) (hmx : n + st.size ≤ 140737488355328)
    (kk : ∀ g' c'', sx T C res 1000 p (put C.n (some d) (.c (.rw k (some ⟨g', 0, none⟩) (n + st.size) c'')) tm) ⟨m.B, m.G, (k, .row (some ⟨g', 0, none⟩) (n + st.size) c'' i.el 1 (cs ++ bC (bytesOf st))) :: del k (del k m.rs)⟩) : At C (.op o p) tm m := by
  rintro act w cs0 hR ⟨I, F, hJ⟩
  have o1 := hJ.own _ (look_mem hk)
  obtain ⟨g', c'', w', hr, hown, hext, hblk, hlt⟩ := grow_text (P := C.P) (t := t) (tu := tu) (ty := o.type) (ok.ty.get hi |>.g_slice hik) (ok.ty.get hiu |>.g_string huk) (ok.ty.get hie) hs1 o1.2 st hzl hb hmx
  have e1 : act.eval s = .slice (some ⟨g, 0, none⟩) n c := by rw [hR.eval hs, hu]
  have e2 : act.eval x = .string st := hR.eval hx
  have hrun : (execOp act.eval o).run C.P w = .ok (.value (.slice (some ⟨g', 0, none⟩) (n + st.size) c'')) w' := by
    simp [execOp, ho, resolve, invoke, builtin, e1, e2, hr]
  have hlv : (bC (bytesOf st)).map CV.val = Lib.strCells st := by simp [bC, bytesOf, Lib.strCells, Function.comp_def, CV.val]
  have hup := hJ.upd k k (.row (some ⟨g', 0, none⟩) (n + st.size) c'' i.el 1 (cs ++ bC (bytesOf st))) (fun b => (Value.slice (some ⟨g, 0, none⟩) n c).ownBlock = some b) (fun b => b = g') (fun b hb => ⟨(o1.1 b).2 hb, _, look_mem hk⟩) hext ⟨fun b => by simp [Value.ownBlock]; exact ⟨fun h => h.symm, fun h => h.symm⟩, by rw [List.map_append, hlv]; exact hown⟩ (fun b hb => by subst hb; exact ⟨hlt, hblk⟩) id
  have hRp := hR.put (some d) (.c (.rw k (some ⟨g', 0, none⟩) (n + st.size) c''))
  exact op_value (ok.sx (kk g' c'')) hrun (by rw [hd]; exact hRp) ⟨I, _, hup⟩
end
end Go.Proofs.YtbbaoeidobdblaaGreat.Sx

/- ref01.Put, PutText, number: what they hand back is one's own. -/
set_option linter.unusedVariables false
set_option linter.unusedSimpArgs false
namespace Go.Proofs.YtbbaoeidobdblaaGreat.Sx
open Go
attribute [local simp ↓] ifb_true' ifb_false'
attribute [local simp] ifb_true ifb_false ifb_eq sx argsT find ev evOp evs evo evBin evInt evStr evNil evNilA ptrA slcA isNoneA asB evLoad look del cellsB evUn evConv kdec fld evFieldA evField evIdxA evIdx evSlc bndL bndH evLen mmi put resV guardV gvL setO tupV cellsOf ones one upd lits nv exitTo SV.val CV.val TI.agg rdyA allR keepB scan simpO gsp isS subs keepT pickT wr memN pubs Res.fact Region.binds bld rest give delL back Res.eqv vi vb num Sv.val undef
theorem refPutS (w : World) (I : Nat → Prop) (hI : ∀ b, I b → b < w.heap.size) (xs : List Int) (s : Sl) (v : Int) (n : Nat) (h : ∀ W, Ext I w W → s.ok dByte W xs) (hl : xs.length + n ≤ 100000000000) (hn : n ≤ 8) (hv : 0 ≤ v) :
    FnS Tryz.prog 40 #[.slice s.1 xs.length s.2, .int .u64 v, .int .i64 n] w I noS (fun r : Sl => .slice r.1 (xs.length + n) r.2) (fun r => [.row r.1 (xs.length + n) r.2 5 1 (bC (xs ++ lowB v n))]) (fun _ _ => True) := by
  refine enterS (svs := [.c (.v (.slice s.1 xs.length s.2)), .c (.v (.int .u64 v)), .c (.v (.int .i64 n))]) tysOk Tryz.func40 rfl Tryz.ntmps40 Tryz.results40 (by kernel_rfl) (by simp) hI [] (owns_nil w) (fun b hb => hb.elim) (fun W => s.ok dByte W xs) h fun C hC hN ok => ?_
  have e1 : ¬ ((n : Int) < 0) := by omega
  have e2 : ¬ ((8 : Int) < n) := by omega
  simp [hN]
  refine nilr 600 5 1 (appV ok 600 rfl rfl rfl rfl rfl (by decide) rfl rfl rfl rfl rfl rfl dByte xs rfl (by show (0 + _) * 1 ≤ _; omega) (by omega) (fun W hW => ⟨rfl, hW⟩) fun l a' c'' W hll hr _ => ?_)
  have hx : l = xs.map (Value.int .u8) := rows_byte.1 hr
  subst hx
  simp [hN]
  refine loop ok (fun y : Nat × Sl => [(8, .c (.v (.int .i64 (y.1 : Nat)))), (7, .c (.v (.slice y.2.1 (xs.length + y.1) y.2.2)))]) (fun y => [(600, .row y.2.1 (xs.length + y.1) y.2.2 5 1 (bC (xs ++ (lowB v n).take y.1)))]) (fun y W => y.1 ≤ n) (fun y => n - y.1) (0, (a', c'')) ?_ ?_ (fun W _ => Nat.zero_le _) ?_
  · simp
  · simp [← bC_nv]
  rintro ⟨i, ra, rc⟩ W hi hG next
  simp only at hi
  simp [hN, e1, e2]
  refine ⟨fun hlt => ?_, fun hge => ?_⟩
  · have e3 : IntKind.i64.wrap (8 * (i : Int)) = (8 * i : Nat) := by rw [w64 (by omega) (by omega)]; omega
    have e4 : IntKind.u64.wrap ((8 * i : Nat) : Int) = (8 * i : Nat) := by rw [u64_wrap]; omega
    have e5 : min (8 * i) IntKind.u64.bits = 8 * i := by simp [IntKind.bits]; omega
    have e6 : v.fdiv (2 ^ (8 * i)) = v / 2 ^ (8 * i) := Int.fdiv_eq_ediv_of_nonneg _ (Int.le_of_lt (Int.pow_pos (by decide)))
    have e7 : IntKind.i64.wrap ((i : Int) + 1) = (i + 1 : Nat) := by rw [w64 (by omega) (by omega)]; omega
    have e8 : IntKind.u8.wrap (v.fdiv (2 ^ (8 * i))) = v / 2 ^ (8 * i) % 256 := by rw [e6, u8_wrap]
    have e9 : (lowB v n).take (i + 1) = (lowB v n).take i ++ [v / 2 ^ (8 * i) % 256] := by
      have : i < (lowB v n).length := by rw [lowB_length]; omega
      rw [List.take_add_one, List.getElem?_eq_getElem this]
      simp [lowB]
    rw [e3, e4, Int.toNat_natCast, e5, e8]
    refine ⟨by omega, fun g => appR ok 600 25 rfl rfl rfl rfl rfl (by decide) rfl rfl rfl rfl rfl rfl rfl (by decide) (by simp) (by show (_ + 1) * 1 ≤ _; omega) (by omega) fun g' c'' => ?_⟩
    simp [hN, e7]
    refine next (i + 1, some ⟨g', 0, none⟩, c'') _ _ (by simp; omega) (fun W h => ⟨by omega, h.2⟩) ?_
    simp [e9, bC, Nat.add_assoc]
  · obtain rfl : i = n := by omega
    have e10 : (lowB v i).take i = lowB v i := by rw [List.take_of_length_le]; rw [lowB_length]; omega
    rw [e10]
    exact retS hC (ra, rc) [600] (by simp) (by simp) fun _ _ _ => trivial
theorem refNumS (w : World) (I : Nat → Prop) (hI : ∀ b, I b → b < w.heap.size) (xs : List Int) (s : Sl) (v : Int) (h : ∀ W, Ext I w W → s.ok dByte W xs) (hl : xs.length + 8 ≤ 100000000000) :
    FnS Tryz.prog 83 #[.slice s.1 xs.length s.2, .int .i64 v] w I noS (fun r : Sl => .slice r.1 (xs.length + 8) r.2) (fun r => [.row r.1 (xs.length + 8) r.2 5 1 (bC (xs ++ intB v))]) (fun _ _ => True) := by
  refine enterS (svs := [.c (.v (.slice s.1 xs.length s.2)), .c (.v (.int .i64 v))]) tysOk Tryz.func83 rfl Tryz.ntmps83 Tryz.results83 (by kernel_rfl) (by simp) hI [] (owns_nil w) (fun b hb => hb.elim) (fun W => s.ok dByte W xs) h fun C hC hN ok => ?_
  simp [hN, u64_wrap]
  refine callS ok rfl rfl rfl [] [] trivial rfl (fun x : Sl => [(600, .row x.1 (xs.length + 8) x.2 5 1 (bC (xs ++ intB v)))]) (fun w I S hI hG hO hS => (refPutS w I hI xs s _ 8 hG hl (by omega) (Int.emod_nonneg _ (by decide))).lone hO) (fun r => by simp [intB]) (.inl fun k hk => by cases hk) fun x W _ => ?_
  simp [hN]
  exact retS hC x [600] rfl (by simp) fun W _ hG => trivial
theorem refTextS (w : World) (I : Nat → Prop) (hI : ∀ b, I b → b < w.heap.size) (xs : List Int) (s : Sl) (t : ByteArray) (h : ∀ W, Ext I w W → s.ok dByte W xs) (hl : xs.length + (4 + t.size) ≤ 100000000000) :
    FnS Tryz.prog 84 #[.slice s.1 xs.length s.2, .string t] w I noS (fun r : Sl => .slice r.1 (xs.length + (4 + t.size)) r.2) (fun r => [.row r.1 (xs.length + (4 + t.size)) r.2 5 1 (bC (xs ++ textB t))]) (fun _ _ => True) := by
  refine enterS (svs := [.c (.v (.slice s.1 xs.length s.2)), .c (.v (.string t))]) tysOk Tryz.func84 rfl Tryz.ntmps84 Tryz.results84 (by kernel_rfl) (by simp) hI [] (owns_nil w) (fun b hb => hb.elim) (fun W => s.ok dByte W xs) h fun C hC hN ok => ?_
  have e1 : IntKind.u64.wrap (t.size : Int) = (t.size : Int) := by rw [u64_wrap]; omega
  simp [hN, e1]
  refine callS ok rfl rfl rfl [] [] trivial rfl (fun x : Sl => [(600, .row x.1 (xs.length + 4) x.2 5 1 (bC (xs ++ lowB t.size 4)))]) (fun w I S hI hG hO hS => (refPutS w I hI xs s _ 4 hG (by omega) (by omega) (by omega)).lone hO) (fun r => by simp) (.inl fun k hk => by cases hk) fun x W _ => ?_
  simp [hN]
  refine rowSome 600 rfl (by omega) fun g e => ?_
  obtain ⟨xa, xc⟩ := x
  simp only at e
  subst e
  refine appT ok 600 rfl rfl rfl rfl rfl rfl rfl rfl rfl rfl rfl rfl rfl (by show _ * 1 ≤ _; omega) (by omega) fun g' c'' => ?_
  simp [hN]
  exact retS hC (some ⟨g', 0, none⟩, c'') [600] (by simp [Nat.add_assoc]) (by simp [Nat.add_assoc, textB, bC]) fun W _ hG => trivial
end Go.Proofs.YtbbaoeidobdblaaGreat.Sx

/- ref09.Pack. -/
set_option linter.unusedVariables false
set_option linter.unusedSimpArgs false
namespace Go.Proofs.YtbbaoeidobdblaaGreat.Sx
open Go
attribute [local simp ↓] ifb_true' ifb_false'
attribute [local simp] ifb_true ifb_false ifb_eq sx argsT find ev evOp evs evo evBin evInt evStr evNil evNilA ptrA slcA isNoneA asB evLoad look del cellsB evUn evConv kdec fld evFieldA evField evIdxA evIdx evSlc bndL bndH evLen mmi put resV guardV gvL setO tupV cellsOf ones one upd lits nv exitTo SV.val CV.val TI.agg rdyA allR keepB scan simpO gsp isS subs keepT pickT wr memN pubs Res.fact Region.binds bld rest give delL back Res.eqv vi vb num Sv.val undef
theorem refPut1 {w : World} {I : Nat → Prop} (hI : ∀ b, I b → b < w.heap.size) {a : Option Addr} {m c : Nat} (xs : List Int) (v : Int) (n : Nat) (h : ∀ W, Ext I w W → Sv.ok dByte W (a, m, c) xs) (hl : m + n ≤ 100000000000) (hn : n ≤ 8) (hv : 0 ≤ v) :
    FnS Tryz.prog 40 #[.slice a m c, .int .u64 v, .int .i64 n] w I noS (fun r : Sl => .slice r.1 (m + n) r.2) (fun r => [.row r.1 (m + n) r.2 5 1 (bC (xs ++ lowB v n))]) (fun _ _ => True) := by
  obtain rfl : m = xs.length := (h w (Ext.refl _ _)).1
  exact refPutS w I hI xs (a, c) v n (fun W e => (h W e).2) hl hn hv
theorem refNum1 {w : World} {I : Nat → Prop} (hI : ∀ b, I b → b < w.heap.size) {a : Option Addr} {m c : Nat} (xs : List Int) (v : Int) (h : ∀ W, Ext I w W → Sv.ok dByte W (a, m, c) xs) (hl : m + 8 ≤ 100000000000) :
    FnS Tryz.prog 83 #[.slice a m c, .int .i64 v] w I noS (fun r : Sl => .slice r.1 (m + 8) r.2) (fun r => [.row r.1 (m + 8) r.2 5 1 (bC (xs ++ intB v))]) (fun _ _ => True) := by
  obtain rfl : m = xs.length := (h w (Ext.refl _ _)).1
  exact refNumS w I hI xs (a, c) v (fun W e => (h W e).2) hl
theorem refText1 {w : World} {I : Nat → Prop} (hI : ∀ b, I b → b < w.heap.size) {a : Option Addr} {m c : Nat} (xs : List Int) (t : ByteArray) (h : ∀ W, Ext I w W → Sv.ok dByte W (a, m, c) xs) (hl : m + (4 + t.size) ≤ 100000000000) :
    FnS Tryz.prog 84 #[.slice a m c, .string t] w I noS (fun r : Sl => .slice r.1 (m + (4 + t.size)) r.2) (fun r => [.row r.1 (m + (4 + t.size)) r.2 5 1 (bC (xs ++ textB t))]) (fun _ _ => True) := by
  obtain rfl : m = xs.length := (h w (Ext.refl _ _)).1
  exact refTextS w I hI xs (a, c) t (fun W e => (h W e).2) hl
theorem row_ok {W : World} {a : Option Addr} {n c : Nat} {xs : List Int} (h : W.ownsRow 0 5 1 (.slice a n c) n ((bC xs).map CV.val)) (hn : n = xs.length) (hl : n ≤ 100000000000) : Sv.ok dByte W (a, n, c) xs := by
  subst hn
  exact byte_ok (by simpa [bC_val] using h) hl
end Go.Proofs.YtbbaoeidobdblaaGreat.Sx

/- ref09.Whole, ref17.first, Fits. -/
set_option linter.unusedVariables false
set_option linter.unusedSimpArgs false
namespace Go.Proofs.YtbbaoeidobdblaaGreat.Sx
open Go
attribute [local simp ↓] ifb_true' ifb_false'
attribute [local simp] ifb_true ifb_false ifb_eq sx argsT find ev evOp evs evo evBin evInt evStr evNil evNilA ptrA slcA isNoneA asB evLoad look del cellsB evUn evConv kdec fld evFieldA evField evIdxA evIdx evSlc bndL bndH evLen mmi put resV guardV gvL setO tupV cellsOf ones one upd lits nv exitTo SV.val CV.val TI.agg rdyA allR keepB scan simpO gsp isS subs keepT pickT wr memN pubs Res.fact Region.binds bld rest give delL back Res.eqv vi vb num Sv.val undef
theorem refWhole0 (w : World) (I : Nat → Prop) (hI : ∀ b, I b → b < w.heap.size) (s : Sta) (si sb : Sl) (h : ∀ W, Ext I w W → StaR W s si sb) (hl : s.inos.length + s.bad.length ≤ 1000000000) :
    Fn0 Tryz.prog 113 #[.agg (staC s si sb).toArray] w I Sv.val (fun r W => Sv.ok dDee W r (wholeL s)) := by
  obtain ⟨ia, ic⟩ := si
  obtain ⟨ba, bc⟩ := sb
  refine enter (svs := [.ag ((staC s (ia, ic) (ba, bc)).map .v)]) tysOk Tryz.func113 rfl Tryz.ntmps113 Tryz.results113 (by kernel_rfl) (by simp) hI (fun W => StaR W s (ia, ic) (ba, bc)) h fun C hC hN ok => ?_
  simp [hN]
  intro g1 g2
  have z0 : ∀ W, InoR W inoZ (none, 0) (none, 0) := fun W => ⟨⟨Nat.le_refl _, by simp [inoZ], rd_nil _ _ _⟩, ⟨Nat.le_refl _, by simp [inoZ], rd_nil _ _ _⟩⟩
  refine loop ok (fun y : Nat × Option Addr × Nat × List Dx => [(4, .c (.v (.int .i64 (y.1 : Nat)))), (3, .c (.v (.slice y.2.1 (y.1 + 1) y.2.2.1)))]) (fun y => [(9, .row y.2.1 (y.1 + 1) y.2.2.1 46 9 (deesC y.2.2.2)), (1, .box g1 39 ((staC s (ia, ic) (ba, bc)).map .v))]) (fun y W => y.1 ≤ s.inos.length ∧ y.2.2.2.map Prod.fst = ⟨1, s.next, inoZ⟩ :: ((s.inos.take y.1).map fun x => ⟨2, 0, x⟩) ∧ DeesR W y.2.2.2) (fun y => s.inos.length - y.1) (0, some ⟨g2, 0, none⟩, 1, [(⟨1, s.next, inoZ⟩, (none, 0), (none, 0))]) ?_ ?_ (fun W hW => ⟨Nat.zero_le _, by simp, fun y hy => by rw [List.mem_singleton.1 hy]; exact z0 W⟩) ?_
  · simp
  · simp [deesC, inoZ]
  rintro ⟨i, ya, yc, l⟩ W ⟨hi, hm, hr⟩ hG next
  simp [hN]
  refine ⟨fun hlt => ?_, fun hge => ?_⟩
  · obtain ⟨b, o, e⟩ := (sta_get (show StaR W s (ia, ic) (ba, bc) from hG)).1.2.2.2.is_some (Nat.lt_of_le_of_lt (Nat.zero_le _) hlt)
    cases e
    simp [hN]
    have e6 : IntKind.i64.wrap ((i : Int) + 1) = (i + 1 : Nat) := by rw [w64 (by omega) (by omega)]; omega
    have ft : s.inos.take (i + 1) = s.inos.take i ++ [s.inos[i]] := by rw [List.take_add_one, List.getElem?_eq_getElem hlt]; rfl
    generalize hd : s.inos[i] = d at ft
    refine ⟨hlt, loadA ok rfl rfl rfl rfl (fun c W => dIno.K W d c) (fun W hW => ?_) ?_⟩
    · obtain ⟨cs, hk, hl, hc⟩ := (sta_get hW.2).1.2.2.2.get hlt
      rw [hd] at hk
      exact ⟨cs, hl, hc, hk⟩
    · rintro v W _ ⟨⟨ea, ec⟩, ⟨ra, rc⟩, rfl, hR⟩ hG2
      simp [hN]
      intro g5
      refine appR ok 9 24 rfl rfl rfl rfl rfl (by decide) rfl rfl rfl rfl rfl rfl rfl (by decide) (by simp) (by show (i + 1 + 1) * 112 ≤ _; omega) (by omega) fun g' c' => ?_
      simp [hN, e6]
      refine next (i + 1, some ⟨g', 0, none⟩, c', l ++ [(⟨2, 0, d⟩, (ea, ec), (ra, rc))]) _ _ (by simp; omega) (fun W h => ⟨⟨hlt, by simp [hm, ft], fun y hy => ?_⟩, h.2.2⟩) ?_
      · rcases List.mem_append.1 hy with hy | hy
        · exact h.2.1.2.2 y hy
        · rw [List.mem_singleton.1 hy]
          exact ino_get h.1
      · simp [deesC_snoc]
  · have hi' : i = s.inos.length := by simp only at hi; omega
    subst hi'
    have hT : s.inos.take s.inos.length = s.inos := List.take_length
    rw [hT] at *
    simp [hN]
    refine loop ok (fun y : Nat × Option Addr × Nat × List Dx => [(5, .c (.v (.int .i64 (y.1 : Nat)))), (3, .c (.v (.slice y.2.1 (s.inos.length + 1 + y.1) y.2.2.1)))]) (fun y => [(9, .row y.2.1 (s.inos.length + 1 + y.1) y.2.2.1 46 9 (deesC y.2.2.2)), (1, .box g1 39 ((staC s (ia, ic) (ba, bc)).map .v))]) (fun y W => y.1 ≤ s.bad.length ∧ y.2.2.2.map Prod.fst = ⟨1, s.next, inoZ⟩ :: (s.inos.map fun x => ⟨2, 0, x⟩) ++ ((s.bad.take y.1).map fun n => ⟨4, n, inoZ⟩) ∧ DeesR W y.2.2.2) (fun y => s.bad.length - y.1) (0, ya, yc, l) ?_ ?_ (fun W hW => ⟨Nat.zero_le _, by simpa using hm, hW.1.2⟩) ?_
    · simp
    · simp
    rintro ⟨i, za, zc, k⟩ W ⟨hi2, hm2, hr2⟩ hG3 next2
    simp [hN]
    refine ⟨fun hlt => ?_, fun hge => ?_⟩
    · obtain ⟨b, o, e⟩ := (sta_get (show StaR W s (ia, ic) (ba, bc) from hG3.2)).2.2.2.2.is_some (Nat.lt_of_le_of_lt (Nat.zero_le _) hlt)
      cases e
      simp [hN]
      have e6 : IntKind.i64.wrap ((i : Int) + 1) = (i + 1 : Nat) := by rw [w64 (by omega) (by omega)]; omega
      have ft : s.bad.take (i + 1) = s.bad.take i ++ [s.bad[i]] := by rw [List.take_add_one, List.getElem?_eq_getElem hlt]; rfl
      generalize hd : s.bad[i] = d at ft
      refine ⟨hlt, load1 ok rfl rfl rfl rfl (fun v W => v = .int .i64 d) (fun W hW => ?_) ?_⟩
      · obtain ⟨cs, hk, _, hc⟩ := (sta_get hW.2.2).2.2.2.2.get hlt
        rw [hd] at hk
        exact ⟨_, by simpa [dInt, flat] using hc 0 (.int .i64 d) (by rw [hk]; rfl), rfl⟩
      · rintro v W rfl hG4
        simp [hN]
        intro g15
        refine appR ok 9 40 rfl rfl rfl rfl rfl (by decide) rfl rfl rfl rfl rfl rfl rfl (by decide) (by simp) (by show (s.inos.length + 1 + i + 1) * 112 ≤ _; omega) (by omega) fun g' c' => ?_
        simp [hN, e6]
        refine next2 (i + 1, some ⟨g', 0, none⟩, c', k ++ [(⟨4, d, inoZ⟩, (none, 0), (none, 0))]) _ _ (by simp; omega) (fun W h => ⟨⟨hlt, by simp [hm2, ft], fun y hy => ?_⟩, h.2⟩) ?_
        · rcases List.mem_append.1 hy with hy | hy
          · exact h.1.2.2 y hy
          · rw [List.mem_singleton.1 hy]
            exact z0 W
        · simp [deesC_snoc, inoZ, Nat.add_assoc]
    · have hi' : i = s.bad.length := by simp only at hi2; omega
      subst hi'
      have hT2 : s.bad.take s.bad.length = s.bad := List.take_length
      have hm3 : k.map Prod.fst = wholeL s := by rw [hm2, hT2]; rfl
      have hkl : (wholeL s).length = s.inos.length + 1 + s.bad.length := by simp [wholeL]; omega
      refine ret0 hC (za, s.inos.length + 1 + s.bad.length, zc) rfl fun W hp hG => ?_
      have hrw := dees_rows k hG.1.2.2
      rw [hm3] at hrw
      obtain ⟨k1, k2, k3⟩ := hrw.rd hp.1 (by decide)
      exact ⟨k1, by simp; omega, by omega, k3⟩
set_option maxRecDepth 100000 in
set_option maxHeartbeats 1000000 in
theorem refRight0 (w : World) (I : Nat → Prop) (hI : ∀ b, I b → b < w.heap.size) (g : Geo) (hg : g.right) :
    Fn0 Tryz.prog 66 #[.agg (geoC g).toArray] w I (fun b : Bool => .bool b) (fun y W => y = true) := by
  refine enter (svs := [.ag ((geoC g).map .v)]) tysOk Tryz.func66 rfl Tryz.ntmps66 Tryz.results66 (by kernel_rfl) (by simp) hI (fun _ => True) (fun _ _ => trivial) fun C hC hN ok => ?_
  obtain ⟨q0, ⟨q1, q2⟩, ⟨q3, q4⟩, ⟨q5, q6⟩, ⟨q7, q8⟩, ⟨q9, q10⟩⟩ := id hg
  simp (maxSteps := 2000000) -implicitDefEqProofs [hN, q0, q1, q2, q3, q4, q5, q6, q7, q8, q9, q10]
  intro g1
  exact ret0 hC true rfl fun _ _ _ => rfl
/-- How many bytes a half has. -/
def hS (g : Geo) : Nat := g.sectors.toNat / 2 * g.sector.toNat
theorem hS_le {g : Geo} (hg : g.right) : (hS g : Int) = g.sectors / 2 * g.sector ∧ hS g ≤ 32768 := by
  obtain ⟨q0, ⟨q1, q2⟩, ⟨q3, q4⟩, _⟩ := id hg
  have h2 : (g.sectors.toNat : Int) = g.sectors := by omega
  have h3 : (g.sector.toNat : Int) = g.sector := by omega
  refine ⟨by unfold hS; rw [Int.natCast_mul, Int.natCast_ediv, h2, h3]; rfl, ?_⟩
  have h5 : g.sectors.toNat / 2 ≤ 8 := by omega
  exact Nat.mul_le_mul h5 (show g.sector.toNat ≤ 4096 by omega)
theorem refHalf0 (w : World) (I : Nat → Prop) (hI : ∀ b, I b → b < w.heap.size) (g : Geo) (hg : g.right) :
    Fn0 Tryz.prog 67 #[.agg (geoC g).toArray] w I (fun v : Int => .int .i64 v) (fun y W => y = hS g) := by
  refine enter (svs := [.ag ((geoC g).map .v)]) tysOk Tryz.func67 rfl Tryz.ntmps67 Tryz.results67 (by kernel_rfl) (by simp) hI (fun _ => True) (fun _ _ => trivial) fun C hC hN ok => ?_
  obtain ⟨q0, ⟨q1, q2⟩, ⟨q3, q4⟩, ⟨q5, q6⟩, ⟨q7, q8⟩, ⟨q9, q10⟩⟩ := id hg
  obtain ⟨k1, k2⟩ := hS_le hg
  have e1 : g.sectors.tdiv 2 = g.sectors / 2 := Int.tdiv_eq_ediv_of_nonneg (by omega)
  have e2 : IntKind.i64.wrap (g.sectors / 2) = g.sectors / 2 := w64 (by omega) (by omega)
  have e3 : IntKind.i64.wrap (g.sectors / 2 * g.sector) = hS g := by rw [← k1]; exact w64 (by omega) (by omega)
  simp [hN]
  intro g1
  refine call0 ok rfl rfl rfl (fun w I hI hG => refRight0 w I hI g hg) fun y W hy => ?_
  subst hy
  simp [hN, e1, e2, e3]
  exact ret0 hC _ rfl fun W _ _ => rfl
end Go.Proofs.YtbbaoeidobdblaaGreat.Sx

/- Plain: power goes while something is written. -/
set_option linter.unusedVariables false
set_option linter.unusedSimpArgs false
namespace Go.Proofs.YtbbaoeidobdblaaGreat.Sx
open Go
/-- What stands there when power goes: some of it, one byte of whatever kind, and what is erased. -/
def torn (xs ys : List Int) : Prop := ∃ i y, i < xs.length ∧ (0 ≤ y ∧ y ≤ 255) ∧ ys = xs.take i ++ y :: List.replicate (xs.length - i - 1) 255
theorem torn.len {xs ys : List Int} (h : torn xs ys) : ys.length = xs.length := by
  obtain ⟨i, y, h1, _, rfl⟩ := h
  simp
  omega
theorem torn.isB {xs ys : List Int} (h : torn xs ys) (hx : isB xs) : isB ys := by
  obtain ⟨i, y, h1, h2, rfl⟩ := h
  refine isB_app.2 ⟨fun x h => hx x (List.mem_of_mem_take h), fun x h => ?_⟩
  rcases List.mem_cons.1 h with rfl | h
  · exact h2
  · rw [(List.mem_replicate.1 h).2]; decide
theorem torn.cons {xs ys : List Int} (x : Int) (h : torn xs ys) : torn (x :: xs) (x :: ys) := by
  obtain ⟨i, y, h1, h2, rfl⟩ := h
  exact ⟨i + 1, y, by simpa using h1, h2, by simp⟩
theorem torn.snoc {xs ys : List Int} (x : Int) (h : torn xs ys) : torn (xs ++ [x]) (ys ++ [255]) := by
  obtain ⟨i, y, h1, h2, rfl⟩ := h
  refine ⟨i, y, by simp; omega, h2, ?_⟩
  rw [List.take_append_of_le_length (by omega), List.append_assoc, List.cons_append]
  congr 2
  rw [show [(255 : Int)] = List.replicate 1 255 from rfl, List.replicate_append_replicate]
  congr 1
  simp
  omega
end Go.Proofs.YtbbaoeidobdblaaGreat.Sx

/- Plain: what is found behind a write that was torn, and behind a half that was wiped in part. -/
set_option linter.unusedVariables false
set_option linter.unusedSimpArgs false
namespace Go.Proofs.YtbbaoeidobdblaaGreat.Sx
open Go
theorem next_flag {b : List Int} (h : b[(valB (b.take 2)).toNat + 6]? ≠ some 0) : nextM b = none := by
  unfold nextM
  split
  · rfl
  · split
    · rfl
    · rw [if_neg (fun h2 => h h2.2)]
end Go.Proofs.YtbbaoeidobdblaaGreat.Sx

/- Laid together: Sh2, Sg12, Sg13, Sg14. -/
import Derived.Test.YtbbaoeidobdblaaGreatST6
/- A state that grew: what stays true of it, whatever deeds are applied. -/
set_option linter.unusedVariables false
set_option linter.unusedSimpArgs false
namespace Go.Proofs.YtbbaoeidobdblaaGreat.Sx
open Go
attribute [local simp ↓] ifb_true' ifb_false'
attribute [local simp] ifb_true ifb_false ifb_eq sx argsT find ev evOp evs evo evBin evInt evStr evNil evNilA ptrA slcA isNoneA asB evLoad look del cellsB evUn evConv kdec fld evFieldA evField evIdxA evIdx evSlc bndL bndH evLen mmi put resV guardV gvL setO tupV cellsOf ones one upd lits nv exitTo SV.val CV.val TI.agg rdyA allR keepB scan simpO gsp isS subs keepT pickT wr memN pubs Res.fact Region.binds bld rest give delL back Res.eqv vi vb num Sv.val undef
/-- All pages of all inodes. -/
def allP (l : List Ino) : List Int := l.flatMap fun x => x.runs.flatMap pg
def nosL (l : List Ino) : List Int := l.map fun x => x.no
structure InoOk (x : Ino) : Prop where
  right : RightL x.runs
  ents : x.ents.length ≤ 100
  names : ∀ e, e ∈ x.ents → e.name.size ≤ 32
  tgt : x.target.size ≤ 200
structure Fine (s : Sta) (n : Int) (k : Nat) : Prop where
  bad : s.bad = []
  nos : (nosL s.inos).Nodup
  ok : ∀ x, x ∈ s.inos → InoOk x
  cnt : 5 * s.inos.length + (allP s.inos).length ≤ 5 + 5 * k
  nd : (allP s.inos).Nodup
  lt : ∀ p, p ∈ allP s.inos → 0 ≤ p ∧ p < n
def hasRuns (l : List Ino) (x : Ino) : Prop := ∃ y, y ∈ l ∧ y.no = x.no ∧ y.runs = x.runs
theorem replI_split : ∀ (l : List Ino) (x : Ino), hasI l x.no → ∃ A y B, l = A ++ y :: B ∧ y.no = x.no ∧ replI l x = A ++ x :: B
  | [], x, h => by obtain ⟨y, hy, _⟩ := h; simp at hy
  | z :: r, x, h => by
    by_cases e : z.no = x.no
    · exact ⟨[], z, r, rfl, e, by rw [replI, if_pos e]; rfl⟩
    · obtain ⟨y, hy, hn⟩ := h
      have hy2 : y ∈ r := by
        rcases List.mem_cons.1 hy with rfl | hy
        · exact absurd hn e
        · exact hy
      obtain ⟨A, q, B, h1, h2, h3⟩ := replI_split r x ⟨y, hy2, hn⟩
      exact ⟨z :: A, q, B, by rw [h1]; rfl, h2, by rw [replI, if_neg e, h3]; rfl⟩
theorem insI_split : ∀ (l : List Ino) (x : Ino), ∃ A B, l = A ++ B ∧ insI l x = A ++ x :: B
  | [], x => ⟨[], [], rfl, rfl⟩
  | z :: r, x => by
    by_cases e : z.no ≤ x.no
    · obtain ⟨A, B, h1, h2⟩ := insI_split r x
      exact ⟨z :: A, B, by rw [h1]; rfl, by rw [insI, if_pos e, h2]; rfl⟩
    · exact ⟨[], z :: r, rfl, by rw [insI, if_neg e]; rfl⟩
theorem allP_app (a b : List Ino) : allP (a ++ b) = allP a ++ allP b := by simp [allP]
theorem allP_cons (x : Ino) (b : List Ino) : allP (x :: b) = x.runs.flatMap pg ++ allP b := by simp [allP]
theorem nos_one {l : List Ino} (h : (nosL l).Nodup) {a b : Ino} (ha : a ∈ l) (hb : b ∈ l) (e : a.no = b.no) : a = b := by
  induction l with
  | nil => simp at ha
  | cons x r ih =>
    simp only [nosL, List.map_cons, List.nodup_cons] at h
    rcases List.mem_cons.1 ha with ha1 | ha1
    · rcases List.mem_cons.1 hb with hb1 | hb1
      · rw [ha1, hb1]
      · exact absurd (List.mem_map.2 ⟨b, hb1, by rw [← e, ha1]⟩) h.1
    · rcases List.mem_cons.1 hb with hb1 | hb1
      · exact absurd (List.mem_map.2 ⟨a, ha1, by rw [e, hb1]⟩) h.1
      · exact ih h.2 ha1 hb1
theorem nos_put {l : List Ino} (h : (nosL l).Nodup) (x : Ino) : (nosL (putInoL l x)).Nodup := by
  unfold putInoL
  split
  · rename_i hx
    obtain ⟨A, y, B, rfl, h2, h3⟩ := replI_split l x hx
    rw [h3]
    have : nosL (A ++ x :: B) = nosL (A ++ y :: B) := by simp [nosL, h2]
    rw [this]
    exact h
  · rename_i hx
    obtain ⟨A, B, rfl, h2⟩ := insI_split l x
    rw [h2]
    have hp : (nosL (A ++ x :: B)).Perm (x.no :: nosL (A ++ B)) := by
      simp only [nosL, List.map_append, List.map_cons]
      exact List.perm_middle
    rw [hp.nodup_iff, List.nodup_cons]
    refine ⟨fun hm => hx ?_, h⟩
    obtain ⟨y, hy, e⟩ := List.mem_map.1 hm
    exact ⟨y, hy, e⟩
theorem put_mem {l : List Ino} {x z : Ino} (h : z ∈ putInoL l x) : z = x ∨ z ∈ l := by
  unfold putInoL at h
  split at h
  · rename_i hx
    obtain ⟨A, y, B, rfl, h2, h3⟩ := replI_split l x hx
    rw [h3] at h
    simp at h ⊢
    rcases h with h | h | h <;> simp [h]
  · obtain ⟨A, B, rfl, h2⟩ := insI_split l x
    rw [h2] at h
    simp at h ⊢
    rcases h with h | h | h <;> simp [h]
theorem put_self (l : List Ino) (x : Ino) : x ∈ putInoL l x := by
  unfold putInoL
  split
  · rename_i hx
    obtain ⟨A, y, B, _, h2, h3⟩ := replI_split l x hx
    rw [h3]
    simp
  · obtain ⟨A, B, _, h2⟩ := insI_split l x
    rw [h2]
    simp
theorem put_other {l : List Ino} {x z : Ino} (h : z ∈ l) (hne : z.no ≠ x.no) : z ∈ putInoL l x := by
  unfold putInoL
  split
  · rename_i hx
    obtain ⟨A, y, B, rfl, h2, h3⟩ := replI_split l x hx
    rw [h3]
    simp at h ⊢
    rcases h with h | rfl | h
    · exact .inl h
    · exact absurd h2 hne
    · exact .inr (.inr h)
  · obtain ⟨A, B, rfl, h2⟩ := insI_split l x
    rw [h2]
    simp at h ⊢
    rcases h with h | h <;> simp [h]
/-- The same runs again: nothing of it changes. -/
theorem fine_same {s : Sta} {n : Int} {k : Nat} (h : Fine s n k) {x : Ino} (hr : hasRuns s.inos x) (hx : InoOk x) : Fine { s with inos := putInoL s.inos x } n k ∧ ∀ z, hasRuns s.inos z → hasRuns (putInoL s.inos x) z := by
  obtain ⟨y, hy, e1, e2⟩ := hr
  have hh : hasI s.inos x.no := ⟨y, hy, e1⟩
  have hall : allP (putInoL s.inos x) = allP s.inos ∧ (putInoL s.inos x).length = s.inos.length := by
    unfold putInoL
    rw [if_pos hh]
    obtain ⟨A, q, B, h1, h2, h3⟩ := replI_split s.inos x hh
    have hq : q = y := nos_one h.nos (by rw [h1]; simp) hy (by rw [h2, e1])
    subst hq
    rw [h3, h1, allP_app, allP_cons, allP_app, allP_cons, e2]
    simp
  refine ⟨⟨h.bad, nos_put h.nos x, fun z hz => ?_, ?_, ?_, ?_⟩, fun z hz => ?_⟩
  · rcases put_mem hz with rfl | hz
    · exact hx
    · exact h.ok z hz
  · simp only
    rw [hall.1, hall.2]
    exact h.cnt
  · simp only
    rw [hall.1]
    exact h.nd
  · simp only
    rw [hall.1]
    exact h.lt
  · obtain ⟨q, hq, f1, f2⟩ := hz
    by_cases e : q.no = x.no
    · have : q = y := nos_one h.nos hq hy (by rw [e, e1])
      subst this
      exact ⟨x, put_self _ _, by rw [← f1, e], by rw [← f2, ← e2]⟩
    · exact ⟨q, put_other hq e, f1, f2⟩
theorem fine_cut {s : Sta} {n : Int} {k : Nat} (h : Fine s n k) {l : List Ino} (h1 : (nosL l).Nodup) (h2 : ∀ x, x ∈ l → InoOk x) (h3 : (allP l).Sublist (allP s.inos)) (h4 : l.length ≤ s.inos.length + 1) : Fine { s with inos := l } n (k + 1) :=
  ⟨h.bad, h1, h2, by have := h.cnt; have := h3.length_le; simp only; omega, h.nd.sublist h3, fun p hp => h.lt p (h3.subset hp)⟩
/-- One without runs. -/
theorem fine_new {s : Sta} {n : Int} {k : Nat} (h : Fine s n k) {x : Ino} (hr : x.runs = []) (hx : InoOk x) : Fine { s with inos := putInoL s.inos x } n (k + 1) := by
  refine fine_cut h (nos_put h.nos x) (fun z hz => ?_) ?_ (putInoL_len _ _)
  · rcases put_mem hz with rfl | hz
    · exact hx
    · exact h.ok z hz
  · unfold putInoL
    split
    · rename_i hh
      obtain ⟨A, q, B, h1, h2, h3⟩ := replI_split s.inos x hh
      rw [h3, h1, allP_app, allP_cons, allP_app, allP_cons, hr]
      exact List.Sublist.append (List.Sublist.refl _) (List.sublist_append_right _ _)
    · obtain ⟨A, B, h1, h2⟩ := insI_split s.inos x
      rw [h2, h1, allP_app, allP_cons, allP_app, hr]
      exact List.Sublist.refl _
theorem allP_sub {a b : List Ino} (h : a.Sublist b) : (allP a).Sublist (allP b) := by
  induction h with
  | slnil => exact List.Sublist.refl _
  | cons x _ ih =>
    rw [allP_cons]
    exact ih.trans (List.sublist_append_right _ _)
  | cons_cons x _ ih =>
    rw [allP_cons, allP_cons]
    exact List.Sublist.append (List.Sublist.refl _) ih
theorem fine_drop {s : Sta} {n : Int} {k : Nat} (h : Fine s n k) (f : Ino → Bool) : Fine { s with inos := s.inos.filter f } n (k + 1) :=
  fine_cut h (h.nos.sublist ((List.filter_sublist).map _)) (fun z hz => h.ok z (List.mem_filter.1 hz).1) (allP_sub List.filter_sublist) (by have := (List.filter_sublist (p := f) (l := s.inos)).length_le; omega)
theorem fine_up {s : Sta} {n : Int} {k : Nat} (h : Fine s n k) : Fine s n (k + 1) := ⟨h.bad, h.nos, h.ok, by have := h.cnt; omega, h.nd, h.lt⟩
theorem fine_next {s : Sta} {n : Int} {k : Nat} (h : Fine s n k) (m : Int) : Fine { s with next := m } n k := ⟨h.bad, h.nos, h.ok, h.cnt, h.nd, h.lt⟩
/-- Deeds that a call of the tree makes. -/
def SameD (s : Sta) (d : Dee) : Prop := d.kind = 1 ∨ d.kind = 2 ∧ InoOk d.ino ∧ hasRuns s.inos d.ino
def LastD (d : Dee) : Prop := d.kind = 3 ∨ d.kind = 2 ∧ InoOk d.ino ∧ d.ino.runs = []
def DeedsOk (s : Sta) (l : List Dee) : Prop := l.length ≤ 3 ∧ ∃ a b, l = a ++ b ∧ (∀ d, d ∈ a → SameD s d) ∧ (b = [] ∨ ∃ d, b = [d] ∧ LastD d)
theorem fine_sames : ∀ (a : List Dee) (s : Sta) (n : Int) (k : Nat), Fine s n k → (∀ d, d ∈ a → SameD s d) → Fine (applyL s a) n k
  | [], s, n, k, h, _ => h
  | d :: r, s, n, k, h, hd => by
    have e : applyL s (d :: r) = applyL (applyOne s d) r := rfl
    rw [e]
    rcases hd d List.mem_cons_self with h1 | ⟨h1, h2, h3⟩
    · have e2 : applyOne s d = { s with next := d.no } := by rw [applyOne, if_pos h1]
      rw [e2]
      exact fine_sames r _ n k (fine_next h _) fun z hz => hd z (List.mem_cons_of_mem _ hz)
    · have e2 : applyOne s d = { s with inos := putInoL s.inos d.ino } := by rw [applyOne, if_neg (by omega), if_pos h1]
      rw [e2]
      obtain ⟨g1, g2⟩ := fine_same h h3 h2
      refine fine_sames r _ n k g1 fun z hz => ?_
      rcases hd z (List.mem_cons_of_mem _ hz) with k1 | ⟨k1, k2, k3⟩
      · exact .inl k1
      · exact .inr ⟨k1, k2, g2 z.ino k3⟩
theorem fine_deeds {s : Sta} {n : Int} {k : Nat} (h : Fine s n k) {l : List Dee} (hd : DeedsOk s l) : Fine (applyL s l) n (k + 1) := by
  obtain ⟨_, a, b, rfl, h1, h2⟩ := hd
  have e : applyL s (a ++ b) = applyL (applyL s a) b := by simp [applyL]
  rw [e]
  have h3 := fine_sames a s n k h h1
  rcases h2 with rfl | ⟨d, rfl, hl⟩
  · exact fine_up h3
  · have e1 : applyL (applyL s a) [d] = applyOne (applyL s a) d := rfl
    rw [e1]
    rcases hl with k1 | ⟨k1, k2, k3⟩
    · rw [applyOne, if_neg (by omega), if_neg (by omega), if_pos k1]
      exact fine_drop h3 _
    · rw [applyOne, if_neg (by omega), if_pos k1]
      exact fine_new h3 k3 k2
/-- A page is written. -/
theorem fine_page {s : Sta} {n : Int} {k : Nat} (h : Fine s n k) {y x : Ino} (hy : y ∈ s.inos) (e1 : y.no = x.no) (hx : InoOk x) {M : List Int} (hM : M.Sublist (y.runs.flatMap pg)) (hp : (x.runs.flatMap pg).Perm (n :: M)) (hn : 0 ≤ n) : Fine { s with inos := putInoL s.inos x } (n + 1) (k + 1) := by
  have hh : hasI s.inos x.no := ⟨y, hy, e1⟩
  obtain ⟨N, hN, hlen, hP⟩ : ∃ N, N.Sublist (allP s.inos) ∧ (putInoL s.inos x).length = s.inos.length ∧ (allP (putInoL s.inos x)).Perm (n :: N) := by
    unfold putInoL
    rw [if_pos hh]
    obtain ⟨A, q, B, h1, h2, h3⟩ := replI_split s.inos x hh
    have hq : q = y := nos_one h.nos (by rw [h1]; simp) hy (by rw [h2, e1])
    subst hq
    refine ⟨allP A ++ (M ++ allP B), ?_, by rw [h3, h1]; simp, ?_⟩
    · rw [h1, allP_app, allP_cons]
      exact List.Sublist.append (List.Sublist.refl _) (List.Sublist.append hM (List.Sublist.refl _))
    · rw [h3, allP_app, allP_cons]
      exact ((hp.append_right (allP B)).append_left (allP A)).trans List.perm_middle
  have hnN : n ∉ N := fun hm => by have := (h.lt n (hN.subset hm)).2; omega
  refine ⟨h.bad, nos_put h.nos x, fun z hz => ?_, ?_, ?_, fun p hpm => ?_⟩
  · rcases put_mem hz with rfl | hz
    · exact hx
    · exact h.ok z hz
  · have := h.cnt
    have h5 := hP.length_eq
    have h6 := hN.length_le
    simp only [List.length_cons] at h5
    simp only
    omega
  · simp only
    rw [hP.nodup_iff, List.nodup_cons]
    exact ⟨hnN, h.nd.sublist hN⟩
  · have := hP.mem_iff.1 hpm
    rcases List.mem_cons.1 this with rfl | hm
    · omega
    · have := h.lt p (hN.subset hm)
      omega
theorem fine_begin : Fine newSta 0 0 := by
  refine ⟨rfl, by simp [newSta, nosL], fun x hx => ?_, by simp [newSta, allP, newIno], by simp [newSta, allP, newIno], fun p hp => by simp [newSta, allP, newIno] at hp⟩
  simp [newSta] at hx
  subst hx
  exact ⟨fun j hj => by simp [newIno] at hj, by simp [newIno], by simp [newIno], by simp [newIno, emp]; decide⟩
theorem fine_inos {s : Sta} {n : Int} {k : Nat} (h : Fine s n k) : s.inos.length ≤ k + 1 := by have := h.cnt; omega
end Go.Proofs.YtbbaoeidobdblaaGreat.Sx

/- Make of the reference: deeds that keep a state fine. -/
set_option linter.unusedVariables false
set_option linter.unusedSimpArgs false
namespace Go.Proofs.YtbbaoeidobdblaaGreat.Sx
open Go
attribute [local simp ↓] ifb_true' ifb_false'
attribute [local simp] ifb_true ifb_false ifb_eq sx argsT find ev evOp evs evo evBin evInt evStr evNil evNilA ptrA slcA isNoneA asB evLoad look del cellsB evUn evConv kdec fld evFieldA evField evIdxA evIdx evSlc bndL bndH evLen mmi put resV guardV gvL setO tupV cellsOf ones one upd lits nv exitTo SV.val CV.val TI.agg rdyA allR keepB scan simpO gsp isS subs keepT pickT wr memN pubs Res.fact Region.binds bld rest give delL back Res.eqv vi vb num Sv.val undef
theorem dees_rowsG {W : World} : ∀ (l : List (Dee × Sl × Sl)), (∀ y, y ∈ l → InoR W y.1.ino y.2.1 y.2.2) → Rows dDee W (l.map fun y => y.1) (l.flatMap fun y => deeC y.1 y.2.1 y.2.2)
  | [], _ => rows_nil _ _
  | y :: r, h => by
    rw [List.map_cons, List.flatMap_cons]
    exact Rows.cons_iff.2 ⟨_, _, rfl, ⟨y.2.1, y.2.2, rfl, h y List.mem_cons_self⟩, dees_rowsG r fun z hz => h z (List.mem_cons_of_mem _ hz)⟩
/-- A row of deeds, once it is given away. -/
theorem dees_sl {W : World} {e : TypeId} {a : Option Addr} {c : Nat} {l : List (Dee × Sl × Sl)} (h : W.ownsRow 0 e 9 (.slice a l.length c) l.length (l.flatMap fun y => deeC y.1 y.2.1 y.2.2)) (hi : ∀ y, y ∈ l → InoR W y.1.ino y.2.1 y.2.2) (hl : l.length ≤ 1000000000) : Sl.ok dDee W (a, c) (l.map fun y => y.1) :=
  ((dees_rowsG l hi).sv (base := 0) (e := e) (by decide) (by simp; omega) h).2
theorem deedsNil (s : Sta) : DeedsOk s [] := ⟨by simp, [], [], rfl, fun d hd => by simp at hd, .inl rfl⟩
set_option maxRecDepth 100000 in
set_option maxHeartbeats 4000000 in
theorem make0 (w : World) (I : Nat → Prop) (hI : ∀ b, I b → b < w.heap.size) (s : Sta) (si sb : Sl) (path : ByteArray) (kind : Int) (target : ByteArray) (h : ∀ W, Ext I w W → StaR W s si sb) (hl : s.inos.length ≤ 1000) (hok : ∀ x, x ∈ s.inos → InoOk x) (htg : target.size ≤ 1000000) :
    Fn0 Tryz.prog 130 #[.agg (staC s si sb).toArray, .string path, .int .i64 kind, .string target] w I (fun y : Sl × List Dee × Int × Int => .tuple #[.slice y.1.1 y.2.1.length y.1.2, .int .i64 y.2.2.1, .int .i64 y.2.2.2]) (fun y W => Sl.ok dDee W y.1 y.2.1 ∧ DeedsOk s y.2.1) := by
  refine enter (svs := [.ag ((staC s si sb).map .v), .c (.v (.string path)), .c (.v (.int .i64 kind)), .c (.v (.string target))]) tysOk Tryz.func130 rfl Tryz.ntmps130 Tryz.results130 (by kernel_rfl) (by simp) hI (fun W => StaR W s si sb) h fun C hC hN ok => ?_
  obtain ⟨ia, ic⟩ := si
  obtain ⟨ba, bc⟩ := sb
  have nl : ∀ (W : World), Sl.ok dDee W (none, 0) [] ∧ DeedsOk s [] := fun W => ⟨nilSl dDee W, deedsNil s⟩
  by_cases k1 : kind < 1
  · simp [hN, k1]
    intro g4
    exact ret0 hC ((none, 0), [], 0, 1) rfl fun W _ _ => nl W
  by_cases k3 : 3 < kind
  · simp [hN, k1, k3]
    intro g4
    exact ret0 hC ((none, 0), [], 0, 1) rfl fun W _ _ => nl W
  simp [hN, k1, k3]
  intro g4
  refine call0 ok rfl rfl rfl (fun w I hI hG => parts0 w I hI target) fun z W hz => ?_
  obtain ⟨⟨pa, pc⟩, l, top, e⟩ := z
  refine cutG ok (p := ?pos) (fun _ : Unit => [(1, .c (.v (.string path))), (2, .c (.v (.int .i64 kind))), (3, .c (.v (.string target))), (4, .c (.bp 4 g4 0)), (46, .ag ((staC s (ia, ic) (ba, bc)).map .v)), (47, .c (.v (.string path)))]) (fun _ W => (kind = 3 → target.size ≤ 200) ∧ StaR W s (ia, ic) (ba, bc)) (fun _ => [(4, .box g4 39 ((staC s (ia, ic) (ba, bc)).map .v))]) ?rest fun RR => ?main
  case main =>
    by_cases k4 : kind = 3
    · subst k4
      simp (maxSteps := 2000000) -implicitDefEqProofs [hN]
      refine call0 ok rfl rfl rfl (fun w I hI hG => rightTarget0 w I hI target (by omega)) fun z W hr => ?_
      cases z with
      | false =>
        simp (maxSteps := 2000000) -implicitDefEqProofs [hN]
        exact ret0 hC ((none, 0), [], 0, 17) rfl fun W _ _ => nl W
      | true =>
        by_cases he : e = 0
        · subst he
          simp (maxSteps := 2000000) -implicitDefEqProofs [hN]
          refine RR () _ _ ?_ ?_
          · exact fun W hW => ⟨fun _ => hr rfl, (by first | exact (hW) | exact (hW).1 | exact (hW).1.1 | exact (hW).1.2 | exact (hW).1.2.1 | exact (hW).1.2.2.1 | exact (hW).1.2.2.2.1 | exact (hW).1.2.2.2 | exact (hW).2 | exact (hW).2.1 | exact (hW).2.1.1 | exact (hW).2.1.2 | exact (hW).2.1.2.1 | exact (hW).2.1.2.2.1 | exact (hW).2.1.2.2.2.1 | exact (hW).2.1.2.2.2 | exact (hW).2.2 | exact (hW).2.2.1 | exact (hW).2.2.1.1 | exact (hW).2.2.1.2 | exact (hW).2.2.1.2.1 | exact (hW).2.2.1.2.2.1 | exact (hW).2.2.1.2.2.2.1 | exact (hW).2.2.1.2.2.2 | exact (hW).2.2.2 | exact (hW).2.2.2.1 | exact (hW).2.2.2.1.1 | exact (hW).2.2.2.1.2 | exact (hW).2.2.2.1.2.1 | exact (hW).2.2.2.1.2.2.1 | exact (hW).2.2.2.1.2.2.2.1 | exact (hW).2.2.2.1.2.2.2 | exact (hW).2.2.2.2 | exact (hW).2.2.2.2.1 | exact (hW).2.2.2.2.1.1 | exact (hW).2.2.2.2.1.2 | exact (hW).2.2.2.2.1.2.1 | exact (hW).2.2.2.2.1.2.2.1 | exact (hW).2.2.2.2.1.2.2.2.1 | exact (hW).2.2.2.2.1.2.2.2 | exact (hW).2.2.2.2.2 | exact (hW).2.2.2.2.2.1 | exact (hW).2.2.2.2.2.1.1 | exact (hW).2.2.2.2.2.1.2 | exact (hW).2.2.2.2.2.1.2.1 | exact (hW).2.2.2.2.2.1.2.2.1 | exact (hW).2.2.2.2.2.1.2.2.2.1 | exact (hW).2.2.2.2.2.1.2.2.2 | exact (hW).2.2.2.2.2.2 | exact (hW).2.2.2.2.2.2.1 | exact (hW).2.2.2.2.2.2.1.1 | exact (hW).2.2.2.2.2.2.1.2 | exact (hW).2.2.2.2.2.2.1.2.1 | exact (hW).2.2.2.2.2.2.1.2.2.1 | exact (hW).2.2.2.2.2.2.1.2.2.2.1 | exact (hW).2.2.2.2.2.2.1.2.2.2 | exact (hW).2.2.2.2.2.2.2 | exact (hW).2.2.2.2.2.2.2.1 | exact (hW).2.2.2.2.2.2.2.1.1 | exact (hW).2.2.2.2.2.2.2.1.2 | exact (hW).2.2.2.2.2.2.2.1.2.1 | exact (hW).2.2.2.2.2.2.2.1.2.2.1 | exact (hW).2.2.2.2.2.2.2.1.2.2.2.1 | exact (hW).2.2.2.2.2.2.2.1.2.2.2 | exact (hW).2.2.2.2.2.2.2.2 | exact (hW).2.2.2.2.2.2.2.2.1 | exact (hW).2.2.2.2.2.2.2.2.1.1 | exact (hW).2.2.2.2.2.2.2.2.1.2 | exact (hW).2.2.2.2.2.2.2.2.1.2.1 | exact (hW).2.2.2.2.2.2.2.2.1.2.2.1 | exact (hW).2.2.2.2.2.2.2.2.1.2.2.2.1 | exact (hW).2.2.2.2.2.2.2.2.1.2.2.2 | exact (hW).2.2.2.2.2.2.2.2.2)⟩
          · simp
        · simp (maxSteps := 2000000) -implicitDefEqProofs [hN, he]
          exact ret0 hC ((none, 0), [], 0, 17) rfl fun W _ _ => nl W
    · simp (maxSteps := 2000000) -implicitDefEqProofs [hN, k4]
      refine RR () _ _ ?_ ?_
      · exact fun W hW => ⟨fun h => absurd h k4, (by first | exact (hW) | exact (hW).1 | exact (hW).1.1 | exact (hW).1.2 | exact (hW).1.2.1 | exact (hW).1.2.2.1 | exact (hW).1.2.2.2.1 | exact (hW).1.2.2.2 | exact (hW).2 | exact (hW).2.1 | exact (hW).2.1.1 | exact (hW).2.1.2 | exact (hW).2.1.2.1 | exact (hW).2.1.2.2.1 | exact (hW).2.1.2.2.2.1 | exact (hW).2.1.2.2.2 | exact (hW).2.2 | exact (hW).2.2.1 | exact (hW).2.2.1.1 | exact (hW).2.2.1.2 | exact (hW).2.2.1.2.1 | exact (hW).2.2.1.2.2.1 | exact (hW).2.2.1.2.2.2.1 | exact (hW).2.2.1.2.2.2 | exact (hW).2.2.2 | exact (hW).2.2.2.1 | exact (hW).2.2.2.1.1 | exact (hW).2.2.2.1.2 | exact (hW).2.2.2.1.2.1 | exact (hW).2.2.2.1.2.2.1 | exact (hW).2.2.2.1.2.2.2.1 | exact (hW).2.2.2.1.2.2.2 | exact (hW).2.2.2.2 | exact (hW).2.2.2.2.1 | exact (hW).2.2.2.2.1.1 | exact (hW).2.2.2.2.1.2 | exact (hW).2.2.2.2.1.2.1 | exact (hW).2.2.2.2.1.2.2.1 | exact (hW).2.2.2.2.1.2.2.2.1 | exact (hW).2.2.2.2.1.2.2.2 | exact (hW).2.2.2.2.2 | exact (hW).2.2.2.2.2.1 | exact (hW).2.2.2.2.2.1.1 | exact (hW).2.2.2.2.2.1.2 | exact (hW).2.2.2.2.2.1.2.1 | exact (hW).2.2.2.2.2.1.2.2.1 | exact (hW).2.2.2.2.2.1.2.2.2.1 | exact (hW).2.2.2.2.2.1.2.2.2 | exact (hW).2.2.2.2.2.2 | exact (hW).2.2.2.2.2.2.1 | exact (hW).2.2.2.2.2.2.1.1 | exact (hW).2.2.2.2.2.2.1.2 | exact (hW).2.2.2.2.2.2.1.2.1 | exact (hW).2.2.2.2.2.2.1.2.2.1 | exact (hW).2.2.2.2.2.2.1.2.2.2.1 | exact (hW).2.2.2.2.2.2.1.2.2.2 | exact (hW).2.2.2.2.2.2.2 | exact (hW).2.2.2.2.2.2.2.1 | exact (hW).2.2.2.2.2.2.2.1.1 | exact (hW).2.2.2.2.2.2.2.1.2 | exact (hW).2.2.2.2.2.2.2.1.2.1 | exact (hW).2.2.2.2.2.2.2.1.2.2.1 | exact (hW).2.2.2.2.2.2.2.1.2.2.2.1 | exact (hW).2.2.2.2.2.2.2.1.2.2.2 | exact (hW).2.2.2.2.2.2.2.2 | exact (hW).2.2.2.2.2.2.2.2.1 | exact (hW).2.2.2.2.2.2.2.2.1.1 | exact (hW).2.2.2.2.2.2.2.2.1.2 | exact (hW).2.2.2.2.2.2.2.2.1.2.1 | exact (hW).2.2.2.2.2.2.2.2.1.2.2.1 | exact (hW).2.2.2.2.2.2.2.2.1.2.2.2.1 | exact (hW).2.2.2.2.2.2.2.2.1.2.2.2 | exact (hW).2.2.2.2.2.2.2.2.2)⟩
      · simp
  case rest =>
    intro _
    refine someG fun W0 hW0 => ?_
    have ht := hW0.1
    refine call0 ok rfl rfl rfl (fun w I hI hG => parent0 w I hI s (ia, ic) (ba, bc) path (fun W e => (hG W e).2) (by omega)) fun y W hp => ?_
    obtain ⟨dir, nm, e⟩ := y
    by_cases he : e = 0
    · subst he
      simp (maxSteps := 2000000) -implicitDefEqProofs [hN]
      refine call0 ok rfl rfl rfl (fun w I hI hG => findIno0 w I hI s (ia, ic) (ba, bc) dir (fun W e => ((by first | exact (hG W e) | exact (hG W e).1 | exact (hG W e).1.1 | exact (hG W e).1.2 | exact (hG W e).1.2.1 | exact (hG W e).1.2.2.1 | exact (hG W e).1.2.2.2.1 | exact (hG W e).1.2.2.2 | exact (hG W e).2 | exact (hG W e).2.1 | exact (hG W e).2.1.1 | exact (hG W e).2.1.2 | exact (hG W e).2.1.2.1 | exact (hG W e).2.1.2.2.1 | exact (hG W e).2.1.2.2.2.1 | exact (hG W e).2.1.2.2.2 | exact (hG W e).2.2 | exact (hG W e).2.2.1 | exact (hG W e).2.2.1.1 | exact (hG W e).2.2.1.2 | exact (hG W e).2.2.1.2.1 | exact (hG W e).2.2.1.2.2.1 | exact (hG W e).2.2.1.2.2.2.1 | exact (hG W e).2.2.1.2.2.2 | exact (hG W e).2.2.2 | exact (hG W e).2.2.2.1 | exact (hG W e).2.2.2.1.1 | exact (hG W e).2.2.2.1.2 | exact (hG W e).2.2.2.1.2.1 | exact (hG W e).2.2.2.1.2.2.1 | exact (hG W e).2.2.2.1.2.2.2.1 | exact (hG W e).2.2.2.1.2.2.2 | exact (hG W e).2.2.2.2 | exact (hG W e).2.2.2.2.1 | exact (hG W e).2.2.2.2.1.1 | exact (hG W e).2.2.2.2.1.2 | exact (hG W e).2.2.2.2.1.2.1 | exact (hG W e).2.2.2.2.1.2.2.1 | exact (hG W e).2.2.2.2.1.2.2.2.1 | exact (hG W e).2.2.2.2.1.2.2.2 | exact (hG W e).2.2.2.2.2 | exact (hG W e).2.2.2.2.2.1 | exact (hG W e).2.2.2.2.2.1.1 | exact (hG W e).2.2.2.2.2.1.2 | exact (hG W e).2.2.2.2.2.1.2.1 | exact (hG W e).2.2.2.2.2.1.2.2.1 | exact (hG W e).2.2.2.2.2.1.2.2.2.1 | exact (hG W e).2.2.2.2.2.1.2.2.2 | exact (hG W e).2.2.2.2.2.2 | exact (hG W e).2.2.2.2.2.2.1 | exact (hG W e).2.2.2.2.2.2.1.1 | exact (hG W e).2.2.2.2.2.2.1.2 | exact (hG W e).2.2.2.2.2.2.1.2.1 | exact (hG W e).2.2.2.2.2.2.1.2.2.1 | exact (hG W e).2.2.2.2.2.2.1.2.2.2.1 | exact (hG W e).2.2.2.2.2.2.1.2.2.2 | exact (hG W e).2.2.2.2.2.2.2 | exact (hG W e).2.2.2.2.2.2.2.1 | exact (hG W e).2.2.2.2.2.2.2.1.1 | exact (hG W e).2.2.2.2.2.2.2.1.2 | exact (hG W e).2.2.2.2.2.2.2.1.2.1 | exact (hG W e).2.2.2.2.2.2.2.1.2.2.1 | exact (hG W e).2.2.2.2.2.2.2.1.2.2.2.1 | exact (hG W e).2.2.2.2.2.2.2.1.2.2.2 | exact (hG W e).2.2.2.2.2.2.2.2 | exact (hG W e).2.2.2.2.2.2.2.2.1 | exact (hG W e).2.2.2.2.2.2.2.2.1.1 | exact (hG W e).2.2.2.2.2.2.2.2.1.2 | exact (hG W e).2.2.2.2.2.2.2.2.1.2.1 | exact (hG W e).2.2.2.2.2.2.2.2.1.2.2.1 | exact (hG W e).2.2.2.2.2.2.2.2.1.2.2.2.1 | exact (hG W e).2.2.2.2.2.2.2.2.1.2.2.2 | exact (hG W e).2.2.2.2.2.2.2.2.2) : StaR W s (ia, ic) (ba, bc))) (by omega)) fun y W hd => ?_
      obtain ⟨⟨d, ⟨da, dc⟩, ⟨ra, rc⟩⟩, has⟩ := y
      have hdi : d ∈ s.inos := by
        cases has with
        | true => exact (hd.2.1 rfl).1
        | false =>
          obtain ⟨z, hz, hn⟩ := hp.2 rfl
          exact absurd hn ((hd.2.2 rfl).2 z hz)
      simp (maxSteps := 2000000) -implicitDefEqProofs [hN]
      intro g17
      refine call0 ok rfl rfl rfl (fun w I hI hG => find0 w I hI d.ents nm (fun W e => ⟨rfl, ((by first | exact (hG W e) | exact (hG W e).1 | exact (hG W e).1.1 | exact (hG W e).1.2 | exact (hG W e).1.2.1 | exact (hG W e).1.2.2.1 | exact (hG W e).1.2.2.2.1 | exact (hG W e).1.2.2.2 | exact (hG W e).2 | exact (hG W e).2.1 | exact (hG W e).2.1.1 | exact (hG W e).2.1.2 | exact (hG W e).2.1.2.1 | exact (hG W e).2.1.2.2.1 | exact (hG W e).2.1.2.2.2.1 | exact (hG W e).2.1.2.2.2 | exact (hG W e).2.2 | exact (hG W e).2.2.1 | exact (hG W e).2.2.1.1 | exact (hG W e).2.2.1.2 | exact (hG W e).2.2.1.2.1 | exact (hG W e).2.2.1.2.2.1 | exact (hG W e).2.2.1.2.2.2.1 | exact (hG W e).2.2.1.2.2.2 | exact (hG W e).2.2.2 | exact (hG W e).2.2.2.1 | exact (hG W e).2.2.2.1.1 | exact (hG W e).2.2.2.1.2 | exact (hG W e).2.2.2.1.2.1 | exact (hG W e).2.2.2.1.2.2.1 | exact (hG W e).2.2.2.1.2.2.2.1 | exact (hG W e).2.2.2.1.2.2.2 | exact (hG W e).2.2.2.2 | exact (hG W e).2.2.2.2.1 | exact (hG W e).2.2.2.2.1.1 | exact (hG W e).2.2.2.2.1.2 | exact (hG W e).2.2.2.2.1.2.1 | exact (hG W e).2.2.2.2.1.2.2.1 | exact (hG W e).2.2.2.2.1.2.2.2.1 | exact (hG W e).2.2.2.2.1.2.2.2 | exact (hG W e).2.2.2.2.2 | exact (hG W e).2.2.2.2.2.1 | exact (hG W e).2.2.2.2.2.1.1 | exact (hG W e).2.2.2.2.2.1.2 | exact (hG W e).2.2.2.2.2.1.2.1 | exact (hG W e).2.2.2.2.2.1.2.2.1 | exact (hG W e).2.2.2.2.2.1.2.2.2.1 | exact (hG W e).2.2.2.2.2.1.2.2.2 | exact (hG W e).2.2.2.2.2.2 | exact (hG W e).2.2.2.2.2.2.1 | exact (hG W e).2.2.2.2.2.2.1.1 | exact (hG W e).2.2.2.2.2.2.1.2 | exact (hG W e).2.2.2.2.2.2.1.2.1 | exact (hG W e).2.2.2.2.2.2.1.2.2.1 | exact (hG W e).2.2.2.2.2.2.1.2.2.2.1 | exact (hG W e).2.2.2.2.2.2.1.2.2.2 | exact (hG W e).2.2.2.2.2.2.2 | exact (hG W e).2.2.2.2.2.2.2.1 | exact (hG W e).2.2.2.2.2.2.2.1.1 | exact (hG W e).2.2.2.2.2.2.2.1.2 | exact (hG W e).2.2.2.2.2.2.2.1.2.1 | exact (hG W e).2.2.2.2.2.2.2.1.2.2.1 | exact (hG W e).2.2.2.2.2.2.2.1.2.2.2.1 | exact (hG W e).2.2.2.2.2.2.2.1.2.2.2 | exact (hG W e).2.2.2.2.2.2.2.2 | exact (hG W e).2.2.2.2.2.2.2.2.1 | exact (hG W e).2.2.2.2.2.2.2.2.1.1 | exact (hG W e).2.2.2.2.2.2.2.2.1.2 | exact (hG W e).2.2.2.2.2.2.2.2.1.2.1 | exact (hG W e).2.2.2.2.2.2.2.2.1.2.2.1 | exact (hG W e).2.2.2.2.2.2.2.2.1.2.2.2.1 | exact (hG W e).2.2.2.2.2.2.2.2.1.2.2.2 | exact (hG W e).2.2.2.2.2.2.2.2.2) : InoR W d (da, dc) (ra, rc)).1⟩)) fun y W hf => ?_
      obtain ⟨no, is⟩ := y
      cases is with
      | true =>
        simp (maxSteps := 2000000) -implicitDefEqProofs [hN]
        exact ret0 hC ((none, 0), [], 0, 12) rfl fun W _ _ => nl W
      | false =>
        by_cases hin : (200 : Int) ≤ (s.inos.length : Nat)
        · simp (maxSteps := 2000000) -implicitDefEqProofs [hN, hin]
          exact ret0 hC ((none, 0), [], 0, 10) rfl fun W _ _ => nl W
        · by_cases hlk : kind = 2 ∧ 100 ≤ d.links
          · simp (maxSteps := 2000000) -implicitDefEqProofs [hN, hin, hlk.1, hlk.2]
            exact ret0 hC ((none, 0), [], 0, 18) rfl fun W _ _ => nl W
          · have go : True := trivial
            refine cutG ok (p := ?pos2) (fun _ : Unit => [(2, .c (.v (.int .i64 kind))), (3, .c (.v (.string target))), (4, .c (.bp 4 g4 0)), (17, .c (.bp 17 g17 0)), (85, .c (.v (.slice da d.ents.length dc))), (89, .ag [.v (.string nm), .v (.int .i64 s.next)])]) (fun _ W => InoR W d (da, dc) (ra, rc) ∧ StaR W s (ia, ic) (ba, bc)) (fun _ => [(4, .box g4 39 ((staC s (ia, ic) (ba, bc)).map .v)), (17, .box g17 44 ((inoC d (da, dc) (ra, rc)).map .v))]) ?rest2 fun R2 => ?main2
            case main2 =>
              by_cases k2 : kind = 2
              · have hlk2 : ¬ (100 ≤ d.links) := fun h => hlk ⟨k2, h⟩
                subst k2
                simp (maxSteps := 2000000) -implicitDefEqProofs [hN, hin, hlk2]
                refine R2 () _ _ ?_ ?_
                · exact fun W hW => ⟨(by first | exact (hW) | exact (hW).1 | exact (hW).1.1 | exact (hW).1.2 | exact (hW).1.2.1 | exact (hW).1.2.2.1 | exact (hW).1.2.2.2.1 | exact (hW).1.2.2.2 | exact (hW).2 | exact (hW).2.1 | exact (hW).2.1.1 | exact (hW).2.1.2 | exact (hW).2.1.2.1 | exact (hW).2.1.2.2.1 | exact (hW).2.1.2.2.2.1 | exact (hW).2.1.2.2.2 | exact (hW).2.2 | exact (hW).2.2.1 | exact (hW).2.2.1.1 | exact (hW).2.2.1.2 | exact (hW).2.2.1.2.1 | exact (hW).2.2.1.2.2.1 | exact (hW).2.2.1.2.2.2.1 | exact (hW).2.2.1.2.2.2 | exact (hW).2.2.2 | exact (hW).2.2.2.1 | exact (hW).2.2.2.1.1 | exact (hW).2.2.2.1.2 | exact (hW).2.2.2.1.2.1 | exact (hW).2.2.2.1.2.2.1 | exact (hW).2.2.2.1.2.2.2.1 | exact (hW).2.2.2.1.2.2.2 | exact (hW).2.2.2.2 | exact (hW).2.2.2.2.1 | exact (hW).2.2.2.2.1.1 | exact (hW).2.2.2.2.1.2 | exact (hW).2.2.2.2.1.2.1 | exact (hW).2.2.2.2.1.2.2.1 | exact (hW).2.2.2.2.1.2.2.2.1 | exact (hW).2.2.2.2.1.2.2.2 | exact (hW).2.2.2.2.2 | exact (hW).2.2.2.2.2.1 | exact (hW).2.2.2.2.2.1.1 | exact (hW).2.2.2.2.2.1.2 | exact (hW).2.2.2.2.2.1.2.1 | exact (hW).2.2.2.2.2.1.2.2.1 | exact (hW).2.2.2.2.2.1.2.2.2.1 | exact (hW).2.2.2.2.2.1.2.2.2 | exact (hW).2.2.2.2.2.2 | exact (hW).2.2.2.2.2.2.1 | exact (hW).2.2.2.2.2.2.1.1 | exact (hW).2.2.2.2.2.2.1.2 | exact (hW).2.2.2.2.2.2.1.2.1 | exact (hW).2.2.2.2.2.2.1.2.2.1 | exact (hW).2.2.2.2.2.2.1.2.2.2.1 | exact (hW).2.2.2.2.2.2.1.2.2.2 | exact (hW).2.2.2.2.2.2.2 | exact (hW).2.2.2.2.2.2.2.1 | exact (hW).2.2.2.2.2.2.2.1.1 | exact (hW).2.2.2.2.2.2.2.1.2 | exact (hW).2.2.2.2.2.2.2.1.2.1 | exact (hW).2.2.2.2.2.2.2.1.2.2.1 | exact (hW).2.2.2.2.2.2.2.1.2.2.2.1 | exact (hW).2.2.2.2.2.2.2.1.2.2.2 | exact (hW).2.2.2.2.2.2.2.2 | exact (hW).2.2.2.2.2.2.2.2.1 | exact (hW).2.2.2.2.2.2.2.2.1.1 | exact (hW).2.2.2.2.2.2.2.2.1.2 | exact (hW).2.2.2.2.2.2.2.2.1.2.1 | exact (hW).2.2.2.2.2.2.2.2.1.2.2.1 | exact (hW).2.2.2.2.2.2.2.2.1.2.2.2.1 | exact (hW).2.2.2.2.2.2.2.2.1.2.2.2 | exact (hW).2.2.2.2.2.2.2.2.2), (by first | exact (hW) | exact (hW).1 | exact (hW).1.1 | exact (hW).1.2 | exact (hW).1.2.1 | exact (hW).1.2.2.1 | exact (hW).1.2.2.2.1 | exact (hW).1.2.2.2 | exact (hW).2 | exact (hW).2.1 | exact (hW).2.1.1 | exact (hW).2.1.2 | exact (hW).2.1.2.1 | exact (hW).2.1.2.2.1 | exact (hW).2.1.2.2.2.1 | exact (hW).2.1.2.2.2 | exact (hW).2.2 | exact (hW).2.2.1 | exact (hW).2.2.1.1 | exact (hW).2.2.1.2 | exact (hW).2.2.1.2.1 | exact (hW).2.2.1.2.2.1 | exact (hW).2.2.1.2.2.2.1 | exact (hW).2.2.1.2.2.2 | exact (hW).2.2.2 | exact (hW).2.2.2.1 | exact (hW).2.2.2.1.1 | exact (hW).2.2.2.1.2 | exact (hW).2.2.2.1.2.1 | exact (hW).2.2.2.1.2.2.1 | exact (hW).2.2.2.1.2.2.2.1 | exact (hW).2.2.2.1.2.2.2 | exact (hW).2.2.2.2 | exact (hW).2.2.2.2.1 | exact (hW).2.2.2.2.1.1 | exact (hW).2.2.2.2.1.2 | exact (hW).2.2.2.2.1.2.1 | exact (hW).2.2.2.2.1.2.2.1 | exact (hW).2.2.2.2.1.2.2.2.1 | exact (hW).2.2.2.2.1.2.2.2 | exact (hW).2.2.2.2.2 | exact (hW).2.2.2.2.2.1 | exact (hW).2.2.2.2.2.1.1 | exact (hW).2.2.2.2.2.1.2 | exact (hW).2.2.2.2.2.1.2.1 | exact (hW).2.2.2.2.2.1.2.2.1 | exact (hW).2.2.2.2.2.1.2.2.2.1 | exact (hW).2.2.2.2.2.1.2.2.2 | exact (hW).2.2.2.2.2.2 | exact (hW).2.2.2.2.2.2.1 | exact (hW).2.2.2.2.2.2.1.1 | exact (hW).2.2.2.2.2.2.1.2 | exact (hW).2.2.2.2.2.2.1.2.1 | exact (hW).2.2.2.2.2.2.1.2.2.1 | exact (hW).2.2.2.2.2.2.1.2.2.2.1 | exact (hW).2.2.2.2.2.2.1.2.2.2 | exact (hW).2.2.2.2.2.2.2 | exact (hW).2.2.2.2.2.2.2.1 | exact (hW).2.2.2.2.2.2.2.1.1 | exact (hW).2.2.2.2.2.2.2.1.2 | exact (hW).2.2.2.2.2.2.2.1.2.1 | exact (hW).2.2.2.2.2.2.2.1.2.2.1 | exact (hW).2.2.2.2.2.2.2.1.2.2.2.1 | exact (hW).2.2.2.2.2.2.2.1.2.2.2 | exact (hW).2.2.2.2.2.2.2.2 | exact (hW).2.2.2.2.2.2.2.2.1 | exact (hW).2.2.2.2.2.2.2.2.1.1 | exact (hW).2.2.2.2.2.2.2.2.1.2 | exact (hW).2.2.2.2.2.2.2.2.1.2.1 | exact (hW).2.2.2.2.2.2.2.2.1.2.2.1 | exact (hW).2.2.2.2.2.2.2.2.1.2.2.2.1 | exact (hW).2.2.2.2.2.2.2.2.1.2.2.2 | exact (hW).2.2.2.2.2.2.2.2.2)⟩
                · simp
              · simp (maxSteps := 2000000) -implicitDefEqProofs [hN, hin, k2]
                refine R2 () _ _ ?_ ?_
                · exact fun W hW => ⟨(by first | exact (hW) | exact (hW).1 | exact (hW).1.1 | exact (hW).1.2 | exact (hW).1.2.1 | exact (hW).1.2.2.1 | exact (hW).1.2.2.2.1 | exact (hW).1.2.2.2 | exact (hW).2 | exact (hW).2.1 | exact (hW).2.1.1 | exact (hW).2.1.2 | exact (hW).2.1.2.1 | exact (hW).2.1.2.2.1 | exact (hW).2.1.2.2.2.1 | exact (hW).2.1.2.2.2 | exact (hW).2.2 | exact (hW).2.2.1 | exact (hW).2.2.1.1 | exact (hW).2.2.1.2 | exact (hW).2.2.1.2.1 | exact (hW).2.2.1.2.2.1 | exact (hW).2.2.1.2.2.2.1 | exact (hW).2.2.1.2.2.2 | exact (hW).2.2.2 | exact (hW).2.2.2.1 | exact (hW).2.2.2.1.1 | exact (hW).2.2.2.1.2 | exact (hW).2.2.2.1.2.1 | exact (hW).2.2.2.1.2.2.1 | exact (hW).2.2.2.1.2.2.2.1 | exact (hW).2.2.2.1.2.2.2 | exact (hW).2.2.2.2 | exact (hW).2.2.2.2.1 | exact (hW).2.2.2.2.1.1 | exact (hW).2.2.2.2.1.2 | exact (hW).2.2.2.2.1.2.1 | exact (hW).2.2.2.2.1.2.2.1 | exact (hW).2.2.2.2.1.2.2.2.1 | exact (hW).2.2.2.2.1.2.2.2 | exact (hW).2.2.2.2.2 | exact (hW).2.2.2.2.2.1 | exact (hW).2.2.2.2.2.1.1 | exact (hW).2.2.2.2.2.1.2 | exact (hW).2.2.2.2.2.1.2.1 | exact (hW).2.2.2.2.2.1.2.2.1 | exact (hW).2.2.2.2.2.1.2.2.2.1 | exact (hW).2.2.2.2.2.1.2.2.2 | exact (hW).2.2.2.2.2.2 | exact (hW).2.2.2.2.2.2.1 | exact (hW).2.2.2.2.2.2.1.1 | exact (hW).2.2.2.2.2.2.1.2 | exact (hW).2.2.2.2.2.2.1.2.1 | exact (hW).2.2.2.2.2.2.1.2.2.1 | exact (hW).2.2.2.2.2.2.1.2.2.2.1 | exact (hW).2.2.2.2.2.2.1.2.2.2 | exact (hW).2.2.2.2.2.2.2 | exact (hW).2.2.2.2.2.2.2.1 | exact (hW).2.2.2.2.2.2.2.1.1 | exact (hW).2.2.2.2.2.2.2.1.2 | exact (hW).2.2.2.2.2.2.2.1.2.1 | exact (hW).2.2.2.2.2.2.2.1.2.2.1 | exact (hW).2.2.2.2.2.2.2.1.2.2.2.1 | exact (hW).2.2.2.2.2.2.2.1.2.2.2 | exact (hW).2.2.2.2.2.2.2.2 | exact (hW).2.2.2.2.2.2.2.2.1 | exact (hW).2.2.2.2.2.2.2.2.1.1 | exact (hW).2.2.2.2.2.2.2.2.1.2 | exact (hW).2.2.2.2.2.2.2.2.1.2.1 | exact (hW).2.2.2.2.2.2.2.2.1.2.2.1 | exact (hW).2.2.2.2.2.2.2.2.1.2.2.2.1 | exact (hW).2.2.2.2.2.2.2.2.1.2.2.2 | exact (hW).2.2.2.2.2.2.2.2.2), (by first | exact (hW) | exact (hW).1 | exact (hW).1.1 | exact (hW).1.2 | exact (hW).1.2.1 | exact (hW).1.2.2.1 | exact (hW).1.2.2.2.1 | exact (hW).1.2.2.2 | exact (hW).2 | exact (hW).2.1 | exact (hW).2.1.1 | exact (hW).2.1.2 | exact (hW).2.1.2.1 | exact (hW).2.1.2.2.1 | exact (hW).2.1.2.2.2.1 | exact (hW).2.1.2.2.2 | exact (hW).2.2 | exact (hW).2.2.1 | exact (hW).2.2.1.1 | exact (hW).2.2.1.2 | exact (hW).2.2.1.2.1 | exact (hW).2.2.1.2.2.1 | exact (hW).2.2.1.2.2.2.1 | exact (hW).2.2.1.2.2.2 | exact (hW).2.2.2 | exact (hW).2.2.2.1 | exact (hW).2.2.2.1.1 | exact (hW).2.2.2.1.2 | exact (hW).2.2.2.1.2.1 | exact (hW).2.2.2.1.2.2.1 | exact (hW).2.2.2.1.2.2.2.1 | exact (hW).2.2.2.1.2.2.2 | exact (hW).2.2.2.2 | exact (hW).2.2.2.2.1 | exact (hW).2.2.2.2.1.1 | exact (hW).2.2.2.2.1.2 | exact (hW).2.2.2.2.1.2.1 | exact (hW).2.2.2.2.1.2.2.1 | exact (hW).2.2.2.2.1.2.2.2.1 | exact (hW).2.2.2.2.1.2.2.2 | exact (hW).2.2.2.2.2 | exact (hW).2.2.2.2.2.1 | exact (hW).2.2.2.2.2.1.1 | exact (hW).2.2.2.2.2.1.2 | exact (hW).2.2.2.2.2.1.2.1 | exact (hW).2.2.2.2.2.1.2.2.1 | exact (hW).2.2.2.2.2.1.2.2.2.1 | exact (hW).2.2.2.2.2.1.2.2.2 | exact (hW).2.2.2.2.2.2 | exact (hW).2.2.2.2.2.2.1 | exact (hW).2.2.2.2.2.2.1.1 | exact (hW).2.2.2.2.2.2.1.2 | exact (hW).2.2.2.2.2.2.1.2.1 | exact (hW).2.2.2.2.2.2.1.2.2.1 | exact (hW).2.2.2.2.2.2.1.2.2.2.1 | exact (hW).2.2.2.2.2.2.1.2.2.2 | exact (hW).2.2.2.2.2.2.2 | exact (hW).2.2.2.2.2.2.2.1 | exact (hW).2.2.2.2.2.2.2.1.1 | exact (hW).2.2.2.2.2.2.2.1.2 | exact (hW).2.2.2.2.2.2.2.1.2.1 | exact (hW).2.2.2.2.2.2.2.1.2.2.1 | exact (hW).2.2.2.2.2.2.2.1.2.2.2.1 | exact (hW).2.2.2.2.2.2.2.1.2.2.2 | exact (hW).2.2.2.2.2.2.2.2 | exact (hW).2.2.2.2.2.2.2.2.1 | exact (hW).2.2.2.2.2.2.2.2.1.1 | exact (hW).2.2.2.2.2.2.2.2.1.2 | exact (hW).2.2.2.2.2.2.2.2.1.2.1 | exact (hW).2.2.2.2.2.2.2.2.1.2.2.1 | exact (hW).2.2.2.2.2.2.2.2.1.2.2.2.1 | exact (hW).2.2.2.2.2.2.2.2.1.2.2.2 | exact (hW).2.2.2.2.2.2.2.2.2)⟩
                · simp
            case rest2 =>
              intro _
              refine call0 ok rfl rfl rfl (fun w I hI hG => addEntry0 w I hI d.ents ⟨nm, s.next⟩ (fun W e => ⟨rfl, (hG W e).1.1⟩) (by have := hp.1; simp only at this ⊢; omega)) fun y W ha => ?_
              obtain ⟨⟨ea, ec⟩, r, e⟩ := y
              by_cases he : e = 0
              · subst he
                have hdo := hok d hdi
                have hent : r.length ≤ 100 ∧ ∀ x, x ∈ r → x.name.size ≤ 32 := ⟨ha.2.2.1, fun x hx => by
                  rcases ha.2.2.2 x hx with h | ⟨h1, h2⟩
                  · exact hdo.names x h
                  · rw [h1]; exact h2⟩
                have hnew : InoOk (newIno s.next kind target) := ⟨fun j hj => by simp [newIno] at hj, by simp [newIno], by simp [newIno], by
                  by_cases k3 : kind = 3
                  · simp [newIno, k3]; exact ht k3
                  · simp [newIno, k3, emp]; decide⟩
                have fin : ∀ (v m K : Int), K = kind → DeedsOk s [⟨1, m, inoZ⟩, ⟨2, 0, { d with links := v, ents := r }⟩, ⟨2, 0, newIno s.next K target⟩] := fun v m K hK => by
                  rw [hK]
                  exact ⟨by simp, [⟨1, m, inoZ⟩, ⟨2, 0, { d with links := v, ents := r }⟩], [⟨2, 0, newIno s.next kind target⟩], rfl, fun q hq => by
                  simp at hq
                  rcases hq with rfl | rfl
                  · exact .inl rfl
                  · exact .inr ⟨rfl, ⟨hdo.right, hent.1, hent.2, hdo.tgt⟩, d, hdi, rfl, rfl⟩, .inr ⟨_, rfl, .inr ⟨rfl, hnew, rfl⟩⟩⟩
                by_cases k2 : kind = 2
                · simp (maxSteps := 2000000) -implicitDefEqProofs [hN, k2]
                  refine drawK ok mixed (by kernel_rfl) ?_
                  simp (maxSteps := 2000000) -implicitDefEqProofs [hN, k2]
                  refine call0 ok rfl rfl rfl (fun w I hI hG => putDeed0 w I hI { d with links := IntKind.i64.wrap (d.links + 1), ents := r } (ea, ec) (ra, rc)) fun _ W _ => ?_
                  simp (maxSteps := 2000000) -implicitDefEqProofs [hN]
                  refine call0 ok rfl rfl rfl (fun w I hI hG => newIno0 w I hI s.next 2 target) fun _ W _ => ?_
                  simp (maxSteps := 2000000) -implicitDefEqProofs [hN]
                  refine call0 ok rfl rfl rfl (fun w I hI hG => putDeed0 w I hI (newIno s.next 2 target) (none, 0) (none, 0)) fun _ W _ => ?_
                  simp (maxSteps := 2000000) -implicitDefEqProofs [hN]
                  intro g116
                  exact ret0 hC ((some ⟨g116, 0, none⟩, 3), [⟨1, IntKind.i64.wrap (s.next + 1), inoZ⟩, ⟨2, 0, { d with links := IntKind.i64.wrap (d.links + 1), ents := r }⟩, ⟨2, 0, newIno s.next 2 target⟩], s.next, 0) rfl fun W hp hG => ⟨dees_sl (l := [(⟨1, IntKind.i64.wrap (s.next + 1), inoZ⟩, (none, 0), (none, 0)), (⟨2, 0, { d with links := IntKind.i64.wrap (d.links + 1), ents := r }⟩, (ea, ec), (ra, rc)), (⟨2, 0, newIno s.next 2 target⟩, (none, 0), (none, 0))]) (e := 46) hp.1 (fun y hy => by
                    simp only [List.mem_cons, List.not_mem_nil, or_false] at hy
                    rcases hy with rfl | rfl | rfl
                    · exact inoNilR W
                    · exact ⟨hG.1.1, hG.2.1.2⟩
                    · exact ⟨nilSl dEnt W, nilSl dRn W⟩) (by simp), fin _ _ 2 k2.symm⟩
                · simp (maxSteps := 2000000) -implicitDefEqProofs [hN, k2]
                  refine drawK ok mixed (by kernel_rfl) ?_
                  simp (maxSteps := 2000000) -implicitDefEqProofs [hN, k2]
                  refine call0 ok rfl rfl rfl (fun w I hI hG => putDeed0 w I hI { d with links := d.links, ents := r } (ea, ec) (ra, rc)) fun _ W _ => ?_
                  simp (maxSteps := 2000000) -implicitDefEqProofs [hN]
                  refine call0 ok rfl rfl rfl (fun w I hI hG => newIno0 w I hI s.next kind target) fun _ W _ => ?_
                  simp (maxSteps := 2000000) -implicitDefEqProofs [hN]
                  refine call0 ok rfl rfl rfl (fun w I hI hG => putDeed0 w I hI (newIno s.next kind target) (none, 0) (none, 0)) fun _ W _ => ?_
                  simp (maxSteps := 2000000) -implicitDefEqProofs [hN]
                  intro g116
                  exact ret0 hC ((some ⟨g116, 0, none⟩, 3), [⟨1, IntKind.i64.wrap (s.next + 1), inoZ⟩, ⟨2, 0, { d with links := d.links, ents := r }⟩, ⟨2, 0, newIno s.next kind target⟩], s.next, 0) rfl fun W hp hG => ⟨dees_sl (l := [(⟨1, IntKind.i64.wrap (s.next + 1), inoZ⟩, (none, 0), (none, 0)), (⟨2, 0, { d with links := d.links, ents := r }⟩, (ea, ec), (ra, rc)), (⟨2, 0, newIno s.next kind target⟩, (none, 0), (none, 0))]) (e := 46) hp.1 (fun y hy => by
                    simp only [List.mem_cons, List.not_mem_nil, or_false] at hy
                    rcases hy with rfl | rfl | rfl
                    · exact inoNilR W
                    · exact ⟨hG.1.1, hG.2.1.2⟩
                    · exact ⟨nilSl dEnt W, nilSl dRn W⟩) (by simp), fin _ _ kind rfl⟩
              · simp (maxSteps := 2000000) -implicitDefEqProofs [hN, he]
                exact ret0 hC ((none, 0), [], 0, e) rfl fun W _ _ => nl W
    · simp (maxSteps := 2000000) -implicitDefEqProofs [hN, he]
      exact ret0 hC ((none, 0), [], 0, e) rfl fun W _ _ => nl W
end Go.Proofs.YtbbaoeidobdblaaGreat.Sx

/- Unlink, Rmdir of the reference. -/
set_option linter.unusedVariables false
set_option linter.unusedSimpArgs false
namespace Go.Proofs.YtbbaoeidobdblaaGreat.Sx
open Go
attribute [local simp ↓] ifb_true' ifb_false'
attribute [local simp] ifb_true ifb_false ifb_eq sx argsT find ev evOp evs evo evBin evInt evStr evNil evNilA ptrA slcA isNoneA asB evLoad look del cellsB evUn evConv kdec fld evFieldA evField evIdxA evIdx evSlc bndL bndH evLen mmi put resV guardV gvL setO tupV cellsOf ones one upd lits nv exitTo SV.val CV.val TI.agg rdyA allR keepB scan simpO gsp isS subs keepT pickT wr memN pubs Res.fact Region.binds bld rest give delL back Res.eqv vi vb num Sv.val undef
theorem inoOk_ents {d : Ino} (h : InoOk d) {r : List Ent} {v : Int} (h1 : r.length ≤ 100) (h2 : ∀ x, x ∈ r → x.name.size ≤ 32) : InoOk { d with links := v, ents := r } := ⟨h.right, h1, h2, h.tgt⟩
theorem inoOk_links {d : Ino} (h : InoOk d) {v : Int} : InoOk { d with links := v } := ⟨h.right, h.ents, h.names, h.tgt⟩
/-- What letGo answers, as a deed of a state. -/
theorem letGo_ok {s : Sta} {x : Ino} (hx : x ∈ s.inos) (hok : InoOk x) {d : Dee} (h : d.kind = 3 ∨ d.kind = 2 ∧ ∃ v, d.ino = { x with links := v }) : SameD s d ∨ LastD d := by
  rcases h with h | ⟨h, v, e⟩
  · exact .inr (.inl h)
  · exact .inl (.inr ⟨h, by rw [e]; exact inoOk_links hok, x, hx, by rw [e], by rw [e]⟩)
theorem deeds_two {s : Sta} {a b : Dee} (h1 : SameD s a) (h2 : SameD s b ∨ LastD b) : DeedsOk s [a, b] := by
  rcases h2 with h2 | h2
  · refine ⟨by simp, [a, b], [], rfl, fun q hq => ?_, .inl rfl⟩
    simp at hq
    rcases hq with rfl | rfl
    · exact h1
    · exact h2
  · refine ⟨by simp, [a], [b], rfl, fun q hq => ?_, .inr ⟨b, rfl, h2⟩⟩
    simp at hq
    rw [hq]
    exact h1
set_option maxRecDepth 100000 in
set_option maxHeartbeats 4000000 in
theorem unlink0 (w : World) (I : Nat → Prop) (hI : ∀ b, I b → b < w.heap.size) (s : Sta) (si sb : Sl) (path : ByteArray) (h : ∀ W, Ext I w W → StaR W s si sb) (hl : s.inos.length ≤ 1000) (hok : ∀ x, x ∈ s.inos → InoOk x) :
    Fn0 Tryz.prog 133 #[.agg (staC s si sb).toArray, .string path, .slice none 0 0] w I (fun y : Sl × List Dee × Int => .tuple #[.slice y.1.1 y.2.1.length y.1.2, .int .i64 y.2.2]) (fun y W => Sl.ok dDee W y.1 y.2.1 ∧ DeedsOk s y.2.1) := by
  refine enter (svs := [.ag ((staC s si sb).map .v), .c (.v (.string path)), .c (.v (.slice none 0 0))]) tysOk Tryz.func133 rfl Tryz.ntmps133 Tryz.results133 (by kernel_rfl) (by simp) hI (fun W => StaR W s si sb) h fun C hC hN ok => ?_
  obtain ⟨ia, ic⟩ := si
  obtain ⟨ba, bc⟩ := sb
  have nl : ∀ (W : World), Sl.ok dDee W (none, 0) [] ∧ DeedsOk s [] := fun W => ⟨nilSl dDee W, deedsNil s⟩
  simp [hN]
  intro g3
  refine call0 ok rfl rfl rfl (fun w I hI hG => entry0 w I hI s (ia, ic) (ba, bc) path hG (by omega)) fun y W hy => ?_
  obtain ⟨⟨d, ⟨da, dc⟩, ⟨ra, rc⟩⟩, nm, ⟨x, ⟨xa, xc⟩, ⟨ya, yc⟩⟩, e⟩ := y
  by_cases he : e = 0
  · subst he
    obtain ⟨_, _, hnm, _, hin⟩ := hy
    obtain ⟨hdi, hxi⟩ := hin rfl
    simp only at hdi hxi hnm
    by_cases k2 : x.kind = 2
    · simp (maxSteps := 2000000) -implicitDefEqProofs [hN, k2]
      intro g8 g10
      exact ret0 hC ((none, 0), [], 14) rfl fun W _ _ => nl W
    · simp (maxSteps := 2000000) -implicitDefEqProofs [hN, k2]
      intro g8 g10
      refine call0 ok rfl rfl rfl (fun w I hI hG => removeEntry0 w I hI d.ents nm (fun W e => ⟨rfl, ((by first | exact (hG W e) | exact (hG W e).1 | exact (hG W e).1.1 | exact (hG W e).1.2 | exact (hG W e).1.2.1 | exact (hG W e).1.2.2.1 | exact (hG W e).1.2.2.2.1 | exact (hG W e).1.2.2.2 | exact (hG W e).2 | exact (hG W e).2.1 | exact (hG W e).2.1.1 | exact (hG W e).2.1.2 | exact (hG W e).2.1.2.1 | exact (hG W e).2.1.2.2.1 | exact (hG W e).2.1.2.2.2.1 | exact (hG W e).2.1.2.2.2 | exact (hG W e).2.2 | exact (hG W e).2.2.1 | exact (hG W e).2.2.1.1 | exact (hG W e).2.2.1.2 | exact (hG W e).2.2.1.2.1 | exact (hG W e).2.2.1.2.2.1 | exact (hG W e).2.2.1.2.2.2.1 | exact (hG W e).2.2.1.2.2.2 | exact (hG W e).2.2.2 | exact (hG W e).2.2.2.1 | exact (hG W e).2.2.2.1.1 | exact (hG W e).2.2.2.1.2 | exact (hG W e).2.2.2.1.2.1 | exact (hG W e).2.2.2.1.2.2.1 | exact (hG W e).2.2.2.1.2.2.2.1 | exact (hG W e).2.2.2.1.2.2.2 | exact (hG W e).2.2.2.2 | exact (hG W e).2.2.2.2.1 | exact (hG W e).2.2.2.2.1.1 | exact (hG W e).2.2.2.2.1.2 | exact (hG W e).2.2.2.2.1.2.1 | exact (hG W e).2.2.2.2.1.2.2.1 | exact (hG W e).2.2.2.2.1.2.2.2.1 | exact (hG W e).2.2.2.2.1.2.2.2 | exact (hG W e).2.2.2.2.2 | exact (hG W e).2.2.2.2.2.1 | exact (hG W e).2.2.2.2.2.1.1 | exact (hG W e).2.2.2.2.2.1.2 | exact (hG W e).2.2.2.2.2.1.2.1 | exact (hG W e).2.2.2.2.2.1.2.2.1 | exact (hG W e).2.2.2.2.2.1.2.2.2.1 | exact (hG W e).2.2.2.2.2.1.2.2.2 | exact (hG W e).2.2.2.2.2.2 | exact (hG W e).2.2.2.2.2.2.1 | exact (hG W e).2.2.2.2.2.2.1.1 | exact (hG W e).2.2.2.2.2.2.1.2 | exact (hG W e).2.2.2.2.2.2.1.2.1 | exact (hG W e).2.2.2.2.2.2.1.2.2.1 | exact (hG W e).2.2.2.2.2.2.1.2.2.2.1 | exact (hG W e).2.2.2.2.2.2.1.2.2.2 | exact (hG W e).2.2.2.2.2.2.2 | exact (hG W e).2.2.2.2.2.2.2.1 | exact (hG W e).2.2.2.2.2.2.2.1.1 | exact (hG W e).2.2.2.2.2.2.2.1.2 | exact (hG W e).2.2.2.2.2.2.2.1.2.1 | exact (hG W e).2.2.2.2.2.2.2.1.2.2.1 | exact (hG W e).2.2.2.2.2.2.2.1.2.2.2.1 | exact (hG W e).2.2.2.2.2.2.2.1.2.2.2 | exact (hG W e).2.2.2.2.2.2.2.2 | exact (hG W e).2.2.2.2.2.2.2.2.1 | exact (hG W e).2.2.2.2.2.2.2.2.1.1 | exact (hG W e).2.2.2.2.2.2.2.2.1.2 | exact (hG W e).2.2.2.2.2.2.2.2.1.2.1 | exact (hG W e).2.2.2.2.2.2.2.2.1.2.2.1 | exact (hG W e).2.2.2.2.2.2.2.2.1.2.2.2.1 | exact (hG W e).2.2.2.2.2.2.2.2.1.2.2.2 | exact (hG W e).2.2.2.2.2.2.2.2.2) : Inx.r W (d, (da, dc), (ra, rc))).1⟩) (by have := (hok d hdi).ents; omega)) fun y W hr => ?_
      obtain ⟨⟨ea, ec⟩, r, e⟩ := y
      simp only at hr
      simp (maxSteps := 2000000) -implicitDefEqProofs [hN]
      refine drawK ok mixed (by kernel_rfl) ?_
      simp (maxSteps := 2000000) -implicitDefEqProofs [hN]
      have hdo := hok d hdi
      refine call0 ok rfl rfl rfl (fun w I hI hG => putDeed0 w I hI { d with ents := r } (ea, ec) (ra, rc)) fun _ W _ => ?_
      simp (maxSteps := 2000000) -implicitDefEqProofs [hN]
      refine call0 ok rfl rfl rfl (fun w I hI hG => letGo0 w I hI x (xa, xc) (ya, yc) (fun W e => ((by first | exact (hG W e) | exact (hG W e).1 | exact (hG W e).1.1 | exact (hG W e).1.2 | exact (hG W e).1.2.1 | exact (hG W e).1.2.2.1 | exact (hG W e).1.2.2.2.1 | exact (hG W e).1.2.2.2 | exact (hG W e).2 | exact (hG W e).2.1 | exact (hG W e).2.1.1 | exact (hG W e).2.1.2 | exact (hG W e).2.1.2.1 | exact (hG W e).2.1.2.2.1 | exact (hG W e).2.1.2.2.2.1 | exact (hG W e).2.1.2.2.2 | exact (hG W e).2.2 | exact (hG W e).2.2.1 | exact (hG W e).2.2.1.1 | exact (hG W e).2.2.1.2 | exact (hG W e).2.2.1.2.1 | exact (hG W e).2.2.1.2.2.1 | exact (hG W e).2.2.1.2.2.2.1 | exact (hG W e).2.2.1.2.2.2 | exact (hG W e).2.2.2 | exact (hG W e).2.2.2.1 | exact (hG W e).2.2.2.1.1 | exact (hG W e).2.2.2.1.2 | exact (hG W e).2.2.2.1.2.1 | exact (hG W e).2.2.2.1.2.2.1 | exact (hG W e).2.2.2.1.2.2.2.1 | exact (hG W e).2.2.2.1.2.2.2 | exact (hG W e).2.2.2.2 | exact (hG W e).2.2.2.2.1 | exact (hG W e).2.2.2.2.1.1 | exact (hG W e).2.2.2.2.1.2 | exact (hG W e).2.2.2.2.1.2.1 | exact (hG W e).2.2.2.2.1.2.2.1 | exact (hG W e).2.2.2.2.1.2.2.2.1 | exact (hG W e).2.2.2.2.1.2.2.2 | exact (hG W e).2.2.2.2.2 | exact (hG W e).2.2.2.2.2.1 | exact (hG W e).2.2.2.2.2.1.1 | exact (hG W e).2.2.2.2.2.1.2 | exact (hG W e).2.2.2.2.2.1.2.1 | exact (hG W e).2.2.2.2.2.1.2.2.1 | exact (hG W e).2.2.2.2.2.1.2.2.2.1 | exact (hG W e).2.2.2.2.2.1.2.2.2 | exact (hG W e).2.2.2.2.2.2 | exact (hG W e).2.2.2.2.2.2.1 | exact (hG W e).2.2.2.2.2.2.1.1 | exact (hG W e).2.2.2.2.2.2.1.2 | exact (hG W e).2.2.2.2.2.2.1.2.1 | exact (hG W e).2.2.2.2.2.2.1.2.2.1 | exact (hG W e).2.2.2.2.2.2.1.2.2.2.1 | exact (hG W e).2.2.2.2.2.2.1.2.2.2 | exact (hG W e).2.2.2.2.2.2.2 | exact (hG W e).2.2.2.2.2.2.2.1 | exact (hG W e).2.2.2.2.2.2.2.1.1 | exact (hG W e).2.2.2.2.2.2.2.1.2 | exact (hG W e).2.2.2.2.2.2.2.1.2.1 | exact (hG W e).2.2.2.2.2.2.2.1.2.2.1 | exact (hG W e).2.2.2.2.2.2.2.1.2.2.2.1 | exact (hG W e).2.2.2.2.2.2.2.1.2.2.2 | exact (hG W e).2.2.2.2.2.2.2.2 | exact (hG W e).2.2.2.2.2.2.2.2.1 | exact (hG W e).2.2.2.2.2.2.2.2.1.1 | exact (hG W e).2.2.2.2.2.2.2.2.1.2 | exact (hG W e).2.2.2.2.2.2.2.2.1.2.1 | exact (hG W e).2.2.2.2.2.2.2.2.1.2.2.1 | exact (hG W e).2.2.2.2.2.2.2.2.1.2.2.2.1 | exact (hG W e).2.2.2.2.2.2.2.2.1.2.2.2 | exact (hG W e).2.2.2.2.2.2.2.2.2) : Inx.r W (x, (xa, xc), (ya, yc))))) fun z W hz => ?_
      obtain ⟨z, ⟨za, zc⟩, ⟨ta, tc⟩⟩ := z
      simp (maxSteps := 2000000) -implicitDefEqProofs [hN]
      intro g39
      exact ret0 hC ((some ⟨g39, 0, none⟩, 2), [⟨2, 0, { d with ents := r }⟩, z], 0) rfl fun W hp hG => ⟨dees_sl (l := [(⟨2, 0, { d with ents := r }⟩, (ea, ec), (ra, rc)), (z, (za, zc), (ta, tc))]) (e := 46) hp.1 (fun y hy => by
        simp only [List.mem_cons, List.not_mem_nil, or_false] at hy
        rcases hy with rfl | rfl
        · exact ⟨hG.2.1.1, hG.2.2.1.1.2⟩
        · exact hG.1.1) (by simp), deeds_two (.inr ⟨rfl, inoOk_ents (v := d.links) hdo (by have := hdo.ents; omega) (fun q hq => hdo.names q (hr.2.2 q hq)), d, hdi, rfl, rfl⟩) (letGo_ok hxi (hok x hxi) hz.2)⟩
  · simp (maxSteps := 2000000) -implicitDefEqProofs [hN, he]
    intro g8 g10
    exact ret0 hC ((none, 0), [], e) rfl fun W _ _ => nl W
set_option maxRecDepth 100000 in
set_option maxHeartbeats 4000000 in
theorem rmdir0 (w : World) (I : Nat → Prop) (hI : ∀ b, I b → b < w.heap.size) (s : Sta) (si sb : Sl) (path : ByteArray) (h : ∀ W, Ext I w W → StaR W s si sb) (hl : s.inos.length ≤ 1000) (hok : ∀ x, x ∈ s.inos → InoOk x) :
    Fn0 Tryz.prog 134 #[.agg (staC s si sb).toArray, .string path] w I (fun y : Sl × List Dee × Int => .tuple #[.slice y.1.1 y.2.1.length y.1.2, .int .i64 y.2.2]) (fun y W => Sl.ok dDee W y.1 y.2.1 ∧ DeedsOk s y.2.1) := by
  refine enter (svs := [.ag ((staC s si sb).map .v), .c (.v (.string path))]) tysOk Tryz.func134 rfl Tryz.ntmps134 Tryz.results134 (by kernel_rfl) (by simp) hI (fun W => StaR W s si sb) h fun C hC hN ok => ?_
  obtain ⟨ia, ic⟩ := si
  obtain ⟨ba, bc⟩ := sb
  have nl : ∀ (W : World), Sl.ok dDee W (none, 0) [] ∧ DeedsOk s [] := fun W => ⟨nilSl dDee W, deedsNil s⟩
  simp [hN]
  intro g2
  refine call0 ok rfl rfl rfl (fun w I hI hG => entry0 w I hI s (ia, ic) (ba, bc) path hG (by omega)) fun y W hy => ?_
  obtain ⟨⟨d, ⟨da, dc⟩, ⟨ra, rc⟩⟩, nm, ⟨x, ⟨xa, xc⟩, ⟨ya, yc⟩⟩, e⟩ := y
  by_cases he : e = 0
  · subst he
    obtain ⟨_, _, hnm, _, hin⟩ := hy
    obtain ⟨hdi, hxi⟩ := hin rfl
    simp only at hdi hxi hnm
    by_cases k2 : x.kind = 2
    · simp (maxSteps := 2000000) -implicitDefEqProofs [hN, k2]
      intro g6 g8
      refine ⟨fun hpos => ret0 hC ((none, 0), [], 15) rfl fun W _ _ => nl W, fun hem => ?_⟩
      have hdo := hok d hdi
      refine call0 ok rfl rfl rfl (fun w I hI hG => removeEntry0 w I hI d.ents nm (fun W e => ⟨rfl, ((by first | exact (hG W e) | exact (hG W e).1 | exact (hG W e).1.1 | exact (hG W e).1.2 | exact (hG W e).1.2.1 | exact (hG W e).1.2.2.1 | exact (hG W e).1.2.2.2.1 | exact (hG W e).1.2.2.2 | exact (hG W e).2 | exact (hG W e).2.1 | exact (hG W e).2.1.1 | exact (hG W e).2.1.2 | exact (hG W e).2.1.2.1 | exact (hG W e).2.1.2.2.1 | exact (hG W e).2.1.2.2.2.1 | exact (hG W e).2.1.2.2.2 | exact (hG W e).2.2 | exact (hG W e).2.2.1 | exact (hG W e).2.2.1.1 | exact (hG W e).2.2.1.2 | exact (hG W e).2.2.1.2.1 | exact (hG W e).2.2.1.2.2.1 | exact (hG W e).2.2.1.2.2.2.1 | exact (hG W e).2.2.1.2.2.2 | exact (hG W e).2.2.2 | exact (hG W e).2.2.2.1 | exact (hG W e).2.2.2.1.1 | exact (hG W e).2.2.2.1.2 | exact (hG W e).2.2.2.1.2.1 | exact (hG W e).2.2.2.1.2.2.1 | exact (hG W e).2.2.2.1.2.2.2.1 | exact (hG W e).2.2.2.1.2.2.2 | exact (hG W e).2.2.2.2 | exact (hG W e).2.2.2.2.1 | exact (hG W e).2.2.2.2.1.1 | exact (hG W e).2.2.2.2.1.2 | exact (hG W e).2.2.2.2.1.2.1 | exact (hG W e).2.2.2.2.1.2.2.1 | exact (hG W e).2.2.2.2.1.2.2.2.1 | exact (hG W e).2.2.2.2.1.2.2.2 | exact (hG W e).2.2.2.2.2 | exact (hG W e).2.2.2.2.2.1 | exact (hG W e).2.2.2.2.2.1.1 | exact (hG W e).2.2.2.2.2.1.2 | exact (hG W e).2.2.2.2.2.1.2.1 | exact (hG W e).2.2.2.2.2.1.2.2.1 | exact (hG W e).2.2.2.2.2.1.2.2.2.1 | exact (hG W e).2.2.2.2.2.1.2.2.2 | exact (hG W e).2.2.2.2.2.2 | exact (hG W e).2.2.2.2.2.2.1 | exact (hG W e).2.2.2.2.2.2.1.1 | exact (hG W e).2.2.2.2.2.2.1.2 | exact (hG W e).2.2.2.2.2.2.1.2.1 | exact (hG W e).2.2.2.2.2.2.1.2.2.1 | exact (hG W e).2.2.2.2.2.2.1.2.2.2.1 | exact (hG W e).2.2.2.2.2.2.1.2.2.2 | exact (hG W e).2.2.2.2.2.2.2 | exact (hG W e).2.2.2.2.2.2.2.1 | exact (hG W e).2.2.2.2.2.2.2.1.1 | exact (hG W e).2.2.2.2.2.2.2.1.2 | exact (hG W e).2.2.2.2.2.2.2.1.2.1 | exact (hG W e).2.2.2.2.2.2.2.1.2.2.1 | exact (hG W e).2.2.2.2.2.2.2.1.2.2.2.1 | exact (hG W e).2.2.2.2.2.2.2.1.2.2.2 | exact (hG W e).2.2.2.2.2.2.2.2 | exact (hG W e).2.2.2.2.2.2.2.2.1 | exact (hG W e).2.2.2.2.2.2.2.2.1.1 | exact (hG W e).2.2.2.2.2.2.2.2.1.2 | exact (hG W e).2.2.2.2.2.2.2.2.1.2.1 | exact (hG W e).2.2.2.2.2.2.2.2.1.2.2.1 | exact (hG W e).2.2.2.2.2.2.2.2.1.2.2.2.1 | exact (hG W e).2.2.2.2.2.2.2.2.1.2.2.2 | exact (hG W e).2.2.2.2.2.2.2.2.2) : Inx.r W (d, (da, dc), (ra, rc))).1⟩) (by have := hdo.ents; omega)) fun y W hr => ?_
      obtain ⟨⟨ea, ec⟩, r, e⟩ := y
      simp only at hr
      simp (maxSteps := 2000000) -implicitDefEqProofs [hN]
      refine drawK ok mixed (by kernel_rfl) ?_
      simp (maxSteps := 2000000) -implicitDefEqProofs [hN]
      refine call0 ok rfl rfl rfl (fun w I hI hG => putDeed0 w I hI { d with links := IntKind.i64.wrap (d.links - 1), ents := r } (ea, ec) (ra, rc)) fun _ W _ => ?_
      simp (maxSteps := 2000000) -implicitDefEqProofs [hN]
      intro g48
      exact ret0 hC ((some ⟨g48, 0, none⟩, 2), [⟨2, 0, { d with links := IntKind.i64.wrap (d.links - 1), ents := r }⟩, ⟨3, x.no, inoZ⟩], 0) rfl fun W hp hG => ⟨dees_sl (l := [(⟨2, 0, { d with links := IntKind.i64.wrap (d.links - 1), ents := r }⟩, (ea, ec), (ra, rc)), (⟨3, x.no, inoZ⟩, (none, 0), (none, 0))]) (e := 46) hp.1 (fun y hy => by
        simp only [List.mem_cons, List.not_mem_nil, or_false] at hy
        rcases hy with rfl | rfl
        · exact ⟨hG.1.1, hG.2.1.1.2⟩
        · exact inoNilR W) (by simp), deeds_two (.inr ⟨rfl, inoOk_ents hdo (by have := hdo.ents; omega) (fun q hq => hdo.names q (hr.2.2 q hq)), d, hdi, rfl, rfl⟩) (.inr (.inl rfl))⟩
    · simp (maxSteps := 2000000) -implicitDefEqProofs [hN, k2]
      intro g6 g8
      exact ret0 hC ((none, 0), [], 13) rfl fun W _ _ => nl W
  · simp (maxSteps := 2000000) -implicitDefEqProofs [hN, he]
    intro g8 g10
    exact ret0 hC ((none, 0), [], e) rfl fun W _ _ => nl W
end Go.Proofs.YtbbaoeidobdblaaGreat.Sx

/- Hard (a hard link) of the reference. -/
set_option linter.unusedVariables false
set_option linter.unusedSimpArgs false
namespace Go.Proofs.YtbbaoeidobdblaaGreat.Sx
open Go
attribute [local simp ↓] ifb_true' ifb_false'
attribute [local simp] ifb_true ifb_false ifb_eq sx argsT find ev evOp evs evo evBin evInt evStr evNil evNilA ptrA slcA isNoneA asB evLoad look del cellsB evUn evConv kdec fld evFieldA evField evIdxA evIdx evSlc bndL bndH evLen mmi put resV guardV gvL setO tupV cellsOf ones one upd lits nv exitTo SV.val CV.val TI.agg rdyA allR keepB scan simpO gsp isS subs keepT pickT wr memN pubs Res.fact Region.binds bld rest give delL back Res.eqv vi vb num Sv.val undef
theorem inoOkZ : InoOk inoZ := ⟨fun j hj => by simp [inoZ] at hj, by simp [inoZ], by simp [inoZ], by simp [inoZ]; decide⟩
/-- An inode that was sought, put again. -/
theorem sought_ok {s : Sta} (hok : ∀ x, x ∈ s.inos → InoOk x) {x : Ino} (h : x ∈ s.inos ∨ x = inoZ) {v : Int} : SameD s ⟨2, 0, { x with links := v }⟩ ∨ LastD ⟨2, 0, { x with links := v }⟩ := by
  rcases h with h | rfl
  · exact .inl (.inr ⟨rfl, inoOk_links (hok x h), x, h, rfl, rfl⟩)
  · exact .inr (.inr ⟨rfl, inoOk_links inoOkZ, rfl⟩)
theorem ents_ok {d : Ino} (h : InoOk d) {l r : List Ent} (hl : l.length ≤ 100) (hn : ∀ x, x ∈ l → x.name.size ≤ 32) {en : Ent} (hr : EntsP l en r) : r.length ≤ 100 ∧ ∀ x, x ∈ r → x.name.size ≤ 32 := ⟨hr.2.1, fun x hx => by
  rcases hr.2.2 x hx with h1 | ⟨h1, h2⟩
  · exact hn x h1
  · rw [h1]; exact h2⟩
set_option maxRecDepth 100000 in
set_option maxHeartbeats 4000000 in
theorem hard0 (w : World) (I : Nat → Prop) (hI : ∀ b, I b → b < w.heap.size) (s : Sta) (si sb : Sl) (old path : ByteArray) (h : ∀ W, Ext I w W → StaR W s si sb) (hl : s.inos.length ≤ 1000) (hok : ∀ x, x ∈ s.inos → InoOk x) :
    Fn0 Tryz.prog 131 #[.agg (staC s si sb).toArray, .string old, .string path] w I (fun y : Sl × List Dee × Int => .tuple #[.slice y.1.1 y.2.1.length y.1.2, .int .i64 y.2.2]) (fun y W => Sl.ok dDee W y.1 y.2.1 ∧ DeedsOk s y.2.1) := by
  refine enter (svs := [.ag ((staC s si sb).map .v), .c (.v (.string old)), .c (.v (.string path))]) tysOk Tryz.func131 rfl Tryz.ntmps131 Tryz.results131 (by kernel_rfl) (by simp) hI (fun W => StaR W s si sb) h fun C hC hN ok => ?_
  obtain ⟨ia, ic⟩ := si
  obtain ⟨ba, bc⟩ := sb
  have nl : ∀ (W : World), Sl.ok dDee W (none, 0) [] ∧ DeedsOk s [] := fun W => ⟨nilSl dDee W, deedsNil s⟩
  simp [hN]
  intro g3
  refine call0 ok rfl rfl rfl (fun w I hI hG => resolve0 w I hI s (ia, ic) (ba, bc) old false hG (by omega)) fun y W _ => ?_
  obtain ⟨no, e⟩ := y
  by_cases he : e = 0
  · subst he
    simp (maxSteps := 2000000) -implicitDefEqProofs [hN]
    refine call0 ok rfl rfl rfl (fun w I hI hG => findIno0 w I hI s (ia, ic) (ba, bc) no (fun W e => ((by first | exact (hG W e) | exact (hG W e).1 | exact (hG W e).1.1 | exact (hG W e).1.2 | exact (hG W e).1.2.1 | exact (hG W e).1.2.2.1 | exact (hG W e).1.2.2.2.1 | exact (hG W e).1.2.2.2 | exact (hG W e).2 | exact (hG W e).2.1 | exact (hG W e).2.1.1 | exact (hG W e).2.1.2 | exact (hG W e).2.1.2.1 | exact (hG W e).2.1.2.2.1 | exact (hG W e).2.1.2.2.2.1 | exact (hG W e).2.1.2.2.2 | exact (hG W e).2.2 | exact (hG W e).2.2.1 | exact (hG W e).2.2.1.1 | exact (hG W e).2.2.1.2 | exact (hG W e).2.2.1.2.1 | exact (hG W e).2.2.1.2.2.1 | exact (hG W e).2.2.1.2.2.2.1 | exact (hG W e).2.2.1.2.2.2 | exact (hG W e).2.2.2 | exact (hG W e).2.2.2.1 | exact (hG W e).2.2.2.1.1 | exact (hG W e).2.2.2.1.2 | exact (hG W e).2.2.2.1.2.1 | exact (hG W e).2.2.2.1.2.2.1 | exact (hG W e).2.2.2.1.2.2.2.1 | exact (hG W e).2.2.2.1.2.2.2 | exact (hG W e).2.2.2.2 | exact (hG W e).2.2.2.2.1 | exact (hG W e).2.2.2.2.1.1 | exact (hG W e).2.2.2.2.1.2 | exact (hG W e).2.2.2.2.1.2.1 | exact (hG W e).2.2.2.2.1.2.2.1 | exact (hG W e).2.2.2.2.1.2.2.2.1 | exact (hG W e).2.2.2.2.1.2.2.2 | exact (hG W e).2.2.2.2.2 | exact (hG W e).2.2.2.2.2.1 | exact (hG W e).2.2.2.2.2.1.1 | exact (hG W e).2.2.2.2.2.1.2 | exact (hG W e).2.2.2.2.2.1.2.1 | exact (hG W e).2.2.2.2.2.1.2.2.1 | exact (hG W e).2.2.2.2.2.1.2.2.2.1 | exact (hG W e).2.2.2.2.2.1.2.2.2 | exact (hG W e).2.2.2.2.2.2 | exact (hG W e).2.2.2.2.2.2.1 | exact (hG W e).2.2.2.2.2.2.1.1 | exact (hG W e).2.2.2.2.2.2.1.2 | exact (hG W e).2.2.2.2.2.2.1.2.1 | exact (hG W e).2.2.2.2.2.2.1.2.2.1 | exact (hG W e).2.2.2.2.2.2.1.2.2.2.1 | exact (hG W e).2.2.2.2.2.2.1.2.2.2 | exact (hG W e).2.2.2.2.2.2.2 | exact (hG W e).2.2.2.2.2.2.2.1 | exact (hG W e).2.2.2.2.2.2.2.1.1 | exact (hG W e).2.2.2.2.2.2.2.1.2 | exact (hG W e).2.2.2.2.2.2.2.1.2.1 | exact (hG W e).2.2.2.2.2.2.2.1.2.2.1 | exact (hG W e).2.2.2.2.2.2.2.1.2.2.2.1 | exact (hG W e).2.2.2.2.2.2.2.1.2.2.2 | exact (hG W e).2.2.2.2.2.2.2.2 | exact (hG W e).2.2.2.2.2.2.2.2.1 | exact (hG W e).2.2.2.2.2.2.2.2.1.1 | exact (hG W e).2.2.2.2.2.2.2.2.1.2 | exact (hG W e).2.2.2.2.2.2.2.2.1.2.1 | exact (hG W e).2.2.2.2.2.2.2.2.1.2.2.1 | exact (hG W e).2.2.2.2.2.2.2.2.1.2.2.2.1 | exact (hG W e).2.2.2.2.2.2.2.2.1.2.2.2 | exact (hG W e).2.2.2.2.2.2.2.2.2) : StaR W s (ia, ic) (ba, bc))) (by omega)) fun y W hx => ?_
    obtain ⟨⟨x, ⟨xa, xc⟩, ⟨ya, yc⟩⟩, has⟩ := y
    have hxi : x ∈ s.inos ∨ x = inoZ := by
      cases has with
      | true => exact .inl (hx.2.1 rfl).1
      | false => exact .inr (hx.2.2 rfl).1
    replace hx := hx.1
    by_cases k2 : x.kind = 2
    · simp (maxSteps := 2000000) -implicitDefEqProofs [hN, k2]
      intro g10
      exact ret0 hC ((none, 0), [], 14) rfl fun W _ _ => nl W
    · simp (maxSteps := 2000000) -implicitDefEqProofs [hN, k2]
      intro g10
      refine call0 ok rfl rfl rfl (fun w I hI hG => parent0 w I hI s (ia, ic) (ba, bc) path (fun W e => ((by first | exact (hG W e) | exact (hG W e).1 | exact (hG W e).1.1 | exact (hG W e).1.2 | exact (hG W e).1.2.1 | exact (hG W e).1.2.2.1 | exact (hG W e).1.2.2.2.1 | exact (hG W e).1.2.2.2 | exact (hG W e).2 | exact (hG W e).2.1 | exact (hG W e).2.1.1 | exact (hG W e).2.1.2 | exact (hG W e).2.1.2.1 | exact (hG W e).2.1.2.2.1 | exact (hG W e).2.1.2.2.2.1 | exact (hG W e).2.1.2.2.2 | exact (hG W e).2.2 | exact (hG W e).2.2.1 | exact (hG W e).2.2.1.1 | exact (hG W e).2.2.1.2 | exact (hG W e).2.2.1.2.1 | exact (hG W e).2.2.1.2.2.1 | exact (hG W e).2.2.1.2.2.2.1 | exact (hG W e).2.2.1.2.2.2 | exact (hG W e).2.2.2 | exact (hG W e).2.2.2.1 | exact (hG W e).2.2.2.1.1 | exact (hG W e).2.2.2.1.2 | exact (hG W e).2.2.2.1.2.1 | exact (hG W e).2.2.2.1.2.2.1 | exact (hG W e).2.2.2.1.2.2.2.1 | exact (hG W e).2.2.2.1.2.2.2 | exact (hG W e).2.2.2.2 | exact (hG W e).2.2.2.2.1 | exact (hG W e).2.2.2.2.1.1 | exact (hG W e).2.2.2.2.1.2 | exact (hG W e).2.2.2.2.1.2.1 | exact (hG W e).2.2.2.2.1.2.2.1 | exact (hG W e).2.2.2.2.1.2.2.2.1 | exact (hG W e).2.2.2.2.1.2.2.2 | exact (hG W e).2.2.2.2.2 | exact (hG W e).2.2.2.2.2.1 | exact (hG W e).2.2.2.2.2.1.1 | exact (hG W e).2.2.2.2.2.1.2 | exact (hG W e).2.2.2.2.2.1.2.1 | exact (hG W e).2.2.2.2.2.1.2.2.1 | exact (hG W e).2.2.2.2.2.1.2.2.2.1 | exact (hG W e).2.2.2.2.2.1.2.2.2 | exact (hG W e).2.2.2.2.2.2 | exact (hG W e).2.2.2.2.2.2.1 | exact (hG W e).2.2.2.2.2.2.1.1 | exact (hG W e).2.2.2.2.2.2.1.2 | exact (hG W e).2.2.2.2.2.2.1.2.1 | exact (hG W e).2.2.2.2.2.2.1.2.2.1 | exact (hG W e).2.2.2.2.2.2.1.2.2.2.1 | exact (hG W e).2.2.2.2.2.2.1.2.2.2 | exact (hG W e).2.2.2.2.2.2.2 | exact (hG W e).2.2.2.2.2.2.2.1 | exact (hG W e).2.2.2.2.2.2.2.1.1 | exact (hG W e).2.2.2.2.2.2.2.1.2 | exact (hG W e).2.2.2.2.2.2.2.1.2.1 | exact (hG W e).2.2.2.2.2.2.2.1.2.2.1 | exact (hG W e).2.2.2.2.2.2.2.1.2.2.2.1 | exact (hG W e).2.2.2.2.2.2.2.1.2.2.2 | exact (hG W e).2.2.2.2.2.2.2.2 | exact (hG W e).2.2.2.2.2.2.2.2.1 | exact (hG W e).2.2.2.2.2.2.2.2.1.1 | exact (hG W e).2.2.2.2.2.2.2.2.1.2 | exact (hG W e).2.2.2.2.2.2.2.2.1.2.1 | exact (hG W e).2.2.2.2.2.2.2.2.1.2.2.1 | exact (hG W e).2.2.2.2.2.2.2.2.1.2.2.2.1 | exact (hG W e).2.2.2.2.2.2.2.2.1.2.2.2 | exact (hG W e).2.2.2.2.2.2.2.2.2) : StaR W s (ia, ic) (ba, bc))) (by omega)) fun y W hp => ?_
      obtain ⟨dir, nm, e⟩ := y
      by_cases he : e = 0
      · subst he
        simp (maxSteps := 2000000) -implicitDefEqProofs [hN]
        refine call0 ok rfl rfl rfl (fun w I hI hG => findIno0 w I hI s (ia, ic) (ba, bc) dir (fun W e => ((by first | exact (hG W e) | exact (hG W e).1 | exact (hG W e).1.1 | exact (hG W e).1.2 | exact (hG W e).1.2.1 | exact (hG W e).1.2.2.1 | exact (hG W e).1.2.2.2.1 | exact (hG W e).1.2.2.2 | exact (hG W e).2 | exact (hG W e).2.1 | exact (hG W e).2.1.1 | exact (hG W e).2.1.2 | exact (hG W e).2.1.2.1 | exact (hG W e).2.1.2.2.1 | exact (hG W e).2.1.2.2.2.1 | exact (hG W e).2.1.2.2.2 | exact (hG W e).2.2 | exact (hG W e).2.2.1 | exact (hG W e).2.2.1.1 | exact (hG W e).2.2.1.2 | exact (hG W e).2.2.1.2.1 | exact (hG W e).2.2.1.2.2.1 | exact (hG W e).2.2.1.2.2.2.1 | exact (hG W e).2.2.1.2.2.2 | exact (hG W e).2.2.2 | exact (hG W e).2.2.2.1 | exact (hG W e).2.2.2.1.1 | exact (hG W e).2.2.2.1.2 | exact (hG W e).2.2.2.1.2.1 | exact (hG W e).2.2.2.1.2.2.1 | exact (hG W e).2.2.2.1.2.2.2.1 | exact (hG W e).2.2.2.1.2.2.2 | exact (hG W e).2.2.2.2 | exact (hG W e).2.2.2.2.1 | exact (hG W e).2.2.2.2.1.1 | exact (hG W e).2.2.2.2.1.2 | exact (hG W e).2.2.2.2.1.2.1 | exact (hG W e).2.2.2.2.1.2.2.1 | exact (hG W e).2.2.2.2.1.2.2.2.1 | exact (hG W e).2.2.2.2.1.2.2.2 | exact (hG W e).2.2.2.2.2 | exact (hG W e).2.2.2.2.2.1 | exact (hG W e).2.2.2.2.2.1.1 | exact (hG W e).2.2.2.2.2.1.2 | exact (hG W e).2.2.2.2.2.1.2.1 | exact (hG W e).2.2.2.2.2.1.2.2.1 | exact (hG W e).2.2.2.2.2.1.2.2.2.1 | exact (hG W e).2.2.2.2.2.1.2.2.2 | exact (hG W e).2.2.2.2.2.2 | exact (hG W e).2.2.2.2.2.2.1 | exact (hG W e).2.2.2.2.2.2.1.1 | exact (hG W e).2.2.2.2.2.2.1.2 | exact (hG W e).2.2.2.2.2.2.1.2.1 | exact (hG W e).2.2.2.2.2.2.1.2.2.1 | exact (hG W e).2.2.2.2.2.2.1.2.2.2.1 | exact (hG W e).2.2.2.2.2.2.1.2.2.2 | exact (hG W e).2.2.2.2.2.2.2 | exact (hG W e).2.2.2.2.2.2.2.1 | exact (hG W e).2.2.2.2.2.2.2.1.1 | exact (hG W e).2.2.2.2.2.2.2.1.2 | exact (hG W e).2.2.2.2.2.2.2.1.2.1 | exact (hG W e).2.2.2.2.2.2.2.1.2.2.1 | exact (hG W e).2.2.2.2.2.2.2.1.2.2.2.1 | exact (hG W e).2.2.2.2.2.2.2.1.2.2.2 | exact (hG W e).2.2.2.2.2.2.2.2 | exact (hG W e).2.2.2.2.2.2.2.2.1 | exact (hG W e).2.2.2.2.2.2.2.2.1.1 | exact (hG W e).2.2.2.2.2.2.2.2.1.2 | exact (hG W e).2.2.2.2.2.2.2.2.1.2.1 | exact (hG W e).2.2.2.2.2.2.2.2.1.2.2.1 | exact (hG W e).2.2.2.2.2.2.2.2.1.2.2.2.1 | exact (hG W e).2.2.2.2.2.2.2.2.1.2.2.2 | exact (hG W e).2.2.2.2.2.2.2.2.2) : StaR W s (ia, ic) (ba, bc))) (by omega)) fun y W hd => ?_
        obtain ⟨⟨d, ⟨da, dc⟩, ⟨ra, rc⟩⟩, had⟩ := y
        have hdi : d ∈ s.inos := by
          cases had with
          | true => exact (hd.2.1 rfl).1
          | false =>
            obtain ⟨z, hz, hn⟩ := hp.2 rfl
            exact absurd hn ((hd.2.2 rfl).2 z hz)
        have hdo := hok d hdi
        simp (maxSteps := 2000000) -implicitDefEqProofs [hN]
        intro g14
        refine call0 ok rfl rfl rfl (fun w I hI hG => find0 w I hI d.ents nm (fun W e => ⟨rfl, ((by first | exact (hG W e) | exact (hG W e).1 | exact (hG W e).1.1 | exact (hG W e).1.2 | exact (hG W e).1.2.1 | exact (hG W e).1.2.2.1 | exact (hG W e).1.2.2.2.1 | exact (hG W e).1.2.2.2 | exact (hG W e).2 | exact (hG W e).2.1 | exact (hG W e).2.1.1 | exact (hG W e).2.1.2 | exact (hG W e).2.1.2.1 | exact (hG W e).2.1.2.2.1 | exact (hG W e).2.1.2.2.2.1 | exact (hG W e).2.1.2.2.2 | exact (hG W e).2.2 | exact (hG W e).2.2.1 | exact (hG W e).2.2.1.1 | exact (hG W e).2.2.1.2 | exact (hG W e).2.2.1.2.1 | exact (hG W e).2.2.1.2.2.1 | exact (hG W e).2.2.1.2.2.2.1 | exact (hG W e).2.2.1.2.2.2 | exact (hG W e).2.2.2 | exact (hG W e).2.2.2.1 | exact (hG W e).2.2.2.1.1 | exact (hG W e).2.2.2.1.2 | exact (hG W e).2.2.2.1.2.1 | exact (hG W e).2.2.2.1.2.2.1 | exact (hG W e).2.2.2.1.2.2.2.1 | exact (hG W e).2.2.2.1.2.2.2 | exact (hG W e).2.2.2.2 | exact (hG W e).2.2.2.2.1 | exact (hG W e).2.2.2.2.1.1 | exact (hG W e).2.2.2.2.1.2 | exact (hG W e).2.2.2.2.1.2.1 | exact (hG W e).2.2.2.2.1.2.2.1 | exact (hG W e).2.2.2.2.1.2.2.2.1 | exact (hG W e).2.2.2.2.1.2.2.2 | exact (hG W e).2.2.2.2.2 | exact (hG W e).2.2.2.2.2.1 | exact (hG W e).2.2.2.2.2.1.1 | exact (hG W e).2.2.2.2.2.1.2 | exact (hG W e).2.2.2.2.2.1.2.1 | exact (hG W e).2.2.2.2.2.1.2.2.1 | exact (hG W e).2.2.2.2.2.1.2.2.2.1 | exact (hG W e).2.2.2.2.2.1.2.2.2 | exact (hG W e).2.2.2.2.2.2 | exact (hG W e).2.2.2.2.2.2.1 | exact (hG W e).2.2.2.2.2.2.1.1 | exact (hG W e).2.2.2.2.2.2.1.2 | exact (hG W e).2.2.2.2.2.2.1.2.1 | exact (hG W e).2.2.2.2.2.2.1.2.2.1 | exact (hG W e).2.2.2.2.2.2.1.2.2.2.1 | exact (hG W e).2.2.2.2.2.2.1.2.2.2 | exact (hG W e).2.2.2.2.2.2.2 | exact (hG W e).2.2.2.2.2.2.2.1 | exact (hG W e).2.2.2.2.2.2.2.1.1 | exact (hG W e).2.2.2.2.2.2.2.1.2 | exact (hG W e).2.2.2.2.2.2.2.1.2.1 | exact (hG W e).2.2.2.2.2.2.2.1.2.2.1 | exact (hG W e).2.2.2.2.2.2.2.1.2.2.2.1 | exact (hG W e).2.2.2.2.2.2.2.1.2.2.2 | exact (hG W e).2.2.2.2.2.2.2.2 | exact (hG W e).2.2.2.2.2.2.2.2.1 | exact (hG W e).2.2.2.2.2.2.2.2.1.1 | exact (hG W e).2.2.2.2.2.2.2.2.1.2 | exact (hG W e).2.2.2.2.2.2.2.2.1.2.1 | exact (hG W e).2.2.2.2.2.2.2.2.1.2.2.1 | exact (hG W e).2.2.2.2.2.2.2.2.1.2.2.2.1 | exact (hG W e).2.2.2.2.2.2.2.2.1.2.2.2 | exact (hG W e).2.2.2.2.2.2.2.2.2) : InoR W d (da, dc) (ra, rc)).1⟩)) fun y W hf => ?_
        obtain ⟨no3, is⟩ := y
        cases is with
        | true =>
          simp (maxSteps := 2000000) -implicitDefEqProofs [hN]
          exact ret0 hC ((none, 0), [], 12) rfl fun W _ _ => nl W
        | false =>
          by_cases hlk : 100 ≤ x.links
          · simp (maxSteps := 2000000) -implicitDefEqProofs [hN, hlk]
            exact ret0 hC ((none, 0), [], 18) rfl fun W _ _ => nl W
          · simp (maxSteps := 2000000) -implicitDefEqProofs [hN, hlk]
            refine call0 ok rfl rfl rfl (fun w I hI hG => addEntry0 w I hI d.ents ⟨nm, no⟩ (fun W e => ⟨rfl, ((by first | exact (hG W e) | exact (hG W e).1 | exact (hG W e).1.1 | exact (hG W e).1.2 | exact (hG W e).1.2.1 | exact (hG W e).1.2.2.1 | exact (hG W e).1.2.2.2.1 | exact (hG W e).1.2.2.2 | exact (hG W e).2 | exact (hG W e).2.1 | exact (hG W e).2.1.1 | exact (hG W e).2.1.2 | exact (hG W e).2.1.2.1 | exact (hG W e).2.1.2.2.1 | exact (hG W e).2.1.2.2.2.1 | exact (hG W e).2.1.2.2.2 | exact (hG W e).2.2 | exact (hG W e).2.2.1 | exact (hG W e).2.2.1.1 | exact (hG W e).2.2.1.2 | exact (hG W e).2.2.1.2.1 | exact (hG W e).2.2.1.2.2.1 | exact (hG W e).2.2.1.2.2.2.1 | exact (hG W e).2.2.1.2.2.2 | exact (hG W e).2.2.2 | exact (hG W e).2.2.2.1 | exact (hG W e).2.2.2.1.1 | exact (hG W e).2.2.2.1.2 | exact (hG W e).2.2.2.1.2.1 | exact (hG W e).2.2.2.1.2.2.1 | exact (hG W e).2.2.2.1.2.2.2.1 | exact (hG W e).2.2.2.1.2.2.2 | exact (hG W e).2.2.2.2 | exact (hG W e).2.2.2.2.1 | exact (hG W e).2.2.2.2.1.1 | exact (hG W e).2.2.2.2.1.2 | exact (hG W e).2.2.2.2.1.2.1 | exact (hG W e).2.2.2.2.1.2.2.1 | exact (hG W e).2.2.2.2.1.2.2.2.1 | exact (hG W e).2.2.2.2.1.2.2.2 | exact (hG W e).2.2.2.2.2 | exact (hG W e).2.2.2.2.2.1 | exact (hG W e).2.2.2.2.2.1.1 | exact (hG W e).2.2.2.2.2.1.2 | exact (hG W e).2.2.2.2.2.1.2.1 | exact (hG W e).2.2.2.2.2.1.2.2.1 | exact (hG W e).2.2.2.2.2.1.2.2.2.1 | exact (hG W e).2.2.2.2.2.1.2.2.2 | exact (hG W e).2.2.2.2.2.2 | exact (hG W e).2.2.2.2.2.2.1 | exact (hG W e).2.2.2.2.2.2.1.1 | exact (hG W e).2.2.2.2.2.2.1.2 | exact (hG W e).2.2.2.2.2.2.1.2.1 | exact (hG W e).2.2.2.2.2.2.1.2.2.1 | exact (hG W e).2.2.2.2.2.2.1.2.2.2.1 | exact (hG W e).2.2.2.2.2.2.1.2.2.2 | exact (hG W e).2.2.2.2.2.2.2 | exact (hG W e).2.2.2.2.2.2.2.1 | exact (hG W e).2.2.2.2.2.2.2.1.1 | exact (hG W e).2.2.2.2.2.2.2.1.2 | exact (hG W e).2.2.2.2.2.2.2.1.2.1 | exact (hG W e).2.2.2.2.2.2.2.1.2.2.1 | exact (hG W e).2.2.2.2.2.2.2.1.2.2.2.1 | exact (hG W e).2.2.2.2.2.2.2.1.2.2.2 | exact (hG W e).2.2.2.2.2.2.2.2 | exact (hG W e).2.2.2.2.2.2.2.2.1 | exact (hG W e).2.2.2.2.2.2.2.2.1.1 | exact (hG W e).2.2.2.2.2.2.2.2.1.2 | exact (hG W e).2.2.2.2.2.2.2.2.1.2.1 | exact (hG W e).2.2.2.2.2.2.2.2.1.2.2.1 | exact (hG W e).2.2.2.2.2.2.2.2.1.2.2.2.1 | exact (hG W e).2.2.2.2.2.2.2.2.1.2.2.2 | exact (hG W e).2.2.2.2.2.2.2.2.2) : InoR W d (da, dc) (ra, rc)).1⟩) (by have := hp.1; simp only at this ⊢; omega)) fun y W ha => ?_
            obtain ⟨⟨ea, ec⟩, r, e⟩ := y
            by_cases he : e = 0
            · subst he
              have hent := ents_ok hdo hdo.ents hdo.names ha.2
              simp only at hent
              simp (maxSteps := 2000000) -implicitDefEqProofs [hN]
              refine drawK ok mixed (by kernel_rfl) ?_
              simp (maxSteps := 2000000) -implicitDefEqProofs [hN]
              refine call0 ok rfl rfl rfl (fun w I hI hG => putDeed0 w I hI { d with ents := r } (ea, ec) (ra, rc)) fun _ W _ => ?_
              simp (maxSteps := 2000000) -implicitDefEqProofs [hN]
              refine call0 ok rfl rfl rfl (fun w I hI hG => putDeed0 w I hI { x with links := IntKind.i64.wrap (x.links + 1) } (xa, xc) (ya, yc)) fun _ W _ => ?_
              simp (maxSteps := 2000000) -implicitDefEqProofs [hN]
              intro g86
              exact ret0 hC ((some ⟨g86, 0, none⟩, 2), [⟨2, 0, { d with ents := r }⟩, ⟨2, 0, { x with links := IntKind.i64.wrap (x.links + 1) }⟩], 0) rfl fun W hp hG => ⟨dees_sl (l := [(⟨2, 0, { d with ents := r }⟩, (ea, ec), (ra, rc)), (⟨2, 0, { x with links := IntKind.i64.wrap (x.links + 1) }⟩, (xa, xc), (ya, yc))]) (e := 46) hp.1 (fun y hy => by
                simp only [List.mem_cons, List.not_mem_nil, or_false] at hy
                rcases hy with rfl | rfl
                · exact ⟨((by first | exact (hG) | exact (hG).1 | exact (hG).1.1 | exact (hG).1.2 | exact (hG).1.2.1 | exact (hG).1.2.2.1 | exact (hG).1.2.2.2.1 | exact (hG).1.2.2.2 | exact (hG).2 | exact (hG).2.1 | exact (hG).2.1.1 | exact (hG).2.1.2 | exact (hG).2.1.2.1 | exact (hG).2.1.2.2.1 | exact (hG).2.1.2.2.2.1 | exact (hG).2.1.2.2.2 | exact (hG).2.2 | exact (hG).2.2.1 | exact (hG).2.2.1.1 | exact (hG).2.2.1.2 | exact (hG).2.2.1.2.1 | exact (hG).2.2.1.2.2.1 | exact (hG).2.2.1.2.2.2.1 | exact (hG).2.2.1.2.2.2 | exact (hG).2.2.2 | exact (hG).2.2.2.1 | exact (hG).2.2.2.1.1 | exact (hG).2.2.2.1.2 | exact (hG).2.2.2.1.2.1 | exact (hG).2.2.2.1.2.2.1 | exact (hG).2.2.2.1.2.2.2.1 | exact (hG).2.2.2.1.2.2.2 | exact (hG).2.2.2.2 | exact (hG).2.2.2.2.1 | exact (hG).2.2.2.2.1.1 | exact (hG).2.2.2.2.1.2 | exact (hG).2.2.2.2.1.2.1 | exact (hG).2.2.2.2.1.2.2.1 | exact (hG).2.2.2.2.1.2.2.2.1 | exact (hG).2.2.2.2.1.2.2.2 | exact (hG).2.2.2.2.2 | exact (hG).2.2.2.2.2.1 | exact (hG).2.2.2.2.2.1.1 | exact (hG).2.2.2.2.2.1.2 | exact (hG).2.2.2.2.2.1.2.1 | exact (hG).2.2.2.2.2.1.2.2.1 | exact (hG).2.2.2.2.2.1.2.2.2.1 | exact (hG).2.2.2.2.2.1.2.2.2 | exact (hG).2.2.2.2.2.2 | exact (hG).2.2.2.2.2.2.1 | exact (hG).2.2.2.2.2.2.1.1 | exact (hG).2.2.2.2.2.2.1.2 | exact (hG).2.2.2.2.2.2.1.2.1 | exact (hG).2.2.2.2.2.2.1.2.2.1 | exact (hG).2.2.2.2.2.2.1.2.2.2.1 | exact (hG).2.2.2.2.2.2.1.2.2.2 | exact (hG).2.2.2.2.2.2.2 | exact (hG).2.2.2.2.2.2.2.1 | exact (hG).2.2.2.2.2.2.2.1.1 | exact (hG).2.2.2.2.2.2.2.1.2 | exact (hG).2.2.2.2.2.2.2.1.2.1 | exact (hG).2.2.2.2.2.2.2.1.2.2.1 | exact (hG).2.2.2.2.2.2.2.1.2.2.2.1 | exact (hG).2.2.2.2.2.2.2.1.2.2.2 | exact (hG).2.2.2.2.2.2.2.2 | exact (hG).2.2.2.2.2.2.2.2.1 | exact (hG).2.2.2.2.2.2.2.2.1.1 | exact (hG).2.2.2.2.2.2.2.2.1.2 | exact (hG).2.2.2.2.2.2.2.2.1.2.1 | exact (hG).2.2.2.2.2.2.2.2.1.2.2.1 | exact (hG).2.2.2.2.2.2.2.2.1.2.2.2.1 | exact (hG).2.2.2.2.2.2.2.2.1.2.2.2 | exact (hG).2.2.2.2.2.2.2.2.2) : Sl.ok dEnt W (ea, ec) r), ((by first | exact (hG) | exact (hG).1 | exact (hG).1.1 | exact (hG).1.2 | exact (hG).1.2.1 | exact (hG).1.2.2.1 | exact (hG).1.2.2.2.1 | exact (hG).1.2.2.2 | exact (hG).2 | exact (hG).2.1 | exact (hG).2.1.1 | exact (hG).2.1.2 | exact (hG).2.1.2.1 | exact (hG).2.1.2.2.1 | exact (hG).2.1.2.2.2.1 | exact (hG).2.1.2.2.2 | exact (hG).2.2 | exact (hG).2.2.1 | exact (hG).2.2.1.1 | exact (hG).2.2.1.2 | exact (hG).2.2.1.2.1 | exact (hG).2.2.1.2.2.1 | exact (hG).2.2.1.2.2.2.1 | exact (hG).2.2.1.2.2.2 | exact (hG).2.2.2 | exact (hG).2.2.2.1 | exact (hG).2.2.2.1.1 | exact (hG).2.2.2.1.2 | exact (hG).2.2.2.1.2.1 | exact (hG).2.2.2.1.2.2.1 | exact (hG).2.2.2.1.2.2.2.1 | exact (hG).2.2.2.1.2.2.2 | exact (hG).2.2.2.2 | exact (hG).2.2.2.2.1 | exact (hG).2.2.2.2.1.1 | exact (hG).2.2.2.2.1.2 | exact (hG).2.2.2.2.1.2.1 | exact (hG).2.2.2.2.1.2.2.1 | exact (hG).2.2.2.2.1.2.2.2.1 | exact (hG).2.2.2.2.1.2.2.2 | exact (hG).2.2.2.2.2 | exact (hG).2.2.2.2.2.1 | exact (hG).2.2.2.2.2.1.1 | exact (hG).2.2.2.2.2.1.2 | exact (hG).2.2.2.2.2.1.2.1 | exact (hG).2.2.2.2.2.1.2.2.1 | exact (hG).2.2.2.2.2.1.2.2.2.1 | exact (hG).2.2.2.2.2.1.2.2.2 | exact (hG).2.2.2.2.2.2 | exact (hG).2.2.2.2.2.2.1 | exact (hG).2.2.2.2.2.2.1.1 | exact (hG).2.2.2.2.2.2.1.2 | exact (hG).2.2.2.2.2.2.1.2.1 | exact (hG).2.2.2.2.2.2.1.2.2.1 | exact (hG).2.2.2.2.2.2.1.2.2.2.1 | exact (hG).2.2.2.2.2.2.1.2.2.2 | exact (hG).2.2.2.2.2.2.2 | exact (hG).2.2.2.2.2.2.2.1 | exact (hG).2.2.2.2.2.2.2.1.1 | exact (hG).2.2.2.2.2.2.2.1.2 | exact (hG).2.2.2.2.2.2.2.1.2.1 | exact (hG).2.2.2.2.2.2.2.1.2.2.1 | exact (hG).2.2.2.2.2.2.2.1.2.2.2.1 | exact (hG).2.2.2.2.2.2.2.1.2.2.2 | exact (hG).2.2.2.2.2.2.2.2 | exact (hG).2.2.2.2.2.2.2.2.1 | exact (hG).2.2.2.2.2.2.2.2.1.1 | exact (hG).2.2.2.2.2.2.2.2.1.2 | exact (hG).2.2.2.2.2.2.2.2.1.2.1 | exact (hG).2.2.2.2.2.2.2.2.1.2.2.1 | exact (hG).2.2.2.2.2.2.2.2.1.2.2.2.1 | exact (hG).2.2.2.2.2.2.2.2.1.2.2.2 | exact (hG).2.2.2.2.2.2.2.2.2) : InoR W d (da, dc) (ra, rc)).2⟩
                · exact ((by first | exact (hG) | exact (hG).1 | exact (hG).1.1 | exact (hG).1.2 | exact (hG).1.2.1 | exact (hG).1.2.2.1 | exact (hG).1.2.2.2.1 | exact (hG).1.2.2.2 | exact (hG).2 | exact (hG).2.1 | exact (hG).2.1.1 | exact (hG).2.1.2 | exact (hG).2.1.2.1 | exact (hG).2.1.2.2.1 | exact (hG).2.1.2.2.2.1 | exact (hG).2.1.2.2.2 | exact (hG).2.2 | exact (hG).2.2.1 | exact (hG).2.2.1.1 | exact (hG).2.2.1.2 | exact (hG).2.2.1.2.1 | exact (hG).2.2.1.2.2.1 | exact (hG).2.2.1.2.2.2.1 | exact (hG).2.2.1.2.2.2 | exact (hG).2.2.2 | exact (hG).2.2.2.1 | exact (hG).2.2.2.1.1 | exact (hG).2.2.2.1.2 | exact (hG).2.2.2.1.2.1 | exact (hG).2.2.2.1.2.2.1 | exact (hG).2.2.2.1.2.2.2.1 | exact (hG).2.2.2.1.2.2.2 | exact (hG).2.2.2.2 | exact (hG).2.2.2.2.1 | exact (hG).2.2.2.2.1.1 | exact (hG).2.2.2.2.1.2 | exact (hG).2.2.2.2.1.2.1 | exact (hG).2.2.2.2.1.2.2.1 | exact (hG).2.2.2.2.1.2.2.2.1 | exact (hG).2.2.2.2.1.2.2.2 | exact (hG).2.2.2.2.2 | exact (hG).2.2.2.2.2.1 | exact (hG).2.2.2.2.2.1.1 | exact (hG).2.2.2.2.2.1.2 | exact (hG).2.2.2.2.2.1.2.1 | exact (hG).2.2.2.2.2.1.2.2.1 | exact (hG).2.2.2.2.2.1.2.2.2.1 | exact (hG).2.2.2.2.2.1.2.2.2 | exact (hG).2.2.2.2.2.2 | exact (hG).2.2.2.2.2.2.1 | exact (hG).2.2.2.2.2.2.1.1 | exact (hG).2.2.2.2.2.2.1.2 | exact (hG).2.2.2.2.2.2.1.2.1 | exact (hG).2.2.2.2.2.2.1.2.2.1 | exact (hG).2.2.2.2.2.2.1.2.2.2.1 | exact (hG).2.2.2.2.2.2.1.2.2.2 | exact (hG).2.2.2.2.2.2.2 | exact (hG).2.2.2.2.2.2.2.1 | exact (hG).2.2.2.2.2.2.2.1.1 | exact (hG).2.2.2.2.2.2.2.1.2 | exact (hG).2.2.2.2.2.2.2.1.2.1 | exact (hG).2.2.2.2.2.2.2.1.2.2.1 | exact (hG).2.2.2.2.2.2.2.1.2.2.2.1 | exact (hG).2.2.2.2.2.2.2.1.2.2.2 | exact (hG).2.2.2.2.2.2.2.2 | exact (hG).2.2.2.2.2.2.2.2.1 | exact (hG).2.2.2.2.2.2.2.2.1.1 | exact (hG).2.2.2.2.2.2.2.2.1.2 | exact (hG).2.2.2.2.2.2.2.2.1.2.1 | exact (hG).2.2.2.2.2.2.2.2.1.2.2.1 | exact (hG).2.2.2.2.2.2.2.2.1.2.2.2.1 | exact (hG).2.2.2.2.2.2.2.2.1.2.2.2 | exact (hG).2.2.2.2.2.2.2.2.2) : InoR W x (xa, xc) (ya, yc))) (by simp), deeds_two (.inr ⟨rfl, inoOk_ents (v := d.links) hdo hent.1 hent.2, d, hdi, rfl, rfl⟩) (sought_ok hok hxi)⟩
            · simp (maxSteps := 2000000) -implicitDefEqProofs [hN, he]
              exact ret0 hC ((none, 0), [], e) rfl fun W _ _ => nl W
      · simp (maxSteps := 2000000) -implicitDefEqProofs [hN, he]
        exact ret0 hC ((none, 0), [], e) rfl fun W _ _ => nl W
  · simp (maxSteps := 2000000) -implicitDefEqProofs [hN, he]
    exact ret0 hC ((none, 0), [], e) rfl fun W _ _ => nl W
end Go.Proofs.YtbbaoeidobdblaaGreat.Sx

/- BlocksFew: the walk. -/
import Derived.Test.YtfmkpkmhhlakoaaFewp
import Derived.Test.YtfmkpkmhhlakoaaBaw
import Derived.Outline
import Derived.Deep.DeepCutAuto
import Derived.Deep.RegionHeld3
import Derived.IntWalk
set_option linter.unusedVariables false
set_option linter.unusedSimpArgs false
namespace Go.Proofs.Ytfmkpkmhhlakoaa.Bk
open Go.RowKit Go.Proofs.Ytfmkpkmhhlakoaa.Mx Go.Proofs.Ytfmkpkmhhlakoaa.Rn Go.Proofs.YtfmkpkmhhlakoaaW.PrintWords Go.Proofs.Ytfmkpkmhhlakoaa.PBlocksTell Go.Proofs.Ytfmkpkmhhlakoaa.Ints

theorem mod_sm (a : Int) (k : Nat) (h0 : 0 < k) (h1 : k ≤ 1000) : ∃ q : Nat, wrap64 ((IntKind.u64.wrap a).tmod (k : Int)) = (q : Int) ∧ q < k := by
  have h := mod_lt a k h0
  unfold mod at h
  refine ⟨((IntKind.u64.wrap a).tmod (k : Int)).toNat, ?_, by omega⟩
  unfold wrap64
  omega
def xC (A : Option Addr) (c : Nat) (ps : List Int) : Array Value := #[.int .i64 5, .int .i64 1, .int .i64 1, .int .i64 0, .string ⟨#[]⟩, .slice none 0 0, .slice A (runsOfP ps).length c]
/-- The inode stands in a box. -/
def XBox (W : World) (bx : Nat) (ps : List Int) : Prop := ∃ A c, (runsOfP ps).length ≤ c ∧ (∀ ad, A = some ad → ad.block ≠ bx) ∧ W.heap[bx]? = some (.cells (xC A c ps) 63 (0, 0)) ∧ Kd.C k107 W A (runsOfP ps).length (runsOfP ps)
theorem XBox.up {W W' : World} {bx : Nat} {ps : List Int} (h : XBox W bx ps) (hg : W.grownBy W' none) : XBox W' bx ps := by
  obtain ⟨A, c, h1, h0, h2, h3⟩ := h
  exact ⟨A, c, h1, h0, blk_grown h2 hg (by simp), Kd.C_below h3 (below_of hg)⟩
/-- A state of that one inode stands in a box; none of it in the block bx. -/
def SBox (W : World) (bx bs : Nat) (ps : List Int) : Prop := ∃ b A c, bs ≠ bx ∧ b ≠ bx ∧ (∀ ad, A = some ad → ad.block ≠ bx) ∧ (runsOfP ps).length ≤ c ∧ W.heap[bs]? = some (.cells #[.int .i64 0, .slice (some ⟨b, 0, none⟩) 1 1, .slice none 0 0] 43 (0, 0)) ∧ W.heap[b]? = some (.cells (xC A c ps) 63 (0, 0)) ∧ Kd.C k107 W A (runsOfP ps).length (runsOfP ps)
theorem SBox.up {W W' : World} {bx bs : Nat} {ps : List Int} (h : SBox W bx bs ps) (hg : W.grownBy W' none) : SBox W' bx bs ps := by
  obtain ⟨b, A, c, h1, h2, h3, h4, h5, h6, h7⟩ := h
  exact ⟨b, A, c, h1, h2, h3, h4, blk_grown h5 hg (by simp), blk_grown h6 hg (by simp), Kd.C_below h7 (below_of hg)⟩
theorem SBox.set {W : World} {bx bs : Nat} {ps : List Int} (h : SBox W bx bs ps) (i : Nat) (u : Value) : SBox (W.setCell ⟨bx, i, none⟩ u) bx bs ps := by
  obtain ⟨b, A, c, h1, h2, h3, h4, h5, h6, h7⟩ := h
  exact ⟨b, A, c, h1, h2, h3, h4, blk_far h5 h1 u, blk_far h6 h2 u, runs_set h7 _ _ h3⟩
/-- What a state's box holds. -/
theorem SBox.out {W : World} {bx bs : Nat} {ps : List Int} (h : SBox W bx bs ps) : ∃ A : Addr, W.cell? ⟨bs, 0, none⟩ = some (.int .i64 0) ∧ W.cell? ⟨bs, 1, none⟩ = some (.slice (some A) 1 1) ∧ W.cell? ⟨bs, 2, none⟩ = some (.slice none 0 0) ∧ Kd.C k63 W (some A) 1 [filX 5 ps] := by
  obtain ⟨b, A, c, h1, h2, h3, h4, h5, h6, h7⟩ := h
  refine ⟨⟨b, 0, none⟩, blk_cell h5 0, blk_cell h5 1, blk_cell h5 2, inos_one (A5 := none) (A6 := A) (c5 := 0) (c6 := c) (fun j u hu => ?_) (by simp [filX]) (kdC_nil _ _ _) h4 h7⟩
  rw [← hu]
  exact blk_cell h6 j
theorem sbox_made {W : World} {bx : Nat} {A : Option Addr} {c : Nat} {ps : List Int} (h : W.heap[bx]? = some (.cells (xC A c ps) 63 (0, 0))) (hne : ∀ ad, A = some ad → ad.block ≠ bx) (hC : Kd.C k107 W A (runsOfP ps).length (runsOfP ps)) (hc : (runsOfP ps).length ≤ c) :
    SBox ((W.alloc (.cells #[.int .i64 5, .int .i64 1, .int .i64 1, .int .i64 0, .string ⟨#[]⟩, .slice none 0 0, .slice A (runsOfP ps).length c] 63)).alloc (.cells #[.int .i64 0, .slice (some ⟨W.heap.size, 0, none⟩) 1 1, .slice none 0 0] 43)) bx (W.heap.size + 1) ps := by
  have hlt := blk_lt h
  have h1 := blk_alloc (blk_new W (.cells #[.int .i64 5, .int .i64 1, .int .i64 1, .int .i64 0, .string ⟨#[]⟩, .slice none 0 0, .slice A (runsOfP ps).length c] 63)) (.cells #[.int .i64 0, .slice (some ⟨W.heap.size, 0, none⟩) 1 1, .slice none 0 0] 43)
  have h2 := blk_new (W.alloc (.cells #[.int .i64 5, .int .i64 1, .int .i64 1, .int .i64 0, .string ⟨#[]⟩, .slice none 0 0, .slice A (runsOfP ps).length c] 63)) (.cells #[.int .i64 0, .slice (some ⟨W.heap.size, 0, none⟩) 1 1, .slice none 0 0] 43)
  rw [World.size_alloc] at h2
  exact ⟨W.heap.size, A, c, by omega, by omega, hne, hc, h2, h1, Kd.C_below hC (below_of (grown_al (grown_al (World.grownBy.refl _ _) _) _))⟩
theorem XBox.put {W W' : World} {bx : Nat} {ps qs : List Int} {A A' : Option Addr} {c c' : Nat} (h : W.heap[bx]? = some (.cells (xC A c ps) 63 (0, 0))) (hg : W.grownBy W' none) (hC : Kd.C k107 W' A' (runsOfP qs).length (runsOfP qs)) (hl : (runsOfP qs).length ≤ c') (hf : ∀ ad, A' = some ad → W.heap.size ≤ ad.block) :
    XBox (W'.setCell ⟨bx, 6, none⟩ (.slice A' (runsOfP qs).length c')) bx qs := by
  have hlt := blk_lt h
  have hne : ∀ ad, A' = some ad → ad.block ≠ bx := fun ad e => by have := hf ad e; omega
  exact ⟨A', c', hl, hne, blk_put (blk_grown h hg (by simp)) 6 _ rfl, runs_set hC _ _ hne⟩
theorem kdC_at {α : Type} {d : Kd α} {w w' : World} {a : Option Addr} {n : Nat} {xs : List α} (h : d.C w a n xs) (hg : w.grownBy w' none) : d.C w' a n xs := Kd.C_below h (below_of hg)

theorem live_len1 (W : World) (A : Addr) (ps : List Int) (i : Nat) (h : Kd.C k63 W (some A) 1 [filX 5 ps]) (hL : (ownersP [filX 5 ps]).length ≤ 4) :
    Calls Try.prog 24 #[.agg #[.int .i64 0, .slice (some A) 1 1, .slice none 0 0], .int .i64 (i : Int), .int .i64 8] W fun e w' => (∃ a c, e = .returned (.slice a (selP (ownersP [filX 5 ps]) (i : Int) 8).length c)) ∧ W.grownBy w' none := by
  refine (liveT_any W 0 (some A) 1 [filX 5 ps] (.slice none 0 0) (i : Int) 8 h (by omega)).mono ?_
  rintro e w' ⟨v, rfl, ho, hg⟩
  obtain ⟨a, c, rfl, _⟩ := rdT_own ho
  rw [live_length]
  exact ⟨⟨a, c, rfl⟩, hg⟩
theorem live_tags (W : World) (A : Addr) (ps : List Int) (b p : Int) (h : Kd.C k63 W (some A) 1 [filX 5 ps]) (hL : (ownersP [filX 5 ps]).length ≤ 4) :
    Calls Try.prog 24 #[.agg #[.int .i64 0, .slice (some A) 1 1, .slice none 0 0], .int .i64 b, .int .i64 p] W fun e w' => ∃ a c, e = .returned (.slice a (liveT [filX 5 ps] b p).length c) ∧ RdT w' a (liveT [filX 5 ps] b p).length (liveT [filX 5 ps] b p) ∧ W.grownBy w' none := by
  refine (liveT_any W 0 (some A) 1 [filX 5 ps] (.slice none 0 0) b p h (by omega)).mono ?_
  rintro e w' ⟨v, rfl, ho, hg⟩
  obtain ⟨a, c, rfl, hr⟩ := rdT_own ho
  exact ⟨a, c, rfl, hr, hg⟩
theorem ownPg_length (no : Int) : ∀ (pg : List (Int × Int)) (L : List (Int × (Int × Int))), (ownPg L no pg).length ≤ L.length + pg.length
  | [], L => by simp [ownPg]
  | q :: pg, L => by
    have h := ownPg_length no pg (addOne L no q.1 q.2)
    have h2 : (addOne L no q.1 q.2).length ≤ L.length + 1 := by
      unfold addOne
      split
      · omega
      · unfold mput mdel
        rw [List.length_cons]
        have := List.length_filter_le (fun p : Int × (Int × Int) => !(p.1 == q.2)) L
        omega
    unfold ownPg at h ⊢
    rw [List.foldl_cons, List.length_cons]
    omega
theorem cntB_le (L : List (Int × (Int × Int))) (h : L.length ≤ 4) : ∀ n, cntB L n ≤ 4 * n := by
  intro n
  induction n with
  | zero => exact Nat.le_refl _
  | succ n ih =>
    have := selP_length L (n : Int) 8
    rw [cntB]
    omega
theorem chk_at (a t : Nat) (ha : a < 40) (ht : t < 40) : cntB (ownPg [] 5 (pg4 a ((a + 14) % 40))) 10 = 4 ∧ chk a (40 + t) = true := by
  have h := chk_all
  rw [List.all_eq_true] at h
  have h1 := h a (List.mem_range.2 ha)
  rw [Bool.and_eq_true, List.all_eq_true] at h1
  exact ⟨by simpa using h1.1, h1.2 t (List.mem_range.2 ht)⟩
theorem few_facts (a t u : Nat) (ha : a < 40) (ht : t < 40) (hu : u < 5) :
    cntB (ownersP [filX 5 (psI a 4)]) 10 = 4 ∧ cntB (ownersP [filX 5 (ps2 a (40 + t))]) 10 = 4 ∧ cntB (ownersP [filX 5 (ps3 a (40 + t) u)]) 10 = u ∧
    (∀ p ∈ liveT [filX 5 (ps2 a (40 + t))] (((a + 14) % 40 : Nat) / 8 : Int) 8, p.2 = 2 → ((40 + t : Nat) : Int) / 8 = (((a + 14) % 40 : Nat) : Int) / 8) ∧
    liveT [filX 5 (ps2 a (40 + t))] ((40 + t : Nat) : Int) 1 = [(5, 2)] ∧ liveT [filX 5 (ps2 a (40 + t))] (((a + 14) % 40 : Nat) : Int) 1 = [] := by
  have hu' : u = 0 ∨ u = 1 ∨ u = 2 ∨ u = 3 ∨ u = 4 := by omega
  obtain ⟨h1, h2⟩ := chk_at a t ha ht
  have o2 : ownersP [filX 5 (ps2 a (40 + t))] = ownPg [] 5 (pg4 a (40 + t)) := by rw [owners_filX (ps2_pl a _ (by omega)), pg_two]
  have o3 : ownersP [filX 5 (ps3 a (40 + t) u)] = ownPg [] 5 ((pg4 a (40 + t)).take u) := by rw [owners_filX (ps3_pl a _ u (by omega) (by omega)), pg_three a _ u (by omega)]
  unfold chk at h2
  simp only [Bool.and_eq_true, beq_iff_eq] at h2
  obtain ⟨⟨⟨⟨⟨⟨⟨⟨c4, c0⟩, c1⟩, c2⟩, c3⟩, hal⟩, hs1⟩, hm⟩, hs0⟩ := h2
  refine ⟨by rw [owners_filX (psI_pl a 4), pg_one]; exact h1, by rw [o2]; exact c4, ?_, ?_, ?_, ?_⟩
  · rw [o3]
    clear o3 o2 h1 hal hs1 hm hs0 hu
    rcases hu' with rfl | rfl | rfl | rfl | rfl
    · exact c0
    · exact c1
    · exact c2
    · exact c3
    · exact c4
  · intro p hp h
    unfold liveT at hp
    rw [if_neg (by omega), o2] at hp
    obtain ⟨k, hk, rfl⟩ := List.mem_map.1 hp
    have hk2 := (Ints.sorted_perm _).mem_iff.1 hk
    rw [List.all_eq_true] at hal
    have := hal k hk2
    simp only [Bool.or_eq_true, bne_iff_ne, beq_iff_eq] at this
    rcases this with h3 | h3
    · exact absurd h h3
    · exact h3
  · unfold liveT
    rw [if_neg (by omega), o2]
    unfold liveP
    rw [hs1, Ints.sorted_self (by simp)]
    show [(mget _ _).getD (0, 0)] = [(5, 2)]
    rw [hm]
    rfl
  · unfold liveT
    rw [if_neg (by omega), o2]
    unfold liveP
    rw [hs0, Ints.sorted_self (by simp)]
    rfl
/-- Some tags, of which none is told more than that. -/
theorem tag_pack (ps : List Int) (b p : Int) (hL : (ownersP [filX 5 ps]).length ≤ 4) (F : Int × Int → Prop) (hF : ∀ q ∈ liveT [filX 5 ps] b p, F q) (k : Nat) (hk : (liveT [filX 5 ps] b p).length = k) : ∃ T : List (Int × Int), T.length = k ∧ (∀ j, j < k → F (T.getD j (0, 0))) ∧
    ∀ (W : World) (A : Addr), Kd.C k63 W (some A) 1 [filX 5 ps] → Calls Try.prog 24 #[.agg #[.int .i64 0, .slice (some A) 1 1, .slice none 0 0], .int .i64 b, .int .i64 p] W fun e w' => ∃ a c, e = .returned (.slice a k c) ∧ RdT w' a k T ∧ W.grownBy w' none :=
  ⟨liveT [filX 5 ps] b p, hk, fun j hj => hF _ (by
    rw [← hk] at hj
    have : (liveT [filX 5 ps] b p).getD j (0, 0) = (liveT [filX 5 ps] b p)[j] := by simp [List.getD, hj]
    rw [this]
    exact List.getElem_mem hj), fun W A h => by rw [← hk]; exact live_tags W A ps b p h hL⟩
/-- How many pages live: ahead of a block, and in it. -/
theorem cnt_pack (ps : List Int) (hL : (ownersP [filX 5 ps]).length ≤ 4) : ∃ C M : Nat → Nat, C 0 = 0 ∧ (∀ i, C (i + 1) = C i + M i) ∧ (∀ i, C i ≤ 4 * i) ∧ C 10 = cntB (ownersP [filX 5 ps]) 10 ∧
    ∀ (W : World) (A : Addr) (i : Nat), Kd.C k63 W (some A) 1 [filX 5 ps] →
      Calls Try.prog 24 #[.agg #[.int .i64 0, .slice (some A) 1 1, .slice none 0 0], .int .i64 (i : Int), .int .i64 8] W fun e w' => (∃ a c, e = .returned (.slice a (M i) c)) ∧ W.grownBy w' none :=
  ⟨cntB (ownersP [filX 5 ps]), fun i => (selP (ownersP [filX 5 ps]) (i : Int) 8).length, rfl, fun _ => rfl, cntB_le _ hL, rfl, fun W A i h => live_len1 W A ps i h hL⟩
set_option maxHeartbeats 4000000 in
set_option maxRecDepth 100000 in
theorem few_any (w : World) (at_ to_ cut_ : Int) : Calls Try.prog 7 #[.int .i64 at_, .int .i64 to_, .int .i64 cut_] w fun e w' => e = .returned (.bool true) ∧ w.grownBy w' none := by
  obtain ⟨a, ha, ha40⟩ : ∃ q : Nat, wrap64 ((IntKind.u64.wrap at_).tmod 40) = (q : Int) ∧ q < 40 := mod_sm at_ 40 (by omega) (by omega)
  obtain ⟨t, ht, ht40⟩ : ∃ q : Nat, wrap64 ((IntKind.u64.wrap to_).tmod 40) = (q : Int) ∧ q < 40 := mod_sm to_ 40 (by omega) (by omega)
  obtain ⟨u, hu, hu5⟩ : ∃ q : Nat, wrap64 ((IntKind.u64.wrap cut_).tmod 5) = (q : Int) ∧ q < 5 := mod_sm cut_ 5 (by omega) (by omega)
  have Ha := Lib.hid ha
  have Ht := Lib.hid ht
  have Hu := Lib.hid hu
  clear ha ht hu
  have HN := Lib.hid (newInode_any 5 1 ⟨#[]⟩ w (by decide))
  go_enter Try.func7, Try.ntmps7
  go_wp2_with fail
  refine HN.out.mono ?_
  rintro e w1 ⟨rfl, hg1⟩
  have e1 : inoV (newIno 5 1 ⟨#[]⟩) none 0 none 0 = .agg #[.int .i64 5, .int .i64 1, .int .i64 1, .int .i64 0, .string ⟨#[]⟩, .slice none 0 0, .slice none 0 0] := by simp [newIno, inoV]
  rw [e1]
  clear e1 HN
  go_upto_block 0 with (fail)
  have ew : wrap64 (40 + (t : Int)) = ((40 + t : Nat) : Int) := by unfold wrap64; omega
  simp only [Ha.out, Ht.out, Hu.out, ew]
  clear ew
  have BK0 := blk_new w1 (.cells #[.int .i64 5, .int .i64 1, .int .i64 1, .int .i64 0, .string ⟨#[]⟩, .slice none 0 0, .slice none 0 0] 63)
  have hg2 := grown_al hg1 (.cells #[.int .i64 5, .int .i64 1, .int .i64 1, .int .i64 0, .string ⟨#[]⟩, .slice none 0 0, .slice none 0 0] 63)
  have hxb : w.heap.size ≤ w1.heap.size := hg1.size
  generalize w1.alloc (.cells #[.int .i64 5, .int .i64 1, .int .i64 1, .int .i64 0, .string ⟨#[]⟩, .slice none 0 0, .slice none 0 0] 63) = w2 at *
  generalize w1.heap.size = bx at *
  have hX : XBox w2 bx (psI a 0) := ⟨none, 0, by simp [psI, runs_none], fun _ e => (by cases e), by simpa [xC, psI, runs_none] using BK0, by simpa [psI, runs_none] using kdC_nil _ _ _⟩
  have Hxb := Lib.hid hxb
  clear BK0 hg1 Ha Ht Hu hxb
  go_cut [8] (fun v8 wx => XBox wx bx (psI a 4) ∧ w.grownBy wx none)
  case first =>
    go_wp2_with fail
    go_loopg [8] 4 (fun g v wr => ∃ i : Nat, v = .int .i64 i ∧ i + g = 4 ∧ XBox wr bx (psI a i) ∧ w.grownBy wr none)
    case atStart => exact ⟨0, rfl, by omega, hX, hg2⟩
    case round =>
      clear hX hg2
      obtain ⟨i, rfl, hi, hX, hg⟩ := hrel
      have Hi := Lib.hid hi
      clear hi
      by_cases hlt : i < 4
      · obtain ⟨A, c, hc, _, hbk, hC⟩ := hX
        have hs : psI a (i + 1) = (psI a i).set i (((a : Int) + 7 * (i : Int)) % 40) := rfl
        have HS := Lib.hid (setRun_any (psI_pl a i) hC hc i (((a : Int) + 7 * (i : Int)) % 40) (by omega) (by omega) (by omega))
        rw [← hs] at HS
        have Hbk := Lib.hid hbk
        have c6 := blk_cell hbk 6
        have f6 := blk_frozen hbk
        have hbl := blk_lt hbk
        simp only [xC, List.getElem?_toArray, List.getElem?_cons_zero, List.getElem?_cons_succ] at c6
        clear hbk hC hs
        go_wp2_with fail
        refine HS.out.mono ?_
        rintro e w3 ⟨A3, c3, rfl, hc3, hC3, hf3, hg3⟩
        have hbk3 := blk_grown Hbk.out hg3 (by simp)
        have Hbk3 := Lib.hid hbk3
        have d6 := blk_cell hbk3 6
        have f6' := blk_frozen hbk3
        have hbl' := blk_lt hbk3
        simp only [xC, List.getElem?_toArray, List.getElem?_cons_zero, List.getElem?_cons_succ] at d6
        clear hbk3 c6 f6
        go_wp2_with fail
        go_roundg (4 - i - 1)
        case measure => have := Hi.out; omega
        case rel =>
          have := Hi.out
          exact ⟨i + 1, by go_num, by omega, XBox.put Hbk.out hg3 hC3 hc3 hf3, grown_set (hg.trans hg3) Hxb.out⟩
      · have e4 : i = 4 := by have := Hi.out; omega
        subst e4
        go_wp2_with fail
        go_meet
        case rel => exact ⟨hX, hg⟩
  case rest =>
    obtain ⟨hX, hg⟩ := hcut
    clear hg2
    obtain ⟨A, c, hc, hne, hbk, hC⟩ := hX
    have hwc : w.heap.size ≤ wc.heap.size := hg.size
    generalize wc = w3 at *
    have c0 := blk_cell hbk 0
    have c1 := blk_cell hbk 1
    have c2 := blk_cell hbk 2
    have c3 := blk_cell hbk 3
    have c4 := blk_cell hbk 4
    have c5 := blk_cell hbk 5
    have c6 := blk_cell hbk 6
    have f6 := blk_frozen hbk
    have hbl := blk_lt hbk
    have S1 := sbox_made hbk hne hC hc
    have G3 : w3.grownBy _ none := grown_al (grown_al (World.grownBy.refl w3 none) (.cells #[.int .i64 5, .int .i64 1, .int .i64 1, .int .i64 0, .string ⟨#[]⟩, .slice none 0 0, .slice A (runsOfP (psI a 4)).length c] 63)) (.cells #[.int .i64 0, .slice (some ⟨w3.heap.size, 0, none⟩) 1 1, .slice none 0 0] 43)
    have Hbk := Lib.hid hbk
    simp only [xC, List.getElem?_toArray, List.getElem?_cons_zero, List.getElem?_cons_succ] at c0 c1 c2 c3 c4 c5 c6
    clear hbk
    go_upto_region 8 with (fail)
    generalize (w3.alloc (.cells #[.int .i64 5, .int .i64 1, .int .i64 1, .int .i64 0, .string ⟨#[]⟩, .slice none 0 0, .slice A (runsOfP (psI a 4)).length c] 63)).alloc (.cells #[.int .i64 0, .slice (some ⟨w3.heap.size, 0, none⟩) 1 1, .slice none 0 0] 43) = w4 at *
    generalize w3.heap.size + 1 = s1 at *
    have hbk := blk_grown Hbk.out G3 (by simp)
    replace hC := kdC_at hC G3
    replace hg := hg.trans G3
    have eset : (psI a 4).set 2 (40 + (t : Int)) = ps2 a (40 + t) := by simp [ps2]
    have HS := Lib.hid (setRun_any (psI_pl a 4) hC hc 2 (40 + (t : Int)) (by omega) (by omega) (by omega))
    rw [eset] at HS
    replace c6 := blk_cell hbk 6
    replace f6 := blk_frozen hbk
    replace hbl := blk_lt hbk
    have Hbk4 := Lib.hid hbk
    simp only [xC, List.getElem?_toArray, List.getElem?_cons_zero, List.getElem?_cons_succ] at c6
    clear hbk Hbk c0 c1 c2 c3 c4 c5 eset hne
    go_wp2_with fail
    refine HS.out.mono ?_
    rintro e w5 ⟨A5, c5, rfl, hc5, hC5, hf5, hg5⟩
    have hbk5 := blk_grown Hbk4.out hg5 (by simp)
    have d6 := blk_cell hbk5 6
    have g6 := blk_frozen hbk5
    have hbl5 := blk_lt hbk5
    simp only [xC, List.getElem?_toArray, List.getElem?_cons_zero, List.getElem?_cons_succ] at d6
    have X6 := XBox.put Hbk4.out hg5 hC5 hc5 hf5
    replace S1 := (S1.up hg5).set 6 (.slice A5 (runsOfP (ps2 a (40 + t))).length c5)
    have hg6 := grown_set (p := ⟨bx, 6, none⟩) (u := .slice A5 (runsOfP (ps2 a (40 + t))).length c5) (hg.trans hg5) Hxb.out
    clear hbk5 c6 f6 HS hC5 hf5 hC hg Hbk4 hbl hg5 hc5 hc G3 hwc
    go_upto_region 9 with (fail)
    clear d6 g6 hbl5
    generalize w5.setCell ⟨bx, 6, none⟩ (.slice A5 (runsOfP (ps2 a (40 + t))).length c5) = w6 at *
    obtain ⟨A, c, hc, hne, hbk, hC⟩ := X6
    have c0 := blk_cell hbk 0
    have c1 := blk_cell hbk 1
    have c2 := blk_cell hbk 2
    have c3 := blk_cell hbk 3
    have c4 := blk_cell hbk 4
    have c5 := blk_cell hbk 5
    have c6 := blk_cell hbk 6
    have f6 := blk_frozen hbk
    have hbl := blk_lt hbk
    have S2 := sbox_made hbk hne hC hc
    have G3 : w6.grownBy _ none := grown_al (grown_al (World.grownBy.refl w6 none) (.cells #[.int .i64 5, .int .i64 1, .int .i64 1, .int .i64 0, .string ⟨#[]⟩, .slice none 0 0, .slice A (runsOfP (ps2 a (40 + t))).length c] 63)) (.cells #[.int .i64 0, .slice (some ⟨w6.heap.size, 0, none⟩) 1 1, .slice none 0 0] 43)
    have Hbk := Lib.hid hbk
    simp only [xC, List.getElem?_toArray, List.getElem?_cons_zero, List.getElem?_cons_succ] at c0 c1 c2 c3 c4 c5 c6
    clear hbk
    go_upto_region 10 with (fail)
    generalize (w6.alloc (.cells #[.int .i64 5, .int .i64 1, .int .i64 1, .int .i64 0, .string ⟨#[]⟩, .slice none 0 0, .slice A (runsOfP (ps2 a (40 + t))).length c] 63)).alloc (.cells #[.int .i64 0, .slice (some ⟨w6.heap.size, 0, none⟩) 1 1, .slice none 0 0] 43) = w7 at *
    generalize w6.heap.size + 1 = s2 at *
    have hbk := blk_grown Hbk.out G3 (by simp)
    replace hC := kdC_at hC G3
    have hg := hg6.trans G3
    replace S1 := S1.up G3
    have HS := Lib.hid (cutRuns_any (ps2_pl a (40 + t) (by omega)) hC hc u (by omega))
    have e3 : (ps2 a (40 + t)).take u ++ List.replicate (64 - u) (-1) = ps3 a (40 + t) u := rfl
    rw [e3] at HS
    replace c6 := blk_cell hbk 6
    replace f6 := blk_frozen hbk
    replace hbl := blk_lt hbk
    have Hbk4 := Lib.hid hbk
    simp only [xC, List.getElem?_toArray, List.getElem?_cons_zero, List.getElem?_cons_succ] at c6
    clear hbk Hbk c0 c1 c2 c3 c4 c5 hne e3
    go_wp2_with fail
    refine HS.out.mono ?_
    rintro e w8 ⟨A8, c8, rfl, hc8, hC8, hf8, hg8⟩
    have hbk8 := blk_grown Hbk4.out hg8 (by simp)
    have d6 := blk_cell hbk8 6
    have g6 := blk_frozen hbk8
    have hbl8 := blk_lt hbk8
    simp only [xC, List.getElem?_toArray, List.getElem?_cons_zero, List.getElem?_cons_succ] at d6
    have X9 := XBox.put Hbk4.out hg8 hC8 hc8 hf8
    replace S1 := (S1.up hg8).set 6 (.slice A8 (runsOfP (ps3 a (40 + t) u)).length c8)
    replace S2 := (S2.up hg8).set 6 (.slice A8 (runsOfP (ps3 a (40 + t) u)).length c8)
    replace hg6 := grown_set (p := ⟨bx, 6, none⟩) (u := .slice A8 (runsOfP (ps3 a (40 + t) u)).length c8) (hg.trans hg8) Hxb.out
    clear hbk8 c6 f6 HS hC8 hf8 hC hg Hbk4 hbl hg8 hc8 hc G3
    go_upto_region 11 with (fail)
    clear d6 g6 hbl8
    generalize w8.setCell ⟨bx, 6, none⟩ (.slice A8 (runsOfP (ps3 a (40 + t) u)).length c8) = w9 at *
    obtain ⟨A, c, hc, hne, hbk, hC⟩ := X9
    have c0 := blk_cell hbk 0
    have c1 := blk_cell hbk 1
    have c2 := blk_cell hbk 2
    have c3 := blk_cell hbk 3
    have c4 := blk_cell hbk 4
    have c5 := blk_cell hbk 5
    have c6 := blk_cell hbk 6
    have f6 := blk_frozen hbk
    have hbl := blk_lt hbk
    have S3 := sbox_made hbk hne hC hc
    have G3 : w9.grownBy _ none := grown_al (grown_al (World.grownBy.refl w9 none) (.cells #[.int .i64 5, .int .i64 1, .int .i64 1, .int .i64 0, .string ⟨#[]⟩, .slice none 0 0, .slice A (runsOfP (ps3 a (40 + t) u)).length c] 63)) (.cells #[.int .i64 0, .slice (some ⟨w9.heap.size, 0, none⟩) 1 1, .slice none 0 0] 43)
    have Hbk := Lib.hid hbk
    simp only [xC, List.getElem?_toArray, List.getElem?_cons_zero, List.getElem?_cons_succ] at c0 c1 c2 c3 c4 c5 c6
    clear hbk
    go_upto_block 2 with (fail)
    generalize (w9.alloc (.cells #[.int .i64 5, .int .i64 1, .int .i64 1, .int .i64 0, .string ⟨#[]⟩, .slice none 0 0, .slice A (runsOfP (ps3 a (40 + t) u)).length c] 63)).alloc (.cells #[.int .i64 0, .slice (some ⟨w9.heap.size, 0, none⟩) 1 1, .slice none 0 0] 43) = wa at *
    generalize w9.heap.size + 1 = s3 at *
    have hbk := blk_grown Hbk.out G3 (by simp)
    replace hC := kdC_at hC G3
    have hg := hg6.trans G3
    replace S1 := S1.up G3
    replace S2 := S2.up G3
    clear Hbk hC hbk hne G3 c0 c1 c2 c3 c4 c5 c6 f6 hbl hg6 hc
    have hL1 : (ownersP [filX 5 (psI a 4)]).length ≤ 4 := by rw [owners_filX (psI_pl a 4), pg_one]; exact ownPg_length _ _ _
    have hL2 : (ownersP [filX 5 (ps2 a (40 + t))]).length ≤ 4 := by rw [owners_filX (ps2_pl a _ (by omega)), pg_two]; exact ownPg_length _ _ _
    have hL3 : (ownersP [filX 5 (ps3 a (40 + t) u)]).length ≤ 4 := by
      rw [owners_filX (ps3_pl a _ u (by omega) (by omega)), pg_three a _ u (by omega)]
      have := ownPg_length 5 ((pg4 a (40 + t)).take u) []
      have h2 : ((pg4 a (40 + t)).take u).length ≤ 4 := by simp [pg4]; omega
      simp only [List.length_nil] at this
      omega
    obtain ⟨C1, M1, C1z, C1s, C1b, C1e, C1v⟩ := cnt_pack _ hL1
    obtain ⟨C2, M2, C2z, C2s, C2b, C2e, C2v⟩ := cnt_pack _ hL2
    obtain ⟨C3, M3, C3z, C3s, C3b, C3e, C3v⟩ := cnt_pack _ hL3
    have Z1 := Lib.hid C1z
    have Z2 := Lib.hid C2z
    have Z3 := Lib.hid C3z
    have T1 := Lib.hid C1s
    have T2 := Lib.hid C2s
    have T3 := Lib.hid C3s
    have B1 := Lib.hid C1b
    have B2 := Lib.hid C2b
    have B3 := Lib.hid C3b
    have E1 := Lib.hid C1e
    have E2 := Lib.hid C2e
    have E3 := Lib.hid C3e
    have V1 := Lib.hid C1v
    have V2 := Lib.hid C2v
    have V3 := Lib.hid C3v
    clear C1z C2z C3z C1s C2s C3s C1b C2b C3b C1e C2e C3e C1v C2v C3v
    have HL2 := Lib.hid hL2
    have HS1 := Lib.hid S1
    have HS2 := Lib.hid S2
    have HS3 := Lib.hid S3
    clear hL1 hL2 hL3 S1 S2 S3
    go_cut [12, 13, 14, 15] (fun v12 v13 v14 v15 wx => v12 = .int .i64 (C1 10 : Nat) ∧ v13 = .int .i64 (C2 10 : Nat) ∧ v14 = .int .i64 (C3 10 : Nat) ∧ wa.grownBy wx none)
    case first =>
      go_wp2_with fail
      go_loopg [12, 13, 14, 15] 10 (fun g v12 v13 v14 v15 wr => ∃ i : Nat, v15 = .int .i64 i ∧ i + g = 10 ∧ v12 = .int .i64 (C1 i : Nat) ∧ v13 = .int .i64 (C2 i : Nat) ∧ v14 = .int .i64 (C3 i : Nat) ∧ wa.grownBy wr none)
      case atStart => exact ⟨0, rfl, by omega, by rw [Z1.out]; rfl, by rw [Z2.out]; rfl, by rw [Z3.out]; rfl, World.grownBy.refl _ _⟩
      case round =>
        obtain ⟨i, rfl, hi, rfl, rfl, rfl, hgr⟩ := hrel
        have Hi := Lib.hid hi
        clear hi
        by_cases hlt : i < 10
        · obtain ⟨A1, x0, x1, x2, hC1⟩ := (HS1.out.up hgr).out
          obtain ⟨A2, y0, y1, y2, hC2⟩ := (HS2.out.up hgr).out
          obtain ⟨A3, z0, z1, z2, hC3⟩ := (HS3.out.up hgr).out
          have HV1 := Lib.hid (fun W (hW : wr.grownBy W none) => V1.out W A1 i (kdC_at hC1 hW))
          have HV2 := Lib.hid (fun W (hW : wr.grownBy W none) => V2.out W A2 i (kdC_at hC2 hW))
          have HV3 := Lib.hid (fun W (hW : wr.grownBy W none) => V3.out W A3 i (kdC_at hC3 hW))
          have N1 := Lib.hid (T1.out i)
          have N2 := Lib.hid (T2.out i)
          have N3 := Lib.hid (T3.out i)
          have b1 := B1.out (i + 1)
          have b2 := B2.out (i + 1)
          have b3 := B3.out (i + 1)
          rw [N1.out] at b1
          rw [N2.out] at b2
          rw [N3.out] at b3
          clear hC1 hC2 hC3
          generalize C1 i = q1 at *
          generalize C2 i = q2 at *
          generalize C3 i = q3 at *
          generalize M1 i = m1 at *
          generalize M2 i = m2 at *
          generalize M3 i = m3 at *
          have KS := Lib.hid (fun W (hW : wr.grownBy W none) => (⟨hW.cell x0 (by simp), hW.cell x1 (by simp), hW.cell x2 (by simp), hW.cell y0 (by simp), hW.cell y1 (by simp), hW.cell y2 (by simp), hW.cell z0 (by simp), hW.cell z1 (by simp), hW.cell z2 (by simp)⟩ : W.cell? ⟨s1, 0, none⟩ = some (.int .i64 0) ∧ W.cell? ⟨s1, 1, none⟩ = some (.slice (some A1) 1 1) ∧ W.cell? ⟨s1, 2, none⟩ = some (.slice none 0 0) ∧ W.cell? ⟨s2, 0, none⟩ = some (.int .i64 0) ∧ W.cell? ⟨s2, 1, none⟩ = some (.slice (some A2) 1 1) ∧ W.cell? ⟨s2, 2, none⟩ = some (.slice none 0 0) ∧ W.cell? ⟨s3, 0, none⟩ = some (.int .i64 0) ∧ W.cell? ⟨s3, 1, none⟩ = some (.slice (some A3) 1 1) ∧ W.cell? ⟨s3, 2, none⟩ = some (.slice none 0 0)))
          clear x0 x1 x2 y0 y1 y2 z0 z1 z2
          go_upto_region 16 with (fail)
          obtain ⟨e1, e2, e3⟩ : IntKind.i64.wrap ((q1 : Int) + (m1 : Int)) = (q1 : Int) + m1 ∧ IntKind.i64.wrap ((q2 : Int) + (m2 : Int)) = (q2 : Int) + m2 ∧ IntKind.i64.wrap ((q3 : Int) + (m3 : Int)) = (q3 : Int) + m3 := ⟨IntWalk.i64_in _ (by omega), IntWalk.i64_in _ (by omega), IntWalk.i64_in _ (by omega)⟩
          go_region_held3 (fun W => W.cell? ⟨s1, 0, none⟩ = some (.int .i64 0) ∧ W.cell? ⟨s1, 1, none⟩ = some (.slice (some A1) 1 1) ∧ W.cell? ⟨s1, 2, none⟩ = some (.slice none 0 0) ∧ W.cell? ⟨s2, 0, none⟩ = some (.int .i64 0) ∧ W.cell? ⟨s2, 1, none⟩ = some (.slice (some A2) 1 1) ∧ W.cell? ⟨s2, 2, none⟩ = some (.slice none 0 0) ∧ W.cell? ⟨s3, 0, none⟩ = some (.int .i64 0) ∧ W.cell? ⟨s3, 1, none⟩ = some (.slice (some A3) 1 1) ∧ W.cell? ⟨s3, 2, none⟩ = some (.slice none 0 0))
            (exact KS.out _ (by (with_reducible repeat (first | exact G3 | exact G2 | exact G1 | exact hgr | exact World.grownBy.refl _ _ | apply grown_al | apply grown_drew))))
            (first
            | (go_at_call 24; (with_reducible refine (HV1.out _ ?_).mono ?_); (focus (with_reducible repeat (first | exact World.grownBy.refl _ _ | apply grown_al | apply grown_drew))); rintro e v1 ⟨⟨k1, l1, rfl⟩, hv1⟩; have G1 : wr.grownBy v1 none := World.grownBy.trans (by (with_reducible repeat (first | exact World.grownBy.refl _ _ | apply grown_al | apply grown_drew))) hv1)
            | (go_at_call 24; (with_reducible refine (HV2.out _ ?_).mono ?_); (focus (with_reducible repeat (first | exact G1 | apply grown_al | apply grown_drew))); rintro e v2 ⟨⟨k2, l2, rfl⟩, hv2⟩; have G2 : wr.grownBy v2 none := World.grownBy.trans (by (with_reducible repeat (first | exact G1 | apply grown_al | apply grown_drew))) hv2)
            | (go_at_call 24; (with_reducible refine (HV3.out _ ?_).mono ?_); (focus (with_reducible repeat (first | exact G2 | apply grown_al | apply grown_drew))); rintro e v3 ⟨⟨k3, l3, rfl⟩, hv3⟩; have G3 : wr.grownBy v3 none := World.grownBy.trans (by (with_reducible repeat (first | exact G2 | apply grown_al | apply grown_drew))) hv3))
          clear e1 e2 e3
          go_wp2_with fail
          go_roundg (10 - i - 1)
          case measure => have := Hi.out; omega
          case rel =>
            have := Hi.out
            exact ⟨i + 1, by go_num, by omega, by rw [N1.out]; go_num, by rw [N2.out]; go_num, by rw [N3.out]; go_num, hgr.trans G3⟩
        · have e4 : i = 10 := by have := Hi.out; omega
          subst e4
          go_wp2_with fail
          go_meet
          case rel => exact ⟨rfl, rfl, rfl, hgr⟩
    case rest =>
      obtain ⟨rfl, rfl, rfl, hgr⟩ := hcut
      obtain ⟨F1, F2, F3, F4, F5, F6⟩ := few_facts a t u ha40 ht40 hu5
      have e1 : ((C1 10 : Nat) : Int) = 4 := congrArg (fun n : Nat => (n : Int)) (E1.out.trans F1)
      have e2 : ((C2 10 : Nat) : Int) = 4 := congrArg (fun n : Nat => (n : Int)) (E2.out.trans F2)
      have e3 : C3 10 = u := E3.out.trans F3
      obtain ⟨wz, hwz⟩ : ∃ z : Nat, (a + 14) % 40 = z := ⟨_, rfl⟩
      have hwl : wz < 40 := by omega
      rw [hwz] at F4 F6
      obtain ⟨n4, h4⟩ : ∃ n : Nat, (liveT [filX 5 (ps2 a (40 + t))] ((wz : Int) / 8) 8).length = n := ⟨_, rfl⟩
      have hn4 : n4 ≤ 4 := by
        have hh := h4
        unfold liveT at hh
        rw [if_neg (by omega)] at hh
        have h5 := selP_length (ownersP [filX 5 (ps2 a (40 + t))]) ((wz : Int) / 8) 8
        have h6 := HL2.out
        simp only [tagsP, List.length_map, liveP, Ints.sorted_length] at hh
        omega
      obtain ⟨T4, l4, f4, v4⟩ := tag_pack (ps2 a (40 + t)) ((wz : Int) / 8) 8 HL2.out (fun p => p.2 = 2 → ((40 + t : Nat) : Int) / 8 = (wz : Int) / 8) F4 n4 h4
      obtain ⟨T5, l5, f5, v5⟩ := tag_pack (ps2 a (40 + t)) ((40 + t : Nat) : Int) 1 HL2.out (fun p => p = (5, 2)) (by rw [F5]; simp) 1 (by rw [F5]; rfl)
      obtain ⟨T6, l6, f6, v6⟩ := tag_pack (ps2 a (40 + t)) (wz : Int) 1 HL2.out (fun _ => True) (fun _ _ => trivial) 0 (by rw [F6]; rfl)
      have hT5 : T5 = [(5, 2)] := by
        match T5, l5, f5 with
        | [q], _, f => exact congrArg (fun x => [x]) (f 0 (by omega))
      subst hT5
      have ewz : ((a : Int) + 14) % 40 = (wz : Int) := by omega
      have Hz := Lib.hid ewz
      have K4 := Lib.hid f4
      have K5 := Lib.hid v4
      have K6 := Lib.hid v5
      have K7 := Lib.hid v6
      simp only [e1, e2, e3]
      clear e1 e2 e3 F1 F2 F3 F4 F5 F6 E1 E2 E3 hwz h4 l4 f4 v4 l5 f5 v5 l6 f6 v6 ewz
      clear Z1 Z2 Z3 T1 T2 T3 B1 B2 B3 V1 V2 V3
      go_upto_region 18 with (fail)
      simp only [Hz.out]
      obtain ⟨A2, y0, y1, y2, hC2⟩ := (HS2.out.up hgr).out
      have HV := Lib.hid (K5.out wc A2 hC2)
      have hC2h := Lib.hid hC2
      clear hC2
      go_wp2_with fail
      refine HV.out.mono ?_
      rintro e wd ⟨ad, cd, rfl, hrd, hgd⟩
      have hgr2 := hgr.trans hgd
      have Hrd := Lib.hid hrd
      clear hrd y0 y1 y2 HV
      go_wp2_with fail
      go_loopg [97] n4 (fun g v wr => ∃ j : Nat, v = .int .i64 j ∧ j + g = n4 ∧ wd.grownBy wr none)
      case atStart => exact ⟨0, rfl, by omega, World.grownBy.refl _ _⟩
      case round =>
        obtain ⟨j, rfl, hj, hgv⟩ := hrel
        have Hj := Lib.hid hj
        clear hj
        by_cases hlt : j < n4
        · obtain ⟨rb, ro, rfl, hrc⟩ := (rdT_up Hrd.out hgv).2 (by omega)
          obtain ⟨z0, z1, z2⟩ := hrc j hlt
          have hf := K4.out j hlt
          clear hrc
          generalize T4.getD j (0, 0) = tg at *
          obtain ⟨t1, t2⟩ := tg
          simp only at z0 z1 z2 hf
          rcases hb2 : (t2 == 2) with _ | _
          · clear hf
            go_wp2_with fail
            go_roundg (n4 - j - 1)
            case measure => have := Hj.out; omega
            case rel =>
              have := Hj.out
              exact ⟨j + 1, by go_num, by omega, grown_al hgv _⟩
          · have hq : (((40 : Int) + (t : Int)) / 8 != (wz : Int) / 8) = false := by
              have := hf (by simpa using hb2)
              have h2 : ((40 : Int) + (t : Int)) / 8 = (wz : Int) / 8 := by rw [← this]; omega
              simp [h2]
            clear hf
            go_wp2_with fail
            go_roundg (n4 - j - 1)
            case measure => have := Hj.out; omega
            case rel =>
              have := Hj.out
              exact ⟨j + 1, by go_num, by omega, grown_al hgv _⟩
        · have hgv2 := hgr2.trans hgv
          clear hgv Hrd K4
          obtain ⟨A3, y0, y1, y2, hC3⟩ := (HS2.out.up hgv2).out
          have HV := Lib.hid (K6.out wr A3 hC3)
          have e40 : ((40 + t : Nat) : Int) = 40 + (t : Int) := by omega
          rw [e40] at HV
          clear e40 hC3
          go_wp2_with fail
          refine HV.out.mono ?_
          rintro e we ⟨ae, ce, rfl, hre, hge⟩
          have Hre := Lib.hid hre
          have hgv3 := hgv2.trans hge
          clear hre y0 y1 y2 HV hge
          go_wp2_with fail
          refine (awake_any _).mono ?_
          rintro e wf ⟨rfl, hgf⟩
          have Hre2 := Lib.hid (rdT_up Hre.out hgf)
          have hgv4 := hgv3.trans hgf
          clear Hre hgf
          have hmin : min (u : Int) 4 = (u : Int) := by omega
          have hu4 : (u : Int) < 4 ∨ (u : Int) = 4 := by omega
          have HP := Lib.hid (plain_at (wf.alloc (.cells #[.int .i64 5, .int .i64 2, .int .u32 0] 50)) ae (some ⟨wf.heap.size, 0, none⟩) ce (rdT_up Hre2.out (World.grownBy_alloc _ _ none)) (litT _ 5 2))
          go_wp2_with fail
          refine HP.out.mono ?_
          rintro e wg ⟨rfl, hgg⟩
          have hgv5 := (grown_al hgv4 (.cells #[.int .i64 5, .int .i64 2, .int .u32 0] 50)).trans hgg
          clear HP hgg
          obtain ⟨A4, y0, y1, y2, hC4⟩ := (HS2.out.up hgv5).out
          have HV := Lib.hid (K7.out wg A4 hC4)
          clear hC4
          go_wp2_with fail
          refine HV.out.mono ?_
          rintro e wh ⟨ah, ch, rfl, _, hgh⟩
          go_wp2_with fail
          go_ret
          exact ⟨rfl, hg.trans (hgv5.trans hgh)⟩
end Go.Proofs.Ytfmkpkmhhlakoaa.Bk

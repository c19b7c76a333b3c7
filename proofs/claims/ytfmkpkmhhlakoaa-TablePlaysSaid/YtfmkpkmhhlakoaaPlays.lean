/- The walk of TablePlays: it returns true, and writes nothing that was there. -/
import Derived.Test.YtfmkpkmhhlakoaaTaw
import Derived.Test.YtfmkpkmhhlakoaaRefc
import Derived.Deep.DeepCutAuto
import Derived.Deep.CutBlock
import Derived.Deep.LoopGhost
import Derived.Deep.RegionHeld3
set_option linter.unusedVariables false
set_option linter.unusedSimpArgs false
namespace Go.Proofs.Ytfmkpkmhhlakoaa.Tab
open Go.RowKit Go.Proofs.Ytfmkpkmhhlakoaa.Mx

theorem least_ex (P : Nat → Prop) (m : Nat) (hm : P m) : ∃ n : Nat, P n ∧ ∀ k : Nat, k < n → ¬ P k := by
  induction m using Nat.strongRecOn with
  | _ m ih =>
    by_cases c : ∃ k : Nat, k < m ∧ P k
    · obtain ⟨k, hk, hp⟩ := c
      exact ih k hk hp
    · exact ⟨m, hm, fun k hk hp => c ⟨k, hk, hp⟩⟩
theorem ref_new (w : World) : RefAt (w.alloc (.cells (Array.replicate 48 (.int .i64 0)) 80)) w.heap.size (fun _ => z0) := by
  have hc : ∀ j, j < 48 → (w.alloc (.cells (Array.replicate 48 (.int .i64 0)) 80)).cell? ⟨w.heap.size, j, none⟩ = some (.int .i64 0) := fun j hj => by
    rw [World.cell?_alloc_new]
    simp [hj]
  refine ⟨by simp, fun i hi => hc _ (by omega), fun i hi => hc _ (by omega), fun i hi => hc _ (by omega), fun j => ?_⟩
  have := (MapKept.heap_alloc w (.cells (Array.replicate 48 (.int .i64 0)) 80)).1
  unfold World.frozen?
  rw [this]
  simp

/-- The program's table has what the reference's has. -/
def Corr (L : List (Int × Op)) (f : Int → Op) : Prop := ∀ j, mget L j = rget f j
theorem rget_upd (f : Int → Op) (k : Nat) (hk : k < 16) (o : Op) (j : Int) : rget (upd f k o) j = if j = k then (if o.no ≠ 0 then some o else none) else rget f j := by
  unfold rget upd
  by_cases e : j = k
  · subst e
    by_cases c : o.no = 0
    · simp [c]
    · simp [c]; omega
  · simp [e]
theorem Corr.put {L : List (Int × Op)} {f : Int → Op} (h : Corr L f) (k : Nat) (hk : k < 16) (o : Op) (ho : o.no ≠ 0) : Corr (mput L (k : Int) o) (upd f k o) := fun j => by
  rw [mget_mput, rget_upd f k hk, h j, if_pos ho]
theorem Corr.del {L : List (Int × Op)} {f : Int → Op} (h : Corr L f) (k : Nat) (hk : k < 16) : Corr (mdel L (k : Int)) (upd f k z0) := fun j => by
  rw [mget_mdel, rget_upd f k hk, h j]
  simp [z0]
theorem range_le : ∀ (n : Nat) {L : List (Int × Op)}, (L.map Prod.fst).Nodup → (∀ p ∈ L, 0 ≤ p.1 ∧ p.1 < n) → L.length ≤ n := by
  intro n
  induction n with
  | zero =>
    intro L _ h
    cases L with
    | nil => simp
    | cons p L => have := h p (by simp); omega
  | succ n ih =>
    intro L hn h
    have h1 := length_mdel hn (n : Int)
    have h2 := ih (nodup_mdel (n : Int) hn) (fun p hp => by
      have a := h p (List.mem_filter.1 hp).1
      have b := (List.mem_filter.1 hp).2
      simp at b
      omega)
    split at h1 <;> omega
theorem Corr.range {L : List (Int × Op)} {f : Int → Op} (h : Corr L f) (hn : (L.map Prod.fst).Nodup) : ∀ p ∈ L, 0 ≤ p.1 ∧ p.1 < (16 : Nat) := by
  intro p hp
  have := mget_of_mem hn (k := p.1) (v := p.2) hp
  rw [h] at this
  obtain ⟨k, e, hk, _⟩ := rget_some this
  omega
theorem Corr.len {L : List (Int × Op)} {f : Int → Op} (h : Corr L f) (hn : (L.map Prod.fst).Nodup) : L.length ≤ 16 := range_le 16 hn (h.range hn)
theorem Corr.full {L : List (Int × Op)} {f : Int → Op} (h : Corr L f) (hn : (L.map Prod.fst).Nodup) (hl : 16 ≤ L.length) (k : Nat) (hk : k < 16) : (f k).no ≠ 0 := by
  intro hz
  have hm : mget L (k : Int) = none := by rw [h]; unfold rget; rw [if_neg (by simp [hz])]
  have := range_le 16 (L := ((k : Int), z0) :: L) (by
    rw [List.map_cons, List.nodup_cons]
    refine ⟨fun hx => ?_, hn⟩
    obtain ⟨p, hp, e⟩ := List.mem_map.1 hx
    exact mget_none hm p hp e) (fun p hp => by
    rcases List.mem_cons.1 hp with rfl | hp
    · exact ⟨by omega, by show (k : Int) < (16 : Nat); omega⟩
    · exact h.range hn p hp)
  simp at this
  omega
theorem Corr.room {L : List (Int × Op)} {f : Int → Op} (h : Corr L f) (hn : (L.map Prod.fst).Nodup) (hl : L.length < 16) : ∃ m : Nat, m < 16 ∧ (f m).no = 0 ∧ (∀ k : Nat, k < m → (f k).no ≠ 0) ∧ least L = m := by
  have hex : ∃ m : Nat, m < 16 ∧ (f m).no = 0 := by
    refine Classical.byContradiction fun hc => ?_
    have : 16 ≤ L.length := Tab.room hn 16 (fun j hj => by
      rw [h]
      unfold rget
      rw [if_pos ⟨by omega, by omega, fun e => hc ⟨j, hj, e⟩⟩]
      rfl)
    omega
  obtain ⟨m, ⟨hm, hz⟩, hmin⟩ : ∃ m : Nat, (m < 16 ∧ (f m).no = 0) ∧ ∀ k : Nat, k < m → ¬ (k < 16 ∧ (f k).no = 0) := by obtain ⟨m, hm⟩ := hex; exact least_ex _ m hm
  have hlow : ∀ k : Nat, k < m → (f k).no ≠ 0 := fun k hk e => hmin k hk ⟨by omega, e⟩
  refine ⟨m, hm, hz, hlow, least_is hn m ?_ (fun j hj => ?_)⟩
  · rw [h]; unfold rget; rw [if_neg (by simp [hz])]
  · rw [h]; unfold rget; rw [if_pos ⟨by omega, by omega, hlow j hj⟩]; rfl
theorem Corr.nums {L : List (Int × Op)} {f : Int → Op} (h : Corr L f) (hn : (L.map Prod.fst).Nodup) {zs : List Int} (hu : Upto f 16 zs) : nums L = zs := by
  rw [nums_uniq]
  refine Ints.uniq_eq hu.1 (fun x => (hu.2 x).trans ⟨fun ⟨h1, j, hj, e⟩ => ?_, fun hx => ?_⟩)
  · have : mget L (j : Int) = some (f j) := by rw [h]; unfold rget; rw [if_pos ⟨by omega, by omega, by rw [e]; exact h1⟩]
    exact List.mem_map.2 ⟨_, mget_mem this, e⟩
  · obtain ⟨p, hp, e⟩ := List.mem_map.1 hx
    have := mget_of_mem hn (k := p.1) (v := p.2) hp
    rw [h] at this
    obtain ⟨k, e1, hk, h0, e2⟩ := rget_some this
    rw [← e, ← e2]
    exact ⟨h0, k, hk, rfl⟩

/-- What came in: a slice of structs of five ints. -/
def OpsAt (w : World) (a : Option Addr) (n : Nat) (F : Nat → Nat → Int) : Prop :=
  n ≠ 0 → ∃ b off, a = some ⟨b, off, none⟩ ∧ ∀ i, i < n → ∀ j, j < 5 → w.cell? ⟨b, off + i * 5 + j, none⟩ = some (.int .i64 (F i j)) ∧ (Lit.int .i64 (F i j)).wf = true

theorem At.keptR {w w' : World} {tb mb : Nat} {L : List (Int × Op)} {row : Option Nat} (h : At w tb mb L) (hg : w.grownBy w' row) (h1 : some tb ≠ row) (h2 : some mb ≠ row) : At w' tb mb L :=
  ⟨(hg.block tb h.lt h1).trans h.cell, h.map.kept hg h2⟩
def Both (w w' : World) (v : Value) (e : Ending) (p : World → Prop) (b : Nat) : Prop := e = .returned v ∧ p w' ∧ w.grownBy w' (some b)

theorem move_both (tb mb rb : Nat) (L : List (Int × Op)) (f : Int → Op) (hc : Corr L f) (fd pos : Int) (hw : (Lit.int .i64 fd).wf = true) : ∃ (E : Int) (L' : List (Int × Op)) (f' : Int → Op), Corr L' f' ∧
    (∀ w, At w tb mb L → Calls Try.prog 15 #[.pointer (some ⟨tb, 0, none⟩), .int .i64 fd, .int .i64 pos] w fun e w' => Both w w' (.int .i64 E) e (fun x => At x tb mb L') mb) ∧
    (∀ w, RefAt w rb f → Calls Try.prog 38 #[.pointer (some ⟨rb, 0, none⟩), .int .i64 fd, .int .i64 pos] w fun e w' => Both w w' (.int .i64 E) e (fun x => RefAt x rb f') rb) := by
  by_cases hb : rget f fd = none ∨ pos < 0
  · refine ⟨moveE L fd pos, moveL L fd pos, f, ?_, fun w h => (move_any w tb mb L fd pos hw h).mono fun e w' ⟨h1, h2, h3⟩ => ⟨h1, h2, h3⟩, fun w h => (rmove_bad w rb f fd pos h hb).mono fun e w' ⟨h1, h2⟩ => ⟨?_, h.kept h2 (by simp), h2.but _⟩⟩
    · intro j
      rw [← hc j]
      unfold moveL
      rw [hc fd]
      rcases hr : rget f fd with _ | o
      · rfl
      · rcases hb with hb | hb
        · rw [hr] at hb; cases hb
        · simp [hb]
    · rw [h1]
      unfold moveE
      rw [hc fd]
      rcases hr : rget f fd with _ | o
      · simp
      · rcases hb with hb | hb
        · rw [hr] at hb; cases hb
        · simp [hb]
  · rcases hr : rget f fd with _ | o
    · exact absurd (.inl hr) hb
    · obtain ⟨k, rfl, hk, h0, rfl⟩ := rget_some hr
      have hp : ¬ pos < 0 := fun h => hb (.inr h)
      have hm : mget L (k : Int) = some (f k) := (hc _).trans hr
      refine ⟨0, mput L (k : Int) { f k with pos := pos }, upd f k { f k with pos := pos }, hc.put k hk _ h0, fun w h => (move_any w tb mb L k pos hw h).mono fun e w' ⟨h1, h2, h3⟩ => ⟨?_, ?_, h3⟩, fun w h => (rmove_in w rb f k pos hk h h0 hp).mono fun e w' ⟨h1, h2, h3⟩ => ⟨h1, h2, h3⟩⟩
      · rw [h1]; simp [moveE, hm, hp]
      · have : moveL L k pos = mput L (k : Int) { f k with pos := pos } := by simp [moveL, hm, hp]
        rw [← this]; exact h2

theorem close_both (tb mb rb : Nat) (L : List (Int × Op)) (f : Int → Op) (hc : Corr L f) (hn : (L.map Prod.fst).Nodup) (fd : Int) (hw : (Lit.int .i64 fd).wf = true) : ∃ (a : Int) (b : Bool) (c : Int) (L' : List (Int × Op)) (f' : Int → Op), Corr L' f' ∧
    (∀ w, At w tb mb L → Calls Try.prog 39 #[.pointer (some ⟨tb, 0, none⟩), .int .i64 fd] w fun e w' => Both w w' (.tuple #[.int .i64 a, .bool b, .int .i64 c]) e (fun x => At x tb mb L') mb) ∧
    (∀ w, RefAt w rb f → Calls Try.prog 40 #[.pointer (some ⟨rb, 0, none⟩), .int .i64 fd] w fun e w' => Both w w' (.tuple #[.int .i64 a, .bool b, .int .i64 c]) e (fun x => RefAt x rb f') rb) := by
  rcases hr : rget f fd with _ | o
  · exact ⟨0, false, 19, L, f, hc, fun w h => (close_none w tb mb L fd hw h ((hc fd).trans hr)).mono fun e w' ⟨h1, h2, h3⟩ => ⟨h1, h2, h3.but _⟩, fun w h => (rclose_none w rb f fd h hr).mono fun e w' ⟨h1, h2⟩ => ⟨h1, h.kept h2 (by simp), h2.but _⟩⟩
  · obtain ⟨k, rfl, hk, h0, rfl⟩ := rget_some hr
    have hm : mget L (k : Int) = some (f k) := (hc _).trans hr
    have hl := hc.len hn
    refine ⟨(f k).no, !decide ((f k).no ∈ nums (mdel L (k : Int))), 0, mdel L (k : Int), upd f k z0, hc.del k hk, fun w h => (close_some w tb mb L k hw h (f k) hm (by omega)).mono fun e w' ⟨h1, h2, h3⟩ => ⟨h1, h2, h3⟩, fun w h => (rclose_some w rb f k hk h h0).mono fun e w' ⟨zs, hu, h1, h2, h3⟩ => ⟨?_, h2, h3⟩⟩
    rw [h1, (hc.del k hk).nums (nodup_mdel _ hn) hu]

theorem open_both (tb mb rb : Nat) (L : List (Int × Op)) (f : Int → Op) (hc : Corr L f) (hn : (L.map Prod.fst).Nodup) (no fl : Int) (hno : no ≠ 0) : ∃ (a c : Int) (L' : List (Int × Op)) (f' : Int → Op), Corr L' f' ∧
    (∀ w, At w tb mb L → Calls Try.prog 14 #[.pointer (some ⟨tb, 0, none⟩), .int .i64 no, .int .i64 fl] w fun e w' => Both w w' (.tuple #[.int .i64 a, .int .i64 c]) e (fun x => At x tb mb L') mb) ∧
    (∀ w, RefAt w rb f → Calls Try.prog 41 #[.pointer (some ⟨rb, 0, none⟩), .int .i64 no, .int .i64 fl] w fun e w' => Both w w' (.tuple #[.int .i64 a, .int .i64 c]) e (fun x => RefAt x rb f') rb) := by
  have hid : ∀ (w : World) (b : Nat), w.grownBy w (some b) := fun w b => ⟨rfl, rfl, rfl, Nat.le_refl _, fun _ _ _ => rfl⟩
  by_cases hl : L.length < 16
  · obtain ⟨m, hm, hz, hall, hle⟩ := hc.room hn hl
    refine ⟨m, 0, mput L (m : Int) ⟨no, fl, 0⟩, upd f m ⟨no, fl, 0⟩, hc.put m hm _ hno, fun w h => (open_room w tb mb L no fl h hl).mono fun e w' ⟨h1, h2, h3⟩ => ⟨?_, ?_, h3⟩, fun w h => (ropen_room w rb f no fl h m hm hz hall).mono fun e w' ⟨h1, h2, h3⟩ => ⟨h1, h2, h3⟩⟩
    · rw [h1, hle]
    · rw [← hle]; exact h2
  · exact ⟨0, 20, L, f, hc, fun w h => (open_full w tb mb L no fl h (by omega)).mono fun e w' ⟨h1, h2⟩ => ⟨h1, by rw [← h2]; exact h, by rw [← h2]; exact hid _ _⟩, fun w h => (ropen_full w rb f no fl h (fun k hk => hc.full hn (by omega) k hk)).mono fun e w' ⟨h1, h2⟩ => ⟨h1, by rw [← h2]; exact h, by rw [← h2]; exact hid _ _⟩⟩

theorem rget_any (w : World) (rb : Nat) (f : Int → Op) (fd : Int) (h : RefAt w rb f) :
    Calls Try.prog 44 #[.pointer (some ⟨rb, 0, none⟩), .int .i64 fd] w fun e w' =>
      e = .returned (.tuple #[.agg #[.int .i64 ((rget f fd).getD z0).no, .int .i64 ((rget f fd).getD z0).fl, .int .i64 ((rget f fd).getD z0).pos], .bool (rget f fd).isSome]) ∧ w.grownBy w' none := by
  rcases hr : rget f fd with _ | o
  · exact rget_none w rb f fd h hr
  · obtain ⟨k, rfl, hk, h0, rfl⟩ := rget_some hr
    have := rget_in w rb f k hk h
    rw [if_neg h0] at this
    exact this

set_option maxHeartbeats 8000000 in
set_option maxRecDepth 100000 in
theorem plays_any (a0 : Option Addr) (len0 cap0 : Nat) (F : Nat → Nat → Int) (w : World) (hlen : len0 ≤ 9223372036854775807) (hops : OpsAt w a0 len0 F) :
    Calls Try.prog 8 #[.slice a0 len0 cap0] w fun e w' => e = .returned (.bool true) ∧ w.grownBy w' none := by
  go_enter Try.func8, Try.ntmps8
  go_wp2_with fail
  refine (new_any w).mono ?_
  rintro e w1 ⟨tb, mb, rfl, h1, hg1, ht, hm⟩
  go_wp2_with fail
  refine (awake_any _).mono ?_
  rintro e w2 ⟨rfl, hg2'⟩
  have hg2 : (w1.alloc (.cells (Array.replicate 48 (.int .i64 0)) 80)).grownBy w2 none := hg2'
  clear hg2'
  have h2 := (h1.alloc (.cells (Array.replicate 48 (.int .i64 0)) 80)).kept hg2
  have hR := (ref_new w1).kept hg2 (by simp)
  have hg12 := (hg1.trans (World.grownBy_alloc w1 (.cells (Array.replicate 48 (.int .i64 0)) 80) none)).trans hg2
  have hrw : w.heap.size ≤ w1.heap.size := hg1.size
  have hne : w1.heap.size ≠ mb ∧ w1.heap.size ≠ tb := by have := h1.lt; have := h1.map.lt; omega
  clear hg2 hg1 h1
  generalize w1.heap.size = rb at *
  go_wp2
  have hnx : rb ≠ mb := hne.1
  have hnt : rb ≠ tb := hne.2
  clear hne
  go_loopg [5] 100 (fun g i wr => ∃ (i0 : Nat) (L : List (Int × Op)) (f : Int → Op), i = .int .i64 i0 ∧ i0 + g = 100 ∧ At wr tb mb L ∧ RefAt wr rb f ∧ Corr L f ∧ w.grownBy wr none)
  case atStart => exact ⟨0, [], fun _ => z0, rfl, by omega, h2, hR, fun j => by rw [mget_nil]; unfold rget; simp [z0], hg12⟩
  case round =>
    clear h2 hR hg12
    obtain ⟨i0, L, f, rfl, hi, hA, hRf, hcorr, hg⟩ := hrel
    have hi0 : i0 ≤ 100 := by omega
    have Hi := Lib.hid hi
    have Hc := Lib.hid hcorr
    clear hcorr hi
    by_cases hlt : i0 < len0 ∧ i0 < 100
    · obtain ⟨hl1, hl2⟩ := hlt
      obtain ⟨b, off, rfl, hcells⟩ := hops (by omega)
      have hcw := hcells i0 hl1
      have x0 : wr.cell? ⟨b, off + i0 * 5, none⟩ = some (.int .i64 (F i0 0)) := hg.cell (hcw 0 (by omega)).1 (by simp)
      have x1 := hg.cell (hcw 1 (by omega)).1 (by simp)
      have x2 := hg.cell (hcw 2 (by omega)).1 (by simp)
      have x3 := hg.cell (hcw 3 (by omega)).1 (by simp)
      have x4 := hg.cell (hcw 4 (by omega)).1 (by simp)
      have hwf := (hcw 3 (by omega)).2
      clear hcells hcw
      generalize F i0 0 = K at *
      generalize F i0 1 = No at *
      generalize F i0 2 = Fl at *
      generalize F i0 3 = Fd at *
      generalize F i0 4 = Po at *
      have h1 := hA.alloc (.cells #[.int .i64 K, .int .i64 No, .int .i64 Fl, .int .i64 Fd, .int .i64 Po] 82)
      have hR1 := hRf.kept (World.grownBy_alloc wr (.cells #[.int .i64 K, .int .i64 No, .int .i64 Fl, .int .i64 Fd, .int .i64 Po] 82) none) (by simp)
      have hg1 := hg.trans (World.grownBy_alloc wr (.cells #[.int .i64 K, .int .i64 No, .int .i64 Fl, .int .i64 Fd, .int .i64 Po] 82) none)
      have hb0 : (wr.alloc (.cells #[.int .i64 K, .int .i64 No, .int .i64 Fl, .int .i64 Fd, .int .i64 Po] 82)).heap[wr.heap.size]? = some (.cells #[.int .i64 K, .int .i64 No, .int .i64 Fl, .int .i64 Fd, .int .i64 Po] 82 (0, 0)) := (MapKept.heap_alloc _ _).1
      have hmb1 := hA.map.lt
      have htb1 := hA.lt
      have hrb1 := hRf.lt
      obtain ⟨q, hq, hq9⟩ : ∃ q : Nat, wrap64 ((IntKind.u64.wrap No).tmod 9) = (q : Int) ∧ q < 9 := mod_small No 9 (by omega) (by omega)
      go_upto_block 2 with (fail)
      clear hq
      generalize wr.alloc (.cells #[.int .i64 K, .int .i64 No, .int .i64 Fl, .int .i64 Fd, .int .i64 Po] 82) = w3 at *
      have hob : wr.heap.size ≠ mb := by omega
      have hor : wr.heap.size ≠ rb := by omega
      have hwo : w.heap.size ≤ wr.heap.size := hg.size
      generalize wr.heap.size = ob at *
      clear x0 x1 x2 x3 x4 hg hA hRf
      have hnod := h1.nodup
      go_cut [8] (fun v8 wc => v8 = .bool true ∧ ∃ (L' : List (Int × Op)) (f' : Int → Op), At wc tb mb L' ∧ RefAt wc rb f' ∧ Corr L' f' ∧ w.grownBy wc none)
      case first =>
        have b0 : w3.cell? ⟨ob, 0, none⟩ = some (.int .i64 K) := by simp [World.cell?, hb0]
        have b1 : w3.cell? ⟨ob, 1, none⟩ = some (.int .i64 No) := by simp [World.cell?, hb0]
        have b2 : w3.cell? ⟨ob, 2, none⟩ = some (.int .i64 Fl) := by simp [World.cell?, hb0]
        have b3 : w3.cell? ⟨ob, 3, none⟩ = some (.int .i64 Fd) := by simp [World.cell?, hb0]
        have b4 : w3.cell? ⟨ob, 4, none⟩ = some (.int .i64 Po) := by simp [World.cell?, hb0]
        clear hb0
        by_cases hK1 : K = 1
        · obtain ⟨E, L', f', hc', hM, hRM⟩ := move_both tb mb rb L f Hc.out Fd Po hwf
          have HM := Lib.hid hM
          have HRM := Lib.hid hRM
          have Hc' := Lib.hid hc'
          clear hM hRM hc'
          subst hK1
          go_wp2_with fail
          go_region_held3 (fun W => W.cell? ⟨ob, 3, none⟩ = some (.int .i64 Fd) ∧ W.cell? ⟨ob, 4, none⟩ = some (.int .i64 Po))
            (first | exact ⟨e3, e4⟩ | exact ⟨d3, d4⟩ | exact ⟨b3, b4⟩ | go_keep)
            (first
            | (go_at_call 15; refine (HM.out _ (by exact ⟨h1.cell, h1.map⟩)).mono ?_; rintro e w4 ⟨rfl, hA4, hg4⟩; have d3 := hg4.cell (a := ⟨ob, 3, none⟩) b3 (by simp [hob]); have d4 := hg4.cell (a := ⟨ob, 4, none⟩) b4 (by simp [hob]); have hR4 := RefAt.kept (w := w3.drew) (rb := rb) (f := f) (by exact ⟨hR1.lt, hR1.c0, hR1.c1, hR1.c2, hR1.fr⟩) hg4 (by simp [hnx]); have hg5 := (show w.grownBy w3.drew none from ⟨hg1.os, hg1.tape, hg1.output, hg1.size, hg1.block⟩).andThen hg4 (fun j hj => .inl (by have := Option.some.inj hj; omega)); clear hg4)
            | (go_at_call 38; refine (HRM.out _ hR4).mono ?_; rintro e w5 ⟨rfl, hR5, hg6⟩; have e3 := hg6.cell (a := ⟨ob, 3, none⟩) d3 (by simp [hor]); have e4 := hg6.cell (a := ⟨ob, 4, none⟩) d4 (by simp [hor]); have hA5 := hA4.keptR hg6 (by simp [Ne.symm hnt]) (by simp [Ne.symm hnx]); have hg7 := hg5.andThen hg6 (fun j hj => .inl (by have := Option.some.inj hj; omega)); clear hg6 hA4 hR4 hg5))
          go_wp2_with fail
          go_meet
          case rel => exact ⟨by simp, L', f', ‹At _ tb mb L'›, ‹RefAt _ rb f'›, Hc'.out, by assumption⟩
        · have hK1b : (K == 1) = false := by simpa using hK1
          clear hK1
          by_cases hK2 : K = 2
          · obtain ⟨A1, B1, C1, L', f', hc', hM, hRM⟩ := close_both tb mb rb L f Hc.out hnod Fd hwf
            have HM := Lib.hid hM
            have HRM := Lib.hid hRM
            have Hc' := Lib.hid hc'
            clear hM hRM hc'
            subst hK2
            go_wp2_with fail
            refine (HM.out _ h1).mono ?_
            rintro e w4 ⟨rfl, hA4, hg4⟩
            have d3 := hg4.cell (a := ⟨ob, 3, none⟩) b3 (by simp [hob])
            have hR4 := hR1.kept hg4 (by simp [hnx])
            have hg5 := hg1.andThen hg4 (fun j hj => .inl (by have := Option.some.inj hj; omega))
            clear hg4
            go_wp2_with fail
            refine (HRM.out _ hR4).mono ?_
            rintro e w5 ⟨rfl, hR5, hg6⟩
            have hA5 := hA4.keptR hg6 (by simp [Ne.symm hnt]) (by simp [Ne.symm hnx])
            have hg7 := hg5.andThen hg6 (fun j hj => .inl (by have := Option.some.inj hj; omega))
            clear hg6 hA4 hR4 hg5 d3
            go_wp2_with fail
            go_meet
            case rel => exact ⟨by simp, L', f', hA5, hR5, Hc'.out, hg7⟩
          · have hK2b : (K == 2) = false := by simpa using hK2
            clear hK2
            obtain ⟨A1, C1, L', f', hc', hM, hRM⟩ := open_both tb mb rb L f Hc.out hnod (1 + (q : Int)) Fl (by omega)
            have HM := Lib.hid hM
            have HRM := Lib.hid hRM
            have Hc' := Lib.hid hc'
            clear hM hRM hc'
            go_wp2_with fail
            refine (HM.out _ h1).mono ?_
            rintro e w4 ⟨rfl, hA4, hg4⟩
            have d2 := hg4.cell (a := ⟨ob, 2, none⟩) b2 (by simp [hob])
            have hR4 := hR1.kept hg4 (by simp [hnx])
            have hg5 := hg1.andThen hg4 (fun j hj => .inl (by have := Option.some.inj hj; omega))
            clear hg4
            go_wp2_with fail
            refine (HRM.out _ hR4).mono ?_
            rintro e w5 ⟨rfl, hR5, hg6⟩
            have hA5 := hA4.keptR hg6 (by simp [Ne.symm hnt]) (by simp [Ne.symm hnx])
            have hg7 := hg5.andThen hg6 (fun j hj => .inl (by have := Option.some.inj hj; omega))
            clear hg6 hA4 hR4 hg5 d2
            go_wp2_with fail
            go_meet
            case rel => exact ⟨by simp, L', f', hA5, hR5, Hc'.out, hg7⟩
      case rest =>
        obtain ⟨rfl, L2, f2, hA2, hR2, hc2, hg2⟩ := hcut
        clear h1 hR1 hg1 hb0 hnod Hc
        have Hc2 := Lib.hid hc2
        have hl2 := hc2.len hA2.nodup
        clear hc2
        go_wp2_with fail
        refine (numbers_any _ tb mb L2 hA2 (by omega)).mono ?_
        rintro e w4 ⟨v, rfl, hv, hg4⟩
        have hA4 := hA2.kept hg4
        have hR4 := hR2.kept hg4 (by simp)
        have hg5 := hg2.trans hg4
        go_wp2_with fail
        refine (rnumbers_any w4 rb f2 hR4).mono ?_
        rintro e w5 ⟨v2, zs, rfl, hu, hzl, hv2, hg6⟩
        have hnz := Hc2.out.nums hA4.nodup hu
        obtain ⟨av, cv, rfl, hrd⟩ := Ints.rd_own hv
        obtain ⟨av2, cv2, rfl, hrd2⟩ := Ints.rd_own hv2
        have hlz : (nums L2).length ≤ 16 := by rw [hnz]; exact hzl
        have hP := Ints.plain_any av av2 (nums L2).length cv zs.length cv2 (nums L2) zs w5 (hrd.grown hg6 (by simp)) hrd2 (by omega) (by omega)
        have hA6 := hA4.kept hg6
        have hR6 := hR4.kept hg6 (by simp)
        have hg7 := hg5.trans hg6
        have hdec : decide (nums L2 = zs) = true := by simp [hnz]
        rw [hdec] at hP
        have HP := Lib.hid hP
        clear hP hdec hnz hu hv hv2 hrd hrd2 hg6 hg5 hg4 hA4 hR4 hA2 hR2 hg2
        go_wp2_with fail
        refine HP.out.mono ?_
        rintro e w6 ⟨rfl, q6, rfl⟩
        have hA7 : At (w5.drewN q6) tb mb L2 := ⟨hA6.cell, hA6.map⟩
        have hR7 : RefAt (w5.drewN q6) rb f2 := ⟨hR6.lt, hR6.c0, hR6.c1, hR6.c2, hR6.fr⟩
        have hg8 : w.grownBy (w5.drewN q6) none := ⟨hg7.os, hg7.tape, hg7.output, hg7.size, hg7.block⟩
        generalize w5.drewN q6 = w7 at *
        clear hA6 hR6 hg7 HP
        go_wp2_with fail
        go_loopg [19] 18 (fun g2 k wi => ∃ n : Nat, k = .int .i64 ((n : Int) - 1) ∧ n + g2 = 18 ∧ At wi tb mb L2 ∧ RefAt wi rb f2 ∧ w.grownBy wi none)
        case atStart => exact ⟨0, by simp, by omega, hA7, hR7, hg8⟩
        case round =>
          clear hA7 hR7 hg8
          obtain ⟨n, rfl, hng, hA8, hR8, hg9⟩ := hrel
          have hn18 : n ≤ 18 := by omega
          have Hng := Lib.hid hng
          clear hng
          by_cases hlast : n < 18
          · have hG := get_any _ tb mb L2 ((n : Int) - 1) (WalkArith.wf_i64 (by omega)) hA8
            have hRG := fun wx hx => rget_any wx rb f2 ((n : Int) - 1) hx
            rw [Hc2.out] at hG
            generalize (rget f2 ((n : Int) - 1)).getD z0 = O at hG hRG
            generalize (rget f2 ((n : Int) - 1)).isSome = B at hG hRG
            have HG := Lib.hid hG
            have HRG := Lib.hid hRG
            clear hG hRG
            go_wp2_with fail
            refine HG.out.mono ?_
            rintro e w9 ⟨rfl, hg10⟩
            have hA9 := (hA8.kept hg10).alloc (.cells #[.int .i64 O.no, .int .i64 O.fl, .int .i64 O.pos] 32)
            have hR9 := (hR8.kept hg10 (by simp)).kept (World.grownBy_alloc w9 (.cells #[.int .i64 O.no, .int .i64 O.fl, .int .i64 O.pos] 32) none) (by simp)
            have hg11 := (hg9.trans hg10).trans (World.grownBy_alloc w9 (.cells #[.int .i64 O.no, .int .i64 O.fl, .int .i64 O.pos] 32) none)
            have hb9 : (w9.alloc (.cells #[.int .i64 O.no, .int .i64 O.fl, .int .i64 O.pos] 32)).heap[w9.heap.size]? = some (.cells #[.int .i64 O.no, .int .i64 O.fl, .int .i64 O.pos] 32 (0, 0)) := (MapKept.heap_alloc _ _).1
            have hs9 : w9.heap.size < (w9.alloc (.cells #[.int .i64 O.no, .int .i64 O.fl, .int .i64 O.pos] 32)).heap.size := by simp
            clear hg10 hg9 hA8 hR8
            go_wp2_with fail
            refine (HRG.out _ hR9).mono ?_
            rintro e w10 ⟨rfl, hg12⟩
            have hb10 := (hg12.block w9.heap.size hs9 (by simp)).trans hb9
            have hlt10 : w9.heap.size < w10.heap.size := by have := hg12.size; omega
            have hA10 := (hA9.kept hg12).alloc (.cells #[.int .i64 O.no, .int .i64 O.fl, .int .i64 O.pos] 32)
            have hR10 := (hR9.kept hg12 (by simp)).kept (World.grownBy_alloc w10 (.cells #[.int .i64 O.no, .int .i64 O.fl, .int .i64 O.pos] 32) none) (by simp)
            have hg13 := (hg11.trans hg12).trans (World.grownBy_alloc w10 (.cells #[.int .i64 O.no, .int .i64 O.fl, .int .i64 O.pos] 32) none)
            have y0 : w10.cell? ⟨w9.heap.size, 0, none⟩ = some (.int .i64 O.no) := by simp [World.cell?, hb10]
            have y1 : w10.cell? ⟨w9.heap.size, 1, none⟩ = some (.int .i64 O.fl) := by simp [World.cell?, hb10]
            have y2 : w10.cell? ⟨w9.heap.size, 2, none⟩ = some (.int .i64 O.pos) := by simp [World.cell?, hb10]
            clear hg12 hg11 hA9 hR9 hb9 hb10 hs9
            go_wp2_with fail
            go_roundg (17 - n)
            case measure => have := Hng.out; omega
            case rel => exact ⟨n + 1, by have e : ((n + 1 : Nat) : Int) - 1 = (n : Int) := (by omega); rw [e], by have := Hng.out; omega, hA10, hR10, hg13⟩
          · go_wp2_with fail
            go_roundg (99 - i0)
            case measure => have := Hi.out; omega
            case rel => exact ⟨i0 + 1, L2, f2, by go_num, by have := Hi.out; omega, hA8, hR8, Hc2.out, hg9⟩
    · have hex : ∀ Q : Prop, (¬ i0 < len0 → Q) → (i0 < len0 → ¬ i0 < 100 → Q) → Q := fun Q h1 h2 => by
        by_cases c : i0 < len0
        · exact h2 c (fun h => hlt ⟨c, h⟩)
        · exact h1 c
      clear hlt
      refine hex _ (fun hx => ?_) (fun hx hy => ?_)
      all_goals
        go_wp2_with fail
        go_ret
        exact ⟨rfl, hg⟩
end Go.Proofs.Ytfmkpkmhhlakoaa.Tab

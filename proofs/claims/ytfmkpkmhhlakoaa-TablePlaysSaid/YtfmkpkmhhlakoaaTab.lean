/- What each method of the table comes to, over a map kept as a list. -/
import Derived.Test.YtfmkpkmhhlakoaaKeys
import Derived.Test.YtfmkpkmhhlakoaaInts
import Derived.WalkKit
import Derived.WalkSpells
import Derived.StillTailTactics
import Derived.Lib.Hide
import Derived.Deep.RegionWith
import Derived.Lib.SlicesCompact
import Derived.WalkLawsBesides
set_option linter.unusedVariables false
set_option linter.unusedSimpArgs false
namespace Go.Proofs.Ytfmkpkmhhlakoaa.Tab
open Go.RowKit Go.Proofs.Ytfmkpkmhhlakoaa.Mx

structure Op where
  no : Int
  fl : Int
  pos : Int
def opv (o : Op) : Value := .agg #[.int .i64 o.no, .int .i64 o.fl, .int .i64 o.pos]
def z0 : Op := ⟨0, 0, 0⟩
theorem zeroOpen (w : World) : (zeroValue 32).run Try.prog w = .ok (.agg #[.int .i64 0, .int .i64 0, .int .i64 0]) w := by kernel_rfl

/-- Block tb is a table over the map in block mb, which has what L says. -/
structure At (w : World) (tb mb : Nat) (L : List (Int × Op)) : Prop where
  cell : w.heap[tb]? = some (.cells #[.map (some mb)] 99 (0, 0))
  map : MapAt kv w mb (mv opv L)

theorem At.lt {w : World} {tb mb : Nat} {L : List (Int × Op)} (h : At w tb mb L) : tb < w.heap.size := (Array.getElem?_eq_some_iff.1 h.cell).1
theorem mget_val (L : List (Int × Op)) (k : Int) : (mget (mv opv L) k).getD (Value.agg #[.int .i64 0, .int .i64 0, .int .i64 0]) = Value.agg #[.int .i64 ((mget L k).getD z0).no, .int .i64 ((mget L k).getD z0).fl, .int .i64 ((mget L k).getD z0).pos] := by
  rw [mget_mv]
  cases mget L k <;> rfl
theorem mget_is (L : List (Int × Op)) (k : Int) : (mget (mv opv L) k).isSome = (mget L k).isSome := by
  rw [mget_mv]
  cases mget L k <;> rfl

theorem new_any (w : World) : Calls Try.prog 12 #[] w fun e w' => ∃ tb mb, e = .returned (.pointer (some ⟨tb, 0, none⟩)) ∧ At w' tb mb [] ∧ w.grownBy w' none ∧ w.heap.size ≤ tb ∧ w.heap.size ≤ mb := by
  have hmm := @run_makeMap Try.prog
  go_enter Try.func12, Try.ntmps12
  go_wp2
  go_ret
  refine ⟨_, _, rfl, ⟨by have := (MapKept.heap_alloc (w.alloc (.map #[] 0)) (.cells #[.map (some w.heap.size)] 99)).1; simpa using this, (MapAt.made kv w).alloc _⟩, (World.grownBy_alloc _ _ none).trans (World.grownBy_alloc _ _ none), by simp, Nat.le_refl _⟩

theorem get_any (w : World) (tb mb : Nat) (L : List (Int × Op)) (fd : Int) (hw : (Lit.int .i64 fd).wf = true) (h : At w tb mb L) :
    Calls Try.prog 16 #[.pointer (some ⟨tb, 0, none⟩), .int .i64 fd] w fun e w' =>
      e = .returned (.tuple #[.agg #[.int .i64 ((mget L fd).getD z0).no, .int .i64 ((mget L fd).getD z0).fl, .int .i64 ((mget L fd).getD z0).pos], .bool (mget L fd).isSome]) ∧ w.grownBy w' none := by
  have hc : w.cell? ⟨tb, 0, none⟩ = some (.map (some mb)) := cell_of_one h.cell
  have htb := h.lt
  go_enter Try.func16, Try.ntmps16
  go_wp2_with (first
    | (at_lookup; refine wpList_look _ rfl _ _ 97 true rfl _ 32 kv key_number Try.underlying97 _ (zeroOpen _) mb (mv opv L) rfl (h.map.alloc _) fd rfl hw _ _ (mget_val L fd) (mget_is L fd) ?_)
    | go_in)
  refine bodyPost_ret (v := .tuple #[.agg #[.int .i64 ((mget L fd).getD z0).no, .int .i64 ((mget L fd).getD z0).fl, .int .i64 ((mget L fd).getD z0).pos], .bool (mget L fd).isSome]) (by simp [results, Try.results16, go_sem]) rfl ⟨rfl, ?_⟩
  exact (World.grownBy_alloc _ _ none).trans (World.grownBy_alloc _ _ none)
theorem At.grown {w w' : World} {tb mb : Nat} {L L' : List (Int × Op)} (h : At w tb mb L) (hm : MapAt kv w' mb (mv opv L')) (hg : w.grownBy w' (some mb)) : At w' tb mb L' :=
  ⟨(hg.block tb h.lt (by
    intro e
    have e : tb = mb := by simpa using e
    subst e
    obtain ⟨es, clock, h1, _⟩ := h.map
    rw [h.cell] at h1
    cases h1)).trans h.cell, hm⟩
theorem At.ne {w : World} {tb mb : Nat} {L : List (Int × Op)} (h : At w tb mb L) : tb ≠ mb := by
  rintro rfl
  obtain ⟨es, clock, h1, _⟩ := h.map
  rw [h.cell] at h1
  cases h1
theorem At.kept {w w' : World} {tb mb : Nat} {L : List (Int × Op)} (h : At w tb mb L) (hg : w.grownBy w' none) : At w' tb mb L :=
  ⟨(hg.block tb h.lt (by simp)).trans h.cell, h.map.kept hg (by simp)⟩
theorem At.alloc {w : World} {tb mb : Nat} {L : List (Int × Op)} (h : At w tb mb L) (o : Obj) : At (w.alloc o) tb mb L := h.kept (World.grownBy_alloc w o none)

/-- What Move answers. -/
def moveE (L : List (Int × Op)) (fd pos : Int) : Int := if (mget L fd).isSome then (if pos < 0 then 1 else 0) else 19
def moveL (L : List (Int × Op)) (fd pos : Int) : List (Int × Op) :=
  match mget L fd with
  | some o => if pos < 0 then L else mput L fd { o with pos := pos }
  | none => L
set_option maxRecDepth 100000 in
theorem move_any (w : World) (tb mb : Nat) (L : List (Int × Op)) (fd pos : Int) (hw : (Lit.int .i64 fd).wf = true) (h : At w tb mb L) :
    Calls Try.prog 15 #[.pointer (some ⟨tb, 0, none⟩), .int .i64 fd, .int .i64 pos] w fun e w' =>
      e = .returned (.int .i64 (moveE L fd pos)) ∧ At w' tb mb (moveL L fd pos) ∧ w.grownBy w' (some mb) := by
  have htb := h.lt
  have hne := h.ne
  rcases ho : mget L fd with _ | o
  · have e1 : moveE L fd pos = 19 := by simp [moveE, ho]
    have e2 : moveL L fd pos = L := by simp [moveL, ho]
    rw [e1, e2]
    go_enter Try.func15, Try.ntmps15
    go_wp2_with fail
    refine (get_any _ tb mb L fd hw h).mono ?_
    rw [ho]
    rintro e w1 ⟨rfl, hg⟩
    go_wp2
    go_ret
    exact ⟨rfl, (h.kept hg).alloc _, (hg.trans (World.grownBy_alloc _ _ none)).but _⟩
  · by_cases hp : pos < 0
    · have e1 : moveE L fd pos = 1 := by simp [moveE, ho, hp]
      have e2 : moveL L fd pos = L := by simp [moveL, ho, hp]
      rw [e1, e2]
      go_enter Try.func15, Try.ntmps15
      go_wp2_with fail
      refine (get_any _ tb mb L fd hw h).mono ?_
      rw [ho]
      rintro e w1 ⟨rfl, hg⟩
      go_wp2
      go_ret
      exact ⟨rfl, (h.kept hg).alloc _, (hg.trans (World.grownBy_alloc _ _ none)).but _⟩
    · have e1 : moveE L fd pos = 0 := by simp [moveE, ho, hp]
      have e2 : moveL L fd pos = mput L fd { o with pos := pos } := by simp [moveL, ho, hp]
      rw [e1, e2]
      go_enter Try.func15, Try.ntmps15
      go_wp2_with fail
      refine (get_any _ tb mb L fd hw h).mono ?_
      rw [ho]
      rintro e w1 ⟨rfl, hg⟩
      have h1 := h.kept hg
      have hc : w1.cell? ⟨tb, 0, none⟩ = some (.map (some mb)) := cell_of_one h1.cell
      have htb1 := h1.lt
      have h2 := h1.alloc (.cells #[.int .i64 o.no, .int .i64 o.fl, .int .i64 pos] 32)
      have hc2 : (w1.alloc (.cells #[.int .i64 o.no, .int .i64 o.fl, .int .i64 pos] 32)).cell? ⟨tb, 0, none⟩ = some (.map (some mb)) := cell_of_one h2.cell
      have hn0 : (w1.alloc (.cells #[.int .i64 o.no, .int .i64 o.fl, .int .i64 pos] 32)).cell? ⟨w1.heap.size, 0, none⟩ = some (.int .i64 o.no) := World.cell?_alloc_new _ _ _ _
      have hn1 : (w1.alloc (.cells #[.int .i64 o.no, .int .i64 o.fl, .int .i64 pos] 32)).cell? ⟨w1.heap.size, 1, none⟩ = some (.int .i64 o.fl) := World.cell?_alloc_new _ _ _ _
      have hn2 : (w1.alloc (.cells #[.int .i64 o.no, .int .i64 o.fl, .int .i64 pos] 32)).cell? ⟨w1.heap.size, 2, none⟩ = some (.int .i64 pos) := World.cell?_alloc_new _ _ _ _
      have hg2 := hg.trans (World.grownBy_alloc w1 (.cells #[.int .i64 o.no, .int .i64 o.fl, .int .i64 pos] 32) none)
      go_wp2
      generalize w1.alloc (.cells #[.int .i64 o.no, .int .i64 o.fl, .int .i64 pos] 32) = w2 at *
      go_still_tail 7, (by kernel_rfl)
      change wpList _ _ _ _ _ (World.drew _)
      have h3 : At w2.drew tb mb L := ⟨h2.cell, h2.map⟩
      have hg3 : w.grownBy w2.drew none := ⟨hg2.os, hg2.tape, hg2.output, hg2.size, hg2.block⟩
      refine wpList_store _ rfl _ _ _ 97 rfl _ 32 kv key_number Try.underlying97 mb (mv opv L) rfl h3.map fd rfl hw (opv { o with pos := pos }) rfl ?_
      intro w4 hm4 hg4 _
      rw [mput_mv] at hm4
      go_wp2
      go_ret
      exact ⟨rfl, h3.grown hm4 hg4, (hg3.but _).trans hg4⟩
/-! ### the least number that none has -/
def lf (L : List (Int × Op)) : Nat → Nat → Nat
  | 0, k => k
  | f + 1, k => if (mget L (k : Int)).isSome then lf L f (k + 1) else k
def least (L : List (Int × Op)) : Nat := lf L (L.length + 1) 0
theorem room {L : List (Int × Op)} (hn : (L.map Prod.fst).Nodup) (k : Nat) (h : ∀ j : Nat, j < k → (mget L (j : Int)).isSome = true) : k ≤ L.length := by
  induction k generalizing L with
  | zero => omega
  | succ k ih =>
    have h1 := length_mdel hn (k : Int)
    rw [if_pos (h k (by omega))] at h1
    have := ih (nodup_mdel (k : Int) hn) (fun j hj => by
      rw [mget_mdel, if_neg (by omega)]
      exact h j (by omega))
    omega
theorem lf_is (L : List (Int × Op)) (n : Nat) (hn : mget L (n : Int) = none) (h : ∀ j : Nat, j < n → (mget L (j : Int)).isSome = true) : ∀ (f k : Nat), k ≤ n → n - k < f → lf L f k = n := by
  intro f
  induction f with
  | zero => intro k _ h2; omega
  | succ f ih =>
    intro k h1 h2
    unfold lf
    by_cases e : k = n
    · subst e; simp [hn]
    · rw [if_pos (h k (by omega))]
      exact ih (k + 1) (by omega) (by omega)
theorem least_is {L : List (Int × Op)} (hd : (L.map Prod.fst).Nodup) (n : Nat) (hn : mget L (n : Int) = none) (h : ∀ j : Nat, j < n → (mget L (j : Int)).isSome = true) : least L = n := by
  have := room hd n h
  exact lf_is L n hn h _ 0 (by omega) (by omega)
theorem At.nodup {w : World} {tb mb : Nat} {L : List (Int × Op)} (h : At w tb mb L) : (L.map Prod.fst).Nodup := by
  have := h.map.nodup
  rwa [keys_mv] at this

theorem open_full (w : World) (tb mb : Nat) (L : List (Int × Op)) (no fl : Int) (h : At w tb mb L) (hL : 16 ≤ L.length) :
    Calls Try.prog 14 #[.pointer (some ⟨tb, 0, none⟩), .int .i64 no, .int .i64 fl] w fun e w' => e = .returned (.tuple #[.int .i64 0, .int .i64 20]) ∧ w = w' := by
  have hc : w.cell? ⟨tb, 0, none⟩ = some (.map (some mb)) := cell_of_one h.cell
  have hL' : (16 : Int) ≤ (L.length : Int) := by omega
  go_enter Try.func14, Try.ntmps14
  go_wp2_with (first
    | (at_len; refine wpList_count _ rfl _ 97 rfl _ 32 kv Try.underlying97 mb (mv opv L) rfl h.map L.length (length_mv opv L) ?_)
    | go_in)
  go_ret2
  exact ⟨rfl, rfl⟩

set_option maxRecDepth 100000 in
theorem open_room (w : World) (tb mb : Nat) (L : List (Int × Op)) (no fl : Int) (h : At w tb mb L) (hL : L.length < 16) :
    Calls Try.prog 14 #[.pointer (some ⟨tb, 0, none⟩), .int .i64 no, .int .i64 fl] w fun e w' =>
      e = .returned (.tuple #[.int .i64 (least L), .int .i64 0]) ∧ At w' tb mb (mput L (least L) ⟨no, fl, 0⟩) ∧ w.grownBy w' (some mb) := by
  have hc : w.cell? ⟨tb, 0, none⟩ = some (.map (some mb)) := cell_of_one h.cell
  have hL' : ((16 : Int) ≤ (L.length : Int)) = False := by simp; omega
  have hLd : ¬ (16 : Int) ≤ (L.length : Int) := by omega
  have htb := h.lt
  clear hL'
  go_enter Try.func14, Try.ntmps14
  go_wp2_with (first
    | (at_len; refine wpList_count _ rfl _ 97 rfl _ 32 kv Try.underlying97 mb (mv opv L) rfl h.map L.length (length_mv opv L) ?_)
    | (at_lookup; refine wpList_look _ rfl _ _ 97 true rfl _ 32 kv key_number Try.underlying97 _ (zeroOpen _) mb (mv opv L) rfl h.map 0 rfl (by decide) _ _ (mget_val L 0) (mget_is L 0) ?_)
    | go_in)
  go_loopw [8, 9, 10] (fun fd p is wr => ∃ (k q : Nat) (a b c : Int), fd = .int .i64 k ∧ (∀ j : Nat, j < k → (mget L (j : Int)).isSome = true) ∧ p = .pointer (some ⟨q, 0, none⟩) ∧ is = .bool (mget L (k : Int)).isSome ∧ At wr tb mb L ∧ w.grownBy wr none ∧
      wr.heap[q]? = some (.cells #[.int .i64 a, .int .i64 b, .int .i64 c] 32 (0, 0)))
    (fun fd _ _ _ => L.length - (intOf fd).toNat)
  case atStart =>
    exact ⟨0, _, _, _, _, rfl, fun j hj => absurd hj (Nat.not_lt_zero _), rfl, rfl, h.alloc _, World.grownBy_alloc _ _ none, (MapKept.heap_alloc _ _).1⟩
  case round =>
    obtain ⟨k, q, a, b, c, rfl, hall, rfl, rfl, hr, hg, hq⟩ := hrel
    have hk := room h.nodup k hall
    have hcr : wr.cell? ⟨tb, 0, none⟩ = some (.map (some mb)) := cell_of_one hr.cell
    have htr := hr.lt
    have hqr : q < wr.heap.size := (Array.getElem?_eq_some_iff.1 hq).1
    have q0 : wr.cell? ⟨q, 0, none⟩ = some (.int .i64 a) := by simp [World.cell?, hq]
    have q1 : wr.cell? ⟨q, 1, none⟩ = some (.int .i64 b) := by simp [World.cell?, hq]
    have q2 : wr.cell? ⟨q, 2, none⟩ = some (.int .i64 c) := by simp [World.cell?, hq]
    have Hall := Lib.hid hall
    clear hall
    cases hs : (mget L (k : Int)).isSome
    · have Hs := Lib.hid hs
      clear hs
      have hl : least L = k := least_is h.nodup k (by have := Hs.out; simpa using this) Hall.out
      have HL := Lib.hid hl
      clear hl
      go_wp2_with (first
        | (at_mapUpdate; refine wpList_store _ rfl _ _ _ 97 rfl _ 32 kv key_number Try.underlying97 mb (mv opv L) rfl hr.map (k : Int) rfl (WalkArith.wf_i64 (by omega)) (opv ⟨no, fl, 0⟩) rfl ?_; intro w4 hm4 hg4 _; rw [mput_mv] at hm4)
        | go_in)
      go_ret2
      rw [HL.out]
      exact ⟨rfl, hr.grown hm4 hg4, (hg.but _).trans hg4⟩
    · have Hs := Lib.hid hs
      clear hs
      go_wp2_with (first
        | (at_lookup; refine wpList_look _ rfl _ _ 97 true rfl _ 32 kv key_number Try.underlying97 _ (zeroOpen _) mb (mv opv L) rfl (hr.map.alloc _) ((k : Int) + 1) rfl (WalkArith.wf_i64 (by omega)) _ _ (mget_val L _) (mget_is L _) ?_)
        | go_in)
      go_roundw
      case rel =>
        exact ⟨k + 1, _, _, _, _, by go_num, fun j hj => by
          by_cases e : j = k
          · rw [e]; exact Hs.out
          · exact Hall.out j (by omega), rfl, by go_num, hr.alloc _, hg.trans (World.grownBy_alloc _ _ none), (MapKept.heap_alloc _ _).1⟩
      case measure =>
        have := room h.nodup (k + 1) (fun j hj => by
          by_cases e : j = k
          · rw [e]; exact Hs.out
          · exact Hall.out j (by omega))
        simp [intOf]; omega
/-! ### whose what is open is -/
def nums (L : List (Int × Op)) : List Int := Lib.compact (Ints.sorted (L.map fun p => p.2.no))
def noOf (p : Int × Op) : Value := .int .i64 p.2.no
theorem infoInt : (Try.prog.info? 3).map (fun i => (i.zero, i.size, i.bytes)) = some (some (.int .i64 0), 1, 8) := by kernel_rfl

def NumsOk (w : World) (L : List (Int × Op)) (e : Ending) (w' : World) : Prop := ∃ v, e = .returned v ∧ w'.ownsRow w.heap.size 3 1 v (nums L).length ((nums L).map (Value.int .i64)) ∧ w.grownBy w' none

theorem ownsRow_base_le {w : World} {base base' e size n : Nat} {v : Value} {xs : List Value} (h : w.ownsRow base e size v n xs) (hb : base' ≤ base) : w.ownsRow base' e size v n xs := by
  obtain ⟨h1, h2⟩ := h
  refine ⟨h1, ?_⟩
  rcases h2 with h2 | ⟨g, cap, cur, a1, a2, a3⟩
  · exact .inl h2
  · exact .inr ⟨g, cap, cur, a1, Nat.le_trans hb a2, a3⟩

set_option maxRecDepth 100000 in
theorem numbers_any (w : World) (tb mb : Nat) (L : List (Int × Op)) (h : At w tb mb L) (hL : L.length ≤ 1000) :
    Calls Try.prog 17 #[.pointer (some ⟨tb, 0, none⟩)] w (NumsOk w L) := by
  have hc : w.cell? ⟨tb, 0, none⟩ = some (.map (some mb)) := cell_of_one h.cell
  have htb := h.lt
  have hmb := h.map.lt
  obtain ⟨i0, hi, hz0, hz1, hz2⟩ := info_parts infoInt
  go_enter Try.func17, Try.ntmps17
  go_wp2_with (first
    | (at_range; refine wpList_range _ rfl _ 97 rfl _ 32 kv Try.underlying97 mb (mv opv L) rfl h.map ?_; intro w0 hrg0 hg0 hs0)
    | go_in)
  go_frame
  go_loopw [3] (fun v wr => ∃ (todo done : List (Int × Op)), L.Perm (done ++ todo) ∧ RangeAt kv wr mb w.heap.size (mv opv L) (mv opv todo) ∧ wr.ownsRow (w.heap.size + 1) 3 1 v done.length (done.map noOf) ∧ w.grownBy wr none ∧ w.heap.size + 1 ≤ wr.heap.size)
    (fun _ wr => wr.rangeLeft mb w.heap.size)
  case atStart =>
    exact ⟨L, [], by simp, hrg0, World.ownsRow_nil _ _ _ _, hg0, by omega⟩
  case round =>
    obtain ⟨todo, done, hperm, hrg, hown, hg, hsz⟩ := hrel
    have Hp := Lib.hid hperm
    have hlen := hperm.length_eq
    simp only [List.length_append] at hlen
    have hdl : done.length + todo.length ≤ 1000 := by omega
    have Hl := Lib.hid hlen
    clear hperm hlen
    go_wp2_with (first
      | (at_next; refine wpList_next _ rfl _ rfl 101 kv key_number opv mb w.heap.size L todo rfl hrg ?_ ?_)
      | go_in)
    · intro h0
      have hpm : L.Perm done := by have := Hp.out; rwa [h0, List.append_nil] at this
      have hso : Ints.sorted (done.map fun p => p.2.no) = Ints.sorted (L.map fun p => p.2.no) := Ints.sorted_of_perm (hpm.symm.map _)
      have hdn : done.length ≤ 1000 := by omega
      have hown2 : wr.ownsRow (w.heap.size + 1) 3 1 u3 (done.map fun p => p.2.no).length ((done.map fun p => p.2.no).map (Value.int .i64)) := by
        have e1 : (done.map fun p => p.2.no).map (Value.int .i64) = done.map noOf := by simp [noOf, Function.comp_def]
        rw [e1]
        simpa using hown
      have hob : ∀ j, u3.ownBlock = some j → w.heap.size + 1 ≤ j := fun j hj => (hown.lt j hj).1
      have Hso := Lib.hid hso
      clear hso hpm h0 hown
      generalize hzs : (done.map fun p => p.2.no) = zs at *
      have hzl : zs.length ≤ 1000 := by rw [← hzs]; simpa using hdn
      have Hzs := Lib.hid hzs
      clear hzs
      go_wp2_with fail
      refine (Ints.sort_own wr _ u3 zs hown2 (by omega)).mono ?_
      rintro e w1 ⟨rfl, hown3, hg3⟩
      have hown4 : w1.ownsRow (w.heap.size + 1) 3 1 u3 (Ints.sorted zs).length ((Ints.sorted zs).map (Value.int .i64)) := by rw [Ints.sorted_length]; exact hown3
      have hsl : (Ints.sorted zs).length ≤ 1000 := by rw [Ints.sorted_length]; exact hzl
      go_wp2_with fail
      refine (Ints.compact_own w1 _ u3 (Ints.sorted zs) hown4 (by omega)).mono ?_
      rintro e w2 ⟨v2, rfl, hown5, hg5, _⟩
      go_wp2
      go_ret
      rw [Hso.out] at hown5
      exact ⟨_, rfl, ownsRow_base_le hown5 (Nat.le_succ _), (hg.andThen hg3 (fun j hj => .inl (by have := hob j hj; omega))).andThen hg5 (fun j hj => .inl (by have := hob j hj; omega))⟩
    · intro k o todo' w1 hp1 hrg1 hg1 hs1 hen
      have Hs1 := Lib.hid hs1
      have Hp1 := Lib.hid hp1
      clear hs1 hp1
      obtain ⟨no, fl, pos⟩ := o
      simp only [opv] at hen ⊢
      have hlt1 := hrg1.lt
      have hown1 := hown.kept hg1 (by
        rcases hb : u3.ownBlock with _ | q
        · exact .inl rfl
        · have := (hown.lt q hb).1
          refine .inr fun e => ?_
          have := Option.some.inj e
          omega)
      go_wp2_with (first
        | (at_builtin; refine wpList_append_own _ rfl _ _ 22 rfl (w.heap.size + 1) 3 i0 (.int .i64 0) 1 8 Try.underlying22 hi hz0 hz1 hz2 rfl (by decide) _ _ _ rfl ((hown1.alloc _).alloc _) ⟨w1.heap.size + 1, 0, none⟩ 1 1 [.int .i64 no] rfl rfl ?c1 ?c2 ?c3 ?c4 ?c5 ?_)
        | go_in)
      case c1 =>
        intro j u hj
        match j, hj with
        | 0, hj => simp at hj; subst hj; simp [Addr.add]
      case c2 => exact ints_oneCell .i64 [no]
      case c3 => unfold maxLen; omega
      case c4 => omega
      case c5 => have := Hs1.out; simp; omega
      intro v' w2 hown' hgrow _
      have hob : ∀ j, u3.ownBlock = some j → w.heap.size + 1 ≤ j := fun j hj => (hown.lt j hj).1
      have hrg2 : RangeAt kv w2 mb w.heap.size (mv opv L) (mv opv todo') := ((hrg1.alloc _).alloc _).kept hgrow (fun e => by have := hob _ e.symm; omega) (fun e => by have := hob _ e.symm; omega)
      have hg2 : w.grownBy w2 none := ((hg.andThen hg1 (fun j hj => .inl (by have := Option.some.inj hj; omega))).trans ((World.grownBy_alloc _ _ none).trans (World.grownBy_alloc _ _ none))).andThen hgrow (fun j hj => .inl (by have := hob j hj; omega))
      have hsz2 : w.heap.size + 1 ≤ w2.heap.size := by have h1 := hgrow.size; have h2 := Hs1.out; simp at h1; omega
      clear hob hgrow
      go_wp2
      go_roundw
      case rel =>
        refine ⟨todo', done ++ [(k, ⟨no, fl, pos⟩)], ?_, hrg2, by simpa [noOf] using hown', hg2, hsz2⟩
        exact Hp.out.trans (by simpa using Hp1.out.append_left done)
      case measure =>
        have h1 : w2.rangeLeft mb w.heap.size = todo'.length := by rw [hrg2.left_eq, length_mv]
        have h2 : wr.rangeLeft mb w.heap.size = todo.length := by rw [hrg.left_eq, length_mv]
        have h3 := Hp1.out.length_eq
        rw [h1, h2, h3]
        simp
theorem close_none (w : World) (tb mb : Nat) (L : List (Int × Op)) (fd : Int) (hw : (Lit.int .i64 fd).wf = true) (h : At w tb mb L) (ho : mget L fd = none) :
    Calls Try.prog 39 #[.pointer (some ⟨tb, 0, none⟩), .int .i64 fd] w fun e w' =>
      e = .returned (.tuple #[.int .i64 0, .bool false, .int .i64 19]) ∧ At w' tb mb L ∧ w.grownBy w' none := by
  go_enter Try.func39, Try.ntmps39
  go_wp2_with fail
  refine (get_any _ tb mb L fd hw h).mono ?_
  rw [ho]
  rintro e w1 ⟨rfl, hg⟩
  go_wp2
  go_ret3
  exact ⟨rfl, (h.kept hg).alloc _, hg.trans (World.grownBy_alloc _ _ none)⟩

end Go.Proofs.Ytfmkpkmhhlakoaa.Tab

/- SetRun of the reference. -/
import Derived.Test.YtfmkpkmhhlakoaaSk22
set_option linter.unusedVariables false
set_option linter.unusedSimpArgs false
namespace Go.Proofs.Ytfmkpkmhhlakoaa.Sx
open Go

attribute [local simp ↓] ifb_true' ifb_false'
attribute [local simp] ifb_true ifb_false ifb_eq sx argsT find ev evOp evs evo evBin evInt evStr evNil evNilA ptrA slcA isNoneA asB evLoad look del cellsB evUn evConv kdec fld evFieldA evField evIdxA evIdx evSlc bndL bndH evLen mmi put resV guardV gvL setO tupV cellsOf ones one upd lits nv exitTo SV.val CV.val TI.agg rdyA allR keepB scan simpO gsp isS subs keepT pickT wr memN pubs Res.fact Region.binds bld rest give delL back Res.eqv vi vb num Sv.val undef
/-- Places, with one of them set. -/
def setP (l : List Int) (x p : Int) : List Int := if 0 ≤ x ∧ x < 64 ∧ 0 ≤ p ∧ p ≤ 2147483647 then l.set x.toNat p else l
open Classical in
noncomputable def setRunL (l : List Rn) (x p : Int) : List Rn := if RightL l then runsL (setP (placesL l) x p) else []
theorem right_okR {l : List Rn} (h : RightL l) : ∀ r, r ∈ l → okR r := fun r hr => by
  obtain ⟨i, hi, rfl⟩ := List.mem_iff_getElem.1 hr
  exact (h i hi hi).1
theorem getL_le : ∀ {l : List Rn} {x v : Int}, (∀ r, r ∈ l → okR r) → getL l x = some v → 0 ≤ v ∧ v ≤ 2147483647
  | [], x, v, _, h => by cases h
  | r :: t, x, v, hr, h => by
    rw [getL] at h
    split at h
    · obtain ⟨d0, d1, d2, d3, d4, d5⟩ := hr r List.mem_cons_self
      cases h
      omega
    · exact getL_le (fun z hz => hr z (List.mem_cons_of_mem _ hz)) h
theorem placesL_len (l : List Rn) : (placesL l).length = 64 := by simp [placesL]
theorem placesL_le {l : List Rn} (hr : ∀ r, r ∈ l → okR r) : ∀ p, p ∈ placesL l → p ≤ 2147483647 := fun p hp => by
  simp only [placesL, List.mem_map, List.mem_range] at hp
  obtain ⟨j, _, rfl⟩ := hp
  unfold plOf
  cases hg : getL l j with
  | none => simp
  | some v => have := getL_le hr hg; simp; omega
theorem setP_len (l : List Int) (x p : Int) : (setP l x p).length = l.length := by
  unfold setP
  split <;> simp
theorem setP_le {l : List Int} {x p : Int} (h : ∀ q, q ∈ l → q ≤ 2147483647) : ∀ q, q ∈ setP l x p → q ≤ 2147483647 := fun q hq => by
  unfold setP at hq
  split at hq
  · rcases List.mem_or_eq_of_mem_set hq with hq | rfl
    · exact h q hq
    · omega
  · exact h q hq
set_option maxHeartbeats 1000000 in
theorem setRun0 (w : World) (I : Nat → Prop) (hI : ∀ b, I b → b < w.heap.size) {a : Option Addr} {n c : Nat} (l : List Rn) (x p : Int) (h : ∀ W, Ext I w W → Sv.ok dRn W (a, n, c) l) :
    Fn0 Try.prog 36 #[.slice a n c, .int .i64 x, .int .i64 p] w I Sv.val (fun r W => Sv.ok dRn W r (setRunL l x p)) := by
  obtain rfl : n = l.length := (h w (Ext.refl _ _)).1
  refine enter (svs := [.c (.v (.slice a l.length c)), .c (.v (.int .i64 x)), .c (.v (.int .i64 p))]) tysOk Try.func36 rfl Try.ntmps36 Try.results36 (by kernel_rfl) (by simp) hI (fun W => Sv.ok dRn W (a, l.length, c) l) h fun C hC hN ok => ?_
  simp [hN]
  refine call0 ok rfl rfl rfl (fun w I hI hG => rightRuns0 w I hI l hG) fun y W hy => ?_
  simp [hN]
  refine ⟨fun hno => ?_, fun hyes => ?_⟩
  · have hs : setRunL l x p = [] := by rw [setRunL, if_neg]; rw [← hy, hno]; simp
    exact ret0 hC (none, 0, 0) rfl fun W _ _ => by rw [hs]; exact Sv.nil _ _
  · have hR : RightL l := hy.1 hyes
    have hs : setRunL l x p = runsL (setP (placesL l) x p) := by rw [setRunL, if_pos hR]
    rw [hs] at hC
    have hr := right_okR hR
    have k1 : ∀ w I, (∀ b, I b → b < w.heap.size) → (∀ W, Ext I w W → (y = true ↔ RightL l) ∧ Sv.ok dRn W (a, l.length, c) l) → FnS Try.prog 66 #[.slice a l.length c] w I noS (fun g : Nat => .slice (some ⟨g, 0, none⟩) 64 64) (fun g => [.row (some ⟨g, 0, none⟩) 64 64 3 1 (iC (placesL l))]) (fun _ _ => True) := fun w I hI hG => placesOf0 w I hI l (fun W e => (hG W e).2) hr
    refine callS ok rfl rfl rfl [] [] trivial rfl (fun g : Nat => [(600, .row (some ⟨g, 0, none⟩) 64 64 3 1 (iC (placesL l)))]) (fun w I S hI hG hO hS => (k1 w I hI hG).lone hO) (fun r => by simp [back, memN, Res.eqv]) (.inl fun k hk => by cases hk) fun g W _ => ?_
    have hpl := placesL_len l
    simp [hN]
    refine ⟨fun h1 => ⟨fun h2 => ⟨fun h3 => ⟨fun h4 => ⟨⟨h1, h2⟩, ?_⟩, fun h4 => ?_⟩, fun h3 => ?_⟩, fun h2 => ?_⟩, fun h1 => ?_⟩
    · refine tag ok 30 (.c (.bp 600 g x.toNat)) rfl rfl ?_
      simp [hN, iC_set, iC_len, hpl]
      refine ⟨by omega, ?_⟩
      have hq : setP (placesL l) x p = (placesL l).set x.toNat p := by rw [setP, if_pos ⟨h1, h2, h3, h4⟩]
      have hql := setP_len (placesL l) x p
      have hqb := setP_le (x := x) (p := p) (placesL_le hr)
      rw [hq] at hC hql hqb
      rw [hpl] at hql
      refine pub 600 rfl (by decide) (call0 ok rfl rfl rfl (fun w I hI hG => runsOf0 w I hI (a := some ⟨g, 0, none⟩) (n := 64) (c := 64) ((placesL l).set x.toNat p) (fun W e => int_ok (by have h1 := (hG W e).1; simp only [Res.fact, iC_val] at h1; exact h1) (by omega)) (by omega) (fun z hz => by have := hqb z hz; omega)) fun r W _ => ?_)
      simp [hN]
      exact ret0 hC r rfl fun W _ hG => hG.1
    · have hq : setP (placesL l) x p = placesL l := by rw [setP, if_neg (by omega)]
      have hql := setP_len (placesL l) x p
      have hqb := setP_le (x := x) (p := p) (placesL_le hr)
      rw [hq] at hC hql hqb
      rw [hpl] at hql
      refine pub 600 rfl (by decide) (call0 ok rfl rfl rfl (fun w I hI hG => runsOf0 w I hI (a := some ⟨g, 0, none⟩) (n := 64) (c := 64) (placesL l) (fun W e => int_ok (by have h1 := (hG W e).1; simp only [Res.fact, iC_val] at h1; exact h1) (by omega)) (by omega) (fun z hz => by have := hqb z hz; omega)) fun r W _ => ?_)
      simp [hN]
      exact ret0 hC r rfl fun W _ hG => hG.1
    · have hq : setP (placesL l) x p = placesL l := by rw [setP, if_neg (by omega)]
      have hql := setP_len (placesL l) x p
      have hqb := setP_le (x := x) (p := p) (placesL_le hr)
      rw [hq] at hC hql hqb
      rw [hpl] at hql
      refine pub 600 rfl (by decide) (call0 ok rfl rfl rfl (fun w I hI hG => runsOf0 w I hI (a := some ⟨g, 0, none⟩) (n := 64) (c := 64) (placesL l) (fun W e => int_ok (by have h1 := (hG W e).1; simp only [Res.fact, iC_val] at h1; exact h1) (by omega)) (by omega) (fun z hz => by have := hqb z hz; omega)) fun r W _ => ?_)
      simp [hN]
      exact ret0 hC r rfl fun W _ hG => hG.1
    · have hq : setP (placesL l) x p = placesL l := by rw [setP, if_neg (by omega)]
      have hql := setP_len (placesL l) x p
      have hqb := setP_le (x := x) (p := p) (placesL_le hr)
      rw [hq] at hC hql hqb
      rw [hpl] at hql
      refine pub 600 rfl (by decide) (call0 ok rfl rfl rfl (fun w I hI hG => runsOf0 w I hI (a := some ⟨g, 0, none⟩) (n := 64) (c := 64) (placesL l) (fun W e => int_ok (by have h1 := (hG W e).1; simp only [Res.fact, iC_val] at h1; exact h1) (by omega)) (by omega) (fun z hz => by have := hqb z hz; omega)) fun r W _ => ?_)
      simp [hN]
      exact ret0 hC r rfl fun W _ hG => hG.1
    · have hq : setP (placesL l) x p = placesL l := by rw [setP, if_neg (by omega)]
      have hql := setP_len (placesL l) x p
      have hqb := setP_le (x := x) (p := p) (placesL_le hr)
      rw [hq] at hC hql hqb
      rw [hpl] at hql
      refine pub 600 rfl (by decide) (call0 ok rfl rfl rfl (fun w I hI hG => runsOf0 w I hI (a := some ⟨g, 0, none⟩) (n := 64) (c := 64) (placesL l) (fun W e => int_ok (by have h1 := (hG W e).1; simp only [Res.fact, iC_val] at h1; exact h1) (by omega)) (by omega) (fun z hz => by have := hqb z hz; omega)) fun r W _ => ?_)
      simp [hN]
      exact ret0 hC r rfl fun W _ hG => hG.1
theorem rn_eq (a b : Rn) : a = b ↔ a.fr = b.fr ∧ a.at_ = b.at_ ∧ a.ct = b.ct := by
  cases a; cases b; simp
instance : DecidableEq Rn := fun a b => decidable_of_iff _ (rn_eq a b).symm
/-- One run from the first page on. -/
def oneR (n : Nat) : List Rn := if n = 0 then [] else [⟨0, 0, n⟩]
theorem oneR_right (n : Nat) (h : n < 20) : RightL (oneR n) := fun j hj _ => by
  unfold oneR at hj ⊢
  split at hj
  · simp at hj
  · rename_i h0
    simp at hj
    subst hj
    simp only [h0, if_false, List.getElem_cons_zero]
    refine ⟨⟨?_, ?_, ?_, ?_, ?_, ?_⟩, fun h => absurd h (Nat.lt_irrefl _)⟩ <;> simp only <;> omega
theorem setRun_one : ∀ n : Nat, n < 20 → runsL (setP (placesL (oneR n)) n n) = oneR (n + 1) := by decide
end Go.Proofs.Ytfmkpkmhhlakoaa.Sx

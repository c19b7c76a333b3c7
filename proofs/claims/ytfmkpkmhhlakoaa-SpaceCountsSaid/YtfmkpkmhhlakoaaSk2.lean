/- codec.Put, PutInt, PutText; pack.ints. -/
import Derived.Test.YtfmkpkmhhlakoaaSk1
import Derived.Test.YtfmkpkmhhlakoaaSp1
set_option linter.unusedVariables false
set_option linter.unusedSimpArgs false
namespace Go.Proofs.Ytfmkpkmhhlakoaa.Sx
open Go

attribute [local simp ↓] ifb_true' ifb_false'
attribute [local simp] ifb_true ifb_false ifb_eq sx argsT find ev evOp evs evo evBin evInt evStr evNil evNilA ptrA slcA isNoneA asB evLoad look del cellsB evUn evConv kdec fld evFieldA evField evIdxA evIdx evSlc bndL bndH evLen mmi put resV guardV gvL setO tupV cellsOf ones one upd lits nv exitTo SV.val CV.val TI.agg rdyA allR keepB scan simpO gsp isS subs keepT pickT wr memN pubs Res.fact Region.binds bld rest give delL back Res.eqv vi vb num
theorem two_ok {W : World} {a b : Option Addr} {n m c d : Nat} {g : Option Addr} {xs ys : List Int} (h : W.ownsRow 0 147 1 (.slice g 2 2) 2 [.slice a n c, .slice b m d]) (h1 : Sl.ok dByte W (a, c) xs) (e1 : n = xs.length) (h2 : Sl.ok dByte W (b, d) ys) (e2 : m = ys.length) : Sl.ok dBs W (g, 2) [xs, ys] := by
  subst e1 e2
  have hr : Rows dBs W [xs, ys] [.slice a xs.length c, .slice b ys.length d] := (rows_nil dBs W).snoc (x := xs) (c := [.slice a xs.length c]) ⟨(a, c), rfl, h1⟩ |>.snoc (x := ys) (c := [.slice b ys.length d]) ⟨(b, d), rfl, h2⟩
  obtain ⟨k1, k2, k3⟩ := hr.rd h (by decide)
  exact ⟨by simp, by simp, k3⟩
theorem byte_ok {W : World} {a : Option Addr} {n c : Nat} {xs : List Int} (h : W.ownsRow 0 5 1 (.slice a n c) n ((bC xs).map CV.val)) (hl : xs.length ≤ 100000000000) : n = xs.length ∧ Sl.ok dByte W (a, c) xs := by
  rw [bC_val] at h
  obtain ⟨k1, k2, k3⟩ := (rows_byte.2 rfl : Rows dByte W xs _).rd h (by decide)
  exact ⟨k1, by simp; omega, hl, k3⟩
theorem bC_set (l : List Int) (i : Nat) (x : Int) : (bC l).set i (.v (.int .u8 x)) = bC (l.set i x) := by simp [bC, List.map_set]
theorem bC_length (l : List Int) : (bC l).length = l.length := by simp [bC]
theorem put0 (w : World) (I : Nat → Prop) (hI : ∀ b, I b → b < w.heap.size) (xs : List Int) (s : Sl) (v : Int) (n : Nat) (h : ∀ W, Ext I w W → s.ok dByte W xs) (hl : xs.length + n ≤ 100000000000) (hn : n ≤ 8) (hv : 0 ≤ v) :
    Fn0 Try.prog 117 #[.slice s.1 xs.length s.2, .int .u64 v, .int .i64 n] w I (fun r : Sl => .slice r.1 (xs.length + n) r.2) (fun r W => r.ok dByte W (xs ++ lowB v n)) := by
  refine enter (svs := [.c (.v (.slice s.1 xs.length s.2)), .c (.v (.int .u64 v)), .c (.v (.int .i64 n))]) tysOk Try.func117 rfl Try.ntmps117 Try.results117 (by kernel_rfl) (by simp) hI (fun W => s.ok dByte W xs) h fun C hC hN ok => ?_
  have e1 : ¬ ((n : Int) < 0) := by omega
  have e2 : ¬ ((8 : Int) < n) := by omega
  simp [hN, e1, e2]
  refine mksl ok rfl rfl rfl rfl rfl rfl rfl rfl rfl (by omega) (by show (1 : Int) * n ≤ _; omega) (by omega) fun g => ?_
  simp [hN]
  refine loop ok (fun i : Nat => [(15, .c (.v (.int .i64 i)))]) (fun i => [(12, .row (some ⟨g, 0, none⟩) n n 5 1 (bC (fillB v n i)))]) (fun i W => i ≤ n) (fun i => n - i) 0 ?_ ?_ (fun W _ => Nat.zero_le _) fun i W hi hG next => ?_
  · simp
  · simp [fillB_none, bC]
  simp [hN]
  refine ⟨fun hlt => ?_, fun hge => ?_⟩
  · have e3 : IntKind.i64.wrap (8 * (i : Int)) = (8 * i : Nat) := by rw [w64 (by omega) (by omega)]; omega
    have e4 : min (8 * i) IntKind.u64.bits = 8 * i := by simp [IntKind.bits]; omega
    have e5 : v.fdiv (2 ^ (8 * i)) = v / 2 ^ (8 * i) := Int.fdiv_eq_ediv_of_nonneg _ (Int.le_of_lt (Int.pow_pos (by decide)))
    have e6 : IntKind.i64.wrap ((i : Int) + 1) = (i + 1 : Nat) := by rw [w64 (by omega) (by omega)]; omega
    rw [e3, e6, Int.toNat_natCast, e4, e5, u8_wrap, bC_set, fillB_set v n i hlt]
    refine ⟨by omega, hlt, by rw [bC_length, fillB_length v n i hi]; omega, next (i + 1) _ _ (by omega) (fun W h => ⟨hlt, h.2⟩) ?_⟩
    simp
  · have hi' : i = n := by omega
    subst hi'
    intro g2
    rw [fillB_full]
    refine pub 12 rfl (by decide) (pub 29 rfl (by decide) (call0 ok rfl rfl rfl (fun w I hI hG => concat0 w I hI [xs, lowB v i] (some ⟨g2, 0, none⟩, 2) (fun W e => two_ok (hG W e).1 (hG W e).2.2.2 rfl (byte_ok (hG W e).2.1 (by rw [lowB_length]; omega)).2 (lowB_length v i).symm) (by simp [lowB_length]; omega) (by simp)) fun x W hx => ?_))
    simp [hN]
    exact ret0 hC x (by simp [lowB_length]) fun W _ hG => by simpa using hG.1
end Go.Proofs.Ytfmkpkmhhlakoaa.Sx

/- codec.PutInt, PutText; pack.ints. -/
import Derived.Test.YtfmkpkmhhlakoaaSk2
set_option linter.unusedVariables false
set_option linter.unusedSimpArgs false
namespace Go.Proofs.Ytfmkpkmhhlakoaa.Sx
open Go

attribute [local simp ↓] ifb_true' ifb_false'
attribute [local simp] ifb_true ifb_false ifb_eq sx argsT find ev evOp evs evo evBin evInt evStr evNil evNilA ptrA slcA isNoneA asB evLoad look del cellsB evUn evConv kdec fld evFieldA evField evIdxA evIdx evSlc bndL bndH evLen mmi put resV guardV gvL setO tupV cellsOf ones one upd lits nv exitTo SV.val CV.val TI.agg rdyA allR keepB scan simpO gsp isS subs keepT pickT wr memN pubs Res.fact Region.binds bld rest give delL back Res.eqv vi vb num
theorem putInt0 (w : World) (I : Nat → Prop) (hI : ∀ b, I b → b < w.heap.size) (xs : List Int) (s : Sl) (v : Int) (h : ∀ W, Ext I w W → s.ok dByte W xs) (hl : xs.length + 8 ≤ 100000000000) :
    Fn0 Try.prog 118 #[.slice s.1 xs.length s.2, .int .i64 v] w I (fun r : Sl => .slice r.1 (xs.length + 8) r.2) (fun r W => r.ok dByte W (xs ++ intB v)) := by
  refine enter (svs := [.c (.v (.slice s.1 xs.length s.2)), .c (.v (.int .i64 v))]) tysOk Try.func118 rfl Try.ntmps118 Try.results118 (by kernel_rfl) (by simp) hI (fun W => s.ok dByte W xs) h fun C hC hN ok => ?_
  simp [hN, u64_wrap]
  refine call0 ok rfl rfl rfl (fun w I hI hG => put0 w I hI xs s _ 8 hG hl (by omega) (Int.emod_nonneg _ (by decide))) fun x W hx => ?_
  simp [hN]
  exact ret0 hC x rfl fun W _ hG => hG.1
theorem text_ok {W : World} {g c : Nat} {s : ByteArray} (h : textAt g s W) (hc : s.size ≤ c) (hl : s.size ≤ 100000000000) : Sl.ok dByte W (some ⟨g, 0, none⟩, c) (bytesOf s) := by
  refine ⟨by rw [bytesOf_length]; exact hc, by rw [bytesOf_length]; exact hl, fun _ => ⟨g, 0, rfl, fun i x hx => ⟨_, rfl, fun j v hv => ?_⟩⟩⟩
  have hi : i < s.size := by
    have := (List.getElem?_eq_some_iff.1 hx).1
    rwa [bytesOf_length] at this
  have hj : j = 0 := by have := (List.getElem?_eq_some_iff.1 hv).1; simpa using this
  subst hj
  have h1 := h i hi
  simp only [List.getElem?_cons_zero, Option.some.injEq] at hv
  subst hv
  have h2 : i < s.data.toList.length := by rw [Array.length_toList]; exact hi
  have h3 : (bytesOf s)[i]? = some ((s.data.toList.getD i 0).toNat : Int) := by
    unfold bytesOf
    rw [List.getElem?_map, List.getElem?_eq_getElem h2]
    rw [Array.getElem_toList, List.getD_eq_getElem?_getD, List.getElem?_eq_getElem h2, Array.getElem_toList]
    rfl
  rw [h3] at hx
  cases hx
  simpa [dByte, flat] using h1
theorem putText0 (w : World) (I : Nat → Prop) (hI : ∀ b, I b → b < w.heap.size) (xs : List Int) (s : Sl) (t : ByteArray) (h : ∀ W, Ext I w W → s.ok dByte W xs) (hl : xs.length + 4 + t.size ≤ 100000000000) :
    Fn0 Try.prog 136 #[.slice s.1 xs.length s.2, .string t] w I (fun r : Sl => .slice r.1 (xs.length + (4 + t.size)) r.2) (fun r W => r.ok dByte W (xs ++ textB t)) := by
  refine enter (svs := [.c (.v (.slice s.1 xs.length s.2)), .c (.v (.string t))]) tysOk Try.func136 rfl Try.ntmps136 Try.results136 (by kernel_rfl) (by simp) hI (fun W => s.ok dByte W xs) h fun C hC hN ok => ?_
  have e1 : IntKind.u64.wrap (t.size : Int) = t.size := by rw [u64_wrap]; omega
  simp [hN, e1]
  refine call0 ok rfl rfl rfl (fun w I hI hG => put0 w I hI xs s _ 4 hG (by omega) (by omega) (by omega)) fun x W hx => ?_
  simp [hN]
  refine strB ok rfl rfl rfl rfl rfl rfl (by rfl) (by rfl) fun g c hc => ?_
  simp [hN]
  intro g2
  refine pub 12 rfl (by decide) (call0 ok rfl rfl rfl (fun w I hI hG => concat0 w I hI [xs ++ lowB t.size 4, bytesOf t] (some ⟨g2, 0, none⟩, 2) (fun W e => two_ok (hG W e).1 (hG W e).2.2.1 (by simp [lowB_length]) (text_ok (hG W e).2.1 hc (by omega)) (bytesOf_length t).symm) (by simp [lowB_length, bytesOf_length]; omega) (by simp)) fun y W hy => ?_)
  simp [hN]
  exact ret0 hC y (by simp [lowB_length, bytesOf_length]) fun W _ hG => by have := hG.1; simpa [textB] using this
theorem ints0 (w : World) (I : Nat → Prop) (hI : ∀ b, I b → b < w.heap.size) (xs l : List Int) (s t : Sl) (h : ∀ W, Ext I w W → s.ok dByte W xs ∧ t.ok dInt W l) (hl : xs.length + 8 * l.length ≤ 100000000000) :
    Fn0 Try.prog 137 #[.slice s.1 xs.length s.2, .slice t.1 l.length t.2] w I (fun r : Sl => .slice r.1 (xs.length + 8 * l.length) r.2) (fun r W => r.ok dByte W (xs ++ l.flatMap intB)) := by
  obtain ⟨ta, tc⟩ := t
  refine enter (svs := [.c (.v (.slice s.1 xs.length s.2)), .c (.v (.slice ta l.length tc))]) tysOk Try.func137 rfl Try.ntmps137 Try.results137 (by kernel_rfl) (by simp) hI (fun W => s.ok dByte W xs ∧ Sl.ok dInt W (ta, tc) l) h fun C hC hN ok => ?_
  simp [hN]
  refine loop ok (fun a : Nat × Sl => [(9, .c (.v (.int .i64 (a.1 : Nat)))), (0, .c (.v (.slice a.2.1 (xs.length + 8 * a.1) a.2.2)))]) (fun _ => []) (fun a W => a.1 ≤ l.length ∧ a.2.ok dByte W (xs ++ (l.take a.1).flatMap intB)) (fun a => l.length - a.1) (0, s) ?_ ?_ (fun W hW => ⟨Nat.zero_le _, by simpa using hW.1⟩) ?_
  · simp
  · simp
  rintro ⟨i, r⟩ W ⟨hi, hr⟩ hG next
  simp [hN]
  refine ⟨fun hlt => ?_, fun hge => ?_⟩
  · obtain ⟨b, o, e⟩ := hG.2.2.2.is_some (Nat.lt_of_le_of_lt (Nat.zero_le _) hlt)
    cases e
    simp [hN]
    refine ⟨hlt, load1 ok rfl rfl rfl rfl (fun v W => v = .int .i64 l[i]) (fun W hW => ?_) ?_⟩
    · obtain ⟨cs, hk, _, hc⟩ := hW.2.2.2.2.get hlt
      exact ⟨_, by simpa [dInt, flat] using hc 0 (.int .i64 l[i]) (by rw [hk]; rfl), rfl⟩
    · rintro v W rfl hG2
      simp [hN]
      have hlen : (xs ++ (l.take i).flatMap intB).length = xs.length + 8 * i := by rw [List.length_append, ints_length, List.length_take]; omega
      rw [← hlen]
      refine call0 ok rfl rfl rfl (fun w I hI hG => putInt0 w I hI _ r _ (fun W e => (hG W e).1.2) (by omega)) fun y W hy => ?_
      have e6 : IntKind.i64.wrap ((i : Int) + 1) = (i + 1 : Nat) := by rw [w64 (by omega) (by omega)]; omega
      rw [hlen]
      simp [hN, e6]
      refine next (i + 1, y) _ _ (by simp; omega) (fun W h => ⟨⟨hlt, by rw [fm_take _ _ _ hlt]; simpa using h.1⟩, h.2.2⟩) ?_
      simp [Nat.mul_add, Nat.add_assoc]
  · have hi' : i = l.length := by simp only at hi; omega
    subst hi'
    exact ret0 hC r rfl fun W _ hG => by have := hG.1.2; rwa [List.take_length] at this
end Go.Proofs.Ytfmkpkmhhlakoaa.Sx

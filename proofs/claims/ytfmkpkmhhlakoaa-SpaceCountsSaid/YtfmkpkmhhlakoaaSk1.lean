/- Bytes: slices.Grow, slices.Concat, codec.Put. -/
import Derived.Test.YtfmkpkmhhlakoaaSxh
set_option linter.unusedVariables false
set_option linter.unusedSimpArgs false
namespace Go.Proofs.Ytfmkpkmhhlakoaa.Sx
open Go

attribute [local simp ↓] ifb_true' ifb_false'
attribute [local simp] ifb_true ifb_false ifb_eq sx argsT find ev evOp evs evo evBin evInt evStr evNil evNilA ptrA slcA isNoneA asB evLoad look del cellsB evUn evConv kdec fld evFieldA evField evIdxA evIdx evSlc bndL bndH evLen mmi put resV guardV gvL setO tupV cellsOf ones one upd lits nv exitTo SV.val CV.val TI.agg rdyA allR keepB scan simpO gsp isS subs keepT pickT wr memN pubs Res.fact Region.binds bld rest give delL back Res.eqv vi vb num
theorem grow0 (w : World) (I : Nat → Prop) (hI : ∀ b, I b → b < w.heap.size) (n : Nat) (hn : n ≤ 100000000000) :
    FnS Try.prog 148 #[.slice none 0 0, .int .i64 n] w I noS (fun x : Sl => .slice x.1 0 x.2) (fun x => [.row x.1 0 x.2 5 1 []]) (fun _ _ => True) := by
  refine enterS (svs := [.c (.v (.slice none 0 0)), .c (.v (.int .i64 n))]) tysOk Try.func148 rfl Try.ntmps148 Try.results148 (by kernel_rfl) (by simp) hI [] (owns_nil w) (fun b hb => hb.elim) (fun _ => True) (fun _ _ => trivial) fun C hC hn ok => ?_
  have e1 : ∀ x : Int, 0 ≤ x → x ≤ 100000000000 → IntKind.i64.wrap (x - IntKind.i64.wrap 0) = x := fun x h k => by
    have h0 : IntKind.i64.wrap 0 = 0 := w64 (by omega) (by omega)
    rw [h0, Int.sub_zero]
    exact w64 (by omega) (by omega)
  have e1 := e1 n (by omega) (by omega)
  simp [hn, e1]
  refine ⟨fun h => absurd h (by omega), ?_⟩
  refine ⟨fun h0 => ?_, fun h0 => ?_⟩
  · refine appZ ok rfl rfl rfl rfl rfl rfl rfl rfl rfl rfl rfl rfl h0 (by show n * 1 ≤ _; omega) (by omega) fun g c hc => ?_
    simp [hn]
    refine shrinkR 22 0 rfl (Nat.zero_le _) (fun h => by cases h) ?_
    simp
    exact retS hC (some ⟨g, 0, none⟩, c) [22] rfl (by simp) fun W _ _ => trivial
  · exact nilR 22 5 1 (retS hC (none, 0) [22] rfl (by simp) fun W _ _ => trivial)
def sumL (xss : List (List Int)) (i : Nat) : Nat := (xss.take i).flatten.length
theorem sumL_succ (xss : List (List Int)) (i : Nat) (h : i < xss.length) : sumL xss (i + 1) = sumL xss i + xss[i].length := by
  simp only [sumL, List.take_add_one, List.flatten_append, List.length_append, List.getElem?_eq_getElem h]
  simp
theorem sumL_le (xss : List (List Int)) (i : Nat) : sumL xss i ≤ xss.flatten.length := by
  have : xss.flatten = (xss.take i).flatten ++ (xss.drop i).flatten := by rw [← List.flatten_append, List.take_append_drop]
  rw [this, List.length_append]
  exact Nat.le_add_right _ _
theorem concat0 (w : World) (I : Nat → Prop) (hI : ∀ b, I b → b < w.heap.size) (xss : List (List Int)) (s : Sl) (h : ∀ W, Ext I w W → s.ok dBs W xss) (hN : xss.flatten.length ≤ 100000000000) (h0 : 0 < xss.length) :
    Fn0 Try.prog 135 #[.slice s.1 xss.length s.2] w I (fun x : Sl => .slice x.1 xss.flatten.length x.2) (fun x W => x.ok dByte W xss.flatten) := by
  obtain ⟨b, off, e⟩ := (h w (Ext.refl _ _)).2.2.is_some h0
  have hk := (h w (Ext.refl _ _)).2.1
  obtain ⟨a, c⟩ := s
  cases e
  refine enter (svs := [.c (.v (.slice (some ⟨b, off, none⟩) xss.length c))]) tysOk Try.func135 rfl Try.ntmps135 Try.results135 (by kernel_rfl) (by simp) hI (fun W => Sl.ok dBs W (some ⟨b, off, none⟩, c) xss) h fun C hC hn ok => ?_
  simp [hn]
  have ld : ∀ (i : Nat) (hlt : i < xss.length) (W : World), Sl.ok dBs W (some ⟨b, off, none⟩, c) xss → ∃ v, W.cell? ⟨b, off + i, none⟩ = some v ∧ slQ dByte xss[i] v W := fun i hlt W hW => by
    obtain ⟨cs, ⟨s, rfl, hs⟩, _, hc⟩ := hW.2.2.get hlt
    exact ⟨_, by simpa [dBs] using hc 0 _ rfl, s, rfl, hs⟩
  have e2 : ∀ i, i < xss.length → IntKind.i64.wrap ((i : Int) + 1) = (i + 1 : Nat) := fun i h => by rw [w64 (by omega) (by omega)]; omega
  have ht : ∀ i (hlt : i < xss.length), (xss.take (i + 1)).flatten = (xss.take i).flatten ++ xss[i] := fun i hlt => by
    rw [List.take_add_one, List.getElem?_eq_getElem hlt, List.flatten_append]
    simp only [Option.toList, List.flatten_cons, List.flatten_nil, List.append_nil]
  refine loop ok (fun i => [(11, .c (.v (.int .i64 (i : Nat)))), (3, .c (.v (.int .i64 (sumL xss i))))]) (fun _ => []) (fun i W => i ≤ xss.length) (fun i => xss.length - i) 0 ?_ ?_ (fun W _ => Nat.zero_le _) fun i W hi hG next => ?_
  · simp [sumL]
  · simp
  simp [hn]
  refine ⟨fun hlt => ?_, fun hge => ?_⟩
  · refine ⟨hlt, load1 ok rfl rfl rfl rfl (slQ dByte xss[i]) (fun W hW => ld i hlt W hW.2) ?_⟩
    · rintro v W ⟨s, rfl, hs⟩ hG
      have e1 : IntKind.i64.wrap ((sumL xss i : Int) + xss[i].length) = sumL xss (i + 1) := by
        have h1 := sumL_succ xss i hlt
        have h2 := sumL_le xss (i + 1)
        rw [w64 (by omega) (by omega)]
        omega
      simp [hn, e1, e2 i hlt]
      refine ⟨fun h => absurd h (by omega), next (i + 1) _ _ (by omega) (fun W h => ⟨hlt, h.2.2⟩) ?_⟩
      simp
  · have hi' : i = xss.length := by omega
    subst hi'
    refine callS ok rfl rfl rfl [] [] trivial rfl (fun x : Sl => [(600, .row x.1 0 x.2 5 1 [])]) (fun w I S hI hG hO hS => (grow0 w I hI (sumL xss xss.length) (Nat.le_trans (sumL_le _ _) hN)).lone hO) ?_ (.inl fun k hk => by cases hk) fun x W _ => ?_
    · simp
    · simp [hn]
      refine loop ok (fun a : Nat × Sl => [(27, .c (.v (.int .i64 (a.1 : Nat)))), (6, .c (.v (.slice a.2.1 (sumL xss a.1) a.2.2)))]) (fun a => [(600, .row a.2.1 (sumL xss a.1) a.2.2 5 1 (bC (xss.take a.1).flatten))]) (fun a W => a.1 ≤ xss.length) (fun a => xss.length - a.1) (0, x) ?_ ?_ (fun W _ => Nat.zero_le _) ?_
      · simp [sumL]
      · simp [sumL, bC]
      · rintro ⟨i, r⟩ W hi2 hG2 next2
        simp [hn]
        refine ⟨fun hlt => ?_, fun hge => ?_⟩
        · refine ⟨hlt, load1 ok rfl rfl rfl rfl (slQ dByte xss[i]) (fun W hW => ld i hlt W hW.2) ?_⟩
          rintro v W ⟨⟨a', c'⟩, rfl, hs⟩ hG
          have hu := sumL_succ xss i hlt
          have hm := sumL_le xss (i + 1)
          by_cases hx : xss[i] = []
          · simp [hn, hx]
            refine rowLe 600 rfl fun hle => app0 ok rfl rfl rfl rfl rfl rfl rfl hle rfl rfl ?_
            simp [hn, e2 i hlt]
            refine next2 (i + 1, r) _ _ (by simp; omega) (fun W h => ⟨hlt, h.2.2⟩) ?_
            simp [hu, ht i hlt, hx]
          · have h1 : 0 < xss[i].length := List.length_pos_iff.2 hx
            obtain ⟨b', o', e'⟩ := hs.2.2.is_some h1
            cases e'
            simp [hn]
            refine appI ok 600 rfl rfl rfl rfl rfl (by decide) rfl rfl rfl rfl rfl rfl h1 (by show _ * 1 ≤ _; omega) (by omega) (fun l W => l = xss[i].map (.int .u8)) (fun W hW => ?_) fun l g' c'' W hq _ => ?_
            · obtain ⟨l, k1, k2, k3⟩ := hW.1.get.2.2.2.all_rows
              exact ⟨l, k1.1, k2, k3, rows_byte.1 k1⟩
            · subst hq
              simp [hn, e2 i hlt]
              refine next2 (i + 1, (some ⟨g', 0, none⟩, c'')) _ _ (by simp; omega) (fun W h => ⟨hlt, h.2.2⟩) ?_
              simp [hu, ht i hlt, ← bC_nv]
        · have hi' : i = xss.length := by simp only at hi2; omega
          subst hi'
          have hfl : (xss.take xss.length).flatten = xss.flatten := by rw [List.take_length]
          refine ret0 hC r (by simp [sumL, hfl]) fun W hp hG => ?_
          simp only [pubs, Res.fact, bC_val, hfl] at hp
          obtain ⟨k1, k2, k3⟩ := (rows_byte.2 rfl : Rows dByte W xss.flatten _).rd hp.1 (by decide)
          exact ⟨by omega, hN, k3⟩
end Go.Proofs.Ytfmkpkmhhlakoaa.Sx

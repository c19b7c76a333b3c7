/- The reference's Numbers: what is open, sorted as it is met. -/
import Derived.Test.YtfmkpkmhhlakoaaRef
set_option linter.unusedVariables false
set_option linter.unusedSimpArgs false
namespace Go.Proofs.Ytfmkpkmhhlakoaa.Tab
open Go.RowKit Go.Proofs.Ytfmkpkmhhlakoaa.Mx

/-- The numbers of the first i places, rising, each once. -/
def Upto (f : Int → Op) (i : Nat) (zs : List Int) : Prop := zs.Pairwise (fun a b => a < b) ∧ ∀ x, x ∈ zs ↔ x ≠ 0 ∧ ∃ j : Nat, j < i ∧ (f (j : Int)).no = x
theorem Upto.skip {f : Int → Op} {i : Nat} {zs : List Int} (h : Upto f i zs) (hc : (f (i : Int)).no = 0 ∨ (f (i : Int)).no ∈ zs) : Upto f (i + 1) zs := by
  refine ⟨h.1, fun x => (h.2 x).trans ⟨fun ⟨h1, j, hj, e⟩ => ⟨h1, j, by omega, e⟩, fun ⟨h1, j, hj, e⟩ => ?_⟩⟩
  by_cases c : j = i
  · subst c
    rcases hc with hc | hc
    · exact absurd (e.symm.trans hc) h1
    · rw [e] at hc; exact (h.2 x).1 hc
  · exact ⟨h1, j, by omega, e⟩
theorem Upto.lay {f : Int → Op} {i k : Nat} {zs : List Int} (h : Upto f i zs) (h0 : (f (i : Int)).no ≠ 0) (hk : k ≤ zs.length) (h1 : ∀ j, j < k → zs.getD j 0 < (f (i : Int)).no) (h2 : k < zs.length → (f (i : Int)).no < zs.getD k 0) :
    Upto f (i + 1) (zs.take k ++ [(f (i : Int)).no] ++ zs.drop k) := by
  refine ⟨Ints.insert_lt hk h.1 h1 h2, fun x => ?_⟩
  rw [Ints.insert_mem, h.2]
  constructor
  · rintro (rfl | ⟨a, j, hj, e⟩)
    · exact ⟨h0, i, by omega, rfl⟩
    · exact ⟨a, j, by omega, e⟩
  · rintro ⟨a, j, hj, e⟩
    by_cases c : j = i
    · subst c; exact .inl e.symm
    · exact .inr ⟨a, j, by omega, e⟩
def RNumsOk (w : World) (f : Int → Op) (e : Ending) (w' : World) : Prop := ∃ v zs, e = .returned v ∧ Upto f 16 zs ∧ zs.length ≤ 16 ∧ w'.ownsRow w.heap.size 3 1 v zs.length (zs.map (Value.int .i64)) ∧ w.grownBy w' none

structure Laid (w : World) (rb : Nat) (f : Int → Op) (v : Value) (zs : List Int) (w' : World) : Prop where
  ref : RefAt w' rb f
  own : w'.ownsRow w.heap.size 3 1 v zs.length (zs.map (Value.int .i64))
  grown : w.grownBy w' none

set_option maxHeartbeats 4000000 in
set_option maxRecDepth 100000 in
theorem rnumbers_any (w : World) (rb : Nat) (f : Int → Op) (h : RefAt w rb f) : Calls Try.prog 43 #[.pointer (some ⟨rb, 0, none⟩)] w (RNumsOk w f) := by
  obtain ⟨i0, hi, hz0, hz1, hz2⟩ := info_parts infoInt
  go_enter Try.func43, Try.ntmps43
  go_wp2
  go_loopw [3, 4] (fun v i wr => ∃ (i1 : Nat) (zs : List Int), i = .int .i64 i1 ∧ i1 ≤ 16 ∧ zs.length ≤ i1 ∧ Upto f i1 zs ∧ RefAt wr rb f ∧ wr.ownsRow w.heap.size 3 1 v zs.length (zs.map (Value.int .i64)) ∧ w.grownBy wr none) (fun _ i _ => 16 - (intOf i).toNat)
  case atStart => exact ⟨0, [], rfl, by omega, by simp, ⟨List.Pairwise.nil, fun x => by simp⟩, h, World.ownsRow_nil _ _ _ _, ⟨rfl, rfl, rfl, Nat.le_refl _, fun _ _ _ => rfl⟩⟩
  case round =>
    obtain ⟨i1, zs, rfl, hi16, hzl, hup, hR, hown, hg⟩ := hrel
    have Hup := Lib.hid hup
    clear hup
    by_cases hlt : i1 < 16
    · have c0 := hR.c0 i1 hlt
      by_cases hz : (f (i1 : Int)).no = 0
      · have hup2 := Hup.out.skip (.inl hz)
        rw [hz] at c0
        have HU := Lib.hid hup2
        clear hz hup2
        go_wp2
        go_roundw
        case rel => exact ⟨i1 + 1, zs, by go_num, by omega, by omega, HU.out, hR, hown, hg⟩
        case measure => simp [intOf]; omega
      · obtain ⟨a, c, rfl, hrd⟩ := Ints.rd_own hown
        have hzb : ((f (i1 : Int)).no == 0) = false := by simpa using hz
        by_cases hin : (f (i1 : Int)).no ∈ zs
        · have hup2 := Hup.out.skip (.inr hin)
          have hI := fun wx hx => Ints.in_any a zs.length c zs (f (i1 : Int)).no wx hx (by omega)
          simp only [hin, decide_true] at hI
          have HI := Lib.hid hI
          have HU := Lib.hid hup2
          clear hI hup2 hz hin
          go_wp2_with fail
          refine (HI.out wr hrd).mono ?_
          rintro e w3 ⟨rfl, rfl⟩
          go_wp2
          go_roundw
          case rel => exact ⟨i1 + 1, zs, by go_num, by omega, by omega, HU.out, hR, hown, hg⟩
          case measure => simp [intOf]; omega
        · have hI := fun wx hx => Ints.in_any a zs.length c zs (f (i1 : Int)).no wx hx (by omega)
          simp only [hin, decide_false] at hI
          have HI := Lib.hid hI
          have hlay := fun k hk h1 h2 => Hup.out.lay (k := k) hz hk h1 h2
          have HL := Lib.hid hlay
          have Hin := Lib.hid hin
          clear hI hlay hz hin
          generalize hno : (f (i1 : Int)).no = no at *
          have Hno := Lib.hid hno
          clear hno
          go_wp2_with fail
          refine (HI.out wr hrd).mono ?_
          rintro e wo ⟨rfl, rfl⟩
          go_wp2
          go_loopw [6] (fun k wr => ∃ k1 : Nat, k = .int .i64 k1 ∧ k1 ≤ zs.length ∧ (∀ j, j < k1 → zs.getD j 0 < no) ∧ wo = wr) (fun k _ => zs.length - (intOf k).toNat)
          case atStart => exact ⟨0, rfl, Nat.zero_le _, fun j hj => absurd hj (Nat.not_lt_zero _), by first | rfl | trivial⟩
          case round =>
            obtain ⟨k1, rfl, hk1, hsm, rfl⟩ := hrel
            have Hsm := Lib.hid hsm
            clear hsm
            by_cases hk2 : k1 < zs.length
            · have hcx : ∃ b off, a = some ⟨b, off, none⟩ ∧ wo.cell? ⟨b, off + k1, none⟩ = some (.int .i64 (zs.getD k1 0)) := by
                obtain ⟨b, off, e, hc⟩ := hrd.2 (by omega)
                exact ⟨b, off, e, hc k1 hk2⟩
              by_cases hk3 : zs.getD k1 0 < no
              · obtain ⟨b, off, rfl, hcx⟩ := hcx
                have hYno : zs.getD k1 0 < no := hk3
                have HY := Lib.hid hYno
                clear hYno
                generalize zs.getD k1 0 = Y at hcx hk3
                go_wp2
                go_roundw
                case rel => exact ⟨k1 + 1, by go_num, by omega, fun j hj => by
                  by_cases e : j = k1
                  · rw [e]; exact HY.out
                  · exact Hsm.out j (by omega), by first | rfl | trivial⟩
                case measure => simp [intOf]; omega
              · have hk4 : no < zs.getD k1 0 := by
                  have hne : zs.getD k1 0 ≠ no := fun e => Hin.out (by
                    rw [← e]
                    simp [List.getD, hk2])
                  omega
                have hup2 := HL.out k1 hk1 Hsm.out (fun _ => hk4)
                have Hup2 := Lib.hid hup2
                clear hup2 hk4
                obtain ⟨b, off, rfl, hcx⟩ := hcx
                generalize zs.getD k1 0 = Y at hcx hk3
                obtain ⟨g, cap, cur, e, hn1⟩ : ∃ g cap cur, Value.slice (some ⟨b, off, none⟩) zs.length c = .slice (some ⟨g, 0, none⟩) zs.length cap ∧ zs.length ≤ cap ∧ cur = cap := by
                  rcases hown.2 with ⟨e, _⟩ | ⟨g, cap, cur, e, _, _, hn1, _⟩
                  · cases e
                  · exact ⟨g, cap, cap, e, hn1, rfl⟩
                injection e with e1 _ e2
                injection e1 with e1
                injection e1 with e1 e3
                subst e1 e2 e3
                rw [Nat.zero_add] at hcx
                have hk1c : k1 ≤ c := by omega
                have hk1n : ¬ c = k1 := by omega
                go_wp2_with fail
                have hO0 := App.grownBy_drew wo
                have hsA : ∀ W, wo.grownBy W none → App.Src W (some ⟨b, 0, none⟩) k1 c ((zs.take k1).map (Value.int .i64)) := fun W hW =>
                  (App.src_row hown 0 k1 c _ (by simp) _ (.inr rfl)).kept hW (by simp)
                have hsB : ∀ W, wo.grownBy W none → App.Src W (some ⟨b, k1, none⟩) (zs.length - k1) (c - k1) ((zs.drop k1).map (Value.int .i64)) := fun W hW =>
                  (App.src_row hown k1 (zs.length - k1) (c - k1) _ (by rw [List.take_of_length_le (by simp)]; simp) _ (.inr rfl)).kept hW (by simp)
                have hone : ∀ l : List Int, ∀ u ∈ l.map (Value.int .i64), u.oneCell' = true := fun l u hu => by
                  obtain ⟨x, _, rfl⟩ := List.mem_map.1 hu
                  rfl
                clear hrd hown
                go_region_law (first
                  | (refine App.step_append_any _ rfl (.const (.slice none 0 0)) (.tmp 41) 22 rfl wo.heap.size 3 i0 (.int .i64 0) 1 8 Try.underlying22 hi hz0 hz1 hz2 rfl (by decide) (.slice none 0 0) 0 [] ?_ (App.own_nil _ _ _ _) (some ⟨b, 0, none⟩) k1 c ((zs.take k1).map (Value.int .i64)) ?_ ?_ (hsA _ ?_) (hone _) ?_ ?_ ?_ ?_; (focus (first | (go_simp; done) | rfl)); (focus (first | (go_simp; done) | rfl)); (focus (simp <;> omega)); (focus (first | with_reducible exact hO0 | with_reducible exact (World.grownBy_alloc _ _ none).trans (App.grownBy_drew _))); (focus (unfold maxLen; omega)); (focus omega); (focus simp); intro v1 w1 ho1 hg1'; rw [List.nil_append] at ho1; have hg1 : World.grownBy _ w1 none := hg1'; clear hg1'; have hO1 : wo.grownBy w1 none := (by first | with_reducible exact hO0.trans hg1 | with_reducible exact ((World.grownBy_alloc _ _ none).trans (App.grownBy_drew _)).trans hg1))
                  | (refine App.step_append_any _ rfl (.tmp 42) (.tmp 44) 22 rfl wo.heap.size 3 i0 (.int .i64 0) 1 8 Try.underlying22 hi hz0 hz1 hz2 rfl (by decide) v1 (0 + k1) ((zs.take k1).map (Value.int .i64)) ?_ ?_ _ 1 1 [.int .i64 no] rfl rfl ?_ (hone [no]) ?_ ?_ ?_ ?_; (focus (first | (go_simp; done) | rfl)); (focus (first | with_reducible exact ho1 | with_reducible exact ho1.alloc _)); (focus (first | with_reducible exact App.src_new _ _ _ | exact ((App.src_new wo (.int .i64 no) 3).kept (App.grownBy_drew _) (by simp)).kept hg1 (by simp))); (focus (unfold maxLen; omega)); (focus omega); (focus (have := hO1.size; first | exact this | (simp <;> omega))); intro v2 w2 ho2 hg2; have hob1 := ho1.lt; have hO2 : wo.grownBy w2 none := (by first | with_reducible exact hO1.andThen hg2 (fun j hj => .inl (hob1 j hj).1) | with_reducible exact (hO1.trans (World.grownBy_alloc _ _ none)).andThen hg2 (fun j hj => .inl (hob1 j hj).1)))
                  | (refine App.step_append_any _ rfl (.tmp 45) (.tmp 48) 22 rfl wo.heap.size 3 i0 (.int .i64 0) 1 8 Try.underlying22 hi hz0 hz1 hz2 rfl (by decide) v2 (0 + k1 + 1) _ ?_ ho2 (some ⟨b, k1, none⟩) (zs.length - k1) (c - k1) ((zs.drop k1).map (Value.int .i64)) ?_ ?_ (hsB _ hO2) (hone _) ?_ ?_ hO2.size ?_; (focus (first | (go_simp; done) | rfl)); (focus (first | (go_simp; done) | rfl)); (focus simp); (focus (unfold maxLen; omega)); (focus omega); intro v3 w3 ho3 hg3; have hob2 := ho2.lt; have hO3 : wo.grownBy w3 none := hO2.andThen hg3 (fun j hj => .inl (hob2 j hj).1); have hL : Laid w rb f v3 (zs.take k1 ++ [no] ++ zs.drop k1) w3 := ⟨hR.kept hO3 (by simp), ownsRow_base_le (by have e2 : (zs.take k1 ++ [no] ++ zs.drop k1).length = 0 + k1 + 1 + (zs.length - k1) := (by simp <;> omega); rw [e2]; simpa using ho3) hg.size, hg.trans hO3⟩; clear hob1 hob2 ho1 ho2 ho3 hg1 hg2 hg3 hO1 hO2 hO3))
                all_goals
                  have hL := ‹Laid w rb f _ _ _›
                  have e2 : (zs.take k1 ++ [no] ++ zs.drop k1).length = zs.length + 1 := by simp <;> omega
                  have HE := Lib.hid e2
                  clear e2
                  go_wp2
                  go_roundw
                  case rel => exact ⟨i1 + 1, _, by go_num, by omega, by rw [HE.out]; omega, Hup2.out, hL.ref, hL.own, hL.grown⟩
                  case measure => simp [intOf]; omega
            · have hk3 : zs.length ≤ k1 := by omega
              have hup2 := HL.out k1 hk1 Hsm.out (fun h => absurd h hk2)
              have Hup2 := Lib.hid hup2
              clear hup2
              rcases hown.2 with ⟨e, h0⟩ | ⟨g, cap, cur, e, _, _, hn1, _⟩
              · have hz0 : zs = [] := List.eq_nil_of_length_eq_zero h0
                have hk0 : k1 = 0 := by omega
                injection e with e1 e2 e3
                subst e1 e3 hz0 hk0
                clear e2 h0
                go_wp2_with fail
                have hO0 := App.grownBy_drew wo
                have hsA : ∀ W, wo.grownBy W none → App.Src W none 0 0 (([].take 0).map (Value.int .i64)) := fun W hW => .inl ⟨rfl, rfl, rfl⟩
                have hsB : ∀ W, wo.grownBy W none → App.Src W none (([] : List Int).length - 0) 0 (([].drop 0).map (Value.int .i64)) := fun W hW => .inl ⟨rfl, rfl, rfl⟩
                have hone : ∀ l : List Int, ∀ u ∈ l.map (Value.int .i64), u.oneCell' = true := fun l u hu => by
                  obtain ⟨x, _, rfl⟩ := List.mem_map.1 hu
                  rfl
                go_region_law (first
                  | (refine App.step_append_any _ rfl (.const (.slice none 0 0)) (.tmp 41) 22 rfl wo.heap.size 3 i0 (.int .i64 0) 1 8 Try.underlying22 hi hz0 hz1 hz2 rfl (by decide) (.slice none 0 0) 0 [] ?_ (App.own_nil _ _ _ _) none 0 0 ((([] : List Int).take 0).map (Value.int .i64)) ?_ ?_ (hsA _ ?_) (hone _) ?_ ?_ ?_ ?_; (focus (first | (go_simp; done) | rfl)); (focus (first | (go_simp; done) | rfl)); (focus (simp <;> omega)); (focus (first | with_reducible exact hO0 | with_reducible exact (World.grownBy_alloc _ _ none).trans (App.grownBy_drew _))); (focus (unfold maxLen; omega)); (focus omega); (focus simp); intro v1 w1 ho1 hg1'; rw [List.nil_append] at ho1; have hg1 : World.grownBy _ w1 none := hg1'; clear hg1'; have hO1 : wo.grownBy w1 none := (by first | with_reducible exact hO0.trans hg1 | with_reducible exact ((World.grownBy_alloc _ _ none).trans (App.grownBy_drew _)).trans hg1))
                  | (refine App.step_append_any _ rfl (.tmp 42) (.tmp 44) 22 rfl wo.heap.size 3 i0 (.int .i64 0) 1 8 Try.underlying22 hi hz0 hz1 hz2 rfl (by decide) v1 (0 + 0) ((([] : List Int).take 0).map (Value.int .i64)) ?_ ?_ _ 1 1 [.int .i64 no] rfl rfl ?_ (hone [no]) ?_ ?_ ?_ ?_; (focus (first | (go_simp; done) | rfl)); (focus (first | with_reducible exact ho1 | with_reducible exact ho1.alloc _)); (focus (first | with_reducible exact App.src_new _ _ _ | exact ((App.src_new wo (.int .i64 no) 3).kept (App.grownBy_drew _) (by simp)).kept hg1 (by simp))); (focus (unfold maxLen; omega)); (focus omega); (focus (have := hO1.size; first | exact this | (simp <;> omega))); intro v2 w2 ho2 hg2; have hob1 := ho1.lt; have hO2 : wo.grownBy w2 none := (by first | with_reducible exact hO1.andThen hg2 (fun j hj => .inl (hob1 j hj).1) | with_reducible exact (hO1.trans (World.grownBy_alloc _ _ none)).andThen hg2 (fun j hj => .inl (hob1 j hj).1)))
                  | (refine App.step_append_any _ rfl (.tmp 45) (.tmp 48) 22 rfl wo.heap.size 3 i0 (.int .i64 0) 1 8 Try.underlying22 hi hz0 hz1 hz2 rfl (by decide) v2 (0 + 0 + 1) _ ?_ ho2 none (([] : List Int).length - 0) 0 ((([] : List Int).drop 0).map (Value.int .i64)) ?_ ?_ (hsB _ hO2) (hone _) ?_ ?_ hO2.size ?_; (focus (first | (go_simp; done) | rfl)); (focus (first | (go_simp; done) | rfl)); (focus simp); (focus (unfold maxLen; omega)); (focus omega); intro v3 w3 ho3 hg3; have hob2 := ho2.lt; have hO3 : wo.grownBy w3 none := hO2.andThen hg3 (fun j hj => .inl (hob2 j hj).1); have hL : Laid w rb f v3 (([] : List Int).take 0 ++ [no] ++ ([] : List Int).drop 0) w3 := ⟨hR.kept hO3 (by simp), ownsRow_base_le (by have e2 : (([] : List Int).take 0 ++ [no] ++ ([] : List Int).drop 0).length = 0 + 0 + 1 + (([] : List Int).length - 0) := (by simp <;> omega); rw [e2]; simpa using ho3) hg.size, hg.trans hO3⟩; clear hob1 hob2 ho1 ho2 ho3 hg1 hg2 hg3 hO1 hO2 hO3))
                all_goals
                  have hL := ‹Laid w rb f _ _ _›
                  have e2 : (([] : List Int).take 0 ++ [no] ++ ([] : List Int).drop 0).length = ([] : List Int).length + 1 := by simp <;> omega
                  have HE := Lib.hid e2
                  clear e2
                  go_wp2
                  go_roundw
                  case rel => exact ⟨i1 + 1, _, by go_num, by omega, by rw [HE.out]; omega, Hup2.out, hL.ref, hL.own, hL.grown⟩
                  case measure => simp [intOf]; omega
              · injection e with e1 _ e2
                subst e1 e2
                have hk1c : k1 ≤ c := by omega
                by_cases hcc : c = k1
                · subst hcc
                  go_wp2_with fail
                  have hO0 := App.grownBy_drew wo
                  have hsA : ∀ W, wo.grownBy W none → App.Src W (some ⟨g, 0, none⟩) c c ((zs.take c).map (Value.int .i64)) := fun W hW =>
                    (App.src_row hown 0 c c _ (by simp) _ (.inr rfl)).kept hW (by simp)
                  have hsB : ∀ W, wo.grownBy W none → App.Src W (some ⟨g, 0, none⟩) (zs.length - c) (c - c) ((zs.drop c).map (Value.int .i64)) := fun W hW =>
                    (App.src_row hown c (zs.length - c) (c - c) _ (by rw [List.take_of_length_le (by simp)]; simp) _ (.inl (by omega))).kept hW (by simp)
                  have hone : ∀ l : List Int, ∀ u ∈ l.map (Value.int .i64), u.oneCell' = true := fun l u hu => by
                    obtain ⟨x, _, rfl⟩ := List.mem_map.1 hu
                    rfl
                  clear hrd hown
                  go_region_law (first
                    | (refine App.step_append_any _ rfl (.const (.slice none 0 0)) (.tmp 41) 22 rfl wo.heap.size 3 i0 (.int .i64 0) 1 8 Try.underlying22 hi hz0 hz1 hz2 rfl (by decide) (.slice none 0 0) 0 [] ?_ (App.own_nil _ _ _ _) (some ⟨g, 0, none⟩) c c ((zs.take c).map (Value.int .i64)) ?_ ?_ (hsA _ ?_) (hone _) ?_ ?_ ?_ ?_; (focus (first | (go_simp; done) | rfl)); (focus (first | (go_simp; done) | rfl)); (focus (simp <;> omega)); (focus (first | with_reducible exact hO0 | with_reducible exact (World.grownBy_alloc _ _ none).trans (App.grownBy_drew _))); (focus (unfold maxLen; omega)); (focus omega); (focus simp); intro v1 w1 ho1 hg1'; rw [List.nil_append] at ho1; have hg1 : World.grownBy _ w1 none := hg1'; clear hg1'; have hO1 : wo.grownBy w1 none := (by first | with_reducible exact hO0.trans hg1 | with_reducible exact ((World.grownBy_alloc _ _ none).trans (App.grownBy_drew _)).trans hg1))
                    | (refine App.step_append_any _ rfl (.tmp 42) (.tmp 44) 22 rfl wo.heap.size 3 i0 (.int .i64 0) 1 8 Try.underlying22 hi hz0 hz1 hz2 rfl (by decide) v1 (0 + c) ((zs.take c).map (Value.int .i64)) ?_ ?_ _ 1 1 [.int .i64 no] rfl rfl ?_ (hone [no]) ?_ ?_ ?_ ?_; (focus (first | (go_simp; done) | rfl)); (focus (first | with_reducible exact ho1 | with_reducible exact ho1.alloc _)); (focus (first | with_reducible exact App.src_new _ _ _ | exact ((App.src_new wo (.int .i64 no) 3).kept (App.grownBy_drew _) (by simp)).kept hg1 (by simp))); (focus (unfold maxLen; omega)); (focus omega); (focus (have := hO1.size; first | exact this | (simp <;> omega))); intro v2 w2 ho2 hg2; have hob1 := ho1.lt; have hO2 : wo.grownBy w2 none := (by first | with_reducible exact hO1.andThen hg2 (fun j hj => .inl (hob1 j hj).1) | with_reducible exact (hO1.trans (World.grownBy_alloc _ _ none)).andThen hg2 (fun j hj => .inl (hob1 j hj).1)))
                    | (refine App.step_append_any _ rfl (.tmp 45) (.tmp 48) 22 rfl wo.heap.size 3 i0 (.int .i64 0) 1 8 Try.underlying22 hi hz0 hz1 hz2 rfl (by decide) v2 (0 + c + 1) _ ?_ ho2 (some ⟨g, 0, none⟩) (zs.length - c) (c - c) ((zs.drop c).map (Value.int .i64)) ?_ ?_ (hsB _ hO2) (hone _) ?_ ?_ hO2.size ?_; (focus (first | (go_simp; done) | rfl)); (focus (first | (go_simp; done) | rfl)); (focus simp); (focus (unfold maxLen; omega)); (focus omega); intro v3 w3 ho3 hg3; have hob2 := ho2.lt; have hO3 : wo.grownBy w3 none := hO2.andThen hg3 (fun j hj => .inl (hob2 j hj).1); have hL : Laid w rb f v3 (zs.take c ++ [no] ++ zs.drop c) w3 := ⟨hR.kept hO3 (by simp), ownsRow_base_le (by have e2 : (zs.take c ++ [no] ++ zs.drop c).length = 0 + c + 1 + (zs.length - c) := (by simp <;> omega); rw [e2]; simpa using ho3) hg.size, hg.trans hO3⟩; clear hob1 hob2 ho1 ho2 ho3 hg1 hg2 hg3 hO1 hO2 hO3))
                  all_goals
                    have hL := ‹Laid w rb f _ _ _›
                    have e2 : (zs.take c ++ [no] ++ zs.drop c).length = zs.length + 1 := by simp <;> omega
                    have HE := Lib.hid e2
                    clear e2
                    go_wp2
                    go_roundw
                    case rel => exact ⟨i1 + 1, _, by go_num, by omega, by rw [HE.out]; omega, Hup2.out, hL.ref, hL.own, hL.grown⟩
                    case measure => simp [intOf]; omega
                · go_wp2_with fail
                  have hO0 := App.grownBy_drew wo
                  have hsA : ∀ W, wo.grownBy W none → App.Src W (some ⟨g, 0, none⟩) k1 c ((zs.take k1).map (Value.int .i64)) := fun W hW =>
                    (App.src_row hown 0 k1 c _ (by simp) _ (.inr rfl)).kept hW (by simp)
                  have hsB : ∀ W, wo.grownBy W none → App.Src W (some ⟨g, k1, none⟩) (zs.length - k1) (c - k1) ((zs.drop k1).map (Value.int .i64)) := fun W hW =>
                    (App.src_row hown k1 (zs.length - k1) (c - k1) _ (by rw [List.take_of_length_le (by simp)]; simp) _ (.inr rfl)).kept hW (by simp)
                  have hone : ∀ l : List Int, ∀ u ∈ l.map (Value.int .i64), u.oneCell' = true := fun l u hu => by
                    obtain ⟨x, _, rfl⟩ := List.mem_map.1 hu
                    rfl
                  clear hrd hown
                  go_region_law (first
                    | (refine App.step_append_any _ rfl (.const (.slice none 0 0)) (.tmp 41) 22 rfl wo.heap.size 3 i0 (.int .i64 0) 1 8 Try.underlying22 hi hz0 hz1 hz2 rfl (by decide) (.slice none 0 0) 0 [] ?_ (App.own_nil _ _ _ _) (some ⟨g, 0, none⟩) k1 c ((zs.take k1).map (Value.int .i64)) ?_ ?_ (hsA _ ?_) (hone _) ?_ ?_ ?_ ?_; (focus (first | (go_simp; done) | rfl)); (focus (first | (go_simp; done) | rfl)); (focus (simp <;> omega)); (focus (first | with_reducible exact hO0 | with_reducible exact (World.grownBy_alloc _ _ none).trans (App.grownBy_drew _))); (focus (unfold maxLen; omega)); (focus omega); (focus simp); intro v1 w1 ho1 hg1'; rw [List.nil_append] at ho1; have hg1 : World.grownBy _ w1 none := hg1'; clear hg1'; have hO1 : wo.grownBy w1 none := (by first | with_reducible exact hO0.trans hg1 | with_reducible exact ((World.grownBy_alloc _ _ none).trans (App.grownBy_drew _)).trans hg1))
                    | (refine App.step_append_any _ rfl (.tmp 42) (.tmp 44) 22 rfl wo.heap.size 3 i0 (.int .i64 0) 1 8 Try.underlying22 hi hz0 hz1 hz2 rfl (by decide) v1 (0 + k1) ((zs.take k1).map (Value.int .i64)) ?_ ?_ _ 1 1 [.int .i64 no] rfl rfl ?_ (hone [no]) ?_ ?_ ?_ ?_; (focus (first | (go_simp; done) | rfl)); (focus (first | with_reducible exact ho1 | with_reducible exact ho1.alloc _)); (focus (first | with_reducible exact App.src_new _ _ _ | exact ((App.src_new wo (.int .i64 no) 3).kept (App.grownBy_drew _) (by simp)).kept hg1 (by simp))); (focus (unfold maxLen; omega)); (focus omega); (focus (have := hO1.size; first | exact this | (simp <;> omega))); intro v2 w2 ho2 hg2; have hob1 := ho1.lt; have hO2 : wo.grownBy w2 none := (by first | with_reducible exact hO1.andThen hg2 (fun j hj => .inl (hob1 j hj).1) | with_reducible exact (hO1.trans (World.grownBy_alloc _ _ none)).andThen hg2 (fun j hj => .inl (hob1 j hj).1)))
                    | (refine App.step_append_any _ rfl (.tmp 45) (.tmp 48) 22 rfl wo.heap.size 3 i0 (.int .i64 0) 1 8 Try.underlying22 hi hz0 hz1 hz2 rfl (by decide) v2 (0 + k1 + 1) _ ?_ ho2 (some ⟨g, k1, none⟩) (zs.length - k1) (c - k1) ((zs.drop k1).map (Value.int .i64)) ?_ ?_ (hsB _ hO2) (hone _) ?_ ?_ hO2.size ?_; (focus (first | (go_simp; done) | rfl)); (focus (first | (go_simp; done) | rfl)); (focus simp); (focus (unfold maxLen; omega)); (focus omega); intro v3 w3 ho3 hg3; have hob2 := ho2.lt; have hO3 : wo.grownBy w3 none := hO2.andThen hg3 (fun j hj => .inl (hob2 j hj).1); have hL : Laid w rb f v3 (zs.take k1 ++ [no] ++ zs.drop k1) w3 := ⟨hR.kept hO3 (by simp), ownsRow_base_le (by have e2 : (zs.take k1 ++ [no] ++ zs.drop k1).length = 0 + k1 + 1 + (zs.length - k1) := (by simp <;> omega); rw [e2]; simpa using ho3) hg.size, hg.trans hO3⟩; clear hob1 hob2 ho1 ho2 ho3 hg1 hg2 hg3 hO1 hO2 hO3))
                  all_goals
                    have hL := ‹Laid w rb f _ _ _›
                    have e2 : (zs.take k1 ++ [no] ++ zs.drop k1).length = zs.length + 1 := by simp <;> omega
                    have HE := Lib.hid e2
                    clear e2
                    go_wp2
                    go_roundw
                    case rel => exact ⟨i1 + 1, _, by go_num, by omega, by rw [HE.out]; omega, Hup2.out, hL.ref, hL.own, hL.grown⟩
                    case measure => simp [intOf]; omega
    · have hi16' : i1 = 16 := by omega
      subst hi16'
      go_wp2
      go_ret
      exact ⟨_, zs, rfl, Hup.out, hzl, hown, hg⟩
end Go.Proofs.Ytfmkpkmhhlakoaa.Tab

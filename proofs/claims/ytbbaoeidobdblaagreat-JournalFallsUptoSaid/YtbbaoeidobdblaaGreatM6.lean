/- Laid together: Sp5. -/
import Derived.Test.YtbbaoeidobdblaaGreatM5
/- Plain: a journal whose power stays: committed, or no room. -/
set_option linter.unusedVariables false
set_option linter.unusedSimpArgs false
namespace Go.Proofs.YtbbaoeidobdblaaGreat.Sx
open Go

structure Jok (j : Jn) : Prop where
  fit : j.c.fit
  half : j.half < 2
  live : live j.c.p
  ended : j.ended = false
  used : j.used ≤ halfSz j.c
  clean : clean j.c.b (j.half * halfSz j.c + j.used) (halfSz j.c - j.used)
  ep : 1 ≤ j.ep ∧ j.ep ≤ 2147483647
theorem clean_lay {b : List Int} {o n : Nat} {xs : List Int} {o' n' : Nat} (h : clean b o' n') (hl : o + xs.length ≤ b.length) (hd : o + xs.length ≤ o' ∨ o' + n' ≤ o) : clean (layI b o xs) o' n' := fun i h1 h2 => by
  rw [layI_get _ _ _ hl]
  rcases hd with hd | hd
  · rw [if_neg (by omega), if_neg (by omega)]; exact h i h1 h2
  · rw [if_pos (by omega)]; exact h i h1 h2
theorem clean_full (b : List Int) (o n : Nat) (h : o + n ≤ b.length) : clean (layI b o (List.replicate n 255)) o n := fun i h1 h2 => by
  rw [layI_get _ _ _ (by simp; omega), if_neg (by omega), if_pos (by simp; omega), List.getElem?_replicate, if_pos (by omega)]
theorem half_fits {c : Cp} (hf : c.fit) {h : Nat} (hh : h < 2) : h * halfSz c + halfSz c ≤ c.b.length := by
  have h2 := (half_two hf).1
  have : h * halfSz c ≤ 1 * halfSz c := Nat.mul_le_mul_right _ (by omega)
  omega
/-- A half is wiped, and a record is laid at its begin. -/
def anewB (c : Cp) (h : Nat) (l : List Int) : List Int := layI (layI c.b (h * halfSz c) (List.replicate (halfSz c) 255)) (h * halfSz c) (recB l)
theorem start_live {c : Cp} (hf : c.fit) (hp : live c.p) {h : Nat} (hh : h < 2) {l : List Int} (hr : l.length + 7 ≤ halfSz c) : ∃ q, live q ∧ (wipeM c h).1 = 0 ∧ appendM (wipeM c h).2 h 0 l = (0, { c with p := q, b := anewB c h l, er := erN c.er (h * halfN c) (halfN c) }) ∧ clean (anewB c h l) (h * halfSz c + (l.length + 7)) (halfSz c - (l.length + 7)) := by
  obtain ⟨q, h1, h2⟩ := wipe_live hf hp hh
  have hs := wipe_same' hf hh
  have hlen := half_fits hf hh
  have hll := layI_len c.b (h * halfSz c) (List.replicate (halfSz c) 255) (by simp; omega)
  have hcl := clean_full c.b (h * halfSz c) (halfSz c) hlen
  rw [h1] at hs
  have hz := hs.1.halfSz
  simp only at hz
  obtain ⟨r, h3, h4⟩ := append_live hs.2 h2 (h := h) (o := 0) hh (l := l) (by rw [hz]; omega) (by rw [hz, Nat.add_zero]; exact hcl.mono (Nat.le_refl _) (by omega))
  refine ⟨r, h4, by rw [h1], ?_, ?_⟩
  · rw [h1, h3]
    simp only [hz, Nat.add_zero, anewB]
  · exact clean_lay (n := 0) (hcl.mono (by omega) (by omega)) (by rw [recB_length, hll]; omega) (.inl (by rw [recB_length]; exact Nat.le_refl _))
theorem anewB_length {c : Cp} (hf : c.fit) {h : Nat} (hh : h < 2) {l : List Int} (hr : l.length + 7 ≤ halfSz c) : (anewB c h l).length = c.b.length := by
  have hlen := half_fits hf hh
  have hll := layI_len c.b (h * halfSz c) (List.replicate (halfSz c) 255) (by simp; omega)
  rw [anewB, layI_len _ _ _ (by rw [recB_length, hll]; omega), hll]
theorem live_left {p : Pw} (h : live p) : p.left ≤ 9223372036854775807 := by have := h.1; omega
theorem anew_no {j : Jn} (s : Sta) (si sb : Sl) (h : halfSz j.c < wholeB s + 15 ∨ 2147483647 ≤ j.ep) : anewM j s si sb = (10, j) := by
  have hl := firstB_length (j.ep + 1) s
  rw [anewM, if_pos (by unfold wholeB at h; omega)]
theorem anew_yes {j : Jn} (hj : Jok j) (s : Sta) (si sb : Sl) (h1 : wholeB s + 15 ≤ halfSz j.c) (h2 : j.ep < 2147483647) : ∃ q, anewM j s si sb = (0, ⟨{ j.c with p := q, b := anewB j.c (1 - j.half) (firstB (j.ep + 1) s), er := erN j.c.er ((1 - j.half) * halfN j.c) (halfN j.c) }, j.gj, 1 - j.half, j.ep + 1, wholeB s + 15, s, si, sb, false⟩) ∧ Jok (anewM j s si sb).2 ∧ j.c.same (anewM j s si sb).2.c := by
  have hl := firstB_length (j.ep + 1) s
  have hw : (deedsB (wholeL s)).length = wholeB s := rfl
  rw [hw] at hl
  have hh : 1 - j.half < 2 := by omega
  obtain ⟨q, h3, h4, h5, h6⟩ := start_live hj.fit hj.live hh (l := firstB (j.ep + 1) s) (by omega)
  have hbl := anewB_length hj.fit hh (l := firstB (j.ep + 1) s) (by omega)
  have key : anewM j s si sb = (0, ⟨{ j.c with p := q, b := anewB j.c (1 - j.half) (firstB (j.ep + 1) s), er := erN j.c.er ((1 - j.half) * halfN j.c) (halfN j.c) }, j.gj, 1 - j.half, j.ep + 1, wholeB s + 15, s, si, sb, false⟩) := by
    rw [anewM, if_neg (by omega), if_neg (by rw [h4]; simp), h5, if_neg (by simp)]
    simp only [hj.ended, hl]
    congr 2
    omega
  refine ⟨q, key, ?_, ?_⟩
  · rw [key]
    have hlen : (firstB (j.ep + 1) s).length + 7 = wholeB s + 15 := by omega
    rw [hlen] at h6
    exact ⟨⟨hj.fit.right, by simp only [hbl]; exact hj.fit.len, by simp only [hbl]; exact hj.fit.cap, live_left h3⟩, hh, h3, rfl, h1, h6, by constructor <;> simp only <;> (have := hj.ep.1; omega)⟩
  · rw [key]
    exact ⟨rfl, rfl, rfl, rfl, rfl, rfl, rfl, rfl, hbl⟩
theorem commit_anew {j : Jn} (hj : Jok j) (l : List Dee) (x : Sl × Sl) (h : halfSz j.c < j.used + ((deedsB l).length + 7)) : commitM j l x = anewM j (applyL j.s l) x.1 x.2 := by
  rw [commitM, if_neg (by simp [hj.ended]), if_pos h]
theorem commit_more {j : Jn} (hj : Jok j) (l : List Dee) (x : Sl × Sl) (h : j.used + ((deedsB l).length + 7) ≤ halfSz j.c) : ∃ q, commitM j l x = (0, ⟨{ j.c with p := q, b := layI j.c.b (j.half * halfSz j.c + j.used) (recB (deedsB l)) }, j.gj, j.half, j.ep, j.used + ((deedsB l).length + 7), applyL j.s l, x.1, x.2, false⟩) ∧ Jok (commitM j l x).2 ∧ j.c.same (commitM j l x).2.c := by
  have hlen := half_fits hj.fit hj.half
  obtain ⟨q, h1, h2⟩ := append_live hj.fit hj.live hj.half (o := j.used) (l := deedsB l) h (hj.clean.mono (Nat.le_refl _) (by omega))
  have hbl := layI_len j.c.b (j.half * halfSz j.c + j.used) (recB (deedsB l)) (by rw [recB_length]; omega)
  have key : commitM j l x = (0, ⟨{ j.c with p := q, b := layI j.c.b (j.half * halfSz j.c + j.used) (recB (deedsB l)) }, j.gj, j.half, j.ep, j.used + ((deedsB l).length + 7), applyL j.s l, x.1, x.2, false⟩) := by
    rw [commitM, if_neg (by simp [hj.ended]), if_neg (by omega), h1, if_neg (by simp)]
    simp only [hj.ended]
  refine ⟨q, key, ?_, ?_⟩
  · rw [key]
    have hcl : clean (layI j.c.b (j.half * halfSz j.c + j.used) (recB (deedsB l))) (j.half * halfSz j.c + (j.used + ((deedsB l).length + 7))) (halfSz j.c - (j.used + ((deedsB l).length + 7))) :=
      clean_lay (n := 0) (hj.clean.mono (by omega) (by omega)) (by rw [recB_length]; omega) (.inl (by rw [recB_length]; omega))
    exact ⟨⟨hj.fit.right, by simp only [hbl]; exact hj.fit.len, by simp only [hbl]; exact hj.fit.cap, live_left h2⟩, hj.half, h2, rfl, h, hcl, hj.ep⟩
  · rw [key]
    exact ⟨rfl, rfl, rfl, rfl, rfl, rfl, rfl, rfl, hbl⟩
theorem form_live {c : Cp} (hf : c.fit) (hp : live c.p) : (wipeM c 0).1 = 0 ∧ (wipeM (wipeM c 0).2 1).1 = 0 ∧ (formC c).1 = 0 ∧ live (wks c 2).p ∧ (∃ q, live q ∧ wks c 2 = { c with p := q, b := List.replicate c.b.length 255, er := erN (erN c.er (0 * halfN c) (halfN c)) (1 * halfN c) (halfN c) }) ∧ ∃ q, live q ∧ formC c = (0, { c with p := q, b := layI (List.replicate c.b.length 255) 0 (recB (firstB 1 newSta)), er := erN (erN c.er (0 * halfN c) (halfN c)) (1 * halfN c) (halfN c) }) := by
  obtain ⟨q, h1, h2⟩ := wipe_live hf hp (h := 0) (by omega)
  have hs := wipe_same' hf (i := 0) (by omega)
  have hw : wks c 2 = (wipeM (wipeM c 0).2 1).2 := rfl
  have hs2 := wks_same hf 2
  have hlen := (half_two hf).1
  have hl1 := layI_len c.b (0 * halfSz c) (List.replicate (halfSz c) 255) (by simp; omega)
  rw [h1] at hs
  obtain ⟨r, h3, h4⟩ := wipe_live hs.2 h2 (h := 1) (by omega)
  have hz := hs.1.halfSz
  have hn := hs.1.halfN
  simp only at hz hn
  have hb : layI (layI c.b (0 * halfSz c) (List.replicate (halfSz c) 255)) (1 * halfSz c) (List.replicate (halfSz c) 255) = List.replicate c.b.length 255 := by
    apply List.ext_getElem?
    intro i
    rw [layI_get _ _ _ (by rw [List.length_replicate, hl1]; omega), layI_get _ _ _ (by rw [List.length_replicate]; omega)]
    simp only [List.length_replicate, List.getElem?_replicate, Nat.zero_mul, Nat.one_mul, Nat.zero_add, Nat.sub_zero]
    by_cases h1 : i < halfSz c
    · simp [h1, show i < c.b.length by omega]
    · by_cases h2 : i < halfSz c + halfSz c
      · simp [h1, h2, show i < c.b.length by omega, show i - halfSz c < halfSz c by omega]
      · simp [h1, h2, show ¬ i < c.b.length by omega]
  have hwk : wks c 2 = { c with p := r, b := List.replicate c.b.length 255, er := erN (erN c.er (0 * halfN c) (halfN c)) (1 * halfN c) (halfN c) } := by
    rw [hw, h1, h3]
    simp only [hz, hn, hb]
  have hz2 : halfSz (wks c 2) = halfSz c := hs2.1.halfSz
  have hr : (firstB 1 newSta).length + 7 ≤ halfSz c := by
    rw [first_new]
    obtain ⟨q0, ⟨q1, q2⟩, ⟨q3, q4⟩, _⟩ := id hf.right
    have h5 : 1 ≤ halfN c := by unfold halfN; omega
    have h6 : 256 ≤ c.g.sector.toNat := by omega
    have := Nat.mul_le_mul h5 h6
    unfold halfSz
    omega
  have hlv : live (wks c 2).p := by rw [hwk]; exact h4
  obtain ⟨q2, h7, h8⟩ := append_live hs2.2 hlv (h := 0) (o := 0) (by omega) (l := firstB 1 newSta) (by rw [hz2]; omega) (by
    rw [hwk]
    intro i h1 h2
    rw [List.getElem?_replicate, if_pos]
    rw [← hwk, hz2] at h1 h2
    omega)
  refine ⟨by rw [h1], by rw [h1, h3], ?_, hlv, ⟨r, h4, hwk⟩, q2, h8, ?_⟩
  · rw [formC, h7]
  · rw [formC, h7, hwk]
    simp
theorem form_ok {c : Cp} (hf : c.fit) (hp : live c.p) (x : Nat × Sl) : Jok (formJ c x) ∧ c.same (formJ c x).c := by
  obtain ⟨_, _, _, _, _, q, h1, h2⟩ := form_live hf hp
  have hlen := (half_two hf).1
  have hr : (firstB 1 newSta).length + 7 ≤ halfSz c := by
    rw [first_new]
    obtain ⟨q0, ⟨q1, q2⟩, ⟨q3, q4⟩, _⟩ := id hf.right
    have h5 : 1 ≤ halfN c := by unfold halfN; omega
    have h6 : 256 ≤ c.g.sector.toNat := by omega
    have := Nat.mul_le_mul h5 h6
    unfold halfSz
    omega
  have hbl : (layI (List.replicate c.b.length 255) 0 (recB (firstB 1 newSta))).length = c.b.length := by
    rw [layI_len _ _ _ (by rw [recB_length]; simp; omega)]
    simp
  have hJ : (formJ c x).c = { c with p := q, b := layI (List.replicate c.b.length 255) 0 (recB (firstB 1 newSta)), er := erN (erN c.er (0 * halfN c) (halfN c)) (1 * halfN c) (halfN c) } := by
    show (formC c).2 = _
    rw [h2]
  have hsm : c.same (formJ c x).c := by
    rw [hJ]
    exact ⟨rfl, rfl, rfl, rfl, rfl, rfl, rfl, rfl, hbl⟩
  refine ⟨⟨?_, by show 0 < 2; omega, by rw [hJ]; exact h1, rfl, ?_, ?_, ⟨(by decide : (1 : Int) ≤ 1), (by decide : (1 : Int) ≤ 2147483647)⟩⟩, hsm⟩
  · rw [hJ]
    exact ⟨hf.right, by simp only [hbl]; exact hf.len, by simp only [hbl]; exact hf.cap, live_left h1⟩
  · rw [hsm.halfSz]; exact hr
  · rw [hsm.halfSz, hJ]
    show clean _ (0 * halfSz c + ((firstB 1 newSta).length + 7)) (halfSz c - ((firstB 1 newSta).length + 7))
    rw [show 0 * halfSz c + ((firstB 1 newSta).length + 7) = (firstB 1 newSta).length + 7 by omega]
    intro i h3 h4
    rw [layI_get _ _ _ (by rw [recB_length]; simp; omega), if_neg (by omega), if_neg (by rw [recB_length]; omega), List.getElem?_replicate, if_pos (by omega)]
end Go.Proofs.YtbbaoeidobdblaaGreat.Sx

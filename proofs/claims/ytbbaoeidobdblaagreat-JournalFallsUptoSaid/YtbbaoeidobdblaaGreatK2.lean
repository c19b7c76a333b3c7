/- Laid together: Sk61, Sp8, Sp9, Sp10, Sp11, Sk62, Rowl. -/
import Derived.Test.YtbbaoeidobdblaaGreatK1
import Derived.WalkKit
import Derived.ProofKit
import Derived.OpenShut
import Derived.ShutString
import Derived.ChangeOld
import Derived.Below
import Derived.Lib.SmallJoins
/- garrethelp: Plain, Inode, State, Bytes. -/
set_option linter.unusedVariables false
set_option linter.unusedSimpArgs false
namespace Go.Proofs.YtbbaoeidobdblaaGreat.Sx
open Go

attribute [local simp ↓] ifb_true' ifb_false'
attribute [local simp] ifb_true ifb_false ifb_eq sx argsT find ev evOp evs evo evBin evInt evStr evNil evNilA ptrA slcA isNoneA asB evLoad look del cellsB evUn evConv kdec fld evFieldA evField evIdxA evIdx evSlc bndL bndH evLen mmi put resV guardV gvL setO tupV cellsOf ones one upd lits nv exitTo SV.val CV.val TI.agg rdyA allR keepB scan simpO gsp isS subs keepT pickT wr memN pubs Res.fact Region.binds bld rest give delL back Res.eqv vi vb num Sv.val undef
theorem plainI0 (w : World) (I : Nat → Prop) (hI : ∀ b, I b → b < w.heap.size) {a a' : Option Addr} {n c n' c' : Nat} (xs ys : List Int) (h : ∀ W, Ext I w W → Sv.ok dInt W (a, n, c) xs ∧ Sv.ok dInt W (a', n', c') ys) :
    Fn0 Tryz.prog 72 #[.slice a n c, .slice a' n' c'] w I (fun _ : Unit => .bool (tB (xs = ys))) (fun _ _ => True) := by
  refine enter (svs := [.c (.v (.slice a n c)), .c (.v (.slice a' n' c'))]) tysOk Tryz.func72 rfl Tryz.ntmps72 Tryz.results72 (by kernel_rfl) (by simp) hI (fun W => Sv.ok dInt W (a, n, c) xs ∧ Sv.ok dInt W (a', n', c') ys) h fun C hC hN ok => ?_
  simp [hN]
  refine call0 ok rfl rfl rfl (fun w I hI hG => sameI0 w I hI xs ys (fun W e => hG W e)) fun _ W _ => ?_
  simp [hN]
  exact ret0 hC () rfl fun _ _ _ => trivial
theorem plainE0 (w : World) (I : Nat → Prop) (hI : ∀ b, I b → b < w.heap.size) {a a' : Option Addr} {n c n' c' : Nat} (xs ys : List Ent) (h : ∀ W, Ext I w W → Sv.ok dEnt W (a, n, c) xs ∧ Sv.ok dEnt W (a', n', c') ys) :
    Fn0 Tryz.prog 115 #[.slice a n c, .slice a' n' c'] w I (fun _ : Unit => .bool (tB (xs = ys))) (fun _ _ => True) := by
  refine enter (svs := [.c (.v (.slice a n c)), .c (.v (.slice a' n' c'))]) tysOk Tryz.func115 rfl Tryz.ntmps115 Tryz.results115 (by kernel_rfl) (by simp) hI (fun W => Sv.ok dEnt W (a, n, c) xs ∧ Sv.ok dEnt W (a', n', c') ys) h fun C hC hN ok => ?_
  simp [hN]
  refine call0 ok rfl rfl rfl (fun w I hI hG => sameE0 w I hI xs ys (fun W e => hG W e)) fun _ W _ => ?_
  simp [hN]
  exact ret0 hC () rfl fun _ _ _ => trivial
theorem plainR0 (w : World) (I : Nat → Prop) (hI : ∀ b, I b → b < w.heap.size) {a a' : Option Addr} {n c n' c' : Nat} (xs ys : List Rn) (h : ∀ W, Ext I w W → Sv.ok dRn W (a, n, c) xs ∧ Sv.ok dRn W (a', n', c') ys) :
    Fn0 Tryz.prog 116 #[.slice a n c, .slice a' n' c'] w I (fun _ : Unit => .bool (tB (xs = ys))) (fun _ _ => True) := by
  refine enter (svs := [.c (.v (.slice a n c)), .c (.v (.slice a' n' c'))]) tysOk Tryz.func116 rfl Tryz.ntmps116 Tryz.results116 (by kernel_rfl) (by simp) hI (fun W => Sv.ok dRn W (a, n, c) xs ∧ Sv.ok dRn W (a', n', c') ys) h fun C hC hN ok => ?_
  simp [hN]
  refine call0 ok rfl rfl rfl (fun w I hI hG => sameR0 w I hI xs ys (fun W e => hG W e)) fun _ W _ => ?_
  simp [hN]
  exact ret0 hC () rfl fun _ _ _ => trivial
set_option maxRecDepth 10000 in
set_option maxHeartbeats 4000000 in
theorem sameIno0 (w : World) (I : Nat → Prop) (hI : ∀ b, I b → b < w.heap.size) (x y : Ino) (e r e' r' : Sl) (h : ∀ W, Ext I w W → InoR W x e r ∧ InoR W y e' r') :
    Fn0 Tryz.prog 71 #[.agg (inoC x e r).toArray, .agg (inoC y e' r').toArray] w I (fun _ : Unit => .bool (tB (x = y))) (fun _ _ => True) := by
  refine enter (svs := [.ag ((inoC x e r).map .v), .ag ((inoC y e' r').map .v)]) tysOk Tryz.func71 rfl Tryz.ntmps71 Tryz.results71 (by kernel_rfl) (by simp) hI (fun W => InoR W x e r ∧ InoR W y e' r') h fun C hC hN ok => ?_
  obtain ⟨no, kd, lk, sz, tg, es, rs⟩ := x
  obtain ⟨no', kd', lk', sz', tg', es', rs'⟩ := y
  have no_ok : ∀ m, ¬ ((⟨no, kd, lk, sz, tg, es, rs⟩ : Ino) = ⟨no', kd', lk', sz', tg', es', rs'⟩) → RetP C (.bool false) m := fun m hne => by
    rw [tB_false hne] at hC
    exact ret0 hC () rfl fun _ _ _ => trivial
  by_cases h1 : no = no'
  case neg => simp [hN, h1]; exact fun g1 g2 => no_ok _ (by simp [h1])
  subst h1
  by_cases h2 : kd = kd'
  case neg => simp [hN, h2]; exact fun g1 g2 => no_ok _ (by simp [h2])
  subst h2
  by_cases h3 : lk = lk'
  case neg => simp [hN, h3]; exact fun g1 g2 => no_ok _ (by simp [h3])
  subst h3
  by_cases h4 : sz = sz'
  case neg => simp [hN, h4]; exact fun g1 g2 => no_ok _ (by simp [h4])
  subst h4
  by_cases h5 : tg = tg'
  case neg =>
    have h5' : ¬ tg.toList = tg'.toList := fun e => h5 (bytes_toList e)
    simp [hN, h5']
    exact fun g1 g2 => no_ok _ (by simp [h5])
  subst h5
  simp [hN]
  intro g1 g2
  refine call0 ok rfl rfl rfl (fun w I hI hG => plainE0 w I hI (a := e.1) (n := es.length) (c := e.2) (a' := e'.1) (n' := es'.length) (c' := e'.2) es es' (fun W e => ⟨⟨rfl, (hG W e).1.1⟩, ⟨rfl, (hG W e).2.1⟩⟩)) fun _ W _ => ?_
  by_cases h6 : es = es'
  case neg =>
    rw [tB_false h6]
    simp [hN]
    exact no_ok _ (by simp [h6])
  rw [tB_true h6]
  simp [hN]
  refine call0 ok rfl rfl rfl (fun w I hI hG => plainR0 w I hI (a := r.1) (n := rs.length) (c := r.2) (a' := r'.1) (n' := rs'.length) (c' := r'.2) rs rs' (fun W e => by have := hG W e; first | exact ⟨⟨rfl, this.1.2⟩, ⟨rfl, this.2.2⟩⟩ | exact ⟨⟨rfl, this.2.1.2⟩, ⟨rfl, this.2.2.2⟩⟩)) fun _ W _ => ?_
  by_cases h7 : rs = rs'
  case neg =>
    rw [tB_false h7]
    simp [hN]
    exact no_ok _ (by simp [h7])
  rw [tB_true h7]
  rw [tB_true (by rw [h6, h7])] at hC
  simp [hN]
  exact ret0 hC () rfl fun _ _ _ => trivial
set_option maxRecDepth 10000 in
set_option maxHeartbeats 2000000 in
theorem sameN0 (w : World) (I : Nat → Prop) (hI : ∀ b, I b → b < w.heap.size) {a a' : Option Addr} {n c n' c' : Nat} (xs ys : List Ino) (h : ∀ W, Ext I w W → Sv.ok dIno W (a, n, c) xs ∧ Sv.ok dIno W (a', n', c') ys) :
    Fn0 Tryz.prog 70 #[.slice a n c, .slice a' n' c', .func (.func 71) #[] #[]] w I (fun _ : Unit => .bool (tB (xs = ys))) (fun _ _ => True) := by
  have hn : n = xs.length := (h w (Ext.refl _ _)).1.1
  have hn' : n' = ys.length := (h w (Ext.refl _ _)).2.1
  have hl1 := (h w (Ext.refl _ _)).1.2.2.1
  refine enter (svs := [.c (.v (.slice a n c)), .c (.v (.slice a' n' c')), .c (.v (.func (.func 71) #[] #[]))]) tysOk Tryz.func70 rfl Tryz.ntmps70 Tryz.results70 (by kernel_rfl) (by simp) hI (fun W => Sv.ok dIno W (a, n, c) xs ∧ Sv.ok dIno W (a', n', c') ys) h fun C hC hN ok => ?_
  by_cases hlen : n = n'
  case neg =>
    have hne : ¬ (n : Int) = n' := by omega
    rw [tB_false (fun e => hlen (by rw [hn, hn', e]))] at hC
    simp [hN, hne]
    exact ret0 hC () rfl fun _ _ _ => trivial
  subst hlen
  simp [hN]
  refine loopK [0, 1, 2] ok (fun i : Nat => [(7, .c (.v (.int .i64 i)))]) (fun _ => []) (fun i W => i ≤ n ∧ xs.take i = ys.take i) (fun i => n - i) 0 ?_ ?_ (fun W hW => ⟨Nat.zero_le _, rfl⟩) ?_
  · simp
  · simp
  rintro i W ⟨hi, hpre⟩ hG next
  rcases Nat.lt_or_ge i n with hltn | hge
  · have hlt : i < xs.length := by omega
    have hlt2 : i < ys.length := by omega
    have e6 : IntKind.i64.wrap ((i : Int) + 1) = (i + 1 : Nat) := by rw [w64 (by omega) (by omega)]; omega
    have hstep := fun e => take_step hpre hlt hlt2 e
    have hno : xs[i] ≠ ys[i] → xs ≠ ys := fun h e => h (by subst e; rfl)
    obtain ⟨b, o, e, _⟩ := rd_get1 (h w (Ext.refl _ _)).1 hlt
    cases e
    obtain ⟨b', o', e, _⟩ := rd_get1 (h w (Ext.refl _ _)).2 hlt2
    cases e
    have g1 : ∀ W, Sv.ok dIno W (some ⟨b, o, none⟩, n, c) xs → ∃ l, l.length = 7 ∧ (∀ j v, l[j]? = some v → W.cell? ⟨b, o + i * 7 + j, none⟩ = some v) ∧ ∃ e r, l = inoC xs[i] e r ∧ InoR W xs[i] e r := fun W hW => by
      obtain ⟨b'', o'', e, cs, hk, hl, hc⟩ := rd_get1 hW hlt
      cases e
      exact ⟨cs, hl, hc, hk⟩
    have g2 : ∀ W, Sv.ok dIno W (some ⟨b', o', none⟩, n, c') ys → ∃ l, l.length = 7 ∧ (∀ j v, l[j]? = some v → W.cell? ⟨b', o' + i * 7 + j, none⟩ = some v) ∧ ∃ e r, l = inoC ys[i] e r ∧ InoR W ys[i] e r := fun W hW => by
      obtain ⟨b'', o'', e, cs, hk, hl, hc⟩ := rd_get1 hW hlt2
      cases e
      exact ⟨cs, hl, hc, hk⟩
    generalize xs[i] = x at g1 hstep hno
    generalize ys[i] = y at g2 hstep hno
    simp [hN, hltn]
    refine drawK ok mixed (by kernel_rfl) ?_
    simp (maxSteps := 2000000) -implicitDefEqProofs [hN, hltn]
    refine ⟨?_, ?_⟩
    · refine loadA ok rfl rfl rfl rfl (fun l W => ∃ e r, l = inoC x e r ∧ InoR W x e r) (fun W hW => by first | exact g1 W hW.2.1 | exact g1 W hW.2.2.1) ?_
      rintro l W _ ⟨e1, r1, rfl, q1⟩ _
      simp (maxSteps := 2000000) -implicitDefEqProofs [hN, hltn]
      refine loadA ok rfl rfl rfl rfl (fun l W => ∃ e r, l = inoC y e r ∧ InoR W y e r) (fun W hW => by first | exact g2 W hW.2.2 | exact g2 W hW.2.2.2) ?_
      rintro l W _ ⟨e2, r2, rfl, q2⟩ _
      simp (maxSteps := 2000000) -implicitDefEqProofs [hN, hltn]
      focus
        refine call0 ok rfl rfl rfl (fun w I hI hG => sameIno0 w I hI x y e1 r1 e2 r2 (fun W e => by obtain ⟨⟨_, _, _, _, ⟨⟨rfl, rfl⟩, rfl, rfl⟩, k1⟩, ⟨_, _, _, _, ⟨⟨rfl, rfl⟩, rfl, rfl⟩, k2⟩, _⟩ := hG W e; first | exact ⟨k1, k2⟩ | exact ⟨k2, k1⟩)) fun _ W _ => ?_
        by_cases hxy : x = y
        · rw [tB_true hxy]
          simp (maxSteps := 2000000) -implicitDefEqProofs [hN, e6]
          exact next (i + 1) _ _ (by omega) (fun W h => ⟨⟨hltn, hstep hxy⟩, by first | exact h.2 | exact h.2.2 | exact h.2.2.2 | exact h.2.2.2.2⟩) (by simp)
        · rw [tB_false hxy]
          rw [tB_false (hno hxy)] at hC
          simp (maxSteps := 2000000) -implicitDefEqProofs [hN]
          exact ret0 hC () rfl fun _ _ _ => trivial
    · refine loadA ok rfl rfl rfl rfl (fun l W => ∃ e r, l = inoC y e r ∧ InoR W y e r) (fun W hW => by first | exact g2 W hW.2.2 | exact g2 W hW.2.2.2) ?_
      rintro l W _ ⟨e2, r2, rfl, q2⟩ _
      simp (maxSteps := 2000000) -implicitDefEqProofs [hN, hltn]
      refine loadA ok rfl rfl rfl rfl (fun l W => ∃ e r, l = inoC x e r ∧ InoR W x e r) (fun W hW => by first | exact g1 W hW.2.1 | exact g1 W hW.2.2.1) ?_
      rintro l W _ ⟨e1, r1, rfl, q1⟩ _
      simp (maxSteps := 2000000) -implicitDefEqProofs [hN, hltn]
      focus
        refine call0 ok rfl rfl rfl (fun w I hI hG => sameIno0 w I hI x y e1 r1 e2 r2 (fun W e => by obtain ⟨⟨_, _, _, _, ⟨⟨rfl, rfl⟩, rfl, rfl⟩, k1⟩, ⟨_, _, _, _, ⟨⟨rfl, rfl⟩, rfl, rfl⟩, k2⟩, _⟩ := hG W e; first | exact ⟨k1, k2⟩ | exact ⟨k2, k1⟩)) fun _ W _ => ?_
        by_cases hxy : x = y
        · rw [tB_true hxy]
          simp (maxSteps := 2000000) -implicitDefEqProofs [hN, e6]
          exact next (i + 1) _ _ (by omega) (fun W h => ⟨⟨hltn, hstep hxy⟩, by first | exact h.2 | exact h.2.2 | exact h.2.2.2 | exact h.2.2.2.2⟩) (by simp)
        · rw [tB_false hxy]
          rw [tB_false (hno hxy)] at hC
          simp (maxSteps := 2000000) -implicitDefEqProofs [hN]
          exact ret0 hC () rfl fun _ _ _ => trivial
  · have e1 : xs = ys := by
      rw [← List.take_of_length_le (l := xs) (i := i) (by omega), hpre, List.take_of_length_le (by omega)]
    rw [tB_true e1] at hC
    have hge2 : ¬ i < n := by omega
    simp [hN, hge2]
    exact ret0 hC () rfl fun _ _ _ => trivial
theorem sameSta0 (w : World) (I : Nat → Prop) (hI : ∀ b, I b → b < w.heap.size) (x y : Sta) (i b i' b' : Sl) (h : ∀ W, Ext I w W → StaR W x i b ∧ StaR W y i' b') :
    Fn0 Tryz.prog 20 #[.agg (staC x i b).toArray, .agg (staC y i' b').toArray] w I (fun _ : Unit => .bool (tB (x = y))) (fun _ _ => True) := by
  refine enter (svs := [.ag ((staC x i b).map .v), .ag ((staC y i' b').map .v)]) tysOk Tryz.func20 rfl Tryz.ntmps20 Tryz.results20 (by kernel_rfl) (by simp) hI (fun W => StaR W x i b ∧ StaR W y i' b') h fun C hC hN ok => ?_
  obtain ⟨nx, ns, bs⟩ := x
  obtain ⟨nx', ns', bs'⟩ := y
  have no_ok : ∀ m, ¬ ((⟨nx, ns, bs⟩ : Sta) = ⟨nx', ns', bs'⟩) → RetP C (.bool false) m := fun m hne => by
    rw [tB_false hne] at hC
    exact ret0 hC () rfl fun _ _ _ => trivial
  by_cases h1 : nx = nx'
  case neg => simp [hN, h1]; exact fun g1 g2 => no_ok _ (by simp [h1])
  subst h1
  simp [hN]
  intro g1 g2
  refine call0 ok rfl rfl rfl (fun w I hI hG => sameN0 w I hI (a := i.1) (n := ns.length) (c := i.2) (a' := i'.1) (n' := ns'.length) (c' := i'.2) ns ns' (fun W e => ⟨⟨rfl, (hG W e).1.1⟩, ⟨rfl, (hG W e).2.1⟩⟩)) fun _ W _ => ?_
  by_cases h6 : ns = ns'
  case neg =>
    rw [tB_false h6]
    simp [hN]
    exact no_ok _ (by simp [h6])
  rw [tB_true h6]
  simp [hN]
  refine call0 ok rfl rfl rfl (fun w I hI hG => plainI0 w I hI (a := b.1) (n := bs.length) (c := b.2) (a' := b'.1) (n' := bs'.length) (c' := b'.2) bs bs' (fun W e => by have := hG W e; first | exact ⟨⟨rfl, this.1.2⟩, ⟨rfl, this.2.2⟩⟩ | exact ⟨⟨rfl, this.2.1.2⟩, ⟨rfl, this.2.2.2⟩⟩)) fun _ W _ => ?_
  by_cases h7 : bs = bs'
  case neg =>
    rw [tB_false h7]
    simp [hN]
    exact no_ok _ (by simp [h7])
  rw [tB_true h7]
  rw [tB_true (by rw [h6, h7])] at hC
  simp [hN]
  exact ret0 hC () rfl fun _ _ _ => trivial
end Go.Proofs.YtbbaoeidobdblaaGreat.Sx

/- Plain: what was packed is parsed. -/
set_option linter.unusedVariables false
set_option linter.unusedSimpArgs false
namespace Go.Proofs.YtbbaoeidobdblaaGreat.Sx
open Go

def fitI (v : Int) : Prop := -9223372036854775808 ≤ v ∧ v ≤ 9223372036854775807
theorem wrap_mod {v : Int} (h : fitI v) : IntKind.i64.wrap (v % 18446744073709551616) = v := by
  rw [IntKind.wrap_i64]
  obtain ⟨h1, h2⟩ := h
  omega
/-- Bytes have others at a place. -/
def has (l : List Int) (o : Nat) (x : List Int) : Prop := (l.drop o).take x.length = x ∧ o + x.length ≤ l.length
theorem has_all (l : List Int) : has l 0 l := ⟨by simp, by simp⟩
theorem has_app {l : List Int} {o : Nat} {x y : List Int} : has l o (x ++ y) ↔ has l o x ∧ has l (o + x.length) y := by
  unfold has
  constructor
  · rintro ⟨h1, h2⟩
    rw [List.length_append] at h1 h2
    rw [List.take_add] at h1
    have hl : ((l.drop o).take x.length).length = x.length := by rw [List.length_take, List.length_drop]; omega
    have h3 := List.append_inj h1 hl
    refine ⟨⟨h3.1, by omega⟩, ?_, by omega⟩
    rw [← List.drop_drop]
    exact h3.2
  · rintro ⟨⟨h1, h2⟩, h3, h4⟩
    rw [List.length_append]
    refine ⟨?_, by omega⟩
    rw [List.take_add, h1, List.drop_drop, h3]
theorem lowB_all (v : Int) (n : Nat) : ∀ x ∈ lowB v n, 0 ≤ x ∧ x ≤ 255 := by
  intro x hx
  simp only [lowB, List.mem_map] at hx
  obtain ⟨i, _, rfl⟩ := hx
  omega
theorem get_has {l : List Int} {o n : Nat} {v : Int} (h : has l o (lowB v n)) (hv : 0 ≤ v ∧ v < 256 ^ n) : getR l (o, 0) n = (v, (o + n, 0)) := by
  obtain ⟨h1, h2⟩ := h
  rw [lowB_length] at h1 h2
  unfold getR
  rw [if_neg (by simp), if_neg (by simp only; omega)]
  simp only
  rw [h1, valB_lowB, Int.emod_eq_of_lt hv.1 hv.2]
theorem p256_8 : (256 : Int) ^ 8 = 18446744073709551616 := by decide
theorem p256_4 : (256 : Int) ^ 4 = 4294967296 := by decide
theorem int_has {l : List Int} {o : Nat} {v : Int} (h : has l o (intB v)) (hv : fitI v) : intR l (o, 0) = (v, (o + 8, 0)) := by
  have h1 := get_has (v := v % 18446744073709551616) h (by rw [p256_8]; omega)
  unfold intR
  rw [h1]
  simp only
  rw [wrap_mod hv]
theorem txt_bytes (s : ByteArray) : txtOf (bytesOf s) = s := by
  apply ByteArray.ext
  apply Array.ext'
  simp only [txtOf, bytesOf, List.map_map]
  rw [show ((fun x : Int => UInt8.ofNat x.toNat) ∘ fun b : UInt8 => (b.toNat : Int)) = id from funext fun b => by simp]
  simp
theorem text_has {l : List Int} {o : Nat} {s : ByteArray} (h : has l o (textB s)) (hs : s.size < 4294967296) : textR l (o, 0) = (s, (o + (textB s).length, 0)) := by
  obtain ⟨h1, h2⟩ := has_app.1 h
  have h3 := get_has h1 (by rw [p256_4]; omega)
  unfold getR at h3
  rw [if_neg (by simp)] at h3
  have hl : ¬ l.length < o + 4 := by have := h1.2; rw [lowB_length] at this; omega
  simp only [hl, if_false] at h3
  have hv : valB ((l.drop o).take 4) = s.size := (Prod.mk.inj h3).1
  obtain ⟨h4, h5⟩ := h2
  rw [lowB_length, bytesOf_length] at h4 h5
  unfold textR
  rw [if_neg (by simp), if_neg (by simp only; omega)]
  simp only
  rw [hv, Int.toNat_natCast, if_neg (by omega), h4, txt_bytes, textB_length]
  congr 2
  omega
structure FitE (e : Ent) : Prop where
  name : e.name.size < 4294967296
  no : fitI e.no
structure FitR (r : Rn) : Prop where
  fr : fitI r.fr
  at_ : fitI r.at_
  ct : fitI r.ct
structure FitN (x : Ino) : Prop where
  no : fitI x.no
  kind : fitI x.kind
  links : fitI x.links
  size : fitI x.size
  target : x.target.size < 4294967296
  ents : x.ents.length < 4294967296
  runs : x.runs.length < 4294967296
  ent : ∀ e ∈ x.ents, FitE e
  run : ∀ r ∈ x.runs, FitR r
structure FitD (d : Dee) : Prop where
  kind : d.kind = 1 ∨ d.kind = 2 ∨ d.kind = 3 ∨ d.kind = 4
  no : d.kind ≠ 2 → fitI d.no
  ino : d.kind = 2 → FitN d.ino
theorem ent_has {l : List Int} {o : Nat} {e : Ent} (h : has l o (entB e)) (hf : FitE e) : entR l (o, 0) = (e, (o + (entB e).length, 0)) := by
  obtain ⟨h1, h2⟩ := has_app.1 h
  have h3 := text_has h1 hf.name
  have h4 := int_has h2 hf.no
  unfold entR
  rw [h3]
  simp only
  rw [h4, entB, List.length_append, intB_length, Nat.add_assoc]
theorem rn_has {l : List Int} {o : Nat} {e : Rn} (h : has l o (runB e)) (hf : FitR e) : rnR l (o, 0) = (e, (o + (runB e).length, 0)) := by
  obtain ⟨h0, h3⟩ := has_app.1 h
  obtain ⟨h1, h2⟩ := has_app.1 h0
  have e1 := int_has h1 hf.fr
  have e2 := int_has h2 hf.at_
  have e3 := int_has h3 hf.ct
  rw [intB_length] at e2
  rw [List.length_append, intB_length, intB_length, ← Nat.add_assoc] at e3
  unfold rnR
  rw [e1]
  simp only
  rw [e2]
  simp only
  rw [e3, runB, List.length_append, List.length_append, intB_length, intB_length, intB_length]
theorem many_has {α : Type} (l : List Int) (f : Rs → α × Rs) (g : α → List Int) : ∀ (es : List α) (o : Nat), (∀ e ∈ es, ∀ o, has l o (g e) → f (o, 0) = (e, (o + (g e).length, 0))) → has l o (es.flatMap g) → manyR f es.length (o, 0) = (es, (o + (es.flatMap g).length, 0))
  | [], o, _, _ => by simp [manyR]
  | e :: r, o, hf, h => by
    rw [List.flatMap_cons] at h
    obtain ⟨h1, h2⟩ := has_app.1 h
    have h3 := hf e List.mem_cons_self o h1
    have h4 := many_has l f g r (o + (g e).length) (fun x hx => hf x (List.mem_cons_of_mem _ hx)) h2
    rw [List.length_cons, manyR, if_neg (by simp), h3]
    simp only
    rw [h4, List.flatMap_cons, List.length_append, Nat.add_assoc]
theorem ino_has {l : List Int} {o : Nat} {x : Ino} (h : has l o (inoB x)) (hf : FitN x) : inoR l (o, 0) = (x, (o + (inoB x).length, 0)) := by
  obtain ⟨h4, h5⟩ := has_app.1 h
  obtain ⟨h3, hm⟩ := has_app.1 h4
  obtain ⟨h2, he⟩ := has_app.1 h3
  obtain ⟨h1, hn⟩ := has_app.1 h2
  obtain ⟨g4, gt⟩ := has_app.1 h1
  obtain ⟨g3, gs⟩ := has_app.1 g4
  obtain ⟨g2, gl⟩ := has_app.1 g3
  obtain ⟨g1, gk⟩ := has_app.1 g2
  simp only [List.length_append, intB_length] at gk gl gs gt
  have e1 := int_has g1 hf.no
  have e2 := int_has gk hf.kind
  have e3 := int_has gl hf.links
  have e4 := int_has gs hf.size
  have e5 := text_has gt hf.target
  have e6 := get_has hn (by rw [p256_4]; have := hf.ents; omega)
  have e7 := many_has l (entR l) entB x.ents _ (fun e he' o h => ent_has h (hf.ent e he')) he
  have e8 := get_has hm (by rw [p256_4]; have := hf.runs; omega)
  have e9 := many_has l (rnR l) runB x.runs _ (fun e he' o h => rn_has h (hf.run e he')) h5
  have n1 : nthR l (o, 0) 1 = (o + 8, 0) := by show (intR l (o, 0)).2 = _; rw [e1]
  have n2 : nthR l (o, 0) 2 = (o + (8 + 8), 0) := by show (intR l (nthR l (o, 0) 1)).2 = _; rw [n1, e2, Nat.add_assoc]
  have n3 : nthR l (o, 0) 3 = (o + (8 + 8 + 8), 0) := by show (intR l (nthR l (o, 0) 2)).2 = _; rw [n2, e3, Nat.add_assoc]
  have n4 : nthR l (o, 0) 4 = (o + (8 + 8 + 8 + 8), 0) := by show (intR l (nthR l (o, 0) 3)).2 = _; rw [n3, e4, Nat.add_assoc]
  have hh : (headB x).length = 8 + 8 + 8 + 8 + (textB x.target).length := by rw [headB_length, textB_length]; omega
  have a1 : inoA l (o, 0) = (x.target, (o + (headB x).length, 0)) := by rw [inoA, n4, e5, hh]; congr 2; omega
  have a2 : inoN l (o, 0) = (((x.ents.length : Nat) : Int), (o + (headB x).length + 4, 0)) := by rw [inoN, a1]; exact e6
  simp only [List.length_append, lowB_length] at e7 e8 e9
  have a3 : inoE l (o, 0) = (x.ents, (o + ((headB x).length + 4) + (x.ents.flatMap entB).length, 0)) := by
    rw [inoE, a2]
    simp only [Int.toNat_natCast]
    rw [Nat.add_assoc]
    exact e7
  have a4 : inoM l (o, 0) = (((x.runs.length : Nat) : Int), (o + ((headB x).length + 4 + (x.ents.flatMap entB).length) + 4, 0)) := by
    rw [inoM, a3, ← e8]
    simp only [Nat.add_assoc]
  have a5 : inoU l (o, 0) = (x.runs, (o + ((headB x).length + 4 + (x.ents.flatMap entB).length + 4) + (x.runs.flatMap runB).length, 0)) := by
    rw [inoU, a4]
    simp only [Int.toNat_natCast]
    rw [← e9]
    simp only [Nat.add_assoc]
  unfold inoR
  rw [n1, n2, n3, e1, e2, e3, e4, a1, a3, a5]
  simp only
  congr 2
  simp only [inoB, List.length_append, lowB_length]
  omega
/-- A deed with what its kind has alone. -/
def canon (d : Dee) : Dee := if d.kind = 2 then ⟨2, 0, d.ino⟩ else ⟨d.kind, d.no, inoZ⟩
theorem dee_has {l : List Int} {o : Nat} {d : Dee} (h : has l o (deedB d)) (hf : FitD d) : deeR l o = (canon d, (o + (deedB d).length, 0)) := by
  have hk := hf.kind
  obtain ⟨h1, h2⟩ := has_app.1 h
  have hm : d.kind % 18446744073709551616 = d.kind := by omega
  have e1 := get_has h1 (by rw [hm]; simp; omega)
  rw [hm] at e1
  rw [lowB_length] at h2
  unfold deeR
  rw [e1]
  simp only
  by_cases h3 : d.kind = 2
  · have ht : tailB d = inoB d.ino := by unfold tailB; rw [if_neg (by rw [h3]; decide), if_pos h3]
    rw [ht] at h2
    have e2 := ino_has h2 (hf.ino h3)
    rw [if_neg (by rw [h3]; decide), if_pos h3, e2, canon, if_pos h3, deedB, List.length_append, lowB_length, ht, Nat.add_assoc]
  · have h4 : d.kind = 1 ∨ d.kind = 3 ∨ d.kind = 4 := by omega
    have ht : tailB d = intB d.no := by unfold tailB; rw [if_pos h4]
    rw [ht] at h2
    have e2 := int_has h2 (hf.no h3)
    rw [if_pos h4, e2, canon, if_neg h3, deedB, List.length_append, lowB_length, ht, intB_length, Nat.add_assoc]
theorem parse_has (l : List Int) : ∀ (ds : List Dee) (o f : Nat), (∀ d ∈ ds, FitD d) → has l o (deedsB ds) → o + (deedsB ds).length = l.length → l.length - o ≤ f → parseN l f o = (ds.map canon, 0)
  | [], o, f, _, _, h2, _ => by
    have h2' : l.length ≤ o := by simp [deedsB] at h2; omega
    cases f with
    | zero => rfl
    | succ f => rw [parseN, if_pos h2']; rfl
  | d :: r, o, f, hf, h, h2, h3 => by
    have hc : deedsB (d :: r) = deedB d ++ deedsB r := rfl
    rw [hc] at h h2
    rw [List.length_append] at h2
    obtain ⟨h4, h5⟩ := has_app.1 h
    have e1 := dee_has h4 (hf d List.mem_cons_self)
    have hpos : 0 < (deedB d).length := by rw [deedB, List.length_append, lowB_length]; omega
    obtain ⟨f, rfl⟩ : ∃ g, f = g + 1 := ⟨f - 1, by omega⟩
    have ih := parse_has l r (o + (deedB d).length) f (fun x hx => hf x (List.mem_cons_of_mem _ hx)) h5 (by omega) (by omega)
    rw [parseN, if_neg (by omega), e1]
    simp only [ne_eq, not_true, if_false]
    rw [ih]
    simp
theorem parse_deeds {ds : List Dee} (hf : ∀ d ∈ ds, FitD d) : parseM (deedsB ds) = (ds.map canon, 0) := parse_has _ ds 0 _ hf (has_all _) (by simp) (Nat.le_refl _)
theorem one_canon (s : Sta) (d : Dee) : applyOne s (canon d) = applyOne s d := by
  unfold canon
  by_cases h : d.kind = 2
  · rw [if_pos h]
    unfold applyOne
    simp [h]
  · rw [if_neg h]
    unfold applyOne
    simp [h]
theorem apply_canon (s : Sta) (ds : List Dee) : applyL s (ds.map canon) = applyL s ds := by
  induction ds generalizing s with
  | nil => rfl
  | cons d r ih =>
    show applyL (applyOne s (canon d)) (r.map canon) = applyL (applyOne s d) r
    rw [one_canon, ih]
end Go.Proofs.YtbbaoeidobdblaaGreat.Sx

/- Plain: states that are sorted are built anew of their deeds; records, one behind the other. -/
set_option linter.unusedVariables false
set_option linter.unusedSimpArgs false
namespace Go.Proofs.YtbbaoeidobdblaaGreat.Sx
open Go

structure StaOk (s : Sta) : Prop where
  next : fitI s.next
  inos : s.inos.Pairwise fun x y => x.no < y.no
  bad : s.bad.Pairwise fun x y => x < y
  fit : ∀ x ∈ s.inos, FitN x
  fitb : ∀ x ∈ s.bad, fitI x
theorem hasI_iff (l : List Ino) (n : Int) : hasI l n ↔ ∃ x ∈ l, x.no = n := Iff.rfl
theorem insI_last (l : List Ino) (x : Ino) (h : ∀ y ∈ l, y.no < x.no) : insI l x = l ++ [x] := by
  induction l with
  | nil => rfl
  | cons y r ih =>
    have h1 := h y List.mem_cons_self
    rw [insI, if_pos (by omega), ih fun z hz => h z (List.mem_cons_of_mem _ hz)]
    rfl
theorem put_last (l : List Ino) (x : Ino) (h : ∀ y ∈ l, y.no < x.no) : putInoL l x = l ++ [x] := by
  unfold putInoL
  rw [if_neg, insI_last l x h]
  intro e
  obtain ⟨y, hy, e⟩ := (hasI_iff l x.no).1 e
  have := h y hy
  omega
theorem insL_last (l : List Int) (x : Int) (h : ∀ y ∈ l, y < x) : insL l x = l ++ [x] := by
  induction l with
  | nil => rfl
  | cons y r ih =>
    have h1 := h y List.mem_cons_self
    rw [insL, if_pos (by omega), ih fun z hz => h z (List.mem_cons_of_mem _ hz)]
    rfl
theorem addBad_last (l : List Int) (x : Int) (h : ∀ y ∈ l, y < x) : addBadL l x = l ++ [x] := by
  unfold addBadL
  rw [if_neg, insL_last l x h]
  intro e
  have := h x (by simpa using e)
  omega
theorem fold_inos (next : Int) : ∀ (l acc : List Ino), (acc ++ l).Pairwise (fun x y => x.no < y.no) → applyL ⟨next, acc, []⟩ (l.map fun x => ⟨2, 0, x⟩) = ⟨next, acc ++ l, []⟩
  | [], acc, _ => by simp [applyL]
  | x :: r, acc, h => by
    have h1 : ∀ y ∈ acc, y.no < x.no := fun y hy => (List.pairwise_append.1 h).2.2 y hy x List.mem_cons_self
    have h2 : applyOne ⟨next, acc, []⟩ ⟨2, 0, x⟩ = ⟨next, acc ++ [x], []⟩ := by
      unfold applyOne
      rw [if_neg (by simp), if_pos rfl]
      simp only
      rw [put_last acc x h1]
    show applyL (applyOne ⟨next, acc, []⟩ ⟨2, 0, x⟩) (r.map fun x => ⟨2, 0, x⟩) = _
    rw [h2, fold_inos next r (acc ++ [x]) (by simpa using h)]
    simp
theorem fold_bad (next : Int) (ns : List Ino) : ∀ (l acc : List Int), (acc ++ l).Pairwise (fun x y => x < y) → applyL ⟨next, ns, acc⟩ (l.map fun n => ⟨4, n, inoZ⟩) = ⟨next, ns, acc ++ l⟩
  | [], acc, _ => by simp [applyL]
  | x :: r, acc, h => by
    have h1 : ∀ y ∈ acc, y < x := fun y hy => (List.pairwise_append.1 h).2.2 y hy x List.mem_cons_self
    have h2 : applyOne ⟨next, ns, acc⟩ ⟨4, x, inoZ⟩ = ⟨next, ns, acc ++ [x]⟩ := by
      unfold applyOne
      rw [if_neg (by simp), if_neg (by simp), if_neg (by simp), if_pos rfl]
      simp only
      rw [addBad_last acc x h1]
    show applyL (applyOne ⟨next, ns, acc⟩ ⟨4, x, inoZ⟩) (r.map fun n => ⟨4, n, inoZ⟩) = _
    rw [h2, fold_bad next ns r (acc ++ [x]) (by simpa using h)]
    simp
theorem applyL_append (s : Sta) (a b : List Dee) : applyL s (a ++ b) = applyL (applyL s a) b := by simp [applyL]
/-- A state that is sorted is what its deeds lead to. -/
theorem whole_apply {s : Sta} (h : StaOk s) : applyL staZ (wholeL s) = s := by
  have h1 : applyOne staZ ⟨1, s.next, inoZ⟩ = ⟨s.next, [], []⟩ := by
    unfold applyOne
    rw [if_pos rfl]
    rfl
  have h2 : wholeL s = [⟨1, s.next, inoZ⟩] ++ ((s.inos.map fun x => ⟨2, 0, x⟩) ++ s.bad.map fun n => ⟨4, n, inoZ⟩) := by simp [wholeL]
  rw [h2, applyL_append]
  show applyL (applyOne staZ ⟨1, s.next, inoZ⟩) _ = _
  rw [h1, applyL_append, fold_inos s.next s.inos [] (by simpa using h.inos), fold_bad s.next _ s.bad [] (by simpa using h.bad)]
  simp
theorem whole_fit {s : Sta} (h : StaOk s) : ∀ d ∈ wholeL s, FitD d := by
  intro d hd
  simp only [wholeL, List.cons_append, List.mem_cons, List.mem_append, List.mem_map] at hd
  rcases hd with rfl | ⟨x, hx, rfl⟩ | ⟨x, hx, rfl⟩
  · exact ⟨.inl rfl, fun _ => h.next, fun e => absurd e (by simp)⟩
  · exact ⟨.inr (.inl rfl), fun e => absurd rfl e, fun _ => h.fit x hx⟩
  · exact ⟨.inr (.inr (.inr rfl)), fun _ => h.fitb x hx, fun e => absurd e (by simp)⟩
theorem repl_no (l : List Ino) (x : Ino) : (replI l x).map (·.no) = l.map (·.no) := by
  induction l with
  | nil => rfl
  | cons y r ih =>
    unfold replI
    split
    · rename_i h
      have : y.no = x.no := by simpa using h
      simp [this]
    · simp [ih]
theorem pw_map {l : List Ino} : l.Pairwise (fun x y => x.no < y.no) ↔ (l.map (·.no)).Pairwise (· < ·) := by rw [List.pairwise_map]
theorem mem_ins {l : List Ino} {x y : Ino} (h : y ∈ insI l x) : y ∈ l ∨ y = x := by
  induction l with
  | nil => exact .inr (List.mem_singleton.1 h)
  | cons z r ih =>
    unfold insI at h
    split at h
    · rcases List.mem_cons.1 h with rfl | h
      · exact .inl List.mem_cons_self
      · rcases ih h with h | h
        · exact .inl (List.mem_cons_of_mem _ h)
        · exact .inr h
    · rcases List.mem_cons.1 h with rfl | h
      · exact .inr rfl
      · exact .inl h
theorem mem_repl {l : List Ino} {x y : Ino} (h : y ∈ replI l x) : y ∈ l ∨ y = x := by
  induction l with
  | nil => cases h
  | cons z r ih =>
    unfold replI at h
    split at h
    · rcases List.mem_cons.1 h with rfl | h
      · exact .inr rfl
      · exact .inl (List.mem_cons_of_mem _ h)
    · rcases List.mem_cons.1 h with rfl | h
      · exact .inl List.mem_cons_self
      · rcases ih h with h | h
        · exact .inl (List.mem_cons_of_mem _ h)
        · exact .inr h
theorem mem_put {l : List Ino} {x y : Ino} (h : y ∈ putInoL l x) : y ∈ l ∨ y = x := by
  unfold putInoL at h
  split at h
  · exact mem_repl h
  · exact mem_ins h
theorem ins_sorted {l : List Ino} {x : Ino} (h : l.Pairwise fun x y => x.no < y.no) (hn : ∀ y ∈ l, y.no ≠ x.no) : (insI l x).Pairwise fun x y => x.no < y.no := by
  induction l with
  | nil => exact List.pairwise_singleton _ _
  | cons z r ih =>
    have h1 := List.pairwise_cons.1 h
    have hz := hn z List.mem_cons_self
    unfold insI
    split
    · refine List.pairwise_cons.2 ⟨fun y hy => ?_, ih h1.2 fun y hy => hn y (List.mem_cons_of_mem _ hy)⟩
      rcases mem_ins hy with hy | rfl
      · exact h1.1 y hy
      · omega
    · refine List.pairwise_cons.2 ⟨fun y hy => ?_, h⟩
      rcases List.mem_cons.1 hy with rfl | hy
      · omega
      · have := h1.1 y hy
        omega
theorem put_sorted {l : List Ino} (x : Ino) (h : l.Pairwise fun x y => x.no < y.no) : (putInoL l x).Pairwise fun x y => x.no < y.no := by
  unfold putInoL
  split
  · rw [pw_map, repl_no, ← pw_map]
    exact h
  · rename_i hn
    exact ins_sorted h fun y hy e => hn ((hasI_iff l x.no).2 ⟨y, hy, e⟩)
theorem memL_ins {l : List Int} {x y : Int} (h : y ∈ insL l x) : y ∈ l ∨ y = x := by
  induction l with
  | nil => exact .inr (List.mem_singleton.1 h)
  | cons z r ih =>
    unfold insL at h
    split at h
    · rcases List.mem_cons.1 h with rfl | h
      · exact .inl List.mem_cons_self
      · rcases ih h with h | h
        · exact .inl (List.mem_cons_of_mem _ h)
        · exact .inr h
    · rcases List.mem_cons.1 h with rfl | h
      · exact .inr rfl
      · exact .inl h
theorem insL_sorted {l : List Int} {x : Int} (h : l.Pairwise fun x y => x < y) (hn : ¬ x ∈ l) : (insL l x).Pairwise fun x y => x < y := by
  induction l with
  | nil => exact List.pairwise_singleton _ _
  | cons z r ih =>
    have h1 := List.pairwise_cons.1 h
    have hz : z ≠ x := fun e => hn (by rw [e]; exact List.mem_cons_self)
    unfold insL
    split
    · refine List.pairwise_cons.2 ⟨fun y hy => ?_, ih h1.2 fun hy => hn (List.mem_cons_of_mem _ hy)⟩
      rcases memL_ins hy with hy | rfl
      · exact h1.1 y hy
      · omega
    · refine List.pairwise_cons.2 ⟨fun y hy => ?_, h⟩
      rcases List.mem_cons.1 hy with rfl | hy
      · omega
      · have := h1.1 y hy
        omega
theorem apply_ok1 {s : Sta} {d : Dee} (h : StaOk s) (hd : FitD d) : StaOk (applyOne s d) := by
  unfold applyOne
  split
  · rename_i e
    exact ⟨hd.no (by rw [e]; decide), h.inos, h.bad, h.fit, h.fitb⟩
  · split
    · rename_i e
      refine ⟨h.next, put_sorted _ h.inos, h.bad, fun x hx => ?_, h.fitb⟩
      rcases mem_put hx with hx | rfl
      · exact h.fit x hx
      · exact hd.ino e
    · split
      · exact ⟨h.next, h.inos.filter _, h.bad, fun x hx => h.fit x (List.mem_filter.1 hx).1, h.fitb⟩
      · split
        · rename_i e
          refine ⟨h.next, h.inos, ?_, h.fit, fun x hx => ?_⟩
          · simp only [addBadL]
            split
            · exact h.bad
            · rename_i hn
              exact insL_sorted h.bad (by simpa using hn)
          · simp only [addBadL] at hx
            split at hx
            · exact h.fitb x hx
            · rcases memL_ins hx with hx | rfl
              · exact h.fitb x hx
              · exact hd.no (by rw [e]; decide)
        · exact h
theorem apply_ok {s : Sta} {l : List Dee} (h : StaOk s) (hd : ∀ d ∈ l, FitD d) : StaOk (applyL s l) := by
  induction l generalizing s with
  | nil => exact h
  | cons d r ih => exact ih (apply_ok1 h (hd d List.mem_cons_self)) fun x hx => hd x (List.mem_cons_of_mem _ hx)
theorem new_ok : StaOk newSta := by
  refine ⟨by unfold fitI; decide, List.pairwise_singleton _ _, List.Pairwise.nil, fun x hx => ?_, fun x hx => by cases hx⟩
  rw [List.mem_singleton.1 hx]
  exact ⟨by unfold fitI; decide, by unfold fitI; decide, by unfold fitI; decide, by unfold fitI; decide, by decide, by decide, by decide, fun e he => (by cases he), fun e he => (by cases he)⟩
end Go.Proofs.YtbbaoeidobdblaaGreat.Sx

/- Plain: what a journal's chip has, and what is found on it. -/
set_option linter.unusedVariables false
set_option linter.unusedSimpArgs false
namespace Go.Proofs.YtbbaoeidobdblaaGreat.Sx
open Go

def isB (l : List Int) : Prop := ∀ x, x ∈ l → 0 ≤ x ∧ x ≤ 255
theorem isB_app {a b : List Int} : isB (a ++ b) ↔ isB a ∧ isB b := by
  unfold isB
  constructor
  · exact fun h => ⟨fun x hx => h x (List.mem_append_left _ hx), fun x hx => h x (List.mem_append_right _ hx)⟩
  · rintro ⟨h1, h2⟩ x hx
    rcases List.mem_append.1 hx with h | h
    · exact h1 x h
    · exact h2 x h
theorem isB_rep (k : Nat) : isB (List.replicate k 255) := fun x hx => by rw [(List.mem_replicate.1 hx).2]; decide
theorem isB_rec {l : List Int} (h : isB l) : isB (recB l) := isB_app.2 ⟨bodyB_byte l h, fun x hx => by rw [List.mem_singleton.1 hx]; decide⟩
/-- The first record is found. -/
theorem next_rec {l rest : List Int} (hb : isB l) (hl : l.length ≤ 65000) : nextM (recB l ++ rest) = some l := by
  have hs := sumM_le (lowB l.length 2 ++ l)
  have h2 : (recB l ++ rest).take 2 = lowB l.length 2 := by
    simp only [recB, bodyB, List.append_assoc]
    rw [List.take_append_of_le_length (by rw [lowB_length]; exact Nat.le_refl _), List.take_of_length_le (by rw [lowB_length]; exact Nat.le_refl _)]
  have h6 : (recB l ++ rest).drop 2 = lowB (sumM (lowB l.length 2 ++ l)) 4 ++ (l ++ ([0] ++ rest)) := by
    simp only [recB, bodyB, List.append_assoc]
    rw [List.drop_append_of_le_length (by rw [lowB_length]; exact Nat.le_refl _), List.drop_of_length_le (by rw [lowB_length]; exact Nat.le_refl _), List.nil_append]
  have h4 : ((recB l ++ rest).drop 2).take 4 = lowB (sumM (lowB l.length 2 ++ l)) 4 := by
    rw [h6, List.take_append_of_le_length (by rw [lowB_length]; exact Nat.le_refl _), List.take_of_length_le (by rw [lowB_length]; exact Nat.le_refl _)]
  have h7 : (recB l ++ rest).drop 6 = l ++ ([0] ++ rest) := by
    have : (recB l ++ rest).drop 6 = ((recB l ++ rest).drop 2).drop 4 := by rw [List.drop_drop]
    rw [this, h6, List.drop_append_of_le_length (by rw [lowB_length]; exact Nat.le_refl _), List.drop_of_length_le (by rw [lowB_length]; exact Nat.le_refl _), List.nil_append]
  have hv : valB (lowB l.length 2) = l.length := by rw [valB_lowB]; exact Int.emod_eq_of_lt (by omega) (by simp; omega)
  have hx : ((recB l ++ rest).drop 6).take l.length = l := by rw [h7, List.take_append_of_le_length (Nat.le_refl _), List.take_of_length_le (Nat.le_refl _)]
  have hf : (recB l ++ rest)[l.length + 6]? = some 0 := by
    have : (recB l ++ rest)[l.length + 6]? = ((recB l ++ rest).drop 6)[l.length]? := by rw [List.getElem?_drop, Nat.add_comm]
    rw [this, h7, List.getElem?_append_right (Nat.le_refl _)]
    simp
  unfold nextM
  rw [if_neg (by rw [List.length_append, recB_length]; omega), h2, hv, if_neg (by rw [List.length_append, recB_length]; omega)]
  rw [Int.toNat_natCast, hx, h4, if_pos]
  refine ⟨?_, hf⟩
  rw [valB_lowB]
  exact (Int.emod_eq_of_lt hs.1 (by rw [p256_4]; exact hs.2)).symm
theorem next_clean (k : Nat) : nextM (List.replicate k 255) = none := by
  unfold nextM
  by_cases h : k < 2
  · rw [if_pos (by simpa using h)]
  · rw [if_neg (by simpa using h)]
    have e : (List.replicate k (255 : Int)).take 2 = [255, 255] := by
      rw [List.take_replicate, Nat.min_eq_left (by omega)]
      rfl
    rw [e]
    have : valB [255, 255] = 65535 := by decide
    rw [this, if_pos (.inl (by decide))]
def recsB (ls : List (List Int)) : List Int := ls.flatMap recB
theorem recsB_cons (l : List Int) (ls : List (List Int)) : recsB (l :: ls) = recB l ++ recsB ls := rfl
theorem recsB_snoc (ls : List (List Int)) (l : List Int) : recsB (ls ++ [l]) = recsB ls ++ recB l := by simp [recsB]
theorem recsB_length (ls : List (List Int)) : (recsB ls).length = totP (ls.map fun y => (y, y.length)) := by
  induction ls with
  | nil => rfl
  | cons x r ih => rw [recsB_cons, List.length_append, recB_length, ih]; rfl
theorem scan_recs (b : List Int) : ∀ (ls : List (List Int)) (k o f : Nat), (∀ l ∈ ls, isB l ∧ l.length ≤ 65000) → b.drop o = recsB ls ++ List.replicate k 255 → b.length - o ≤ f → scanN b f o = (ls, o + (recsB ls).length)
  | [], k, o, f, _, h, hf => by
    have h1 : nextM (b.drop o) = none := by rw [h]; exact next_clean k
    cases f with
    | zero => simp [scanN, recsB]
    | succ f => rw [scanN, h1]; simp [recsB]
  | l :: ls, k, o, f, hl, h, hf => by
    have h0 := hl l List.mem_cons_self
    rw [recsB_cons, List.append_assoc] at h
    have hlen := congrArg List.length h
    rw [List.length_drop, List.length_append, recB_length] at hlen
    obtain ⟨f, rfl⟩ : ∃ g, f = g + 1 := ⟨f - 1, by omega⟩
    have h1 : nextM (b.drop o) = some l := by rw [h]; exact next_rec h0.1 h0.2
    have h2 : b.drop (o + (l.length + 7)) = recsB ls ++ List.replicate k 255 := by
      rw [← List.drop_drop, h, ← recB_length, List.drop_append_of_le_length (Nat.le_refl _), List.drop_of_length_le (Nat.le_refl _), List.nil_append]
    have ih := scan_recs b ls k (o + (l.length + 7)) f (fun x hx => hl x (List.mem_cons_of_mem _ hx)) h2 (by omega)
    rw [scanN, h1]
    simp only
    rw [ih, recsB_cons, List.length_append, recB_length, Nat.add_assoc]
theorem scan_clean {ls : List (List Int)} {k : Nat} (hl : ∀ l ∈ ls, isB l ∧ l.length ≤ 65000) : scanM (recsB ls ++ List.replicate k 255) = (ls, (recsB ls).length, true) := by
  have h := scan_recs (recsB ls ++ List.replicate k 255) ls k 0 _ hl (List.drop_zero ..) (Nat.le_refl _)
  rw [Nat.zero_add, Nat.sub_zero] at h
  unfold scanM
  rw [h]
  simp only
  rw [List.drop_append_of_le_length (Nat.le_refl _), List.drop_of_length_le (Nat.le_refl _), List.nil_append]
  simp
/-- Deeds that may be packed into one record. -/
structure FitL (l : List Dee) : Prop where
  each : ∀ d ∈ l, FitD d
theorem deedsB_isB (l : List Dee) : isB (deedsB l) := deedsB_byte l
theorem firstB_isB (e : Int) (s : Sta) : isB (firstB e s) := firstB_byte e s
theorem ep_first {e : Int} (s : Sta) (h : 1 ≤ e ∧ e ≤ 2147483647) : (getM (firstB e s) 0 8).2 = 0 ∧ epOf (firstB e s) = e ∧ (firstB e s).drop 8 = deedsB (wholeL s) := by
  have hl := firstB_length e s
  have h1 : getM (firstB e s) 0 8 = (e % 18446744073709551616, 0) := by
    unfold getM
    rw [if_neg (by omega), List.drop_zero]
    have : (firstB e s).take 8 = intB e := by
      unfold firstB
      rw [List.take_append_of_le_length (by rw [intB_length]; exact Nat.le_refl _), List.take_of_length_le (by rw [intB_length]; exact Nat.le_refl _)]
    rw [this, intB, valB_lowB, p256_8]
    congr 1
    omega
  refine ⟨by rw [h1], ?_, ?_⟩
  · unfold epOf
    rw [h1]
    exact wrap_mod ⟨by omega, by omega⟩
  · unfold firstB
    rw [List.drop_append_of_le_length (by rw [intB_length]; exact Nat.le_refl _), List.drop_of_length_le (by rw [intB_length]; exact Nat.le_refl _), List.nil_append]
/-- The records of a half: the state at its begin, and deeds. -/
def halfL (e : Int) (s : Sta) (ds : List (List Dee)) : List (List Int) := firstB e s :: ds.map deedsB
noncomputable def stateL (s : Sta) (ds : List (List Dee)) : Sta := ds.foldl applyL s
theorem stateL_snoc (s : Sta) (ds : List (List Dee)) (d : List Dee) : stateL s (ds ++ [d]) = applyL (stateL s ds) d := by simp [stateL]
theorem goP_deeds : ∀ (ds : List (List Dee)) (s : Sta) (u : Nat), (∀ d ∈ ds, FitL d) → goP s u ((ds.map deedsB).map fun y => (y, y.length)) = (stateL s ds, u + totP ((ds.map deedsB).map fun y => (y, y.length)))
  | [], s, u, _ => by simp [goP, stateL, totP]
  | d :: r, s, u, h => by
    have h1 := parse_deeds (h d List.mem_cons_self).each
    have ih := goP_deeds r (applyL s d) (u + ((deedsB d).length + 7)) fun x hx => h x (List.mem_cons_of_mem _ hx)
    simp only [List.map_cons, goP, h1, ne_eq, not_true, if_false, totP]
    rw [apply_canon, ih]
    simp only [stateL, List.foldl_cons]
    rw [Nat.add_assoc]
theorem read_half {e : Int} {s : Sta} {ds : List (List Dee)} {k : Nat} (he : 1 ≤ e ∧ e ≤ 2147483647) (hs : StaOk s) (hd : ∀ d ∈ ds, FitL d) (hl : ∀ l ∈ halfL e s ds, l.length ≤ 65000) :
    readM (recsB (halfL e s ds) ++ List.replicate k 255) = ⟨e, (recsB (halfL e s ds)).length, stateL s ds, false⟩ := by
  have hsc := scan_clean (ls := halfL e s ds) (k := k) fun l h => ⟨by
    rcases List.mem_cons.1 h with rfl | h
    · exact firstB_isB e s
    · obtain ⟨d, _, rfl⟩ := List.mem_map.1 h
      exact deedsB_isB d, hl l h⟩
  obtain ⟨e1, e2, e3⟩ := ep_first s he
  have hp := parse_deeds (whole_fit hs)
  have hg : goP staZ 0 (recL (halfL e s ds)) = (stateL s ds, (recsB (halfL e s ds)).length) := by
    show goP staZ 0 (((firstB e s).drop 8, (firstB e s).length) :: (ds.map deedsB).map fun y => (y, y.length)) = _
    rw [goP, e3, hp]
    simp only [ne_eq, not_true, if_false]
    rw [apply_canon, whole_apply hs, goP_deeds ds s _ hd, recsB_length]
    simp only [halfL, List.map_cons, totP, Nat.zero_add]
  unfold readM
  rw [hsc]
  simp only [halfL]
  rw [if_neg (by rw [e1, e2]; omega), e3, hp]
  simp only [ne_eq, not_true, if_false]
  have hg' := hg
  simp only [halfL] at hg'
  rw [hg', e2]
  simp
theorem read_clean (k : Nat) : readM (List.replicate k 255) = fndZ := by
  have h := scan_clean (ls := []) (k := k) fun l h => by cases h
  have e : recsB [] ++ List.replicate k (255 : Int) = List.replicate k 255 := rfl
  rw [e] at h
  unfold readM
  rw [h]
/-- A half of bytes. -/
def hB (b : List Int) (H h : Nat) : List Int := (b.drop (h * H)).take H
theorem halfB_eq (c : Cp) (h : Nat) : halfB c h = hB c.b (halfSz c) h := rfl
theorem hB_length {b : List Int} {H h : Nat} (hb : b.length = 2 * H) (hh : h < 2) : (hB b H h).length = H := by
  have : h = 0 ∨ h = 1 := by omega
  rw [hB, List.length_take, List.length_drop]
  rcases this with rfl | rfl <;> omega
theorem hB_get (b : List Int) (H h i : Nat) : (hB b H h)[i]? = if i < H then b[h * H + i]? else none := by
  unfold hB
  rw [List.getElem?_take, List.getElem?_drop]
theorem hB_lay {b : List Int} {H h o : Nat} (hb : b.length = 2 * H) (hh : h < 2) (xs : List Int) (ho : o + xs.length ≤ H) : hB (layI b (h * H + o) xs) H h = layI (hB b H h) o xs ∧ hB (layI b (h * H + o) xs) H (1 - h) = hB b H (1 - h) := by
  have hl := hB_length hb hh
  have h01 : h = 0 ∨ h = 1 := by omega
  have hm : h * H + o + xs.length ≤ b.length := by rcases h01 with rfl | rfl <;> omega
  constructor
  · apply List.ext_getElem?
    intro i
    rw [layI_get _ _ _ (by omega), hB_get, hB_get, layI_get _ _ _ hm]
    by_cases h1 : i < H
    · rw [if_pos h1, if_pos h1]
      by_cases h2 : i < o
      · rw [if_pos (by omega), if_pos h2]
      · rw [if_neg (by omega), if_neg h2]
        by_cases h3 : i < o + xs.length
        · rw [if_pos (by omega), if_pos h3]
          congr 1
          omega
        · rw [if_neg (by omega), if_neg h3]
    · rw [if_neg h1, if_neg h1, if_neg (by omega), if_neg (by omega)]
  · apply List.ext_getElem?
    intro i
    rw [hB_get, hB_get, layI_get _ _ _ hm]
    by_cases h1 : i < H
    · rw [if_pos h1, if_pos h1]
      rcases h01 with rfl | rfl
      · rw [if_neg (by omega), if_neg (by omega)]
      · rw [if_pos (by omega)]
    · rw [if_neg h1, if_neg h1]
theorem hB_full {b : List Int} {H h : Nat} (hb : b.length = 2 * H) (hh : h < 2) : hB (layI b (h * H) (List.replicate H 255)) H h = List.replicate H 255 ∧ hB (layI b (h * H) (List.replicate H 255)) H (1 - h) = hB b H (1 - h) := by
  have h1 := hB_lay (o := 0) hb hh (List.replicate H 255) (by simp)
  rw [Nat.add_zero] at h1
  refine ⟨?_, h1.2⟩
  rw [h1.1]
  have := hB_length hb hh
  unfold layI
  rw [List.take_zero, List.nil_append, Nat.zero_add, List.length_replicate, List.drop_of_length_le (by omega), List.append_nil]
theorem lay_tail (a : List Int) (k : Nat) (xs : List Int) (h : xs.length ≤ k) : layI (a ++ List.replicate k 255) a.length xs = a ++ xs ++ List.replicate (k - xs.length) 255 := by
  unfold layI
  rw [List.take_append_of_le_length (Nat.le_refl _), List.take_of_length_le (Nat.le_refl _), ← List.drop_drop, List.drop_append_of_le_length (Nat.le_refl _), List.drop_of_length_le (Nat.le_refl _), List.nil_append, List.drop_replicate]
/-- A journal whose chip has what it is. -/
structure Jon (j : Jn) : Prop extends Jok j where
  bytes : j.c.bytes
  sok : StaOk j.s
  on : ∃ s0 ds, StaOk s0 ∧ (∀ d ∈ ds, FitL d) ∧ j.s = stateL s0 ds ∧ j.used = (recsB (halfL j.ep s0 ds)).length ∧ halfB j.c j.half = recsB (halfL j.ep s0 ds) ++ List.replicate (halfSz j.c - j.used) 255
  other : (readM (halfB j.c (1 - j.half))).ep < j.ep
theorem totP_le {ls : List (List Int)} {l : List Int} (h : l ∈ ls) : l.length + 7 ≤ (recsB ls).length := by
  induction ls with
  | nil => cases h
  | cons x r ih =>
    rw [recsB_cons, List.length_append, recB_length]
    rcases List.mem_cons.1 h with rfl | h
    · omega
    · have := ih h
      omega
theorem jon_read {j : Jn} (h : Jon j) : readM (halfB j.c j.half) = ⟨j.ep, j.used, j.s, false⟩ := by
  obtain ⟨s0, ds, h1, h2, h3, h4, h5⟩ := h.on
  have hz := half_le h.fit
  have hu := h.used
  rw [h5, read_half h.ep h1 h2 fun l hl => by have := totP_le hl; omega, h3, h4]
/-- What is found on its chip. -/
theorem jon_best {j : Jn} (h : Jon j) : bestM j.c = (⟨j.ep, j.used, j.s, false⟩, j.half) := by
  have h1 := jon_read h
  have h2 := h.other
  have h3 := h.ep
  have h4 := read_w (halfB j.c (1 - j.half))
  have hh := h.half
  have : j.half = 0 ∨ j.half = 1 := by omega
  unfold bestM best1
  rcases this with e | e
  · rw [e] at h1 h2 h4 ⊢
    rw [Nat.sub_zero] at h2 h4
    have e5 : (if 0 < (⟨j.ep, j.used, j.s, false⟩ : Fnd).ep then (⟨j.ep, j.used, j.s, false⟩ : Fnd) else fndZ) = ⟨j.ep, j.used, j.s, false⟩ := if_pos (by simp only; omega)
    rw [h1, e5, if_neg (by simp only; omega)]
  · rw [e] at h1 h2 h4 ⊢
    rw [Nat.sub_self] at h2 h4
    rw [h1]
    have hz : fndZ.ep = 0 := rfl
    by_cases h5 : 0 < (readM (halfB j.c 0)).ep
    · rw [if_pos h5, if_pos h2]
    · rw [if_neg h5, hz, if_pos (by simp only; omega)]
/-- It is opened as it was. -/
theorem jon_open {j : Jn} (h : Jon j) (x : Nat × Sl × Sl) : openE j.c = 0 ∧ openM j.c x = (0, ⟨j.c, x.1, j.half, j.ep, j.used, j.s, x.2.1, x.2.2, false⟩) := by
  have h1 := jon_best h
  have h3 := h.ep
  have key : ∀ x : Nat × Sl × Sl, openM j.c x = (0, ⟨j.c, x.1, j.half, j.ep, j.used, j.s, x.2.1, x.2.2, false⟩) := fun x => by
    unfold openM openJ
    rw [h1, if_neg (by simp only; omega), if_neg (by simp)]
  exact ⟨by unfold openE; rw [key], key x⟩
/-- The same journal, with other slices and pointer, is so too. -/
theorem jon_re {j : Jn} (h : Jon j) (x : Nat × Sl × Sl) : Jon ⟨j.c, x.1, j.half, j.ep, j.used, j.s, x.2.1, x.2.2, false⟩ :=
  ⟨⟨h.fit, h.half, h.live, rfl, h.used, h.clean, h.ep⟩, h.bytes, h.sok, h.on, h.other⟩
end Go.Proofs.YtbbaoeidobdblaaGreat.Sx

/- Plain: journals go on being what their chips have. -/
set_option linter.unusedVariables false
set_option linter.unusedSimpArgs false
namespace Go.Proofs.YtbbaoeidobdblaaGreat.Sx
open Go

theorem isB_lay {b : List Int} (hb : isB b) {xs : List Int} (hx : isB xs) (o : Nat) : isB (layI b o xs) := by
  unfold layI
  exact isB_app.2 ⟨isB_app.2 ⟨fun x h => hb x (List.mem_of_mem_take h), hx⟩, fun x h => hb x (List.mem_of_mem_drop h)⟩
theorem rep_lay (H : Nat) (xs : List Int) (h : xs.length ≤ H) : layI (List.replicate H 255) 0 xs = xs ++ List.replicate (H - xs.length) 255 := by
  have := lay_tail [] H xs h
  simpa using this
theorem halfSz_ge {c : Cp} (hf : c.fit) : 256 ≤ halfSz c := by
  obtain ⟨q0, ⟨q1, q2⟩, ⟨q3, q4⟩, _⟩ := id hf.right
  have h5 : 1 ≤ halfN c := by unfold halfN; omega
  have h6 : 256 ≤ c.g.sector.toNat := by omega
  have := Nat.mul_le_mul h5 h6
  unfold halfSz
  omega
theorem jon_form {c : Cp} (hf : c.fit) (hp : live c.p) (x : Nat × Sl) : Jon (formJ c x) ∧ c.same (formJ c x).c := by
  obtain ⟨hj, hs⟩ := form_ok hf hp x
  obtain ⟨_, _, _, _, _, q, h1, h2⟩ := form_live hf hp
  have hlen := (half_two hf).1
  have hge := halfSz_ge hf
  have hr : (firstB 1 newSta).length + 7 ≤ halfSz c := by rw [first_new]; omega
  have hz := hs.halfSz
  have hb : (formJ c x).c.b = layI (List.replicate c.b.length 255) 0 (recB (firstB 1 newSta)) := by
    show (formC c).2.b = _
    rw [h2]
  have hbl : (List.replicate c.b.length (255 : Int)).length = 2 * halfSz c := by rw [List.length_replicate]; exact hlen
  have hlay := hB_lay (o := 0) (h := 0) hbl (by decide) (recB (firstB 1 newSta)) (by rw [recB_length]; omega)
  have hrep : ∀ h, h < 2 → hB (List.replicate c.b.length 255) (halfSz c) h = List.replicate (halfSz c) 255 := fun h hh => by
    have : h = 0 ∨ h = 1 := by omega
    unfold hB
    rw [List.drop_replicate, List.take_replicate]
    congr 1
    rcases this with rfl | rfl <;> omega
  rw [hrep 0 (by decide), hrep 1 (by decide), Nat.zero_mul, Nat.zero_add] at hlay
  refine ⟨⟨hj, ?_, new_ok, ⟨newSta, [], new_ok, (fun d hd => absurd hd List.not_mem_nil), rfl, ?_, ?_⟩, ?_⟩, hs⟩
  · show isB _
    rw [hb]
    exact isB_lay (isB_rep _) (isB_rec (firstB_isB _ _)) _
  · show (firstB 1 newSta).length + 7 = (recB (firstB 1 newSta) ++ []).length
    rw [List.append_nil, recB_length]
  · show halfB (formJ c x).c 0 = (recB (firstB 1 newSta) ++ []) ++ List.replicate (halfSz (formJ c x).c - ((firstB 1 newSta).length + 7)) 255
    rw [halfB_eq, hz, hb, hlay.1, rep_lay _ _ (by rw [recB_length]; exact hr), List.append_nil, recB_length]
  · show (readM (halfB (formJ c x).c 1)).ep < 1
    rw [halfB_eq, hz, hb, hlay.2, read_clean]
    decide
theorem jon_more {j : Jn} (h : Jon j) {l : List Dee} (hl : FitL l) (x : Sl × Sl) (hle : j.used + ((deedsB l).length + 7) ≤ halfSz j.c) : ∃ q, commitM j l x = (0, ⟨{ j.c with p := q, b := layI j.c.b (j.half * halfSz j.c + j.used) (recB (deedsB l)) }, j.gj, j.half, j.ep, j.used + ((deedsB l).length + 7), applyL j.s l, x.1, x.2, false⟩) ∧ Jon (commitM j l x).2 ∧ j.c.same (commitM j l x).2.c := by
  obtain ⟨q, h1, h2, h3⟩ := commit_more h.toJok l x hle
  refine ⟨q, h1, ?_, h3⟩
  have hlen := (half_two h.fit).1
  have hz := h3.halfSz
  have hlay := hB_lay (o := j.used) hlen h.half (recB (deedsB l)) (by rw [recB_length]; exact hle)
  obtain ⟨s0, ds, g1, g2, g3, g4, g5⟩ := h.on
  rw [halfB_eq] at g5
  rw [h1] at h2 hz ⊢
  have hrl : halfL j.ep s0 (ds ++ [l]) = halfL j.ep s0 ds ++ [deedsB l] := by simp [halfL]
  refine ⟨h2, isB_lay h.bytes (isB_rec (deedsB_isB l)) _, apply_ok h.sok hl.each, ⟨s0, ds ++ [l], g1, ?_, ?_, ?_, ?_⟩, ?_⟩
  · intro d hd
    rcases List.mem_append.1 hd with hd | hd
    · exact g2 d hd
    · rw [List.mem_singleton.1 hd]; exact hl
  · rw [stateL_snoc, ← g3]
  · simp only
    rw [hrl, recsB_snoc, List.length_append, recB_length, g4]
  · simp only at hz ⊢
    rw [halfB_eq, hz, hlay.1, g5, g4, lay_tail _ _ _ (by rw [recB_length, ← g4]; omega), hrl, recsB_snoc, recB_length, Nat.sub_sub]
  · simp only at hz ⊢
    rw [halfB_eq, hz, hlay.2, ← halfB_eq]
    exact h.other
theorem jon_anew {j : Jn} (h : Jon j) {s : Sta} (hs : StaOk s) (si sb : Sl) (h1 : wholeB s + 15 ≤ halfSz j.c) (h2 : j.ep < 2147483647) : ∃ q, anewM j s si sb = (0, ⟨{ j.c with p := q, b := anewB j.c (1 - j.half) (firstB (j.ep + 1) s), er := erN j.c.er ((1 - j.half) * halfN j.c) (halfN j.c) }, j.gj, 1 - j.half, j.ep + 1, wholeB s + 15, s, si, sb, false⟩) ∧ Jon (anewM j s si sb).2 ∧ j.c.same (anewM j s si sb).2.c := by
  obtain ⟨q, e1, e2, e3⟩ := anew_yes h.toJok s si sb h1 h2
  refine ⟨q, e1, ?_, e3⟩
  have hlen := (half_two h.fit).1
  have hz := e3.halfSz
  have hh : 1 - j.half < 2 := by omega
  have hfl : (firstB (j.ep + 1) s).length = 8 + wholeB s := firstB_length _ _
  have hbl : (layI j.c.b ((1 - j.half) * halfSz j.c) (List.replicate (halfSz j.c) 255)).length = 2 * halfSz j.c := by
    rw [layI_len, hlen]
    rw [List.length_replicate]
    exact half_fits h.fit hh
  have hlay := hB_lay (o := 0) hbl hh (recB (firstB (j.ep + 1) s)) (by rw [recB_length]; omega)
  have hful := hB_full hlen hh
  rw [hful.1, hful.2, Nat.add_zero] at hlay
  rw [e1] at e2 hz ⊢
  simp only at hz
  have hoh : 1 - (1 - j.half) = j.half := by have := h.half; omega
  refine ⟨e2, isB_lay (isB_lay h.bytes (isB_rep _) _) (isB_rec (firstB_isB _ _)) _, hs, ⟨s, [], hs, (fun d hd => absurd hd List.not_mem_nil), rfl, ?_, ?_⟩, ?_⟩
  · show wholeB s + 15 = (recB (firstB (j.ep + 1) s) ++ []).length
    rw [List.append_nil, recB_length]
    omega
  · show halfB _ (1 - j.half) = (recB (firstB (j.ep + 1) s) ++ []) ++ List.replicate (_ - (wholeB s + 15)) 255
    rw [halfB_eq]
    simp only
    rw [hz, anewB, hlay.1, rep_lay _ _ (by rw [recB_length]; omega), List.append_nil, recB_length, show (firstB (j.ep + 1) s).length + 7 = wholeB s + 15 by omega]
  · show (readM (halfB _ (1 - (1 - j.half)))).ep < j.ep + 1
    rw [hoh, halfB_eq]
    simp only
    rw [hz, anewB]
    have := hlay.2
    rw [hoh] at this
    rw [this, ← halfB_eq, jon_read h]
    simp only
    omega
/-- What becomes of a commit. -/
theorem jon_commit {j : Jn} (h : Jon j) {l : List Dee} (hl : FitL l) (x : Sl × Sl) (he : j.ep < 2147483647) :
    ((commitM j l x).1 = 0 ∧ Jon (commitM j l x).2 ∧ (commitM j l x).2.s = applyL j.s l ∧ (commitM j l x).2.si = x.1 ∧ (commitM j l x).2.sb = x.2 ∧ (commitM j l x).2.gj = j.gj ∧ j.c.same (commitM j l x).2.c ∧ ((commitM j l x).2.ep = j.ep ∧ (commitM j l x).2.half = j.half ∧ (commitM j l x).2.c.er = j.c.er ∧ j.used + ((deedsB l).length + 7) ≤ halfSz j.c ∨ (commitM j l x).2.ep = j.ep + 1 ∧ (commitM j l x).2.half = 1 - j.half ∧ (commitM j l x).2.c.er = erN j.c.er ((1 - j.half) * halfN j.c) (halfN j.c) ∧ wholeB (applyL j.s l) + 15 ≤ halfSz j.c ∧ halfSz j.c < j.used + ((deedsB l).length + 7))) ∨
    (commitM j l x = (10, j) ∧ halfSz j.c < wholeB (applyL j.s l) + 15 ∧ halfSz j.c < j.used + ((deedsB l).length + 7)) := by
  rcases Nat.lt_or_ge (halfSz j.c) (j.used + ((deedsB l).length + 7)) with h1 | h1
  · rw [commit_anew h.toJok _ _ h1]
    rcases Nat.lt_or_ge (halfSz j.c) (wholeB (applyL j.s l) + 15) with h2 | h2
    · exact .inr ⟨anew_no _ _ _ (.inl h2), h2, h1⟩
    · obtain ⟨q, e1, e2, e3⟩ := jon_anew h (apply_ok h.sok hl.each) x.1 x.2 h2 he
      exact .inl ⟨by rw [e1], e2, by rw [e1], by rw [e1], by rw [e1], by rw [e1], e3, .inr ⟨by rw [e1], by rw [e1], by rw [e1], h2, h1⟩⟩
  · obtain ⟨q, e1, e2, e3⟩ := jon_more h hl x h1
    exact .inl ⟨by rw [e1], e2, by rw [e1], by rw [e1], by rw [e1], by rw [e1], e3, .inl ⟨by rw [e1], by rw [e1], by rw [e1], h1⟩⟩
end Go.Proofs.YtbbaoeidobdblaaGreat.Sx

/- garretlaw17.awake. -/
set_option linter.unusedVariables false
set_option linter.unusedSimpArgs false
namespace Go.Proofs.YtbbaoeidobdblaaGreat.Sx
open Go

attribute [local simp ↓] ifb_true' ifb_false'
attribute [local simp] ifb_true ifb_false ifb_eq sx argsT find ev evOp evs evo evBin evInt evStr evNil evNilA ptrA slcA isNoneA asB evLoad look del cellsB evUn evConv kdec fld evFieldA evField evIdxA evIdx evSlc bndL bndH evLen mmi put resV guardV gvL setO tupV cellsOf ones one upd lits nv exitTo SV.val CV.val TI.agg rdyA allR keepB scan simpO gsp isS subs keepT pickT wr memN pubs Res.fact Region.binds bld rest give delL back Res.eqv vi vb num Sv.val undef
/-- A journal that is opened again. -/
def reJ (j : Jn) (x : Nat × Sl × Sl) : Jn := ⟨j.c, x.1, j.half, j.ep, j.used, j.s, x.2.1, x.2.2, false⟩
theorem openOk0 (w : World) (I S : Nat → Prop) (hI : ∀ b, I b → b < w.heap.size) (j : Jn) (hj : Jon j) (hS : Owns j.c.res S w) (hSI : ∀ b, S b → b < w.heap.size ∧ ¬ I b) :
    FnS Tryz.prog 22 #[ptrV j.c.gc] w I S (fun x : Nat × Sl × Sl => .tuple #[ptrV x.1, .int .i64 0]) (fun x => (reJ j x).res) (fun x W => StaR W j.s x.2.1 x.2.2) := by
  have h := open0 w I S hI j.c hj.fit hj.bytes hS hSI
  have e1 := (jon_open hj (0, (none, 0), (none, 0))).1
  have e2 := fun x => (jon_open hj x).2
  simp only [e1, e2, if_true] at h
  refine ⟨h.1, Calls.mono h.2 ?_⟩
  rintro e w' ⟨x, S', k1, k2, k3, k4, k5⟩
  exact ⟨x, S', k1, k2, k3, k4, fun W hW => k5 W hW trivial⟩
/-- One deed that tells the next number. -/
def nextD (v : Int) : Dee := ⟨1, v, inoZ⟩
theorem nextD_fit {v : Int} (h : fitI v) : FitL [nextD v] := ⟨fun d hd => by
  rw [List.mem_singleton.1 hd]
  exact ⟨.inl rfl, fun _ => h, fun e => absurd e (by simp [nextD])⟩⟩
theorem nextD_len (v : Int) : (deedsB [nextD v]).length = 9 := by
  simp only [deedsB, List.flatMap_cons, List.flatMap_nil, List.append_nil, nextD]
  exact num_len 1 _ _ (.inl rfl)
theorem nextD_row {W : World} {g : Nat} {v : Int} (h : W.ownsRow 0 46 9 (.slice (some ⟨g, 0, none⟩) 1 1) 1 [.int .i64 1, .int .i64 v, .int .i64 0, .int .i64 0, .int .i64 0, .int .i64 0, .string ⟨#[]⟩, .slice none 0 0, .slice none 0 0]) : Sv.ok dDee W (some ⟨g, 0, none⟩, 1, 1) [nextD v] :=
  (Rows.sole (d := dDee) (x := nextD v) ⟨(none, 0), (none, 0), rfl, ⟨Nat.zero_le _, Nat.zero_le _, rd_nil _ _ _⟩, ⟨Nat.zero_le _, Nat.zero_le _, rd_nil _ _ _⟩⟩).sv (by decide) (by simp) h
theorem next_apply (s : Sta) (v : Int) : applyL s [nextD v] = { s with next := v } := by
  show applyOne s (nextD v) = _
  unfold applyOne
  rw [if_pos (show (nextD v).kind = 1 from rfl)]
  rfl
theorem new_whole : wholeB newSta = 54 := by
  have h := firstB_length 1 newSta
  rw [first_new] at h
  show (deedsB (wholeL newSta)).length = 54
  omega
set_option maxRecDepth 100000 in
set_option maxHeartbeats 4000000 in
theorem awake17 (w : World) (I : Nat → Prop) (hI : ∀ b, I b → b < w.heap.size) :
    Fn0 Tryz.prog 14 #[] w I (fun _ : Unit => .bool true) (fun _ _ => True) := by
  refine enter (svs := []) tysOk Tryz.func14 rfl Tryz.ntmps14 Tryz.results14 (by kernel_rfl) (by simp) hI (fun _ => True) (fun _ _ => trivial) fun C hC hN ok => ?_
  simp [hN]
  refine call0 ok rfl rfl rfl (fun w I hI hG => wide0 w I hI) fun _ W _ => ?_
  simp [hN]
  refine callS ok rfl rfl rfl [] [] trivial rfl (fun gp : Nat => [(1001, .box gp 108 (powB ⟨-1, 0, false, 0⟩ (.map none)))]) (fun w I S hI hG hO hS => (powNew0 w I hI).lone hO) (fun r => by simp) (.inl fun k hk => by cases hk) fun gp W _ => ?_
  simp [hN]
  obtain ⟨nb, hnb, hnb0, hnb1⟩ : ∃ nb : Nat, wideG.sectors * wideG.sector = (nb : Nat) ∧ 0 < nb ∧ nb ≤ 100000 := ⟨16384, by decide, by decide, by decide⟩
  refine callS ok rfl rfl rfl [] [] trivial rfl (fun x : Nat × Nat × Nat × Nat => [(1000, (newCp wideG gp ⟨-1, 0, false, 0⟩ (.map none) x nb).chip), (1002, (newCp wideG gp ⟨-1, 0, false, 0⟩ (.map none) x nb).row), (1003, (newCp wideG gp ⟨-1, 0, false, 0⟩ (.map none) x nb).map)]) (fun w I S hI hG hO hS => (norNew0 w I hI wideG gp nb ⟨-1, 0, false, 0⟩ (.map none) wide_right hnb hnb0 hnb1).lone hO) (fun r => by simp [Cp.map, mapR]) (.inl fun k hk => by cases hk) fun x W _ => ?_
  obtain ⟨c0, hc0⟩ : ∃ c0, c0 = newCp wideG gp ⟨-1, 0, false, 0⟩ (.map none) x nb := ⟨_, rfl⟩
  have hfit : c0.fit := by
    rw [hc0]
    exact ⟨wide_right, by simp only [newCp, List.length_replicate]; exact hnb.symm, by simp [newCp], by simp [newCp]⟩
  have hlive : live c0.p := by rw [hc0]; exact ⟨(by decide : (-1 : Int) < 0), rfl⟩
  have hgc : c0.gc = x.1 := by rw [hc0]; rfl
  have hpw : (.box gp 108 (powB ⟨-1, 0, false, 0⟩ (.map none)) : Res) = c0.pow := by rw [hc0]; rfl
  have hG0 : c0.g = wideG := by rw [hc0]; rfl
  have her : c0.er = [] := by rw [hc0]; rfl
  rw [hpw]
  simp only [← hc0, ← hgc]
  clear hpw hc0
  simp [hN]
  have hform := form_live hfit hlive
  refine callS ok rfl rfl rfl [1000, 1001, 1002, 1003] c0.res (by simp [Cp.map, mapR]) rfl (fun x : Nat × Sl => [(1000, (formJ c0 x).c.chip), (1001, (formJ c0 x).c.pow), (1002, (formJ c0 x).c.row), (1003, (formJ c0 x).c.map), (1004, (formJ c0 x).box)]) (fun w I S hI hG hO hS' => format0 w I S hI c0 hfit hform.1 hform.2.1 hform.2.2.1 hO hS') (fun r => by simp [Cp.map, mapR]) (.inr fun x q hq => by simp at hq; rcases hq with rfl | rfl | rfl | rfl | rfl <;> simp) fun y W hy => ?_
  have hJ0 := jon_form hfit hlive y
  have hj0 : (formJ c0 y).gj = y.1 ∧ (formJ c0 y).s = newSta ∧ (formJ c0 y).si = y.2 ∧ (formJ c0 y).sb = (none, 0) ∧ (formJ c0 y).ep = 1 ∧ (formJ c0 y).half = 0 := ⟨rfl, rfl, rfl, rfl, rfl, rfl⟩
  obtain ⟨j, hj⟩ : ∃ j, j = formJ c0 y := ⟨_, rfl⟩
  simp only [← hj] at hJ0 hj0
  simp only [← hj]
  rw [← hj0.1]
  simp [hN]
  refine callS ok rfl rfl rfl [1004] [j.box] (by simp) rfl (fun _ : Unit => [(1004, j.box)]) (fun w I S hI hG hO hS' => epoch0 w I S hI j hO hS') (fun r => by simp) (.inr fun x q hq => by simp at hq; subst hq; simp) fun _ W _ => ?_
  rw [hj0.2.2.2.2.1]
  simp [hN]
  intro gd
  have hge := halfSz_ge hJ0.1.fit
  have hused : j.used = 69 := by rw [hj]; show (firstB 1 newSta).length + 7 = 69; rw [first_new]
  have hcm : ∀ v : Sl × Sl, (commitM j [nextD 9] v).1 = 0 ∧ (commitM j [nextD 9] v).2.s.next = 9 ∧ (commitM j [nextD 9] v).2.gj = j.gj ∧ (commitM j [nextD 9] v).2.s = applyL j.s [nextD 9] ∧ (commitM j [nextD 9] v).2.si = v.1 ∧ (commitM j [nextD 9] v).2.sb = v.2 := fun v => by
    rcases jon_commit hJ0.1 (nextD_fit (v := 9) (by unfold fitI; decide)) v (by rw [hj0.2.2.2.2.1]; decide) with h | h
    · exact ⟨h.1, by rw [h.2.2.1, next_apply], h.2.2.2.2.2.1, h.2.2.1, h.2.2.2.1, h.2.2.2.2.1⟩
    · have := h.2.2
      rw [nextD_len, hused] at this
      omega
  have hap := next_apply newSta 9
  refine pub 36 rfl (by decide) (callS ok rfl rfl rfl [1000, 1001, 1002, 1003, 1004] j.res (by simp [Cp.map, mapR]) rfl (fun v : Sl × Sl => [(1000, (commitM j [nextD 9] v).2.c.chip), (1001, (commitM j [nextD 9] v).2.c.pow), (1002, (commitM j [nextD 9] v).2.c.row), (1003, (commitM j [nextD 9] v).2.c.map), (1004, (commitM j [nextD 9] v).2.box)]) (fun w I S hI hG hO hS' => commit0 w I S hI j (a := some ⟨gd, 0, none⟩) (n := 1) (c := 1) [nextD 9] hJ0.1.fit hJ0.1.half (by have := hJ0.1.ep; omega) (by omega) (fun W e => by rw [hj0.2.1, hj0.2.2.1, hj0.2.2.2.1]; exact (hG W e).2) (fun W e => nextD_row (hG W e).1) (by rw [hj0.2.1]; decide) (by rw [hj0.2.1, hap]; decide) (by rw [hj0.2.1, hap]; show wholeB _ ≤ _; rw [whole_w]; have := whole_w newSta; rw [new_whole] at this; show 9 + wS newSta ≤ _; omega) (by rw [nextD_len]; decide) hO hS') (fun r => by simp [Cp.map, mapR]) (.inr fun x q hq => by simp at hq; rcases hq with rfl | rfl | rfl | rfl | rfl <;> simp) fun v W hv => ?_)
  obtain ⟨h1, h2, h3, h4, h5, h6⟩ := hcm v
  rw [h1]
  simp [hN]
  generalize (commitM j [nextD 9] v).2 = j2 at h2 h3 h4 h5 h6 ⊢
  refine callS ok rfl rfl rfl [1004] [j2.box] (by simp) rfl (fun _ : Sl × Sl => [(1004, j2.box)]) (fun w I S hI hG hO hS' => by have := state0 w I S hI j2 (fun W e => by rw [h4, h5, h6]; exact (hG W e).1 hJ0.1.ended) (by rw [h4, hj0.2.1, hap]; decide) hO hS'; rw [h3] at this; exact this) (fun r => by simp) (.inr fun x q hq => by simp at hq; subst hq; simp) fun z W _ => ?_
  have hn : (applyL j2.s []).next = 9 := h2
  simp [hN, hn]
  exact ret0 hC () rfl fun _ _ _ => trivial
end Go.Proofs.YtbbaoeidobdblaaGreat.Sx

/- What the rows share: structs of ints that came in, opened; contracts, as a row wants them. -/
set_option linter.unusedVariables false
set_option linter.unusedSimpArgs false
namespace Go.Proofs.YtbbaoeidobdblaaGreat.Rowl
open Go.ChangeShapes Go.WideShapes Go.ChangeAt Go.RowKit Go.Joins Go.Deep

section
variable {H : Type} {enc : TypeId × Value → H} {P : Program} {w : World} {base : Nat} {spare : Nat → Bool} {held : Bool}
theorem agg5_in {r : Reach} {b0 : Nat} {t e : TypeId} {f0 f1 f2 f3 f4 : Field} {v : Value} {d : DataW H} {p : List MemPlace} (hs : P.underlying t = some (.struct #[f0, f1, f2, f3, f4])) (hone : oneCellFields P #[f0, f1, f2, f3, f4] = true) (hC : P.cellsOf t = 5)
    (he : P.underlying e = some (.int .i64)) (ht : f0.type = e ∧ f1.type = e ∧ f2.type = e ∧ f3.type = e ∧ f4.type = e)
    (hv : Value.okWide P w r b0 t v) (h : DataW.Trod enc P w base spare held t v d p) :
    ∃ a b c x y : Int, v = .agg #[.int .i64 a, .int .i64 b, .int .i64 c, .int .i64 x, .int .i64 y] := by
  obtain ⟨cs, rfl, hsz⟩ := okWide_struct hs hv
  obtain ⟨l⟩ := cs
  match l, hsz.trans hC with
  | [c0, c1, c2, c3, c4], _ =>
    obtain ⟨fuel, hf⟩ := h
    obtain ⟨xs, n, _, hx, _, hlen, hg⟩ := DataW.trod_struct hs hf
    obtain ⟨o0, k0⟩ := hone_of hone 0 f0 rfl
    obtain ⟨o1, k1⟩ := hone_of hone 1 f1 rfl
    obtain ⟨o2, k2⟩ := hone_of hone 2 f2 rfl
    obtain ⟨o3, k3⟩ := hone_of hone 3 f3 rfl
    obtain ⟨o4, k4⟩ := hone_of hone 4 f4 rfl
    match xs, hlen with
    | [y0, y1, y2, y3, y4], _ =>
      have g0 : DataW.trod enc P w base spare held n f0.type [c0] = some y0 := by simpa [Value.cells, o0, k0] using hg 0 f0 rfl
      have g1 : DataW.trod enc P w base spare held n f1.type [c1] = some y1 := by simpa [Value.cells, o1, k1] using hg 1 f1 rfl
      have g2 : DataW.trod enc P w base spare held n f2.type [c2] = some y2 := by simpa [Value.cells, o2, k2] using hg 2 f2 rfl
      have g3 : DataW.trod enc P w base spare held n f3.type [c3] = some y3 := by simpa [Value.cells, o3, k3] using hg 3 f3 rfl
      have g4 : DataW.trod enc P w base spare held n f4.type [c4] = some y4 := by simpa [Value.cells, o4, k4] using hg 4 f4 rfl
      obtain ⟨t0, t1, t2, t3, t4⟩ := ht
      rw [t0] at g0
      rw [t1] at g1
      rw [t2] at g2
      rw [t3] at g3
      rw [t4] at g4
      obtain ⟨z0, e0, _, _⟩ := DataW.trod_int he g0
      obtain ⟨z1, e1, _, _⟩ := DataW.trod_int he g1
      obtain ⟨z2, e2, _, _⟩ := DataW.trod_int he g2
      obtain ⟨z3, e3, _, _⟩ := DataW.trod_int he g3
      obtain ⟨z4, e4, _, _⟩ := DataW.trod_int he g4
      cases e0
      cases e1
      cases e2
      cases e3
      cases e4
      exact ⟨z0, z1, z2, z3, z4, rfl⟩
end
theorem row_calls {P : Program} {f : FuncId} {args : Array Value} {w : World} {I : Nat → Prop} (h : Sx.Fn0 P f args w I (fun b : Bool => .bool b) (fun y _ => y = true)) : Calls P f args w fun e w' => e = .returned (.bool true) ∧ w.grownBy w' none :=
  Calls.mono h.2 (by
    rintro e w' ⟨x, S', rfl, hg, _, _, hR⟩
    have := hR w' (Sx.Ext.refl _ _)
    simp only at this
    subst this
    exact ⟨rfl, ⟨hg.os, hg.tape, hg.output, hg.size, fun k hk _ => hg.block k ⟨hk, fun h => h⟩⟩⟩)
end Go.Proofs.YtbbaoeidobdblaaGreat.Rowl

/- Sx, part 11: parts of slices that read; appending whatever reads, be it nothing. -/
import Derived.Test.YtfmkpkmhhlakoaaSxh
import Derived.Test.YtfmkpkmhhlakoaaSxj
set_option linter.unusedVariables false
set_option linter.unusedSimpArgs false
namespace Go.Proofs.Ytfmkpkmhhlakoaa.Sx
open Go

theorem Rd.take {α : Type} {d : Dt α} {W : World} {a : Option Addr} {xs : List α} (h : Rd d W a xs) (i : Nat) : Rd d W a (xs.take i) := fun hne => by
  obtain ⟨b, o, e, hc⟩ := h (by rintro rfl; simp at hne)
  refine ⟨b, o, e, fun j x hx => hc j x ?_⟩
  rw [List.getElem?_take] at hx
  split at hx
  · exact hx
  · cases hx
theorem Sv.take {α : Type} {d : Dt α} {W : World} {a : Option Addr} {n c : Nat} {xs : List α} (h : Sv.ok d W (a, n, c) xs) {i : Nat} (hi : i ≤ xs.length) : Sv.ok d W (a, i, c) (xs.take i) := by
  obtain ⟨h1, h2, h3, h4⟩ := h
  simp only at h1 h2 h3 h4
  refine ⟨by simp; omega, by simp; omega, by simp; omega, h4.take i⟩
theorem Sv.full {α : Type} {d : Dt α} {W : World} {a : Option Addr} {n c : Nat} {xs : List α} (h : Sv.ok d W (a, n, c) xs) {i : Nat} (hi : i ≤ xs.length) : Sv.ok d W (a, i, i) (xs.take i) := by
  obtain ⟨h1, h2, h3, h4⟩ := h
  simp only at h1 h2 h3 h4
  refine ⟨by simp; omega, by simp; omega, by simp; omega, h4.take i⟩
theorem Sv.drop {α : Type} {d : Dt α} {W : World} {a : Option Addr} {n c : Nat} {xs : List α} (h : Sv.ok d W (a, n, c) xs) {i : Nat} (hi : i ≤ xs.length) : Sv.ok d W (if c = i then a else addrP a (i * d.sz), n - i, c - i) (xs.drop i) := by
  obtain ⟨h1, h2, h3, h4⟩ := h
  simp only at h1 h2 h3 h4
  refine ⟨by simp; omega, by simp; omega, by simp; omega, fun hne => ?_⟩
  have hlt : i < xs.length := by
    rcases Nat.lt_or_ge i xs.length with h | h
    · exact h
    · exact absurd (List.drop_eq_nil_of_le h) hne
  obtain ⟨b, o, rfl, hc⟩ := h4 (by rintro rfl; simp at hlt)
  simp only
  rw [if_neg (by omega), addrP_some]
  refine ⟨b, o + i * d.sz, rfl, fun j x hx => ?_⟩
  rw [List.getElem?_drop] at hx
  obtain ⟨cs, k1, k2⟩ := hc (i + j) x hx
  refine ⟨cs, k1, fun u v hv => ?_⟩
  rw [Nat.add_assoc o, ← Nat.add_mul]
  exact k2 u v hv
theorem Sv.len {α : Type} {d : Dt α} {W : World} {a : Option Addr} {n c : Nat} {xs : List α} (h : Sv.ok d W (a, n, c) xs) : n = xs.length := h.1
theorem Sv.cap {α : Type} {d : Dt α} {W : World} {a : Option Addr} {n c : Nat} {xs : List α} (h : Sv.ok d W (a, n, c) xs) : xs.length ≤ c := h.2.1
theorem Sv.big {α : Type} {d : Dt α} {W : World} {a : Option Addr} {n c : Nat} {xs : List α} (h : Sv.ok d W (a, n, c) xs) : xs.length ≤ 100000000000 := h.2.2.1
theorem Sv.nil {α : Type} {d : Dt α} {W : World} (a : Option Addr) (c : Nat) : Sv.ok d W (a, 0, c) [] := ⟨rfl, Nat.zero_le _, Nat.zero_le _, rd_nil _ _ _⟩
/-- A row of one's own, given up, reads. -/
theorem Rows.sv {α : Type} {d : Dt α} {W : World} {a : Option Addr} {n c base : Nat} {e : TypeId} {xs : List α} {cs : List Value} (h : Rows d W xs cs) (h0 : 0 < d.sz) (hl : xs.length ≤ 100000000000) (ho : W.ownsRow base e d.sz (.slice a n c) n cs) : Sv.ok d W (a, n, c) xs := by
  obtain ⟨h1, h2, h3⟩ := h.rd ho h0
  subst h1
  exact ⟨rfl, h2, hl, h3⟩
theorem Rows.append {α : Type} {d : Dt α} {W : World} {xs ys : List α} {l k : List Value} (h1 : Rows d W xs l) (h2 : Rows d W ys k) : Rows d W (xs ++ ys) (l ++ k) := by
  induction xs generalizing l with
  | nil =>
    have : l = [] := List.eq_nil_of_length_eq_zero (by simpa using h1.1)
    subst this
    exact h2
  | cons x xs ih =>
    obtain ⟨c, r, rfl, h3, h4⟩ := Rows.cons_iff.1 h1
    rw [List.cons_append, List.append_assoc]
    exact Rows.cons_iff.2 ⟨c, r ++ k, rfl, h3, ih h4⟩
theorem Rows.sole {α : Type} {d : Dt α} {W : World} {x : α} {c : List Value} (h : d.K W x c) : Rows d W [x] c := Rows.cons_iff.2 ⟨c, [], by simp, h, rows_nil _ _⟩
theorem rowsI {W : World} {xs : List Int} {l : List Value} : Rows dInt W xs l ↔ l = xs.map (Value.int .i64) := by
  unfold dInt
  rw [rows_flat]
  simp [List.map_eq_flatMap]
/-- Cells are written, one by one (values). -/
def updV (l : List Value) (o : Nat) : List Value → List Value
  | [] => l
  | x :: r => updV (l.set o x) (o + 1) r
theorem upd_map (o : Nat) (c : List CV) : ∀ l : List CV, (upd l o c).map CV.val = updV (l.map CV.val) o (c.map CV.val) := by
  induction c generalizing o with
  | nil => exact fun _ => rfl
  | cons x r ih => intro l; rw [upd, ih, List.map_set]; rfl
theorem updV_len (o : Nat) (c : List Value) : ∀ l : List Value, (updV l o c).length = l.length := by
  induction c generalizing o with
  | nil => exact fun _ => rfl
  | cons x r ih => intro l; rw [updV, ih]; simp
theorem updV_get (c : List Value) : ∀ (o : Nat) (l : List Value) (j : Nat), o + c.length ≤ l.length → (updV l o c)[j]? = if o ≤ j ∧ j < o + c.length then c[j - o]? else l[j]? := by
  induction c with
  | nil => intro o l j h; rw [if_neg (by simp only [List.length_nil]; omega)]; rfl
  | cons x r ih =>
    intro o l j h
    simp at h
    rw [updV, ih _ _ _ (by simp; omega)]
    by_cases h1 : j = o
    · subst h1
      rw [if_neg (by omega), if_pos (by simp), List.getElem?_set, if_pos rfl, if_pos (by omega)]
      simp
    · by_cases h2 : o + 1 ≤ j ∧ j < o + 1 + r.length
      · rw [if_pos h2, if_pos (by simp; omega), show j - o = (j - (o + 1)) + 1 by omega, List.getElem?_cons_succ]
      · rw [if_neg h2, if_neg (by simp; omega), List.getElem?_set, if_neg (by omega)]
theorem Rows.set {α : Type} {d : Dt α} {W : World} {xs : List α} {l c : List Value} {x : α} (h : Rows d W xs l) (hx : d.K W x c) {i : Nat} (hi : i < xs.length) : Rows d W (xs.set i x) (updV l (i * d.sz) c) := by
  have hc := d.len hx
  have hle : i * d.sz + d.sz ≤ l.length := by
    rw [h.1, ← Nat.succ_mul]
    exact Nat.mul_le_mul_right _ hi
  refine ⟨by rw [updV_len, h.1, List.length_set], fun j y hy => ?_⟩
  rw [List.getElem?_set] at hy
  by_cases hij : i = j
  · subst hij
    rw [if_pos rfl, if_pos hi] at hy
    cases hy
    have : ((updV l (i * d.sz) c).drop (i * d.sz)).take d.sz = c := by
      apply List.ext_getElem?
      intro u
      rw [List.getElem?_take]
      split
      · rename_i hu
        rw [List.getElem?_drop, updV_get _ _ _ _ (by omega), if_pos (by omega)]
        congr 1
        omega
      · rename_i hu
        rw [List.getElem?_eq_none (by omega)]
    rw [this]
    exact hx
  · rw [if_neg hij] at hy
    have hj := (List.getElem?_eq_some_iff.1 hy).1
    have : ((updV l (i * d.sz) c).drop (j * d.sz)).take d.sz = (l.drop (j * d.sz)).take d.sz := by
      apply List.ext_getElem?
      intro u
      rw [List.getElem?_take, List.getElem?_take]
      split
      · rename_i hu
        rw [List.getElem?_drop, List.getElem?_drop, updV_get _ _ _ _ (by omega), if_neg]
        rintro ⟨h1, h2⟩
        rcases Nat.lt_or_gt_of_ne hij with h3 | h3
        · have : (i + 1) * d.sz ≤ j * d.sz := Nat.mul_le_mul_right _ h3
          rw [Nat.succ_mul] at this
          omega
        · have : (j + 1) * d.sz ≤ i * d.sz := Nat.mul_le_mul_right _ h3
          rw [Nat.succ_mul] at this
          omega
      · rfl
    rw [this]
    exact h.2 j y hy
theorem Rows.at {α : Type} {d : Dt α} {W : World} {xs : List α} {l : List Value} (h : Rows d W xs l) {i : Nat} (hi : i < xs.length) : ∃ c, d.K W xs[i] c ∧ c.length = d.sz ∧ ∀ j v, c[j]? = some v → l[i * d.sz + j]? = some v := by
  have h1 := h.2 i xs[i] (List.getElem?_eq_getElem hi)
  refine ⟨_, h1, d.len h1, fun j v hv => ?_⟩
  rw [List.getElem?_take] at hv
  split at hv
  · rwa [List.getElem?_drop] at hv
  · cases hv
theorem Rows.take {α : Type} {d : Dt α} {W : World} {xs : List α} {l : List Value} (h : Rows d W xs l) {i : Nat} (hi : i ≤ xs.length) : Rows d W (xs.take i) (l.take (i * d.sz)) := by
  have hle : i * d.sz ≤ xs.length * d.sz := Nat.mul_le_mul_right _ hi
  refine ⟨by rw [List.length_take, List.length_take, h.1, Nat.min_eq_left hle, Nat.min_eq_left hi], fun j y hy => ?_⟩
  rw [List.getElem?_take] at hy
  split at hy
  · rename_i hj
    have h1 := h.2 j y hy
    have : (j + 1) * d.sz ≤ i * d.sz := Nat.mul_le_mul_right _ hj
    rw [Nat.succ_mul] at this
    rw [List.drop_take, List.take_take, Nat.min_eq_left (by omega)]
    exact h1
  · cases hy
section
variable {P : Program} {C : Ctx} {T : Ty} {res : List ResultVar} {p : Pos} {tm : Tm} {m : Mem}
/-- Where a row of one's own stands. -/
theorem rowSome (k : Nat) {a : Option Addr} {n c : Nat} {e : TypeId} {sz : Nat} {cs : List CV} (hl : look k m.rs = some (.row a n c e sz cs)) (h0 : 0 < n) (h : ∀ g, a = some ⟨g, 0, none⟩ → At C p tm m) : At C p tm m := by
  rintro act w cs0 hR ⟨I, F, hJ⟩
  have h1 := (hJ.own _ (look_mem hl)).2
  rcases h1.2 with ⟨h2, h3⟩ | ⟨g, cap, cur, h2, _⟩
  · have : n = 0 := by simpa using congrArg (fun v => match v with | Value.slice _ n _ => n | _ => 0) h2
    omega
  · have : a = some ⟨g, 0, none⟩ := by simpa using congrArg (fun v => match v with | Value.slice a _ _ => a | _ => none) h2
    exact h g this act w cs0 hR ⟨I, F, hJ⟩
theorem rowAddr (k : Nat) {a : Option Addr} {n c : Nat} {e : TypeId} {sz : Nat} {cs : List CV} (hl : look k m.rs = some (.row a n c e sz cs)) (h : (a = none ∧ n = 0 ∧ c = 0 ∨ ∃ b off, a = some ⟨b, off, none⟩) → At C p tm m) : At C p tm m := by
  rintro act w cs0 hR ⟨I, F, hJ⟩
  have h1 := (hJ.own _ (look_mem hl)).2
  refine h ?_ act w cs0 hR ⟨I, F, hJ⟩
  rcases h1.2 with ⟨h2, h3⟩ | ⟨g, cap, cur, h2, _⟩
  · exact .inl (by simpa using h2)
  · exact .inr ⟨g, 0, by simpa using congrArg (fun v => match v with | Value.slice a _ _ => a | _ => none) h2⟩
theorem owns_le {w : World} {e : TypeId} {sz : Nat} {a : Option Addr} {n c : Nat} {cs : List Value} (h : w.ownsRow 0 e sz (.slice a n c) n cs) : n ≤ c := by
  rcases h.2 with ⟨h1, h2⟩ | ⟨g, cap, cur, h1, _, _, h2, _⟩
  · cases h1; exact Nat.le_refl _
  · have : c = cap := by simpa using congrArg (fun v => match v with | Value.slice _ _ c => c | _ => 0) h1
    omega
/-- What reads is appended. -/
theorem appV (ok : Okc P T C res) (k : Nat) {o : Oper} {s x : Operand} {t d : Nat} (ho : o.op = .call ⟨.builtin .append, #[s, x], #[t, t]⟩) (hd : o.dst = some d) {i ie : TI} (hi : tf t T = some i) (hik : i.kd = 3) (hie : tf i.el T = some ie) (h0 : 0 < ie.sz) (hzl : ie.zero.length = ie.sz)
    {a sa : Option Addr} {n c m' c' : Nat} {cs : List CV} {u v : SV} (hk : look k m.rs = some (.row a n c i.el ie.sz cs)) (hs : ev tm s = some u) (hu : u.val = .slice a n c) (hx : ev tm x = some v) (hv : v.val = .slice sa m' c')
    {α : Type} (D : Dt α) (xs : List α) (hD : D.sz = ie.sz) (hb : (n + xs.length) * ie.bt ≤ 140737488355328) (hmx : n + xs.length ≤ 140737488355328)
    (h : ∀ W, m.G W → Sv.ok D W (sa, m', c') xs)
    (kk : ∀ l a' c'' W, l.length = xs.length * ie.sz → Rows D W xs l → m.G W → sx T C res 1000 p (put C.n (some d) (.c (.rw k a' (n + xs.length) c'')) tm) ⟨m.B, fun W => Rows D W xs l ∧ m.G W, (k, .row a' (n + xs.length) c'' i.el ie.sz (cs ++ l.map nv)) :: del k (del k m.rs)⟩) : At C (.op o p) tm m := by
  intro act w cs0 hR hJ
  have hw : m.G w := by
    obtain ⟨I, F, hi⟩ := hJ
    exact hi.know w (Ext.refl _ _)
  have hm' : m' = xs.length := Sv.len (h w hw)
  subst hm'
  rcases Nat.eq_zero_or_pos xs.length with hz | hz
  · have hxs : xs = [] := List.eq_nil_of_length_eq_zero hz
    subst hxs
    have o1 : n ≤ c := by
      obtain ⟨I, F, hi⟩ := hJ
      exact owns_le (hi.own _ (look_mem hk)).2
    have e1 : act.eval s = .slice a n c := by rw [hR.eval hs, hu]
    have e2 : act.eval x = .slice sa 0 c' := by rw [hR.eval hx, hv]; rfl
    have hu2 := (ok.ty.get hi).g_slice hik
    have hzz := (ok.ty.get hie).g_sizeOf (P := C.P)
    have hrun : (execOp act.eval o).run C.P w = .ok (.value (.slice a n c)) w := by
      cases sa <;> cases a <;> simp [execOp, ho, resolve, invoke, builtin, e1, e2, Builtin.append_, run_underlying hu2, hzz, Builtin.lenOf, o1, Builtin.firstCells, loadCells, loadCellsFrom, storeCells]
    have hRp := hR.put (some d) (.c (.rw k a (n + 0) c))
    have hJ2 : J C ⟨m.B, fun W => Rows D W [] [] ∧ m.G W, (k, .row a (n + 0) c i.el ie.sz (cs ++ ([] : List Value).map nv)) :: del k (del k m.rs)⟩ w := by
      obtain ⟨I, F, hi⟩ := hJ
      have o1 := hi.own _ (look_mem hk)
      have hup := hi.upd k k (.row a (n + 0) c i.el ie.sz (cs ++ ([] : List Value).map nv)) (fun b => (Value.slice a n c).ownBlock = some b) (fun b => (Value.slice a n c).ownBlock = some b) (fun b hb => ⟨(o1.1 b).2 hb, _, look_mem hk⟩) (Ext.refl _ w) ⟨fun b => Iff.rfl, by simpa using o1.2⟩ (fun b hb => ⟨(hi.Fsz _ b (look_mem hk) ((o1.1 b).2 hb)).1, .inl hb⟩) id
      exact ⟨I, _, hup.learn fun W _ => rows_nil _ _⟩
    exact op_value (ok.sx (kk [] a c w (by simp) (rows_nil _ _) hw)) hrun (by rw [hd]; exact hRp) hJ2
  · obtain ⟨b, off, rfl⟩ := (h w hw).2.2.2.is_some hz
    refine appI ok k ho hd hi hik hie h0 hzl hk hs hu hx hv hz hb hmx (fun l W => Rows D W xs l) (fun W hW => ?_) (fun l g' c'' W hq hG => ?_) act w cs0 hR hJ
    · obtain ⟨l, h1, h2, h3⟩ := (h W hW).2.2.2.all_rows
      have h4 := h1.1
      rw [hD] at h4
      exact ⟨l, h4, h2, h3, h1⟩
    · exact kk l (some ⟨g', 0, none⟩) c'' W (by rw [← hD]; exact hq.1) hq hG
/-- What reads, and has no room left, is appended to: a new row. -/
theorem appF (ok : Okc P T C res) (k k' : Nat) {o : Oper} {s x : Operand} {t d : Nat} (ho : o.op = .call ⟨.builtin .append, #[s, x], #[t, t]⟩) (hd : o.dst = some d) {i ie : TI} (hi : tf t T = some i) (hik : i.kd = 3) (hie : tf i.el T = some ie) (h0 : 0 < ie.sz) (hzl : ie.zero.length = ie.sz)
    {a : Option Addr} {n g m' c' : Nat} {cs' : List CV} {u v : SV} (hnk : look k m.rs = some (.row none 0 0 i.el ie.sz [])) (hs : ev tm s = some u) (hu : u.val = .slice a n n) (hk' : look k' m.rs = some (.row (some ⟨g, 0, none⟩) m' c' i.el ie.sz cs')) (hx : ev tm x = some v) (hv : v.val = .slice (some ⟨g, 0, none⟩) m' c')
    (hm : 0 < m') (h1 : ones cs') {α : Type} (D : Dt α) (xs : List α) (hD : D.sz = ie.sz) (hb : (n + m') * ie.bt ≤ 140737488355328) (hmx : n + m' ≤ 140737488355328)
    (h : ∀ W, m.G W → Sv.ok D W (a, n, n) xs) (hA : a = none ∨ ∃ b off, a = some ⟨b, off, none⟩)
    (kk : ∀ l g' c'' W, l.length = xs.length * ie.sz → Rows D W xs l → m.G W → sx T C res 1000 p (put C.n (some d) (.c (.rw k (some ⟨g', 0, none⟩) (xs.length + m') c'')) tm) ⟨m.B, fun W => Rows D W xs l ∧ m.G W, (k, .row (some ⟨g', 0, none⟩) (xs.length + m') c'' i.el ie.sz (l.map nv ++ cs')) :: del k (del k m.rs)⟩) : At C (.op o p) tm m := by
  intro act w cs0 hR hJ
  have hw : m.G w := by
    obtain ⟨I, F, hi⟩ := hJ
    exact hi.know w (Ext.refl _ _)
  have hm' : n = xs.length := Sv.len (h w hw)
  subst hm'
  rcases hA with rfl | ⟨b, off, rfl⟩
  rotate_left 1
  · refine appC ok k k' ho hd hi hik hie h0 hzl hnk hs hu hk' hx hv hm (by omega) hb hmx (fun l W => Rows D W xs l) (fun W hW => ?_) (fun l g' c'' W hq hG => ?_) act w cs0 hR hJ
    · obtain ⟨l, h1, h2, h3⟩ := Rd.all_rows (d := D) (xs := xs) (h W hW).2.2.2
      have h4 := h1.1
      rw [hD] at h4
      exact ⟨l, h4, h2, h3, h1⟩
    · exact kk l g' c'' W (by rw [← hD]; exact hq.1) hq hG
  · rcases Nat.eq_zero_or_pos xs.length with hz | hz
    · have hxs : xs = [] := List.eq_nil_of_length_eq_zero hz
      subst hxs
      have hJ2 : J C ⟨m.B, fun W => Rows D W [] [] ∧ m.G W, m.rs⟩ w := by
        obtain ⟨I, F, hi⟩ := hJ
        exact ⟨I, F, hi.learn fun W _ => rows_nil _ _⟩
      refine appR (m := ⟨m.B, fun W => Rows D W [] [] ∧ m.G W, m.rs⟩) ok k k' ho hd hi hik hie h0 hzl hnk hs hu hk' hx hv hm h1 hb hmx (fun g' c'' => ?_) act w cs0 hR hJ2
      have := kk [] g' c'' w (by simp) (rows_nil _ _) hw
      simpa using this
    · obtain ⟨b, off, e⟩ := (h w hw).2.2.2.is_some hz
      cases e
/-- A slot's value, told in other words. -/
theorem tag (ok : Okc P T C res) (t : Nat) {x : SV} (y : SV) (hx : find t tm = some x) (hv : x.val = y.val) (h : sx T C res 1000 p ((t, y) :: tm) m) : At C p tm m :=
  fun a w cs hR hJ => ok.sx h a w cs (hR.same hx hv) hJ
end
end Go.Proofs.Ytfmkpkmhhlakoaa.Sx

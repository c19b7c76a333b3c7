/- Plain: numbers, texts, inodes and deeds as bytes. -/
import Derived.Test.YtfmkpkmhhlakoaaSxh
set_option linter.unusedVariables false
set_option linter.unusedSimpArgs false
namespace Go.Proofs.Ytfmkpkmhhlakoaa.Sx
open Go

/-- The lowest bytes of a number. -/
def lowB (v : Int) (n : Nat) : List Int := (List.range n).map fun (i : Nat) => v / 2 ^ (8 * i) % 256
theorem lowB_length (v : Int) (n : Nat) : (lowB v n).length = n := by simp [lowB]
/-- So far as it is filled. -/
def fillB (v : Int) (n i : Nat) : List Int := (lowB v n).take i ++ List.replicate (n - i) 0
theorem fillB_length (v : Int) (n i : Nat) (h : i ≤ n) : (fillB v n i).length = n := by simp [fillB, lowB_length]; omega
theorem fillB_set (v : Int) (n i : Nat) (h : i < n) : (fillB v n i).set i (v / 2 ^ (8 * i) % 256) = fillB v n (i + 1) := by
  have hl : ((lowB v n).take i).length = i := by rw [List.length_take, lowB_length]; omega
  have hg : (lowB v n)[i]? = some (v / 2 ^ (8 * i) % 256) := by simp [lowB, h]
  unfold fillB
  rw [List.set_append_right _ _ (by omega), hl, Nat.sub_self, show n - i = (n - (i + 1)) + 1 from by omega, List.replicate_succ, List.set_cons_zero, List.take_add_one, hg]
  simp
theorem fillB_full (v : Int) (n : Nat) : fillB v n n = lowB v n := by
  unfold fillB
  rw [List.take_of_length_le (by rw [lowB_length]; exact Nat.le_refl _), Nat.sub_self]
  simp
theorem fillB_none (v : Int) (n : Nat) : fillB v n 0 = List.replicate n 0 := by simp [fillB]
theorem u8_wrap (x : Int) : IntKind.u8.wrap x = x % 256 := by simp [IntKind.wrap, IntKind.signed, IntKind.bits]
theorem u64_wrap (x : Int) : IntKind.u64.wrap x = x % 18446744073709551616 := by simp [IntKind.wrap, IntKind.signed, IntKind.bits]
def bytesOf (s : ByteArray) : List Int := s.data.toList.map fun b => (b.toNat : Int)
theorem bytesOf_length (s : ByteArray) : (bytesOf s).length = s.size := by simp [bytesOf]
def intB (v : Int) : List Int := lowB (v % 18446744073709551616) 8
theorem intB_length (v : Int) : (intB v).length = 8 := lowB_length _ _
def textB (s : ByteArray) : List Int := lowB s.size 4 ++ bytesOf s
theorem textB_length (s : ByteArray) : (textB s).length = s.size + 4 := by simp [textB, lowB_length, bytesOf_length, Nat.add_comm]
def entB (x : Ent) : List Int := textB x.name ++ intB x.no
def runB (x : Rn) : List Int := intB x.fr ++ intB x.at_ ++ intB x.ct
def headB (x : Ino) : List Int := intB x.no ++ intB x.kind ++ intB x.links ++ intB x.size ++ textB x.target
def inoB (x : Ino) : List Int := headB x ++ lowB x.ents.length 4 ++ x.ents.flatMap entB ++ lowB x.runs.length 4 ++ x.runs.flatMap runB
def tailB (d : Dee) : List Int := if d.kind = 1 ∨ d.kind = 3 ∨ d.kind = 4 then intB d.no else if d.kind = 2 then inoB d.ino else []
def deedB (d : Dee) : List Int := lowB (d.kind % 18446744073709551616) 1 ++ tailB d
def deedsB (l : List Dee) : List Int := l.flatMap deedB
theorem fm_take {α : Type} (f : α → List Int) (l : List α) (i : Nat) (h : i < l.length) : (l.take (i + 1)).flatMap f = (l.take i).flatMap f ++ f l[i] := by
  rw [List.take_add_one, List.getElem?_eq_getElem h, List.flatMap_append]
  simp
theorem fm_le {α : Type} (f : α → List Int) (l : List α) (i : Nat) : ((l.take i).flatMap f).length ≤ (l.flatMap f).length := by
  conv => rhs; rw [← List.take_append_drop i l, List.flatMap_append, List.length_append]
  exact Nat.le_add_right _ _
theorem ints_length (l : List Int) : (l.flatMap intB).length = 8 * l.length := by
  induction l with
  | nil => rfl
  | cons x r ih => simp [ih, intB_length]; omega
theorem headB_length (x : Ino) : (headB x).length = 36 + x.target.size := by simp only [headB, List.length_append, intB_length, textB_length]; omega
theorem inoB_length (x : Ino) : (inoB x).length = 44 + x.target.size + (x.ents.flatMap entB).length + (x.runs.flatMap runB).length := by simp only [inoB, List.length_append, headB_length, lowB_length]; omega
end Go.Proofs.Ytfmkpkmhhlakoaa.Sx

/- A shard's bytes with some bits turned, all within 32 places: the reading of it tells so. No program in sight.; The drive's Cut: the pure law, that it keeps the invariant, its contract.; The drive's Flip: the pure law, that it keeps the invariant, its contract. -/
import Derived.Test.YtcbebefdbdppdaaGreatM34
import Derived.Test.YtcbebefdbdppdaaGreatM10
import Derived.IntWalk
import Derived.Laws.Entries
namespace Go.Proofs.YtcbebefdbdppdaaGreat
theorem msgBit_append (a b : List UInt8) (j : Nat) : msgBit (a ++ b) j = if j < 8 * a.length then msgBit a j else msgBit b (j - 8 * a.length) := by
  by_cases h : j < 8 * a.length
  · rw [if_pos h]
    unfold msgBit
    rw [List.getElem?_append_left (by omega)]
  · rw [if_neg h]
    unfold msgBit
    rw [List.getElem?_append_right (by omega), show j / 8 - a.length = (j - 8 * a.length) / 8 by omega, show (j - 8 * a.length) % 8 = j % 8 by omega]
def Still (e : List UInt8) : Prop := ∀ j, msgBit e j = false
theorem Still.left {a b : List UInt8} (h : Still (a ++ b)) : Still a := fun j => by
  have h1 := h j
  rw [msgBit_append] at h1
  by_cases hj : j < 8 * a.length
  · rwa [if_pos hj] at h1
  · cases hm : msgBit a j with
    | false => rfl
    | true => exact absurd (msgBit_lt hm) hj
theorem Still.right {a b : List UInt8} (h : Still (a ++ b)) : Still b := fun j => by
  have h1 := h (j + 8 * a.length)
  rwa [msgBit_append, if_neg (by omega), Nat.add_sub_cancel] at h1
theorem byte_zero {x : UInt8} (h : ∀ k, k < 8 → x.toNat.testBit k = false) : x = 0 := by
  have h1 : x.toNat = 0 := Nat.eq_of_testBit_eq fun k => by
    rw [Nat.zero_testBit]
    by_cases hk : k < 8
    · exact h k hk
    · exact Nat.testBit_lt_two_pow (Nat.lt_of_lt_of_le (show x.toNat < 2 ^ 8 from x.toNat_lt) (Nat.pow_le_pow_right (by decide) (by omega)))
  exact UInt8.toNat_inj.1 (by rw [h1]; rfl)
theorem Still.zero {e : List UInt8} (h : Still e) : e = List.replicate e.length 0 := by
  refine List.eq_replicate_iff.2 ⟨rfl, fun x hx => ?_⟩
  obtain ⟨i, hi, rfl⟩ := List.getElem_of_mem hx
  refine byte_zero fun k hk => ?_
  have h1 := h (8 * i + k)
  unfold msgBit at h1
  rw [show (8 * i + k) / 8 = i by omega, show (8 * i + k) % 8 = k by omega, List.getElem?_eq_getElem hi] at h1
  exact h1
theorem xorB_zeros (l : List UInt8) (n : Nat) (h : l.length = n) : xorB l (List.replicate n 0) = l := by
  subst h
  unfold xorB
  induction l with
  | nil => rfl
  | cons x l ih =>
    rw [List.length_cons, List.replicate_succ, List.zipWith_cons_cons, ih]
    rw [show x ^^^ 0 = x from UInt8.xor_zero]
theorem Still.xor {e : List UInt8} (h : Still e) {l : List UInt8} (hl : l.length = e.length) : xorB l e = l := by
  rw [h.zero]
  exact xorB_zeros l _ hl
theorem Burst.left {p : Nat} {a b : List UInt8} (h : Burst p (a ++ b)) : Burst p a := fun j hj => h j (by rw [msgBit_append, if_pos (msgBit_lt hj)]; exact hj)
theorem Burst.right {p : Nat} {a b : List UInt8} (h : Burst p (a ++ b)) : Burst (p - 8 * a.length) b := fun j hj => by
  have h1 := h (j + 8 * a.length) (by rw [msgBit_append, if_neg (by omega), Nat.add_sub_cancel]; exact hj)
  omega
namespace Hd
end Hd
end Go.Proofs.YtcbebefdbdppdaaGreat
namespace Go.Proofs.YtcbebefdbdppdaaGreat
open Go.RowKit Go.Maps
def Drv.cutTo (S : Drv) (i m : Nat) : Drv := { S.setBody i ⟨(S.body i).data.take m, min (S.body i).safe m⟩ with used := S.used - ((S.len i : Int) - m) }
def Drv.cut (S : Drv) (s : Nm) (n : Int) : Drv × Int :=
  if named s = true ∧ n < 0 then (S, 2) else
  match S.find s with
  | (none, e) => (S, e)
  | (some i, _) => if (S.len i : Int) ≤ n then (S, 0) else (S.cutTo i n.toNat, 0)
end Go.Proofs.YtcbebefdbdppdaaGreat
namespace Go.Proofs.YtcbebefdbdppdaaGreat
open Go.RowKit Go.Maps
def xorAt (d : List UInt8) (a : Nat) (pat : List UInt8) : Nat → List UInt8
  | 0 => d
  | k + 1 => (xorAt d a pat k).set (a + k) ((xorAt d a pat k).getD (a + k) 0 ^^^ pat.getD k 0)
def Drv.flipTo (S : Drv) (i a : Nat) (pat : List UInt8) (k : Nat) : Drv := S.setBody i ⟨xorAt (S.body i).data a pat k, (S.body i).safe⟩
def Drv.flip (S : Drv) (s : Nm) (n : Int) (pat : List UInt8) : Drv × Int :=
  if named s = true ∧ n < 0 then (S, 2) else
  match S.find s with
  | (none, e) => (S, e)
  | (some i, _) => if (S.len i : Int) ≤ n then (S, 0) else (S.flipTo i n.toNat pat (min pat.length (S.len i - n.toNat)), 0)
theorem size_set' (w : World) (p : Addr) (u : Value) : (w.setCell p u).heap.size = w.heap.size := by simp [World.setCell]
end Go.Proofs.YtcbebefdbdppdaaGreat

/- The document's sum of layer 6: its bits and its terms. -/
import Derived.Test.YtdiaihpilniikaaKb
import Derived.Test.YtdiaihpilniikaaPe
import Derived.Laws.BitsAllLaws
import Derived.Laws.Shifts
import Derived.IntWalk
namespace Go.Proofs.Ytdiaihpilniikaa
open Go.RowKit Go.Maps

/-- A bit as it stands in memory. -/
def bV (b : Bool) : Value := .int .i64 ((bitN b : Nat) : Int)
/-- The first bits of a function, as a row. -/
def rowB (f : Nat → Bool) (n : Nat) : List Value := (List.range n).map fun j => bV (f j)
theorem rowB_succ (f : Nat → Bool) (n : Nat) : rowB f (n + 1) = rowB f n ++ [bV (f n)] := by
  unfold rowB; rw [List.range_succ, List.map_append]; rfl
theorem rowB_length (f : Nat → Bool) (n : Nat) : (rowB f n).length = n := by unfold rowB; simp
theorem rowB_get (f : Nat → Bool) {n j : Nat} (h : j < n) : (rowB f n)[j]? = some (bV (f j)) := by
  unfold rowB; rw [List.getElem?_map, List.getElem?_range h]; rfl
theorem rowB_set (f : Nat → Bool) (n i : Nat) (b : Bool) : (rowB f n).set i (bV b) = rowB (fun j => if j = i then b else f j) n := by
  unfold rowB
  apply List.ext_getElem?
  intro j
  rw [List.getElem?_set, List.getElem?_map, List.getElem?_map]
  by_cases hj : j < n
  · rw [List.getElem?_range hj]
    by_cases h : i = j
    · subst h; simp [hj]
    · simp [h, Ne.symm h]
  · have : (List.range n)[j]? = none := List.getElem?_eq_none (by simp; omega)
    rw [this]
    by_cases h : i = j
    · subst h; simp [hj]
    · simp [h]
theorem rowB_congr {f g : Nat → Bool} {n : Nat} (h : ∀ j, j < n → f j = g j) : rowB f n = rowB g n := by
  unfold rowB
  apply List.map_congr_left
  intro j hj
  rw [h j (List.mem_range.1 hj)]
theorem intInfo : (Try.prog.info? 3).map (fun i => (i.zero, i.size, i.bytes)) = some (some (.int .i64 0), 1, 8) := by kernel_rfl
theorem bit_at (x k : Nat) : x / 2 ^ k % 2 = bitN (x.testBit k) := by
  rw [Nat.testBit_eq_decide_div_mod_eq]
  rcases Nat.mod_two_eq_zero_or_one (x / 2 ^ k) with h | h <;> simp [h, bitN]
theorem msg_at (bs : List UInt8) {i k : Nat} {x : UInt8} (hx : bs[i]? = some x) (hk : k < 8) : msgBit bs (8 * i + k) = x.toNat.testBit k := by
  unfold msgBit
  rw [show (8 * i + k) / 8 = i by omega, show (8 * i + k) % 8 = k by omega, hx]
theorem wrap_small (m : Int) (h0 : 0 ≤ m) (h1 : m < 9223372036854775808) : IntKind.i64.wrap m = m := by
  simp [IntKind.wrap, IntKind.bits, IntKind.signed]; omega
theorem i64_and_nat (a b : Nat) (ha : a < 9223372036854775808) (hb : b < 9223372036854775808) : bits .and .i64 (a : Int) (b : Int) = ((a &&& b : Nat) : Int) := by
  have hx : a &&& b < 2 ^ 63 := Nat.and_lt_two_pow _ (by omega)
  show IntKind.i64.wrap ((BitVec.ofInt 64 (a : Int) &&& BitVec.ofInt 64 (b : Int)).toNat : Int) = _
  rw [BitVec.toNat_and, ofInt_u64 a (by omega), ofInt_u64 b (by omega)]
  exact wrap_small _ (Int.natCast_nonneg _) (by omega)
theorem xor_bit (a b : Bool) : bits .xor .i64 ((bitN a : Nat) : Int) ((bitN b : Nat) : Int) = ((bitN (a != b) : Nat) : Int) := by
  cases a <;> cases b <;> rfl
theorem and_one (n : Nat) (h : n < 256) : bits .and .i64 (n : Int) 1 = ((n % 2 : Nat) : Int) := by
  rw [show (1 : Int) = ((1 : Nat) : Int) from rfl, i64_and_nat n 1 (by omega) (by decide), Nat.and_one_is_mod]
theorem bit_val (x k : Nat) (hx : x < 256) : bits .and .i64 ((x / 2 ^ k : Nat) : Int) 1 = ((bitN (x.testBit k) : Nat) : Int) := by
  rw [and_one _ (Nat.lt_of_le_of_lt (Nat.div_le_self _ _) hx), bit_at]
end Go.Proofs.Ytdiaihpilniikaa

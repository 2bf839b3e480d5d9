/- Plain facts for FanCounts: how many of a list's numbers are one of them, and the first one that is there most often. -/
import Derived.WalkKit
import Derived.Lib.Hide
namespace Go.Proofs.Ytijfkcbhojjgnaa.fanCounts
open Go.RowKit

def cnt (l : List Int) (x : Int) : Nat := (l.filter fun y => y == x).length

theorem cnt_le (l : List Int) (x : Int) : cnt l x ≤ l.length := List.length_filter_le _ _

theorem cnt_snoc (l : List Int) (y x : Int) : cnt (l ++ [y]) x = cnt l x + (if (y == x) = true then 1 else 0) := by
  unfold cnt
  rw [List.filter_append]
  by_cases h : (y == x) = true
  · simp only [List.filter_cons, h, if_true]; simp
  · simp only [List.filter_cons, h]; simp

theorem take_snoc (l : List Int) (k : Nat) (h : k < l.length) : l.take (k + 1) = l.take k ++ [l.getD k 0] := by
  rw [List.take_succ_eq_append_getElem h]; simp [List.getD, h]

theorem cnt_take_succ (l : List Int) (k : Nat) (x : Int) (h : k < l.length) : cnt (l.take (k + 1)) x = cnt (l.take k) x + (if (l.getD k 0 == x) = true then 1 else 0) := by
  rw [take_snoc l k h, cnt_snoc]

theorem cnt_take_le (l : List Int) (k : Nat) (x : Int) : cnt (l.take k) x ≤ k := Nat.le_trans (cnt_le _ _) (List.length_take_le _ _)

/-- One round of Most. -/
def mstep (l : List Int) (s : Int × Int) (x : Int) : Int × Int := if s.2 < (cnt l x : Int) then (x, (cnt l x : Int)) else s

def mto (l : List Int) (k : Nat) : Int × Int := (l.take k).foldl (mstep l) (0, -1)

theorem mto_succ (l : List Int) (k : Nat) (h : k < l.length) : mto l (k + 1) = mstep l (mto l k) (l.getD k 0) := by
  unfold mto
  rw [take_snoc l k h, List.foldl_append]; rfl

theorem mto_bd (l : List Int) (k : Nat) : -1 ≤ (mto l k).2 ∧ (mto l k).2 ≤ l.length := by
  induction k with
  | zero => simp [mto]
  | succ k ih =>
    by_cases h : k < l.length
    · rw [mto_succ l k h]
      unfold mstep
      have := cnt_le l (l.getD k 0)
      split <;> (try simp only) <;> omega
    · have : mto l (k + 1) = mto l k := by
        unfold mto; rw [List.take_of_length_le (by omega), List.take_of_length_le (by omega)]
      rw [this]; exact ih

/-- What Most comes to: the first of those that are there most often. -/
theorem mto_spec (l : List Int) (k : Nat) (hk : k ≤ l.length) (h0 : 0 < k) :
    ∃ i m : Nat, i < k ∧ mto l k = (l.getD i 0, (m : Int)) ∧ cnt l (l.getD i 0) = m ∧ (∀ j, j < k → cnt l (l.getD j 0) ≤ m) ∧ ∀ j, j < i → cnt l (l.getD j 0) < m := by
  induction k with
  | zero => omega
  | succ k ih =>
    rw [mto_succ l k (by omega)]
    by_cases hz : k = 0
    · subst hz
      refine ⟨0, cnt l (l.getD 0 0), by omega, ?_, rfl, fun j hj => ?_, fun j hj => by omega⟩
      · have : mto l 0 = (0, -1) := rfl
        rw [this, mstep, if_pos (by simp only; omega)]
      · have : j = 0 := by omega
        subst this; exact Nat.le_refl _
    · obtain ⟨i, m, hi, e, hc, hle, hlt⟩ := ih (by omega) (by omega)
      rw [e, mstep]
      by_cases hq : m < cnt l (l.getD k 0)
      · rw [if_pos (by simp only; omega)]
        refine ⟨k, cnt l (l.getD k 0), by omega, rfl, rfl, fun j hj => ?_, fun j hj => ?_⟩
        · by_cases hjk : j = k
          · subst hjk; exact Nat.le_refl _
          · have := hle j (by omega); omega
        · have := hle j hj; omega
      · rw [if_neg (by simp only; omega)]
        refine ⟨i, m, by omega, rfl, hc, fun j hj => ?_, hlt⟩
        by_cases hjk : j = k
        · subst hjk; omega
        · exact hle j (by omega)

/-- Which is there most often, and how often: what all the Go functions of that name answer. -/
def most (l : List Int) : Int := (mto l l.length).1
def times (l : List Int) : Int := max (mto l l.length).2 0

theorem times_bd (l : List Int) : 0 ≤ times l ∧ times l ≤ l.length := by
  have := mto_bd l l.length
  unfold times; omega

theorem cnt_same (n : Nat) (x : Int) : cnt (List.replicate n x) x = n := by
  unfold cnt; rw [List.filter_replicate]; simp

theorem most_same (n : Nat) (x : Int) (h : 0 < n) : most (List.replicate n x) = x := by
  obtain ⟨i, m, hi, e, _⟩ := mto_spec (List.replicate n x) n (by simp) h
  unfold most; rw [List.length_replicate, e]; simp [List.getD, hi]

theorem times_same (n : Nat) (x : Int) : times (List.replicate n x) = n := by
  by_cases h : n = 0
  · subst h; rfl
  · obtain ⟨i, m, hi, e, hc, _⟩ := mto_spec (List.replicate n x) n (by simp) (by omega)
    have hx : (List.replicate n x).getD i 0 = x := by simp [List.getD, hi]
    rw [hx, cnt_same] at hc
    unfold times; rw [List.length_replicate, e]; simp only; omega

/-- What the walks know of a slice: it is empty, or a row of cells, of the make E. -/
def IsRow (E : Int → Value) (w : World) (a : Option Addr) (len : Nat) (zs : List Int) : Prop :=
  (len = 0 ∧ zs = []) ∨
  ∃ b off, a = some ⟨b, off, none⟩ ∧ zs.length = len ∧ ∀ i, i < len → w.cell? ⟨b, off + i, none⟩ = some (E (zs.getD i 0))

theorem IsRow.length {E : Int → Value} {w : World} {a : Option Addr} {len : Nat} {zs : List Int} (h : IsRow E w a len zs) : zs.length = len := by
  rcases h with ⟨rfl, rfl⟩ | ⟨_, _, _, h, _⟩
  · rfl
  · exact h

theorem IsRow.below {E : Int → Value} {w w' : World} {a : Option Addr} {len : Nat} {zs : List Int} (h : IsRow E w a len zs) (hb : Below w.heap.size w w') : IsRow E w' a len zs := by
  rcases h with h | ⟨b, off, rfl, hz, hc⟩
  · exact .inl h
  · refine .inr ⟨b, off, rfl, hz, fun i hi => ?_⟩
    have := hc i hi
    rw [hb.cell (World.block_lt_of_cell? _ _ this)]; exact this

abbrev EI : Int → Value := Value.int .i64
/-- A text of one byte. -/
def one (n : Int) : ByteArray := ⟨#[UInt8.ofNat n.toNat]⟩
def ES (n : Int) : Value := .string (one n)

end Go.Proofs.Ytijfkcbhojjgnaa.fanCounts

/- The document's long division in memory: what it leaves is the register behind the bytes. -/
import Derived.Test.YtdiaihpilniikaaKyb
import Derived.RegionTactic
namespace Go.Proofs.Ytdiaihpilniikaa
open Go.RowKit Go.Maps

theorem row_set {w : World} {base n g c j : Nat} {e : TypeId} {xs : List Value} (h : w.ownsRow base e 1 (.slice (some ⟨g, 0, none⟩) n c) n xs) (u : Value) :
    (w.setCell ⟨g, j, none⟩ u).ownsRow base e 1 (.slice (some ⟨g, 0, none⟩) n c) n (xs.set j u) := by
  obtain ⟨h1, h2⟩ := h
  rcases h2 with ⟨h3, _⟩ | ⟨g', cap, cur, h3, h4, h5, h6, h7, h8, h9⟩
  · cases h3
  · injection h3 with e1 _ e3
    injection e1 with e1
    injection e1 with e1
    subst e1 e3
    have hb : Blk w g e cur := h5
    refine ⟨by rw [List.length_set]; exact h1, .inr ⟨g, c, _, rfl, h4, hb.set_ j u, h6, h7, ?_, ?_⟩⟩
    · simp; omega
    · simp only [Array.toList_setIfInBounds]
      rw [List.take_set, h9]

theorem row_some {w : World} {base : Nat} {e : TypeId} {size : Nat} {v : Value} {n : Nat} {xs : List Value} (h : w.ownsRow base e size v n xs) (hn : 0 < n) : ∃ g c, v = .slice (some ⟨g, 0, none⟩) n c ∧ base ≤ g ∧ g < w.heap.size := by
  have hl := h.lt
  rcases h.2 with ⟨_, h0⟩ | ⟨g, cap, cur, rfl, h4, _⟩
  · omega
  · exact ⟨g, cap, rfl, (hl g rfl).1, (hl g rfl).2⟩
def termV : Array Value := #[.int .i64 0, .int .i64 4, .int .i64 5, .int .i64 6, .int .i64 7, .int .i64 9, .int .i64 10, .int .i64 12, .int .i64 13, .int .i64 14, .int .i64 18, .int .i64 19, .int .i64 21, .int .i64 22, .int .i64 23, .int .i64 24, .int .i64 26, .int .i64 32]
theorem terms_any (w : World) : Calls Try.prog 62 #[] w fun e w' => e = .returned (.slice (some ⟨w.heap.size, 0, none⟩) 18 18) ∧ Blk w' w.heap.size 3 termV ∧ Below w.heap.size w w' := by
  go_enter Try.func62, Try.ntmps62
  go_wp2
  go_ret
  exact ⟨rfl, Blk.new _ _ _, (Below.refl _ _).alloc (Nat.le_refl _) _⟩
theorem term_get (k : Nat) (hk : k < 18) : ∃ t : Nat, t ≤ 32 ∧ crcTerms[k]? = some t ∧ (crcTerms.take k).contains t = false ∧ termV[k]? = some (.int .i64 (t : Int)) := by
  match k, hk with
  | 0, _ => exact ⟨0, by decide, rfl, rfl, rfl⟩
  | 1, _ => exact ⟨4, by decide, rfl, rfl, rfl⟩
  | 2, _ => exact ⟨5, by decide, rfl, rfl, rfl⟩
  | 3, _ => exact ⟨6, by decide, rfl, rfl, rfl⟩
  | 4, _ => exact ⟨7, by decide, rfl, rfl, rfl⟩
  | 5, _ => exact ⟨9, by decide, rfl, rfl, rfl⟩
  | 6, _ => exact ⟨10, by decide, rfl, rfl, rfl⟩
  | 7, _ => exact ⟨12, by decide, rfl, rfl, rfl⟩
  | 8, _ => exact ⟨13, by decide, rfl, rfl, rfl⟩
  | 9, _ => exact ⟨14, by decide, rfl, rfl, rfl⟩
  | 10, _ => exact ⟨18, by decide, rfl, rfl, rfl⟩
  | 11, _ => exact ⟨19, by decide, rfl, rfl, rfl⟩
  | 12, _ => exact ⟨21, by decide, rfl, rfl, rfl⟩
  | 13, _ => exact ⟨22, by decide, rfl, rfl, rfl⟩
  | 14, _ => exact ⟨23, by decide, rfl, rfl, rfl⟩
  | 15, _ => exact ⟨24, by decide, rfl, rfl, rfl⟩
  | 16, _ => exact ⟨26, by decide, rfl, rfl, rfl⟩
  | 17, _ => exact ⟨32, by decide, rfl, rfl, rfl⟩
  | _ + 18, h => omega
/-- How far the register is laid over the bits. -/
def laidUpto (r : Nat) (m : Nat → Bool) (i : Nat) : Nat → Bool := fun j => if j < i then (r.testBit j != m j) else m j
theorem laidUpto_succ (r : Nat) (m : Nat → Bool) (i : Nat) : (fun j => if j = i then (m i != r.testBit i) else laidUpto r m i j) = laidUpto r m (i + 1) := by
  funext j
  unfold laidUpto
  by_cases h : j = i
  · subst h
    rw [if_pos rfl, if_pos (by omega), bne_comm]
  · rw [if_neg h]
    by_cases h2 : j < i
    · rw [if_pos h2, if_pos (by omega)]
    · rw [if_neg h2, if_neg (by omega)]
/-- How far one bit is struck out. -/
def divPart (i : Nat) (f : Nat → Bool) (k : Nat) : Nat → Bool := fun j => f j != (decide (i ≤ j) && (crcTerms.take k).contains (j - i))
theorem divPart_zero (i : Nat) (f : Nat → Bool) : divPart i f 0 = f := by
  funext j; unfold divPart; rw [List.take_zero]; simp
theorem divPart_full (i : Nat) (f : Nat → Bool) (hi : f i = true) : divPart i f 18 = divStep i f := by
  funext j; unfold divPart divStep; rw [hi]; rfl
theorem divPart_succ (i : Nat) (f : Nat → Bool) {k t : Nat} (ht : crcTerms[k]? = some t) (hn : (crcTerms.take k).contains t = false) : (fun j => if j = i + t then (divPart i f k (i + t) != true) else divPart i f k j) = divPart i f (k + 1) := by
  funext j
  unfold divPart
  rw [List.take_add_one, ht]
  by_cases h : j = i + t
  · subst h
    rw [if_pos rfl, show i + t - i = t by omega, hn]
    have e1 : decide (i ≤ i + t) = true := by simp
    have e2 : (crcTerms.take k ++ (some t).toList).contains t = true := by simp
    rw [e1, e2]
    cases f (i + t) <;> rfl
  · rw [if_neg h]
    by_cases h2 : i ≤ j
    · have e2 : (crcTerms.take k ++ (some t).toList).contains (j - i) = (crcTerms.take k).contains (j - i) := by
        have : j - i ≠ t := by omega
        rw [List.contains_eq_any_beq, List.contains_eq_any_beq, List.any_append]
        simp [this]
      rw [e2]
    · have e1 : decide (i ≤ j) = false := by simp; omega
      rw [e1]; simp
theorem div_skip (i : Nat) (f : Nat → Bool) (hi : f i = false) : divStep i f = f := by
  funext j; unfold divStep; rw [hi]; simp
theorem rest_step (R i : Nat) (hi : i < 32) : bits .or .u32 ((R % 2 ^ i : Nat) : Int) ((bitN (R.testBit i) * 2 ^ i : Nat) : Int) = ((R % 2 ^ (i + 1) : Nat) : Int) := by
  have h1 : R % 2 ^ i < 2 ^ i := Nat.mod_lt _ (Nat.two_pow_pos i)
  have h2 : (2 : Nat) ^ i ≤ 2 ^ 31 := Nat.pow_le_pow_right (by decide) (by omega)
  have h3 : bitN (R.testBit i) ≤ 1 := by unfold bitN; split <;> omega
  have h4 : bitN (R.testBit i) * 2 ^ i ≤ 1 * 2 ^ 31 := Nat.mul_le_mul h3 h2
  rw [u32_or_nat _ _ (by omega) (by omega), Nat.or_comm, nat_join i _ _ (Nat.mul_mod_left _ _) h1]
  rw [← bit_at, Nat.pow_succ, Nat.mod_mul, Nat.mul_comm]
  congr 1
  omega
end Go.Proofs.Ytdiaihpilniikaa

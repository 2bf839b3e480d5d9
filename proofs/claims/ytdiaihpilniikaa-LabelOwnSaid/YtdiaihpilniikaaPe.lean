/- Long division bit by bit, and the register of layer 6: the same rest. -/
import Derived.Test.YtdiaihpilniikaaPc
namespace Go.Proofs.Ytdiaihpilniikaa

/-- The 33 terms' places behind a bit that stands: of cairnref06. -/
def crcTerms : List Nat := [0, 4, 5, 6, 7, 9, 10, 12, 13, 14, 18, 19, 21, 22, 23, 24, 26, 32]
/-- One step of the division, on bits by their places. -/
def divStep (i : Nat) (f : Nat → Bool) : Nat → Bool := fun j => if f i then (f j != (decide (i ≤ j) && crcTerms.contains (j - i))) else f j
def bitN (b : Bool) : Nat := if b then 1 else 0
/-- The register, bit by bit. -/
def serial (m : Nat → Bool) (r : Nat) : Nat → Nat
  | 0 => r
  | i + 1 => stp (serial m r i ^^^ bitN (m i))
def divUpto (f : Nat → Bool) : Nat → Nat → Bool
  | 0 => f
  | i + 1 => divStep i (divUpto f i)
theorem bitN_testBit (b : Bool) (j : Nat) : (bitN b).testBit j = (b && decide (j = 0)) := by
  cases b with
  | false => simp [bitN]
  | true =>
    rcases Nat.eq_zero_or_pos j with rfl | h
    · rfl
    · have e : (bitN true) = 2 ^ 1 - 1 := rfl
      rw [e, Nat.testBit_two_pow_sub_one]
      have : ¬ j < 1 := by omega
      have h2 : ¬ j = 0 := by omega
      simp [this, h2]
theorem crcM_bits (j : Nat) : crcM.testBit j = crcTerms.contains (j + 1) := by
  by_cases h : j < 32
  · have : ∀ j, j < 32 → crcM.testBit j = crcTerms.contains (j + 1) := by decide
    exact this j h
  · have h1 : crcM.testBit j = false := Nat.testBit_lt_two_pow (Nat.lt_of_lt_of_le (show crcM < 2 ^ 32 by decide) (Nat.pow_le_pow_right (by decide) (by omega)))
    rw [h1]
    symm
    simp [crcTerms]
    omega
theorem stp_testBit (r j : Nat) : (stp r).testBit j = (r.testBit (j + 1) != (r.testBit 0 && crcTerms.contains (j + 1))) := by
  unfold stp
  rw [Nat.testBit_xor, Nat.testBit_shiftRight, Nat.add_comm 1 j]
  cases h : r.testBit 0 with
  | true => simp only [if_true, crcM_bits, Bool.true_and]
  | false => simp
/-- How the bits stand when i of them are gone over. -/
theorem divUpto_eq (m : Nat → Bool) (r : Nat) (f : Nat → Bool) (hf : ∀ j, f j = (r.testBit j != m j)) (i j : Nat) : divUpto f i (i + j) = ((serial m r i).testBit j != m (i + j)) := by
  induction i generalizing j with
  | zero => rw [Nat.zero_add]; exact hf j
  | succ i ih =>
    show divStep i (divUpto f i) (i + 1 + j) = ((stp (serial m r i ^^^ bitN (m i))).testBit j != m (i + 1 + j))
    have h0 := ih 0
    rw [Nat.add_zero] at h0
    have h1 := ih (j + 1)
    rw [show i + (j + 1) = i + 1 + j by omega] at h1
    unfold divStep
    rw [h0, h1, stp_testBit, Nat.testBit_xor, Nat.testBit_xor, bitN_testBit, bitN_testBit, show i + 1 + j - i = j + 1 by omega]
    have e1 : decide (j + 1 = 0) = false := by simp
    have e2 : decide (i ≤ i + 1 + j) = true := by simp; omega
    rw [e1, e2]
    cases (serial m r i).testBit 0 <;> cases m i <;> cases (serial m r i).testBit (j + 1) <;> cases m (i + 1 + j) <;> cases crcTerms.contains (j + 1) <;> rfl

/-- A byte's bits, one by one, are its eight steps at once. -/
def byteBit (x k : Nat) : Bool := x.testBit k
theorem half_split (x : Nat) : x = bitN (x.testBit 0) ^^^ ((x >>> 1) <<< 1) := by
  apply Nat.eq_of_testBit_eq
  intro i
  rw [Nat.testBit_xor, bitN_testBit, Nat.testBit_shiftLeft, Nat.testBit_shiftRight]
  rcases Nat.eq_zero_or_pos i with rfl | h
  · simp
  · have e1 : decide (i = 0) = false := by simp; omega
    have e2 : decide (1 ≤ i) = true := by simp; omega
    rw [e1, e2, show 1 + (i - 1) = i by omega]
    cases x.testBit 0 <;> simp
theorem stp_take (r x : Nat) : stp (r ^^^ x) = stp (r ^^^ bitN (x.testBit 0)) ^^^ (x >>> 1) := by
  conv => lhs; rw [half_split x, ← Nat.xor_assoc, stp_xor, stp_shl]
def steps : Nat → Nat → Nat
  | 0, r => r
  | k + 1, r => steps k (stp r)
theorem steps_serial (k r x : Nat) (m : Nat → Bool) (hm : ∀ j, m j = x.testBit j) (hx : x < 2 ^ k) : steps k (r ^^^ x) = serial m r k := by
  have key : ∀ i, i ≤ k → steps k (r ^^^ x) = steps (k - i) (serial m r i ^^^ (x >>> i)) := by
    intro i
    induction i with
    | zero => intro _; simp [serial]
    | succ i ih =>
      intro hi
      rw [ih (by omega), show k - i = (k - (i + 1)) + 1 by omega]
      show steps _ (stp _) = _
      rw [stp_take]
      show _ = steps _ (stp (serial m r i ^^^ bitN (m i)) ^^^ x >>> (i + 1))
      rw [Nat.testBit_shiftRight, show i + 0 = i from rfl, ← hm i, ← Nat.shiftRight_add]
  rw [key k (Nat.le_refl _), Nat.sub_self]
  show serial m r k ^^^ (x >>> k) = _
  rw [Nat.shiftRight_eq_div_pow, Nat.div_eq_of_lt hx, Nat.xor_zero]
theorem upd_serial (r x : Nat) (hx : x < 256) (m : Nat → Bool) (hm : ∀ j, m j = x.testBit j) : upd r x = serial m r 8 := by
  rw [← steps_serial 8 r x m hm (by omega)]
  unfold upd
  rw [nib_eq, nib_eq]
  rfl
theorem serial_add (m : Nat → Bool) (r a b : Nat) : serial m r (a + b) = serial (fun j => m (a + j)) (serial m r a) b := by
  induction b with
  | zero => rfl
  | succ b ih => show stp (serial m r (a + b) ^^^ bitN (m (a + b))) = _; rw [ih]; rfl
theorem serial_congr {m m' : Nat → Bool} {r k : Nat} (h : ∀ j, j < k → m j = m' j) : serial m r k = serial m' r k := by
  induction k with
  | zero => rfl
  | succ k ih => show stp (serial m r k ^^^ bitN (m k)) = stp (serial m' r k ^^^ bitN (m' k)); rw [ih fun j hj => h j (by omega), h k (by omega)]
/-- The bits of some bytes, in order; none behind them. -/
def msgBit (l : List UInt8) (j : Nat) : Bool := match l[j / 8]? with | some x => x.toNat.testBit (j % 8) | none => false
theorem over_serial (r : Nat) (l : List UInt8) : over r l = serial (msgBit l) r (8 * l.length) := by
  induction l generalizing r with
  | nil => rfl
  | cons x l ih =>
    rw [over_cons, ih, List.length_cons, show 8 * (l.length + 1) = 8 + 8 * l.length by omega, serial_add, upd_serial r x.toNat x.toNat_lt (fun j => x.toNat.testBit j) fun _ => rfl]
    have e1 : serial (fun j => x.toNat.testBit j) r 8 = serial (msgBit (x :: l)) r 8 := serial_congr fun j hj => by
      unfold msgBit
      rw [Nat.div_eq_of_lt hj, Nat.mod_eq_of_lt hj]
      rfl
    rw [e1]
    refine serial_congr fun j _ => ?_
    unfold msgBit
    rw [show (8 + j) / 8 = j / 8 + 1 by omega, show (8 + j) % 8 = j % 8 by omega, List.getElem?_cons_succ]
/-- What the division leaves: the register behind all bytes. -/
theorem div_rest (r : Nat) (l : List UInt8) (f : Nat → Bool) (hf : ∀ j, f j = (r.testBit j != msgBit l j)) (j : Nat) : divUpto f (8 * l.length) (8 * l.length + j) = (over r l).testBit j := by
  rw [divUpto_eq (msgBit l) r f hf, over_serial]
  have : msgBit l (8 * l.length + j) = false := by
    unfold msgBit
    rw [List.getElem?_eq_none (by omega)]
  rw [this]; simp
end Go.Proofs.Ytdiaihpilniikaa

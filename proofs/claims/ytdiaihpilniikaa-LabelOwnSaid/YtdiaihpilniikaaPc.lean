/- The sum of layer 6 as a plain function of bytes: it is linear, and what it cannot see. -/
import Derived.Laws.BitsAllLaws
namespace Go.Proofs.Ytdiaihpilniikaa

/-- The modulus. -/
def crcM : Nat := 2197175160
/-- One bit's step. -/
def stp (r : Nat) : Nat := (r >>> 1) ^^^ (if r.testBit 0 then crcM else 0)
def stp4 (r : Nat) : Nat := stp (stp (stp (stp r)))
/-- Four steps by the table of halves. -/
def nib (r : Nat) : Nat := (r >>> 4) ^^^ stp4 (r &&& 15)
def upd (r x : Nat) : Nat := nib (nib (r ^^^ x))
def over (r : Nat) (l : List UInt8) : Nat := l.foldl (fun r x => upd r x.toNat) r
def crcSum (l : List UInt8) : Nat := over 4294967295 l ^^^ 4294967295

theorem xor_cancel4 (a b c d : Nat) : (a ^^^ b) ^^^ (c ^^^ d) = (a ^^^ c) ^^^ (b ^^^ d) := by
  simp only [Nat.xor_assoc]; congr 1; rw [← Nat.xor_assoc, Nat.xor_comm b c, Nat.xor_assoc]
theorem stp_zero : stp 0 = 0 := by decide
theorem stp_xor (a b : Nat) : stp (a ^^^ b) = stp a ^^^ stp b := by
  unfold stp
  rw [Nat.shiftRight_xor_distrib, Nat.testBit_xor, xor_cancel4]
  congr 1
  cases a.testBit 0 <;> cases b.testBit 0 <;> simp
theorem stp4_xor (a b : Nat) : stp4 (a ^^^ b) = stp4 a ^^^ stp4 b := by unfold stp4; simp only [stp_xor]
theorem nib_xor (a b : Nat) : nib (a ^^^ b) = nib a ^^^ nib b := by
  unfold nib
  rw [Nat.shiftRight_xor_distrib, Nat.and_xor_distrib_right, stp4_xor, xor_cancel4]
theorem upd_xor (a b x y : Nat) : upd (a ^^^ b) (x ^^^ y) = upd a x ^^^ upd b y := by
  unfold upd
  rw [xor_cancel4, nib_xor, nib_xor]
theorem stp_lt {r : Nat} (h : r < 4294967296) : stp r < 4294967296 := by
  unfold stp
  refine Nat.xor_lt_two_pow (n := 32) ?_ ?_
  · rw [Nat.shiftRight_eq_div_pow]; omega
  · unfold crcM; split <;> decide
theorem stp4_lt {r : Nat} (h : r < 4294967296) : stp4 r < 4294967296 := stp_lt (stp_lt (stp_lt (stp_lt h)))
theorem nib_lt {r : Nat} (h : r < 4294967296) : nib r < 4294967296 := by
  unfold nib
  refine Nat.xor_lt_two_pow (n := 32) ?_ ?_
  · rw [Nat.shiftRight_eq_div_pow]; omega
  · exact stp4_lt (Nat.lt_of_le_of_lt Nat.and_le_right (by decide))
theorem upd_lt {r x : Nat} (h : r < 4294967296) (hx : x < 256) : upd r x < 4294967296 := nib_lt (nib_lt (Nat.xor_lt_two_pow (n := 32) h (by omega)))
theorem over_lt {r : Nat} (h : r < 4294967296) (l : List UInt8) : over r l < 4294967296 := by
  induction l generalizing r with
  | nil => exact h
  | cons x l ih => exact ih (upd_lt h x.toNat_lt)
theorem over_cons (r : Nat) (x : UInt8) (l : List UInt8) : over r (x :: l) = over (upd r x.toNat) l := rfl
theorem over_append (r : Nat) (l m : List UInt8) : over r (l ++ m) = over (over r l) m := by unfold over; rw [List.foldl_append]
theorem over_xor (l m : List UInt8) (h : l.length = m.length) (a b : Nat) : over (a ^^^ b) (List.zipWith (· ^^^ ·) l m) = over a l ^^^ over b m := by
  induction l generalizing m a b with
  | nil => cases m with | nil => rfl | cons _ _ => simp at h
  | cons x l ih =>
    cases m with
    | nil => simp at h
    | cons y m =>
      rw [List.zipWith_cons_cons, over_cons, over_cons, over_cons, UInt8.toNat_xor, upd_xor]
      exact ih m (by simpa using h) _ _
theorem crcSum_lt (l : List UInt8) : crcSum l < 4294967296 := Nat.xor_lt_two_pow (n := 32) (over_lt (by decide) l) (by decide)

theorem shl4_split (r : Nat) : ((r >>> 4) <<< 4) ^^^ (r &&& 15) = r := by
  apply Nat.eq_of_testBit_eq
  intro i
  rw [Nat.testBit_xor, Nat.testBit_shiftLeft, Nat.testBit_shiftRight, Nat.testBit_and, show (15 : Nat) = 2 ^ 4 - 1 from rfl, Nat.testBit_two_pow_sub_one]
  by_cases h : 4 ≤ i
  · have : ¬ i < 4 := by omega
    simp [h, this]
  · have : i < 4 := by omega
    simp [h, this]
theorem stp_shl (r : Nat) : stp (r <<< 1) = r := by
  unfold stp
  rw [Nat.testBit_shiftLeft]
  simp
theorem nib_eq (r : Nat) : nib r = stp4 r := by
  conv => rhs; rw [← shl4_split r, stp4_xor]
  unfold nib
  congr 1
  unfold stp4
  have h : (r >>> 4) <<< 4 = ((((r >>> 4) <<< 1) <<< 1) <<< 1) <<< 1 := by simp only [← Nat.shiftLeft_add]
  rw [h, stp_shl, stp_shl, stp_shl, stp_shl]
/-- A register that steps to nought was nought. -/
theorem stp_eq_zero {r : Nat} (hr : r < 4294967296) (h : stp r = 0) : r = 0 := by
  unfold stp at h
  have h1 : r >>> 1 = if r.testBit 0 then crcM else 0 := by
    have := congrArg (· ^^^ (if r.testBit 0 then crcM else 0)) h
    simpa [Nat.xor_assoc] using this
  rw [Nat.shiftRight_eq_div_pow] at h1
  cases hb : r.testBit 0 with
  | true => rw [hb] at h1; simp only [if_true, crcM] at h1; omega
  | false =>
    rw [hb] at h1
    have h2 : r % 2 = 0 := by
      rw [Nat.testBit_zero] at hb
      simpa using hb
    simp at h1
    omega
theorem nib_eq_zero {r : Nat} (hr : r < 4294967296) (h : nib r = 0) : r = 0 := by
  rw [nib_eq] at h
  exact stp_eq_zero hr (stp_eq_zero (stp_lt hr) (stp_eq_zero (stp_lt (stp_lt hr)) (stp_eq_zero (stp_lt (stp_lt (stp_lt hr))) h)))
theorem upd_zero_eq_zero {r : Nat} (hr : r < 4294967296) (h : upd r 0 = 0) : r = 0 := by
  unfold upd at h
  rw [Nat.xor_zero] at h
  exact nib_eq_zero hr (nib_eq_zero (nib_lt hr) h)
theorem upd_zero (a x : Nat) : upd a x = upd (a ^^^ x) 0 := by unfold upd; rw [Nat.xor_zero]
theorem upd_shl (r : Nat) : upd (r <<< 8) 0 = r := by
  unfold upd
  rw [Nat.xor_zero, nib_eq, nib_eq]
  unfold stp4
  have h : r <<< 8 = (((((((r <<< 1) <<< 1) <<< 1) <<< 1) <<< 1) <<< 1) <<< 1) <<< 1 := by simp only [← Nat.shiftLeft_add]
  rw [h]; simp only [stp_shl]
def zeros4 (r : Nat) : Nat := upd (upd (upd (upd r 0) 0) 0) 0
theorem zeros4_xor (a b : Nat) : zeros4 (a ^^^ b) = zeros4 a ^^^ zeros4 b := by
  unfold zeros4
  have h : ∀ a b, upd (a ^^^ b) 0 = upd a 0 ^^^ upd b 0 := fun a b => by have := upd_xor a b 0 0; rwa [Nat.xor_zero] at this
  simp only [h]
theorem zeros4_eq_zero {r : Nat} (hr : r < 4294967296) (h : zeros4 r = 0) : r = 0 := by
  unfold zeros4 at h
  have l : ∀ {r}, r < 4294967296 → upd r 0 < 4294967296 := fun h => upd_lt h (by decide)
  exact upd_zero_eq_zero hr (upd_zero_eq_zero (l hr) (upd_zero_eq_zero (l (l hr)) (upd_zero_eq_zero (l (l (l hr))) h)))
/-- Four bytes behind a register: as if they were put onto it. -/
theorem over_four (r q : Nat) (a b c d : UInt8) (h : q = a.toNat ^^^ (b.toNat ^^^ (c.toNat ^^^ d.toNat <<< 8) <<< 8) <<< 8) : over r [a, b, c, d] = zeros4 (r ^^^ q) := by
  have u : ∀ a b, upd (a ^^^ b) 0 = upd a 0 ^^^ upd b 0 := fun a b => by have := upd_xor a b 0 0; rwa [Nat.xor_zero] at this
  show upd (upd (upd (upd r a.toNat) b.toNat) c.toNat) d.toNat = _
  unfold zeros4
  rw [upd_zero r, h, ← Nat.xor_assoc, u (r ^^^ a.toNat), upd_shl, upd_zero (upd (r ^^^ a.toNat) 0), ← Nat.xor_assoc, u (upd (r ^^^ a.toNat) 0 ^^^ b.toNat), upd_shl, upd_zero (upd (upd (r ^^^ a.toNat) 0 ^^^ b.toNat) 0), ← Nat.xor_assoc, u (upd (upd (r ^^^ a.toNat) 0 ^^^ b.toNat) 0 ^^^ c.toNat), upd_shl, upd_zero (upd (upd (upd (r ^^^ a.toNat) 0 ^^^ b.toNat) 0 ^^^ c.toNat) 0)]
/-- The four bytes behind a list are its sum, or the register tells. -/
theorem sum_iff (l : List UInt8) (q : Nat) (hq : q < 4294967296) (a b c d : UInt8) (h : q = a.toNat ^^^ (b.toNat ^^^ (c.toNat ^^^ d.toNat <<< 8) <<< 8) <<< 8) : q = crcSum l ↔ over 4294967295 (l ++ [a, b, c, d]) = zeros4 4294967295 := by
  rw [over_append, over_four _ q a b c d h]
  have hl := over_lt (show 4294967295 < 4294967296 by decide) l
  unfold crcSum
  generalize over 4294967295 l = R at *
  constructor
  · rintro rfl
    rw [← Nat.xor_assoc, Nat.xor_self, Nat.zero_xor]
  · intro e
    have e2 : zeros4 ((R ^^^ q) ^^^ 4294967295) = 0 := by rw [zeros4_xor, e, Nat.xor_self]
    have e3 := zeros4_eq_zero (Nat.xor_lt_two_pow (n := 32) (Nat.xor_lt_two_pow (n := 32) hl hq) (by decide)) e2
    have e4 : R ^^^ q = 4294967295 := by
      have := congrArg (· ^^^ 4294967295) e3
      simpa [Nat.xor_assoc] using this
    have e5 := congrArg (R ^^^ ·) e4
    simpa [← Nat.xor_assoc] using e5
end Go.Proofs.Ytdiaihpilniikaa

/- What is turned in a label's bytes is told, unless no sum sees it. -/
import Derived.Test.YtdiaihpilniikaaPd
import Derived.Test.YtdiaihpilniikaaPf
namespace Go.Proofs.Ytdiaihpilniikaa

theorem add_shl8 (a x : Nat) (ha : a < 256) : a + 256 * x = a ^^^ x <<< 8 := by
  apply Nat.eq_of_testBit_eq
  intro i
  have h := Nat.testBit_two_pow_mul_add (i := 8) x (show a < 2 ^ 8 from ha) i
  rw [Nat.add_comm, show (256 : Nat) = 2 ^ 8 from rfl, h, Nat.testBit_xor, Nat.testBit_shiftLeft]
  by_cases h8 : i < 8
  · rw [if_pos h8]
    have : ¬ 8 ≤ i := by omega
    simp [this]
  · rw [if_neg h8]
    have e : a.testBit i = false := Nat.testBit_lt_two_pow (Nat.lt_of_lt_of_le (show a < 2 ^ 8 from ha) (Nat.pow_le_pow_right (by decide) (by omega)))
    have : 8 ≤ i := by omega
    simp [this, e]
theorem unle_four (a b c d : UInt8) : unle [a, b, c, d] = a.toNat ^^^ (b.toNat ^^^ (c.toNat ^^^ d.toNat <<< 8) <<< 8) <<< 8 := by
  show a.toNat + 256 * (b.toNat + 256 * (c.toNat + 256 * (d.toNat + 256 * 0))) = _
  rw [Nat.mul_zero, Nat.add_zero, add_shl8 c.toNat _ c.toNat_lt, add_shl8 b.toNat _ b.toNat_lt, add_shl8 a.toNat _ a.toNat_lt]
/-- 31 bytes whose last four are the sum of those before. -/
theorem sum_over {b : List UInt8} (h : b.length = 31) : unle (b.drop 27) = crcSum (b.take 27) ↔ over 4294967295 b = zeros4 4294967295 := by
  have hd : (b.drop 27).length = 4 := by simp; omega
  have e := List.take_append_drop 27 b
  generalize b.drop 27 = t at *
  match t, hd with
  | [x, y, z, u], _ =>
    have hq : unle [x, y, z, u] < 4294967296 := Nat.lt_of_lt_of_eq (unle_lt [x, y, z, u]) (show 256 ^ 4 = 4294967296 by decide)
    have := sum_iff (b.take 27) (unle [x, y, z, u]) hq x y z u (unle_four x y z u)
    rwa [e] at this
theorem told_of {b c p : List UInt8} (hb : b.length = 31) (hp : p.length = 31) (hr : Lab.reads b) (hc : c = List.zipWith (· ^^^ ·) b p) (hn : over 0 p ≠ 0) : ¬Lab.reads c := by
  intro hcr
  have h1 := (sum_over hb).1 hr.2.2.1
  have h2 := (sum_over hcr.1).1 hcr.2.2.1
  have h3 := over_xor b p (by omega) 4294967295 0
  rw [Nat.xor_zero, ← hc, h2, h1] at h3
  have h4 : over 0 p = 0 := by
    have := congrArg (zeros4 4294967295 ^^^ ·) h3
    simpa [← Nat.xor_assoc] using this.symm
  exact hn h4
/-- One bit turned. -/
def flipL (l : List UInt8) (k : Nat) : List UInt8 := l.set (k / 8) (l.getD (k / 8) 0 ^^^ UInt8.ofNat (1 <<< (k % 8)))
theorem flipL_length (l : List UInt8) (k : Nat) : (flipL l k).length = l.length := by unfold flipL; rw [List.length_set]
theorem flipL_zip (l : List UInt8) (hl : l.length = 31) (k : Nat) : flipL l k = List.zipWith (· ^^^ ·) l ((List.replicate 31 (0 : UInt8)).set (k / 8) (UInt8.ofNat (1 <<< (k % 8)))) := by
  rw [show flipL l k = l.set (k / 8) (l.getD (k / 8) 0 ^^^ UInt8.ofNat (1 <<< (k % 8))) from rfl]
  apply List.ext_getElem
  · rw [List.length_set, List.length_zipWith, List.length_set, List.length_replicate, hl]; rfl
  · intro n h1 h2
    rw [List.length_set] at h1
    rw [List.getElem_zipWith, List.getElem_set, List.getElem_set]
    by_cases h : k / 8 = n
    · rw [if_pos h, if_pos h]
      subst h
      rw [List.getD_eq_getElem?_getD, List.getElem?_eq_getElem h1]
      rfl
    · rw [if_neg h, if_neg h, List.getElem_replicate]
      simp
theorem over_flip (l : List UInt8) (hl : l.length = 31) (k r : Nat) : over r (flipL l k) = over r l ^^^ synAt k := by
  rw [flipL_zip l hl k]
  have := over_xor l ((List.replicate 31 (0 : UInt8)).set (k / 8) (UInt8.ofNat (1 <<< (k % 8)))) (by rw [List.length_set, List.length_replicate, hl]) r 0
  rw [Nat.xor_zero] at this
  exact this
/-- Some bits turned, one behind the other. -/
def flips (l : List UInt8) (at_ : List Nat) : List UInt8 := at_.foldl flipL l
theorem flips_length (l : List UInt8) (at_ : List Nat) : (flips l at_).length = l.length := by
  induction at_ generalizing l with
  | nil => rfl
  | cons k m ih => show (flips (flipL l k) m).length = _; rw [ih, flipL_length]
theorem over_flips (l : List UInt8) (hl : l.length = 31) (at_ : List Nat) (r : Nat) : over r (flips l at_) = over r l ^^^ synAll at_ := by
  induction at_ generalizing l with
  | nil => show over r l = _ ^^^ 0; rw [Nat.xor_zero]
  | cons k m ih =>
    show over r (flips (flipL l k) m) = over r l ^^^ (synAt k ^^^ synAll m)
    rw [ih _ (by rw [flipL_length, hl]), over_flip l hl, Nat.xor_assoc]
theorem told_flips {b : List UInt8} (hb : b.length = 31) (hr : Lab.reads b) {at_ : List Nat} (h : ∀ k ∈ at_, k < 248) (hd : at_.Nodup) (h0 : at_ ≠ []) (hl : ¬(3 < at_.length ∧ at_.length % 2 = 0)) : ¬Lab.reads (flips b at_) := by
  intro hcr
  have h1 := (sum_over hb).1 hr.2.2.1
  have h2 := (sum_over hcr.1).1 hcr.2.2.1
  rw [over_flips b hb, h1] at h2
  have h4 : synAll at_ = 0 := by
    have := congrArg (zeros4 4294967295 ^^^ ·) h2
    simpa [← Nat.xor_assoc] using this
  exact synAll_ne h hd h0 hl h4
end Go.Proofs.Ytdiaihpilniikaa

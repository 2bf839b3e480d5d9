/- A drive's mark as a plain thing: its bytes, and what bytes say. -/
import Derived.Test.YtdiaihpilniikaaPc
namespace Go.Proofs.Ytdiaihpilniikaa

/-- A label: the store's bytes, the shape (K, M, block), the place, the epoch. -/
structure Lab where
  st : List UInt8
  k : Int
  m : Int
  b : Int
  i : Int
  e : Int
/-- The error of a label: 4 the shape, 2 the place or the epoch, 0 none. -/
def Lab.may (l : Lab) : Int := if l.m < 1 ∨ l.k < l.m ∨ 255 - l.m < l.k ∨ l.b < 1 ∨ 65536 < l.b then 4 else if l.i < 0 ∨ l.k + l.m ≤ l.i ∨ l.e < 0 ∨ 4294967295 < l.e then 2 else 0
/-- So many bytes of a number, the lowest first. -/
def leN (n : Nat) : Nat → List UInt8
  | 0 => []
  | k + 1 => UInt8.ofNat n :: leN (n / 256) k
/-- The number of such bytes. -/
def unle : List UInt8 → Nat
  | [] => 0
  | x :: l => x.toNat + 256 * unle l
def labMagic : List UInt8 := [67, 82, 78, 1]
def Lab.head (l : Lab) : List UInt8 := labMagic ++ l.st ++ [UInt8.ofNat l.k.toNat, UInt8.ofNat l.m.toNat] ++ leN l.b.toNat 4 ++ [UInt8.ofNat l.i.toNat] ++ leN l.e.toNat 8
def Lab.bytes (l : Lab) : List UInt8 := l.head ++ leN (crcSum l.head) 4
def Lab.of (b : List UInt8) : Lab := ⟨(b.drop 4).take 8, ((b.getD 12 0).toNat : Int), ((b.getD 13 0).toNat : Int), (unle ((b.drop 14).take 4) : Int), ((b.getD 18 0).toNat : Int), (unle ((b.drop 19).take 8) : Int)⟩
def Lab.zero : Lab := ⟨List.replicate 8 0, 0, 0, 0, 0, 0⟩
def Lab.reads (b : List UInt8) : Prop := b.length = 31 ∧ b.take 4 = labMagic ∧ unle (b.drop 27) = crcSum (b.take 27) ∧ (Lab.of b).may = 0
instance (b : List UInt8) : Decidable (Lab.reads b) := by unfold Lab.reads; infer_instance
def Lab.parse (b : List UInt8) : Lab × Int := if Lab.reads b then (Lab.of b, 0) else (Lab.zero, 150)

theorem leN_length (n k : Nat) : (leN n k).length = k := by
  induction k generalizing n with
  | zero => rfl
  | succ k ih => show (leN (n / 256) k).length + 1 = _; rw [ih]
theorem unle_leN (n k : Nat) : unle (leN n k) = n % 256 ^ k := by
  induction k generalizing n with
  | zero => simp [leN, unle, Nat.mod_one]
  | succ k ih =>
    show (UInt8.ofNat n).toNat + 256 * unle (leN (n / 256) k) = _
    rw [ih, Nat.pow_succ, Nat.mul_comm (256 ^ k) 256, Nat.mod_mul, UInt8.toNat_ofNat']
theorem leN_unle (l : List UInt8) : leN (unle l) l.length = l := by
  induction l with
  | nil => rfl
  | cons x l ih =>
    show UInt8.ofNat (x.toNat + 256 * unle l) :: leN ((x.toNat + 256 * unle l) / 256) l.length = _
    have hx := x.toNat_lt
    rw [show (x.toNat + 256 * unle l) / 256 = unle l by omega, ih]
    congr 1
    apply UInt8.toNat_inj.1
    rw [UInt8.toNat_ofNat']
    omega
theorem unle_lt (l : List UInt8) : unle l < 256 ^ l.length := by
  induction l with
  | nil => decide
  | cons x l ih =>
    have hx := x.toNat_lt
    show x.toNat + 256 * unle l < 256 ^ (l.length + 1)
    rw [Nat.pow_succ]
    omega
theorem Lab.head_length (l : Lab) (h : l.st.length = 8) : l.head.length = 27 := by
  unfold Lab.head labMagic
  simp [leN_length, h]
theorem Lab.bytes_length (l : Lab) (h : l.st.length = 8) : l.bytes.length = 31 := by
  unfold Lab.bytes
  rw [List.length_append, leN_length, l.head_length h]
theorem may_fits {l : Lab} (h : l.may = 0) : 1 ≤ l.m ∧ l.m ≤ l.k ∧ l.k + l.m ≤ 255 ∧ 1 ≤ l.b ∧ l.b ≤ 65536 ∧ 0 ≤ l.i ∧ l.i < l.k + l.m ∧ 0 ≤ l.e ∧ l.e ≤ 4294967295 := by
  unfold Lab.may at h
  split at h
  · cases h
  · split at h
    · cases h
    · omega
theorem may_of {l : Lab} (h : 1 ≤ l.m ∧ l.m ≤ l.k ∧ l.k + l.m ≤ 255 ∧ 1 ≤ l.b ∧ l.b ≤ 65536 ∧ 0 ≤ l.i ∧ l.i < l.k + l.m ∧ 0 ≤ l.e ∧ l.e ≤ 4294967295) : l.may = 0 := by
  unfold Lab.may
  rw [if_neg (by omega), if_neg (by omega)]
theorem lab_eight {s : List UInt8} (h : s.length = 8) : ∃ a b c d e f g i, s = [a, b, c, d, e, f, g, i] := by
  match s, h with
  | [a, b, c, d, e, f, g, i], _ => exact ⟨a, b, c, d, e, f, g, i, rfl⟩
theorem u8_back {n : Int} (h0 : 0 ≤ n) (h1 : n ≤ 255) : ((UInt8.ofNat n.toNat).toNat : Int) = n := by
  rw [UInt8.toNat_ofNat']; omega
theorem leN_four (n : Nat) : leN n 4 = [UInt8.ofNat n, UInt8.ofNat (n / 256), UInt8.ofNat (n / 256 / 256), UInt8.ofNat (n / 256 / 256 / 256)] := rfl
theorem leN_eight (n : Nat) : leN n 8 = [UInt8.ofNat n, UInt8.ofNat (n / 256), UInt8.ofNat (n / 256 / 256), UInt8.ofNat (n / 256 / 256 / 256), UInt8.ofNat (n / 256 / 256 / 256 / 256), UInt8.ofNat (n / 256 / 256 / 256 / 256 / 256), UInt8.ofNat (n / 256 / 256 / 256 / 256 / 256 / 256), UInt8.ofNat (n / 256 / 256 / 256 / 256 / 256 / 256 / 256)] := rfl
/-- The bytes of a label, in their parts. -/
theorem Lab.head_cut (l : Lab) (h : l.st.length = 8) (t : List UInt8) : ((l.head ++ t).drop 4).take 8 = l.st ∧ (l.head ++ t).getD 12 0 = UInt8.ofNat l.k.toNat ∧ (l.head ++ t).getD 13 0 = UInt8.ofNat l.m.toNat ∧ ((l.head ++ t).drop 14).take 4 = leN l.b.toNat 4 ∧ (l.head ++ t).getD 18 0 = UInt8.ofNat l.i.toNat ∧ ((l.head ++ t).drop 19).take 8 = leN l.e.toNat 8 ∧ (l.head ++ t).take 4 = labMagic ∧ (l.head ++ t).take 27 = l.head ∧ (l.head ++ t).drop 27 = t := by
  obtain ⟨st, k, m, b, i, e⟩ := l
  obtain ⟨a0, a1, a2, a3, a4, a5, a6, a7, rfl⟩ := lab_eight h
  unfold Lab.head labMagic
  rw [leN_four, leN_eight]
  exact ⟨rfl, rfl, rfl, rfl, rfl, rfl, rfl, rfl, rfl⟩
theorem Lab.of_bytes (l : Lab) (h : l.st.length = 8) (hm : l.may = 0) (t : List UInt8) : Lab.of (l.head ++ t) = l := by
  have hf := may_fits hm
  obtain ⟨c1, c2, c3, c4, c5, c6, _⟩ := l.head_cut h t
  unfold Lab.of
  rw [c1, c2, c3, c4, c5, c6, unle_leN, unle_leN, u8_back (by omega) (by omega), u8_back (by omega) (by omega), u8_back (by omega) (by omega), Nat.mod_eq_of_lt (by omega), Nat.mod_eq_of_lt (by omega), Int.toNat_of_nonneg (by omega), Int.toNat_of_nonneg (by omega)]
/-- There and back. -/
theorem Lab.parse_bytes (l : Lab) (h : l.st.length = 8) (hm : l.may = 0) : Lab.parse l.bytes = (l, 0) := by
  have hr : Lab.reads l.bytes := by
    obtain ⟨_, _, _, _, _, _, c7, c8, c9⟩ := l.head_cut h (leN (crcSum l.head) 4)
    refine ⟨l.bytes_length h, c7, ?_, ?_⟩
    · show unle ((l.head ++ leN (crcSum l.head) 4).drop 27) = crcSum ((l.head ++ leN (crcSum l.head) 4).take 27)
      rw [c8, c9, unle_leN]
      exact Nat.mod_eq_of_lt (crcSum_lt _)
    · show (Lab.of (l.head ++ _)).may = 0
      rw [l.of_bytes h hm]; exact hm
  unfold Lab.parse
  rw [if_pos hr]
  congr 1
  exact l.of_bytes h hm _
theorem lab_bytes31 {b : List UInt8} (h : b.length = 31) : b = b.take 4 ++ (b.drop 4).take 8 ++ [b.getD 12 0, b.getD 13 0] ++ (b.drop 14).take 4 ++ [b.getD 18 0] ++ (b.drop 19).take 8 ++ b.drop 27 := by
  apply List.ext_getElem?
  intro n
  have e : ∀ i, i < 31 → ∃ x, b[i]? = some x := fun i hi => ⟨b[i], List.getElem?_eq_getElem (by omega)⟩
  match b, h with
  | [b0, b1, b2, b3, b4, b5, b6, b7, b8, b9, b10, b11, b12, b13, b14, b15, b16, b17, b18, b19, b20, b21, b22, b23, b24, b25, b26, b27, b28, b29, b30], _ => rfl
theorem ofNat_getD (x : UInt8) : UInt8.ofNat ((x.toNat : Int)).toNat = x := by
  rw [Int.toNat_natCast, UInt8.ofNat_toNat]
/-- Back and there. -/
theorem Lab.bytes_of {b : List UInt8} (h : Lab.reads b) : (Lab.of b).bytes = b ∧ (Lab.of b).may = 0 ∧ (Lab.of b).st.length = 8 := by
  obtain ⟨h1, h2, h3, h4⟩ := h
  refine ⟨?_, h4, by show ((b.drop 4).take 8).length = 8; simp; omega⟩
  have hh : (Lab.of b).head = b.take 27 := by
    have e1 : leN (unle ((b.drop 14).take 4)) 4 = (b.drop 14).take 4 := by have := leN_unle ((b.drop 14).take 4); rwa [show ((b.drop 14).take 4).length = 4 by simp; omega] at this
    have e2 : leN (unle ((b.drop 19).take 8)) 8 = (b.drop 19).take 8 := by have := leN_unle ((b.drop 19).take 8); rwa [show ((b.drop 19).take 8).length = 8 by simp; omega] at this
    have e3 : (Lab.of b).head = b.take 4 ++ (b.drop 4).take 8 ++ [b.getD 12 0, b.getD 13 0] ++ (b.drop 14).take 4 ++ [b.getD 18 0] ++ (b.drop 19).take 8 := by
      unfold Lab.head Lab.of
      simp only
      rw [Int.toNat_natCast, Int.toNat_natCast, Int.toNat_natCast, Int.toNat_natCast, Int.toNat_natCast, UInt8.ofNat_toNat, UInt8.ofNat_toNat, UInt8.ofNat_toNat, e1, e2, h2]
    rw [e3]
    have e4 := lab_bytes31 h1
    have e5 : (b.take 4 ++ (b.drop 4).take 8 ++ [b.getD 12 0, b.getD 13 0] ++ (b.drop 14).take 4 ++ [b.getD 18 0] ++ (b.drop 19).take 8).length = 27 := by
      simp; omega
    have key : ∀ (p q : List UInt8), p.length = 27 → (p ++ q).take 27 = p := fun p q hp => by
      rw [List.take_append_of_le_length (by omega), List.take_of_length_le (by omega)]
    have e6 := congrArg (List.take 27) e4
    rw [key _ _ e5] at e6
    exact e6.symm
  unfold Lab.bytes
  rw [hh, ← h3]
  have e1 := leN_unle (b.drop 27)
  rw [show (b.drop 27).length = 4 by simp; omega] at e1
  rw [e1, List.take_append_drop]
theorem Lab.parse_ok {b : List UInt8} (h : (Lab.parse b).2 = 0) : Lab.reads b := by
  unfold Lab.parse at h
  split at h
  · assumption
  · cases h
theorem Lab.parse_bad {b : List UInt8} (h : ¬Lab.reads b) : Lab.parse b = (Lab.zero, 150) := if_neg h
end Go.Proofs.Ytdiaihpilniikaa

/- Helpers for memory, out of this proof's other texts.; The sum of layer 6 as a plain function of bytes: it is linear, and what it cannot see.; A drive's mark as a plain thing: its bytes, and what bytes say. -/
import Derived.Test.YtcbebefdbdppdaaGreatM10
import Derived.Test.YtcbebefdbdppdaaGreatM11
import Derived.Laws.BitsAllLaws
namespace Go.Proofs.YtcbebefdbdppdaaGreat
open Go.RowKit Go.Maps

theorem below_drew1 {B : Nat} {a w : World} (h : Below B a w) : Below B a w.drew := below_drewN h 1
theorem row_touch {w2 X : World} {base n s : Nat} {e : TypeId} {v : Value} {xs : List Value} {G : Nat → Prop} (h : w2.ownsRow base e s v n xs) (ht : Touch G w2 X) (hG : ∀ k, G k → k < base) : X.ownsRow base e s v n xs :=
  ownsRow_keep h fun k hk => ht.block k (h.lt k hk).2 fun hg => by have := hG k hg; have := (h.lt k hk).1; omega
theorem touch_drew1 {G : Nat → Prop} {a b : World} (h : Touch G a b) : Touch G a b.drew := h.trans (Touch.drewN b 1)
theorem size_drew1 (w : World) : w.drew.heap.size = w.heap.size := rfl
theorem Blk.touch {w w' : World} {g : Nat} {t : TypeId} {cs : Array Value} {F : Nat → Prop} (h : Blk w g t cs) (ht : Touch F w w') (hn : ¬F g) : Blk w' g t cs := (ht.block g h.lt hn).trans h
theorem Blk.cellAt {w : World} {g : Nat} {t : TypeId} {cs : Array Value} (h : Blk w g t cs) {i : Nat} (hi : i < cs.size) : ∃ u, w.cell? ⟨g, i, none⟩ = some u := ⟨cs[i], (h.cell i).trans (Array.getElem?_eq_getElem hi)⟩
theorem ownsRow_base_a {W : World} {base base' : Nat} {e : TypeId} {size : Nat} {v : Value} {k : Nat} {xs : List Value} (h : W.ownsRow base e size v k xs) (hb : base' ≤ base) : W.ownsRow base' e size v k xs := by
  obtain ⟨h1, h2⟩ := h
  refine ⟨h1, ?_⟩
  rcases h2 with h2 | ⟨g, cap, cur, hv, hg, hr⟩
  · exact .inl h2
  · exact .inr ⟨g, cap, cur, hv, Nat.le_trans hb hg, hr⟩
end Go.Proofs.YtcbebefdbdppdaaGreat
namespace Go.Proofs.YtcbebefdbdppdaaGreat

/-- The modulus. -/
def crcM : Nat := 2197175160
/-- One bit's step. -/
def stp (r : Nat) : Nat := (r >>> 1) ^^^ (if r.testBit 0 then crcM else 0)
def stp4 (r : Nat) : Nat := stp (stp (stp (stp r)))
/-- Four steps by the table of halves. -/
def nib (r : Nat) : Nat := (r >>> 4) ^^^ stp4 (r &&& 15)
def upd (r x : Nat) : Nat := nib (nib (r ^^^ x))
def over (r : Nat) (l : List UInt8) : Nat := l.foldl (fun r x => upd r x.toNat) r
def crcSum (l : List UInt8) : Nat := over 4294967295 l ^^^ 4294967295

theorem xor_cancel4 (a b c d : Nat) : (a ^^^ b) ^^^ (c ^^^ d) = (a ^^^ c) ^^^ (b ^^^ d) := by
  simp only [Nat.xor_assoc]; congr 1; rw [← Nat.xor_assoc, Nat.xor_comm b c, Nat.xor_assoc]
theorem stp_zero : stp 0 = 0 := by decide
theorem stp_xor (a b : Nat) : stp (a ^^^ b) = stp a ^^^ stp b := by
  unfold stp
  rw [Nat.shiftRight_xor_distrib, Nat.testBit_xor, xor_cancel4]
  congr 1
  cases a.testBit 0 <;> cases b.testBit 0 <;> simp
theorem stp4_xor (a b : Nat) : stp4 (a ^^^ b) = stp4 a ^^^ stp4 b := by unfold stp4; simp only [stp_xor]
theorem nib_xor (a b : Nat) : nib (a ^^^ b) = nib a ^^^ nib b := by
  unfold nib
  rw [Nat.shiftRight_xor_distrib, Nat.and_xor_distrib_right, stp4_xor, xor_cancel4]
theorem upd_xor (a b x y : Nat) : upd (a ^^^ b) (x ^^^ y) = upd a x ^^^ upd b y := by
  unfold upd
  rw [xor_cancel4, nib_xor, nib_xor]
theorem stp_lt {r : Nat} (h : r < 4294967296) : stp r < 4294967296 := by
  unfold stp
  refine Nat.xor_lt_two_pow (n := 32) ?_ ?_
  · rw [Nat.shiftRight_eq_div_pow]; omega
  · unfold crcM; split <;> decide
theorem stp4_lt {r : Nat} (h : r < 4294967296) : stp4 r < 4294967296 := stp_lt (stp_lt (stp_lt (stp_lt h)))
theorem nib_lt {r : Nat} (h : r < 4294967296) : nib r < 4294967296 := by
  unfold nib
  refine Nat.xor_lt_two_pow (n := 32) ?_ ?_
  · rw [Nat.shiftRight_eq_div_pow]; omega
  · exact stp4_lt (Nat.lt_of_le_of_lt Nat.and_le_right (by decide))
theorem upd_lt {r x : Nat} (h : r < 4294967296) (hx : x < 256) : upd r x < 4294967296 := nib_lt (nib_lt (Nat.xor_lt_two_pow (n := 32) h (by omega)))
theorem over_lt {r : Nat} (h : r < 4294967296) (l : List UInt8) : over r l < 4294967296 := by
  induction l generalizing r with
  | nil => exact h
  | cons x l ih => exact ih (upd_lt h x.toNat_lt)
theorem over_cons (r : Nat) (x : UInt8) (l : List UInt8) : over r (x :: l) = over (upd r x.toNat) l := rfl
theorem over_append (r : Nat) (l m : List UInt8) : over r (l ++ m) = over (over r l) m := by unfold over; rw [List.foldl_append]
theorem over_xor (l m : List UInt8) (h : l.length = m.length) (a b : Nat) : over (a ^^^ b) (List.zipWith (· ^^^ ·) l m) = over a l ^^^ over b m := by
  induction l generalizing m a b with
  | nil => cases m with | nil => rfl | cons _ _ => simp at h
  | cons x l ih =>
    cases m with
    | nil => simp at h
    | cons y m =>
      rw [List.zipWith_cons_cons, over_cons, over_cons, over_cons, UInt8.toNat_xor, upd_xor]
      exact ih m (by simpa using h) _ _
theorem crcSum_lt (l : List UInt8) : crcSum l < 4294967296 := Nat.xor_lt_two_pow (n := 32) (over_lt (by decide) l) (by decide)

theorem shl4_split (r : Nat) : ((r >>> 4) <<< 4) ^^^ (r &&& 15) = r := by
  apply Nat.eq_of_testBit_eq
  intro i
  rw [Nat.testBit_xor, Nat.testBit_shiftLeft, Nat.testBit_shiftRight, Nat.testBit_and, show (15 : Nat) = 2 ^ 4 - 1 from rfl, Nat.testBit_two_pow_sub_one]
  by_cases h : 4 ≤ i
  · have : ¬ i < 4 := by omega
    simp [h, this]
  · have : i < 4 := by omega
    simp [h, this]
theorem stp_shl (r : Nat) : stp (r <<< 1) = r := by
  unfold stp
  rw [Nat.testBit_shiftLeft]
  simp
theorem nib_eq (r : Nat) : nib r = stp4 r := by
  conv => rhs; rw [← shl4_split r, stp4_xor]
  unfold nib
  congr 1
  unfold stp4
  have h : (r >>> 4) <<< 4 = ((((r >>> 4) <<< 1) <<< 1) <<< 1) <<< 1 := by simp only [← Nat.shiftLeft_add]
  rw [h, stp_shl, stp_shl, stp_shl, stp_shl]
/-- A register that steps to nought was nought. -/
theorem stp_eq_zero {r : Nat} (hr : r < 4294967296) (h : stp r = 0) : r = 0 := by
  unfold stp at h
  have h1 : r >>> 1 = if r.testBit 0 then crcM else 0 := by
    have := congrArg (· ^^^ (if r.testBit 0 then crcM else 0)) h
    simpa [Nat.xor_assoc] using this
  rw [Nat.shiftRight_eq_div_pow] at h1
  cases hb : r.testBit 0 with
  | true => rw [hb] at h1; simp only [if_true, crcM] at h1; omega
  | false =>
    rw [hb] at h1
    have h2 : r % 2 = 0 := by
      rw [Nat.testBit_zero] at hb
      simpa using hb
    simp at h1
    omega
theorem nib_eq_zero {r : Nat} (hr : r < 4294967296) (h : nib r = 0) : r = 0 := by
  rw [nib_eq] at h
  exact stp_eq_zero hr (stp_eq_zero (stp_lt hr) (stp_eq_zero (stp_lt (stp_lt hr)) (stp_eq_zero (stp_lt (stp_lt (stp_lt hr))) h)))
theorem upd_zero_eq_zero {r : Nat} (hr : r < 4294967296) (h : upd r 0 = 0) : r = 0 := by
  unfold upd at h
  rw [Nat.xor_zero] at h
  exact nib_eq_zero hr (nib_eq_zero (nib_lt hr) h)
theorem upd_zero (a x : Nat) : upd a x = upd (a ^^^ x) 0 := by unfold upd; rw [Nat.xor_zero]
theorem upd_shl (r : Nat) : upd (r <<< 8) 0 = r := by
  unfold upd
  rw [Nat.xor_zero, nib_eq, nib_eq]
  unfold stp4
  have h : r <<< 8 = (((((((r <<< 1) <<< 1) <<< 1) <<< 1) <<< 1) <<< 1) <<< 1) <<< 1 := by simp only [← Nat.shiftLeft_add]
  rw [h]; simp only [stp_shl]
def zeros4 (r : Nat) : Nat := upd (upd (upd (upd r 0) 0) 0) 0
theorem zeros4_xor (a b : Nat) : zeros4 (a ^^^ b) = zeros4 a ^^^ zeros4 b := by
  unfold zeros4
  have h : ∀ a b, upd (a ^^^ b) 0 = upd a 0 ^^^ upd b 0 := fun a b => by have := upd_xor a b 0 0; rwa [Nat.xor_zero] at this
  simp only [h]
theorem zeros4_eq_zero {r : Nat} (hr : r < 4294967296) (h : zeros4 r = 0) : r = 0 := by
  unfold zeros4 at h
  have l : ∀ {r}, r < 4294967296 → upd r 0 < 4294967296 := fun h => upd_lt h (by decide)
  exact upd_zero_eq_zero hr (upd_zero_eq_zero (l hr) (upd_zero_eq_zero (l (l hr)) (upd_zero_eq_zero (l (l (l hr))) h)))
/-- Four bytes behind a register: as if they were put onto it. -/
theorem over_four (r q : Nat) (a b c d : UInt8) (h : q = a.toNat ^^^ (b.toNat ^^^ (c.toNat ^^^ d.toNat <<< 8) <<< 8) <<< 8) : over r [a, b, c, d] = zeros4 (r ^^^ q) := by
  have u : ∀ a b, upd (a ^^^ b) 0 = upd a 0 ^^^ upd b 0 := fun a b => by have := upd_xor a b 0 0; rwa [Nat.xor_zero] at this
  show upd (upd (upd (upd r a.toNat) b.toNat) c.toNat) d.toNat = _
  unfold zeros4
  rw [upd_zero r, h, ← Nat.xor_assoc, u (r ^^^ a.toNat), upd_shl, upd_zero (upd (r ^^^ a.toNat) 0), ← Nat.xor_assoc, u (upd (r ^^^ a.toNat) 0 ^^^ b.toNat), upd_shl, upd_zero (upd (upd (r ^^^ a.toNat) 0 ^^^ b.toNat) 0), ← Nat.xor_assoc, u (upd (upd (r ^^^ a.toNat) 0 ^^^ b.toNat) 0 ^^^ c.toNat), upd_shl, upd_zero (upd (upd (upd (r ^^^ a.toNat) 0 ^^^ b.toNat) 0 ^^^ c.toNat) 0)]
/-- The four bytes behind a list are its sum, or the register tells. -/
theorem sum_iff (l : List UInt8) (q : Nat) (hq : q < 4294967296) (a b c d : UInt8) (h : q = a.toNat ^^^ (b.toNat ^^^ (c.toNat ^^^ d.toNat <<< 8) <<< 8) <<< 8) : q = crcSum l ↔ over 4294967295 (l ++ [a, b, c, d]) = zeros4 4294967295 := by
  rw [over_append, over_four _ q a b c d h]
  have hl := over_lt (show 4294967295 < 4294967296 by decide) l
  unfold crcSum
  generalize over 4294967295 l = R at *
  constructor
  · rintro rfl
    rw [← Nat.xor_assoc, Nat.xor_self, Nat.zero_xor]
  · intro e
    have e2 : zeros4 ((R ^^^ q) ^^^ 4294967295) = 0 := by rw [zeros4_xor, e, Nat.xor_self]
    have e3 := zeros4_eq_zero (Nat.xor_lt_two_pow (n := 32) (Nat.xor_lt_two_pow (n := 32) hl hq) (by decide)) e2
    have e4 : R ^^^ q = 4294967295 := by
      have := congrArg (· ^^^ 4294967295) e3
      simpa [Nat.xor_assoc] using this
    have e5 := congrArg (R ^^^ ·) e4
    simpa [← Nat.xor_assoc] using e5
end Go.Proofs.YtcbebefdbdppdaaGreat
namespace Go.Proofs.YtcbebefdbdppdaaGreat

/-- A label: the store's bytes, the shape (K, M, block), the place, the epoch. -/
structure Lab where
  st : List UInt8
  k : Int
  m : Int
  b : Int
  i : Int
  e : Int
/-- The error of a label: 4 the shape, 2 the place or the epoch, 0 none. -/
def Lab.may (l : Lab) : Int := if l.m < 1 ∨ l.k < l.m ∨ 255 - l.m < l.k ∨ l.b < 1 ∨ 65536 < l.b then 4 else if l.i < 0 ∨ l.k + l.m ≤ l.i ∨ l.e < 0 ∨ 4294967295 < l.e then 2 else 0
/-- So many bytes of a number, the lowest first. -/
def leN (n : Nat) : Nat → List UInt8
  | 0 => []
  | k + 1 => UInt8.ofNat n :: leN (n / 256) k
/-- The number of such bytes. -/
def unle : List UInt8 → Nat
  | [] => 0
  | x :: l => x.toNat + 256 * unle l
def labMagic : List UInt8 := [67, 82, 78, 1]
def Lab.head (l : Lab) : List UInt8 := labMagic ++ l.st ++ [UInt8.ofNat l.k.toNat, UInt8.ofNat l.m.toNat] ++ leN l.b.toNat 4 ++ [UInt8.ofNat l.i.toNat] ++ leN l.e.toNat 8
def Lab.bytes (l : Lab) : List UInt8 := l.head ++ leN (crcSum l.head) 4
def Lab.of (b : List UInt8) : Lab := ⟨(b.drop 4).take 8, ((b.getD 12 0).toNat : Int), ((b.getD 13 0).toNat : Int), (unle ((b.drop 14).take 4) : Int), ((b.getD 18 0).toNat : Int), (unle ((b.drop 19).take 8) : Int)⟩
def Lab.zero : Lab := ⟨List.replicate 8 0, 0, 0, 0, 0, 0⟩
def Lab.reads (b : List UInt8) : Prop := b.length = 31 ∧ b.take 4 = labMagic ∧ unle (b.drop 27) = crcSum (b.take 27) ∧ (Lab.of b).may = 0
instance (b : List UInt8) : Decidable (Lab.reads b) := by unfold Lab.reads; infer_instance
def Lab.parse (b : List UInt8) : Lab × Int := if Lab.reads b then (Lab.of b, 0) else (Lab.zero, 150)

theorem leN_length (n k : Nat) : (leN n k).length = k := by
  induction k generalizing n with
  | zero => rfl
  | succ k ih => show (leN (n / 256) k).length + 1 = _; rw [ih]
theorem unle_leN (n k : Nat) : unle (leN n k) = n % 256 ^ k := by
  induction k generalizing n with
  | zero => simp [leN, unle, Nat.mod_one]
  | succ k ih =>
    show (UInt8.ofNat n).toNat + 256 * unle (leN (n / 256) k) = _
    rw [ih, Nat.pow_succ, Nat.mul_comm (256 ^ k) 256, Nat.mod_mul, UInt8.toNat_ofNat']
theorem leN_unle (l : List UInt8) : leN (unle l) l.length = l := by
  induction l with
  | nil => rfl
  | cons x l ih =>
    show UInt8.ofNat (x.toNat + 256 * unle l) :: leN ((x.toNat + 256 * unle l) / 256) l.length = _
    have hx := x.toNat_lt
    rw [show (x.toNat + 256 * unle l) / 256 = unle l by omega, ih]
    congr 1
    apply UInt8.toNat_inj.1
    rw [UInt8.toNat_ofNat']
    omega
theorem unle_lt (l : List UInt8) : unle l < 256 ^ l.length := by
  induction l with
  | nil => decide
  | cons x l ih =>
    have hx := x.toNat_lt
    show x.toNat + 256 * unle l < 256 ^ (l.length + 1)
    rw [Nat.pow_succ]
    omega
theorem Lab.head_length (l : Lab) (h : l.st.length = 8) : l.head.length = 27 := by
  unfold Lab.head labMagic
  simp [leN_length, h]
theorem Lab.bytes_length (l : Lab) (h : l.st.length = 8) : l.bytes.length = 31 := by
  unfold Lab.bytes
  rw [List.length_append, leN_length, l.head_length h]
theorem may_fits {l : Lab} (h : l.may = 0) : 1 ≤ l.m ∧ l.m ≤ l.k ∧ l.k + l.m ≤ 255 ∧ 1 ≤ l.b ∧ l.b ≤ 65536 ∧ 0 ≤ l.i ∧ l.i < l.k + l.m ∧ 0 ≤ l.e ∧ l.e ≤ 4294967295 := by
  unfold Lab.may at h
  split at h
  · cases h
  · split at h
    · cases h
    · omega
theorem may_of {l : Lab} (h : 1 ≤ l.m ∧ l.m ≤ l.k ∧ l.k + l.m ≤ 255 ∧ 1 ≤ l.b ∧ l.b ≤ 65536 ∧ 0 ≤ l.i ∧ l.i < l.k + l.m ∧ 0 ≤ l.e ∧ l.e ≤ 4294967295) : l.may = 0 := by
  unfold Lab.may
  rw [if_neg (by omega), if_neg (by omega)]
theorem lab_eight {s : List UInt8} (h : s.length = 8) : ∃ a b c d e f g i, s = [a, b, c, d, e, f, g, i] := by
  match s, h with
  | [a, b, c, d, e, f, g, i], _ => exact ⟨a, b, c, d, e, f, g, i, rfl⟩
theorem u8_back {n : Int} (h0 : 0 ≤ n) (h1 : n ≤ 255) : ((UInt8.ofNat n.toNat).toNat : Int) = n := by
  rw [UInt8.toNat_ofNat']; omega
theorem leN_four (n : Nat) : leN n 4 = [UInt8.ofNat n, UInt8.ofNat (n / 256), UInt8.ofNat (n / 256 / 256), UInt8.ofNat (n / 256 / 256 / 256)] := rfl
theorem leN_eight (n : Nat) : leN n 8 = [UInt8.ofNat n, UInt8.ofNat (n / 256), UInt8.ofNat (n / 256 / 256), UInt8.ofNat (n / 256 / 256 / 256), UInt8.ofNat (n / 256 / 256 / 256 / 256), UInt8.ofNat (n / 256 / 256 / 256 / 256 / 256), UInt8.ofNat (n / 256 / 256 / 256 / 256 / 256 / 256), UInt8.ofNat (n / 256 / 256 / 256 / 256 / 256 / 256 / 256)] := rfl
/-- The bytes of a label, in their parts. -/
theorem Lab.head_cut (l : Lab) (h : l.st.length = 8) (t : List UInt8) : ((l.head ++ t).drop 4).take 8 = l.st ∧ (l.head ++ t).getD 12 0 = UInt8.ofNat l.k.toNat ∧ (l.head ++ t).getD 13 0 = UInt8.ofNat l.m.toNat ∧ ((l.head ++ t).drop 14).take 4 = leN l.b.toNat 4 ∧ (l.head ++ t).getD 18 0 = UInt8.ofNat l.i.toNat ∧ ((l.head ++ t).drop 19).take 8 = leN l.e.toNat 8 ∧ (l.head ++ t).take 4 = labMagic ∧ (l.head ++ t).take 27 = l.head ∧ (l.head ++ t).drop 27 = t := by
  obtain ⟨st, k, m, b, i, e⟩ := l
  obtain ⟨a0, a1, a2, a3, a4, a5, a6, a7, rfl⟩ := lab_eight h
  unfold Lab.head labMagic
  rw [leN_four, leN_eight]
  exact ⟨rfl, rfl, rfl, rfl, rfl, rfl, rfl, rfl, rfl⟩
theorem Lab.of_bytes (l : Lab) (h : l.st.length = 8) (hm : l.may = 0) (t : List UInt8) : Lab.of (l.head ++ t) = l := by
  have hf := may_fits hm
  obtain ⟨c1, c2, c3, c4, c5, c6, _⟩ := l.head_cut h t
  unfold Lab.of
  rw [c1, c2, c3, c4, c5, c6, unle_leN, unle_leN, u8_back (by omega) (by omega), u8_back (by omega) (by omega), u8_back (by omega) (by omega), Nat.mod_eq_of_lt (by omega), Nat.mod_eq_of_lt (by omega), Int.toNat_of_nonneg (by omega), Int.toNat_of_nonneg (by omega)]
/-- There and back. -/
theorem Lab.parse_bytes (l : Lab) (h : l.st.length = 8) (hm : l.may = 0) : Lab.parse l.bytes = (l, 0) := by
  have hr : Lab.reads l.bytes := by
    obtain ⟨_, _, _, _, _, _, c7, c8, c9⟩ := l.head_cut h (leN (crcSum l.head) 4)
    refine ⟨l.bytes_length h, c7, ?_, ?_⟩
    · show unle ((l.head ++ leN (crcSum l.head) 4).drop 27) = crcSum ((l.head ++ leN (crcSum l.head) 4).take 27)
      rw [c8, c9, unle_leN]
      exact Nat.mod_eq_of_lt (crcSum_lt _)
    · show (Lab.of (l.head ++ _)).may = 0
      rw [l.of_bytes h hm]; exact hm
  unfold Lab.parse
  rw [if_pos hr]
  congr 1
  exact l.of_bytes h hm _
theorem lab_bytes31 {b : List UInt8} (h : b.length = 31) : b = b.take 4 ++ (b.drop 4).take 8 ++ [b.getD 12 0, b.getD 13 0] ++ (b.drop 14).take 4 ++ [b.getD 18 0] ++ (b.drop 19).take 8 ++ b.drop 27 := by
  apply List.ext_getElem?
  intro n
  have e : ∀ i, i < 31 → ∃ x, b[i]? = some x := fun i hi => ⟨b[i], List.getElem?_eq_getElem (by omega)⟩
  match b, h with
  | [b0, b1, b2, b3, b4, b5, b6, b7, b8, b9, b10, b11, b12, b13, b14, b15, b16, b17, b18, b19, b20, b21, b22, b23, b24, b25, b26, b27, b28, b29, b30], _ => rfl
theorem ofNat_getD (x : UInt8) : UInt8.ofNat ((x.toNat : Int)).toNat = x := by
  rw [Int.toNat_natCast, UInt8.ofNat_toNat]
/-- Back and there. -/
theorem Lab.bytes_of {b : List UInt8} (h : Lab.reads b) : (Lab.of b).bytes = b ∧ (Lab.of b).may = 0 ∧ (Lab.of b).st.length = 8 := by
  obtain ⟨h1, h2, h3, h4⟩ := h
  refine ⟨?_, h4, by show ((b.drop 4).take 8).length = 8; simp; omega⟩
  have hh : (Lab.of b).head = b.take 27 := by
    have e1 : leN (unle ((b.drop 14).take 4)) 4 = (b.drop 14).take 4 := by have := leN_unle ((b.drop 14).take 4); rwa [show ((b.drop 14).take 4).length = 4 by simp; omega] at this
    have e2 : leN (unle ((b.drop 19).take 8)) 8 = (b.drop 19).take 8 := by have := leN_unle ((b.drop 19).take 8); rwa [show ((b.drop 19).take 8).length = 8 by simp; omega] at this
    have e3 : (Lab.of b).head = b.take 4 ++ (b.drop 4).take 8 ++ [b.getD 12 0, b.getD 13 0] ++ (b.drop 14).take 4 ++ [b.getD 18 0] ++ (b.drop 19).take 8 := by
      unfold Lab.head Lab.of
      simp only
      rw [Int.toNat_natCast, Int.toNat_natCast, Int.toNat_natCast, Int.toNat_natCast, Int.toNat_natCast, UInt8.ofNat_toNat, UInt8.ofNat_toNat, UInt8.ofNat_toNat, e1, e2, h2]
    rw [e3]
    have e4 := lab_bytes31 h1
    have e5 : (b.take 4 ++ (b.drop 4).take 8 ++ [b.getD 12 0, b.getD 13 0] ++ (b.drop 14).take 4 ++ [b.getD 18 0] ++ (b.drop 19).take 8).length = 27 := by
      simp; omega
    have key : ∀ (p q : List UInt8), p.length = 27 → (p ++ q).take 27 = p := fun p q hp => by
      rw [List.take_append_of_le_length (by omega), List.take_of_length_le (by omega)]
    have e6 := congrArg (List.take 27) e4
    rw [key _ _ e5] at e6
    exact e6.symm
  unfold Lab.bytes
  rw [hh, ← h3]
  have e1 := leN_unle (b.drop 27)
  rw [show (b.drop 27).length = 4 by simp; omega] at e1
  rw [e1, List.take_append_drop]
theorem Lab.parse_ok {b : List UInt8} (h : (Lab.parse b).2 = 0) : Lab.reads b := by
  unfold Lab.parse at h
  split at h
  · assumption
  · cases h
theorem Lab.parse_bad {b : List UInt8} (h : ¬Lab.reads b) : Lab.parse b = (Lab.zero, 150) := if_neg h
end Go.Proofs.YtcbebefdbdppdaaGreat

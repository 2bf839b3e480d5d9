/- Helpers for memory, out of this proof's other texts.; The sum of layer 6 as a plain function of bytes: it is linear, and what it cannot see.; A drive's mark as a plain thing: its bytes, and what bytes say. -/
import Derived.Test.YtcbebefdbdppdaaGreatM10
import Derived.Test.YtcbebefdbdppdaaGreatM11
import Derived.Laws.BitsAllLaws
namespace Go.Proofs.YtcbebefdbdppdaaGreat
open Go.RowKit Go.Maps
theorem below_drew1 {B : Nat} {a w : World} (h : Below B a w) : Below B a w.drew := below_drewN h 1
theorem row_touch {w2 X : World} {base n s : Nat} {e : TypeId} {v : Value} {xs : List Value} {G : Nat → Prop} (h : w2.ownsRow base e s v n xs) (ht : Touch G w2 X) (hG : ∀ k, G k → k < base) : X.ownsRow base e s v n xs :=
  ownsRow_keep h fun k hk => ht.block k (h.lt k hk).2 fun hg => by have := hG k hg; have := (h.lt k hk).1; omega
theorem Blk.touch {w w' : World} {g : Nat} {t : TypeId} {cs : Array Value} {F : Nat → Prop} (h : Blk w g t cs) (ht : Touch F w w') (hn : ¬F g) : Blk w' g t cs := (ht.block g h.lt hn).trans h
theorem Blk.cellAt {w : World} {g : Nat} {t : TypeId} {cs : Array Value} (h : Blk w g t cs) {i : Nat} (hi : i < cs.size) : ∃ u, w.cell? ⟨g, i, none⟩ = some u := ⟨cs[i], (h.cell i).trans (Array.getElem?_eq_getElem hi)⟩
theorem ownsRow_base_a {W : World} {base base' : Nat} {e : TypeId} {size : Nat} {v : Value} {k : Nat} {xs : List Value} (h : W.ownsRow base e size v k xs) (hb : base' ≤ base) : W.ownsRow base' e size v k xs := by
  obtain ⟨h1, h2⟩ := h
  refine ⟨h1, ?_⟩
  rcases h2 with h2 | ⟨g, cap, cur, hv, hg, hr⟩
  · exact .inl h2
  · exact .inr ⟨g, cap, cur, hv, Nat.le_trans hb hg, hr⟩
end Go.Proofs.YtcbebefdbdppdaaGreat
namespace Go.Proofs.YtcbebefdbdppdaaGreat
def crcM : Nat := 2197175160
def stp (r : Nat) : Nat := (r >>> 1) ^^^ (if r.testBit 0 then crcM else 0)
def stp4 (r : Nat) : Nat := stp (stp (stp (stp r)))
def nib (r : Nat) : Nat := (r >>> 4) ^^^ stp4 (r &&& 15)
def upd (r x : Nat) : Nat := nib (nib (r ^^^ x))
def over (r : Nat) (l : List UInt8) : Nat := l.foldl (fun r x => upd r x.toNat) r
def crcSum (l : List UInt8) : Nat := over 4294967295 l ^^^ 4294967295
theorem stp_lt {r : Nat} (h : r < 4294967296) : stp r < 4294967296 := by
  unfold stp
  refine Nat.xor_lt_two_pow (n := 32) ?_ ?_
  · rw [Nat.shiftRight_eq_div_pow]; omega
  · unfold crcM; split <;> decide
theorem stp4_lt {r : Nat} (h : r < 4294967296) : stp4 r < 4294967296 := stp_lt (stp_lt (stp_lt (stp_lt h)))
theorem nib_lt {r : Nat} (h : r < 4294967296) : nib r < 4294967296 := by
  unfold nib
  refine Nat.xor_lt_two_pow (n := 32) ?_ ?_
  · rw [Nat.shiftRight_eq_div_pow]; omega
  · exact stp4_lt (Nat.lt_of_le_of_lt Nat.and_le_right (by decide))
theorem upd_lt {r x : Nat} (h : r < 4294967296) (hx : x < 256) : upd r x < 4294967296 := nib_lt (nib_lt (Nat.xor_lt_two_pow (n := 32) h (by omega)))
theorem over_lt {r : Nat} (h : r < 4294967296) (l : List UInt8) : over r l < 4294967296 := by
  induction l generalizing r with
  | nil => exact h
  | cons x l ih => exact ih (upd_lt h x.toNat_lt)
theorem over_append (r : Nat) (l m : List UInt8) : over r (l ++ m) = over (over r l) m := by unfold over; rw [List.foldl_append]
theorem crcSum_lt (l : List UInt8) : crcSum l < 4294967296 := Nat.xor_lt_two_pow (n := 32) (over_lt (by decide) l) (by decide)
def zeros4 (r : Nat) : Nat := upd (upd (upd (upd r 0) 0) 0) 0
end Go.Proofs.YtcbebefdbdppdaaGreat
namespace Go.Proofs.YtcbebefdbdppdaaGreat
structure Lab where
  st : List UInt8
  k : Int
  m : Int
  b : Int
  i : Int
  e : Int
def Lab.may (l : Lab) : Int := if l.m < 1 ∨ l.k < l.m ∨ 255 - l.m < l.k ∨ l.b < 1 ∨ 65536 < l.b then 4 else if l.i < 0 ∨ l.k + l.m ≤ l.i ∨ l.e < 0 ∨ 4294967295 < l.e then 2 else 0
def leN (n : Nat) : Nat → List UInt8
  | 0 => []
  | k + 1 => UInt8.ofNat n :: leN (n / 256) k
def unle : List UInt8 → Nat
  | [] => 0
  | x :: l => x.toNat + 256 * unle l
def labMagic : List UInt8 := [67, 82, 78, 1]
def Lab.head (l : Lab) : List UInt8 := labMagic ++ l.st ++ [UInt8.ofNat l.k.toNat, UInt8.ofNat l.m.toNat] ++ leN l.b.toNat 4 ++ [UInt8.ofNat l.i.toNat] ++ leN l.e.toNat 8
def Lab.bytes (l : Lab) : List UInt8 := l.head ++ leN (crcSum l.head) 4
def Lab.of (b : List UInt8) : Lab := ⟨(b.drop 4).take 8, ((b.getD 12 0).toNat : Int), ((b.getD 13 0).toNat : Int), (unle ((b.drop 14).take 4) : Int), ((b.getD 18 0).toNat : Int), (unle ((b.drop 19).take 8) : Int)⟩
def Lab.zero : Lab := ⟨List.replicate 8 0, 0, 0, 0, 0, 0⟩
def Lab.reads (b : List UInt8) : Prop := b.length = 31 ∧ b.take 4 = labMagic ∧ unle (b.drop 27) = crcSum (b.take 27) ∧ (Lab.of b).may = 0
instance (b : List UInt8) : Decidable (Lab.reads b) := by unfold Lab.reads; infer_instance
def Lab.parse (b : List UInt8) : Lab × Int := if Lab.reads b then (Lab.of b, 0) else (Lab.zero, 150)
theorem leN_length (n k : Nat) : (leN n k).length = k := by
  induction k generalizing n with
  | zero => rfl
  | succ k ih => show (leN (n / 256) k).length + 1 = _; rw [ih]
theorem unle_leN (n k : Nat) : unle (leN n k) = n % 256 ^ k := by
  induction k generalizing n with
  | zero => simp [leN, unle, Nat.mod_one]
  | succ k ih =>
    show (UInt8.ofNat n).toNat + 256 * unle (leN (n / 256) k) = _
    rw [ih, Nat.pow_succ, Nat.mul_comm (256 ^ k) 256, Nat.mod_mul, UInt8.toNat_ofNat']
theorem leN_unle (l : List UInt8) : leN (unle l) l.length = l := by
  induction l with
  | nil => rfl
  | cons x l ih =>
    show UInt8.ofNat (x.toNat + 256 * unle l) :: leN ((x.toNat + 256 * unle l) / 256) l.length = _
    have hx := x.toNat_lt
    rw [show (x.toNat + 256 * unle l) / 256 = unle l by omega, ih]
    congr 1
    apply UInt8.toNat_inj.1
    rw [UInt8.toNat_ofNat']
    omega
theorem unle_lt (l : List UInt8) : unle l < 256 ^ l.length := by
  induction l with
  | nil => decide
  | cons x l ih =>
    have hx := x.toNat_lt
    show x.toNat + 256 * unle l < 256 ^ (l.length + 1)
    rw [Nat.pow_succ]
    omega
theorem Lab.head_length (l : Lab) (h : l.st.length = 8) : l.head.length = 27 := by
  unfold Lab.head labMagic
  simp [leN_length, h]
theorem may_of {l : Lab} (h : 1 ≤ l.m ∧ l.m ≤ l.k ∧ l.k + l.m ≤ 255 ∧ 1 ≤ l.b ∧ l.b ≤ 65536 ∧ 0 ≤ l.i ∧ l.i < l.k + l.m ∧ 0 ≤ l.e ∧ l.e ≤ 4294967295) : l.may = 0 := by
  unfold Lab.may
  rw [if_neg (by omega), if_neg (by omega)]
theorem lab_eight {s : List UInt8} (h : s.length = 8) : ∃ a b c d e f g i, s = [a, b, c, d, e, f, g, i] := by
  match s, h with
  | [a, b, c, d, e, f, g, i], _ => exact ⟨a, b, c, d, e, f, g, i, rfl⟩
theorem u8_back {n : Int} (h0 : 0 ≤ n) (h1 : n ≤ 255) : ((UInt8.ofNat n.toNat).toNat : Int) = n := by
  rw [UInt8.toNat_ofNat']; omega
theorem leN_four (n : Nat) : leN n 4 = [UInt8.ofNat n, UInt8.ofNat (n / 256), UInt8.ofNat (n / 256 / 256), UInt8.ofNat (n / 256 / 256 / 256)] := rfl
theorem ofNat_getD (x : UInt8) : UInt8.ofNat ((x.toNat : Int)).toNat = x := by
  rw [Int.toNat_natCast, UInt8.ofNat_toNat]
end Go.Proofs.YtcbebefdbdppdaaGreat

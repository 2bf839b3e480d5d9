/- Long division bit by bit, and the register of layer 6: the same rest.; The document's sum of layer 6: its bits and its terms.; The document's bits of bytes, in order. -/
import Derived.Test.YtdiaihpilniikaaGreatM12
import Derived.Test.YtdiaihpilniikaaGreatM15
import Derived.Laws.BitsAllLaws
import Derived.Laws.Shifts
import Derived.IntWalk
import Derived.Test.YtdiaihpilniikaaGreatM14
namespace Go.Proofs.YtdiaihpilniikaaGreat

/-- The 33 terms' places behind a bit that stands: of cairnref06. -/
def crcTerms : List Nat := [0, 4, 5, 6, 7, 9, 10, 12, 13, 14, 18, 19, 21, 22, 23, 24, 26, 32]
/-- One step of the division, on bits by their places. -/
def divStep (i : Nat) (f : Nat → Bool) : Nat → Bool := fun j => if f i then (f j != (decide (i ≤ j) && crcTerms.contains (j - i))) else f j
def bitN (b : Bool) : Nat := if b then 1 else 0
/-- The register, bit by bit. -/
def serial (m : Nat → Bool) (r : Nat) : Nat → Nat
  | 0 => r
  | i + 1 => stp (serial m r i ^^^ bitN (m i))
def divUpto (f : Nat → Bool) : Nat → Nat → Bool
  | 0 => f
  | i + 1 => divStep i (divUpto f i)
theorem bitN_testBit (b : Bool) (j : Nat) : (bitN b).testBit j = (b && decide (j = 0)) := by
  cases b with
  | false => simp [bitN]
  | true =>
    rcases Nat.eq_zero_or_pos j with rfl | h
    · rfl
    · have e : (bitN true) = 2 ^ 1 - 1 := rfl
      rw [e, Nat.testBit_two_pow_sub_one]
      have : ¬ j < 1 := by omega
      have h2 : ¬ j = 0 := by omega
      simp [this, h2]
theorem crcM_bits (j : Nat) : crcM.testBit j = crcTerms.contains (j + 1) := by
  by_cases h : j < 32
  · have : ∀ j, j < 32 → crcM.testBit j = crcTerms.contains (j + 1) := by decide
    exact this j h
  · have h1 : crcM.testBit j = false := Nat.testBit_lt_two_pow (Nat.lt_of_lt_of_le (show crcM < 2 ^ 32 by decide) (Nat.pow_le_pow_right (by decide) (by omega)))
    rw [h1]
    symm
    simp [crcTerms]
    omega
theorem stp_testBit (r j : Nat) : (stp r).testBit j = (r.testBit (j + 1) != (r.testBit 0 && crcTerms.contains (j + 1))) := by
  unfold stp
  rw [Nat.testBit_xor, Nat.testBit_shiftRight, Nat.add_comm 1 j]
  cases h : r.testBit 0 with
  | true => simp only [if_true, crcM_bits, Bool.true_and]
  | false => simp
/-- How the bits stand when i of them are gone over. -/
theorem divUpto_eq (m : Nat → Bool) (r : Nat) (f : Nat → Bool) (hf : ∀ j, f j = (r.testBit j != m j)) (i j : Nat) : divUpto f i (i + j) = ((serial m r i).testBit j != m (i + j)) := by
  induction i generalizing j with
  | zero => rw [Nat.zero_add]; exact hf j
  | succ i ih =>
    show divStep i (divUpto f i) (i + 1 + j) = ((stp (serial m r i ^^^ bitN (m i))).testBit j != m (i + 1 + j))
    have h0 := ih 0
    rw [Nat.add_zero] at h0
    have h1 := ih (j + 1)
    rw [show i + (j + 1) = i + 1 + j by omega] at h1
    unfold divStep
    rw [h0, h1, stp_testBit, Nat.testBit_xor, Nat.testBit_xor, bitN_testBit, bitN_testBit, show i + 1 + j - i = j + 1 by omega]
    have e1 : decide (j + 1 = 0) = false := by simp
    have e2 : decide (i ≤ i + 1 + j) = true := by simp; omega
    rw [e1, e2]
    cases (serial m r i).testBit 0 <;> cases m i <;> cases (serial m r i).testBit (j + 1) <;> cases m (i + 1 + j) <;> cases crcTerms.contains (j + 1) <;> rfl

/-- A byte's bits, one by one, are its eight steps at once. -/
def byteBit (x k : Nat) : Bool := x.testBit k
theorem half_split (x : Nat) : x = bitN (x.testBit 0) ^^^ ((x >>> 1) <<< 1) := by
  apply Nat.eq_of_testBit_eq
  intro i
  rw [Nat.testBit_xor, bitN_testBit, Nat.testBit_shiftLeft, Nat.testBit_shiftRight]
  rcases Nat.eq_zero_or_pos i with rfl | h
  · simp
  · have e1 : decide (i = 0) = false := by simp; omega
    have e2 : decide (1 ≤ i) = true := by simp; omega
    rw [e1, e2, show 1 + (i - 1) = i by omega]
    cases x.testBit 0 <;> simp
theorem stp_take (r x : Nat) : stp (r ^^^ x) = stp (r ^^^ bitN (x.testBit 0)) ^^^ (x >>> 1) := by
  conv => lhs; rw [half_split x, ← Nat.xor_assoc, stp_xor, stp_shl]
def steps : Nat → Nat → Nat
  | 0, r => r
  | k + 1, r => steps k (stp r)
theorem steps_serial (k r x : Nat) (m : Nat → Bool) (hm : ∀ j, m j = x.testBit j) (hx : x < 2 ^ k) : steps k (r ^^^ x) = serial m r k := by
  have key : ∀ i, i ≤ k → steps k (r ^^^ x) = steps (k - i) (serial m r i ^^^ (x >>> i)) := by
    intro i
    induction i with
    | zero => intro _; simp [serial]
    | succ i ih =>
      intro hi
      rw [ih (by omega), show k - i = (k - (i + 1)) + 1 by omega]
      show steps _ (stp _) = _
      rw [stp_take]
      show _ = steps _ (stp (serial m r i ^^^ bitN (m i)) ^^^ x >>> (i + 1))
      rw [Nat.testBit_shiftRight, show i + 0 = i from rfl, ← hm i, ← Nat.shiftRight_add]
  rw [key k (Nat.le_refl _), Nat.sub_self]
  show serial m r k ^^^ (x >>> k) = _
  rw [Nat.shiftRight_eq_div_pow, Nat.div_eq_of_lt hx, Nat.xor_zero]
theorem upd_serial (r x : Nat) (hx : x < 256) (m : Nat → Bool) (hm : ∀ j, m j = x.testBit j) : upd r x = serial m r 8 := by
  rw [← steps_serial 8 r x m hm (by omega)]
  unfold upd
  rw [nib_eq, nib_eq]
  rfl
theorem serial_add (m : Nat → Bool) (r a b : Nat) : serial m r (a + b) = serial (fun j => m (a + j)) (serial m r a) b := by
  induction b with
  | zero => rfl
  | succ b ih => show stp (serial m r (a + b) ^^^ bitN (m (a + b))) = _; rw [ih]; rfl
theorem serial_congr {m m' : Nat → Bool} {r k : Nat} (h : ∀ j, j < k → m j = m' j) : serial m r k = serial m' r k := by
  induction k with
  | zero => rfl
  | succ k ih => show stp (serial m r k ^^^ bitN (m k)) = stp (serial m' r k ^^^ bitN (m' k)); rw [ih fun j hj => h j (by omega), h k (by omega)]
/-- The bits of some bytes, in order; none behind them. -/
def msgBit (l : List UInt8) (j : Nat) : Bool := match l[j / 8]? with | some x => x.toNat.testBit (j % 8) | none => false
theorem over_serial (r : Nat) (l : List UInt8) : over r l = serial (msgBit l) r (8 * l.length) := by
  induction l generalizing r with
  | nil => rfl
  | cons x l ih =>
    rw [over_cons, ih, List.length_cons, show 8 * (l.length + 1) = 8 + 8 * l.length by omega, serial_add, upd_serial r x.toNat x.toNat_lt (fun j => x.toNat.testBit j) fun _ => rfl]
    have e1 : serial (fun j => x.toNat.testBit j) r 8 = serial (msgBit (x :: l)) r 8 := serial_congr fun j hj => by
      unfold msgBit
      rw [Nat.div_eq_of_lt hj, Nat.mod_eq_of_lt hj]
      rfl
    rw [e1]
    refine serial_congr fun j _ => ?_
    unfold msgBit
    rw [show (8 + j) / 8 = j / 8 + 1 by omega, show (8 + j) % 8 = j % 8 by omega, List.getElem?_cons_succ]
/-- What the division leaves: the register behind all bytes. -/
theorem div_rest (r : Nat) (l : List UInt8) (f : Nat → Bool) (hf : ∀ j, f j = (r.testBit j != msgBit l j)) (j : Nat) : divUpto f (8 * l.length) (8 * l.length + j) = (over r l).testBit j := by
  rw [divUpto_eq (msgBit l) r f hf, over_serial]
  have : msgBit l (8 * l.length + j) = false := by
    unfold msgBit
    rw [List.getElem?_eq_none (by omega)]
  rw [this]; simp
end Go.Proofs.YtdiaihpilniikaaGreat
namespace Go.Proofs.YtdiaihpilniikaaGreat
open Go.RowKit Go.Maps

/-- A bit as it stands in memory. -/
def bV (b : Bool) : Value := .int .i64 ((bitN b : Nat) : Int)
/-- The first bits of a function, as a row. -/
def rowB (f : Nat → Bool) (n : Nat) : List Value := (List.range n).map fun j => bV (f j)
theorem rowB_succ (f : Nat → Bool) (n : Nat) : rowB f (n + 1) = rowB f n ++ [bV (f n)] := by
  unfold rowB; rw [List.range_succ, List.map_append]; rfl
theorem rowB_length (f : Nat → Bool) (n : Nat) : (rowB f n).length = n := by unfold rowB; simp
theorem rowB_get (f : Nat → Bool) {n j : Nat} (h : j < n) : (rowB f n)[j]? = some (bV (f j)) := by
  unfold rowB; rw [List.getElem?_map, List.getElem?_range h]; rfl
theorem rowB_set (f : Nat → Bool) (n i : Nat) (b : Bool) : (rowB f n).set i (bV b) = rowB (fun j => if j = i then b else f j) n := by
  unfold rowB
  apply List.ext_getElem?
  intro j
  rw [List.getElem?_set, List.getElem?_map, List.getElem?_map]
  by_cases hj : j < n
  · rw [List.getElem?_range hj]
    by_cases h : i = j
    · subst h; simp [hj]
    · simp [h, Ne.symm h]
  · have : (List.range n)[j]? = none := List.getElem?_eq_none (by simp; omega)
    rw [this]
    by_cases h : i = j
    · subst h; simp [hj]
    · simp [h]
theorem rowB_congr {f g : Nat → Bool} {n : Nat} (h : ∀ j, j < n → f j = g j) : rowB f n = rowB g n := by
  unfold rowB
  apply List.map_congr_left
  intro j hj
  rw [h j (List.mem_range.1 hj)]
theorem intInfo : (Tryz.prog.info? 3).map (fun i => (i.zero, i.size, i.bytes)) = some (some (.int .i64 0), 1, 8) := by kernel_rfl
theorem bit_at (x k : Nat) : x / 2 ^ k % 2 = bitN (x.testBit k) := by
  rw [Nat.testBit_eq_decide_div_mod_eq]
  rcases Nat.mod_two_eq_zero_or_one (x / 2 ^ k) with h | h <;> simp [h, bitN]
theorem msg_at (bs : List UInt8) {i k : Nat} {x : UInt8} (hx : bs[i]? = some x) (hk : k < 8) : msgBit bs (8 * i + k) = x.toNat.testBit k := by
  unfold msgBit
  rw [show (8 * i + k) / 8 = i by omega, show (8 * i + k) % 8 = k by omega, hx]
theorem wrap_small (m : Int) (h0 : 0 ≤ m) (h1 : m < 9223372036854775808) : IntKind.i64.wrap m = m := by
  simp [IntKind.wrap, IntKind.bits, IntKind.signed]; omega
theorem i64_and_nat (a b : Nat) (ha : a < 9223372036854775808) (hb : b < 9223372036854775808) : bits .and .i64 (a : Int) (b : Int) = ((a &&& b : Nat) : Int) := by
  have hx : a &&& b < 2 ^ 63 := Nat.and_lt_two_pow _ (by omega)
  show IntKind.i64.wrap ((BitVec.ofInt 64 (a : Int) &&& BitVec.ofInt 64 (b : Int)).toNat : Int) = _
  rw [BitVec.toNat_and, ofInt_u64 a (by omega), ofInt_u64 b (by omega)]
  exact wrap_small _ (Int.natCast_nonneg _) (by omega)
theorem xor_bit (a b : Bool) : bits .xor .i64 ((bitN a : Nat) : Int) ((bitN b : Nat) : Int) = ((bitN (a != b) : Nat) : Int) := by
  cases a <;> cases b <;> rfl
theorem and_one (n : Nat) (h : n < 256) : bits .and .i64 (n : Int) 1 = ((n % 2 : Nat) : Int) := by
  rw [show (1 : Int) = ((1 : Nat) : Int) from rfl, i64_and_nat n 1 (by omega) (by decide), Nat.and_one_is_mod]
theorem bit_val (x k : Nat) (hx : x < 256) : bits .and .i64 ((x / 2 ^ k : Nat) : Int) 1 = ((bitN (x.testBit k) : Nat) : Int) := by
  rw [and_one _ (Nat.lt_of_le_of_lt (Nat.div_le_self _ _) hx), bit_at]
end Go.Proofs.YtdiaihpilniikaaGreat
namespace Go.Proofs.YtdiaihpilniikaaGreat
open Go.RowKit Go.Maps

theorem rowB_one (f : Nat → Bool) (n : Nat) : ∀ u ∈ rowB f n, u.oneCell' = true := by
  intro u hu; unfold rowB at hu; simp only [List.mem_map] at hu; obtain ⟨j, _, rfl⟩ := hu; rfl
set_option maxRecDepth 100000 in
set_option maxHeartbeats 4000000 in
theorem bits_any (A : Option Addr) (n c : Nat) (bs : List UInt8) (w : World) (B : Nat) (hx : Reads w B 1 A n (bs.map B8)) (hB : B ≤ w.heap.size) (hbig : n ≤ 1099511627776) :
    Calls Tryz.prog 81 #[.slice A n c] w fun e w' => ∃ u, e = .returned u ∧ w'.ownsRow w.heap.size 3 1 u (8 * n) (rowB (msgBit bs) (8 * n)) ∧ Below w.heap.size w w' := by
  have HX := Lib.hid hx
  have hlen : bs.length = n := by have := hx.1; simpa using this
  obtain ⟨i3, hi3, hz0, hz1, hz2⟩ := info_parts intInfo
  have HM : Hid (∀ k, k ≤ 8 * n → k + 1 ≤ maxLen ∧ (k + 1) * 8 ≤ 140737488355328) := Lib.hid fun k hk => ⟨by simp only [maxLen]; omega, by omega⟩
  have HBIG := Lib.hid hbig
  clear hx
  go_enter Tryz.func81, Tryz.ntmps81
  go_wp2_with fail
  go_loopw [3, 4, 5] (fun s3 s4 _ wr => ∃ i : Nat, i ≤ n ∧ s4 = .int .i64 i ∧ (∃ a c, s3 = .slice a (8 * i) c) ∧ wr.ownsRow w.heap.size 3 1 s3 (8 * i) (rowB (msgBit bs) (8 * i)) ∧ Below w.heap.size w wr) (fun _ s _ _ => n - (intOf s).toNat)
  case atStart => exact ⟨0, Nat.zero_le _, rfl, ⟨_, _, rfl⟩, World.ownsRow_nil _ _ _ _, Below.refl _ _⟩
  case round =>
    obtain ⟨i, hi, rfl, ⟨a1, c1, rfl⟩, ho, hb⟩ := hrel
    have HO1 := Lib.hid ho
    have HB1 := Lib.hid hb
    clear ho hb
    have hi0 : (0 : Int) ≤ (i : Int) := Int.natCast_nonneg _
    by_cases hlt : i < n
    · have hi1 : (i : Int) < (n : Int) := by omega
      go_wp2_with fail
      go_loopw [3, 5] (fun s3 s5 wr => ∃ k : Nat, k ≤ 8 ∧ s5 = .int .i64 k ∧ (∃ a c, s3 = .slice a (8 * i + k) c) ∧ wr.ownsRow w.heap.size 3 1 s3 (8 * i + k) (rowB (msgBit bs) (8 * i + k)) ∧ Below w.heap.size w wr) (fun _ s _ => 8 - (intOf s).toNat)
      case atStart => exact ⟨0, Nat.zero_le _, rfl, ⟨_, _, rfl⟩, HO1.out, HB1.out⟩
      case round =>
        obtain ⟨k, hk, rfl, ⟨a2, c2, rfl⟩, ho, hb⟩ := hrel
        have HO2 := Lib.hid ho
        have HB2 := Lib.hid hb
        have hsz := hb.size
        clear ho hb
        by_cases hk8 : k < 8
        · have HR : Hid (Reads wr B 1 A n (bs.map B8)) := Lib.hid (HX.out.below (HB2.out.mono hB))
          obtain ⟨ad, u, rfl, _, hu, hc⟩ := HR.out.at_ hlt
          obtain ⟨x, hx⟩ : ∃ x, bs[i]? = some x := ⟨_, List.getElem?_eq_getElem (by omega)⟩
          have hue : u = .int .u8 (x.toNat : Int) := by
            rw [List.getElem?_map, hx] at hu; exact (Option.some.inj hu).symm
          subst hue
          obtain ⟨y, hy⟩ : ∃ y : Nat, y = x.toNat := ⟨_, rfl⟩
          have hy2 : y < 256 := by rw [hy]; exact x.toNat_lt
          have hy1 : (y : Int) < 256 := by omega
          have hy0 : (0 : Int) ≤ (y : Int) := Int.natCast_nonneg _
          have HK : Hid (∀ k, k < 8 → rowB (msgBit bs) (8 * i + k) ++ [bV (y.testBit k)] = rowB (msgBit bs) (8 * i + (k + 1))) := Lib.hid fun k hk => by
            rw [show 8 * i + (k + 1) = 8 * i + k + 1 by omega, rowB_succ, msg_at bs hx hk, hy]
          rw [← hy] at hc
          have HMk := Lib.hid (HM.out (8 * i + k) (by omega))
          clear hu hx hy
          obtain rfl | rfl | rfl | rfl | rfl | rfl | rfl | rfl : k = 0 ∨ k = 1 ∨ k = 2 ∨ k = 3 ∨ k = 4 ∨ k = 5 ∨ k = 6 ∨ k = 7 := by omega
          · obtain ⟨z, hz⟩ : ∃ z : Nat, z = bitN (y.testBit 0) := ⟨_, rfl⟩
            have hand : bits .and .i64 (y : Int) 1 = (z : Int) := by rw [hz]; have := bit_val y 0 hy2; rwa [Nat.pow_zero, Nat.div_one] at this
            have HZ : Hid (Value.int .i64 (z : Int) = bV (y.testBit 0)) := Lib.hid (by rw [hz]; rfl)
            clear hz
            go_wp2_with (at_builtin; go_loud (refine wpList_append_any _ rfl _ _ 57 rfl w.heap.size 3 i3 _ 1 8 Tryz.underlying57 hi3 hz0 hz1 hz2 rfl (by omega) _ (8 * i + 0) _ rfl (HO2.out.alloc _) (wr.heap.size + 1) (some ⟨wr.heap.size, 0, none⟩) 1 1 [.int .i64 (z : Int)] rfl (reads_blk (t := 3) (blk_last _ _ _ _ rfl) (by omega) rfl) (by intro u hu; simp at hu; subst hu; rfl) HMk.out.1 HMk.out.2 (by rw [alloc_size]; omega) ?_); intro v1 w1 hown1 hg1 hat1; obtain ⟨a2, c2, hvs, _⟩ := own_shape hown1; subst hvs; have HOWN := Lib.hid hown1; have HB3 := Lib.hid ((HB2.out.alloc hsz _).grown hg1 (by rw [alloc_size]; omega) (fun i hi => (HO2.out.lt i hi).1)); clear hown1 hg1 hat1)
            go_roundw
            case rel =>
              refine ⟨1, by omega, by go_num, ⟨_, _, rfl⟩, ?_, HB3.out⟩
              have := HOWN.out
              rw [HZ.out, HK.out 0 (by omega)] at this
              exact this
            case measure => first | (simp [intOf]; done) | (simp [intOf]; omega)
          · obtain ⟨z, hz⟩ : ∃ z : Nat, z = bitN (y.testBit 1) := ⟨_, rfl⟩
            have hand : bits .and .i64 ((y : Int) / 2) 1 = (z : Int) := by rw [hz]; exact bit_val y 1 hy2
            have HZ : Hid (Value.int .i64 (z : Int) = bV (y.testBit 1)) := Lib.hid (by rw [hz]; rfl)
            clear hz
            go_wp2_with (at_builtin; go_loud (refine wpList_append_any _ rfl _ _ 57 rfl w.heap.size 3 i3 _ 1 8 Tryz.underlying57 hi3 hz0 hz1 hz2 rfl (by omega) _ (8 * i + 1) _ rfl (HO2.out.alloc _) (wr.heap.size + 1) (some ⟨wr.heap.size, 0, none⟩) 1 1 [.int .i64 (z : Int)] rfl (reads_blk (t := 3) (blk_last _ _ _ _ rfl) (by omega) rfl) (by intro u hu; simp at hu; subst hu; rfl) HMk.out.1 HMk.out.2 (by rw [alloc_size]; omega) ?_); intro v1 w1 hown1 hg1 hat1; obtain ⟨a2, c2, hvs, _⟩ := own_shape hown1; subst hvs; have HOWN := Lib.hid hown1; have HB3 := Lib.hid ((HB2.out.alloc hsz _).grown hg1 (by rw [alloc_size]; omega) (fun i hi => (HO2.out.lt i hi).1)); clear hown1 hg1 hat1)
            go_roundw
            case rel =>
              refine ⟨2, by omega, by go_num, ⟨_, _, rfl⟩, ?_, HB3.out⟩
              have := HOWN.out
              rw [HZ.out, HK.out 1 (by omega)] at this
              exact this
            case measure => first | (simp [intOf]; done) | (simp [intOf]; omega)
          · obtain ⟨z, hz⟩ : ∃ z : Nat, z = bitN (y.testBit 2) := ⟨_, rfl⟩
            have hand : bits .and .i64 ((y : Int) / 4) 1 = (z : Int) := by rw [hz]; exact bit_val y 2 hy2
            have HZ : Hid (Value.int .i64 (z : Int) = bV (y.testBit 2)) := Lib.hid (by rw [hz]; rfl)
            clear hz
            go_wp2_with (at_builtin; go_loud (refine wpList_append_any _ rfl _ _ 57 rfl w.heap.size 3 i3 _ 1 8 Tryz.underlying57 hi3 hz0 hz1 hz2 rfl (by omega) _ (8 * i + 2) _ rfl (HO2.out.alloc _) (wr.heap.size + 1) (some ⟨wr.heap.size, 0, none⟩) 1 1 [.int .i64 (z : Int)] rfl (reads_blk (t := 3) (blk_last _ _ _ _ rfl) (by omega) rfl) (by intro u hu; simp at hu; subst hu; rfl) HMk.out.1 HMk.out.2 (by rw [alloc_size]; omega) ?_); intro v1 w1 hown1 hg1 hat1; obtain ⟨a2, c2, hvs, _⟩ := own_shape hown1; subst hvs; have HOWN := Lib.hid hown1; have HB3 := Lib.hid ((HB2.out.alloc hsz _).grown hg1 (by rw [alloc_size]; omega) (fun i hi => (HO2.out.lt i hi).1)); clear hown1 hg1 hat1)
            go_roundw
            case rel =>
              refine ⟨3, by omega, by go_num, ⟨_, _, rfl⟩, ?_, HB3.out⟩
              have := HOWN.out
              rw [HZ.out, HK.out 2 (by omega)] at this
              exact this
            case measure => first | (simp [intOf]; done) | (simp [intOf]; omega)
          · obtain ⟨z, hz⟩ : ∃ z : Nat, z = bitN (y.testBit 3) := ⟨_, rfl⟩
            have hand : bits .and .i64 ((y : Int) / 8) 1 = (z : Int) := by rw [hz]; exact bit_val y 3 hy2
            have HZ : Hid (Value.int .i64 (z : Int) = bV (y.testBit 3)) := Lib.hid (by rw [hz]; rfl)
            clear hz
            go_wp2_with (at_builtin; go_loud (refine wpList_append_any _ rfl _ _ 57 rfl w.heap.size 3 i3 _ 1 8 Tryz.underlying57 hi3 hz0 hz1 hz2 rfl (by omega) _ (8 * i + 3) _ rfl (HO2.out.alloc _) (wr.heap.size + 1) (some ⟨wr.heap.size, 0, none⟩) 1 1 [.int .i64 (z : Int)] rfl (reads_blk (t := 3) (blk_last _ _ _ _ rfl) (by omega) rfl) (by intro u hu; simp at hu; subst hu; rfl) HMk.out.1 HMk.out.2 (by rw [alloc_size]; omega) ?_); intro v1 w1 hown1 hg1 hat1; obtain ⟨a2, c2, hvs, _⟩ := own_shape hown1; subst hvs; have HOWN := Lib.hid hown1; have HB3 := Lib.hid ((HB2.out.alloc hsz _).grown hg1 (by rw [alloc_size]; omega) (fun i hi => (HO2.out.lt i hi).1)); clear hown1 hg1 hat1)
            go_roundw
            case rel =>
              refine ⟨4, by omega, by go_num, ⟨_, _, rfl⟩, ?_, HB3.out⟩
              have := HOWN.out
              rw [HZ.out, HK.out 3 (by omega)] at this
              exact this
            case measure => first | (simp [intOf]; done) | (simp [intOf]; omega)
          · obtain ⟨z, hz⟩ : ∃ z : Nat, z = bitN (y.testBit 4) := ⟨_, rfl⟩
            have hand : bits .and .i64 ((y : Int) / 16) 1 = (z : Int) := by rw [hz]; exact bit_val y 4 hy2
            have HZ : Hid (Value.int .i64 (z : Int) = bV (y.testBit 4)) := Lib.hid (by rw [hz]; rfl)
            clear hz
            go_wp2_with (at_builtin; go_loud (refine wpList_append_any _ rfl _ _ 57 rfl w.heap.size 3 i3 _ 1 8 Tryz.underlying57 hi3 hz0 hz1 hz2 rfl (by omega) _ (8 * i + 4) _ rfl (HO2.out.alloc _) (wr.heap.size + 1) (some ⟨wr.heap.size, 0, none⟩) 1 1 [.int .i64 (z : Int)] rfl (reads_blk (t := 3) (blk_last _ _ _ _ rfl) (by omega) rfl) (by intro u hu; simp at hu; subst hu; rfl) HMk.out.1 HMk.out.2 (by rw [alloc_size]; omega) ?_); intro v1 w1 hown1 hg1 hat1; obtain ⟨a2, c2, hvs, _⟩ := own_shape hown1; subst hvs; have HOWN := Lib.hid hown1; have HB3 := Lib.hid ((HB2.out.alloc hsz _).grown hg1 (by rw [alloc_size]; omega) (fun i hi => (HO2.out.lt i hi).1)); clear hown1 hg1 hat1)
            go_roundw
            case rel =>
              refine ⟨5, by omega, by go_num, ⟨_, _, rfl⟩, ?_, HB3.out⟩
              have := HOWN.out
              rw [HZ.out, HK.out 4 (by omega)] at this
              exact this
            case measure => first | (simp [intOf]; done) | (simp [intOf]; omega)
          · obtain ⟨z, hz⟩ : ∃ z : Nat, z = bitN (y.testBit 5) := ⟨_, rfl⟩
            have hand : bits .and .i64 ((y : Int) / 32) 1 = (z : Int) := by rw [hz]; exact bit_val y 5 hy2
            have HZ : Hid (Value.int .i64 (z : Int) = bV (y.testBit 5)) := Lib.hid (by rw [hz]; rfl)
            clear hz
            go_wp2_with (at_builtin; go_loud (refine wpList_append_any _ rfl _ _ 57 rfl w.heap.size 3 i3 _ 1 8 Tryz.underlying57 hi3 hz0 hz1 hz2 rfl (by omega) _ (8 * i + 5) _ rfl (HO2.out.alloc _) (wr.heap.size + 1) (some ⟨wr.heap.size, 0, none⟩) 1 1 [.int .i64 (z : Int)] rfl (reads_blk (t := 3) (blk_last _ _ _ _ rfl) (by omega) rfl) (by intro u hu; simp at hu; subst hu; rfl) HMk.out.1 HMk.out.2 (by rw [alloc_size]; omega) ?_); intro v1 w1 hown1 hg1 hat1; obtain ⟨a2, c2, hvs, _⟩ := own_shape hown1; subst hvs; have HOWN := Lib.hid hown1; have HB3 := Lib.hid ((HB2.out.alloc hsz _).grown hg1 (by rw [alloc_size]; omega) (fun i hi => (HO2.out.lt i hi).1)); clear hown1 hg1 hat1)
            go_roundw
            case rel =>
              refine ⟨6, by omega, by go_num, ⟨_, _, rfl⟩, ?_, HB3.out⟩
              have := HOWN.out
              rw [HZ.out, HK.out 5 (by omega)] at this
              exact this
            case measure => first | (simp [intOf]; done) | (simp [intOf]; omega)
          · obtain ⟨z, hz⟩ : ∃ z : Nat, z = bitN (y.testBit 6) := ⟨_, rfl⟩
            have hand : bits .and .i64 ((y : Int) / 64) 1 = (z : Int) := by rw [hz]; exact bit_val y 6 hy2
            have HZ : Hid (Value.int .i64 (z : Int) = bV (y.testBit 6)) := Lib.hid (by rw [hz]; rfl)
            clear hz
            go_wp2_with (at_builtin; go_loud (refine wpList_append_any _ rfl _ _ 57 rfl w.heap.size 3 i3 _ 1 8 Tryz.underlying57 hi3 hz0 hz1 hz2 rfl (by omega) _ (8 * i + 6) _ rfl (HO2.out.alloc _) (wr.heap.size + 1) (some ⟨wr.heap.size, 0, none⟩) 1 1 [.int .i64 (z : Int)] rfl (reads_blk (t := 3) (blk_last _ _ _ _ rfl) (by omega) rfl) (by intro u hu; simp at hu; subst hu; rfl) HMk.out.1 HMk.out.2 (by rw [alloc_size]; omega) ?_); intro v1 w1 hown1 hg1 hat1; obtain ⟨a2, c2, hvs, _⟩ := own_shape hown1; subst hvs; have HOWN := Lib.hid hown1; have HB3 := Lib.hid ((HB2.out.alloc hsz _).grown hg1 (by rw [alloc_size]; omega) (fun i hi => (HO2.out.lt i hi).1)); clear hown1 hg1 hat1)
            go_roundw
            case rel =>
              refine ⟨7, by omega, by go_num, ⟨_, _, rfl⟩, ?_, HB3.out⟩
              have := HOWN.out
              rw [HZ.out, HK.out 6 (by omega)] at this
              exact this
            case measure => first | (simp [intOf]; done) | (simp [intOf]; omega)
          · obtain ⟨z, hz⟩ : ∃ z : Nat, z = bitN (y.testBit 7) := ⟨_, rfl⟩
            have hand : bits .and .i64 ((y : Int) / 128) 1 = (z : Int) := by rw [hz]; exact bit_val y 7 hy2
            have HZ : Hid (Value.int .i64 (z : Int) = bV (y.testBit 7)) := Lib.hid (by rw [hz]; rfl)
            clear hz
            go_wp2_with (at_builtin; go_loud (refine wpList_append_any _ rfl _ _ 57 rfl w.heap.size 3 i3 _ 1 8 Tryz.underlying57 hi3 hz0 hz1 hz2 rfl (by omega) _ (8 * i + 7) _ rfl (HO2.out.alloc _) (wr.heap.size + 1) (some ⟨wr.heap.size, 0, none⟩) 1 1 [.int .i64 (z : Int)] rfl (reads_blk (t := 3) (blk_last _ _ _ _ rfl) (by omega) rfl) (by intro u hu; simp at hu; subst hu; rfl) HMk.out.1 HMk.out.2 (by rw [alloc_size]; omega) ?_); intro v1 w1 hown1 hg1 hat1; obtain ⟨a2, c2, hvs, _⟩ := own_shape hown1; subst hvs; have HOWN := Lib.hid hown1; have HB3 := Lib.hid ((HB2.out.alloc hsz _).grown hg1 (by rw [alloc_size]; omega) (fun i hi => (HO2.out.lt i hi).1)); clear hown1 hg1 hat1)
            go_roundw
            case rel =>
              refine ⟨8, by omega, by go_num, ⟨_, _, rfl⟩, ?_, HB3.out⟩
              have := HOWN.out
              rw [HZ.out, HK.out 7 (by omega)] at this
              exact this
            case measure => first | (simp [intOf]; done) | (simp [intOf]; omega)
        · obtain rfl : k = 8 := by omega
          go_wp2
          go_roundw
          case rel => exact ⟨i + 1, by omega, by go_num, ⟨_, _, by rw [show 8 * (i + 1) = 8 * i + 8 by omega]⟩, by rw [show 8 * (i + 1) = 8 * i + 8 by omega]; exact HO2.out, HB2.out⟩
          case measure => simp [intOf]; omega
    · obtain rfl : i = n := by omega
      go_wp2
      go_ret
      exact ⟨_, rfl, HO1.out, HB1.out⟩
end Go.Proofs.YtdiaihpilniikaaGreat

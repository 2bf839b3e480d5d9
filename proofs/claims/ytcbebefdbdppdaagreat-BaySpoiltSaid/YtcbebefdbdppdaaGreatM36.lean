/- Bits turned within 32 places: the pattern, and what the drive shows behind a Flip. No program in sight.; cairnlaw14.BaySpoilt: the walk.; A shard that comes in, opened. -/
import Derived.Test.YtcbebefdbdppdaaGreatM30
import Derived.Test.YtcbebefdbdppdaaGreatM35
import Derived.Test.YtcbebefdbdppdaaGreatM34
import Derived.Lib.SmallJoins
import Derived.Deep.Strs
import Derived.OpenShut
import Derived.Deep.Slices
import Derived.Deep.Fields
import Derived.ChangeArms
import Derived.SizedLaws
namespace Go.Proofs.YtcbebefdbdppdaaGreat
open Go.RowKit Go.Maps

def bitB (m : Nat) : UInt8 := UInt8.ofNat (2 ^ (m % 8))
theorem bitB_nat (m : Nat) : (bitB m).toNat = 2 ^ (m % 8) := by
  unfold bitB
  have h : 2 ^ (m % 8) < 256 := Nat.lt_of_lt_of_le (Nat.pow_lt_pow_right (by decide) (Nat.mod_lt m (by decide))) (by decide)
  rw [UInt8.toNat_ofNat']
  exact Nat.mod_eq_of_lt h
/-- The pattern behind k of the 32 steps. -/
def turnS (n bit P : Nat) : Nat → List UInt8
  | 0 => List.replicate n 0
  | k + 1 => if P.testBit k = true ∧ (bit + k) / 8 < n then (turnS n bit P k).set ((bit + k) / 8) ((turnS n bit P k).getD ((bit + k) / 8) 0 ^^^ bitB (bit + k)) else turnS n bit P k
theorem turnS_length (n bit P : Nat) : ∀ k, (turnS n bit P k).length = n
  | 0 => List.length_replicate
  | k + 1 => by
    unfold turnS
    split
    · rw [List.length_set]; exact turnS_length n bit P k
    · exact turnS_length n bit P k
theorem msgBit_set {l : List UInt8} {m : Nat} (h : m / 8 < l.length) (j : Nat) : msgBit (l.set (m / 8) (l.getD (m / 8) 0 ^^^ bitB m)) j = (msgBit l j ^^ decide (j = m)) := by
  unfold msgBit
  by_cases hj : j / 8 = m / 8
  · rw [hj, List.getElem?_set_self h, List.getD_eq_getElem?_getD, List.getElem?_eq_getElem h]
    simp only [Option.getD_some, UInt8.toNat_xor, Nat.testBit_xor, bitB_nat, Nat.testBit_two_pow]
    congr 1
    by_cases e : j = m
    · rw [e]; simp
    · have : ¬ m % 8 = j % 8 := by omega
      simp [e, this]
  · rw [List.getElem?_set_ne (by omega)]
    have e : ¬ j = m := by intro e; exact hj (by rw [e])
    simp [e]
theorem turnS_bit (n bit P : Nat) : ∀ k j, msgBit (turnS n bit P k) j = true ↔ ∃ i, i < k ∧ P.testBit i = true ∧ bit + i = j ∧ j / 8 < n
  | 0, j => by
    constructor
    · intro h
      unfold turnS msgBit at h
      rw [List.getElem?_replicate] at h
      split at h
      · rename_i x hx
        split at hx
        · injection hx with hx; subst hx; simp at h
        · cases hx
      · cases h
    · rintro ⟨i, hi, _⟩; omega
  | k + 1, j => by
    have ih := turnS_bit n bit P k j
    unfold turnS
    split
    · rename_i hc
      rw [msgBit_set (by rw [turnS_length]; exact hc.2)]
      by_cases e : j = bit + k
      · have h0 : msgBit (turnS n bit P k) j = false := by
          cases hm : msgBit (turnS n bit P k) j with
          | false => rfl
          | true =>
            obtain ⟨i, hi, _, he, _⟩ := ih.1 hm
            omega
        rw [h0, decide_eq_true e]
        exact ⟨fun _ => ⟨k, Nat.lt_succ_self k, hc.1, e.symm, by rw [e]; exact hc.2⟩, fun _ => rfl⟩
      · rw [decide_eq_false e, Bool.xor_false, ih]
        constructor
        · rintro ⟨i, h1, h2⟩; exact ⟨i, by omega, h2⟩
        · rintro ⟨i, h1, h2, h3, h4⟩
          exact ⟨i, by omega, h2, h3, h4⟩
    · rename_i hc
      rw [ih]
      constructor
      · rintro ⟨i, h1, h2⟩; exact ⟨i, by omega, h2⟩
      · rintro ⟨i, h1, h2, h3, h4⟩
        refine ⟨i, ?_, h2, h3, h4⟩
        rcases Nat.lt_or_ge i k with h | h
        · exact h
        · obtain rfl : i = k := by omega
          exact absurd ⟨h2, by rw [h3]; exact h4⟩ hc
theorem turnS_burst (n bit P : Nat) : Burst bit (turnS n bit P 32) := fun j hj => by
  obtain ⟨i, h1, _, h3, _⟩ := (turnS_bit n bit P 32 j).1 hj
  omega
/-- Was a bit turned? One of the first H bytes? -/
def anyS (n bit P : Nat) : Nat → Bool
  | 0 => false
  | k + 1 => if P.testBit k = true ∧ (bit + k) / 8 < n then true else anyS n bit P k
def headS (n bit P H : Nat) : Nat → Bool
  | 0 => false
  | k + 1 => if P.testBit k = true ∧ (bit + k) / 8 < n then headS n bit P H k || decide ((bit + k) / 8 < H) else headS n bit P H k
theorem anyS_iff (n bit P : Nat) : ∀ k, anyS n bit P k = true ↔ ∃ i, i < k ∧ P.testBit i = true ∧ (bit + i) / 8 < n
  | 0 => ⟨fun h => by (unfold anyS at h; cases h), fun ⟨i, h, _⟩ => absurd h (Nat.not_lt_zero i)⟩
  | k + 1 => by
    have ih := anyS_iff n bit P k
    unfold anyS
    split
    · rename_i hc
      exact ⟨fun _ => ⟨k, by omega, hc⟩, fun _ => rfl⟩
    · rename_i hc
      rw [ih]
      exact ⟨fun ⟨i, h1, h2⟩ => ⟨i, by omega, h2⟩, fun ⟨i, h1, h2⟩ => ⟨i, by
        rcases Nat.lt_or_ge i k with h | h
        · exact h
        · obtain rfl : i = k := by omega
          exact absurd h2 hc, h2⟩⟩
theorem headS_iff (n bit P H : Nat) : ∀ k, headS n bit P H k = true ↔ ∃ i, i < k ∧ P.testBit i = true ∧ (bit + i) / 8 < n ∧ (bit + i) / 8 < H
  | 0 => ⟨fun h => by (unfold headS at h; cases h), fun ⟨i, h, _⟩ => absurd h (Nat.not_lt_zero i)⟩
  | k + 1 => by
    have ih := headS_iff n bit P H k
    unfold headS
    split
    · rename_i hc
      rw [Bool.or_eq_true, ih, decide_eq_true_eq]
      constructor
      · rintro (⟨i, h1, h2⟩ | h)
        · exact ⟨i, by omega, h2⟩
        · exact ⟨k, by omega, hc.1, hc.2, h⟩
      · rintro ⟨i, h1, h2, h3, h4⟩
        rcases Nat.lt_or_ge i k with h | h
        · exact .inl ⟨i, h, h2, h3, h4⟩
        · obtain rfl : i = k := by omega
          exact .inr h4
    · rename_i hc
      rw [ih]
      exact ⟨fun ⟨i, h1, h2⟩ => ⟨i, by omega, h2⟩, fun ⟨i, h1, h2⟩ => ⟨i, by
        rcases Nat.lt_or_ge i k with h | h
        · exact h
        · obtain rfl : i = k := by omega
          exact absurd ⟨h2.1, h2.2.1⟩ hc, h2⟩⟩
theorem any_bit {n bit P : Nat} : anyS n bit P 32 = true ↔ ∃ j, msgBit (turnS n bit P 32) j = true := by
  rw [anyS_iff]
  constructor
  · rintro ⟨i, h1, h2, h3⟩; exact ⟨bit + i, (turnS_bit n bit P 32 _).2 ⟨i, h1, h2, rfl, h3⟩⟩
  · rintro ⟨j, hj⟩
    obtain ⟨i, h1, h2, h3, h4⟩ := (turnS_bit n bit P 32 j).1 hj
    exact ⟨i, h1, h2, by rw [h3]; exact h4⟩
theorem head_bit {n bit P H : Nat} : headS n bit P H 32 = true ↔ ∃ j, msgBit (turnS n bit P 32) j = true ∧ j < 8 * H := by
  rw [headS_iff]
  constructor
  · rintro ⟨i, h1, h2, h3, h4⟩; exact ⟨bit + i, (turnS_bit n bit P 32 _).2 ⟨i, h1, h2, rfl, h3⟩, by omega⟩
  · rintro ⟨j, hj, hl⟩
    obtain ⟨i, h1, h2, h3, h4⟩ := (turnS_bit n bit P 32 j).1 hj
    exact ⟨i, h1, h2, by rw [h3]; exact h4, by omega⟩
theorem turnS_none {n bit P : Nat} : ∀ k, anyS n bit P k = false → turnS n bit P k = List.replicate n 0
  | 0, _ => rfl
  | k + 1, h => by
    unfold anyS at h
    split at h
    · cases h
    · rename_i hc
      unfold turnS
      rw [if_neg hc]
      exact turnS_none k h
theorem xorAt_get (d pat : List UInt8) : ∀ k i, (xorAt d 0 pat k)[i]? = if i < k then (d[i]?).map (· ^^^ pat.getD i 0) else d[i]?
  | 0, i => by rw [if_neg (by omega)]; rfl
  | k + 1, i => by
    unfold xorAt
    rw [Nat.zero_add]
    by_cases e : i = k
    · subst e
      rw [if_pos (by omega)]
      by_cases hl : i < d.length
      · rw [List.getElem?_set_self (by rw [xorAt_length]; exact hl), List.getD_eq_getElem?_getD, xorAt_get d pat i i, if_neg (by omega), List.getElem?_eq_getElem hl]
        rfl
      · rw [List.getElem?_eq_none (by rw [List.length_set, xorAt_length]; omega), List.getElem?_eq_none (by omega)]
        rfl
    · rw [List.getElem?_set_ne (fun h => e h.symm), xorAt_get d pat k i]
      by_cases h : i < k
      · rw [if_pos h, if_pos (by omega)]
      · rw [if_neg h, if_neg (by omega)]
theorem xorAt_all {d pat : List UInt8} (h : pat.length = d.length) : xorAt d 0 pat d.length = xorB d pat := by
  refine List.ext_getElem? fun i => ?_
  rw [xorAt_get]
  unfold xorB
  rw [List.getElem?_zipWith]
  by_cases hl : i < d.length
  · rw [if_pos hl, List.getElem?_eq_getElem hl, List.getElem?_eq_getElem (show i < pat.length by omega), List.getD_eq_getElem?_getD, List.getElem?_eq_getElem (show i < pat.length by omega)]
    rfl
  · rw [if_neg hl, List.getElem?_eq_none (by omega)]
theorem xorB_zero (d : List UInt8) : xorB d (List.replicate d.length 0) = d := by
  refine List.ext_getElem? fun i => ?_
  unfold xorB
  rw [List.getElem?_zipWith, List.getElem?_replicate]
  by_cases hl : i < d.length
  · rw [if_pos hl, List.getElem?_eq_getElem hl]; simp
  · rw [if_neg hl, List.getElem?_eq_none (by omega)]
theorem Stored.flipped {X : Wnd} {S : Drv} {nm : Nm} {bs : List UInt8} {r c N : Nat} (h : Stored X S nm bs r c N) (hn : named nm = true) (pat : List UInt8) (hp : pat.length = bs.length) (hb : bs ≠ []) :
    (S.flip nm 0 pat).2 = 0 ∧ (S.flip nm 0 pat).1.read nm = (xorB bs pat, 0) ∧ (S.flip nm 0 pat).1.Inv N := by
  have hI := h.kept.drv
  obtain ⟨i, hi⟩ : ∃ i, dget S.now nm = some i := by
    have h3 := h.shows
    unfold Drv.shows at h3
    cases e : dget S.now nm with
    | none => rw [e] at h3; cases h3
    | some i => exact ⟨i, rfl⟩
  have hbd : (S.body i).data = bs := by
    have h3 := h.shows
    unfold Drv.shows Drv.cont at h3
    rw [hi] at h3
    injection h3
  have hf : S.find nm = (some i, 0) := by unfold Drv.find; rw [hn, hi]; rfl
  have hln : S.len i = bs.length := by show (S.body i).data.length = _; rw [hbd]
  have hbl : bs.length ≠ 0 := fun e => hb (List.eq_nil_of_length_eq_zero e)
  have e1 : S.flip nm 0 pat = (S.flipTo i 0 pat bs.length, 0) := by
    unfold Drv.flip
    rw [if_neg (by omega), hf]
    simp only
    rw [hln, if_neg (by omega), hp, show (0 : Int).toNat = 0 from rfl, Nat.sub_zero, Nat.min_self]
  have hInv := Drv.flip_inv hI nm 0 pat
  rw [e1] at hInv ⊢
  refine ⟨rfl, ?_, hInv⟩
  have hlt : i < S.bodies.length := hI.rlt i (refs_mem hI.tnow hi)
  have hf2 : (S.flipTo i 0 pat bs.length).find nm = (some i, 0) := hf
  unfold Drv.read
  rw [hf2]
  show (((S.flipTo i 0 pat bs.length).body i).data, (0 : Int)) = (xorB bs pat, 0)
  unfold Drv.flipTo
  rw [Drv.setBody_same S hlt]
  show (xorAt (S.body i).data 0 pat bs.length, (0 : Int)) = _
  rw [hbd, xorAt_all hp]
end Go.Proofs.YtcbebefdbdppdaaGreat
namespace Go.Proofs.YtcbebefdbdppdaaGreat
open Go.RowKit Go.Maps

theorem wd_liftB {w : World} {q p : Nat} {X : Wnd} {S T : Drv} {F : Nat → Prop} {f : Nat} {args : Array Value} {R : Ending → Prop} (h : WD w q p X S F)
    (hc : ∀ FD, Dr w p S FD → (∀ k, FD k → F k) → Calls Tryz.prog f args w fun e w' => R e ∧ Dr w' p T (grow FD w w') ∧ Touch FD w w') :
    Calls Tryz.prog f args w fun e w' => R e ∧ WD w' q p X T (grow F w w') ∧ Touch F w w' := by
  obtain ⟨FW, FD, hA, hF⟩ := h
  refine (hc FD hA.dr fun k hk => hF k (.inr hk)).mono ?_
  rintro e w' ⟨he, hd, ht⟩
  refine ⟨he, ⟨_, _, hA.drive hd ht, fun k hk => ?_⟩, ht.mono fun k _ hk => hF k (.inr hk)⟩
  rcases hk with hk | hk | hk
  · exact .inl (hF k (.inl hk))
  · exact .inl (hF k (.inr hk))
  · exact .inr hk
theorem WD.cell0 {w : World} {q p : Nat} {X : Wnd} {S : Drv} {F : Nat → Prop} (h : WD w q p X S F) : w.cell? ⟨q, 0, none⟩ = some (.pointer (some ⟨p, 0, none⟩)) := by
  obtain ⟨FW, FD, hA, _⟩ := h
  obtain ⟨pv, fq, hw, _⟩ := hA.wn
  exact hw.head.cell 0
theorem BlksAt.more {w : World} {B B' n : Nat} {A : Option Addr} {l : List (List UInt8)} (h : BlksAt w B A n l) (hB : B ≤ B') : BlksAt w B' A n l := by
  obtain ⟨vs, h1, h2⟩ := h.rows
  exact ⟨h.len, vs, h1.more hB, fun j x hx => by obtain ⟨A', c', e, hr⟩ := h2 j x hx; exact ⟨A', c', e, hr.more hB⟩⟩
theorem w64g {n : Nat} (h : n ≤ 3000000000) : wrap64 (n : Int) = (n : Int) := IntWalk.wrap64_in _ (by omega)
theorem wrapu64g {n : Nat} (h : n ≤ 3000000000) : IntKind.u64.wrap (n : Int) = (n : Int) := by unfold IntKind.wrap; simp [IntKind.bits]; omega
theorem wrapu8_pow {m : Nat} (h : m < 8) : IntKind.u8.wrap ((2 : Int) ^ m) = ((2 ^ m : Nat) : Int) := by
  match m, h with
  | 0, _ => rfl
  | 1, _ => rfl
  | 2, _ => rfl
  | 3, _ => rfl
  | 4, _ => rfl
  | 5, _ => rfl
  | 6, _ => rfl
  | 7, _ => rfl
theorem w64k40 {n : Nat} (h : n ≤ 255) : wrap64 (40 + (n : Int)) = 40 + (n : Int) := IntWalk.wrap64_in _ (by omega)
theorem lt40 {i n m : Nat} (h : i < 40 + n) (e : m = n) : (i : Int) < 40 + (m : Int) := by omega
theorem nlt40 {i n m : Nat} (h : ¬i < 40 + n) (e : m = n) : ¬(i : Int) < 40 + (m : Int) := by omega
theorem meas32 {k : Nat} (h : k < 32) : 32 - (intOf (.int .i64 ((k : Int) + 1))).toNat < 32 - (intOf (.int .i64 (k : Int))).toNat := by simp only [intOf]; omega
theorem pow8_256 {m : Nat} (h : m < 8) : (2 : Int) ^ m % 256 = ((2 ^ m : Nat) : Int) := by
  match m, h with
  | 0, _ => rfl
  | 1, _ => rfl
  | 2, _ => rfl
  | 3, _ => rfl
  | 4, _ => rfl
  | 5, _ => rfl
  | 6, _ => rfl
  | 7, _ => rfl
theorem tdiv_nat (a b : Nat) : (a : Int).tdiv (b : Int) = ((a / b : Nat) : Int) := by rw [Int.tdiv_eq_ediv_of_nonneg (Int.natCast_nonneg _), Int.natCast_ediv]
theorem tmod_nat (a b : Nat) : (a : Int).tmod (b : Int) = ((a % b : Nat) : Int) := by rw [Int.tmod_eq_emod_of_nonneg (Int.natCast_nonneg _), Int.natCast_emod]
theorem half_bit {P k S : Nat} (h : S = P / 2 ^ k) : S % 2 = if P.testBit k = true then 1 else 0 := by
  rw [h, Nat.testBit_eq_decide_div_mod_eq]
  have h8 : P / 2 ^ k % 2 < 2 := Nat.mod_lt _ (by decide)
  by_cases h7 : P / 2 ^ k % 2 = 1
  · rw [h7]; simp
  · have : P / 2 ^ k % 2 = 0 := by omega
    rw [this]; simp
theorem u32_and_one (n : Nat) (h : n < 4294967296) : bits .and .u32 (n : Int) 1 = ((n % 2 : Nat) : Int) := by
  have h1 := u32_and_nat n 1 h (by decide)
  rw [show ((1 : Nat) : Int) = 1 from rfl, Nat.and_one_is_mod] at h1
  exact h1
set_option maxRecDepth 100000 in
set_option maxHeartbeats 16000000 in
theorem spoilt_no (h : Hd) (hs : h.st.length = 8) (hm : h.may ≠ 0) (A : Option Addr) (n c : Nat) (at_ P : Int) (w : World) :
    Calls Tryz.prog 3 #[shV h (.slice A n c), .int .i64 at_, .int .u32 P] w fun e w' => e = .returned (.bool true) ∧ Below w.heap.size w w' := by
  have HFT := Lib.hid fun W => fit_no h hs hm A n c W
  have hcs := hdCells_size hs
  have hone := hd_one h
  unfold shV at HFT ⊢
  generalize hdCells h = HC at *
  have HSS : Hid ((HC.push (.slice A n c)).size = 17 ∧ ∀ v ∈ (HC.push (.slice A n c)).toList, v.oneCell' = true) := Lib.hid ⟨by rw [Array.size_push, hcs], push_one hone⟩
  clear hcs hone hm hs
  obtain ⟨SC, hSC⟩ : ∃ SC, SC = HC.push (.slice A n c) := ⟨_, rfl⟩
  rw [← hSC] at HSS HFT ⊢
  clear hSC
  have HB0 : Hid (Below w.heap.size w (w.alloc (.cells SC 31))) := Lib.hid ((Below.refl _ w).alloc (Nat.le_refl _) _)
  have HK0 : Hid (Blk (w.alloc (.cells SC 31)) w.heap.size 31 SC) := Lib.hid (Blk.new _ _ _)
  go_enter Tryz.func3, Tryz.ntmps3
  go_wp2_with fail
  refine (awake_any _).mono ?_
  rintro e w1 ⟨rfl, hb1⟩
  have HK1 := Lib.hid (HK0.out.below hb1 HK0.out.lt)
  have HB1 : Hid (Below w.heap.size w w1) := Lib.hid (HB0.out.trans (hb1.mono HB0.out.size))
  have hL1 := load_sh HK1.out HSS.out.1
  clear hb1
  go_wp2_with (first
    | (refine wpList_load_at rfl 31 _ rfl ⟨w.heap.size, 0, none⟩ rfl (.agg SC) hL1 ?_)
    | fail)
  refine (HFT.out _).mono ?_
  rintro e w2 ⟨rfl, hb2⟩
  have HB2 : Hid (Below w.heap.size w w2) := Lib.hid (HB1.out.trans (hb2.mono HB1.out.size))
  clear hb2 hL1
  obtain ⟨W3, hr3, hk3, ht3, _⟩ := store_sh (w := w2.alloc (.cells zeroSh 31)) (R := w2.heap.size) (CK := SC) (Blk.new _ _ _) rfl HSS.out.1 HSS.out.2
  have HB3 : Hid (Below w2.heap.size w2 W3) := Lib.hid (((Below.refl _ w2).alloc (Nat.le_refl _) _).trans (ht3.below (by rw [alloc_size]; exact Nat.le_succ _) (fun k hk => Nat.le_of_eq hk.symm)))
  clear hk3 ht3
  go_wp2_with (first
    | (refine wpList_store_at rfl 31 _ _ rfl ⟨w2.heap.size, 0, none⟩ rfl (.agg SC) rfl W3 hr3 ?_)
    | fail)
  go_ret
  exact ⟨rfl, HB2.out.trans (HB3.out.mono HB2.out.size)⟩
set_option maxRecDepth 100000 in
set_option maxHeartbeats 16000000 in
theorem spoilt_yes (h : Hd) (hs : h.st.length = 8) (hm : h.may = 0) (A : Option Addr) (n c : Nat) (l0 : List (List UInt8)) (at_ : Int) (P : Nat) (hP : P < 4294967296) (w : World) (hb : BlksAt w w.heap.size A n l0) :
    Calls Tryz.prog 3 #[shV h (.slice A n c), .int .i64 at_, .int .u32 (P : Int)] w fun e w' => e = .returned (.bool true) ∧ Below w.heap.size w w' := by
  have HFT := Lib.hid fun W => fit_yes h hs hm A n c l0 W
  have f := Hd.fit_of hm
  have hcs := hdCells_size hs
  have hone := hd_one h
  have hkey : (hdCells h)[11]? = some (strV h.key) := hd_key16 hs
  obtain ⟨HC, hHC⟩ : ∃ HC, HC = hdCells h := ⟨_, rfl⟩
  unfold shV at HFT ⊢
  rw [← hHC] at HFT hcs hone hkey ⊢
  have HCE := Lib.hid hHC
  have HCS := Lib.hid hcs
  have HON := Lib.hid hone
  have HKY := Lib.hid hkey
  have HSS : Hid ((HC.push (.slice A n c)).size = 17 ∧ ∀ v ∈ (HC.push (.slice A n c)).toList, v.oneCell' = true) := Lib.hid ⟨by rw [Array.size_push, hcs], push_one hone⟩
  have HIN := Lib.hid hb
  have HHH := Lib.hid (And.intro hs (And.intro hm (And.intro f hP)))
  clear hcs hone hkey hm hs hb hHC f hP
  obtain ⟨S0, hS0⟩ : ∃ S0, S0 = HC.push (.slice A n c) := ⟨_, rfl⟩
  rw [← hS0] at HSS HFT ⊢
  clear hS0
  have HB0 : Hid (Below w.heap.size w (w.alloc (.cells S0 31))) := Lib.hid ((Below.refl _ w).alloc (Nat.le_refl _) _)
  have HK0 : Hid (Blk (w.alloc (.cells S0 31)) w.heap.size 31 S0) := Lib.hid (Blk.new _ _ _)
  go_enter Tryz.func3, Tryz.ntmps3
  go_wp2_with fail
  refine (awake_any _).mono ?_
  rintro e w1 ⟨rfl, hb1⟩
  have HK1 := Lib.hid (HK0.out.below hb1 HK0.out.lt)
  have HB1 : Hid (Below w.heap.size w w1) := Lib.hid (HB0.out.trans (hb1.mono HB0.out.size))
  have hL1 := load_sh HK1.out HSS.out.1
  clear hb1
  go_wp2_with (first
    | (refine wpList_load_at rfl 31 _ rfl ⟨w.heap.size, 0, none⟩ rfl (.agg S0) hL1 ?_)
    | fail)
  refine (HFT.out _ ((HIN.out.below HB1.out).more HB1.out.size)).mono ?_
  rintro e w2 ⟨vf, l, rfl, hll, hbo, hb2⟩
  have HB2 : Hid (Below w.heap.size w w2) := Lib.hid (HB1.out.trans (hb2.mono HB1.out.size))
  have hln : l.length = h.lens.length := by rw [← hll, List.length_map]
  obtain ⟨sa, sc, rfl⟩ : ∃ sa sc, vf = .slice sa l.length sc := by
    obtain ⟨vs, hvs, _⟩ := hbo.row
    obtain ⟨sa, sc, hsv, _⟩ := own_shape hvs
    exact ⟨sa, sc, hsv⟩
  have HBO : Hid (BlksOff w2 w2.heap.size (fun _ => False) sa l.length l) := Lib.hid (hbo.off rfl (fun _ h => h.elim))
  have HLL := Lib.hid hll
  have HLN : Hid (l.length ≤ 4096) := Lib.hid (by rw [hln]; exact (fit_lens HHH.out.2.2.1).1)
  have HSC : Hid ((HC.push (.slice sa l.length sc)).size = 17 ∧ ∀ v ∈ (HC.push (.slice sa l.length sc)).toList, v.oneCell' = true) := Lib.hid ⟨by rw [Array.size_push, HCS.out], push_one HON.out⟩
  clear hb2 hL1 hll hbo hln HFT HIN
  obtain ⟨SC, hSC⟩ : ∃ SC, SC = HC.push (.slice sa l.length sc) := ⟨_, rfl⟩
  rw [← hSC] at HSC ⊢
  have HSE := Lib.hid hSC
  clear hSC
  obtain ⟨W3, hr3, hk3, ht3, _⟩ := store_sh (w := w2.alloc (.cells zeroSh 31)) (R := w2.heap.size) (CK := SC) (Blk.new _ _ _) rfl HSC.out.1 HSC.out.2
  have HB3 : Hid (Below w2.heap.size w2 W3) := Lib.hid (((Below.refl _ w2).alloc (Nat.le_refl _) _).trans (ht3.below (by rw [alloc_size]; exact Nat.le_succ _) (fun k hk => Nat.le_of_eq hk.symm)))
  have HS3 := Lib.hid hk3
  have h23 : w2.heap.size + 1 ≤ W3.heap.size := hk3.lt
  clear hk3 ht3
  go_wp2_with (first
    | (refine wpList_store_at rfl 31 _ _ rfl ⟨w2.heap.size, 0, none⟩ rfl (.agg SC) rfl W3 hr3 ?_)
    | fail)
  clear hr3
  refine (newb_any 1073741824 _ (by decide) (by decide)).mono ?_
  rintro e w4 ⟨p, rfl, hdr, hb4⟩
  have HB4 := Lib.hid hb4
  have HDR := Lib.hid hdr
  clear hb4 hdr
  go_wp2_with fail
  refine (wnewb_any W3.heap.size p _ w4 HB4.out.size HDR.out).mono ?_
  rintro e w5 ⟨q, rfl, hwd, hb5⟩
  have HB5 : Hid (Below W3.heap.size W3 w5) := Lib.hid (HB4.out.trans (hb5.mono HB4.out.size))
  have h35 : W3.heap.size ≤ w5.heap.size := HB5.out.size
  have h02 : w.heap.size ≤ w2.heap.size := HB2.out.size
  obtain ⟨F, hF⟩ : ∃ F : Nat → Prop, F = fun k => W3.heap.size ≤ k ∧ k < w5.heap.size := ⟨_, rfl⟩
  have HD5 : Hid (WD w5 q p Wnd.new (Drv.new 1073741824) F) := Lib.hid (by rw [hF]; exact hwd)
  have HF5 : Hid (∀ k, F k → W3.heap.size ≤ k ∧ k < w5.heap.size) := Lib.hid (by rw [hF]; exact fun _ h => h)
  have HS5 := Lib.hid (HS3.out.below HB5.out h23)
  have HB25 : Hid (BlksOff w5 w2.heap.size F sa l.length l) := Lib.hid (((HBO.out.below HB3.out).below (HB5.out.mono (by omega))).mono (fun k hk h => by have := HF5.out k h; omega))
  clear hwd hb5 hF
  have hon : named (objN h.key) = true := objN_named HHH.out.2.2.1.key.2
  have hbl : (shardBytes h l).length = h.len := shard_length h HHH.out.1 l HLL.out
  have hle := hd_len_le HHH.out.2.2.1
  have hlk : 40 + h.key.length ≤ h.len := by unfold Hd.len; omega
  obtain ⟨bs, hbs⟩ : ∃ bs, bs = shardBytes h l := ⟨_, rfl⟩
  rw [← hbs] at hbl
  have HST := Lib.hid (stored_new 1073741824 (Nat.le_refl _) (objN h.key) bs hon (objN_ne _) (fun e => by rw [e] at hbl; have h9 : (0 : Nat) = h.len := hbl; omega) (by omega) Wnd.new 0 Calm.new Wnd.Okn.new)
  obtain ⟨Y, T, x, hy⟩ : ∃ Y T x, awrite Wnd.new (Drv.new 1073741824) (objN h.key) bs = (Y, T, x) := ⟨_, _, _, rfl⟩
  have HYT := Lib.hid hy
  rw [hy] at HST
  obtain ⟨hx0, hsd⟩ := HST.out
  obtain rfl : x = 0 := hx0
  have HSD : Hid (Stored Y T (objN h.key) bs 1073741824 5 5) := Lib.hid hsd
  have HBS := Lib.hid (And.intro hbs (And.intro hbl (And.intro hle (And.intro hlk hon))))
  clear hsd HST hy hbl hle hlk hon hbs
  have hL5 := load_sh HS5.out HSC.out.1
  have hST := bstore_ok q p Wnd.new (Drv.new 1073741824) F h (HHH.out.2.2.1.wf HHH.out.1) HHH.out.2.2.1 l HLL.out sa l.length sc w5 (HB25.out.more (by omega)).at_ HD5.out (fun k hk => (HF5.out k hk).2)
    0 0 1073741824 ⟨Wnd.Okn.new, (kept_new 1073741824 (Nat.le_refl _)).drv, rfl⟩ (by decide) (by decide) Y T 0 (by rw [← HBS.out.1]; exact HYT.out)
  unfold shV at hST
  rw [← HCE.out, ← HSE.out] at hST
  have HSTO := Lib.hid hST
  clear hST
  go_wp2_with (first
    | (refine wpList_load_if 31 _ rfl (by rfl) ⟨w2.heap.size, 0, none⟩ rfl (.agg SC) hL5 ?_)
    | fail)
  refine HSTO.out.mono ?_
  clear HSTO hL5
  rintro e w7 ⟨rfl, hd7, ht7⟩
  obtain ⟨F7, hF7⟩ : ∃ F7 : Nat → Prop, F7 = grow F w5 w7 := ⟨_, rfl⟩
  rw [← hF7] at hd7
  have HD7 := Lib.hid hd7
  have HT7 := Lib.hid ht7
  have h57 : w5.heap.size ≤ w7.heap.size := ht7.size
  have HF7 : Hid (∀ k, F7 k → W3.heap.size ≤ k ∧ k < w7.heap.size) := Lib.hid fun k hk => by
    rw [hF7] at hk
    rcases hk with hk | hk
    · have := HF5.out k hk; omega
    · omega
  have HN7 : Hid (¬F7 w2.heap.size) := Lib.hid fun h => by have := HF7.out _ h; omega
  have HS7 : Hid (Blk w7 w2.heap.size 31 SC) := Lib.hid (HS5.out.touch ht7 (fun h => by have := HF5.out _ h; omega))
  have HB27 : Hid (BlksOff w7 w2.heap.size F7 sa l.length l) := Lib.hid ((HB25.out.touch ht7 (by omega) (fun _ _ h => h)).mono (fun k hk h => by have := HF7.out k h; omega))
  clear hd7 ht7 hF7
  have hL7 := load_sh HS7.out HSC.out.1
  have hSH := showing_yes q p Y T F7 h HHH.out.1 HHH.out.2.1 l HLL.out sa l.length sc w7 (HB27.out.more (by omega)) HLN.out HD7.out (fun k hk => (HF7.out k hk).2) 5 HSD.out.kept.wnd (by decide) (HSD.out.kept.drv.small (by decide)) HSD.out.calm
    (by rw [← HBS.out.1]; exact HSD.out.read HBS.out.2.2.2.2)
  unfold shV at hSH
  rw [← HCE.out, ← HSE.out] at hSH
  have HSH := Lib.hid hSH
  clear hSH
  go_wp2_with (first
    | (go_at_call 13; refine (num_any _ _).mono ?_; rintro e w' ⟨rfl, rfl⟩)
    | (refine wpList_load_if 31 _ rfl (by rfl) ⟨w2.heap.size, 0, none⟩ rfl (.agg SC) hL7 ?_)
    | fail)
  refine HSH.out.mono ?_
  clear HSH hL7
  rintro e w8 ⟨rfl, hd8, ht8⟩
  have HSD8 := Lib.hid HSD.out.count.count
  have HD8 := Lib.hid hd8
  have HT8 := Lib.hid ht8
  have h78 : w7.heap.size ≤ w8.heap.size := ht8.size
  have HS8 : Hid (Blk w8 w2.heap.size 31 SC) := Lib.hid (HS7.out.touch ht8 HN7.out)
  have HB28 : Hid (BlksOff w8 w2.heap.size F7 sa l.length l) := Lib.hid (HB27.out.touch ht8 (by omega) (fun _ _ h => h))
  clear hd8 ht8
  obtain ⟨ks, hks, hkz⟩ : ∃ ks : ByteArray, strV h.key = .string ks ∧ ks.size = h.key.length := ⟨_, rfl, size_toBA _⟩
  obtain ⟨ns, hns, hnt, hnz⟩ : ∃ ns : ByteArray, strV (objN h.key) = .string ns ∧ ns.data.toList = objN h.key ∧ ns.size = (objN h.key).length := ⟨_, rfl, by simp, size_toBA _⟩
  have HKS : Hid (SC[11]? = some (.string ks)) := Lib.hid (by
    rw [← hks, ← HKY.out, HSE.out, Array.getElem?_push_lt (by have := HCS.out; omega), Array.getElem?_eq_getElem (by have := HCS.out; omega)])
  have hOB := object_any h.key HHH.out.2.2.1.key.1 HHH.out.2.2.1.key.2 w8
  rw [hks, hns] at hOB
  have HOB := Lib.hid hOB
  have HNS := Lib.hid (And.intro hnt (And.intro hkz hnz))
  have y11 : w8.cell? ⟨w2.heap.size, 11, none⟩ = some (.string ks) := (HS8.out.cell 11).trans HKS.out
  clear hks hns hnt hkz hnz hOB
  go_wp2_with fail
  refine HOB.out.mono ?_
  clear HOB y11
  rintro e w9 ⟨rfl, hb9⟩
  have HB9 := Lib.hid hb9
  have h89 : w8.heap.size ≤ w9.heap.size := hb9.size
  clear hb9
  have HRD := Lib.hid (wread_any q p Y.count.count T F7 ns w9 (by rw [HNS.out.2.2, objN_length]; have := HHH.out.2.2.1.key.2; unfold maxLen; omega) (HD8.out.below HB9.out) (HSD8.out.kept.wnd.ok (by decide)) (HSD.out.kept.drv.small (by decide)))
  rw [HNS.out.1, HSD.out.read HBS.out.2.2.2.2, HSD8.out.calm.read] at HRD
  go_wp2_with fail
  refine HRD.out.mono ?_
  clear HRD
  rintro e w10 ⟨vr, rfl, ho10, hd10, ht10⟩
  replace ho10 : w10.ownsRow w9.heap.size 5 1 vr bs.length (bs.map B8) := ho10
  obtain ⟨A10, c10, rfl, _⟩ := own_shape ho10
  have HD10 : Hid (WD w10 q p Y.count.count.count T F7) := Lib.hid hd10
  have HT10 := Lib.hid ht10
  have h910 : w9.heap.size ≤ w10.heap.size := ht10.size
  have HS10 : Hid (Blk w10 w2.heap.size 31 SC) := Lib.hid ((HS8.out.below HB9.out (by omega)).touch ht10 HN7.out)
  have HB210 : Hid (BlksOff w10 w2.heap.size F7 sa l.length l) := Lib.hid ((HB28.out.below (HB9.out.mono (by omega))).touch ht10 (by omega) (fun _ _ h => h))
  have HSDA := Lib.hid HSD8.out.count
  clear ho10 hd10 ht10
  obtain ⟨N, hN⟩ : ∃ N, N = bs.length := ⟨_, rfl⟩
  have hN1 : 40 ≤ N := by rw [hN, HBS.out.2.1]; have := HBS.out.2.2.2.1; omega
  have hN2 : N ≤ 268500000 := by rw [hN, HBS.out.2.1]; exact HBS.out.2.2.1
  have HNN := Lib.hid (And.intro hN (And.intro hN1 hN2))
  obtain ⟨M, hM⟩ : ∃ M, M = 8 * N := ⟨_, rfl⟩
  have HPK := Lib.hid (pick_any at_ M (by omega) (by omega) w10)
  have m1 : wrap64 (8 * (N : Int)) = (M : Int) := by rw [show 8 * (N : Int) = (M : Int) by omega]; exact IntWalk.wrap64_in _ (by omega)
  have m2 : ((N : Int) == 0) = false := beq_eq_false_iff_ne.2 (by omega)
  have m3 : ¬N = 0 := by omega
  have HM := Lib.hid hM
  obtain ⟨i5, hi5, hq0, hq1, hq2⟩ := info_parts byteInfo
  have hmk := fun (W : World) => run_make (P := Tryz.prog) W 46 5 i5 _ Tryz.underlying46 hi5 hq0 .i64 .i64 (N : Int) (N : Int) (Int.natCast_nonneg _) (Int.le_refl _) (by rw [hq2]; omega) (by omega)
  simp only [Int.toNat_natCast, hq1, Nat.mul_one] at hmk
  rw [← hN]
  clear hN hM hN1 hN2
  go_wp2_with (first
    | (go_at_call 13; refine (num_any _ _).mono ?_; rintro e w' ⟨rfl, rfl⟩)
    | (go_at_call 18; refine HPK.out.mono ?_; rintro e w' ⟨bit, hbit, rfl, rfl⟩; have HBT := Lib.hid hbit; clear hbit)
    | fail)
  -- THE LOOP
  have HG0 : Hid (Blk (w10.alloc (.cells (madeCells #[.int .u8 0] N) 5)) w10.heap.size 5 ((turnS N bit P 0).map B8).toArray) := Lib.hid (by
    have h8 := Blk.new w10 5 (madeCells (Value.int .u8 0).cells N)
    have hmc : madeCells (Value.int .u8 0).cells N = (List.replicate N (Value.int .u8 0)).toArray := by rw [← hexC_zero [] N]; unfold hexC; simp
    rw [hmc] at h8
    rw [show madeCells #[Value.int .u8 0] N = madeCells (Value.int .u8 0).cells N from rfl, hmc, show turnS N bit P 0 = List.replicate N 0 from rfl, List.map_replicate]
    exact h8)
  have HNE : Hid (¬w2.heap.size = w10.heap.size) := Lib.hid (by omega)
  clear m1 m2 hmk hq0 hq1 hq2 hi5
  go_loopw [17, 18, 19, 20] (fun s17 s18 s19 _ wr => ∃ k : Nat, k ≤ 32 ∧ s19 = .int .i64 (k : Int) ∧ s17 = .bool (anyS N bit P k) ∧ s18 = .bool (headS N bit P (40 + h.key.length) k) ∧ Blk wr w10.heap.size 5 ((turnS N bit P k).map B8).toArray ∧ Touch (fun i => i = w10.heap.size) (w10.alloc (.cells (madeCells #[.int .u8 0] N) 5)) wr) (fun _ _ s _ _ => 32 - (intOf s).toNat)
  case atStart => exact ⟨0, Nat.zero_le _, rfl, rfl, rfl, HG0.out, Touch.refl _ _⟩
  case round =>
    obtain ⟨k, hk, rfl, rfl, rfl, hbk, ht⟩ := hrel
    have HBK := Lib.hid hbk
    have HT := Lib.hid ht
    have HSr : Hid (Blk wr w2.heap.size 31 SC) := Lib.hid ((HS10.out.alloc _).touch ht (by omega))
    clear hbk ht
    by_cases hlt : k < 32
    · have hlt' : (k : Int) < 32 := by omega
      have hk0 : (0 : Int) ≤ (k : Int) := Int.natCast_nonneg _
      obtain ⟨a, ha⟩ : ∃ a, a = bit + k := ⟨_, rfl⟩
      obtain ⟨i, hi⟩ : ∃ i, i = a / 8 := ⟨_, rfl⟩
      obtain ⟨m, hm⟩ : ∃ m, m = a % 8 := ⟨_, rfl⟩
      have hab : a ≤ 3000000000 := by have := HBT.out; have := HNN.out; have := HM.out; omega
      have hib : i ≤ 3000000000 := by omega
      have hmb : m ≤ 3000000000 := by omega
      have hm8 : m < 8 := by omega
      have hkb : k + 1 ≤ 3000000000 := by omega
      have hkb' : k ≤ 3000000000 := by omega
      have e1 : (bit : Int) + (k : Int) = (a : Int) := by omega
      have HW : Hid (wrap64 ((k : Int) + 1) = (k : Int) + 1) := Lib.hid (w64g hkb)
      have b1 : wrap64 ((bit : Int) + (k : Int)) = (a : Int) := by rw [e1]; exact w64g hab
      have b2 : (a : Int).tdiv 8 = (i : Int) := by rw [hi]; exact tdiv_nat a 8
      have b3 : wrap64 (i : Int) = (i : Int) := w64g hib
      have b4 : (a : Int).tmod 8 = (m : Int) := by rw [hm]; exact tmod_nat a 8
      have b5 : wrap64 (m : Int) = (m : Int) := w64g hmb
      have HA := Lib.hid (And.intro ha (And.intro hi hm))
      have u1 : IntKind.u64.wrap (k : Int) = (k : Int) := wrapu64g hkb'
      have u2 : IntKind.u64.wrap (m : Int) = (m : Int) := wrapu64g hmb
      obtain ⟨Sk, hSk⟩ : ∃ Sk, Sk = P / 2 ^ k := ⟨_, rfl⟩
      have u3 : (P : Int) / 2 ^ k = (Sk : Int) := by rw [hSk, Int.natCast_ediv, Int.natCast_pow]; rfl
      have hbit2 := half_bit hSk
      have hand : bits .and .u32 (Sk : Int) 1 = ((Sk % 2 : Nat) : Int) := u32_and_one Sk (by rw [hSk]; exact Nat.lt_of_le_of_lt (Nat.div_le_self _ _) HHH.out.2.2.2)
      clear hSk
      have y11 : wr.cell? ⟨w2.heap.size, 11, none⟩ = some (.string ks) := (HSr.out.cell 11).trans HKS.out
      have HNX1 : Hid (¬(P.testBit k = true ∧ i < N) → anyS N bit P (k + 1) = anyS N bit P k ∧ headS N bit P (40 + h.key.length) (k + 1) = headS N bit P (40 + h.key.length) k ∧ turnS N bit P (k + 1) = turnS N bit P k) := Lib.hid fun hc => by
        rw [hi, ha] at hc
        exact ⟨if_neg hc, if_neg hc, if_neg hc⟩
      have HNX2 : Hid (P.testBit k = true ∧ i < N → anyS N bit P (k + 1) = true ∧ headS N bit P (40 + h.key.length) (k + 1) = (headS N bit P (40 + h.key.length) k || decide (i < 40 + h.key.length)) ∧ turnS N bit P (k + 1) = (turnS N bit P k).set i ((turnS N bit P k).getD i 0 ^^^ bitB a)) := Lib.hid fun hc => by
        rw [hi, ha] at hc ⊢
        exact ⟨if_pos hc, if_pos hc, if_pos hc⟩
      obtain ⟨av, hav⟩ : ∃ av, av = anyS N bit P k := ⟨_, rfl⟩
      obtain ⟨hv, hhv⟩ : ∃ hv, hv = headS N bit P (40 + h.key.length) k := ⟨_, rfl⟩
      rw [← hav, ← hhv]
      rw [← hav, ← hhv] at HNX1
      rw [← hhv] at HNX2
      have HLT := Lib.hid hlt
      clear ha hi hm hab hib hmb hkb hkb' e1 hav hhv hk hlt
      by_cases htb : P.testBit k = true
      · by_cases hiN : i < N
        · obtain ⟨n1, n2, n3⟩ := HNX2.out ⟨htb, hiN⟩
          have HNX3 := Lib.hid (And.intro n1 (And.intro n2 n3))
          rw [hbit2, if_pos htb] at hand
          have u4 : bits .and .u32 (Sk : Int) 1 = 1 := hand
          have hiN' : (i : Int) < (N : Int) := Int.ofNat_lt.2 hiN
          have hi0 : (0 : Int) ≤ (i : Int) := Int.natCast_nonneg _
          obtain ⟨xx, hxx⟩ : ∃ xx, xx = (turnS N bit P k).getD i 0 := ⟨_, rfl⟩
          obtain ⟨yy, hyy⟩ : ∃ yy, yy = bitB a := ⟨_, rfl⟩
          have hyn : yy.toNat = 2 ^ m := by rw [hyy, bitB_nat, HA.out.2.2]
          have yi : wr.cell? ⟨w10.heap.size, i, none⟩ = some (.int .u8 (xx.toNat : Int)) := by
            rw [HBK.out.cell, List.getElem?_toArray, List.getElem?_map, hxx, List.getD_eq_getElem?_getD, List.getElem?_eq_getElem (by rw [turnS_length]; exact hiN)]
            rfl
          have yf : wr.frozen? ⟨w10.heap.size, i, none⟩ = false := HBK.out.frozen i
          have v2 : (2 : Int) ^ (a % 8) % 256 = (yy.toNat : Int) := by rw [hyn, HA.out.2.2]; exact pow8_256 (Nat.mod_lt a (by decide))
          have v3 : bits .xor .u8 (xx.toNat : Int) (yy.toNat : Int) = ((xx ^^^ yy).toNat : Int) := bits_xor_u8 xx yy
          have HBS2 : Hid (Blk (wr.setCell ⟨w10.heap.size, i, none⟩ (.int .u8 ((xx ^^^ yy).toNat : Int))) w10.heap.size 5 (((turnS N bit P k).set i ((turnS N bit P k).getD i 0 ^^^ bitB a)).map B8).toArray) := Lib.hid (by
            have h9 := HBK.out.set_ i (B8 (xx ^^^ yy))
            rw [List.setIfInBounds_toArray] at h9
            rw [← hxx, ← hyy, List.map_set]
            exact h9)
          have HT2 : Hid (Touch (fun i => i = w10.heap.size) (w10.alloc (.cells (madeCells #[.int .u8 0] N) 5)) (wr.setCell ⟨w10.heap.size, i, none⟩ (.int .u8 ((xx ^^^ yy).toNat : Int)))) := Lib.hid (HT.out.set (p := ⟨w10.heap.size, i, none⟩) rfl _)
          have hne := HNE.out
          have w1' : wrap64 (40 + (ks.size : Int)) = 40 + (ks.size : Int) := w64k40 (by rw [HNS.out.2.1]; exact HHH.out.2.2.1.key.2)
          have HKZ := Lib.hid HNS.out.2.1
          clear hm8 b4 b5 u2 n1 n2 n3 hand hbit2 htb HNX1 HNX2 hyn hxx hyy hiN
          cases hv
          · by_cases hH : i < 40 + h.key.length
            · have hH' : (i : Int) < 40 + (ks.size : Int) := lt40 hH HKZ.out
              have HHD := Lib.hid (decide_eq_true hH)
              clear hH
              go_wp2_with fail
              refine ⟨⟨k + 1, HLT.out, rfl, by rw [HNX3.out.1], by rw [HNX3.out.2.1, HHD.out]; rfl, by rw [HNX3.out.2.2]; exact HBS2.out, HT2.out⟩, meas32 HLT.out⟩
            · have hH' : ¬(i : Int) < 40 + (ks.size : Int) := nlt40 hH HKZ.out
              have HHD := Lib.hid (decide_eq_false hH)
              clear hH
              go_wp2_with fail
              refine ⟨⟨k + 1, HLT.out, rfl, by rw [HNX3.out.1], by rw [HNX3.out.2.1, HHD.out]; rfl, by rw [HNX3.out.2.2]; exact HBS2.out, HT2.out⟩, meas32 HLT.out⟩
          · go_wp2_with fail
            refine ⟨⟨k + 1, HLT.out, rfl, by rw [HNX3.out.1], by rw [HNX3.out.2.1]; rfl, by rw [HNX3.out.2.2]; exact HBS2.out, HT2.out⟩, meas32 HLT.out⟩
        · have hiN' : ¬(i : Int) < (N : Int) := fun h => hiN (Int.ofNat_lt.1 h)
          rw [hbit2, if_pos htb] at hand
          have u4 : bits .and .u32 (Sk : Int) 1 = 1 := hand
          obtain ⟨n1, n2, n3⟩ := HNX1.out (fun h => hiN h.2)
          have HNX3 := Lib.hid (And.intro n1 (And.intro n2 n3))
          clear n1 n2 n3 hand hbit2 htb HNX1 HNX2
          go_wp2_with fail
          refine ⟨⟨k + 1, HLT.out, rfl, by rw [HNX3.out.1], by rw [HNX3.out.2.1], by rw [HNX3.out.2.2]; exact HBK.out, HT.out⟩, meas32 HLT.out⟩
      · rw [hbit2, if_neg htb] at hand
        have u4 : bits .and .u32 (Sk : Int) 1 = 0 := hand
        obtain ⟨n1, n2, n3⟩ := HNX1.out (fun h => htb h.1)
        have HNX3 := Lib.hid (And.intro n1 (And.intro n2 n3))
        clear n1 n2 n3 hand hbit2 htb HNX1 HNX2
        go_wp2_with fail
        refine ⟨⟨k + 1, HLT.out, rfl, by rw [HNX3.out.1], by rw [HNX3.out.2.1], by rw [HNX3.out.2.2]; exact HBK.out, HT.out⟩, meas32 HLT.out⟩
    · obtain rfl : k = 32 := by omega
      have hg10 : ∀ j, F7 j → ¬j = w10.heap.size := fun j hj e => by have := HF7.out j hj; omega
      have HDr : Hid (WD wr q p Y.count.count.count T F7) := Lib.hid ((HD10.out.below ((Below.refl _ w10).alloc (Nat.le_refl _) _)).keep HT.out hg10)
      have HBr : Hid (BlksOff wr w2.heap.size F7 sa l.length l) := Lib.hid (((HB210.out.below ((Below.refl _ w10).alloc (by omega) _))).touch (G := fun j => j = w10.heap.size) HT.out (by rw [alloc_size]; omega) (fun j hj e => by omega))
      have hwr : w10.heap.size + 1 ≤ wr.heap.size := by have := HT.out.size; rwa [alloc_size] at this
      obtain ⟨pat, hpat⟩ : ∃ pat, pat = turnS N bit P 32 := ⟨_, rfl⟩
      have hpl : pat.length = N := by rw [hpat]; exact turnS_length N bit P 32
      rw [← hpat] at HBK
      have hFLP : Calls Tryz.prog 19 #[.pointer (some ⟨p, 0, none⟩), .string ns, .int .i64 0, .slice (some ⟨w10.heap.size, 0, none⟩) N N] wr fun e w' => e = .returned (.int .i64 (T.flip ns.data.toList 0 pat).2) ∧ WD w' q p Y.count.count.count (T.flip ns.data.toList 0 pat).1 (grow F7 wr w') ∧ Touch F7 wr w' := by
        refine wd_liftB (R := fun e => e = .returned (.int .i64 (T.flip ns.data.toList 0 pat).2)) HDr.out fun FD hdr hsub => ?_
        have h9 := flip_any p T FD ns 0 (some ⟨w10.heap.size, 0, none⟩) N pat wr (by rw [HNS.out.2.2, objN_length]; have := HHH.out.2.2.1.key.2; unfold maxLen; omega) hdr (HSD.out.kept.drv.small (by decide))
          (reads_blk HBK.out (by omega) (by rw [List.length_map, Nat.mul_one])) (fun ad e hk => by injection e with e; subst e; exact hg10 _ (hsub _ hk) rfl) (by omega) (by have := HNN.out.2.2; omega)
        rw [hpl] at h9
        exact h9
      rw [HNS.out.1] at hFLP
      obtain ⟨f1, f2, f3⟩ := HSD.out.flipped HBS.out.2.2.2.2 pat (by rw [hpl]; exact HNN.out.1) (fun e => by have := HNN.out; rw [e] at this; have h9 : N = 0 := this.1; omega)
      rw [f1] at hFLP
      obtain ⟨T2, hT2⟩ : ∃ T2, T2 = (T.flip (objN h.key) 0 pat).1 := ⟨_, rfl⟩
      rw [← hT2] at hFLP f2 f3
      have HFL := Lib.hid hFLP
      have HT2F := Lib.hid (And.intro f2 f3)
      have HPT := Lib.hid (And.intro hpat hpl)
      have y10 : wr.cell? ⟨q, 0, none⟩ = some (.pointer (some ⟨p, 0, none⟩)) := HDr.out.cell0
      obtain ⟨av, hav⟩ : ∃ av, av = anyS N bit P 32 := ⟨_, rfl⟩
      obtain ⟨hv, hhv⟩ : ∃ hv, hv = headS N bit P (40 + h.key.length) 32 := ⟨_, rfl⟩
      rw [← hav, ← hhv]
      have HAV := Lib.hid (And.intro hav hhv)
      clear hFLP f1 f2 f3 hT2 hpat hpl hg10 hk hlt hav hhv
      go_wp2_with fail
      refine HFL.out.mono ?_
      clear HFL y10
      rintro e w12 ⟨rfl, hd12, ht12⟩
      obtain ⟨F12, hF12⟩ : ∃ F12 : Nat → Prop, F12 = grow F7 wr w12 := ⟨_, rfl⟩
      rw [← hF12] at hd12
      have HD12 := Lib.hid hd12
      have HT12 := Lib.hid ht12
      have h12 : wr.heap.size ≤ w12.heap.size := ht12.size
      have HF12 : Hid (∀ j, F12 j → W3.heap.size ≤ j ∧ j < w12.heap.size) := Lib.hid fun j hj => by
        rw [hF12] at hj
        rcases hj with hj | hj
        · have := HF7.out j hj; omega
        · omega
      have HN12 : Hid (¬F12 w2.heap.size) := Lib.hid fun h => by have := HF12.out _ h; omega
      have HS12 : Hid (Blk w12 w2.heap.size 31 SC) := Lib.hid (HSr.out.touch ht12 HN7.out)
      have HB12 : Hid (BlksOff w12 w2.heap.size F12 sa l.length l) := Lib.hid ((HBr.out.touch ht12 (by omega) (fun _ _ h => h)).mono (fun j hj h => by have := HF12.out j h; omega))
      have HBEL : Hid (Below w.heap.size w w12) := Lib.hid (by
        have l0 : ∀ {a b : World} {G : Nat → Prop}, Touch G a b → w.heap.size ≤ a.heap.size → (∀ k, G k → w.heap.size ≤ k) → Below w.heap.size a b := fun h1 h2 h3 => h1.below h2 h3
        have hFw : ∀ k, F k → w.heap.size ≤ k := fun k hk => by have := HF5.out k hk; omega
        have hF7w : ∀ k, F7 k → w.heap.size ≤ k := fun k hk => by have := HF7.out k hk; omega
        have b5 : Below w.heap.size w w5 := (HB2.out.trans (HB3.out.mono h02)).trans (HB5.out.mono (by omega))
        have b8 : Below w.heap.size w w8 := (b5.trans (l0 HT7.out (by omega) hFw)).trans (l0 HT8.out (by omega) hF7w)
        have b10 : Below w.heap.size w w10 := (b8.trans (HB9.out.mono (by omega))).trans (l0 HT10.out (by omega) hF7w)
        exact ((b10.trans (((Below.refl _ w10).alloc (by omega) _))).trans (l0 HT.out (by rw [alloc_size]; omega) (fun k hk => by omega))).trans (l0 HT12.out (by omega) hF7w))
      clear hd12 ht12 hF12
      cases av
      · have hz : pat = List.replicate N 0 := by rw [HPT.out.1]; exact turnS_none 32 HAV.out.1.symm
        have hrd : T2.read (objN h.key) = (shardBytes h l, 0) := by rw [HT2F.out.1, hz, HNN.out.1, xorB_zero, HBS.out.1]
        have hL12 := load_sh HS12.out HSC.out.1
        have hSH := showing_yes q p Y.count.count.count T2 F12 h HHH.out.1 HHH.out.2.1 l HLL.out sa l.length sc w12 (HB12.out.more (by omega)) HLN.out HD12.out (fun k hk => (HF12.out k hk).2) 8 HSDA.out.kept.wnd (by decide) (HT2F.out.2.small (by decide)) HSDA.out.calm hrd
        unfold shV at hSH
        rw [← HCE.out, ← HSE.out] at hSH
        have HSH2 := Lib.hid hSH
        clear hSH hz hrd
        go_wp2_with (first
          | (go_at_call 13; refine (num_any _ _).mono ?_; rintro e w' ⟨rfl, rfl⟩)
          | (refine wpList_load_at rfl 31 _ rfl ⟨w2.heap.size, 0, none⟩ rfl (.agg SC) hL12 ?_)
          | fail)
        refine HSH2.out.mono ?_
        rintro e w13 ⟨rfl, _, ht13⟩
        have HT13 := Lib.hid ht13
        clear ht13 hL12 HSH2
        go_wp2_with fail
        go_ret
        exact ⟨rfl, HBEL.out.trans (HT13.out.below (by omega) (fun k hk => by have := HF12.out k hk; omega))⟩
      · have hex : ∃ j, msgBit pat j = true := by rw [HPT.out.1]; exact any_bit.1 HAV.out.1.symm
        obtain ⟨g1, g2, g3⟩ := shard_turned h HHH.out.1 HHH.out.2.1 l HLL.out pat (p := bit) (by rw [HPT.out.2, ← HBS.out.1]; exact HNN.out.1) (by rw [HPT.out.1]; exact turnS_burst N bit P) hex
        obtain ⟨dt, hdt⟩ : ∃ dt, dt = xorB bs pat := ⟨_, rfl⟩
        have hrd : T2.read (objN h.key) = (dt, 0) := by rw [HT2F.out.1, hdt]
        rw [← HBS.out.1, ← hdt] at g1 g2 g3
        have hdl : dt.length ≤ 1099511627776 := by rw [hdt, xorB_length]; have := HNN.out; omega
        have hLK := blook_any q p Y.count.count.count T2 F12 h HHH.out.1 HHH.out.2.2.1.key.1 HHH.out.2.2.1.key.2 w12 HD12.out (fun k hk => (HF12.out k hk).2) (HSDA.out.kept.wnd.ok (by decide)) (HT2F.out.2.small (by decide)) Y.count.count.count.count dt 0 (by rw [HSDA.out.calm.read, hrd]) hdl
        unfold hdV at hLK
        rw [← HCE.out] at hLK
        have HLK2 := Lib.hid hLK
        have HGL := Lib.hid fun (W : World) (hW : WD W q p Y.count.count.count.count T2 F12) (hFW : ∀ k, F12 k → k < W.heap.size) => bglance_any q p Y.count.count.count.count T2 F12 h HHH.out.1 HHH.out.2.2.1.key.1 HHH.out.2.2.1.key.2 W hW hFW (HSDA.out.count.kept.wnd.ok (by decide)) (HT2F.out.2.small (by decide)) Y.count.count.count.count.count dt 0 (by rw [HSDA.out.count.calm.read, hrd]) hdl
        unfold hdV at HGL
        rw [← HCE.out] at HGL
        have hL12 := load_head_in (bv := .slice sa l.length sc) (by rw [← HSE.out]; exact HS12.out) HCS.out
        have HG1 := Lib.hid g1
        have HVH : Hid ((hv = true → ∀ v, GlanceAt dt 0 h v → v = .agg (seen0 3 0)) ∧ (hv = false → ∀ v, GlanceAt dt 0 h v → v = .agg (seenS ((hdCells h).push (.slice none 0 0))))) := Lib.hid ⟨fun e v hv' => by
          have hb := head_bit.1 (HAV.out.2.symm.trans e)
          rw [← HPT.out.1] at hb
          have g4 := g2 hb
          unfold GlanceAt at hv'
          rwa [if_neg (fun hh => g4 hh.2.1)] at hv', fun e v hv' => by
          have hb : ∀ j, msgBit pat j = true → ¬j < 8 * (40 + h.key.length) := fun j hj hl => by
            have h9 := (head_bit (n := N) (bit := bit) (P := P) (H := 40 + h.key.length)).2 ⟨j, by rw [← HPT.out.1]; exact hj, hl⟩
            rw [← HAV.out.2, e] at h9
            cases h9
          obtain ⟨g4, g5, g6⟩ := g3 hb
          unfold GlanceAt at hv'
          rw [g5] at hv'
          rw [if_pos ⟨rfl, g4, wantB_self h, g6.symm⟩] at hv'
          exact hv'⟩
        clear hex g1 g2 g3 hdt hrd hdl hLK
        go_wp2_with (first
          | (go_at_call 13; refine (num_any _ _).mono ?_; rintro e w' ⟨rfl, rfl⟩)
          | (refine wpList_load_at rfl 28 _ rfl ⟨w2.heap.size, 0, none⟩ rfl (.agg HC) hL12 ?_)
          | fail)
        refine HLK2.out.mono ?_
        clear HLK2 hL12
        rintro e w13 ⟨v, rfl, hla, hd13, ht13⟩
        obtain rfl : v = .agg (seen0 3 0) := by
          unfold LookAt at hla
          rwa [if_neg (fun hh => HG1.out hh.2.1)] at hla
        have HD13 := Lib.hid hd13
        have HT13 := Lib.hid ht13
        have h1213 : w12.heap.size ≤ w13.heap.size := ht13.size
        have HS13 : Hid (Blk w13 w2.heap.size 31 SC) := Lib.hid (HS12.out.touch ht13 HN12.out)
        clear hla hd13 ht13
        obtain ⟨W14, hr14, hk14, ht14, _⟩ := store_seen (w := w13.alloc (.cells (seen0 0 0) 57)) (R := w13.heap.size) (CK := seen0 3 0) (Blk.new _ _ _) rfl rfl (seen0_one _ _)
        have HB14 : Hid (Below w13.heap.size w13 W14) := Lib.hid (((Below.refl _ w13).alloc (Nat.le_refl _) _).trans (ht14.below (by rw [alloc_size]; exact Nat.le_succ _) (fun k hk => Nat.le_of_eq hk.symm)))
        have HK14 := Lib.hid hk14
        have h14 : w13.heap.size + 1 ≤ W14.heap.size := hk14.lt
        have HS14 : Hid (Blk W14 w2.heap.size 31 SC) := Lib.hid (HS13.out.below HB14.out (by omega))
        clear hk14 ht14
        have hL14 := load_head_in (bv := .slice sa l.length sc) (by rw [← HSE.out]; exact HS14.out) HCS.out
        go_wp2_with (first
          | (refine wpList_store_at rfl 57 _ _ rfl ⟨w13.heap.size, 0, none⟩ rfl (.agg (seen0 3 0)) rfl W14 hr14 ?_)
          | (refine wpList_load_at rfl 28 _ rfl ⟨w2.heap.size, 0, none⟩ rfl (.agg HC) hL14 ?_)
          | fail)
        refine (HGL.out W14 (HD13.out.below HB14.out) (fun k hk => by have := HF12.out k hk; omega)).mono ?_
        clear HGL hL14 hr14
        rintro e w15 ⟨v, rfl, hga, hd15, ht15⟩
        have HGA := Lib.hid hga
        have HT15 := Lib.hid ht15
        have h1415 : W14.heap.size ≤ w15.heap.size := ht15.size
        have HS15 : Hid (Blk w15 w2.heap.size 31 SC) := Lib.hid (HS14.out.touch ht15 HN12.out)
        have HK15 : Hid (Blk w15 w13.heap.size 57 (seen0 3 0)) := Lib.hid (HK14.out.touch ht15 (fun hh => by have := HF12.out _ hh; omega))
        have HB15 : Hid (Below w.heap.size w w15) := Lib.hid (((HBEL.out.trans (HT13.out.below (by omega) (fun k hk => by have := HF12.out k hk; omega))).trans (HB14.out.mono (by omega))).trans (ht15.below (by omega) (fun k hk => by have := HF12.out k hk; omega)))
        clear hga hd15 ht15
        cases hv
        · obtain rfl := HVH.out.2 rfl v HGA.out
          rw [← HCE.out]
          have HPS : Hid ((HC.push (.slice none 0 0)).size = 17) := Lib.hid (by rw [Array.size_push, HCS.out])
          have HPO : Hid (∀ v ∈ (HC.push (.slice none 0 0)).toList, v.oneCell' = true) := Lib.hid (push_one HON.out)
          obtain ⟨W16, hr16, hk16, ht16, _⟩ := store_seen (w := w15.alloc (.cells (seen0 0 0) 57)) (R := w15.heap.size) (CK := seenS (HC.push (.slice none 0 0))) (Blk.new _ _ _) rfl (seenS_size HPS.out) (seenS_one HPO.out)
          have HB16 : Hid (Below w15.heap.size w15 W16) := Lib.hid (((Below.refl _ w15).alloc (Nat.le_refl _) _).trans (ht16.below (by rw [alloc_size]; exact Nat.le_succ _) (fun k hk => Nat.le_of_eq hk.symm)))
          have x0 : W16.cell? ⟨w13.heap.size, 0, none⟩ = some (.int .i64 3) := (HK15.out.below HB16.out HK15.out.lt).cell 0
          have x17 : W16.cell? ⟨w13.heap.size, 17, none⟩ = some (.slice none 0 0) := (HK15.out.below HB16.out HK15.out.lt).cell 17
          have z0 : W16.cell? ⟨w15.heap.size, 0, none⟩ = some (.int .i64 2) := hk16.cell 0
          have hL16 := load_hd_in hk16 HCS.out
          have hL17 := load_head_in (bv := .slice sa l.length sc) (by rw [← HSE.out]; exact HS15.out.below HB16.out (by omega)) HCS.out
          have hEQ : ∀ W : World, (binOp .eql 28 (.agg HC) (.agg HC)).run Tryz.prog W = .ok (.bool true) W := fun W => by
            have h9 := hd_eql h h HHH.out.1 HHH.out.1 W
            rw [hdEq_self] at h9
            unfold hdV at h9
            rw [← HCE.out] at h9
            exact h9
          clear hk16 ht16
          go_wp2_with (first
            | (refine wpList_store_at rfl 57 _ _ rfl ⟨w15.heap.size, 0, none⟩ rfl (.agg (seenS (HC.push (.slice none 0 0)))) rfl W16 hr16 ?_)
            | (refine wpList_load_if 28 _ rfl (by rfl) ⟨w15.heap.size, 1, none⟩ rfl (.agg HC) hL16 ?_)
            | (refine wpList_load_if 28 _ rfl (by rfl) ⟨w2.heap.size, 0, none⟩ rfl (.agg HC) hL17 ?_)
            | fail)
          go_ret
          exact ⟨rfl, HB15.out.trans (HB16.out.mono (by omega))⟩
        · obtain rfl := HVH.out.1 rfl v HGA.out
          obtain ⟨W16, hr16, hk16, ht16, _⟩ := store_seen (w := w15.alloc (.cells (seen0 0 0) 57)) (R := w15.heap.size) (CK := seen0 3 0) (Blk.new _ _ _) rfl rfl (seen0_one _ _)
          have HB16 : Hid (Below w15.heap.size w15 W16) := Lib.hid (((Below.refl _ w15).alloc (Nat.le_refl _) _).trans (ht16.below (by rw [alloc_size]; exact Nat.le_succ _) (fun k hk => Nat.le_of_eq hk.symm)))
          have x0 : W16.cell? ⟨w13.heap.size, 0, none⟩ = some (.int .i64 3) := (HK15.out.below HB16.out HK15.out.lt).cell 0
          have x17 : W16.cell? ⟨w13.heap.size, 17, none⟩ = some (.slice none 0 0) := (HK15.out.below HB16.out HK15.out.lt).cell 17
          have z0 : W16.cell? ⟨w15.heap.size, 0, none⟩ = some (.int .i64 3) := hk16.cell 0
          clear hk16 ht16
          go_wp2_with (first
            | (refine wpList_store_at rfl 57 _ _ rfl ⟨w15.heap.size, 0, none⟩ rfl (.agg (seen0 3 0)) rfl W16 hr16 ?_)
            | fail)
          go_ret
          exact ⟨rfl, HB15.out.trans (HB16.out.mono (by omega))⟩
end Go.Proofs.YtcbebefdbdppdaaGreat
namespace Go.Proofs.YtcbebefdbdppdaaGreat
open Go.ChangeShapes Go.WideShapes Go.ChangeAt Go.RowKit Go.Maps

theorem u8_ofS {n : Int} (h0 : 0 ≤ n) (h1 : n ≤ 255) : ∃ a : UInt8, n = (a.toNat : Int) := ⟨UInt8.ofNat n.toNat, by rw [UInt8.toNat_ofNat']; omega⟩
theorem mapM_some_of {α β : Type} {f : α → Option β} : ∀ {l : List α} {ys : List β}, l.mapM f = some ys → ∀ x ∈ l, ∃ y, f x = some y
  | [], _, _, x, hx => by simp at hx
  | a :: l, ys, h, x, hx => by
    rw [List.mapM_cons] at h
    cases ha : f a with
    | none => rw [ha] at h; simp at h
    | some b =>
      rw [ha] at h
      cases hl : l.mapM f with
      | none => rw [hl] at h; simp at h
      | some bs =>
        rcases List.mem_cons.1 hx with rfl | hx
        · exact ⟨b, ha⟩
        · exact mapM_some_of hl x hx
section
variable {H : Type} {enc : TypeId × Value → H} {w : World} {base : Nat} {spare : Nat → Bool} {held : Bool}
theorem trod_byte {fuel : Nat} {v : Value} {y : DataW H × List MemPlace} (h : DataW.trod enc Tryz.prog w base spare held fuel 5 [v] = some y) : ∃ a : UInt8, v = .int .u8 (a.toNat : Int) := by
  obtain ⟨n, hv, _, hw⟩ := DataW.trod_int Tryz.underlying5 h
  injection hv with hv
  have h2 : 0 ≤ n ∧ n ≤ 255 := by
    have hmin : IntKind.u8.min = 0 := rfl
    have hmax : IntKind.u8.max = 255 := rfl
    simp only [Lit.wf, Bool.and_eq_true, decide_eq_true_eq, hmin, hmax] at hw
    exact hw
  obtain ⟨a, rfl⟩ := u8_ofS h2.1 h2.2
  exact ⟨a, hv⟩
theorem trod_i64 {fuel : Nat} {v : Value} {y : DataW H × List MemPlace} (h : DataW.trod enc Tryz.prog w base spare held fuel 3 [v] = some y) : ∃ n : Int, v = .int .i64 n ∧ -9223372036854775808 ≤ n ∧ n ≤ 9223372036854775807 := by
  obtain ⟨n, hv, _, hw⟩ := DataW.trod_int Tryz.underlying3 h
  injection hv with hv
  have hmin : IntKind.i64.min = -9223372036854775808 := rfl
  have hmax : IntKind.i64.max = 9223372036854775807 := rfl
  simp only [Lit.wf, Bool.and_eq_true, decide_eq_true_eq, hmin, hmax] at hw
  exact ⟨n, hv, hw⟩
theorem trod_arr {P : Program} {t e : TypeId} {fuel m : Nat} {cs : List Value} {x : DataW H × List MemPlace} (ht : P.underlying t = some (.array m e)) (hce : P.cellsOf e = 1) (h : DataW.trod enc P w base spare held fuel t cs = some x) :
    ∀ i, i < m → ∃ n y, DataW.trod enc P w base spare held n e ((cs.drop i).take 1) = some y := by
  cases fuel with
  | zero => simp [DataW.trod] at h
  | succ n =>
    unfold DataW.trod at h
    rw [ht] at h
    simp only [hce, Nat.mul_one] at h
    split at h
    · obtain ⟨ys, hys, _⟩ := Option.map_eq_some_iff.1 h
      intro i hi
      obtain ⟨y, hy⟩ := mapM_some_of hys i (by simpa using hi)
      exact ⟨n, y, hy⟩
    · cases h
theorem trod_arr8 {fuel : Nat} {c0 c1 c2 c3 c4 c5 c6 c7 : Value} {x : DataW H × List MemPlace} (h : DataW.trod enc Tryz.prog w base spare held fuel 22 [c0, c1, c2, c3, c4, c5, c6, c7] = some x) :
    ∃ a0 a1 a2 a3 a4 a5 a6 a7 : UInt8, [c0, c1, c2, c3, c4, c5, c6, c7] = [Value.int .u8 (a0.toNat : Int), Value.int .u8 (a1.toNat : Int), Value.int .u8 (a2.toNat : Int), Value.int .u8 (a3.toNat : Int), Value.int .u8 (a4.toNat : Int), Value.int .u8 (a5.toNat : Int), Value.int .u8 (a6.toNat : Int), Value.int .u8 (a7.toNat : Int)] := by
  have k5 : Tryz.prog.cellsOf 5 = 1 := by kernel_rfl
  have g := trod_arr Tryz.underlying22 k5 h
  obtain ⟨m0, y0, h0⟩ := g 0 (by decide)
  obtain ⟨m1, y1, h1⟩ := g 1 (by decide)
  obtain ⟨m2, y2, h2⟩ := g 2 (by decide)
  obtain ⟨m3, y3, h3⟩ := g 3 (by decide)
  obtain ⟨m4, y4, h4⟩ := g 4 (by decide)
  obtain ⟨m5, y5, h5⟩ := g 5 (by decide)
  obtain ⟨m6, y6, h6⟩ := g 6 (by decide)
  obtain ⟨m7, y7, h7⟩ := g 7 (by decide)
  obtain ⟨a0, rfl⟩ := trod_byte (v := c0) h0
  obtain ⟨a1, rfl⟩ := trod_byte (v := c1) h1
  obtain ⟨a2, rfl⟩ := trod_byte (v := c2) h2
  obtain ⟨a3, rfl⟩ := trod_byte (v := c3) h3
  obtain ⟨a4, rfl⟩ := trod_byte (v := c4) h4
  obtain ⟨a5, rfl⟩ := trod_byte (v := c5) h5
  obtain ⟨a6, rfl⟩ := trod_byte (v := c6) h6
  obtain ⟨a7, rfl⟩ := trod_byte (v := c7) h7
  exact ⟨a0, a1, a2, a3, a4, a5, a6, a7, rfl⟩
end
section
variable {H : Type} {enc : TypeId × Value → H} {P : Program} {w : World} {base : Nat} {spare : Nat → Bool} {held : Bool}
/-- A slice of one-cell elements, opened as a list. -/
theorem open_row {α : Type} [Inhabited α] (f : α → Value) {t e : TypeId} {fuel : Nat} {v : Value} {x : DataW H × List MemPlace} (ht : P.underlying t = some (.slice e)) (hc : P.cellsOf e = 1)
    (hdec : ∀ n V d, DataW.trod enc P w base spare held n e [V] = some d → ∃ a, V = f a) (h : DataW.trod enc P w base spare held fuel t [v] = some x) :
    ∃ A n c l, v = .slice A n c ∧ List.length l = n ∧ n ≤ c ∧ Reads w w.heap.size 1 A n (l.map f) := by
  rcases Go.Deep.open_slice1 ht hc h with ⟨hcs, _⟩ | ⟨ad, len, cap, m, n, V, D, Pl, hcs, _, hl, hm, hmm, hx, hcell⟩
  · simp only [List.cons.injEq, and_true] at hcs
    exact ⟨none, 0, 0, [], hcs, rfl, Nat.le_refl _, Reads.none_⟩
  · simp only [List.cons.injEq, and_true] at hcs
    have hml : len ≤ m := by rw [hmm]; split <;> omega
    obtain ⟨B, hB⟩ : ∃ B : Nat → α, ∀ i, i < len → V i = f (B i) := Go.Deep.choose_lt (p := fun i b => V i = f b) fun i hi => by
      obtain ⟨_, htr⟩ := hcell i (by omega)
      exact hdec _ _ _ htr
    refine ⟨some ad, len, cap, (List.range len).map B, hcs, by simp, hl, by simp, fun hn => ⟨ad, rfl, ?_, fun j u hu => ?_⟩⟩
    · have h0 := (hcell 0 (by omega)).1
      have := World.block_lt_of_cell? w _ h0
      rwa [block_of_add] at this
    · have hj : j < len := by
        rcases Nat.lt_or_ge j len with h | h
        · exact h
        · rw [List.getElem?_eq_none (by simp; exact h)] at hu; cases hu
      rw [(hcell j (by omega)).1, hB j hj]
      simp [hj] at hu
      rw [hu]
end
section
variable {H : Type} {enc : TypeId × Value → H} {w : World} {base : Nat} {spare : Nat → Bool} {held : Bool}
theorem dec_byte (n : Nat) (V : Value) (d : DataW H × List MemPlace) (h : DataW.trod enc Tryz.prog w base spare held n 5 [V] = some d) : ∃ b, V = B8 b := by
  obtain ⟨z, hz, _, hwf⟩ := DataW.trod_int Tryz.underlying5 h
  simp only [List.cons.injEq, and_true] at hz
  simp only [Lit.wf, Bool.and_eq_true, decide_eq_true_eq] at hwf
  have h1 : (0 : Int) ≤ z := hwf.1
  have h2 : z ≤ 255 := hwf.2
  refine ⟨UInt8.ofNat z.toNat, ?_⟩
  rw [hz]
  unfold B8
  congr 1
  rw [UInt8.toNat_ofNat']
  omega
theorem open_bytes {fuel : Nat} {v : Value} {x : DataW H × List MemPlace} (h : DataW.trod enc Tryz.prog w base spare held fuel 46 [v] = some x) : ∃ A c l, v = .slice A (List.length l) c ∧ Reads w w.heap.size 1 A l.length (l.map B8) := by
  have k5 : Tryz.prog.cellsOf 5 = 1 := by kernel_rfl
  obtain ⟨A, n, c, l, rfl, rfl, _, hr⟩ := open_row B8 Tryz.underlying46 k5 dec_byte h
  exact ⟨A, c, l, rfl, hr⟩
theorem open_blocks {fuel : Nat} {v : Value} {x : DataW H × List MemPlace} (h : DataW.trod enc Tryz.prog w base spare held fuel 29 [v] = some x) : ∃ A n c l, v = .slice A n c ∧ BlksAt w w.heap.size A n l := by
  have k5 : Tryz.prog.cellsOf 46 = 1 := by kernel_rfl
  rcases Go.Deep.open_slice1 Tryz.underlying29 k5 h with ⟨hcs, _⟩ | ⟨ad, len, cap, m, n, V, D, Pl, hcs, _, hl, hm, hmm, hx, hcell⟩
  · simp only [List.cons.injEq, and_true] at hcs
    exact ⟨none, 0, 0, [], hcs, rfl, [], Reads.none_, fun j x hx => by cases hx⟩
  · simp only [List.cons.injEq, and_true] at hcs
    have hml : len ≤ m := by rw [hmm]; split <;> omega
    obtain ⟨B, hB⟩ : ∃ B : Nat → List UInt8, ∀ i, i < len → ∃ A' c', V i = .slice A' (B i).length c' ∧ Reads w w.heap.size 1 A' (B i).length ((B i).map B8) := Go.Deep.choose_lt (p := fun i (b : List UInt8) => ∃ A' c', V i = .slice A' b.length c' ∧ Reads w w.heap.size 1 A' b.length (b.map B8)) fun i hi => by
      obtain ⟨_, htr⟩ := hcell i (by omega)
      obtain ⟨A', c', b, h1, h2⟩ := open_bytes htr
      exact ⟨b, A', c', h1, h2⟩
    refine ⟨some ad, len, cap, (List.range len).map B, hcs, by simp, (List.range len).map V, ⟨by simp, fun hn => ⟨ad, rfl, ?_, fun j u hu => ?_⟩⟩, fun j x hx => ?_⟩
    · have h0 := (hcell 0 (by omega)).1
      have := World.block_lt_of_cell? w _ h0
      rwa [block_of_add] at this
    · have hj : j < len := by
        rcases Nat.lt_or_ge j len with h | h
        · exact h
        · rw [List.getElem?_eq_none (by simp; exact h)] at hu; cases hu
      rw [(hcell j (by omega)).1]
      simp [hj] at hu
      rw [hu]
    · have hj : j < len := by
        rcases Nat.lt_or_ge j len with h | h
        · exact h
        · rw [List.getElem?_eq_none (by simp; exact h)] at hx; cases hx
      obtain ⟨A', c', h1, h2⟩ := hB j hj
      simp [hj] at hx
      subst hx
      exact ⟨A', c', by simp [hj, h1], h2⟩
set_option maxRecDepth 100000 in
theorem open_head {fuel : Nat} {cs : List Value} {y : DataW H × List MemPlace} (h : DataW.trod enc Tryz.prog w base spare held fuel 28 cs = some y) : ∃ l : Hd, cs = (hdCells l).toList ∧ l.st.length = 8 := by
  obtain ⟨xs, n, _, _, hlen, hxl, hf⟩ := DataW.trod_struct Tryz.underlying28 h
  have k28 : Tryz.prog.cellsOf 28 = 16 := by kernel_rfl
  have k22 : Tryz.prog.cellsOf 22 = 8 := by kernel_rfl
  have k24 : Tryz.prog.cellsOf 24 = 3 := by kernel_rfl
  have k3 : Tryz.prog.cellsOf 3 = 1 := by kernel_rfl
  have k9 : Tryz.prog.cellsOf 9 = 1 := by kernel_rfl
  have k26 : Tryz.prog.cellsOf 26 = 2 := by kernel_rfl
  rw [k28] at hlen
  clear h
  match cs, xs, hlen, hxl with
  | [c0, c1, c2, c3, c4, c5, c6, c7, c8, c9, c10, c11, c12, c13, c14, c15], [y0, y1, y2, y3, y4, y5], _, _ =>
    have e0 : DataW.trod enc Tryz.prog w base spare held n 22 (List.take (Tryz.prog.cellsOf 22) [c0, c1, c2, c3, c4, c5, c6, c7, c8, c9, c10, c11, c12, c13, c14, c15]) = some y0 := hf 0 _ rfl
    have e1 : DataW.trod enc Tryz.prog w base spare held n 24 (List.take (Tryz.prog.cellsOf 24) [c8, c9, c10, c11, c12, c13, c14, c15]) = some y1 := hf 1 _ rfl
    have e2 : DataW.trod enc Tryz.prog w base spare held n 9 (List.take (Tryz.prog.cellsOf 9) [c11, c12, c13, c14, c15]) = some y2 := hf 2 _ rfl
    have e3 : DataW.trod enc Tryz.prog w base spare held n 3 (List.take (Tryz.prog.cellsOf 3) [c12, c13, c14, c15]) = some y3 := hf 3 _ rfl
    have e4 : DataW.trod enc Tryz.prog w base spare held n 3 (List.take (Tryz.prog.cellsOf 3) [c13, c14, c15]) = some y4 := hf 4 _ rfl
    have e5 : DataW.trod enc Tryz.prog w base spare held n 26 (List.take (Tryz.prog.cellsOf 26) [c14, c15]) = some y5 := hf 5 _ rfl
    rw [k22] at e0
    rw [k24] at e1
    rw [k9] at e2
    rw [k3] at e3 e4
    rw [k26] at e5
    obtain ⟨a0, a1, a2, a3, a4, a5, a6, a7, ha⟩ := trod_arr8 (c0 := c0) e0
    obtain ⟨z0, z1, z2, n', _, _, f0, f1, f2⟩ := Go.Deep.trod_struct3 Tryz.underlying24 e1
    have d0 : DataW.trod enc Tryz.prog w base spare held n' 3 (List.take (Tryz.prog.cellsOf 3) [c8, c9, c10]) = some z0 := f0
    have d1 : DataW.trod enc Tryz.prog w base spare held n' 3 (List.take (Tryz.prog.cellsOf 3) [c9, c10]) = some z1 := f1
    have d2 : DataW.trod enc Tryz.prog w base spare held n' 3 (List.take (Tryz.prog.cellsOf 3) [c10]) = some z2 := f2
    rw [k3] at d0 d1 d2
    obtain ⟨ys, n2, _, _, _, hyl, hg⟩ := DataW.trod_struct Tryz.underlying26 e5
    match ys, hyl with
    | [v0, v1], _ =>
      have q0 : DataW.trod enc Tryz.prog w base spare held n2 3 (List.take (Tryz.prog.cellsOf 3) [c14, c15]) = some v0 := hg 0 _ rfl
      have q1 : DataW.trod enc Tryz.prog w base spare held n2 3 (List.take (Tryz.prog.cellsOf 3) [c15]) = some v1 := hg 1 _ rfl
      rw [k3] at q0 q1
      obtain ⟨nk, rfl, _⟩ := trod_i64 (v := c8) d0
      obtain ⟨nm, rfl, _⟩ := trod_i64 (v := c9) d1
      obtain ⟨nb, rfl, _⟩ := trod_i64 (v := c10) d2
      obtain ⟨s, hs, _, _⟩ := DataW.trod_string Tryz.underlying9 e2
      have hs' : c11 = .string s := by injection hs
      obtain ⟨ns, rfl, _⟩ := trod_i64 (v := c12) e3
      obtain ⟨ni, rfl, _⟩ := trod_i64 (v := c13) e4
      obtain ⟨ne, rfl, _⟩ := trod_i64 (v := c14) q0
      obtain ⟨nc, rfl, _⟩ := trod_i64 (v := c15) q1
      refine ⟨⟨[a0, a1, a2, a3, a4, a5, a6, a7], nk, nm, nb, s.data.toList, ns, ni, ne, nc⟩, ?_, rfl⟩
      injection ha with h0 ha
      injection ha with h1 ha
      injection ha with h2 ha
      injection ha with h3 ha
      injection ha with h4 ha
      injection ha with h5 ha
      injection ha with h6 ha
      injection ha with h7 ha
      subst h0 h1 h2 h3 h4 h5 h6 h7 hs'
      rfl
set_option maxRecDepth 100000 in
theorem open_shard {fuel : Nat} {cs : List Value} {y : DataW H × List MemPlace} (h : DataW.trod enc Tryz.prog w base spare held fuel 31 cs = some y) : ∃ (hd : Hd) (A : Option Addr) (n c : Nat) (l0 : List (List UInt8)), cs = ((hdCells hd).push (.slice A n c)).toList ∧ hd.st.length = 8 ∧ BlksAt w w.heap.size A n l0 := by
  obtain ⟨xs, n, _, _, hlen, hxl, hf⟩ := DataW.trod_struct Tryz.underlying31 h
  have k31 : Tryz.prog.cellsOf 31 = 17 := by kernel_rfl
  have k28 : Tryz.prog.cellsOf 28 = 16 := by kernel_rfl
  have k29 : Tryz.prog.cellsOf 29 = 1 := by kernel_rfl
  rw [k31] at hlen
  clear h
  match cs, xs, hlen, hxl with
  | [c0, c1, c2, c3, c4, c5, c6, c7, c8, c9, c10, c11, c12, c13, c14, c15, c16], [y0, y1], _, _ =>
    have e0 : DataW.trod enc Tryz.prog w base spare held n 28 (List.take (Tryz.prog.cellsOf 28) [c0, c1, c2, c3, c4, c5, c6, c7, c8, c9, c10, c11, c12, c13, c14, c15, c16]) = some y0 := hf 0 _ rfl
    have e1 : DataW.trod enc Tryz.prog w base spare held n 29 (List.take (Tryz.prog.cellsOf 29) [c16]) = some y1 := hf 1 _ rfl
    rw [k28] at e0
    rw [k29] at e1
    obtain ⟨hd, hh, hs⟩ := open_head e0
    obtain ⟨A, m, c, l0, rfl, hb⟩ := open_blocks (v := c16) e1
    refine ⟨hd, A, m, c, l0, ?_, hs, hb⟩
    rw [Array.toList_push, ← hh]
    rfl
end
end Go.Proofs.YtcbebefdbdppdaaGreat

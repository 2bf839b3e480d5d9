/- naming.Key walked.; naming.Under of no prefix: the keys whose files are among the names, rising, each once.; naming.Under of no prefix, walked. -/
import Derived.Test.YtcbebefdbdppdaaGreatM14
import Derived.Test.YtcbebefdbdppdaaGreatM24
import Derived.Sort.KeysCollected
import Derived.Sort.OwnSorted
import Derived.Maps.OwnSet
import Derived.Maps.RangeWalk
namespace Go.Proofs.YtcbebefdbdppdaaGreat
open Go.RowKit Go.Maps Go.Shelf
theorem hasPrefix_o (nm : List UInt8) : Lib.hasPrefix nm [111] = (nm.head? == some 111) := by
  cases nm with
  | nil => rfl
  | cons a l => simp [Lib.hasPrefix, List.isPrefixOf]; exact Bool.beq_comm
def hexC (hex : List UInt8) (n k : Nat) : Array Value := (((hexOf hex).take k).map B8 ++ List.replicate (n - k) (Value.int .u8 0)).toArray
theorem hexOf_length (hex : List UInt8) : (hexOf hex).length = hex.length / 2 := by unfold hexOf; rw [List.length_map, List.length_range]
theorem hexOf_get {hex : List UInt8} {k : Nat} (hk : k < hex.length / 2) : (hexOf hex)[k]? = some (hexAt hex k) := by
  unfold hexOf
  rw [List.getElem?_map, List.getElem?_range hk]; rfl
theorem hexC_zero (hex : List UInt8) (n : Nat) : hexC hex n 0 = madeCells (Value.int .u8 0).cells n := by
  unfold hexC
  rw [List.take_zero]
  apply Array.ext'
  rw [show (Value.int .u8 0).cells = #[Value.int .u8 0] from rfl, toList_madeCells_one]
  simp
theorem hexC_step {hex : List UInt8} {n k : Nat} (hn : n = hex.length / 2) (hk : k < n) : (hexC hex n k).setIfInBounds k (B8 (hexAt hex k)) = hexC hex n (k + 1) := by
  have hl : ((hexOf hex).take k).length = k := by rw [List.length_take, hexOf_length]; omega
  unfold hexC
  rw [List.take_add_one, hexOf_get (hn ▸ hk), List.setIfInBounds_toArray, List.set_append_right _ _ (by rw [List.length_map, hl]; exact Nat.le_refl _), List.length_map, hl, Nat.sub_self, show n - k = (n - (k + 1)) + 1 by omega, List.replicate_succ, List.set_cons_zero, List.map_append, List.append_assoc]
  rfl
theorem hexC_done {hex : List UInt8} {n : Nat} (hn : n = hex.length / 2) : (hexC hex n n).toList = (hexOf hex).map B8 := by
  unfold hexC
  rw [Nat.sub_self, List.replicate_zero, List.append_nil, List.take_of_length_le (by rw [hexOf_length]; omega)]
theorem keyN_bad {nm : List UInt8} (h : nm.head? ≠ some 111) : keyN nm = none := by
  unfold keyN
  split
  · exact absurd rfl h
  · rfl
set_option maxRecDepth 100000 in
theorem key_other (nm : List UInt8) (h : nm.head? ≠ some 111) (w : World) : Calls Tryz.prog 137 #[strV nm] w fun e w' => e = .returned (.tuple #[strV [], .bool false]) ∧ w' = w := by
  have HC := Lib.hid fun W => Any.strings_CutPrefix Tryz.lays103 ⟨nm.toArray⟩ ⟨#[111]⟩ W
  rw [show (⟨nm.toArray⟩ : ByteArray).data.toList = nm from rfl, show (⟨#[111]⟩ : ByteArray).data.toList = [111] from rfl, hasPrefix_o, show (nm.head? == some 111) = false from beq_eq_false_iff_ne.2 h] at HC
  unfold strV
  generalize (⟨(Lib.trimPrefix nm [111]).toArray⟩ : ByteArray) = s at HC
  generalize (⟨nm.toArray⟩ : ByteArray) = t at HC ⊢
  clear h
  go_enter Tryz.func137, Tryz.ntmps137
  go_wp2_with (go_at_call 175; refine (HC.out _).mono ?_; rintro e w' ⟨rfl, rfl⟩)
  go_ret2
  exact ⟨rfl, rfl⟩
set_option maxRecDepth 100000 in
theorem key_odd (hex : List UInt8) (hl : hex.length ≤ 1024) (h : hex = [] ∨ hex.length % 2 ≠ 0 ∨ 510 < hex.length) (w : World) : Calls Tryz.prog 137 #[strV (111 :: hex)] w fun e w' => e = .returned (.tuple #[strV [], .bool false]) ∧ w' = w := by
  have HC := Lib.hid fun W => Any.strings_CutPrefix Tryz.lays103 ⟨(111 :: hex).toArray⟩ ⟨#[111]⟩ W
  rw [show (⟨(111 :: hex).toArray⟩ : ByteArray).data.toList = 111 :: hex from rfl, show (⟨#[111]⟩ : ByteArray).data.toList = [111] from rfl, show Lib.hasPrefix (111 :: hex) [111] = true from by simp [Lib.hasPrefix, List.isPrefixOf], show Lib.trimPrefix (111 :: hex) [111] = hex from by simp [Lib.trimPrefix, Lib.hasPrefix, List.isPrefixOf]] at HC
  unfold strV
  obtain ⟨s, hs⟩ : ∃ s : ByteArray, s = ⟨hex.toArray⟩ := ⟨_, rfl⟩
  have hsz : s.size = hex.length := by rw [hs]; exact List.size_toArray
  rw [← hs] at HC
  generalize (⟨(111 :: hex).toArray⟩ : ByteArray) = t at HC ⊢
  rcases (show hex = [] ∨ (0 < hex.length ∧ hex.length % 2 ≠ 0) ∨ (0 < hex.length ∧ hex.length % 2 = 0 ∧ 510 < hex.length) by
    by_cases h0 : hex = []
    · exact .inl h0
    · have : 0 < hex.length := List.length_pos_iff.2 h0
      rcases h with h | h | h
      · exact absurd h h0
      · exact .inr (.inl ⟨this, h⟩)
      · by_cases h2 : hex.length % 2 = 0
        · exact .inr (.inr ⟨this, h2, h⟩)
        · exact .inr (.inl ⟨this, h2⟩)) with h0 | h1 | h2
  · have he : s = { data := #[] } := by rw [hs, h0]
    clear hs hsz h
    subst he
    go_enter Tryz.func137, Tryz.ntmps137
    go_wp2_with (go_at_call 175; refine (HC.out _).mono ?_; rintro e w' ⟨rfl, rfl⟩)
    go_ret2
    exact ⟨rfl, rfl⟩
  · have t1 := str_some (s := s) (by omega)
    have t2 := str_some' (s := s) (by omega)
    have t3 : ¬ ((s.size : Int)).tmod 2 = 0 := by rw [Int.tmod_eq_emod_of_nonneg (Int.natCast_nonneg _)]; omega
    clear hs hsz h h1 hl
    go_enter Tryz.func137, Tryz.ntmps137
    go_wp2_with (go_at_call 175; refine (HC.out _).mono ?_; rintro e w' ⟨rfl, rfl⟩)
    go_ret2
    exact ⟨rfl, rfl⟩
  · have t1 := str_some (s := s) (by omega)
    have t2 := str_some' (s := s) (by omega)
    have t3 : ((s.size : Int)).tmod 2 = 0 := by rw [Int.tmod_eq_emod_of_nonneg (Int.natCast_nonneg _)]; omega
    have t4 : (510 : Int) < (s.size : Int) := by omega
    clear hs hsz h h2 hl
    go_enter Tryz.func137, Tryz.ntmps137
    go_wp2_with (go_at_call 175; refine (HC.out _).mono ?_; rintro e w' ⟨rfl, rfl⟩)
    go_ret2
    exact ⟨rfl, rfl⟩
theorem hexOf_at {hex : List UInt8} {k : Nat} (hk : k < hex.length / 2) {c d : UInt8} (hc : hex[2 * k]? = some c) (hd : hex[2 * k + 1]? = some d) : B8 (hexAt hex k) = .int .u8 ((16 * valN c + valN d : Nat) : Int) := by
  unfold hexAt B8
  rw [List.getD_eq_getElem?_getD, List.getD_eq_getElem?_getD, hc, hd]
  have h1 := valN_lt c
  have h2 := valN_lt d
  simp only [Option.getD_some]
  rw [UInt8.toNat_ofNat', Nat.mod_eq_of_lt (by omega)]
theorem all_pairs {hex : List UInt8} {n : Nat} (he : hex.length = 2 * n) (h : ∀ j < n, ∃ c d, hex[2 * j]? = some c ∧ hex[2 * j + 1]? = some d ∧ isD c = true ∧ isD d = true) : hex.all isD = true := by
  rw [List.all_eq_true]
  intro x hx
  obtain ⟨i, hi, rfl⟩ := List.mem_iff_getElem.1 hx
  obtain ⟨c, d, hc, hd, h1, h2⟩ := h (i / 2) (by omega)
  rcases Nat.mod_two_eq_zero_or_one i with e | e
  · rw [show 2 * (i / 2) = i by omega, List.getElem?_eq_getElem hi] at hc
    injection hc with hc
    rw [hc]; exact h1
  · rw [show 2 * (i / 2) + 1 = i by omega, List.getElem?_eq_getElem hi] at hd
    injection hd with hd
    rw [hd]; exact h2
theorem all_not {hex : List UInt8} {i : Nat} {c : UInt8} (hc : hex[i]? = some c) (h : isD c = false) : hex.all isD = false := by
  cases e : hex.all isD
  · rfl
  · have := (List.all_eq_true.1 e) c (List.mem_of_getElem? hc)
    rw [h] at this; cases this
set_option maxRecDepth 100000 in
set_option maxHeartbeats 4000000 in
theorem key_hex (hex : List UInt8) (n : Nat) (he : hex.length = 2 * n) (hn1 : 1 ≤ n) (hn2 : n ≤ 255) (w : World) : Calls Tryz.prog 137 #[strV (111 :: hex)] w fun e w' => e = .returned (.tuple #[strV (if hex.all isD = true then hexOf hex else []), .bool (hex.all isD)]) ∧ Below w.heap.size w w' := by
  have HC := Lib.hid fun W => Any.strings_CutPrefix Tryz.lays103 ⟨(111 :: hex).toArray⟩ ⟨#[111]⟩ W
  rw [show (⟨(111 :: hex).toArray⟩ : ByteArray).data.toList = 111 :: hex from rfl, show (⟨#[111]⟩ : ByteArray).data.toList = [111] from rfl, show Lib.hasPrefix (111 :: hex) [111] = true from by simp [Lib.hasPrefix, List.isPrefixOf], show Lib.trimPrefix (111 :: hex) [111] = hex from by simp [Lib.trimPrefix, Lib.hasPrefix, List.isPrefixOf]] at HC
  unfold strV
  obtain ⟨s, hs⟩ : ∃ s : ByteArray, s = ⟨hex.toArray⟩ := ⟨_, rfl⟩
  have hsz : s.size = 2 * n := by rw [hs, ← he]; exact List.size_toArray
  rw [← hs] at HC
  generalize (⟨(111 :: hex).toArray⟩ : ByteArray) = t at HC ⊢
  have HS : Hid (s = ⟨hex.toArray⟩ ∧ hex.length = 2 * n) := Lib.hid ⟨hs, he⟩
  have HNN : Hid (n = hex.length / 2) := Lib.hid (by omega)
  have t1 := str_some (s := s) (by omega)
  have t2 := str_some' (s := s) (by omega)
  have t3 : ((s.size : Int)).tmod 2 = 0 := by rw [Int.tmod_eq_emod_of_nonneg (Int.natCast_nonneg _)]; omega
  have t4 : decide ((510 : Int) < (s.size : Int)) = false := by rw [decide_eq_false_iff_not]; omega
  have aw : wrap64 (n : Int) = (n : Int) := IntWalk.wrap64_in _ (by omega)
  have t5 : ((s.size : Int)).tdiv 2 = (n : Int) := by rw [Int.tdiv_eq_ediv_of_nonneg (Int.natCast_nonneg _)]; omega
  have HN := Lib.hid hn2
  have hn0 : (0 : Int) ≤ (n : Int) := Int.natCast_nonneg _
  obtain ⟨i5, hi5, hz0, hz1, hz2⟩ := info_parts byteInfo
  have hmk := fun (W : World) => run_make (P := Tryz.prog) W 46 5 i5 _ Tryz.underlying46 hi5 hz0 .i64 .i64 (n : Int) (n : Int) (by omega) (by omega) (by rw [hz2]; omega) (by omega)
  simp only [Int.toNat_natCast, hz1, Nat.mul_one] at hmk
  rw [← hexC_zero hex n] at hmk
  obtain ⟨R, hR⟩ : ∃ R, R = if hex.all isD = true then hexOf hex else [] := ⟨_, rfl⟩
  obtain ⟨ok, hok⟩ : ∃ ok, ok = hex.all isD := ⟨_, rfl⟩
  have HR : Hid (R = (if ok = true then hexOf hex else []) ∧ ok = hex.all isD) := Lib.hid ⟨by rw [hok]; exact hR, hok⟩
  rw [← hR, ← hok]
  clear hs hsz he hn1 hn2 hn0 hR hok
  go_enter Tryz.func137, Tryz.ntmps137
  go_wp2_with (go_at_call 175; refine (HC.out _).mono ?_; rintro e w' ⟨rfl, rfl⟩)
  rw [aw]
  clear aw
  go_loopw [2, 3, 7, 8, 9, 10, 11, 40] (fun _ _ _ _ _ _ _ s40 wr => ∃ k : Nat, k ≤ n ∧ s40 = .int .i64 (k : Int) ∧ Blk wr w'.heap.size 5 (hexC hex n k) ∧ Below w'.heap.size w' wr ∧ ∀ j < k, ∃ c d, hex[2 * j]? = some c ∧ hex[2 * j + 1]? = some d ∧ isD c = true ∧ isD d = true) (fun _ _ _ _ _ _ _ s _ => n - (intOf s).toNat)
  case atStart => exact ⟨0, Nat.zero_le _, rfl, Blk.new _ _ _, (Below.refl _ _).alloc (Nat.le_refl _) _, fun j hj => absurd hj (Nat.not_lt_zero _)⟩
  case round =>
    obtain ⟨k, hk, rfl, hblk, hb, hal⟩ := hrel
    have HB := Lib.hid hb
    have HK := Lib.hid hblk
    have HAL := Lib.hid hal
    have hglt := hblk.lt
    clear hb hblk hal hmk
    by_cases hlt : k < n
    · have hlt' : (k : Int) < (n : Int) := by omega
      have hk0 : (0 : Int) ≤ (k : Int) := Int.natCast_nonneg _
      obtain ⟨m, hm⟩ : ∃ m, m = 2 * k := ⟨_, rfl⟩
      obtain ⟨m1, hm1⟩ : ∃ m, m = 2 * k + 1 := ⟨_, rfl⟩
      have a1 : wrap64 (2 * (k : Int)) = (m : Int) := by have := HN.out; rw [IntWalk.wrap64_in _ (by omega)]; omega
      have a2 : wrap64 ((m : Int) + 1) = (m1 : Int) := by have := HN.out; rw [IntWalk.wrap64_in _ (by omega)]; omega
      have HW := Lib.hid (w64k hlt (Nat.le_trans HN.out (by omega : 255 ≤ 4096)))
      obtain ⟨c, hc⟩ : ∃ x, hex[2 * k]? = some x := ⟨_, List.getElem?_eq_getElem (by have := HS.out.2; omega)⟩
      obtain ⟨d, hd⟩ : ∃ x, hex[2 * k + 1]? = some x := ⟨_, List.getElem?_eq_getElem (by have := HS.out.2; omega)⟩
      have hsz : s.size = 2 * n := by rw [HS.out.1, ← HS.out.2]; exact List.size_toArray
      have hms : m < s.size := by omega
      have hms1 : m1 < s.size := by omega
      have hsk : s[m]'hms = c := by
        have h1 := HS.out.1
        subst h1 hm
        have h2 := (List.getElem?_eq_some_iff.1 hc).2
        rw [← h2]; rfl
      have hsk1 : s[m1]'hms1 = d := by
        have h1 := HS.out.1
        subst h1 hm1
        have h2 := (List.getElem?_eq_some_iff.1 hd).2
        rw [← h2]; rfl
      have HV := Lib.hid fun W => value_any c W
      have HV1 := Lib.hid fun W => value_any d W
      have HCD := Lib.hid (And.intro hc hd)
      have HAT : Hid (k < hex.length / 2) := Lib.hid (by rw [← HNN.out]; exact hlt)
      have HST := Lib.hid (hexC_step HNN.out hlt)
      have HX := Lib.hid (hexOf_at HAT.out hc hd)
      have hor := or_hex (valN_lt c) (valN_lt d)
      generalize (16 * valN c + valN d : Nat) = r at hor HX
      generalize valN c = p at hor HV
      generalize valN d = q at hor HV1
      have HD := Lib.hid (And.intro (Eq.refl (isD c)) (Eq.refl (isD d)))
      have h40 : wr.cell? ⟨w'.heap.size, k, none⟩ = (hexC hex n k)[k]? := HK.out.cell k
      obtain ⟨u, hu⟩ : ∃ u, (hexC hex n k)[k]? = some u := ⟨_, Array.getElem?_eq_getElem (by unfold hexC; rw [List.size_toArray, List.length_append, List.length_map, List.length_take, hexOf_length, List.length_replicate, ← HNN.out]; omega)⟩
      rw [hu] at h40
      have hfr : wr.frozen? ⟨w'.heap.size, k, none⟩ = false := HK.out.frozen k
      clear hc hd hm hm1 hsz hu
      obtain ⟨b1, hb1⟩ : ∃ b, b = isD c := ⟨_, rfl⟩
      obtain ⟨b2, hb2⟩ : ∃ b, b = isD d := ⟨_, rfl⟩
      rw [← hb1] at HV
      rw [← hb2] at HV1
      have HBB := Lib.hid (And.intro hb1 hb2)
      clear hb1 hb2
      have HNO : Hid (b1 = false ∨ b2 = false → R = [] ∧ ok = false) := Lib.hid fun h => by
        have h0 : ok = false := by
          rw [HR.out.2]
          rcases h with h | h
          · exact all_not HCD.out.1 (HBB.out.1.symm.trans h)
          · exact all_not HCD.out.2 (HBB.out.2.symm.trans h)
        exact ⟨by rw [HR.out.1, h0]; rfl, h0⟩
      cases b1 <;> cases b2
      case true.true =>
        go_wp2_with (first
          | (go_at_call 176; refine (HV.out _).mono ?_; clear HV; rintro e w2 ⟨rfl, rfl⟩)
          | (go_at_call 176; refine (HV1.out _).mono ?_; clear HV1; rintro e w2 ⟨rfl, rfl⟩))
        go_roundw
        case rel =>
          have hq : Blk (w2.setCell ⟨w'.heap.size, k, none⟩ (.int .u8 ((r : Nat) : Int))) w'.heap.size 5 (hexC hex n (k + 1)) := by
            have h1 := HK.out.set_ k (B8 (hexAt hex k))
            rw [HST.out, HX.out] at h1
            exact h1
          have hq2 : ∀ j < k + 1, ∃ c d, hex[2 * j]? = some c ∧ hex[2 * j + 1]? = some d ∧ isD c = true ∧ isD d = true := by
            intro j hj
            by_cases hjk : j < k
            · exact HAL.out j hjk
            · obtain rfl : j = k := by omega
              exact ⟨c, d, HCD.out.1, HCD.out.2, HBB.out.1.symm, HBB.out.2.symm⟩
          exact ⟨k + 1, hlt, by rw [HW.out]; rfl, hq, HB.out.setCell (p := ⟨w'.heap.size, k, none⟩) (Nat.le_refl _) _, hq2⟩
        case measure => rw [HW.out]; simp [intOf]; omega
      all_goals
        obtain ⟨hR0, hok0⟩ := HNO.out (by simp)
        clear HNO HR HBB
        subst hR0 hok0
        go_wp2_with (first
          | (go_at_call 176; refine (HV.out _).mono ?_; clear HV; rintro e w2 ⟨rfl, rfl⟩)
          | (go_at_call 176; refine (HV1.out _).mono ?_; clear HV1; rintro e w2 ⟨rfl, rfl⟩))
        go_ret2
        exact ⟨rfl, HB.out⟩
    · obtain rfl : k = n := by omega
      have hok1 : ok = true := by rw [HR.out.2]; exact all_pairs HS.out.2 HAL.out
      have hR1 : R = hexOf hex := by rw [HR.out.1, hok1]; rfl
      have hcv : (convert 46 9 (.slice (some ⟨w'.heap.size, 0, none⟩) k k)).run Tryz.prog wr = .ok (.string ⟨(hexOf hex).toArray⟩) wr := by
        have h2 : (hexOf hex).length = k := by rw [hexOf_length]; exact HNN.out.symm
        have h0 := HK.out
        rw [← Array.toArray_toList (xs := hexC hex k k), hexC_done HNN.out] at h0
        have h1 := reads_blk (size := 1) (n := k) h0 h0.lt (by rw [List.length_map, h2, Nat.mul_one])
        rw [← h2] at h1 ⊢
        exact conv_any _ _ _ _ _ h1
      clear HR
      subst hR1 hok1
      go_wp2_with fail
      go_ret2
      exact ⟨rfl, HB.out⟩
theorem key_any (nm : List UInt8) (h : nm.length ≤ 1024) (w : World) : Calls Tryz.prog 137 #[strV nm] w fun e w' => e = .returned (.tuple #[strV ((keyN nm).getD []), .bool (keyN nm).isSome]) ∧ Below w.heap.size w w' := by
  by_cases h1 : nm.head? = some 111
  · obtain ⟨hex, rfl⟩ : ∃ hex, nm = 111 :: hex := by
      cases nm with
      | nil => cases h1
      | cons a l => injection h1 with h1; exact ⟨l, by rw [h1]⟩
    by_cases h2 : hex = [] ∨ hex.length % 2 ≠ 0 ∨ 510 < hex.length
    · have hk : keyN (111 :: hex) = none := by
        show (if isHex hex then _ else none) = none
        rw [if_neg]
        unfold isHex
        intro hh
        simp only [Bool.and_eq_true, decide_eq_true_eq] at hh
        rcases h2 with h2 | h2 | h2
        · exact hh.1.1.1 h2
        · exact h2 hh.1.1.2
        · omega
      rw [hk]
      exact (key_odd hex (by simp only [List.length_cons] at h; omega) h2 w).mono fun e w' h => ⟨h.1, by rw [h.2]; exact Below.refl _ _⟩
    · have h3 : hex ≠ [] ∧ hex.length % 2 = 0 ∧ hex.length ≤ 510 := ⟨fun e => h2 (.inl e), Decidable.byContradiction fun e => h2 (.inr (.inl e)), Decidable.byContradiction fun e => h2 (.inr (.inr (by omega)))⟩
      have h4 : 0 < hex.length := List.length_pos_iff.2 h3.1
      have hk : keyN (111 :: hex) = if hex.all isD = true then some (hexOf hex) else none := by
        show (if isHex hex then some (hexOf hex) else none) = _
        unfold isHex
        rw [decide_eq_true h3.1, decide_eq_true h3.2.1, decide_eq_true h3.2.2]
        rfl
      rw [hk]
      refine (key_hex hex (hex.length / 2) (by omega) (by omega) (by omega) w).mono fun e w' h => ⟨?_, h.2⟩
      rw [h.1]
      cases hex.all isD <;> rfl
  · rw [keyN_bad h1]
    exact (key_other nm h1 w).mono fun e w' h => ⟨h.1, by rw [h.2]; exact Below.refl _ _⟩
end Go.Proofs.YtcbebefdbdppdaaGreat
namespace Go.Proofs.YtcbebefdbdppdaaGreat
open Go.RowKit Go.Maps Go.Shelf Go.Sort
theorem stringInfo : (Tryz.prog.info? 9).map (fun i => (i.zero, i.size, i.bytes)) = some (some (.string ⟨#[]⟩), 1, 16) := by kernel_rfl
def dedup : List (List UInt8) → List (List UInt8)
  | [] => []
  | a :: l => if a ∈ dedup l then dedup l else a :: dedup l
theorem mem_dedup (x : List UInt8) (l : List (List UInt8)) : x ∈ dedup l ↔ x ∈ l := by
  induction l with
  | nil => rfl
  | cons a l ih =>
    rw [dedup]
    split
    · rename_i h
      rw [ih, List.mem_cons]
      exact ⟨.inr, fun h1 => h1.elim (fun e => e ▸ ih.1 (e ▸ h)) id⟩
    · rw [List.mem_cons, List.mem_cons, ih]
theorem nodup_dedup (l : List (List UInt8)) : (dedup l).Nodup := by
  induction l with
  | nil => exact List.nodup_nil
  | cons a l ih =>
    rw [dedup]
    split
    · exact ih
    · rename_i h
      exact List.nodup_cons.2 ⟨h, ih⟩
def underK (names : List (List UInt8)) : List (List UInt8) := (dedup (names.filterMap keyN)).mergeSort leB
theorem mem_underK {x : List UInt8} {names : List (List UInt8)} : x ∈ underK names ↔ ∃ nm ∈ names, keyN nm = some x := by
  unfold underK
  rw [List.mem_mergeSort, mem_dedup, List.mem_filterMap]
theorem underK_nodup (names : List (List UInt8)) : (underK names).Nodup := (List.mergeSort_perm _ _).nodup_iff.2 (nodup_dedup _)
theorem underK_of {names ss : List (List UInt8)} (hn : ss.Nodup) (h : ∀ x, x ∈ ss ↔ x ∈ names.filterMap keyN) : ss.mergeSort leB = underK names :=
  mergeSort_of_perm ((List.perm_ext_iff_of_nodup hn (nodup_dedup _)).2 fun x => by rw [h, mem_dedup])
def MetAt (w : World) (b : Nat) (k : Nat) (l : List (List UInt8)) : Prop := ∃ D : DataW Unit, w.ownsMap Tryz.prog 9 unitElem b k D ∧ ∀ x, Maps.has D (.string x) = true ↔ x ∈ l
theorem MetAt.put {w' : World} {D : DataW Unit} {b k : Nat} {l : List (List UInt8)} {x : List UInt8} (h : w'.ownsMap Tryz.prog 9 unitElem b (k + 1) (D.put (.string x) (.agg []))) (hm : IsMap D) (hl : ∀ y, Maps.has D (.string y) = true ↔ y ∈ l) : MetAt w' b (k + 1) (l ++ [x]) := by
  refine ⟨_, h, fun y => ?_⟩
  by_cases e : y = x
  · subst e
    rw [has_put_same hm (by exact True.intro)]
    simp
  · rw [has_put_other (by intro h; injection h with h; exact e h), hl]
    simp [e]
end Go.Proofs.YtcbebefdbdppdaaGreat
namespace Go.Proofs.YtcbebefdbdppdaaGreat
open Go.RowKit Go.Maps Go.Shelf Go.Sort Go.WideElems Go.WideMaps
theorem keepB {w w' : World} {k : TypeId} {R : Value → Option (DataW Unit × List MemPlace)} {b n : Nat} {D : DataW Unit} (h : w.ownsMap Tryz.prog k R b n D) (hk : w'.heap[b]? = w.heap[b]?) : w'.ownsMap Tryz.prog k R b n D := by
  obtain ⟨es, clock, hb, F, hs, hD⟩ := h
  exact ⟨es, clock, hk.trans hb, F, hs, hD⟩
theorem row_ne_map {w : World} {k : TypeId} {R : Value → Option (DataW Unit × List MemPlace)} {b n : Nat} {D : DataW Unit} {base : Nat} {e : TypeId} {size : Nat} {v : Value} {m : Nat} {xs : List Value} (h : w.ownsRow base e size v m xs) (hm : w.ownsMap Tryz.prog k R b n D) : some b ≠ v.ownBlock := by
  obtain ⟨es, clock, hb, _⟩ := hm
  rcases h.2 with ⟨rfl, _⟩ | ⟨g, cap, cur, rfl, _, hg, _⟩
  · intro e; cases e
  · intro e
    injection e with e
    subst e
    rw [hg] at hb; cases hb
theorem strKey (x : List UInt8) (h : x.length ≤ maxLen) : keyOf Tryz.prog 9 (.string ⟨x.toArray⟩) = some (.string x) := by
  have := keyOf_string_mk (P := Tryz.prog) Tryz.underlying9 (s := ⟨x.toArray⟩) (by show x.toArray.size ≤ maxLen; simpa using h)
  simpa using this
theorem keyN_length {nm x : List UInt8} (h : keyN nm = some x) : 1 ≤ x.length ∧ x.length ≤ 255 := by
  unfold keyN at h
  split at h
  · rename_i hex
    split at h
    · rename_i hh
      injection h with h
      rw [← h, hexOf_length]
      unfold isHex at hh
      simp only [Bool.and_eq_true, decide_eq_true_eq] at hh
      have := List.length_pos_iff.2 hh.1.1.1
      omega
    · cases h
  · cases h
set_option maxRecDepth 100000 in
set_option maxHeartbeats 8000000 in
theorem under_any (A : Option Addr) (n c : Nat) (names : List (List UInt8)) (w : World) (hr : Reads w w.heap.size 1 A n (names.map strV)) (hl : ∀ nm ∈ names, nm.length ≤ 1024) (hn : n ≤ 2199023255552) :
    Calls Tryz.prog 76 #[.slice A n c, .string ⟨#[]⟩] w fun e w' => ∃ v, e = .returned v ∧ w'.ownsRow w.heap.size 9 1 v (underK names).length ((underK names).map strV) ∧ Below w.heap.size w w' := by
  have hlen : names.length = n := by have := hr.1; rw [List.length_map] at this; omega
  have HL := Lib.hid hlen
  have HLN := Lib.hid hl
  have HR := Lib.hid hr
  have HN := Lib.hid hn
  obtain ⟨i9, hi9, hz0, hz1, hz2⟩ := info_parts stringInfo
  have hmm := @run_makeMap Tryz.prog
  have HHP := Lib.hid fun (s : ByteArray) (W : World) => Any.strings_HasPrefix Tryz.lays99 s ⟨#[]⟩ W
  have HSO := Lib.hid fun (blk off cap : Nat) (ss : List (List UInt8)) (W : World) hH hb hs => Any.sort_Strings Tryz.lays192 blk off cap ss W hH hb hs
  clear hr hl hn hlen
  go_enter Tryz.func76, Tryz.ntmps76
  go_wp2_with fail
  go_loopw [7, 8, 9, 15, 19] (fun _ _ _ s15 _ wr => ∃ k : Nat, k ≤ n ∧ s15 = .int .i64 (k : Int) ∧ MetAt wr w.heap.size k ((names.take k).filterMap keyN) ∧ Below w.heap.size w wr) (fun _ _ _ s _ _ => n - (intOf s).toNat)
  case atStart => exact ⟨0, Nat.zero_le _, rfl, ⟨.map [], World.ownsMap_made w _ _ _, fun x => by simp [Maps.has]⟩, (Below.refl _ _).alloc (Nat.le_refl _) _⟩
  case round =>
    obtain ⟨k, hk, rfl, hm, hb⟩ := hrel
    have HB := Lib.hid hb
    have HM := Lib.hid hm
    have hsz := hb.size
    clear hb hm
    by_cases hlt : k < n
    · have hlt' : (k : Int) < (n : Int) := by omega
      have hk0 : (0 : Int) ≤ (k : Int) := Int.natCast_nonneg _
      have HW : Hid (wrap64 ((k : Int) + 1) = (k : Int) + 1) := Lib.hid (IntWalk.wrap64_in _ (by have := HN.out; omega))
      obtain ⟨ad, u, hA, hadB, hu, hcell⟩ := (HR.out.below HB.out).at_ hlt
      subst hA
      rw [List.getElem?_map] at hu
      obtain ⟨nm, hnm, rfl⟩ : ∃ nm, names[k]? = some nm ∧ u = strV nm := by
        cases e : names[k]? with
        | none => rw [e] at hu; cases hu
        | some nm => rw [e] at hu; injection hu with hu; exact ⟨nm, rfl, hu.symm⟩
      have g1 : wr.cell? (ad.add k) = some (.string ⟨nm.toArray⟩) := hcell
      have HKY := Lib.hid (key_any nm (HLN.out nm (List.mem_of_getElem? hnm)) wr)
      have HNM := Lib.hid hnm
      obtain ⟨o, ho⟩ : ∃ o, o = keyN nm := ⟨_, rfl⟩
      rw [← ho] at HKY
      have HO := Lib.hid ho
      clear hnm hu hcell hadB ho
      unfold strV at HKY
      obtain ⟨s, hs⟩ : ∃ s : ByteArray, s = ⟨nm.toArray⟩ := ⟨_, rfl⟩
      rw [← hs] at HKY g1
      clear hs
      cases o with
      | none =>
        go_wp2_with (go_at_call 137; refine HKY.out.mono ?_; rintro e w2 ⟨rfl, hb2⟩; have HB2 := Lib.hid hb2; clear hb2)
        go_roundw
        case rel =>
          obtain ⟨D, hD, hx⟩ := HM.out
          refine ⟨k + 1, hlt, by rw [HW.out]; rfl, ⟨D, keepB (hD.mono (Nat.le_succ k)) (HB2.out.block _ hD.lt), fun x => ?_⟩, HB.out.trans (HB2.out.mono hsz)⟩
          rw [hx, List.take_add_one, HNM.out, List.filterMap_append]
          show _ ↔ x ∈ _ ++ [nm].filterMap keyN
          rw [List.filterMap_cons, ← HO.out]
          simp
        case measure => rw [HW.out]; simp [intOf]; omega
      | some x =>
        have HX := Lib.hid (keyN_length HO.out.symm)
        have HPX : Hid (Lib.hasPrefix x [] = true) := Lib.hid (by cases x <;> rfl)
        have HHX := Lib.hid (fun W => HHP.out ⟨x.toArray⟩ W)
        rw [show (⟨x.toArray⟩ : ByteArray).data.toList = x from rfl, HPX.out] at HHX
        simp only [Option.getD_some, Option.isSome_some] at HKY
        obtain ⟨D, hD, hx⟩ := HM.out
        have HD := Lib.hid hD
        have HDX := Lib.hid hx
        have HKX := Lib.hid (strKey x (by have := HX.out.2; unfold maxLen; omega))
        obtain ⟨t, ht⟩ : ∃ t : ByteArray, t = ⟨x.toArray⟩ := ⟨_, rfl⟩
        rw [← ht] at HKY HHX HKX
        clear ht hD hx
        go_wp2_with (first
          | (go_at_call 137; refine HKY.out.mono ?_; rintro e w2 ⟨rfl, hb2⟩; have HB2 := Lib.hid hb2; have HD2 := Lib.hid (keepB HD.out (hb2.block _ HD.out.lt)); clear hb2)
          | (go_at_call 138; refine (HHX.out _).mono ?_; rintro e w3 ⟨rfl, rfl⟩)
          | (at_mapUpdate; refine wpList_mapUpdate_own _ rfl _ _ _ 231 rfl 9 235 dirKeyed Tryz.underlying231 unitElem w.heap.size _ _ rfl HD2.out (by have := HN.out; unfold maxLen; omega) _ _ _ rfl rfl HKX.out (.agg []) [] unitElem_mk ?_; intro w4 hown4 hg4))
        have HO4 := Lib.hid hown4
        have HG4 := Lib.hid hg4
        clear hown4 hg4
        go_wp2_with fail
        go_roundw
        case rel =>
          refine ⟨k + 1, hlt, by rw [HW.out]; rfl, ?_, ?_⟩
          · rw [List.take_add_one, HNM.out, List.filterMap_append]
            show MetAt _ _ _ (_ ++ [nm].filterMap keyN)
            rw [List.filterMap_cons, ← HO.out]
            exact MetAt.put HO4.out HD.out.isMap HDX.out
          · exact (HB.out.trans (HB2.out.mono hsz)).grown HG4.out (Nat.le_trans hsz HB2.out.size) (fun j hj => by injection hj with hj; exact Nat.le_of_eq hj)
        case measure => rw [HW.out]; simp [intOf]; omega
    · obtain rfl : k = n := by omega
      have HTK : Hid (names.take k = names) := Lib.hid (List.take_of_length_le (Nat.le_of_eq HL.out))
      obtain ⟨D, hD, hx⟩ := HM.out
      rw [HTK.out] at hx
      have HD := Lib.hid hD
      have HDX := Lib.hid hx
      have HDS : Hid (Maps.size D ≤ k) := Lib.hid hD.size_le
      clear hD hx HM
      go_wp2_with (first
        | (at_len; refine wpList_len_own _ rfl _ 231 rfl 9 235 Tryz.underlying231 unitElem w.heap.size k _ rfl HD.out ?_)
        | (at_make; refine wpList_make_own _ rfl _ _ 73 rfl w.heap.size 9 i9 (.string ⟨#[]⟩) 1 Tryz.underlying73 hi9 hz0 hz1 _ _ _ (Maps.size D) rfl rfl rfl (by rw [hz2]; have := HDS.out; have := HN.out; omega) (by have := HDS.out; have := HN.out; unfold maxLen; omega) hsz ?_; intro w1 hrow1 hg1; have HROW1 := Lib.hid hrow1; have HG1 := Lib.hid hg1; clear hrow1 hg1)
        | (at_range; refine wpList_range_own _ rfl _ 231 rfl 9 235 dirKeyed Tryz.underlying231 unitElem w.heap.size k _ rfl (HD.out.kept HG1.out (by simp)) ?_; intro w0 hrg0 hg0 hs0; have HRG0 := Lib.hid hrg0; have HG0 := Lib.hid hg0; clear hrg0 hg0 hs0))
      have HB1 : Hid (Below w.heap.size w w0 ∧ w1.heap.size ≤ w0.heap.size ∧ wr.heap.size ≤ w1.heap.size) := Lib.hid ⟨(HB.out.grown HG1.out hsz (fun j hj => by cases hj)).grown HG0.out (Nat.le_trans hsz HG1.out.size) (fun j hj => by cases hj), HG0.out.size, HG1.out.size⟩
      have hw1 : w.heap.size ≤ w1.heap.size := Nat.le_trans hsz HG1.out.size
      have HROW0 := Lib.hid (HROW1.out.kept HG0.out (Or.inr (by simp [Value.ownBlock])))
      clear HG1 HG0 HROW1
      go_frame
      go_loopw [10, 11] (fun v _ wq => ∃ (left : Lit → Bool) (cnt : Nat) (ss : List (List UInt8)), wq.ranges Tryz.prog 9 unitElem w.heap.size w1.heap.size k D left cnt ∧ ss.length + cnt ≤ Maps.size D ∧
          wq.ownsRow w.heap.size 9 1 v ss.length (ss.map encStr) ∧ v ≠ .slice none 0 0 ∧ Collected D left ss ∧ Below w.heap.size w wq) (fun _ _ wq => wq.rangeLeft w.heap.size w1.heap.size)
      case atStart => exact ⟨_, _, [], HRG0.out, by simp, HROW0.out, by simp, Collected.start D, HB1.out.1⟩
      case round =>
        obtain ⟨left, cnt, ss, hrg, hcs, hrow, hnn, hC, hnx⟩ := hrel
        have HRG := Lib.hid hrg
        have HCS := Lib.hid hcs
        have HROW := Lib.hid hrow
        have HNN := Lib.hid hnn
        have HC := Lib.hid hC
        have HNX := Lib.hid hnx
        have hszq := hnx.size
        clear hrg hcs hrow hnn hC hnx
        go_wp2_with (first
          | (at_next; refine wpList_next_ranges _ rfl _ rfl 9 dirKeyed unitElem encStr (fun _ : Unit => Value.agg #[]) (fun key kl hk => by obtain ⟨x, hx, _⟩ := Maps.keyOf_str Tryz.underlying9 hk; exact ⟨x, hx⟩) (fun v y hv => ⟨(), (unitElem_inv hv).1⟩) w.heap.size w1.heap.size k _ _ _ rfl HRG.out ?_ ?_)
          | fail)
        · intro hc0 hl0
          have HPM : Hid (ss.mergeSort leB = underK names) := Lib.hid (underK_of HC.out.1 fun x => by rw [HC.out.2 x, hl0]; simpa using HDX.out x)
          clear hc0 hl0
          rcases HROW.out.2 with ⟨hnil, _⟩ | ⟨g, cap, cur, rfl, hbase, hb, h1, h2, h3, h4⟩
          · exact absurd hnil HNN.out
          have HCL := Lib.hid (HSO.out g 0 cap ss wr (holds_of_block hb (by simpa using h4)) (Array.getElem?_eq_some_iff.1 hb).1 (by have := HCS.out; have := HDS.out; have := HN.out; omega))
          have HEND := Lib.hid fun nn os => And.intro (ownsRow_sorted (n := nn) (os := os) (ts := ss.mergeSort leB) (by simp) hbase hb h1 h2 h3) (HNX.out.grown (grownBy_sorted (n := nn) (os := os) (g := g) (ss.mergeSort leB).toArray) hszq (fun j hj => by injection hj with hj; rw [← hj]; exact hbase))
          have HLS : Hid (ss.length = (underK names).length) := Lib.hid (by rw [← HPM.out]; simp)
          clear hbase hb h1 h2 h3 h4
          go_wp2_with (go_at_call 139; refine HCL.out.mono ?_; rintro e w5 ⟨rfl, nn, os, hw5⟩; have HW5 := Lib.hid hw5; clear hw5)
          go_ret
          refine ⟨_, rfl, ?_, ?_⟩
          · rw [HW5.out, ← HPM.out, List.length_mergeSort]
            have := (HEND.out nn os).1
            exact this
          · rw [HW5.out]; exact (HEND.out nn os).2
        · intro x c kl y w2 cnt2 hkey hlk hv hat hrg2 hlt hg2 hs2 hen
          obtain ⟨x', ex, rfl, _⟩ := Maps.keyOf_str Tryz.underlying9 hkey
          obtain rfl : x = x' := encStr_inj ex
          have HROW2 := Lib.hid (HROW.out.kept hg2 (Or.inr (row_ne_iter HROW.out HRG.out).symm))
          have HRG2 := Lib.hid hrg2
          have HG2 := Lib.hid hg2
          have HLT := Lib.hid hlt
          have HLK := Lib.hid hlk
          have HAT := Lib.hid hat
          have hz2' : w.heap.size ≤ w2.heap.size := Nat.le_trans hszq hg2.size
          obtain ⟨tt, htt⟩ : ∃ tt : ByteArray, tt = ⟨x.toArray⟩ := ⟨_, rfl⟩
          have HVV : Hid (Value.string tt = encStr x) := Lib.hid (by rw [htt])
          have hen' : (Instr.entry (.pointer (some ⟨w1.heap.size, 0, none⟩))).run Tryz.prog w2 = .ok (.tuple #[.string tt, .agg #[]]) w2 := by rw [HVV.out]; exact hen
          rw [← HVV.out]
          clear hs2 hkey hlk hv hat hrg2 hlt hg2 ex htt hen
          go_wp2_with (at_builtin; (refine wpList_append_any _ rfl _ _ 73 rfl w.heap.size 9 i9 _ 1 16 Tryz.underlying73 hi9 hz0 hz1 hz2 rfl (by decide) _ ss.length _ rfl (HROW2.out.alloc _) (w2.heap.size + 1) (some ⟨w2.heap.size, 0, none⟩) 1 1 [.string tt] rfl (reads_blk (t := 9) (blk_last _ _ _ _ rfl) (by omega) rfl) (by intro u hu; simp at hu; subst hu; rfl) (by have := HCS.out; have := HDS.out; have := HN.out; unfold maxLen; omega) (by have := HCS.out; have := HDS.out; have := HN.out; omega) (by simp only [alloc_size]; omega) ?_); intro v3 w3 hown3 hg3 hat3; have HO3 := Lib.hid hown3; have HG3 := Lib.hid hg3; clear hown3 hg3 hat3)
          go_wp2_with fail
          have HRG3 := Lib.hid ((HRG2.out.alloc (.cells #[.string tt] 9)).kept HG3.out (row_ne_map HROW2.out HRG2.out.owns) (row_ne_iter HROW2.out HRG2.out))
          go_roundw
          case rel =>
            refine ⟨_, cnt2, ss ++ [x], HRG3.out, by rw [List.length_append]; have := HCS.out; have := HLT.out; simp only [List.length_cons, List.length_nil]; omega, ?_, ?_, HC.out.step HLK.out HAT.out, ?_⟩
            · rw [List.length_append, List.map_append, show [x].map encStr = [.string tt] from by rw [HVV.out]; rfl]
              exact HO3.out
            · intro hv'
              have h1 := HO3.out.1
              rw [hv'] at HO3
              rcases HO3.out.2 with ⟨_, h2⟩ | ⟨g, _, _, h2, _⟩
              · simp at h2
              · cases h2
            · exact ((HNX.out.grown HG2.out hszq (fun j hj => by injection hj with hj; rw [← hj]; exact hw1)).alloc hz2' _).grown HG3.out (by rw [alloc_size]; omega) (fun j hj => (HROW2.out.lt j hj).1)
          case measure => rw [HRG3.out.left_eq, HRG.out.left_eq]; exact HLT.out
end Go.Proofs.YtcbebefdbdppdaaGreat

/- naming.Object: the name of a key's file.; naming.value, naming.Key: the key whose file has a name.; The sum of layer 6: contracts. -/
import Derived.Test.YtcbebefdbdppdaaGreatM13
import Derived.Test.YtcbebefdbdppdaaGreatM10
import Derived.StillTailTactics
import Derived.Deep.RegionHeld3
import Derived.Deep.AppendLies
import Derived.Test.YtcbebefdbdppdaaGreatM1
import Derived.Test.YtcbebefdbdppdaaGreatM12
import Derived.Laws.BitsAllLaws
import Derived.Laws.Shifts
import Derived.IntWalk
namespace Go.Proofs.YtcbebefdbdppdaaGreat
open Go.RowKit Go.Maps
def hexD (n : Nat) : UInt8 := if n < 10 then UInt8.ofNat (48 + n) else UInt8.ofNat (87 + n)
def hexB (x : UInt8) : List UInt8 := [hexD (x.toNat / 16), hexD (x.toNat % 16)]
def objN (k : List UInt8) : List UInt8 := 111 :: k.flatMap hexB
theorem hexF_length (k : List UInt8) : (k.flatMap hexB).length = 2 * k.length := by
  induction k with
  | nil => rfl
  | cons x k ih => rw [List.flatMap_cons, List.length_append, ih, List.length_cons]; show 2 + _ = _; omega
theorem objN_length (k : List UInt8) : (objN k).length = 1 + 2 * k.length := by
  unfold objN
  rw [List.length_cons, hexF_length]; omega
theorem objN_named {k : List UInt8} (h : k.length ≤ 255) : named (objN k) = true := by
  unfold named
  exact decide_eq_true (by rw [objN_length]; omega)
theorem objN_ne (k : List UInt8) : objN k ≠ [116] := fun e => by
  unfold objN at e
  injection e with e1
  cases e1
theorem hexD_toNat {n : Nat} (h : n < 16) : (hexD n).toNat = if n < 10 then 48 + n else 87 + n := by
  unfold hexD
  split
  · rw [UInt8.toNat_ofNat']; omega
  · rw [UInt8.toNat_ofNat']; omega
theorem str_some {s : ByteArray} (h : 0 < s.size) : ¬s.toList = [] := fun e => by
  rw [ByteArray.toList_eq] at e
  have h1 : s.data.toList.length = 0 := by rw [e]; rfl
  rw [Array.length_toList] at h1
  change s.size = 0 at h1
  omega
theorem str_some' {s : ByteArray} (h : 0 < s.size) : s.toList.isEmpty = false := by
  cases h1 : s.toList with
  | nil => exact absurd h1 (str_some h)
  | cons x l => rfl
theorem digit_any (n : Nat) (hn : n < 16) (w : World) : Calls Tryz.prog 63 #[.int .u8 (n : Int)] w fun e w' => e = .returned (B8 (hexD n)) ∧ w' = w := by
  have h := hexD_toNat hn
  unfold B8
  obtain ⟨R, hR⟩ : ∃ R, R = (hexD n).toNat := ⟨_, rfl⟩
  rw [← hR] at h ⊢
  clear hR
  by_cases h1 : n < 10
  · rw [if_pos h1] at h
    subst h
    have h2 : (n : Int) < 10 := by omega
    have h3 : (48 + (n : Int)) % 256 = 48 + (n : Int) := by omega
    clear h1 hn
    go_enter Tryz.func63, Tryz.ntmps63
    go_wp2
    go_ret
    exact ⟨by push_cast; rfl, rfl⟩
  · rw [if_neg h1] at h
    subst h
    have h2 : ¬ (n : Int) < 10 := by omega
    have h3 : (97 + (n : Int)) % 256 = 97 + (n : Int) := by omega
    have h4 : (97 + (n : Int) - 10) % 256 = 97 + (n : Int) - 10 := by omega
    have h5 : ((87 + n : Nat) : Int) = 97 + (n : Int) - 10 := by omega
    rw [h5]
    clear h5
    clear h1 hn
    go_enter Tryz.func63, Tryz.ntmps63
    go_wp2
    go_ret
    exact ⟨rfl, rfl⟩
theorem hex_step (key : List UInt8) (k : Nat) (x : UInt8) (h : key[k]? = some x) : objN (key.take (k + 1)) = objN (key.take k) ++ [hexD (x.toNat / 16), hexD (x.toNat % 16)] := by
  unfold objN
  rw [List.take_add_one, h, List.flatMap_append]
  rfl
set_option maxRecDepth 100000 in
set_option maxHeartbeats 4000000 in
theorem object_any (key : List UInt8) (h1 : 1 ≤ key.length) (h2 : key.length ≤ 255) (w : World) : Calls Tryz.prog 16 #[strV key] w fun e w' => e = .returned (.tuple #[strV (objN key), .int .i64 0]) ∧ Below w.heap.size w w' := by
  unfold strV
  obtain ⟨s, hs⟩ : ∃ s : ByteArray, s = ⟨key.toArray⟩ := ⟨_, rfl⟩
  have hsz : s.size = key.length := by rw [hs]; exact List.size_toArray
  rw [← hs]
  have t1 := str_some (s := s) (by omega)
  have t3 := str_some' (s := s) (by omega)
  have t2 : ¬ (255 : Int) < (s.size : Int) := by omega
  obtain ⟨n, hn⟩ : ∃ n, n = key.length := ⟨_, rfl⟩
  have HS : Hid (s = ⟨key.toArray⟩ ∧ n = key.length) := Lib.hid ⟨hs, hn⟩
  rw [← hn] at h1 h2
  rw [← hn] at hsz
  have a1 : wrap64 (2 * (n : Int)) = 2 * (n : Int) := IntWalk.wrap64_in _ (by omega)
  obtain ⟨c, hc⟩ : ∃ c : Nat, c = 1 + 2 * n := ⟨_, rfl⟩
  have aw2 : wrap64 (1 + 2 * (n : Int)) = 1 + 2 * (n : Int) := IntWalk.wrap64_in _ (by omega)
  have a3 : (1 + 2 * (n : Int)).toNat = c := by omega
  rw [hsz] at t2
  clear hs hn
  obtain ⟨i5, hi5, hz0, hz1, hz2⟩ := info_parts byteInfo
  have hmk := fun (W : World) => run_make (P := Tryz.prog) W 46 5 i5 _ Tryz.underlying46 hi5 hz0 .i64 .i64 (0 : Int) (1 + 2 * (n : Int)) (by decide) (by omega) (by rw [hz2]; omega) (by omega)
  simp only [a3, Int.toNat_zero, hz1, Nat.mul_one] at hmk
  have HC := Lib.hid hc
  have HNN := Lib.hid h2
  have HOW : Hid (∀ W : World, w.heap.size ≤ W.heap.size → (W.alloc (.cells (madeCells (Value.int .u8 0).cells c) 5)).ownsRow w.heap.size 5 1 (.slice (some ⟨W.heap.size, 0, none⟩) 0 c) 0 []) := Lib.hid fun W hW => by
    refine ⟨rfl, .inr ⟨W.heap.size, c, _, rfl, hW, Blk.new W _ _, Nat.zero_le _, by unfold maxLen; omega, by rw [size_madeCells, Nat.mul_one], by rw [Nat.zero_mul, List.take_zero]⟩⟩
  clear hc h1 h2 a3
  go_enter Tryz.func16, Tryz.ntmps16
  go_wp2_with (at_builtin; (refine wpList_append_any _ rfl _ _ 46 rfl w.heap.size 5 i5 _ 1 1 Tryz.underlying46 hi5 hz0 hz1 hz2 rfl (by omega) (.slice (some ⟨w.heap.size, 0, none⟩) 0 c) 0 _ rfl ((HOW.out w (Nat.le_refl _)).alloc _) (w.heap.size + 1 + 1) (some ⟨w.heap.size + 1, 0, none⟩) 1 1 [.int .u8 111] rfl (reads_blk (t := 5) (blk_last _ _ _ _ (by rw [alloc_size])) (by omega) rfl) (by intro u hu; simp at hu; subst hu; rfl) (by decide) (by decide) (by simp only [alloc_size]; omega) ?_); intro v1 w1 hown1 hg1 hat1; obtain ⟨e1, c1, hv1, _⟩ := own_shape hown1; subst hv1; have HO1 := Lib.hid hown1; have HB1 : Hid (Below w.heap.size w w1) := Lib.hid ((((Below.refl _ w).alloc (Nat.le_refl _) _).alloc (by rw [alloc_size]; omega) _).grown hg1 (by simp only [alloc_size]; omega) (fun i hi => ((HOW.out w (Nat.le_refl _)).lt i hi).1)); clear hown1 hg1 hat1)
  go_loopw [4, 5, 23] (fun s4 _ s23 wr => ∃ k : Nat, k ≤ n ∧ s23 = .int .i64 (k : Int) ∧ (∃ a c, s4 = .slice a (1 + 2 * k) c) ∧ wr.ownsRow w.heap.size 5 1 s4 (1 + 2 * k) ((objN (key.take k)).map B8) ∧ Below w.heap.size w wr) (fun _ _ s _ => n - (intOf s).toNat)
  case atStart => exact ⟨0, Nat.zero_le _, rfl, ⟨_, _, rfl⟩, HO1.out, HB1.out⟩
  case round =>
    obtain ⟨k, hk, rfl, ⟨a2, c2, rfl⟩, ho, hb⟩ := hrel
    have HO2 := Lib.hid ho
    have HB2 := Lib.hid hb
    have hsz2 := hb.size
    clear ho hb
    by_cases hlt : k < n
    · have hlt' : (k : Int) < (n : Int) := by omega
      have hk0 : (0 : Int) ≤ (k : Int) := Int.natCast_nonneg _
      obtain ⟨x, hx⟩ : ∃ x, key[k]? = some x := ⟨_, List.getElem?_eq_getElem (by have := HS.out.2; omega)⟩
      have hks : k < s.size := by omega
      have hsk : s[k]'hks = x := by
        have h1 := HS.out.1
        subst h1
        have h2 := (List.getElem?_eq_some_iff.1 hx).2
        rw [← h2]
        rfl
      obtain ⟨p, hp⟩ : ∃ p, p = x.toNat / 16 := ⟨_, rfl⟩
      obtain ⟨q, hq⟩ : ∃ q, q = x.toNat % 16 := ⟨_, rfl⟩
      have HXX : Hid (objN (key.take (k + 1)) = objN (key.take k) ++ [hexD p, hexD q]) := Lib.hid (by rw [hp, hq]; exact hex_step key k x hx)
      have hp1 : (x.toNat : Int) / 16 = (p : Int) := by rw [hp, Int.natCast_ediv]; rfl
      have hq1 : bits .and .u8 (x.toNat : Int) 15 = (q : Int) := by
        rw [u8_and15 _ (Int.natCast_nonneg _) (by have := x.toNat_lt; omega), hq, Int.natCast_emod]; rfl
      have HPQ : Hid (p < 16 ∧ q < 16) := Lib.hid ⟨by have := x.toNat_lt; omega, by omega⟩
      have HNW : Hid (∀ (j : Nat) (u : Value), ([.int .u8 ((hexD p).toNat : Int), .int .u8 ((hexD q).toNat : Int)] : List Value)[j]? = some u → (wr.drew.alloc (.cells #[.int .u8 ((hexD p).toNat : Int), .int .u8 ((hexD q).toNat : Int)] 5)).cell? ((⟨wr.heap.size, 0, none⟩ : Addr).add j) = some u) := Lib.hid fun j u hu => by
        rw [add_plain, Nat.zero_add, (blk_last wr.drew wr.heap.size 5 _ rfl).cell]
        rw [← hu]; exact (Array.getElem?_toList).symm
      clear hp hq hx
      go_wp2_with fail
      refine wp_region_held_drew (S := (fun _ => True)) (by kernel_rfl) ?_ (fun hHeld => ?_)
      · ((try dsimp only); first | done | trivial)
      refine wpAnyH_take (i := 0) (oi := ⟨_, _, _, _, _, _⟩) (v := ?_) rfl (by kernel_rfl) (by kernel_rfl) (by kernel_rfl) (fun _ _ _ h => h) (Or.inl ⟨by kernel_rfl, ?_⟩) (by assumption) ?_
      rotate_left
      · (intro wS hSw; (try dsimp only at hSw); go_simp; try with_reducible rfl)
      try simp only [Act.put, List.setIfInBounds_toArray, List.set_cons_zero, List.set_cons_succ]
      refine wpAnyH_take (i := 1) (oi := ⟨_, _, _, _, _, _⟩) (v := ?_) rfl (by kernel_rfl) (by kernel_rfl) (by kernel_rfl) (fun _ _ _ h => h) (Or.inl ⟨by kernel_rfl, ?_⟩) (by assumption) ?_
      rotate_left
      · (intro wS hSw; (try dsimp only at hSw); go_simp; try with_reducible rfl)
      try simp only [Act.put, List.setIfInBounds_toArray, List.set_cons_zero, List.set_cons_succ]
      refine wpAnyH_take (i := 2) (oi := ⟨_, _, _, _, _, _⟩) (v := ?_) rfl (by kernel_rfl) (by kernel_rfl) (by kernel_rfl) (fun _ _ _ h => h) (Or.inl ⟨by kernel_rfl, ?_⟩) (by assumption) ?_
      rotate_left
      · (intro wS hSw; (try dsimp only at hSw); go_simp; try with_reducible rfl)
      try simp only [Act.put, List.setIfInBounds_toArray, List.set_cons_zero, List.set_cons_succ]
      refine wpAnyH_take (i := 3) (oi := ⟨_, _, _, _, _, _⟩) (v := ?_) rfl (by kernel_rfl) (by kernel_rfl) (by kernel_rfl) (fun _ _ _ h => h) (Or.inl ⟨by kernel_rfl, ?_⟩) (by assumption) ?_
      rotate_left
      · (intro wS hSw; (try dsimp only at hSw); go_simp; try with_reducible rfl)
      try simp only [Act.put, List.setIfInBounds_toArray, List.set_cons_zero, List.set_cons_succ]
      refine wpAnyH_take (i := 4) (oi := ⟨_, _, _, _, _, _⟩) (v := ?_) rfl (by kernel_rfl) (by kernel_rfl) (by kernel_rfl) (fun _ _ _ h => h) (Or.inl ⟨by kernel_rfl, ?_⟩) (by assumption) ?_
      rotate_left
      · (intro wS hSw; (try dsimp only at hSw); go_simp; try with_reducible rfl)
      try simp only [Act.put, List.setIfInBounds_toArray, List.set_cons_zero, List.set_cons_succ]
      refine wpAnyH_take (i := 6) (oi := ⟨_, _, _, _, _, _⟩) (v := ?_) rfl (by kernel_rfl) (by kernel_rfl) (by kernel_rfl) (fun _ _ _ h => h) (Or.inl ⟨by kernel_rfl, ?_⟩) (by assumption) ?_
      rotate_left
      · (intro wS hSw; (try dsimp only at hSw); go_simp; try with_reducible rfl)
      try simp only [Act.put, List.setIfInBounds_toArray, List.set_cons_zero, List.set_cons_succ]
      refine wpAnyH_take (i := 7) (oi := ⟨_, _, _, _, _, _⟩) (v := ?_) rfl (by kernel_rfl) (by kernel_rfl) (by kernel_rfl) (fun _ _ _ h => h) (Or.inl ⟨by kernel_rfl, ?_⟩) (by assumption) ?_
      rotate_left
      · (intro wS hSw; (try dsimp only at hSw); go_simp; try with_reducible rfl)
      try simp only [Act.put, List.setIfInBounds_toArray, List.set_cons_zero, List.set_cons_succ]
      refine wpAnyH_take (i := 8) (oi := ⟨_, _, _, _, _, _⟩) (v := ?_) rfl (by kernel_rfl) (by kernel_rfl) (by kernel_rfl) (fun _ _ _ h => h) (Or.inl ⟨by kernel_rfl, ?_⟩) (by assumption) ?_
      rotate_left
      · (intro wS hSw; (try dsimp only at hSw); go_simp; try with_reducible rfl)
      try simp only [Act.put, List.setIfInBounds_toArray, List.set_cons_zero, List.set_cons_succ]
      refine wpAnyH_take (i := 9) (oi := ⟨_, _, _, _, _, _⟩) (v := ?_) rfl (by kernel_rfl) (by kernel_rfl) (by kernel_rfl) (fun _ _ _ h => h) (Or.inl ⟨by kernel_rfl, ?_⟩) (by assumption) ?_
      rotate_left
      · (intro wS hSw; (try dsimp only at hSw); go_simp; try with_reducible rfl)
      try simp only [Act.put, List.setIfInBounds_toArray, List.set_cons_zero, List.set_cons_succ]
      refine wpAnyH_ready (rs := [5]) (by kernel_rfl) (by simp) (AllReadyH.cons (o := _) rfl (fun K hK => ?b1y1x5) AllReadyH.nil)
      go_simp; (refine (digit_any p HPQ.out.1 _).mono ?_; rintro e w' ⟨rfl, rfl⟩)
      refine hK.out _ _ ?_ (fun hHeld => ?_)
      · ((try dsimp only); first | done | trivial)
      clear hK K; try simp only [Act.put, List.setIfInBounds_toArray, List.set_cons_zero, List.set_cons_succ]
      refine wpAnyH_ready (rs := [10]) (by kernel_rfl) (by simp) (AllReadyH.cons (o := _) rfl (fun K hK => ?b1y2x10) AllReadyH.nil)
      go_simp; (refine (digit_any q HPQ.out.2 _).mono ?_; rintro e w' ⟨rfl, rfl⟩)
      refine hK.out _ _ ?_ (fun hHeld => ?_)
      · ((try dsimp only); first | done | trivial)
      clear hK K; try simp only [Act.put, List.setIfInBounds_toArray, List.set_cons_zero, List.set_cons_succ]
      refine wpAnyH_ready (rs := [11]) (by kernel_rfl) (by simp) (AllReadyH.cons (o := _) rfl (fun K hK => ?b1y3x11) AllReadyH.nil)
      go_simp
      refine hK.out _ _ ?_ (fun hHeld => ?_)
      · ((try dsimp only); first | done | trivial)
      clear hK K; try simp only [Act.put, List.setIfInBounds_toArray, List.set_cons_zero, List.set_cons_succ]
      refine wpAnyH_ready (rs := [12]) (by kernel_rfl) (by simp) (AllReadyH.cons (o := _) rfl (fun K hK => ?b1y4x12) AllReadyH.nil)
      refine step_append_lies _ rfl _ _ 46 rfl w.heap.size 5 i5 _ 1 1 Tryz.underlying46 hi5 hz0 hz1 hz2 rfl (by decide) (.slice a2 (1 + 2 * k) c2) (1 + 2 * k) _ (by simp [Act.eval, Act.put]) ((ownsRow_below HO2.out (below_drew1 (Below.refl _ _))).alloc _) ⟨wr.heap.size, 0, none⟩ 2 2 [.int .u8 ((hexD p).toNat : Int), .int .u8 ((hexD q).toNat : Int)] (by simp [Act.eval, Act.put]) rfl HNW.out (by intro u hu; simp at hu; rcases hu with rfl | rfl <;> rfl) (by decide) (by have := HNN.out; unfold maxLen; omega) (by have := HNN.out; omega) (by simp; omega) _ rfl ?_; intro g3 c3 w3 hown3 hg3 hor3 hlt3
      refine hK.out _ _ ?_ (fun hHeld => ?_)
      · ((try dsimp only); first | done | trivial)
      clear hK K; try simp only [Act.put, List.setIfInBounds_toArray, List.set_cons_zero, List.set_cons_succ]
      refine wpAnyH_take (i := 13) (oi := ⟨_, _, _, _, _, _⟩) (v := ?_) rfl (by kernel_rfl) (by kernel_rfl) (by kernel_rfl) (fun _ _ _ h => h) (Or.inl ⟨by kernel_rfl, ?_⟩) (by assumption) ?_
      rotate_left
      · (intro wS hSw; (try dsimp only at hSw); go_simp; try with_reducible rfl)
      try simp only [Act.put, List.setIfInBounds_toArray, List.set_cons_zero, List.set_cons_succ]
      refine wpAnyH_done (by kernel_rfl) ?_ _
      go_wp2_with fail
      go_roundw
      case rel =>
        refine ⟨k + 1, hlt, by go_num, ⟨some ⟨g3, 0, none⟩, c3, by congr 1⟩, ?_, ?_⟩
        · rw [HXX.out, List.map_append]
          exact hown3
        · exact ((below_drew1 HB2.out).alloc hsz2 _).grown hg3 (by rw [alloc_size]; exact Nat.le_succ_of_le hsz2) (fun i hi => (HO2.out.lt i hi).1)
      case measure => simp [intOf]; omega
    · obtain rfl : k = n := by omega
      have HT : Hid (key.take k = key) := Lib.hid (List.take_of_length_le (by have := HS.out.2; omega))
      rw [HT.out] at HO2
      have hcv : (convert 46 9 (.slice a2 (1 + 2 * k) c2)).run Tryz.prog wr = .ok (.string ⟨(objN key).toArray⟩) wr := by
        have h1 := Reads.of_own HO2.out
        have h2 : (objN key).length = 1 + 2 * k := by rw [objN_length]; have := HS.out.2; omega
        rw [← h2] at h1 ⊢
        exact conv_any _ _ _ _ _ h1
      go_wp2_with fail
      go_ret2
      exact ⟨rfl, HB2.out⟩
end Go.Proofs.YtcbebefdbdppdaaGreat
namespace Go.Proofs.YtcbebefdbdppdaaGreat
open Go.RowKit Go.Maps Go.Shelf
def valN (c : UInt8) : Nat := if 48 ≤ c.toNat ∧ c.toNat ≤ 57 then c.toNat - 48 else if 97 ≤ c.toNat ∧ c.toNat ≤ 102 then c.toNat - 87 else 0
def isD (c : UInt8) : Bool := decide (48 ≤ c.toNat ∧ c.toNat ≤ 57) || decide (97 ≤ c.toNat ∧ c.toNat ≤ 102)
theorem valN_lt (c : UInt8) : valN c < 16 := by
  unfold valN
  split
  · omega
  · split <;> omega
theorem value_any (c : UInt8) (w : World) : Calls Tryz.prog 176 #[.int .u8 (c.toNat : Int)] w fun e w' => e = .returned (.tuple #[.int .u8 (valN c : Int), .bool (isD c)]) ∧ w' = w := by
  have hc := c.toNat_lt
  by_cases h1 : 48 ≤ c.toNat ∧ c.toNat ≤ 57
  · have hv : valN c = c.toNat - 48 := if_pos h1
    have hd : isD c = true := by unfold isD; rw [decide_eq_true h1]; rfl
    rw [hv, hd]
    obtain ⟨n, hn⟩ : ∃ n, n = c.toNat := ⟨_, rfl⟩
    rw [← hn] at h1 hc ⊢
    have t1 : (48 : Int) ≤ (n : Int) := by omega
    have t2 : (n : Int) ≤ 57 := by omega
    have t3 : ((n : Int) - 48) % 256 = (n : Int) - 48 := by omega
    have t4 : ((n - 48 : Nat) : Int) = (n : Int) - 48 := by omega
    rw [t4]
    clear hn h1 hv hd hc t4
    go_enter Tryz.func176, Tryz.ntmps176
    go_wp2
    go_ret2
    exact ⟨rfl, rfl⟩
  · by_cases h2 : 97 ≤ c.toNat ∧ c.toNat ≤ 102
    · have hv : valN c = c.toNat - 87 := by unfold valN; rw [if_neg h1, if_pos h2]
      have hd : isD c = true := by unfold isD; rw [decide_eq_true h2]; simp
      rw [hv, hd]
      obtain ⟨n, hn⟩ : ∃ n, n = c.toNat := ⟨_, rfl⟩
      rw [← hn] at h2 hc ⊢
      have t0 : (48 : Int) ≤ (n : Int) := by omega
      have t00 : ¬ (n : Int) ≤ 57 := by omega
      have t1 : (97 : Int) ≤ (n : Int) := by omega
      have t2 : (n : Int) ≤ 102 := by omega
      have t3 : ((n : Int) - 97) % 256 = (n : Int) - 97 := by omega
      have t5 : ((n : Int) - 97 + 10) % 256 = (n : Int) - 97 + 10 := by omega
      have t4 : ((n - 87 : Nat) : Int) = (n : Int) - 97 + 10 := by omega
      rw [t4]
      clear hn h1 h2 hv hd hc t4
      go_enter Tryz.func176, Tryz.ntmps176
      go_wp2
      go_ret2
      exact ⟨rfl, rfl⟩
    · have hv : valN c = 0 := by unfold valN; rw [if_neg h1, if_neg h2]
      have hd : isD c = false := by unfold isD; rw [decide_eq_false h1, decide_eq_false h2]; rfl
      rw [hv, hd]
      obtain ⟨n, hn⟩ : ∃ n, n = c.toNat := ⟨_, rfl⟩
      rw [← hn] at h1 h2 hc ⊢
      clear hn hv hd
      rcases (show (¬ (48 : Int) ≤ (n : Int) ∧ ¬ (97 : Int) ≤ (n : Int)) ∨ ((48 : Int) ≤ (n : Int) ∧ ¬ (n : Int) ≤ 57 ∧ ¬ (97 : Int) ≤ (n : Int)) ∨ ((48 : Int) ≤ (n : Int) ∧ ¬ (n : Int) ≤ 57 ∧ (97 : Int) ≤ (n : Int) ∧ ¬ (n : Int) ≤ 102) by omega) with ⟨t1, t2⟩ | ⟨t1, t2, t3⟩ | ⟨t1, t2, t3, t4⟩
      all_goals
        clear h1 h2 hc
        go_enter Tryz.func176, Tryz.ntmps176
        go_wp2
        go_ret2
        exact ⟨rfl, rfl⟩
def hexAt (hex : List UInt8) (j : Nat) : UInt8 := UInt8.ofNat (16 * valN (hex.getD (2 * j) 0) + valN (hex.getD (2 * j + 1) 0))
def hexOf (hex : List UInt8) : List UInt8 := (List.range (hex.length / 2)).map (hexAt hex)
def isHex (hex : List UInt8) : Bool := decide (hex ≠ []) && decide (hex.length % 2 = 0) && decide (hex.length ≤ 510) && hex.all isD
def keyN : List UInt8 → Option (List UInt8)
  | 111 :: hex => if isHex hex then some (hexOf hex) else none
  | _ => none
theorem or_hex {a b : Nat} (ha : a < 16) (hb : b < 16) : bits .or .u8 ((a : Int) * 16 % 256) (b : Int) = ((16 * a + b : Nat) : Int) := by
  have h : ∀ a < 16, ∀ b < 16, bits .or .u8 (((a : Nat) : Int) * 16 % 256) ((b : Nat) : Int) = ((16 * a + b : Nat) : Int) := by decide
  exact h a ha b hb
end Go.Proofs.YtcbebefdbdppdaaGreat
namespace Go.Proofs.YtcbebefdbdppdaaGreat
open Go.RowKit Go.Maps
theorem step_any (r : Nat) (hr : r < 4294967296) (w : World) :
    Calls Tryz.prog 222 #[.int .u32 (r : Int)] w fun e w' => e = .returned (.int .u32 ((stp r : Nat) : Int)) ∧ w = w' := by
  have hlt : r >>> 1 < 4294967296 := by rw [Nat.shiftRight_eq_div_pow]; omega
  have h2 : (r : Int) / (2 : Int) = ((r >>> 1 : Nat) : Int) := by rw [Nat.shiftRight_eq_div_pow]; omega
  have h1 : r % 2 = if r.testBit 0 then 1 else 0 := by
    rw [Nat.testBit_zero]
    rcases Nat.mod_two_eq_zero_or_one r with e | e <;> simp [e]
  cases hb : r.testBit 0 with
  | true =>
    have ha : ((r : Int) % 2 == 1) = true := by rw [hb] at h1; simp only [if_true] at h1; simp; omega
    have hs : stp r = (r >>> 1) ^^^ crcM := by unfold stp; rw [hb]; rfl
    have hxor : bits .xor .u32 ((r : Int) / 2) 2197175160 = ((stp r : Nat) : Int) := by rw [h2, hs]; exact u32_xor_nat (r >>> 1) 2197175160 hlt (by decide)
    have hand : bits .and .u32 (r : Int) 1 = (r : Int) % 2 := by rw [show (1 : Int) = ((1 : Nat) : Int) from rfl, u32_and_nat r 1 hr (by decide), Nat.and_one_is_mod]; rfl
    clear h1 hb h2 hs hlt
    go_enter Tryz.func222, Tryz.ntmps222
    go_wp2
    go_ret
    exact ⟨rfl, rfl⟩
  | false =>
    have ha : ((r : Int) % 2 == 1) = false := by rw [hb] at h1; simp at h1; simp; omega
    have hs : ((stp r : Nat) : Int) = (r : Int) / 2 := by rw [h2]; unfold stp; rw [hb]; simp
    have hand : bits .and .u32 (r : Int) 1 = (r : Int) % 2 := by rw [show (1 : Int) = ((1 : Nat) : Int) from rfl, u32_and_nat r 1 hr (by decide), Nat.and_one_is_mod]; rfl
    clear h1 hb h2 hlt
    rw [hs]
    clear hs
    go_enter Tryz.func222, Tryz.ntmps222
    go_wp2
    go_ret
    exact ⟨rfl, rfl⟩
def halfTab (k : Nat) : Array Value := #[.int .u32 (if 0 < k then (stp4 0 : Nat) else (0 : Nat) : Nat), .int .u32 (if 1 < k then (stp4 1 : Nat) else (0 : Nat) : Nat), .int .u32 (if 2 < k then (stp4 2 : Nat) else (0 : Nat) : Nat), .int .u32 (if 3 < k then (stp4 3 : Nat) else (0 : Nat) : Nat), .int .u32 (if 4 < k then (stp4 4 : Nat) else (0 : Nat) : Nat), .int .u32 (if 5 < k then (stp4 5 : Nat) else (0 : Nat) : Nat), .int .u32 (if 6 < k then (stp4 6 : Nat) else (0 : Nat) : Nat), .int .u32 (if 7 < k then (stp4 7 : Nat) else (0 : Nat) : Nat), .int .u32 (if 8 < k then (stp4 8 : Nat) else (0 : Nat) : Nat), .int .u32 (if 9 < k then (stp4 9 : Nat) else (0 : Nat) : Nat), .int .u32 (if 10 < k then (stp4 10 : Nat) else (0 : Nat) : Nat), .int .u32 (if 11 < k then (stp4 11 : Nat) else (0 : Nat) : Nat), .int .u32 (if 12 < k then (stp4 12 : Nat) else (0 : Nat) : Nat), .int .u32 (if 13 < k then (stp4 13 : Nat) else (0 : Nat) : Nat), .int .u32 (if 14 < k then (stp4 14 : Nat) else (0 : Nat) : Nat), .int .u32 (if 15 < k then (stp4 15 : Nat) else (0 : Nat) : Nat)]
theorem halfTab_set {k : Nat} (hk : k < 16) : (halfTab k).setIfInBounds k (.int .u32 ((stp4 k : Nat) : Int)) = halfTab (k + 1) := by
  match k, hk with
  | 0, _ => rfl
  | 1, _ => rfl
  | 2, _ => rfl
  | 3, _ => rfl
  | 4, _ => rfl
  | 5, _ => rfl
  | 6, _ => rfl
  | 7, _ => rfl
  | 8, _ => rfl
  | 9, _ => rfl
  | 10, _ => rfl
  | 11, _ => rfl
  | 12, _ => rfl
  | 13, _ => rfl
  | 14, _ => rfl
  | 15, _ => rfl
  | _ + 16, h => omega
theorem halves_any (w : World) : Calls Tryz.prog 200 #[] w fun e w' => e = .returned (.agg (halfTab 16)) ∧ Below w.heap.size w w' := by
  go_enter Tryz.func200, Tryz.ntmps200
  go_wp2_with fail
  refine wp_world fun w1 hw1 => ?_
  have HA : Hid (Blk w1 w.heap.size 281 (halfTab 0)) := Lib.hid (by rw [hw1]; exact (Blk.new _ _ _).alloc _)
  have HB : Hid (Blk w1 (w.heap.size + 1) 281 (halfTab 0)) := Lib.hid (by rw [hw1]; have := Blk.new (w.alloc (.cells (halfTab 0) 281)) 281 (halfTab 0); rw [alloc_size] at this; exact this)
  have HW : Hid (Below w.heap.size w w1) := Lib.hid (by rw [hw1]; exact ((Below.refl _ _).alloc (Nat.le_refl _) _).alloc (by simp) _)
  clear hw1
  go_loopw [2, 3] (fun _ s wr => ∃ k : Nat, k ≤ 16 ∧ s = .int .i64 k ∧ Blk wr w.heap.size 281 (halfTab 0) ∧ Blk wr (w.heap.size + 1) 281 (halfTab k) ∧ Below w.heap.size w wr) (fun _ s _ => 16 - (intOf s).toNat)
  case atStart => exact ⟨0, Nat.zero_le _, rfl, HA.out, HB.out, HW.out⟩
  case round =>
    obtain ⟨k, hk, rfl, ha, hb, hw⟩ := hrel
    have HA1 := Lib.hid ha
    have HB1 := Lib.hid hb
    have HW1 := Lib.hid hw
    have hbl : w.heap.size + 1 < wr.heap.size := hb.lt
    clear ha hb hw
    by_cases hlt : k < 16
    · have hk0 : (0 : Int) ≤ (k : Int) := Int.natCast_nonneg _
      have hk1 : (k : Int) < 16 := by omega
      have hkc : (k : Int) % 4294967296 = (k : Int) := by omega
      have yf : ∀ i, wr.frozen? ⟨w.heap.size + 1, i, none⟩ = false := HB1.out.frozen
      obtain ⟨yu, yc⟩ := HB1.out.cellAt (i := k) (show k < (halfTab k).size from hlt)
      go_wp2_with (go_at_call 222; refine (step_any _ (by repeat (first | omega | apply stp_lt)) _).mono ?_; rintro e w' ⟨rfl, rfl⟩)
      go_roundw
      case rel =>
        refine ⟨k + 1, by omega, by go_num, HA1.out.far (by simp) _, ?_, HW1.out.setCell (by simp) _⟩
        have := HB1.out.set_ k (.int .u32 ((stp4 k : Nat) : Int))
        rw [halfTab_set hlt] at this
        exact this
      case measure => simp [intOf]; omega
    · obtain rfl : k = 16 := by omega
      obtain ⟨v0, v1, v2, v3, v4, v5, v6, v7, v8, v9, v10, v11, v12, v13, v14, v15, hv⟩ : ∃ v0 v1 v2 v3 v4 v5 v6 v7 v8 v9 v10 v11 v12 v13 v14 v15 : Int, halfTab 16 = #[.int .u32 v0, .int .u32 v1, .int .u32 v2, .int .u32 v3, .int .u32 v4, .int .u32 v5, .int .u32 v6, .int .u32 v7, .int .u32 v8, .int .u32 v9, .int .u32 v10, .int .u32 v11, .int .u32 v12, .int .u32 v13, .int .u32 v14, .int .u32 v15] := ⟨_, _, _, _, _, _, _, _, _, _, _, _, _, _, _, _, rfl⟩
      have HV := Lib.hid hv
      rw [hv] at HB1
      have HZ : Hid (halfTab 0 = #[.int .u32 0, .int .u32 0, .int .u32 0, .int .u32 0, .int .u32 0, .int .u32 0, .int .u32 0, .int .u32 0, .int .u32 0, .int .u32 0, .int .u32 0, .int .u32 0, .int .u32 0, .int .u32 0, .int .u32 0, .int .u32 0]) := Lib.hid rfl
      rw [HZ.out] at HA1
      have x0 : wr.cell? ⟨w.heap.size, 0, none⟩ = some (.int .u32 0) := HA1.out.cell 0
      have y0 : wr.cell? ⟨w.heap.size + 1, 0, none⟩ = some (.int .u32 v0) := HB1.out.cell 0
      have x1 : wr.cell? ⟨w.heap.size, 1, none⟩ = some (.int .u32 0) := HA1.out.cell 1
      have y1 : wr.cell? ⟨w.heap.size + 1, 1, none⟩ = some (.int .u32 v1) := HB1.out.cell 1
      have x2 : wr.cell? ⟨w.heap.size, 2, none⟩ = some (.int .u32 0) := HA1.out.cell 2
      have y2 : wr.cell? ⟨w.heap.size + 1, 2, none⟩ = some (.int .u32 v2) := HB1.out.cell 2
      have x3 : wr.cell? ⟨w.heap.size, 3, none⟩ = some (.int .u32 0) := HA1.out.cell 3
      have y3 : wr.cell? ⟨w.heap.size + 1, 3, none⟩ = some (.int .u32 v3) := HB1.out.cell 3
      have x4 : wr.cell? ⟨w.heap.size, 4, none⟩ = some (.int .u32 0) := HA1.out.cell 4
      have y4 : wr.cell? ⟨w.heap.size + 1, 4, none⟩ = some (.int .u32 v4) := HB1.out.cell 4
      have x5 : wr.cell? ⟨w.heap.size, 5, none⟩ = some (.int .u32 0) := HA1.out.cell 5
      have y5 : wr.cell? ⟨w.heap.size + 1, 5, none⟩ = some (.int .u32 v5) := HB1.out.cell 5
      have x6 : wr.cell? ⟨w.heap.size, 6, none⟩ = some (.int .u32 0) := HA1.out.cell 6
      have y6 : wr.cell? ⟨w.heap.size + 1, 6, none⟩ = some (.int .u32 v6) := HB1.out.cell 6
      have x7 : wr.cell? ⟨w.heap.size, 7, none⟩ = some (.int .u32 0) := HA1.out.cell 7
      have y7 : wr.cell? ⟨w.heap.size + 1, 7, none⟩ = some (.int .u32 v7) := HB1.out.cell 7
      have x8 : wr.cell? ⟨w.heap.size, 8, none⟩ = some (.int .u32 0) := HA1.out.cell 8
      have y8 : wr.cell? ⟨w.heap.size + 1, 8, none⟩ = some (.int .u32 v8) := HB1.out.cell 8
      have x9 : wr.cell? ⟨w.heap.size, 9, none⟩ = some (.int .u32 0) := HA1.out.cell 9
      have y9 : wr.cell? ⟨w.heap.size + 1, 9, none⟩ = some (.int .u32 v9) := HB1.out.cell 9
      have x10 : wr.cell? ⟨w.heap.size, 10, none⟩ = some (.int .u32 0) := HA1.out.cell 10
      have y10 : wr.cell? ⟨w.heap.size + 1, 10, none⟩ = some (.int .u32 v10) := HB1.out.cell 10
      have x11 : wr.cell? ⟨w.heap.size, 11, none⟩ = some (.int .u32 0) := HA1.out.cell 11
      have y11 : wr.cell? ⟨w.heap.size + 1, 11, none⟩ = some (.int .u32 v11) := HB1.out.cell 11
      have x12 : wr.cell? ⟨w.heap.size, 12, none⟩ = some (.int .u32 0) := HA1.out.cell 12
      have y12 : wr.cell? ⟨w.heap.size + 1, 12, none⟩ = some (.int .u32 v12) := HB1.out.cell 12
      have x13 : wr.cell? ⟨w.heap.size, 13, none⟩ = some (.int .u32 0) := HA1.out.cell 13
      have y13 : wr.cell? ⟨w.heap.size + 1, 13, none⟩ = some (.int .u32 v13) := HB1.out.cell 13
      have x14 : wr.cell? ⟨w.heap.size, 14, none⟩ = some (.int .u32 0) := HA1.out.cell 14
      have y14 : wr.cell? ⟨w.heap.size + 1, 14, none⟩ = some (.int .u32 v14) := HB1.out.cell 14
      have x15 : wr.cell? ⟨w.heap.size, 15, none⟩ = some (.int .u32 0) := HA1.out.cell 15
      have y15 : wr.cell? ⟨w.heap.size + 1, 15, none⟩ = some (.int .u32 v15) := HB1.out.cell 15
      have xf : ∀ i, wr.frozen? ⟨w.heap.size, i, none⟩ = false := HA1.out.frozen
      clear hv
      go_wp2_with fail
      refine bodyPost_ret (v := .agg #[.int .u32 v0, .int .u32 v1, .int .u32 v2, .int .u32 v3, .int .u32 v4, .int .u32 v5, .int .u32 v6, .int .u32 v7, .int .u32 v8, .int .u32 v9, .int .u32 v10, .int .u32 v11, .int .u32 v12, .int .u32 v13, .int .u32 v14, .int .u32 v15]) (by simp only [results, Tryz.results200]; go_simp) rfl ⟨?_, ?_⟩
      · rw [HV.out]
      · iterate 16 (refine Below.setCell ?_ (by simp) _)
        exact HW1.out
end Go.Proofs.YtcbebefdbdppdaaGreat

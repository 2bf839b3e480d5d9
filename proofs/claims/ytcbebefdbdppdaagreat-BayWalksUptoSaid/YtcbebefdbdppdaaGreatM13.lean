/- Numbers as bytes: how many bytes a kind has.; Numbers as bytes: Put.; A shard and its head as plain things: may it be, its lengths, its bytes; what bytes say. No program in sight. -/
import Derived.Test.YtcbebefdbdppdaaGreatM12
import Derived.Laws.BitsAllLaws
import Derived.Laws.Shifts
import Derived.Laws.ShiftsVarLaws
namespace Go.Proofs.YtcbebefdbdppdaaGreat
open Go.RowKit Go.Maps
set_option maxRecDepth 100000 in
theorem len64_8 (w : World) : Calls Tryz.prog 201 #[.int .u64 255] w fun e w' => e = .returned (.int .i64 8) ∧ w = w' := by
  go_enter Tryz.func201, Tryz.ntmps201
  go_wp2
  go_ret
  refine ⟨?_, rfl⟩
  kernel_rfl
set_option maxRecDepth 100000 in
theorem len64_32 (w : World) : Calls Tryz.prog 201 #[.int .u64 4294967295] w fun e w' => e = .returned (.int .i64 32) ∧ w = w' := by
  go_enter Tryz.func201, Tryz.ntmps201
  go_wp2
  go_ret
  refine ⟨?_, rfl⟩
  kernel_rfl
theorem width8_any (w : World) : Calls Tryz.prog 207 #[] w fun e w' => e = .returned (.int .i64 1) ∧ w = w' := by
  have hsg : IntKind.u8.signed = false := rfl
  have h1 : bits .xor .u8 IntKind.u8.max 0 = 255 := by decide
  go_enter Tryz.func207, Tryz.ntmps207
  go_wp2_with (go_at_call 201; refine (len64_8 _).mono ?_; rintro e w' ⟨rfl, rfl⟩)
  go_ret
  exact ⟨rfl, rfl⟩
theorem width32_any (w : World) : Calls Tryz.prog 168 #[] w fun e w' => e = .returned (.int .i64 4) ∧ w = w' := by
  have hsg : IntKind.u32.signed = false := rfl
  have h1 : bits .xor .u32 IntKind.u32.max 0 = 4294967295 := by decide
  go_enter Tryz.func168, Tryz.ntmps168
  go_wp2_with (go_at_call 201; refine (len64_32 _).mono ?_; rintro e w' ⟨rfl, rfl⟩)
  go_ret
  exact ⟨rfl, rfl⟩
end Go.Proofs.YtcbebefdbdppdaaGreat
namespace Go.Proofs.YtcbebefdbdppdaaGreat
open Go.RowKit Go.Maps
theorem leN_take_succ (v k j : Nat) (h : j < k) : (leN v k).take (j + 1) = (leN v k).take j ++ [UInt8.ofNat (v / 256 ^ j)] := by
  induction k generalizing v j with
  | zero => omega
  | succ k ih =>
    cases j with
    | zero => simp [leN]
    | succ j =>
      show UInt8.ofNat v :: (leN (v / 256) k).take (j + 1) = (UInt8.ofNat v :: (leN (v / 256) k).take j) ++ _
      rw [ih (v / 256) j (by omega), Nat.div_div_eq_div_mul, Nat.mul_comm 256, ← Nat.pow_succ]
      rfl
theorem put_step (bs : List UInt8) (v k j : Nat) (h : j < k) (y : Int) (hy : y = ((v / 256 ^ j % 256 : Nat) : Int)) : (bs ++ (leN v k).take j).map B8 ++ [.int .u8 y] = (bs ++ (leN v k).take (j + 1)).map B8 := by
  rw [leN_take_succ v k j h, ← List.append_assoc, List.map_append, List.map_append, List.map_append, List.map_cons, List.map_nil, hy]
  unfold B8
  rw [UInt8.toNat_ofNat']
set_option maxRecDepth 100000 in
set_option maxHeartbeats 4000000 in
theorem put32_any (A : Option Addr) (n c : Nat) (bs : List UInt8) (v : Nat) (w : World) (B : Nat) (hx : Reads w B 1 A n (bs.map B8)) (hv : v < 4294967296) (hbig : n ≤ 1099511627776) :
    Calls Tryz.prog 122 #[.slice A n c, .int .u32 (v : Int)] w fun e w' => ∃ u, e = .returned u ∧ w'.ownsRow w.heap.size 5 1 u (n + 4) ((bs ++ leN v 4).map B8) ∧ Below w.heap.size w w' := by
  have HX := Lib.hid hx
  have HC := Lib.hid (clone_any A n c bs w B hx (by omega))
  have HV := Lib.hid hv
  have hv1 : (v : Int) < (4294967296 : Int) := by omega
  have hv0 : (0 : Int) ≤ (v : Int) := Int.natCast_nonneg _
  obtain ⟨i5, hi5, hz0, hz1, hz2⟩ := info_parts byteInfo
  have HM : Hid (∀ k, k ≤ 4 → n + k + 1 ≤ maxLen ∧ (n + k + 1) * 1 ≤ 140737488355328) := Lib.hid fun k hk => ⟨by simp only [maxLen]; omega, by omega⟩
  clear hx hv hbig
  go_enter Tryz.func122, Tryz.ntmps122
  go_wp2_with (first
    | (go_at_call 79; refine HC.out.mono ?_; rintro e w1 ⟨v0, rfl, ho, hb⟩; obtain ⟨a0, c0, rfl, _⟩ := own_shape ho; have HO := Lib.hid ho; have HB := Lib.hid hb; clear ho hb)
    | (go_at_call 168; refine (width32_any _).mono ?_; rintro e w' ⟨rfl, rfl⟩))
  go_loopw [5, 6, 10] (fun s5 _ s10 wr => ∃ k : Nat, k ≤ 4 ∧ s10 = .int .i64 k ∧ (∃ a c, s5 = .slice a (n + k) c) ∧ wr.ownsRow w.heap.size 5 1 s5 (n + k) ((bs ++ (leN v 4).take k).map B8) ∧ Below w.heap.size w wr) (fun _ _ s _ => 4 - (intOf s).toNat)
  case atStart => exact ⟨0, Nat.zero_le _, rfl, ⟨_, _, rfl⟩, by rw [List.take_zero, List.append_nil]; exact HO.out, HB.out⟩
  case round =>
    obtain ⟨k, hk, rfl, ⟨a1, c1, rfl⟩, ho, hb⟩ := hrel
    have HO1 := Lib.hid ho
    have HB1 := Lib.hid hb
    have hsz := hb.size
    clear ho hb
    by_cases hlt : k < 4
    · obtain rfl | rfl | rfl | rfl : k = 0 ∨ k = 1 ∨ k = 2 ∨ k = 3 := by omega
      · go_wp2_with (at_builtin; (refine wpList_append_any _ rfl _ _ 46 rfl w.heap.size 5 i5 _ 1 1 Tryz.underlying46 hi5 hz0 hz1 hz2 rfl (by omega) _ (n + 0) _ rfl (HO1.out.alloc _) (wr.heap.size + 1) (some ⟨wr.heap.size, 0, none⟩) 1 1 _ rfl (reads_blk (t := 5) (blk_last _ _ _ _ rfl) (by omega) rfl) (by intro u hu; simp at hu; subst hu; rfl) (HM.out 0 (by decide)).1 (HM.out 0 (by decide)).2 (by rw [alloc_size]; omega) ?_); intro v1 w1 hown1 hg1 hat1; obtain ⟨a2, c2, hvs, _⟩ := own_shape hown1; subst hvs; have HOWN := Lib.hid hown1; have HB2 := Lib.hid ((HB1.out.alloc hsz _).grown hg1 (by rw [alloc_size]; omega) (fun i hi => (HO1.out.lt i hi).1)); clear hown1 hg1 hat1)
        go_roundw
        case rel =>
          refine ⟨1, by omega, by go_num, ⟨_, _, rfl⟩, ?_, HB2.out⟩
          have := HOWN.out
          rw [put_step bs v 4 0 (by omega) _ (by first | (simp; done) | (simp; omega))] at this
          exact this
        case measure => first | (simp [intOf]; done) | (simp [intOf]; omega)
      · go_wp2_with (at_builtin; (refine wpList_append_any _ rfl _ _ 46 rfl w.heap.size 5 i5 _ 1 1 Tryz.underlying46 hi5 hz0 hz1 hz2 rfl (by omega) _ (n + 1) _ rfl (HO1.out.alloc _) (wr.heap.size + 1) (some ⟨wr.heap.size, 0, none⟩) 1 1 _ rfl (reads_blk (t := 5) (blk_last _ _ _ _ rfl) (by omega) rfl) (by intro u hu; simp at hu; subst hu; rfl) (HM.out 1 (by decide)).1 (HM.out 1 (by decide)).2 (by rw [alloc_size]; omega) ?_); intro v1 w1 hown1 hg1 hat1; obtain ⟨a2, c2, hvs, _⟩ := own_shape hown1; subst hvs; have HOWN := Lib.hid hown1; have HB2 := Lib.hid ((HB1.out.alloc hsz _).grown hg1 (by rw [alloc_size]; omega) (fun i hi => (HO1.out.lt i hi).1)); clear hown1 hg1 hat1)
        go_roundw
        case rel =>
          refine ⟨2, by omega, by go_num, ⟨_, _, rfl⟩, ?_, HB2.out⟩
          have := HOWN.out
          rw [put_step bs v 4 1 (by omega) _ (by first | (simp; done) | (simp; omega))] at this
          exact this
        case measure => first | (simp [intOf]; done) | (simp [intOf]; omega)
      · go_wp2_with (at_builtin; (refine wpList_append_any _ rfl _ _ 46 rfl w.heap.size 5 i5 _ 1 1 Tryz.underlying46 hi5 hz0 hz1 hz2 rfl (by omega) _ (n + 2) _ rfl (HO1.out.alloc _) (wr.heap.size + 1) (some ⟨wr.heap.size, 0, none⟩) 1 1 _ rfl (reads_blk (t := 5) (blk_last _ _ _ _ rfl) (by omega) rfl) (by intro u hu; simp at hu; subst hu; rfl) (HM.out 2 (by decide)).1 (HM.out 2 (by decide)).2 (by rw [alloc_size]; omega) ?_); intro v1 w1 hown1 hg1 hat1; obtain ⟨a2, c2, hvs, _⟩ := own_shape hown1; subst hvs; have HOWN := Lib.hid hown1; have HB2 := Lib.hid ((HB1.out.alloc hsz _).grown hg1 (by rw [alloc_size]; omega) (fun i hi => (HO1.out.lt i hi).1)); clear hown1 hg1 hat1)
        go_roundw
        case rel =>
          refine ⟨3, by omega, by go_num, ⟨_, _, rfl⟩, ?_, HB2.out⟩
          have := HOWN.out
          rw [put_step bs v 4 2 (by omega) _ (by first | (simp; done) | (simp; omega))] at this
          exact this
        case measure => first | (simp [intOf]; done) | (simp [intOf]; omega)
      · go_wp2_with (at_builtin; (refine wpList_append_any _ rfl _ _ 46 rfl w.heap.size 5 i5 _ 1 1 Tryz.underlying46 hi5 hz0 hz1 hz2 rfl (by omega) _ (n + 3) _ rfl (HO1.out.alloc _) (wr.heap.size + 1) (some ⟨wr.heap.size, 0, none⟩) 1 1 _ rfl (reads_blk (t := 5) (blk_last _ _ _ _ rfl) (by omega) rfl) (by intro u hu; simp at hu; subst hu; rfl) (HM.out 3 (by decide)).1 (HM.out 3 (by decide)).2 (by rw [alloc_size]; omega) ?_); intro v1 w1 hown1 hg1 hat1; obtain ⟨a2, c2, hvs, _⟩ := own_shape hown1; subst hvs; have HOWN := Lib.hid hown1; have HB2 := Lib.hid ((HB1.out.alloc hsz _).grown hg1 (by rw [alloc_size]; omega) (fun i hi => (HO1.out.lt i hi).1)); clear hown1 hg1 hat1)
        go_roundw
        case rel =>
          refine ⟨4, by omega, by go_num, ⟨_, _, rfl⟩, ?_, HB2.out⟩
          have := HOWN.out
          rw [put_step bs v 4 3 (by omega) _ (by first | (simp; done) | (simp; omega))] at this
          exact this
        case measure => first | (simp [intOf]; done) | (simp [intOf]; omega)
    · obtain rfl : k = 4 := by omega
      have HE : Hid ((leN v 4).take 4 = leN v 4) := Lib.hid (List.take_of_length_le (by rw [leN_length]; exact Nat.le_refl _))
      rw [HE.out] at HO1
      go_wp2
      go_ret
      exact ⟨_, rfl, HO1.out, HB1.out⟩
end Go.Proofs.YtcbebefdbdppdaaGreat
namespace Go.Proofs.YtcbebefdbdppdaaGreat
structure Hd where
  st : List UInt8
  k : Int
  m : Int
  b : Int
  key : List UInt8
  size : Int
  idx : Int
  ep : Int
  cn : Int
namespace Hd
def shapeOk (k m b : Int) : Bool := decide (1 ≤ m ∧ m ≤ k ∧ k ≤ 255 ∧ k + m ≤ 255 ∧ 1 ≤ b ∧ b ≤ 65536)
def fitsE (k b size : Int) : Int := if size < 0 then 2 else if 1048576 < size ∨ 4096 < (size + k * b - 1) / (k * b) then 3 else 0
def may (h : Hd) : Int :=
  if shapeOk h.k h.m h.b = false then 4
  else if h.key.length = 0 ∨ 255 < h.key.length then 90
  else if fitsE h.k h.b h.size ≠ 0 then fitsE h.k h.b h.size
  else if h.idx < 0 ∨ h.k + h.m ≤ h.idx then 2
  else if h.ep < 1 ∨ 4294967295 < h.ep ∨ h.cn < 1 ∨ 4294967295 < h.cn then 2 else 0
structure Fit (h : Hd) : Prop where
  m : 1 ≤ h.m ∧ h.m ≤ h.k
  k : h.k + h.m ≤ 255
  b : 1 ≤ h.b ∧ h.b ≤ 65536
  key : 1 ≤ h.key.length ∧ h.key.length ≤ 255
  size : 0 ≤ h.size ∧ h.size ≤ 1048576
  num : (h.size + h.k * h.b - 1) / (h.k * h.b) ≤ 4096
  idx : 0 ≤ h.idx ∧ h.idx < h.k + h.m
  ep : 1 ≤ h.ep ∧ h.ep ≤ 4294967295
  cn : 1 ≤ h.cn ∧ h.cn ≤ 4294967295
theorem fit_of {h : Hd} (e : h.may = 0) : h.Fit := by
  unfold may at e
  split at e
  · cases e
  · rename_i h1
    split at e
    · cases e
    · rename_i h2
      split at e
      · rename_i h3; exact absurd e h3
      · rename_i h3
        split at e
        · cases e
        · rename_i h4
          split at e
          · cases e
          · rename_i h5
            have h1' : shapeOk h.k h.m h.b = true := by simpa using h1
            unfold shapeOk at h1'
            have h1'' := of_decide_eq_true h1'
            have h3' : fitsE h.k h.b h.size = 0 := by omega
            unfold fitsE at h3'
            split at h3'
            · cases h3'
            · split at h3'
              · cases h3'
              · rename_i h6 h7
                exact ⟨by omega, by omega, by omega, by omega, by omega, by omega, by omega, by omega, by omega⟩
theorem may_of {h : Hd} (f : h.Fit) : h.may = 0 := by
  have h1 := f.m; have h2 := f.k; have h3 := f.b; have h4 := f.key; have h5 := f.size; have h6 := f.num; have h7 := f.idx; have h8 := f.ep; have h9 := f.cn
  have hs : shapeOk h.k h.m h.b = true := by unfold shapeOk; exact decide_eq_true (by omega)
  have hf : fitsE h.k h.b h.size = 0 := by unfold fitsE; rw [if_neg (by omega), if_neg (by omega)]
  unfold may
  rw [hs, hf, if_neg (by decide), if_neg (by omega), if_neg (by decide), if_neg (by omega), if_neg (by omega)]
def lensN (k b size : Nat) : List Nat :=
  if size % (k * b) = 0 then List.replicate (size / (k * b)) b else List.replicate (size / (k * b)) b ++ [(size % (k * b) + k - 1) / k]
def lens (h : Hd) : List Nat := lensN h.k.toNat h.b.toNat h.size.toNat
def sumL (l : List Nat) : Nat := l.foldr (fun x s => x + 4 + s) 0
def len (h : Hd) : Nat := 40 + h.key.length + sumL h.lens
def magic : List UInt8 := [67, 82, 78, 2]
def fixed (h : Hd) : List UInt8 := magic ++ h.st ++ [UInt8.ofNat h.k.toNat, UInt8.ofNat h.m.toNat] ++ leN h.b.toNat 4 ++ leN h.size.toNat 4 ++ [UInt8.ofNat h.idx.toNat] ++ leN h.ep.toNat 4 ++ leN h.cn.toNat 4 ++ [UInt8.ofNat h.key.length]
def sum (h : Hd) : Nat := crcSum (h.fixed ++ h.key)
def head (h : Hd) : List UInt8 := h.fixed ++ leN (crcSum h.fixed) 4 ++ h.key ++ leN h.sum 4
end Hd
def ownSum (s j : Nat) (x : List UInt8) : Nat := crcSum (leN s 4 ++ leN j 4 ++ x)
def frames (s : Nat) : Nat → List (List UInt8) → List UInt8
  | _, [] => []
  | j, x :: r => x ++ leN (ownSum s j x) 4 ++ frames s (j + 1) r
def shardBytes (h : Hd) (l : List (List UInt8)) : List UInt8 := h.head ++ frames h.sum 0 l
namespace Hd
def keyLen (b : List UInt8) : Nat := (b.getD 31 0).toNat
def ofB (b : List UInt8) : Hd := ⟨(b.drop 4).take 8, ((b.getD 12 0).toNat : Int), ((b.getD 13 0).toNat : Int), (unle ((b.drop 14).take 4) : Int), (b.drop 36).take (keyLen b), (unle ((b.drop 18).take 4) : Int), ((b.getD 22 0).toNat : Int), (unle ((b.drop 23).take 4) : Int), (unle ((b.drop 27).take 4) : Int)⟩
def zero : Hd := ⟨List.replicate 8 0, 0, 0, 0, [], 0, 0, 0, 0⟩
def openE (b : List UInt8) : Int :=
  if b.length < 36 then 70
  else if b.take 4 ≠ magic then 80
  else if crcSum (b.take 32) ≠ unle ((b.drop 32).take 4) then 82
  else if b.length < 40 + keyLen b then 70
  else if unle ((b.drop (36 + keyLen b)).take 4) ≠ crcSum (b.take 32 ++ (b.drop 36).take (keyLen b)) then 82
  else if (ofB b).may ≠ 0 then 81 else 0
end Hd
def cutB (s : Nat) : Nat → List UInt8 → List Nat → List (List UInt8 × Bool)
  | _, _, [] => []
  | j, rest, n :: l =>
    if rest.length < n + 4 then ([], false) :: cutB s (j + 1) [] l
    else (rest.take n, decide (unle ((rest.drop n).take 4) = ownSum s j (rest.take n))) :: cutB s (j + 1) (rest.drop (n + 4)) l
def cutOf (b : List UInt8) : List (List UInt8 × Bool) := cutB (Hd.ofB b).sum 0 (b.drop (40 + (Hd.ofB b).key.length)) (Hd.ofB b).lens
def parseE (b : List UInt8) : Int :=
  if Hd.openE b ≠ 0 then Hd.openE b
  else if b.length < (Hd.ofB b).len then 70
  else if (Hd.ofB b).len < b.length then 72
  else if (cutOf b).all (·.2) then 0 else 82
end Go.Proofs.YtcbebefdbdppdaaGreat

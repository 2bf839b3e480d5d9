/- The sum of layer 6: contracts of over, More, Sum.; A shard's bytes say that shard. No program in sight.; frame.may, fits, Check: may a head be? -/
import Derived.Test.YtcbebefdbdppdaaGreatM14
import Derived.Test.YtcbebefdbdppdaaGreatM13
import Derived.IntWalk
namespace Go.Proofs.YtcbebefdbdppdaaGreat
open Go.RowKit Go.Maps
theorem halfTab_get {j : Nat} (h : j < 16) : (halfTab 16)[j]? = some (.int .u32 ((stp4 j : Nat) : Int)) := by
  match j, h with
  | 0, _ => rfl
  | 1, _ => rfl
  | 2, _ => rfl
  | 3, _ => rfl
  | 4, _ => rfl
  | 5, _ => rfl
  | 6, _ => rfl
  | 7, _ => rfl
  | 8, _ => rfl
  | 9, _ => rfl
  | 10, _ => rfl
  | 11, _ => rfl
  | 12, _ => rfl
  | 13, _ => rfl
  | 14, _ => rfl
  | 15, _ => rfl
  | _ + 16, h => omega
theorem nib_facts (r : Nat) (hr : r < 4294967296) : ∃ j : Nat, j < 16 ∧ bits .and .u32 (r : Int) (15 : Int) = (j : Int) ∧ bits .xor .u32 ((r : Int) / (16 : Int)) ((stp4 j : Nat) : Int) = ((nib r : Nat) : Int) := by
  refine ⟨r &&& 15, Nat.lt_of_le_of_lt Nat.and_le_right (by decide), ?_, ?_⟩
  · exact u32_and_nat r 15 hr (by decide)
  · have h : (r : Int) / (16 : Int) = ((r >>> 4 : Nat) : Int) := by rw [Nat.shiftRight_eq_div_pow]; omega
    rw [h]
    exact u32_xor_nat (r >>> 4) (stp4 (r &&& 15)) (by rw [Nat.shiftRight_eq_div_pow]; omega) (stp4_lt (Nat.lt_of_le_of_lt Nat.and_le_right (by decide)))
theorem over_any (r : Nat) (hr : r < 4294967296) (A : Option Addr) (n c : Nat) (bs : List UInt8) (w : World) (B : Nat) (hx : Reads w B 1 A n (bs.map B8)) (hB : B ≤ w.heap.size) (hbig : n ≤ 140737488355328) :
    Calls Tryz.prog 167 #[.int .u32 (r : Int), .slice A n c] w fun e w' => e = .returned (.int .u32 ((over r bs : Nat) : Int)) ∧ Below w.heap.size w w' := by
  have HX := Lib.hid hx
  have hlen : bs.length = n := by have := hx.1; simpa using this
  clear hx
  go_enter Tryz.func167, Tryz.ntmps167
  go_wp2_with fail
  refine (halves_any w).mono ?_
  rintro e w1 ⟨rfl, hb1⟩
  have HB1 := Lib.hid hb1
  have hs1 := hb1.size
  obtain ⟨v0, v1, v2, v3, v4, v5, v6, v7, v8, v9, v10, v11, v12, v13, v14, v15, hv⟩ : ∃ v0 v1 v2 v3 v4 v5 v6 v7 v8 v9 v10 v11 v12 v13 v14 v15 : Int, halfTab 16 = #[.int .u32 v0, .int .u32 v1, .int .u32 v2, .int .u32 v3, .int .u32 v4, .int .u32 v5, .int .u32 v6, .int .u32 v7, .int .u32 v8, .int .u32 v9, .int .u32 v10, .int .u32 v11, .int .u32 v12, .int .u32 v13, .int .u32 v14, .int .u32 v15] := ⟨_, _, _, _, _, _, _, _, _, _, _, _, _, _, _, _, rfl⟩
  have HV := Lib.hid hv
  rw [hv]
  clear hb1 hv
  go_wp2_with fail
  refine wp_world fun W hW => ?_
  rw [← HV.out] at hW
  have HT : Hid (∀ j, j < 16 → W.cell? ⟨w1.heap.size, j, none⟩ = some (.int .u32 ((stp4 j : Nat) : Int))) := Lib.hid fun j hj => by
    rw [hW]; exact ((Blk.new w1 _ (halfTab 16)).cell j).trans (halfTab_get hj)
  have HW : Hid (Below w.heap.size w W) := Lib.hid (by rw [hW]; exact HB1.out.alloc hs1 _)
  have HR : Hid (Reads W B 1 A n (bs.map B8)) := Lib.hid (HX.out.below (HW.out.mono hB))
  clear hW
  go_loopw [0, 7, 11] (fun s0 _ s11 wr => ∃ k : Nat, k ≤ n ∧ s0 = .int .u32 ((over r (bs.take k) : Nat) : Int) ∧ s11 = .int .i64 k ∧ wr = W) (fun _ _ s _ => n - (intOf s).toNat)
  case atStart => exact ⟨0, Nat.zero_le _, by rw [List.take_zero]; rfl, rfl, rfl⟩
  case round =>
    obtain ⟨k, hk, rfl, rfl, rfl⟩ := hrel
    have hk0 : (0 : Int) ≤ (k : Int) := Int.natCast_nonneg _
    by_cases hlt : k < n
    · have hk1 : (k : Int) < (n : Int) := by omega
      obtain ⟨ad, u, rfl, _, hu, hc⟩ := HR.out.at_ hlt
      obtain ⟨x, hx⟩ : ∃ x, bs[k]? = some x := ⟨_, List.getElem?_eq_getElem (by omega)⟩
      have hue : u = .int .u8 (x.toNat : Int) := by
        rw [List.getElem?_map, hx] at hu; exact (Option.some.inj hu).symm
      subst hue
      obtain ⟨q, hq⟩ : ∃ q, q = over r (bs.take k) := ⟨_, rfl⟩
      have hql : q < 4294967296 := by rw [hq]; exact over_lt hr _
      obtain ⟨y, hy⟩ : ∃ y : Nat, y = x.toNat := ⟨_, rfl⟩
      have hy2 : y < 256 := by rw [hy]; exact x.toNat_lt
      have HN : Hid (over r (bs.take (k + 1)) = upd q y) := Lib.hid (by
        rw [List.take_add_one, hx, over_append, hq, hy]; rfl)
      rw [← hy] at hc
      rw [← hq]
      obtain ⟨r1, hr1⟩ : ∃ r1, r1 = q ^^^ y := ⟨_, rfl⟩
      have hr1l : r1 < 4294967296 := by rw [hr1]; exact Nat.xor_lt_two_pow (n := 32) hql (by omega)
      have hx1 : bits .xor .u32 (q : Int) (y : Int) = (r1 : Int) := by rw [hr1]; exact u32_xor_nat q y hql (by omega)
      obtain ⟨r2, hr2⟩ : ∃ r2, r2 = nib r1 := ⟨_, rfl⟩
      obtain ⟨r3, hr3⟩ : ∃ r3, r3 = nib r2 := ⟨_, rfl⟩
      have hr2l : r2 < 4294967296 := by rw [hr2]; exact nib_lt hr1l
      obtain ⟨j1, hj1, ha1, hb1⟩ := nib_facts r1 hr1l
      obtain ⟨j2, hj2, ha2, hb2⟩ := nib_facts r2 hr2l
      have hc1 := HT.out j1 hj1
      have hc2 := HT.out j2 hj2
      rw [← hr2] at hb1
      rw [← hr3] at hb2
      have HN3 : Hid (upd q y = r3) := Lib.hid (by rw [hr3, hr2, hr1]; rfl)
      have hyc : (y : Int) % 4294967296 = (y : Int) := by omega
      obtain ⟨z1, hz1⟩ : ∃ z, z = stp4 j1 := ⟨_, rfl⟩
      obtain ⟨z2, hz2⟩ : ∃ z, z = stp4 j2 := ⟨_, rfl⟩
      rw [← hz1] at hb1 hc1
      rw [← hz2] at hb2 hc2
      have hj1' : (j1 : Int) < 16 := by omega
      have hj2' : (j2 : Int) < 16 := by omega
      have hj10 : (0 : Int) ≤ (j1 : Int) := Int.natCast_nonneg _
      have hj20 : (0 : Int) ≤ (j2 : Int) := Int.natCast_nonneg _
      clear hq hy hx hr1 hr2 hr3 hz1 hz2 hu
      go_wp2
      go_roundw
      case rel => exact ⟨k + 1, by omega, by rw [HN.out, HN3.out], by go_num, trivial⟩
      case measure => simp [intOf]; omega
    · have hkn : k = n := by omega
      have HE : Hid (over r (bs.take k) = over r bs) := Lib.hid (by rw [hkn, ← hlen, List.take_length])
      rw [HE.out]
      go_wp2
      go_ret
      exact ⟨rfl, HW.out⟩
theorem not_u32 (r : Nat) (hr : r < 4294967296) : bits .xor .u32 (4294967295 : Int) (r : Int) = ((r ^^^ 4294967295 : Nat) : Int) := by
  rw [Nat.xor_comm]; exact u32_xor_nat 4294967295 r (by decide) hr
theorem more_any (s : Nat) (hs : s < 4294967296) (A : Option Addr) (n c : Nat) (bs : List UInt8) (w : World) (B : Nat) (hx : Reads w B 1 A n (bs.map B8)) (hB : B ≤ w.heap.size) (hbig : n ≤ 140737488355328) :
    Calls Tryz.prog 120 #[.int .u32 (s : Int), .slice A n c] w fun e w' => e = .returned (.int .u32 ((over (s ^^^ 4294967295) bs ^^^ 4294967295 : Nat) : Int)) ∧ Below w.heap.size w w' := by
  have hr : s ^^^ 4294967295 < 4294967296 := Nat.xor_lt_two_pow (n := 32) hs (by decide)
  obtain ⟨r, hre⟩ : ∃ r, r = s ^^^ 4294967295 := ⟨_, rfl⟩
  rw [← hre] at hr ⊢
  obtain ⟨t, hte⟩ : ∃ t, t = over r bs := ⟨_, rfl⟩
  have ht : t < 4294967296 := by rw [hte]; exact over_lt hr _
  have h1 : bits .xor .u32 IntKind.u32.max (s : Int) = (r : Int) := by rw [hre]; exact not_u32 s hs
  have h2 : bits .xor .u32 IntKind.u32.max (t : Int) = ((t ^^^ 4294967295 : Nat) : Int) := not_u32 t ht
  have hsg : IntKind.u32.signed = false := rfl
  obtain ⟨u, hue⟩ : ∃ u, u = t ^^^ 4294967295 := ⟨_, rfl⟩
  rw [← hue] at h2
  have HO := Lib.hid (over_any r hr A n c bs w B hx hB hbig)
  rw [← hte] at HO ⊢
  rw [← hue]
  clear hx hre hte hue
  go_enter Tryz.func120, Tryz.ntmps120
  go_wp2_with (go_at_call 167; refine HO.out.mono ?_; rintro e w1 ⟨rfl, hb1⟩; have HB1 := Lib.hid hb1; clear hb1)
  go_ret
  exact ⟨rfl, HB1.out⟩
theorem sum_any (A : Option Addr) (n c : Nat) (bs : List UInt8) (w : World) (B : Nat) (hx : Reads w B 1 A n (bs.map B8)) (hB : B ≤ w.heap.size) (hbig : n ≤ 140737488355328) :
    Calls Tryz.prog 119 #[.slice A n c] w fun e w' => e = .returned (.int .u32 ((crcSum bs : Nat) : Int)) ∧ Below w.heap.size w w' := by
  have HO := Lib.hid (more_any 0 (by decide) A n c bs w B hx hB hbig)
  rw [show over (0 ^^^ 4294967295) bs ^^^ 4294967295 = crcSum bs by rw [Nat.zero_xor]; rfl] at HO
  obtain ⟨t, hte⟩ : ∃ t, t = crcSum bs := ⟨_, rfl⟩
  rw [← hte] at HO ⊢
  clear hx hte
  go_enter Tryz.func119, Tryz.ntmps119
  go_wp2_with (go_at_call 120; refine HO.out.mono ?_; rintro e w1 ⟨rfl, hb1⟩; have HB1 := Lib.hid hb1; clear hb1)
  go_ret
  exact ⟨rfl, HB1.out⟩
end Go.Proofs.YtcbebefdbdppdaaGreat
namespace Go.Proofs.YtcbebefdbdppdaaGreat
namespace Hd
theorem fixed_length (h : Hd) (hs : h.st.length = 8) : h.fixed.length = 32 := by
  unfold fixed magic
  simp [leN_length, hs]
theorem u32_back {n : Int} (h0 : 0 ≤ n) (h1 : n ≤ 4294967295) : ((unle (leN n.toNat 4) : Nat) : Int) = n := by
  rw [unle_leN]
  omega
theorem head_parts (h : Hd) (hs : h.st.length = 8) (t : List UInt8) :
    (h.head ++ t).take 4 = magic ∧ ((h.head ++ t).drop 4).take 8 = h.st ∧ (h.head ++ t).getD 12 0 = UInt8.ofNat h.k.toNat ∧ (h.head ++ t).getD 13 0 = UInt8.ofNat h.m.toNat ∧ ((h.head ++ t).drop 14).take 4 = leN h.b.toNat 4 ∧
    ((h.head ++ t).drop 18).take 4 = leN h.size.toNat 4 ∧ (h.head ++ t).getD 22 0 = UInt8.ofNat h.idx.toNat ∧ ((h.head ++ t).drop 23).take 4 = leN h.ep.toNat 4 ∧ ((h.head ++ t).drop 27).take 4 = leN h.cn.toNat 4 ∧ (h.head ++ t).getD 31 0 = UInt8.ofNat h.key.length ∧
    (h.head ++ t).take 32 = h.fixed ∧ ((h.head ++ t).drop 32).take 4 = leN (crcSum h.fixed) 4 ∧ (h.head ++ t).drop 36 = h.key ++ (leN h.sum 4 ++ t) := by
  obtain ⟨q, hq⟩ : ∃ q, q = crcSum h.fixed := ⟨_, rfl⟩
  obtain ⟨z, hz⟩ : ∃ z, z = leN h.sum 4 ++ t := ⟨_, rfl⟩
  have e : h.head ++ t = h.fixed ++ (leN q 4 ++ (h.key ++ z)) := by rw [hz, hq]; unfold head; simp
  rw [e, ← hz, ← hq]
  clear e hz hq
  obtain ⟨st, k, m, b, key, size, idx, ep, cn⟩ := h
  obtain ⟨a0, a1, a2, a3, a4, a5, a6, a7, rfl⟩ := lab_eight hs
  unfold fixed magic
  simp only [leN_four]
  refine ⟨rfl, rfl, rfl, rfl, rfl, rfl, rfl, rfl, rfl, rfl, rfl, rfl, rfl⟩
theorem keyLen_head (h : Hd) (hs : h.st.length = 8) (hk : h.key.length ≤ 255) (t : List UInt8) : keyLen (h.head ++ t) = h.key.length := by
  unfold keyLen
  rw [(head_parts h hs t).2.2.2.2.2.2.2.2.2.1, UInt8.toNat_ofNat']
  omega
theorem ofB_head (h : Hd) (hs : h.st.length = 8) (f : h.Fit) (t : List UInt8) : ofB (h.head ++ t) = h := by
  have f1 := f.m; have f2 := f.k; have f3 := f.b; have f4 := f.key; have f5 := f.size; have f7 := f.idx; have f8 := f.ep; have f9 := f.cn
  obtain ⟨p1, p2, p3, p4, p5, p6, p7, p8, p9, p10, p11, p12, p13⟩ := head_parts h hs t
  unfold ofB
  rw [keyLen_head h hs (by omega), p2, p3, p4, p5, p6, p7, p8, p9, p13, u8_back (by omega) (by omega), u8_back (by omega) (by omega), u8_back (by omega) (by omega), u32_back (by omega) (by omega), u32_back (by omega) (by omega), u32_back (by omega) (by omega), u32_back (by omega) (by omega), List.take_left]
theorem head_length (h : Hd) (hs : h.st.length = 8) : h.head.length = 40 + h.key.length := by
  unfold head
  simp only [List.length_append, fixed_length h hs, leN_length]
  omega
theorem openE_head (h : Hd) (hs : h.st.length = 8) (hm : h.may = 0) (t : List UInt8) : openE (h.head ++ t) = 0 := by
  have f := fit_of hm
  have f4 := f.key
  obtain ⟨p1, p2, p3, p4, p5, p6, p7, p8, p9, p10, p11, p12, p13⟩ := head_parts h hs t
  have hl := head_length h hs
  have hk := keyLen_head h hs (by omega) t
  have c1 := crcSum_lt h.fixed
  have c2 : h.sum < 4294967296 := crcSum_lt _
  have h5 : ((h.head ++ t).drop (36 + h.key.length)).take 4 = leN h.sum 4 := by
    rw [← List.drop_drop, p13, List.drop_left, List.take_append_of_le_length (by rw [leN_length]; omega), List.take_of_length_le (by rw [leN_length]; omega)]
  unfold openE
  rw [if_neg (by rw [List.length_append]; omega), if_neg (by rw [p1]; simp), if_neg (by rw [p11, p12, unle_leN]; omega), hk, if_neg (by rw [List.length_append]; omega),
    if_neg (by rw [h5, p11, p13, List.take_left, unle_leN]; show ¬ _ ≠ h.sum; omega), if_neg (by rw [ofB_head h hs f]; omega)]
end Hd
theorem frames_length (s : Nat) : ∀ (j : Nat) (l : List (List UInt8)), (frames s j l).length = Hd.sumL (l.map List.length)
  | _, [] => rfl
  | j, x :: l => by
    show (x ++ leN (ownSum s j x) 4 ++ frames s (j + 1) l).length = x.length + 4 + Hd.sumL (l.map List.length)
    rw [List.length_append, List.length_append, leN_length, frames_length s (j + 1) l]
theorem ownSum_lt (s j : Nat) (x : List UInt8) : ownSum s j x < 4294967296 := crcSum_lt _
theorem cutB_frames (s : Nat) : ∀ (j : Nat) (l : List (List UInt8)), cutB s j (frames s j l) (l.map List.length) = l.map (·, true)
  | _, [] => rfl
  | j, x :: l => by
    have e : frames s j (x :: l) = x ++ (leN (ownSum s j x) 4 ++ frames s (j + 1) l) := by
      show x ++ leN (ownSum s j x) 4 ++ frames s (j + 1) l = _
      rw [List.append_assoc]
    have hq := ownSum_lt s j x
    show (if (frames s j (x :: l)).length < x.length + 4 then _ else _) = (x, true) :: l.map (·, true)
    rw [if_neg (by rw [e, List.length_append, List.length_append, leN_length]; omega), e]
    have h1 : (x ++ (leN (ownSum s j x) 4 ++ frames s (j + 1) l)).drop (x.length + 4) = frames s (j + 1) l := by
      rw [← List.drop_drop, List.drop_left]
      exact List.drop_left' (leN_length _ _)
    rw [List.take_left, List.drop_left, h1, cutB_frames s (j + 1) l, List.take_append_of_le_length (by rw [leN_length]; omega), List.take_of_length_le (by rw [leN_length]; omega), unle_leN]
    rw [show decide (ownSum s j x % 256 ^ 4 = ownSum s j x) = true from decide_eq_true (by omega)]
theorem shard_length (h : Hd) (hs : h.st.length = 8) (l : List (List UInt8)) (hl : l.map List.length = h.lens) : (shardBytes h l).length = h.len := by
  unfold shardBytes Hd.len
  rw [List.length_append, Hd.head_length h hs, frames_length, hl]
theorem shard_cut (h : Hd) (hs : h.st.length = 8) (hm : h.may = 0) (l : List (List UInt8)) (hl : l.map List.length = h.lens) : cutOf (shardBytes h l) = l.map (·, true) := by
  have f := Hd.fit_of hm
  have f4 := f.key
  unfold cutOf shardBytes
  rw [Hd.ofB_head h hs f, List.drop_left' (Hd.head_length h hs), ← hl]
  exact cutB_frames _ _ _
theorem shard_parse (h : Hd) (hs : h.st.length = 8) (hm : h.may = 0) (l : List (List UInt8)) (hl : l.map List.length = h.lens) : parseE (shardBytes h l) = 0 ∧ Hd.openE (shardBytes h l) = 0 ∧ Hd.ofB (shardBytes h l) = h := by
  have f := Hd.fit_of hm
  have e1 : Hd.openE (shardBytes h l) = 0 := Hd.openE_head h hs hm _
  have e2 : Hd.ofB (shardBytes h l) = h := Hd.ofB_head h hs f _
  refine ⟨?_, e1, e2⟩
  unfold parseE
  rw [e1, e2, shard_length h hs l hl, if_neg (by decide), if_neg (by omega), if_neg (by omega), shard_cut h hs hm l hl, if_pos (by simp)]
end Go.Proofs.YtcbebefdbdppdaaGreat
namespace Go.Proofs.YtcbebefdbdppdaaGreat
open Go.RowKit Go.Maps
def hdCells (h : Hd) : Array Value := (h.st.map B8 ++ ([.int .i64 h.k, .int .i64 h.m, .int .i64 h.b, strV h.key, .int .i64 h.size, .int .i64 h.idx, .int .i64 h.ep, .int .i64 h.cn] : List Value)).toArray
def hdV (h : Hd) : Value := .agg (hdCells h)
def I64 (n : Int) : Prop := -9223372036854775808 ≤ n ∧ n ≤ 9223372036854775807
structure Hd.Wf (h : Hd) : Prop where
  st : h.st.length = 8
  k : I64 h.k
  m : I64 h.m
  b : I64 h.b
  size : I64 h.size
set_option maxHeartbeats 1000000 in
theorem fmay_any (k m b : Int) (w : World) : Calls Tryz.prog 164 #[.agg #[.int .i64 k, .int .i64 m, .int .i64 b]] w fun e w' => e = .returned (.bool (Hd.shapeOk k m b)) ∧ Below w.heap.size w w' := by
  by_cases g : 1 ≤ m ∧ m ≤ k ∧ k ≤ 255 ∧ k + m ≤ 255 ∧ 1 ≤ b ∧ b ≤ 65536
  · have hs : Hd.shapeOk k m b = true := decide_eq_true g
    rw [hs]
    obtain ⟨h1, h2, h3, h4, h5, h6⟩ := g
    have hw : wrap64 (k + m) = k + m := IntWalk.wrap64_in _ (by omega)
    clear hs
    go_enter Tryz.func164, Tryz.ntmps164
    go_wp2
    go_ret
    exact ⟨rfl, (Below.refl _ w).alloc (Nat.le_refl _) _⟩
  · have hs : Hd.shapeOk k m b = false := decide_eq_false g
    rw [hs]
    clear hs
    rcases (show ¬1 ≤ m ∨ (1 ≤ m ∧ ¬m ≤ k) ∨ (1 ≤ m ∧ m ≤ k ∧ ¬k ≤ 255) ∨ (1 ≤ m ∧ m ≤ k ∧ k ≤ 255 ∧ ¬k + m ≤ 255) ∨ (1 ≤ m ∧ m ≤ k ∧ k ≤ 255 ∧ k + m ≤ 255 ∧ ¬1 ≤ b) ∨ (1 ≤ m ∧ m ≤ k ∧ k ≤ 255 ∧ k + m ≤ 255 ∧ 1 ≤ b ∧ ¬b ≤ 65536) by omega) with h1 | ⟨h1, h2⟩ | ⟨h1, h2, h3⟩ | ⟨h1, h2, h3, h4⟩ | ⟨h1, h2, h3, h4, h5⟩ | ⟨h1, h2, h3, h4, h5, h6⟩ <;> clear g
    · go_enter Tryz.func164, Tryz.ntmps164
      go_wp2
      go_ret
      exact ⟨rfl, (Below.refl _ w).alloc (Nat.le_refl _) _⟩
    · go_enter Tryz.func164, Tryz.ntmps164
      go_wp2
      go_ret
      exact ⟨rfl, (Below.refl _ w).alloc (Nat.le_refl _) _⟩
    · go_enter Tryz.func164, Tryz.ntmps164
      go_wp2
      go_ret
      exact ⟨rfl, (Below.refl _ w).alloc (Nat.le_refl _) _⟩
    · have hw : wrap64 (k + m) = k + m := IntWalk.wrap64_in _ (by omega)
      go_enter Tryz.func164, Tryz.ntmps164
      go_wp2
      go_ret
      exact ⟨rfl, (Below.refl _ w).alloc (Nat.le_refl _) _⟩
    · have hw : wrap64 (k + m) = k + m := IntWalk.wrap64_in _ (by omega)
      go_enter Tryz.func164, Tryz.ntmps164
      go_wp2
      go_ret
      exact ⟨rfl, (Below.refl _ w).alloc (Nat.le_refl _) _⟩
    · have hw : wrap64 (k + m) = k + m := IntWalk.wrap64_in _ (by omega)
      go_enter Tryz.func164, Tryz.ntmps164
      go_wp2
      go_ret
      exact ⟨rfl, (Below.refl _ w).alloc (Nat.le_refl _) _⟩
set_option maxHeartbeats 1000000 in
theorem ffits_any (k m b size : Int) (hok : Hd.shapeOk k m b = true) (w : World) : Calls Tryz.prog 165 #[.agg #[.int .i64 k, .int .i64 m, .int .i64 b], .int .i64 size] w fun e w' => e = .returned (.int .i64 (Hd.fitsE k b size)) ∧ Below w.heap.size w w' := by
  obtain ⟨h1, h2, h3, h4, h5, h6⟩ := of_decide_eq_true hok
  obtain ⟨z, hz⟩ : ∃ z, z = k * b := ⟨_, rfl⟩
  have hz1 : 1 ≤ z := by rw [hz]; exact Int.mul_pos (by omega) (by omega)
  have hz2 : z ≤ 16711680 := by
    rw [hz]
    have := Int.mul_le_mul (show k ≤ 255 by omega) h6 (by omega) (by omega)
    omega
  have hkb : wrap64 (k * b) = z := by rw [← hz]; exact IntWalk.wrap64_in _ (by omega)
  have hE : Hd.fitsE k b size = if size < 0 then 2 else if 1048576 < size ∨ 4096 < (size + z - 1) / z then 3 else 0 := by rw [hz]; rfl
  rw [hE]
  clear hE hok h1 h2 h3 h4 h5 h6
  by_cases g1 : size < 0
  · rw [if_pos g1]
    clear hz hz1 hz2
    go_enter Tryz.func165, Tryz.ntmps165
    go_wp2
    go_ret
    exact ⟨rfl, (Below.refl _ w).alloc (Nat.le_refl _) _⟩
  · rw [if_neg g1]
    by_cases g2 : 1048576 < size
    · rw [if_pos (.inl g2)]
      clear hz hz1 hz2
      go_enter Tryz.func165, Tryz.ntmps165
      go_wp2
      go_ret
      exact ⟨rfl, (Below.refl _ w).alloc (Nat.le_refl _) _⟩
    · have a1 : wrap64 (size + z) = size + z := IntWalk.wrap64_in _ (by omega)
      have a2 : wrap64 (size + z - 1) = size + z - 1 := IntWalk.wrap64_in _ (by omega)
      have a3 : (size + z - 1).tdiv z = (size + z - 1) / z := Int.tdiv_eq_ediv_of_nonneg (by omega)
      have a5 : 0 ≤ (size + z - 1) / z := Int.ediv_nonneg (by omega) (by omega)
      have a6 : (size + z - 1) / z ≤ size + z - 1 := Int.ediv_le_self _ (by omega)
      have a4 : wrap64 ((size + z - 1) / z) = (size + z - 1) / z := IntWalk.wrap64_in _ (by omega)
      have a7 : (z == 0) = false := by simp; omega
      obtain ⟨y, hy⟩ : ∃ y, y = (size + z - 1) / z := ⟨_, rfl⟩
      rw [← hy] at a3 a4 ⊢
      clear a5 a6 hy hz
      by_cases g3 : 4096 < y
      · rw [if_pos (.inr g3)]
        go_enter Tryz.func165, Tryz.ntmps165
        go_wp2
        go_ret
        exact ⟨rfl, (Below.refl _ w).alloc (Nat.le_refl _) _⟩
      · rw [if_neg (by omega)]
        go_enter Tryz.func165, Tryz.ntmps165
        go_wp2
        go_ret
        exact ⟨rfl, (Below.refl _ w).alloc (Nat.le_refl _) _⟩
end Go.Proofs.YtcbebefdbdppdaaGreat

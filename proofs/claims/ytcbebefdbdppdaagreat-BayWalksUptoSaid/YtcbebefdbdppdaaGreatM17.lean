/- frame.length: how many bytes a shard's file has; Length.; A label's bytes: Encode.; frame.first: the first 32 bytes of a shard's file. -/
import Derived.Test.YtcbebefdbdppdaaGreatM16
import Derived.Test.YtcbebefdbdppdaaGreatM13
import Derived.StillTailTactics
import Derived.ArgAppend
namespace Go.Proofs.YtcbebefdbdppdaaGreat
open Go.RowKit Go.Maps
theorem sumL_take (l : List Nat) (k : Nat) (x : Nat) (h : l[k]? = some x) : Hd.sumL (l.take (k + 1)) = Hd.sumL (l.take k) + (x + 4) := by
  induction l generalizing k with
  | nil => cases h
  | cons y l ih =>
    cases k with
    | zero =>
      injection h with h
      subst h
      show y + 4 + 0 = 0 + (y + 4)
      omega
    | succ k =>
      show y + 4 + Hd.sumL (l.take (k + 1)) = y + 4 + Hd.sumL (l.take k) + (x + 4)
      rw [ih k h]; omega
theorem sumL_le (l : List Nat) (k m : Nat) (h : ∀ x ∈ l, x ≤ m) : Hd.sumL (l.take k) ≤ l.length * (m + 4) := by
  induction l generalizing k with
  | nil => rw [List.take_nil]; exact Nat.zero_le _
  | cons y l ih =>
    have h1 := h y List.mem_cons_self
    rw [List.length_cons, Nat.succ_mul]
    cases k with
    | zero => exact Nat.zero_le _
    | succ k =>
      have h2 := ih k fun x hx => h x (List.mem_cons_of_mem _ hx)
      show y + 4 + Hd.sumL (l.take k) ≤ _
      omega
structure Nums (h : Hd) (K M B S I E C : Nat) : Prop where
  k : h.k = (K : Int)
  m : h.m = (M : Int)
  b : h.b = (B : Int)
  size : h.size = (S : Int)
  idx : h.idx = (I : Int)
  ep : h.ep = (E : Int)
  cn : h.cn = (C : Int)
  hK : 1 ≤ K ∧ K ≤ 255
  hM : 1 ≤ M ∧ M ≤ 255
  hB : 1 ≤ B ∧ B ≤ 65536
  hS : S ≤ 1048576
  hI : I ≤ 255
  hE : 1 ≤ E ∧ E ≤ 4294967295
  hC : 1 ≤ C ∧ C ≤ 4294967295
  hN : (S + K * B - 1) / (K * B) ≤ 4096
  lens : h.lens = Hd.lensN K B S
theorem Hd.Fit.nums {h : Hd} (f : h.Fit) : ∃ K M B S I E C, Nums h K M B S I E C := by
  have f1 := f.m; have f2 := f.k; have f3 := f.b; have f5 := f.size; have f7 := f.idx; have f8 := f.ep; have f9 := f.cn
  obtain ⟨K, hK⟩ : ∃ K : Nat, h.k = (K : Int) := ⟨h.k.toNat, by omega⟩
  obtain ⟨M, hM⟩ : ∃ K : Nat, h.m = (K : Int) := ⟨h.m.toNat, by omega⟩
  obtain ⟨B, hB⟩ : ∃ K : Nat, h.b = (K : Int) := ⟨h.b.toNat, by omega⟩
  obtain ⟨S, hS⟩ : ∃ K : Nat, h.size = (K : Int) := ⟨h.size.toNat, by omega⟩
  obtain ⟨I, hI⟩ : ∃ K : Nat, h.idx = (K : Int) := ⟨h.idx.toNat, by omega⟩
  obtain ⟨E, hE⟩ : ∃ K : Nat, h.ep = (K : Int) := ⟨h.ep.toNat, by omega⟩
  obtain ⟨C, hC⟩ : ∃ K : Nat, h.cn = (K : Int) := ⟨h.cn.toNat, by omega⟩
  have hz : 1 ≤ K * B := Nat.mul_pos (by omega) (by omega)
  refine ⟨K, M, B, S, I, E, C, hK, hM, hB, hS, hI, hE, hC, by omega, by omega, by omega, by omega, by omega, by omega, by omega, ?_, ?_⟩
  · have e : (S : Int) + ((K * B : Nat) : Int) - 1 = ((S + K * B - 1 : Nat) : Int) := by omega
    have f6 := f.num
    rw [hK, hB, hS, ← Int.natCast_mul, e, ← Int.natCast_ediv] at f6
    exact Int.ofNat_le.1 f6
  · unfold Hd.lens
    rw [hK, hB, hS]
    simp only [Int.toNat_natCast]
theorem lensN_le {K B S : Nat} (hK : 1 ≤ K) (hB0 : 1 ≤ B) (hB : B ≤ 65536) : ∀ x ∈ Hd.lensN K B S, x ≤ 65536 := by
  intro x hx
  unfold Hd.lensN at hx
  have hr : ∀ {n}, x ∈ List.replicate n B → x ≤ 65536 := fun h => by rw [(List.mem_replicate.1 h).2]; exact hB
  split at hx
  · exact hr hx
  · rename_i h
    rcases List.mem_append.1 hx with h1 | h1
    · exact hr h1
    · rw [List.mem_singleton] at h1
      rw [h1]
      have h2 := Nat.mod_lt S (show 0 < K * B from Nat.mul_pos (by omega) (by omega))
      have h3 : (S % (K * B) + K - 1) / K ≤ B := by
        refine Nat.le_of_lt_succ ((Nat.div_lt_iff_lt_mul (by omega)).2 ?_)
        rw [Nat.succ_mul, Nat.mul_comm B K]
        omega
      omega
theorem lensN_length {K B S : Nat} (hz : 0 < K * B) : (Hd.lensN K B S).length = (S + K * B - 1) / (K * B) := by
  by_cases h : S % (K * B) = 0
  · rw [lens_zero h hz, List.length_replicate]
  · rw [(lens_rest h hz).2, List.length_set, List.length_replicate]
theorem fit_lens {h : Hd} (f : h.Fit) : h.lens.length ≤ 4096 ∧ ∀ x ∈ h.lens, x ≤ 65536 := by
  obtain ⟨K, M, B, S, I, E, C, n⟩ := f.nums
  rw [n.lens]
  have hz : 0 < K * B := Nat.mul_pos (by have := n.hK; omega) (by have := n.hB; omega)
  exact ⟨by rw [lensN_length hz]; exact n.hN, lensN_le n.hK.1 n.hB.1 n.hB.2⟩
theorem sumL_le' (l : List Nat) (m : Nat) (h : ∀ x ∈ l, x ≤ m) : Hd.sumL l ≤ l.length * (m + 4) := by
  have := sumL_le l l.length m h
  rwa [List.take_length] at this
theorem hd_len_le {h : Hd} (f : h.Fit) : h.len ≤ 268500000 := by
  obtain ⟨h1, h2⟩ := fit_lens f
  have h3 := sumL_le' h.lens 65536 h2
  have h4 : h.lens.length * (65536 + 4) ≤ 4096 * (65536 + 4) := Nat.mul_le_mul_right _ h1
  have h5 := f.key
  unfold Hd.len
  omega
set_option maxRecDepth 100000 in
set_option maxHeartbeats 4000000 in
theorem flength_any (h : Hd) (hw : h.st.length = 8) (f : h.Fit) (w : World) : Calls Tryz.prog 121 #[hdV h] w fun e w' => e = .returned (.int .i64 (h.len : Int)) ∧ Below w.heap.size w w' := by
  obtain ⟨a0, a1, a2, a3, a4, a5, a6, a7, hst⟩ := lab_eight hw
  obtain ⟨K, M, B, S, I, E, C, nu⟩ := f.nums
  obtain ⟨hl1, hl2⟩ := fit_lens f
  have HLE : Hid (h.len = 40 + h.key.length + Hd.sumL h.lens) := Lib.hid rfl
  have f4 := f.key
  have HF := Lib.hid (fun W => flens_any K B S (M : Int) nu.hK nu.hB nu.hS nu.hN W)
  rw [← nu.lens] at HF
  have e1 := nu.k; have e2 := nu.m; have e3 := nu.b; have e4 := nu.size
  obtain ⟨s, hs⟩ : ∃ s : ByteArray, s = ⟨h.key.toArray⟩ := ⟨_, rfl⟩
  have hsz : s.size = h.key.length := by rw [hs]; exact size_toBA h.key
  rw [← hsz] at HLE f4
  have HH : Hid (hdV h = .agg #[.int .u8 (a0.toNat : Int), .int .u8 (a1.toNat : Int), .int .u8 (a2.toNat : Int), .int .u8 (a3.toNat : Int), .int .u8 (a4.toNat : Int), .int .u8 (a5.toNat : Int), .int .u8 (a6.toNat : Int), .int .u8 (a7.toNat : Int), .int .i64 (K : Int), .int .i64 (M : Int), .int .i64 (B : Int), .string s, .int .i64 (S : Int), .int .i64 h.idx, .int .i64 h.ep, .int .i64 h.cn]) := Lib.hid (by unfold hdV hdCells strV; rw [hst, e1, e2, e3, e4, hs]; rfl)
  rw [HH.out]
  obtain ⟨L, hL⟩ : ∃ L, L = h.lens := ⟨_, rfl⟩
  rw [← hL] at HF HLE hl1 hl2
  obtain ⟨R, hR⟩ : ∃ R, R = h.len := ⟨_, rfl⟩
  rw [← hR] at HLE ⊢
  obtain ⟨n, hn⟩ : ∃ n, n = L.length := ⟨_, rfl⟩
  have HSL : Hid (∀ k, Hd.sumL (L.take k) ≤ 4096 * 65540) := Lib.hid fun k => Nat.le_trans (sumL_le L k 65536 hl2) (Nat.mul_le_mul_right _ hl1)
  have HST : Hid (∀ k x, L[k]? = some x → Hd.sumL (L.take (k + 1)) = Hd.sumL (L.take k) + (x + 4)) := Lib.hid fun k x => sumL_take L k x
  have HLL : Hid (∀ x ∈ L, x ≤ 65536) := Lib.hid hl2
  have HNL := Lib.hid hn
  rw [← hn] at hl1 HF
  obtain ⟨b1, b2⟩ : wrap64 (36 + (s.size : Int)) = 36 + (s.size : Int) ∧ wrap64 (36 + (s.size : Int) + 4) = 36 + (s.size : Int) + 4 := ⟨w64 (by omega) (by omega), w64 (by omega) (by omega)⟩
  clear hst nu f e1 e2 e3 e4 hs hsz hL hR hn hl2 hw
  go_enter Tryz.func121, Tryz.ntmps121
  go_wp2_with (go_at_call 117; refine (HF.out _).mono ?_; rintro e w1 ⟨v, rfl, ho, hb⟩; obtain ⟨g0, c0, rfl, _⟩ := own_shape ho; have HO := Lib.hid ho; have HB := Lib.hid hb; clear ho hb)
  have HR : Hid (Reads w1 w1.heap.size 1 g0 n (L.map lenV)) := Lib.hid (Reads.of_own HO.out)
  go_loopw [3, 5, 17] (fun s3 _ s17 wr => ∃ k : Nat, k ≤ n ∧ s17 = .int .i64 (k : Int) ∧ s3 = .int .i64 (36 + (s.size : Int) + 4 + (Hd.sumL (L.take k) : Nat)) ∧ wr = w1) (fun _ _ s _ => n - (intOf s).toNat)
  case atStart => exact ⟨0, Nat.zero_le _, rfl, by rw [List.take_zero]; show _ = Value.int .i64 (_ + ((0 : Nat) : Int)); rw [Int.natCast_zero, Int.add_zero], rfl⟩
  case round =>
    obtain ⟨k, hk, rfl, rfl, rfl⟩ := hrel
    clear b1 b2
    have hk0 : (0 : Int) ≤ (k : Int) := Int.natCast_nonneg _
    by_cases hlt : k < n
    · have hk1 : (k : Int) < (n : Int) := by omega
      obtain ⟨ad, u, rfl, _, hu, hc⟩ := HR.out.at_ hlt
      obtain ⟨x, hx⟩ : ∃ x, L[k]? = some x := ⟨_, List.getElem?_eq_getElem (by have := HNL.out; omega)⟩
      have hue : u = .int .i64 (x : Int) := by
        rw [List.getElem?_map, hx] at hu; exact (Option.some.inj hu).symm
      subst hue
      obtain ⟨q, hq⟩ : ∃ q, q = Hd.sumL (L.take k) := ⟨_, rfl⟩
      have hq2 := HST.out k x hx
      rw [← hq] at hq2
      have HQ := Lib.hid hq2
      have hql := HSL.out k
      rw [← hq] at hql ⊢
      have hxl := HLL.out x (List.mem_of_getElem? hx)
      obtain ⟨d1, d2, hk2⟩ : wrap64 ((x : Int) + 4) = (x : Int) + 4 ∧ wrap64 (36 + (s.size : Int) + 4 + (q : Int) + ((x : Int) + 4)) = 36 + (s.size : Int) + 4 + (q : Int) + ((x : Int) + 4) ∧ wrap64 ((k : Int) + 1) = (k : Int) + 1 := ⟨w64b (by omega) (by omega), w64b (by omega) (by omega), w64b (by omega) (by omega)⟩
      clear hu hx hq hq2
      have HK := Lib.hid hlt
      clear hql hxl hl1 f4 hk hlt
      go_wp2_with fail
      go_roundw
      case rel => exact ⟨k + 1, HK.out, by rw [hk2]; rfl, by rw [HQ.out, d2]; congr 1; push_cast; clear d1 d2 hk2; omega, trivial⟩
      case measure => rw [hk2]; clear d1 d2 hk2; simp [intOf]; have := HK.out; omega
    · obtain rfl : k = n := by omega
      have HT : Hid (L.take k = L) := Lib.hid (List.take_of_length_le (by have := HNL.out; omega))
      rw [HT.out]
      go_wp2_with fail
      go_ret
      have h3 : 36 + (s.size : Int) + 4 + (Hd.sumL L : Nat) = (R : Int) := by rw [HLE.out]; push_cast; omega
      exact ⟨by rw [← h3]; rfl, ((Below.refl _ w).alloc (Nat.le_refl _) _).trans (HB.out.mono (by rw [alloc_size]; omega))⟩
theorem headInfo : (Tryz.prog.info? 28).map (·.size) = some 16 := by kernel_rfl
theorem hdCells_size {h : Hd} (hs : h.st.length = 8) : (hdCells h).size = 16 := by
  unfold hdCells
  rw [List.size_toArray, List.length_append, List.length_map, hs]
  rfl
theorem load_head {w : World} {g : Nat} {cs : Array Value} (hg : Blk w g 28 cs) (hl : cs.size = 16) : (loadVar 28 ⟨g, 0, none⟩).run Tryz.prog w = .ok (.agg cs) w :=
  run_loadVar_all 28 hg Tryz.underlying28 headInfo hl
set_option maxHeartbeats 2000000 in
theorem fLength_ok (h : Hd) (hw : h.Wf) (f : h.Fit) (w : World) : Calls Tryz.prog 72 #[hdV h] w fun e w' => e = .returned (.tuple #[.int .i64 (h.len : Int), .int .i64 0]) ∧ Below w.heap.size w w' := by
  have HC := Lib.hid (fun W => fcheck_any h hw W)
  rw [Hd.may_of f] at HC
  have HL := Lib.hid (fun W => flength_any h hw.st f W)
  have hcs := hdCells_size hw.st
  unfold hdV at HC HL ⊢
  obtain ⟨cs, hv⟩ : ∃ cs, cs = hdCells h := ⟨_, rfl⟩
  rw [← hv] at HC HL hcs ⊢
  obtain ⟨R, hR⟩ : ∃ R, R = h.len := ⟨_, rfl⟩
  rw [← hR] at HL ⊢
  have HCS := Lib.hid hcs
  clear hv hw f hR hcs
  go_enter Tryz.func72, Tryz.ntmps72
  go_wp2_with (first
    | (refine wpList_load_at rfl 28 _ rfl ⟨w.heap.size, 0, none⟩ rfl (.agg cs) (load_head (Blk.new w _ _) HCS.out) ?_)
    | (go_at_call 116; refine (HC.out _).mono ?_; rintro e w1 ⟨rfl, hb1⟩; have HK1 := Lib.hid ((Blk.new w 28 cs).below hb1 (by rw [alloc_size]; omega)); have HB1 : Hid (Below w.heap.size w w1) := Lib.hid (((Below.refl _ w).alloc (Nat.le_refl _) _).trans (hb1.mono (by rw [alloc_size]; omega))); clear hb1)
    | (refine wpList_load_at rfl 28 _ rfl ⟨w.heap.size, 0, none⟩ rfl (.agg cs) (load_head HK1.out HCS.out) ?_)
    | (go_at_call 121; refine (HL.out _).mono ?_; rintro e w2 ⟨rfl, hb2⟩; have HB2 : Hid (Below w.heap.size w w2) := Lib.hid (HB1.out.trans (hb2.mono HB1.out.size)); clear hb2))
  go_ret2
  exact ⟨rfl, HB2.out⟩
end Go.Proofs.YtcbebefdbdppdaaGreat
namespace Go.Proofs.YtcbebefdbdppdaaGreat
open Go.RowKit Go.Maps
theorem u8_of {n : Int} (h0 : 0 ≤ n) (h1 : n ≤ 255) : ∃ u : UInt8, n = (u.toNat : Int) := ⟨UInt8.ofNat n.toNat, (u8_back h0 h1).symm⟩
end Go.Proofs.YtcbebefdbdppdaaGreat
namespace Go.Proofs.YtcbebefdbdppdaaGreat
open Go.RowKit Go.Maps
theorem blk_lies {w : World} {g : Nat} {t : TypeId} {cs : Array Value} {xs : List Value} (h : Blk w g t cs) (hx : ∀ (j : Nat) (u : Value), xs[j]? = some u → cs[j]? = some u) : ∀ (j : Nat) (u : Value), xs[j]? = some u → w.cell? ((⟨g, 0, none⟩ : Addr).add j) = some u := fun j u hu => by
  rw [add_plain, Nat.zero_add, h.cell]
  exact hx j u hu
theorem fmark_any (w : World) : Calls Tryz.prog 166 #[] w fun e w' => e = .returned (.agg #[.int .u8 67, .int .u8 82, .int .u8 78, .int .u8 2]) ∧ Below w.heap.size w w' := by
  go_enter Tryz.func166, Tryz.ntmps166
  go_wp2
  refine bodyPost_ret (v := .agg #[.int .u8 67, .int .u8 82, .int .u8 78, .int .u8 2]) (by simp only [results, Tryz.results166]; go_simp) rfl ⟨rfl, ?_⟩
  exact (Below.refl _ w).alloc (Nat.le_refl _) _
set_option maxRecDepth 100000 in
set_option maxHeartbeats 8000000 in
theorem ffirst_any (h : Hd) (hw : h.st.length = 8) (f : h.Fit) (w : World) : Calls Tryz.prog 118 #[hdV h] w fun e w' => ∃ u, e = .returned u ∧ w'.ownsRow w.heap.size 5 1 u 32 (h.fixed.map B8) ∧ Below w.heap.size w w' := by
  obtain ⟨a0, a1, a2, a3, a4, a5, a6, a7, hst⟩ := lab_eight hw
  obtain ⟨K, M, B, S, I, E, C, nu⟩ := f.nums
  have f4 := f.key
  have q1 := nu.hK; have q2 := nu.hM; have q3 := nu.hB; have q4 := nu.hS; have q5 := nu.hI; have q6 := nu.hE; have q7 := nu.hC
  obtain ⟨ku, hku⟩ := u8_of (n := h.k) (by rw [nu.k]; omega) (by rw [nu.k]; omega)
  obtain ⟨mu, hmu⟩ := u8_of (n := h.m) (by rw [nu.m]; omega) (by rw [nu.m]; omega)
  obtain ⟨iu, hiu⟩ := u8_of (n := h.idx) (by rw [nu.idx]; omega) (by rw [nu.idx]; omega)
  obtain ⟨lu, hlu⟩ := u8_of (n := (h.key.length : Int)) (by omega) (by omega)
  have e3 := nu.b; have e4 := nu.size; have e6 := nu.ep; have e7 := nu.cn
  obtain ⟨s, hs⟩ : ∃ s : ByteArray, s = ⟨h.key.toArray⟩ := ⟨_, rfl⟩
  have hsz : (s.size : Int) = (lu.toNat : Int) := by rw [← hlu, hs, size_toBA h.key]
  have HH : Hid (hdV h = .agg #[.int .u8 (a0.toNat : Int), .int .u8 (a1.toNat : Int), .int .u8 (a2.toNat : Int), .int .u8 (a3.toNat : Int), .int .u8 (a4.toNat : Int), .int .u8 (a5.toNat : Int), .int .u8 (a6.toNat : Int), .int .u8 (a7.toNat : Int), .int .i64 (ku.toNat : Int), .int .i64 (mu.toNat : Int), .int .i64 (B : Int), .string s, .int .i64 (S : Int), .int .i64 (iu.toNat : Int), .int .i64 (E : Int), .int .i64 (C : Int)]) := Lib.hid (by unfold hdV hdCells strV; rw [hst, hku, hmu, e3, e4, hiu, e6, e7, hs]; rfl)
  rw [HH.out]
  have HX : Hid (h.fixed = [67, 82, 78, 2, a0, a1, a2, a3, a4, a5, a6, a7, ku, mu] ++ leN B 4 ++ leN S 4 ++ [iu] ++ leN E 4 ++ leN C 4 ++ [lu]) := Lib.hid (by
    have hl : UInt8.ofNat h.key.length = lu := by
      have : h.key.length = lu.toNat := by omega
      rw [this, UInt8.ofNat_toNat]
    unfold Hd.fixed Hd.magic
    rw [hst, hku, hmu, e3, e4, hiu, e6, e7, hl]
    simp only [Int.toNat_natCast, UInt8.ofNat_toNat]
    rfl)
  obtain ⟨R, hR⟩ : ∃ R, R = h.fixed := ⟨_, rfl⟩
  rw [← hR] at HX ⊢
  have ck : (ku.toNat : Int) % 256 = (ku.toNat : Int) := by have := ku.toNat_lt; omega
  have cm : (mu.toNat : Int) % 256 = (mu.toNat : Int) := by have := mu.toNat_lt; omega
  have ci : (iu.toNat : Int) % 256 = (iu.toNat : Int) := by have := iu.toNat_lt; omega
  have cl : (s.size : Int) % 256 = (lu.toNat : Int) := by have := lu.toNat_lt; omega
  have cb : (B : Int) % 4294967296 = (B : Int) := by omega
  have cs : (S : Int) % 4294967296 = (S : Int) := by omega
  have ce : (E : Int) % 4294967296 = (E : Int) := by omega
  have cc : (C : Int) % 4294967296 = (C : Int) := by omega
  have HBN : Hid (B < 4294967296 ∧ S < 4294967296 ∧ E < 4294967296 ∧ C < 4294967296) := Lib.hid (by omega)
  clear hw f nu q1 q2 q3 q4 q5 q6 q7 hku hmu hiu hlu e3 e4 e6 e7 hs hsz hst hR f4
  obtain ⟨i5, hi5, hz0, hz1, hz2⟩ := info_parts byteInfo
  go_enter Tryz.func118, Tryz.ntmps118
  go_wp2_with (go_at_call 166; refine (fmark_any _).mono ?_; rintro e w2 ⟨rfl, hb2⟩; have HB2 := Lib.hid hb2; clear hb2)
  refine wp_world fun X hX => ?_
  have HG : Hid (Blk X w2.heap.size 253 #[.int .u8 67, .int .u8 82, .int .u8 78, .int .u8 2]) := Lib.hid (by rw [hX]; exact Blk.new _ _ _)
  have h13 := HB2.out.size
  rw [alloc_size] at h13
  have HLB : Hid (Blk X w.heap.size 28 #[.int .u8 (a0.toNat : Int), .int .u8 (a1.toNat : Int), .int .u8 (a2.toNat : Int), .int .u8 (a3.toNat : Int), .int .u8 (a4.toNat : Int), .int .u8 (a5.toNat : Int), .int .u8 (a6.toNat : Int), .int .u8 (a7.toNat : Int), .int .i64 (ku.toNat : Int), .int .i64 (mu.toNat : Int), .int .i64 (B : Int), .string s, .int .i64 (S : Int), .int .i64 (iu.toNat : Int), .int .i64 (E : Int), .int .i64 (C : Int)]) := Lib.hid (by
    rw [hX]
    exact ((Blk.new w _ _).below HB2.out (by rw [alloc_size]; omega)).alloc _)
  have HWX : Hid (Below w.heap.size w X) := Lib.hid (by
    rw [hX]
    exact (((Below.refl _ w).alloc (Nat.le_refl _) _).trans (HB2.out.mono (by rw [alloc_size]; omega))).alloc (by omega) _)
  have hwx : w.heap.size < X.heap.size := HLB.out.lt
  have hgx : w2.heap.size < X.heap.size := HG.out.lt
  clear hX
  go_still_tail 3, (by kernel_rfl)
  change wpList _ _ _ _ _ X.drew
  have HXD : Hid (Below X.heap.size X X.drew) := Lib.hid (below_drew1 (Below.refl _ X))
  have HG2 : Hid (Blk X.drew w2.heap.size 253 #[.int .u8 67, .int .u8 82, .int .u8 78, .int .u8 2]) := Lib.hid HG.out.drew
  have HLB2 : Hid (Blk X.drew w.heap.size 28 #[.int .u8 (a0.toNat : Int), .int .u8 (a1.toNat : Int), .int .u8 (a2.toNat : Int), .int .u8 (a3.toNat : Int), .int .u8 (a4.toNat : Int), .int .u8 (a5.toNat : Int), .int .u8 (a6.toNat : Int), .int .u8 (a7.toNat : Int), .int .i64 (ku.toNat : Int), .int .i64 (mu.toNat : Int), .int .i64 (B : Int), .string s, .int .i64 (S : Int), .int .i64 (iu.toNat : Int), .int .i64 (E : Int), .int .i64 (C : Int)]) := Lib.hid HLB.out.drew
  have hxs : X.drew.heap.size = X.heap.size := rfl
  obtain ⟨D, hD⟩ : ∃ D, D = X.drew := ⟨_, rfl⟩
  rw [← hD] at HXD HG2 HLB2 hxs ⊢
  clear hD
  refine wpList_append_grows _ rfl _ _ 46 rfl 5 i5 _ 1 1 Tryz.underlying46 hi5 hz0 hz1 hz2 rfl (by decide) (some ⟨w2.heap.size, 0, none⟩) 4 4 [.int .u8 67, .int .u8 82, .int .u8 78, .int .u8 2] rfl (by intro h; cases h) rfl (fun b hb => by injection hb with hb; subst hb; exact blk_lies HG2.out fun j u hu => by rw [← hu]; exact (Array.getElem?_toList).symm) ⟨w.heap.size, 0, none⟩ 8 8 [.int .u8 (a0.toNat : Int), .int .u8 (a1.toNat : Int), .int .u8 (a2.toNat : Int), .int .u8 (a3.toNat : Int), .int .u8 (a4.toNat : Int), .int .u8 (a5.toNat : Int), .int .u8 (a6.toNat : Int), .int .u8 (a7.toNat : Int)] rfl rfl (blk_lies HLB2.out fun j u hu => ?_) (by intro u hu; simp at hu; rcases hu with rfl | rfl | rfl | rfl | rfl | rfl | rfl | rfl <;> rfl) (by decide) (by decide) (by decide) ?_
  · match j, hu with
    | 0, hu | 1, hu | 2, hu | 3, hu | 4, hu | 5, hu | 6, hu | 7, hu => exact hu
    | j + 8, hu => cases hu
  intro v3 w3 hown3 hg3
  obtain ⟨e3, c3, rfl, _⟩ := own_shape hown3
  have HO3 : Hid (w3.ownsRow X.heap.size 5 1 (.slice e3 12 c3) 12 (([67, 82, 78, 2, a0, a1, a2, a3, a4, a5, a6, a7] : List UInt8).map B8)) := Lib.hid (by rw [← hxs]; exact hown3)
  have HB3 : Hid (Below X.heap.size X w3) := Lib.hid (HXD.out.grown hg3 (Nat.le_of_eq hxs.symm) (fun i hi => by cases hi))
  have h3 := HB3.out.size
  clear hown3 hg3 HXD HG2 HLB2 hxs
  have y8 : w3.cell? ⟨w.heap.size, 8, none⟩ = some (.int .i64 (ku.toNat : Int)) := (HB3.out.cell (p := ⟨w.heap.size, 8, none⟩) hwx).trans (HLB.out.cell 8)
  have y9 : w3.cell? ⟨w.heap.size, 9, none⟩ = some (.int .i64 (mu.toNat : Int)) := (HB3.out.cell (p := ⟨w.heap.size, 9, none⟩) hwx).trans (HLB.out.cell 9)
  go_wp2_with (at_builtin; (refine wpList_append_any _ rfl _ _ 46 rfl X.heap.size 5 i5 _ 1 1 Tryz.underlying46 hi5 hz0 hz1 hz2 rfl (by omega) (.slice e3 12 c3) 12 _ rfl (HO3.out.alloc _) (w3.heap.size + 1) (some ⟨w3.heap.size, 0, none⟩) 2 2 [.int .u8 (ku.toNat : Int), .int .u8 (mu.toNat : Int)] rfl (reads_blk (t := 5) (blk_last _ _ _ _ rfl) (by omega) rfl) (by intro u hu; simp at hu; rcases hu with rfl | rfl <;> rfl) (by decide) (by decide) (by rw [alloc_size]; omega) ?_); intro v4 w4 hown4 hg4 hat4; obtain ⟨e4, c4, hv4, _⟩ := own_shape hown4; subst hv4; have HO4 := Lib.hid hown4; have HB4 := Lib.hid ((HB3.out.alloc h3 _).grown hg4 (by rw [alloc_size]; omega) (fun i hi => (HO3.out.lt i hi).1)); have h4 := HB4.out.size; have y4 : w4.cell? ⟨w.heap.size, 10, none⟩ = some (.int .i64 (B : Int)) := (HB4.out.cell (p := ⟨w.heap.size, 10, none⟩) hwx).trans (HLB.out.cell 10); clear hown4 hg4 hat4)
  clear y8 y9
  have HO4' : Hid (w4.ownsRow X.heap.size 5 1 (.slice e4 14 c4) 14 ((([67, 82, 78, 2, a0, a1, a2, a3, a4, a5, a6, a7, ku, mu] : List UInt8)).map B8)) := Lib.hid HO4.out
  clear HO4
  have HO4 := HO4'
  clear HO4'
  refine (put32_any e4 14 c4 (([67, 82, 78, 2, a0, a1, a2, a3, a4, a5, a6, a7, ku, mu] : List UInt8)) B w4 _ (Reads.of_own HO4.out) HBN.out.1 (by omega)).mono ?_
  rintro e w5 ⟨u5, rfl, ho5, hb5⟩
  obtain ⟨e5, c5, rfl, _⟩ := own_shape ho5
  have HO5 : Hid (w5.ownsRow X.heap.size 5 1 (.slice e5 18 c5) 18 ((([67, 82, 78, 2, a0, a1, a2, a3, a4, a5, a6, a7, ku, mu] : List UInt8) ++ leN B 4).map B8)) := Lib.hid (ownsRow_base_a ho5 h4)
  have HB5 : Hid (Below X.heap.size X w5) := Lib.hid (HB4.out.trans (hb5.mono h4))
  have h5 := HB5.out.size
  have y5 : w5.cell? ⟨w.heap.size, 12, none⟩ = some (.int .i64 (S : Int)) := (HB5.out.cell (p := ⟨w.heap.size, 12, none⟩) hwx).trans (HLB.out.cell 12)
  clear ho5 hb5
  go_wp2_with fail
  refine (put32_any e5 18 c5 (([67, 82, 78, 2, a0, a1, a2, a3, a4, a5, a6, a7, ku, mu] : List UInt8) ++ leN B 4) S w5 _ (Reads.of_own HO5.out) HBN.out.2.1 (by omega)).mono ?_
  rintro e w6 ⟨u6, rfl, ho6, hb6⟩
  obtain ⟨e6, c6, rfl, _⟩ := own_shape ho6
  have HO6 : Hid (w6.ownsRow X.heap.size 5 1 (.slice e6 22 c6) 22 ((([67, 82, 78, 2, a0, a1, a2, a3, a4, a5, a6, a7, ku, mu] : List UInt8) ++ leN B 4 ++ leN S 4).map B8)) := Lib.hid (ownsRow_base_a ho6 h5)
  have HB6 : Hid (Below X.heap.size X w6) := Lib.hid (HB5.out.trans (hb6.mono h5))
  have h6 := HB6.out.size
  have y6 : w6.cell? ⟨w.heap.size, 13, none⟩ = some (.int .i64 (iu.toNat : Int)) := (HB6.out.cell (p := ⟨w.heap.size, 13, none⟩) hwx).trans (HLB.out.cell 13)
  clear ho6 hb6
  go_wp2_with (at_builtin; (refine wpList_append_any _ rfl _ _ 46 rfl X.heap.size 5 i5 _ 1 1 Tryz.underlying46 hi5 hz0 hz1 hz2 rfl (by omega) (.slice e6 22 c6) 22 _ rfl (HO6.out.alloc _) (w6.heap.size + 1) (some ⟨w6.heap.size, 0, none⟩) 1 1 [.int .u8 (iu.toNat : Int)] rfl (reads_blk (t := 5) (blk_last _ _ _ _ rfl) (by omega) rfl) (by intro u hu; simp at hu; subst hu; rfl) (by decide) (by decide) (by rw [alloc_size]; omega) ?_); intro v7 w7 hown7 hg7 hat7; obtain ⟨e7, c7, hv7, _⟩ := own_shape hown7; subst hv7; have HO7 := Lib.hid hown7; have HB7 := Lib.hid ((HB6.out.alloc h6 _).grown hg7 (by rw [alloc_size]; omega) (fun i hi => (HO6.out.lt i hi).1)); have h7 := HB7.out.size; have y7 : w7.cell? ⟨w.heap.size, 14, none⟩ = some (.int .i64 (E : Int)) := (HB7.out.cell (p := ⟨w.heap.size, 14, none⟩) hwx).trans (HLB.out.cell 14); clear hown7 hg7 hat7)
  have HO7' : Hid (w7.ownsRow X.heap.size 5 1 (.slice e7 23 c7) 23 ((([67, 82, 78, 2, a0, a1, a2, a3, a4, a5, a6, a7, ku, mu] : List UInt8) ++ leN B 4 ++ leN S 4 ++ [iu]).map B8)) := Lib.hid (by rw [List.map_append]; exact HO7.out)
  clear HO7
  have HO7 := HO7'
  clear HO7'
  refine (put32_any e7 23 c7 (([67, 82, 78, 2, a0, a1, a2, a3, a4, a5, a6, a7, ku, mu] : List UInt8) ++ leN B 4 ++ leN S 4 ++ [iu]) E w7 _ (Reads.of_own HO7.out) HBN.out.2.2.1 (by omega)).mono ?_
  rintro e w8 ⟨u8, rfl, ho8, hb8⟩
  obtain ⟨e8, c8, rfl, _⟩ := own_shape ho8
  have HO8 : Hid (w8.ownsRow X.heap.size 5 1 (.slice e8 27 c8) 27 ((([67, 82, 78, 2, a0, a1, a2, a3, a4, a5, a6, a7, ku, mu] : List UInt8) ++ leN B 4 ++ leN S 4 ++ [iu] ++ leN E 4).map B8)) := Lib.hid (ownsRow_base_a ho8 h7)
  have HB8 : Hid (Below X.heap.size X w8) := Lib.hid (HB7.out.trans (hb8.mono h7))
  have h8 := HB8.out.size
  have y8 : w8.cell? ⟨w.heap.size, 15, none⟩ = some (.int .i64 (C : Int)) := (HB8.out.cell (p := ⟨w.heap.size, 15, none⟩) hwx).trans (HLB.out.cell 15)
  clear ho8 hb8
  go_wp2_with fail
  refine (put32_any e8 27 c8 (([67, 82, 78, 2, a0, a1, a2, a3, a4, a5, a6, a7, ku, mu] : List UInt8) ++ leN B 4 ++ leN S 4 ++ [iu] ++ leN E 4) C w8 _ (Reads.of_own HO8.out) HBN.out.2.2.2 (by omega)).mono ?_
  rintro e w9 ⟨u9, rfl, ho9, hb9⟩
  obtain ⟨e9, c9, rfl, _⟩ := own_shape ho9
  have HO9 : Hid (w9.ownsRow X.heap.size 5 1 (.slice e9 31 c9) 31 ((([67, 82, 78, 2, a0, a1, a2, a3, a4, a5, a6, a7, ku, mu] : List UInt8) ++ leN B 4 ++ leN S 4 ++ [iu] ++ leN E 4 ++ leN C 4).map B8)) := Lib.hid (ownsRow_base_a ho9 h8)
  have HB9 : Hid (Below X.heap.size X w9) := Lib.hid (HB8.out.trans (hb9.mono h8))
  have h9 := HB9.out.size
  have y9 : w9.cell? ⟨w.heap.size, 11, none⟩ = some (.string s) := (HB9.out.cell (p := ⟨w.heap.size, 11, none⟩) hwx).trans (HLB.out.cell 11)
  clear ho9 hb9
  go_wp2_with (at_builtin; (refine wpList_append_any _ rfl _ _ 46 rfl X.heap.size 5 i5 _ 1 1 Tryz.underlying46 hi5 hz0 hz1 hz2 rfl (by omega) (.slice e9 31 c9) 31 _ rfl (HO9.out.alloc _) (w9.heap.size + 1) (some ⟨w9.heap.size, 0, none⟩) 1 1 [.int .u8 (lu.toNat : Int)] rfl (reads_blk (t := 5) (blk_last _ _ _ _ rfl) (by omega) rfl) (by intro u hu; simp at hu; subst hu; rfl) (by decide) (by decide) (by rw [alloc_size]; omega) ?_); intro v10 w10 hown10 hg10 hat10; obtain ⟨e10, c10, hv10, _⟩ := own_shape hown10; subst hv10; have HO10 := Lib.hid hown10; have HB10 := Lib.hid ((HB9.out.alloc h9 _).grown hg10 (by rw [alloc_size]; omega) (fun i hi => (HO9.out.lt i hi).1)); have h10 := HB10.out.size; clear hown10 hg10 hat10)
  go_ret
  refine ⟨_, rfl, ?_, HWX.out.trans (HB10.out.mono (Nat.le_of_lt hwx))⟩
  rw [HX.out, List.map_append]
  exact ownsRow_base_a HO10.out (Nat.le_of_lt hwx)
end Go.Proofs.YtcbebefdbdppdaaGreat
